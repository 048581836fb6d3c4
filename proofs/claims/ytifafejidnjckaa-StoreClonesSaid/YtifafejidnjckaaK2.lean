/- Part of the proof: ROps5, ROps6, ROps7, RFrzV, ROpAll, RFrz, RCode. -/
import Derived.Test.YtifafejidnjckaaK1
import Derived.MapKept
import Derived.Laws.CopyRow
import Derived.Laws.BytesArg
import Derived.Laws.IdiomStrings
import Derived.Tactics
set_option linter.unusedVariables false
set_option linter.unusedSimpArgs false
set_option maxRecDepth 100000
open Array renaming getElem?_eq_some_iff → VZ, getElem?_setIfInBounds → Wo, length_toList → Wq, getElem?_modify → Ws, ext' → W2
open Bool renaming and_eq_true → Vu, false_eq_true → VB, not_true → Wn, not_eq_true' → Ww, true_and → WZ
open List renaming getElem?_eq_some_iff → Vy, length_set → VC, all_eq_true → VK, mem_cons → VS, map_cons → VU, getElem?_eq_none → V1, eq_nil_of_length_eq_zero → V3, take_of_length_le → V4, mem_map → V8, all_cons → Wf, ext_getElem? → WQ, getElem?_set → WR
open Nat renaming le_refl → Vv, zero_add → VO, beq → V5, le_succ → Wy, lt_succ_of_lt → WC, min_eq_left → WL
open Option renaming bind_eq_some_iff → Vp, bind_some → Vq, map_eq_some_iff → Vr, map_some → Vw, isSome_iff_exists → V0, getD_some → Wl
open Option.some renaming injEq → Vt
open Prod.mk renaming injEq → Vz
namespace Go.R
open Go
section
variable {P:Program}{L0:Nat→Prop}{c0:Cx}{n:Nat}{ds:List Nat}{o:Oper}{s:RS}
theorem Fr.uV {c:Cx}{Lo:Nat→Prop}{lam:Nat→Nat}{a:Act}(f:Fr L0 c Lo lam ds s a)(hbs:c.base≤c.w.heap.size){id:Nat}{es p6:List (AV × AV)}(ho:c.h.get id=some (.map es)){kK qg:Array MapEntry}{clock nM:Nat}
  (hb:c.w.heap[(c.β id).1]? = some (.map kK clock)) (he:kJ c (un L0 Lo) p6 qg.toList) :
  Ext c Lo ⟨c.β,s.h.put id (.map p6),{c.w with heap:=c.w.heap.setIfInBounds (c.β id).1 (.map qg nM)},c.base⟩ Lo∧
   Fr L0 ⟨c.β,s.h.put id (.map p6),{c.w with heap:=c.w.heap.setIfInBounds (c.β id).1 (.map qg nM)},c.base⟩ Lo lam ds {s with h:=s.h.put id (.map p6)} a:=by
 have hl:Live c.h id:=⟨f.rel.lt _ _ ho,by simp [ho]⟩
 have hlt:(c.β id).1<c.w.heap.size:=(VZ.1 hb).1
 have hne:∀b,b≠(c.β id).1→({c.w with heap:=c.w.heap.setIfInBounds (c.β id).1 (.map qg nM)}:World).heap[b]? = c.w.heap[b]?:=by
  intro b hb
  simp only [Wo]
  rw [if_neg (Ne.symm hb)]
 rw [←f.h]
 refine f.upd (β':=c.β) (h':=c.h.put id (.map p6)) id (.map p6) (Steady.put _ _ _) (WC hl.1) (by simp [AHeap.put,beq_nat])
  (fun kn h1=>.inr ⟨by simp [AHeap.put,beq_nat,h1],rfl⟩) (fun _=>⟨hl,rfl⟩) (.inr ⟨id,hl,rfl,.inl rfl⟩) (fun _=>?_)
  (fun b _ h1=>hne b h1) (fun b _ h1=>hne b h1) (by simp) hbs rfl rfl rfl (fun e=>⟨qg,nM,by simp [hlt],he.ext e⟩)
 simp only [Cx.len,World.shape?,hb,Wo,hlt,if_true]
theorem uW {x y:AV}(hs:sameShape x y=true)(hq:fC x y=true):x=y:=by
 cases x<;>cases y<;>simp only [sameShape] at hs<;>try (cases hs; done)
 ·simp only [fC,iP,Vu,beq_iff_eq] at hq
  obtain⟨rfl,rfl⟩:=hq
  rfl
 ·rename_i a b
  simp only [fC,iP,beq_iff_eq] at hq
  congr 1
  cases a; cases b
  congr 1
  exact Array.toList_inj.1 hq
 ·rename_i xs ys
  simp only [Vu,beq_iff_eq] at hs
  obtain⟨⟨_,hx⟩,hy⟩:=hs
  obtain⟨ns,rfl⟩:=gY hx
  obtain⟨ms,rfl⟩:=gY hy
  simp only [fC,kg,decide_eq_true_eq] at hq
  rw [hq]
theorem nz:∀ns:List Int,iN (ns.map fun n=>AV.int .i64 n)=some (ns.map fun n=>Value.int .i64 n)
 | []=>rfl
 | n::ns=>by simp [iN,AV.gj,nz ns]
theorem yX {t:TypeId}{k:AV}(h:gk P t k=true):∃u,k.yE=some u∧Instr.sameBits 10000 u u=true:=by
 unfold gk at h
 have KM:∀cs:List AV,cs.all kb=true→∃u,(AV.agg cs).yE=some u∧Instr.sameBits 10000 u u=true:=by
  intro cs hcs
  obtain⟨ns,rfl⟩:=gY hcs
  refine⟨.agg (ns.map fun n=>Value.int .i64 n).toArray,by simp [AV.yE,nz],?_⟩
  simp only [Instr.sameBits,beq_self_eq_true,WZ,VK]
  intro p hp
  have:∀(l:List Value),(∀v∈l,∃m,v=Value.int .i64 m)→∀p∈l.zip l,Instr.sameBits 9999 p.1 p.2=true:=by
   clear hp p
   intro l hl p hp
   have h1:p.1=p.2∧p.1∈l:=by
    clear hl
    induction l with
    | nil=>cases hp
    | cons v l ih=>
     simp only [List.zip_cons_cons,VS] at hp
     rcases hp with rfl | hp
     ·exact⟨rfl,by simp⟩
     ·obtain⟨h1,h2⟩:=ih hp; exact⟨h1,by simp [h2]⟩
   obtain⟨h1,h2⟩:=h1
   obtain⟨m,hm⟩:=hl _ h2
   rw [←h1,hm]
   simp [Instr.sameBits]
  exact this (ns.map fun n=>Value.int .i64 n) (fun v hv=>by obtain⟨m,_,rfl⟩:=V8.1 hv; exact⟨m,rfl⟩) p (by simpa using hp)
 split at h
 ·exact⟨_,rfl,by simp [Instr.sameBits]⟩
 ·exact⟨_,rfl,by simp [Instr.sameBits,tP]⟩
 ·simp only [Vu] at h; exact KM _ h.1.1.2
 ·simp only [Vu] at h; exact KM _ h.1.1.2
 ·cases h
theorem r8 {c:Cx}{L:Nat→Prop}{k v:AV}{kv vv:Value}(hc:k.yE.isSome=true)(hk:VR c L k kv)(hv:VR c L v vv) :
  ∀(es p6:List (AV × AV)) (ms:List MapEntry) (i:Nat),kJ c L es ms→uJ k v es=some p6→
   iB k es≠none∧(place k es ms i=none∧(∀b,kJ c L p6 (ms++[{key:=kv,val:=vv,born:=b}]))∨
    ∃j u m,place k es ms i=some (i+j,u)∧ms[j]? = some m∧m.key=kv∧kJ c L p6 (ms.modify j fun e=>{e with key:=kv,val:=vv}))
 | [],p6,[],i,_,h=>by
  simp only [uJ,Vt] at h
  subst h
  exact⟨by simp [iB],.inl ⟨rfl,fun b=>⟨⟨hk,hc⟩,hv,trivial⟩⟩⟩
 | (k',v')::es,p6,m::ms,i,he,h=>by
  obtain⟨⟨Dn,Ql⟩,zR,tg⟩:=he
  simp only [uJ] at h
  split at h
  rotate_left
  ·cases h
  rename_i hs
  split at h
  ·rename_i hq
   cases h
   have wE:k=k':=uW hs hq
   obtain⟨u,hu⟩:=V0.1 hc
   refine⟨by simp [iB,hs,hq],.inr ⟨0,m.val,m,by simp [place,hq],rfl,?_,?_⟩⟩
   ·subst wE
    rw [uQ hu hk,uQ hu Dn]
   ·exact⟨⟨hk,hc⟩,hv,tg⟩
  ·rename_i hq
   rw [Vr] at h
   obtain⟨Sv,h1,rfl⟩:=h
   obtain⟨h2,h3⟩:=r8 hc hk hv es Sv ms (i+1) tg h1
   refine⟨by simp [iB,hs,hq,h2],?_⟩
   have uX:fC k k'=false:=by simpa using hq
   rcases h3 with⟨h3,h4⟩| ⟨j,u,m',h3,h4,h5,h6⟩
   ·exact .inl ⟨by simp [place,uX,h3],fun b=>⟨⟨Dn,Ql⟩,zR,h4 b⟩⟩
   ·exact .inr ⟨j+1,u,m',by simp [place,uX,h3]; omega,by simpa using h4,h5,⟨⟨Dn,Ql⟩,zR,h6⟩⟩
 | [],_,_::_,_,h,_=>h.elim
 | _::_,_,[],_,h,_=>h.elim
theorem r9 {x:AV}(h:x.kF=true):∀k off,x≠.lp k off:=by rintro k off rfl; simp [AV.kF] at h
theorem tq {c:Cx}{Lo:Nat→Prop}{lam:Nat→Nat}{a:Act}(f:Fr L0 c Lo lam ds s a)(hbs:c.base≤c.w.heap.size){t:TypeId}{m k x:AV}{mv kv xv:Value}(hm:SR c L0 Lo lam s.bx m mv)(hk:SR c L0 Lo lam s.bx k kv)(hx:SR c L0 Lo lam s.bx x xv){h':AHeap}
  (h:iC P s.h t m k x=some h'):∃c',(Instr.mapUpdate t mv kv xv).run P c.w = .ok () c'.w∧Ext c Lo c' Lo∧Fr L0 c' Lo lam ds {s with h:=h'} a:=by
 unfold iC at h
 rw [Vp] at h
 obtain⟨d,hd,h⟩:=h
 cases d<;>simp only at h<;>try (cases h; done)
 rename_i kt et
 split at h
 ·cases h
 rename_i jN
 obtain⟨tl,hargs⟩:gk P kt k=true∧x.kF=true:=by
  cases h1:gk P kt k<;>cases h2:x.kF<;>simp [h1,h2] at jN ⊢
 have wF:VR c (un L0 Lo) k kv:=hk.vr (by rintro k0 off rfl; simp [gk] at tl)
 have Sw:=hx.vr (r9 hargs)
 cases m<;>simp only at h<;>try (cases h; done)
 rename_i id
 rw [Vp] at h
 obtain⟨ob,ho,h⟩:=h
 cases ob with
 | cells cs=>cases h
 | row t cs=>cases h
 | map es=>
 rw [Vr] at h
 obtain⟨p6,hu,rfl⟩:=h
 simp only [SR,VR] at hm
 obtain⟨hi,r,rfl,hr⟩:=hm
 rw [←f.h] at ho
 have hl:Live c.h id:=⟨f.rel.lt _ _ ho,by simp [ho]⟩
 have Nk:=hr hl
 subst Nk
 obtain⟨kK,clock,h1,h2⟩:=f.rel.obj _ _ ho
 obtain⟨u0,HD,Sx⟩:=yX tl
 obtain⟨hf,hp⟩:=r8 (by simp [HD]) wF Sw es p6 kK.toList 0 h2 hu
 have Dp:=tQ tl wF c.w h2 hf
 have Ih:=nv (P:=P) false 9998 tl wF c.w
 have hget:(getObj (c.β id).1).run P c.w = .ok (.map kK clock) c.w:=MapKept.run_getObj_map h1
 rcases hp with⟨hp,rT⟩| ⟨j,u,m,hp,hj,hmk,rT⟩
 ·obtain⟨e',f'⟩:=f.uV hbs ho h1 (qg:=kK.push {key:=kv,val:=xv,born:=clock}) (nM:=clock+1) (p6:=p6) (by simpa using rT clock)
  refine⟨_,?_,e',f'⟩
  unfold Instr.mapUpdate
  rw [hp] at Dp
  simp only [Sem.run_bind,bo hd,Result.andThen_ok,hget,Ih,Dp]
  exact MapKept.run_setObj_map _ h1
 ·obtain⟨e',f'⟩:=f.uV hbs ho h1 (qg:=kK.modify j fun e=>{e with key:=kv,val:=xv}) (nM:=clock) (p6:=p6) (by simpa using rT)
  refine⟨_,?_,e',f'⟩
  unfold Instr.mapUpdate
  rw [hp,VO] at Dp
  have yx:kK[j]? = some m:=by simpa using hj
  have Gm:(Instr.keyThatStays m.key kv).run P c.w = .ok kv c.w:=by
   rw [hmk]
   unfold Instr.keyThatStays
   rw [uQ HD wF,Sx]
   rfl
  simp only [Sem.run_bind,bo hd,Result.andThen_ok,hget,Ih,Dp,yx,Vw,Wl,Gm]
  exact MapKept.run_setObj_map _ h1
theorem ox (hb0:c0.base≤c0.w.heap.size){t:TypeId}{m k x:Operand}(ho:o.op = .mapUpdate t m k x∨o.op = .insert t m k x)(qF:o.dst=none){h':AHeap}
  (h:iC P s.h t (bL s.ρ m) (bL s.ρ k) (bL s.ρ x)=some h'):jc P L0 c0 n ds o s {s with h:=h'}:=by
 rintro a w K Q ⟨hn,c,Lo,lam,rfl,f,e⟩ hK
 obtain⟨c',hr,e',f'⟩:=tq f (ja e hb0) (bE f m) (bE f k) (bE f x) h
 unfold Oper.wp
 have:(execOp a.eval o).run P c.w = .ok .skip c'.w:=by rcases ho with ho | ho<;>simp [execOp,ho,hr]
 rw [this,Oper.upon_skip]
 have Im:a.put o.dst undef=a:=by rw [qF]; rfl
 rw [Im]
 exact hK _ _ ⟨hn,c',Lo,lam,rfl,f',e.trans e'⟩
theorem DA (hb0:c0.base≤c0.w.heap.size)(hd:gp n ds o){t:TypeId}{x:Operand}(ho:o.op = .call {callee:=.builtin .clear,args:=#[x],argTypes:=#[t]}){h':AHeap}
  (h:lj P s.h t (bL s.ρ x)=some h'):jc P L0 c0 n ds o s ({s with h:=h'}.set o.dst (.tup [])):=by
 rintro a w K Q ⟨hn,c,Lo,lam,rfl,f,e⟩ hK
 unfold lj at h
 rw [Vp] at h
 obtain⟨d,wK,h⟩:=h
 have hx:=bE f x
 have fin:∀c',(Builtin.clear_ #[t] o.type #[a.eval x]).run P c.w = .ok (.tuple #[]) c'.w→Ext c Lo c' Lo→Fr L0 c' Lo lam ds {s with h:=h'} a→o.wp P a c.w K Q:=by
  intro c' hr e' f'
  unfold Oper.wp
  have:(execOp a.eval o).run P c.w = .ok (.value (.tuple #[])) c'.w:=by
   simp [execOp,ho,resolve,invoke,builtin,hr]
  rw [this,Oper.upon_value]
  exact hK _ _ ⟨(gm _ _ _).trans hn,c',Lo,lam,rfl,f'.set (SR.of (by simp [VR,VRs])) (fun t ht=>by rw [hn]; exact hd t ht),e.trans e'⟩
 cases BY:bL s.ρ x<;>rw [BY] at h hx<;>simp only at h<;>try (cases h; done)
 ·rename_i id off len ij
  simp only [SR,VR] at hx
  split at h
  ·rename_i hl0
   cases h
   obtain⟨ad,cap,qh⟩:∃ad cap,a.eval x = .slice ad 0 cap:=by
    rcases hx with⟨_,_,_,ad,hx⟩| ⟨_,_,ad,cap,hx,_⟩
    ·exact⟨ad,0,hx⟩
    ·exact⟨ad,cap,by rw [hx,hl0]⟩
   refine fin c ?_ (Ext.refl _ _) f
   cases ad<;>cases d<;>simp [Builtin.clear_,bo wK,qh]
  rename_i hl0
  split at h
  ·cases h
  rename_i j5
  cases d<;>simp only at h<;>try (cases h; done)
  rename_i et
  simp only [Vp] at h
  obtain⟨i,hi,z,hz,ob,hob,h⟩:=h
  cases ob with
  | map es=>cases h
  | row t cs=>cases h
  | cells cs=>
  simp only at h
  split at h
  rotate_left
  ·cases h
  rename_i hh
  obtain⟨DB,C5,hz0,Nl,hoff⟩:=hh
  cases h
  rcases hx with hx | ⟨_,hid,ad,cap,hx,hlc,zS,hlive⟩
  ·exact absurd hx.1 j5
  rw [←f.h] at hob
  have hl:Live c.h id:=⟨f.rel.lt _ _ hob,by simp [hob]⟩
  obtain⟨q,hp,hq,hc⟩:=f.rel.obj _ _ hob
  have ha:ad=some ⟨(c.β id).1,(c.β id).2+off,none⟩:=by
   rcases hlive hl with⟨h1,_⟩| h1
   ·exact h1
   ·exact absurd h1 (by omega)
  subst ha
  obtain⟨zv,Dq,yU⟩:=jC hz c.w
  obtain⟨yw,hz1⟩:=iD Nl (ll (c:=c) (L:=un L0 Lo) yU)
  have Nn:=yw.length
  have C6:zv.cells.size=i.size:=by rw [←Wq,←Nn,C5]
  have hnl:(Builtin.zeroCells zv.cells len).toList.length=len*i.size:=by simp [Builtin.zeroCells,C6]
  have hv:VRs c (un L0 Lo) (ik z.cells len) (Builtin.zeroCells zv.cells len).toList:=by
   have:=pA yw len (len*zv.cells.size) (by rw [C6,C5]; exact Vv _) (by omega)
   rw [V4 (by simp [C6,C5])] at this
   exact this
  have hone:∀v∈(Builtin.zeroCells zv.cells len).toList,v.oneCell'=true:=by
   intro v hv
   simp only [Builtin.zeroCells,Array.toList_map,V8] at hv
   obtain⟨j,hj,rfl⟩:=hv
   have qG:j % zv.cells.size<zv.cells.size:=Nat.mod_lt _ (by omega)
   rw [getElem!_pos zv.cells _ qG]
   exact hz1 _ (by simp)
  have Qm:(ik z.cells len).length=len*i.size:=by rw [iF,C5]
  have hst:=jM (P:=P) hp.kc (base:=(c.β id).2) (off:=off) (vs:=(Builtin.zeroCells zv.cells len).toList) (by rw [hnl]; rw [DB] at hoff; omega) hone
  obtain⟨q1,q2,q3,q4⟩:=gx (Builtin.zeroCells zv.cells len).toList (c.β id).1 ((c.β id).2+off) c.w
  have zT:ie c (c.β id).1 q:=hp
  obtain⟨C,Ir,hb,qd⟩:=hp
  obtain⟨C',g1,g2,g3⟩:=fj (Builtin.zeroCells zv.cells len).toList (c.β id).1 ((c.β id).2+off) c.w C Ir (0,0) hb (by rw [hnl]; rw [DB] at hoff; omega)
  obtain⟨e',f'⟩:=f.upd (w':=c.w.setCells (c.β id).1 ((c.β id).2+off) (Builtin.zeroCells zv.cells len).toList) (β':=c.β) (h':=s.h.put id (.cells (di cs off (ik z.cells len)))) id (.cells (di cs off (ik z.cells len)))
   (by rw [f.h]; exact Steady.put _ _ _) (by rw [←f.h]; exact WC hl.1) (by simp [AHeap.put,beq_nat]) (fun kn h1=>.inr ⟨by rw [f.h]; simp [AHeap.put,beq_nat,h1],rfl⟩) (fun _=>⟨hl,rfl⟩) (.inr ⟨id,hl,rfl,.inl rfl⟩)
   (fun _=>by simp only [Cx.len,World.shape?,g1,hb,Vw,Wl,g2])
   (fun b _ hne=>dG _ _ _ _ _ hne) (fun b _ hne=>dG _ _ _ _ _ hne) (by rw [q1]; exact Vv _) (ja e hb0) q2 q3 q4
   (fun ee=>⟨q,zT.setCells (by rw [hnl]; rw [DB] at hoff; omega) _ _ _,by rw [gZ]; exact hq,iE zT.kc hc hv hone (by rw [Qm]; rw [DB] at hoff; omega) (by omega) ee rfl⟩)
  refine fin _ ?_ e' f'
  cases len with
  | zero=>exact absurd rfl hl0
  | succ len=>simp [Builtin.clear_,bo wK,hx,Dq,hst]
 ·cases h
  simp only [SR,VR] at hx
  refine fin c ?_ (Ext.refl _ _) f
  simp [Builtin.clear_,bo wK,hx]
 ·rename_i id
  rw [Vp] at h
  obtain⟨ob,ho,h⟩:=h
  cases ob with
  | cells cs=>cases h
  | row t cs=>cases h
  | map es=>
  cases h
  simp only [SR,VR] at hx
  obtain⟨hi,r,qh,hr⟩:=hx
  rw [←f.h] at ho
  have hl:Live c.h id:=⟨f.rel.lt _ _ ho,by simp [ho]⟩
  have Nk:=hr hl
  subst Nk
  obtain⟨kK,clock,h1,h2⟩:=f.rel.obj _ _ ho
  obtain⟨e',f'⟩:=f.uV (ja e hb0) ho h1 (qg:=#[]) (nM:=clock) (p6:=[]) trivial
  refine fin _ ?_ e' f'
  have hget:(getObj (c.β id).1).run P c.w = .ok (.map kK clock) c.w:=MapKept.run_getObj_map h1
  have DC:=MapKept.run_setObj_map (P:=P) (.map #[] clock) h1
  simp [Builtin.clear_,bo wK,qh,hget,DC]
end
end Go.R
namespace Go.R
open Go
section
variable {P:Program}{L0:Nat→Prop}{c0:Cx}{n:Nat}{ds:List Nat}{o:Oper}{s:RS}
theorem mq {w:World}{t t2 ty e:TypeId}{i:TypeInfo}(ht:P.underlying t=some (.slice e))(hi:P.info? e=some i){base:Option Addr}{len cap:Nat}{x:Value}{news:List Value}{m:Nat}(hs:Src P i.size t2 x m news w)(hm:m≤len) :
  (Builtin.copy_ #[t,t2] ty #[.slice base len cap,x]).run P w=match base with | none=>.ok (goInt m) w | some a=>((storeCells a news).run P w).andThen fun _ w'=>.ok (goInt m) w':=by
 have KN:Nat.min m len=m:=WL hm
 have hlen:=hs.len w
 have hc:=hs.cells
 have hsz:(sizeOf e).run P w = .ok i.size w:=by simp [sizeOf,typeInfo,hi]
 unfold Builtin.copy_
 cases base with
 | none=>simp [bo ht,hlen,KN,hsz,hc]
 | some a=>simp [bo ht,hlen,KN,hsz,hc,Sem.run_bind]
theorem Gn (hb0:c0.base≤c0.w.heap.size)(hd:gp n ds o){t t2:TypeId}{dx sx:Operand}(ho:o.op = .call {callee:=.builtin .copy,args:=#[dx,sx],argTypes:=#[t,t2]}){y:AV}{h':AHeap}
  (h:p7 P s.h t t2 (bL s.ρ dx) (bL s.ρ sx)=some (y,h')):jc P L0 c0 n ds o s ({s with h:=h'}.set o.dst y):=by
 rintro a w K Q ⟨hn,c,Lo,lam,rfl,f,e0⟩ hK
 have hbs:=ja e0 hb0
 unfold p7 at h
 rw [Vp] at h
 obtain⟨d,wK,h⟩:=h
 cases d<;>simp only at h<;>try (cases h; done)
 rename_i e
 rw [Vp] at h
 obtain⟨i,hi,h⟩:=h
 rw [Vp] at h
 obtain⟨⟨new,m⟩,hcs,h⟩:=h
 simp only at h
 split at h
 ·cases h
 rename_i gB
 have gB:iA P t2 (bL s.ρ sx)=true:=by simpa using gB
 have Qn:∀st,bL s.ρ sx = .str st→P.underlying t2=some .string:=by
  intro st hst
  rw [hst] at gB
  unfold iA at gB
  simp only at gB
  split at gB
  ·assumption
  ·cases gB
 have sa:(∀st,bL s.ρ sx≠.str st)→∃e',P.underlying t2=some (.slice e'):=by
  intro hne
  unfold iA at gB
  split at gB
  ·rename_i st hst; exact absurd hst (hne st)
  ·split at gB
   ·rename_i e' he; exact⟨e',he⟩
   ·cases gB
 have hk:(∃e',P.underlying t2=some (.slice e'))∨P.underlying t2=some .string:=by
  by_cases hst:∃st,bL s.ρ sx = .str st
  ·obtain⟨st,hst⟩:=hst; exact .inr (Qn st hst)
  ·exact .inl (sa fun st No=>hst ⟨st,No⟩)
 obtain⟨news,hS,hv⟩:=pB f (bE f sx) hk Qn sa hcs
 have wj:=bE f dx
 have fin:∀c',(Builtin.copy_ #[t,t2] o.type #[a.eval dx,a.eval sx]).run P c.w = .ok (goInt m) c'.w→Ext c Lo c' Lo→Fr L0 c' Lo lam ds {s with h:=h'} a→y = .int .i64 m→o.wp P a c.w K Q:=by
  intro c' hr e' f' hy
  unfold Oper.wp
  have:(execOp a.eval o).run P c.w = .ok (.value (goInt m)) c'.w:=by
   simp [execOp,ho,resolve,invoke,builtin,hr]
  rw [this,Oper.upon_value]
  exact hK _ _ ⟨(gm _ _ _).trans hn,c',Lo,lam,rfl,f'.set (SR.of (by subst hy; simp [VR,goInt])) (fun t ht=>by rw [hn]; exact hd t ht),e0.trans e'⟩
 cases BY:bL s.ρ dx<;>rw [BY] at h wj<;>simp only at h<;>try (cases h; done)
 ·split at h
  rotate_left
  ·cases h
  rename_i rS
  cases h
  simp only [SR,VR] at wj
  obtain⟨ad,wj⟩:∃ad:Option Addr,a.eval dx = .slice ad 0 0:=⟨none,wj⟩
  refine fin c ?_ (Ext.refl _ _) f (by rw [rS]; rfl)
  rw [wj,mq wK hi hS (by omega)]
  cases ad with
  | none=>rfl
  | some ad=>
   have:news=[]:=V3 (by rw [hS.newsLen,rS]; simp)
   subst this
   rfl
 ·rename_i id off len ij
  split at h
  ·rename_i hid
   split at h
   rotate_left
   ·cases h
   rename_i rS
   cases h
   simp only [SR,VR] at wj
   rcases wj with⟨_,_,_,ad,wj⟩| wj
   rotate_left
   ·exact absurd hid wj.1
   refine fin c ?_ (Ext.refl _ _) f (by rw [rS]; rfl)
   rw [wj,mq wK hi hS (by omega)]
   cases ad with
   | none=>rfl
   | some ad=>
    have:news=[]:=V3 (by rw [hS.newsLen,rS]; simp)
    subst this
    rfl
  rename_i j5
  rw [Vp] at h
  obtain⟨ob,hob,h⟩:=h
  cases ob with
  | map es=>cases h
  | row t cs=>cases h
  | cells cs=>
  simp only at h
  split at h
  rotate_left
  ·cases h
  rename_i hh
  obtain⟨DB,Sy,hoff⟩:=hh
  cases h
  simp only [SR,VR] at wj
  rcases wj with wj | ⟨_,hid,ad,cap,wj,hlc,zS,hlive⟩
  ·exact absurd wj.1 j5
  rw [←f.h] at hob
  have hl:Live c.h id:=⟨f.rel.lt _ _ hob,by simp [hob]⟩
  obtain⟨q,hp,hq,hc⟩:=f.rel.obj _ _ hob
  have hnl:=hS.newsLen
  have hvl:=hv.length
  have hr:=mq (ty:=o.type) wK hi hS Sy (base:=ad) (cap:=cap)
  by_cases ha:ad=some ⟨(c.β id).1,(c.β id).2+off,none⟩
  ·subst ha
   simp only at hr
   have hst:=jM (P:=P) hp.kc (base:=(c.β id).2) (off:=off) (vs:=news) (by omega) hS.one
   rw [hst] at hr
   simp only [Result.andThen_ok] at hr
   obtain⟨q1,q2,q3,q4⟩:=gx news (c.β id).1 ((c.β id).2+off) c.w
   have zT:ie c (c.β id).1 q:=hp
   obtain⟨C,Ir,hb,qd⟩:=hp
   obtain⟨C',g1,g2,g3⟩:=fj news (c.β id).1 ((c.β id).2+off) c.w C Ir (0,0) hb (by omega)
   obtain⟨e',f'⟩:=f.upd (w':=c.w.setCells (c.β id).1 ((c.β id).2+off) news) (β':=c.β) (h':=s.h.put id (.cells (di cs off new))) id (.cells (di cs off new))
    (by rw [f.h]; exact Steady.put _ _ _) (by rw [←f.h]; exact WC hl.1) (by simp [AHeap.put,beq_nat]) (fun kn h1=>.inr ⟨by rw [f.h]; simp [AHeap.put,beq_nat,h1],rfl⟩) (fun _=>⟨hl,rfl⟩) (.inr ⟨id,hl,rfl,.inl rfl⟩)
    (fun _=>by simp only [Cx.len,World.shape?,g1,hb,Vw,Wl,g2])
    (fun b _ hne=>dG _ _ _ _ _ hne) (fun b _ hne=>dG _ _ _ _ _ hne) (by rw [q1]; exact Vv _) hbs q2 q3 q4
    (fun ee=>⟨q,zT.setCells (by omega) _ _ _,by rw [gZ]; exact hq,iE zT.kc hc hv hS.one (by omega) (by omega) ee rfl⟩)
   refine fin _ ?_ e' f' rfl
   rw [wj]
   exact hr
  ·have hz:new=[]∧m=0∧news=[]:=by
    rcases hlive hl with⟨h1,_⟩| h1
    ·exact absurd h1 ha
    ·have h0:m=0:=by omega
     have h2:news=[]:=V3 (by rw [hnl,h0]; simp)
     subst h2
     exact⟨V3 (by simpa using hvl),h0,rfl⟩
   obtain⟨rfl,rfl,rfl⟩:=hz
   have ny:di cs off []=cs:=by simp [di]
   rw [ny] at *
   obtain⟨e',f'⟩:=f.upd (w':=c.w) (β':=c.β) (h':=s.h.put id (.cells cs)) id (.cells cs)
    (by rw [f.h]; exact Steady.put _ _ _) (by rw [←f.h]; exact WC hl.1) (by simp [AHeap.put,beq_nat]) (fun kn h1=>.inr ⟨by rw [f.h]; simp [AHeap.put,beq_nat,h1],rfl⟩) (fun _=>⟨hl,rfl⟩) (.inr ⟨id,hl,rfl,.inl rfl⟩)
    (fun _=>rfl) (fun b _ hne=>rfl) (fun b _ hne=>rfl) (Vv _) hbs rfl rfl rfl
    (fun ee=>ot.ext ee ⟨q,hp,hq,hc⟩ rfl)
   refine fin _ ?_ e' f' rfl
   rw [wj,hr]
   cases ad<;>rfl
end
end Go.R
namespace Go.R
open Go
section
variable {P:Program}{L0:Nat→Prop}{c0:Cx}{n:Nat}{ds:List Nat}{o:Oper}{s:RS}
theorem pC {e:TypeId}(h:Di P e=true):P.underlying e=some (.int .u8)∧fe P e=some 1:=by
 unfold Di at h
 simp only [Vu,beq_iff_eq] at h
 obtain⟨h1,h2⟩:=h
 refine⟨?_,h2⟩
 split at h1
 ·assumption
 ·cases h1
theorem Ab {c:Cx}{L:Nat→Prop}:∀{cs:List AV} {l:List UInt8} {vs:List Value},Hy cs=some l→VRs c L cs vs→∃xs:List Int,vs=xs.map (Value.int .u8)∧l=xs.map fun n=>UInt8.ofNat n.toNat
 | [],l,[],h,_=>by simp only [Hy,Vt] at h; subst h; exact⟨[],rfl,rfl⟩
 | x::cs,l,v::vs,h,hv=>by
  unfold Hy at h
  split at h
  ·rename_i heq; cases heq
  ·rename_i n xs heq
   cases heq
   rw [Vr] at h
   obtain⟨l',h1,rfl⟩:=h
   obtain⟨ys,rfl,rfl⟩:=Ab h1 hv.2
   have h2:=hv.1
   simp only [VR] at h2
   subst h2
   exact⟨n::ys,rfl,rfl⟩
  ·cases h
 | [],_,_::_,_,h=>h.elim
 | _::_,_,[],_,h=>h.elim
theorem uY (xs:List Int):strOfNums xs=⟨(xs.map fun n=>UInt8.ofNat n.toNat).toArray⟩:=rfl
theorem wL {w:World}{src dst e:TypeId}{v:Value}{m:Nat}{xs:List Int}(hs:P.underlying src=some (.slice e))(he:P.underlying e=some (.int .u8))(hd:P.underlying dst=some .string)
  (hS:Src P 1 src v m (xs.map (Value.int .u8)) w) (hv:∃a cap,v = .slice a m cap):(convert src dst v).run P w = .ok (.string (strOfNums xs)) w:=by
 obtain⟨a,cap,rfl⟩:=hv
 have hc:=hS.cells
 have hl:=hS.newsLen
 cases a with
 | none=>
  have:xs=[]:=by
   simp [Builtin.firstCells] at hc
   cases xs with
   | nil=>rfl
   | cons x xs=>simp at hc
  subst this
  exact run_convert_bytes_nil w src e hs he m cap dst hd
 | some a=>
  rw [run_convert_bytes_string w src dst e (some a) m cap hs he hd]
  have h1:(loadCells a m).run P w = .ok (xs.map (Value.int .u8)).toArray w:=by simpa [Builtin.firstCells] using hc
  rw [run_bytesToString w a m cap xs h1,foldl_push_bytes]
  simp [strOfNums,ByteArray.empty,ByteArray.emptyWithCapacity]
  rfl
theorem tu {c:Cx}{Lo:Nat→Prop}{lam:Nat→Nat}{x:AV}{v:Value}{h:AHeap}{size m:Nat}{new:List AV}(hx:SR c L0 Lo lam s.bx x v)(hc:eu h size x=some (new,m))(hne:∀st,x≠.str st):∃a cap,v = .slice a m cap:=by
 unfold eu at hc
 cases x<;>simp only at hc<;>try (cases hc; done)
 ·exact absurd rfl (hne _)
 ·cases hc
  simp only [SR,VR] at hx
  subst hx
  exact⟨none,0,rfl⟩
 ·split at hc
  ·cases hc
   simp only [SR,VR] at hx
   obtain⟨a,cap,rfl,_⟩:=hx
   exact⟨a,cap,rfl⟩
  ·cases hc
 ·split at hc
  ·split at hc
   ·cases hc
    simp only [SR,VR] at hx
    rename_i hid hl0
    rcases hx with⟨_,_,_,a,rfl⟩| ⟨_,_,a,cap,rfl,_⟩
    ·exact⟨a,0,rfl⟩
    ·exact⟨a,cap,by rw [hl0]⟩
   ·cases hc
  rename_i j5
  rw [Vp] at hc
  obtain⟨ob,_,hc⟩:=hc
  cases ob with
  | map es=>cases hc
  | row t cs=>cases hc
  | cells cs=>
   simp only at hc
   split at hc
   ·cases hc
    simp only [SR,VR] at hx
    rcases hx with hx | ⟨_,_,a,cap,rfl,_⟩
    ·exact absurd (.inl hx.1) j5
    exact⟨a,cap,rfl⟩
   ·cases hc
theorem bytes_VRs {c:Cx}{L:Nat→Prop}:∀l:List UInt8,VRs c L (l.map fun b=>AV.int .u8 b.toNat) (l.map fun b=>Value.int .u8 b.toNat)
 | []=>trivial
 | b::l=>⟨by simp [VR],bytes_VRs l⟩
theorem uZ {w:World}{b o k:Nat}{C:Array Value}{e:TypeId}{fr:Nat × Nat}(hb:w.heap[b]? = some (.cells C e fr))(ho:C.size≤o)(hk:k≠0) :
  (∀b',gX w (w.freeze ⟨b,o,none⟩ k) b')∧(∀b',b'≠b→(w.freeze ⟨b,o,none⟩ k).heap[b']? = w.heap[b']?)∧(w.freeze ⟨b,o,none⟩ k).heap.size=w.heap.size∧(w.freeze ⟨b,o,none⟩ k).os=w.os∧(w.freeze ⟨b,o,none⟩ k).tape=w.tape∧(w.freeze ⟨b,o,none⟩ k).output=w.output:=by
 unfold World.freeze
 rw [if_neg hk]
 have hlt:=(VZ.1 hb).1
 refine⟨fun b'=>?_,fun b' hne=>by simp [Ws,Ne.symm hne],by simp,rfl,rfl,rfl⟩
 by_cases hne:b'=b
 ·subst hne
  obtain⟨lo,hi⟩:=fr
  refine .inr ⟨C,e,lo,hi,(if lo==hi then (o,o+k) else (min lo o,max hi (o+k))).1,(if lo==hi then (o,o+k) else (min lo o,max hi (o+k))).2,hb,?_,?_⟩
  ·simp [Ws,hb]
  ·intro h
   by_cases Np:lo=hi
   ·subst Np; right; simpa using ho
   ·have:(lo==hi)=false:=by simpa using Np
    right
    simp only [this,VB,if_false]
    rcases h with h | h
    ·exact absurd h Np
    ·exact Nat.le_min.2 ⟨h,ho⟩
 ·exact .inl (by simp [Ws,Ne.symm hne])
theorem yY (hb0:c0.base≤c0.w.heap.size)(hd:gp n ds o){src dst:TypeId}{x:Operand}(ho:o.op = .convert src dst x){y:AV}(h:mg P s.h src dst (bL s.ρ x)=some y):jc P L0 c0 n ds o s (s.set o.dst y):=by
 have hex:∀(a:Act) (w w':World) v,(convert src dst (a.eval x)).run P w = .ok v w'→(execOp a.eval o).run P w = .ok (.value v) w':=by
  intro a w w' v hr; simp [execOp,ho,hr]
 unfold mg at h
 split at h
 ·rename_i e hs yv
  split at h
  rotate_left
  ·cases h
  rename_i hu
  obtain⟨he,hsz⟩:=pC hu
  rw [Vp] at h
  obtain⟨⟨cs,m⟩,hcs,h⟩:=h
  rw [Vr] at h
  obtain⟨l,hl,rfl⟩:=h
  by_cases hst:∃st,bL s.ρ x = .str st
  ·
   obtain⟨st,hst⟩:=hst
   refine fI hd fun a c Lo lam f hn=>?_
   have hx:=bE f x
   rw [hst] at hx hcs
   simp only [SR,VR] at hx
   simp only [eu,if_true,Vt,Vz] at hcs
   obtain⟨rfl,rfl⟩:=hcs
   refine⟨_,hex _ _ _ (.string st) ?_,?_⟩
   ·simp [convert,run_underlying hs,run_underlying yv,hx]
   ·have:∀(l0 l1:List UInt8),Hy (l0.map fun b=>AV.int .u8 b.toNat)=some l1→l1=l0:=by
     intro l0
     induction l0 with
     | nil=>intro l1 h; simp [Hy] at h; exact h
     | cons b l0 ih=>
      intro l1 h
      simp only [VU,Hy,Vr] at h
      obtain⟨l2,h2,rfl⟩:=h
      rw [ih l2 h2]
      simp
    rw [this _ _ hl]
    simp [SR,VR]
  ·refine fI hd fun a c Lo lam f hn=>?_
   have hne:∀st,bL s.ρ x≠.str st:=fun st h=>hst ⟨st,h⟩
   have hx:=bE f x
   obtain⟨news,hS,hv⟩:=pB f hx (.inl ⟨e,hs⟩) (fun st h=>absurd h (hne st)) (fun _=>⟨e,hs⟩) hcs
   obtain⟨xs,rfl,rfl⟩:=Ab hl hv
   exact⟨_,hex _ _ _ _ (wL hs he yv hS (tu hx hcs hne)),by simp [SR,VR,uY]⟩
 ·rename_i e hs yv
  cases BY:bL s.ρ x<;>rw [BY] at h<;>simp only at h<;>try (cases h; done)
  rename_i st
  split at h
  rotate_left
  ·cases h
  rename_i hu
  obtain⟨he,hsz⟩:=pC hu
  cases h
  refine rY hb0 hd (fun a c Lo lam f hn hbs=>?_) (by rintro k off h; cases h)
  have hx:=bE f x
  rw [BY] at hx
  simp only [SR,VR] at hx
  have hr:=run_bytes_of_string c.w src dst e st hs yv he
  rw [←hx] at hr
  refine⟨_,_,hex _ _ _ _ hr,fun b hb=>.inl (alloc_old c.w.drew _ (show b<c.w.heap.size from hb)),fun id hl=>alloc_old c.w.drew _ (show (c.β id).1<c.w.heap.size from f.rel.block hl),fun b hb=>alloc_old c.w.drew _ (show b<c.w.heap.size by omega),by show c.w.heap.size≤(c.w.heap.push _).size; simp,rfl,rfl,rfl,fun e'=>?_⟩
  simp only [VR]
  refine⟨_,_,rfl,grownCap_ge c.w,by simp,.inl rfl,?_⟩
  refine .inr ⟨c.w.heap.size,0,rfl,Dy f.rel rfl rfl,by simp,?_⟩
  refine Cells.of_vals (bytes_VRs st.data.toList) (fun i hi=>?_) (fun v hv=>by obtain⟨b,_,rfl⟩:=V8.1 hv; rfl)
  have jI:i<st.data.size:=by simpa using hi
  have:(World.alloc c.w.drew (.cells (bytesRow st (grownCap c.w st.size 0 e)) e ((bytesRow st (grownCap c.w st.size 0 e)).size,(bytesRow st (grownCap c.w st.size 0 e)).size+1))).heap[c.w.heap.size]? = some (.cells (bytesRow st (grownCap c.w st.size 0 e)) e ((bytesRow st (grownCap c.w st.size 0 e)).size,(bytesRow st (grownCap c.w st.size 0 e)).size+1)):=il c.w.drew _
  rw [cell_of_block this]
  simp [bytesRow,Array.getElem?_append,jI]
  intro hge
  have:st.size=st.data.size:=rfl
  omega
 ·rename_i e0 e hs yv
  cases BY:bL s.ρ x<;>rw [BY] at h<;>try (cases h; done)
  rename_i cs m ex
  cases ex
  ·cases h
  simp only at h
  split at h
  rotate_left
  ·cases h
  rename_i hu
  simp only [Vu,beq_iff_eq,decide_eq_true_eq] at hu
  obtain⟨⟨Sz,hu⟩,oy⟩:=hu
  subst Sz
  obtain⟨he,hsz⟩:=pC hu
  cases h
  refine rY hb0 hd (fun a c Lo lam f hn hbs=>?_) (by rintro k off h; cases h)
  have hx:=bE f x
  rw [BY] at hx
  have Gp:=hx.vr (by rintro k off h; cases h)
  simp only [SR,VR] at hx
  obtain⟨ad,cap,qh,h1,h2,_,h3⟩:=hx
  rcases h3 with rfl | ⟨b,off,rfl,Hz,hbb,hc⟩
  ·simp at oy
  have hlt:b<c.w.heap.size:=by
   cases cs with
   | nil=>simp at oy
   | cons x cs=>exact jJ hc
  have ny:∃C e' fr,c.w.heap[b]? = some (.cells C e' fr):=by
   cases cs with
   | nil=>simp at oy
   | cons x cs=>
    obtain⟨⟨v,hv,_⟩,_⟩:=hc
    unfold World.cell? at hv
    split at hv
    ·exact⟨_,_,_,by assumption⟩
    ·cases hv
  obtain⟨C,e',fr,hb⟩:=ny
  obtain⟨k1,k2,k3,k4,k5,k6⟩:=uZ (k:=1) hb (Vv C.size) (by decide)
  refine⟨c.w.freeze ⟨b,C.size,none⟩ 1,a.eval x,hex _ _ _ _ ?_,fun b' _=>k1 b',fun id hl=>k2 _ (Hz.1 id hl),fun b' th=>k2 b' (by have:=hbb trivial; omega),by rw [k3]; exact Vv _,k4,k5,k6,fun Ir=>VR.ext Ir _ _ Gp⟩
  rw [qh]
  have FY:c.w.shape? b=some (e',C.size):=by simp [World.shape?,hb]
  simp [convert,run_underlying yv,run_underlying he,markStringish,FY]
 ·rw [Vp] at h
  obtain⟨v,hv,h⟩:=h
  rw [Vp] at h
  obtain⟨r,hr,h⟩:=h
  refine fI hd fun a c Lo lam f hn=>?_
  have hx:=kL hv ((bE f x).vr (kM hv))
  exact⟨r,hex _ _ _ _ (by rw [hx]; exact ke _ hr),SR.of (mV h)⟩
theorem ec {op:BinOp}{t:TypeId}{x y:Operand}{u v:Value}(h:(∀a b,u≠.agg a∨v≠.agg b)∧u≠.nilIface)(w:World):(eqGuard op t x y u v).run P w = .ok () w:=by
 obtain⟨h1,h2⟩:=h
 unfold eqGuard
 cases op<;>first | rfl | skip
 all_goals
  simp only [Wn,VB,if_false]
  split
  ·exact absurd rfl h2
  ·rename_i a b; rcases h1 a b with h3 | h3<;>exact absurd rfl h3
  ·rfl
theorem yZ {x:AV}{u:Value}(h:x.gj=some u):(∀a,u≠.agg a)∧u≠.nilIface:=by
 unfold AV.gj at h
 split at h<;>first | (cases h; done) | (cases h; exact⟨fun _=>(by simp),(by simp)⟩)
theorem B2 {op:BinOp}{a b:ByteArray}{y:AV}(h:yI op a b=some y)(w:World):∃r,(Op.stringOp op a b).run P w = .ok r w∧∀(c:Cx) (L:Nat→Prop),VR c L y r:=by
 have hl:∀z:ByteArray,z.toList=z.data.toList:=fun z=>ByteArray.toList_eq z
 unfold yI at h
 unfold Op.stringOp
 simp only [hl]
 cases op<;>simp only at h<;>try (cases h; done)
 ·split at h
  rotate_left
  ·cases h
  rename_i hsz
  cases h
  refine⟨.string (a++b),?_,fun c L=>by simp only [VR]⟩
  have h1:¬(((a.size+b.size:Nat):Int) > IntKind.i64.max):=by
   have:IntKind.i64.max=9223372036854775807:=by decide
   rw [this]; omega
  simp only [h1,if_false]
  rfl
 all_goals (cases h; exact⟨_,rfl,fun c L=>by simp only [VR]⟩)
theorem mW {op:BinOp}{pq:Bool}(h:yJ op=some pq):(op = .eql∧pq=true)∨(op = .neq∧pq=false):=by
 unfold yJ at h
 split at h<;>cases h
 ·exact .inl ⟨rfl,rfl⟩
 ·exact .inr ⟨rfl,rfl⟩
theorem nN {t:TypeId}(ht:∃q,P.underlying t=some (.pointer q)){a:Addr}{op:BinOp}{pq:Bool}(h:yJ op=some pq)(w:World) :
  (binOp op t (.pointer (some a)) (.pointer none)).run P w = .ok (.bool (!pq)) w∧(binOp op t (.pointer none) (.pointer (some a))).run P w = .ok (.bool (!pq)) w:=by
 obtain⟨q,hq⟩:=ht
 have e1:(Op.equal t (.pointer (some a)) (.pointer none)).run P w = .ok false w:=by
  unfold Op.equal Op.maxDepth
  unfold Op.equalIn
  simp [bo hq]
 have e2:(Op.equal t (.pointer none) (.pointer (some a))).run P w = .ok false w:=by
  unfold Op.equal Op.maxDepth
  unfold Op.equalIn
  simp [bo hq]
 rcases mW h with⟨rfl,rfl⟩| ⟨rfl,rfl⟩
 ·constructor
  ·show ((do pure (.bool (←Op.equal t (.pointer (some a)) (.pointer none)))):Sem Value).run P w=_
   simp [e1]
  ·show ((do pure (.bool (←Op.equal t (.pointer none) (.pointer (some a))))):Sem Value).run P w=_
   simp [e2]
 ·constructor
  ·show ((do pure (.bool (!(←Op.equal t (.pointer (some a)) (.pointer none))))):Sem Value).run P w=_
   simp [e1]
  ·show ((do pure (.bool (!(←Op.equal t (.pointer none) (.pointer (some a)))))):Sem Value).run P w=_
   simp [e2]
theorem oz {t:TypeId}(ht:∃q,P.underlying t=some (.slice q)){ad:Option Addr}(hs:ad.isSome=true){m cap:Nat}{op:BinOp}{pq:Bool}(h:yJ op=some pq)(w:World) :
  (binOp op t (.slice ad m cap) (.slice none 0 0)).run P w = .ok (.bool (!pq)) w:=by
 obtain⟨q,hq⟩:=ht
 obtain⟨a,rfl⟩:=V0.1 hs
 have e1:(Op.equal t (.slice (some a) m cap) (.slice none 0 0)).run P w = .ok false w:=by
  unfold Op.equal Op.maxDepth
  unfold Op.equalIn
  simp [bo hq]
 rcases mW h with⟨rfl,rfl⟩| ⟨rfl,rfl⟩
 ·show ((do pure (.bool (←Op.equal t (.slice (some a) m cap) (.slice none 0 0)))):Sem Value).run P w=_
  simp [e1]
 ·show ((do pure (.bool (!(←Op.equal t (.slice (some a) m cap) (.slice none 0 0))))):Sem Value).run P w=_
  simp [e1]
theorem DD (hd:gp n ds o){op:BinOp}{t t2:TypeId}{x y:Operand}(ho:o.op = .binOp op t x y t2){z:AV}(h:mh P op t (bL s.ρ x) (bL s.ρ y)=some z):jc P L0 c0 n ds o s (s.set o.dst z):=by
 refine fI hd fun a c Lo lam f hn=>?_
 have hx:=bE f x
 have hy:=bE f y
 have hex:∀v,(eqGuard op t x y (a.eval x) (a.eval y)).run P c.w = .ok () c.w→(binOp op t (a.eval x) (a.eval y)).run P c.w = .ok v c.w→(execOp a.eval o).run P c.w = .ok (.value v) c.w:=by
  intro v h1 h2; simp [execOp,ho,h1,h2]
 unfold mh at h
 split at h
 ·rename_i p q hp hq
  rw [hp] at hx; rw [hq] at hy
  simp only [SR,VR] at hx hy
  obtain⟨r,hr,hv⟩:=B2 (P:=P) h c.w
  refine⟨r,hex _ (ec ⟨fun _ _=>.inl (by rw [hx]; simp),by rw [hx]; simp⟩ _) ?_,SR.of (hv _ _)⟩
  rw [hx,hy]
  unfold binOp
  simpa using hr
 ·rename_i p q hp hq
  rw [hp] at hx; rw [hq] at hy
  simp only [SR,VR] at hx hy
  obtain⟨_,ad,qh,_⟩:=hx
  rw [Vp] at h
  obtain⟨pq,qI,h⟩:=h
  split at h
  rotate_left
  ·cases h
  rename_i ht
  cases h
  refine⟨.bool (!pq),hex _ (ec ⟨fun _ _=>.inl (by rw [qh]; simp),by rw [qh]; simp⟩ _) ?_,SR.of (by simp [VR])⟩
  rw [qh,hy]
  exact (nN ⟨_,ht⟩ qI _).1
 ·rename_i p q hp hq
  rw [hp] at hx; rw [hq] at hy
  simp only [SR,VR] at hx hy
  obtain⟨_,ad,Mz,_⟩:=hy
  rw [Vp] at h
  obtain⟨pq,qI,h⟩:=h
  split at h
  rotate_left
  ·cases h
  rename_i ht
  cases h
  refine⟨.bool (!pq),hex _ (ec ⟨fun _ _=>.inl (by rw [hx]; simp),by rw [hx]; simp⟩ _) ?_,SR.of (by simp [VR])⟩
  rw [hx,Mz]
  exact (nN ⟨_,ht⟩ qI _).2
 ·rename_i p q hp hq
  rw [hp] at hx; rw [hq] at hy
  simp only [SR,VR] at hx hy
  obtain⟨b,off,qh,_⟩:=hx
  rw [Vp] at h
  obtain⟨pq,qI,h⟩:=h
  split at h
  rotate_left
  ·cases h
  rename_i ht
  cases h
  refine⟨.bool (!pq),hex _ (ec ⟨fun _ _=>.inl (by rw [qh]; simp),by rw [qh]; simp⟩ _) ?_,SR.of (by simp [VR])⟩
  rw [qh,hy]
  exact (nN ⟨_,ht⟩ qI _).1
 ·rename_i hp hq
  rw [hp] at hx; rw [hq] at hy
  simp only [SR,VR] at hx hy
  obtain⟨ad,cap,qh,_,_,hs,_⟩:=hx
  replace hs:ad.isSome=true:=hs.elim id fun h=>by cases h.1
  rw [Vp] at h
  obtain⟨pq,qI,h⟩:=h
  split at h
  rotate_left
  ·cases h
  rename_i ht
  cases h
  refine⟨.bool (!pq),hex _ (ec ⟨fun _ _=>.inl (by rw [qh]; simp),by rw [qh]; simp⟩ _) ?_,SR.of (by simp [VR])⟩
  rw [qh,hy]
  exact oz ⟨_,ht⟩ hs qI _
 ·rename_i hp hq
  rw [hp] at hx; rw [hq] at hy
  simp only [SR,VR] at hx hy
  rcases hx with⟨hx,_⟩| ⟨_,_,ad,cap,qh,_,hs,_⟩
  ·omega
  rw [Vp] at h
  obtain⟨pq,qI,h⟩:=h
  split at h
  rotate_left
  ·cases h
  rename_i ht
  cases h
  refine⟨.bool (!pq),hex _ (ec ⟨fun _ _=>.inl (by rw [qh]; simp),by rw [qh]; simp⟩ _) ?_,SR.of (by simp [VR])⟩
  rw [qh,hy]
  exact oz ⟨_,ht⟩ hs qI _
 ·rename_i p q hp hq
  rw [hp,hq] at h
  rw [hp] at hx; rw [hq] at hy
  have Gp:=hx.vr (by rintro k off h; cases h)
  have Nq:=hy.vr (by rintro k off h; cases h)
  rw [Vp] at h
  obtain⟨pq,qI,h⟩:=h
  split at h
  rotate_left
  ·cases h
  rename_i jN
  simp only [Vu,Ww] at jN
  obtain⟨⟨⟨h1,h2⟩,h3⟩,h4⟩:=jN
  cases h
  have hk:=tO (P:=P) 9998 h1 h3 Gp Nq c.w
  simp only [VR] at Gp Nq
  obtain⟨vx,qh,_⟩:=Gp
  obtain⟨vy,Mz,_⟩:=Nq
  refine⟨.bool (fC (.agg p) (.agg q)==pq),hex _ ?_ ?_,SR.of (by simp only [VR])⟩
  ·rw [qh,Mz]
   rcases mW qI with⟨rfl,rfl⟩| ⟨rfl,rfl⟩<;>simp [eqGuard,h4,program,Sem.run]
  ·rw [qh,Mz] at hk ⊢
   rcases mW qI with⟨rfl,rfl⟩| ⟨rfl,rfl⟩
   ·show ((do pure (.bool (←Op.equal t (.agg vx) (.agg vy)))):Sem Value).run P c.w=_
    have Kz:(Op.equal t (.agg vx) (.agg vy)).run P c.w=_:=hk
    simp [Kz]
   ·show ((do pure (.bool (!(←Op.equal t (.agg vx) (.agg vy))))):Sem Value).run P c.w=_
    have Kz:(Op.equal t (.agg vx) (.agg vy)).run P c.w=_:=hk
    simp [Kz]
 ·rw [Vp] at h
  obtain⟨u,hu,h⟩:=h
  rw [Vp] at h
  obtain⟨v,hv,h⟩:=h
  rw [Vp] at h
  obtain⟨r,hr,h⟩:=h
  have h1:=kL hu (hx.vr (kM hu))
  have h2:=kL hv (hy.vr (kM hv))
  have h3:=yZ hu
  exact⟨r,hex _ (ec ⟨fun p _=>.inl (by rw [h1]; exact h3.1 p),by rw [h1]; exact h3.2⟩ _) (by rw [h1,h2]; exact ke _ hr),SR.of (mV h)⟩
theorem Gq (hd:gp n ds o){op:UnOp}{t:TypeId}{x:Operand}(ho:o.op = .unOp op t x){z:AV}(h:((bL s.ρ x).gj.bind fun a=>(iy P (Op.unary op a)).bind og)=some z):jc P L0 c0 n ds o s (s.set o.dst z):=by
 refine fI hd fun a c Lo lam f hn=>?_
 rw [Vp] at h
 obtain⟨u,hu,h⟩:=h
 rw [Vp] at h
 obtain⟨r,hr,h⟩:=h
 have h1:=kL hu ((bE f x).vr (kM hu))
 refine⟨r,?_,SR.of (mV h)⟩
 have:=ke (P:=P) c.w hr
 rw [←h1] at this
 simp [execOp,ho,this]
theorem Ac (hd:gp n ds o){x:Operand}(ho:o.op = .move x∨o.op = .assign x):jc P L0 c0 n ds o s (s.set o.dst (bL s.ρ x)):=
 fI hd fun a c Lo lam f hn=>⟨a.eval x,by rcases ho with ho | ho<;>simp [execOp,ho],bE f x⟩
theorem Gr (hd:gp n ds o){k x y:Operand}(ho:o.op = .pick k x y){t:Bool}(h:rM (bL s.ρ k)=some t):jc P L0 c0 n ds o s (s.set o.dst (if t then bL s.ρ x else bL s.ρ y)):=by
 refine fI hd fun a c Lo lam f hn=>?_
 have hk:=bE f k
 unfold rM at h
 split at h
 ·rename_i b hb
  cases h
  rw [hb] at hk
  simp only [SR,VR] at hk
  refine⟨if t then a.eval x else a.eval y,by simp [execOp,ho,hk,asBool],?_⟩
  cases t
  ·exact bE f y
  ·exact bE f x
 ·cases h
theorem wM (hd:gp n ds o){x:Operand}(ho:o.op = .nilCheck x){z:AV}(h:pw (bL s.ρ x)=some z):jc P L0 c0 n ds o s (s.set o.dst z):=by
 refine fI hd fun a c Lo lam f hn=>?_
 have hx:=bE f x
 have hp:(∃ad,a.eval x = .pointer (some ad))∧z=bL s.ρ x:=by
  unfold pw at h
  split at h
  ·rename_i id off heq
   cases h
   rw [heq] at hx
   simp only [SR,VR] at hx
   obtain⟨_,ad,h1,_⟩:=hx
   exact⟨⟨ad,h1⟩,heq.symm⟩
  ·rename_i k off heq
   cases h
   rw [heq] at hx
   simp only [SR] at hx
   exact⟨⟨_,hx.1⟩,heq.symm⟩
  ·rename_i cs off heq
   cases h
   rw [heq] at hx
   simp only [SR,VR] at hx
   obtain⟨b,o',h1,_⟩:=hx
   exact⟨⟨_,h1⟩,heq.symm⟩
  ·cases h
 obtain⟨⟨ad,hp⟩,rfl⟩:=hp
 exact⟨a.eval x,by simp [execOp,ho,hp],hx⟩
theorem mX {c:Cx}{Lo:Nat→Prop}{lam:Nat→Nat}{a:Act}(f:Fr L0 c Lo lam ds s a):∀xs:List Operand,(∀x∈xs,∀k off,bL s.ρ x≠.lp k off)→VRs c (un L0 Lo) (xs.map (bL s.ρ)) (xs.map a.eval)
 | [],_=>trivial
 | x::xs,h=>⟨(bE f x).vr (h x (by simp)),mX f xs fun y hy=>h y (by simp [hy])⟩
theorem B3 {x:AV}(h:x.bR=true):∀k off,x≠.lp k off:=by rintro k off rfl; simp [AV.bR] at h
theorem wN (hd:gp n ds o){y4:FuncId}{first cap:Array Operand}(ho:o.op = .makeFunc (.func y4) first cap)(hf:first.isEmpty=true)(hc:(cap.toList.map (bL s.ρ)).all AV.bR=true):jc P L0 c0 n ds o s (s.set o.dst (.fn y4 (cap.toList.map (bL s.ρ)))):=by
 refine fI hd fun a c Lo lam f hn=>?_
 have Nr:first = #[]:=by simpa using hf
 subst Nr
 refine⟨.func (.func y4) #[] (cap.map a.eval),by simp [execOp,ho,Instr.makeFunc],SR.of ?_⟩
 simp only [VR]
 refine⟨_,rfl,?_⟩
 rw [Array.toList_map]
 refine mX f _ fun x hx=>B3 ?_
 rw [VK] at hc
 exact hc _ (V8.2 ⟨x,hx,rfl⟩)
theorem y5 (hd:gp n ds o){x:Operand}{i:Nat}(ho:o.op = .extract x i){z:AV}(h:rN (bL s.ρ x) i=some z):jc P L0 c0 n ds o s (s.set o.dst z):=by
 refine fI hd fun a c Lo lam f hn=>?_
 have hx:=bE f x
 cases heq:bL s.ρ x<;>rw [heq] at h hx<;>simp only [rN] at h<;>try (cases h; done)
 rename_i vs
 simp only [SR,VR] at hx
 obtain⟨us,qh,C4⟩:=hx
 obtain⟨v,hv,hr⟩:=C4.get i z h
 have Ns:us[i]? = some v:=by simpa using hv
 exact⟨v,by simp [execOp,ho,qh,Instr.extract,Ns],SR.of hr⟩
theorem qi {op:Value→Value→Sem Value}:∀(vs:List Value) (v r:Value) (w:World),lk P op v vs=some r→(vs.foldlM op v).run P w = .ok r w
 | [],v,r,w,h=>by simp only [lk,Vt] at h; subst h; rfl
 | x::xs,v,r,w,h=>by
  simp only [lk,Vp] at h
  obtain⟨u,h1,h2⟩:=h
  simp only [List.foldlM_cons,Sem.run_bind,ke w h1,Result.andThen_ok]
  exact qi xs u r w h2
theorem tU (hd:gp n ds o){b:Builtin}{Ad:Array TypeId}{args:Array Operand}(ho:o.op = .call {callee:=.builtin b,args:=args,argTypes:=Ad}){op:Value→Value→Sem Value}(hb:(b = .min∧op=Builtin.min2)∨(b = .max∧op=Builtin.max2))
  {x:AV} {xs:List AV} (he:args.toList.map (bL s.ρ)=x::xs) {v u:Value} {vs:List Value} (hx:x.gj=some v) (hxs:iN xs=some vs) (hf:lk P op v vs=some u) {z:AV} (hz:og u=some z):jc P L0 c0 n ds o s (s.set o.dst z):=by
 refine fI hd fun a c Lo lam f hn=>?_
 refine⟨u,?_,SR.of (mV hz)⟩
 have hne:∀q:Operand,∀k off,bL s.ρ q = .lp k off→q∉args.toList:=by
  intro q k off hq hm
  have FZ:AV.lp k off∈x::xs:=by rw [←he,←hq]; exact V8.2 ⟨q,hm,rfl⟩
  rcases VS.1 FZ with h1 | h1
  ·exact kM hx k off h1.symm
  ·have:∀(ys:List AV) (us:List Value),iN ys=some us→AV.lp k off∉ys:=by
    intro ys
    induction ys with
    | nil=>intro us _ h; cases h
    | cons y ys ih=>
     intro us hu hm
     simp only [iN,Vp] at hu
     obtain⟨u1,h2,Va,h3,_⟩:=hu
     rcases VS.1 hm with h4 | h4
     ·exact kM h2 k off h4.symm
     ·exact ih _ h3 h4
   exact this _ _ hxs h1
 have zR:=mX f args.toList (fun q hq k off h=>hne q k off h hq)
 rw [he] at zR
 have kP:args.toList.map a.eval=v::vs:=py (xs:=x::xs) (us:=v::vs) (by simp [iN,hx,hxs]) zR
 have hr:=qi vs v u c.w hf
 have hargs:args.map a.eval=(v::vs).toArray:=by rw [←kP]; apply W2; simp
 rcases hb with⟨rfl,rfl⟩| ⟨rfl,rfl⟩
 ·simp [execOp,ho,resolve,invoke,builtin,Builtin.min_,hargs,hr]
 ·simp [execOp,ho,resolve,invoke,builtin,Builtin.max_,hargs,hr]
end
end Go.R
namespace Go.R
open Go
section
variable {P:Program}{L0:Nat→Prop}{c0:Cx}{n:Nat}{ds:List Nat}{s:RS}
theorem Fr.DE {c:Cx}{Lo:Nat→Prop}{lam:Nat→Nat}{a:Act}(f:Fr L0 c Lo lam ds s a)(id:Nat) :
  Ext c Lo ⟨c.β,c.h.kill id,c.w,c.base⟩ Lo∧Fr L0 ⟨c.β,c.h.kill id,c.w,c.base⟩ Lo lam ds {s with h:=s.h.kill id} a∧(Live c.h id→RO ⟨c.β,c.h.kill id,c.w,c.base⟩ (un L0 Lo) (c.β id).1):=by
 have hg:∀i,(c.h.kill id).get i=if i=id then none else c.h.get i:=fun i=>by
  simp only [AHeap.kill,beq_nat]
  by_cases h:i=id<;>simp [h]
 have lR:∀i,Live (c.h.kill id) i→i≠id∧Live c.h i:=fun i hl=>by
  have h2:=hl.2
  rw [hg] at h2
  by_cases h:i=id
  ·rw [if_pos h] at h2; cases h2
  ·rw [if_neg h] at h2
   obtain⟨o,ho⟩:=V0.1 h2
   exact⟨h,f.rel.lt _ _ ho,h2⟩
 have e:Ext c Lo ⟨c.β,c.h.kill id,c.w,c.base⟩ Lo:=
  ⟨Wy _,fun i hi hl=>⟨(lR i hl).2,rfl,rfl⟩,Vv _,fun _ _ _ _=>.inl rfl,fun _ _=>rfl,rfl,fun i hl=>.inr ⟨i,(lR i hl).2,rfl⟩,fun _ h=>h,fun _ h=>.inl h,rfl,rfl,rfl⟩
 refine⟨e,⟨by rw [←f.h],⟨fun i o ho=>?_,fun i o ho=>?_,fun i j hi hj he=>?_,fun i hi=>?_,f.rel.bd,fun i hi=>?_,(Steady.kill c.h id).wf f.rel.ver⟩,fun t=>?_,fun k cs hb=>?_,f.inj,f.tidy,f.defers,f.Dk⟩,fun hl=>⟨fun i hi he=>?_,f.rel.out id hl⟩⟩
 ·replace ho:(c.h.kill id).get i=some o:=ho
  rw [hg] at ho
  by_cases h:i=id
  ·rw [if_pos h] at ho; cases ho
  ·rw [if_neg h] at ho; exact WC (f.rel.lt _ _ ho)
 ·replace ho:(c.h.kill id).get i=some o:=ho
  rw [hg] at ho
  by_cases h:i=id
  ·rw [if_pos h] at ho; cases ho
  ·rw [if_neg h] at ho
   exact (f.rel.obj i o ho).ext e rfl
 ·exact f.rel.inj i j (lR i hi).2 (lR j hj).2 he
 ·exact f.rel.out i (lR i hi).2
 ·exact f.rel.low i (lR i hi).2
 ·exact (f.slot t).ext e (fun _ _ _=>⟨rfl,fun h=>h⟩)
 ·have hb2:=f.box k cs hb
  exact hb2.ext e (.inl rfl)
 ·obtain⟨h1,h2⟩:=lR i hi
  exact h1 (f.rel.inj i id h2 hl he)
theorem Gs {c:Cx}{Lo:Nat→Prop}{lam:Nat→Nat}{a:Act}(f:Fr L0 c Lo lam ds s a){x y:AV}{h':AHeap}(h:BT s.h x=some (y,h')) :
  Ext c Lo ⟨c.β,h',c.w,c.base⟩ Lo∧Fr L0 ⟨c.β,h',c.w,c.base⟩ Lo lam ds {s with h:=h'} a∧(∀v,VR c (un L0 Lo) x v→VR ⟨c.β,h',c.w,c.base⟩ (un L0 Lo) y v)∧∀i,Live h' i→Live c.h i:=by
 have same:Ext c Lo ⟨c.β,s.h,c.w,c.base⟩ Lo∧Fr L0 ⟨c.β,s.h,c.w,c.base⟩ Lo lam ds {s with h:=s.h} a∧(⟨c.β,s.h,c.w,c.base⟩:Cx)=c:=by
  have e:(⟨c.β,s.h,c.w,c.base⟩:Cx)=c:=by rw [←f.h]
  rw [e]; exact⟨Ext.refl _ _,f,rfl⟩
 unfold BT at h
 split at h
 ·simp only [Vt,Vz] at h
  obtain⟨rfl,rfl⟩:=h
  obtain⟨h1,h2,h3⟩:=same
  exact⟨h1,h2,fun v hv=>by rw [h3]; exact hv,fun i hi=>by rw [f.h]; exact hi⟩
 cases x with
 | rs id off len ij=>
  simp only at h
  split at h
  ·rename_i hid
   split at h
   rotate_left
   ·cases h
   rename_i hl0
   simp only [Vt,Vz] at h
   obtain⟨rfl,rfl⟩:=h
   obtain⟨h1,h2,h3⟩:=same
   refine⟨h1,h2,fun v hv=>?_,fun i hi=>by rw [f.h]; exact hi⟩
   simp only [VR] at hv ⊢
   rcases hv with⟨_,_,_,a,rfl⟩| hv
   ·exact⟨a,0,rfl,Vv _,fun _=>rfl,.inr ⟨trivial,rfl⟩,.inl trivial⟩
   ·exact absurd hid hv.1
  rename_i j5
  rw [Vp] at h
  obtain⟨ob,ho,h⟩:=h
  cases ob with
  | map es=>cases h
  | row t cs=>cases h
  | cells cs=>
  simp only at h
  split at h
  rotate_left
  ·cases h
  rename_i hle
  simp only [Vt,Vz] at h
  obtain⟨rfl,rfl⟩:=h
  rw [←f.h] at ho
  have hl:Live c.h id:=⟨f.rel.lt _ _ ho,by simp [ho]⟩
  obtain⟨e,f',Hz⟩:=f.DE id
  have hb:(⟨c.β,s.h.kill id,c.w,c.base⟩:Cx)=⟨c.β,c.h.kill id,c.w,c.base⟩:=by rw [f.h]
  rw [hb]
  refine⟨e,f',fun v hv=>?_,fun i hi=>?_⟩
  ·simp only [VR] at hv ⊢
   rcases hv with hv | ⟨_,_,a,cap,rfl,h1,h2,h3⟩
   ·exact absurd hv.1 j5
   obtain⟨m,_,_,hc⟩:=f.rel.obj _ _ ho
   refine⟨a,cap,rfl,h1,by simp,.inl h2,?_⟩
   rcases h3 hl with⟨h4,_⟩| h4
   ·exact .inr ⟨_,_,h4,Hz hl,by simp,Cells.move e _ _ _ _ _ (fun i hi=>rfl) ((hc.drop off).take (len*ij))⟩
   ·left
    have hz:len=0:=by omega
    subst hz
    simp
  ·have zQ:=hi.2
   simp only [AHeap.kill,beq_nat] at zQ
   by_cases h:i=id
   ·simp [h] at zQ
   ·simp only [h,decide_false,cond_false] at zQ
    rw [f.h]
    obtain⟨o,J6⟩:=V0.1 zQ
    have:=f.rel.lt i o (by rw [f.h]; exact J6)
    rw [f.h] at this
    exact⟨this,zQ⟩
 | _=>cases h
theorem Ae:∀{cs:List AV} {c:Cx} {Lo:Nat→Prop} {lam:Nat→Nat} {a:Act} {s:RS} {ys:List AV} {h':AHeap},Fr L0 c Lo lam ds s a→uK s.h cs=some (ys,h')→
  Ext c Lo ⟨c.β,h',c.w,c.base⟩ Lo∧Fr L0 ⟨c.β,h',c.w,c.base⟩ Lo lam ds {s with h:=h'} a∧(∀b o,Cells c (un L0 Lo) cs b o→Cells ⟨c.β,h',c.w,c.base⟩ (un L0 Lo) ys b o)∧∀i,Live h' i→Live c.h i
 | [],c,Lo,lam,a,s,ys,h',f,h=>by
  cases h
  have e:(⟨c.β,s.h,c.w,c.base⟩:Cx)=c:=by rw [←f.h]
  rw [e]
  exact⟨Ext.refl _ _,f,fun _ _ h=>h,fun i hi=>by rw [f.h]; exact hi⟩
 | x::cs,c,Lo,lam,a,s,ys,h',f,h=>by
  simp only [uK,Vp,Vr] at h
  obtain⟨⟨y,h1⟩,hx,⟨zs,h2⟩,hz,he⟩:=h
  simp only [Vz] at he
  obtain⟨rfl,rfl⟩:=he
  obtain⟨e1,f1,v1,l1⟩:=Gs f hx
  obtain⟨e2,f2,v2,l2⟩:=Ae f1 hz
  refine⟨e1.trans e2,f2,fun b o hc=>?_,fun i hi=>l1 i (l2 i hi)⟩
  obtain⟨⟨v,q1,q2,q3⟩,hc⟩:=hc
  exact⟨⟨v,q1,q2,VR.ext e2 _ _ (v1 v q3)⟩,v2 _ _ (Cells.move e1 _ _ _ _ _ (fun i hi=>rfl) hc)⟩
theorem u6 {c:Cx}{Lo:Nat→Prop}{lam:Nat→Nat}{a:Act}(f:Fr L0 c Lo lam ds s a){k:Nat}{x y:AV}{h':AHeap}(h:jb k s.h x=some (y,h')) :
  (∀k off,x≠.lp k off)∧(∀k off,y≠.lp k off)∧∃c',c'.w=c.w∧Ext c Lo c' Lo∧Fr L0 c' Lo lam ds {s with h:=h'} a∧∀v,VR c (un L0 Lo) x v→VR c' (un L0 Lo) y v:=by
 cases k with
 | zero=>
  cases x with
  | nils=>
   simp only [jb,Vt,Vz] at h
   obtain⟨rfl,rfl⟩:=h
   refine⟨by simp,by simp,c,rfl,Ext.refl _ _,f,fun v hv=>?_⟩
   simp only [VR] at hv ⊢
   exact⟨none,0,hv,Vv _,fun _=>rfl,.inr ⟨trivial,rfl⟩,.inl trivial⟩
  | fz cs m ex=>
   simp only [jb,Vt,Vz] at h
   obtain⟨rfl,rfl⟩:=h
   refine⟨by simp,by simp,c,rfl,Ext.refl _ _,f,fun v hv=>?_⟩
   simp only [VR] at hv ⊢
   obtain⟨a,cap,rfl,h1,h2,hs,hc⟩:=hv
   exact⟨a,cap,rfl,h1,by simp,hs,hc.imp id fun ⟨b,o,ha,hr,hex,hc⟩=>⟨b,o,ha,hr,by simp,hc⟩⟩
  | rs id off len ij=>
   simp only [jb] at h
   split at h
   ·rename_i hid
    split at h
    rotate_left
    ·cases h
    rename_i hl0
    simp only [Vt,Vz] at h
    obtain⟨rfl,rfl⟩:=h
    refine⟨by simp,by simp,c,rfl,Ext.refl _ _,f,fun v hv=>?_⟩
    simp only [VR] at hv ⊢
    rcases hv with⟨_,_,_,a,rfl⟩| hv
    ·exact⟨a,0,rfl,Vv _,fun _=>rfl,.inr ⟨trivial,rfl⟩,.inl trivial⟩
    ·exact absurd hid hv.1
   rename_i j5
   rw [Vp] at h
   obtain⟨ob,ho,h⟩:=h
   cases ob with
   | map es=>cases h
   | row t cs=>cases h
   | cells cs=>
   simp only at h
   split at h
   rotate_left
   ·cases h
   rename_i hle
   rw [Vr] at h
   obtain⟨⟨fi,h2⟩,hz,he⟩:=h
   simp only [Vz] at he
   obtain⟨rfl,rfl⟩:=he
   rw [←f.h] at ho
   have hl:Live c.h id:=⟨f.rel.lt _ _ ho,by simp [ho]⟩
   obtain⟨e,f',Hz⟩:=f.DE id
   obtain⟨e2,f2,hcs,lR⟩:=Ae f' hz
   refine⟨by simp,by simp,⟨c.β,h2,c.w,c.base⟩,rfl,e.trans e2,f2,fun v hv=>?_⟩
   simp only [VR] at hv ⊢
   rcases hv with hv | ⟨_,_,a,cap,rfl,h1,h2,h3⟩
   ·exact absurd hv.1 j5
   obtain⟨m,_,_,hc⟩:=f.rel.obj _ _ ho
   refine⟨a,cap,rfl,h1,by simp,.inl h2,?_⟩
   rcases h3 hl with⟨h4,_⟩| h4
   ·exact .inr ⟨_,_,h4,⟨fun i hi=>(Hz hl).1 i (lR i hi),(Hz hl).2⟩,by simp,hcs _ _ (Cells.move e _ _ _ _ _ (fun i hi=>rfl) ((hc.drop off).take (len*ij)))⟩
   ·left
    have hz0:len=0:=by omega
    subst hz0
    simp [uK] at hz
    exact hz.1
  | _=>simp [jb] at h
 | succ k=>
  have key:(x = .nils∨x = .fz [] 0 true)→y = .rs 0 0 0 (k+1)→h'=s.h→(∀k off,x≠.lp k off)∧(∀k off,y≠.lp k off)∧∃c',c'.w=c.w∧Ext c Lo c' Lo∧Fr L0 c' Lo lam ds {s with h:=h'} a∧∀v,VR c (un L0 Lo) x v→VR c' (un L0 Lo) y v:=by
   rintro hx rfl rfl
   refine⟨by rcases hx with rfl | rfl<;>simp,by simp,c,rfl,Ext.refl _ _,f,fun v hv=>?_⟩
   rcases hx with rfl | rfl
   ·simp only [VR] at hv ⊢
    exact .inl ⟨trivial,trivial,trivial,none,hv⟩
   ·simp only [VR] at hv ⊢
    obtain⟨a,cap,rfl,h1,h2,hs,hc⟩:=hv
    have:=h2 trivial
    subst this
    exact .inl ⟨trivial,trivial,trivial,a,rfl⟩
  unfold jb at h
  simp only at h
  split at h
  ·simp only [Vt,Vz] at h
   exact key (.inl rfl) h.1.symm h.2.symm
  ·simp only [Vt,Vz] at h
   exact key (.inr rfl) h.1.symm h.2.symm
  ·simp only [Vt,Vz] at h
   obtain⟨rfl,rfl⟩:=h
   exact⟨by simp,by simp,c,rfl,Ext.refl _ _,f,fun v hv=>hv⟩
  ·cases h
end
end Go.R
namespace Go.R
open Go
def CallOK (P:Program)(cf:CallF):Prop:=
 ∀f args h r h',cf f args h=some (r,h')→
  (∀(vs:Array Value) (w:World),(callFunc f vs).run P w = .ok (.enter f vs) w)∧
  ∀(L0:Nat→Prop) (c:Cx) (vs:List Value),c.h=h→c.base≤c.w.heap.size→HRel c L0→VRs c L0 args vs→
   Calls P f vs.toArray c.w fun e w'=>∃c' v,e = .returned v∧c'.w=w'∧c'.h=h'∧VR c' L0 r v∧HRel c' L0∧Ext c none0 c' none0
section
variable {P:Program}{L0:Nat→Prop}{c0:Cx}{n:Nat}{ds:List Nat}{o:Oper}{s:RS}
theorem Fr.call {c c':Cx}{Lo:Nat→Prop}{lam:Nat→Nat}{a:Act}(f:Fr L0 c Lo lam ds s a)(hr:HRel c' (un L0 Lo))(e:Ext c none0 c' none0) :
  Ext c Lo c' Lo∧Fr L0 c' Lo lam ds {s with h:=c'.h} a:=by
 have p8:∀b,Lo b→b<c.w.heap.size:=fun b hb=>f.rel.bd b (.inr hb)
 have e':Ext c Lo c' Lo:=
  ⟨e.next,e.live,e.size,fun b h1 _ h3=>e.keep b h1 (fun h=>h.elim) h3,e.exact,e.base,e.Ge,fun _ h=>h,fun _ h=>.inl h,e.os,e.tape,e.output⟩
 refine⟨e',rfl,hr,fun t=>(f.slot t).ext e' (fun _ _ _=>⟨rfl,fun h=>h⟩),fun k cs hb=>?_,f.inj,f.tidy,f.defers,fun b hb=>by rw [e.base]; exact f.Dk b hb⟩
 have ob:=f.box k cs hb
 exact ob.ext e' (e.keep _ ob.plain.lt (fun h=>h.elim) fun id hl he=>f.rel.out id hl (he ▸ .inr ob.own))
theorem Gt {cf:CallF}(hcf:CallOK P cf)(hb0:c0.base≤c0.w.heap.size)(hd:gp n ds o){fx:Operand}{args:Array Operand}{Ad:Array TypeId}(ho:o.op = .call {callee:=.value fx,args:=args,argTypes:=Ad}){y4:FuncId}{cap:List AV}
  (hf:bL s.ρ fx = .fn y4 cap) (ha:(args.toList.map (bL s.ρ)).all AV.kF=true) {r:AV} {h':AHeap} (h:cf y4 (args.toList.map (bL s.ρ)++cap) s.h=some (r,h')) {aE:List Nat} {y:AV} {h2:AHeap} (hy:uL aE o.dst (r,h')=some (y,h2)) :
  jc P L0 c0 n ds o s ({s with h:=h2}.set o.dst y):=by
 rintro a w K Q ⟨hn,c,Lo,lam,rfl,f,e0⟩ hK
 obtain⟨hin,hcall⟩:=hcf _ _ _ _ _ h
 have Nt:=bE f fx
 rw [hf] at Nt
 simp only [SR,VR] at Nt
 obtain⟨cv,SA,KC⟩:=Nt
 have hargs:VRs c (un L0 Lo) (args.toList.map (bL s.ρ)) (args.toList.map a.eval):=by
  refine mX f _ fun x hx=>r9 ?_
  rw [VK] at ha
  exact ha _ (V8.2 ⟨x,hx,rfl⟩)
 have kP:=VRs.append hargs KC
 unfold Oper.wp
 have:(execOp a.eval o).run P c.w = .ok (.enter y4 (args.map a.eval++cv)) c.w:=by
  simp [execOp,ho,resolve,SA,Deferred.ofValue,invoke,hin]
 rw [this,Oper.upon_enter]
 have hc:=hcall (un L0 Lo) c _ f.h (ja e0 hb0) f.rel kP
 have he:(args.toList.map a.eval++cv.toList).toArray=args.map a.eval++cv:=by
  apply W2; simp
 rw [he] at hc
 refine Calls.mono hc ?_
 rintro e w' ⟨c',v,rfl,rfl,hh,hv,hrel,Is⟩
 obtain⟨e',f'⟩:=f.call hrel Is
 rw [hh] at f'
 have fin:y=r→h2=h'→K (a.put o.dst v) c'.w:=by
  rintro rfl rfl
  exact hK _ _ ⟨(gm _ _ _).trans hn,c',Lo,lam,rfl,f'.set (SR.of hv) (fun t ht=>by rw [hn]; exact hd t ht),e0.trans e'⟩
 unfold uL at hy
 cases hm:Ks aE o.dst with
 | false=>rw [hm,cond_false] at hy; cases hy; exact fin rfl rfl
 | true=>
  rw [hm,cond_true] at hy
  obtain⟨_,_,c2,hw,e2,f2,If⟩:=u6 (s:={s with h:=h'}) f' hy
  have MX:=If v hv
  refine hK _ _ ⟨(gm _ _ _).trans hn,c2,Lo,lam,hw,f2.set (SR.of MX) (fun t ht=>by rw [hn]; exact hd t ht),(e0.trans e').trans e2⟩
theorem Option.map_some' {α β:Type}{x:Option α}{g:α→β}{y:β}(h:x.map g=some y):∃z,x=some z∧g z=y:=Vr.1 h
theorem tV {aE:List Nat}{cs:List AV}{s':RS}(h:ic s aE ds o cs=some s'):cs.all AV.bR=true:=by
 unfold ic at h
 split at h
 ·assumption
 ·cases h
theorem It {cf:CallF}(hcf:CallOK P cf)(hb0:c0.base≤c0.w.heap.size)(hd:gp n ds o){aE:List Nat}{s':RS}(h:uM P cf aE ds s o=some s'):jc P L0 c0 n ds o s s':=by
 have dT:∀{x:Option AV},(x.map fun x=>s.set o.dst x)=some s'→(∀z,x=some z→jc P L0 c0 n ds o s (s.set o.dst z))→jc P L0 c0 n ds o s s':=by
  intro x hx hz
  obtain⟨z,rfl,rfl⟩:=Option.map_some' hx
  exact hz z rfl
 unfold uM yM at h
 dsimp only at h
 split at h
 ·rename_i x ho; cases h; exact Ac hd (.inl ho)
 ·rename_i x ho; cases h; exact Ac hd (.inr ho)
 ·rename_i k x y ho
  obtain⟨t,ht,rfl⟩:=Option.map_some' h
  exact Gr hd ho ht
 ·
  rename_i t ho
  rw [Vp] at h
  obtain⟨z,hz,h⟩:=h
  refine tR hb0 hd t h fun a c Lo lam f hn=>?_
  have n9:=tV h
  obtain⟨v,h1,h2,h3⟩:=B0 (P:=P) (c:=c) hz (Gk n9) (un L0 Lo)
  exact⟨v,by simp [execOp,ho,h1],zX h2,h3⟩
 ·
  rename_i t x ho
  refine tR hb0 hd t h fun a c Lo lam f hn=>?_
  have n9:(bL s.ρ x).cells.all AV.bR=true:=tV h
  obtain⟨h1,h2⟩:=iD n9 ((bE f x).rl n9)
  exact⟨a.eval x,by simp [execOp,ho,Instr.box,newVar,newRow],h1,h2⟩
 ·rename_i t ps ho
  refine dT h fun z hz=>fI hd fun a c Lo lam f hn=>?_
  obtain⟨z0,hz0,rfl⟩:=Vr.1 hz
  obtain⟨v,hr,hv⟩:=run_build (P:=P) (ov f ps.toList) hz0
  refine⟨v,?_,SR.of (Gj hv)⟩
  have he:ps.map (fun (i,x)=>(i,a.eval x))=(ps.toList.map fun (i,x)=>(i,a.eval x)).toArray:=by
   apply W2; simp
  simp only [execOp,ho,Sem.run_bind]
  rw [he,hr]
  rfl
 ·rename_i t k ps ho
  rw [Vr] at h
  obtain⟨z,hz,rfl⟩:=h
  exact rZ hb0 hd ho aE hz
 ·
  rename_i t x ho
  refine dT h fun z hz=>fI hd fun a c Lo lam f hn=>?_
  obtain⟨r,hr,hv⟩:=rR (P:=P) f (t:=t) (bE f x) hz
  exact⟨r,by simp [execOp,ho,hr],SR.of hv⟩
 ·
  rename_i t x y ho
  split at h
  ·cases h
  rename_i qF
  exact Du hb0 hd ho (by simpa using qF) h
 ·rename_i ho; exact dT h fun z hz=>wM hd ho hz
 ·rename_i ho; exact dT h fun z hz=>DD hd ho hz
 ·rename_i ho; exact dT h fun z hz=>Gq hd ho hz
 ·rename_i ho; exact dT h fun z hz=>yY hb0 hd ho hz
 ·rename_i y4 first cap ho
  split at h
  ·rename_i hh
   refine dT h fun z hz=>?_
   cases hz
   exact wN hd ho hh.1 hh.2
  ·cases h
 ·rename_i ho; cases h; exact yV hb0 hd ho
 ·rename_i ho; exact uT hb0 hd ho h
 ·
  rename_i t x lo hi mx ho
  refine dT h fun z hz=>fI hd fun a c Lo lam f hn=>?_
  have hs:∀(q:Option Operand) (y:AV),q.map (bL s.ρ)=some y→∃v,q.map a.eval=some v∧SR c L0 Lo lam s.bx y v:=by
   intro q y hq
   obtain⟨u,rfl,rfl⟩:=Option.map_some' hq
   exact⟨_,rfl,bE f u⟩
  have J7:∀(q:Option Operand),q.map (bL s.ρ)=none→q.map a.eval=none:=by
   intro q hq
   simpa using hq
  obtain⟨r,hr,hv⟩:=yT (P:=P) (bE f x) (hs lo) (J7 lo) (hs hi) (J7 hi) (hs mx) (J7 mx) hz
  exact⟨r,by simp [execOp,ho,hr],SR.of hv⟩
 ·rename_i t x i ho
  refine dT h fun z hz=>fI hd fun a c Lo lam f hn=>?_
  obtain⟨r,hr,hv⟩:=wB (P:=P) (bE f x) hz
  exact⟨r,by simp [execOp,ho,hr],hv⟩
 ·rename_i t x i ho
  refine dT h fun z hz=>fI hd fun a c Lo lam f hn=>?_
  obtain⟨r,hr,hv⟩:=yR (P:=P) (bE f x) hz
  exact⟨r,by simp [execOp,ho,hr],SR.of hv⟩
 ·rename_i t x i ho
  refine dT h fun z hz=>fI hd fun a c Lo lam f hn=>?_
  obtain⟨r,hr,hv⟩:=wA (P:=P) (bE f x) (bE f i) hz
  exact⟨r,by simp [execOp,ho,hr],hv⟩
 ·rename_i t x i ho
  refine dT h fun z hz=>fI hd fun a c Lo lam f hn=>?_
  obtain⟨r,hr,hv⟩:=yS (P:=P) (bE f x) (bE f i) hz
  exact⟨r,by simp [execOp,ho,hr],SR.of hv⟩
 ·rename_i t m k ok ho
  refine dT h fun z hz=>fI hd fun a c Lo lam f hn=>?_
  obtain⟨r,hr,hv⟩:=wG (P:=P) f (bE f m) (bE f k) hz
  exact⟨r,by simp [execOp,ho,hr],SR.of hv⟩
 ·rename_i t m k x ho
  split at h
  ·cases h
  rename_i qF
  obtain⟨h',hh,rfl⟩:=Option.map_some' h
  exact ox hb0 (.inl ho) (by simpa using qF) hh
 ·rename_i t m k x ho
  split at h
  ·cases h
  rename_i qF
  obtain⟨h',hh,rfl⟩:=Option.map_some' h
  exact ox hb0 (.inr ho) (by simpa using qF) hh
 ·rename_i ho; exact dT h fun z hz=>y5 hd ho hz
 ·
  rename_i b args Ad ho
  unfold fP at h
  split at h
  ·rename_i t x hts hargs
   have y6:Ad = #[t]:=by apply W2; simpa using hts
   obtain⟨q,hq,rfl⟩:∃q,args = #[q]∧bL s.ρ q=x:=by
    cases args with | mk l=>
    rcases l with _ | ⟨q,_ | ⟨q2,l⟩⟩<;>simp at hargs
    exact⟨q,rfl,hargs⟩
   subst y6 hq
   refine dT h fun z hz=>fI hd fun a c Lo lam f hn=>?_
   obtain⟨r,hr,hv⟩:=Dr (P:=P) f #[t] rfl (bE f q) hz o.type
   exact⟨r,by simp [execOp,ho,resolve,invoke,builtin,hr],SR.of hv⟩
  ·rename_i t t2 x y hts hargs
   have y6:Ad = #[t,t2]:=by apply W2; simpa using hts
   obtain⟨q,q2,hq,rfl,rfl⟩:∃q q2,args = #[q,q2]∧bL s.ρ q=x∧bL s.ρ q2=y:=by
    cases args with | mk l=>
    rcases l with _ | ⟨q,_ | ⟨q2,_ | ⟨q3,l⟩⟩⟩<;>simp at hargs
    exact⟨q,q2,rfl,hargs.1,hargs.2⟩
   subst y6 hq
   exact B1 hb0 hd ho h
  ·rename_i t t2 x y hts hargs
   have y6:Ad = #[t,t2]:=by apply W2; simpa using hts
   obtain⟨q,q2,hq,rfl,rfl⟩:∃q q2,args = #[q,q2]∧bL s.ρ q=x∧bL s.ρ q2=y:=by
    cases args with | mk l=>
    rcases l with _ | ⟨q,_ | ⟨q2,_ | ⟨q3,l⟩⟩⟩<;>simp at hargs
    exact⟨q,q2,rfl,hargs.1,hargs.2⟩
   subst y6 hq
   obtain⟨⟨z,h'⟩,hh,rfl⟩:=Option.map_some' h
   exact Gn hb0 hd ho hh
  ·rename_i t x hts hargs
   have y6:Ad = #[t]:=by apply W2; simpa using hts
   obtain⟨q,hq,rfl⟩:∃q,args = #[q]∧bL s.ρ q=x:=by
    cases args with | mk l=>
    rcases l with _ | ⟨q,_ | ⟨q2,l⟩⟩<;>simp at hargs
    exact⟨q,rfl,hargs⟩
   subst y6 hq
   obtain⟨h',hh,rfl⟩:=Option.map_some' h
   exact DA hb0 hd ho hh
  ·rename_i x xs hargs
   rw [Vp] at h
   obtain⟨v,hv,h⟩:=h
   rw [Vp] at h
   obtain⟨vs,C4,h⟩:=h
   rw [Vp] at h
   obtain⟨u,hu,h⟩:=h
   exact dT h fun z hz=>tU hd ho (.inl ⟨rfl,rfl⟩) hargs hv C4 hu hz
  ·rename_i x xs hargs
   rw [Vp] at h
   obtain⟨v,hv,h⟩:=h
   rw [Vp] at h
   obtain⟨vs,C4,h⟩:=h
   rw [Vp] at h
   obtain⟨u,hu,h⟩:=h
   exact dT h fun z hz=>tU hd ho (.inr ⟨rfl,rfl⟩) hargs hv C4 hu hz
  ·cases h
 ·
  rename_i fx args Ad ho
  split at h
  ·rename_i y4 cap heq
   split at h
   ·rename_i ha
    obtain⟨⟨r,h'⟩,hh,rfl⟩:=Option.map_some' h
    rw [Vp] at hh
    obtain⟨⟨r0,h0⟩,hh,hm⟩:=hh
    exact Gt hcf hb0 hd ho heq ha hh hm
   ·cases h
  ·cases h
 ·cases h
end
end Go.R
namespace Go.R
open Go
section
variable {P:Program}{L0:Nat→Prop}{c0:Cx}{n:Nat}{ds:List Nat}{s:RS}
theorem pD {h:AHeap}:∀{cs:List AV},cJ cs=true→uK h cs=some (cs,h)
 | [],_=>rfl
 | x::cs,hn=>by
  simp only [cJ,Vu] at hn
  simp only [uK,BT,hn.1,if_true,Vq,pD hn.2,Vw]
theorem wO {h h':AHeap}{x y:AV}(hz:BT h x=some (y,h')):Steady h h':=by
 unfold BT at hz
 split at hz
 ·cases hz; exact Steady.refl _
 split at hz
 ·split at hz
  ·split at hz
   ·cases hz; exact Steady.refl _
   ·cases hz
  rw [Vp] at hz
  obtain⟨o,_,hz⟩:=hz
  split at hz
  ·split at hz
   ·cases hz; exact Steady.kill _ _
   ·cases hz
  ·cases hz
 ·cases hz
theorem qm:∀{cs ys:List AV} {h h':AHeap},uK h cs=some (ys,h')→Steady h h'
 | [],ys,h,h',hz=>by cases hz; exact Steady.refl _
 | x::cs,ys,h,h',hz=>by
  simp only [uK,Vp,Vr] at hz
  obtain⟨⟨y,h1⟩,hx,⟨zs,h2⟩,hz,he⟩:=hz
  simp only [Vz] at he
  obtain⟨rfl,rfl⟩:=he
  exact (wO hx).trans (qm hz)
theorem Inv.uP {a:Act}{w:World}{p:Nat × Option Nat × Nat}{s':RS}(hi:Inv L0 c0 n ds s a w)(h:uP s p=some s'):Inv L0 c0 n ds s' a w:=by
 obtain⟨hn,c,Lo,lam,rfl,f,e⟩:=hi
 unfold Go.R.uP at h
 split at h
 ·rw [Vr] at h
  obtain⟨⟨y,h'⟩,hz,rfl⟩:=h
  obtain⟨hx,hy,c',hw,e',f',hv⟩:=u6 f hz
  refine⟨hn,c',Lo,lam,hw,⟨f'.h,f'.rel,fun t=>?_,f'.box,f'.inj,fun t k off ht he=>?_,f'.defers,f'.Dk⟩,e.trans e'⟩
  ·simp only [beq_nat]
   by_cases ht:t=p.1
   ·subst ht
    simp only [decide_true,cond_true]
    exact SR.of (hv _ ((f.slot _).vr hx))
   ·simp only [ht,decide_false,cond_false]
    exact f'.slot t
  ·simp only [beq_nat] at he
   by_cases Qo:t=p.1
   ·simp only [Qo,decide_true,cond_true] at he
    exact absurd he (hy _ _)
   ·simp only [Qo,decide_false,cond_false] at he
    exact f'.tidy t k off ht he
 ·rename_i i hp
  split at h
  rotate_left
  ·cases h
  rename_i cs hcs
  simp only [Vp,Vr] at h
  obtain⟨x,hx,⟨y,h'⟩,hz,rfl⟩:=h
  obtain⟨hx1,hy,c',hw,e',f',hv⟩:=u6 f hz
  have qH:∀k,(bif V5 k p.1 then some (cs.set i y) else s.bx k).isSome=(s.bx k).isSome:=fun k=>by
   simp only [beq_nat]
   by_cases hk:k=p.1
   ·subst hk; simp [hcs]
   ·simp [hk]
  refine⟨hn,c',Lo,lam,hw,⟨f'.h,f'.rel,fun t=>?_,fun k fi hb=>?_,fun k k' h1 h2=>f'.inj k k' (by rw [←qH]; exact h1) (by rw [←qH]; exact h2),f'.tidy,f'.defers,f'.Dk⟩,e.trans e'⟩
  ·have:=f'.slot t
   unfold SR at this ⊢
   split
   ·rename_i k off he
    rw [he] at this
    simp only at this
    exact⟨this.1,by rw [qH]; exact this.2⟩
   ·rename_i x' Gp
    split at this
    ·rename_i he; exact absurd he (Gp _ _)
    ·exact this
  ·simp only [beq_nat] at hb
   by_cases hk:k=p.1
   ·subst hk
    simp only [decide_true,cond_true,Vt] at hb
    subst hb
    have ob:=f.box _ cs hcs
    have Nu:=f'.box _ cs hcs
    refine⟨Nu.own,by rw [VC]; exact Nu.plain,?_⟩
    obtain⟨vs,q1,q2,q3⟩:=ob.cells.vals
    obtain⟨SB,r1,r2,r3⟩:=Nu.cells.vals
    have hlen:vs=SB:=by
     apply WQ
     intro j
     by_cases hj:j<cs.length
     ·rw [←q2 j hj,←r2 j hj,hw]
     ·rw [V1 (by rw [←q1.length]; omega),V1 (by rw [←r1.length]; omega)]
    subst hlen
    obtain⟨u,hu,hr⟩:=VRs.get q1 i x hx
    have DC:VRs c' (un L0 Lo) (cs.set i y) vs:=by
     have:=VRs.set (hv u hr) i r1
     have J3:vs.set i u=vs:=by
      apply WQ
      intro j
      rw [WR]
      by_cases hji:i=j
      ·subst hji
       rw [if_pos rfl,hu]
       have:=(Vy.1 hu).1
       simp [this]
      ·rw [if_neg hji]
     rwa [J3] at this
    exact Cells.of_vals DC (fun j hj=>by rw [r2 j (by rw [r1.length]; exact hj)]) r3
   ·simp only [hk,decide_false,cond_false] at hb
    exact f'.box k fi hb
theorem Inv.kH {a:Act}{w:World}:∀{l:List (Nat × Option Nat × Nat)} {s s':RS},Inv L0 c0 n ds s a w→kH s l=some s'→Inv L0 c0 n ds s' a w
 | [],s,s',hi,h=>by cases h; exact hi
 | p::ps,s,s',hi,h=>by
  simp only [Go.R.kH,Vp] at h
  obtain⟨s1,h1,h2⟩:=h
  exact Inv.kH (hi.uP h1) h2
theorem Gu {A:b5}{r:Nat}{s:RS}:(s.mj A r).h=s.h:=by
 unfold RS.mj
 split<;>rfl
theorem mr {k:Nat}{h h':AHeap}{x y:AV}(hz:jb k h x=some (y,h')):Steady h h':=by
 unfold jb at hz
 split at hz
 ·split at hz
  ·cases hz; exact Steady.refl _
  ·split at hz
   ·split at hz
    ·cases hz; exact Steady.refl _
    ·cases hz
   rw [Vp] at hz
   obtain⟨o,_,hz⟩:=hz
   split at hz
   ·split at hz
    ·rw [Vr] at hz
     obtain⟨⟨fi,h2⟩,hz,he⟩:=hz
     simp only [Vz] at he
     obtain⟨rfl,rfl⟩:=he
     exact (Steady.kill _ _).trans (qm hz)
    ·cases hz
   ·cases hz
  ·cases hz; exact Steady.refl _
  ·cases hz
 ·split at hz<;>cases hz<;>exact Steady.refl _
theorem wP {s s':RS}{p:Nat × Option Nat × Nat}(hz:uP s p=some s'):Steady s.h s'.h:=by
 unfold uP at hz
 split at hz
 ·rw [Vr] at hz
  obtain⟨⟨y,h'⟩,hz,rfl⟩:=hz
  exact mr hz
 ·split at hz
  ·simp only [Vp,Vr] at hz
   obtain⟨x,hx,⟨y,h'⟩,hz,rfl⟩:=hz
   exact mr hz
  ·cases hz
theorem mu:∀{l:List (Nat × Option Nat × Nat)} {s s':RS},kH s l=some s'→Steady s.h s'.h
 | [],s,s',h=>by cases h; exact Steady.refl _
 | p::ps,s,s',h=>by
  simp only [kH,Vp] at h
  obtain⟨s1,h1,h2⟩:=h
  exact (wP h1).trans (mu h2)
end
end Go.R
namespace Go.R
open Go
section
variable {P:Program}{L0:Nat→Prop}{c0:Cx}{n:Nat}{ds:List Nat}{o:Oper}{s:RS}
theorem B4 {ops:Array Oper}{c:Cx}{Lo:Nat→Prop}{lam:Nat→Nat}{a:Act}(f:Fr L0 c Lo lam ds s a){b:Bool}(h:gP ops.toList s.ρ o=some b):Region.wanted o (yielded ops a.tmps)=b:=by
 unfold gP at h
 unfold Region.wanted
 split at h
 ·rename_i hg; rw [hg]; cases h; rfl
 ·rename_i j want hg
  rw [hg]
  rw [Vp] at h
  obtain⟨d,hd,h⟩:=h
  have F0:(ops[j]?).bind (·.dst)=some d:=by simpa using hd
  have hs:=f.slot d
  simp only [yielded,F0,Vq]
  rw [Array.getD_eq_getD_getElem?] at hs
  split at h
  ·rename_i b' hb
   cases h
   rw [hb] at hs
   simp only [SR,VR] at hs
   cases hq:a.tmps[d]? with
   | none=>rw [hq] at hs; simp [undef] at hs
   | some v=>
    rw [hq] at hs
    simp only [Wl] at hs
    subst hs
    cases b'<;>cases want<;>rfl
  ·rename_i hb
   cases h
   rw [hb] at hs
   simp only [SR,VR] at hs
   obtain⟨vs,hv,_⟩:=hs
   cases hq:a.tmps[d]? with
   | none=>rfl
   | some v=>
    rw [hq] at hv
    simp only [Wl] at hv
    subst hv
    rfl
  ·cases h
theorem wQ {cf:CallF}(hcf:CallOK P cf)(hb0:c0.base≤c0.w.heap.size){ops:Array Oper}(Iu:ds=ops.toList.filterMap (·.dst))(hd:gp n ds o){aE:List Nat}{s':RS}(h:mi P cf aE ops.toList s o=some s')
  {a:Act} {w:World} {K:Act→World→Prop} {Q:Exit→Act→World→Prop} (hi:Inv L0 c0 n ds s a w) (hK:∀a' w',Inv L0 c0 n ds s' a' w'→K a' w') :
  if Region.wanted o (yielded ops a.tmps) then o.wp P a w K Q else K (a.put o.dst undef) w:=by
 unfold mi at h
 rw [Vp] at h
 obtain⟨b,hb,h⟩:=h
 have SC:=hi
 obtain⟨hn,c,Lo,lam,rfl,f,e⟩:=hi
 rw [B4 f hb]
 cases b with
 | true=>
  simp only [if_true] at h ⊢
  rw [←Iu] at h
  exact It hcf hb0 hd h a c.w K Q SC hK
 | false=>
  simp only [VB,if_false,Vt] at h ⊢
  subst h
  exact hK _ _ ⟨(gm _ _ _).trans hn,c,Lo,lam,rfl,f.set (SR.of (by simp [VR,undef,VRs])) (fun t ht=>by rw [hn]; exact hd t ht),e⟩
def tW (n:Nat)(ops:List Oper):Bool:=ops.all fun o=>match o.dst with | some t=>Nat.blt t n | none=>true
theorem wR {ops:List Oper}(h:tW n ops=true){o:Oper}(ho:o∈ops):gp n (ops.filterMap (·.dst)) o:=by
 intro t ht
 unfold tW at h
 rw [VK] at h
 have:=h o ho
 rw [ht] at this
 exact⟨Nat.blt_eq.mp this,List.mem_filterMap.2 ⟨o,ho,ht⟩⟩
theorem Af {cf:CallF}(hcf:CallOK P cf)(hb0:c0.base≤c0.w.heap.size){ops:Array Oper}(Iu:ds=ops.toList.filterMap (·.dst))(FX:tW n ops.toList=true){aE:List Nat}{Q:Exit→Act→World→Prop}{s':RS}(hQ:∀a' w',Inv L0 c0 n ds s' a' w'→Q .normal a' w') :
  ∀(l:List Oper) (s:RS),(∀o∈l,o∈ops.toList)→qD P cf aE ops.toList s l=some s'→∀a w,Inv L0 c0 n ds s a w→wpList P ops Q l a w
 | [],s,_,h,a,w,hi=>by
  simp only [qD,Vt] at h
  subst h
  exact wpList_nil (hQ a w hi)
 | o::l,s,hl,h,a,w,hi=>by
  simp only [qD,Vp] at h
  obtain⟨s1,h1,h2⟩:=h
  refine wpList_step fun K hK=>?_
  exact wQ hcf hb0 Iu (by rw [Iu]; exact wR FX (hl o (by simp))) h1 hi fun a' w' jI=>hK a' w' (Af hcf hb0 Iu FX hQ l s1 (fun o ho=>hl o (by simp [ho])) h2 a' w' jI)
theorem iG {α:Type}(d:α):∀(ks:List Nat) (g:Nat→α) (t:Nat),look d ks (ks.map g) t=if t∈ks then g t else d
 | [],g,t=>rfl
 | k::ks,g,t=>by
  simp only [VU,look,beq_nat,iG d ks g t,VS]
  by_cases h:t=k
  ·subst h; simp
  ·simp [h]
theorem Fr.forget {c:Cx}{Lo:Nat→Prop}{lam:Nat→Nat}{a:Act}(f:Fr L0 c Lo lam ds s a){s2:RS}(hh:s2.h=s.h)(hb:∀k cs,s2.bx k=some cs→s.bx k=some cs)
  (hr:∀t,s2.ρ t = .any∨s2.ρ t=s.ρ t∧∀k off,s.ρ t = .lp k off→k=t∧((s.bx k).isSome=true→(s2.bx k).isSome=true)):Fr L0 c Lo lam [] s2 a:=by
 refine⟨f.h.trans hh.symm,f.rel,fun t=>?_,fun k cs h=>f.box k cs (hb k cs h),fun k k' h h'=>f.inj k k' ?_ ?_,fun t k off _ he=>?_,f.defers,f.Dk⟩
 ·rcases hr t with h | ⟨h,h2⟩
  ·rw [h]; exact SR.of (by simp [VR])
  ·rw [h]
   have hs:=f.slot t
   cases hx:s.ρ t<;>rw [hx] at hs<;>try exact hs
   rename_i k off
   simp only [SR] at hs ⊢
   exact⟨hs.1,(h2 k off hx).2 hs.2⟩
 ·obtain⟨cs,hcs⟩:=V0.1 h; rw [hb k cs hcs]; rfl
 ·obtain⟨cs,hcs⟩:=V0.1 h'; rw [hb k' cs hcs]; rfl
 ·rcases hr t with h | ⟨h,h2⟩
  ·rw [h] at he; cases he
  ·exact (h2 k off (h ▸ he)).1
theorem Inv.shut {a:Act}{w:World}(A:b5)(h:Inv L0 c0 n ds s a w):Inv L0 c0 n [] ((s.shut A).open A) a w:=by
 obtain⟨hn,c,Lo,lam,rfl,f,e⟩:=h
 refine⟨hn,c,Lo,lam,rfl,f.forget rfl (fun k cs hk=>?_) (fun t=>?_),e⟩
 ·simp only [RS.shut,St.open,iG] at hk
  split at hk
  ·exact hk
  ·cases hk
 ·simp only [RS.shut,St.open,iG]
  split
  ·unfold wu
   cases hx:s.ρ t<;>simp only<;>try (right; exact⟨trivial,fun k off he=>by cases he⟩)
   rename_i k off
   cases hc:(V5 k t&&V5 off 0&&A.aE.contains k) with
   | false=>left; rfl
   | true=>
    right
    simp only [Vu,beq_nat,decide_eq_true_eq,List.contains_iff_mem] at hc
    refine⟨rfl,fun k' SD he=>?_⟩
    cases he
    refine⟨hc.1.1,fun hs=>?_⟩
    rw [if_pos hc.2]
    exact hs
  ·left; rfl
theorem Inv.mj {a:Act}{w:World}(A:b5)(r:Nat)(h:Inv L0 c0 n ds s a w):Inv L0 c0 n [] ((s.mj A r).open A) a w:=by
 unfold RS.mj
 split
 ·exact h.shut A
 rename_i dl _
 have h2:=h.shut A
 obtain⟨hn,c,Lo,lam,hw,f,e⟩:=h2
 have KB:∀k,(St.open A {vars:=A.keep.map (fun t=>bif (fV r A.dead).contains t then .any else wu A.aE s.ρ t),J1:=A.aE.map (fun k=>bif (fV r A.dead).contains k then none else s.bx k),h:=s.h}).bx k=bif (fV r A.dead).contains k then none else (St.open A (s.shut A)).bx k:=by
  intro k
  simp only [RS.shut,St.open,iG]
  cases (fV r A.dead).contains k<;>simp
 refine⟨hn,c,Lo,lam,hw,f.forget rfl (fun k cs hk=>?_) (fun t=>?_),e⟩
 ·rw [KB] at hk
  cases hc:(fV r A.dead).contains k with
  | true=>rw [hc] at hk; cases hk
  | false=>rw [hc] at hk; exact hk
 ·have hv:(St.open A {vars:=A.keep.map (fun t=>bif (fV r A.dead).contains t then .any else wu A.aE s.ρ t),J1:=A.aE.map (fun k=>bif (fV r A.dead).contains k then none else s.bx k),h:=s.h}).ρ t=bif (fV r A.dead).contains t then .any else (St.open A (s.shut A)).ρ t:=by
   simp only [RS.shut,St.open,iG]
   cases (fV r A.dead).contains t<;>simp
  rw [hv]
  cases hc:(fV r A.dead).contains t with
  | true=>left; rfl
  | false=>
   right
   refine⟨rfl,fun k off he=>?_⟩
   have Gm:k=t:=f.tidy t k off (by simp) he
   refine⟨Gm,fun hs=>?_⟩
   rw [KB,Gm,hc]
   rw [Gm] at hs
   exact hs
theorem Inv.wide {a:Act}{w:World}(h:Inv L0 c0 n [] s a w)(ds:List Nat):Inv L0 c0 n ds s a w:=by
 obtain⟨hn,c,Lo,lam,rfl,f,e⟩:=h
 exact⟨hn,c,Lo,lam,rfl,⟨f.h,f.rel,f.slot,f.box,f.inj,fun t k off _ he=>f.tidy t k off (by simp) he,f.defers,f.Dk⟩,e⟩
theorem Inv.drew {a:Act}{w:World}(h:Inv L0 c0 n ds s a w):Inv L0 c0 n ds s a {w with drawn:=w.drawn+1}:=by
 obtain⟨hn,c,Lo,lam,rfl,f,e⟩:=h
 obtain⟨e',f'⟩:=f.world (w':={c.w with drawn:=c.w.drawn+1}) (fun b _=>.inl rfl) (fun _ _=>rfl) (fun b _=>rfl) (Vv _) rfl rfl rfl
 exact⟨hn,_,Lo,lam,rfl,f',e.trans e'⟩
def mw (P:Program)(c:Code)(Q:Exit→Act→World→Prop)(a:Act)(w:World):Prop:=
 ∀(b:Frame) (k:List Item) (cs:List Frame),∃e a' w',Q e a' w'∧Arrives P (lone (b.at a (.code c :: .inLoop c::k)) cs w) b k cs e a' w'
theorem mw.step {c:Code}{Q:Exit→Act→World→Prop}{a:Act}{w:World}(h:c.wp P (Exit.then (mw P c Q) Q) a w):mw P c Q a w:=by
 intro b k cs
 obtain⟨e,a₁,w₁,hq,wS⟩:=h b (.inLoop c::k) cs
 cases e with
 | normal=>
  obtain⟨e₂,a₂,w₂,SE,KO⟩:=hq b k cs
  exact⟨e₂,a₂,w₂,SE,.of_steps (Steps.trans wS (.one step_inLoop)) KO⟩
 | exit id=>exact⟨_,a₁,w₁,hq,.pass (x:=.inLoop c) rfl (fun _ _=>.inl (by simp)) wS⟩
 | goto l=>exact⟨_,a₁,w₁,hq,.pass (x:=.inLoop c) rfl (fun _ _=>.inl (by simp)) wS⟩
 | ret=>exact⟨_,a₁,w₁,hq,.pass (x:=.inLoop c) rfl (fun _ _=>.inl (by simp)) wS⟩
 | panic ch=>exact⟨_,a₁,w₁,hq,.pass (x:=.inLoop c) rfl (fun _ _=>.inl (by simp)) wS⟩
 | outgrown=>exact⟨_,a₁,w₁,hq,.pass (x:=.inLoop c) rfl (fun _ _=>.inl (by simp)) wS⟩
theorem mw.loop {c:Code}{Q:Exit→Act→World→Prop}{a:Act}{w:World}(h:mw P c Q a w):(Code.loop c).wp P Q a w:=by
 intro b k cs
 obtain⟨e,a',w',hq,wS⟩:=h b k cs
 exact⟨e,a',w',hq,.of_steps (.one step_loop) wS⟩
def Ex.HE:Ex→Exit
 | .norm=>.normal
 | .exit id=>.exit id
 | .ret=>.ret
def ki (n:Nat):Code→Bool
 | .region _ ops _=>tW n ops.toList
 | .seq a b=>ki n a&&ki n b
 | .cond _ x y=>ki n x&&ki n y
 | .block _ c=>ki n c
 | .loop c=>ki n c
 | _=>true
def y7 (P:Program)(cf:CallF):Prop:=
 ∀(L0:Nat→Prop) (c0:Cx) (n:Nat) (aE:List Nat) (id:Nat) (ops:Array Oper) (s s':RS),jH P cf aE ops s=some s'→c0.base≤c0.w.heap.size→tW n ops.toList=true→
  ∀a w Q,Inv L0 c0 n (ops.toList.filterMap (·.dst)) s a w→(∀a' w',Inv L0 c0 n (ops.toList.filterMap (·.dst)) s' a' w'→Q .normal a' w')→(Code.region id ops true).wp P Q a w
theorem jO {cf:CallF}(hcf:CallOK P cf)(B5:y7 P cf)(hb0:c0.base≤c0.w.heap.size){A:b5}{m:Nat}:∀(c:Code),ki n c=true→∀(st js:St) (ex:Ex),bJ P cf A m c st=some (ex,js)→
  ∀a w Q,Inv L0 c0 n [] (st.open A) a w→(∀a' w',Inv L0 c0 n [] (js.open A) a' w'→Q ex.HE a' w')→c.wp P Q a w
 | .skip,_,st,js,ex,h,a,w,Q,hi,hQ=>by
  simp only [bJ,Vt,Vz] at h
  obtain⟨rfl,rfl⟩:=h
  exact wp_skip (hQ a w hi)
 | .label _,_,st,js,ex,h,a,w,Q,hi,hQ=>by
  simp only [bJ,Vt,Vz] at h
  obtain⟨rfl,rfl⟩:=h
  exact wp_label (hQ a w hi)
 | .ret,_,st,js,ex,h,a,w,Q,hi,hQ=>by
  simp only [bJ,Vt,Vz] at h
  obtain⟨rfl,rfl⟩:=h
  exact wp_ret (hQ a w hi)
 | .exit id,_,st,js,ex,h,a,w,Q,hi,hQ=>by
  simp only [bJ,Vt,Vz] at h
  obtain⟨rfl,rfl⟩:=h
  exact wp_exit (hQ a w hi)
 | .seq x y,hB,st,js,ex,h,a,w,Q,hi,hQ=>by
  simp only [ki,Vu] at hB
  simp only [bJ,Vp] at h
  obtain⟨⟨HF,ly⟩,h1,h2⟩:=h
  refine wp_seq (jO hcf B5 hb0 x hB.1 st ly HF h1 a w _ hi fun a' w' jI=>?_)
  cases HF with
  | norm=>exact jO hcf B5 hb0 y hB.2 ly js ex h2 a' w' Q jI hQ
  | exit id=>
   simp only [Vt,Vz] at h2
   obtain⟨rfl,rfl⟩:=h2
   exact hQ a' w' jI
  | ret=>
   simp only [Vt,Vz] at h2
   obtain⟨rfl,rfl⟩:=h2
   exact hQ a' w' jI
 | .cond k x y,hB,st,js,ex,h,a,w,Q,hi,hQ=>by
  simp only [ki,Vu] at hB
  simp only [bJ,Vp] at h
  obtain⟨t,ht,h⟩:=h
  have hk:a.eval k = .bool t:=by
   obtain⟨hn,c,Lo,lam,rfl,f,e⟩:=hi
   have hk:=bE f k
   unfold rM at ht
   split at ht
   ·rename_i b hb
    cases ht
    rw [hb] at hk
    simpa [SR,VR] using hk
   ·cases ht
  refine wp_cond hk ?_
  cases t with
  | true=>exact jO hcf B5 hb0 x hB.1 st js ex (by simpa using h) a w Q hi hQ
  | false=>exact jO hcf B5 hb0 y hB.2 st js ex (by simpa using h) a w Q hi hQ
 | .block id x,hB,st,js,ex,h,a,w,Q,hi,hQ=>by
  simp only [ki] at hB
  simp only [bJ,Vr] at h
  obtain⟨⟨HF,ly⟩,h1,h2⟩:=h
  refine wp_block (jO hcf B5 hb0 x hB st ly HF h1 a w _ hi fun a' w' jI=>?_)
  cases HF with
  | norm=>
   simp only [Vz] at h2
   obtain⟨rfl,rfl⟩:=h2
   exact hQ a' w' jI
  | exit kn=>
   simp only [Vz] at h2
   obtain⟨rfl,rfl⟩:=h2
   have:=hQ a' w' jI
   simp only [Ex.HE,Exit.inBlock]
   split
   ·rename_i he; rw [if_pos he] at this; exact this
   ·rename_i he; rw [if_neg he] at this; exact this
  | ret=>
   simp only [Vz] at h2
   obtain⟨rfl,rfl⟩:=h2
   exact hQ a' w' jI
 | .loop x,hB,st,js,ex,h,a,w,Q,hi,hQ=>by
  simp only [ki] at hB
  simp only [bJ] at h
  have key:∀(j:Nat) (st:St),kI (bJ P cf A m x) j st=some (ex,js)→∀a w,Inv L0 c0 n [] (st.open A) a w→mw P x Q a w:=by
   intro j
   induction j with
   | zero=>intro st h; simp [kI] at h
   | succ j ih=>
    intro st h a w hi
    simp only [kI,Vp] at h
    obtain⟨⟨HF,ly⟩,h1,h2⟩:=h
    refine mw.step (jO hcf B5 hb0 x hB st ly HF h1 a w _ hi fun a' w' jI=>?_)
    cases HF with
    | norm=>exact ih ly h2 a' w' jI
    | exit id=>
     simp only [Vt,Vz] at h2
     obtain⟨rfl,rfl⟩:=h2
     exact hQ a' w' jI
    | ret=>
     simp only [Vt,Vz] at h2
     obtain⟨rfl,rfl⟩:=h2
     exact hQ a' w' jI
  exact mw.loop (key m st h a w hi)
 | .region id ops draw,hB,st,js,ex,h,a,w,Q,hi,hQ=>by
  simp only [ki] at hB
  simp only [bJ,Vp,Vr,Vz] at h
  obtain⟨s0,h0,s',h1,s2,h2,rfl,rfl⟩:=h
  replace hi:=hi.kH h0
  cases draw with
  | true=>
   simp only [if_true] at h1
   exact B5 L0 c0 n A.aE id ops _ s' h1 hb0 hB a w Q (hi.wide _) fun a' w' jI=>hQ a' w' ((jI.kH h2).mj A id)
  | false=>
   simp only [VB,if_false] at h1
   exact wp_region_list (Af hcf hb0 rfl hB (fun a' w' jI=>hQ a' w' ((jI.kH h2).mj A id)) ops.toList _ (fun _ h=>h) h1 a w (hi.wide _))
 | .rangeFunc ..,_,st,js,ex,h,_,_,_,_,_=>by simp [bJ] at h
 | .scope ..,_,st,js,ex,h,_,_,_,_,_=>by simp [bJ] at h
 | .goto ..,_,st,js,ex,h,_,_,_,_,_=>by simp [bJ] at h
 | .refuse ..,_,st,js,ex,h,_,_,_,_,_=>by simp [bJ] at h
theorem u7 {c:Cx}{Lo:Nat→Prop}{lam:Nat→Nat}{a:Act}(f:Fr L0 c Lo lam ds s a):∀(rs:List ResultVar) (l:List AV),yO P s rs=some l→l.all AV.kF=true→
  ∃vs:List Value,(rs.mapM (m:=Sem) fun | .tmp t=>pure (a.tmps.getD t undef) | .cell x t=>do loadVar t (←asAddr (a.tmps.getD x undef))).run P c.w = .ok vs c.w∧VRs c (un L0 Lo) l vs
 | [],l,h,_=>by
  simp only [yO,Vt] at h
  subst h
  exact⟨[],rfl,trivial⟩
 | .tmp t::rs,l,h,hl=>by
  simp only [yO,Vr] at h
  obtain⟨l',h1,rfl⟩:=h
  simp only [Wf,Vu] at hl
  obtain⟨vs,h2,h3⟩:=u7 f rs l' h1 hl.2
  refine⟨a.tmps.getD t undef::vs,?_,(f.slot t).vr (r9 hl.1),h3⟩
  simp only [List.mapM_cons,Sem.run_bind,Sem.run_pure,Result.andThen_ok,h2]
 | .cell x t::rs,l,h,hl=>by
  simp only [yO,Vp,Vr] at h
  obtain⟨y,hy,l',h1,rfl⟩:=h
  simp only [Wf,Vu] at hl
  obtain⟨vs,h2,h3⟩:=u7 f rs l' h1 hl.2
  have hx:=f.slot x
  obtain⟨u,hr,hu⟩:=rR (P:=P) f (t:=t) hx hy
  have hp:∃ad,a.tmps.getD x undef = .pointer (some ad):=by
   unfold jG at hy
   cases hq:s.ρ x<;>rw [hq] at hy hx<;>simp only at hy<;>try (cases hy; done)
   ·simp only [SR,VR] at hx; obtain⟨_,ad,h,_⟩:=hx; exact⟨ad,h⟩
   ·simp only [SR] at hx; exact⟨_,hx.1⟩
   ·simp only [SR,VR] at hx; obtain⟨_,_,h,_⟩:=hx; exact⟨_,h⟩
  obtain⟨ad,hp⟩:=hp
  rw [hp] at hr
  have y8:(loadVar t ad).run P c.w = .ok u c.w:=by simpa [Instr.loadAt,Instr.sureAddr] using hr
  refine⟨u::vs,?_,hu,h3⟩
  have ha:(asAddr (a.tmps.getD x undef)).run P c.w = .ok ad c.w:=by rw [hp]; rfl
  simp only [List.mapM_cons,Sem.run_bind,Sem.run_pure,Result.andThen_ok,h2,ha,y8]
theorem hH:un L0 none0=L0:=by funext b; simp [un,none0]
theorem Ext.close {c c':Cx}{jw:Nat→Prop}(e:Ext c none0 c' jw):Ext c none0 c' none0:=
 ⟨e.next,e.live,e.size,e.keep,e.exact,e.base,e.Ge,fun _ h=>h,fun _ h=>h.elim,e.os,e.tape,e.output⟩
theorem HRel.km {c:Cx}{L L':Nat→Prop}(hL:∀b,L' b→L b)(h:HRel c L):HRel c L':=
 ⟨h.lt,fun id o ho=>by
  have:=h.obj id o ho
  cases o with
  | cells cs=>obtain⟨m,h1,h2,h3⟩:=this; exact⟨m,h1,h2,Cells.km hL _ _ _ h3⟩
  | row t cs=>obtain⟨h0,C,h1,h2,h4,h3⟩:=this; exact⟨h0,C,h1,h2,h4,Cells.km hL _ _ _ h3⟩
  | map es=>
   obtain⟨kK,clock,h1,h2⟩:=this
   refine⟨kK,clock,h1,?_⟩
   clear h1
   have:∀(es:List (AV × AV)) (ms:List MapEntry),kJ c L es ms→kJ c L' es ms:=by
    intro es
    induction es with
    | nil=>intro ms h; cases ms with | nil=>trivial | cons m ms=>exact h.elim
    | cons e es ih=>intro ms h; cases ms with
     | nil=>exact h.elim
     | cons m ms=>obtain⟨h1,h2,h3⟩:=h; exact⟨⟨VR.km hL _ _ h1.1,h1.2⟩,VR.km hL _ _ h2,ih _ h3⟩
   exact this _ _ h2,h.inj,fun id hl hb=>h.out id hl (hL _ hb),fun b hb=>h.bd b (hL b hb),h.low,h.ver⟩
structure Fit (P:Program):Prop where
 mixed:P.follows .mixedOrders=true
 KP : ∀ (f : FuncId) fn c, P.funcs[f]? = some fn → fn.body = some c → ki fn.ntmps c = true ∧ fn.name ≠ "runtime.NumGoroutine"
def IntrOK (P:Program)(intr:FuncId→Option (List AV→AHeap→Option (AV × AHeap))):Prop:=
 ∀f g,intr f=some g→(CallOK P fun f' args h=>if f'=f then g args h else none)∧∀args h r h',g args h=some (r,h')→Steady h h'
theorem my {f : FuncId} {fn : Func} {c : Code} (hf : P.funcs[f]? = some fn) (hc : fn.body = some c) (hn : fn.name ≠ "runtime.NumGoroutine") (vs : Array Value) (w : World) : (callFunc f vs).run P w = .ok (.enter f vs) w := by
 have Nv : (fn.name == "runtime.NumGoroutine") = false := by simpa using hn
 simp [callFunc,program,Sem.run,hf,hn,hc]
theorem wT (hP:Fit P){aX:FuncId→b5}{cf:CallF}(ih:CallOK P cf)(B5:y7 P cf)(m:Nat):CallOK P (a6 P aX cf m):=by
 intro f args h r h' hc
 unfold a6 at hc
 rw [Vp] at hc
 obtain⟨fn,hf,hc⟩:=hc
 rw [Vp] at hc
 obtain⟨c,hb,hc⟩:=hc
 obtain⟨hB,KQ⟩:=hP.KP f fn c hf hb
 refine⟨my hf hb KQ,fun L0 c0 vs hh hb0 hrel hargs=>?_⟩
 split at hc
 rotate_left
 ·cases hc
 rename_i hlen
 rw [Vp] at hc
 obtain⟨⟨ex,st⟩,hex,hc⟩:=hc
 have hl:=hargs.length
 refine calls_of_wp hf hb ?_
 refine jO (L0:=L0) (c0:=c0) (n:=fn.ntmps) ih B5 hb0 c hB _ _ _ hex _ _ _ ?_ ?_
 ·refine⟨by simp; omega,c0,none0,fun _=>0,rfl,⟨hh,by rw [hH]; exact hrel,fun t=>?_,fun k cs hk=>?_,fun k k' hk=>?_,fun t k off _ he=>?_,rfl,fun b hb=>hb.elim⟩,Ext.refl _ _⟩
  ·simp only [St.open,ml,iG]
   split
   ·by_cases ht:t<args.length
    ·obtain⟨v,hv,hr⟩:=hargs.get t args[t] (by simp [ht])
     have:args.getD t AV.any=args[t]:=by simp [ht]
     rw [this,Array.getD_eq_getD_getElem?,Array.getElem?_append_left (by simp; omega)]
     have Ns:vs.toArray[t]? = some v:=by simpa using hv
     rw [Ns]
     exact SR.of (by rw [hH]; exact hr)
    ·have:args.getD t AV.any = .any:=by simp [V1 (Nat.not_lt.1 ht)]
     rw [this]
     exact SR.of (by simp [VR])
   ·exact SR.of (by simp [VR])
  ·simp only [St.open,iG] at hk
   split at hk<;>cases hk
  ·simp only [St.open,iG] at hk
   split at hk<;>cases hk
  ·simp only [St.open,ml,iG] at he
   split at he
   ·by_cases ht:t<args.length
    ·obtain⟨v,hv,hr⟩:=hargs.get t args[t] (by simp [ht])
     have h1:args.getD t AV.any=args[t]:=by simp [ht]
     rw [h1] at he
     rw [he] at hr
     exact hr.elim
    ·have:args.getD t AV.any = .any:=by simp [V1 (Nat.not_lt.1 ht)]
     rw [this] at he
     cases he
   ·cases he
 ·intro a' w' jI
  have hfin:(aP P (st.open (aX f)) fn.results.toList).map (fun r=>(r,st.h))=some (r,h')→a'.defers=[]∧∃v,(results fn a'.tmps).run P w' = .ok v w'∧(∃c' v',Ending.returned v = .returned v'∧c'.w=w'∧c'.h=h'∧VR c' L0 r v'∧HRel c' L0∧Ext c0 none0 c' none0):=by
   intro hc
   rw [Vr] at hc
   obtain⟨r',y8,he⟩:=hc
   cases he
   obtain⟨hn,c',Lo,lam,rfl,f',e'⟩:=jI
   refine⟨f'.defers,?_⟩
   unfold aP at y8
   rw [Vp] at y8
   obtain⟨l,hl,y8⟩:=y8
   split at y8
   rotate_left
   ·cases y8
   rename_i kP
   obtain⟨us,SF,zR⟩:=u7 f' _ _ hl kP
   have DF:VRs c' L0 l us:=VRs.km (fun b hb=>.inl hb) _ _ zR
   have yW:(results fn a'.tmps).run P c'.w = .ok (if h:us.toArray.size=1 then us.toArray[0] else .tuple us.toArray) c'.w:=by
    unfold results
    rw [←Array.toArray_toList (xs:=fn.results)]
    rw [List.mapM_toArray]
    simp only [Sem.run_bind,Sem.run_map,Result.andThen_ok,Sem.run_pure]
    exact (congrArg (fun z=>(Result.andThen z (fun (a:List Value) w'=>Result.ok a.toArray w')).andThen (fun (a:Array Value) w'=>Result.ok (if h:a.size=1 then a[0] else Value.tuple a) w')) SF).trans rfl
   refine⟨_,yW,c',_,rfl,rfl,f'.h,?_,HRel.km (fun b hb=>.inl hb) f'.rel,e'.close⟩
   split at y8
   ·rename_i x
    cases y8
    cases us with
    | nil=>exact DF.elim
    | cons u us=>cases us with
     | nil=>exact DF.1
     | cons u2 us=>exact DF.2.elim
   ·rename_i hne
    cases y8
    have Nw:us.length≠1:=by
     intro h1
     rw [←DF.length] at h1
     cases l with
     | nil=>simp at h1
     | cons x l=>cases l with
      | nil=>exact hne x rfl
      | cons y l=>simp at h1
    have:¬us.toArray.size=1:=by simpa using Nw
    rw [dif_neg this]
    simp only [VR]
    exact⟨us.toArray,rfl,DF⟩
  cases ex with
  | norm=>exact hfin hc
  | ret=>exact hfin hc
  | exit id=>cases hc
end
end Go.R
