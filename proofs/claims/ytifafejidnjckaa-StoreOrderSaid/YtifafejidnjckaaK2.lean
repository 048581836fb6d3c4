/- Part of the proof: ROps5, ROps6, ROps7, RFrzV, ROpAll, RFrz, RCode. -/
import Derived.Test.YtifafejidnjckaaK1
import Derived.MapKept
import Derived.Laws.CopyRow
import Derived.Laws.BytesArg
import Derived.Laws.IdiomStrings
import Derived.Tactics
set_option linter.unusedVariables false
set_option linter.unusedSimpArgs false
set_option maxRecDepth 100000
open Array renaming getElem?_eq_some_iff → V4, getElem?_setIfInBounds → Wt, length_toList → WA, getElem?_modify → WC, ext' → Xb
open Bool renaming and_eq_true → Vx, false_eq_true → VE, not_true → Wy, not_eq_true' → WG, true_and → Xa
open List renaming getElem?_eq_some_iff → VB, length_set → VG, all_eq_true → VO, mem_cons → VT, map_cons → VX, eq_nil_of_length_eq_zero → VZ, take_of_length_le → V6, getElem?_eq_none → V7, mem_map → V8, all_cons → Wi, ext_getElem? → W2, getElem?_set → W3
open Nat renaming le_refl → Vy, zero_add → VU, beq → Wa, le_succ → WI, min_eq_left → WM, lt_succ_of_lt → WO
open Option renaming bind_eq_some_iff → Vt, bind_some → Vu, map_eq_some_iff → Vv, map_some → VA, isSome_iff_exists → V5, getD_some → Wr
open Option.some renaming injEq → Vw
open Prod.mk renaming injEq → VC
namespace Go.R
open Go
section
variable {P:Program}{L0:Nat→Prop}{c0:Cx}{n:Nat}{ds:List Nat}{o:Oper}{s:RS}
theorem Fr.uZ {c:Cx}{Lo:Nat→Prop}{lam:Nat→Nat}{a:Act}(f:Fr L0 c Lo lam ds s a)(hbs:c.base≤c.w.heap.size){id:Nat}{es qa:List (AV × AV)}(ho:c.h.get id=some (.map es)){kH qo:Array MapEntry}{clock nQ:Nat}
  (hb:c.w.heap[(c.β id).1]? = some (.map kH clock)) (he:kG c (un L0 Lo) qa qo.toList) :
  Ext c Lo ⟨c.β,s.h.put id (.map qa),{c.w with heap:=c.w.heap.setIfInBounds (c.β id).1 (.map qo nQ)},c.base⟩ Lo∧
   Fr L0 ⟨c.β,s.h.put id (.map qa),{c.w with heap:=c.w.heap.setIfInBounds (c.β id).1 (.map qo nQ)},c.base⟩ Lo lam ds {s with h:=s.h.put id (.map qa)} a:=by
 have hl:Live c.h id:=⟨f.rel.lt _ _ ho,by simp [ho]⟩
 have hlt:(c.β id).1<c.w.heap.size:=(V4.1 hb).1
 have hne:∀b,b≠(c.β id).1→({c.w with heap:=c.w.heap.setIfInBounds (c.β id).1 (.map qo nQ)}:World).heap[b]? = c.w.heap[b]?:=by
  intro b hb
  simp only [Wt]
  rw [if_neg (Ne.symm hb)]
 rw [←f.h]
 refine f.upd (β':=c.β) (h':=c.h.put id (.map qa)) id (.map qa) (Steady.put _ _ _) (WO hl.1) (by simp [AHeap.put,beq_nat])
  (fun kj h1=>.inr ⟨by simp [AHeap.put,beq_nat,h1],rfl⟩) (fun _=>⟨hl,rfl⟩) (.inr ⟨id,hl,rfl,.inl rfl⟩) (fun _=>?_)
  (fun b _ h1=>hne b h1) (fun b _ h1=>hne b h1) (by simp) hbs rfl rfl rfl (fun e=>⟨qo,nQ,by simp [hlt],he.ext e⟩)
 simp only [Cx.len,World.shape?,hb,Wt,hlt,if_true]
theorem u6 {x y:AV}(hs:sameShape x y=true)(hq:fw x y=true):x=y:=by
 cases x<;>cases y<;>simp only [sameShape] at hs<;>try (cases hs; done)
 ·simp only [fw,iT,Vx,beq_iff_eq] at hq
  obtain⟨rfl,rfl⟩:=hq
  rfl
 ·rename_i a b
  simp only [fw,iT,beq_iff_eq] at hq
  congr 1
  cases a; cases b
  congr 1
  exact Array.toList_inj.1 hq
 ·rename_i xs ys
  simp only [Vx,beq_iff_eq] at hs
  obtain⟨⟨_,hx⟩,hy⟩:=hs
  obtain⟨ns,rfl⟩:=gZ hx
  obtain⟨ms,rfl⟩:=gZ hy
  simp only [fw,j9,decide_eq_true_eq] at hq
  rw [hq]
theorem nC:∀ns:List Int,iQ (ns.map fun n=>AV.int .i64 n)=some (ns.map fun n=>Value.int .i64 n)
 | []=>rfl
 | n::ns=>by simp [iQ,AV.fL,nC ns]
theorem yU {t:TypeId}{k:AV}(h:gf P t k=true):∃u,k.yB=some u∧Instr.sameBits 10000 u u=true:=by
 unfold gf at h
 have Lb:∀cs:List AV,cs.all j6=true→∃u,(AV.agg cs).yB=some u∧Instr.sameBits 10000 u u=true:=by
  intro cs hcs
  obtain⟨ns,rfl⟩:=gZ hcs
  refine⟨.agg (ns.map fun n=>Value.int .i64 n).toArray,by simp [AV.yB,nC],?_⟩
  simp only [Instr.sameBits,beq_self_eq_true,Xa,VO]
  intro p hp
  have:∀(l:List Value),(∀v∈l,∃m,v=Value.int .i64 m)→∀p∈l.zip l,Instr.sameBits 9999 p.1 p.2=true:=by
   clear hp p
   intro l hl p hp
   have h1:p.1=p.2∧p.1∈l:=by
    clear hl
    induction l with
    | nil=>cases hp
    | cons v l ih=>
     simp only [List.zip_cons_cons,VT] at hp
     rcases hp with rfl | hp
     ·exact⟨rfl,by simp⟩
     ·obtain⟨h1,h2⟩:=ih hp; exact⟨h1,by simp [h2]⟩
   obtain⟨h1,h2⟩:=h1
   obtain⟨m,hm⟩:=hl _ h2
   rw [←h1,hm]
   simp [Instr.sameBits]
  exact this (ns.map fun n=>Value.int .i64 n) (fun v hv=>by obtain⟨m,_,rfl⟩:=V8.1 hv; exact⟨m,rfl⟩) p (by simpa using hp)
 split at h
 ·exact⟨_,rfl,by simp [Instr.sameBits]⟩
 ·exact⟨_,rfl,by simp [Instr.sameBits,tU]⟩
 ·simp only [Vx] at h; exact Lb _ h.1.1.2
 ·simp only [Vx] at h; exact Lb _ h.1.1.2
 ·cases h
theorem r7 {c:Cx}{L:Nat→Prop}{k v:AV}{kv vv:Value}(hc:k.yB.isSome=true)(hk:VR c L k kv)(hv:VR c L v vv) :
  ∀(es qa:List (AV × AV)) (ms:List MapEntry) (i:Nat),kG c L es ms→uN k v es=some qa→
   iE k es≠none∧(place k es ms i=none∧(∀b,kG c L qa (ms++[{key:=kv,val:=vv,born:=b}]))∨
    ∃j u m,place k es ms i=some (i+j,u)∧ms[j]? = some m∧m.key=kv∧kG c L qa (ms.modify j fun e=>{e with key:=kv,val:=vv}))
 | [],qa,[],i,_,h=>by
  simp only [uN,Vw] at h
  subst h
  exact⟨by simp [iE],.inl ⟨rfl,fun b=>⟨⟨hk,hc⟩,hv,trivial⟩⟩⟩
 | (k',v')::es,qa,m::ms,i,he,h=>by
  obtain⟨⟨Du,Qx⟩,zT,tm⟩:=he
  simp only [uN] at h
  split at h
  rotate_left
  ·cases h
  rename_i hs
  split at h
  ·rename_i hq
   cases h
   have wH:k=k':=u6 hs hq
   obtain⟨u,hu⟩:=V5.1 hc
   refine⟨by simp [iE,hs,hq],.inr ⟨0,m.val,m,by simp [place,hq],rfl,?_,?_⟩⟩
   ·subst wH
    rw [uU hu hk,uU hu Du]
   ·exact⟨⟨hk,hc⟩,hv,tm⟩
  ·rename_i hq
   rw [Vv] at h
   obtain⟨SG,h1,rfl⟩:=h
   obtain⟨h2,h3⟩:=r7 hc hk hv es SG ms (i+1) tm h1
   refine⟨by simp [iE,hs,hq,h2],?_⟩
   have u7:fw k k'=false:=by simpa using hq
   rcases h3 with⟨h3,h4⟩| ⟨j,u,m',h3,h4,h5,h6⟩
   ·exact .inl ⟨by simp [place,u7,h3],fun b=>⟨⟨Du,Qx⟩,zT,h4 b⟩⟩
   ·exact .inr ⟨j+1,u,m',by simp [place,u7,h3]; omega,by simpa using h4,h5,⟨⟨Du,Qx⟩,zT,h6⟩⟩
 | [],_,_::_,_,h,_=>h.elim
 | _::_,_,[],_,h,_=>h.elim
theorem r8 {x:AV}(h:x.kC=true):∀k off,x≠.lp k off:=by rintro k off rfl; simp [AV.kC] at h
theorem tD {c:Cx}{Lo:Nat→Prop}{lam:Nat→Nat}{a:Act}(f:Fr L0 c Lo lam ds s a)(hbs:c.base≤c.w.heap.size){t:TypeId}{m k x:AV}{mv kv xv:Value}(hm:SR c L0 Lo lam s.bx m mv)(hk:SR c L0 Lo lam s.bx k kv)(hx:SR c L0 Lo lam s.bx x xv){h':AHeap}
  (h:iF P s.h t m k x=some h'):∃c',(Instr.mapUpdate t mv kv xv).run P c.w = .ok () c'.w∧Ext c Lo c' Lo∧Fr L0 c' Lo lam ds {s with h:=h'} a:=by
 unfold iF at h
 rw [Vt] at h
 obtain⟨d,hd,h⟩:=h
 cases d<;>simp only at h<;>try (cases h; done)
 rename_i kt et
 split at h
 ·cases h
 rename_i jN
 obtain⟨tB,hargs⟩:gf P kt k=true∧x.kC=true:=by
  cases h1:gf P kt k<;>cases h2:x.kC<;>simp [h1,h2] at jN ⊢
 have wI:VR c (un L0 Lo) k kv:=hk.vr (by rintro k0 off rfl; simp [gf] at tB)
 have SH:=hx.vr (r8 hargs)
 cases m<;>simp only at h<;>try (cases h; done)
 rename_i id
 rw [Vt] at h
 obtain⟨ob,ho,h⟩:=h
 cases ob with
 | cells cs=>cases h
 | row t cs=>cases h
 | map es=>
 rw [Vv] at h
 obtain⟨qa,hu,rfl⟩:=h
 simp only [SR,VR] at hm
 obtain⟨hi,r,rfl,hr⟩:=hm
 rw [←f.h] at ho
 have hl:Live c.h id:=⟨f.rel.lt _ _ ho,by simp [ho]⟩
 have NA:=hr hl
 subst NA
 obtain⟨kH,clock,h1,h2⟩:=f.rel.obj _ _ ho
 obtain⟨u0,HV,SI⟩:=yU tB
 obtain⟨hf,hp⟩:=r7 (by simp [HV]) wI SH es qa kH.toList 0 h2 hu
 have Dv:=tV tB wI c.w h2 hf
 have Iw:=nA (P:=P) false 9998 tB wI c.w
 have hget:(getObj (c.β id).1).run P c.w = .ok (.map kH clock) c.w:=MapKept.run_getObj_map h1
 rcases hp with⟨hp,rS⟩| ⟨j,u,m,hp,hj,hmk,rS⟩
 ·obtain⟨e',f'⟩:=f.uZ hbs ho h1 (qo:=kH.push {key:=kv,val:=xv,born:=clock}) (nQ:=clock+1) (qa:=qa) (by simpa using rS clock)
  refine⟨_,?_,e',f'⟩
  unfold Instr.mapUpdate
  rw [hp] at Dv
  simp only [Sem.run_bind,bn hd,Result.andThen_ok,hget,Iw,Dv]
  exact MapKept.run_setObj_map _ h1
 ·obtain⟨e',f'⟩:=f.uZ hbs ho h1 (qo:=kH.modify j fun e=>{e with key:=kv,val:=xv}) (nQ:=clock) (qa:=qa) (by simpa using rS)
  refine⟨_,?_,e',f'⟩
  unfold Instr.mapUpdate
  rw [hp,VU] at Dv
  have yu:kH[j]? = some m:=by simpa using hj
  have Gy:(Instr.keyThatStays m.key kv).run P c.w = .ok kv c.w:=by
   rw [hmk]
   unfold Instr.keyThatStays
   rw [uU HV wI,SI]
   rfl
  simp only [Sem.run_bind,bn hd,Result.andThen_ok,hget,Iw,Dv,yu,VA,Wr,Gy]
  exact MapKept.run_setObj_map _ h1
theorem oA (hb0:c0.base≤c0.w.heap.size){t:TypeId}{m k x:Operand}(ho:o.op = .mapUpdate t m k x∨o.op = .insert t m k x)(qK:o.dst=none){h':AHeap}
  (h:iF P s.h t (bK s.ρ m) (bK s.ρ k) (bK s.ρ x)=some h'):jf P L0 c0 n ds o s {s with h:=h'}:=by
 rintro a w K Q ⟨hn,c,Lo,lam,rfl,f,e⟩ hK
 obtain⟨c',hr,e',f'⟩:=tD f (jc e hb0) (bD f m) (bD f k) (bD f x) h
 unfold Oper.wp
 have:(execOp a.eval o).run P c.w = .ok .skip c'.w:=by rcases ho with ho | ho<;>simp [execOp,ho,hr]
 rw [this,Oper.upon_skip]
 have IB:a.put o.dst undef=a:=by rw [qK]; rfl
 rw [IB]
 exact hK _ _ ⟨hn,c',Lo,lam,rfl,f',e.trans e'⟩
theorem DG (hb0:c0.base≤c0.w.heap.size)(hd:gh n ds o){t:TypeId}{x:Operand}(ho:o.op = .call {callee:=.builtin .clear,args:=#[x],argTypes:=#[t]}){h':AHeap}
  (h:lf P s.h t (bK s.ρ x)=some h'):jf P L0 c0 n ds o s ({s with h:=h'}.set o.dst (.tup [])):=by
 rintro a w K Q ⟨hn,c,Lo,lam,rfl,f,e⟩ hK
 unfold lf at h
 rw [Vt] at h
 obtain⟨d,wN,h⟩:=h
 have hx:=bD f x
 have fin:∀c',(Builtin.clear_ #[t] o.type #[a.eval x]).run P c.w = .ok (.tuple #[]) c'.w→Ext c Lo c' Lo→Fr L0 c' Lo lam ds {s with h:=h'} a→o.wp P a c.w K Q:=by
  intro c' hr e' f'
  unfold Oper.wp
  have:(execOp a.eval o).run P c.w = .ok (.value (.tuple #[])) c'.w:=by
   simp [execOp,ho,resolve,invoke,builtin,hr]
  rw [this,Oper.upon_value]
  exact hK _ _ ⟨(gg _ _ _).trans hn,c',Lo,lam,rfl,f'.set (SR.of (by simp [VR,VRs])) (fun t ht=>by rw [hn]; exact hd t ht),e.trans e'⟩
 cases B0:bK s.ρ x<;>rw [B0] at h hx<;>simp only at h<;>try (cases h; done)
 ·rename_i id off len iq
  simp only [SR,VR] at hx
  split at h
  ·rename_i hl0
   cases h
   obtain⟨ad,cap,qp⟩:∃ad cap,a.eval x = .slice ad 0 cap:=by
    rcases hx with⟨_,_,_,ad,hx⟩| ⟨_,_,ad,cap,hx,_⟩
    ·exact⟨ad,0,hx⟩
    ·exact⟨ad,cap,by rw [hx,hl0]⟩
   refine fin c ?_ (Ext.refl _ _) f
   cases ad<;>cases d<;>simp [Builtin.clear_,bn wN,qp]
  rename_i hl0
  split at h
  ·cases h
  rename_i jY
  cases d<;>simp only at h<;>try (cases h; done)
  rename_i et
  simp only [Vt] at h
  obtain⟨i,hi,z,hz,ob,hob,h⟩:=h
  cases ob with
  | map es=>cases h
  | row t cs=>cases h
  | cells cs=>
  simp only at h
  split at h
  rotate_left
  ·cases h
  rename_i hh
  obtain⟨DH,Db,hz0,NB,hoff⟩:=hh
  cases h
  rcases hx with hx | ⟨_,hid,ad,cap,hx,hlc,zU,hlive⟩
  ·exact absurd hx.1 jY
  rw [←f.h] at hob
  have hl:Live c.h id:=⟨f.rel.lt _ _ hob,by simp [hob]⟩
  obtain⟨q,hp,hq,hc⟩:=f.rel.obj _ _ hob
  have ha:ad=some ⟨(c.β id).1,(c.β id).2+off,none⟩:=by
   rcases hlive hl with⟨h1,_⟩| h1
   ·exact h1
   ·exact absurd h1 (by omega)
  subst ha
  obtain⟨zv,Dw,yR⟩:=jB hz c.w
  obtain⟨yt,hz1⟩:=iG NB (lh (c:=c) (L:=un L0 Lo) yR)
  have NC:=yt.length
  have Dc:zv.cells.size=i.size:=by rw [←WA,←NC,Db]
  have hnl:(Builtin.zeroCells zv.cells len).toList.length=len*i.size:=by simp [Builtin.zeroCells,Dc]
  have hv:VRs c (un L0 Lo) (ir z.cells len) (Builtin.zeroCells zv.cells len).toList:=by
   have:=pB yt len (len*zv.cells.size) (by rw [Dc,Db]; exact Vy _) (by omega)
   rw [V6 (by simp [Dc,Db])] at this
   exact this
  have hone:∀v∈(Builtin.zeroCells zv.cells len).toList,v.oneCell'=true:=by
   intro v hv
   simp only [Builtin.zeroCells,Array.toList_map,V8] at hv
   obtain⟨j,hj,rfl⟩:=hv
   have qL:j % zv.cells.size<zv.cells.size:=Nat.mod_lt _ (by omega)
   rw [getElem!_pos zv.cells _ qL]
   exact hz1 _ (by simp)
  have Qy:(ir z.cells len).length=len*i.size:=by rw [iI,Db]
  have hst:=jM (P:=P) hp.j7 (base:=(c.β id).2) (off:=off) (vs:=(Builtin.zeroCells zv.cells len).toList) (by rw [hnl]; rw [DH] at hoff; omega) hone
  obtain⟨q1,q2,q3,q4⟩:=gu (Builtin.zeroCells zv.cells len).toList (c.β id).1 ((c.β id).2+off) c.w
  have yp:ig c (c.β id).1 q:=hp
  obtain⟨C,IF,hb,ru⟩:=hp
  obtain⟨C',g1,g2,g3⟩:=fe (Builtin.zeroCells zv.cells len).toList (c.β id).1 ((c.β id).2+off) c.w C IF (0,0) hb (by rw [hnl]; rw [DH] at hoff; omega)
  obtain⟨e',f'⟩:=f.upd (w':=c.w.setCells (c.β id).1 ((c.β id).2+off) (Builtin.zeroCells zv.cells len).toList) (β':=c.β) (h':=s.h.put id (.cells (dd cs off (ir z.cells len)))) id (.cells (dd cs off (ir z.cells len)))
   (by rw [f.h]; exact Steady.put _ _ _) (by rw [←f.h]; exact WO hl.1) (by simp [AHeap.put,beq_nat]) (fun kj h1=>.inr ⟨by rw [f.h]; simp [AHeap.put,beq_nat,h1],rfl⟩) (fun _=>⟨hl,rfl⟩) (.inr ⟨id,hl,rfl,.inl rfl⟩)
   (fun _=>by simp only [Cx.len,World.shape?,g1,hb,VA,Wr,g2])
   (fun b _ hne=>dE _ _ _ _ _ hne) (fun b _ hne=>dE _ _ _ _ _ hne) (by rw [q1]; exact Vy _) (jc e hb0) q2 q3 q4
   (fun ee=>⟨q,yp.setCells (by rw [hnl]; rw [DH] at hoff; omega) _ _ _,by rw [hH]; exact hq,iH yp.j7 hc hv hone (by rw [Qy]; rw [DH] at hoff; omega) (by omega) ee rfl⟩)
  refine fin _ ?_ e' f'
  cases len with
  | zero=>exact absurd rfl hl0
  | succ len=>simp [Builtin.clear_,bn wN,hx,Dw,hst]
 ·cases h
  simp only [SR,VR] at hx
  refine fin c ?_ (Ext.refl _ _) f
  simp [Builtin.clear_,bn wN,hx]
 ·rename_i id
  rw [Vt] at h
  obtain⟨ob,ho,h⟩:=h
  cases ob with
  | cells cs=>cases h
  | row t cs=>cases h
  | map es=>
  cases h
  simp only [SR,VR] at hx
  obtain⟨hi,r,qp,hr⟩:=hx
  rw [←f.h] at ho
  have hl:Live c.h id:=⟨f.rel.lt _ _ ho,by simp [ho]⟩
  have NA:=hr hl
  subst NA
  obtain⟨kH,clock,h1,h2⟩:=f.rel.obj _ _ ho
  obtain⟨e',f'⟩:=f.uZ (jc e hb0) ho h1 (qo:=#[]) (nQ:=clock) (qa:=[]) trivial
  refine fin _ ?_ e' f'
  have hget:(getObj (c.β id).1).run P c.w = .ok (.map kH clock) c.w:=MapKept.run_getObj_map h1
  have DI:=MapKept.run_setObj_map (P:=P) (.map #[] clock) h1
  simp [Builtin.clear_,bn wN,qp,hget,DI]
end
end Go.R
namespace Go.R
open Go
section
variable {P:Program}{L0:Nat→Prop}{c0:Cx}{n:Nat}{ds:List Nat}{o:Oper}{s:RS}
theorem mn {w:World}{t t2 ty e:TypeId}{i:TypeInfo}(ht:P.underlying t=some (.slice e))(hi:P.info? e=some i){base:Option Addr}{len cap:Nat}{x:Value}{news:List Value}{m:Nat}(hs:Src P i.size t2 x m news w)(hm:m≤len) :
  (Builtin.copy_ #[t,t2] ty #[.slice base len cap,x]).run P w=match base with | none=>.ok (goInt m) w | some a=>((storeCells a news).run P w).andThen fun _ w'=>.ok (goInt m) w':=by
 have Lc:Nat.min m len=m:=WM hm
 have hlen:=hs.len w
 have hc:=hs.cells
 have hsz:(sizeOf e).run P w = .ok i.size w:=by simp [sizeOf,typeInfo,hi]
 unfold Builtin.copy_
 cases base with
 | none=>simp [bn ht,hlen,Lc,hsz,hc]
 | some a=>simp [bn ht,hlen,Lc,hsz,hc,Sem.run_bind]
theorem Gz (hb0:c0.base≤c0.w.heap.size)(hd:gh n ds o){t t2:TypeId}{dx sx:Operand}(ho:o.op = .call {callee:=.builtin .copy,args:=#[dx,sx],argTypes:=#[t,t2]}){y:AV}{h':AHeap}
  (h:qd P s.h t t2 (bK s.ρ dx) (bK s.ρ sx)=some (y,h')):jf P L0 c0 n ds o s ({s with h:=h'}.set o.dst y):=by
 rintro a w K Q ⟨hn,c,Lo,lam,rfl,f,e0⟩ hK
 have hbs:=jc e0 hb0
 unfold qd at h
 rw [Vt] at h
 obtain⟨d,wN,h⟩:=h
 cases d<;>simp only at h<;>try (cases h; done)
 rename_i e
 rw [Vt] at h
 obtain⟨i,hi,h⟩:=h
 rw [Vt] at h
 obtain⟨⟨new,m⟩,hcs,h⟩:=h
 simp only at h
 split at h
 ·cases h
 rename_i gB
 have gB:iD P t2 (bK s.ρ sx)=true:=by simpa using gB
 have Qz:∀st,bK s.ρ sx = .str st→P.underlying t2=some .string:=by
  intro st hst
  rw [hst] at gB
  unfold iD at gB
  simp only at gB
  split at gB
  ·assumption
  ·cases gB
 have r9:(∀st,bK s.ρ sx≠.str st)→∃e',P.underlying t2=some (.slice e'):=by
  intro hne
  unfold iD at gB
  split at gB
  ·rename_i st hst; exact absurd hst (hne st)
  ·split at gB
   ·rename_i e' he; exact⟨e',he⟩
   ·cases gB
 have hk:(∃e',P.underlying t2=some (.slice e'))∨P.underlying t2=some .string:=by
  by_cases hst:∃st,bK s.ρ sx = .str st
  ·obtain⟨st,hst⟩:=hst; exact .inr (Qz st hst)
  ·exact .inl (r9 fun st ND=>hst ⟨st,ND⟩)
 obtain⟨news,hS,hv⟩:=pC f (bD f sx) hk Qz r9 hcs
 have wo:=bD f dx
 have fin:∀c',(Builtin.copy_ #[t,t2] o.type #[a.eval dx,a.eval sx]).run P c.w = .ok (goInt m) c'.w→Ext c Lo c' Lo→Fr L0 c' Lo lam ds {s with h:=h'} a→y = .int .i64 m→o.wp P a c.w K Q:=by
  intro c' hr e' f' hy
  unfold Oper.wp
  have:(execOp a.eval o).run P c.w = .ok (.value (goInt m)) c'.w:=by
   simp [execOp,ho,resolve,invoke,builtin,hr]
  rw [this,Oper.upon_value]
  exact hK _ _ ⟨(gg _ _ _).trans hn,c',Lo,lam,rfl,f'.set (SR.of (by subst hy; simp [VR,goInt])) (fun t ht=>by rw [hn]; exact hd t ht),e0.trans e'⟩
 cases B0:bK s.ρ dx<;>rw [B0] at h wo<;>simp only at h<;>try (cases h; done)
 ·split at h
  rotate_left
  ·cases h
  rename_i rR
  cases h
  simp only [SR,VR] at wo
  obtain⟨ad,wo⟩:∃ad:Option Addr,a.eval dx = .slice ad 0 0:=⟨none,wo⟩
  refine fin c ?_ (Ext.refl _ _) f (by rw [rR]; rfl)
  rw [wo,mn wN hi hS (by omega)]
  cases ad with
  | none=>rfl
  | some ad=>
   have:news=[]:=VZ (by rw [hS.newsLen,rR]; simp)
   subst this
   rfl
 ·rename_i id off len iq
  split at h
  ·rename_i hid
   split at h
   rotate_left
   ·cases h
   rename_i rR
   cases h
   simp only [SR,VR] at wo
   rcases wo with⟨_,_,_,ad,wo⟩| wo
   rotate_left
   ·exact absurd hid wo.1
   refine fin c ?_ (Ext.refl _ _) f (by rw [rR]; rfl)
   rw [wo,mn wN hi hS (by omega)]
   cases ad with
   | none=>rfl
   | some ad=>
    have:news=[]:=VZ (by rw [hS.newsLen,rR]; simp)
    subst this
    rfl
  rename_i jY
  rw [Vt] at h
  obtain⟨ob,hob,h⟩:=h
  cases ob with
  | map es=>cases h
  | row t cs=>cases h
  | cells cs=>
  simp only at h
  split at h
  rotate_left
  ·cases h
  rename_i hh
  obtain⟨DH,SJ,hoff⟩:=hh
  cases h
  simp only [SR,VR] at wo
  rcases wo with wo | ⟨_,hid,ad,cap,wo,hlc,zU,hlive⟩
  ·exact absurd wo.1 jY
  rw [←f.h] at hob
  have hl:Live c.h id:=⟨f.rel.lt _ _ hob,by simp [hob]⟩
  obtain⟨q,hp,hq,hc⟩:=f.rel.obj _ _ hob
  have hnl:=hS.newsLen
  have hvl:=hv.length
  have hr:=mn (ty:=o.type) wN hi hS SJ (base:=ad) (cap:=cap)
  by_cases ha:ad=some ⟨(c.β id).1,(c.β id).2+off,none⟩
  ·subst ha
   simp only at hr
   have hst:=jM (P:=P) hp.j7 (base:=(c.β id).2) (off:=off) (vs:=news) (by omega) hS.one
   rw [hst] at hr
   simp only [Result.andThen_ok] at hr
   obtain⟨q1,q2,q3,q4⟩:=gu news (c.β id).1 ((c.β id).2+off) c.w
   have yp:ig c (c.β id).1 q:=hp
   obtain⟨C,IF,hb,ru⟩:=hp
   obtain⟨C',g1,g2,g3⟩:=fe news (c.β id).1 ((c.β id).2+off) c.w C IF (0,0) hb (by omega)
   obtain⟨e',f'⟩:=f.upd (w':=c.w.setCells (c.β id).1 ((c.β id).2+off) news) (β':=c.β) (h':=s.h.put id (.cells (dd cs off new))) id (.cells (dd cs off new))
    (by rw [f.h]; exact Steady.put _ _ _) (by rw [←f.h]; exact WO hl.1) (by simp [AHeap.put,beq_nat]) (fun kj h1=>.inr ⟨by rw [f.h]; simp [AHeap.put,beq_nat,h1],rfl⟩) (fun _=>⟨hl,rfl⟩) (.inr ⟨id,hl,rfl,.inl rfl⟩)
    (fun _=>by simp only [Cx.len,World.shape?,g1,hb,VA,Wr,g2])
    (fun b _ hne=>dE _ _ _ _ _ hne) (fun b _ hne=>dE _ _ _ _ _ hne) (by rw [q1]; exact Vy _) hbs q2 q3 q4
    (fun ee=>⟨q,yp.setCells (by omega) _ _ _,by rw [hH]; exact hq,iH yp.j7 hc hv hS.one (by omega) (by omega) ee rfl⟩)
   refine fin _ ?_ e' f' rfl
   rw [wo]
   exact hr
  ·have hz:new=[]∧m=0∧news=[]:=by
    rcases hlive hl with⟨h1,_⟩| h1
    ·exact absurd h1 ha
    ·have h0:m=0:=by omega
     have h2:news=[]:=VZ (by rw [hnl,h0]; simp)
     subst h2
     exact⟨VZ (by simpa using hvl),h0,rfl⟩
   obtain⟨rfl,rfl,rfl⟩:=hz
   have kM:dd cs off []=cs:=by simp [dd]
   rw [kM] at *
   obtain⟨e',f'⟩:=f.upd (w':=c.w) (β':=c.β) (h':=s.h.put id (.cells cs)) id (.cells cs)
    (by rw [f.h]; exact Steady.put _ _ _) (by rw [←f.h]; exact WO hl.1) (by simp [AHeap.put,beq_nat]) (fun kj h1=>.inr ⟨by rw [f.h]; simp [AHeap.put,beq_nat,h1],rfl⟩) (fun _=>⟨hl,rfl⟩) (.inr ⟨id,hl,rfl,.inl rfl⟩)
    (fun _=>rfl) (fun b _ hne=>rfl) (fun b _ hne=>rfl) (Vy _) hbs rfl rfl rfl
    (fun ee=>ow.ext ee ⟨q,hp,hq,hc⟩ rfl)
   refine fin _ ?_ e' f' rfl
   rw [wo,hr]
   cases ad<;>rfl
end
end Go.R
namespace Go.R
open Go
section
variable {P:Program}{L0:Nat→Prop}{c0:Cx}{n:Nat}{ds:List Nat}{o:Oper}{s:RS}
theorem pD {e:TypeId}(h:Dp P e=true):P.underlying e=some (.int .u8)∧eV P e=some 1:=by
 unfold Dp at h
 simp only [Vx,beq_iff_eq] at h
 obtain⟨h1,h2⟩:=h
 refine⟨?_,h2⟩
 split at h1
 ·assumption
 ·cases h1
theorem Ac {c:Cx}{L:Nat→Prop}:∀{cs:List AV} {l:List UInt8} {vs:List Value},HP cs=some l→VRs c L cs vs→∃xs:List Int,vs=xs.map (Value.int .u8)∧l=xs.map fun n=>UInt8.ofNat n.toNat
 | [],l,[],h,_=>by simp only [HP,Vw] at h; subst h; exact⟨[],rfl,rfl⟩
 | x::cs,l,v::vs,h,hv=>by
  unfold HP at h
  split at h
  ·rename_i heq; cases heq
  ·rename_i n xs heq
   cases heq
   rw [Vv] at h
   obtain⟨l',h1,rfl⟩:=h
   obtain⟨ys,rfl,rfl⟩:=Ac h1 hv.2
   have h2:=hv.1
   simp only [VR] at h2
   subst h2
   exact⟨n::ys,rfl,rfl⟩
  ·cases h
 | [],_,_::_,_,h=>h.elim
 | _::_,_,[],_,h=>h.elim
theorem u9 (xs:List Int):strOfNums xs=⟨(xs.map fun n=>UInt8.ofNat n.toNat).toArray⟩:=rfl
theorem wO {w:World}{src dst e:TypeId}{v:Value}{m:Nat}{xs:List Int}(hs:P.underlying src=some (.slice e))(he:P.underlying e=some (.int .u8))(hd:P.underlying dst=some .string)
  (hS:Src P 1 src v m (xs.map (Value.int .u8)) w) (hv:∃a cap,v = .slice a m cap):(convert src dst v).run P w = .ok (.string (strOfNums xs)) w:=by
 obtain⟨a,cap,rfl⟩:=hv
 have hc:=hS.cells
 have hl:=hS.newsLen
 cases a with
 | none=>
  have:xs=[]:=by
   simp [Builtin.firstCells] at hc
   cases xs with
   | nil=>rfl
   | cons x xs=>simp at hc
  subst this
  exact run_convert_bytes_nil w src e hs he m cap dst hd
 | some a=>
  rw [run_convert_bytes_string w src dst e (some a) m cap hs he hd]
  have h1:(loadCells a m).run P w = .ok (xs.map (Value.int .u8)).toArray w:=by simpa [Builtin.firstCells] using hc
  rw [run_bytesToString w a m cap xs h1,foldl_push_bytes]
  simp [strOfNums,ByteArray.empty,ByteArray.emptyWithCapacity]
  rfl
theorem tE {c:Cx}{Lo:Nat→Prop}{lam:Nat→Nat}{x:AV}{v:Value}{h:AHeap}{size m:Nat}{new:List AV}(hx:SR c L0 Lo lam s.bx x v)(hc:dT h size x=some (new,m))(hne:∀st,x≠.str st):∃a cap,v = .slice a m cap:=by
 unfold dT at hc
 cases x<;>simp only at hc<;>try (cases hc; done)
 ·exact absurd rfl (hne _)
 ·cases hc
  simp only [SR,VR] at hx
  subst hx
  exact⟨none,0,rfl⟩
 ·split at hc
  ·cases hc
   simp only [SR,VR] at hx
   obtain⟨a,cap,rfl,_⟩:=hx
   exact⟨a,cap,rfl⟩
  ·cases hc
 ·split at hc
  ·split at hc
   ·cases hc
    simp only [SR,VR] at hx
    rename_i hid hl0
    rcases hx with⟨_,_,_,a,rfl⟩| ⟨_,_,a,cap,rfl,_⟩
    ·exact⟨a,0,rfl⟩
    ·exact⟨a,cap,by rw [hl0]⟩
   ·cases hc
  rename_i jY
  rw [Vt] at hc
  obtain⟨ob,_,hc⟩:=hc
  cases ob with
  | map es=>cases hc
  | row t cs=>cases hc
  | cells cs=>
   simp only at hc
   split at hc
   ·cases hc
    simp only [SR,VR] at hx
    rcases hx with hx | ⟨_,_,a,cap,rfl,_⟩
    ·exact absurd (.inl hx.1) jY
    exact⟨a,cap,rfl⟩
   ·cases hc
theorem bytes_VRs {c:Cx}{L:Nat→Prop}:∀l:List UInt8,VRs c L (l.map fun b=>AV.int .u8 b.toNat) (l.map fun b=>Value.int .u8 b.toNat)
 | []=>trivial
 | b::l=>⟨by simp [VR],bytes_VRs l⟩
theorem va {w:World}{b o k:Nat}{C:Array Value}{e:TypeId}{fr:Nat × Nat}(hb:w.heap[b]? = some (.cells C e fr))(ho:C.size≤o)(hk:k≠0) :
  (∀b',gY w (w.freeze ⟨b,o,none⟩ k) b')∧(∀b',b'≠b→(w.freeze ⟨b,o,none⟩ k).heap[b']? = w.heap[b']?)∧(w.freeze ⟨b,o,none⟩ k).heap.size=w.heap.size∧(w.freeze ⟨b,o,none⟩ k).os=w.os∧(w.freeze ⟨b,o,none⟩ k).tape=w.tape∧(w.freeze ⟨b,o,none⟩ k).output=w.output:=by
 unfold World.freeze
 rw [if_neg hk]
 have hlt:=(V4.1 hb).1
 refine⟨fun b'=>?_,fun b' hne=>by simp [WC,Ne.symm hne],by simp,rfl,rfl,rfl⟩
 by_cases hne:b'=b
 ·subst hne
  obtain⟨lo,hi⟩:=fr
  refine .inr ⟨C,e,lo,hi,(if lo==hi then (o,o+k) else (min lo o,max hi (o+k))).1,(if lo==hi then (o,o+k) else (min lo o,max hi (o+k))).2,hb,?_,?_⟩
  ·simp [WC,hb]
  ·intro h
   by_cases NF:lo=hi
   ·subst NF; right; simpa using ho
   ·have:(lo==hi)=false:=by simpa using NF
    right
    simp only [this,VE,if_false]
    rcases h with h | h
    ·exact absurd h NF
    ·exact Nat.le_min.2 ⟨h,ho⟩
 ·exact .inl (by simp [WC,Ne.symm hne])
theorem yV (hb0:c0.base≤c0.w.heap.size)(hd:gh n ds o){src dst:TypeId}{x:Operand}(ho:o.op = .convert src dst x){y:AV}(h:mf P s.h src dst (bK s.ρ x)=some y):jf P L0 c0 n ds o s (s.set o.dst y):=by
 have hex:∀(a:Act) (w w':World) v,(convert src dst (a.eval x)).run P w = .ok v w'→(execOp a.eval o).run P w = .ok (.value v) w':=by
  intro a w w' v hr; simp [execOp,ho,hr]
 unfold mf at h
 split at h
 ·rename_i e hs yr
  split at h
  rotate_left
  ·cases h
  rename_i hu
  obtain⟨he,hsz⟩:=pD hu
  rw [Vt] at h
  obtain⟨⟨cs,m⟩,hcs,h⟩:=h
  rw [Vv] at h
  obtain⟨l,hl,rfl⟩:=h
  by_cases hst:∃st,bK s.ρ x = .str st
  ·
   obtain⟨st,hst⟩:=hst
   refine fE hd fun a c Lo lam f hn=>?_
   have hx:=bD f x
   rw [hst] at hx hcs
   simp only [SR,VR] at hx
   simp only [dT,if_true,Vw,VC] at hcs
   obtain⟨rfl,rfl⟩:=hcs
   refine⟨_,hex _ _ _ (.string st) ?_,?_⟩
   ·simp [convert,run_underlying hs,run_underlying yr,hx]
   ·have:∀(l0 l1:List UInt8),HP (l0.map fun b=>AV.int .u8 b.toNat)=some l1→l1=l0:=by
     intro l0
     induction l0 with
     | nil=>intro l1 h; simp [HP] at h; exact h
     | cons b l0 ih=>
      intro l1 h
      simp only [VX,HP,Vv] at h
      obtain⟨l2,h2,rfl⟩:=h
      rw [ih l2 h2]
      simp
    rw [this _ _ hl]
    simp [SR,VR]
  ·refine fE hd fun a c Lo lam f hn=>?_
   have hne:∀st,bK s.ρ x≠.str st:=fun st h=>hst ⟨st,h⟩
   have hx:=bD f x
   obtain⟨news,hS,hv⟩:=pC f hx (.inl ⟨e,hs⟩) (fun st h=>absurd h (hne st)) (fun _=>⟨e,hs⟩) hcs
   obtain⟨xs,rfl,rfl⟩:=Ac hl hv
   exact⟨_,hex _ _ _ _ (wO hs he yr hS (tE hx hcs hne)),by simp [SR,VR,u9]⟩
 ·rename_i e hs yr
  cases B0:bK s.ρ x<;>rw [B0] at h<;>simp only at h<;>try (cases h; done)
  rename_i st
  split at h
  rotate_left
  ·cases h
  rename_i hu
  obtain⟨he,hsz⟩:=pD hu
  cases h
  refine rX hb0 hd (fun a c Lo lam f hn hbs=>?_) (by rintro k off h; cases h)
  have hx:=bD f x
  rw [B0] at hx
  simp only [SR,VR] at hx
  have hr:=run_bytes_of_string c.w src dst e st hs yr he
  rw [←hx] at hr
  refine⟨_,_,hex _ _ _ _ hr,fun b hb=>.inl (alloc_old c.w.drew _ (show b<c.w.heap.size from hb)),fun id hl=>alloc_old c.w.drew _ (show (c.β id).1<c.w.heap.size from f.rel.block hl),fun b hb=>alloc_old c.w.drew _ (show b<c.w.heap.size by omega),by show c.w.heap.size≤(c.w.heap.push _).size; simp,rfl,rfl,rfl,fun e'=>?_⟩
  simp only [VR]
  refine⟨_,_,rfl,grownCap_ge c.w,by simp,.inl rfl,?_⟩
  refine .inr ⟨c.w.heap.size,0,rfl,DE f.rel rfl rfl,by simp,?_⟩
  refine Cells.of_vals (bytes_VRs st.data.toList) (fun i hi=>?_) (fun v hv=>by obtain⟨b,_,rfl⟩:=V8.1 hv; rfl)
  have jI:i<st.data.size:=by simpa using hi
  have:(World.alloc c.w.drew (.cells (bytesRow st (grownCap c.w st.size 0 e)) e ((bytesRow st (grownCap c.w st.size 0 e)).size,(bytesRow st (grownCap c.w st.size 0 e)).size+1))).heap[c.w.heap.size]? = some (.cells (bytesRow st (grownCap c.w st.size 0 e)) e ((bytesRow st (grownCap c.w st.size 0 e)).size,(bytesRow st (grownCap c.w st.size 0 e)).size+1)):=iu c.w.drew _
  rw [cell_of_block this]
  simp [bytesRow,Array.getElem?_append,jI]
  intro hge
  have:st.size=st.data.size:=rfl
  omega
 ·rename_i e0 e hs yr
  cases B0:bK s.ρ x<;>rw [B0] at h<;>try (cases h; done)
  rename_i cs m ex
  cases ex
  ·cases h
  simp only at h
  split at h
  rotate_left
  ·cases h
  rename_i hu
  simp only [Vx,beq_iff_eq,decide_eq_true_eq] at hu
  obtain⟨⟨SK,hu⟩,lV⟩:=hu
  subst SK
  obtain⟨he,hsz⟩:=pD hu
  cases h
  refine rX hb0 hd (fun a c Lo lam f hn hbs=>?_) (by rintro k off h; cases h)
  have hx:=bD f x
  rw [B0] at hx
  have GA:=hx.vr (by rintro k off h; cases h)
  simp only [SR,VR] at hx
  obtain⟨ad,cap,qp,h1,h2,_,h3⟩:=hx
  rcases h3 with rfl | ⟨b,off,rfl,HR,hbb,hc⟩
  ·simp at lV
  have hlt:b<c.w.heap.size:=by
   cases cs with
   | nil=>simp at lV
   | cons x cs=>exact jJ hc
  have kM:∃C e' fr,c.w.heap[b]? = some (.cells C e' fr):=by
   cases cs with
   | nil=>simp at lV
   | cons x cs=>
    obtain⟨⟨v,hv,_⟩,_⟩:=hc
    unfold World.cell? at hv
    split at hv
    ·exact⟨_,_,_,by assumption⟩
    ·cases hv
  obtain⟨C,e',fr,hb⟩:=kM
  obtain⟨k1,k2,k3,k4,k5,k6⟩:=va (k:=1) hb (Vy C.size) (by decide)
  refine⟨c.w.freeze ⟨b,C.size,none⟩ 1,a.eval x,hex _ _ _ _ ?_,fun b' _=>k1 b',fun id hl=>k2 _ (HR.1 id hl),fun b' tq=>k2 b' (by have:=hbb trivial; omega),by rw [k3]; exact Vy _,k4,k5,k6,fun IF=>VR.ext IF _ _ GA⟩
  rw [qp]
  have F9:c.w.shape? b=some (e',C.size):=by simp [World.shape?,hb]
  simp [convert,run_underlying yr,run_underlying he,markStringish,F9]
 ·rw [Vt] at h
  obtain⟨v,hv,h⟩:=h
  rw [Vt] at h
  obtain⟨r,hr,h⟩:=h
  refine fE hd fun a c Lo lam f hn=>?_
  have hx:=kI hv ((bD f x).vr (kJ hv))
  exact⟨r,hex _ _ _ _ (by rw [hx]; exact j8 _ hr),SR.of (mZ h)⟩
theorem dW {op:BinOp}{t:TypeId}{x y:Operand}{u v:Value}(h:(∀a b,u≠.agg a∨v≠.agg b)∧u≠.nilIface)(w:World):(eqGuard op t x y u v).run P w = .ok () w:=by
 obtain⟨h1,h2⟩:=h
 unfold eqGuard
 cases op<;>first | rfl | skip
 all_goals
  simp only [Wy,VE,if_false]
  split
  ·exact absurd rfl h2
  ·rename_i a b; rcases h1 a b with h3 | h3<;>exact absurd rfl h3
  ·rfl
theorem yW {x:AV}{u:Value}(h:x.fL=some u):(∀a,u≠.agg a)∧u≠.nilIface:=by
 unfold AV.fL at h
 split at h<;>first | (cases h; done) | (cases h; exact⟨fun _=>(by simp),(by simp)⟩)
theorem B5 {op:BinOp}{a b:ByteArray}{y:AV}(h:yF op a b=some y)(w:World):∃r,(Op.stringOp op a b).run P w = .ok r w∧∀(c:Cx) (L:Nat→Prop),VR c L y r:=by
 have hl:∀z:ByteArray,z.toList=z.data.toList:=fun z=>ByteArray.toList_eq z
 unfold yF at h
 unfold Op.stringOp
 simp only [hl]
 cases op<;>simp only at h<;>try (cases h; done)
 ·split at h
  rotate_left
  ·cases h
  rename_i hsz
  cases h
  refine⟨.string (a++b),?_,fun c L=>by simp only [VR]⟩
  have h1:¬(((a.size+b.size:Nat):Int) > IntKind.i64.max):=by
   have:IntKind.i64.max=9223372036854775807:=by decide
   rw [this]; omega
  simp only [h1,if_false]
  rfl
 all_goals (cases h; exact⟨_,rfl,fun c L=>by simp only [VR]⟩)
theorem na {op:BinOp}{pq:Bool}(h:yG op=some pq):(op = .eql∧pq=true)∨(op = .neq∧pq=false):=by
 unfold yG at h
 split at h<;>cases h
 ·exact .inl ⟨rfl,rfl⟩
 ·exact .inr ⟨rfl,rfl⟩
theorem nS {t:TypeId}(ht:∃q,P.underlying t=some (.pointer q)){a:Addr}{op:BinOp}{pq:Bool}(h:yG op=some pq)(w:World) :
  (binOp op t (.pointer (some a)) (.pointer none)).run P w = .ok (.bool (!pq)) w∧(binOp op t (.pointer none) (.pointer (some a))).run P w = .ok (.bool (!pq)) w:=by
 obtain⟨q,hq⟩:=ht
 have e1:(Op.equal t (.pointer (some a)) (.pointer none)).run P w = .ok false w:=by
  unfold Op.equal Op.maxDepth
  unfold Op.equalIn
  simp [bn hq]
 have e2:(Op.equal t (.pointer none) (.pointer (some a))).run P w = .ok false w:=by
  unfold Op.equal Op.maxDepth
  unfold Op.equalIn
  simp [bn hq]
 rcases na h with⟨rfl,rfl⟩| ⟨rfl,rfl⟩
 ·constructor
  ·show ((do pure (.bool (←Op.equal t (.pointer (some a)) (.pointer none)))):Sem Value).run P w=_
   simp [e1]
  ·show ((do pure (.bool (←Op.equal t (.pointer none) (.pointer (some a))))):Sem Value).run P w=_
   simp [e2]
 ·constructor
  ·show ((do pure (.bool (!(←Op.equal t (.pointer (some a)) (.pointer none))))):Sem Value).run P w=_
   simp [e1]
  ·show ((do pure (.bool (!(←Op.equal t (.pointer none) (.pointer (some a)))))):Sem Value).run P w=_
   simp [e2]
theorem oB {t:TypeId}(ht:∃q,P.underlying t=some (.slice q)){ad:Option Addr}(hs:ad.isSome=true){m cap:Nat}{op:BinOp}{pq:Bool}(h:yG op=some pq)(w:World) :
  (binOp op t (.slice ad m cap) (.slice none 0 0)).run P w = .ok (.bool (!pq)) w:=by
 obtain⟨q,hq⟩:=ht
 obtain⟨a,rfl⟩:=V5.1 hs
 have e1:(Op.equal t (.slice (some a) m cap) (.slice none 0 0)).run P w = .ok false w:=by
  unfold Op.equal Op.maxDepth
  unfold Op.equalIn
  simp [bn hq]
 rcases na h with⟨rfl,rfl⟩| ⟨rfl,rfl⟩
 ·show ((do pure (.bool (←Op.equal t (.slice (some a) m cap) (.slice none 0 0)))):Sem Value).run P w=_
  simp [e1]
 ·show ((do pure (.bool (!(←Op.equal t (.slice (some a) m cap) (.slice none 0 0))))):Sem Value).run P w=_
  simp [e1]
theorem DJ (hd:gh n ds o){op:BinOp}{t t2:TypeId}{x y:Operand}(ho:o.op = .binOp op t x y t2){z:AV}(h:jF P op t (bK s.ρ x) (bK s.ρ y)=some z):jf P L0 c0 n ds o s (s.set o.dst z):=by
 refine fE hd fun a c Lo lam f hn=>?_
 have hx:=bD f x
 have hy:=bD f y
 have hex:∀v,(eqGuard op t x y (a.eval x) (a.eval y)).run P c.w = .ok () c.w→(binOp op t (a.eval x) (a.eval y)).run P c.w = .ok v c.w→(execOp a.eval o).run P c.w = .ok (.value v) c.w:=by
  intro v h1 h2; simp [execOp,ho,h1,h2]
 unfold jF at h
 split at h
 ·rename_i p q hp hq
  rw [hp] at hx; rw [hq] at hy
  simp only [SR,VR] at hx hy
  obtain⟨r,hr,hv⟩:=B5 (P:=P) h c.w
  refine⟨r,hex _ (dW ⟨fun _ _=>.inl (by rw [hx]; simp),by rw [hx]; simp⟩ _) ?_,SR.of (hv _ _)⟩
  rw [hx,hy]
  unfold binOp
  simpa using hr
 ·rename_i p q hp hq
  rw [hp] at hx; rw [hq] at hy
  simp only [SR,VR] at hx hy
  obtain⟨_,ad,qp,_⟩:=hx
  rw [Vt] at h
  obtain⟨pq,qM,h⟩:=h
  split at h
  rotate_left
  ·cases h
  rename_i ht
  cases h
  refine⟨.bool (!pq),hex _ (dW ⟨fun _ _=>.inl (by rw [qp]; simp),by rw [qp]; simp⟩ _) ?_,SR.of (by simp [VR])⟩
  rw [qp,hy]
  exact (nS ⟨_,ht⟩ qM _).1
 ·rename_i p q hp hq
  rw [hp] at hx; rw [hq] at hy
  simp only [SR,VR] at hx hy
  obtain⟨_,ad,MO,_⟩:=hy
  rw [Vt] at h
  obtain⟨pq,qM,h⟩:=h
  split at h
  rotate_left
  ·cases h
  rename_i ht
  cases h
  refine⟨.bool (!pq),hex _ (dW ⟨fun _ _=>.inl (by rw [hx]; simp),by rw [hx]; simp⟩ _) ?_,SR.of (by simp [VR])⟩
  rw [hx,MO]
  exact (nS ⟨_,ht⟩ qM _).2
 ·rename_i p q hp hq
  rw [hp] at hx; rw [hq] at hy
  simp only [SR,VR] at hx hy
  obtain⟨b,off,qp,_⟩:=hx
  rw [Vt] at h
  obtain⟨pq,qM,h⟩:=h
  split at h
  rotate_left
  ·cases h
  rename_i ht
  cases h
  refine⟨.bool (!pq),hex _ (dW ⟨fun _ _=>.inl (by rw [qp]; simp),by rw [qp]; simp⟩ _) ?_,SR.of (by simp [VR])⟩
  rw [qp,hy]
  exact (nS ⟨_,ht⟩ qM _).1
 ·rename_i hp hq
  rw [hp] at hx; rw [hq] at hy
  simp only [SR,VR] at hx hy
  obtain⟨ad,cap,qp,_,_,hs,_⟩:=hx
  replace hs:ad.isSome=true:=hs.elim id fun h=>by cases h.1
  rw [Vt] at h
  obtain⟨pq,qM,h⟩:=h
  split at h
  rotate_left
  ·cases h
  rename_i ht
  cases h
  refine⟨.bool (!pq),hex _ (dW ⟨fun _ _=>.inl (by rw [qp]; simp),by rw [qp]; simp⟩ _) ?_,SR.of (by simp [VR])⟩
  rw [qp,hy]
  exact oB ⟨_,ht⟩ hs qM _
 ·rename_i hp hq
  rw [hp] at hx; rw [hq] at hy
  simp only [SR,VR] at hx hy
  rcases hx with⟨hx,_⟩| ⟨_,_,ad,cap,qp,_,hs,_⟩
  ·omega
  rw [Vt] at h
  obtain⟨pq,qM,h⟩:=h
  split at h
  rotate_left
  ·cases h
  rename_i ht
  cases h
  refine⟨.bool (!pq),hex _ (dW ⟨fun _ _=>.inl (by rw [qp]; simp),by rw [qp]; simp⟩ _) ?_,SR.of (by simp [VR])⟩
  rw [qp,hy]
  exact oB ⟨_,ht⟩ hs qM _
 ·rename_i p q hp hq
  rw [hp,hq] at h
  rw [hp] at hx; rw [hq] at hy
  have GA:=hx.vr (by rintro k off h; cases h)
  have NG:=hy.vr (by rintro k off h; cases h)
  rw [Vt] at h
  obtain⟨pq,qM,h⟩:=h
  split at h
  rotate_left
  ·cases h
  rename_i jN
  simp only [Vx,WG] at jN
  obtain⟨⟨⟨h1,h2⟩,h3⟩,h4⟩:=jN
  cases h
  have hk:=tT (P:=P) 9998 h1 h3 GA NG c.w
  simp only [VR] at GA NG
  obtain⟨vx,qp,_⟩:=GA
  obtain⟨vy,MO,_⟩:=NG
  refine⟨.bool (fw (.agg p) (.agg q)==pq),hex _ ?_ ?_,SR.of (by simp only [VR])⟩
  ·rw [qp,MO]
   rcases na qM with⟨rfl,rfl⟩| ⟨rfl,rfl⟩<;>simp [eqGuard,h4,program,Sem.run]
  ·rw [qp,MO] at hk ⊢
   rcases na qM with⟨rfl,rfl⟩| ⟨rfl,rfl⟩
   ·show ((do pure (.bool (←Op.equal t (.agg vx) (.agg vy)))):Sem Value).run P c.w=_
    have KN:(Op.equal t (.agg vx) (.agg vy)).run P c.w=_:=hk
    simp [KN]
   ·show ((do pure (.bool (!(←Op.equal t (.agg vx) (.agg vy))))):Sem Value).run P c.w=_
    have KN:(Op.equal t (.agg vx) (.agg vy)).run P c.w=_:=hk
    simp [KN]
 ·rw [Vt] at h
  obtain⟨u,hu,h⟩:=h
  rw [Vt] at h
  obtain⟨v,hv,h⟩:=h
  rw [Vt] at h
  obtain⟨r,hr,h⟩:=h
  have h1:=kI hu (hx.vr (kJ hu))
  have h2:=kI hv (hy.vr (kJ hv))
  have h3:=yW hu
  exact⟨r,hex _ (dW ⟨fun p _=>.inl (by rw [h1]; exact h3.1 p),by rw [h1]; exact h3.2⟩ _) (by rw [h1,h2]; exact j8 _ hr),SR.of (mZ h)⟩
theorem GB (hd:gh n ds o){op:UnOp}{t:TypeId}{x:Operand}(ho:o.op = .unOp op t x){z:AV}(h:((bK s.ρ x).fL.bind fun a=>(iB P (Op.unary op a)).bind ot)=some z):jf P L0 c0 n ds o s (s.set o.dst z):=by
 refine fE hd fun a c Lo lam f hn=>?_
 rw [Vt] at h
 obtain⟨u,hu,h⟩:=h
 rw [Vt] at h
 obtain⟨r,hr,h⟩:=h
 have h1:=kI hu ((bD f x).vr (kJ hu))
 refine⟨r,?_,SR.of (mZ h)⟩
 have:=j8 (P:=P) c.w hr
 rw [←h1] at this
 simp [execOp,ho,this]
theorem Ad (hd:gh n ds o){x:Operand}(ho:o.op = .move x∨o.op = .assign x):jf P L0 c0 n ds o s (s.set o.dst (bK s.ρ x)):=
 fE hd fun a c Lo lam f hn=>⟨a.eval x,by rcases ho with ho | ho<;>simp [execOp,ho],bD f x⟩
theorem GC (hd:gh n ds o){k x y:Operand}(ho:o.op = .pick k x y){t:Bool}(h:rL (bK s.ρ k)=some t):jf P L0 c0 n ds o s (s.set o.dst (if t then bK s.ρ x else bK s.ρ y)):=by
 refine fE hd fun a c Lo lam f hn=>?_
 have hk:=bD f k
 unfold rL at h
 split at h
 ·rename_i b hb
  cases h
  rw [hb] at hk
  simp only [SR,VR] at hk
  refine⟨if t then a.eval x else a.eval y,by simp [execOp,ho,hk,asBool],?_⟩
  cases t
  ·exact bD f y
  ·exact bD f x
 ·cases h
theorem wP (hd:gh n ds o){x:Operand}(ho:o.op = .nilCheck x){z:AV}(h:px (bK s.ρ x)=some z):jf P L0 c0 n ds o s (s.set o.dst z):=by
 refine fE hd fun a c Lo lam f hn=>?_
 have hx:=bD f x
 have hp:(∃ad,a.eval x = .pointer (some ad))∧z=bK s.ρ x:=by
  unfold px at h
  split at h
  ·rename_i id off heq
   cases h
   rw [heq] at hx
   simp only [SR,VR] at hx
   obtain⟨_,ad,h1,_⟩:=hx
   exact⟨⟨ad,h1⟩,heq.symm⟩
  ·rename_i k off heq
   cases h
   rw [heq] at hx
   simp only [SR] at hx
   exact⟨⟨_,hx.1⟩,heq.symm⟩
  ·rename_i cs off heq
   cases h
   rw [heq] at hx
   simp only [SR,VR] at hx
   obtain⟨b,o',h1,_⟩:=hx
   exact⟨⟨_,h1⟩,heq.symm⟩
  ·cases h
 obtain⟨⟨ad,hp⟩,rfl⟩:=hp
 exact⟨a.eval x,by simp [execOp,ho,hp],hx⟩
theorem nb {c:Cx}{Lo:Nat→Prop}{lam:Nat→Nat}{a:Act}(f:Fr L0 c Lo lam ds s a):∀xs:List Operand,(∀x∈xs,∀k off,bK s.ρ x≠.lp k off)→VRs c (un L0 Lo) (xs.map (bK s.ρ)) (xs.map a.eval)
 | [],_=>trivial
 | x::xs,h=>⟨(bD f x).vr (h x (by simp)),nb f xs fun y hy=>h y (by simp [hy])⟩
theorem B6 {x:AV}(h:x.bS=true):∀k off,x≠.lp k off:=by rintro k off rfl; simp [AV.bS] at h
theorem wQ (hd:gh n ds o){yX:FuncId}{first cap:Array Operand}(ho:o.op = .makeFunc (.func yX) first cap)(hf:first.isEmpty=true)(hc:(cap.toList.map (bK s.ρ)).all AV.bS=true):jf P L0 c0 n ds o s (s.set o.dst (.fn yX (cap.toList.map (bK s.ρ)))):=by
 refine fE hd fun a c Lo lam f hn=>?_
 have NH:first = #[]:=by simpa using hf
 subst NH
 refine⟨.func (.func yX) #[] (cap.map a.eval),by simp [execOp,ho,Instr.makeFunc],SR.of ?_⟩
 simp only [VR]
 refine⟨_,rfl,?_⟩
 rw [Array.toList_map]
 refine nb f _ fun x hx=>B6 ?_
 rw [VO] at hc
 exact hc _ (V8.2 ⟨x,hx,rfl⟩)
theorem yY (hd:gh n ds o){x:Operand}{i:Nat}(ho:o.op = .extract x i){z:AV}(h:rM (bK s.ρ x) i=some z):jf P L0 c0 n ds o s (s.set o.dst z):=by
 refine fE hd fun a c Lo lam f hn=>?_
 have hx:=bD f x
 cases heq:bK s.ρ x<;>rw [heq] at h hx<;>simp only [rM] at h<;>try (cases h; done)
 rename_i vs
 simp only [SR,VR] at hx
 obtain⟨us,qp,Da⟩:=hx
 obtain⟨v,hv,hr⟩:=Da.get i z h
 have NI:us[i]? = some v:=by simpa using hv
 exact⟨v,by simp [execOp,ho,qp,Instr.extract,NI],SR.of hr⟩
theorem qu {op:Value→Value→Sem Value}:∀(vs:List Value) (v r:Value) (w:World),lg P op v vs=some r→(vs.foldlM op v).run P w = .ok r w
 | [],v,r,w,h=>by simp only [lg,Vw] at h; subst h; rfl
 | x::xs,v,r,w,h=>by
  simp only [lg,Vt] at h
  obtain⟨u,h1,h2⟩:=h
  simp only [List.foldlM_cons,Sem.run_bind,j8 w h1,Result.andThen_ok]
  exact qu xs u r w h2
theorem tZ (hd:gh n ds o){b:Builtin}{Ae:Array TypeId}{args:Array Operand}(ho:o.op = .call {callee:=.builtin b,args:=args,argTypes:=Ae}){op:Value→Value→Sem Value}(hb:(b = .min∧op=Builtin.min2)∨(b = .max∧op=Builtin.max2))
  {x:AV} {xs:List AV} (he:args.toList.map (bK s.ρ)=x::xs) {v u:Value} {vs:List Value} (hx:x.fL=some v) (hxs:iQ xs=some vs) (hf:lg P op v vs=some u) {z:AV} (hz:ot u=some z):jf P L0 c0 n ds o s (s.set o.dst z):=by
 refine fE hd fun a c Lo lam f hn=>?_
 refine⟨u,?_,SR.of (mZ hz)⟩
 have hne:∀q:Operand,∀k off,bK s.ρ q = .lp k off→q∉args.toList:=by
  intro q k off hq hm
  have Ga:AV.lp k off∈x::xs:=by rw [←he,←hq]; exact V8.2 ⟨q,hm,rfl⟩
  rcases VT.1 Ga with h1 | h1
  ·exact kJ hx k off h1.symm
  ·have:∀(ys:List AV) (us:List Value),iQ ys=some us→AV.lp k off∉ys:=by
    intro ys
    induction ys with
    | nil=>intro us _ h; cases h
    | cons y ys ih=>
     intro us hu hm
     simp only [iQ,Vt] at hu
     obtain⟨u1,h2,Vf,h3,_⟩:=hu
     rcases VT.1 hm with h4 | h4
     ·exact kJ h2 k off h4.symm
     ·exact ih _ h3 h4
   exact this _ _ hxs h1
 have zT:=nb f args.toList (fun q hq k off h=>hne q k off h hq)
 rw [he] at zT
 have kN:args.toList.map a.eval=v::vs:=pz (xs:=x::xs) (us:=v::vs) (by simp [iQ,hx,hxs]) zT
 have hr:=qu vs v u c.w hf
 have hargs:args.map a.eval=(v::vs).toArray:=by rw [←kN]; apply Xb; simp
 rcases hb with⟨rfl,rfl⟩| ⟨rfl,rfl⟩
 ·simp [execOp,ho,resolve,invoke,builtin,Builtin.min_,hargs,hr]
 ·simp [execOp,ho,resolve,invoke,builtin,Builtin.max_,hargs,hr]
end
end Go.R
namespace Go.R
open Go
section
variable {P:Program}{L0:Nat→Prop}{c0:Cx}{n:Nat}{ds:List Nat}{s:RS}
theorem Fr.DK {c:Cx}{Lo:Nat→Prop}{lam:Nat→Nat}{a:Act}(f:Fr L0 c Lo lam ds s a)(id:Nat) :
  Ext c Lo ⟨c.β,c.h.kill id,c.w,c.base⟩ Lo∧Fr L0 ⟨c.β,c.h.kill id,c.w,c.base⟩ Lo lam ds {s with h:=s.h.kill id} a∧(Live c.h id→RO ⟨c.β,c.h.kill id,c.w,c.base⟩ (un L0 Lo) (c.β id).1):=by
 have hg:∀i,(c.h.kill id).get i=if i=id then none else c.h.get i:=fun i=>by
  simp only [AHeap.kill,beq_nat]
  by_cases h:i=id<;>simp [h]
 have k8:∀i,Live (c.h.kill id) i→i≠id∧Live c.h i:=fun i hl=>by
  have h2:=hl.2
  rw [hg] at h2
  by_cases h:i=id
  ·rw [if_pos h] at h2; cases h2
  ·rw [if_neg h] at h2
   obtain⟨o,ho⟩:=V5.1 h2
   exact⟨h,f.rel.lt _ _ ho,h2⟩
 have e:Ext c Lo ⟨c.β,c.h.kill id,c.w,c.base⟩ Lo:=
  ⟨WI _,fun i hi hl=>⟨(k8 i hl).2,rfl,rfl⟩,Vy _,fun _ _ _ _=>.inl rfl,fun _ _=>rfl,rfl,fun i hl=>.inr ⟨i,(k8 i hl).2,rfl⟩,fun _ h=>h,fun _ h=>.inl h,rfl,rfl,rfl⟩
 refine⟨e,⟨by rw [←f.h],⟨fun i o ho=>?_,fun i o ho=>?_,fun i j hi hj he=>?_,fun i hi=>?_,f.rel.bd,fun i hi=>?_,(Steady.kill c.h id).wf f.rel.ver⟩,fun t=>?_,fun k cs hb=>?_,f.inj,f.tidy,f.defers,f.Dr⟩,fun hl=>⟨fun i hi he=>?_,f.rel.out id hl⟩⟩
 ·replace ho:(c.h.kill id).get i=some o:=ho
  rw [hg] at ho
  by_cases h:i=id
  ·rw [if_pos h] at ho; cases ho
  ·rw [if_neg h] at ho; exact WO (f.rel.lt _ _ ho)
 ·replace ho:(c.h.kill id).get i=some o:=ho
  rw [hg] at ho
  by_cases h:i=id
  ·rw [if_pos h] at ho; cases ho
  ·rw [if_neg h] at ho
   exact (f.rel.obj i o ho).ext e rfl
 ·exact f.rel.inj i j (k8 i hi).2 (k8 j hj).2 he
 ·exact f.rel.out i (k8 i hi).2
 ·exact f.rel.low i (k8 i hi).2
 ·exact (f.slot t).ext e (fun _ _ _=>⟨rfl,fun h=>h⟩)
 ·have hb2:=f.box k cs hb
  exact hb2.ext e (.inl rfl)
 ·obtain⟨h1,h2⟩:=k8 i hi
  exact h1 (f.rel.inj i id h2 hl he)
theorem GD {c:Cx}{Lo:Nat→Prop}{lam:Nat→Nat}{a:Act}(f:Fr L0 c Lo lam ds s a){x y:AV}{h':AHeap}(h:BV s.h x=some (y,h')) :
  Ext c Lo ⟨c.β,h',c.w,c.base⟩ Lo∧Fr L0 ⟨c.β,h',c.w,c.base⟩ Lo lam ds {s with h:=h'} a∧(∀v,VR c (un L0 Lo) x v→VR ⟨c.β,h',c.w,c.base⟩ (un L0 Lo) y v)∧∀i,Live h' i→Live c.h i:=by
 have same:Ext c Lo ⟨c.β,s.h,c.w,c.base⟩ Lo∧Fr L0 ⟨c.β,s.h,c.w,c.base⟩ Lo lam ds {s with h:=s.h} a∧(⟨c.β,s.h,c.w,c.base⟩:Cx)=c:=by
  have e:(⟨c.β,s.h,c.w,c.base⟩:Cx)=c:=by rw [←f.h]
  rw [e]; exact⟨Ext.refl _ _,f,rfl⟩
 unfold BV at h
 split at h
 ·simp only [Vw,VC] at h
  obtain⟨rfl,rfl⟩:=h
  obtain⟨h1,h2,h3⟩:=same
  exact⟨h1,h2,fun v hv=>by rw [h3]; exact hv,fun i hi=>by rw [f.h]; exact hi⟩
 cases x with
 | rs id off len iq=>
  simp only at h
  split at h
  ·rename_i hid
   split at h
   rotate_left
   ·cases h
   rename_i hl0
   simp only [Vw,VC] at h
   obtain⟨rfl,rfl⟩:=h
   obtain⟨h1,h2,h3⟩:=same
   refine⟨h1,h2,fun v hv=>?_,fun i hi=>by rw [f.h]; exact hi⟩
   simp only [VR] at hv ⊢
   rcases hv with⟨_,_,_,a,rfl⟩| hv
   ·exact⟨a,0,rfl,Vy _,fun _=>rfl,.inr ⟨trivial,rfl⟩,.inl trivial⟩
   ·exact absurd hid hv.1
  rename_i jY
  rw [Vt] at h
  obtain⟨ob,ho,h⟩:=h
  cases ob with
  | map es=>cases h
  | row t cs=>cases h
  | cells cs=>
  simp only at h
  split at h
  rotate_left
  ·cases h
  rename_i hle
  simp only [Vw,VC] at h
  obtain⟨rfl,rfl⟩:=h
  rw [←f.h] at ho
  have hl:Live c.h id:=⟨f.rel.lt _ _ ho,by simp [ho]⟩
  obtain⟨e,f',HR⟩:=f.DK id
  have hb:(⟨c.β,s.h.kill id,c.w,c.base⟩:Cx)=⟨c.β,c.h.kill id,c.w,c.base⟩:=by rw [f.h]
  rw [hb]
  refine⟨e,f',fun v hv=>?_,fun i hi=>?_⟩
  ·simp only [VR] at hv ⊢
   rcases hv with hv | ⟨_,_,a,cap,rfl,h1,h2,h3⟩
   ·exact absurd hv.1 jY
   obtain⟨m,_,_,hc⟩:=f.rel.obj _ _ ho
   refine⟨a,cap,rfl,h1,by simp,.inl h2,?_⟩
   rcases h3 hl with⟨h4,_⟩| h4
   ·exact .inr ⟨_,_,h4,HR hl,by simp,Cells.move e _ _ _ _ _ (fun i hi=>rfl) ((hc.drop off).take (len*iq))⟩
   ·left
    have hz:len=0:=by omega
    subst hz
    simp
  ·have zS:=hi.2
   simp only [AHeap.kill,beq_nat] at zS
   by_cases h:i=id
   ·simp [h] at zS
   ·simp only [h,decide_false,cond_false] at zS
    rw [f.h]
    obtain⟨o,Kl⟩:=V5.1 zS
    have:=f.rel.lt i o (by rw [f.h]; exact Kl)
    rw [f.h] at this
    exact⟨this,zS⟩
 | _=>cases h
theorem Af:∀{cs:List AV} {c:Cx} {Lo:Nat→Prop} {lam:Nat→Nat} {a:Act} {s:RS} {ys:List AV} {h':AHeap},Fr L0 c Lo lam ds s a→uO s.h cs=some (ys,h')→
  Ext c Lo ⟨c.β,h',c.w,c.base⟩ Lo∧Fr L0 ⟨c.β,h',c.w,c.base⟩ Lo lam ds {s with h:=h'} a∧(∀b o,Cells c (un L0 Lo) cs b o→Cells ⟨c.β,h',c.w,c.base⟩ (un L0 Lo) ys b o)∧∀i,Live h' i→Live c.h i
 | [],c,Lo,lam,a,s,ys,h',f,h=>by
  cases h
  have e:(⟨c.β,s.h,c.w,c.base⟩:Cx)=c:=by rw [←f.h]
  rw [e]
  exact⟨Ext.refl _ _,f,fun _ _ h=>h,fun i hi=>by rw [f.h]; exact hi⟩
 | x::cs,c,Lo,lam,a,s,ys,h',f,h=>by
  simp only [uO,Vt,Vv] at h
  obtain⟨⟨y,h1⟩,hx,⟨zs,h2⟩,hz,he⟩:=h
  simp only [VC] at he
  obtain⟨rfl,rfl⟩:=he
  obtain⟨e1,f1,v1,l1⟩:=GD f hx
  obtain⟨e2,f2,v2,l2⟩:=Af f1 hz
  refine⟨e1.trans e2,f2,fun b o hc=>?_,fun i hi=>l1 i (l2 i hi)⟩
  obtain⟨⟨v,q1,q2,q3⟩,hc⟩:=hc
  exact⟨⟨v,q1,q2,VR.ext e2 _ _ (v1 v q3)⟩,v2 _ _ (Cells.move e1 _ _ _ _ _ (fun i hi=>rfl) hc)⟩
theorem vb {c:Cx}{Lo:Nat→Prop}{lam:Nat→Nat}{a:Act}(f:Fr L0 c Lo lam ds s a){k:Nat}{x y:AV}{h':AHeap}(h:je k s.h x=some (y,h')) :
  (∀k off,x≠.lp k off)∧(∀k off,y≠.lp k off)∧∃c',c'.w=c.w∧Ext c Lo c' Lo∧Fr L0 c' Lo lam ds {s with h:=h'} a∧∀v,VR c (un L0 Lo) x v→VR c' (un L0 Lo) y v:=by
 cases k with
 | zero=>
  cases x with
  | nils=>
   simp only [je,Vw,VC] at h
   obtain⟨rfl,rfl⟩:=h
   refine⟨by simp,by simp,c,rfl,Ext.refl _ _,f,fun v hv=>?_⟩
   simp only [VR] at hv ⊢
   exact⟨none,0,hv,Vy _,fun _=>rfl,.inr ⟨trivial,rfl⟩,.inl trivial⟩
  | fz cs m ex=>
   simp only [je,Vw,VC] at h
   obtain⟨rfl,rfl⟩:=h
   refine⟨by simp,by simp,c,rfl,Ext.refl _ _,f,fun v hv=>?_⟩
   simp only [VR] at hv ⊢
   obtain⟨a,cap,rfl,h1,h2,hs,hc⟩:=hv
   exact⟨a,cap,rfl,h1,by simp,hs,hc.imp id fun ⟨b,o,ha,hr,hex,hc⟩=>⟨b,o,ha,hr,by simp,hc⟩⟩
  | rs id off len iq=>
   simp only [je] at h
   split at h
   ·rename_i hid
    split at h
    rotate_left
    ·cases h
    rename_i hl0
    simp only [Vw,VC] at h
    obtain⟨rfl,rfl⟩:=h
    refine⟨by simp,by simp,c,rfl,Ext.refl _ _,f,fun v hv=>?_⟩
    simp only [VR] at hv ⊢
    rcases hv with⟨_,_,_,a,rfl⟩| hv
    ·exact⟨a,0,rfl,Vy _,fun _=>rfl,.inr ⟨trivial,rfl⟩,.inl trivial⟩
    ·exact absurd hid hv.1
   rename_i jY
   rw [Vt] at h
   obtain⟨ob,ho,h⟩:=h
   cases ob with
   | map es=>cases h
   | row t cs=>cases h
   | cells cs=>
   simp only at h
   split at h
   rotate_left
   ·cases h
   rename_i hle
   rw [Vv] at h
   obtain⟨⟨eY,h2⟩,hz,he⟩:=h
   simp only [VC] at he
   obtain⟨rfl,rfl⟩:=he
   rw [←f.h] at ho
   have hl:Live c.h id:=⟨f.rel.lt _ _ ho,by simp [ho]⟩
   obtain⟨e,f',HR⟩:=f.DK id
   obtain⟨e2,f2,hcs,k8⟩:=Af f' hz
   refine⟨by simp,by simp,⟨c.β,h2,c.w,c.base⟩,rfl,e.trans e2,f2,fun v hv=>?_⟩
   simp only [VR] at hv ⊢
   rcases hv with hv | ⟨_,_,a,cap,rfl,h1,h2,h3⟩
   ·exact absurd hv.1 jY
   obtain⟨m,_,_,hc⟩:=f.rel.obj _ _ ho
   refine⟨a,cap,rfl,h1,by simp,.inl h2,?_⟩
   rcases h3 hl with⟨h4,_⟩| h4
   ·exact .inr ⟨_,_,h4,⟨fun i hi=>(HR hl).1 i (k8 i hi),(HR hl).2⟩,by simp,hcs _ _ (Cells.move e _ _ _ _ _ (fun i hi=>rfl) ((hc.drop off).take (len*iq)))⟩
   ·left
    have hz0:len=0:=by omega
    subst hz0
    simp [uO] at hz
    exact hz.1
  | _=>simp [je] at h
 | succ k=>
  have key:(x = .nils∨x = .fz [] 0 true)→y = .rs 0 0 0 (k+1)→h'=s.h→(∀k off,x≠.lp k off)∧(∀k off,y≠.lp k off)∧∃c',c'.w=c.w∧Ext c Lo c' Lo∧Fr L0 c' Lo lam ds {s with h:=h'} a∧∀v,VR c (un L0 Lo) x v→VR c' (un L0 Lo) y v:=by
   rintro hx rfl rfl
   refine⟨by rcases hx with rfl | rfl<;>simp,by simp,c,rfl,Ext.refl _ _,f,fun v hv=>?_⟩
   rcases hx with rfl | rfl
   ·simp only [VR] at hv ⊢
    exact .inl ⟨trivial,trivial,trivial,none,hv⟩
   ·simp only [VR] at hv ⊢
    obtain⟨a,cap,rfl,h1,h2,hs,hc⟩:=hv
    have:=h2 trivial
    subst this
    exact .inl ⟨trivial,trivial,trivial,a,rfl⟩
  unfold je at h
  simp only at h
  split at h
  ·simp only [Vw,VC] at h
   exact key (.inl rfl) h.1.symm h.2.symm
  ·simp only [Vw,VC] at h
   exact key (.inr rfl) h.1.symm h.2.symm
  ·simp only [Vw,VC] at h
   obtain⟨rfl,rfl⟩:=h
   exact⟨by simp,by simp,c,rfl,Ext.refl _ _,f,fun v hv=>hv⟩
  ·cases h
end
end Go.R
namespace Go.R
open Go
def CallOK (P:Program)(cf:CallF):Prop:=
 ∀f args h r h',cf f args h=some (r,h')→
  (∀(vs:Array Value) (w:World),(callFunc f vs).run P w = .ok (.enter f vs) w)∧
  ∀(L0:Nat→Prop) (c:Cx) (vs:List Value),c.h=h→c.base≤c.w.heap.size→HRel c L0→VRs c L0 args vs→
   Calls P f vs.toArray c.w fun e w'=>∃c' v,e = .returned v∧c'.w=w'∧c'.h=h'∧VR c' L0 r v∧HRel c' L0∧Ext c none0 c' none0
section
variable {P:Program}{L0:Nat→Prop}{c0:Cx}{n:Nat}{ds:List Nat}{o:Oper}{s:RS}
theorem Fr.call {c c':Cx}{Lo:Nat→Prop}{lam:Nat→Nat}{a:Act}(f:Fr L0 c Lo lam ds s a)(hr:HRel c' (un L0 Lo))(e:Ext c none0 c' none0) :
  Ext c Lo c' Lo∧Fr L0 c' Lo lam ds {s with h:=c'.h} a:=by
 have qe:∀b,Lo b→b<c.w.heap.size:=fun b hb=>f.rel.bd b (.inr hb)
 have e':Ext c Lo c' Lo:=
  ⟨e.next,e.live,e.size,fun b h1 _ h3=>e.keep b h1 (fun h=>h.elim) h3,e.exact,e.base,e.Gq,fun _ h=>h,fun _ h=>.inl h,e.os,e.tape,e.output⟩
 refine⟨e',rfl,hr,fun t=>(f.slot t).ext e' (fun _ _ _=>⟨rfl,fun h=>h⟩),fun k cs hb=>?_,f.inj,f.tidy,f.defers,fun b hb=>by rw [e.base]; exact f.Dr b hb⟩
 have ob:=f.box k cs hb
 exact ob.ext e' (e.keep _ ob.plain.lt (fun h=>h.elim) fun id hl he=>f.rel.out id hl (he ▸ .inr ob.own))
theorem GF {cf:CallF}(hcf:CallOK P cf)(hb0:c0.base≤c0.w.heap.size)(hd:gh n ds o){fx:Operand}{args:Array Operand}{Ae:Array TypeId}(ho:o.op = .call {callee:=.value fx,args:=args,argTypes:=Ae}){yX:FuncId}{cap:List AV}
  (hf:bK s.ρ fx = .fn yX cap) (ha:(args.toList.map (bK s.ρ)).all AV.kC=true) {r:AV} {h':AHeap} (h:cf yX (args.toList.map (bK s.ρ)++cap) s.h=some (r,h')) {aE:List Nat} {y:AV} {h2:AHeap} (hy:uP aE o.dst (r,h')=some (y,h2)) :
  jf P L0 c0 n ds o s ({s with h:=h2}.set o.dst y):=by
 rintro a w K Q ⟨hn,c,Lo,lam,rfl,f,e0⟩ hK
 obtain⟨hin,hcall⟩:=hcf _ _ _ _ _ h
 have NJ:=bD f fx
 rw [hf] at NJ
 simp only [SR,VR] at NJ
 obtain⟨cv,SL,KQ⟩:=NJ
 have hargs:VRs c (un L0 Lo) (args.toList.map (bK s.ρ)) (args.toList.map a.eval):=by
  refine nb f _ fun x hx=>r8 ?_
  rw [VO] at ha
  exact ha _ (V8.2 ⟨x,hx,rfl⟩)
 have kN:=VRs.append hargs KQ
 unfold Oper.wp
 have:(execOp a.eval o).run P c.w = .ok (.enter yX (args.map a.eval++cv)) c.w:=by
  simp [execOp,ho,resolve,SL,Deferred.ofValue,invoke,hin]
 rw [this,Oper.upon_enter]
 have hc:=hcall (un L0 Lo) c _ f.h (jc e0 hb0) f.rel kN
 have he:(args.toList.map a.eval++cv.toList).toArray=args.map a.eval++cv:=by
  apply Xb; simp
 rw [he] at hc
 refine Calls.mono hc ?_
 rintro e w' ⟨c',v,rfl,rfl,hh,hv,hrel,IG⟩
 obtain⟨e',f'⟩:=f.call hrel IG
 rw [hh] at f'
 have fin:y=r→h2=h'→K (a.put o.dst v) c'.w:=by
  rintro rfl rfl
  exact hK _ _ ⟨(gg _ _ _).trans hn,c',Lo,lam,rfl,f'.set (SR.of hv) (fun t ht=>by rw [hn]; exact hd t ht),e0.trans e'⟩
 unfold uP at hy
 cases hm:KF aE o.dst with
 | false=>rw [hm,cond_false] at hy; cases hy; exact fin rfl rfl
 | true=>
  rw [hm,cond_true] at hy
  obtain⟨_,_,c2,hw,e2,f2,Iv⟩:=vb (s:={s with h:=h'}) f' hy
  have Nl:=Iv v hv
  refine hK _ _ ⟨(gg _ _ _).trans hn,c2,Lo,lam,hw,f2.set (SR.of Nl) (fun t ht=>by rw [hn]; exact hd t ht),(e0.trans e').trans e2⟩
theorem Option.map_some' {α β:Type}{x:Option α}{g:α→β}{y:β}(h:x.map g=some y):∃z,x=some z∧g z=y:=Vv.1 h
theorem ub {aE:List Nat}{cs:List AV}{s':RS}(h:ie s aE ds o cs=some s'):cs.all AV.bS=true:=by
 unfold ie at h
 split at h
 ·assumption
 ·cases h
theorem II {cf:CallF}(hcf:CallOK P cf)(hb0:c0.base≤c0.w.heap.size)(hd:gh n ds o){aE:List Nat}{s':RS}(h:uQ P cf aE ds s o=some s'):jf P L0 c0 n ds o s s':=by
 have dO:∀{x:Option AV},(x.map fun x=>s.set o.dst x)=some s'→(∀z,x=some z→jf P L0 c0 n ds o s (s.set o.dst z))→jf P L0 c0 n ds o s s':=by
  intro x hx hz
  obtain⟨z,rfl,rfl⟩:=Option.map_some' hx
  exact hz z rfl
 unfold uQ yJ at h
 dsimp only at h
 split at h
 ·rename_i x ho; cases h; exact Ad hd (.inl ho)
 ·rename_i x ho; cases h; exact Ad hd (.inr ho)
 ·rename_i k x y ho
  obtain⟨t,ht,rfl⟩:=Option.map_some' h
  exact GC hd ho ht
 ·
  rename_i t ho
  rw [Vt] at h
  obtain⟨z,hz,h⟩:=h
  refine tW hb0 hd t h fun a c Lo lam f hn=>?_
  have od:=ub h
  obtain⟨v,h1,h2,h3⟩:=B2 (P:=P) (c:=c) hz (Gx od) (un L0 Lo)
  exact⟨v,by simp [execOp,ho,h1],zY h2,h3⟩
 ·
  rename_i t x ho
  refine tW hb0 hd t h fun a c Lo lam f hn=>?_
  have od:(bK s.ρ x).cells.all AV.bS=true:=ub h
  obtain⟨h1,h2⟩:=iG od ((bD f x).rr od)
  exact⟨a.eval x,by simp [execOp,ho,Instr.box,newVar,newRow],h1,h2⟩
 ·rename_i t ps ho
  refine dO h fun z hz=>fE hd fun a c Lo lam f hn=>?_
  obtain⟨z0,hz0,rfl⟩:=Vv.1 hz
  obtain⟨v,hr,hv⟩:=run_build (P:=P) (oy f ps.toList) hz0
  refine⟨v,?_,SR.of (Gw hv)⟩
  have he:ps.map (fun (i,x)=>(i,a.eval x))=(ps.toList.map fun (i,x)=>(i,a.eval x)).toArray:=by
   apply Xb; simp
  simp only [execOp,ho,Sem.run_bind]
  rw [he,hr]
  rfl
 ·rename_i t k ps ho
  rw [Vv] at h
  obtain⟨z,hz,rfl⟩:=h
  exact rY hb0 hd ho aE hz
 ·
  rename_i t x ho
  refine dO h fun z hz=>fE hd fun a c Lo lam f hn=>?_
  obtain⟨r,hr,hv⟩:=rQ (P:=P) f (t:=t) (bD f x) hz
  exact⟨r,by simp [execOp,ho,hr],SR.of hv⟩
 ·
  rename_i t x y ho
  split at h
  ·cases h
  rename_i qK
  exact DA hb0 hd ho (by simpa using qK) h
 ·rename_i ho; exact dO h fun z hz=>wP hd ho hz
 ·rename_i ho; exact dO h fun z hz=>DJ hd ho hz
 ·rename_i ho; exact dO h fun z hz=>GB hd ho hz
 ·rename_i ho; exact dO h fun z hz=>yV hb0 hd ho hz
 ·rename_i yX first cap ho
  split at h
  ·rename_i hh
   refine dO h fun z hz=>?_
   cases hz
   exact wQ hd ho hh.1 hh.2
  ·cases h
 ·rename_i ho; cases h; exact yS hb0 hd ho
 ·rename_i ho; exact uX hb0 hd ho h
 ·
  rename_i t x lo hi mx ho
  refine dO h fun z hz=>fE hd fun a c Lo lam f hn=>?_
  have hs:∀(q:Option Operand) (y:AV),q.map (bK s.ρ)=some y→∃v,q.map a.eval=some v∧SR c L0 Lo lam s.bx y v:=by
   intro q y hq
   obtain⟨u,rfl,rfl⟩:=Option.map_some' hq
   exact⟨_,rfl,bD f u⟩
  have Km:∀(q:Option Operand),q.map (bK s.ρ)=none→q.map a.eval=none:=by
   intro q hq
   simpa using hq
  obtain⟨r,hr,hv⟩:=yQ (P:=P) (bD f x) (hs lo) (Km lo) (hs hi) (Km hi) (hs mx) (Km mx) hz
  exact⟨r,by simp [execOp,ho,hr],SR.of hv⟩
 ·rename_i t x i ho
  refine dO h fun z hz=>fE hd fun a c Lo lam f hn=>?_
  obtain⟨r,hr,hv⟩:=wE (P:=P) (bD f x) hz
  exact⟨r,by simp [execOp,ho,hr],hv⟩
 ·rename_i t x i ho
  refine dO h fun z hz=>fE hd fun a c Lo lam f hn=>?_
  obtain⟨r,hr,hv⟩:=yO (P:=P) (bD f x) hz
  exact⟨r,by simp [execOp,ho,hr],SR.of hv⟩
 ·rename_i t x i ho
  refine dO h fun z hz=>fE hd fun a c Lo lam f hn=>?_
  obtain⟨r,hr,hv⟩:=wD (P:=P) (bD f x) (bD f i) hz
  exact⟨r,by simp [execOp,ho,hr],hv⟩
 ·rename_i t x i ho
  refine dO h fun z hz=>fE hd fun a c Lo lam f hn=>?_
  obtain⟨r,hr,hv⟩:=yP (P:=P) (bD f x) (bD f i) hz
  exact⟨r,by simp [execOp,ho,hr],SR.of hv⟩
 ·rename_i t m k ok ho
  refine dO h fun z hz=>fE hd fun a c Lo lam f hn=>?_
  obtain⟨r,hr,hv⟩:=wJ (P:=P) f (bD f m) (bD f k) hz
  exact⟨r,by simp [execOp,ho,hr],SR.of hv⟩
 ·rename_i t m k x ho
  split at h
  ·cases h
  rename_i qK
  obtain⟨h',hh,rfl⟩:=Option.map_some' h
  exact oA hb0 (.inl ho) (by simpa using qK) hh
 ·rename_i t m k x ho
  split at h
  ·cases h
  rename_i qK
  obtain⟨h',hh,rfl⟩:=Option.map_some' h
  exact oA hb0 (.inr ho) (by simpa using qK) hh
 ·rename_i ho; exact dO h fun z hz=>yY hd ho hz
 ·
  rename_i b args Ae ho
  unfold fM at h
  split at h
  ·rename_i t x hts hargs
   have yZ:Ae = #[t]:=by apply Xb; simpa using hts
   obtain⟨q,hq,rfl⟩:∃q,args = #[q]∧bK s.ρ q=x:=by
    cases args with | mk l=>
    rcases l with _ | ⟨q,_ | ⟨q2,l⟩⟩<;>simp at hargs
    exact⟨q,rfl,hargs⟩
   subst yZ hq
   refine dO h fun z hz=>fE hd fun a c Lo lam f hn=>?_
   obtain⟨r,hr,hv⟩:=Dx (P:=P) f #[t] rfl (bD f q) hz o.type
   exact⟨r,by simp [execOp,ho,resolve,invoke,builtin,hr],SR.of hv⟩
  ·rename_i t t2 x y hts hargs
   have yZ:Ae = #[t,t2]:=by apply Xb; simpa using hts
   obtain⟨q,q2,hq,rfl,rfl⟩:∃q q2,args = #[q,q2]∧bK s.ρ q=x∧bK s.ρ q2=y:=by
    cases args with | mk l=>
    rcases l with _ | ⟨q,_ | ⟨q2,_ | ⟨q3,l⟩⟩⟩<;>simp at hargs
    exact⟨q,q2,rfl,hargs.1,hargs.2⟩
   subst yZ hq
   exact B3 hb0 hd ho h
  ·rename_i t t2 x y hts hargs
   have yZ:Ae = #[t,t2]:=by apply Xb; simpa using hts
   obtain⟨q,q2,hq,rfl,rfl⟩:∃q q2,args = #[q,q2]∧bK s.ρ q=x∧bK s.ρ q2=y:=by
    cases args with | mk l=>
    rcases l with _ | ⟨q,_ | ⟨q2,_ | ⟨q3,l⟩⟩⟩<;>simp at hargs
    exact⟨q,q2,rfl,hargs.1,hargs.2⟩
   subst yZ hq
   obtain⟨⟨z,h'⟩,hh,rfl⟩:=Option.map_some' h
   exact Gz hb0 hd ho hh
  ·rename_i t x hts hargs
   have yZ:Ae = #[t]:=by apply Xb; simpa using hts
   obtain⟨q,hq,rfl⟩:∃q,args = #[q]∧bK s.ρ q=x:=by
    cases args with | mk l=>
    rcases l with _ | ⟨q,_ | ⟨q2,l⟩⟩<;>simp at hargs
    exact⟨q,rfl,hargs⟩
   subst yZ hq
   obtain⟨h',hh,rfl⟩:=Option.map_some' h
   exact DG hb0 hd ho hh
  ·rename_i x xs hargs
   rw [Vt] at h
   obtain⟨v,hv,h⟩:=h
   rw [Vt] at h
   obtain⟨vs,Da,h⟩:=h
   rw [Vt] at h
   obtain⟨u,hu,h⟩:=h
   exact dO h fun z hz=>tZ hd ho (.inl ⟨rfl,rfl⟩) hargs hv Da hu hz
  ·rename_i x xs hargs
   rw [Vt] at h
   obtain⟨v,hv,h⟩:=h
   rw [Vt] at h
   obtain⟨vs,Da,h⟩:=h
   rw [Vt] at h
   obtain⟨u,hu,h⟩:=h
   exact dO h fun z hz=>tZ hd ho (.inr ⟨rfl,rfl⟩) hargs hv Da hu hz
  ·cases h
 ·
  rename_i fx args Ae ho
  split at h
  ·rename_i yX cap heq
   split at h
   ·rename_i ha
    obtain⟨⟨r,h'⟩,hh,rfl⟩:=Option.map_some' h
    rw [Vt] at hh
    obtain⟨⟨r0,h0⟩,hh,hm⟩:=hh
    exact GF hcf hb0 hd ho heq ha hh hm
   ·cases h
  ·cases h
 ·cases h
end
end Go.R
namespace Go.R
open Go
section
variable {P:Program}{L0:Nat→Prop}{c0:Cx}{n:Nat}{ds:List Nat}{s:RS}
theorem pE {h:AHeap}:∀{cs:List AV},cH cs=true→uO h cs=some (cs,h)
 | [],_=>rfl
 | x::cs,hn=>by
  simp only [cH,Vx] at hn
  simp only [uO,BV,hn.1,if_true,Vu,pE hn.2,VA]
theorem wR {h h':AHeap}{x y:AV}(hz:BV h x=some (y,h')):Steady h h':=by
 unfold BV at hz
 split at hz
 ·cases hz; exact Steady.refl _
 split at hz
 ·split at hz
  ·split at hz
   ·cases hz; exact Steady.refl _
   ·cases hz
  rw [Vt] at hz
  obtain⟨o,_,hz⟩:=hz
  split at hz
  ·split at hz
   ·cases hz; exact Steady.kill _ _
   ·cases hz
  ·cases hz
 ·cases hz
theorem qv:∀{cs ys:List AV} {h h':AHeap},uO h cs=some (ys,h')→Steady h h'
 | [],ys,h,h',hz=>by cases hz; exact Steady.refl _
 | x::cs,ys,h,h',hz=>by
  simp only [uO,Vt,Vv] at hz
  obtain⟨⟨y,h1⟩,hx,⟨zs,h2⟩,hz,he⟩:=hz
  simp only [VC] at he
  obtain⟨rfl,rfl⟩:=he
  exact (wR hx).trans (qv hz)
theorem Inv.uT {a:Act}{w:World}{p:Nat × Option Nat × Nat}{s':RS}(hi:Inv L0 c0 n ds s a w)(h:uT s p=some s'):Inv L0 c0 n ds s' a w:=by
 obtain⟨hn,c,Lo,lam,rfl,f,e⟩:=hi
 unfold Go.R.uT at h
 split at h
 ·rw [Vv] at h
  obtain⟨⟨y,h'⟩,hz,rfl⟩:=h
  obtain⟨hx,hy,c',hw,e',f',hv⟩:=vb f hz
  refine⟨hn,c',Lo,lam,hw,⟨f'.h,f'.rel,fun t=>?_,f'.box,f'.inj,fun t k off ht he=>?_,f'.defers,f'.Dr⟩,e.trans e'⟩
  ·simp only [beq_nat]
   by_cases ht:t=p.1
   ·subst ht
    simp only [decide_true,cond_true]
    exact SR.of (hv _ ((f.slot _).vr hx))
   ·simp only [ht,decide_false,cond_false]
    exact f'.slot t
  ·simp only [beq_nat] at he
   by_cases QB:t=p.1
   ·simp only [QB,decide_true,cond_true] at he
    exact absurd he (hy _ _)
   ·simp only [QB,decide_false,cond_false] at he
    exact f'.tidy t k off ht he
 ·rename_i i hp
  split at h
  rotate_left
  ·cases h
  rename_i cs hcs
  simp only [Vt,Vv] at h
  obtain⟨x,hx,⟨y,h'⟩,hz,rfl⟩:=h
  obtain⟨hx1,hy,c',hw,e',f',hv⟩:=vb f hz
  have qn:∀k,(bif Wa k p.1 then some (cs.set i y) else s.bx k).isSome=(s.bx k).isSome:=fun k=>by
   simp only [beq_nat]
   by_cases hk:k=p.1
   ·subst hk; simp [hcs]
   ·simp [hk]
  refine⟨hn,c',Lo,lam,hw,⟨f'.h,f'.rel,fun t=>?_,fun k eY hb=>?_,fun k k' h1 h2=>f'.inj k k' (by rw [←qn]; exact h1) (by rw [←qn]; exact h2),f'.tidy,f'.defers,f'.Dr⟩,e.trans e'⟩
  ·have:=f'.slot t
   unfold SR at this ⊢
   split
   ·rename_i k off he
    rw [he] at this
    simp only at this
    exact⟨this.1,by rw [qn]; exact this.2⟩
   ·rename_i x' GA
    split at this
    ·rename_i he; exact absurd he (GA _ _)
    ·exact this
  ·simp only [beq_nat] at hb
   by_cases hk:k=p.1
   ·subst hk
    simp only [decide_true,cond_true,Vw] at hb
    subst hb
    have ob:=f.box _ cs hcs
    have NK:=f'.box _ cs hcs
    refine⟨NK.own,by rw [VG]; exact NK.plain,?_⟩
    obtain⟨vs,q1,q2,q3⟩:=ob.cells.vals
    obtain⟨SM,r1,r2,r3⟩:=NK.cells.vals
    have hlen:vs=SM:=by
     apply W2
     intro j
     by_cases hj:j<cs.length
     ·rw [←q2 j hj,←r2 j hj,hw]
     ·rw [V7 (by rw [←q1.length]; omega),V7 (by rw [←r1.length]; omega)]
    subst hlen
    obtain⟨u,hu,hr⟩:=VRs.get q1 i x hx
    have DI:VRs c' (un L0 Lo) (cs.set i y) vs:=by
     have:=VRs.set (hv u hr) i r1
     have HQ:vs.set i u=vs:=by
      apply W2
      intro j
      rw [W3]
      by_cases hji:i=j
      ·subst hji
       rw [if_pos rfl,hu]
       have:=(VB.1 hu).1
       simp [this]
      ·rw [if_neg hji]
     rwa [HQ] at this
    exact Cells.of_vals DI (fun j hj=>by rw [r2 j (by rw [r1.length]; exact hj)]) r3
   ·simp only [hk,decide_false,cond_false] at hb
    exact f'.box k eY hb
theorem Inv.kE {a:Act}{w:World}:∀{l:List (Nat × Option Nat × Nat)} {s s':RS},Inv L0 c0 n ds s a w→kE s l=some s'→Inv L0 c0 n ds s' a w
 | [],s,s',hi,h=>by cases h; exact hi
 | p::ps,s,s',hi,h=>by
  simp only [Go.R.kE,Vt] at h
  obtain⟨s1,h1,h2⟩:=h
  exact Inv.kE (hi.uT h1) h2
theorem GG {A:b5}{r:Nat}{s:RS}:(s.mh A r).h=s.h:=by
 unfold RS.mh
 split<;>rfl
theorem mo {k:Nat}{h h':AHeap}{x y:AV}(hz:je k h x=some (y,h')):Steady h h':=by
 unfold je at hz
 split at hz
 ·split at hz
  ·cases hz; exact Steady.refl _
  ·split at hz
   ·split at hz
    ·cases hz; exact Steady.refl _
    ·cases hz
   rw [Vt] at hz
   obtain⟨o,_,hz⟩:=hz
   split at hz
   ·split at hz
    ·rw [Vv] at hz
     obtain⟨⟨eY,h2⟩,hz,he⟩:=hz
     simp only [VC] at he
     obtain⟨rfl,rfl⟩:=he
     exact (Steady.kill _ _).trans (qv hz)
    ·cases hz
   ·cases hz
  ·cases hz; exact Steady.refl _
  ·cases hz
 ·split at hz<;>cases hz<;>exact Steady.refl _
theorem wS {s s':RS}{p:Nat × Option Nat × Nat}(hz:uT s p=some s'):Steady s.h s'.h:=by
 unfold uT at hz
 split at hz
 ·rw [Vv] at hz
  obtain⟨⟨y,h'⟩,hz,rfl⟩:=hz
  exact mo hz
 ·split at hz
  ·simp only [Vt,Vv] at hz
   obtain⟨x,hx,⟨y,h'⟩,hz,rfl⟩:=hz
   exact mo hz
  ·cases hz
theorem mq:∀{l:List (Nat × Option Nat × Nat)} {s s':RS},kE s l=some s'→Steady s.h s'.h
 | [],s,s',h=>by cases h; exact Steady.refl _
 | p::ps,s,s',h=>by
  simp only [kE,Vt] at h
  obtain⟨s1,h1,h2⟩:=h
  exact (wS h1).trans (mq h2)
end
end Go.R
namespace Go.R
open Go
section
variable {P:Program}{L0:Nat→Prop}{c0:Cx}{n:Nat}{ds:List Nat}{o:Oper}{s:RS}
theorem B7 {ops:Array Oper}{c:Cx}{Lo:Nat→Prop}{lam:Nat→Nat}{a:Act}(f:Fr L0 c Lo lam ds s a){b:Bool}(h:gR ops.toList s.ρ o=some b):Region.wanted o (yielded ops a.tmps)=b:=by
 unfold gR at h
 unfold Region.wanted
 split at h
 ·rename_i hg; rw [hg]; cases h; rfl
 ·rename_i j want hg
  rw [hg]
  rw [Vt] at h
  obtain⟨d,hd,h⟩:=h
  have Gb:(ops[j]?).bind (·.dst)=some d:=by simpa using hd
  have hs:=f.slot d
  simp only [yielded,Gb,Vu]
  rw [Array.getD_eq_getD_getElem?] at hs
  split at h
  ·rename_i b' hb
   cases h
   rw [hb] at hs
   simp only [SR,VR] at hs
   cases hq:a.tmps[d]? with
   | none=>rw [hq] at hs; simp [undef] at hs
   | some v=>
    rw [hq] at hs
    simp only [Wr] at hs
    subst hs
    cases b'<;>cases want<;>rfl
  ·rename_i hb
   cases h
   rw [hb] at hs
   simp only [SR,VR] at hs
   obtain⟨vs,hv,_⟩:=hs
   cases hq:a.tmps[d]? with
   | none=>rfl
   | some v=>
    rw [hq] at hv
    simp only [Wr] at hv
    subst hv
    rfl
  ·cases h
theorem wT {cf:CallF}(hcf:CallOK P cf)(hb0:c0.base≤c0.w.heap.size){ops:Array Oper}(IJ:ds=ops.toList.filterMap (·.dst))(hd:gh n ds o){aE:List Nat}{s':RS}(h:mg P cf aE ops.toList s o=some s')
  {a:Act} {w:World} {K:Act→World→Prop} {Q:Exit→Act→World→Prop} (hi:Inv L0 c0 n ds s a w) (hK:∀a' w',Inv L0 c0 n ds s' a' w'→K a' w') :
  if Region.wanted o (yielded ops a.tmps) then o.wp P a w K Q else K (a.put o.dst undef) w:=by
 unfold mg at h
 rw [Vt] at h
 obtain⟨b,hb,h⟩:=h
 have SN:=hi
 obtain⟨hn,c,Lo,lam,rfl,f,e⟩:=hi
 rw [B7 f hb]
 cases b with
 | true=>
  simp only [if_true] at h ⊢
  rw [←IJ] at h
  exact II hcf hb0 hd h a c.w K Q SN hK
 | false=>
  simp only [VE,if_false,Vw] at h ⊢
  subst h
  exact hK _ _ ⟨(gg _ _ _).trans hn,c,Lo,lam,rfl,f.set (SR.of (by simp [VR,undef,VRs])) (fun t ht=>by rw [hn]; exact hd t ht),e⟩
def uc (n:Nat)(ops:List Oper):Bool:=ops.all fun o=>match o.dst with | some t=>Nat.blt t n | none=>true
theorem wU {ops:List Oper}(h:uc n ops=true){o:Oper}(ho:o∈ops):gh n (ops.filterMap (·.dst)) o:=by
 intro t ht
 unfold uc at h
 rw [VO] at h
 have:=h o ho
 rw [ht] at this
 exact⟨Nat.blt_eq.mp this,List.mem_filterMap.2 ⟨o,ho,ht⟩⟩
theorem Ag {cf:CallF}(hcf:CallOK P cf)(hb0:c0.base≤c0.w.heap.size){ops:Array Oper}(IJ:ds=ops.toList.filterMap (·.dst))(F8:uc n ops.toList=true){aE:List Nat}{Q:Exit→Act→World→Prop}{s':RS}(hQ:∀a' w',Inv L0 c0 n ds s' a' w'→Q .normal a' w') :
  ∀(l:List Oper) (s:RS),(∀o∈l,o∈ops.toList)→qI P cf aE ops.toList s l=some s'→∀a w,Inv L0 c0 n ds s a w→wpList P ops Q l a w
 | [],s,_,h,a,w,hi=>by
  simp only [qI,Vw] at h
  subst h
  exact wpList_nil (hQ a w hi)
 | o::l,s,hl,h,a,w,hi=>by
  simp only [qI,Vt] at h
  obtain⟨s1,h1,h2⟩:=h
  refine wpList_step fun K hK=>?_
  exact wT hcf hb0 IJ (by rw [IJ]; exact wU F8 (hl o (by simp))) h1 hi fun a' w' jI=>hK a' w' (Ag hcf hb0 IJ F8 hQ l s1 (fun o ho=>hl o (by simp [ho])) h2 a' w' jI)
theorem iJ {α:Type}(d:α):∀(ks:List Nat) (g:Nat→α) (t:Nat),look d ks (ks.map g) t=if t∈ks then g t else d
 | [],g,t=>rfl
 | k::ks,g,t=>by
  simp only [VX,look,beq_nat,iJ d ks g t,VT]
  by_cases h:t=k
  ·subst h; simp
  ·simp [h]
theorem Fr.forget {c:Cx}{Lo:Nat→Prop}{lam:Nat→Nat}{a:Act}(f:Fr L0 c Lo lam ds s a){s2:RS}(hh:s2.h=s.h)(hb:∀k cs,s2.bx k=some cs→s.bx k=some cs)
  (hr:∀t,s2.ρ t = .any∨s2.ρ t=s.ρ t∧∀k off,s.ρ t = .lp k off→k=t∧((s.bx k).isSome=true→(s2.bx k).isSome=true)):Fr L0 c Lo lam [] s2 a:=by
 refine⟨f.h.trans hh.symm,f.rel,fun t=>?_,fun k cs h=>f.box k cs (hb k cs h),fun k k' h h'=>f.inj k k' ?_ ?_,fun t k off _ he=>?_,f.defers,f.Dr⟩
 ·rcases hr t with h | ⟨h,h2⟩
  ·rw [h]; exact SR.of (by simp [VR])
  ·rw [h]
   have hs:=f.slot t
   cases hx:s.ρ t<;>rw [hx] at hs<;>try exact hs
   rename_i k off
   simp only [SR] at hs ⊢
   exact⟨hs.1,(h2 k off hx).2 hs.2⟩
 ·obtain⟨cs,hcs⟩:=V5.1 h; rw [hb k cs hcs]; rfl
 ·obtain⟨cs,hcs⟩:=V5.1 h'; rw [hb k' cs hcs]; rfl
 ·rcases hr t with h | ⟨h,h2⟩
  ·rw [h] at he; cases he
  ·exact (h2 k off (h ▸ he)).1
theorem Inv.shut {a:Act}{w:World}(A:b5)(h:Inv L0 c0 n ds s a w):Inv L0 c0 n [] ((s.shut A).open A) a w:=by
 obtain⟨hn,c,Lo,lam,rfl,f,e⟩:=h
 refine⟨hn,c,Lo,lam,rfl,f.forget rfl (fun k cs hk=>?_) (fun t=>?_),e⟩
 ·simp only [RS.shut,St.open,iJ] at hk
  split at hk
  ·exact hk
  ·cases hk
 ·simp only [RS.shut,St.open,iJ]
  split
  ·unfold wA
   cases hx:s.ρ t<;>simp only<;>try (right; exact⟨trivial,fun k off he=>by cases he⟩)
   rename_i k off
   cases hc:(Wa k t&&Wa off 0&&A.aE.contains k) with
   | false=>left; rfl
   | true=>
    right
    simp only [Vx,beq_nat,decide_eq_true_eq,List.contains_iff_mem] at hc
    refine⟨rfl,fun k' SO he=>?_⟩
    cases he
    refine⟨hc.1.1,fun hs=>?_⟩
    rw [if_pos hc.2]
    exact hs
  ·left; rfl
theorem Inv.mh {a:Act}{w:World}(A:b5)(r:Nat)(h:Inv L0 c0 n ds s a w):Inv L0 c0 n [] ((s.mh A r).open A) a w:=by
 unfold RS.mh
 split
 ·exact h.shut A
 rename_i dl _
 have h2:=h.shut A
 obtain⟨hn,c,Lo,lam,hw,f,e⟩:=h2
 have KP:∀k,(St.open A {vars:=A.keep.map (fun t=>bif (fR r A.dead).contains t then .any else wA A.aE s.ρ t),Kh:=A.aE.map (fun k=>bif (fR r A.dead).contains k then none else s.bx k),h:=s.h}).bx k=bif (fR r A.dead).contains k then none else (St.open A (s.shut A)).bx k:=by
  intro k
  simp only [RS.shut,St.open,iJ]
  cases (fR r A.dead).contains k<;>simp
 refine⟨hn,c,Lo,lam,hw,f.forget rfl (fun k cs hk=>?_) (fun t=>?_),e⟩
 ·rw [KP] at hk
  cases hc:(fR r A.dead).contains k with
  | true=>rw [hc] at hk; cases hk
  | false=>rw [hc] at hk; exact hk
 ·have hv:(St.open A {vars:=A.keep.map (fun t=>bif (fR r A.dead).contains t then .any else wA A.aE s.ρ t),Kh:=A.aE.map (fun k=>bif (fR r A.dead).contains k then none else s.bx k),h:=s.h}).ρ t=bif (fR r A.dead).contains t then .any else (St.open A (s.shut A)).ρ t:=by
   simp only [RS.shut,St.open,iJ]
   cases (fR r A.dead).contains t<;>simp
  rw [hv]
  cases hc:(fR r A.dead).contains t with
  | true=>left; rfl
  | false=>
   right
   refine⟨rfl,fun k off he=>?_⟩
   have Gy:k=t:=f.tidy t k off (by simp) he
   refine⟨Gy,fun hs=>?_⟩
   rw [KP,Gy,hc]
   rw [Gy] at hs
   exact hs
theorem Inv.wide {a:Act}{w:World}(h:Inv L0 c0 n [] s a w)(ds:List Nat):Inv L0 c0 n ds s a w:=by
 obtain⟨hn,c,Lo,lam,rfl,f,e⟩:=h
 exact⟨hn,c,Lo,lam,rfl,⟨f.h,f.rel,f.slot,f.box,f.inj,fun t k off _ he=>f.tidy t k off (by simp) he,f.defers,f.Dr⟩,e⟩
theorem Inv.drew {a:Act}{w:World}(h:Inv L0 c0 n ds s a w):Inv L0 c0 n ds s a {w with drawn:=w.drawn+1}:=by
 obtain⟨hn,c,Lo,lam,rfl,f,e⟩:=h
 obtain⟨e',f'⟩:=f.world (w':={c.w with drawn:=c.w.drawn+1}) (fun b _=>.inl rfl) (fun _ _=>rfl) (fun b _=>rfl) (Vy _) rfl rfl rfl
 exact⟨hn,_,Lo,lam,rfl,f',e.trans e'⟩
def mr (P:Program)(c:Code)(Q:Exit→Act→World→Prop)(a:Act)(w:World):Prop:=
 ∀(b:Frame) (k:List Item) (cs:List Frame),∃e a' w',Q e a' w'∧Arrives P (lone (b.at a (.code c :: .inLoop c::k)) cs w) b k cs e a' w'
theorem mr.step {c:Code}{Q:Exit→Act→World→Prop}{a:Act}{w:World}(h:c.wp P (Exit.then (mr P c Q) Q) a w):mr P c Q a w:=by
 intro b k cs
 obtain⟨e,a₁,w₁,hq,wV⟩:=h b (.inLoop c::k) cs
 cases e with
 | normal=>
  obtain⟨e₂,a₂,w₂,SP,Ld⟩:=hq b k cs
  exact⟨e₂,a₂,w₂,SP,.of_steps (Steps.trans wV (.one step_inLoop)) Ld⟩
 | exit id=>exact⟨_,a₁,w₁,hq,.pass (x:=.inLoop c) rfl (fun _ _=>.inl (by simp)) wV⟩
 | goto l=>exact⟨_,a₁,w₁,hq,.pass (x:=.inLoop c) rfl (fun _ _=>.inl (by simp)) wV⟩
 | ret=>exact⟨_,a₁,w₁,hq,.pass (x:=.inLoop c) rfl (fun _ _=>.inl (by simp)) wV⟩
 | panic ch=>exact⟨_,a₁,w₁,hq,.pass (x:=.inLoop c) rfl (fun _ _=>.inl (by simp)) wV⟩
 | outgrown=>exact⟨_,a₁,w₁,hq,.pass (x:=.inLoop c) rfl (fun _ _=>.inl (by simp)) wV⟩
theorem mr.loop {c:Code}{Q:Exit→Act→World→Prop}{a:Act}{w:World}(h:mr P c Q a w):(Code.loop c).wp P Q a w:=by
 intro b k cs
 obtain⟨e,a',w',hq,wV⟩:=h b k cs
 exact⟨e,a',w',hq,.of_steps (.one step_loop) wV⟩
def Ex.HW:Ex→Exit
 | .norm=>.normal
 | .exit id=>.exit id
 | .ret=>.ret
def kb (n:Nat):Code→Bool
 | .region _ ops _=>uc n ops.toList
 | .seq a b=>kb n a&&kb n b
 | .cond _ x y=>kb n x&&kb n y
 | .block _ c=>kb n c
 | .loop c=>kb n c
 | _=>true
def y4 (P:Program)(cf:CallF):Prop:=
 ∀(L0:Nat→Prop) (c0:Cx) (n:Nat) (aE:List Nat) (id:Nat) (ops:Array Oper) (s s':RS),jH P cf aE ops s=some s'→c0.base≤c0.w.heap.size→uc n ops.toList=true→
  ∀a w Q,Inv L0 c0 n (ops.toList.filterMap (·.dst)) s a w→(∀a' w',Inv L0 c0 n (ops.toList.filterMap (·.dst)) s' a' w'→Q .normal a' w')→(Code.region id ops true).wp P Q a w
theorem jO {cf:CallF}(hcf:CallOK P cf)(B8:y4 P cf)(hb0:c0.base≤c0.w.heap.size){A:b5}{m:Nat}:∀(c:Code),kb n c=true→∀(st jg:St) (ex:Ex),bJ P cf A m c st=some (ex,jg)→
  ∀a w Q,Inv L0 c0 n [] (st.open A) a w→(∀a' w',Inv L0 c0 n [] (jg.open A) a' w'→Q ex.HW a' w')→c.wp P Q a w
 | .skip,_,st,jg,ex,h,a,w,Q,hi,hQ=>by
  simp only [bJ,Vw,VC] at h
  obtain⟨rfl,rfl⟩:=h
  exact wp_skip (hQ a w hi)
 | .label _,_,st,jg,ex,h,a,w,Q,hi,hQ=>by
  simp only [bJ,Vw,VC] at h
  obtain⟨rfl,rfl⟩:=h
  exact wp_label (hQ a w hi)
 | .ret,_,st,jg,ex,h,a,w,Q,hi,hQ=>by
  simp only [bJ,Vw,VC] at h
  obtain⟨rfl,rfl⟩:=h
  exact wp_ret (hQ a w hi)
 | .exit id,_,st,jg,ex,h,a,w,Q,hi,hQ=>by
  simp only [bJ,Vw,VC] at h
  obtain⟨rfl,rfl⟩:=h
  exact wp_exit (hQ a w hi)
 | .seq x y,hB,st,jg,ex,h,a,w,Q,hi,hQ=>by
  simp only [kb,Vx] at hB
  simp only [bJ,Vt] at h
  obtain⟨⟨HX,wq⟩,h1,h2⟩:=h
  refine wp_seq (jO hcf B8 hb0 x hB.1 st wq HX h1 a w _ hi fun a' w' jI=>?_)
  cases HX with
  | norm=>exact jO hcf B8 hb0 y hB.2 wq jg ex h2 a' w' Q jI hQ
  | exit id=>
   simp only [Vw,VC] at h2
   obtain⟨rfl,rfl⟩:=h2
   exact hQ a' w' jI
  | ret=>
   simp only [Vw,VC] at h2
   obtain⟨rfl,rfl⟩:=h2
   exact hQ a' w' jI
 | .cond k x y,hB,st,jg,ex,h,a,w,Q,hi,hQ=>by
  simp only [kb,Vx] at hB
  simp only [bJ,Vt] at h
  obtain⟨t,ht,h⟩:=h
  have hk:a.eval k = .bool t:=by
   obtain⟨hn,c,Lo,lam,rfl,f,e⟩:=hi
   have hk:=bD f k
   unfold rL at ht
   split at ht
   ·rename_i b hb
    cases ht
    rw [hb] at hk
    simpa [SR,VR] using hk
   ·cases ht
  refine wp_cond hk ?_
  cases t with
  | true=>exact jO hcf B8 hb0 x hB.1 st jg ex (by simpa using h) a w Q hi hQ
  | false=>exact jO hcf B8 hb0 y hB.2 st jg ex (by simpa using h) a w Q hi hQ
 | .block id x,hB,st,jg,ex,h,a,w,Q,hi,hQ=>by
  simp only [kb] at hB
  simp only [bJ,Vv] at h
  obtain⟨⟨HX,wq⟩,h1,h2⟩:=h
  refine wp_block (jO hcf B8 hb0 x hB st wq HX h1 a w _ hi fun a' w' jI=>?_)
  cases HX with
  | norm=>
   simp only [VC] at h2
   obtain⟨rfl,rfl⟩:=h2
   exact hQ a' w' jI
  | exit kj=>
   simp only [VC] at h2
   obtain⟨rfl,rfl⟩:=h2
   have:=hQ a' w' jI
   simp only [Ex.HW,Exit.inBlock]
   split
   ·rename_i he; rw [if_pos he] at this; exact this
   ·rename_i he; rw [if_neg he] at this; exact this
  | ret=>
   simp only [VC] at h2
   obtain⟨rfl,rfl⟩:=h2
   exact hQ a' w' jI
 | .loop x,hB,st,jg,ex,h,a,w,Q,hi,hQ=>by
  simp only [kb] at hB
  simp only [bJ] at h
  have key:∀(j:Nat) (st:St),kF (bJ P cf A m x) j st=some (ex,jg)→∀a w,Inv L0 c0 n [] (st.open A) a w→mr P x Q a w:=by
   intro j
   induction j with
   | zero=>intro st h; simp [kF] at h
   | succ j ih=>
    intro st h a w hi
    simp only [kF,Vt] at h
    obtain⟨⟨HX,wq⟩,h1,h2⟩:=h
    refine mr.step (jO hcf B8 hb0 x hB st wq HX h1 a w _ hi fun a' w' jI=>?_)
    cases HX with
    | norm=>exact ih wq h2 a' w' jI
    | exit id=>
     simp only [Vw,VC] at h2
     obtain⟨rfl,rfl⟩:=h2
     exact hQ a' w' jI
    | ret=>
     simp only [Vw,VC] at h2
     obtain⟨rfl,rfl⟩:=h2
     exact hQ a' w' jI
  exact mr.loop (key m st h a w hi)
 | .region id ops draw,hB,st,jg,ex,h,a,w,Q,hi,hQ=>by
  simp only [kb] at hB
  simp only [bJ,Vt,Vv,VC] at h
  obtain⟨s0,h0,s',h1,s2,h2,rfl,rfl⟩:=h
  replace hi:=hi.kE h0
  cases draw with
  | true=>
   simp only [if_true] at h1
   exact B8 L0 c0 n A.aE id ops _ s' h1 hb0 hB a w Q (hi.wide _) fun a' w' jI=>hQ a' w' ((jI.kE h2).mh A id)
  | false=>
   simp only [VE,if_false] at h1
   exact wp_region_list (Ag hcf hb0 rfl hB (fun a' w' jI=>hQ a' w' ((jI.kE h2).mh A id)) ops.toList _ (fun _ h=>h) h1 a w (hi.wide _))
 | .rangeFunc ..,_,st,jg,ex,h,_,_,_,_,_=>by simp [bJ] at h
 | .scope ..,_,st,jg,ex,h,_,_,_,_,_=>by simp [bJ] at h
 | .goto ..,_,st,jg,ex,h,_,_,_,_,_=>by simp [bJ] at h
 | .refuse ..,_,st,jg,ex,h,_,_,_,_,_=>by simp [bJ] at h
theorem vc {c:Cx}{Lo:Nat→Prop}{lam:Nat→Nat}{a:Act}(f:Fr L0 c Lo lam ds s a):∀(rs:List ResultVar) (l:List AV),yL P s rs=some l→l.all AV.kC=true→
  ∃vs:List Value,(rs.mapM (m:=Sem) fun | .tmp t=>pure (a.tmps.getD t undef) | .cell x t=>do loadVar t (←asAddr (a.tmps.getD x undef))).run P c.w = .ok vs c.w∧VRs c (un L0 Lo) l vs
 | [],l,h,_=>by
  simp only [yL,Vw] at h
  subst h
  exact⟨[],rfl,trivial⟩
 | .tmp t::rs,l,h,hl=>by
  simp only [yL,Vv] at h
  obtain⟨l',h1,rfl⟩:=h
  simp only [Wi,Vx] at hl
  obtain⟨vs,h2,h3⟩:=vc f rs l' h1 hl.2
  refine⟨a.tmps.getD t undef::vs,?_,(f.slot t).vr (r8 hl.1),h3⟩
  simp only [List.mapM_cons,Sem.run_bind,Sem.run_pure,Result.andThen_ok,h2]
 | .cell x t::rs,l,h,hl=>by
  simp only [yL,Vt,Vv] at h
  obtain⟨y,hy,l',h1,rfl⟩:=h
  simp only [Wi,Vx] at hl
  obtain⟨vs,h2,h3⟩:=vc f rs l' h1 hl.2
  have hx:=f.slot x
  obtain⟨u,hr,hu⟩:=rQ (P:=P) f (t:=t) hx hy
  have hp:∃ad,a.tmps.getD x undef = .pointer (some ad):=by
   unfold jG at hy
   cases hq:s.ρ x<;>rw [hq] at hy hx<;>simp only at hy<;>try (cases hy; done)
   ·simp only [SR,VR] at hx; obtain⟨_,ad,h,_⟩:=hx; exact⟨ad,h⟩
   ·simp only [SR] at hx; exact⟨_,hx.1⟩
   ·simp only [SR,VR] at hx; obtain⟨_,_,h,_⟩:=hx; exact⟨_,h⟩
  obtain⟨ad,hp⟩:=hp
  rw [hp] at hr
  have y5:(loadVar t ad).run P c.w = .ok u c.w:=by simpa [Instr.loadAt,Instr.sureAddr] using hr
  refine⟨u::vs,?_,hu,h3⟩
  have ha:(asAddr (a.tmps.getD x undef)).run P c.w = .ok ad c.w:=by rw [hp]; rfl
  simp only [List.mapM_cons,Sem.run_bind,Sem.run_pure,Result.andThen_ok,h2,ha,y5]
theorem hJ:un L0 none0=L0:=by funext b; simp [un,none0]
theorem Ext.close {c c':Cx}{jx:Nat→Prop}(e:Ext c none0 c' jx):Ext c none0 c' none0:=
 ⟨e.next,e.live,e.size,e.keep,e.exact,e.base,e.Gq,fun _ h=>h,fun _ h=>h.elim,e.os,e.tape,e.output⟩
theorem HRel.ki {c:Cx}{L L':Nat→Prop}(hL:∀b,L' b→L b)(h:HRel c L):HRel c L':=
 ⟨h.lt,fun id o ho=>by
  have:=h.obj id o ho
  cases o with
  | cells cs=>obtain⟨m,h1,h2,h3⟩:=this; exact⟨m,h1,h2,Cells.ki hL _ _ _ h3⟩
  | row t cs=>obtain⟨h0,C,h1,h2,h4,h3⟩:=this; exact⟨h0,C,h1,h2,h4,Cells.ki hL _ _ _ h3⟩
  | map es=>
   obtain⟨kH,clock,h1,h2⟩:=this
   refine⟨kH,clock,h1,?_⟩
   clear h1
   have:∀(es:List (AV × AV)) (ms:List MapEntry),kG c L es ms→kG c L' es ms:=by
    intro es
    induction es with
    | nil=>intro ms h; cases ms with | nil=>trivial | cons m ms=>exact h.elim
    | cons e es ih=>intro ms h; cases ms with
     | nil=>exact h.elim
     | cons m ms=>obtain⟨h1,h2,h3⟩:=h; exact⟨⟨VR.ki hL _ _ h1.1,h1.2⟩,VR.ki hL _ _ h2,ih _ h3⟩
   exact this _ _ h2,h.inj,fun id hl hb=>h.out id hl (hL _ hb),fun b hb=>h.bd b (hL b hb),h.low,h.ver⟩
structure Fit (P:Program):Prop where
 mixed:P.follows .mixedOrders=true
 Le : ∀ (f : FuncId) fn c, P.funcs[f]? = some fn → fn.body = some c → kb fn.ntmps c = true ∧ fn.name ≠ "runtime.NumGoroutine"
def IntrOK (P:Program)(intr:FuncId→Option (List AV→AHeap→Option (AV × AHeap))):Prop:=
 ∀f g,intr f=some g→(CallOK P fun f' args h=>if f'=f then g args h else none)∧∀args h r h',g args h=some (r,h')→Steady h h'
theorem mu {f : FuncId} {fn : Func} {c : Code} (hf : P.funcs[f]? = some fn) (hc : fn.body = some c) (hn : fn.name ≠ "runtime.NumGoroutine") (vs : Array Value) (w : World) : (callFunc f vs).run P w = .ok (.enter f vs) w := by
 have NL : (fn.name == "runtime.NumGoroutine") = false := by simpa using hn
 simp [callFunc,program,Sem.run,hf,hn,hc]
theorem wW (hP:Fit P){aV:FuncId→b5}{cf:CallF}(ih:CallOK P cf)(B8:y4 P cf)(m:Nat):CallOK P (aZ P aV cf m):=by
 intro f args h r h' hc
 unfold aZ at hc
 rw [Vt] at hc
 obtain⟨fn,hf,hc⟩:=hc
 rw [Vt] at hc
 obtain⟨c,hb,hc⟩:=hc
 obtain⟨hB,Lf⟩:=hP.Le f fn c hf hb
 refine⟨mu hf hb Lf,fun L0 c0 vs hh hb0 hrel hargs=>?_⟩
 split at hc
 rotate_left
 ·cases hc
 rename_i hlen
 rw [Vt] at hc
 obtain⟨⟨ex,st⟩,hex,hc⟩:=hc
 have hl:=hargs.length
 refine calls_of_wp hf hb ?_
 refine jO (L0:=L0) (c0:=c0) (n:=fn.ntmps) ih B8 hb0 c hB _ _ _ hex _ _ _ ?_ ?_
 ·refine⟨by simp; omega,c0,none0,fun _=>0,rfl,⟨hh,by rw [hJ]; exact hrel,fun t=>?_,fun k cs hk=>?_,fun k k' hk=>?_,fun t k off _ he=>?_,rfl,fun b hb=>hb.elim⟩,Ext.refl _ _⟩
  ·simp only [St.open,mi,iJ]
   split
   ·by_cases ht:t<args.length
    ·obtain⟨v,hv,hr⟩:=hargs.get t args[t] (by simp [ht])
     have:args.getD t AV.any=args[t]:=by simp [ht]
     rw [this,Array.getD_eq_getD_getElem?,Array.getElem?_append_left (by simp; omega)]
     have NI:vs.toArray[t]? = some v:=by simpa using hv
     rw [NI]
     exact SR.of (by rw [hJ]; exact hr)
    ·have:args.getD t AV.any = .any:=by simp [V7 (Nat.not_lt.1 ht)]
     rw [this]
     exact SR.of (by simp [VR])
   ·exact SR.of (by simp [VR])
  ·simp only [St.open,iJ] at hk
   split at hk<;>cases hk
  ·simp only [St.open,iJ] at hk
   split at hk<;>cases hk
  ·simp only [St.open,mi,iJ] at he
   split at he
   ·by_cases ht:t<args.length
    ·obtain⟨v,hv,hr⟩:=hargs.get t args[t] (by simp [ht])
     have h1:args.getD t AV.any=args[t]:=by simp [ht]
     rw [h1] at he
     rw [he] at hr
     exact hr.elim
    ·have:args.getD t AV.any = .any:=by simp [V7 (Nat.not_lt.1 ht)]
     rw [this] at he
     cases he
   ·cases he
 ·intro a' w' jI
  have hfin:(aM P (st.open (aV f)) fn.results.toList).map (fun r=>(r,st.h))=some (r,h')→a'.defers=[]∧∃v,(results fn a'.tmps).run P w' = .ok v w'∧(∃c' v',Ending.returned v = .returned v'∧c'.w=w'∧c'.h=h'∧VR c' L0 r v'∧HRel c' L0∧Ext c0 none0 c' none0):=by
   intro hc
   rw [Vv] at hc
   obtain⟨r',y5,he⟩:=hc
   cases he
   obtain⟨hn,c',Lo,lam,rfl,f',e'⟩:=jI
   refine⟨f'.defers,?_⟩
   unfold aM at y5
   rw [Vt] at y5
   obtain⟨l,hl,y5⟩:=y5
   split at y5
   rotate_left
   ·cases y5
   rename_i kN
   obtain⟨us,SQ,zT⟩:=vc f' _ _ hl kN
   have DL:VRs c' L0 l us:=VRs.ki (fun b hb=>.inl hb) _ _ zT
   have yT:(results fn a'.tmps).run P c'.w = .ok (if h:us.toArray.size=1 then us.toArray[0] else .tuple us.toArray) c'.w:=by
    unfold results
    rw [←Array.toArray_toList (xs:=fn.results)]
    rw [List.mapM_toArray]
    simp only [Sem.run_bind,Sem.run_map,Result.andThen_ok,Sem.run_pure]
    exact (congrArg (fun z=>(Result.andThen z (fun (a:List Value) w'=>Result.ok a.toArray w')).andThen (fun (a:Array Value) w'=>Result.ok (if h:a.size=1 then a[0] else Value.tuple a) w')) SQ).trans rfl
   refine⟨_,yT,c',_,rfl,rfl,f'.h,?_,HRel.ki (fun b hb=>.inl hb) f'.rel,e'.close⟩
   split at y5
   ·rename_i x
    cases y5
    cases us with
    | nil=>exact DL.elim
    | cons u us=>cases us with
     | nil=>exact DL.1
     | cons u2 us=>exact DL.2.elim
   ·rename_i hne
    cases y5
    have NM:us.length≠1:=by
     intro h1
     rw [←DL.length] at h1
     cases l with
     | nil=>simp at h1
     | cons x l=>cases l with
      | nil=>exact hne x rfl
      | cons y l=>simp at h1
    have:¬us.toArray.size=1:=by simpa using NM
    rw [dif_neg this]
    simp only [VR]
    exact⟨us.toArray,rfl,DL⟩
  cases ex with
  | norm=>exact hfin hc
  | ret=>exact hfin hc
  | exit id=>cases hc
end
end Go.R
