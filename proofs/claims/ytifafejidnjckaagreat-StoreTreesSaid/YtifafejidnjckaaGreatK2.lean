/- Part of the proof: ROps5, ROps6, ROps7, RFrzV, ROpAll, RFrz, RCode. -/
import Derived.Test.YtifafejidnjckaaGreatK1
import Derived.MapKept
import Derived.Laws.CopyRow
import Derived.Laws.BytesArg
import Derived.Laws.IdiomStrings
import Derived.Tactics
set_option linter.unusedVariables false
set_option linter.unusedSimpArgs false
set_option maxRecDepth 100000
open Array renaming getElem?_eq_some_iff → abj, getElem?_setIfInBounds → abJ, length_toList → abP, getElem?_modify → abS, ext' → acg
open Bool renaming and_eq_true → aaK, false_eq_true → aaU, true_and → abL, not_true → abM, not_eq_true' → abN
open List renaming getElem?_eq_some_iff → aaM, all_eq_true → aa1, getElem?_eq_none → aa2, map_cons → aa3, mem_cons → aa6, mem_map → abf, take_of_length_le → abo, eq_nil_of_length_eq_zero → abt, all_cons → abu, length_set → abx, ext_getElem? → abO, getElem?_set → acb
open Nat renaming le_refl → aaN, zero_add → aa7, beq → abq, le_succ → abV, lt_succ_of_lt → ab1, min_eq_left → ab8
open Option renaming bind_some → aaG, bind_eq_some_iff → aaH, map_eq_some_iff → aaI, map_some → aaO, isSome_iff_exists → abk, getD_some → abG
open Option.some renaming injEq → aaJ
open Prod.mk renaming injEq → aaQ
namespace Go.R
open Go
section
variable {P:Program}{L0:Nat→Prop}{c0:Cx}{n:Nat}{ds:List Nat}{o:Oper}{s:RS}
theorem Fr.yc {c:Cx}{Lo:Nat→Prop}{lam:Nat→Nat}{a:Act}(f:Fr L0 c Lo lam ds s a)(hbs:c.base≤c.w.heap.size){id:Nat}{es sh:List (AV × AV)}(ho:c.h.get id=some (.map es)){mb ss:Array MapEntry}{clock pI:Nat}
  (hb:c.w.heap[(c.β id).1]? = some (.map mb clock)) (he:ma c (un L0 Lo) sh ss.toList) :
  Ext c Lo ⟨c.β,s.h.put id (.map sh),{c.w with heap:=c.w.heap.setIfInBounds (c.β id).1 (.map ss pI)},c.base⟩ Lo∧
   Fr L0 ⟨c.β,s.h.put id (.map sh),{c.w with heap:=c.w.heap.setIfInBounds (c.β id).1 (.map ss pI)},c.base⟩ Lo lam ds {s with h:=s.h.put id (.map sh)} a:=by
 have hl:Live c.h id:=⟨f.rel.lt _ _ ho,by simp [ho]⟩
 have hlt:(c.β id).1<c.w.heap.size:=(abj.1 hb).1
 have hne:∀b,b≠(c.β id).1→({c.w with heap:=c.w.heap.setIfInBounds (c.β id).1 (.map ss pI)}:World).heap[b]? = c.w.heap[b]?:=by
  intro b hb
  simp only [abJ]
  rw [if_neg (Ne.symm hb)]
 rw [←f.h]
 refine f.upd (β':=c.β) (h':=c.h.put id (.map sh)) id (.map sh) (Steady.put _ _ _) (ab1 hl.1) (by simp [AHeap.put,beq_nat])
  (fun lP h1=>.inr ⟨by simp [AHeap.put,beq_nat,h1],rfl⟩) (fun _=>⟨hl,rfl⟩) (.inr ⟨id,hl,rfl,.inl rfl⟩) (fun _=>?_)
  (fun b _ h1=>hne b h1) (fun b _ h1=>hne b h1) (by simp) hbs rfl rfl rfl (fun e=>⟨ss,pI,by simp [hlt],he.ext e⟩)
 simp only [Cx.len,World.shape?,hb,abJ,hlt,if_true]
theorem yd {x y:AV}(hs:sameShape x y=true)(hq:fL x y=true):x=y:=by
 cases x<;>cases y<;>simp only [sameShape] at hs<;>try (cases hs; done)
 ·simp only [fL,iY,aaK,beq_iff_eq] at hq
  obtain⟨rfl,rfl⟩:=hq
  rfl
 ·rename_i a b
  simp only [fL,iY,beq_iff_eq] at hq
  congr 1
  cases a; cases b
  congr 1
  exact Array.toList_inj.1 hq
 ·rename_i xs ys
  simp only [aaK,beq_iff_eq] at hs
  obtain⟨⟨_,hx⟩,hy⟩:=hs
  obtain⟨ns,rfl⟩:=iM hx
  obtain⟨ms,rfl⟩:=iM hy
  simp only [fL,lE,decide_eq_true_eq] at hq
  rw [hq]
theorem pq:∀ns:List Int,jC (ns.map fun n=>AV.int .i64 n)=some (ns.map fun n=>Value.int .i64 n)
 | []=>rfl
 | n::ns=>by simp [jC,AV.gT,pq ns]
theorem Ce {t:TypeId}{k:AV}(h:gu P t k=true):∃u,k.BS=some u∧Instr.sameBits 10000 u u=true:=by
 unfold gu at h
 have O9:∀cs:List AV,cs.all lz=true→∃u,(AV.agg cs).BS=some u∧Instr.sameBits 10000 u u=true:=by
  intro cs hcs
  obtain⟨ns,rfl⟩:=iM hcs
  refine⟨.agg (ns.map fun n=>Value.int .i64 n).toArray,by simp [AV.BS,pq],?_⟩
  simp only [Instr.sameBits,beq_self_eq_true,abL,aa1]
  intro p hp
  have:∀(l:List Value),(∀v∈l,∃m,v=Value.int .i64 m)→∀p∈l.zip l,Instr.sameBits 9999 p.1 p.2=true:=by
   clear hp p
   intro l hl p hp
   have h1:p.1=p.2∧p.1∈l:=by
    clear hl
    induction l with
    | nil=>cases hp
    | cons v l ih=>
     simp only [List.zip_cons_cons,aa6] at hp
     rcases hp with rfl | hp
     ·exact⟨rfl,by simp⟩
     ·obtain⟨h1,h2⟩:=ih hp; exact⟨h1,by simp [h2]⟩
   obtain⟨h1,h2⟩:=h1
   obtain⟨m,hm⟩:=hl _ h2
   rw [←h1,hm]
   simp [Instr.sameBits]
  exact this (ns.map fun n=>Value.int .i64 n) (fun v hv=>by obtain⟨m,_,rfl⟩:=abf.1 hv; exact⟨m,rfl⟩) p (by simpa using hp)
 split at h
 ·exact⟨_,rfl,by simp [Instr.sameBits]⟩
 ·exact⟨_,rfl,by simp [Instr.sameBits,wW]⟩
 ·simp only [aaK] at h; exact O9 _ h.1.1.2
 ·simp only [aaK] at h; exact O9 _ h.1.1.2
 ·cases h
theorem uz {c:Cx}{L:Nat→Prop}{k v:AV}{kv vv:Value}(hc:k.BS.isSome=true)(hk:VR c L k kv)(hv:VR c L v vv) :
  ∀(es sh:List (AV × AV)) (ms:List MapEntry) (i:Nat),ma c L es ms→tZ k v es=some sh→
   iK k es≠none∧(place k es ms i=none∧(∀b,ma c L sh (ms++[{key:=kv,val:=vv,born:=b}]))∨
    ∃j u m,place k es ms i=some (i+j,u)∧ms[j]? = some m∧m.key=kv∧ma c L sh (ms.modify j fun e=>{e with key:=kv,val:=vv}))
 | [],sh,[],i,_,h=>by
  simp only [tZ,aaJ] at h
  subst h
  exact⟨by simp [iK],.inl ⟨rfl,fun b=>⟨⟨hk,hc⟩,hv,trivial⟩⟩⟩
 | (k',v')::es,sh,m::ms,i,he,h=>by
  obtain⟨⟨GQ,VY⟩,Dr,wj⟩:=he
  simp only [tZ] at h
  split at h
  rotate_left
  ·cases h
  rename_i hs
  split at h
  ·rename_i hq
   cases h
   have zN:k=k':=yd hs hq
   obtain⟨u,hu⟩:=abk.1 hc
   refine⟨by simp [iK,hs,hq],.inr ⟨0,m.val,m,by simp [place,hq],rfl,?_,?_⟩⟩
   ·subst zN
    rw [xX hu hk,xX hu GQ]
   ·exact⟨⟨hk,hc⟩,hv,wj⟩
  ·rename_i hq
   rw [aaI] at h
   obtain⟨XW,h1,rfl⟩:=h
   obtain⟨h2,h3⟩:=uz hc hk hv es XW ms (i+1) wj h1
   refine⟨by simp [iK,hs,hq,h2],?_⟩
   have ye:fL k k'=false:=by simpa using hq
   rcases h3 with⟨h3,h4⟩| ⟨j,u,m',h3,h4,h5,h6⟩
   ·exact .inl ⟨by simp [place,ye,h3],fun b=>⟨⟨GQ,VY⟩,Dr,h4 b⟩⟩
   ·exact .inr ⟨j+1,u,m',by simp [place,ye,h3]; omega,by simpa using h4,h5,⟨⟨GQ,VY⟩,Dr,h6⟩⟩
 | [],_,_::_,_,h,_=>h.elim
 | _::_,_,[],_,h,_=>h.elim
theorem uA {x:AV}(h:x.lu=true):∀k off,x≠.lp k off:=by rintro k off rfl; simp [AV.lu] at h
theorem wB {c:Cx}{Lo:Nat→Prop}{lam:Nat→Nat}{a:Act}(f:Fr L0 c Lo lam ds s a)(hbs:c.base≤c.w.heap.size){t:TypeId}{m k x:AV}{mv kv xv:Value}(hm:SR c L0 Lo lam s.bx m mv)(hk:SR c L0 Lo lam s.bx k kv)(hx:SR c L0 Lo lam s.bx x xv){h':AHeap}
  (h:iC P s.h t m k x=some h'):∃c',(Instr.mapUpdate t mv kv xv).run P c.w = .ok () c'.w∧Ext c Lo c' Lo∧Fr L0 c' Lo lam ds {s with h:=h'} a:=by
 unfold iC at h
 rw [aaH] at h
 obtain⟨d,hd,h⟩:=h
 cases d<;>simp only at h<;>try (cases h; done)
 rename_i kt et
 split at h
 ·cases h
 rename_i kR
 obtain⟨wz,hargs⟩:gu P kt k=true∧x.lu=true:=by
  cases h1:gu P kt k<;>cases h2:x.lu<;>simp [h1,h2] at kR ⊢
 have zO:VR c (un L0 Lo) k kv:=hk.vr (by rintro k0 off rfl; simp [gu] at wz)
 have XX:=hx.vr (uA hargs)
 cases m<;>simp only at h<;>try (cases h; done)
 rename_i id
 rw [aaH] at h
 obtain⟨ob,ho,h⟩:=h
 cases ob with
 | cells cs=>cases h
 | row t cs=>cases h
 | map es=>
 rw [aaI] at h
 obtain⟨sh,hu,rfl⟩:=h
 simp only [SR,VR] at hm
 obtain⟨hi,r,rfl,hr⟩:=hm
 rw [←f.h] at ho
 have hl:Live c.h id:=⟨f.rel.lt _ _ ho,by simp [ho]⟩
 have Oq:=hr hl
 subst Oq
 obtain⟨mb,clock,h1,h2⟩:=f.rel.obj _ _ ho
 obtain⟨u0,LB,XY⟩:=Ce wz
 obtain⟨hf,hp⟩:=uz (by simp [LB]) zO XX es sh mb.toList 0 h2 hu
 have GR:=wX wz zO c.w h2 hf
 have Mh:=pk (P:=P) false 9998 wz zO c.w
 have hget:(getObj (c.β id).1).run P c.w = .ok (.map mb clock) c.w:=MapKept.run_getObj_map h1
 rcases hp with⟨hp,um⟩| ⟨j,u,m,hp,hj,hmk,um⟩
 ·obtain⟨e',f'⟩:=f.yc hbs ho h1 (ss:=mb.push {key:=kv,val:=xv,born:=clock}) (pI:=clock+1) (sh:=sh) (by simpa using um clock)
  refine⟨_,?_,e',f'⟩
  unfold Instr.mapUpdate
  rw [hp] at GR
  simp only [Sem.run_bind,bB hd,Result.andThen_ok,hget,Mh,GR]
  exact MapKept.run_setObj_map _ h1
 ·obtain⟨e',f'⟩:=f.yc hbs ho h1 (ss:=mb.modify j fun e=>{e with key:=kv,val:=xv}) (pI:=clock) (sh:=sh) (by simpa using um)
  refine⟨_,?_,e',f'⟩
  unfold Instr.mapUpdate
  rw [hp,aa7] at GR
  have BI:mb[j]? = some m:=by simpa using hj
  have J2:(Instr.keyThatStays m.key kv).run P c.w = .ok kv c.w:=by
   rw [hmk]
   unfold Instr.keyThatStays
   rw [xX LB zO,XY]
   rfl
  simp only [Sem.run_bind,bB hd,Result.andThen_ok,hget,Mh,GR,BI,aaO,abG,J2]
  exact MapKept.run_setObj_map _ h1
theorem qg (hb0:c0.base≤c0.w.heap.size){t:TypeId}{m k x:Operand}(ho:o.op = .mapUpdate t m k x∨o.op = .insert t m k x)(sX:o.dst=none){h':AHeap}
  (h:iC P s.h t (bQ s.ρ m) (bQ s.ρ k) (bQ s.ρ x)=some h'):jS P L0 c0 n ds o s {s with h:=h'}:=by
 rintro a w K Q ⟨hn,c,Lo,lam,rfl,f,e⟩ hK
 obtain⟨c',hr,e',f'⟩:=wB f (jO e hb0) (bI f m) (bI f k) (bI f x) h
 unfold Oper.wp
 have:(execOp a.eval o).run P c.w = .ok .skip c'.w:=by rcases ho with ho | ho<;>simp [execOp,ho,hr]
 rw [this,Oper.upon_skip]
 have Mm:a.put o.dst undef=a:=by rw [sX]; rfl
 rw [Mm]
 exact hK _ _ ⟨hn,c',Lo,lam,rfl,f',e.trans e'⟩
theorem G4 (hb0:c0.base≤c0.w.heap.size)(hd:gV n ds o){t:TypeId}{x:Operand}(ho:o.op = .call {callee:=.builtin .clear,args:=#[x],argTypes:=#[t]}){h':AHeap}
  (h:mK P s.h t (bQ s.ρ x)=some h'):jS P L0 c0 n ds o s ({s with h:=h'}.set o.dst (.tup [])):=by
 rintro a w K Q ⟨hn,c,Lo,lam,rfl,f,e⟩ hK
 unfold mK at h
 rw [aaH] at h
 obtain⟨d,zT,h⟩:=h
 have hx:=bI f x
 have fin:∀c',(Builtin.clear_ #[t] o.type #[a.eval x]).run P c.w = .ok (.tuple #[]) c'.w→Ext c Lo c' Lo→Fr L0 c' Lo lam ds {s with h:=h'} a→o.wp P a c.w K Q:=by
  intro c' hr e' f'
  unfold Oper.wp
  have:(execOp a.eval o).run P c.w = .ok (.value (.tuple #[])) c'.w:=by
   simp [execOp,ho,resolve,invoke,builtin,hr]
  rw [this,Oper.upon_value]
  exact hK _ _ ⟨(gU _ _ _).trans hn,c',Lo,lam,rfl,f'.set (SR.of (by simp [VR,VRs])) (fun t ht=>by rw [hn]; exact hd t ht),e.trans e'⟩
 cases Fl:bQ s.ρ x<;>rw [Fl] at h hx<;>simp only at h<;>try (cases h; done)
 ·rename_i id off len jb
  simp only [SR,VR] at hx
  split at h
  ·rename_i hl0
   cases h
   obtain⟨ad,cap,su⟩:∃ad cap,a.eval x = .slice ad 0 cap:=by
    rcases hx with⟨_,_,_,ad,hx⟩| ⟨_,_,ad,cap,hx,_⟩
    ·exact⟨ad,0,hx⟩
    ·exact⟨ad,cap,by rw [hx,hl0]⟩
   refine fin c ?_ (Ext.refl _ _) f
   cases ad<;>cases d<;>simp [Builtin.clear_,bB zT,su]
  rename_i hl0
  split at h
  ·cases h
  rename_i ll
  cases d<;>simp only at h<;>try (cases h; done)
  rename_i et
  simp only [aaH] at h
  obtain⟨i,hi,z,hz,ob,hob,h⟩:=h
  cases ob with
  | map es=>cases h
  | row t cs=>cases h
  | cells cs=>
  simp only at h
  split at h
  rotate_left
  ·cases h
  rename_i hh
  obtain⟨G5,Gw,hz0,Sq,hoff⟩:=hh
  cases h
  rcases hx with hx | ⟨_,hid,ad,cap,hx,hlc,Ds,hlive⟩
  ·exact absurd hx.1 ll
  rw [←f.h] at hob
  have hl:Live c.h id:=⟨f.rel.lt _ _ hob,by simp [hob]⟩
  obtain⟨q,hp,hq,hc⟩:=f.rel.obj _ _ hob
  have ha:ad=some ⟨(c.β id).1,(c.β id).2+off,none⟩:=by
   rcases hlive hl with⟨h1,_⟩| h1
   ·exact h1
   ·exact absurd h1 (by omega)
  subst ha
  obtain⟨zv,GS,Cb⟩:=kC hz c.w
  obtain⟨BH,hz1⟩:=jo Sq (mM (c:=c) (L:=un L0 Lo) Cb)
  have Sr:=BH.length
  have Gx:zv.cells.size=i.size:=by rw [←abP,←Sr,Gw]
  have hnl:(Builtin.zeroCells zv.cells len).toList.length=len*i.size:=by simp [Builtin.zeroCells,Gx]
  have hv:VRs c (un L0 Lo) (jd z.cells len) (Builtin.zeroCells zv.cells len).toList:=by
   have:=rz BH len (len*zv.cells.size) (by rw [Gx,Gw]; exact aaN _) (by omega)
   rw [abo (by simp [Gx,Gw])] at this
   exact this
  have hone:∀v∈(Builtin.zeroCells zv.cells len).toList,v.oneCell'=true:=by
   intro v hv
   simp only [Builtin.zeroCells,Array.toList_map,abf] at hv
   obtain⟨j,hj,rfl⟩:=hv
   have sY:j % zv.cells.size<zv.cells.size:=Nat.mod_lt _ (by omega)
   rw [getElem!_pos zv.cells _ sY]
   exact hz1 _ (by simp)
  have VZ:(jd z.cells len).length=len*i.size:=by rw [js,Gw]
  have hst:=kQ (P:=P) hp.lC (base:=(c.β id).2) (off:=off) (vs:=(Builtin.zeroCells zv.cells len).toList) (by rw [hnl]; rw [G5] at hoff; omega) hone
  obtain⟨q1,q2,q3,q4⟩:=hX (Builtin.zeroCells zv.cells len).toList (c.β id).1 ((c.β id).2+off) c.w
  have Dt:ja c (c.β id).1 q:=hp
  obtain⟨C,Mq,hb,mF⟩:=hp
  obtain⟨C',g1,g2,g3⟩:=fT (Builtin.zeroCells zv.cells len).toList (c.β id).1 ((c.β id).2+off) c.w C Mq (0,0) hb (by rw [hnl]; rw [G5] at hoff; omega)
  obtain⟨e',f'⟩:=f.upd (w':=c.w.setCells (c.β id).1 ((c.β id).2+off) (Builtin.zeroCells zv.cells len).toList) (β':=c.β) (h':=s.h.put id (.cells (dv cs off (jd z.cells len)))) id (.cells (dv cs off (jd z.cells len)))
   (by rw [f.h]; exact Steady.put _ _ _) (by rw [←f.h]; exact ab1 hl.1) (by simp [AHeap.put,beq_nat]) (fun lP h1=>.inr ⟨by rw [f.h]; simp [AHeap.put,beq_nat,h1],rfl⟩) (fun _=>⟨hl,rfl⟩) (.inr ⟨id,hl,rfl,.inl rfl⟩)
   (fun _=>by simp only [Cx.len,World.shape?,g1,hb,aaO,abG,g2])
   (fun b _ hne=>dQ _ _ _ _ _ hne) (fun b _ hne=>dQ _ _ _ _ _ hne) (by rw [q1]; exact aaN _) (jO e hb0) q2 q3 q4
   (fun ee=>⟨q,Dt.setCells (by rw [hnl]; rw [G5] at hoff; omega) _ _ _,by rw [iN]; exact hq,jq Dt.lC hc hv hone (by rw [VZ]; rw [G5] at hoff; omega) (by omega) ee rfl⟩)
  refine fin _ ?_ e' f'
  cases len with
  | zero=>exact absurd rfl hl0
  | succ len=>simp [Builtin.clear_,bB zT,hx,GS,hst]
 ·cases h
  simp only [SR,VR] at hx
  refine fin c ?_ (Ext.refl _ _) f
  simp [Builtin.clear_,bB zT,hx]
 ·rename_i id
  rw [aaH] at h
  obtain⟨ob,ho,h⟩:=h
  cases ob with
  | cells cs=>cases h
  | row t cs=>cases h
  | map es=>
  cases h
  simp only [SR,VR] at hx
  obtain⟨hi,r,su,hr⟩:=hx
  rw [←f.h] at ho
  have hl:Live c.h id:=⟨f.rel.lt _ _ ho,by simp [ho]⟩
  have Oq:=hr hl
  subst Oq
  obtain⟨mb,clock,h1,h2⟩:=f.rel.obj _ _ ho
  obtain⟨e',f'⟩:=f.yc (jO e hb0) ho h1 (ss:=#[]) (pI:=clock) (sh:=[]) trivial
  refine fin _ ?_ e' f'
  have hget:(getObj (c.β id).1).run P c.w = .ok (.map mb clock) c.w:=MapKept.run_getObj_map h1
  have G6:=MapKept.run_setObj_map (P:=P) (.map #[] clock) h1
  simp [Builtin.clear_,bB zT,su,hget,G6]
end
end Go.R
namespace Go.R
open Go
section
variable {P:Program}{L0:Nat→Prop}{c0:Cx}{n:Nat}{ds:List Nat}{o:Oper}{s:RS}
theorem n7 {w:World}{t t2 ty e:TypeId}{i:TypeInfo}(ht:P.underlying t=some (.slice e))(hi:P.info? e=some i){base:Option Addr}{len cap:Nat}{x:Value}{news:List Value}{m:Nat}(hs:Src P i.size t2 x m news w)(hm:m≤len) :
  (Builtin.copy_ #[t,t2] ty #[.slice base len cap,x]).run P w=match base with | none=>.ok (goInt m) w | some a=>((storeCells a news).run P w).andThen fun _ w'=>.ok (goInt m) w':=by
 have Pa:Nat.min m len=m:=ab8 hm
 have hlen:=hs.len w
 have hc:=hs.cells
 have hsz:(sizeOf e).run P w = .ok i.size w:=by simp [sizeOf,typeInfo,hi]
 unfold Builtin.copy_
 cases base with
 | none=>simp [bB ht,hlen,Pa,hsz,hc]
 | some a=>simp [bB ht,hlen,Pa,hsz,hc,Sem.run_bind]
theorem J3 (hb0:c0.base≤c0.w.heap.size)(hd:gV n ds o){t t2:TypeId}{dx sx:Operand}(ho:o.op = .call {callee:=.builtin .copy,args:=#[dx,sx],argTypes:=#[t,t2]}){y:AV}{h':AHeap}
  (h:si P s.h t t2 (bQ s.ρ dx) (bQ s.ρ sx)=some (y,h')):jS P L0 c0 n ds o s ({s with h:=h'}.set o.dst y):=by
 rintro a w K Q ⟨hn,c,Lo,lam,rfl,f,e0⟩ hK
 have hbs:=jO e0 hb0
 unfold si at h
 rw [aaH] at h
 obtain⟨d,zT,h⟩:=h
 cases d<;>simp only at h<;>try (cases h; done)
 rename_i e
 rw [aaH] at h
 obtain⟨i,hi,h⟩:=h
 rw [aaH] at h
 obtain⟨⟨new,m⟩,hcs,h⟩:=h
 simp only at h
 split at h
 ·cases h
 rename_i ic
 have ic:jm P t2 (bQ s.ρ sx)=true:=by simpa using ic
 have V0:∀st,bQ s.ρ sx = .str st→P.underlying t2=some .string:=by
  intro st hst
  rw [hst] at ic
  unfold jm at ic
  simp only at ic
  split at ic
  ·assumption
  ·cases ic
 have qh:(∀st,bQ s.ρ sx≠.str st)→∃e',P.underlying t2=some (.slice e'):=by
  intro hne
  unfold jm at ic
  split at ic
  ·rename_i st hst; exact absurd hst (hne st)
  ·split at ic
   ·rename_i e' he; exact⟨e',he⟩
   ·cases ic
 have hk:(∃e',P.underlying t2=some (.slice e'))∨P.underlying t2=some .string:=by
  by_cases hst:∃st,bQ s.ρ sx = .str st
  ·obtain⟨st,hst⟩:=hst; exact .inr (V0 st hst)
  ·exact .inl (qh fun st Ss=>hst ⟨st,Ss⟩)
 obtain⟨news,hS,hv⟩:=rA f (bI f sx) hk V0 qh hcs
 have zy:=bI f dx
 have fin:∀c',(Builtin.copy_ #[t,t2] o.type #[a.eval dx,a.eval sx]).run P c.w = .ok (goInt m) c'.w→Ext c Lo c' Lo→Fr L0 c' Lo lam ds {s with h:=h'} a→y = .int .i64 m→o.wp P a c.w K Q:=by
  intro c' hr e' f' hy
  unfold Oper.wp
  have:(execOp a.eval o).run P c.w = .ok (.value (goInt m)) c'.w:=by
   simp [execOp,ho,resolve,invoke,builtin,hr]
  rw [this,Oper.upon_value]
  exact hK _ _ ⟨(gU _ _ _).trans hn,c',Lo,lam,rfl,f'.set (SR.of (by subst hy; simp [VR,goInt])) (fun t ht=>by rw [hn]; exact hd t ht),e0.trans e'⟩
 cases Fl:bQ s.ρ dx<;>rw [Fl] at h zy<;>simp only at h<;>try (cases h; done)
 ·split at h
  rotate_left
  ·cases h
  rename_i uk
  cases h
  simp only [SR,VR] at zy
  obtain⟨ad,zy⟩:∃ad:Option Addr,a.eval dx = .slice ad 0 0:=⟨none,zy⟩
  refine fin c ?_ (Ext.refl _ _) f (by rw [uk]; rfl)
  rw [zy,n7 zT hi hS (by omega)]
  cases ad with
  | none=>rfl
  | some ad=>
   have:news=[]:=abt (by rw [hS.newsLen,uk]; simp)
   subst this
   rfl
 ·rename_i id off len jb
  split at h
  ·rename_i hid
   split at h
   rotate_left
   ·cases h
   rename_i uk
   cases h
   simp only [SR,VR] at zy
   rcases zy with⟨_,_,_,ad,zy⟩| zy
   rotate_left
   ·exact absurd hid zy.1
   refine fin c ?_ (Ext.refl _ _) f (by rw [uk]; rfl)
   rw [zy,n7 zT hi hS (by omega)]
   cases ad with
   | none=>rfl
   | some ad=>
    have:news=[]:=abt (by rw [hS.newsLen,uk]; simp)
    subst this
    rfl
  rename_i ll
  rw [aaH] at h
  obtain⟨ob,hob,h⟩:=h
  cases ob with
  | map es=>cases h
  | row t cs=>cases h
  | cells cs=>
  simp only at h
  split at h
  rotate_left
  ·cases h
  rename_i hh
  obtain⟨G5,XZ,hoff⟩:=hh
  cases h
  simp only [SR,VR] at zy
  rcases zy with zy | ⟨_,hid,ad,cap,zy,hlc,Ds,hlive⟩
  ·exact absurd zy.1 ll
  rw [←f.h] at hob
  have hl:Live c.h id:=⟨f.rel.lt _ _ hob,by simp [hob]⟩
  obtain⟨q,hp,hq,hc⟩:=f.rel.obj _ _ hob
  have hnl:=hS.newsLen
  have hvl:=hv.length
  have hr:=n7 (ty:=o.type) zT hi hS XZ (base:=ad) (cap:=cap)
  by_cases ha:ad=some ⟨(c.β id).1,(c.β id).2+off,none⟩
  ·subst ha
   simp only at hr
   have hst:=kQ (P:=P) hp.lC (base:=(c.β id).2) (off:=off) (vs:=news) (by omega) hS.one
   rw [hst] at hr
   simp only [Result.andThen_ok] at hr
   obtain⟨q1,q2,q3,q4⟩:=hX news (c.β id).1 ((c.β id).2+off) c.w
   have Dt:ja c (c.β id).1 q:=hp
   obtain⟨C,Mq,hb,mF⟩:=hp
   obtain⟨C',g1,g2,g3⟩:=fT news (c.β id).1 ((c.β id).2+off) c.w C Mq (0,0) hb (by omega)
   obtain⟨e',f'⟩:=f.upd (w':=c.w.setCells (c.β id).1 ((c.β id).2+off) news) (β':=c.β) (h':=s.h.put id (.cells (dv cs off new))) id (.cells (dv cs off new))
    (by rw [f.h]; exact Steady.put _ _ _) (by rw [←f.h]; exact ab1 hl.1) (by simp [AHeap.put,beq_nat]) (fun lP h1=>.inr ⟨by rw [f.h]; simp [AHeap.put,beq_nat,h1],rfl⟩) (fun _=>⟨hl,rfl⟩) (.inr ⟨id,hl,rfl,.inl rfl⟩)
    (fun _=>by simp only [Cx.len,World.shape?,g1,hb,aaO,abG,g2])
    (fun b _ hne=>dQ _ _ _ _ _ hne) (fun b _ hne=>dQ _ _ _ _ _ hne) (by rw [q1]; exact aaN _) hbs q2 q3 q4
    (fun ee=>⟨q,Dt.setCells (by omega) _ _ _,by rw [iN]; exact hq,jq Dt.lC hc hv hS.one (by omega) (by omega) ee rfl⟩)
   refine fin _ ?_ e' f' rfl
   rw [zy]
   exact hr
  ·have hz:new=[]∧m=0∧news=[]:=by
    rcases hlive hl with⟨h1,_⟩| h1
    ·exact absurd h1 ha
    ·have h0:m=0:=by omega
     have h2:news=[]:=abt (by rw [hnl,h0]; simp)
     subst h2
     exact⟨abt (by simpa using hvl),h0,rfl⟩
   obtain⟨rfl,rfl,rfl⟩:=hz
   have po:dv cs off []=cs:=by simp [dv]
   rw [po] at *
   obtain⟨e',f'⟩:=f.upd (w':=c.w) (β':=c.β) (h':=s.h.put id (.cells cs)) id (.cells cs)
    (by rw [f.h]; exact Steady.put _ _ _) (by rw [←f.h]; exact ab1 hl.1) (by simp [AHeap.put,beq_nat]) (fun lP h1=>.inr ⟨by rw [f.h]; simp [AHeap.put,beq_nat,h1],rfl⟩) (fun _=>⟨hl,rfl⟩) (.inr ⟨id,hl,rfl,.inl rfl⟩)
    (fun _=>rfl) (fun b _ hne=>rfl) (fun b _ hne=>rfl) (aaN _) hbs rfl rfl rfl
    (fun ee=>qa.ext ee ⟨q,hp,hq,hc⟩ rfl)
   refine fin _ ?_ e' f' rfl
   rw [zy,hr]
   cases ad<;>rfl
end
end Go.R
namespace Go.R
open Go
section
variable {P:Program}{L0:Nat→Prop}{c0:Cx}{n:Nat}{ds:List Nat}{o:Oper}{s:RS}
theorem rB {e:TypeId}(h:GL P e=true):P.underlying e=some (.int .u8)∧fM P e=some 1:=by
 unfold GL at h
 simp only [aaK,beq_iff_eq] at h
 obtain⟨h1,h2⟩:=h
 refine⟨?_,h2⟩
 split at h1
 ·assumption
 ·cases h1
theorem DE {c:Cx}{L:Nat→Prop}:∀{cs:List AV} {l:List UInt8} {vs:List Value},Lv cs=some l→VRs c L cs vs→∃xs:List Int,vs=xs.map (Value.int .u8)∧l=xs.map fun n=>UInt8.ofNat n.toNat
 | [],l,[],h,_=>by simp only [Lv,aaJ] at h; subst h; exact⟨[],rfl,rfl⟩
 | x::cs,l,v::vs,h,hv=>by
  unfold Lv at h
  split at h
  ·rename_i heq; cases heq
  ·rename_i n xs heq
   cases heq
   rw [aaI] at h
   obtain⟨l',h1,rfl⟩:=h
   obtain⟨ys,rfl,rfl⟩:=DE h1 hv.2
   have h2:=hv.1
   simp only [VR] at h2
   subst h2
   exact⟨n::ys,rfl,rfl⟩
  ·cases h
 | [],_,_::_,_,h=>h.elim
 | _::_,_,[],_,h=>h.elim
theorem yf (xs:List Int):strOfNums xs=⟨(xs.map fun n=>UInt8.ofNat n.toNat).toArray⟩:=rfl
theorem zU {w:World}{src dst e:TypeId}{v:Value}{m:Nat}{xs:List Int}(hs:P.underlying src=some (.slice e))(he:P.underlying e=some (.int .u8))(hd:P.underlying dst=some .string)
  (hS:Src P 1 src v m (xs.map (Value.int .u8)) w) (hv:∃a cap,v = .slice a m cap):(convert src dst v).run P w = .ok (.string (strOfNums xs)) w:=by
 obtain⟨a,cap,rfl⟩:=hv
 have hc:=hS.cells
 have hl:=hS.newsLen
 cases a with
 | none=>
  have:xs=[]:=by
   simp [Builtin.firstCells] at hc
   cases xs with
   | nil=>rfl
   | cons x xs=>simp at hc
  subst this
  exact run_convert_bytes_nil w src e hs he m cap dst hd
 | some a=>
  rw [run_convert_bytes_string w src dst e (some a) m cap hs he hd]
  have h1:(loadCells a m).run P w = .ok (xs.map (Value.int .u8)).toArray w:=by simpa [Builtin.firstCells] using hc
  rw [run_bytesToString w a m cap xs h1,foldl_push_bytes]
  simp [strOfNums,ByteArray.empty,ByteArray.emptyWithCapacity]
  rfl
theorem wC {c:Cx}{Lo:Nat→Prop}{lam:Nat→Nat}{x:AV}{v:Value}{h:AHeap}{size m:Nat}{new:List AV}(hx:SR c L0 Lo lam s.bx x v)(hc:eT h size x=some (new,m))(hne:∀st,x≠.str st):∃a cap,v = .slice a m cap:=by
 unfold eT at hc
 cases x<;>simp only at hc<;>try (cases hc; done)
 ·exact absurd rfl (hne _)
 ·cases hc
  simp only [SR,VR] at hx
  subst hx
  exact⟨none,0,rfl⟩
 ·split at hc
  ·cases hc
   simp only [SR,VR] at hx
   obtain⟨a,cap,rfl,_⟩:=hx
   exact⟨a,cap,rfl⟩
  ·cases hc
 ·split at hc
  ·split at hc
   ·cases hc
    simp only [SR,VR] at hx
    rename_i hid hl0
    rcases hx with⟨_,_,_,a,rfl⟩| ⟨_,_,a,cap,rfl,_⟩
    ·exact⟨a,0,rfl⟩
    ·exact⟨a,cap,by rw [hl0]⟩
   ·cases hc
  rename_i ll
  rw [aaH] at hc
  obtain⟨ob,_,hc⟩:=hc
  cases ob with
  | map es=>cases hc
  | row t cs=>cases hc
  | cells cs=>
   simp only at hc
   split at hc
   ·cases hc
    simp only [SR,VR] at hx
    rcases hx with hx | ⟨_,_,a,cap,rfl,_⟩
    ·exact absurd (.inl hx.1) ll
    exact⟨a,cap,rfl⟩
   ·cases hc
theorem bytes_VRs {c:Cx}{L:Nat→Prop}:∀l:List UInt8,VRs c L (l.map fun b=>AV.int .u8 b.toNat) (l.map fun b=>Value.int .u8 b.toNat)
 | []=>trivial
 | b::l=>⟨by simp [VR],bytes_VRs l⟩
theorem yg {w:World}{b o k:Nat}{C:Array Value}{e:TypeId}{fr:Nat × Nat}(hb:w.heap[b]? = some (.cells C e fr))(ho:C.size≤o)(hk:k≠0) :
  (∀b',iL w (w.freeze ⟨b,o,none⟩ k) b')∧(∀b',b'≠b→(w.freeze ⟨b,o,none⟩ k).heap[b']? = w.heap[b']?)∧(w.freeze ⟨b,o,none⟩ k).heap.size=w.heap.size∧(w.freeze ⟨b,o,none⟩ k).os=w.os∧(w.freeze ⟨b,o,none⟩ k).tape=w.tape∧(w.freeze ⟨b,o,none⟩ k).output=w.output:=by
 unfold World.freeze
 rw [if_neg hk]
 have hlt:=(abj.1 hb).1
 refine⟨fun b'=>?_,fun b' hne=>by simp [abS,Ne.symm hne],by simp,rfl,rfl,rfl⟩
 by_cases hne:b'=b
 ·subst hne
  obtain⟨lo,hi⟩:=fr
  refine .inr ⟨C,e,lo,hi,(if lo==hi then (o,o+k) else (min lo o,max hi (o+k))).1,(if lo==hi then (o,o+k) else (min lo o,max hi (o+k))).2,hb,?_,?_⟩
  ·simp [abS,hb]
  ·intro h
   by_cases Su:lo=hi
   ·subst Su; right; simpa using ho
   ·have:(lo==hi)=false:=by simpa using Su
    right
    simp only [this,aaU,if_false]
    rcases h with h | h
    ·exact absurd h Su
    ·exact Nat.le_min.2 ⟨h,ho⟩
 ·exact .inl (by simp [abS,Ne.symm hne])
theorem Cf (hb0:c0.base≤c0.w.heap.size)(hd:gV n ds o){src dst:TypeId}{x:Operand}(ho:o.op = .convert src dst x){y:AV}(h:nV P s.h src dst (bQ s.ρ x)=some y):jS P L0 c0 n ds o s (s.set o.dst y):=by
 have hex:∀(a:Act) (w w':World) v,(convert src dst (a.eval x)).run P w = .ok v w'→(execOp a.eval o).run P w = .ok (.value v) w':=by
  intro a w w' v hr; simp [execOp,ho,hr]
 unfold nV at h
 split at h
 ·rename_i e hs BG
  split at h
  rotate_left
  ·cases h
  rename_i hu
  obtain⟨he,hsz⟩:=rB hu
  rw [aaH] at h
  obtain⟨⟨cs,m⟩,hcs,h⟩:=h
  rw [aaI] at h
  obtain⟨l,hl,rfl⟩:=h
  by_cases hst:∃st,bQ s.ρ x = .str st
  ·
   obtain⟨st,hst⟩:=hst
   refine gv hd fun a c Lo lam f hn=>?_
   have hx:=bI f x
   rw [hst] at hx hcs
   simp only [SR,VR] at hx
   simp only [eT,if_true,aaJ,aaQ] at hcs
   obtain⟨rfl,rfl⟩:=hcs
   refine⟨_,hex _ _ _ (.string st) ?_,?_⟩
   ·simp [convert,run_underlying hs,run_underlying BG,hx]
   ·have:∀(l0 l1:List UInt8),Lv (l0.map fun b=>AV.int .u8 b.toNat)=some l1→l1=l0:=by
     intro l0
     induction l0 with
     | nil=>intro l1 h; simp [Lv] at h; exact h
     | cons b l0 ih=>
      intro l1 h
      simp only [aa3,Lv,aaI] at h
      obtain⟨l2,h2,rfl⟩:=h
      rw [ih l2 h2]
      simp
    rw [this _ _ hl]
    simp [SR,VR]
  ·refine gv hd fun a c Lo lam f hn=>?_
   have hne:∀st,bQ s.ρ x≠.str st:=fun st h=>hst ⟨st,h⟩
   have hx:=bI f x
   obtain⟨news,hS,hv⟩:=rA f hx (.inl ⟨e,hs⟩) (fun st h=>absurd h (hne st)) (fun _=>⟨e,hs⟩) hcs
   obtain⟨xs,rfl,rfl⟩:=DE hl hv
   exact⟨_,hex _ _ _ _ (zU hs he BG hS (wC hx hcs hne)),by simp [SR,VR,yf]⟩
 ·rename_i e hs BG
  cases Fl:bQ s.ρ x<;>rw [Fl] at h<;>simp only at h<;>try (cases h; done)
  rename_i st
  split at h
  rotate_left
  ·cases h
  rename_i hu
  obtain⟨he,hsz⟩:=rB hu
  cases h
  refine uv hb0 hd (fun a c Lo lam f hn hbs=>?_) (by rintro k off h; cases h)
  have hx:=bI f x
  rw [Fl] at hx
  simp only [SR,VR] at hx
  have hr:=run_bytes_of_string c.w src dst e st hs BG he
  rw [←hx] at hr
  refine⟨_,_,hex _ _ _ _ hr,fun b hb=>.inl (alloc_old c.w.drew _ (show b<c.w.heap.size from hb)),fun id hl=>alloc_old c.w.drew _ (show (c.β id).1<c.w.heap.size from f.rel.block hl),fun b hb=>alloc_old c.w.drew _ (show b<c.w.heap.size by omega),by show c.w.heap.size≤(c.w.heap.push _).size; simp,rfl,rfl,rfl,fun e'=>?_⟩
  simp only [VR]
  refine⟨_,_,rfl,grownCap_ge c.w,by simp,.inl rfl,?_⟩
  refine .inr ⟨c.w.heap.size,0,rfl,G2 f.rel rfl rfl,by simp,?_⟩
  refine Cells.of_vals (bytes_VRs st.data.toList) (fun i hi=>?_) (fun v hv=>by obtain⟨b,_,rfl⟩:=abf.1 hv; rfl)
  have kp:i<st.data.size:=by simpa using hi
  have:(World.alloc c.w.drew (.cells (bytesRow st (grownCap c.w st.size 0 e)) e ((bytesRow st (grownCap c.w st.size 0 e)).size,(bytesRow st (grownCap c.w st.size 0 e)).size+1))).heap[c.w.heap.size]? = some (.cells (bytesRow st (grownCap c.w st.size 0 e)) e ((bytesRow st (grownCap c.w st.size 0 e)).size,(bytesRow st (grownCap c.w st.size 0 e)).size+1)):=je c.w.drew _
  rw [cell_of_block this]
  simp [bytesRow,Array.getElem?_append,kp]
  intro hge
  have:st.size=st.data.size:=rfl
  omega
 ·rename_i e0 e hs BG
  cases Fl:bQ s.ρ x<;>rw [Fl] at h<;>try (cases h; done)
  rename_i cs m ex
  cases ex
  ·cases h
  simp only at h
  split at h
  rotate_left
  ·cases h
  rename_i hu
  simp only [aaK,beq_iff_eq,decide_eq_true_eq] at hu
  obtain⟨⟨X0,hu⟩,qi⟩:=hu
  subst X0
  obtain⟨he,hsz⟩:=rB hu
  cases h
  refine uv hb0 hd (fun a c Lo lam f hn hbs=>?_) (by rintro k off h; cases h)
  have hx:=bI f x
  rw [Fl] at hx
  have J4:=hx.vr (by rintro k off h; cases h)
  simp only [SR,VR] at hx
  obtain⟨ad,cap,su,h1,h2,_,h3⟩:=hx
  rcases h3 with rfl | ⟨b,off,rfl,Lx,hbb,hc⟩
  ·simp at qi
  have hlt:b<c.w.heap.size:=by
   cases cs with
   | nil=>simp at qi
   | cons x cs=>exact kN hc
  have po:∃C e' fr,c.w.heap[b]? = some (.cells C e' fr):=by
   cases cs with
   | nil=>simp at qi
   | cons x cs=>
    obtain⟨⟨v,hv,_⟩,_⟩:=hc
    unfold World.cell? at hv
    split at hv
    ·exact⟨_,_,_,by assumption⟩
    ·cases hv
  obtain⟨C,e',fr,hb⟩:=po
  obtain⟨k1,k2,k3,k4,k5,k6⟩:=yg (k:=1) hb (aaN C.size) (by decide)
  refine⟨c.w.freeze ⟨b,C.size,none⟩ 1,a.eval x,hex _ _ _ _ ?_,fun b' _=>k1 b',fun id hl=>k2 _ (Lx.1 id hl),fun b' wk=>k2 b' (by have:=hbb trivial; omega),by rw [k3]; exact aaN _,k4,k5,k6,fun Mq=>VR.ext Mq _ _ J4⟩
  rw [su]
  have JE:c.w.shape? b=some (e',C.size):=by simp [World.shape?,hb]
  simp [convert,run_underlying BG,run_underlying he,markStringish,JE]
 ·rw [aaH] at h
  obtain⟨v,hv,h⟩:=h
  rw [aaH] at h
  obtain⟨r,hr,h⟩:=h
  refine gv hd fun a c Lo lam f hn=>?_
  have hx:=mc hv ((bI f x).vr (me hv))
  exact⟨r,hex _ _ _ _ (by rw [hx]; exact lD _ hr),SR.of (oQ h)⟩
theorem ez {op:BinOp}{t:TypeId}{x y:Operand}{u v:Value}(h:(∀a b,u≠.agg a∨v≠.agg b)∧u≠.nilIface)(w:World):(eqGuard op t x y u v).run P w = .ok () w:=by
 obtain⟨h1,h2⟩:=h
 unfold eqGuard
 cases op<;>first | rfl | skip
 all_goals
  simp only [abM,aaU,if_false]
  split
  ·exact absurd rfl h2
  ·rename_i a b; rcases h1 a b with h3 | h3<;>exact absurd rfl h3
  ·rfl
theorem Cg {x:AV}{u:Value}(h:x.gT=some u):(∀a,u≠.agg a)∧u≠.nilIface:=by
 unfold AV.gT at h
 split at h<;>first | (cases h; done) | (cases h; exact⟨fun _=>(by simp),(by simp)⟩)
theorem Fq {op:BinOp}{a b:ByteArray}{y:AV}(h:BW op a b=some y)(w:World):∃r,(Op.stringOp op a b).run P w = .ok r w∧∀(c:Cx) (L:Nat→Prop),VR c L y r:=by
 have hl:∀z:ByteArray,z.toList=z.data.toList:=fun z=>ByteArray.toList_eq z
 unfold BW at h
 unfold Op.stringOp
 simp only [hl]
 cases op<;>simp only at h<;>try (cases h; done)
 ·split at h
  rotate_left
  ·cases h
  rename_i hsz
  cases h
  refine⟨.string (a++b),?_,fun c L=>by simp only [VR]⟩
  have h1:¬(((a.size+b.size:Nat):Int) > IntKind.i64.max):=by
   have:IntKind.i64.max=9223372036854775807:=by decide
   rw [this]; omega
  simp only [h1,if_false]
  rfl
 all_goals (cases h; exact⟨_,rfl,fun c L=>by simp only [VR]⟩)
theorem oR {op:BinOp}{rj:Bool}(h:BX op=some rj):(op = .eql∧rj=true)∨(op = .neq∧rj=false):=by
 unfold BX at h
 split at h<;>cases h
 ·exact .inl ⟨rfl,rfl⟩
 ·exact .inr ⟨rfl,rfl⟩
theorem pJ {t:TypeId}(ht:∃q,P.underlying t=some (.pointer q)){a:Addr}{op:BinOp}{rj:Bool}(h:BX op=some rj)(w:World) :
  (binOp op t (.pointer (some a)) (.pointer none)).run P w = .ok (.bool (!rj)) w∧(binOp op t (.pointer none) (.pointer (some a))).run P w = .ok (.bool (!rj)) w:=by
 obtain⟨q,hq⟩:=ht
 have e1:(Op.equal t (.pointer (some a)) (.pointer none)).run P w = .ok false w:=by
  unfold Op.equal Op.maxDepth
  unfold Op.equalIn
  simp [bB hq]
 have e2:(Op.equal t (.pointer none) (.pointer (some a))).run P w = .ok false w:=by
  unfold Op.equal Op.maxDepth
  unfold Op.equalIn
  simp [bB hq]
 rcases oR h with⟨rfl,rfl⟩| ⟨rfl,rfl⟩
 ·constructor
  ·show ((do pure (.bool (←Op.equal t (.pointer (some a)) (.pointer none)))):Sem Value).run P w=_
   simp [e1]
  ·show ((do pure (.bool (←Op.equal t (.pointer none) (.pointer (some a))))):Sem Value).run P w=_
   simp [e2]
 ·constructor
  ·show ((do pure (.bool (!(←Op.equal t (.pointer (some a)) (.pointer none))))):Sem Value).run P w=_
   simp [e1]
  ·show ((do pure (.bool (!(←Op.equal t (.pointer none) (.pointer (some a)))))):Sem Value).run P w=_
   simp [e2]
theorem qm {t:TypeId}(ht:∃q,P.underlying t=some (.slice q)){ad:Option Addr}(hs:ad.isSome=true){m cap:Nat}{op:BinOp}{rj:Bool}(h:BX op=some rj)(w:World) :
  (binOp op t (.slice ad m cap) (.slice none 0 0)).run P w = .ok (.bool (!rj)) w:=by
 obtain⟨q,hq⟩:=ht
 obtain⟨a,rfl⟩:=abk.1 hs
 have e1:(Op.equal t (.slice (some a) m cap) (.slice none 0 0)).run P w = .ok false w:=by
  unfold Op.equal Op.maxDepth
  unfold Op.equalIn
  simp [bB hq]
 rcases oR h with⟨rfl,rfl⟩| ⟨rfl,rfl⟩
 ·show ((do pure (.bool (←Op.equal t (.slice (some a) m cap) (.slice none 0 0)))):Sem Value).run P w=_
  simp [e1]
 ·show ((do pure (.bool (!(←Op.equal t (.slice (some a) m cap) (.slice none 0 0))))):Sem Value).run P w=_
  simp [e1]
theorem G7 (hd:gV n ds o){op:BinOp}{t t2:TypeId}{x y:Operand}(ho:o.op = .binOp op t x y t2){z:AV}(h:nW P op t (bQ s.ρ x) (bQ s.ρ y)=some z):jS P L0 c0 n ds o s (s.set o.dst z):=by
 refine gv hd fun a c Lo lam f hn=>?_
 have hx:=bI f x
 have hy:=bI f y
 have hex:∀v,(eqGuard op t x y (a.eval x) (a.eval y)).run P c.w = .ok () c.w→(binOp op t (a.eval x) (a.eval y)).run P c.w = .ok v c.w→(execOp a.eval o).run P c.w = .ok (.value v) c.w:=by
  intro v h1 h2; simp [execOp,ho,h1,h2]
 unfold nW at h
 split at h
 ·rename_i p q hp hq
  rw [hp] at hx; rw [hq] at hy
  simp only [SR,VR] at hx hy
  obtain⟨r,hr,hv⟩:=Fq (P:=P) h c.w
  refine⟨r,hex _ (ez ⟨fun _ _=>.inl (by rw [hx]; simp),by rw [hx]; simp⟩ _) ?_,SR.of (hv _ _)⟩
  rw [hx,hy]
  unfold binOp
  simpa using hr
 ·rename_i p q hp hq
  rw [hp] at hx; rw [hq] at hy
  simp only [SR,VR] at hx hy
  obtain⟨_,ad,su,_⟩:=hx
  rw [aaH] at h
  obtain⟨rj,sZ,h⟩:=h
  split at h
  rotate_left
  ·cases h
  rename_i ht
  cases h
  refine⟨.bool (!rj),hex _ (ez ⟨fun _ _=>.inl (by rw [su]; simp),by rw [su]; simp⟩ _) ?_,SR.of (by simp [VR])⟩
  rw [su,hy]
  exact (pJ ⟨_,ht⟩ sZ _).1
 ·rename_i p q hp hq
  rw [hp] at hx; rw [hq] at hy
  simp only [SR,VR] at hx hy
  obtain⟨_,ad,RC,_⟩:=hy
  rw [aaH] at h
  obtain⟨rj,sZ,h⟩:=h
  split at h
  rotate_left
  ·cases h
  rename_i ht
  cases h
  refine⟨.bool (!rj),hex _ (ez ⟨fun _ _=>.inl (by rw [hx]; simp),by rw [hx]; simp⟩ _) ?_,SR.of (by simp [VR])⟩
  rw [hx,RC]
  exact (pJ ⟨_,ht⟩ sZ _).2
 ·rename_i p q hp hq
  rw [hp] at hx; rw [hq] at hy
  simp only [SR,VR] at hx hy
  obtain⟨b,off,su,_⟩:=hx
  rw [aaH] at h
  obtain⟨rj,sZ,h⟩:=h
  split at h
  rotate_left
  ·cases h
  rename_i ht
  cases h
  refine⟨.bool (!rj),hex _ (ez ⟨fun _ _=>.inl (by rw [su]; simp),by rw [su]; simp⟩ _) ?_,SR.of (by simp [VR])⟩
  rw [su,hy]
  exact (pJ ⟨_,ht⟩ sZ _).1
 ·rename_i hp hq
  rw [hp] at hx; rw [hq] at hy
  simp only [SR,VR] at hx hy
  obtain⟨ad,cap,su,_,_,hs,_⟩:=hx
  replace hs:ad.isSome=true:=hs.elim id fun h=>by cases h.1
  rw [aaH] at h
  obtain⟨rj,sZ,h⟩:=h
  split at h
  rotate_left
  ·cases h
  rename_i ht
  cases h
  refine⟨.bool (!rj),hex _ (ez ⟨fun _ _=>.inl (by rw [su]; simp),by rw [su]; simp⟩ _) ?_,SR.of (by simp [VR])⟩
  rw [su,hy]
  exact qm ⟨_,ht⟩ hs sZ _
 ·rename_i hp hq
  rw [hp] at hx; rw [hq] at hy
  simp only [SR,VR] at hx hy
  rcases hx with⟨hx,_⟩| ⟨_,_,ad,cap,su,_,hs,_⟩
  ·omega
  rw [aaH] at h
  obtain⟨rj,sZ,h⟩:=h
  split at h
  rotate_left
  ·cases h
  rename_i ht
  cases h
  refine⟨.bool (!rj),hex _ (ez ⟨fun _ _=>.inl (by rw [su]; simp),by rw [su]; simp⟩ _) ?_,SR.of (by simp [VR])⟩
  rw [su,hy]
  exact qm ⟨_,ht⟩ hs sZ _
 ·rename_i p q hp hq
  rw [hp,hq] at h
  rw [hp] at hx; rw [hq] at hy
  have J4:=hx.vr (by rintro k off h; cases h)
  have Sv:=hy.vr (by rintro k off h; cases h)
  rw [aaH] at h
  obtain⟨rj,sZ,h⟩:=h
  split at h
  rotate_left
  ·cases h
  rename_i kR
  simp only [aaK,abN] at kR
  obtain⟨⟨⟨h1,h2⟩,h3⟩,h4⟩:=kR
  cases h
  have hk:=wV (P:=P) 9998 h1 h3 J4 Sv c.w
  simp only [VR] at J4 Sv
  obtain⟨vx,su,_⟩:=J4
  obtain⟨vy,RC,_⟩:=Sv
  refine⟨.bool (fL (.agg p) (.agg q)==rj),hex _ ?_ ?_,SR.of (by simp only [VR])⟩
  ·rw [su,RC]
   rcases oR sZ with⟨rfl,rfl⟩| ⟨rfl,rfl⟩<;>simp [eqGuard,h4,program,Sem.run]
  ·rw [su,RC] at hk ⊢
   rcases oR sZ with⟨rfl,rfl⟩| ⟨rfl,rfl⟩
   ·show ((do pure (.bool (←Op.equal t (.agg vx) (.agg vy)))):Sem Value).run P c.w=_
    have OU:(Op.equal t (.agg vx) (.agg vy)).run P c.w=_:=hk
    simp [OU]
   ·show ((do pure (.bool (!(←Op.equal t (.agg vx) (.agg vy))))):Sem Value).run P c.w=_
    have OU:(Op.equal t (.agg vx) (.agg vy)).run P c.w=_:=hk
    simp [OU]
 ·rw [aaH] at h
  obtain⟨u,hu,h⟩:=h
  rw [aaH] at h
  obtain⟨v,hv,h⟩:=h
  rw [aaH] at h
  obtain⟨r,hr,h⟩:=h
  have h1:=mc hu (hx.vr (me hu))
  have h2:=mc hv (hy.vr (me hv))
  have h3:=Cg hu
  exact⟨r,hex _ (ez ⟨fun p _=>.inl (by rw [h1]; exact h3.1 p),by rw [h1]; exact h3.2⟩ _) (by rw [h1,h2]; exact lD _ hr),SR.of (oQ h)⟩
theorem J5 (hd:gV n ds o){op:UnOp}{t:TypeId}{x:Operand}(ho:o.op = .unOp op t x){z:AV}(h:((bQ s.ρ x).gT.bind fun a=>(jl P (Op.unary op a)).bind p7)=some z):jS P L0 c0 n ds o s (s.set o.dst z):=by
 refine gv hd fun a c Lo lam f hn=>?_
 rw [aaH] at h
 obtain⟨u,hu,h⟩:=h
 rw [aaH] at h
 obtain⟨r,hr,h⟩:=h
 have h1:=mc hu ((bI f x).vr (me hu))
 refine⟨r,?_,SR.of (oQ h)⟩
 have:=lD (P:=P) c.w hr
 rw [←h1] at this
 simp [execOp,ho,this]
theorem DF (hd:gV n ds o){x:Operand}(ho:o.op = .move x∨o.op = .assign x):jS P L0 c0 n ds o s (s.set o.dst (bQ s.ρ x)):=
 gv hd fun a c Lo lam f hn=>⟨a.eval x,by rcases ho with ho | ho<;>simp [execOp,ho],bI f x⟩
theorem J6 (hd:gV n ds o){k x y:Operand}(ho:o.op = .pick k x y){t:Bool}(h:ud (bQ s.ρ k)=some t):jS P L0 c0 n ds o s (s.set o.dst (if t then bQ s.ρ x else bQ s.ρ y)):=by
 refine gv hd fun a c Lo lam f hn=>?_
 have hk:=bI f k
 unfold ud at h
 split at h
 ·rename_i b hb
  cases h
  rw [hb] at hk
  simp only [SR,VR] at hk
  refine⟨if t then a.eval x else a.eval y,by simp [execOp,ho,hk,asBool],?_⟩
  cases t
  ·exact bI f y
  ·exact bI f x
 ·cases h
theorem zV (hd:gV n ds o){x:Operand}(ho:o.op = .nilCheck x){z:AV}(h:rr (bQ s.ρ x)=some z):jS P L0 c0 n ds o s (s.set o.dst z):=by
 refine gv hd fun a c Lo lam f hn=>?_
 have hx:=bI f x
 have hp:(∃ad,a.eval x = .pointer (some ad))∧z=bQ s.ρ x:=by
  unfold rr at h
  split at h
  ·rename_i id off heq
   cases h
   rw [heq] at hx
   simp only [SR,VR] at hx
   obtain⟨_,ad,h1,_⟩:=hx
   exact⟨⟨ad,h1⟩,heq.symm⟩
  ·rename_i k off heq
   cases h
   rw [heq] at hx
   simp only [SR] at hx
   exact⟨⟨_,hx.1⟩,heq.symm⟩
  ·rename_i cs off heq
   cases h
   rw [heq] at hx
   simp only [SR,VR] at hx
   obtain⟨b,o',h1,_⟩:=hx
   exact⟨⟨_,h1⟩,heq.symm⟩
  ·cases h
 obtain⟨⟨ad,hp⟩,rfl⟩:=hp
 exact⟨a.eval x,by simp [execOp,ho,hp],hx⟩
theorem oS {c:Cx}{Lo:Nat→Prop}{lam:Nat→Nat}{a:Act}(f:Fr L0 c Lo lam ds s a):∀xs:List Operand,(∀x∈xs,∀k off,bQ s.ρ x≠.lp k off)→VRs c (un L0 Lo) (xs.map (bQ s.ρ)) (xs.map a.eval)
 | [],_=>trivial
 | x::xs,h=>⟨(bI f x).vr (h x (by simp)),oS f xs fun y hy=>h y (by simp [hy])⟩
theorem Fs {x:AV}(h:x.bY=true):∀k off,x≠.lp k off:=by rintro k off rfl; simp [AV.bY] at h
theorem zW (hd:gV n ds o){Ch:FuncId}{first cap:Array Operand}(ho:o.op = .makeFunc (.func Ch) first cap)(hf:first.isEmpty=true)(hc:(cap.toList.map (bQ s.ρ)).all AV.bY=true):jS P L0 c0 n ds o s (s.set o.dst (.fn Ch (cap.toList.map (bQ s.ρ)))):=by
 refine gv hd fun a c Lo lam f hn=>?_
 have Sw:first = #[]:=by simpa using hf
 subst Sw
 refine⟨.func (.func Ch) #[] (cap.map a.eval),by simp [execOp,ho,Instr.makeFunc],SR.of ?_⟩
 simp only [VR]
 refine⟨_,rfl,?_⟩
 rw [Array.toList_map]
 refine oS f _ fun x hx=>Fs ?_
 rw [aa1] at hc
 exact hc _ (abf.2 ⟨x,hx,rfl⟩)
theorem Ci (hd:gV n ds o){x:Operand}{i:Nat}(ho:o.op = .extract x i){z:AV}(h:uf (bQ s.ρ x) i=some z):jS P L0 c0 n ds o s (s.set o.dst z):=by
 refine gv hd fun a c Lo lam f hn=>?_
 have hx:=bI f x
 cases heq:bQ s.ρ x<;>rw [heq] at h hx<;>simp only [uf] at h<;>try (cases h; done)
 rename_i vs
 simp only [SR,VR] at hx
 obtain⟨us,su,Gv⟩:=hx
 obtain⟨v,hv,hr⟩:=Gv.get i z h
 have Sx:us[i]? = some v:=by simpa using hv
 exact⟨v,by simp [execOp,ho,su,Instr.extract,Sx],SR.of hr⟩
theorem sv {op:Value→Value→Sem Value}:∀(vs:List Value) (v r:Value) (w:World),mL P op v vs=some r→(vs.foldlM op v).run P w = .ok r w
 | [],v,r,w,h=>by simp only [mL,aaJ] at h; subst h; rfl
 | x::xs,v,r,w,h=>by
  simp only [mL,aaH] at h
  obtain⟨u,h1,h2⟩:=h
  simp only [List.foldlM_cons,Sem.run_bind,lD w h1,Result.andThen_ok]
  exact sv xs u r w h2
theorem w5 (hd:gV n ds o){b:Builtin}{DG:Array TypeId}{args:Array Operand}(ho:o.op = .call {callee:=.builtin b,args:=args,argTypes:=DG}){op:Value→Value→Sem Value}(hb:(b = .min∧op=Builtin.min2)∨(b = .max∧op=Builtin.max2))
  {x:AV} {xs:List AV} (he:args.toList.map (bQ s.ρ)=x::xs) {v u:Value} {vs:List Value} (hx:x.gT=some v) (hxs:jC xs=some vs) (hf:mL P op v vs=some u) {z:AV} (hz:p7 u=some z):jS P L0 c0 n ds o s (s.set o.dst z):=by
 refine gv hd fun a c Lo lam f hn=>?_
 refine⟨u,?_,SR.of (oQ hz)⟩
 have hne:∀q:Operand,∀k off,bQ s.ρ q = .lp k off→q∉args.toList:=by
  intro q k off hq hm
  have JF:AV.lp k off∈x::xs:=by rw [←he,←hq]; exact abf.2 ⟨q,hm,rfl⟩
  rcases aa6.1 JF with h1 | h1
  ·exact me hx k off h1.symm
  ·have:∀(ys:List AV) (us:List Value),jC ys=some us→AV.lp k off∉ys:=by
    intro ys
    induction ys with
    | nil=>intro us _ h; cases h
    | cons y ys ih=>
     intro us hu hm
     simp only [jC,aaH] at hu
     obtain⟨u1,h2,us1,h3,_⟩:=hu
     rcases aa6.1 hm with h4 | h4
     ·exact me h2 k off h4.symm
     ·exact ih _ h3 h4
   exact this _ _ hxs h1
 have Dr:=oS f args.toList (fun q hq k off h=>hne q k off h hq)
 rw [he] at Dr
 have mh:args.toList.map a.eval=v::vs:=rv (xs:=x::xs) (us:=v::vs) (by simp [jC,hx,hxs]) Dr
 have hr:=sv vs v u c.w hf
 have hargs:args.map a.eval=(v::vs).toArray:=by rw [←mh]; apply acg; simp
 rcases hb with⟨rfl,rfl⟩| ⟨rfl,rfl⟩
 ·simp [execOp,ho,resolve,invoke,builtin,Builtin.min_,hargs,hr]
 ·simp [execOp,ho,resolve,invoke,builtin,Builtin.max_,hargs,hr]
end
end Go.R
namespace Go.R
open Go
section
variable {P:Program}{L0:Nat→Prop}{c0:Cx}{n:Nat}{ds:List Nat}{s:RS}
theorem Fr.G8 {c:Cx}{Lo:Nat→Prop}{lam:Nat→Nat}{a:Act}(f:Fr L0 c Lo lam ds s a)(id:Nat) :
  Ext c Lo ⟨c.β,c.h.kill id,c.w,c.base⟩ Lo∧Fr L0 ⟨c.β,c.h.kill id,c.w,c.base⟩ Lo lam ds {s with h:=s.h.kill id} a∧(Live c.h id→RO ⟨c.β,c.h.kill id,c.w,c.base⟩ (un L0 Lo) (c.β id).1):=by
 have hg:∀i,(c.h.kill id).get i=if i=id then none else c.h.get i:=fun i=>by
  simp only [AHeap.kill,beq_nat]
  by_cases h:i=id<;>simp [h]
 have mE:∀i,Live (c.h.kill id) i→i≠id∧Live c.h i:=fun i hl=>by
  have h2:=hl.2
  rw [hg] at h2
  by_cases h:i=id
  ·rw [if_pos h] at h2; cases h2
  ·rw [if_neg h] at h2
   obtain⟨o,ho⟩:=abk.1 h2
   exact⟨h,f.rel.lt _ _ ho,h2⟩
 have e:Ext c Lo ⟨c.β,c.h.kill id,c.w,c.base⟩ Lo:=
  ⟨abV _,fun i hi hl=>⟨(mE i hl).2,rfl,rfl⟩,aaN _,fun _ _ _ _=>.inl rfl,fun _ _=>rfl,rfl,fun i hl=>.inr ⟨i,(mE i hl).2,rfl⟩,fun _ h=>h,fun _ h=>.inl h,rfl,rfl,rfl⟩
 refine⟨e,⟨by rw [←f.h],⟨fun i o ho=>?_,fun i o ho=>?_,fun i j hi hj he=>?_,fun i hi=>?_,f.rel.bd,fun i hi=>?_,(Steady.kill c.h id).wf f.rel.ver⟩,fun t=>?_,fun k cs hb=>?_,f.inj,f.tidy,f.defers,f.GN⟩,fun hl=>⟨fun i hi he=>?_,f.rel.out id hl⟩⟩
 ·replace ho:(c.h.kill id).get i=some o:=ho
  rw [hg] at ho
  by_cases h:i=id
  ·rw [if_pos h] at ho; cases ho
  ·rw [if_neg h] at ho; exact ab1 (f.rel.lt _ _ ho)
 ·replace ho:(c.h.kill id).get i=some o:=ho
  rw [hg] at ho
  by_cases h:i=id
  ·rw [if_pos h] at ho; cases ho
  ·rw [if_neg h] at ho
   exact (f.rel.obj i o ho).ext e rfl
 ·exact f.rel.inj i j (mE i hi).2 (mE j hj).2 he
 ·exact f.rel.out i (mE i hi).2
 ·exact f.rel.low i (mE i hi).2
 ·exact (f.slot t).ext e (fun _ _ _=>⟨rfl,fun h=>h⟩)
 ·have hb2:=f.box k cs hb
  exact hb2.ext e (.inl rfl)
 ·obtain⟨h1,h2⟩:=mE i hi
  exact h1 (f.rel.inj i id h2 hl he)
theorem J7 {c:Cx}{Lo:Nat→Prop}{lam:Nat→Nat}{a:Act}(f:Fr L0 c Lo lam ds s a){x y:AV}{h':AHeap}(h:Fh s.h x=some (y,h')) :
  Ext c Lo ⟨c.β,h',c.w,c.base⟩ Lo∧Fr L0 ⟨c.β,h',c.w,c.base⟩ Lo lam ds {s with h:=h'} a∧(∀v,VR c (un L0 Lo) x v→VR ⟨c.β,h',c.w,c.base⟩ (un L0 Lo) y v)∧∀i,Live h' i→Live c.h i:=by
 have same:Ext c Lo ⟨c.β,s.h,c.w,c.base⟩ Lo∧Fr L0 ⟨c.β,s.h,c.w,c.base⟩ Lo lam ds {s with h:=s.h} a∧(⟨c.β,s.h,c.w,c.base⟩:Cx)=c:=by
  have e:(⟨c.β,s.h,c.w,c.base⟩:Cx)=c:=by rw [←f.h]
  rw [e]; exact⟨Ext.refl _ _,f,rfl⟩
 unfold Fh at h
 split at h
 ·simp only [aaJ,aaQ] at h
  obtain⟨rfl,rfl⟩:=h
  obtain⟨h1,h2,h3⟩:=same
  exact⟨h1,h2,fun v hv=>by rw [h3]; exact hv,fun i hi=>by rw [f.h]; exact hi⟩
 cases x with
 | rs id off len jb=>
  simp only at h
  split at h
  ·rename_i hid
   split at h
   rotate_left
   ·cases h
   rename_i hl0
   simp only [aaJ,aaQ] at h
   obtain⟨rfl,rfl⟩:=h
   obtain⟨h1,h2,h3⟩:=same
   refine⟨h1,h2,fun v hv=>?_,fun i hi=>by rw [f.h]; exact hi⟩
   simp only [VR] at hv ⊢
   rcases hv with⟨_,_,_,a,rfl⟩| hv
   ·exact⟨a,0,rfl,aaN _,fun _=>rfl,.inr ⟨trivial,rfl⟩,.inl trivial⟩
   ·exact absurd hid hv.1
  rename_i ll
  rw [aaH] at h
  obtain⟨ob,ho,h⟩:=h
  cases ob with
  | map es=>cases h
  | row t cs=>cases h
  | cells cs=>
  simp only at h
  split at h
  rotate_left
  ·cases h
  rename_i hle
  simp only [aaJ,aaQ] at h
  obtain⟨rfl,rfl⟩:=h
  rw [←f.h] at ho
  have hl:Live c.h id:=⟨f.rel.lt _ _ ho,by simp [ho]⟩
  obtain⟨e,f',Lx⟩:=f.G8 id
  have hb:(⟨c.β,s.h.kill id,c.w,c.base⟩:Cx)=⟨c.β,c.h.kill id,c.w,c.base⟩:=by rw [f.h]
  rw [hb]
  refine⟨e,f',fun v hv=>?_,fun i hi=>?_⟩
  ·simp only [VR] at hv ⊢
   rcases hv with hv | ⟨_,_,a,cap,rfl,h1,h2,h3⟩
   ·exact absurd hv.1 ll
   obtain⟨m,_,_,hc⟩:=f.rel.obj _ _ ho
   refine⟨a,cap,rfl,h1,by simp,.inl h2,?_⟩
   rcases h3 hl with⟨h4,_⟩| h4
   ·exact .inr ⟨_,_,h4,Lx hl,by simp,Cells.move e _ _ _ _ _ (fun i hi=>rfl) ((hc.drop off).take (len*jb))⟩
   ·left
    have hz:len=0:=by omega
    subst hz
    simp
  ·have Dq:=hi.2
   simp only [AHeap.kill,beq_nat] at Dq
   by_cases h:i=id
   ·simp [h] at Dq
   ·simp only [h,decide_false,cond_false] at Dq
    rw [f.h]
    obtain⟨o,Ot⟩:=abk.1 Dq
    have:=f.rel.lt i o (by rw [f.h]; exact Ot)
    rw [f.h] at this
    exact⟨this,Dq⟩
 | _=>cases h
theorem DH:∀{cs:List AV} {c:Cx} {Lo:Nat→Prop} {lam:Nat→Nat} {a:Act} {s:RS} {ys:List AV} {h':AHeap},Fr L0 c Lo lam ds s a→xR s.h cs=some (ys,h')→
  Ext c Lo ⟨c.β,h',c.w,c.base⟩ Lo∧Fr L0 ⟨c.β,h',c.w,c.base⟩ Lo lam ds {s with h:=h'} a∧(∀b o,Cells c (un L0 Lo) cs b o→Cells ⟨c.β,h',c.w,c.base⟩ (un L0 Lo) ys b o)∧∀i,Live h' i→Live c.h i
 | [],c,Lo,lam,a,s,ys,h',f,h=>by
  cases h
  have e:(⟨c.β,s.h,c.w,c.base⟩:Cx)=c:=by rw [←f.h]
  rw [e]
  exact⟨Ext.refl _ _,f,fun _ _ h=>h,fun i hi=>by rw [f.h]; exact hi⟩
 | x::cs,c,Lo,lam,a,s,ys,h',f,h=>by
  simp only [xR,aaH,aaI] at h
  obtain⟨⟨y,h1⟩,hx,⟨zs,h2⟩,hz,he⟩:=h
  simp only [aaQ] at he
  obtain⟨rfl,rfl⟩:=he
  obtain⟨e1,f1,v1,l1⟩:=J7 f hx
  obtain⟨e2,f2,v2,l2⟩:=DH f1 hz
  refine⟨e1.trans e2,f2,fun b o hc=>?_,fun i hi=>l1 i (l2 i hi)⟩
  obtain⟨⟨v,q1,q2,q3⟩,hc⟩:=hc
  exact⟨⟨v,q1,q2,VR.ext e2 _ _ (v1 v q3)⟩,v2 _ _ (Cells.move e1 _ _ _ _ _ (fun i hi=>rfl) hc)⟩
theorem yh {c:Cx}{Lo:Nat→Prop}{lam:Nat→Nat}{a:Act}(f:Fr L0 c Lo lam ds s a){k:Nat}{x y:AV}{h':AHeap}(h:jR k s.h x=some (y,h')) :
  (∀k off,x≠.lp k off)∧(∀k off,y≠.lp k off)∧∃c',c'.w=c.w∧Ext c Lo c' Lo∧Fr L0 c' Lo lam ds {s with h:=h'} a∧∀v,VR c (un L0 Lo) x v→VR c' (un L0 Lo) y v:=by
 cases k with
 | zero=>
  cases x with
  | nils=>
   simp only [jR,aaJ,aaQ] at h
   obtain⟨rfl,rfl⟩:=h
   refine⟨by simp,by simp,c,rfl,Ext.refl _ _,f,fun v hv=>?_⟩
   simp only [VR] at hv ⊢
   exact⟨none,0,hv,aaN _,fun _=>rfl,.inr ⟨trivial,rfl⟩,.inl trivial⟩
  | fz cs m ex=>
   simp only [jR,aaJ,aaQ] at h
   obtain⟨rfl,rfl⟩:=h
   refine⟨by simp,by simp,c,rfl,Ext.refl _ _,f,fun v hv=>?_⟩
   simp only [VR] at hv ⊢
   obtain⟨a,cap,rfl,h1,h2,hs,hc⟩:=hv
   exact⟨a,cap,rfl,h1,by simp,hs,hc.imp id fun ⟨b,o,ha,hr,hex,hc⟩=>⟨b,o,ha,hr,by simp,hc⟩⟩
  | rs id off len jb=>
   simp only [jR] at h
   split at h
   ·rename_i hid
    split at h
    rotate_left
    ·cases h
    rename_i hl0
    simp only [aaJ,aaQ] at h
    obtain⟨rfl,rfl⟩:=h
    refine⟨by simp,by simp,c,rfl,Ext.refl _ _,f,fun v hv=>?_⟩
    simp only [VR] at hv ⊢
    rcases hv with⟨_,_,_,a,rfl⟩| hv
    ·exact⟨a,0,rfl,aaN _,fun _=>rfl,.inr ⟨trivial,rfl⟩,.inl trivial⟩
    ·exact absurd hid hv.1
   rename_i ll
   rw [aaH] at h
   obtain⟨ob,ho,h⟩:=h
   cases ob with
   | map es=>cases h
   | row t cs=>cases h
   | cells cs=>
   simp only at h
   split at h
   rotate_left
   ·cases h
   rename_i hle
   rw [aaI] at h
   obtain⟨⟨fQ,h2⟩,hz,he⟩:=h
   simp only [aaQ] at he
   obtain⟨rfl,rfl⟩:=he
   rw [←f.h] at ho
   have hl:Live c.h id:=⟨f.rel.lt _ _ ho,by simp [ho]⟩
   obtain⟨e,f',Lx⟩:=f.G8 id
   obtain⟨e2,f2,hcs,mE⟩:=DH f' hz
   refine⟨by simp,by simp,⟨c.β,h2,c.w,c.base⟩,rfl,e.trans e2,f2,fun v hv=>?_⟩
   simp only [VR] at hv ⊢
   rcases hv with hv | ⟨_,_,a,cap,rfl,h1,h2,h3⟩
   ·exact absurd hv.1 ll
   obtain⟨m,_,_,hc⟩:=f.rel.obj _ _ ho
   refine⟨a,cap,rfl,h1,by simp,.inl h2,?_⟩
   rcases h3 hl with⟨h4,_⟩| h4
   ·exact .inr ⟨_,_,h4,⟨fun i hi=>(Lx hl).1 i (mE i hi),(Lx hl).2⟩,by simp,hcs _ _ (Cells.move e _ _ _ _ _ (fun i hi=>rfl) ((hc.drop off).take (len*jb)))⟩
   ·left
    have hz0:len=0:=by omega
    subst hz0
    simp [xR] at hz
    exact hz.1
  | _=>simp [jR] at h
 | succ k=>
  have key:(x = .nils∨x = .fz [] 0 true)→y = .rs 0 0 0 (k+1)→h'=s.h→(∀k off,x≠.lp k off)∧(∀k off,y≠.lp k off)∧∃c',c'.w=c.w∧Ext c Lo c' Lo∧Fr L0 c' Lo lam ds {s with h:=h'} a∧∀v,VR c (un L0 Lo) x v→VR c' (un L0 Lo) y v:=by
   rintro hx rfl rfl
   refine⟨by rcases hx with rfl | rfl<;>simp,by simp,c,rfl,Ext.refl _ _,f,fun v hv=>?_⟩
   rcases hx with rfl | rfl
   ·simp only [VR] at hv ⊢
    exact .inl ⟨trivial,trivial,trivial,none,hv⟩
   ·simp only [VR] at hv ⊢
    obtain⟨a,cap,rfl,h1,h2,hs,hc⟩:=hv
    have:=h2 trivial
    subst this
    exact .inl ⟨trivial,trivial,trivial,a,rfl⟩
  unfold jR at h
  simp only at h
  split at h
  ·simp only [aaJ,aaQ] at h
   exact key (.inl rfl) h.1.symm h.2.symm
  ·simp only [aaJ,aaQ] at h
   exact key (.inr rfl) h.1.symm h.2.symm
  ·simp only [aaJ,aaQ] at h
   obtain⟨rfl,rfl⟩:=h
   exact⟨by simp,by simp,c,rfl,Ext.refl _ _,f,fun v hv=>hv⟩
  ·cases h
end
end Go.R
namespace Go.R
open Go
def CallOK (P:Program)(cf:CallF):Prop:=
 ∀f args h r h',cf f args h=some (r,h')→
  (∀(vs:Array Value) (w:World),(callFunc f vs).run P w = .ok (.enter f vs) w)∧
  ∀(L0:Nat→Prop) (c:Cx) (vs:List Value),c.h=h→c.base≤c.w.heap.size→HRel c L0→VRs c L0 args vs→
   Calls P f vs.toArray c.w fun e w'=>∃c' v,e = .returned v∧c'.w=w'∧c'.h=h'∧VR c' L0 r v∧HRel c' L0∧Ext c none0 c' none0
section
variable {P:Program}{L0:Nat→Prop}{c0:Cx}{n:Nat}{ds:List Nat}{o:Oper}{s:RS}
theorem Fr.call {c c':Cx}{Lo:Nat→Prop}{lam:Nat→Nat}{a:Act}(f:Fr L0 c Lo lam ds s a)(hr:HRel c' (un L0 Lo))(e:Ext c none0 c' none0) :
  Ext c Lo c' Lo∧Fr L0 c' Lo lam ds {s with h:=c'.h} a:=by
 have sj:∀b,Lo b→b<c.w.heap.size:=fun b hb=>f.rel.bd b (.inr hb)
 have e':Ext c Lo c' Lo:=
  ⟨e.next,e.live,e.size,fun b h1 _ h3=>e.keep b h1 (fun h=>h.elim) h3,e.exact,e.base,e.JU,fun _ h=>h,fun _ h=>.inl h,e.os,e.tape,e.output⟩
 refine⟨e',rfl,hr,fun t=>(f.slot t).ext e' (fun _ _ _=>⟨rfl,fun h=>h⟩),fun k cs hb=>?_,f.inj,f.tidy,f.defers,fun b hb=>by rw [e.base]; exact f.GN b hb⟩
 have ob:=f.box k cs hb
 exact ob.ext e' (e.keep _ ob.plain.lt (fun h=>h.elim) fun id hl he=>f.rel.out id hl (he ▸ .inr ob.own))
theorem J8 {cf:CallF}(hcf:CallOK P cf)(hb0:c0.base≤c0.w.heap.size)(hd:gV n ds o){fx:Operand}{args:Array Operand}{DG:Array TypeId}(ho:o.op = .call {callee:=.value fx,args:=args,argTypes:=DG}){Ch:FuncId}{cap:List AV}
  (hf:bQ s.ρ fx = .fn Ch cap) (ha:(args.toList.map (bQ s.ρ)).all AV.lu=true) {r:AV} {h':AHeap} (h:cf Ch (args.toList.map (bQ s.ρ)++cap) s.h=some (r,h')) {aH:List Nat} {y:AV} {h2:AHeap} (hy:xS aH o.dst (r,h')=some (y,h2)) :
  jS P L0 c0 n ds o s ({s with h:=h2}.set o.dst y):=by
 rintro a w K Q ⟨hn,c,Lo,lam,rfl,f,e0⟩ hK
 obtain⟨hin,hcall⟩:=hcf _ _ _ _ _ h
 have Sy:=bI f fx
 rw [hf] at Sy
 simp only [SR,VR] at Sy
 obtain⟨cv,X1,OX⟩:=Sy
 have hargs:VRs c (un L0 Lo) (args.toList.map (bQ s.ρ)) (args.toList.map a.eval):=by
  refine oS f _ fun x hx=>uA ?_
  rw [aa1] at ha
  exact ha _ (abf.2 ⟨x,hx,rfl⟩)
 have mh:=VRs.append hargs OX
 unfold Oper.wp
 have:(execOp a.eval o).run P c.w = .ok (.enter Ch (args.map a.eval++cv)) c.w:=by
  simp [execOp,ho,resolve,X1,Deferred.ofValue,invoke,hin]
 rw [this,Oper.upon_enter]
 have hc:=hcall (un L0 Lo) c _ f.h (jO e0 hb0) f.rel mh
 have he:(args.toList.map a.eval++cv.toList).toArray=args.map a.eval++cv:=by
  apply acg; simp
 rw [he] at hc
 refine Calls.mono hc ?_
 rintro e w' ⟨c',v,rfl,rfl,hh,hv,hrel,Mr⟩
 obtain⟨e',f'⟩:=f.call hrel Mr
 rw [hh] at f'
 have fin:y=r→h2=h'→K (a.put o.dst v) c'.w:=by
  rintro rfl rfl
  exact hK _ _ ⟨(gU _ _ _).trans hn,c',Lo,lam,rfl,f'.set (SR.of hv) (fun t ht=>by rw [hn]; exact hd t ht),e0.trans e'⟩
 unfold xS at hy
 cases hm:ON aH o.dst with
 | false=>rw [hm,cond_false] at hy; cases hy; exact fin rfl rfl
 | true=>
  rw [hm,cond_true] at hy
  obtain⟨_,_,c2,hw,e2,f2,Gu⟩:=yh (s:={s with h:=h'}) f' hy
  have R8:=Gu v hv
  refine hK _ _ ⟨(gU _ _ _).trans hn,c2,Lo,lam,hw,f2.set (SR.of R8) (fun t ht=>by rw [hn]; exact hd t ht),(e0.trans e').trans e2⟩
theorem Option.map_some' {α β:Type}{x:Option α}{g:α→β}{y:β}(h:x.map g=some y):∃z,x=some z∧g z=y:=aaI.1 h
theorem w6 {aH:List Nat}{cs:List AV}{s':RS}(h:iZ s aH ds o cs=some s'):cs.all AV.bY=true:=by
 unfold iZ at h
 split at h
 ·assumption
 ·cases h
theorem Ms {cf:CallF}(hcf:CallOK P cf)(hb0:c0.base≤c0.w.heap.size)(hd:gV n ds o){aH:List Nat}{s':RS}(h:xT P cf aH ds s o=some s'):jS P L0 c0 n ds o s s':=by
 have eh:∀{x:Option AV},(x.map fun x=>s.set o.dst x)=some s'→(∀z,x=some z→jS P L0 c0 n ds o s (s.set o.dst z))→jS P L0 c0 n ds o s s':=by
  intro x hx hz
  obtain⟨z,rfl,rfl⟩:=Option.map_some' hx
  exact hz z rfl
 unfold xT B0 at h
 dsimp only at h
 split at h
 ·rename_i x ho; cases h; exact DF hd (.inl ho)
 ·rename_i x ho; cases h; exact DF hd (.inr ho)
 ·rename_i k x y ho
  obtain⟨t,ht,rfl⟩:=Option.map_some' h
  exact J6 hd ho ht
 ·
  rename_i t ho
  rw [aaH] at h
  obtain⟨z,hz,h⟩:=h
  refine wY hb0 hd t h fun a c Lo lam f hn=>?_
  have p4:=w6 h
  obtain⟨v,h1,h2,h3⟩:=Fo (P:=P) (c:=c) hz (J0 p4) (un L0 Lo)
  exact⟨v,by simp [execOp,ho,h1],Dx h2,h3⟩
 ·
  rename_i t x ho
  refine wY hb0 hd t h fun a c Lo lam f hn=>?_
  have p4:(bQ s.ρ x).cells.all AV.bY=true:=w6 h
  obtain⟨h1,h2⟩:=jo p4 ((bI f x).tJ p4)
  exact⟨a.eval x,by simp [execOp,ho,Instr.box,newVar,newRow],h1,h2⟩
 ·rename_i t ps ho
  refine eh h fun z hz=>gv hd fun a c Lo lam f hn=>?_
  obtain⟨z0,hz0,rfl⟩:=aaI.1 hz
  obtain⟨v,hr,hv⟩:=run_build (P:=P) (qe f ps.toList) hz0
  refine⟨v,?_,SR.of (JZ hv)⟩
  have he:ps.map (fun (i,x)=>(i,a.eval x))=(ps.toList.map fun (i,x)=>(i,a.eval x)).toArray:=by
   apply acg; simp
  simp only [execOp,ho,Sem.run_bind]
  rw [he,hr]
  rfl
 ·rename_i t k ps ho
  rw [aaI] at h
  obtain⟨z,hz,rfl⟩:=h
  exact uw hb0 hd ho aH hz
 ·
  rename_i t x ho
  refine eh h fun z hz=>gv hd fun a c Lo lam f hn=>?_
  obtain⟨r,hr,hv⟩:=uj (P:=P) f (t:=t) (bI f x) hz
  exact⟨r,by simp [execOp,ho,hr],SR.of hv⟩
 ·
  rename_i t x y ho
  split at h
  ·cases h
  rename_i sX
  exact GY hb0 hd ho (by simpa using sX) h
 ·rename_i ho; exact eh h fun z hz=>zV hd ho hz
 ·rename_i ho; exact eh h fun z hz=>G7 hd ho hz
 ·rename_i ho; exact eh h fun z hz=>J5 hd ho hz
 ·rename_i ho; exact eh h fun z hz=>Cf hb0 hd ho hz
 ·rename_i Ch first cap ho
  split at h
  ·rename_i hh
   refine eh h fun z hz=>?_
   cases hz
   exact zW hd ho hh.1 hh.2
  ·cases h
 ·rename_i ho; cases h; exact Cc hb0 hd ho
 ·rename_i ho; exact ya hb0 hd ho h
 ·
  rename_i t x lo hi mx ho
  refine eh h fun z hz=>gv hd fun a c Lo lam f hn=>?_
  have hs:∀(q:Option Operand) (y:AV),q.map (bQ s.ρ)=some y→∃v,q.map a.eval=some v∧SR c L0 Lo lam s.bx y v:=by
   intro q y hq
   obtain⟨u,rfl,rfl⟩:=Option.map_some' hq
   exact⟨_,rfl,bI f u⟩
  have LC:∀(q:Option Operand),q.map (bQ s.ρ)=none→q.map a.eval=none:=by
   intro q hq
   simpa using hq
  obtain⟨r,hr,hv⟩:=B9 (P:=P) (bI f x) (hs lo) (LC lo) (hs hi) (LC hi) (hs mx) (LC mx) hz
  exact⟨r,by simp [execOp,ho,hr],SR.of hv⟩
 ·rename_i t x i ho
  refine eh h fun z hz=>gv hd fun a c Lo lam f hn=>?_
  obtain⟨r,hr,hv⟩:=zK (P:=P) (bI f x) hz
  exact⟨r,by simp [execOp,ho,hr],hv⟩
 ·rename_i t x i ho
  refine eh h fun z hz=>gv hd fun a c Lo lam f hn=>?_
  obtain⟨r,hr,hv⟩:=B7 (P:=P) (bI f x) hz
  exact⟨r,by simp [execOp,ho,hr],SR.of hv⟩
 ·rename_i t x i ho
  refine eh h fun z hz=>gv hd fun a c Lo lam f hn=>?_
  obtain⟨r,hr,hv⟩:=zJ (P:=P) (bI f x) (bI f i) hz
  exact⟨r,by simp [execOp,ho,hr],hv⟩
 ·rename_i t x i ho
  refine eh h fun z hz=>gv hd fun a c Lo lam f hn=>?_
  obtain⟨r,hr,hv⟩:=B8 (P:=P) (bI f x) (bI f i) hz
  exact⟨r,by simp [execOp,ho,hr],SR.of hv⟩
 ·rename_i t m k ok ho
  refine eh h fun z hz=>gv hd fun a c Lo lam f hn=>?_
  obtain⟨r,hr,hv⟩:=zP (P:=P) f (bI f m) (bI f k) hz
  exact⟨r,by simp [execOp,ho,hr],SR.of hv⟩
 ·rename_i t m k x ho
  split at h
  ·cases h
  rename_i sX
  obtain⟨h',hh,rfl⟩:=Option.map_some' h
  exact qg hb0 (.inl ho) (by simpa using sX) hh
 ·rename_i t m k x ho
  split at h
  ·cases h
  rename_i sX
  obtain⟨h',hh,rfl⟩:=Option.map_some' h
  exact qg hb0 (.inr ho) (by simpa using sX) hh
 ·rename_i ho; exact eh h fun z hz=>Ci hd ho hz
 ·
  rename_i b args DG ho
  unfold gD at h
  split at h
  ·rename_i t x hts hargs
   have Cj:DG = #[t]:=by apply acg; simpa using hts
   obtain⟨q,hq,rfl⟩:∃q,args = #[q]∧bQ s.ρ q=x:=by
    cases args with | mk l=>
    rcases l with _ | ⟨q,_ | ⟨q2,l⟩⟩<;>simp at hargs
    exact⟨q,rfl,hargs⟩
   subst Cj hq
   refine eh h fun z hz=>gv hd fun a c Lo lam f hn=>?_
   obtain⟨r,hr,hv⟩:=GU (P:=P) f #[t] rfl (bI f q) hz o.type
   exact⟨r,by simp [execOp,ho,resolve,invoke,builtin,hr],SR.of hv⟩
  ·rename_i t t2 x y hts hargs
   have Cj:DG = #[t,t2]:=by apply acg; simpa using hts
   obtain⟨q,q2,hq,rfl,rfl⟩:∃q q2,args = #[q,q2]∧bQ s.ρ q=x∧bQ s.ρ q2=y:=by
    cases args with | mk l=>
    rcases l with _ | ⟨q,_ | ⟨q2,_ | ⟨q3,l⟩⟩⟩<;>simp at hargs
    exact⟨q,q2,rfl,hargs.1,hargs.2⟩
   subst Cj hq
   exact Fp hb0 hd ho h
  ·rename_i t t2 x y hts hargs
   have Cj:DG = #[t,t2]:=by apply acg; simpa using hts
   obtain⟨q,q2,hq,rfl,rfl⟩:∃q q2,args = #[q,q2]∧bQ s.ρ q=x∧bQ s.ρ q2=y:=by
    cases args with | mk l=>
    rcases l with _ | ⟨q,_ | ⟨q2,_ | ⟨q3,l⟩⟩⟩<;>simp at hargs
    exact⟨q,q2,rfl,hargs.1,hargs.2⟩
   subst Cj hq
   obtain⟨⟨z,h'⟩,hh,rfl⟩:=Option.map_some' h
   exact J3 hb0 hd ho hh
  ·rename_i t x hts hargs
   have Cj:DG = #[t]:=by apply acg; simpa using hts
   obtain⟨q,hq,rfl⟩:∃q,args = #[q]∧bQ s.ρ q=x:=by
    cases args with | mk l=>
    rcases l with _ | ⟨q,_ | ⟨q2,l⟩⟩<;>simp at hargs
    exact⟨q,rfl,hargs⟩
   subst Cj hq
   obtain⟨h',hh,rfl⟩:=Option.map_some' h
   exact G4 hb0 hd ho hh
  ·rename_i x xs hargs
   rw [aaH] at h
   obtain⟨v,hv,h⟩:=h
   rw [aaH] at h
   obtain⟨vs,Gv,h⟩:=h
   rw [aaH] at h
   obtain⟨u,hu,h⟩:=h
   exact eh h fun z hz=>w5 hd ho (.inl ⟨rfl,rfl⟩) hargs hv Gv hu hz
  ·rename_i x xs hargs
   rw [aaH] at h
   obtain⟨v,hv,h⟩:=h
   rw [aaH] at h
   obtain⟨vs,Gv,h⟩:=h
   rw [aaH] at h
   obtain⟨u,hu,h⟩:=h
   exact eh h fun z hz=>w5 hd ho (.inr ⟨rfl,rfl⟩) hargs hv Gv hu hz
  ·cases h
 ·
  rename_i fx args DG ho
  split at h
  ·rename_i Ch cap heq
   split at h
   ·rename_i ha
    obtain⟨⟨r,h'⟩,hh,rfl⟩:=Option.map_some' h
    rw [aaH] at hh
    obtain⟨⟨r0,h0⟩,hh,hm⟩:=hh
    exact J8 hcf hb0 hd ho heq ha hh hm
   ·cases h
  ·cases h
 ·cases h
end
end Go.R
namespace Go.R
open Go
section
variable {P:Program}{L0:Nat→Prop}{c0:Cx}{n:Nat}{ds:List Nat}{s:RS}
theorem rC {h:AHeap}:∀{cs:List AV},cQ cs=true→xR h cs=some (cs,h)
 | [],_=>rfl
 | x::cs,hn=>by
  simp only [cQ,aaK] at hn
  simp only [xR,Fh,hn.1,if_true,aaG,rC hn.2,aaO]
theorem zX {h h':AHeap}{x y:AV}(hz:Fh h x=some (y,h')):Steady h h':=by
 unfold Fh at hz
 split at hz
 ·cases hz; exact Steady.refl _
 split at hz
 ·split at hz
  ·split at hz
   ·cases hz; exact Steady.refl _
   ·cases hz
  rw [aaH] at hz
  obtain⟨o,_,hz⟩:=hz
  split at hz
  ·split at hz
   ·cases hz; exact Steady.kill _ _
   ·cases hz
  ·cases hz
 ·cases hz
theorem sw:∀{cs ys:List AV} {h h':AHeap},xR h cs=some (ys,h')→Steady h h'
 | [],ys,h,h',hz=>by cases hz; exact Steady.refl _
 | x::cs,ys,h,h',hz=>by
  simp only [xR,aaH,aaI] at hz
  obtain⟨⟨y,h1⟩,hx,⟨zs,h2⟩,hz,he⟩:=hz
  simp only [aaQ] at he
  obtain⟨rfl,rfl⟩:=he
  exact (zX hx).trans (sw hz)
theorem Inv.xW {a:Act}{w:World}{p:Nat × Option Nat × Nat}{s':RS}(hi:Inv L0 c0 n ds s a w)(h:xW s p=some s'):Inv L0 c0 n ds s' a w:=by
 obtain⟨hn,c,Lo,lam,rfl,f,e⟩:=hi
 unfold Go.R.xW at h
 split at h
 ·rw [aaI] at h
  obtain⟨⟨y,h'⟩,hz,rfl⟩:=h
  obtain⟨hx,hy,c',hw,e',f',hv⟩:=yh f hz
  refine⟨hn,c',Lo,lam,hw,⟨f'.h,f'.rel,fun t=>?_,f'.box,f'.inj,fun t k off ht he=>?_,f'.defers,f'.GN⟩,e.trans e'⟩
  ·simp only [beq_nat]
   by_cases ht:t=p.1
   ·subst ht
    simp only [decide_true,cond_true]
    exact SR.of (hv _ ((f.slot _).vr hx))
   ·simp only [ht,decide_false,cond_false]
    exact f'.slot t
  ·simp only [beq_nat] at he
   by_cases V1:t=p.1
   ·simp only [V1,decide_true,cond_true] at he
    exact absurd he (hy _ _)
   ·simp only [V1,decide_false,cond_false] at he
    exact f'.tidy t k off ht he
 ·rename_i i hp
  split at h
  rotate_left
  ·cases h
  rename_i cs hcs
  simp only [aaH,aaI] at h
  obtain⟨x,hx,⟨y,h'⟩,hz,rfl⟩:=h
  obtain⟨hx1,hy,c',hw,e',f',hv⟩:=yh f hz
  have sr:∀k,(bif abq k p.1 then some (cs.set i y) else s.bx k).isSome=(s.bx k).isSome:=fun k=>by
   simp only [beq_nat]
   by_cases hk:k=p.1
   ·subst hk; simp [hcs]
   ·simp [hk]
  refine⟨hn,c',Lo,lam,hw,⟨f'.h,f'.rel,fun t=>?_,fun k fQ hb=>?_,fun k k' h1 h2=>f'.inj k k' (by rw [←sr]; exact h1) (by rw [←sr]; exact h2),f'.tidy,f'.defers,f'.GN⟩,e.trans e'⟩
  ·have:=f'.slot t
   unfold SR at this ⊢
   split
   ·rename_i k off he
    rw [he] at this
    simp only at this
    exact⟨this.1,by rw [sr]; exact this.2⟩
   ·rename_i x' J4
    split at this
    ·rename_i he; exact absurd he (J4 _ _)
    ·exact this
  ·simp only [beq_nat] at hb
   by_cases hk:k=p.1
   ·subst hk
    simp only [decide_true,cond_true,aaJ] at hb
    subst hb
    have ob:=f.box _ cs hcs
    have Sz:=f'.box _ cs hcs
    refine⟨Sz.own,by rw [abx]; exact Sz.plain,?_⟩
    obtain⟨vs,q1,q2,q3⟩:=ob.cells.vals
    obtain⟨X2,r1,r2,r3⟩:=Sz.cells.vals
    have hlen:vs=X2:=by
     apply abO
     intro j
     by_cases hj:j<cs.length
     ·rw [←q2 j hj,←r2 j hj,hw]
     ·rw [aa2 (by rw [←q1.length]; omega),aa2 (by rw [←r1.length]; omega)]
    subst hlen
    obtain⟨u,hu,hr⟩:=VRs.get q1 i x hx
    have G6:VRs c' (un L0 Lo) (cs.set i y) vs:=by
     have:=VRs.set (hv u hr) i r1
     have Om:vs.set i u=vs:=by
      apply abO
      intro j
      rw [acb]
      by_cases hji:i=j
      ·subst hji
       rw [if_pos rfl,hu]
       have:=(aaM.1 hu).1
       simp [this]
      ·rw [if_neg hji]
     rwa [Om] at this
    exact Cells.of_vals G6 (fun j hj=>by rw [r2 j (by rw [r1.length]; exact hj)]) r3
   ·simp only [hk,decide_false,cond_false] at hb
    exact f'.box k fQ hb
theorem Inv.l8 {a:Act}{w:World}:∀{l:List (Nat × Option Nat × Nat)} {s s':RS},Inv L0 c0 n ds s a w→l8 s l=some s'→Inv L0 c0 n ds s' a w
 | [],s,s',hi,h=>by cases h; exact hi
 | p::ps,s,s',hi,h=>by
  simp only [Go.R.l8,aaH] at h
  obtain⟨s1,h1,h2⟩:=h
  exact Inv.l8 (hi.xW h1) h2
theorem J9 {A:bR}{r:Nat}{s:RS}:(s.nY A r).h=s.h:=by
 unfold RS.nY
 split<;>rfl
theorem n9 {k:Nat}{h h':AHeap}{x y:AV}(hz:jR k h x=some (y,h')):Steady h h':=by
 unfold jR at hz
 split at hz
 ·split at hz
  ·cases hz; exact Steady.refl _
  ·split at hz
   ·split at hz
    ·cases hz; exact Steady.refl _
    ·cases hz
   rw [aaH] at hz
   obtain⟨o,_,hz⟩:=hz
   split at hz
   ·split at hz
    ·rw [aaI] at hz
     obtain⟨⟨fQ,h2⟩,hz,he⟩:=hz
     simp only [aaQ] at he
     obtain⟨rfl,rfl⟩:=he
     exact (Steady.kill _ _).trans (sw hz)
    ·cases hz
   ·cases hz
  ·cases hz; exact Steady.refl _
  ·cases hz
 ·split at hz<;>cases hz<;>exact Steady.refl _
theorem zY {s s':RS}{p:Nat × Option Nat × Nat}(hz:xW s p=some s'):Steady s.h s'.h:=by
 unfold xW at hz
 split at hz
 ·rw [aaI] at hz
  obtain⟨⟨y,h'⟩,hz,rfl⟩:=hz
  exact n9 hz
 ·split at hz
  ·simp only [aaH,aaI] at hz
   obtain⟨x,hx,⟨y,h'⟩,hz,rfl⟩:=hz
   exact n9 hz
  ·cases hz
theorem oa:∀{l:List (Nat × Option Nat × Nat)} {s s':RS},l8 s l=some s'→Steady s.h s'.h
 | [],s,s',h=>by cases h; exact Steady.refl _
 | p::ps,s,s',h=>by
  simp only [l8,aaH] at h
  obtain⟨s1,h1,h2⟩:=h
  exact (zY h1).trans (oa h2)
end
end Go.R
namespace Go.R
open Go
section
variable {P:Program}{L0:Nat→Prop}{c0:Cx}{n:Nat}{ds:List Nat}{o:Oper}{s:RS}
theorem Ft {ops:Array Oper}{c:Cx}{Lo:Nat→Prop}{lam:Nat→Nat}{a:Act}(f:Fr L0 c Lo lam ds s a){b:Bool}(h:iD ops.toList s.ρ o=some b):Region.wanted o (yielded ops a.tmps)=b:=by
 unfold iD at h
 unfold Region.wanted
 split at h
 ·rename_i hg; rw [hg]; cases h; rfl
 ·rename_i j want hg
  rw [hg]
  rw [aaH] at h
  obtain⟨d,hd,h⟩:=h
  have JG:(ops[j]?).bind (·.dst)=some d:=by simpa using hd
  have hs:=f.slot d
  simp only [yielded,JG,aaG]
  rw [Array.getD_eq_getD_getElem?] at hs
  split at h
  ·rename_i b' hb
   cases h
   rw [hb] at hs
   simp only [SR,VR] at hs
   cases hq:a.tmps[d]? with
   | none=>rw [hq] at hs; simp [undef] at hs
   | some v=>
    rw [hq] at hs
    simp only [abG] at hs
    subst hs
    cases b'<;>cases want<;>rfl
  ·rename_i hb
   cases h
   rw [hb] at hs
   simp only [SR,VR] at hs
   obtain⟨vs,hv,_⟩:=hs
   cases hq:a.tmps[d]? with
   | none=>rfl
   | some v=>
    rw [hq] at hv
    simp only [abG] at hv
    subst hv
    rfl
  ·cases h
theorem zZ {cf:CallF}(hcf:CallOK P cf)(hb0:c0.base≤c0.w.heap.size){ops:Array Oper}(Mt:ds=ops.toList.filterMap (·.dst))(hd:gV n ds o){aH:List Nat}{s':RS}(h:nX P cf aH ops.toList s o=some s')
  {a:Act} {w:World} {K:Act→World→Prop} {Q:Exit→Act→World→Prop} (hi:Inv L0 c0 n ds s a w) (hK:∀a' w',Inv L0 c0 n ds s' a' w'→K a' w') :
  if Region.wanted o (yielded ops a.tmps) then o.wp P a w K Q else K (a.put o.dst undef) w:=by
 unfold nX at h
 rw [aaH] at h
 obtain⟨b,hb,h⟩:=h
 have X3:=hi
 obtain⟨hn,c,Lo,lam,rfl,f,e⟩:=hi
 rw [Ft f hb]
 cases b with
 | true=>
  simp only [if_true] at h ⊢
  rw [←Mt] at h
  exact Ms hcf hb0 hd h a c.w K Q X3 hK
 | false=>
  simp only [aaU,if_false,aaJ] at h ⊢
  subst h
  exact hK _ _ ⟨(gU _ _ _).trans hn,c,Lo,lam,rfl,f.set (SR.of (by simp [VR,undef,VRs])) (fun t ht=>by rw [hn]; exact hd t ht),e⟩
def w7 (n:Nat)(ops:List Oper):Bool:=ops.all fun o=>match o.dst with | some t=>Nat.blt t n | none=>true
theorem z6 {ops:List Oper}(h:w7 n ops=true){o:Oper}(ho:o∈ops):gV n (ops.filterMap (·.dst)) o:=by
 intro t ht
 unfold w7 at h
 rw [aa1] at h
 have:=h o ho
 rw [ht] at this
 exact⟨Nat.blt_eq.mp this,List.mem_filterMap.2 ⟨o,ho,ht⟩⟩
theorem DI {cf:CallF}(hcf:CallOK P cf)(hb0:c0.base≤c0.w.heap.size){ops:Array Oper}(Mt:ds=ops.toList.filterMap (·.dst))(JD:w7 n ops.toList=true){aH:List Nat}{Q:Exit→Act→World→Prop}{s':RS}(hQ:∀a' w',Inv L0 c0 n ds s' a' w'→Q .normal a' w') :
  ∀(l:List Oper) (s:RS),(∀o∈l,o∈ops.toList)→sV P cf aH ops.toList s l=some s'→∀a w,Inv L0 c0 n ds s a w→wpList P ops Q l a w
 | [],s,_,h,a,w,hi=>by
  simp only [sV,aaJ] at h
  subst h
  exact wpList_nil (hQ a w hi)
 | o::l,s,hl,h,a,w,hi=>by
  simp only [sV,aaH] at h
  obtain⟨s1,h1,h2⟩:=h
  refine wpList_step fun K hK=>?_
  exact zZ hcf hb0 Mt (by rw [Mt]; exact z6 JD (hl o (by simp))) h1 hi fun a' w' kp=>hK a' w' (DI hcf hb0 Mt JD hQ l s1 (fun o ho=>hl o (by simp [ho])) h2 a' w' kp)
theorem jt {α:Type}(d:α):∀(ks:List Nat) (g:Nat→α) (t:Nat),look d ks (ks.map g) t=if t∈ks then g t else d
 | [],g,t=>rfl
 | k::ks,g,t=>by
  simp only [aa3,look,beq_nat,jt d ks g t,aa6]
  by_cases h:t=k
  ·subst h; simp
  ·simp [h]
theorem Fr.forget {c:Cx}{Lo:Nat→Prop}{lam:Nat→Nat}{a:Act}(f:Fr L0 c Lo lam ds s a){s2:RS}(hh:s2.h=s.h)(hb:∀k cs,s2.bx k=some cs→s.bx k=some cs)
  (hr:∀t,s2.ρ t = .any∨s2.ρ t=s.ρ t∧∀k off,s.ρ t = .lp k off→k=t∧((s.bx k).isSome=true→(s2.bx k).isSome=true)):Fr L0 c Lo lam [] s2 a:=by
 refine⟨f.h.trans hh.symm,f.rel,fun t=>?_,fun k cs h=>f.box k cs (hb k cs h),fun k k' h h'=>f.inj k k' ?_ ?_,fun t k off _ he=>?_,f.defers,f.GN⟩
 ·rcases hr t with h | ⟨h,h2⟩
  ·rw [h]; exact SR.of (by simp [VR])
  ·rw [h]
   have hs:=f.slot t
   cases hx:s.ρ t<;>rw [hx] at hs<;>try exact hs
   rename_i k off
   simp only [SR] at hs ⊢
   exact⟨hs.1,(h2 k off hx).2 hs.2⟩
 ·obtain⟨cs,hcs⟩:=abk.1 h; rw [hb k cs hcs]; rfl
 ·obtain⟨cs,hcs⟩:=abk.1 h'; rw [hb k' cs hcs]; rfl
 ·rcases hr t with h | ⟨h,h2⟩
  ·rw [h] at he; cases he
  ·exact (h2 k off (h ▸ he)).1
theorem Inv.shut {a:Act}{w:World}(A:bR)(h:Inv L0 c0 n ds s a w):Inv L0 c0 n [] ((s.shut A).open A) a w:=by
 obtain⟨hn,c,Lo,lam,rfl,f,e⟩:=h
 refine⟨hn,c,Lo,lam,rfl,f.forget rfl (fun k cs hk=>?_) (fun t=>?_),e⟩
 ·simp only [RS.shut,St.open,jt] at hk
  split at hk
  ·exact hk
  ·cases hk
 ·simp only [RS.shut,St.open,jt]
  split
  ·unfold zG
   cases hx:s.ρ t<;>simp only<;>try (right; exact⟨trivial,fun k off he=>by cases he⟩)
   rename_i k off
   cases hc:(abq k t&&abq off 0&&A.aH.contains k) with
   | false=>left; rfl
   | true=>
    right
    simp only [aaK,beq_nat,decide_eq_true_eq,List.contains_iff_mem] at hc
    refine⟨rfl,fun k' X4 he=>?_⟩
    cases he
    refine⟨hc.1.1,fun hs=>?_⟩
    rw [if_pos hc.2]
    exact hs
  ·left; rfl
theorem Inv.nY {a:Act}{w:World}(A:bR)(r:Nat)(h:Inv L0 c0 n ds s a w):Inv L0 c0 n [] ((s.nY A r).open A) a w:=by
 unfold RS.nY
 split
 ·exact h.shut A
 rename_i dl _
 have h2:=h.shut A
 obtain⟨hn,c,Lo,lam,hw,f,e⟩:=h2
 have OW:∀k,(St.open A {vars:=A.keep.map (fun t=>bif (gH r A.dead).contains t then .any else zG A.aH s.ρ t),Oj:=A.aH.map (fun k=>bif (gH r A.dead).contains k then none else s.bx k),h:=s.h}).bx k=bif (gH r A.dead).contains k then none else (St.open A (s.shut A)).bx k:=by
  intro k
  simp only [RS.shut,St.open,jt]
  cases (gH r A.dead).contains k<;>simp
 refine⟨hn,c,Lo,lam,hw,f.forget rfl (fun k cs hk=>?_) (fun t=>?_),e⟩
 ·rw [OW] at hk
  cases hc:(gH r A.dead).contains k with
  | true=>rw [hc] at hk; cases hk
  | false=>rw [hc] at hk; exact hk
 ·have hv:(St.open A {vars:=A.keep.map (fun t=>bif (gH r A.dead).contains t then .any else zG A.aH s.ρ t),Oj:=A.aH.map (fun k=>bif (gH r A.dead).contains k then none else s.bx k),h:=s.h}).ρ t=bif (gH r A.dead).contains t then .any else (St.open A (s.shut A)).ρ t:=by
   simp only [RS.shut,St.open,jt]
   cases (gH r A.dead).contains t<;>simp
  rw [hv]
  cases hc:(gH r A.dead).contains t with
  | true=>left; rfl
  | false=>
   right
   refine⟨rfl,fun k off he=>?_⟩
   have J2:k=t:=f.tidy t k off (by simp) he
   refine⟨J2,fun hs=>?_⟩
   rw [OW,J2,hc]
   rw [J2] at hs
   exact hs
theorem Inv.wide {a:Act}{w:World}(h:Inv L0 c0 n [] s a w)(ds:List Nat):Inv L0 c0 n ds s a w:=by
 obtain⟨hn,c,Lo,lam,rfl,f,e⟩:=h
 exact⟨hn,c,Lo,lam,rfl,⟨f.h,f.rel,f.slot,f.box,f.inj,fun t k off _ he=>f.tidy t k off (by simp) he,f.defers,f.GN⟩,e⟩
theorem Inv.drew {a:Act}{w:World}(h:Inv L0 c0 n ds s a w):Inv L0 c0 n ds s a {w with drawn:=w.drawn+1}:=by
 obtain⟨hn,c,Lo,lam,rfl,f,e⟩:=h
 obtain⟨e',f'⟩:=f.world (w':={c.w with drawn:=c.w.drawn+1}) (fun b _=>.inl rfl) (fun _ _=>rfl) (fun b _=>rfl) (aaN _) rfl rfl rfl
 exact⟨hn,_,Lo,lam,rfl,f',e.trans e'⟩
def oc (P:Program)(c:Code)(Q:Exit→Act→World→Prop)(a:Act)(w:World):Prop:=
 ∀(b:Frame) (k:List Item) (cs:List Frame),∃e a' w',Q e a' w'∧Arrives P (lone (b.at a (.code c :: .inLoop c::k)) cs w) b k cs e a' w'
theorem oc.step {c:Code}{Q:Exit→Act→World→Prop}{a:Act}{w:World}(h:c.wp P (Exit.then (oc P c Q) Q) a w):oc P c Q a w:=by
 intro b k cs
 obtain⟨e,a₁,w₁,hq,z7⟩:=h b (.inLoop c::k) cs
 cases e with
 | normal=>
  obtain⟨e₂,a₂,w₂,X5,Pb⟩:=hq b k cs
  exact⟨e₂,a₂,w₂,X5,.of_steps (Steps.trans z7 (.one step_inLoop)) Pb⟩
 | exit id=>exact⟨_,a₁,w₁,hq,.pass (x:=.inLoop c) rfl (fun _ _=>.inl (by simp)) z7⟩
 | goto l=>exact⟨_,a₁,w₁,hq,.pass (x:=.inLoop c) rfl (fun _ _=>.inl (by simp)) z7⟩
 | ret=>exact⟨_,a₁,w₁,hq,.pass (x:=.inLoop c) rfl (fun _ _=>.inl (by simp)) z7⟩
 | panic ch=>exact⟨_,a₁,w₁,hq,.pass (x:=.inLoop c) rfl (fun _ _=>.inl (by simp)) z7⟩
 | outgrown=>exact⟨_,a₁,w₁,hq,.pass (x:=.inLoop c) rfl (fun _ _=>.inl (by simp)) z7⟩
theorem oc.loop {c:Code}{Q:Exit→Act→World→Prop}{a:Act}{w:World}(h:oc P c Q a w):(Code.loop c).wp P Q a w:=by
 intro b k cs
 obtain⟨e,a',w',hq,z7⟩:=h b k cs
 exact⟨e,a',w',hq,.of_steps (.one step_loop) z7⟩
def Ex.LD:Ex→Exit
 | .norm=>.normal
 | .exit id=>.exit id
 | .ret=>.ret
def lH (n:Nat):Code→Bool
 | .region _ ops _=>w7 n ops.toList
 | .seq a b=>lH n a&&lH n b
 | .cond _ x y=>lH n x&&lH n y
 | .block _ c=>lH n c
 | .loop c=>lH n c
 | _=>true
def Ck (P:Program)(cf:CallF):Prop:=
 ∀(L0:Nat→Prop) (c0:Cx) (n:Nat) (aH:List Nat) (id:Nat) (ops:Array Oper) (s s':RS),kM P cf aH ops s=some s'→c0.base≤c0.w.heap.size→w7 n ops.toList=true→
  ∀a w Q,Inv L0 c0 n (ops.toList.filterMap (·.dst)) s a w→(∀a' w',Inv L0 c0 n (ops.toList.filterMap (·.dst)) s' a' w'→Q .normal a' w')→(Code.region id ops true).wp P Q a w
theorem kS {cf:CallF}(hcf:CallOK P cf)(Fu:Ck P cf)(hb0:c0.base≤c0.w.heap.size){A:bR}{m:Nat}:∀(c:Code),lH n c=true→∀(st jT:St) (ex:Ex),bM P cf A m c st=some (ex,jT)→
  ∀a w Q,Inv L0 c0 n [] (st.open A) a w→(∀a' w',Inv L0 c0 n [] (jT.open A) a' w'→Q ex.LD a' w')→c.wp P Q a w
 | .skip,_,st,jT,ex,h,a,w,Q,hi,hQ=>by
  simp only [bM,aaJ,aaQ] at h
  obtain⟨rfl,rfl⟩:=h
  exact wp_skip (hQ a w hi)
 | .label _,_,st,jT,ex,h,a,w,Q,hi,hQ=>by
  simp only [bM,aaJ,aaQ] at h
  obtain⟨rfl,rfl⟩:=h
  exact wp_label (hQ a w hi)
 | .ret,_,st,jT,ex,h,a,w,Q,hi,hQ=>by
  simp only [bM,aaJ,aaQ] at h
  obtain⟨rfl,rfl⟩:=h
  exact wp_ret (hQ a w hi)
 | .exit id,_,st,jT,ex,h,a,w,Q,hi,hQ=>by
  simp only [bM,aaJ,aaQ] at h
  obtain⟨rfl,rfl⟩:=h
  exact wp_exit (hQ a w hi)
 | .seq x y,hB,st,jT,ex,h,a,w,Q,hi,hQ=>by
  simp only [lH,aaK] at hB
  simp only [bM,aaH] at h
  obtain⟨⟨LF,Fv⟩,h1,h2⟩:=h
  refine wp_seq (kS hcf Fu hb0 x hB.1 st Fv LF h1 a w _ hi fun a' w' kp=>?_)
  cases LF with
  | norm=>exact kS hcf Fu hb0 y hB.2 Fv jT ex h2 a' w' Q kp hQ
  | exit id=>
   simp only [aaJ,aaQ] at h2
   obtain⟨rfl,rfl⟩:=h2
   exact hQ a' w' kp
  | ret=>
   simp only [aaJ,aaQ] at h2
   obtain⟨rfl,rfl⟩:=h2
   exact hQ a' w' kp
 | .cond k x y,hB,st,jT,ex,h,a,w,Q,hi,hQ=>by
  simp only [lH,aaK] at hB
  simp only [bM,aaH] at h
  obtain⟨t,ht,h⟩:=h
  have hk:a.eval k = .bool t:=by
   obtain⟨hn,c,Lo,lam,rfl,f,e⟩:=hi
   have hk:=bI f k
   unfold ud at ht
   split at ht
   ·rename_i b hb
    cases ht
    rw [hb] at hk
    simpa [SR,VR] using hk
   ·cases ht
  refine wp_cond hk ?_
  cases t with
  | true=>exact kS hcf Fu hb0 x hB.1 st jT ex (by simpa using h) a w Q hi hQ
  | false=>exact kS hcf Fu hb0 y hB.2 st jT ex (by simpa using h) a w Q hi hQ
 | .block id x,hB,st,jT,ex,h,a,w,Q,hi,hQ=>by
  simp only [lH] at hB
  simp only [bM,aaI] at h
  obtain⟨⟨LF,Fv⟩,h1,h2⟩:=h
  refine wp_block (kS hcf Fu hb0 x hB st Fv LF h1 a w _ hi fun a' w' kp=>?_)
  cases LF with
  | norm=>
   simp only [aaQ] at h2
   obtain⟨rfl,rfl⟩:=h2
   exact hQ a' w' kp
  | exit lP=>
   simp only [aaQ] at h2
   obtain⟨rfl,rfl⟩:=h2
   have:=hQ a' w' kp
   simp only [Ex.LD,Exit.inBlock]
   split
   ·rename_i he; rw [if_pos he] at this; exact this
   ·rename_i he; rw [if_neg he] at this; exact this
  | ret=>
   simp only [aaQ] at h2
   obtain⟨rfl,rfl⟩:=h2
   exact hQ a' w' kp
 | .loop x,hB,st,jT,ex,h,a,w,Q,hi,hQ=>by
  simp only [lH] at hB
  simp only [bM] at h
  have key:∀(j:Nat) (st:St),l9 (bM P cf A m x) j st=some (ex,jT)→∀a w,Inv L0 c0 n [] (st.open A) a w→oc P x Q a w:=by
   intro j
   induction j with
   | zero=>intro st h; simp [l9] at h
   | succ j ih=>
    intro st h a w hi
    simp only [l9,aaH] at h
    obtain⟨⟨LF,Fv⟩,h1,h2⟩:=h
    refine oc.step (kS hcf Fu hb0 x hB st Fv LF h1 a w _ hi fun a' w' kp=>?_)
    cases LF with
    | norm=>exact ih Fv h2 a' w' kp
    | exit id=>
     simp only [aaJ,aaQ] at h2
     obtain⟨rfl,rfl⟩:=h2
     exact hQ a' w' kp
    | ret=>
     simp only [aaJ,aaQ] at h2
     obtain⟨rfl,rfl⟩:=h2
     exact hQ a' w' kp
  exact oc.loop (key m st h a w hi)
 | .region id ops draw,hB,st,jT,ex,h,a,w,Q,hi,hQ=>by
  simp only [lH] at hB
  simp only [bM,aaH,aaI,aaQ] at h
  obtain⟨s0,h0,s',h1,s2,h2,rfl,rfl⟩:=h
  replace hi:=hi.l8 h0
  cases draw with
  | true=>
   simp only [if_true] at h1
   exact Fu L0 c0 n A.aH id ops _ s' h1 hb0 hB a w Q (hi.wide _) fun a' w' kp=>hQ a' w' ((kp.l8 h2).nY A id)
  | false=>
   simp only [aaU,if_false] at h1
   exact wp_region_list (DI hcf hb0 rfl hB (fun a' w' kp=>hQ a' w' ((kp.l8 h2).nY A id)) ops.toList _ (fun _ h=>h) h1 a w (hi.wide _))
 | .rangeFunc ..,_,st,jT,ex,h,_,_,_,_,_=>by simp [bM] at h
 | .scope ..,_,st,jT,ex,h,_,_,_,_,_=>by simp [bM] at h
 | .goto ..,_,st,jT,ex,h,_,_,_,_,_=>by simp [bM] at h
 | .refuse ..,_,st,jT,ex,h,_,_,_,_,_=>by simp [bM] at h
theorem yi {c:Cx}{Lo:Nat→Prop}{lam:Nat→Nat}{a:Act}(f:Fr L0 c Lo lam ds s a):∀(rs:List ResultVar) (l:List AV),B4 P s rs=some l→l.all AV.lu=true→
  ∃vs:List Value,(rs.mapM (m:=Sem) fun | .tmp t=>pure (a.tmps.getD t undef) | .cell x t=>do loadVar t (←asAddr (a.tmps.getD x undef))).run P c.w = .ok vs c.w∧VRs c (un L0 Lo) l vs
 | [],l,h,_=>by
  simp only [B4,aaJ] at h
  subst h
  exact⟨[],rfl,trivial⟩
 | .tmp t::rs,l,h,hl=>by
  simp only [B4,aaI] at h
  obtain⟨l',h1,rfl⟩:=h
  simp only [abu,aaK] at hl
  obtain⟨vs,h2,h3⟩:=yi f rs l' h1 hl.2
  refine⟨a.tmps.getD t undef::vs,?_,(f.slot t).vr (uA hl.1),h3⟩
  simp only [List.mapM_cons,Sem.run_bind,Sem.run_pure,Result.andThen_ok,h2]
 | .cell x t::rs,l,h,hl=>by
  simp only [B4,aaH,aaI] at h
  obtain⟨y,hy,l',h1,rfl⟩:=h
  simp only [abu,aaK] at hl
  obtain⟨vs,h2,h3⟩:=yi f rs l' h1 hl.2
  have hx:=f.slot x
  obtain⟨u,hr,hu⟩:=uj (P:=P) f (t:=t) hx hy
  have hp:∃ad,a.tmps.getD x undef = .pointer (some ad):=by
   unfold kL at hy
   cases hq:s.ρ x<;>rw [hq] at hy hx<;>simp only at hy<;>try (cases hy; done)
   ·simp only [SR,VR] at hx; obtain⟨_,ad,h,_⟩:=hx; exact⟨ad,h⟩
   ·simp only [SR] at hx; exact⟨_,hx.1⟩
   ·simp only [SR,VR] at hx; obtain⟨_,_,h,_⟩:=hx; exact⟨_,h⟩
  obtain⟨ad,hp⟩:=hp
  rw [hp] at hr
  have Co:(loadVar t ad).run P c.w = .ok u c.w:=by simpa [Instr.loadAt,Instr.sureAddr] using hr
  refine⟨u::vs,?_,hu,h3⟩
  have ha:(asAddr (a.tmps.getD x undef)).run P c.w = .ok ad c.w:=by rw [hp]; rfl
  simp only [List.mapM_cons,Sem.run_bind,Sem.run_pure,Result.andThen_ok,h2,ha,Co]
theorem iO:un L0 none0=L0:=by funext b; simp [un,none0]
theorem Ext.close {c c':Cx}{kq:Nat→Prop}(e:Ext c none0 c' kq):Ext c none0 c' none0:=
 ⟨e.next,e.live,e.size,e.keep,e.exact,e.base,e.JU,fun _ h=>h,fun _ h=>h.elim,e.os,e.tape,e.output⟩
theorem HRel.lO {c:Cx}{L L':Nat→Prop}(hL:∀b,L' b→L b)(h:HRel c L):HRel c L':=
 ⟨h.lt,fun id o ho=>by
  have:=h.obj id o ho
  cases o with
  | cells cs=>obtain⟨m,h1,h2,h3⟩:=this; exact⟨m,h1,h2,Cells.lO hL _ _ _ h3⟩
  | row t cs=>obtain⟨h0,C,h1,h2,h4,h3⟩:=this; exact⟨h0,C,h1,h2,h4,Cells.lO hL _ _ _ h3⟩
  | map es=>
   obtain⟨mb,clock,h1,h2⟩:=this
   refine⟨mb,clock,h1,?_⟩
   clear h1
   have:∀(es:List (AV × AV)) (ms:List MapEntry),ma c L es ms→ma c L' es ms:=by
    intro es
    induction es with
    | nil=>intro ms h; cases ms with | nil=>trivial | cons m ms=>exact h.elim
    | cons e es ih=>intro ms h; cases ms with
     | nil=>exact h.elim
     | cons m ms=>obtain⟨h1,h2,h3⟩:=h; exact⟨⟨VR.lO hL _ _ h1.1,h1.2⟩,VR.lO hL _ _ h2,ih _ h3⟩
   exact this _ _ h2,h.inj,fun id hl hb=>h.out id hl (hL _ hb),fun b hb=>h.bd b (hL b hb),h.low,h.ver⟩
structure Fit (P:Program):Prop where
 mixed:P.follows .mixedOrders=true
 Pc : ∀ (f : FuncId) fn c, P.funcs[f]? = some fn → fn.body = some c → lH fn.ntmps c = true ∧ fn.name ≠ "runtime.NumGoroutine"
def IntrOK (P:Program)(intr:FuncId→Option (List AV→AHeap→Option (AV × AHeap))):Prop:=
 ∀f g,intr f=some g→(CallOK P fun f' args h=>if f'=f then g args h else none)∧∀args h r h',g args h=some (r,h')→Steady h h'
theorem oe {f : FuncId} {fn : Func} {c : Code} (hf : P.funcs[f]? = some fn) (hc : fn.body = some c) (hn : fn.name ≠ "runtime.NumGoroutine") (vs : Array Value) (w : World) : (callFunc f vs).run P w = .ok (.enter f vs) w := by
 have SA : (fn.name == "runtime.NumGoroutine") = false := by simpa using hn
 simp [callFunc,program,Sem.run,hf,hn,hc]
theorem z8 (hP:Fit P){aS:FuncId→bR}{cf:CallF}(ih:CallOK P cf)(Fu:Ck P cf)(m:Nat):CallOK P (a6 P aS cf m):=by
 intro f args h r h' hc
 unfold a6 at hc
 rw [aaH] at hc
 obtain⟨fn,hf,hc⟩:=hc
 rw [aaH] at hc
 obtain⟨c,hb,hc⟩:=hc
 obtain⟨hB,Pd⟩:=hP.Pc f fn c hf hb
 refine⟨oe hf hb Pd,fun L0 c0 vs hh hb0 hrel hargs=>?_⟩
 split at hc
 rotate_left
 ·cases hc
 rename_i hlen
 rw [aaH] at hc
 obtain⟨⟨ex,st⟩,hex,hc⟩:=hc
 have hl:=hargs.length
 refine calls_of_wp hf hb ?_
 refine kS (L0:=L0) (c0:=c0) (n:=fn.ntmps) ih Fu hb0 c hB _ _ _ hex _ _ _ ?_ ?_
 ·refine⟨by simp; omega,c0,none0,fun _=>0,rfl,⟨hh,by rw [iO]; exact hrel,fun t=>?_,fun k cs hk=>?_,fun k k' hk=>?_,fun t k off _ he=>?_,rfl,fun b hb=>hb.elim⟩,Ext.refl _ _⟩
  ·simp only [St.open,nZ,jt]
   split
   ·by_cases ht:t<args.length
    ·obtain⟨v,hv,hr⟩:=hargs.get t args[t] (by simp [ht])
     have:args.getD t AV.any=args[t]:=by simp [ht]
     rw [this,Array.getD_eq_getD_getElem?,Array.getElem?_append_left (by simp; omega)]
     have Sx:vs.toArray[t]? = some v:=by simpa using hv
     rw [Sx]
     exact SR.of (by rw [iO]; exact hr)
    ·have:args.getD t AV.any = .any:=by simp [aa2 (Nat.not_lt.1 ht)]
     rw [this]
     exact SR.of (by simp [VR])
   ·exact SR.of (by simp [VR])
  ·simp only [St.open,jt] at hk
   split at hk<;>cases hk
  ·simp only [St.open,jt] at hk
   split at hk<;>cases hk
  ·simp only [St.open,nZ,jt] at he
   split at he
   ·by_cases ht:t<args.length
    ·obtain⟨v,hv,hr⟩:=hargs.get t args[t] (by simp [ht])
     have h1:args.getD t AV.any=args[t]:=by simp [ht]
     rw [h1] at he
     rw [he] at hr
     exact hr.elim
    ·have:args.getD t AV.any = .any:=by simp [aa2 (Nat.not_lt.1 ht)]
     rw [this] at he
     cases he
   ·cases he
 ·intro a' w' kp
  have hfin:(aE P (st.open (aS f)) fn.results.toList).map (fun r=>(r,st.h))=some (r,h')→a'.defers=[]∧∃v,(results fn a'.tmps).run P w' = .ok v w'∧(∃c' v',Ending.returned v = .returned v'∧c'.w=w'∧c'.h=h'∧VR c' L0 r v'∧HRel c' L0∧Ext c0 none0 c' none0):=by
   intro hc
   rw [aaI] at hc
   obtain⟨r',Co,he⟩:=hc
   cases he
   obtain⟨hn,c',Lo,lam,rfl,f',e'⟩:=kp
   refine⟨f'.defers,?_⟩
   unfold aE at Co
   rw [aaH] at Co
   obtain⟨l,hl,Co⟩:=Co
   split at Co
   rotate_left
   ·cases Co
   rename_i mh
   obtain⟨us,X6,Dr⟩:=yi f' _ _ hl mh
   have G9:VRs c' L0 l us:=VRs.lO (fun b hb=>.inl hb) _ _ Dr
   have Cd:(results fn a'.tmps).run P c'.w = .ok (if h:us.toArray.size=1 then us.toArray[0] else .tuple us.toArray) c'.w:=by
    unfold results
    rw [←Array.toArray_toList (xs:=fn.results)]
    rw [List.mapM_toArray]
    simp only [Sem.run_bind,Sem.run_map,Result.andThen_ok,Sem.run_pure]
    exact (congrArg (fun z=>(Result.andThen z (fun (a:List Value) w'=>Result.ok a.toArray w')).andThen (fun (a:Array Value) w'=>Result.ok (if h:a.size=1 then a[0] else Value.tuple a) w')) X6).trans rfl
   refine⟨_,Cd,c',_,rfl,rfl,f'.h,?_,HRel.lO (fun b hb=>.inl hb) f'.rel,e'.close⟩
   split at Co
   ·rename_i x
    cases Co
    cases us with
    | nil=>exact G9.elim
    | cons u us=>cases us with
     | nil=>exact G9.1
     | cons u2 us=>exact G9.2.elim
   ·rename_i hne
    cases Co
    have SB:us.length≠1:=by
     intro h1
     rw [←G9.length] at h1
     cases l with
     | nil=>simp at h1
     | cons x l=>cases l with
      | nil=>exact hne x rfl
      | cons y l=>simp at h1
    have:¬us.toArray.size=1:=by simpa using SB
    rw [dif_neg this]
    simp only [VR]
    exact⟨us.toArray,rfl,G9⟩
  cases ex with
  | norm=>exact hfin hc
  | ret=>exact hfin hc
  | exit id=>cases hc
end
end Go.R
