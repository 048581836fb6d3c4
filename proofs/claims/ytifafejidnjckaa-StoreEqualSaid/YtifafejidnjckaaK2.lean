/- Part of the proof: ROps5, ROps6, ROps7, RFrzV, ROpAll, RFrz, RCode. -/
import Derived.Test.YtifafejidnjckaaK1
import Derived.MapKept
import Derived.Laws.CopyRow
import Derived.Laws.BytesArg
import Derived.Laws.IdiomStrings
import Derived.Tactics
set_option linter.unusedVariables false
set_option linter.unusedSimpArgs false
set_option maxRecDepth 100000
open Array renaming getElem?_eq_some_iff → Yk, getElem?_setIfInBounds → YJ, length_toList → YM, getElem?_modify → YO, ext' → Zh
open Bool renaming and_eq_true → XN, false_eq_true → XX, not_eq_true' → YL, not_true → YQ, true_and → Zg
open List renaming getElem?_eq_some_iff → XQ, length_set → XV, all_eq_true → X5, mem_cons → X7, map_cons → X8, getElem?_eq_none → Yc, eq_nil_of_length_eq_zero → Yd, take_of_length_le → Yn, mem_map → Yo, all_cons → YA, ext_getElem? → YS, getElem?_set → Zb
open Nat renaming le_refl → XP, zero_add → Ya, beq → Yp, le_succ → YT, lt_succ_of_lt → YZ, min_eq_left → Y7
open Option renaming bind_some → XJ, bind_eq_some_iff → XK, map_eq_some_iff → XL, map_some → XR, isSome_iff_exists → Yl, getD_some → YH
open Option.some renaming injEq → XM
open Prod.mk renaming injEq → XS
namespace Go.R
open Go
section
variable {P:Program}{L0:Nat→Prop}{c0:Cx}{n:Nat}{ds:List Nat}{o:Oper}{s:RS}
theorem Fr.wi {c:Cx}{Lo:Nat→Prop}{lam:Nat→Nat}{a:Act}(f:Fr L0 c Lo lam ds s a)(hbs:c.base≤c.w.heap.size){id:Nat}{es qP:List (AV × AV)}(ho:c.h.get id=some (.map es)){lh qX:Array MapEntry}{clock oF:Nat}
  (hb:c.w.heap[(c.β id).1]? = some (.map lh clock)) (he:lg c (un L0 Lo) qP qX.toList) :
  Ext c Lo ⟨c.β,s.h.put id (.map qP),{c.w with heap:=c.w.heap.setIfInBounds (c.β id).1 (.map qX oF)},c.base⟩ Lo∧
   Fr L0 ⟨c.β,s.h.put id (.map qP),{c.w with heap:=c.w.heap.setIfInBounds (c.β id).1 (.map qX oF)},c.base⟩ Lo lam ds {s with h:=s.h.put id (.map qP)} a:=by
 have hl:Live c.h id:=⟨f.rel.lt _ _ ho,by simp [ho]⟩
 have hlt:(c.β id).1<c.w.heap.size:=(Yk.1 hb).1
 have hne:∀b,b≠(c.β id).1→({c.w with heap:=c.w.heap.setIfInBounds (c.β id).1 (.map qX oF)}:World).heap[b]? = c.w.heap[b]?:=by
  intro b hb
  simp only [YJ]
  rw [if_neg (Ne.symm hb)]
 rw [←f.h]
 refine f.upd (β':=c.β) (h':=c.h.put id (.map qP)) id (.map qP) (Steady.put _ _ _) (YZ hl.1) (by simp [AHeap.put,beq_nat])
  (fun kP h1=>.inr ⟨by simp [AHeap.put,beq_nat,h1],rfl⟩) (fun _=>⟨hl,rfl⟩) (.inr ⟨id,hl,rfl,.inl rfl⟩) (fun _=>?_)
  (fun b _ h1=>hne b h1) (fun b _ h1=>hne b h1) (by simp) hbs rfl rfl rfl (fun e=>⟨qX,oF,by simp [hlt],he.ext e⟩)
 simp only [Cx.len,World.shape?,hb,YJ,hlt,if_true]
theorem wj {x y:AV}(hs:sameShape x y=true)(hq:fE x y=true):x=y:=by
 cases x<;>cases y<;>simp only [sameShape] at hs<;>try (cases hs; done)
 ·simp only [fE,iC,XN,beq_iff_eq] at hq
  obtain⟨rfl,rfl⟩:=hq
  rfl
 ·rename_i a b
  simp only [fE,iC,beq_iff_eq] at hq
  congr 1
  cases a; cases b
  congr 1
  exact Array.toList_inj.1 hq
 ·rename_i xs ys
  simp only [XN,beq_iff_eq] at hs
  obtain⟨⟨_,hx⟩,hy⟩:=hs
  obtain⟨ns,rfl⟩:=il hx
  obtain⟨ms,rfl⟩:=il hy
  simp only [fE,kJ,decide_eq_true_eq] at hq
  rw [hq]
theorem om:∀ns:List Int,jc (ns.map fun n=>AV.int .i64 n)=some (ns.map fun n=>Value.int .i64 n)
 | []=>rfl
 | n::ns=>by simp [jc,AV.gC,om ns]
theorem Ah {t:TypeId}{k:AV}(h:fV P t k=true):∃u,k.zQ=some u∧Instr.sameBits 10000 u u=true:=by
 unfold fV at h
 have MD:∀cs:List AV,cs.all kG=true→∃u,(AV.agg cs).zQ=some u∧Instr.sameBits 10000 u u=true:=by
  intro cs hcs
  obtain⟨ns,rfl⟩:=il hcs
  refine⟨.agg (ns.map fun n=>Value.int .i64 n).toArray,by simp [AV.zQ,om],?_⟩
  simp only [Instr.sameBits,beq_self_eq_true,Zg,X5]
  intro p hp
  have:∀(l:List Value),(∀v∈l,∃m,v=Value.int .i64 m)→∀p∈l.zip l,Instr.sameBits 9999 p.1 p.2=true:=by
   clear hp p
   intro l hl p hp
   have h1:p.1=p.2∧p.1∈l:=by
    clear hl
    induction l with
    | nil=>cases hp
    | cons v l ih=>
     simp only [List.zip_cons_cons,X7] at hp
     rcases hp with rfl | hp
     ·exact⟨rfl,by simp⟩
     ·obtain⟨h1,h2⟩:=ih hp; exact⟨h1,by simp [h2]⟩
   obtain⟨h1,h2⟩:=h1
   obtain⟨m,hm⟩:=hl _ h2
   rw [←h1,hm]
   simp [Instr.sameBits]
  exact this (ns.map fun n=>Value.int .i64 n) (fun v hv=>by obtain⟨m,_,rfl⟩:=Yo.1 hv; exact⟨m,rfl⟩) p (by simpa using hp)
 split at h
 ·exact⟨_,rfl,by simp [Instr.sameBits]⟩
 ·exact⟨_,rfl,by simp [Instr.sameBits,uV]⟩
 ·simp only [XN] at h; exact MD _ h.1.1.2
 ·simp only [XN] at h; exact MD _ h.1.1.2
 ·cases h
theorem sQ {c:Cx}{L:Nat→Prop}{k v:AV}{kv vv:Value}(hc:k.zQ.isSome=true)(hk:VR c L k kv)(hv:VR c L v vv) :
  ∀(es qP:List (AV × AV)) (ms:List MapEntry) (i:Nat),lg c L es ms→su k v es=some qP→
   ij k es≠none∧(place k es ms i=none∧(∀b,lg c L qP (ms++[{key:=kv,val:=vv,born:=b}]))∨
    ∃j u m,place k es ms i=some (i+j,u)∧ms[j]? = some m∧m.key=kv∧lg c L qP (ms.modify j fun e=>{e with key:=kv,val:=vv}))
 | [],qP,[],i,_,h=>by
  simp only [su,XM] at h
  subst h
  exact⟨by simp [ij],.inl ⟨rfl,fun b=>⟨⟨hk,hc⟩,hv,trivial⟩⟩⟩
 | (k',v')::es,qP,m::ms,i,he,h=>by
  obtain⟨⟨EL,SD⟩,Bi,ur⟩:=he
  simp only [su] at h
  split at h
  rotate_left
  ·cases h
  rename_i hs
  split at h
  ·rename_i hq
   cases h
   have xS:k=k':=wj hs hq
   obtain⟨u,hu⟩:=Yl.1 hc
   refine⟨by simp [ij,hs,hq],.inr ⟨0,m.val,m,by simp [place,hq],rfl,?_,?_⟩⟩
   ·subst xS
    rw [vZ hu hk,vZ hu EL]
   ·exact⟨⟨hk,hc⟩,hv,ur⟩
  ·rename_i hq
   rw [XL] at h
   obtain⟨UM,h1,rfl⟩:=h
   obtain⟨h2,h3⟩:=sQ hc hk hv es UM ms (i+1) ur h1
   refine⟨by simp [ij,hs,hq,h2],?_⟩
   have wk:fE k k'=false:=by simpa using hq
   rcases h3 with⟨h3,h4⟩| ⟨j,u,m',h3,h4,h5,h6⟩
   ·exact .inl ⟨by simp [place,wk,h3],fun b=>⟨⟨EL,SD⟩,Bi,h4 b⟩⟩
   ·exact .inr ⟨j+1,u,m',by simp [place,wk,h3]; omega,by simpa using h4,h5,⟨⟨EL,SD⟩,Bi,h6⟩⟩
 | [],_,_::_,_,h,_=>h.elim
 | _::_,_,[],_,h,_=>h.elim
theorem sR {x:AV}(h:x.kE=true):∀k off,x≠.lp k off:=by rintro k off rfl; simp [AV.kE] at h
theorem uB {c:Cx}{Lo:Nat→Prop}{lam:Nat→Nat}{a:Act}(f:Fr L0 c Lo lam ds s a)(hbs:c.base≤c.w.heap.size){t:TypeId}{m k x:AV}{mv kv xv:Value}(hm:SR c L0 Lo lam s.bx m mv)(hk:SR c L0 Lo lam s.bx k kv)(hx:SR c L0 Lo lam s.bx x xv){h':AHeap}
  (h:hJ P s.h t m k x=some h'):∃c',(Instr.mapUpdate t mv kv xv).run P c.w = .ok () c'.w∧Ext c Lo c' Lo∧Fr L0 c' Lo lam ds {s with h:=h'} a:=by
 unfold hJ at h
 rw [XK] at h
 obtain⟨d,hd,h⟩:=h
 cases d<;>simp only at h<;>try (cases h; done)
 rename_i kt et
 split at h
 ·cases h
 rename_i kb
 obtain⟨uz,hargs⟩:fV P kt k=true∧x.kE=true:=by
  cases h1:fV P kt k<;>cases h2:x.kE<;>simp [h1,h2] at kb ⊢
 have xT:VR c (un L0 Lo) k kv:=hk.vr (by rintro k0 off rfl; simp [fV] at uz)
 have UN:=hx.vr (sR hargs)
 cases m<;>simp only at h<;>try (cases h; done)
 rename_i id
 rw [XK] at h
 obtain⟨ob,ho,h⟩:=h
 cases ob with
 | cells cs=>cases h
 | row t cs=>cases h
 | map es=>
 rw [XL] at h
 obtain⟨qP,hu,rfl⟩:=h
 simp only [SR,VR] at hm
 obtain⟨hi,r,rfl,hr⟩:=hm
 rw [←f.h] at ho
 have hl:Live c.h id:=⟨f.rel.lt _ _ ho,by simp [ho]⟩
 have O7:=hr hl
 subst O7
 obtain⟨lh,clock,h1,h2⟩:=f.rel.obj _ _ ho
 obtain⟨u0,Jf,UO⟩:=Ah uz
 obtain⟨hf,hp⟩:=sQ (by simp [Jf]) xT UN es qP lh.toList 0 h2 hu
 have EM:=uW uz xT c.w h2 hf
 have JO:=oc (P:=P) false 9998 uz xT c.w
 have hget:(getObj (c.β id).1).run P c.w = .ok (.map lh clock) c.w:=MapKept.run_getObj_map h1
 rcases hp with⟨hp,sH⟩| ⟨j,u,m,hp,hj,hmk,sH⟩
 ·obtain⟨e',f'⟩:=f.wi hbs ho h1 (qX:=lh.push {key:=kv,val:=xv,born:=clock}) (oF:=clock+1) (qP:=qP) (by simpa using sH clock)
  refine⟨_,?_,e',f'⟩
  unfold Instr.mapUpdate
  rw [hp] at EM
  simp only [Sem.run_bind,bE hd,Result.andThen_ok,hget,JO,EM]
  exact MapKept.run_setObj_map _ h1
 ·obtain⟨e',f'⟩:=f.wi hbs ho h1 (qX:=lh.modify j fun e=>{e with key:=kv,val:=xv}) (oF:=clock) (qP:=qP) (by simpa using sH)
  refine⟨_,?_,e',f'⟩
  unfold Instr.mapUpdate
  rw [hp,Ya] at EM
  have zI:lh[j]? = some m:=by simpa using hj
  have HQ:(Instr.keyThatStays m.key kv).run P c.w = .ok kv c.w:=by
   rw [hmk]
   unfold Instr.keyThatStays
   rw [vZ Jf xT,UO]
   rfl
  simp only [Sem.run_bind,bE hd,Result.andThen_ok,hget,JO,EM,zI,XR,YH,HQ]
  exact MapKept.run_setObj_map _ h1
theorem ph (hb0:c0.base≤c0.w.heap.size){t:TypeId}{m k x:Operand}(ho:o.op = .mapUpdate t m k x∨o.op = .insert t m k x)(rE:o.dst=none){h':AHeap}
  (h:hJ P s.h t (bP s.ρ m) (bP s.ρ k) (bP s.ρ x)=some h'):jx P L0 c0 n ds o s {s with h:=h'}:=by
 rintro a w K Q ⟨hn,c,Lo,lam,rfl,f,e⟩ hK
 obtain⟨c',hr,e',f'⟩:=uB f (jq e hb0) (bI f m) (bI f k) (bI f x) h
 unfold Oper.wp
 have:(execOp a.eval o).run P c.w = .ok .skip c'.w:=by rcases ho with ho | ho<;>simp [execOp,ho,hr]
 rw [this,Oper.upon_skip]
 have JT:a.put o.dst undef=a:=by rw [rE]; rfl
 rw [JT]
 exact hK _ _ ⟨hn,c',Lo,lam,rfl,f',e.trans e'⟩
theorem EZ (hb0:c0.base≤c0.w.heap.size)(hd:gE n ds o){t:TypeId}{x:Operand}(ho:o.op = .call {callee:=.builtin .clear,args:=#[x],argTypes:=#[t]}){h':AHeap}
  (h:lP P s.h t (bP s.ρ x)=some h'):jx P L0 c0 n ds o s ({s with h:=h'}.set o.dst (.tup [])):=by
 rintro a w K Q ⟨hn,c,Lo,lam,rfl,f,e⟩ hK
 unfold lP at h
 rw [XK] at h
 obtain⟨d,xY,h⟩:=h
 have hx:=bI f x
 have fin:∀c',(Builtin.clear_ #[t] o.type #[a.eval x]).run P c.w = .ok (.tuple #[]) c'.w→Ext c Lo c' Lo→Fr L0 c' Lo lam ds {s with h:=h'} a→o.wp P a c.w K Q:=by
  intro c' hr e' f'
  unfold Oper.wp
  have:(execOp a.eval o).run P c.w = .ok (.value (.tuple #[])) c'.w:=by
   simp [execOp,ho,resolve,invoke,builtin,hr]
  rw [this,Oper.upon_value]
  exact hK _ _ ⟨(gD _ _ _).trans hn,c',Lo,lam,rfl,f'.set (SR.of (by simp [VR,VRs])) (fun t ht=>by rw [hn]; exact hd t ht),e.trans e'⟩
 cases Ds:bP s.ρ x<;>rw [Ds] at h hx<;>simp only at h<;>try (cases h; done)
 ·rename_i id off len iH
  simp only [SR,VR] at hx
  split at h
  ·rename_i hl0
   cases h
   obtain⟨ad,cap,qY⟩:∃ad cap,a.eval x = .slice ad 0 cap:=by
    rcases hx with⟨_,_,_,ad,hx⟩| ⟨_,_,ad,cap,hx,_⟩
    ·exact⟨ad,0,hx⟩
    ·exact⟨ad,cap,by rw [hx,hl0]⟩
   refine fin c ?_ (Ext.refl _ _) f
   cases ad<;>cases d<;>simp [Builtin.clear_,bE xY,qY]
  rename_i hl0
  split at h
  ·cases h
  rename_i kA
  cases d<;>simp only at h<;>try (cases h; done)
  rename_i et
  simp only [XK] at h
  obtain⟨i,hi,z,hz,ob,hob,h⟩:=h
  cases ob with
  | map es=>cases h
  | row t cs=>cases h
  | cells cs=>
  simp only at h
  split at h
  rotate_left
  ·cases h
  rename_i hh
  obtain⟨E0,Ev,hz0,O8,hoff⟩:=hh
  cases h
  rcases hx with hx | ⟨_,hid,ad,cap,hx,hlc,Bj,hlive⟩
  ·exact absurd hx.1 kA
  rw [←f.h] at hob
  have hl:Live c.h id:=⟨f.rel.lt _ _ hob,by simp [hob]⟩
  obtain⟨q,hp,hq,hc⟩:=f.rel.obj _ _ hob
  have ha:ad=some ⟨(c.β id).1,(c.β id).2+off,none⟩:=by
   rcases hlive hl with⟨h1,_⟩| h1
   ·exact h1
   ·exact absurd h1 (by omega)
  subst ha
  obtain⟨zv,EN,Ae⟩:=jV hz c.w
  obtain⟨zH,hz1⟩:=iS O8 (lR (c:=c) (L:=un L0 Lo) Ae)
  have O9:=zH.length
  have Ew:zv.cells.size=i.size:=by rw [←YM,←O9,Ev]
  have hnl:(Builtin.zeroCells zv.cells len).toList.length=len*i.size:=by simp [Builtin.zeroCells,Ew]
  have hv:VRs c (un L0 Lo) (iJ z.cells len) (Builtin.zeroCells zv.cells len).toList:=by
   have:=qf zH len (len*zv.cells.size) (by rw [Ew,Ev]; exact XP _) (by omega)
   rw [Yn (by simp [Ew,Ev])] at this
   exact this
  have hone:∀v∈(Builtin.zeroCells zv.cells len).toList,v.oneCell'=true:=by
   intro v hv
   simp only [Builtin.zeroCells,Array.toList_map,Yo] at hv
   obtain⟨j,hj,rfl⟩:=hv
   have rF:j % zv.cells.size<zv.cells.size:=Nat.mod_lt _ (by omega)
   rw [getElem!_pos zv.cells _ rF]
   exact hz1 _ (by simp)
  have SE:(iJ z.cells len).length=len*i.size:=by rw [iU,Ev]
  have hst:=ka (P:=P) hp.kH (base:=(c.β id).2) (off:=off) (vs:=(Builtin.zeroCells zv.cells len).toList) (by rw [hnl]; rw [E0] at hoff; omega) hone
  obtain⟨q1,q2,q3,q4⟩:=gJ (Builtin.zeroCells zv.cells len).toList (c.β id).1 ((c.β id).2+off) c.w
  have Bk:iE c (c.β id).1 q:=hp
  obtain⟨C,JX,hb,rD⟩:=hp
  obtain⟨C',g1,g2,g3⟩:=fJ (Builtin.zeroCells zv.cells len).toList (c.β id).1 ((c.β id).2+off) c.w C JX (0,0) hb (by rw [hnl]; rw [E0] at hoff; omega)
  obtain⟨e',f'⟩:=f.upd (w':=c.w.setCells (c.β id).1 ((c.β id).2+off) (Builtin.zeroCells zv.cells len).toList) (β':=c.β) (h':=s.h.put id (.cells (dD cs off (iJ z.cells len)))) id (.cells (dD cs off (iJ z.cells len)))
   (by rw [f.h]; exact Steady.put _ _ _) (by rw [←f.h]; exact YZ hl.1) (by simp [AHeap.put,beq_nat]) (fun kP h1=>.inr ⟨by rw [f.h]; simp [AHeap.put,beq_nat,h1],rfl⟩) (fun _=>⟨hl,rfl⟩) (.inr ⟨id,hl,rfl,.inl rfl⟩)
   (fun _=>by simp only [Cx.len,World.shape?,g1,hb,XR,YH,g2])
   (fun b _ hne=>ec _ _ _ _ _ hne) (fun b _ hne=>ec _ _ _ _ _ hne) (by rw [q1]; exact XP _) (jq e hb0) q2 q3 q4
   (fun ee=>⟨q,Bk.setCells (by rw [hnl]; rw [E0] at hoff; omega) _ _ _,by rw [iq]; exact hq,iT Bk.kH hc hv hone (by rw [SE]; rw [E0] at hoff; omega) (by omega) ee rfl⟩)
  refine fin _ ?_ e' f'
  cases len with
  | zero=>exact absurd rfl hl0
  | succ len=>simp [Builtin.clear_,bE xY,hx,EN,hst]
 ·cases h
  simp only [SR,VR] at hx
  refine fin c ?_ (Ext.refl _ _) f
  simp [Builtin.clear_,bE xY,hx]
 ·rename_i id
  rw [XK] at h
  obtain⟨ob,ho,h⟩:=h
  cases ob with
  | cells cs=>cases h
  | row t cs=>cases h
  | map es=>
  cases h
  simp only [SR,VR] at hx
  obtain⟨hi,r,qY,hr⟩:=hx
  rw [←f.h] at ho
  have hl:Live c.h id:=⟨f.rel.lt _ _ ho,by simp [ho]⟩
  have O7:=hr hl
  subst O7
  obtain⟨lh,clock,h1,h2⟩:=f.rel.obj _ _ ho
  obtain⟨e',f'⟩:=f.wi (jq e hb0) ho h1 (qX:=#[]) (oF:=clock) (qP:=[]) trivial
  refine fin _ ?_ e' f'
  have hget:(getObj (c.β id).1).run P c.w = .ok (.map lh clock) c.w:=MapKept.run_getObj_map h1
  have E1:=MapKept.run_setObj_map (P:=P) (.map #[] clock) h1
  simp [Builtin.clear_,bE xY,qY,hget,E1]
end
end Go.R
namespace Go.R
open Go
section
variable {P:Program}{L0:Nat→Prop}{c0:Cx}{n:Nat}{ds:List Nat}{o:Oper}{s:RS}
theorem mZ {w:World}{t t2 ty e:TypeId}{i:TypeInfo}(ht:P.underlying t=some (.slice e))(hi:P.info? e=some i){base:Option Addr}{len cap:Nat}{x:Value}{news:List Value}{m:Nat}(hs:Src P i.size t2 x m news w)(hm:m≤len) :
  (Builtin.copy_ #[t,t2] ty #[.slice base len cap,x]).run P w=match base with | none=>.ok (goInt m) w | some a=>((storeCells a news).run P w).andThen fun _ w'=>.ok (goInt m) w':=by
 have ME:Nat.min m len=m:=Y7 hm
 have hlen:=hs.len w
 have hc:=hs.cells
 have hsz:(sizeOf e).run P w = .ok i.size w:=by simp [sizeOf,typeInfo,hi]
 unfold Builtin.copy_
 cases base with
 | none=>simp [bE ht,hlen,ME,hsz,hc]
 | some a=>simp [bE ht,hlen,ME,hsz,hc,Sem.run_bind]
theorem HR (hb0:c0.base≤c0.w.heap.size)(hd:gE n ds o){t t2:TypeId}{dx sx:Operand}(ho:o.op = .call {callee:=.builtin .copy,args:=#[dx,sx],argTypes:=#[t,t2]}){y:AV}{h':AHeap}
  (h:qQ P s.h t t2 (bP s.ρ dx) (bP s.ρ sx)=some (y,h')):jx P L0 c0 n ds o s ({s with h:=h'}.set o.dst y):=by
 rintro a w K Q ⟨hn,c,Lo,lam,rfl,f,e0⟩ hK
 have hbs:=jq e0 hb0
 unfold qQ at h
 rw [XK] at h
 obtain⟨d,xY,h⟩:=h
 cases d<;>simp only at h<;>try (cases h; done)
 rename_i e
 rw [XK] at h
 obtain⟨i,hi,h⟩:=h
 rw [XK] at h
 obtain⟨⟨new,m⟩,hcs,h⟩:=h
 simp only at h
 split at h
 ·cases h
 rename_i gN
 have gN:iR P t2 (bP s.ρ sx)=true:=by simpa using gN
 have SF:∀st,bP s.ρ sx = .str st→P.underlying t2=some .string:=by
  intro st hst
  rw [hst] at gN
  unfold iR at gN
  simp only at gN
  split at gN
  ·assumption
  ·cases gN
 have sS:(∀st,bP s.ρ sx≠.str st)→∃e',P.underlying t2=some (.slice e'):=by
  intro hne
  unfold iR at gN
  split at gN
  ·rename_i st hst; exact absurd hst (hne st)
  ·split at gN
   ·rename_i e' he; exact⟨e',he⟩
   ·cases gN
 have hk:(∃e',P.underlying t2=some (.slice e'))∨P.underlying t2=some .string:=by
  by_cases hst:∃st,bP s.ρ sx = .str st
  ·obtain⟨st,hst⟩:=hst; exact .inr (SF st hst)
  ·exact .inl (sS fun st Pa=>hst ⟨st,Pa⟩)
 obtain⟨news,hS,hv⟩:=qg f (bI f sx) hk SF sS hcs
 have xE:=bI f dx
 have fin:∀c',(Builtin.copy_ #[t,t2] o.type #[a.eval dx,a.eval sx]).run P c.w = .ok (goInt m) c'.w→Ext c Lo c' Lo→Fr L0 c' Lo lam ds {s with h:=h'} a→y = .int .i64 m→o.wp P a c.w K Q:=by
  intro c' hr e' f' hy
  unfold Oper.wp
  have:(execOp a.eval o).run P c.w = .ok (.value (goInt m)) c'.w:=by
   simp [execOp,ho,resolve,invoke,builtin,hr]
  rw [this,Oper.upon_value]
  exact hK _ _ ⟨(gD _ _ _).trans hn,c',Lo,lam,rfl,f'.set (SR.of (by subst hy; simp [VR,goInt])) (fun t ht=>by rw [hn]; exact hd t ht),e0.trans e'⟩
 cases Ds:bP s.ρ dx<;>rw [Ds] at h xE<;>simp only at h<;>try (cases h; done)
 ·split at h
  rotate_left
  ·cases h
  rename_i sG
  cases h
  simp only [SR,VR] at xE
  obtain⟨ad,xE⟩:∃ad:Option Addr,a.eval dx = .slice ad 0 0:=⟨none,xE⟩
  refine fin c ?_ (Ext.refl _ _) f (by rw [sG]; rfl)
  rw [xE,mZ xY hi hS (by omega)]
  cases ad with
  | none=>rfl
  | some ad=>
   have:news=[]:=Yd (by rw [hS.newsLen,sG]; simp)
   subst this
   rfl
 ·rename_i id off len iH
  split at h
  ·rename_i hid
   split at h
   rotate_left
   ·cases h
   rename_i sG
   cases h
   simp only [SR,VR] at xE
   rcases xE with⟨_,_,_,ad,xE⟩| xE
   rotate_left
   ·exact absurd hid xE.1
   refine fin c ?_ (Ext.refl _ _) f (by rw [sG]; rfl)
   rw [xE,mZ xY hi hS (by omega)]
   cases ad with
   | none=>rfl
   | some ad=>
    have:news=[]:=Yd (by rw [hS.newsLen,sG]; simp)
    subst this
    rfl
  rename_i kA
  rw [XK] at h
  obtain⟨ob,hob,h⟩:=h
  cases ob with
  | map es=>cases h
  | row t cs=>cases h
  | cells cs=>
  simp only at h
  split at h
  rotate_left
  ·cases h
  rename_i hh
  obtain⟨E0,UP,hoff⟩:=hh
  cases h
  simp only [SR,VR] at xE
  rcases xE with xE | ⟨_,hid,ad,cap,xE,hlc,Bj,hlive⟩
  ·exact absurd xE.1 kA
  rw [←f.h] at hob
  have hl:Live c.h id:=⟨f.rel.lt _ _ hob,by simp [hob]⟩
  obtain⟨q,hp,hq,hc⟩:=f.rel.obj _ _ hob
  have hnl:=hS.newsLen
  have hvl:=hv.length
  have hr:=mZ (ty:=o.type) xY hi hS UP (base:=ad) (cap:=cap)
  by_cases ha:ad=some ⟨(c.β id).1,(c.β id).2+off,none⟩
  ·subst ha
   simp only at hr
   have hst:=ka (P:=P) hp.kH (base:=(c.β id).2) (off:=off) (vs:=news) (by omega) hS.one
   rw [hst] at hr
   simp only [Result.andThen_ok] at hr
   obtain⟨q1,q2,q3,q4⟩:=gJ news (c.β id).1 ((c.β id).2+off) c.w
   have Bk:iE c (c.β id).1 q:=hp
   obtain⟨C,JX,hb,rD⟩:=hp
   obtain⟨C',g1,g2,g3⟩:=fJ news (c.β id).1 ((c.β id).2+off) c.w C JX (0,0) hb (by omega)
   obtain⟨e',f'⟩:=f.upd (w':=c.w.setCells (c.β id).1 ((c.β id).2+off) news) (β':=c.β) (h':=s.h.put id (.cells (dD cs off new))) id (.cells (dD cs off new))
    (by rw [f.h]; exact Steady.put _ _ _) (by rw [←f.h]; exact YZ hl.1) (by simp [AHeap.put,beq_nat]) (fun kP h1=>.inr ⟨by rw [f.h]; simp [AHeap.put,beq_nat,h1],rfl⟩) (fun _=>⟨hl,rfl⟩) (.inr ⟨id,hl,rfl,.inl rfl⟩)
    (fun _=>by simp only [Cx.len,World.shape?,g1,hb,XR,YH,g2])
    (fun b _ hne=>ec _ _ _ _ _ hne) (fun b _ hne=>ec _ _ _ _ _ hne) (by rw [q1]; exact XP _) hbs q2 q3 q4
    (fun ee=>⟨q,Bk.setCells (by omega) _ _ _,by rw [iq]; exact hq,iT Bk.kH hc hv hS.one (by omega) (by omega) ee rfl⟩)
   refine fin _ ?_ e' f' rfl
   rw [xE]
   exact hr
  ·have hz:new=[]∧m=0∧news=[]:=by
    rcases hlive hl with⟨h1,_⟩| h1
    ·exact absurd h1 ha
    ·have h0:m=0:=by omega
     have h2:news=[]:=Yd (by rw [hnl,h0]; simp)
     subst h2
     exact⟨Yd (by simpa using hvl),h0,rfl⟩
   obtain⟨rfl,rfl,rfl⟩:=hz
   have og:dD cs off []=cs:=by simp [dD]
   rw [og] at *
   obtain⟨e',f'⟩:=f.upd (w':=c.w) (β':=c.β) (h':=s.h.put id (.cells cs)) id (.cells cs)
    (by rw [f.h]; exact Steady.put _ _ _) (by rw [←f.h]; exact YZ hl.1) (by simp [AHeap.put,beq_nat]) (fun kP h1=>.inr ⟨by rw [f.h]; simp [AHeap.put,beq_nat,h1],rfl⟩) (fun _=>⟨hl,rfl⟩) (.inr ⟨id,hl,rfl,.inl rfl⟩)
    (fun _=>rfl) (fun b _ hne=>rfl) (fun b _ hne=>rfl) (XP _) hbs rfl rfl rfl
    (fun ee=>pd.ext ee ⟨q,hp,hq,hc⟩ rfl)
   refine fin _ ?_ e' f' rfl
   rw [xE,hr]
   cases ad<;>rfl
end
end Go.R
namespace Go.R
open Go
section
variable {P:Program}{L0:Nat→Prop}{c0:Cx}{n:Nat}{ds:List Nat}{o:Oper}{s:RS}
theorem qh {e:TypeId}(h:EG P e=true):P.underlying e=some (.int .u8)∧fF P e=some 1:=by
 unfold EG at h
 simp only [XN,beq_iff_eq] at h
 obtain⟨h1,h2⟩:=h
 refine⟨?_,h2⟩
 split at h1
 ·assumption
 ·cases h1
theorem Bw {c:Cx}{L:Nat→Prop}:∀{cs:List AV} {l:List UInt8} {vs:List Value},Ja cs=some l→VRs c L cs vs→∃xs:List Int,vs=xs.map (Value.int .u8)∧l=xs.map fun n=>UInt8.ofNat n.toNat
 | [],l,[],h,_=>by simp only [Ja,XM] at h; subst h; exact⟨[],rfl,rfl⟩
 | x::cs,l,v::vs,h,hv=>by
  unfold Ja at h
  split at h
  ·rename_i heq; cases heq
  ·rename_i n xs heq
   cases heq
   rw [XL] at h
   obtain⟨l',h1,rfl⟩:=h
   obtain⟨ys,rfl,rfl⟩:=Bw h1 hv.2
   have h2:=hv.1
   simp only [VR] at h2
   subst h2
   exact⟨n::ys,rfl,rfl⟩
  ·cases h
 | [],_,_::_,_,h=>h.elim
 | _::_,_,[],_,h=>h.elim
theorem wo (xs:List Int):strOfNums xs=⟨(xs.map fun n=>UInt8.ofNat n.toNat).toArray⟩:=rfl
theorem xZ {w:World}{src dst e:TypeId}{v:Value}{m:Nat}{xs:List Int}(hs:P.underlying src=some (.slice e))(he:P.underlying e=some (.int .u8))(hd:P.underlying dst=some .string)
  (hS:Src P 1 src v m (xs.map (Value.int .u8)) w) (hv:∃a cap,v = .slice a m cap):(convert src dst v).run P w = .ok (.string (strOfNums xs)) w:=by
 obtain⟨a,cap,rfl⟩:=hv
 have hc:=hS.cells
 have hl:=hS.newsLen
 cases a with
 | none=>
  have:xs=[]:=by
   simp [Builtin.firstCells] at hc
   cases xs with
   | nil=>rfl
   | cons x xs=>simp at hc
  subst this
  exact run_convert_bytes_nil w src e hs he m cap dst hd
 | some a=>
  rw [run_convert_bytes_string w src dst e (some a) m cap hs he hd]
  have h1:(loadCells a m).run P w = .ok (xs.map (Value.int .u8)).toArray w:=by simpa [Builtin.firstCells] using hc
  rw [run_bytesToString w a m cap xs h1,foldl_push_bytes]
  simp [strOfNums,ByteArray.empty,ByteArray.emptyWithCapacity]
  rfl
theorem uC {c:Cx}{Lo:Nat→Prop}{lam:Nat→Nat}{x:AV}{v:Value}{h:AHeap}{size m:Nat}{new:List AV}(hx:SR c L0 Lo lam s.bx x v)(hc:eP h size x=some (new,m))(hne:∀st,x≠.str st):∃a cap,v = .slice a m cap:=by
 unfold eP at hc
 cases x<;>simp only at hc<;>try (cases hc; done)
 ·exact absurd rfl (hne _)
 ·cases hc
  simp only [SR,VR] at hx
  subst hx
  exact⟨none,0,rfl⟩
 ·split at hc
  ·cases hc
   simp only [SR,VR] at hx
   obtain⟨a,cap,rfl,_⟩:=hx
   exact⟨a,cap,rfl⟩
  ·cases hc
 ·split at hc
  ·split at hc
   ·cases hc
    simp only [SR,VR] at hx
    rename_i hid hl0
    rcases hx with⟨_,_,_,a,rfl⟩| ⟨_,_,a,cap,rfl,_⟩
    ·exact⟨a,0,rfl⟩
    ·exact⟨a,cap,by rw [hl0]⟩
   ·cases hc
  rename_i kA
  rw [XK] at hc
  obtain⟨ob,_,hc⟩:=hc
  cases ob with
  | map es=>cases hc
  | row t cs=>cases hc
  | cells cs=>
   simp only at hc
   split at hc
   ·cases hc
    simp only [SR,VR] at hx
    rcases hx with hx | ⟨_,_,a,cap,rfl,_⟩
    ·exact absurd (.inl hx.1) kA
    exact⟨a,cap,rfl⟩
   ·cases hc
theorem bytes_VRs {c:Cx}{L:Nat→Prop}:∀l:List UInt8,VRs c L (l.map fun b=>AV.int .u8 b.toNat) (l.map fun b=>Value.int .u8 b.toNat)
 | []=>trivial
 | b::l=>⟨by simp [VR],bytes_VRs l⟩
theorem wq {w:World}{b o k:Nat}{C:Array Value}{e:TypeId}{fr:Nat × Nat}(hb:w.heap[b]? = some (.cells C e fr))(ho:C.size≤o)(hk:k≠0) :
  (∀b',ik w (w.freeze ⟨b,o,none⟩ k) b')∧(∀b',b'≠b→(w.freeze ⟨b,o,none⟩ k).heap[b']? = w.heap[b']?)∧(w.freeze ⟨b,o,none⟩ k).heap.size=w.heap.size∧(w.freeze ⟨b,o,none⟩ k).os=w.os∧(w.freeze ⟨b,o,none⟩ k).tape=w.tape∧(w.freeze ⟨b,o,none⟩ k).output=w.output:=by
 unfold World.freeze
 rw [if_neg hk]
 have hlt:=(Yk.1 hb).1
 refine⟨fun b'=>?_,fun b' hne=>by simp [YO,Ne.symm hne],by simp,rfl,rfl,rfl⟩
 by_cases hne:b'=b
 ·subst hne
  obtain⟨lo,hi⟩:=fr
  refine .inr ⟨C,e,lo,hi,(if lo==hi then (o,o+k) else (min lo o,max hi (o+k))).1,(if lo==hi then (o,o+k) else (min lo o,max hi (o+k))).2,hb,?_,?_⟩
  ·simp [YO,hb]
  ·intro h
   by_cases Pb:lo=hi
   ·subst Pb; right; simpa using ho
   ·have:(lo==hi)=false:=by simpa using Pb
    right
    simp only [this,XX,if_false]
    rcases h with h | h
    ·exact absurd h Pb
    ·exact Nat.le_min.2 ⟨h,ho⟩
 ·exact .inl (by simp [YO,Ne.symm hne])
theorem Ai (hb0:c0.base≤c0.w.heap.size)(hd:gE n ds o){src dst:TypeId}{x:Operand}(ho:o.op = .convert src dst x){y:AV}(h:mS P s.h src dst (bP s.ρ x)=some y):jx P L0 c0 n ds o s (s.set o.dst y):=by
 have hex:∀(a:Act) (w w':World) v,(convert src dst (a.eval x)).run P w = .ok v w'→(execOp a.eval o).run P w = .ok (.value v) w':=by
  intro a w w' v hr; simp [execOp,ho,hr]
 unfold mS at h
 split at h
 ·rename_i e hs zG
  split at h
  rotate_left
  ·cases h
  rename_i hu
  obtain⟨he,hsz⟩:=qh hu
  rw [XK] at h
  obtain⟨⟨cs,m⟩,hcs,h⟩:=h
  rw [XL] at h
  obtain⟨l,hl,rfl⟩:=h
  by_cases hst:∃st,bP s.ρ x = .str st
  ·
   obtain⟨st,hst⟩:=hst
   refine fW hd fun a c Lo lam f hn=>?_
   have hx:=bI f x
   rw [hst] at hx hcs
   simp only [SR,VR] at hx
   simp only [eP,if_true,XM,XS] at hcs
   obtain⟨rfl,rfl⟩:=hcs
   refine⟨_,hex _ _ _ (.string st) ?_,?_⟩
   ·simp [convert,run_underlying hs,run_underlying zG,hx]
   ·have:∀(l0 l1:List UInt8),Ja (l0.map fun b=>AV.int .u8 b.toNat)=some l1→l1=l0:=by
     intro l0
     induction l0 with
     | nil=>intro l1 h; simp [Ja] at h; exact h
     | cons b l0 ih=>
      intro l1 h
      simp only [X8,Ja,XL] at h
      obtain⟨l2,h2,rfl⟩:=h
      rw [ih l2 h2]
      simp
    rw [this _ _ hl]
    simp [SR,VR]
  ·refine fW hd fun a c Lo lam f hn=>?_
   have hne:∀st,bP s.ρ x≠.str st:=fun st h=>hst ⟨st,h⟩
   have hx:=bI f x
   obtain⟨news,hS,hv⟩:=qg f hx (.inl ⟨e,hs⟩) (fun st h=>absurd h (hne st)) (fun _=>⟨e,hs⟩) hcs
   obtain⟨xs,rfl,rfl⟩:=Bw hl hv
   exact⟨_,hex _ _ _ _ (xZ hs he zG hS (uC hx hcs hne)),by simp [SR,VR,wo]⟩
 ·rename_i e hs zG
  cases Ds:bP s.ρ x<;>rw [Ds] at h<;>simp only at h<;>try (cases h; done)
  rename_i st
  split at h
  rotate_left
  ·cases h
  rename_i hu
  obtain⟨he,hsz⟩:=qh hu
  cases h
  refine sM hb0 hd (fun a c Lo lam f hn hbs=>?_) (by rintro k off h; cases h)
  have hx:=bI f x
  rw [Ds] at hx
  simp only [SR,VR] at hx
  have hr:=run_bytes_of_string c.w src dst e st hs zG he
  rw [←hx] at hr
  refine⟨_,_,hex _ _ _ _ hr,fun b hb=>.inl (alloc_old c.w.drew _ (show b<c.w.heap.size from hb)),fun id hl=>alloc_old c.w.drew _ (show (c.β id).1<c.w.heap.size from f.rel.block hl),fun b hb=>alloc_old c.w.drew _ (show b<c.w.heap.size by omega),by show c.w.heap.size≤(c.w.heap.push _).size; simp,rfl,rfl,rfl,fun e'=>?_⟩
  simp only [VR]
  refine⟨_,_,rfl,grownCap_ge c.w,by simp,.inl rfl,?_⟩
  refine .inr ⟨c.w.heap.size,0,rfl,EX f.rel rfl rfl,by simp,?_⟩
  refine Cells.of_vals (bytes_VRs st.data.toList) (fun i hi=>?_) (fun v hv=>by obtain⟨b,_,rfl⟩:=Yo.1 hv; rfl)
  have jP:i<st.data.size:=by simpa using hi
  have:(World.alloc c.w.drew (.cells (bytesRow st (grownCap c.w st.size 0 e)) e ((bytesRow st (grownCap c.w st.size 0 e)).size,(bytesRow st (grownCap c.w st.size 0 e)).size+1))).heap[c.w.heap.size]? = some (.cells (bytesRow st (grownCap c.w st.size 0 e)) e ((bytesRow st (grownCap c.w st.size 0 e)).size,(bytesRow st (grownCap c.w st.size 0 e)).size+1)):=iK c.w.drew _
  rw [cell_of_block this]
  simp [bytesRow,Array.getElem?_append,jP]
  intro hge
  have:st.size=st.data.size:=rfl
  omega
 ·rename_i e0 e hs zG
  cases Ds:bP s.ρ x<;>rw [Ds] at h<;>try (cases h; done)
  rename_i cs m ex
  cases ex
  ·cases h
  simp only at h
  split at h
  rotate_left
  ·cases h
  rename_i hu
  simp only [XN,beq_iff_eq,decide_eq_true_eq] at hu
  obtain⟨⟨UQ,hu⟩,pj⟩:=hu
  subst UQ
  obtain⟨he,hsz⟩:=qh hu
  cases h
  refine sM hb0 hd (fun a c Lo lam f hn hbs=>?_) (by rintro k off h; cases h)
  have hx:=bI f x
  rw [Ds] at hx
  have HS:=hx.vr (by rintro k off h; cases h)
  simp only [SR,VR] at hx
  obtain⟨ad,cap,qY,h1,h2,_,h3⟩:=hx
  rcases h3 with rfl | ⟨b,off,rfl,Jb,hbb,hc⟩
  ·simp at pj
  have hlt:b<c.w.heap.size:=by
   cases cs with
   | nil=>simp at pj
   | cons x cs=>exact j6 hc
  have og:∃C e' fr,c.w.heap[b]? = some (.cells C e' fr):=by
   cases cs with
   | nil=>simp at pj
   | cons x cs=>
    obtain⟨⟨v,hv,_⟩,_⟩:=hc
    unfold World.cell? at hv
    split at hv
    ·exact⟨_,_,_,by assumption⟩
    ·cases hv
  obtain⟨C,e',fr,hb⟩:=og
  obtain⟨k1,k2,k3,k4,k5,k6⟩:=wq (k:=1) hb (XP C.size) (by decide)
  refine⟨c.w.freeze ⟨b,C.size,none⟩ 1,a.eval x,hex _ _ _ _ ?_,fun b' _=>k1 b',fun id hl=>k2 _ (Jb.1 id hl),fun b' uu=>k2 b' (by have:=hbb trivial; omega),by rw [k3]; exact XP _,k4,k5,k6,fun JX=>VR.ext JX _ _ HS⟩
  rw [qY]
  have Ht:c.w.shape? b=some (e',C.size):=by simp [World.shape?,hb]
  simp [convert,run_underlying zG,run_underlying he,markStringish,Ht]
 ·rw [XK] at h
  obtain⟨v,hv,h⟩:=h
  rw [XK] at h
  obtain⟨r,hr,h⟩:=h
  refine fW hd fun a c Lo lam f hn=>?_
  have hx:=lj hv ((bI f x).vr (lk hv))
  exact⟨r,hex _ _ _ _ (by rw [hx]; exact kI _ hr),SR.of (nL h)⟩
theorem eJ {op:BinOp}{t:TypeId}{x y:Operand}{u v:Value}(h:(∀a b,u≠.agg a∨v≠.agg b)∧u≠.nilIface)(w:World):(eqGuard op t x y u v).run P w = .ok () w:=by
 obtain⟨h1,h2⟩:=h
 unfold eqGuard
 cases op<;>first | rfl | skip
 all_goals
  simp only [YQ,XX,if_false]
  split
  ·exact absurd rfl h2
  ·rename_i a b; rcases h1 a b with h3 | h3<;>exact absurd rfl h3
  ·rfl
theorem Aj {x:AV}{u:Value}(h:x.gC=some u):(∀a,u≠.agg a)∧u≠.nilIface:=by
 unfold AV.gC at h
 split at h<;>first | (cases h; done) | (cases h; exact⟨fun _=>(by simp),(by simp)⟩)
theorem Dw {op:BinOp}{a b:ByteArray}{y:AV}(h:zU op a b=some y)(w:World):∃r,(Op.stringOp op a b).run P w = .ok r w∧∀(c:Cx) (L:Nat→Prop),VR c L y r:=by
 have hl:∀z:ByteArray,z.toList=z.data.toList:=fun z=>ByteArray.toList_eq z
 unfold zU at h
 unfold Op.stringOp
 simp only [hl]
 cases op<;>simp only at h<;>try (cases h; done)
 ·split at h
  rotate_left
  ·cases h
  rename_i hsz
  cases h
  refine⟨.string (a++b),?_,fun c L=>by simp only [VR]⟩
  have h1:¬(((a.size+b.size:Nat):Int) > IntKind.i64.max):=by
   have:IntKind.i64.max=9223372036854775807:=by decide
   rw [this]; omega
  simp only [h1,if_false]
  rfl
 all_goals (cases h; exact⟨_,rfl,fun c L=>by simp only [VR]⟩)
theorem nM {op:BinOp}{p5:Bool}(h:zV op=some p5):(op = .eql∧p5=true)∨(op = .neq∧p5=false):=by
 unfold zV at h
 split at h<;>cases h
 ·exact .inl ⟨rfl,rfl⟩
 ·exact .inr ⟨rfl,rfl⟩
theorem oG {t:TypeId}(ht:∃q,P.underlying t=some (.pointer q)){a:Addr}{op:BinOp}{p5:Bool}(h:zV op=some p5)(w:World) :
  (binOp op t (.pointer (some a)) (.pointer none)).run P w = .ok (.bool (!p5)) w∧(binOp op t (.pointer none) (.pointer (some a))).run P w = .ok (.bool (!p5)) w:=by
 obtain⟨q,hq⟩:=ht
 have e1:(Op.equal t (.pointer (some a)) (.pointer none)).run P w = .ok false w:=by
  unfold Op.equal Op.maxDepth
  unfold Op.equalIn
  simp [bE hq]
 have e2:(Op.equal t (.pointer none) (.pointer (some a))).run P w = .ok false w:=by
  unfold Op.equal Op.maxDepth
  unfold Op.equalIn
  simp [bE hq]
 rcases nM h with⟨rfl,rfl⟩| ⟨rfl,rfl⟩
 ·constructor
  ·show ((do pure (.bool (←Op.equal t (.pointer (some a)) (.pointer none)))):Sem Value).run P w=_
   simp [e1]
  ·show ((do pure (.bool (←Op.equal t (.pointer none) (.pointer (some a))))):Sem Value).run P w=_
   simp [e2]
 ·constructor
  ·show ((do pure (.bool (!(←Op.equal t (.pointer (some a)) (.pointer none))))):Sem Value).run P w=_
   simp [e1]
  ·show ((do pure (.bool (!(←Op.equal t (.pointer none) (.pointer (some a)))))):Sem Value).run P w=_
   simp [e2]
theorem pk {t:TypeId}(ht:∃q,P.underlying t=some (.slice q)){ad:Option Addr}(hs:ad.isSome=true){m cap:Nat}{op:BinOp}{p5:Bool}(h:zV op=some p5)(w:World) :
  (binOp op t (.slice ad m cap) (.slice none 0 0)).run P w = .ok (.bool (!p5)) w:=by
 obtain⟨q,hq⟩:=ht
 obtain⟨a,rfl⟩:=Yl.1 hs
 have e1:(Op.equal t (.slice (some a) m cap) (.slice none 0 0)).run P w = .ok false w:=by
  unfold Op.equal Op.maxDepth
  unfold Op.equalIn
  simp [bE hq]
 rcases nM h with⟨rfl,rfl⟩| ⟨rfl,rfl⟩
 ·show ((do pure (.bool (←Op.equal t (.slice (some a) m cap) (.slice none 0 0)))):Sem Value).run P w=_
  simp [e1]
 ·show ((do pure (.bool (!(←Op.equal t (.slice (some a) m cap) (.slice none 0 0))))):Sem Value).run P w=_
  simp [e1]
theorem E3 (hd:gE n ds o){op:BinOp}{t t2:TypeId}{x y:Operand}(ho:o.op = .binOp op t x y t2){z:AV}(h:mT P op t (bP s.ρ x) (bP s.ρ y)=some z):jx P L0 c0 n ds o s (s.set o.dst z):=by
 refine fW hd fun a c Lo lam f hn=>?_
 have hx:=bI f x
 have hy:=bI f y
 have hex:∀v,(eqGuard op t x y (a.eval x) (a.eval y)).run P c.w = .ok () c.w→(binOp op t (a.eval x) (a.eval y)).run P c.w = .ok v c.w→(execOp a.eval o).run P c.w = .ok (.value v) c.w:=by
  intro v h1 h2; simp [execOp,ho,h1,h2]
 unfold mT at h
 split at h
 ·rename_i p q hp hq
  rw [hp] at hx; rw [hq] at hy
  simp only [SR,VR] at hx hy
  obtain⟨r,hr,hv⟩:=Dw (P:=P) h c.w
  refine⟨r,hex _ (eJ ⟨fun _ _=>.inl (by rw [hx]; simp),by rw [hx]; simp⟩ _) ?_,SR.of (hv _ _)⟩
  rw [hx,hy]
  unfold binOp
  simpa using hr
 ·rename_i p q hp hq
  rw [hp] at hx; rw [hq] at hy
  simp only [SR,VR] at hx hy
  obtain⟨_,ad,qY,_⟩:=hx
  rw [XK] at h
  obtain⟨p5,rG,h⟩:=h
  split at h
  rotate_left
  ·cases h
  rename_i ht
  cases h
  refine⟨.bool (!p5),hex _ (eJ ⟨fun _ _=>.inl (by rw [qY]; simp),by rw [qY]; simp⟩ _) ?_,SR.of (by simp [VR])⟩
  rw [qY,hy]
  exact (oG ⟨_,ht⟩ rG _).1
 ·rename_i p q hp hq
  rw [hp] at hx; rw [hq] at hy
  simp only [SR,VR] at hx hy
  obtain⟨_,ad,Ov,_⟩:=hy
  rw [XK] at h
  obtain⟨p5,rG,h⟩:=h
  split at h
  rotate_left
  ·cases h
  rename_i ht
  cases h
  refine⟨.bool (!p5),hex _ (eJ ⟨fun _ _=>.inl (by rw [hx]; simp),by rw [hx]; simp⟩ _) ?_,SR.of (by simp [VR])⟩
  rw [hx,Ov]
  exact (oG ⟨_,ht⟩ rG _).2
 ·rename_i p q hp hq
  rw [hp] at hx; rw [hq] at hy
  simp only [SR,VR] at hx hy
  obtain⟨b,off,qY,_⟩:=hx
  rw [XK] at h
  obtain⟨p5,rG,h⟩:=h
  split at h
  rotate_left
  ·cases h
  rename_i ht
  cases h
  refine⟨.bool (!p5),hex _ (eJ ⟨fun _ _=>.inl (by rw [qY]; simp),by rw [qY]; simp⟩ _) ?_,SR.of (by simp [VR])⟩
  rw [qY,hy]
  exact (oG ⟨_,ht⟩ rG _).1
 ·rename_i hp hq
  rw [hp] at hx; rw [hq] at hy
  simp only [SR,VR] at hx hy
  obtain⟨ad,cap,qY,_,_,hs,_⟩:=hx
  replace hs:ad.isSome=true:=hs.elim id fun h=>by cases h.1
  rw [XK] at h
  obtain⟨p5,rG,h⟩:=h
  split at h
  rotate_left
  ·cases h
  rename_i ht
  cases h
  refine⟨.bool (!p5),hex _ (eJ ⟨fun _ _=>.inl (by rw [qY]; simp),by rw [qY]; simp⟩ _) ?_,SR.of (by simp [VR])⟩
  rw [qY,hy]
  exact pk ⟨_,ht⟩ hs rG _
 ·rename_i hp hq
  rw [hp] at hx; rw [hq] at hy
  simp only [SR,VR] at hx hy
  rcases hx with⟨hx,_⟩| ⟨_,_,ad,cap,qY,_,hs,_⟩
  ·omega
  rw [XK] at h
  obtain⟨p5,rG,h⟩:=h
  split at h
  rotate_left
  ·cases h
  rename_i ht
  cases h
  refine⟨.bool (!p5),hex _ (eJ ⟨fun _ _=>.inl (by rw [qY]; simp),by rw [qY]; simp⟩ _) ?_,SR.of (by simp [VR])⟩
  rw [qY,hy]
  exact pk ⟨_,ht⟩ hs rG _
 ·rename_i p q hp hq
  rw [hp,hq] at h
  rw [hp] at hx; rw [hq] at hy
  have HS:=hx.vr (by rintro k off h; cases h)
  have Pc:=hy.vr (by rintro k off h; cases h)
  rw [XK] at h
  obtain⟨p5,rG,h⟩:=h
  split at h
  rotate_left
  ·cases h
  rename_i kb
  simp only [XN,YL] at kb
  obtain⟨⟨⟨h1,h2⟩,h3⟩,h4⟩:=kb
  cases h
  have hk:=uU (P:=P) 9998 h1 h3 HS Pc c.w
  simp only [VR] at HS Pc
  obtain⟨vx,qY,_⟩:=HS
  obtain⟨vy,Ov,_⟩:=Pc
  refine⟨.bool (fE (.agg p) (.agg q)==p5),hex _ ?_ ?_,SR.of (by simp only [VR])⟩
  ·rw [qY,Ov]
   rcases nM rG with⟨rfl,rfl⟩| ⟨rfl,rfl⟩<;>simp [eqGuard,h4,program,Sem.run]
  ·rw [qY,Ov] at hk ⊢
   rcases nM rG with⟨rfl,rfl⟩| ⟨rfl,rfl⟩
   ·show ((do pure (.bool (←Op.equal t (.agg vx) (.agg vy)))):Sem Value).run P c.w=_
    have Mp:(Op.equal t (.agg vx) (.agg vy)).run P c.w=_:=hk
    simp [Mp]
   ·show ((do pure (.bool (!(←Op.equal t (.agg vx) (.agg vy))))):Sem Value).run P c.w=_
    have Mp:(Op.equal t (.agg vx) (.agg vy)).run P c.w=_:=hk
    simp [Mp]
 ·rw [XK] at h
  obtain⟨u,hu,h⟩:=h
  rw [XK] at h
  obtain⟨v,hv,h⟩:=h
  rw [XK] at h
  obtain⟨r,hr,h⟩:=h
  have h1:=lj hu (hx.vr (lk hu))
  have h2:=lj hv (hy.vr (lk hv))
  have h3:=Aj hu
  exact⟨r,hex _ (eJ ⟨fun p _=>.inl (by rw [h1]; exact h3.1 p),by rw [h1]; exact h3.2⟩ _) (by rw [h1,h2]; exact kI _ hr),SR.of (nL h)⟩
theorem HT (hd:gE n ds o){op:UnOp}{t:TypeId}{x:Operand}(ho:o.op = .unOp op t x){z:AV}(h:((bP s.ρ x).gC.bind fun a=>(iQ P (Op.unary op a)).bind pa)=some z):jx P L0 c0 n ds o s (s.set o.dst z):=by
 refine fW hd fun a c Lo lam f hn=>?_
 rw [XK] at h
 obtain⟨u,hu,h⟩:=h
 rw [XK] at h
 obtain⟨r,hr,h⟩:=h
 have h1:=lj hu ((bI f x).vr (lk hu))
 refine⟨r,?_,SR.of (nL h)⟩
 have:=kI (P:=P) c.w hr
 rw [←h1] at this
 simp [execOp,ho,this]
theorem Bx (hd:gE n ds o){x:Operand}(ho:o.op = .move x∨o.op = .assign x):jx P L0 c0 n ds o s (s.set o.dst (bP s.ρ x)):=
 fW hd fun a c Lo lam f hn=>⟨a.eval x,by rcases ho with ho | ho<;>simp [execOp,ho],bI f x⟩
theorem HU (hd:gE n ds o){k x y:Operand}(ho:o.op = .pick k x y){t:Bool}(h:sy (bP s.ρ k)=some t):jx P L0 c0 n ds o s (s.set o.dst (if t then bP s.ρ x else bP s.ρ y)):=by
 refine fW hd fun a c Lo lam f hn=>?_
 have hk:=bI f k
 unfold sy at h
 split at h
 ·rename_i b hb
  cases h
  rw [hb] at hk
  simp only [SR,VR] at hk
  refine⟨if t then a.eval x else a.eval y,by simp [execOp,ho,hk,asBool],?_⟩
  cases t
  ·exact bI f y
  ·exact bI f x
 ·cases h
theorem ya (hd:gE n ds o){x:Operand}(ho:o.op = .nilCheck x){z:AV}(h:p9 (bP s.ρ x)=some z):jx P L0 c0 n ds o s (s.set o.dst z):=by
 refine fW hd fun a c Lo lam f hn=>?_
 have hx:=bI f x
 have hp:(∃ad,a.eval x = .pointer (some ad))∧z=bP s.ρ x:=by
  unfold p9 at h
  split at h
  ·rename_i id off heq
   cases h
   rw [heq] at hx
   simp only [SR,VR] at hx
   obtain⟨_,ad,h1,_⟩:=hx
   exact⟨⟨ad,h1⟩,heq.symm⟩
  ·rename_i k off heq
   cases h
   rw [heq] at hx
   simp only [SR] at hx
   exact⟨⟨_,hx.1⟩,heq.symm⟩
  ·rename_i cs off heq
   cases h
   rw [heq] at hx
   simp only [SR,VR] at hx
   obtain⟨b,o',h1,_⟩:=hx
   exact⟨⟨_,h1⟩,heq.symm⟩
  ·cases h
 obtain⟨⟨ad,hp⟩,rfl⟩:=hp
 exact⟨a.eval x,by simp [execOp,ho,hp],hx⟩
theorem nN {c:Cx}{Lo:Nat→Prop}{lam:Nat→Nat}{a:Act}(f:Fr L0 c Lo lam ds s a):∀xs:List Operand,(∀x∈xs,∀k off,bP s.ρ x≠.lp k off)→VRs c (un L0 Lo) (xs.map (bP s.ρ)) (xs.map a.eval)
 | [],_=>trivial
 | x::xs,h=>⟨(bI f x).vr (h x (by simp)),nN f xs fun y hy=>h y (by simp [hy])⟩
theorem Dx {x:AV}(h:x.b4=true):∀k off,x≠.lp k off:=by rintro k off rfl; simp [AV.b4] at h
theorem yb (hd:gE n ds o){Ak:FuncId}{first cap:Array Operand}(ho:o.op = .makeFunc (.func Ak) first cap)(hf:first.isEmpty=true)(hc:(cap.toList.map (bP s.ρ)).all AV.b4=true):jx P L0 c0 n ds o s (s.set o.dst (.fn Ak (cap.toList.map (bP s.ρ)))):=by
 refine fW hd fun a c Lo lam f hn=>?_
 have Pd:first = #[]:=by simpa using hf
 subst Pd
 refine⟨.func (.func Ak) #[] (cap.map a.eval),by simp [execOp,ho,Instr.makeFunc],SR.of ?_⟩
 simp only [VR]
 refine⟨_,rfl,?_⟩
 rw [Array.toList_map]
 refine nN f _ fun x hx=>Dx ?_
 rw [X5] at hc
 exact hc _ (Yo.2 ⟨x,hx,rfl⟩)
theorem Al (hd:gE n ds o){x:Operand}{i:Nat}(ho:o.op = .extract x i){z:AV}(h:sB (bP s.ρ x) i=some z):jx P L0 c0 n ds o s (s.set o.dst z):=by
 refine fW hd fun a c Lo lam f hn=>?_
 have hx:=bI f x
 cases heq:bP s.ρ x<;>rw [heq] at h hx<;>simp only [sB] at h<;>try (cases h; done)
 rename_i vs
 simp only [SR,VR] at hx
 obtain⟨us,qY,Eu⟩:=hx
 obtain⟨v,hv,hr⟩:=Eu.get i z h
 have Pe:us[i]? = some v:=by simpa using hv
 exact⟨v,by simp [execOp,ho,qY,Instr.extract,Pe],SR.of hr⟩
theorem qZ {op:Value→Value→Sem Value}:∀(vs:List Value) (v r:Value) (w:World),lQ P op v vs=some r→(vs.foldlM op v).run P w = .ok r w
 | [],v,r,w,h=>by simp only [lQ,XM] at h; subst h; rfl
 | x::xs,v,r,w,h=>by
  simp only [lQ,XK] at h
  obtain⟨u,h1,h2⟩:=h
  simp only [List.foldlM_cons,Sem.run_bind,kI w h1,Result.andThen_ok]
  exact qZ xs u r w h2
theorem u7 (hd:gE n ds o){b:Builtin}{By:Array TypeId}{args:Array Operand}(ho:o.op = .call {callee:=.builtin b,args:=args,argTypes:=By}){op:Value→Value→Sem Value}(hb:(b = .min∧op=Builtin.min2)∨(b = .max∧op=Builtin.max2))
  {x:AV} {xs:List AV} (he:args.toList.map (bP s.ρ)=x::xs) {v u:Value} {vs:List Value} (hx:x.gC=some v) (hxs:jc xs=some vs) (hf:lQ P op v vs=some u) {z:AV} (hz:pa u=some z):jx P L0 c0 n ds o s (s.set o.dst z):=by
 refine fW hd fun a c Lo lam f hn=>?_
 refine⟨u,?_,SR.of (nL hz)⟩
 have hne:∀q:Operand,∀k off,bP s.ρ q = .lp k off→q∉args.toList:=by
  intro q k off hq hm
  have Hu:AV.lp k off∈x::xs:=by rw [←he,←hq]; exact Yo.2 ⟨q,hm,rfl⟩
  rcases X7.1 Hu with h1 | h1
  ·exact lk hx k off h1.symm
  ·have:∀(ys:List AV) (us:List Value),jc ys=some us→AV.lp k off∉ys:=by
    intro ys
    induction ys with
    | nil=>intro us _ h; cases h
    | cons y ys ih=>
     intro us hu hm
     simp only [jc,XK] at hu
     obtain⟨u1,h2,Xq,h3,_⟩:=hu
     rcases X7.1 hm with h4 | h4
     ·exact lk h2 k off h4.symm
     ·exact ih _ h3 h4
   exact this _ _ hxs h1
 have Bi:=nN f args.toList (fun q hq k off h=>hne q k off h hq)
 rw [he] at Bi
 have lq:args.toList.map a.eval=v::vs:=qd (xs:=x::xs) (us:=v::vs) (by simp [jc,hx,hxs]) Bi
 have hr:=qZ vs v u c.w hf
 have hargs:args.map a.eval=(v::vs).toArray:=by rw [←lq]; apply Zh; simp
 rcases hb with⟨rfl,rfl⟩| ⟨rfl,rfl⟩
 ·simp [execOp,ho,resolve,invoke,builtin,Builtin.min_,hargs,hr]
 ·simp [execOp,ho,resolve,invoke,builtin,Builtin.max_,hargs,hr]
end
end Go.R
namespace Go.R
open Go
section
variable {P:Program}{L0:Nat→Prop}{c0:Cx}{n:Nat}{ds:List Nat}{s:RS}
theorem Fr.E4 {c:Cx}{Lo:Nat→Prop}{lam:Nat→Nat}{a:Act}(f:Fr L0 c Lo lam ds s a)(id:Nat) :
  Ext c Lo ⟨c.β,c.h.kill id,c.w,c.base⟩ Lo∧Fr L0 ⟨c.β,c.h.kill id,c.w,c.base⟩ Lo lam ds {s with h:=s.h.kill id} a∧(Live c.h id→RO ⟨c.β,c.h.kill id,c.w,c.base⟩ (un L0 Lo) (c.β id).1):=by
 have hg:∀i,(c.h.kill id).get i=if i=id then none else c.h.get i:=fun i=>by
  simp only [AHeap.kill,beq_nat]
  by_cases h:i=id<;>simp [h]
 have lJ:∀i,Live (c.h.kill id) i→i≠id∧Live c.h i:=fun i hl=>by
  have h2:=hl.2
  rw [hg] at h2
  by_cases h:i=id
  ·rw [if_pos h] at h2; cases h2
  ·rw [if_neg h] at h2
   obtain⟨o,ho⟩:=Yl.1 h2
   exact⟨h,f.rel.lt _ _ ho,h2⟩
 have e:Ext c Lo ⟨c.β,c.h.kill id,c.w,c.base⟩ Lo:=
  ⟨YT _,fun i hi hl=>⟨(lJ i hl).2,rfl,rfl⟩,XP _,fun _ _ _ _=>.inl rfl,fun _ _=>rfl,rfl,fun i hl=>.inr ⟨i,(lJ i hl).2,rfl⟩,fun _ h=>h,fun _ h=>.inl h,rfl,rfl,rfl⟩
 refine⟨e,⟨by rw [←f.h],⟨fun i o ho=>?_,fun i o ho=>?_,fun i j hi hj he=>?_,fun i hi=>?_,f.rel.bd,fun i hi=>?_,(Steady.kill c.h id).wf f.rel.ver⟩,fun t=>?_,fun k cs hb=>?_,f.inj,f.tidy,f.defers,f.EI⟩,fun hl=>⟨fun i hi he=>?_,f.rel.out id hl⟩⟩
 ·replace ho:(c.h.kill id).get i=some o:=ho
  rw [hg] at ho
  by_cases h:i=id
  ·rw [if_pos h] at ho; cases ho
  ·rw [if_neg h] at ho; exact YZ (f.rel.lt _ _ ho)
 ·replace ho:(c.h.kill id).get i=some o:=ho
  rw [hg] at ho
  by_cases h:i=id
  ·rw [if_pos h] at ho; cases ho
  ·rw [if_neg h] at ho
   exact (f.rel.obj i o ho).ext e rfl
 ·exact f.rel.inj i j (lJ i hi).2 (lJ j hj).2 he
 ·exact f.rel.out i (lJ i hi).2
 ·exact f.rel.low i (lJ i hi).2
 ·exact (f.slot t).ext e (fun _ _ _=>⟨rfl,fun h=>h⟩)
 ·have hb2:=f.box k cs hb
  exact hb2.ext e (.inl rfl)
 ·obtain⟨h1,h2⟩:=lJ i hi
  exact h1 (f.rel.inj i id h2 hl he)
theorem HV {c:Cx}{Lo:Nat→Prop}{lam:Nat→Nat}{a:Act}(f:Fr L0 c Lo lam ds s a){x y:AV}{h':AHeap}(h:Dn s.h x=some (y,h')) :
  Ext c Lo ⟨c.β,h',c.w,c.base⟩ Lo∧Fr L0 ⟨c.β,h',c.w,c.base⟩ Lo lam ds {s with h:=h'} a∧(∀v,VR c (un L0 Lo) x v→VR ⟨c.β,h',c.w,c.base⟩ (un L0 Lo) y v)∧∀i,Live h' i→Live c.h i:=by
 have same:Ext c Lo ⟨c.β,s.h,c.w,c.base⟩ Lo∧Fr L0 ⟨c.β,s.h,c.w,c.base⟩ Lo lam ds {s with h:=s.h} a∧(⟨c.β,s.h,c.w,c.base⟩:Cx)=c:=by
  have e:(⟨c.β,s.h,c.w,c.base⟩:Cx)=c:=by rw [←f.h]
  rw [e]; exact⟨Ext.refl _ _,f,rfl⟩
 unfold Dn at h
 split at h
 ·simp only [XM,XS] at h
  obtain⟨rfl,rfl⟩:=h
  obtain⟨h1,h2,h3⟩:=same
  exact⟨h1,h2,fun v hv=>by rw [h3]; exact hv,fun i hi=>by rw [f.h]; exact hi⟩
 cases x with
 | rs id off len iH=>
  simp only at h
  split at h
  ·rename_i hid
   split at h
   rotate_left
   ·cases h
   rename_i hl0
   simp only [XM,XS] at h
   obtain⟨rfl,rfl⟩:=h
   obtain⟨h1,h2,h3⟩:=same
   refine⟨h1,h2,fun v hv=>?_,fun i hi=>by rw [f.h]; exact hi⟩
   simp only [VR] at hv ⊢
   rcases hv with⟨_,_,_,a,rfl⟩| hv
   ·exact⟨a,0,rfl,XP _,fun _=>rfl,.inr ⟨trivial,rfl⟩,.inl trivial⟩
   ·exact absurd hid hv.1
  rename_i kA
  rw [XK] at h
  obtain⟨ob,ho,h⟩:=h
  cases ob with
  | map es=>cases h
  | row t cs=>cases h
  | cells cs=>
  simp only at h
  split at h
  rotate_left
  ·cases h
  rename_i hle
  simp only [XM,XS] at h
  obtain⟨rfl,rfl⟩:=h
  rw [←f.h] at ho
  have hl:Live c.h id:=⟨f.rel.lt _ _ ho,by simp [ho]⟩
  obtain⟨e,f',Jb⟩:=f.E4 id
  have hb:(⟨c.β,s.h.kill id,c.w,c.base⟩:Cx)=⟨c.β,c.h.kill id,c.w,c.base⟩:=by rw [f.h]
  rw [hb]
  refine⟨e,f',fun v hv=>?_,fun i hi=>?_⟩
  ·simp only [VR] at hv ⊢
   rcases hv with hv | ⟨_,_,a,cap,rfl,h1,h2,h3⟩
   ·exact absurd hv.1 kA
   obtain⟨m,_,_,hc⟩:=f.rel.obj _ _ ho
   refine⟨a,cap,rfl,h1,by simp,.inl h2,?_⟩
   rcases h3 hl with⟨h4,_⟩| h4
   ·exact .inr ⟨_,_,h4,Jb hl,by simp,Cells.move e _ _ _ _ _ (fun i hi=>rfl) ((hc.drop off).take (len*iH))⟩
   ·left
    have hz:len=0:=by omega
    subst hz
    simp
  ·have Bh:=hi.2
   simp only [AHeap.kill,beq_nat] at Bh
   by_cases h:i=id
   ·simp [h] at Bh
   ·simp only [h,decide_false,cond_false] at Bh
    rw [f.h]
    obtain⟨o,LZ⟩:=Yl.1 Bh
    have:=f.rel.lt i o (by rw [f.h]; exact LZ)
    rw [f.h] at this
    exact⟨this,Bh⟩
 | _=>cases h
theorem Bz:∀{cs:List AV} {c:Cx} {Lo:Nat→Prop} {lam:Nat→Nat} {a:Act} {s:RS} {ys:List AV} {h':AHeap},Fr L0 c Lo lam ds s a→vT s.h cs=some (ys,h')→
  Ext c Lo ⟨c.β,h',c.w,c.base⟩ Lo∧Fr L0 ⟨c.β,h',c.w,c.base⟩ Lo lam ds {s with h:=h'} a∧(∀b o,Cells c (un L0 Lo) cs b o→Cells ⟨c.β,h',c.w,c.base⟩ (un L0 Lo) ys b o)∧∀i,Live h' i→Live c.h i
 | [],c,Lo,lam,a,s,ys,h',f,h=>by
  cases h
  have e:(⟨c.β,s.h,c.w,c.base⟩:Cx)=c:=by rw [←f.h]
  rw [e]
  exact⟨Ext.refl _ _,f,fun _ _ h=>h,fun i hi=>by rw [f.h]; exact hi⟩
 | x::cs,c,Lo,lam,a,s,ys,h',f,h=>by
  simp only [vT,XK,XL] at h
  obtain⟨⟨y,h1⟩,hx,⟨zs,h2⟩,hz,he⟩:=h
  simp only [XS] at he
  obtain⟨rfl,rfl⟩:=he
  obtain⟨e1,f1,v1,l1⟩:=HV f hx
  obtain⟨e2,f2,v2,l2⟩:=Bz f1 hz
  refine⟨e1.trans e2,f2,fun b o hc=>?_,fun i hi=>l1 i (l2 i hi)⟩
  obtain⟨⟨v,q1,q2,q3⟩,hc⟩:=hc
  exact⟨⟨v,q1,q2,VR.ext e2 _ _ (v1 v q3)⟩,v2 _ _ (Cells.move e1 _ _ _ _ _ (fun i hi=>rfl) hc)⟩
theorem wu {c:Cx}{Lo:Nat→Prop}{lam:Nat→Nat}{a:Act}(f:Fr L0 c Lo lam ds s a){k:Nat}{x y:AV}{h':AHeap}(h:jw k s.h x=some (y,h')) :
  (∀k off,x≠.lp k off)∧(∀k off,y≠.lp k off)∧∃c',c'.w=c.w∧Ext c Lo c' Lo∧Fr L0 c' Lo lam ds {s with h:=h'} a∧∀v,VR c (un L0 Lo) x v→VR c' (un L0 Lo) y v:=by
 cases k with
 | zero=>
  cases x with
  | nils=>
   simp only [jw,XM,XS] at h
   obtain⟨rfl,rfl⟩:=h
   refine⟨by simp,by simp,c,rfl,Ext.refl _ _,f,fun v hv=>?_⟩
   simp only [VR] at hv ⊢
   exact⟨none,0,hv,XP _,fun _=>rfl,.inr ⟨trivial,rfl⟩,.inl trivial⟩
  | fz cs m ex=>
   simp only [jw,XM,XS] at h
   obtain⟨rfl,rfl⟩:=h
   refine⟨by simp,by simp,c,rfl,Ext.refl _ _,f,fun v hv=>?_⟩
   simp only [VR] at hv ⊢
   obtain⟨a,cap,rfl,h1,h2,hs,hc⟩:=hv
   exact⟨a,cap,rfl,h1,by simp,hs,hc.imp id fun ⟨b,o,ha,hr,hex,hc⟩=>⟨b,o,ha,hr,by simp,hc⟩⟩
  | rs id off len iH=>
   simp only [jw] at h
   split at h
   ·rename_i hid
    split at h
    rotate_left
    ·cases h
    rename_i hl0
    simp only [XM,XS] at h
    obtain⟨rfl,rfl⟩:=h
    refine⟨by simp,by simp,c,rfl,Ext.refl _ _,f,fun v hv=>?_⟩
    simp only [VR] at hv ⊢
    rcases hv with⟨_,_,_,a,rfl⟩| hv
    ·exact⟨a,0,rfl,XP _,fun _=>rfl,.inr ⟨trivial,rfl⟩,.inl trivial⟩
    ·exact absurd hid hv.1
   rename_i kA
   rw [XK] at h
   obtain⟨ob,ho,h⟩:=h
   cases ob with
   | map es=>cases h
   | row t cs=>cases h
   | cells cs=>
   simp only at h
   split at h
   rotate_left
   ·cases h
   rename_i hle
   rw [XL] at h
   obtain⟨⟨fI,h2⟩,hz,he⟩:=h
   simp only [XS] at he
   obtain⟨rfl,rfl⟩:=he
   rw [←f.h] at ho
   have hl:Live c.h id:=⟨f.rel.lt _ _ ho,by simp [ho]⟩
   obtain⟨e,f',Jb⟩:=f.E4 id
   obtain⟨e2,f2,hcs,lJ⟩:=Bz f' hz
   refine⟨by simp,by simp,⟨c.β,h2,c.w,c.base⟩,rfl,e.trans e2,f2,fun v hv=>?_⟩
   simp only [VR] at hv ⊢
   rcases hv with hv | ⟨_,_,a,cap,rfl,h1,h2,h3⟩
   ·exact absurd hv.1 kA
   obtain⟨m,_,_,hc⟩:=f.rel.obj _ _ ho
   refine⟨a,cap,rfl,h1,by simp,.inl h2,?_⟩
   rcases h3 hl with⟨h4,_⟩| h4
   ·exact .inr ⟨_,_,h4,⟨fun i hi=>(Jb hl).1 i (lJ i hi),(Jb hl).2⟩,by simp,hcs _ _ (Cells.move e _ _ _ _ _ (fun i hi=>rfl) ((hc.drop off).take (len*iH)))⟩
   ·left
    have hz0:len=0:=by omega
    subst hz0
    simp [vT] at hz
    exact hz.1
  | _=>simp [jw] at h
 | succ k=>
  have key:(x = .nils∨x = .fz [] 0 true)→y = .rs 0 0 0 (k+1)→h'=s.h→(∀k off,x≠.lp k off)∧(∀k off,y≠.lp k off)∧∃c',c'.w=c.w∧Ext c Lo c' Lo∧Fr L0 c' Lo lam ds {s with h:=h'} a∧∀v,VR c (un L0 Lo) x v→VR c' (un L0 Lo) y v:=by
   rintro hx rfl rfl
   refine⟨by rcases hx with rfl | rfl<;>simp,by simp,c,rfl,Ext.refl _ _,f,fun v hv=>?_⟩
   rcases hx with rfl | rfl
   ·simp only [VR] at hv ⊢
    exact .inl ⟨trivial,trivial,trivial,none,hv⟩
   ·simp only [VR] at hv ⊢
    obtain⟨a,cap,rfl,h1,h2,hs,hc⟩:=hv
    have:=h2 trivial
    subst this
    exact .inl ⟨trivial,trivial,trivial,a,rfl⟩
  unfold jw at h
  simp only at h
  split at h
  ·simp only [XM,XS] at h
   exact key (.inl rfl) h.1.symm h.2.symm
  ·simp only [XM,XS] at h
   exact key (.inr rfl) h.1.symm h.2.symm
  ·simp only [XM,XS] at h
   obtain⟨rfl,rfl⟩:=h
   exact⟨by simp,by simp,c,rfl,Ext.refl _ _,f,fun v hv=>hv⟩
  ·cases h
end
end Go.R
namespace Go.R
open Go
def CallOK (P:Program)(cf:CallF):Prop:=
 ∀f args h r h',cf f args h=some (r,h')→
  (∀(vs:Array Value) (w:World),(callFunc f vs).run P w = .ok (.enter f vs) w)∧
  ∀(L0:Nat→Prop) (c:Cx) (vs:List Value),c.h=h→c.base≤c.w.heap.size→HRel c L0→VRs c L0 args vs→
   Calls P f vs.toArray c.w fun e w'=>∃c' v,e = .returned v∧c'.w=w'∧c'.h=h'∧VR c' L0 r v∧HRel c' L0∧Ext c none0 c' none0
section
variable {P:Program}{L0:Nat→Prop}{c0:Cx}{n:Nat}{ds:List Nat}{o:Oper}{s:RS}
theorem Fr.call {c c':Cx}{Lo:Nat→Prop}{lam:Nat→Nat}{a:Act}(f:Fr L0 c Lo lam ds s a)(hr:HRel c' (un L0 Lo))(e:Ext c none0 c' none0) :
  Ext c Lo c' Lo∧Fr L0 c' Lo lam ds {s with h:=c'.h} a:=by
 have qR:∀b,Lo b→b<c.w.heap.size:=fun b hb=>f.rel.bd b (.inr hb)
 have e':Ext c Lo c' Lo:=
  ⟨e.next,e.live,e.size,fun b h1 _ h3=>e.keep b h1 (fun h=>h.elim) h3,e.exact,e.base,e.HH,fun _ h=>h,fun _ h=>.inl h,e.os,e.tape,e.output⟩
 refine⟨e',rfl,hr,fun t=>(f.slot t).ext e' (fun _ _ _=>⟨rfl,fun h=>h⟩),fun k cs hb=>?_,f.inj,f.tidy,f.defers,fun b hb=>by rw [e.base]; exact f.EI b hb⟩
 have ob:=f.box k cs hb
 exact ob.ext e' (e.keep _ ob.plain.lt (fun h=>h.elim) fun id hl he=>f.rel.out id hl (he ▸ .inr ob.own))
theorem HW {cf:CallF}(hcf:CallOK P cf)(hb0:c0.base≤c0.w.heap.size)(hd:gE n ds o){fx:Operand}{args:Array Operand}{By:Array TypeId}(ho:o.op = .call {callee:=.value fx,args:=args,argTypes:=By}){Ak:FuncId}{cap:List AV}
  (hf:bP s.ρ fx = .fn Ak cap) (ha:(args.toList.map (bP s.ρ)).all AV.kE=true) {r:AV} {h':AHeap} (h:cf Ak (args.toList.map (bP s.ρ)++cap) s.h=some (r,h')) {aI:List Nat} {y:AV} {h2:AHeap} (hy:vU aI o.dst (r,h')=some (y,h2)) :
  jx P L0 c0 n ds o s ({s with h:=h2}.set o.dst y):=by
 rintro a w K Q ⟨hn,c,Lo,lam,rfl,f,e0⟩ hK
 obtain⟨hin,hcall⟩:=hcf _ _ _ _ _ h
 have Pf:=bI f fx
 rw [hf] at Pf
 simp only [SR,VR] at Pf
 obtain⟨cv,UR,Ms⟩:=Pf
 have hargs:VRs c (un L0 Lo) (args.toList.map (bP s.ρ)) (args.toList.map a.eval):=by
  refine nN f _ fun x hx=>sR ?_
  rw [X5] at ha
  exact ha _ (Yo.2 ⟨x,hx,rfl⟩)
 have lq:=VRs.append hargs Ms
 unfold Oper.wp
 have:(execOp a.eval o).run P c.w = .ok (.enter Ak (args.map a.eval++cv)) c.w:=by
  simp [execOp,ho,resolve,UR,Deferred.ofValue,invoke,hin]
 rw [this,Oper.upon_enter]
 have hc:=hcall (un L0 Lo) c _ f.h (jq e0 hb0) f.rel lq
 have he:(args.toList.map a.eval++cv.toList).toArray=args.map a.eval++cv:=by
  apply Zh; simp
 rw [he] at hc
 refine Calls.mono hc ?_
 rintro e w' ⟨c',v,rfl,rfl,hh,hv,hrel,JY⟩
 obtain⟨e',f'⟩:=f.call hrel JY
 rw [hh] at f'
 have fin:y=r→h2=h'→K (a.put o.dst v) c'.w:=by
  rintro rfl rfl
  exact hK _ _ ⟨(gD _ _ _).trans hn,c',Lo,lam,rfl,f'.set (SR.of hv) (fun t ht=>by rw [hn]; exact hd t ht),e0.trans e'⟩
 unfold vU at hy
 cases hm:Mi aI o.dst with
 | false=>rw [hm,cond_false] at hy; cases hy; exact fin rfl rfl
 | true=>
  rw [hm,cond_true] at hy
  obtain⟨_,_,c2,hw,e2,f2,HI⟩:=wu (s:={s with h:=h'}) f' hy
  have On:=HI v hv
  refine hK _ _ ⟨(gD _ _ _).trans hn,c2,Lo,lam,hw,f2.set (SR.of On) (fun t ht=>by rw [hn]; exact hd t ht),(e0.trans e').trans e2⟩
theorem Option.map_some' {α β:Type}{x:Option α}{g:α→β}{y:β}(h:x.map g=some y):∃z,x=some z∧g z=y:=XL.1 h
theorem u9 {aI:List Nat}{cs:List AV}{s':RS}(h:iD s aI ds o cs=some s'):cs.all AV.b4=true:=by
 unfold iD at h
 split at h
 ·assumption
 ·cases h
theorem JZ {cf:CallF}(hcf:CallOK P cf)(hb0:c0.base≤c0.w.heap.size)(hd:gE n ds o){aI:List Nat}{s':RS}(h:vV P cf aI ds s o=some s'):jx P L0 c0 n ds o s s':=by
 have eC:∀{x:Option AV},(x.map fun x=>s.set o.dst x)=some s'→(∀z,x=some z→jx P L0 c0 n ds o s (s.set o.dst z))→jx P L0 c0 n ds o s s':=by
  intro x hx hz
  obtain⟨z,rfl,rfl⟩:=Option.map_some' hx
  exact hz z rfl
 unfold vV zY at h
 dsimp only at h
 split at h
 ·rename_i x ho; cases h; exact Bx hd (.inl ho)
 ·rename_i x ho; cases h; exact Bx hd (.inr ho)
 ·rename_i k x y ho
  obtain⟨t,ht,rfl⟩:=Option.map_some' h
  exact HU hd ho ht
 ·
  rename_i t ho
  rw [XK] at h
  obtain⟨z,hz,h⟩:=h
  refine uX hb0 hd t h fun a c Lo lam f hn=>?_
  have oX:=u9 h
  obtain⟨v,h1,h2,h3⟩:=Du (P:=P) (c:=c) hz (HO oX) (un L0 Lo)
  exact⟨v,by simp [execOp,ho,h1],Bo h2,h3⟩
 ·
  rename_i t x ho
  refine uX hb0 hd t h fun a c Lo lam f hn=>?_
  have oX:(bP s.ρ x).cells.all AV.b4=true:=u9 h
  obtain⟨h1,h2⟩:=iS oX ((bI f x).sa oX)
  exact⟨a.eval x,by simp [execOp,ho,Instr.box,newVar,newRow],h1,h2⟩
 ·rename_i t ps ho
  refine eC h fun z hz=>fW hd fun a c Lo lam f hn=>?_
  obtain⟨z0,hz0,rfl⟩:=XL.1 hz
  obtain⟨v,hr,hv⟩:=run_build (P:=P) (pf f ps.toList) hz0
  refine⟨v,?_,SR.of (HN hv)⟩
  have he:ps.map (fun (i,x)=>(i,a.eval x))=(ps.toList.map fun (i,x)=>(i,a.eval x)).toArray:=by
   apply Zh; simp
  simp only [execOp,ho,Sem.run_bind]
  rw [he,hr]
  rfl
 ·rename_i t k ps ho
  rw [XL] at h
  obtain⟨z,hz,rfl⟩:=h
  exact sN hb0 hd ho aI hz
 ·
  rename_i t x ho
  refine eC h fun z hz=>fW hd fun a c Lo lam f hn=>?_
  obtain⟨r,hr,hv⟩:=sF (P:=P) f (t:=t) (bI f x) hz
  exact⟨r,by simp [execOp,ho,hr],SR.of hv⟩
 ·
  rename_i t x y ho
  split at h
  ·cases h
  rename_i rE
  exact ET hb0 hd ho (by simpa using rE) h
 ·rename_i ho; exact eC h fun z hz=>ya hd ho hz
 ·rename_i ho; exact eC h fun z hz=>E3 hd ho hz
 ·rename_i ho; exact eC h fun z hz=>HT hd ho hz
 ·rename_i ho; exact eC h fun z hz=>Ai hb0 hd ho hz
 ·rename_i Ak first cap ho
  split at h
  ·rename_i hh
   refine eC h fun z hz=>?_
   cases hz
   exact yb hd ho hh.1 hh.2
  ·cases h
 ·rename_i ho; cases h; exact Af hb0 hd ho
 ·rename_i ho; exact we hb0 hd ho h
 ·
  rename_i t x lo hi mx ho
  refine eC h fun z hz=>fW hd fun a c Lo lam f hn=>?_
  have hs:∀(q:Option Operand) (y:AV),q.map (bP s.ρ)=some y→∃v,q.map a.eval=some v∧SR c L0 Lo lam s.bx y v:=by
   intro q y hq
   obtain⟨u,rfl,rfl⟩:=Option.map_some' hq
   exact⟨_,rfl,bI f u⟩
  have Jg:∀(q:Option Operand),q.map (bP s.ρ)=none→q.map a.eval=none:=by
   intro q hq
   simpa using hq
  obtain⟨r,hr,hv⟩:=Ac (P:=P) (bI f x) (hs lo) (Jg lo) (hs hi) (Jg hi) (hs mx) (Jg mx) hz
  exact⟨r,by simp [execOp,ho,hr],SR.of hv⟩
 ·rename_i t x i ho
  refine eC h fun z hz=>fW hd fun a c Lo lam f hn=>?_
  obtain⟨r,hr,hv⟩:=xP (P:=P) (bI f x) hz
  exact⟨r,by simp [execOp,ho,hr],hv⟩
 ·rename_i t x i ho
  refine eC h fun z hz=>fW hd fun a c Lo lam f hn=>?_
  obtain⟨r,hr,hv⟩:=Aa (P:=P) (bI f x) hz
  exact⟨r,by simp [execOp,ho,hr],SR.of hv⟩
 ·rename_i t x i ho
  refine eC h fun z hz=>fW hd fun a c Lo lam f hn=>?_
  obtain⟨r,hr,hv⟩:=xO (P:=P) (bI f x) (bI f i) hz
  exact⟨r,by simp [execOp,ho,hr],hv⟩
 ·rename_i t x i ho
  refine eC h fun z hz=>fW hd fun a c Lo lam f hn=>?_
  obtain⟨r,hr,hv⟩:=Ab (P:=P) (bI f x) (bI f i) hz
  exact⟨r,by simp [execOp,ho,hr],SR.of hv⟩
 ·rename_i t m k ok ho
  refine eC h fun z hz=>fW hd fun a c Lo lam f hn=>?_
  obtain⟨r,hr,hv⟩:=xU (P:=P) f (bI f m) (bI f k) hz
  exact⟨r,by simp [execOp,ho,hr],SR.of hv⟩
 ·rename_i t m k x ho
  split at h
  ·cases h
  rename_i rE
  obtain⟨h',hh,rfl⟩:=Option.map_some' h
  exact ph hb0 (.inl ho) (by simpa using rE) hh
 ·rename_i t m k x ho
  split at h
  ·cases h
  rename_i rE
  obtain⟨h',hh,rfl⟩:=Option.map_some' h
  exact ph hb0 (.inr ho) (by simpa using rE) hh
 ·rename_i ho; exact eC h fun z hz=>Al hd ho hz
 ·
  rename_i b args By ho
  unfold gi at h
  split at h
  ·rename_i t x hts hargs
   have Am:By = #[t]:=by apply Zh; simpa using hts
   obtain⟨q,hq,rfl⟩:∃q,args = #[q]∧bP s.ρ q=x:=by
    cases args with | mk l=>
    rcases l with _ | ⟨q,_ | ⟨q2,l⟩⟩<;>simp at hargs
    exact⟨q,rfl,hargs⟩
   subst Am hq
   refine eC h fun z hz=>fW hd fun a c Lo lam f hn=>?_
   obtain⟨r,hr,hv⟩:=EO (P:=P) f #[t] rfl (bI f q) hz o.type
   exact⟨r,by simp [execOp,ho,resolve,invoke,builtin,hr],SR.of hv⟩
  ·rename_i t t2 x y hts hargs
   have Am:By = #[t,t2]:=by apply Zh; simpa using hts
   obtain⟨q,q2,hq,rfl,rfl⟩:∃q q2,args = #[q,q2]∧bP s.ρ q=x∧bP s.ρ q2=y:=by
    cases args with | mk l=>
    rcases l with _ | ⟨q,_ | ⟨q2,_ | ⟨q3,l⟩⟩⟩<;>simp at hargs
    exact⟨q,q2,rfl,hargs.1,hargs.2⟩
   subst Am hq
   exact Dv hb0 hd ho h
  ·rename_i t t2 x y hts hargs
   have Am:By = #[t,t2]:=by apply Zh; simpa using hts
   obtain⟨q,q2,hq,rfl,rfl⟩:∃q q2,args = #[q,q2]∧bP s.ρ q=x∧bP s.ρ q2=y:=by
    cases args with | mk l=>
    rcases l with _ | ⟨q,_ | ⟨q2,_ | ⟨q3,l⟩⟩⟩<;>simp at hargs
    exact⟨q,q2,rfl,hargs.1,hargs.2⟩
   subst Am hq
   obtain⟨⟨z,h'⟩,hh,rfl⟩:=Option.map_some' h
   exact HR hb0 hd ho hh
  ·rename_i t x hts hargs
   have Am:By = #[t]:=by apply Zh; simpa using hts
   obtain⟨q,hq,rfl⟩:∃q,args = #[q]∧bP s.ρ q=x:=by
    cases args with | mk l=>
    rcases l with _ | ⟨q,_ | ⟨q2,l⟩⟩<;>simp at hargs
    exact⟨q,rfl,hargs⟩
   subst Am hq
   obtain⟨h',hh,rfl⟩:=Option.map_some' h
   exact EZ hb0 hd ho hh
  ·rename_i x xs hargs
   rw [XK] at h
   obtain⟨v,hv,h⟩:=h
   rw [XK] at h
   obtain⟨vs,Eu,h⟩:=h
   rw [XK] at h
   obtain⟨u,hu,h⟩:=h
   exact eC h fun z hz=>u7 hd ho (.inl ⟨rfl,rfl⟩) hargs hv Eu hu hz
  ·rename_i x xs hargs
   rw [XK] at h
   obtain⟨v,hv,h⟩:=h
   rw [XK] at h
   obtain⟨vs,Eu,h⟩:=h
   rw [XK] at h
   obtain⟨u,hu,h⟩:=h
   exact eC h fun z hz=>u7 hd ho (.inr ⟨rfl,rfl⟩) hargs hv Eu hu hz
  ·cases h
 ·
  rename_i fx args By ho
  split at h
  ·rename_i Ak cap heq
   split at h
   ·rename_i ha
    obtain⟨⟨r,h'⟩,hh,rfl⟩:=Option.map_some' h
    rw [XK] at hh
    obtain⟨⟨r0,h0⟩,hh,hm⟩:=hh
    exact HW hcf hb0 hd ho heq ha hh hm
   ·cases h
  ·cases h
 ·cases h
end
end Go.R
namespace Go.R
open Go
section
variable {P:Program}{L0:Nat→Prop}{c0:Cx}{n:Nat}{ds:List Nat}{s:RS}
theorem qi {h:AHeap}:∀{cs:List AV},cZ cs=true→vT h cs=some (cs,h)
 | [],_=>rfl
 | x::cs,hn=>by
  simp only [cZ,XN] at hn
  simp only [vT,Dn,hn.1,if_true,XJ,qi hn.2,XR]
theorem yc {h h':AHeap}{x y:AV}(hz:Dn h x=some (y,h')):Steady h h':=by
 unfold Dn at hz
 split at hz
 ·cases hz; exact Steady.refl _
 split at hz
 ·split at hz
  ·split at hz
   ·cases hz; exact Steady.refl _
   ·cases hz
  rw [XK] at hz
  obtain⟨o,_,hz⟩:=hz
  split at hz
  ·split at hz
   ·cases hz; exact Steady.kill _ _
   ·cases hz
  ·cases hz
 ·cases hz
theorem q6:∀{cs ys:List AV} {h h':AHeap},vT h cs=some (ys,h')→Steady h h'
 | [],ys,h,h',hz=>by cases hz; exact Steady.refl _
 | x::cs,ys,h,h',hz=>by
  simp only [vT,XK,XL] at hz
  obtain⟨⟨y,h1⟩,hx,⟨zs,h2⟩,hz,he⟩:=hz
  simp only [XS] at he
  obtain⟨rfl,rfl⟩:=he
  exact (yc hx).trans (q6 hz)
theorem Inv.vY {a:Act}{w:World}{p:Nat × Option Nat × Nat}{s':RS}(hi:Inv L0 c0 n ds s a w)(h:vY s p=some s'):Inv L0 c0 n ds s' a w:=by
 obtain⟨hn,c,Lo,lam,rfl,f,e⟩:=hi
 unfold Go.R.vY at h
 split at h
 ·rw [XL] at h
  obtain⟨⟨y,h'⟩,hz,rfl⟩:=h
  obtain⟨hx,hy,c',hw,e',f',hv⟩:=wu f hz
  refine⟨hn,c',Lo,lam,hw,⟨f'.h,f'.rel,fun t=>?_,f'.box,f'.inj,fun t k off ht he=>?_,f'.defers,f'.EI⟩,e.trans e'⟩
  ·simp only [beq_nat]
   by_cases ht:t=p.1
   ·subst ht
    simp only [decide_true,cond_true]
    exact SR.of (hv _ ((f.slot _).vr hx))
   ·simp only [ht,decide_false,cond_false]
    exact f'.slot t
  ·simp only [beq_nat] at he
   by_cases SG:t=p.1
   ·simp only [SG,decide_true,cond_true] at he
    exact absurd he (hy _ _)
   ·simp only [SG,decide_false,cond_false] at he
    exact f'.tidy t k off ht he
 ·rename_i i hp
  split at h
  rotate_left
  ·cases h
  rename_i cs hcs
  simp only [XK,XL] at h
  obtain⟨x,hx,⟨y,h'⟩,hz,rfl⟩:=h
  obtain⟨hx1,hy,c',hw,e',f',hv⟩:=wu f hz
  have qW:∀k,(bif Yp k p.1 then some (cs.set i y) else s.bx k).isSome=(s.bx k).isSome:=fun k=>by
   simp only [beq_nat]
   by_cases hk:k=p.1
   ·subst hk; simp [hcs]
   ·simp [hk]
  refine⟨hn,c',Lo,lam,hw,⟨f'.h,f'.rel,fun t=>?_,fun k fI hb=>?_,fun k k' h1 h2=>f'.inj k k' (by rw [←qW]; exact h1) (by rw [←qW]; exact h2),f'.tidy,f'.defers,f'.EI⟩,e.trans e'⟩
  ·have:=f'.slot t
   unfold SR at this ⊢
   split
   ·rename_i k off he
    rw [he] at this
    simp only at this
    exact⟨this.1,by rw [qW]; exact this.2⟩
   ·rename_i x' HS
    split at this
    ·rename_i he; exact absurd he (HS _ _)
    ·exact this
  ·simp only [beq_nat] at hb
   by_cases hk:k=p.1
   ·subst hk
    simp only [decide_true,cond_true,XM] at hb
    subst hb
    have ob:=f.box _ cs hcs
    have Pg:=f'.box _ cs hcs
    refine⟨Pg.own,by rw [XV]; exact Pg.plain,?_⟩
    obtain⟨vs,q1,q2,q3⟩:=ob.cells.vals
    obtain⟨US,r1,r2,r3⟩:=Pg.cells.vals
    have hlen:vs=US:=by
     apply YS
     intro j
     by_cases hj:j<cs.length
     ·rw [←q2 j hj,←r2 j hj,hw]
     ·rw [Yc (by rw [←q1.length]; omega),Yc (by rw [←r1.length]; omega)]
    subst hlen
    obtain⟨u,hu,hr⟩:=VRs.get q1 i x hx
    have E1:VRs c' (un L0 Lo) (cs.set i y) vs:=by
     have:=VRs.set (hv u hr) i r1
     have LW:vs.set i u=vs:=by
      apply YS
      intro j
      rw [Zb]
      by_cases hji:i=j
      ·subst hji
       rw [if_pos rfl,hu]
       have:=(XQ.1 hu).1
       simp [this]
      ·rw [if_neg hji]
     rwa [LW] at this
    exact Cells.of_vals E1 (fun j hj=>by rw [r2 j (by rw [r1.length]; exact hj)]) r3
   ·simp only [hk,decide_false,cond_false] at hb
    exact f'.box k fI hb
theorem Inv.ld {a:Act}{w:World}:∀{l:List (Nat × Option Nat × Nat)} {s s':RS},Inv L0 c0 n ds s a w→ld s l=some s'→Inv L0 c0 n ds s' a w
 | [],s,s',hi,h=>by cases h; exact hi
 | p::ps,s,s',hi,h=>by
  simp only [Go.R.ld,XK] at h
  obtain⟨s1,h1,h2⟩:=h
  exact Inv.ld (hi.vY h1) h2
theorem HX {A:bY}{r:Nat}{s:RS}:(s.mV A r).h=s.h:=by
 unfold RS.mV
 split<;>rfl
theorem na {k:Nat}{h h':AHeap}{x y:AV}(hz:jw k h x=some (y,h')):Steady h h':=by
 unfold jw at hz
 split at hz
 ·split at hz
  ·cases hz; exact Steady.refl _
  ·split at hz
   ·split at hz
    ·cases hz; exact Steady.refl _
    ·cases hz
   rw [XK] at hz
   obtain⟨o,_,hz⟩:=hz
   split at hz
   ·split at hz
    ·rw [XL] at hz
     obtain⟨⟨fI,h2⟩,hz,he⟩:=hz
     simp only [XS] at he
     obtain⟨rfl,rfl⟩:=he
     exact (Steady.kill _ _).trans (q6 hz)
    ·cases hz
   ·cases hz
  ·cases hz; exact Steady.refl _
  ·cases hz
 ·split at hz<;>cases hz<;>exact Steady.refl _
theorem yd {s s':RS}{p:Nat × Option Nat × Nat}(hz:vY s p=some s'):Steady s.h s'.h:=by
 unfold vY at hz
 split at hz
 ·rw [XL] at hz
  obtain⟨⟨y,h'⟩,hz,rfl⟩:=hz
  exact na hz
 ·split at hz
  ·simp only [XK,XL] at hz
   obtain⟨x,hx,⟨y,h'⟩,hz,rfl⟩:=hz
   exact na hz
  ·cases hz
theorem nb:∀{l:List (Nat × Option Nat × Nat)} {s s':RS},ld s l=some s'→Steady s.h s'.h
 | [],s,s',h=>by cases h; exact Steady.refl _
 | p::ps,s,s',h=>by
  simp only [ld,XK] at h
  obtain⟨s1,h1,h2⟩:=h
  exact (yd h1).trans (nb h2)
end
end Go.R
namespace Go.R
open Go
section
variable {P:Program}{L0:Nat→Prop}{c0:Cx}{n:Nat}{ds:List Nat}{o:Oper}{s:RS}
theorem Dy {ops:Array Oper}{c:Cx}{Lo:Nat→Prop}{lam:Nat→Nat}{a:Act}(f:Fr L0 c Lo lam ds s a){b:Bool}(h:hU ops.toList s.ρ o=some b):Region.wanted o (yielded ops a.tmps)=b:=by
 unfold hU at h
 unfold Region.wanted
 split at h
 ·rename_i hg; rw [hg]; cases h; rfl
 ·rename_i j want hg
  rw [hg]
  rw [XK] at h
  obtain⟨d,hd,h⟩:=h
  have Hv:(ops[j]?).bind (·.dst)=some d:=by simpa using hd
  have hs:=f.slot d
  simp only [yielded,Hv,XJ]
  rw [Array.getD_eq_getD_getElem?] at hs
  split at h
  ·rename_i b' hb
   cases h
   rw [hb] at hs
   simp only [SR,VR] at hs
   cases hq:a.tmps[d]? with
   | none=>rw [hq] at hs; simp [undef] at hs
   | some v=>
    rw [hq] at hs
    simp only [YH] at hs
    subst hs
    cases b'<;>cases want<;>rfl
  ·rename_i hb
   cases h
   rw [hb] at hs
   simp only [SR,VR] at hs
   obtain⟨vs,hv,_⟩:=hs
   cases hq:a.tmps[d]? with
   | none=>rfl
   | some v=>
    rw [hq] at hv
    simp only [YH] at hv
    subst hv
    rfl
  ·cases h
theorem ye {cf:CallF}(hcf:CallOK P cf)(hb0:c0.base≤c0.w.heap.size){ops:Array Oper}(J0:ds=ops.toList.filterMap (·.dst))(hd:gE n ds o){aI:List Nat}{s':RS}(h:mU P cf aI ops.toList s o=some s')
  {a:Act} {w:World} {K:Act→World→Prop} {Q:Exit→Act→World→Prop} (hi:Inv L0 c0 n ds s a w) (hK:∀a' w',Inv L0 c0 n ds s' a' w'→K a' w') :
  if Region.wanted o (yielded ops a.tmps) then o.wp P a w K Q else K (a.put o.dst undef) w:=by
 unfold mU at h
 rw [XK] at h
 obtain⟨b,hb,h⟩:=h
 have UT:=hi
 obtain⟨hn,c,Lo,lam,rfl,f,e⟩:=hi
 rw [Dy f hb]
 cases b with
 | true=>
  simp only [if_true] at h ⊢
  rw [←J0] at h
  exact JZ hcf hb0 hd h a c.w K Q UT hK
 | false=>
  simp only [XX,if_false,XM] at h ⊢
  subst h
  exact hK _ _ ⟨(gD _ _ _).trans hn,c,Lo,lam,rfl,f.set (SR.of (by simp [VR,undef,VRs])) (fun t ht=>by rw [hn]; exact hd t ht),e⟩
def va (n:Nat)(ops:List Oper):Bool:=ops.all fun o=>match o.dst with | some t=>Nat.blt t n | none=>true
theorem yf {ops:List Oper}(h:va n ops=true){o:Oper}(ho:o∈ops):gE n (ops.filterMap (·.dst)) o:=by
 intro t ht
 unfold va at h
 rw [X5] at h
 have:=h o ho
 rw [ht] at this
 exact⟨Nat.blt_eq.mp this,List.mem_filterMap.2 ⟨o,ho,ht⟩⟩
theorem BA {cf:CallF}(hcf:CallOK P cf)(hb0:c0.base≤c0.w.heap.size){ops:Array Oper}(J0:ds=ops.toList.filterMap (·.dst))(Hs:va n ops.toList=true){aI:List Nat}{Q:Exit→Act→World→Prop}{s':RS}(hQ:∀a' w',Inv L0 c0 n ds s' a' w'→Q .normal a' w') :
  ∀(l:List Oper) (s:RS),(∀o∈l,o∈ops.toList)→rB P cf aI ops.toList s l=some s'→∀a w,Inv L0 c0 n ds s a w→wpList P ops Q l a w
 | [],s,_,h,a,w,hi=>by
  simp only [rB,XM] at h
  subst h
  exact wpList_nil (hQ a w hi)
 | o::l,s,hl,h,a,w,hi=>by
  simp only [rB,XK] at h
  obtain⟨s1,h1,h2⟩:=h
  refine wpList_step fun K hK=>?_
  exact ye hcf hb0 J0 (by rw [J0]; exact yf Hs (hl o (by simp))) h1 hi fun a' w' jP=>hK a' w' (BA hcf hb0 J0 Hs hQ l s1 (fun o ho=>hl o (by simp [ho])) h2 a' w' jP)
theorem iV {α:Type}(d:α):∀(ks:List Nat) (g:Nat→α) (t:Nat),look d ks (ks.map g) t=if t∈ks then g t else d
 | [],g,t=>rfl
 | k::ks,g,t=>by
  simp only [X8,look,beq_nat,iV d ks g t,X7]
  by_cases h:t=k
  ·subst h; simp
  ·simp [h]
theorem Fr.forget {c:Cx}{Lo:Nat→Prop}{lam:Nat→Nat}{a:Act}(f:Fr L0 c Lo lam ds s a){s2:RS}(hh:s2.h=s.h)(hb:∀k cs,s2.bx k=some cs→s.bx k=some cs)
  (hr:∀t,s2.ρ t = .any∨s2.ρ t=s.ρ t∧∀k off,s.ρ t = .lp k off→k=t∧((s.bx k).isSome=true→(s2.bx k).isSome=true)):Fr L0 c Lo lam [] s2 a:=by
 refine⟨f.h.trans hh.symm,f.rel,fun t=>?_,fun k cs h=>f.box k cs (hb k cs h),fun k k' h h'=>f.inj k k' ?_ ?_,fun t k off _ he=>?_,f.defers,f.EI⟩
 ·rcases hr t with h | ⟨h,h2⟩
  ·rw [h]; exact SR.of (by simp [VR])
  ·rw [h]
   have hs:=f.slot t
   cases hx:s.ρ t<;>rw [hx] at hs<;>try exact hs
   rename_i k off
   simp only [SR] at hs ⊢
   exact⟨hs.1,(h2 k off hx).2 hs.2⟩
 ·obtain⟨cs,hcs⟩:=Yl.1 h; rw [hb k cs hcs]; rfl
 ·obtain⟨cs,hcs⟩:=Yl.1 h'; rw [hb k' cs hcs]; rfl
 ·rcases hr t with h | ⟨h,h2⟩
  ·rw [h] at he; cases he
  ·exact (h2 k off (h ▸ he)).1
theorem Inv.shut {a:Act}{w:World}(A:bY)(h:Inv L0 c0 n ds s a w):Inv L0 c0 n [] ((s.shut A).open A) a w:=by
 obtain⟨hn,c,Lo,lam,rfl,f,e⟩:=h
 refine⟨hn,c,Lo,lam,rfl,f.forget rfl (fun k cs hk=>?_) (fun t=>?_),e⟩
 ·simp only [RS.shut,St.open,iV] at hk
  split at hk
  ·exact hk
  ·cases hk
 ·simp only [RS.shut,St.open,iV]
  split
  ·unfold xL
   cases hx:s.ρ t<;>simp only<;>try (right; exact⟨trivial,fun k off he=>by cases he⟩)
   rename_i k off
   cases hc:(Yp k t&&Yp off 0&&A.aI.contains k) with
   | false=>left; rfl
   | true=>
    right
    simp only [XN,beq_nat,decide_eq_true_eq,List.contains_iff_mem] at hc
    refine⟨rfl,fun k' UU he=>?_⟩
    cases he
    refine⟨hc.1.1,fun hs=>?_⟩
    rw [if_pos hc.2]
    exact hs
  ·left; rfl
theorem Inv.mV {a:Act}{w:World}(A:bY)(r:Nat)(h:Inv L0 c0 n ds s a w):Inv L0 c0 n [] ((s.mV A r).open A) a w:=by
 unfold RS.mV
 split
 ·exact h.shut A
 rename_i dl _
 have h2:=h.shut A
 obtain⟨hn,c,Lo,lam,hw,f,e⟩:=h2
 have Mr:∀k,(St.open A {vars:=A.keep.map (fun t=>bif (gr r A.dead).contains t then .any else xL A.aI s.ρ t),LU:=A.aI.map (fun k=>bif (gr r A.dead).contains k then none else s.bx k),h:=s.h}).bx k=bif (gr r A.dead).contains k then none else (St.open A (s.shut A)).bx k:=by
  intro k
  simp only [RS.shut,St.open,iV]
  cases (gr r A.dead).contains k<;>simp
 refine⟨hn,c,Lo,lam,hw,f.forget rfl (fun k cs hk=>?_) (fun t=>?_),e⟩
 ·rw [Mr] at hk
  cases hc:(gr r A.dead).contains k with
  | true=>rw [hc] at hk; cases hk
  | false=>rw [hc] at hk; exact hk
 ·have hv:(St.open A {vars:=A.keep.map (fun t=>bif (gr r A.dead).contains t then .any else xL A.aI s.ρ t),LU:=A.aI.map (fun k=>bif (gr r A.dead).contains k then none else s.bx k),h:=s.h}).ρ t=bif (gr r A.dead).contains t then .any else (St.open A (s.shut A)).ρ t:=by
   simp only [RS.shut,St.open,iV]
   cases (gr r A.dead).contains t<;>simp
  rw [hv]
  cases hc:(gr r A.dead).contains t with
  | true=>left; rfl
  | false=>
   right
   refine⟨rfl,fun k off he=>?_⟩
   have HQ:k=t:=f.tidy t k off (by simp) he
   refine⟨HQ,fun hs=>?_⟩
   rw [Mr,HQ,hc]
   rw [HQ] at hs
   exact hs
theorem Inv.wide {a:Act}{w:World}(h:Inv L0 c0 n [] s a w)(ds:List Nat):Inv L0 c0 n ds s a w:=by
 obtain⟨hn,c,Lo,lam,rfl,f,e⟩:=h
 exact⟨hn,c,Lo,lam,rfl,⟨f.h,f.rel,f.slot,f.box,f.inj,fun t k off _ he=>f.tidy t k off (by simp) he,f.defers,f.EI⟩,e⟩
theorem Inv.drew {a:Act}{w:World}(h:Inv L0 c0 n ds s a w):Inv L0 c0 n ds s a {w with drawn:=w.drawn+1}:=by
 obtain⟨hn,c,Lo,lam,rfl,f,e⟩:=h
 obtain⟨e',f'⟩:=f.world (w':={c.w with drawn:=c.w.drawn+1}) (fun b _=>.inl rfl) (fun _ _=>rfl) (fun b _=>rfl) (XP _) rfl rfl rfl
 exact⟨hn,_,Lo,lam,rfl,f',e.trans e'⟩
def nc (P:Program)(c:Code)(Q:Exit→Act→World→Prop)(a:Act)(w:World):Prop:=
 ∀(b:Frame) (k:List Item) (cs:List Frame),∃e a' w',Q e a' w'∧Arrives P (lone (b.at a (.code c :: .inLoop c::k)) cs w) b k cs e a' w'
theorem nc.step {c:Code}{Q:Exit→Act→World→Prop}{a:Act}{w:World}(h:c.wp P (Exit.then (nc P c Q) Q) a w):nc P c Q a w:=by
 intro b k cs
 obtain⟨e,a₁,w₁,hq,yg⟩:=h b (.inLoop c::k) cs
 cases e with
 | normal=>
  obtain⟨e₂,a₂,w₂,UW,MF⟩:=hq b k cs
  exact⟨e₂,a₂,w₂,UW,.of_steps (Steps.trans yg (.one step_inLoop)) MF⟩
 | exit id=>exact⟨_,a₁,w₁,hq,.pass (x:=.inLoop c) rfl (fun _ _=>.inl (by simp)) yg⟩
 | goto l=>exact⟨_,a₁,w₁,hq,.pass (x:=.inLoop c) rfl (fun _ _=>.inl (by simp)) yg⟩
 | ret=>exact⟨_,a₁,w₁,hq,.pass (x:=.inLoop c) rfl (fun _ _=>.inl (by simp)) yg⟩
 | panic ch=>exact⟨_,a₁,w₁,hq,.pass (x:=.inLoop c) rfl (fun _ _=>.inl (by simp)) yg⟩
 | outgrown=>exact⟨_,a₁,w₁,hq,.pass (x:=.inLoop c) rfl (fun _ _=>.inl (by simp)) yg⟩
theorem nc.loop {c:Code}{Q:Exit→Act→World→Prop}{a:Act}{w:World}(h:nc P c Q a w):(Code.loop c).wp P Q a w:=by
 intro b k cs
 obtain⟨e,a',w',hq,yg⟩:=h b k cs
 exact⟨e,a',w',hq,.of_steps (.one step_loop) yg⟩
def Ex.Jh:Ex→Exit
 | .norm=>.normal
 | .exit id=>.exit id
 | .ret=>.ret
def kL (n:Nat):Code→Bool
 | .region _ ops _=>va n ops.toList
 | .seq a b=>kL n a&&kL n b
 | .cond _ x y=>kL n x&&kL n y
 | .block _ c=>kL n c
 | .loop c=>kL n c
 | _=>true
def An (P:Program)(cf:CallF):Prop:=
 ∀(L0:Nat→Prop) (c0:Cx) (n:Nat) (aI:List Nat) (id:Nat) (ops:Array Oper) (s s':RS),j5 P cf aI ops s=some s'→c0.base≤c0.w.heap.size→va n ops.toList=true→
  ∀a w Q,Inv L0 c0 n (ops.toList.filterMap (·.dst)) s a w→(∀a' w',Inv L0 c0 n (ops.toList.filterMap (·.dst)) s' a' w'→Q .normal a' w')→(Code.region id ops true).wp P Q a w
theorem kc {cf:CallF}(hcf:CallOK P cf)(Dz:An P cf)(hb0:c0.base≤c0.w.heap.size){A:bY}{m:Nat}:∀(c:Code),kL n c=true→∀(st jN:St) (ex:Ex),bO P cf A m c st=some (ex,jN)→
  ∀a w Q,Inv L0 c0 n [] (st.open A) a w→(∀a' w',Inv L0 c0 n [] (jN.open A) a' w'→Q ex.Jh a' w')→c.wp P Q a w
 | .skip,_,st,jN,ex,h,a,w,Q,hi,hQ=>by
  simp only [bO,XM,XS] at h
  obtain⟨rfl,rfl⟩:=h
  exact wp_skip (hQ a w hi)
 | .label _,_,st,jN,ex,h,a,w,Q,hi,hQ=>by
  simp only [bO,XM,XS] at h
  obtain⟨rfl,rfl⟩:=h
  exact wp_label (hQ a w hi)
 | .ret,_,st,jN,ex,h,a,w,Q,hi,hQ=>by
  simp only [bO,XM,XS] at h
  obtain⟨rfl,rfl⟩:=h
  exact wp_ret (hQ a w hi)
 | .exit id,_,st,jN,ex,h,a,w,Q,hi,hQ=>by
  simp only [bO,XM,XS] at h
  obtain⟨rfl,rfl⟩:=h
  exact wp_exit (hQ a w hi)
 | .seq x y,hB,st,jN,ex,h,a,w,Q,hi,hQ=>by
  simp only [kL,XN] at hB
  simp only [bO,XK] at h
  obtain⟨⟨Ji,xF⟩,h1,h2⟩:=h
  refine wp_seq (kc hcf Dz hb0 x hB.1 st xF Ji h1 a w _ hi fun a' w' jP=>?_)
  cases Ji with
  | norm=>exact kc hcf Dz hb0 y hB.2 xF jN ex h2 a' w' Q jP hQ
  | exit id=>
   simp only [XM,XS] at h2
   obtain⟨rfl,rfl⟩:=h2
   exact hQ a' w' jP
  | ret=>
   simp only [XM,XS] at h2
   obtain⟨rfl,rfl⟩:=h2
   exact hQ a' w' jP
 | .cond k x y,hB,st,jN,ex,h,a,w,Q,hi,hQ=>by
  simp only [kL,XN] at hB
  simp only [bO,XK] at h
  obtain⟨t,ht,h⟩:=h
  have hk:a.eval k = .bool t:=by
   obtain⟨hn,c,Lo,lam,rfl,f,e⟩:=hi
   have hk:=bI f k
   unfold sy at ht
   split at ht
   ·rename_i b hb
    cases ht
    rw [hb] at hk
    simpa [SR,VR] using hk
   ·cases ht
  refine wp_cond hk ?_
  cases t with
  | true=>exact kc hcf Dz hb0 x hB.1 st jN ex (by simpa using h) a w Q hi hQ
  | false=>exact kc hcf Dz hb0 y hB.2 st jN ex (by simpa using h) a w Q hi hQ
 | .block id x,hB,st,jN,ex,h,a,w,Q,hi,hQ=>by
  simp only [kL] at hB
  simp only [bO,XL] at h
  obtain⟨⟨Ji,xF⟩,h1,h2⟩:=h
  refine wp_block (kc hcf Dz hb0 x hB st xF Ji h1 a w _ hi fun a' w' jP=>?_)
  cases Ji with
  | norm=>
   simp only [XS] at h2
   obtain⟨rfl,rfl⟩:=h2
   exact hQ a' w' jP
  | exit kP=>
   simp only [XS] at h2
   obtain⟨rfl,rfl⟩:=h2
   have:=hQ a' w' jP
   simp only [Ex.Jh,Exit.inBlock]
   split
   ·rename_i he; rw [if_pos he] at this; exact this
   ·rename_i he; rw [if_neg he] at this; exact this
  | ret=>
   simp only [XS] at h2
   obtain⟨rfl,rfl⟩:=h2
   exact hQ a' w' jP
 | .loop x,hB,st,jN,ex,h,a,w,Q,hi,hQ=>by
  simp only [kL] at hB
  simp only [bO] at h
  have key:∀(j:Nat) (st:St),lf (bO P cf A m x) j st=some (ex,jN)→∀a w,Inv L0 c0 n [] (st.open A) a w→nc P x Q a w:=by
   intro j
   induction j with
   | zero=>intro st h; simp [lf] at h
   | succ j ih=>
    intro st h a w hi
    simp only [lf,XK] at h
    obtain⟨⟨Ji,xF⟩,h1,h2⟩:=h
    refine nc.step (kc hcf Dz hb0 x hB st xF Ji h1 a w _ hi fun a' w' jP=>?_)
    cases Ji with
    | norm=>exact ih xF h2 a' w' jP
    | exit id=>
     simp only [XM,XS] at h2
     obtain⟨rfl,rfl⟩:=h2
     exact hQ a' w' jP
    | ret=>
     simp only [XM,XS] at h2
     obtain⟨rfl,rfl⟩:=h2
     exact hQ a' w' jP
  exact nc.loop (key m st h a w hi)
 | .region id ops draw,hB,st,jN,ex,h,a,w,Q,hi,hQ=>by
  simp only [kL] at hB
  simp only [bO,XK,XL,XS] at h
  obtain⟨s0,h0,s',h1,s2,h2,rfl,rfl⟩:=h
  replace hi:=hi.ld h0
  cases draw with
  | true=>
   simp only [if_true] at h1
   exact Dz L0 c0 n A.aI id ops _ s' h1 hb0 hB a w Q (hi.wide _) fun a' w' jP=>hQ a' w' ((jP.ld h2).mV A id)
  | false=>
   simp only [XX,if_false] at h1
   exact wp_region_list (BA hcf hb0 rfl hB (fun a' w' jP=>hQ a' w' ((jP.ld h2).mV A id)) ops.toList _ (fun _ h=>h) h1 a w (hi.wide _))
 | .rangeFunc ..,_,st,jN,ex,h,_,_,_,_,_=>by simp [bO] at h
 | .scope ..,_,st,jN,ex,h,_,_,_,_,_=>by simp [bO] at h
 | .goto ..,_,st,jN,ex,h,_,_,_,_,_=>by simp [bO] at h
 | .refuse ..,_,st,jN,ex,h,_,_,_,_,_=>by simp [bO] at h
theorem wv {c:Cx}{Lo:Nat→Prop}{lam:Nat→Nat}{a:Act}(f:Fr L0 c Lo lam ds s a):∀(rs:List ResultVar) (l:List AV),z6 P s rs=some l→l.all AV.kE=true→
  ∃vs:List Value,(rs.mapM (m:=Sem) fun | .tmp t=>pure (a.tmps.getD t undef) | .cell x t=>do loadVar t (←asAddr (a.tmps.getD x undef))).run P c.w = .ok vs c.w∧VRs c (un L0 Lo) l vs
 | [],l,h,_=>by
  simp only [z6,XM] at h
  subst h
  exact⟨[],rfl,trivial⟩
 | .tmp t::rs,l,h,hl=>by
  simp only [z6,XL] at h
  obtain⟨l',h1,rfl⟩:=h
  simp only [YA,XN] at hl
  obtain⟨vs,h2,h3⟩:=wv f rs l' h1 hl.2
  refine⟨a.tmps.getD t undef::vs,?_,(f.slot t).vr (sR hl.1),h3⟩
  simp only [List.mapM_cons,Sem.run_bind,Sem.run_pure,Result.andThen_ok,h2]
 | .cell x t::rs,l,h,hl=>by
  simp only [z6,XK,XL] at h
  obtain⟨y,hy,l',h1,rfl⟩:=h
  simp only [YA,XN] at hl
  obtain⟨vs,h2,h3⟩:=wv f rs l' h1 hl.2
  have hx:=f.slot x
  obtain⟨u,hr,hu⟩:=sF (P:=P) f (t:=t) hx hy
  have hp:∃ad,a.tmps.getD x undef = .pointer (some ad):=by
   unfold jZ at hy
   cases hq:s.ρ x<;>rw [hq] at hy hx<;>simp only at hy<;>try (cases hy; done)
   ·simp only [SR,VR] at hx; obtain⟨_,ad,h,_⟩:=hx; exact⟨ad,h⟩
   ·simp only [SR] at hx; exact⟨_,hx.1⟩
   ·simp only [SR,VR] at hx; obtain⟨_,_,h,_⟩:=hx; exact⟨_,h⟩
  obtain⟨ad,hp⟩:=hp
  rw [hp] at hr
  have Ao:(loadVar t ad).run P c.w = .ok u c.w:=by simpa [Instr.loadAt,Instr.sureAddr] using hr
  refine⟨u::vs,?_,hu,h3⟩
  have ha:(asAddr (a.tmps.getD x undef)).run P c.w = .ok ad c.w:=by rw [hp]; rfl
  simp only [List.mapM_cons,Sem.run_bind,Sem.run_pure,Result.andThen_ok,h2,ha,Ao]
theorem ir:un L0 none0=L0:=by funext b; simp [un,none0]
theorem Ext.close {c c':Cx}{jQ:Nat→Prop}(e:Ext c none0 c' jQ):Ext c none0 c' none0:=
 ⟨e.next,e.live,e.size,e.keep,e.exact,e.base,e.HH,fun _ h=>h,fun _ h=>h.elim,e.os,e.tape,e.output⟩
theorem HRel.kO {c:Cx}{L L':Nat→Prop}(hL:∀b,L' b→L b)(h:HRel c L):HRel c L':=
 ⟨h.lt,fun id o ho=>by
  have:=h.obj id o ho
  cases o with
  | cells cs=>obtain⟨m,h1,h2,h3⟩:=this; exact⟨m,h1,h2,Cells.kO hL _ _ _ h3⟩
  | row t cs=>obtain⟨h0,C,h1,h2,h4,h3⟩:=this; exact⟨h0,C,h1,h2,h4,Cells.kO hL _ _ _ h3⟩
  | map es=>
   obtain⟨lh,clock,h1,h2⟩:=this
   refine⟨lh,clock,h1,?_⟩
   clear h1
   have:∀(es:List (AV × AV)) (ms:List MapEntry),lg c L es ms→lg c L' es ms:=by
    intro es
    induction es with
    | nil=>intro ms h; cases ms with | nil=>trivial | cons m ms=>exact h.elim
    | cons e es ih=>intro ms h; cases ms with
     | nil=>exact h.elim
     | cons m ms=>obtain⟨h1,h2,h3⟩:=h; exact⟨⟨VR.kO hL _ _ h1.1,h1.2⟩,VR.kO hL _ _ h2,ih _ h3⟩
   exact this _ _ h2,h.inj,fun id hl hb=>h.out id hl (hL _ hb),fun b hb=>h.bd b (hL b hb),h.low,h.ver⟩
structure Fit (P:Program):Prop where
 mixed:P.follows .mixedOrders=true
 MG : ∀ (f : FuncId) fn c, P.funcs[f]? = some fn → fn.body = some c → kL fn.ntmps c = true ∧ fn.name ≠ "runtime.NumGoroutine"
def IntrOK (P:Program)(intr:FuncId→Option (List AV→AHeap→Option (AV × AHeap))):Prop:=
 ∀f g,intr f=some g→(CallOK P fun f' args h=>if f'=f then g args h else none)∧∀args h r h',g args h=some (r,h')→Steady h h'
theorem ng {f : FuncId} {fn : Func} {c : Code} (hf : P.funcs[f]? = some fn) (hc : fn.body = some c) (hn : fn.name ≠ "runtime.NumGoroutine") (vs : Array Value) (w : World) : (callFunc f vs).run P w = .ok (.enter f vs) w := by
 have Jj : (fn.name == "runtime.NumGoroutine") = false := by simpa using hn
 simp [callFunc,program,Sem.run,hf,hn,hc]
theorem yh (hP:Fit P){aW:FuncId→bY}{cf:CallF}(ih:CallOK P cf)(Dz:An P cf)(m:Nat):CallOK P (bb P aW cf m):=by
 intro f args h r h' hc
 unfold bb at hc
 rw [XK] at hc
 obtain⟨fn,hf,hc⟩:=hc
 rw [XK] at hc
 obtain⟨c,hb,hc⟩:=hc
 obtain⟨hB,MH⟩:=hP.MG f fn c hf hb
 refine⟨ng hf hb MH,fun L0 c0 vs hh hb0 hrel hargs=>?_⟩
 split at hc
 rotate_left
 ·cases hc
 rename_i hlen
 rw [XK] at hc
 obtain⟨⟨ex,st⟩,hex,hc⟩:=hc
 have hl:=hargs.length
 refine calls_of_wp hf hb ?_
 refine kc (L0:=L0) (c0:=c0) (n:=fn.ntmps) ih Dz hb0 c hB _ _ _ hex _ _ _ ?_ ?_
 ·refine⟨by simp; omega,c0,none0,fun _=>0,rfl,⟨hh,by rw [ir]; exact hrel,fun t=>?_,fun k cs hk=>?_,fun k k' hk=>?_,fun t k off _ he=>?_,rfl,fun b hb=>hb.elim⟩,Ext.refl _ _⟩
  ·simp only [St.open,mW,iV]
   split
   ·by_cases ht:t<args.length
    ·obtain⟨v,hv,hr⟩:=hargs.get t args[t] (by simp [ht])
     have:args.getD t AV.any=args[t]:=by simp [ht]
     rw [this,Array.getD_eq_getD_getElem?,Array.getElem?_append_left (by simp; omega)]
     have Pe:vs.toArray[t]? = some v:=by simpa using hv
     rw [Pe]
     exact SR.of (by rw [ir]; exact hr)
    ·have:args.getD t AV.any = .any:=by simp [Yc (Nat.not_lt.1 ht)]
     rw [this]
     exact SR.of (by simp [VR])
   ·exact SR.of (by simp [VR])
  ·simp only [St.open,iV] at hk
   split at hk<;>cases hk
  ·simp only [St.open,iV] at hk
   split at hk<;>cases hk
  ·simp only [St.open,mW,iV] at he
   split at he
   ·by_cases ht:t<args.length
    ·obtain⟨v,hv,hr⟩:=hargs.get t args[t] (by simp [ht])
     have h1:args.getD t AV.any=args[t]:=by simp [ht]
     rw [h1] at he
     rw [he] at hr
     exact hr.elim
    ·have:args.getD t AV.any = .any:=by simp [Yc (Nat.not_lt.1 ht)]
     rw [this] at he
     cases he
   ·cases he
 ·intro a' w' jP
  have hfin:(aM P (st.open (aW f)) fn.results.toList).map (fun r=>(r,st.h))=some (r,h')→a'.defers=[]∧∃v,(results fn a'.tmps).run P w' = .ok v w'∧(∃c' v',Ending.returned v = .returned v'∧c'.w=w'∧c'.h=h'∧VR c' L0 r v'∧HRel c' L0∧Ext c0 none0 c' none0):=by
   intro hc
   rw [XL] at hc
   obtain⟨r',Ao,he⟩:=hc
   cases he
   obtain⟨hn,c',Lo,lam,rfl,f',e'⟩:=jP
   refine⟨f'.defers,?_⟩
   unfold aM at Ao
   rw [XK] at Ao
   obtain⟨l,hl,Ao⟩:=Ao
   split at Ao
   rotate_left
   ·cases Ao
   rename_i lq
   obtain⟨us,UX,Bi⟩:=wv f' _ _ hl lq
   have E5:VRs c' L0 l us:=VRs.kO (fun b hb=>.inl hb) _ _ Bi
   have Ag:(results fn a'.tmps).run P c'.w = .ok (if h:us.toArray.size=1 then us.toArray[0] else .tuple us.toArray) c'.w:=by
    unfold results
    rw [←Array.toArray_toList (xs:=fn.results)]
    rw [List.mapM_toArray]
    simp only [Sem.run_bind,Sem.run_map,Result.andThen_ok,Sem.run_pure]
    exact (congrArg (fun z=>(Result.andThen z (fun (a:List Value) w'=>Result.ok a.toArray w')).andThen (fun (a:Array Value) w'=>Result.ok (if h:a.size=1 then a[0] else Value.tuple a) w')) UX).trans rfl
   refine⟨_,Ag,c',_,rfl,rfl,f'.h,?_,HRel.kO (fun b hb=>.inl hb) f'.rel,e'.close⟩
   split at Ao
   ·rename_i x
    cases Ao
    cases us with
    | nil=>exact E5.elim
    | cons u us=>cases us with
     | nil=>exact E5.1
     | cons u2 us=>exact E5.2.elim
   ·rename_i hne
    cases Ao
    have Ph:us.length≠1:=by
     intro h1
     rw [←E5.length] at h1
     cases l with
     | nil=>simp at h1
     | cons x l=>cases l with
      | nil=>exact hne x rfl
      | cons y l=>simp at h1
    have:¬us.toArray.size=1:=by simpa using Ph
    rw [dif_neg this]
    simp only [VR]
    exact⟨us.toArray,rfl,E5⟩
  cases ex with
  | norm=>exact hfin hc
  | ret=>exact hfin hc
  | exit id=>cases hc
end
end Go.R
