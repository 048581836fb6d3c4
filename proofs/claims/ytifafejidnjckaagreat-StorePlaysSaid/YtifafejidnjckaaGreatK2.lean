/- Part of the proof: ROps5, ROps6, ROps7, RFrzV, ROpAll, RFrz, RCode. -/
import Derived.Test.YtifafejidnjckaaGreatK1
import Derived.MapKept
import Derived.Laws.CopyRow
import Derived.Laws.BytesArg
import Derived.Laws.IdiomStrings
import Derived.Tactics
set_option linter.unusedVariables false
set_option linter.unusedSimpArgs false
set_option maxRecDepth 100000
open Array renaming getElem?_eq_some_iff → ajt, getElem?_setIfInBounds → ajU, length_toList → ajZ, getElem?_modify → aj3, ext' → akv
open Bool renaming and_eq_true → aiM, false_eq_true → aiW, not_true → ajA, true_and → ajC, not_eq_true' → ajX
open List renaming getElem?_eq_some_iff → aiO, getElem?_eq_none → ai8, map_cons → ai9, mem_cons → aja, mem_map → ajc, all_eq_true → ajd, take_of_length_le → ajp, eq_nil_of_length_eq_zero → ajs, length_set → ajw, all_cons → ajB, ext_getElem? → ajG, getElem?_set → aj9
open Nat renaming le_refl → aiQ, zero_add → ajf, beq → ajy, le_succ → aj5, lt_succ_of_lt → akg, min_eq_left → ako
open Option renaming bind_some → aiI, bind_eq_some_iff → aiJ, map_eq_some_iff → aiK, map_some → aiR, isSome_iff_exists → aju, getD_some → ajR
open Option.some renaming injEq → aiL
open Prod.mk renaming injEq → aiV
namespace Go.R
open Go
section
variable {P:Program}{L0:Nat→Prop}{c0:Cx}{n:Nat}{ds:List Nat}{o:Oper}{s:RS}
theorem Fr.CV {c:Cx}{Lo:Nat→Prop}{lam:Nat→Nat}{a:Act}(f:Fr L0 c Lo lam ds s a)(hbs:c.base≤c.w.heap.size){id:Nat}{es xo:List (AV × AV)}(ho:c.h.get id=some (.map es)){oX xz:Array MapEntry}{clock tQ:Nat}
  (hb:c.w.heap[(c.β id).1]? = some (.map oX clock)) (he:oW c (un L0 Lo) xo xz.toList) :
  Ext c Lo ⟨c.β,s.h.put id (.map xo),{c.w with heap:=c.w.heap.setIfInBounds (c.β id).1 (.map xz tQ)},c.base⟩ Lo∧
   Fr L0 ⟨c.β,s.h.put id (.map xo),{c.w with heap:=c.w.heap.setIfInBounds (c.β id).1 (.map xz tQ)},c.base⟩ Lo lam ds {s with h:=s.h.put id (.map xo)} a:=by
 have hl:Live c.h id:=⟨f.rel.lt _ _ ho,by simp [ho]⟩
 have hlt:(c.β id).1<c.w.heap.size:=(ajt.1 hb).1
 have hne:∀b,b≠(c.β id).1→({c.w with heap:=c.w.heap.setIfInBounds (c.β id).1 (.map xz tQ)}:World).heap[b]? = c.w.heap[b]?:=by
  intro b hb
  simp only [ajU]
  rw [if_neg (Ne.symm hb)]
 rw [←f.h]
 refine f.upd (β':=c.β) (h':=c.h.put id (.map xo)) id (.map xo) (Steady.put _ _ _) (akg hl.1) (by simp [AHeap.put,beq_nat])
  (fun oC h1=>.inr ⟨by simp [AHeap.put,beq_nat,h1],rfl⟩) (fun _=>⟨hl,rfl⟩) (.inr ⟨id,hl,rfl,.inl rfl⟩) (fun _=>?_)
  (fun b _ h1=>hne b h1) (fun b _ h1=>hne b h1) (by simp) hbs rfl rfl rfl (fun e=>⟨xz,tQ,by simp [hlt],he.ext e⟩)
 simp only [Cx.len,World.shape?,hb,ajU,hlt,if_true]
theorem CW {x y:AV}(hs:sameShape x y=true)(hq:iY x y=true):x=y:=by
 cases x<;>cases y<;>simp only [sameShape] at hs<;>try (cases hs; done)
 ·simp only [iY,lg,aiM,beq_iff_eq] at hq
  obtain⟨rfl,rfl⟩:=hq
  rfl
 ·rename_i a b
  simp only [iY,lg,beq_iff_eq] at hq
  congr 1
  cases a; cases b
  congr 1
  exact Array.toList_inj.1 hq
 ·rename_i xs ys
  simp only [aiM,beq_iff_eq] at hs
  obtain⟨⟨_,hx⟩,hy⟩:=hs
  obtain⟨ns,rfl⟩:=kS hx
  obtain⟨ms,rfl⟩:=kS hy
  simp only [iY,oa,decide_eq_true_eq] at hq
  rw [hq]
theorem tu:∀ns:List Int,mc (ns.map fun n=>AV.int .i64 n)=some (ns.map fun n=>Value.int .i64 n)
 | []=>rfl
 | n::ns=>by simp [mc,AV.jZ,tu ns]
theorem Hk {t:TypeId}{k:AV}(h:jx P t k=true):∃u,k.G0=some u∧Instr.sameBits 10000 u u=true:=by
 unfold jx at h
 have WN:∀cs:List AV,cs.all n6=true→∃u,(AV.agg cs).G0=some u∧Instr.sameBits 10000 u u=true:=by
  intro cs hcs
  obtain⟨ns,rfl⟩:=kS hcs
  refine⟨.agg (ns.map fun n=>Value.int .i64 n).toArray,by simp [AV.G0,tu],?_⟩
  simp only [Instr.sameBits,beq_self_eq_true,ajC,ajd]
  intro p hp
  have:∀(l:List Value),(∀v∈l,∃m,v=Value.int .i64 m)→∀p∈l.zip l,Instr.sameBits 9999 p.1 p.2=true:=by
   clear hp p
   intro l hl p hp
   have h1:p.1=p.2∧p.1∈l:=by
    clear hl
    induction l with
    | nil=>cases hp
    | cons v l ih=>
     simp only [List.zip_cons_cons,aja] at hp
     rcases hp with rfl | hp
     ·exact⟨rfl,by simp⟩
     ·obtain⟨h1,h2⟩:=ih hp; exact⟨h1,by simp [h2]⟩
   obtain⟨h1,h2⟩:=h1
   obtain⟨m,hm⟩:=hl _ h2
   rw [←h1,hm]
   simp [Instr.sameBits]
  exact this (ns.map fun n=>Value.int .i64 n) (fun v hv=>by obtain⟨m,_,rfl⟩:=ajc.1 hv; exact⟨m,rfl⟩) p (by simpa using hp)
 split at h
 ·exact⟨_,rfl,by simp [Instr.sameBits]⟩
 ·exact⟨_,rfl,by simp [Instr.sameBits,BI]⟩
 ·simp only [aiM] at h; exact WN _ h.1.1.2
 ·simp only [aiM] at h; exact WN _ h.1.1.2
 ·cases h
theorem zt {c:Cx}{L:Nat→Prop}{k v:AV}{kv vv:Value}(hc:k.G0.isSome=true)(hk:VR c L k kv)(hv:VR c L v vv) :
  ∀(es xo:List (AV × AV)) (ms:List MapEntry) (i:Nat),oW c L es ms→y9 k v es=some xo→
   kQ k es≠none∧(place k es ms i=none∧(∀b,oW c L xo (ms++[{key:=kv,val:=vv,born:=b}]))∨
    ∃j u m,place k es ms i=some (i+j,u)∧ms[j]? = some m∧m.key=kv∧oW c L xo (ms.modify j fun e=>{e with key:=kv,val:=vv}))
 | [],xo,[],i,_,h=>by
  simp only [y9,aiL] at h
  subst h
  exact⟨by simp [kQ],.inl ⟨rfl,fun b=>⟨⟨hk,hc⟩,hv,trivial⟩⟩⟩
 | (k',v')::es,xo,m::ms,i,he,h=>by
  obtain⟨⟨MK,hkc⟩,IG,A9⟩:=he
  simp only [y9] at h
  split at h
  rotate_left
  ·cases h
  rename_i hs
  split at h
  ·rename_i hq
   cases h
   have EF:k=k':=CW hs hq
   obtain⟨u,hu⟩:=aju.1 hc
   refine⟨by simp [kQ,hs,hq],.inr ⟨0,m.val,m,by simp [place,hq],rfl,?_,?_⟩⟩
   ·subst EF
    rw [CQ hu hk,CQ hu MK]
   ·exact⟨⟨hk,hc⟩,hv,A9⟩
  ·rename_i hq
   rw [aiK] at h
   obtain⟨es1,h1,rfl⟩:=h
   obtain⟨h2,h3⟩:=zt hc hk hv es es1 ms (i+1) A9 h1
   refine⟨by simp [kQ,hs,hq,h2],?_⟩
   have CX:iY k k'=false:=by simpa using hq
   rcases h3 with⟨h3,h4⟩| ⟨j,u,m',h3,h4,h5,h6⟩
   ·exact .inl ⟨by simp [place,CX,h3],fun b=>⟨⟨MK,hkc⟩,IG,h4 b⟩⟩
   ·exact .inr ⟨j+1,u,m',by simp [place,CX,h3]; omega,by simpa using h4,h5,⟨⟨MK,hkc⟩,IG,h6⟩⟩
 | [],_,_::_,_,h,_=>h.elim
 | _::_,_,[],_,h,_=>h.elim
theorem zu {x:AV}(h:x.nZ=true):∀k off,x≠.lp k off:=by rintro k off rfl; simp [AV.nZ] at h
theorem Bk {c:Cx}{Lo:Nat→Prop}{lam:Nat→Nat}{a:Act}(f:Fr L0 c Lo lam ds s a)(hbs:c.base≤c.w.heap.size){t:TypeId}{m k x:AV}{mv kv xv:Value}(hm:SR c L0 Lo lam s.bx m mv)(hk:SR c L0 Lo lam s.bx k kv)(hx:SR c L0 Lo lam s.bx x xv){h':AHeap}
  (h:kC P s.h t m k x=some h'):∃c',(Instr.mapUpdate t mv kv xv).run P c.w = .ok () c'.w∧Ext c Lo c' Lo∧Fr L0 c' Lo lam ds {s with h:=h'} a:=by
 unfold kC at h
 rw [aiJ] at h
 obtain⟨d,hd,h⟩:=h
 cases d<;>simp only at h<;>try (cases h; done)
 rename_i kt et
 split at h
 ·cases h
 rename_i nz
 obtain⟨Bi,hargs⟩:jx P kt k=true∧x.nZ=true:=by
  cases h1:jx P kt k<;>cases h2:x.nZ<;>simp [h1,h2] at nz ⊢
 have EG:VR c (un L0 Lo) k kv:=hk.vr (by rintro k0 off rfl; simp [jx] at Bi)
 have hxv:=hx.vr (zu hargs)
 cases m<;>simp only at h<;>try (cases h; done)
 rename_i id
 rw [aiJ] at h
 obtain⟨ob,ho,h⟩:=h
 cases ob with
 | cells cs=>cases h
 | row t cs=>cases h
 | map es=>
 rw [aiK] at h
 obtain⟨xo,hu,rfl⟩:=h
 simp only [SR,VR] at hm
 obtain⟨hi,r,rfl,hr⟩:=hm
 rw [←f.h] at ho
 have hl:Live c.h id:=⟨f.rel.lt _ _ ho,by simp [ho]⟩
 have ZM:=hr hl
 subst ZM
 obtain⟨oX,clock,h1,h2⟩:=f.rel.obj _ _ ho
 obtain⟨u0,SH,hsb⟩:=Hk Bi
 obtain⟨hf,hp⟩:=zt (by simp [SH]) EG hxv es xo oX.toList 0 h2 hu
 have ML:=BJ Bi EG c.w h2 hf
 have TG:=tl (P:=P) false 9998 Bi EG c.w
 have hget:(getObj (c.β id).1).run P c.w = .ok (.map oX clock) c.w:=MapKept.run_getObj_map h1
 rcases hp with⟨hp,zj⟩| ⟨j,u,m,hp,hj,hmk,zj⟩
 ·obtain⟨e',f'⟩:=f.CV hbs ho h1 (xz:=oX.push {key:=kv,val:=xv,born:=clock}) (tQ:=clock+1) (xo:=xo) (by simpa using zj clock)
  refine⟨_,?_,e',f'⟩
  unfold Instr.mapUpdate
  rw [hp] at ML
  simp only [Sem.run_bind,cp hd,Result.andThen_ok,hget,TG,ML]
  exact MapKept.run_setObj_map _ h1
 ·obtain⟨e',f'⟩:=f.CV hbs ho h1 (xz:=oX.modify j fun e=>{e with key:=kv,val:=xv}) (tQ:=clock) (xo:=xo) (by simpa using zj)
  refine⟨_,?_,e',f'⟩
  unfold Instr.mapUpdate
  rw [hp,ajf] at ML
  have GV:oX[j]? = some m:=by simpa using hj
  have QD:(Instr.keyThatStays m.key kv).run P c.w = .ok kv c.w:=by
   rw [hmk]
   unfold Instr.keyThatStays
   rw [CQ SH EG,hsb]
   rfl
  simp only [Sem.run_bind,cp hd,Result.andThen_ok,hget,TG,ML,GV,aiR,ajR,QD]
  exact MapKept.run_setObj_map _ h1
theorem uI (hb0:c0.base≤c0.w.heap.size){t:TypeId}{m k x:Operand}(ho:o.op = .mapUpdate t m k x∨o.op = .insert t m k x)(ya:o.dst=none){h':AHeap}
  (h:kC P s.h t (cZ s.ρ m) (cZ s.ρ k) (cZ s.ρ x)=some h'):mD P L0 c0 n ds o s {s with h:=h'}:=by
 rintro a w K Q ⟨hn,c,Lo,lam,rfl,f,e⟩ hK
 obtain⟨c',hr,e',f'⟩:=Bk f (my e hb0) (cL f m) (cL f k) (cL f x) h
 unfold Oper.wp
 have:(execOp a.eval o).run P c.w = .ok .skip c'.w:=by rcases ho with ho | ho<;>simp [execOp,ho,hr]
 rw [this,Oper.upon_skip]
 have TK:a.put o.dst undef=a:=by rw [ya]; rfl
 rw [TK]
 exact hK _ _ ⟨hn,c',Lo,lam,rfl,f',e.trans e'⟩
theorem MX (hb0:c0.base≤c0.w.heap.size)(hd:j7 n ds o){t:TypeId}{x:Operand}(ho:o.op = .call {callee:=.builtin .clear,args:=#[x],argTypes:=#[t]}){h':AHeap}
  (h:pH P s.h t (cZ s.ρ x)=some h'):mD P L0 c0 n ds o s ({s with h:=h'}.set o.dst (.tup [])):=by
 rintro a w K Q ⟨hn,c,Lo,lam,rfl,f,e⟩ hK
 unfold pH at h
 rw [aiJ] at h
 obtain⟨d,EM,h⟩:=h
 have hx:=cL f x
 have fin:∀c',(Builtin.clear_ #[t] o.type #[a.eval x]).run P c.w = .ok (.tuple #[]) c'.w→Ext c Lo c' Lo→Fr L0 c' Lo lam ds {s with h:=h'} a→o.wp P a c.w K Q:=by
  intro c' hr e' f'
  unfold Oper.wp
  have:(execOp a.eval o).run P c.w = .ok (.value (.tuple #[])) c'.w:=by
   simp [execOp,ho,resolve,invoke,builtin,hr]
  rw [this,Oper.upon_value]
  exact hK _ _ ⟨(j6 _ _ _).trans hn,c',Lo,lam,rfl,f'.set (SR.of (by simp [VR,VRs])) (fun t ht=>by rw [hn]; exact hd t ht),e.trans e'⟩
 cases Le:cZ s.ρ x<;>rw [Le] at h hx<;>simp only at h<;>try (cases h; done)
 ·rename_i id off len lq
  simp only [SR,VR] at hx
  split at h
  ·rename_i hl0
   cases h
   obtain⟨ad,cap,xA⟩:∃ad cap,a.eval x = .slice ad 0 cap:=by
    rcases hx with⟨_,_,_,ad,hx⟩| ⟨_,_,ad,cap,hx,_⟩
    ·exact⟨ad,0,hx⟩
    ·exact⟨ad,cap,by rw [hx,hl0]⟩
   refine fin c ?_ (Ext.refl _ _) f
   cases ad<;>cases d<;>simp [Builtin.clear_,cp EM,xA]
  rename_i hl0
  split at h
  ·cases h
  rename_i nV
  cases d<;>simp only at h<;>try (cases h; done)
  rename_i et
  simp only [aiJ] at h
  obtain⟨i,hi,z,hz,ob,hob,h⟩:=h
  cases ob with
  | map es=>cases h
  | row t cs=>cases h
  | cells cs=>
  simp only at h
  split at h
  rotate_left
  ·cases h
  rename_i hh
  obtain⟨MY,Ms,hz0,ZN,hoff⟩:=hh
  cases h
  rcases hx with hx | ⟨_,hid,ad,cap,hx,hlc,II,hlive⟩
  ·exact absurd hx.1 nV
  rw [←f.h] at hob
  have hl:Live c.h id:=⟨f.rel.lt _ _ hob,by simp [hob]⟩
  obtain⟨q,hp,hq,hc⟩:=f.rel.obj _ _ hob
  have ha:ad=some ⟨(c.β id).1,(c.β id).2+off,none⟩:=by
   rcases hlive hl with⟨h1,_⟩| h1
   ·exact h1
   ·exact absurd h1 (by omega)
  subst ha
  obtain⟨zv,MM,Hg⟩:=nk hz c.w
  obtain⟨GU,hz1⟩:=lL ZN (pJ (c:=c) (L:=un L0 Lo) Hg)
  have ZO:=GU.length
  have Mt:zv.cells.size=i.size:=by rw [←ajZ,←ZO,Ms]
  have hnl:(Builtin.zeroCells zv.cells len).toList.length=len*i.size:=by simp [Builtin.zeroCells,Mt]
  have hv:VRs c (un L0 Lo) (lu z.cells len) (Builtin.zeroCells zv.cells len).toList:=by
   have:=wg GU len (len*zv.cells.size) (by rw [Mt,Ms]; exact aiQ _) (by omega)
   rw [ajp (by simp [Mt,Ms])] at this
   exact this
  have hone:∀v∈(Builtin.zeroCells zv.cells len).toList,v.oneCell'=true:=by
   intro v hv
   simp only [Builtin.zeroCells,Array.toList_map,ajc] at hv
   obtain⟨j,hj,rfl⟩:=hv
   have yb:j % zv.cells.size<zv.cells.size:=Nat.mod_lt _ (by omega)
   rw [getElem!_pos zv.cells _ yb]
   exact hz1 _ (by simp)
  have TQ:(lu z.cells len).length=len*i.size:=by rw [lN,Ms]
  have hst:=ny (P:=P) hp.n7 (base:=(c.β id).2) (off:=off) (vs:=(Builtin.zeroCells zv.cells len).toList) (by rw [hnl]; rw [MY] at hoff; omega) hone
  obtain⟨q1,q2,q3,q4⟩:=kb (Builtin.zeroCells zv.cells len).toList (c.β id).1 ((c.β id).2+off) c.w
  have Eo:lj c (c.β id).1 q:=hp
  obtain⟨C,TP,hb,yL⟩:=hp
  obtain⟨C',g1,g2,g3⟩:=je (Builtin.zeroCells zv.cells len).toList (c.β id).1 ((c.β id).2+off) c.w C TP (0,0) hb (by rw [hnl]; rw [MY] at hoff; omega)
  obtain⟨e',f'⟩:=f.upd (w':=c.w.setCells (c.β id).1 ((c.β id).2+off) (Builtin.zeroCells zv.cells len).toList) (β':=c.β) (h':=s.h.put id (.cells (fm cs off (lu z.cells len)))) id (.cells (fm cs off (lu z.cells len)))
   (by rw [f.h]; exact Steady.put _ _ _) (by rw [←f.h]; exact akg hl.1) (by simp [AHeap.put,beq_nat]) (fun oC h1=>.inr ⟨by rw [f.h]; simp [AHeap.put,beq_nat,h1],rfl⟩) (fun _=>⟨hl,rfl⟩) (.inr ⟨id,hl,rfl,.inl rfl⟩)
   (fun _=>by simp only [Cx.len,World.shape?,g1,hb,aiR,ajR,g2])
   (fun b _ hne=>fY _ _ _ _ _ hne) (fun b _ hne=>fY _ _ _ _ _ hne) (by rw [q1]; exact aiQ _) (my e hb0) q2 q3 q4
   (fun ee=>⟨q,Eo.setCells (by rw [hnl]; rw [MY] at hoff; omega) _ _ _,by rw [kT]; exact hq,lM Eo.n7 hc hv hone (by rw [TQ]; rw [MY] at hoff; omega) (by omega) ee rfl⟩)
  refine fin _ ?_ e' f'
  cases len with
  | zero=>exact absurd rfl hl0
  | succ len=>simp [Builtin.clear_,cp EM,hx,MM,hst]
 ·cases h
  simp only [SR,VR] at hx
  refine fin c ?_ (Ext.refl _ _) f
  simp [Builtin.clear_,cp EM,hx]
 ·rename_i id
  rw [aiJ] at h
  obtain⟨ob,ho,h⟩:=h
  cases ob with
  | cells cs=>cases h
  | row t cs=>cases h
  | map es=>
  cases h
  simp only [SR,VR] at hx
  obtain⟨hi,r,xA,hr⟩:=hx
  rw [←f.h] at ho
  have hl:Live c.h id:=⟨f.rel.lt _ _ ho,by simp [ho]⟩
  have ZM:=hr hl
  subst ZM
  obtain⟨oX,clock,h1,h2⟩:=f.rel.obj _ _ ho
  obtain⟨e',f'⟩:=f.CV (my e hb0) ho h1 (xz:=#[]) (tQ:=clock) (xo:=[]) trivial
  refine fin _ ?_ e' f'
  have hget:(getObj (c.β id).1).run P c.w = .ok (.map oX clock) c.w:=MapKept.run_getObj_map h1
  have Hl:=MapKept.run_setObj_map (P:=P) (.map #[] clock) h1
  simp [Builtin.clear_,cp EM,xA,hget,Hl]
end
end Go.R
namespace Go.R
open Go
section
variable {P:Program}{L0:Nat→Prop}{c0:Cx}{n:Nat}{ds:List Nat}{o:Oper}{s:RS}
theorem rN {w:World}{t t2 ty e:TypeId}{i:TypeInfo}(ht:P.underlying t=some (.slice e))(hi:P.info? e=some i){base:Option Addr}{len cap:Nat}{x:Value}{news:List Value}{m:Nat}(hs:Src P i.size t2 x m news w)(hm:m≤len) :
  (Builtin.copy_ #[t,t2] ty #[.slice base len cap,x]).run P w=match base with | none=>.ok (goInt m) w | some a=>((storeCells a news).run P w).andThen fun _ w'=>.ok (goInt m) w':=by
 have WO:Nat.min m len=m:=ako hm
 have hlen:=hs.len w
 have hc:=hs.cells
 have hsz:(sizeOf e).run P w = .ok i.size w:=by simp [sizeOf,typeInfo,hi]
 unfold Builtin.copy_
 cases base with
 | none=>simp [cp ht,hlen,WO,hsz,hc]
 | some a=>simp [cp ht,hlen,WO,hsz,hc,Sem.run_bind]
theorem QE (hb0:c0.base≤c0.w.heap.size)(hd:j7 n ds o){t t2:TypeId}{dx sx:Operand}(ho:o.op = .call {callee:=.builtin .copy,args:=#[dx,sx],argTypes:=#[t,t2]}){y:AV}{h':AHeap}
  (h:xp P s.h t t2 (cZ s.ρ dx) (cZ s.ρ sx)=some (y,h')):mD P L0 c0 n ds o s ({s with h:=h'}.set o.dst y):=by
 rintro a w K Q ⟨hn,c,Lo,lam,rfl,f,e0⟩ hK
 have hbs:=my e0 hb0
 unfold xp at h
 rw [aiJ] at h
 obtain⟨d,EM,h⟩:=h
 cases d<;>simp only at h<;>try (cases h; done)
 rename_i e
 rw [aiJ] at h
 obtain⟨i,hi,h⟩:=h
 rw [aiJ] at h
 obtain⟨⟨new,m⟩,hcs,h⟩:=h
 simp only at h
 split at h
 ·cases h
 rename_i jz
 have jz:ly P t2 (cZ s.ρ sx)=true:=by simpa using jz
 have hk1:∀st,cZ s.ρ sx = .str st→P.underlying t2=some .string:=by
  intro st hst
  rw [hst] at jz
  unfold ly at jz
  simp only at jz
  split at jz
  ·assumption
  ·cases jz
 have wk:(∀st,cZ s.ρ sx≠.str st)→∃e',P.underlying t2=some (.slice e'):=by
  intro hne
  unfold ly at jz
  split at jz
  ·rename_i st hst; exact absurd hst (hne st)
  ·split at jz
   ·rename_i e' he; exact⟨e',he⟩
   ·cases jz
 have hk:(∃e',P.underlying t2=some (.slice e'))∨P.underlying t2=some .string:=by
  by_cases hst:∃st,cZ s.ρ sx = .str st
  ·obtain⟨st,hst⟩:=hst; exact .inr (hk1 st hst)
  ·exact .inl (wk fun st ZP=>hst ⟨st,ZP⟩)
 obtain⟨news,hS,hv⟩:=wi f (cL f sx) hk hk1 wk hcs
 have Ep:=cL f dx
 have fin:∀c',(Builtin.copy_ #[t,t2] o.type #[a.eval dx,a.eval sx]).run P c.w = .ok (goInt m) c'.w→Ext c Lo c' Lo→Fr L0 c' Lo lam ds {s with h:=h'} a→y = .int .i64 m→o.wp P a c.w K Q:=by
  intro c' hr e' f' hy
  unfold Oper.wp
  have:(execOp a.eval o).run P c.w = .ok (.value (goInt m)) c'.w:=by
   simp [execOp,ho,resolve,invoke,builtin,hr]
  rw [this,Oper.upon_value]
  exact hK _ _ ⟨(j6 _ _ _).trans hn,c',Lo,lam,rfl,f'.set (SR.of (by subst hy; simp [VR,goInt])) (fun t ht=>by rw [hn]; exact hd t ht),e0.trans e'⟩
 cases Le:cZ s.ρ dx<;>rw [Le] at h Ep<;>simp only at h<;>try (cases h; done)
 ·split at h
  rotate_left
  ·cases h
  rename_i zi
  cases h
  simp only [SR,VR] at Ep
  obtain⟨ad,Ep⟩:∃ad:Option Addr,a.eval dx = .slice ad 0 0:=⟨none,Ep⟩
  refine fin c ?_ (Ext.refl _ _) f (by rw [zi]; rfl)
  rw [Ep,rN EM hi hS (by omega)]
  cases ad with
  | none=>rfl
  | some ad=>
   have:news=[]:=ajs (by rw [hS.newsLen,zi]; simp)
   subst this
   rfl
 ·rename_i id off len lq
  split at h
  ·rename_i hid
   split at h
   rotate_left
   ·cases h
   rename_i zi
   cases h
   simp only [SR,VR] at Ep
   rcases Ep with⟨_,_,_,ad,Ep⟩| Ep
   rotate_left
   ·exact absurd hid Ep.1
   refine fin c ?_ (Ext.refl _ _) f (by rw [zi]; rfl)
   rw [Ep,rN EM hi hS (by omega)]
   cases ad with
   | none=>rfl
   | some ad=>
    have:news=[]:=ajs (by rw [hS.newsLen,zi]; simp)
    subst this
    rfl
  rename_i nV
  rw [aiJ] at h
  obtain⟨ob,hob,h⟩:=h
  cases ob with
  | map es=>cases h
  | row t cs=>cases h
  | cells cs=>
  simp only at h
  split at h
  rotate_left
  ·cases h
  rename_i hh
  obtain⟨MY,VY,hoff⟩:=hh
  cases h
  simp only [SR,VR] at Ep
  rcases Ep with Ep | ⟨_,hid,ad,cap,Ep,hlc,II,hlive⟩
  ·exact absurd Ep.1 nV
  rw [←f.h] at hob
  have hl:Live c.h id:=⟨f.rel.lt _ _ hob,by simp [hob]⟩
  obtain⟨q,hp,hq,hc⟩:=f.rel.obj _ _ hob
  have hnl:=hS.newsLen
  have hvl:=hv.length
  have hr:=rN (ty:=o.type) EM hi hS VY (base:=ad) (cap:=cap)
  by_cases ha:ad=some ⟨(c.β id).1,(c.β id).2+off,none⟩
  ·subst ha
   simp only at hr
   have hst:=ny (P:=P) hp.n7 (base:=(c.β id).2) (off:=off) (vs:=news) (by omega) hS.one
   rw [hst] at hr
   simp only [Result.andThen_ok] at hr
   obtain⟨q1,q2,q3,q4⟩:=kb news (c.β id).1 ((c.β id).2+off) c.w
   have Eo:lj c (c.β id).1 q:=hp
   obtain⟨C,TP,hb,yL⟩:=hp
   obtain⟨C',g1,g2,g3⟩:=je news (c.β id).1 ((c.β id).2+off) c.w C TP (0,0) hb (by omega)
   obtain⟨e',f'⟩:=f.upd (w':=c.w.setCells (c.β id).1 ((c.β id).2+off) news) (β':=c.β) (h':=s.h.put id (.cells (fm cs off new))) id (.cells (fm cs off new))
    (by rw [f.h]; exact Steady.put _ _ _) (by rw [←f.h]; exact akg hl.1) (by simp [AHeap.put,beq_nat]) (fun oC h1=>.inr ⟨by rw [f.h]; simp [AHeap.put,beq_nat,h1],rfl⟩) (fun _=>⟨hl,rfl⟩) (.inr ⟨id,hl,rfl,.inl rfl⟩)
    (fun _=>by simp only [Cx.len,World.shape?,g1,hb,aiR,ajR,g2])
    (fun b _ hne=>fY _ _ _ _ _ hne) (fun b _ hne=>fY _ _ _ _ _ hne) (by rw [q1]; exact aiQ _) hbs q2 q3 q4
    (fun ee=>⟨q,Eo.setCells (by omega) _ _ _,by rw [kT]; exact hq,lM Eo.n7 hc hv hS.one (by omega) (by omega) ee rfl⟩)
   refine fin _ ?_ e' f' rfl
   rw [Ep]
   exact hr
  ·have hz:new=[]∧m=0∧news=[]:=by
    rcases hlive hl with⟨h1,_⟩| h1
    ·exact absurd h1 ha
    ·have h0:m=0:=by omega
     have h2:news=[]:=ajs (by rw [hnl,h0]; simp)
     subst h2
     exact⟨ajs (by simpa using hvl),h0,rfl⟩
   obtain⟨rfl,rfl,rfl⟩:=hz
   have tq:fm cs off []=cs:=by simp [fm]
   rw [tq] at *
   obtain⟨e',f'⟩:=f.upd (w':=c.w) (β':=c.β) (h':=s.h.put id (.cells cs)) id (.cells cs)
    (by rw [f.h]; exact Steady.put _ _ _) (by rw [←f.h]; exact akg hl.1) (by simp [AHeap.put,beq_nat]) (fun oC h1=>.inr ⟨by rw [f.h]; simp [AHeap.put,beq_nat,h1],rfl⟩) (fun _=>⟨hl,rfl⟩) (.inr ⟨id,hl,rfl,.inl rfl⟩)
    (fun _=>rfl) (fun b _ hne=>rfl) (fun b _ hne=>rfl) (aiQ _) hbs rfl rfl rfl
    (fun ee=>uE.ext ee ⟨q,hp,hq,hc⟩ rfl)
   refine fin _ ?_ e' f' rfl
   rw [Ep,hr]
   cases ad<;>rfl
end
end Go.R
namespace Go.R
open Go
section
variable {P:Program}{L0:Nat→Prop}{c0:Cx}{n:Nat}{ds:List Nat}{o:Oper}{s:RS}
theorem wo {e:TypeId}(h:MF P e=true):P.underlying e=some (.int .u8)∧iR P e=some 1:=by
 unfold MF at h
 simp only [aiM,beq_iff_eq] at h
 obtain⟨h1,h2⟩:=h
 refine⟨?_,h2⟩
 split at h1
 ·assumption
 ·cases h1
theorem IU {c:Cx}{L:Nat→Prop}:∀{cs:List AV} {l:List UInt8} {vs:List Value},Sz cs=some l→VRs c L cs vs→∃xs:List Int,vs=xs.map (Value.int .u8)∧l=xs.map fun n=>UInt8.ofNat n.toNat
 | [],l,[],h,_=>by simp only [Sz,aiL] at h; subst h; exact⟨[],rfl,rfl⟩
 | x::cs,l,v::vs,h,hv=>by
  unfold Sz at h
  split at h
  ·rename_i heq; cases heq
  ·rename_i n xs heq
   cases heq
   rw [aiK] at h
   obtain⟨l',h1,rfl⟩:=h
   obtain⟨ys,rfl,rfl⟩:=IU h1 hv.2
   have h2:=hv.1
   simp only [VR] at h2
   subst h2
   exact⟨n::ys,rfl,rfl⟩
  ·cases h
 | [],_,_::_,_,h=>h.elim
 | _::_,_,[],_,h=>h.elim
theorem CY (xs:List Int):strOfNums xs=⟨(xs.map fun n=>UInt8.ofNat n.toNat).toArray⟩:=rfl
theorem EN {w:World}{src dst e:TypeId}{v:Value}{m:Nat}{xs:List Int}(hs:P.underlying src=some (.slice e))(he:P.underlying e=some (.int .u8))(hd:P.underlying dst=some .string)
  (hS:Src P 1 src v m (xs.map (Value.int .u8)) w) (hv:∃a cap,v = .slice a m cap):(convert src dst v).run P w = .ok (.string (strOfNums xs)) w:=by
 obtain⟨a,cap,rfl⟩:=hv
 have hc:=hS.cells
 have hl:=hS.newsLen
 cases a with
 | none=>
  have:xs=[]:=by
   simp [Builtin.firstCells] at hc
   cases xs with
   | nil=>rfl
   | cons x xs=>simp at hc
  subst this
  exact run_convert_bytes_nil w src e hs he m cap dst hd
 | some a=>
  rw [run_convert_bytes_string w src dst e (some a) m cap hs he hd]
  have h1:(loadCells a m).run P w = .ok (xs.map (Value.int .u8)).toArray w:=by simpa [Builtin.firstCells] using hc
  rw [run_bytesToString w a m cap xs h1,foldl_push_bytes]
  simp [strOfNums,ByteArray.empty,ByteArray.emptyWithCapacity]
  rfl
theorem Bl {c:Cx}{Lo:Nat→Prop}{lam:Nat→Nat}{x:AV}{v:Value}{h:AHeap}{size m:Nat}{new:List AV}(hx:SR c L0 Lo lam s.bx x v)(hc:fW h size x=some (new,m))(hne:∀st,x≠.str st):∃a cap,v = .slice a m cap:=by
 unfold fW at hc
 cases x<;>simp only at hc<;>try (cases hc; done)
 ·exact absurd rfl (hne _)
 ·cases hc
  simp only [SR,VR] at hx
  subst hx
  exact⟨none,0,rfl⟩
 ·split at hc
  ·cases hc
   simp only [SR,VR] at hx
   obtain⟨a,cap,rfl,_⟩:=hx
   exact⟨a,cap,rfl⟩
  ·cases hc
 ·split at hc
  ·split at hc
   ·cases hc
    simp only [SR,VR] at hx
    rename_i hid hl0
    rcases hx with⟨_,_,_,a,rfl⟩| ⟨_,_,a,cap,rfl,_⟩
    ·exact⟨a,0,rfl⟩
    ·exact⟨a,cap,by rw [hl0]⟩
   ·cases hc
  rename_i nV
  rw [aiJ] at hc
  obtain⟨ob,_,hc⟩:=hc
  cases ob with
  | map es=>cases hc
  | row t cs=>cases hc
  | cells cs=>
   simp only at hc
   split at hc
   ·cases hc
    simp only [SR,VR] at hx
    rcases hx with hx | ⟨_,_,a,cap,rfl,_⟩
    ·exact absurd (.inl hx.1) nV
    exact⟨a,cap,rfl⟩
   ·cases hc
theorem bytes_VRs {c:Cx}{L:Nat→Prop}:∀l:List UInt8,VRs c L (l.map fun b=>AV.int .u8 b.toNat) (l.map fun b=>Value.int .u8 b.toNat)
 | []=>trivial
 | b::l=>⟨by simp [VR],bytes_VRs l⟩
theorem CZ {w:World}{b o k:Nat}{C:Array Value}{e:TypeId}{fr:Nat × Nat}(hb:w.heap[b]? = some (.cells C e fr))(ho:C.size≤o)(hk:k≠0) :
  (∀b',kR w (w.freeze ⟨b,o,none⟩ k) b')∧(∀b',b'≠b→(w.freeze ⟨b,o,none⟩ k).heap[b']? = w.heap[b']?)∧(w.freeze ⟨b,o,none⟩ k).heap.size=w.heap.size∧(w.freeze ⟨b,o,none⟩ k).os=w.os∧(w.freeze ⟨b,o,none⟩ k).tape=w.tape∧(w.freeze ⟨b,o,none⟩ k).output=w.output:=by
 unfold World.freeze
 rw [if_neg hk]
 have hlt:=(ajt.1 hb).1
 refine⟨fun b'=>?_,fun b' hne=>by simp [aj3,Ne.symm hne],by simp,rfl,rfl,rfl⟩
 by_cases hne:b'=b
 ·subst hne
  obtain⟨lo,hi⟩:=fr
  refine .inr ⟨C,e,lo,hi,(if lo==hi then (o,o+k) else (min lo o,max hi (o+k))).1,(if lo==hi then (o,o+k) else (min lo o,max hi (o+k))).2,hb,?_,?_⟩
  ·simp [aj3,hb]
  ·intro h
   by_cases ZQ:lo=hi
   ·subst ZQ; right; simpa using ho
   ·have:(lo==hi)=false:=by simpa using ZQ
    right
    simp only [this,aiW,if_false]
    rcases h with h | h
    ·exact absurd h ZQ
    ·exact Nat.le_min.2 ⟨h,ho⟩
 ·exact .inl (by simp [aj3,Ne.symm hne])
theorem Hm (hb0:c0.base≤c0.w.heap.size)(hd:j7 n ds o){src dst:TypeId}{x:Operand}(ho:o.op = .convert src dst x){y:AV}(h:rG P s.h src dst (cZ s.ρ x)=some y):mD P L0 c0 n ds o s (s.set o.dst y):=by
 have hex:∀(a:Act) (w w':World) v,(convert src dst (a.eval x)).run P w = .ok v w'→(execOp a.eval o).run P w = .ok (.value v) w':=by
  intro a w w' v hr; simp [execOp,ho,hr]
 unfold rG at h
 split at h
 ·rename_i e hs GS
  split at h
  rotate_left
  ·cases h
  rename_i hu
  obtain⟨he,hsz⟩:=wo hu
  rw [aiJ] at h
  obtain⟨⟨cs,m⟩,hcs,h⟩:=h
  rw [aiK] at h
  obtain⟨l,hl,rfl⟩:=h
  by_cases hst:∃st,cZ s.ρ x = .str st
  ·
   obtain⟨st,hst⟩:=hst
   refine jy hd fun a c Lo lam f hn=>?_
   have hx:=cL f x
   rw [hst] at hx hcs
   simp only [SR,VR] at hx
   simp only [fW,if_true,aiL,aiV] at hcs
   obtain⟨rfl,rfl⟩:=hcs
   refine⟨_,hex _ _ _ (.string st) ?_,?_⟩
   ·simp [convert,run_underlying hs,run_underlying GS,hx]
   ·have:∀(l0 l1:List UInt8),Sz (l0.map fun b=>AV.int .u8 b.toNat)=some l1→l1=l0:=by
     intro l0
     induction l0 with
     | nil=>intro l1 h; simp [Sz] at h; exact h
     | cons b l0 ih=>
      intro l1 h
      simp only [ai9,Sz,aiK] at h
      obtain⟨l2,h2,rfl⟩:=h
      rw [ih l2 h2]
      simp
    rw [this _ _ hl]
    simp [SR,VR]
  ·refine jy hd fun a c Lo lam f hn=>?_
   have hne:∀st,cZ s.ρ x≠.str st:=fun st h=>hst ⟨st,h⟩
   have hx:=cL f x
   obtain⟨news,hS,hv⟩:=wi f hx (.inl ⟨e,hs⟩) (fun st h=>absurd h (hne st)) (fun _=>⟨e,hs⟩) hcs
   obtain⟨xs,rfl,rfl⟩:=IU hl hv
   exact⟨_,hex _ _ _ _ (EN hs he GS hS (Bl hx hcs hne)),by simp [SR,VR,CY]⟩
 ·rename_i e hs GS
  cases Le:cZ s.ρ x<;>rw [Le] at h<;>simp only at h<;>try (cases h; done)
  rename_i st
  split at h
  rotate_left
  ·cases h
  rename_i hu
  obtain⟨he,hsz⟩:=wo hu
  cases h
  refine zo hb0 hd (fun a c Lo lam f hn hbs=>?_) (by rintro k off h; cases h)
  have hx:=cL f x
  rw [Le] at hx
  simp only [SR,VR] at hx
  have hr:=run_bytes_of_string c.w src dst e st hs GS he
  rw [←hx] at hr
  refine⟨_,_,hex _ _ _ _ hr,fun b hb=>.inl (alloc_old c.w.drew _ (show b<c.w.heap.size from hb)),fun id hl=>alloc_old c.w.drew _ (show (c.β id).1<c.w.heap.size from f.rel.block hl),fun b hb=>alloc_old c.w.drew _ (show b<c.w.heap.size by omega),by show c.w.heap.size≤(c.w.heap.push _).size; simp,rfl,rfl,rfl,fun e'=>?_⟩
  simp only [VR]
  refine⟨_,_,rfl,grownCap_ge c.w,by simp,.inl rfl,?_⟩
  refine .inr ⟨c.w.heap.size,0,rfl,MU f.rel rfl rfl,by simp,?_⟩
  refine Cells.of_vals (bytes_VRs st.data.toList) (fun i hi=>?_) (fun v hv=>by obtain⟨b,_,rfl⟩:=ajc.1 hv; rfl)
  have mZ:i<st.data.size:=by simpa using hi
  have:(World.alloc c.w.drew (.cells (bytesRow st (grownCap c.w st.size 0 e)) e ((bytesRow st (grownCap c.w st.size 0 e)).size,(bytesRow st (grownCap c.w st.size 0 e)).size+1))).heap[c.w.heap.size]? = some (.cells (bytesRow st (grownCap c.w st.size 0 e)) e ((bytesRow st (grownCap c.w st.size 0 e)).size,(bytesRow st (grownCap c.w st.size 0 e)).size+1)):=lz c.w.drew _
  rw [cell_of_block this]
  simp [bytesRow,Array.getElem?_append,mZ]
  intro hge
  have:st.size=st.data.size:=rfl
  omega
 ·rename_i e0 e hs GS
  cases Le:cZ s.ρ x<;>rw [Le] at h<;>try (cases h; done)
  rename_i cs m ex
  cases ex
  ·cases h
  simp only at h
  split at h
  rotate_left
  ·cases h
  rename_i hu
  simp only [aiM,beq_iff_eq,decide_eq_true_eq] at hu
  obtain⟨⟨hsd,hu⟩,pO⟩:=hu
  subst hsd
  obtain⟨he,hsz⟩:=wo hu
  cases h
  refine zo hb0 hd (fun a c Lo lam f hn hbs=>?_) (by rintro k off h; cases h)
  have hx:=cL f x
  rw [Le] at hx
  have QF:=hx.vr (by rintro k off h; cases h)
  simp only [SR,VR] at hx
  obtain⟨ad,cap,xA,h1,h2,_,h3⟩:=hx
  rcases h3 with rfl | ⟨b,off,rfl,SC,hbb,hc⟩
  ·simp at pO
  have hlt:b<c.w.heap.size:=by
   cases cs with
   | nil=>simp at pO
   | cons x cs=>exact nu hc
  have tq:∃C e' fr,c.w.heap[b]? = some (.cells C e' fr):=by
   cases cs with
   | nil=>simp at pO
   | cons x cs=>
    obtain⟨⟨v,hv,_⟩,_⟩:=hc
    unfold World.cell? at hv
    split at hv
    ·exact⟨_,_,_,by assumption⟩
    ·cases hv
  obtain⟨C,e',fr,hb⟩:=tq
  obtain⟨k1,k2,k3,k4,k5,k6⟩:=CZ (k:=1) hb (aiQ C.size) (by decide)
  refine⟨c.w.freeze ⟨b,C.size,none⟩ 1,a.eval x,hex _ _ _ _ ?_,fun b' _=>k1 b',fun id hl=>k2 _ (SC.1 id hl),fun b' Ba=>k2 b' (by have:=hbb trivial; omega),by rw [k3]; exact aiQ _,k4,k5,k6,fun TP=>VR.ext TP _ _ QF⟩
  rw [xA]
  have Qd:c.w.shape? b=some (e',C.size):=by simp [World.shape?,hb]
  simp [convert,run_underlying GS,run_underlying he,markStringish,Qd]
 ·rw [aiJ] at h
  obtain⟨v,hv,h⟩:=h
  rw [aiJ] at h
  obtain⟨r,hr,h⟩:=h
  refine jy hd fun a c Lo lam f hn=>?_
  have hx:=oY hv ((cL f x).vr (oZ hv))
  exact⟨r,hex _ _ _ _ (by rw [hx]; exact n9 _ hr),SR.of (sJ h)⟩
theorem gO {op:BinOp}{t:TypeId}{x y:Operand}{u v:Value}(h:(∀a b,u≠.agg a∨v≠.agg b)∧u≠.nilIface)(w:World):(eqGuard op t x y u v).run P w = .ok () w:=by
 obtain⟨h1,h2⟩:=h
 unfold eqGuard
 cases op<;>first | rfl | skip
 all_goals
  simp only [ajA,aiW,if_false]
  split
  ·exact absurd rfl h2
  ·rename_i a b; rcases h1 a b with h3 | h3<;>exact absurd rfl h3
  ·rfl
theorem Hn {x:AV}{u:Value}(h:x.jZ=some u):(∀a,u≠.agg a)∧u≠.nilIface:=by
 unfold AV.jZ at h
 split at h<;>first | (cases h; done) | (cases h; exact⟨fun _=>(by simp),(by simp)⟩)
theorem Li {op:BinOp}{a b:ByteArray}{y:AV}(h:G4 op a b=some y)(w:World):∃r,(Op.stringOp op a b).run P w = .ok r w∧∀(c:Cx) (L:Nat→Prop),VR c L y r:=by
 have hl:∀z:ByteArray,z.toList=z.data.toList:=fun z=>ByteArray.toList_eq z
 unfold G4 at h
 unfold Op.stringOp
 simp only [hl]
 cases op<;>simp only at h<;>try (cases h; done)
 ·split at h
  rotate_left
  ·cases h
  rename_i hsz
  cases h
  refine⟨.string (a++b),?_,fun c L=>by simp only [VR]⟩
  have h1:¬(((a.size+b.size:Nat):Int) > IntKind.i64.max):=by
   have:IntKind.i64.max=9223372036854775807:=by decide
   rw [this]; omega
  simp only [h1,if_false]
  rfl
 all_goals (cases h; exact⟨_,rfl,fun c L=>by simp only [VR]⟩)
theorem sK {op:BinOp}{vU:Bool}(h:G5 op=some vU):(op = .eql∧vU=true)∨(op = .neq∧vU=false):=by
 unfold G5 at h
 split at h<;>cases h
 ·exact .inl ⟨rfl,rfl⟩
 ·exact .inr ⟨rfl,rfl⟩
theorem tR {t:TypeId}(ht:∃q,P.underlying t=some (.pointer q)){a:Addr}{op:BinOp}{vU:Bool}(h:G5 op=some vU)(w:World) :
  (binOp op t (.pointer (some a)) (.pointer none)).run P w = .ok (.bool (!vU)) w∧(binOp op t (.pointer none) (.pointer (some a))).run P w = .ok (.bool (!vU)) w:=by
 obtain⟨q,hq⟩:=ht
 have e1:(Op.equal t (.pointer (some a)) (.pointer none)).run P w = .ok false w:=by
  unfold Op.equal Op.maxDepth
  unfold Op.equalIn
  simp [cp hq]
 have e2:(Op.equal t (.pointer none) (.pointer (some a))).run P w = .ok false w:=by
  unfold Op.equal Op.maxDepth
  unfold Op.equalIn
  simp [cp hq]
 rcases sK h with⟨rfl,rfl⟩| ⟨rfl,rfl⟩
 ·constructor
  ·show ((do pure (.bool (←Op.equal t (.pointer (some a)) (.pointer none)))):Sem Value).run P w=_
   simp [e1]
  ·show ((do pure (.bool (←Op.equal t (.pointer none) (.pointer (some a))))):Sem Value).run P w=_
   simp [e2]
 ·constructor
  ·show ((do pure (.bool (!(←Op.equal t (.pointer (some a)) (.pointer none))))):Sem Value).run P w=_
   simp [e1]
  ·show ((do pure (.bool (!(←Op.equal t (.pointer none) (.pointer (some a)))))):Sem Value).run P w=_
   simp [e2]
theorem uJ {t:TypeId}(ht:∃q,P.underlying t=some (.slice q)){ad:Option Addr}(hs:ad.isSome=true){m cap:Nat}{op:BinOp}{vU:Bool}(h:G5 op=some vU)(w:World) :
  (binOp op t (.slice ad m cap) (.slice none 0 0)).run P w = .ok (.bool (!vU)) w:=by
 obtain⟨q,hq⟩:=ht
 obtain⟨a,rfl⟩:=aju.1 hs
 have e1:(Op.equal t (.slice (some a) m cap) (.slice none 0 0)).run P w = .ok false w:=by
  unfold Op.equal Op.maxDepth
  unfold Op.equalIn
  simp [cp hq]
 rcases sK h with⟨rfl,rfl⟩| ⟨rfl,rfl⟩
 ·show ((do pure (.bool (←Op.equal t (.slice (some a) m cap) (.slice none 0 0)))):Sem Value).run P w=_
  simp [e1]
 ·show ((do pure (.bool (!(←Op.equal t (.slice (some a) m cap) (.slice none 0 0))))):Sem Value).run P w=_
  simp [e1]
theorem MZ (hd:j7 n ds o){op:BinOp}{t t2:TypeId}{x y:Operand}(ho:o.op = .binOp op t x y t2){z:AV}(h:rH P op t (cZ s.ρ x) (cZ s.ρ y)=some z):mD P L0 c0 n ds o s (s.set o.dst z):=by
 refine jy hd fun a c Lo lam f hn=>?_
 have hx:=cL f x
 have hy:=cL f y
 have hex:∀v,(eqGuard op t x y (a.eval x) (a.eval y)).run P c.w = .ok () c.w→(binOp op t (a.eval x) (a.eval y)).run P c.w = .ok v c.w→(execOp a.eval o).run P c.w = .ok (.value v) c.w:=by
  intro v h1 h2; simp [execOp,ho,h1,h2]
 unfold rH at h
 split at h
 ·rename_i p q hp hq
  rw [hp] at hx; rw [hq] at hy
  simp only [SR,VR] at hx hy
  obtain⟨r,hr,hv⟩:=Li (P:=P) h c.w
  refine⟨r,hex _ (gO ⟨fun _ _=>.inl (by rw [hx]; simp),by rw [hx]; simp⟩ _) ?_,SR.of (hv _ _)⟩
  rw [hx,hy]
  unfold binOp
  simpa using hr
 ·rename_i p q hp hq
  rw [hp] at hx; rw [hq] at hy
  simp only [SR,VR] at hx hy
  obtain⟨_,ad,xA,_⟩:=hx
  rw [aiJ] at h
  obtain⟨vU,yc,h⟩:=h
  split at h
  rotate_left
  ·cases h
  rename_i ht
  cases h
  refine⟨.bool (!vU),hex _ (gO ⟨fun _ _=>.inl (by rw [xA]; simp),by rw [xA]; simp⟩ _) ?_,SR.of (by simp [VR])⟩
  rw [xA,hy]
  exact (tR ⟨_,ht⟩ yc _).1
 ·rename_i p q hp hq
  rw [hp] at hx; rw [hq] at hy
  simp only [SR,VR] at hx hy
  obtain⟨_,ad,Y7,_⟩:=hy
  rw [aiJ] at h
  obtain⟨vU,yc,h⟩:=h
  split at h
  rotate_left
  ·cases h
  rename_i ht
  cases h
  refine⟨.bool (!vU),hex _ (gO ⟨fun _ _=>.inl (by rw [hx]; simp),by rw [hx]; simp⟩ _) ?_,SR.of (by simp [VR])⟩
  rw [hx,Y7]
  exact (tR ⟨_,ht⟩ yc _).2
 ·rename_i p q hp hq
  rw [hp] at hx; rw [hq] at hy
  simp only [SR,VR] at hx hy
  obtain⟨b,off,xA,_⟩:=hx
  rw [aiJ] at h
  obtain⟨vU,yc,h⟩:=h
  split at h
  rotate_left
  ·cases h
  rename_i ht
  cases h
  refine⟨.bool (!vU),hex _ (gO ⟨fun _ _=>.inl (by rw [xA]; simp),by rw [xA]; simp⟩ _) ?_,SR.of (by simp [VR])⟩
  rw [xA,hy]
  exact (tR ⟨_,ht⟩ yc _).1
 ·rename_i hp hq
  rw [hp] at hx; rw [hq] at hy
  simp only [SR,VR] at hx hy
  obtain⟨ad,cap,xA,_,_,hs,_⟩:=hx
  replace hs:ad.isSome=true:=hs.elim id fun h=>by cases h.1
  rw [aiJ] at h
  obtain⟨vU,yc,h⟩:=h
  split at h
  rotate_left
  ·cases h
  rename_i ht
  cases h
  refine⟨.bool (!vU),hex _ (gO ⟨fun _ _=>.inl (by rw [xA]; simp),by rw [xA]; simp⟩ _) ?_,SR.of (by simp [VR])⟩
  rw [xA,hy]
  exact uJ ⟨_,ht⟩ hs yc _
 ·rename_i hp hq
  rw [hp] at hx; rw [hq] at hy
  simp only [SR,VR] at hx hy
  rcases hx with⟨hx,_⟩| ⟨_,_,ad,cap,xA,_,hs,_⟩
  ·omega
  rw [aiJ] at h
  obtain⟨vU,yc,h⟩:=h
  split at h
  rotate_left
  ·cases h
  rename_i ht
  cases h
  refine⟨.bool (!vU),hex _ (gO ⟨fun _ _=>.inl (by rw [xA]; simp),by rw [xA]; simp⟩ _) ?_,SR.of (by simp [VR])⟩
  rw [xA,hy]
  exact uJ ⟨_,ht⟩ hs yc _
 ·rename_i p q hp hq
  rw [hp,hq] at h
  rw [hp] at hx; rw [hq] at hy
  have QF:=hx.vr (by rintro k off h; cases h)
  have ZR:=hy.vr (by rintro k off h; cases h)
  rw [aiJ] at h
  obtain⟨vU,yc,h⟩:=h
  split at h
  rotate_left
  ·cases h
  rename_i nz
  simp only [aiM,ajX] at nz
  obtain⟨⟨⟨h1,h2⟩,h3⟩,h4⟩:=nz
  cases h
  have hk:=BH (P:=P) 9998 h1 h3 QF ZR c.w
  simp only [VR] at QF ZR
  obtain⟨vx,xA,_⟩:=QF
  obtain⟨vy,Y7,_⟩:=ZR
  refine⟨.bool (iY (.agg p) (.agg q)==vU),hex _ ?_ ?_,SR.of (by simp only [VR])⟩
  ·rw [xA,Y7]
   rcases sK yc with⟨rfl,rfl⟩| ⟨rfl,rfl⟩<;>simp [eqGuard,h4,program,Sem.run]
  ·rw [xA,Y7] at hk ⊢
   rcases sK yc with⟨rfl,rfl⟩| ⟨rfl,rfl⟩
   ·show ((do pure (.bool (←Op.equal t (.agg vx) (.agg vy)))):Sem Value).run P c.w=_
    have Wy:(Op.equal t (.agg vx) (.agg vy)).run P c.w=_:=hk
    simp [Wy]
   ·show ((do pure (.bool (!(←Op.equal t (.agg vx) (.agg vy))))):Sem Value).run P c.w=_
    have Wy:(Op.equal t (.agg vx) (.agg vy)).run P c.w=_:=hk
    simp [Wy]
 ·rw [aiJ] at h
  obtain⟨u,hu,h⟩:=h
  rw [aiJ] at h
  obtain⟨v,hv,h⟩:=h
  rw [aiJ] at h
  obtain⟨r,hr,h⟩:=h
  have h1:=oY hu (hx.vr (oZ hu))
  have h2:=oY hv (hy.vr (oZ hv))
  have h3:=Hn hu
  exact⟨r,hex _ (gO ⟨fun p _=>.inl (by rw [h1]; exact h3.1 p),by rw [h1]; exact h3.2⟩ _) (by rw [h1,h2]; exact n9 _ hr),SR.of (sJ h)⟩
theorem QG (hd:j7 n ds o){op:UnOp}{t:TypeId}{x:Operand}(ho:o.op = .unOp op t x){z:AV}(h:((cZ s.ρ x).jZ.bind fun a=>(lK P (Op.unary op a)).bind uB)=some z):mD P L0 c0 n ds o s (s.set o.dst z):=by
 refine jy hd fun a c Lo lam f hn=>?_
 rw [aiJ] at h
 obtain⟨u,hu,h⟩:=h
 rw [aiJ] at h
 obtain⟨r,hr,h⟩:=h
 have h1:=oY hu ((cL f x).vr (oZ hu))
 refine⟨r,?_,SR.of (sJ h)⟩
 have:=n9 (P:=P) c.w hr
 rw [←h1] at this
 simp [execOp,ho,this]
theorem IV (hd:j7 n ds o){x:Operand}(ho:o.op = .move x∨o.op = .assign x):mD P L0 c0 n ds o s (s.set o.dst (cZ s.ρ x)):=
 jy hd fun a c Lo lam f hn=>⟨a.eval x,by rcases ho with ho | ho<;>simp [execOp,ho],cL f x⟩
theorem QH (hd:j7 n ds o){k x y:Operand}(ho:o.op = .pick k x y){t:Bool}(h:zc (cZ s.ρ k)=some t):mD P L0 c0 n ds o s (s.set o.dst (if t then cZ s.ρ x else cZ s.ρ y)):=by
 refine jy hd fun a c Lo lam f hn=>?_
 have hk:=cL f k
 unfold zc at h
 split at h
 ·rename_i b hb
  cases h
  rw [hb] at hk
  simp only [SR,VR] at hk
  refine⟨if t then a.eval x else a.eval y,by simp [execOp,ho,hk,asBool],?_⟩
  cases t
  ·exact cL f y
  ·exact cL f x
 ·cases h
theorem EO (hd:j7 n ds o){x:Operand}(ho:o.op = .nilCheck x){z:AV}(h:vZ (cZ s.ρ x)=some z):mD P L0 c0 n ds o s (s.set o.dst z):=by
 refine jy hd fun a c Lo lam f hn=>?_
 have hx:=cL f x
 have hp:(∃ad,a.eval x = .pointer (some ad))∧z=cZ s.ρ x:=by
  unfold vZ at h
  split at h
  ·rename_i id off heq
   cases h
   rw [heq] at hx
   simp only [SR,VR] at hx
   obtain⟨_,ad,h1,_⟩:=hx
   exact⟨⟨ad,h1⟩,heq.symm⟩
  ·rename_i k off heq
   cases h
   rw [heq] at hx
   simp only [SR] at hx
   exact⟨⟨_,hx.1⟩,heq.symm⟩
  ·rename_i cs off heq
   cases h
   rw [heq] at hx
   simp only [SR,VR] at hx
   obtain⟨b,o',h1,_⟩:=hx
   exact⟨⟨_,h1⟩,heq.symm⟩
  ·cases h
 obtain⟨⟨ad,hp⟩,rfl⟩:=hp
 exact⟨a.eval x,by simp [execOp,ho,hp],hx⟩
theorem sL {c:Cx}{Lo:Nat→Prop}{lam:Nat→Nat}{a:Act}(f:Fr L0 c Lo lam ds s a):∀xs:List Operand,(∀x∈xs,∀k off,cZ s.ρ x≠.lp k off)→VRs c (un L0 Lo) (xs.map (cZ s.ρ)) (xs.map a.eval)
 | [],_=>trivial
 | x::xs,h=>⟨(cL f x).vr (h x (by simp)),sL f xs fun y hy=>h y (by simp [hy])⟩
theorem Lj {x:AV}(h:x.dp=true):∀k off,x≠.lp k off:=by rintro k off rfl; simp [AV.dp] at h
theorem EP (hd:j7 n ds o){Ho:FuncId}{first cap:Array Operand}(ho:o.op = .makeFunc (.func Ho) first cap)(hf:first.isEmpty=true)(hc:(cap.toList.map (cZ s.ρ)).all AV.dp=true):mD P L0 c0 n ds o s (s.set o.dst (.fn Ho (cap.toList.map (cZ s.ρ)))):=by
 refine jy hd fun a c Lo lam f hn=>?_
 have WQ:first = #[]:=by simpa using hf
 subst WQ
 refine⟨.func (.func Ho) #[] (cap.map a.eval),by simp [execOp,ho,Instr.makeFunc],SR.of ?_⟩
 simp only [VR]
 refine⟨_,rfl,?_⟩
 rw [Array.toList_map]
 refine sL f _ fun x hx=>Lj ?_
 rw [ajd] at hc
 exact hc _ (ajc.2 ⟨x,hx,rfl⟩)
theorem Hp (hd:j7 n ds o){x:Operand}{i:Nat}(ho:o.op = .extract x i){z:AV}(h:zd (cZ s.ρ x) i=some z):mD P L0 c0 n ds o s (s.set o.dst z):=by
 refine jy hd fun a c Lo lam f hn=>?_
 have hx:=cL f x
 cases heq:cZ s.ρ x<;>rw [heq] at h hx<;>simp only [zd] at h<;>try (cases h; done)
 rename_i vs
 simp only [SR,VR] at hx
 obtain⟨us,xA,Mr⟩:=hx
 obtain⟨v,hv,hr⟩:=Mr.get i z h
 have ZS:us[i]? = some v:=by simpa using hv
 exact⟨v,by simp [execOp,ho,xA,Instr.extract,ZS],SR.of hr⟩
theorem xB {op:Value→Value→Sem Value}:∀(vs:List Value) (v r:Value) (w:World),pI P op v vs=some r→(vs.foldlM op v).run P w = .ok r w
 | [],v,r,w,h=>by simp only [pI,aiL] at h; subst h; rfl
 | x::xs,v,r,w,h=>by
  simp only [pI,aiJ] at h
  obtain⟨u,h1,h2⟩:=h
  simp only [List.foldlM_cons,Sem.run_bind,n9 w h1,Result.andThen_ok]
  exact xB xs u r w h2
theorem BN (hd:j7 n ds o){b:Builtin}{IW:Array TypeId}{args:Array Operand}(ho:o.op = .call {callee:=.builtin b,args:=args,argTypes:=IW}){op:Value→Value→Sem Value}(hb:(b = .min∧op=Builtin.min2)∨(b = .max∧op=Builtin.max2))
  {x:AV} {xs:List AV} (he:args.toList.map (cZ s.ρ)=x::xs) {v u:Value} {vs:List Value} (hx:x.jZ=some v) (hxs:mc xs=some vs) (hf:pI P op v vs=some u) {z:AV} (hz:uB u=some z):mD P L0 c0 n ds o s (s.set o.dst z):=by
 refine jy hd fun a c Lo lam f hn=>?_
 refine⟨u,?_,SR.of (sJ hz)⟩
 have hne:∀q:Operand,∀k off,cZ s.ρ q = .lp k off→q∉args.toList:=by
  intro q k off hq hm
  have IX:AV.lp k off∈x::xs:=by rw [←he,←hq]; exact ajc.2 ⟨q,hm,rfl⟩
  rcases aja.1 IX with h1 | h1
  ·exact oZ hx k off h1.symm
  ·have:∀(ys:List AV) (us:List Value),mc ys=some us→AV.lp k off∉ys:=by
    intro ys
    induction ys with
    | nil=>intro us _ h; cases h
    | cons y ys ih=>
     intro us hu hm
     simp only [mc,aiJ] at hu
     obtain⟨u1,h2,us1,h3,_⟩:=hu
     rcases aja.1 hm with h4 | h4
     ·exact oZ h2 k off h4.symm
     ·exact ih _ h3 h4
   exact this _ _ hxs h1
 have IG:=sL f args.toList (fun q hq k off h=>hne q k off h hq)
 rw [he] at IG
 have pc:args.toList.map a.eval=v::vs:=wc (xs:=x::xs) (us:=v::vs) (by simp [mc,hx,hxs]) IG
 have hr:=xB vs v u c.w hf
 have hargs:args.map a.eval=(v::vs).toArray:=by rw [←pc]; apply akv; simp
 rcases hb with⟨rfl,rfl⟩| ⟨rfl,rfl⟩
 ·simp [execOp,ho,resolve,invoke,builtin,Builtin.min_,hargs,hr]
 ·simp [execOp,ho,resolve,invoke,builtin,Builtin.max_,hargs,hr]
end
end Go.R
namespace Go.R
open Go
section
variable {P:Program}{L0:Nat→Prop}{c0:Cx}{n:Nat}{ds:List Nat}{s:RS}
theorem Fr.M3 {c:Cx}{Lo:Nat→Prop}{lam:Nat→Nat}{a:Act}(f:Fr L0 c Lo lam ds s a)(id:Nat) :
  Ext c Lo ⟨c.β,c.h.kill id,c.w,c.base⟩ Lo∧Fr L0 ⟨c.β,c.h.kill id,c.w,c.base⟩ Lo lam ds {s with h:=s.h.kill id} a∧(Live c.h id→RO ⟨c.β,c.h.kill id,c.w,c.base⟩ (un L0 Lo) (c.β id).1):=by
 have hg:∀i,(c.h.kill id).get i=if i=id then none else c.h.get i:=fun i=>by
  simp only [AHeap.kill,beq_nat]
  by_cases h:i=id<;>simp [h]
 have oQ:∀i,Live (c.h.kill id) i→i≠id∧Live c.h i:=fun i hl=>by
  have h2:=hl.2
  rw [hg] at h2
  by_cases h:i=id
  ·rw [if_pos h] at h2; cases h2
  ·rw [if_neg h] at h2
   obtain⟨o,ho⟩:=aju.1 h2
   exact⟨h,f.rel.lt _ _ ho,h2⟩
 have e:Ext c Lo ⟨c.β,c.h.kill id,c.w,c.base⟩ Lo:=
  ⟨aj5 _,fun i hi hl=>⟨(oQ i hl).2,rfl,rfl⟩,aiQ _,fun _ _ _ _=>.inl rfl,fun _ _=>rfl,rfl,fun i hl=>.inr ⟨i,(oQ i hl).2,rfl⟩,fun _ h=>h,fun _ h=>.inl h,rfl,rfl,rfl⟩
 refine⟨e,⟨by rw [←f.h],⟨fun i o ho=>?_,fun i o ho=>?_,fun i j hi hj he=>?_,fun i hi=>?_,f.rel.bd,fun i hi=>?_,(Steady.kill c.h id).wf f.rel.ver⟩,fun t=>?_,fun k cs hb=>?_,f.inj,f.tidy,f.defers,f.MH⟩,fun hl=>⟨fun i hi he=>?_,f.rel.out id hl⟩⟩
 ·replace ho:(c.h.kill id).get i=some o:=ho
  rw [hg] at ho
  by_cases h:i=id
  ·rw [if_pos h] at ho; cases ho
  ·rw [if_neg h] at ho; exact akg (f.rel.lt _ _ ho)
 ·replace ho:(c.h.kill id).get i=some o:=ho
  rw [hg] at ho
  by_cases h:i=id
  ·rw [if_pos h] at ho; cases ho
  ·rw [if_neg h] at ho
   exact (f.rel.obj i o ho).ext e rfl
 ·exact f.rel.inj i j (oQ i hi).2 (oQ j hj).2 he
 ·exact f.rel.out i (oQ i hi).2
 ·exact f.rel.low i (oQ i hi).2
 ·exact (f.slot t).ext e (fun _ _ _=>⟨rfl,fun h=>h⟩)
 ·have hb2:=f.box k cs hb
  exact hb2.ext e (.inl rfl)
 ·obtain⟨h1,h2⟩:=oQ i hi
  exact h1 (f.rel.inj i id h2 hl he)
theorem QI {c:Cx}{Lo:Nat→Prop}{lam:Nat→Nat}{a:Act}(f:Fr L0 c Lo lam ds s a){x y:AV}{h':AHeap}(h:KY s.h x=some (y,h')) :
  Ext c Lo ⟨c.β,h',c.w,c.base⟩ Lo∧Fr L0 ⟨c.β,h',c.w,c.base⟩ Lo lam ds {s with h:=h'} a∧(∀v,VR c (un L0 Lo) x v→VR ⟨c.β,h',c.w,c.base⟩ (un L0 Lo) y v)∧∀i,Live h' i→Live c.h i:=by
 have same:Ext c Lo ⟨c.β,s.h,c.w,c.base⟩ Lo∧Fr L0 ⟨c.β,s.h,c.w,c.base⟩ Lo lam ds {s with h:=s.h} a∧(⟨c.β,s.h,c.w,c.base⟩:Cx)=c:=by
  have e:(⟨c.β,s.h,c.w,c.base⟩:Cx)=c:=by rw [←f.h]
  rw [e]; exact⟨Ext.refl _ _,f,rfl⟩
 unfold KY at h
 split at h
 ·simp only [aiL,aiV] at h
  obtain⟨rfl,rfl⟩:=h
  obtain⟨h1,h2,h3⟩:=same
  exact⟨h1,h2,fun v hv=>by rw [h3]; exact hv,fun i hi=>by rw [f.h]; exact hi⟩
 cases x with
 | rs id off len lq=>
  simp only at h
  split at h
  ·rename_i hid
   split at h
   rotate_left
   ·cases h
   rename_i hl0
   simp only [aiL,aiV] at h
   obtain⟨rfl,rfl⟩:=h
   obtain⟨h1,h2,h3⟩:=same
   refine⟨h1,h2,fun v hv=>?_,fun i hi=>by rw [f.h]; exact hi⟩
   simp only [VR] at hv ⊢
   rcases hv with⟨_,_,_,a,rfl⟩| hv
   ·exact⟨a,0,rfl,aiQ _,fun _=>rfl,.inr ⟨trivial,rfl⟩,.inl trivial⟩
   ·exact absurd hid hv.1
  rename_i nV
  rw [aiJ] at h
  obtain⟨ob,ho,h⟩:=h
  cases ob with
  | map es=>cases h
  | row t cs=>cases h
  | cells cs=>
  simp only at h
  split at h
  rotate_left
  ·cases h
  rename_i hle
  simp only [aiL,aiV] at h
  obtain⟨rfl,rfl⟩:=h
  rw [←f.h] at ho
  have hl:Live c.h id:=⟨f.rel.lt _ _ ho,by simp [ho]⟩
  obtain⟨e,f',SC⟩:=f.M3 id
  have hb:(⟨c.β,s.h.kill id,c.w,c.base⟩:Cx)=⟨c.β,c.h.kill id,c.w,c.base⟩:=by rw [f.h]
  rw [hb]
  refine⟨e,f',fun v hv=>?_,fun i hi=>?_⟩
  ·simp only [VR] at hv ⊢
   rcases hv with hv | ⟨_,_,a,cap,rfl,h1,h2,h3⟩
   ·exact absurd hv.1 nV
   obtain⟨m,_,_,hc⟩:=f.rel.obj _ _ ho
   refine⟨a,cap,rfl,h1,by simp,.inl h2,?_⟩
   rcases h3 hl with⟨h4,_⟩| h4
   ·exact .inr ⟨_,_,h4,SC hl,by simp,Cells.move e _ _ _ _ _ (fun i hi=>rfl) ((hc.drop off).take (len*lq))⟩
   ·left
    have hz:len=0:=by omega
    subst hz
    simp
  ·have IE:=hi.2
   simp only [AHeap.kill,beq_nat] at IE
   by_cases h:i=id
   ·simp [h] at IE
   ·simp only [h,decide_false,cond_false] at IE
    rw [f.h]
    obtain⟨o,VZ⟩:=aju.1 IE
    have:=f.rel.lt i o (by rw [f.h]; exact VZ)
    rw [f.h] at this
    exact⟨this,IE⟩
 | _=>cases h
theorem IY:∀{cs:List AV} {c:Cx} {Lo:Nat→Prop} {lam:Nat→Nat} {a:Act} {s:RS} {ys:List AV} {h':AHeap},Fr L0 c Lo lam ds s a→CJ s.h cs=some (ys,h')→
  Ext c Lo ⟨c.β,h',c.w,c.base⟩ Lo∧Fr L0 ⟨c.β,h',c.w,c.base⟩ Lo lam ds {s with h:=h'} a∧(∀b o,Cells c (un L0 Lo) cs b o→Cells ⟨c.β,h',c.w,c.base⟩ (un L0 Lo) ys b o)∧∀i,Live h' i→Live c.h i
 | [],c,Lo,lam,a,s,ys,h',f,h=>by
  cases h
  have e:(⟨c.β,s.h,c.w,c.base⟩:Cx)=c:=by rw [←f.h]
  rw [e]
  exact⟨Ext.refl _ _,f,fun _ _ h=>h,fun i hi=>by rw [f.h]; exact hi⟩
 | x::cs,c,Lo,lam,a,s,ys,h',f,h=>by
  simp only [CJ,aiJ,aiK] at h
  obtain⟨⟨y,h1⟩,hx,⟨zs,h2⟩,hz,he⟩:=h
  simp only [aiV] at he
  obtain⟨rfl,rfl⟩:=he
  obtain⟨e1,f1,v1,l1⟩:=QI f hx
  obtain⟨e2,f2,v2,l2⟩:=IY f1 hz
  refine⟨e1.trans e2,f2,fun b o hc=>?_,fun i hi=>l1 i (l2 i hi)⟩
  obtain⟨⟨v,q1,q2,q3⟩,hc⟩:=hc
  exact⟨⟨v,q1,q2,VR.ext e2 _ _ (v1 v q3)⟩,v2 _ _ (Cells.move e1 _ _ _ _ _ (fun i hi=>rfl) hc)⟩
theorem C0 {c:Cx}{Lo:Nat→Prop}{lam:Nat→Nat}{a:Act}(f:Fr L0 c Lo lam ds s a){k:Nat}{x y:AV}{h':AHeap}(h:mC k s.h x=some (y,h')) :
  (∀k off,x≠.lp k off)∧(∀k off,y≠.lp k off)∧∃c',c'.w=c.w∧Ext c Lo c' Lo∧Fr L0 c' Lo lam ds {s with h:=h'} a∧∀v,VR c (un L0 Lo) x v→VR c' (un L0 Lo) y v:=by
 cases k with
 | zero=>
  cases x with
  | nils=>
   simp only [mC,aiL,aiV] at h
   obtain⟨rfl,rfl⟩:=h
   refine⟨by simp,by simp,c,rfl,Ext.refl _ _,f,fun v hv=>?_⟩
   simp only [VR] at hv ⊢
   exact⟨none,0,hv,aiQ _,fun _=>rfl,.inr ⟨trivial,rfl⟩,.inl trivial⟩
  | fz cs m ex=>
   simp only [mC,aiL,aiV] at h
   obtain⟨rfl,rfl⟩:=h
   refine⟨by simp,by simp,c,rfl,Ext.refl _ _,f,fun v hv=>?_⟩
   simp only [VR] at hv ⊢
   obtain⟨a,cap,rfl,h1,h2,hs,hc⟩:=hv
   exact⟨a,cap,rfl,h1,by simp,hs,hc.imp id fun ⟨b,o,ha,hr,hex,hc⟩=>⟨b,o,ha,hr,by simp,hc⟩⟩
  | rs id off len lq=>
   simp only [mC] at h
   split at h
   ·rename_i hid
    split at h
    rotate_left
    ·cases h
    rename_i hl0
    simp only [aiL,aiV] at h
    obtain⟨rfl,rfl⟩:=h
    refine⟨by simp,by simp,c,rfl,Ext.refl _ _,f,fun v hv=>?_⟩
    simp only [VR] at hv ⊢
    rcases hv with⟨_,_,_,a,rfl⟩| hv
    ·exact⟨a,0,rfl,aiQ _,fun _=>rfl,.inr ⟨trivial,rfl⟩,.inl trivial⟩
    ·exact absurd hid hv.1
   rename_i nV
   rw [aiJ] at h
   obtain⟨ob,ho,h⟩:=h
   cases ob with
   | map es=>cases h
   | row t cs=>cases h
   | cells cs=>
   simp only at h
   split at h
   rotate_left
   ·cases h
   rename_i hle
   rw [aiK] at h
   obtain⟨⟨iO,h2⟩,hz,he⟩:=h
   simp only [aiV] at he
   obtain⟨rfl,rfl⟩:=he
   rw [←f.h] at ho
   have hl:Live c.h id:=⟨f.rel.lt _ _ ho,by simp [ho]⟩
   obtain⟨e,f',SC⟩:=f.M3 id
   obtain⟨e2,f2,hcs,oQ⟩:=IY f' hz
   refine⟨by simp,by simp,⟨c.β,h2,c.w,c.base⟩,rfl,e.trans e2,f2,fun v hv=>?_⟩
   simp only [VR] at hv ⊢
   rcases hv with hv | ⟨_,_,a,cap,rfl,h1,h2,h3⟩
   ·exact absurd hv.1 nV
   obtain⟨m,_,_,hc⟩:=f.rel.obj _ _ ho
   refine⟨a,cap,rfl,h1,by simp,.inl h2,?_⟩
   rcases h3 hl with⟨h4,_⟩| h4
   ·exact .inr ⟨_,_,h4,⟨fun i hi=>(SC hl).1 i (oQ i hi),(SC hl).2⟩,by simp,hcs _ _ (Cells.move e _ _ _ _ _ (fun i hi=>rfl) ((hc.drop off).take (len*lq)))⟩
   ·left
    have hz0:len=0:=by omega
    subst hz0
    simp [CJ] at hz
    exact hz.1
  | _=>simp [mC] at h
 | succ k=>
  have key:(x = .nils∨x = .fz [] 0 true)→y = .rs 0 0 0 (k+1)→h'=s.h→(∀k off,x≠.lp k off)∧(∀k off,y≠.lp k off)∧∃c',c'.w=c.w∧Ext c Lo c' Lo∧Fr L0 c' Lo lam ds {s with h:=h'} a∧∀v,VR c (un L0 Lo) x v→VR c' (un L0 Lo) y v:=by
   rintro hx rfl rfl
   refine⟨by rcases hx with rfl | rfl<;>simp,by simp,c,rfl,Ext.refl _ _,f,fun v hv=>?_⟩
   rcases hx with rfl | rfl
   ·simp only [VR] at hv ⊢
    exact .inl ⟨trivial,trivial,trivial,none,hv⟩
   ·simp only [VR] at hv ⊢
    obtain⟨a,cap,rfl,h1,h2,hs,hc⟩:=hv
    have:=h2 trivial
    subst this
    exact .inl ⟨trivial,trivial,trivial,a,rfl⟩
  unfold mC at h
  simp only at h
  split at h
  ·simp only [aiL,aiV] at h
   exact key (.inl rfl) h.1.symm h.2.symm
  ·simp only [aiL,aiV] at h
   exact key (.inr rfl) h.1.symm h.2.symm
  ·simp only [aiL,aiV] at h
   obtain⟨rfl,rfl⟩:=h
   exact⟨by simp,by simp,c,rfl,Ext.refl _ _,f,fun v hv=>hv⟩
  ·cases h
end
end Go.R
namespace Go.R
open Go
def CallOK (P:Program)(cf:CallF):Prop:=
 ∀f args h r h',cf f args h=some (r,h')→
  (∀(vs:Array Value) (w:World),(callFunc f vs).run P w = .ok (.enter f vs) w)∧
  ∀(L0:Nat→Prop) (c:Cx) (vs:List Value),c.h=h→c.base≤c.w.heap.size→HRel c L0→VRs c L0 args vs→
   Calls P f vs.toArray c.w fun e w'=>∃c' v,e = .returned v∧c'.w=w'∧c'.h=h'∧VR c' L0 r v∧HRel c' L0∧Ext c none0 c' none0
section
variable {P:Program}{L0:Nat→Prop}{c0:Cx}{n:Nat}{ds:List Nat}{o:Oper}{s:RS}
theorem Fr.call {c c':Cx}{Lo:Nat→Prop}{lam:Nat→Nat}{a:Act}(f:Fr L0 c Lo lam ds s a)(hr:HRel c' (un L0 Lo))(e:Ext c none0 c' none0) :
  Ext c Lo c' Lo∧Fr L0 c' Lo lam ds {s with h:=c'.h} a:=by
 have xq:∀b,Lo b→b<c.w.heap.size:=fun b hb=>f.rel.bd b (.inr hb)
 have e':Ext c Lo c' Lo:=
  ⟨e.next,e.live,e.size,fun b h1 _ h3=>e.keep b h1 (fun h=>h.elim) h3,e.exact,e.base,e.Qt,fun _ h=>h,fun _ h=>.inl h,e.os,e.tape,e.output⟩
 refine⟨e',rfl,hr,fun t=>(f.slot t).ext e' (fun _ _ _=>⟨rfl,fun h=>h⟩),fun k cs hb=>?_,f.inj,f.tidy,f.defers,fun b hb=>by rw [e.base]; exact f.MH b hb⟩
 have ob:=f.box k cs hb
 exact ob.ext e' (e.keep _ ob.plain.lt (fun h=>h.elim) fun id hl he=>f.rel.out id hl (he ▸ .inr ob.own))
theorem QJ {cf:CallF}(hcf:CallOK P cf)(hb0:c0.base≤c0.w.heap.size)(hd:j7 n ds o){fx:Operand}{args:Array Operand}{IW:Array TypeId}(ho:o.op = .call {callee:=.value fx,args:=args,argTypes:=IW}){Ho:FuncId}{cap:List AV}
  (hf:cZ s.ρ fx = .fn Ho cap) (ha:(args.toList.map (cZ s.ρ)).all AV.nZ=true) {r:AV} {h':AHeap} (h:cf Ho (args.toList.map (cZ s.ρ)++cap) s.h=some (r,h')) {bb:List Nat} {y:AV} {h2:AHeap} (hy:CK bb o.dst (r,h')=some (y,h2)) :
  mD P L0 c0 n ds o s ({s with h:=h2}.set o.dst y):=by
 rintro a w K Q ⟨hn,c,Lo,lam,rfl,f,e0⟩ hK
 obtain⟨hin,hcall⟩:=hcf _ _ _ _ _ h
 have ZT:=cL f fx
 rw [hf] at ZT
 simp only [SR,VR] at ZT
 obtain⟨cv,hfe,WB⟩:=ZT
 have hargs:VRs c (un L0 Lo) (args.toList.map (cZ s.ρ)) (args.toList.map a.eval):=by
  refine sL f _ fun x hx=>zu ?_
  rw [ajd] at ha
  exact ha _ (ajc.2 ⟨x,hx,rfl⟩)
 have pc:=VRs.append hargs WB
 unfold Oper.wp
 have:(execOp a.eval o).run P c.w = .ok (.enter Ho (args.map a.eval++cv)) c.w:=by
  simp [execOp,ho,resolve,hfe,Deferred.ofValue,invoke,hin]
 rw [this,Oper.upon_enter]
 have hc:=hcall (un L0 Lo) c _ f.h (my e0 hb0) f.rel pc
 have he:(args.toList.map a.eval++cv.toList).toArray=args.map a.eval++cv:=by
  apply akv; simp
 rw [he] at hc
 refine Calls.mono hc ?_
 rintro e w' ⟨c',v,rfl,rfl,hh,hv,hrel,TR⟩
 obtain⟨e',f'⟩:=f.call hrel TR
 rw [hh] at f'
 have fin:y=r→h2=h'→K (a.put o.dst v) c'.w:=by
  rintro rfl rfl
  exact hK _ _ ⟨(j6 _ _ _).trans hn,c',Lo,lam,rfl,f'.set (SR.of hv) (fun t ht=>by rw [hn]; exact hd t ht),e0.trans e'⟩
 unfold CK at hy
 cases hm:Wr bb o.dst with
 | false=>rw [hm,cond_false] at hy; cases hy; exact fin rfl rfl
 | true=>
  rw [hm,cond_true] at hy
  obtain⟨_,_,c2,hw,e2,f2,SB⟩:=C0 (s:={s with h:=h'}) f' hy
  have Zz:=SB v hv
  refine hK _ _ ⟨(j6 _ _ _).trans hn,c2,Lo,lam,hw,f2.set (SR.of Zz) (fun t ht=>by rw [hn]; exact hd t ht),(e0.trans e').trans e2⟩
theorem Option.map_some' {α β:Type}{x:Option α}{g:α→β}{y:β}(h:x.map g=some y):∃z,x=some z∧g z=y:=aiK.1 h
theorem BO {bb:List Nat}{cs:List AV}{s':RS}(h:lh s bb ds o cs=some s'):cs.all AV.dp=true:=by
 unfold lh at h
 split at h
 ·assumption
 ·cases h
theorem TS {cf:CallF}(hcf:CallOK P cf)(hb0:c0.base≤c0.w.heap.size)(hd:j7 n ds o){bb:List Nat}{s':RS}(h:CL P cf bb ds s o=some s'):mD P L0 c0 n ds o s s':=by
 have gF:∀{x:Option AV},(x.map fun x=>s.set o.dst x)=some s'→(∀z,x=some z→mD P L0 c0 n ds o s (s.set o.dst z))→mD P L0 c0 n ds o s s':=by
  intro x hx hz
  obtain⟨z,rfl,rfl⟩:=Option.map_some' hx
  exact hz z rfl
 unfold CL G8 at h
 dsimp only at h
 split at h
 ·rename_i x ho; cases h; exact IV hd (.inl ho)
 ·rename_i x ho; cases h; exact IV hd (.inr ho)
 ·rename_i k x y ho
  obtain⟨t,ht,rfl⟩:=Option.map_some' h
  exact QH hd ho ht
 ·
  rename_i t ho
  rw [aiJ] at h
  obtain⟨z,hz,h⟩:=h
  refine BK hb0 hd t h fun a c Lo lam f hn=>?_
  have uw:=BO h
  obtain⟨v,h1,h2,h3⟩:=Lg (P:=P) (c:=c) hz (QB uw) (un L0 Lo)
  exact⟨v,by simp [execOp,ho,h1],IM h2,h3⟩
 ·
  rename_i t x ho
  refine BK hb0 hd t h fun a c Lo lam f hn=>?_
  have uw:(cZ s.ρ x).cells.all AV.dp=true:=BO h
  obtain⟨h1,h2⟩:=lL uw ((cL f x).yK uw)
  exact⟨a.eval x,by simp [execOp,ho,Instr.box,newVar,newRow],h1,h2⟩
 ·rename_i t ps ho
  refine gF h fun z hz=>jy hd fun a c Lo lam f hn=>?_
  obtain⟨z0,hz0,rfl⟩:=aiK.1 hz
  obtain⟨v,hr,hv⟩:=run_build (P:=P) (uG f ps.toList) hz0
  refine⟨v,?_,SR.of (Qz hv)⟩
  have he:ps.map (fun (i,x)=>(i,a.eval x))=(ps.toList.map fun (i,x)=>(i,a.eval x)).toArray:=by
   apply akv; simp
  simp only [execOp,ho,Sem.run_bind]
  rw [he,hr]
  rfl
 ·rename_i t k ps ho
  rw [aiK] at h
  obtain⟨z,hz,rfl⟩:=h
  exact zp hb0 hd ho bb hz
 ·
  rename_i t x ho
  refine gF h fun z hz=>jy hd fun a c Lo lam f hn=>?_
  obtain⟨r,hr,hv⟩:=zh (P:=P) f (t:=t) (cL f x) hz
  exact⟨r,by simp [execOp,ho,hr],SR.of hv⟩
 ·
  rename_i t x y ho
  split at h
  ·cases h
  rename_i ya
  exact MQ hb0 hd ho (by simpa using ya) h
 ·rename_i ho; exact gF h fun z hz=>EO hd ho hz
 ·rename_i ho; exact gF h fun z hz=>MZ hd ho hz
 ·rename_i ho; exact gF h fun z hz=>QG hd ho hz
 ·rename_i ho; exact gF h fun z hz=>Hm hb0 hd ho hz
 ·rename_i Ho first cap ho
  split at h
  ·rename_i hh
   refine gF h fun z hz=>?_
   cases hz
   exact EP hd ho hh.1 hh.2
  ·cases h
 ·rename_i ho; cases h; exact Hh hb0 hd ho
 ·rename_i ho; exact CT hb0 hd ho h
 ·
  rename_i t x lo hi mx ho
  refine gF h fun z hz=>jy hd fun a c Lo lam f hn=>?_
  have hs:∀(q:Option Operand) (y:AV),q.map (cZ s.ρ)=some y→∃v,q.map a.eval=some v∧SR c L0 Lo lam s.bx y v:=by
   intro q y hq
   obtain⟨u,rfl,rfl⟩:=Option.map_some' hq
   exact⟨_,rfl,cL f u⟩
  have SJ:∀(q:Option Operand),q.map (cZ s.ρ)=none→q.map a.eval=none:=by
   intro q hq
   simpa using hq
  obtain⟨r,hr,hv⟩:=Hf (P:=P) (cL f x) (hs lo) (SJ lo) (hs hi) (SJ hi) (hs mx) (SJ mx) hz
  exact⟨r,by simp [execOp,ho,hr],SR.of hv⟩
 ·rename_i t x i ho
  refine gF h fun z hz=>jy hd fun a c Lo lam f hn=>?_
  obtain⟨r,hr,hv⟩:=EC (P:=P) (cL f x) hz
  exact⟨r,by simp [execOp,ho,hr],hv⟩
 ·rename_i t x i ho
  refine gF h fun z hz=>jy hd fun a c Lo lam f hn=>?_
  obtain⟨r,hr,hv⟩:=Hd (P:=P) (cL f x) hz
  exact⟨r,by simp [execOp,ho,hr],SR.of hv⟩
 ·rename_i t x i ho
  refine gF h fun z hz=>jy hd fun a c Lo lam f hn=>?_
  obtain⟨r,hr,hv⟩:=EB (P:=P) (cL f x) (cL f i) hz
  exact⟨r,by simp [execOp,ho,hr],hv⟩
 ·rename_i t x i ho
  refine gF h fun z hz=>jy hd fun a c Lo lam f hn=>?_
  obtain⟨r,hr,hv⟩:=He (P:=P) (cL f x) (cL f i) hz
  exact⟨r,by simp [execOp,ho,hr],SR.of hv⟩
 ·rename_i t m k ok ho
  refine gF h fun z hz=>jy hd fun a c Lo lam f hn=>?_
  obtain⟨r,hr,hv⟩:=EH (P:=P) f (cL f m) (cL f k) hz
  exact⟨r,by simp [execOp,ho,hr],SR.of hv⟩
 ·rename_i t m k x ho
  split at h
  ·cases h
  rename_i ya
  obtain⟨h',hh,rfl⟩:=Option.map_some' h
  exact uI hb0 (.inl ho) (by simpa using ya) hh
 ·rename_i t m k x ho
  split at h
  ·cases h
  rename_i ya
  obtain⟨h',hh,rfl⟩:=Option.map_some' h
  exact uI hb0 (.inr ho) (by simpa using ya) hh
 ·rename_i ho; exact gF h fun z hz=>Hp hd ho hz
 ·
  rename_i b args IW ho
  unfold jI at h
  split at h
  ·rename_i t x hts hargs
   have Hq:IW = #[t]:=by apply akv; simpa using hts
   obtain⟨q,hq,rfl⟩:∃q,args = #[q]∧cZ s.ρ q=x:=by
    cases args with | mk l=>
    rcases l with _ | ⟨q,_ | ⟨q2,l⟩⟩<;>simp at hargs
    exact⟨q,rfl,hargs⟩
   subst Hq hq
   refine gF h fun z hz=>jy hd fun a c Lo lam f hn=>?_
   obtain⟨r,hr,hv⟩:=MN (P:=P) f #[t] rfl (cL f q) hz o.type
   exact⟨r,by simp [execOp,ho,resolve,invoke,builtin,hr],SR.of hv⟩
  ·rename_i t t2 x y hts hargs
   have Hq:IW = #[t,t2]:=by apply akv; simpa using hts
   obtain⟨q,q2,hq,rfl,rfl⟩:∃q q2,args = #[q,q2]∧cZ s.ρ q=x∧cZ s.ρ q2=y:=by
    cases args with | mk l=>
    rcases l with _ | ⟨q,_ | ⟨q2,_ | ⟨q3,l⟩⟩⟩<;>simp at hargs
    exact⟨q,q2,rfl,hargs.1,hargs.2⟩
   subst Hq hq
   exact Lh hb0 hd ho h
  ·rename_i t t2 x y hts hargs
   have Hq:IW = #[t,t2]:=by apply akv; simpa using hts
   obtain⟨q,q2,hq,rfl,rfl⟩:∃q q2,args = #[q,q2]∧cZ s.ρ q=x∧cZ s.ρ q2=y:=by
    cases args with | mk l=>
    rcases l with _ | ⟨q,_ | ⟨q2,_ | ⟨q3,l⟩⟩⟩<;>simp at hargs
    exact⟨q,q2,rfl,hargs.1,hargs.2⟩
   subst Hq hq
   obtain⟨⟨z,h'⟩,hh,rfl⟩:=Option.map_some' h
   exact QE hb0 hd ho hh
  ·rename_i t x hts hargs
   have Hq:IW = #[t]:=by apply akv; simpa using hts
   obtain⟨q,hq,rfl⟩:∃q,args = #[q]∧cZ s.ρ q=x:=by
    cases args with | mk l=>
    rcases l with _ | ⟨q,_ | ⟨q2,l⟩⟩<;>simp at hargs
    exact⟨q,rfl,hargs⟩
   subst Hq hq
   obtain⟨h',hh,rfl⟩:=Option.map_some' h
   exact MX hb0 hd ho hh
  ·rename_i x xs hargs
   rw [aiJ] at h
   obtain⟨v,hv,h⟩:=h
   rw [aiJ] at h
   obtain⟨vs,Mr,h⟩:=h
   rw [aiJ] at h
   obtain⟨u,hu,h⟩:=h
   exact gF h fun z hz=>BN hd ho (.inl ⟨rfl,rfl⟩) hargs hv Mr hu hz
  ·rename_i x xs hargs
   rw [aiJ] at h
   obtain⟨v,hv,h⟩:=h
   rw [aiJ] at h
   obtain⟨vs,Mr,h⟩:=h
   rw [aiJ] at h
   obtain⟨u,hu,h⟩:=h
   exact gF h fun z hz=>BN hd ho (.inr ⟨rfl,rfl⟩) hargs hv Mr hu hz
  ·cases h
 ·
  rename_i fx args IW ho
  split at h
  ·rename_i Ho cap heq
   split at h
   ·rename_i ha
    obtain⟨⟨r,h'⟩,hh,rfl⟩:=Option.map_some' h
    rw [aiJ] at hh
    obtain⟨⟨r0,h0⟩,hh,hm⟩:=hh
    exact QJ hcf hb0 hd ho heq ha hh hm
   ·cases h
  ·cases h
 ·cases h
end
end Go.R
namespace Go.R
open Go
section
variable {P:Program}{L0:Nat→Prop}{c0:Cx}{n:Nat}{ds:List Nat}{s:RS}
theorem wq {h:AHeap}:∀{cs:List AV},eL cs=true→CJ h cs=some (cs,h)
 | [],_=>rfl
 | x::cs,hn=>by
  simp only [eL,aiM] at hn
  simp only [CJ,KY,hn.1,if_true,aiI,wq hn.2,aiR]
theorem ER {h h':AHeap}{x y:AV}(hz:KY h x=some (y,h')):Steady h h':=by
 unfold KY at hz
 split at hz
 ·cases hz; exact Steady.refl _
 split at hz
 ·split at hz
  ·split at hz
   ·cases hz; exact Steady.refl _
   ·cases hz
  rw [aiJ] at hz
  obtain⟨o,_,hz⟩:=hz
  split at hz
  ·split at hz
   ·cases hz; exact Steady.kill _ _
   ·cases hz
  ·cases hz
 ·cases hz
theorem xC:∀{cs ys:List AV} {h h':AHeap},CJ h cs=some (ys,h')→Steady h h'
 | [],ys,h,h',hz=>by cases hz; exact Steady.refl _
 | x::cs,ys,h,h',hz=>by
  simp only [CJ,aiJ,aiK] at hz
  obtain⟨⟨y,h1⟩,hx,⟨zs,h2⟩,hz,he⟩:=hz
  simp only [aiV] at he
  obtain⟨rfl,rfl⟩:=he
  exact (ER hx).trans (xC hz)
theorem Inv.CP {a:Act}{w:World}{p:Nat × Option Nat × Nat}{s':RS}(hi:Inv L0 c0 n ds s a w)(h:CP s p=some s'):Inv L0 c0 n ds s' a w:=by
 obtain⟨hn,c,Lo,lam,rfl,f,e⟩:=hi
 unfold Go.R.CP at h
 split at h
 ·rw [aiK] at h
  obtain⟨⟨y,h'⟩,hz,rfl⟩:=h
  obtain⟨hx,hy,c',hw,e',f',hv⟩:=C0 f hz
  refine⟨hn,c',Lo,lam,hw,⟨f'.h,f'.rel,fun t=>?_,f'.box,f'.inj,fun t k off ht he=>?_,f'.defers,f'.MH⟩,e.trans e'⟩
  ·simp only [beq_nat]
   by_cases ht:t=p.1
   ·subst ht
    simp only [decide_true,cond_true]
    exact SR.of (hv _ ((f.slot _).vr hx))
   ·simp only [ht,decide_false,cond_false]
    exact f'.slot t
  ·simp only [beq_nat] at he
   by_cases htp:t=p.1
   ·simp only [htp,decide_true,cond_true] at he
    exact absurd he (hy _ _)
   ·simp only [htp,decide_false,cond_false] at he
    exact f'.tidy t k off ht he
 ·rename_i i hp
  split at h
  rotate_left
  ·cases h
  rename_i cs hcs
  simp only [aiJ,aiK] at h
  obtain⟨x,hx,⟨y,h'⟩,hz,rfl⟩:=h
  obtain⟨hx1,hy,c',hw,e',f',hv⟩:=C0 f hz
  have wj:∀k,(bif ajy k p.1 then some (cs.set i y) else s.bx k).isSome=(s.bx k).isSome:=fun k=>by
   simp only [beq_nat]
   by_cases hk:k=p.1
   ·subst hk; simp [hcs]
   ·simp [hk]
  refine⟨hn,c',Lo,lam,hw,⟨f'.h,f'.rel,fun t=>?_,fun k iO hb=>?_,fun k k' h1 h2=>f'.inj k k' (by rw [←wj]; exact h1) (by rw [←wj]; exact h2),f'.tidy,f'.defers,f'.MH⟩,e.trans e'⟩
  ·have:=f'.slot t
   unfold SR at this ⊢
   split
   ·rename_i k off he
    rw [he] at this
    simp only at this
    exact⟨this.1,by rw [wj]; exact this.2⟩
   ·rename_i x' QF
    split at this
    ·rename_i he; exact absurd he (QF _ _)
    ·exact this
  ·simp only [beq_nat] at hb
   by_cases hk:k=p.1
   ·subst hk
    simp only [decide_true,cond_true,aiL] at hb
    subst hb
    have ob:=f.box _ cs hcs
    have ZU:=f'.box _ cs hcs
    refine⟨ZU.own,by rw [ajw]; exact ZU.plain,?_⟩
    obtain⟨vs,q1,q2,q3⟩:=ob.cells.vals
    obtain⟨vs',r1,r2,r3⟩:=ZU.cells.vals
    have hlen:vs=vs':=by
     apply ajG
     intro j
     by_cases hj:j<cs.length
     ·rw [←q2 j hj,←r2 j hj,hw]
     ·rw [ai8 (by rw [←q1.length]; omega),ai8 (by rw [←r1.length]; omega)]
    subst hlen
    obtain⟨u,hu,hr⟩:=VRs.get q1 i x hx
    have Hl:VRs c' (un L0 Lo) (cs.set i y) vs:=by
     have:=VRs.set (hv u hr) i r1
     have VV:vs.set i u=vs:=by
      apply ajG
      intro j
      rw [aj9]
      by_cases hji:i=j
      ·subst hji
       rw [if_pos rfl,hu]
       have:=(aiO.1 hu).1
       simp [this]
      ·rw [if_neg hji]
     rwa [VV] at this
    exact Cells.of_vals Hl (fun j hj=>by rw [r2 j (by rw [r1.length]; exact hj)]) r3
   ·simp only [hk,decide_false,cond_false] at hb
    exact f'.box k iO hb
theorem Inv.oU {a:Act}{w:World}:∀{l:List (Nat × Option Nat × Nat)} {s s':RS},Inv L0 c0 n ds s a w→oU s l=some s'→Inv L0 c0 n ds s' a w
 | [],s,s',hi,h=>by cases h; exact hi
 | p::ps,s,s',hi,h=>by
  simp only [Go.R.oU,aiJ] at h
  obtain⟨s1,h1,h2⟩:=h
  exact Inv.oU (hi.CP h1) h2
theorem QK {A:b4}{r:Nat}{s:RS}:(s.rJ A r).h=s.h:=by
 unfold RS.rJ
 split<;>rfl
theorem rO {k:Nat}{h h':AHeap}{x y:AV}(hz:mC k h x=some (y,h')):Steady h h':=by
 unfold mC at hz
 split at hz
 ·split at hz
  ·cases hz; exact Steady.refl _
  ·split at hz
   ·split at hz
    ·cases hz; exact Steady.refl _
    ·cases hz
   rw [aiJ] at hz
   obtain⟨o,_,hz⟩:=hz
   split at hz
   ·split at hz
    ·rw [aiK] at hz
     obtain⟨⟨iO,h2⟩,hz,he⟩:=hz
     simp only [aiV] at he
     obtain⟨rfl,rfl⟩:=he
     exact (Steady.kill _ _).trans (xC hz)
    ·cases hz
   ·cases hz
  ·cases hz; exact Steady.refl _
  ·cases hz
 ·split at hz<;>cases hz<;>exact Steady.refl _
theorem ES {s s':RS}{p:Nat × Option Nat × Nat}(hz:CP s p=some s'):Steady s.h s'.h:=by
 unfold CP at hz
 split at hz
 ·rw [aiK] at hz
  obtain⟨⟨y,h'⟩,hz,rfl⟩:=hz
  exact rO hz
 ·split at hz
  ·simp only [aiJ,aiK] at hz
   obtain⟨x,hx,⟨y,h'⟩,hz,rfl⟩:=hz
   exact rO hz
  ·cases hz
theorem rP:∀{l:List (Nat × Option Nat × Nat)} {s s':RS},oU s l=some s'→Steady s.h s'.h
 | [],s,s',h=>by cases h; exact Steady.refl _
 | p::ps,s,s',h=>by
  simp only [oU,aiJ] at h
  obtain⟨s1,h1,h2⟩:=h
  exact (ES h1).trans (rP h2)
end
end Go.R
namespace Go.R
open Go
section
variable {P:Program}{L0:Nat→Prop}{c0:Cx}{n:Nat}{ds:List Nat}{o:Oper}{s:RS}
theorem Lk {ops:Array Oper}{c:Cx}{Lo:Nat→Prop}{lam:Nat→Nat}{a:Act}(f:Fr L0 c Lo lam ds s a){b:Bool}(h:kD ops.toList s.ρ o=some b):Region.wanted o (yielded ops a.tmps)=b:=by
 unfold kD at h
 unfold Region.wanted
 split at h
 ·rename_i hg; rw [hg]; cases h; rfl
 ·rename_i j want hg
  rw [hg]
  rw [aiJ] at h
  obtain⟨d,hd,h⟩:=h
  have Qe:(ops[j]?).bind (·.dst)=some d:=by simpa using hd
  have hs:=f.slot d
  simp only [yielded,Qe,aiI]
  rw [Array.getD_eq_getD_getElem?] at hs
  split at h
  ·rename_i b' hb
   cases h
   rw [hb] at hs
   simp only [SR,VR] at hs
   cases hq:a.tmps[d]? with
   | none=>rw [hq] at hs; simp [undef] at hs
   | some v=>
    rw [hq] at hs
    simp only [ajR] at hs
    subst hs
    cases b'<;>cases want<;>rfl
  ·rename_i hb
   cases h
   rw [hb] at hs
   simp only [SR,VR] at hs
   obtain⟨vs,hv,_⟩:=hs
   cases hq:a.tmps[d]? with
   | none=>rfl
   | some v=>
    rw [hq] at hv
    simp only [ajR] at hv
    subst hv
    rfl
  ·cases h
theorem ET {cf:CallF}(hcf:CallOK P cf)(hb0:c0.base≤c0.w.heap.size){ops:Array Oper}(TT:ds=ops.toList.filterMap (·.dst))(hd:j7 n ds o){bb:List Nat}{s':RS}(h:rI P cf bb ops.toList s o=some s')
  {a:Act} {w:World} {K:Act→World→Prop} {Q:Exit→Act→World→Prop} (hi:Inv L0 c0 n ds s a w) (hK:∀a' w',Inv L0 c0 n ds s' a' w'→K a' w') :
  if Region.wanted o (yielded ops a.tmps) then o.wp P a w K Q else K (a.put o.dst undef) w:=by
 unfold rI at h
 rw [aiJ] at h
 obtain⟨b,hb,h⟩:=h
 have hi0:=hi
 obtain⟨hn,c,Lo,lam,rfl,f,e⟩:=hi
 rw [Lk f hb]
 cases b with
 | true=>
  simp only [if_true] at h ⊢
  rw [←TT] at h
  exact TS hcf hb0 hd h a c.w K Q hi0 hK
 | false=>
  simp only [aiW,if_false,aiL] at h ⊢
  subst h
  exact hK _ _ ⟨(j6 _ _ _).trans hn,c,Lo,lam,rfl,f.set (SR.of (by simp [VR,undef,VRs])) (fun t ht=>by rw [hn]; exact hd t ht),e⟩
def BP (n:Nat)(ops:List Oper):Bool:=ops.all fun o=>match o.dst with | some t=>Nat.blt t n | none=>true
theorem EU {ops:List Oper}(h:BP n ops=true){o:Oper}(ho:o∈ops):j7 n (ops.filterMap (·.dst)) o:=by
 intro t ht
 unfold BP at h
 rw [ajd] at h
 have:=h o ho
 rw [ht] at this
 exact⟨Nat.blt_eq.mp this,List.mem_filterMap.2 ⟨o,ho,ht⟩⟩
theorem IZ {cf:CallF}(hcf:CallOK P cf)(hb0:c0.base≤c0.w.heap.size){ops:Array Oper}(TT:ds=ops.toList.filterMap (·.dst))(EJ:BP n ops.toList=true){bb:List Nat}{Q:Exit→Act→World→Prop}{s':RS}(hQ:∀a' w',Inv L0 c0 n ds s' a' w'→Q .normal a' w') :
  ∀(l:List Oper) (s:RS),(∀o∈l,o∈ops.toList)→xY P cf bb ops.toList s l=some s'→∀a w,Inv L0 c0 n ds s a w→wpList P ops Q l a w
 | [],s,_,h,a,w,hi=>by
  simp only [xY,aiL] at h
  subst h
  exact wpList_nil (hQ a w hi)
 | o::l,s,hl,h,a,w,hi=>by
  simp only [xY,aiJ] at h
  obtain⟨s1,h1,h2⟩:=h
  refine wpList_step fun K hK=>?_
  exact ET hcf hb0 TT (by rw [TT]; exact EU EJ (hl o (by simp))) h1 hi fun a' w' mZ=>hK a' w' (IZ hcf hb0 TT EJ hQ l s1 (fun o ho=>hl o (by simp [ho])) h2 a' w' mZ)
theorem lO {α:Type}(d:α):∀(ks:List Nat) (g:Nat→α) (t:Nat),look d ks (ks.map g) t=if t∈ks then g t else d
 | [],g,t=>rfl
 | k::ks,g,t=>by
  simp only [ai9,look,beq_nat,lO d ks g t,aja]
  by_cases h:t=k
  ·subst h; simp
  ·simp [h]
theorem Fr.forget {c:Cx}{Lo:Nat→Prop}{lam:Nat→Nat}{a:Act}(f:Fr L0 c Lo lam ds s a){s2:RS}(hh:s2.h=s.h)(hb:∀k cs,s2.bx k=some cs→s.bx k=some cs)
  (hr:∀t,s2.ρ t = .any∨s2.ρ t=s.ρ t∧∀k off,s.ρ t = .lp k off→k=t∧((s.bx k).isSome=true→(s2.bx k).isSome=true)):Fr L0 c Lo lam [] s2 a:=by
 refine⟨f.h.trans hh.symm,f.rel,fun t=>?_,fun k cs h=>f.box k cs (hb k cs h),fun k k' h h'=>f.inj k k' ?_ ?_,fun t k off _ he=>?_,f.defers,f.MH⟩
 ·rcases hr t with h | ⟨h,h2⟩
  ·rw [h]; exact SR.of (by simp [VR])
  ·rw [h]
   have hs:=f.slot t
   cases hx:s.ρ t<;>rw [hx] at hs<;>try exact hs
   rename_i k off
   simp only [SR] at hs ⊢
   exact⟨hs.1,(h2 k off hx).2 hs.2⟩
 ·obtain⟨cs,hcs⟩:=aju.1 h; rw [hb k cs hcs]; rfl
 ·obtain⟨cs,hcs⟩:=aju.1 h'; rw [hb k' cs hcs]; rfl
 ·rcases hr t with h | ⟨h,h2⟩
  ·rw [h] at he; cases he
  ·exact (h2 k off (h ▸ he)).1
theorem Inv.shut {a:Act}{w:World}(A:b4)(h:Inv L0 c0 n ds s a w):Inv L0 c0 n [] ((s.shut A).open A) a w:=by
 obtain⟨hn,c,Lo,lam,rfl,f,e⟩:=h
 refine⟨hn,c,Lo,lam,rfl,f.forget rfl (fun k cs hk=>?_) (fun t=>?_),e⟩
 ·simp only [RS.shut,St.open,lO] at hk
  split at hk
  ·exact hk
  ·cases hk
 ·simp only [RS.shut,St.open,lO]
  split
  ·unfold Ey
   cases hx:s.ρ t<;>simp only<;>try (right; exact⟨trivial,fun k off he=>by cases he⟩)
   rename_i k off
   cases hc:(ajy k t&&ajy off 0&&A.bb.contains k) with
   | false=>left; rfl
   | true=>
    right
    simp only [aiM,beq_nat,decide_eq_true_eq,List.contains_iff_mem] at hc
    refine⟨rfl,fun k' af8 he=>?_⟩
    cases he
    refine⟨hc.1.1,fun hs=>?_⟩
    rw [if_pos hc.2]
    exact hs
  ·left; rfl
theorem Inv.rJ {a:Act}{w:World}(A:b4)(r:Nat)(h:Inv L0 c0 n ds s a w):Inv L0 c0 n [] ((s.rJ A r).open A) a w:=by
 unfold RS.rJ
 split
 ·exact h.shut A
 rename_i dl _
 have h2:=h.shut A
 obtain⟨hn,c,Lo,lam,hw,f,e⟩:=h2
 have WA:∀k,(St.open A {vars:=A.keep.map (fun t=>bif (jN r A.dead).contains t then .any else Ey A.bb s.ρ t),VT:=A.bb.map (fun k=>bif (jN r A.dead).contains k then none else s.bx k),h:=s.h}).bx k=bif (jN r A.dead).contains k then none else (St.open A (s.shut A)).bx k:=by
  intro k
  simp only [RS.shut,St.open,lO]
  cases (jN r A.dead).contains k<;>simp
 refine⟨hn,c,Lo,lam,hw,f.forget rfl (fun k cs hk=>?_) (fun t=>?_),e⟩
 ·rw [WA] at hk
  cases hc:(jN r A.dead).contains k with
  | true=>rw [hc] at hk; cases hk
  | false=>rw [hc] at hk; exact hk
 ·have hv:(St.open A {vars:=A.keep.map (fun t=>bif (jN r A.dead).contains t then .any else Ey A.bb s.ρ t),VT:=A.bb.map (fun k=>bif (jN r A.dead).contains k then none else s.bx k),h:=s.h}).ρ t=bif (jN r A.dead).contains t then .any else (St.open A (s.shut A)).ρ t:=by
   simp only [RS.shut,St.open,lO]
   cases (jN r A.dead).contains t<;>simp
  rw [hv]
  cases hc:(jN r A.dead).contains t with
  | true=>left; rfl
  | false=>
   right
   refine⟨rfl,fun k off he=>?_⟩
   have QD:k=t:=f.tidy t k off (by simp) he
   refine⟨QD,fun hs=>?_⟩
   rw [WA,QD,hc]
   rw [QD] at hs
   exact hs
theorem Inv.wide {a:Act}{w:World}(h:Inv L0 c0 n [] s a w)(ds:List Nat):Inv L0 c0 n ds s a w:=by
 obtain⟨hn,c,Lo,lam,rfl,f,e⟩:=h
 exact⟨hn,c,Lo,lam,rfl,⟨f.h,f.rel,f.slot,f.box,f.inj,fun t k off _ he=>f.tidy t k off (by simp) he,f.defers,f.MH⟩,e⟩
theorem Inv.drew {a:Act}{w:World}(h:Inv L0 c0 n ds s a w):Inv L0 c0 n ds s a {w with drawn:=w.drawn+1}:=by
 obtain⟨hn,c,Lo,lam,rfl,f,e⟩:=h
 obtain⟨e',f'⟩:=f.world (w':={c.w with drawn:=c.w.drawn+1}) (fun b _=>.inl rfl) (fun _ _=>rfl) (fun b _=>rfl) (aiQ _) rfl rfl rfl
 exact⟨hn,_,Lo,lam,rfl,f',e.trans e'⟩
def rQ (P:Program)(c:Code)(Q:Exit→Act→World→Prop)(a:Act)(w:World):Prop:=
 ∀(b:Frame) (k:List Item) (cs:List Frame),∃e a' w',Q e a' w'∧Arrives P (lone (b.at a (.code c :: .inLoop c::k)) cs w) b k cs e a' w'
theorem rQ.step {c:Code}{Q:Exit→Act→World→Prop}{a:Act}{w:World}(h:c.wp P (Exit.then (rQ P c Q) Q) a w):rQ P c Q a w:=by
 intro b k cs
 obtain⟨e,a₁,w₁,hq,EV⟩:=h b (.inLoop c::k) cs
 cases e with
 | normal=>
  obtain⟨e₂,a₂,w₂,hq₂,WR⟩:=hq b k cs
  exact⟨e₂,a₂,w₂,hq₂,.of_steps (Steps.trans EV (.one step_inLoop)) WR⟩
 | exit id=>exact⟨_,a₁,w₁,hq,.pass (x:=.inLoop c) rfl (fun _ _=>.inl (by simp)) EV⟩
 | goto l=>exact⟨_,a₁,w₁,hq,.pass (x:=.inLoop c) rfl (fun _ _=>.inl (by simp)) EV⟩
 | ret=>exact⟨_,a₁,w₁,hq,.pass (x:=.inLoop c) rfl (fun _ _=>.inl (by simp)) EV⟩
 | panic ch=>exact⟨_,a₁,w₁,hq,.pass (x:=.inLoop c) rfl (fun _ _=>.inl (by simp)) EV⟩
 | outgrown=>exact⟨_,a₁,w₁,hq,.pass (x:=.inLoop c) rfl (fun _ _=>.inl (by simp)) EV⟩
theorem rQ.loop {c:Code}{Q:Exit→Act→World→Prop}{a:Act}{w:World}(h:rQ P c Q a w):(Code.loop c).wp P Q a w:=by
 intro b k cs
 obtain⟨e,a',w',hq,EV⟩:=h b k cs
 exact⟨e,a',w',hq,.of_steps (.one step_loop) EV⟩
def Ex.SK:Ex→Exit
 | .norm=>.normal
 | .exit id=>.exit id
 | .ret=>.ret
def oe (n:Nat):Code→Bool
 | .region _ ops _=>BP n ops.toList
 | .seq a b=>oe n a&&oe n b
 | .cond _ x y=>oe n x&&oe n y
 | .block _ c=>oe n c
 | .loop c=>oe n c
 | _=>true
def Hr (P:Program)(cf:CallF):Prop:=
 ∀(L0:Nat→Prop) (c0:Cx) (n:Nat) (bb:List Nat) (id:Nat) (ops:Array Oper) (s s':RS),nt P cf bb ops s=some s'→c0.base≤c0.w.heap.size→BP n ops.toList=true→
  ∀a w Q,Inv L0 c0 n (ops.toList.filterMap (·.dst)) s a w→(∀a' w',Inv L0 c0 n (ops.toList.filterMap (·.dst)) s' a' w'→Q .normal a' w')→(Code.region id ops true).wp P Q a w
theorem nA {cf:CallF}(hcf:CallOK P cf)(Ll:Hr P cf)(hb0:c0.base≤c0.w.heap.size){A:b4}{m:Nat}:∀(c:Code),oe n c=true→∀(st mU:St) (ex:Ex),cW P cf A m c st=some (ex,mU)→
  ∀a w Q,Inv L0 c0 n [] (st.open A) a w→(∀a' w',Inv L0 c0 n [] (mU.open A) a' w'→Q ex.SK a' w')→c.wp P Q a w
 | .skip,_,st,mU,ex,h,a,w,Q,hi,hQ=>by
  simp only [cW,aiL,aiV] at h
  obtain⟨rfl,rfl⟩:=h
  exact wp_skip (hQ a w hi)
 | .label _,_,st,mU,ex,h,a,w,Q,hi,hQ=>by
  simp only [cW,aiL,aiV] at h
  obtain⟨rfl,rfl⟩:=h
  exact wp_label (hQ a w hi)
 | .ret,_,st,mU,ex,h,a,w,Q,hi,hQ=>by
  simp only [cW,aiL,aiV] at h
  obtain⟨rfl,rfl⟩:=h
  exact wp_ret (hQ a w hi)
 | .exit id,_,st,mU,ex,h,a,w,Q,hi,hQ=>by
  simp only [cW,aiL,aiV] at h
  obtain⟨rfl,rfl⟩:=h
  exact wp_exit (hQ a w hi)
 | .seq x y,hB,st,mU,ex,h,a,w,Q,hi,hQ=>by
  simp only [oe,aiM] at hB
  simp only [cW,aiJ] at h
  obtain⟨⟨SL,uK⟩,h1,h2⟩:=h
  refine wp_seq (nA hcf Ll hb0 x hB.1 st uK SL h1 a w _ hi fun a' w' mZ=>?_)
  cases SL with
  | norm=>exact nA hcf Ll hb0 y hB.2 uK mU ex h2 a' w' Q mZ hQ
  | exit id=>
   simp only [aiL,aiV] at h2
   obtain⟨rfl,rfl⟩:=h2
   exact hQ a' w' mZ
  | ret=>
   simp only [aiL,aiV] at h2
   obtain⟨rfl,rfl⟩:=h2
   exact hQ a' w' mZ
 | .cond k x y,hB,st,mU,ex,h,a,w,Q,hi,hQ=>by
  simp only [oe,aiM] at hB
  simp only [cW,aiJ] at h
  obtain⟨t,ht,h⟩:=h
  have hk:a.eval k = .bool t:=by
   obtain⟨hn,c,Lo,lam,rfl,f,e⟩:=hi
   have hk:=cL f k
   unfold zc at ht
   split at ht
   ·rename_i b hb
    cases ht
    rw [hb] at hk
    simpa [SR,VR] using hk
   ·cases ht
  refine wp_cond hk ?_
  cases t with
  | true=>exact nA hcf Ll hb0 x hB.1 st mU ex (by simpa using h) a w Q hi hQ
  | false=>exact nA hcf Ll hb0 y hB.2 st mU ex (by simpa using h) a w Q hi hQ
 | .block id x,hB,st,mU,ex,h,a,w,Q,hi,hQ=>by
  simp only [oe] at hB
  simp only [cW,aiK] at h
  obtain⟨⟨SL,uK⟩,h1,h2⟩:=h
  refine wp_block (nA hcf Ll hb0 x hB st uK SL h1 a w _ hi fun a' w' mZ=>?_)
  cases SL with
  | norm=>
   simp only [aiV] at h2
   obtain⟨rfl,rfl⟩:=h2
   exact hQ a' w' mZ
  | exit oC=>
   simp only [aiV] at h2
   obtain⟨rfl,rfl⟩:=h2
   have:=hQ a' w' mZ
   simp only [Ex.SK,Exit.inBlock]
   split
   ·rename_i he; rw [if_pos he] at this; exact this
   ·rename_i he; rw [if_neg he] at this; exact this
  | ret=>
   simp only [aiV] at h2
   obtain⟨rfl,rfl⟩:=h2
   exact hQ a' w' mZ
 | .loop x,hB,st,mU,ex,h,a,w,Q,hi,hQ=>by
  simp only [oe] at hB
  simp only [cW] at h
  have key:∀(j:Nat) (st:St),oV (cW P cf A m x) j st=some (ex,mU)→∀a w,Inv L0 c0 n [] (st.open A) a w→rQ P x Q a w:=by
   intro j
   induction j with
   | zero=>intro st h; simp [oV] at h
   | succ j ih=>
    intro st h a w hi
    simp only [oV,aiJ] at h
    obtain⟨⟨SL,uK⟩,h1,h2⟩:=h
    refine rQ.step (nA hcf Ll hb0 x hB st uK SL h1 a w _ hi fun a' w' mZ=>?_)
    cases SL with
    | norm=>exact ih uK h2 a' w' mZ
    | exit id=>
     simp only [aiL,aiV] at h2
     obtain⟨rfl,rfl⟩:=h2
     exact hQ a' w' mZ
    | ret=>
     simp only [aiL,aiV] at h2
     obtain⟨rfl,rfl⟩:=h2
     exact hQ a' w' mZ
  exact rQ.loop (key m st h a w hi)
 | .region id ops draw,hB,st,mU,ex,h,a,w,Q,hi,hQ=>by
  simp only [oe] at hB
  simp only [cW,aiJ,aiK,aiV] at h
  obtain⟨s0,h0,s',h1,s2,h2,rfl,rfl⟩:=h
  replace hi:=hi.oU h0
  cases draw with
  | true=>
   simp only [if_true] at h1
   exact Ll L0 c0 n A.bb id ops _ s' h1 hb0 hB a w Q (hi.wide _) fun a' w' mZ=>hQ a' w' ((mZ.oU h2).rJ A id)
  | false=>
   simp only [aiW,if_false] at h1
   exact wp_region_list (IZ hcf hb0 rfl hB (fun a' w' mZ=>hQ a' w' ((mZ.oU h2).rJ A id)) ops.toList _ (fun _ h=>h) h1 a w (hi.wide _))
 | .rangeFunc ..,_,st,mU,ex,h,_,_,_,_,_=>by simp [cW] at h
 | .scope ..,_,st,mU,ex,h,_,_,_,_,_=>by simp [cW] at h
 | .goto ..,_,st,mU,ex,h,_,_,_,_,_=>by simp [cW] at h
 | .refuse ..,_,st,mU,ex,h,_,_,_,_,_=>by simp [cW] at h
theorem C1 {c:Cx}{Lo:Nat→Prop}{lam:Nat→Nat}{a:Act}(f:Fr L0 c Lo lam ds s a):∀(rs:List ResultVar) (l:List AV),Ha P s rs=some l→l.all AV.nZ=true→
  ∃vs:List Value,(rs.mapM (m:=Sem) fun | .tmp t=>pure (a.tmps.getD t undef) | .cell x t=>do loadVar t (←asAddr (a.tmps.getD x undef))).run P c.w = .ok vs c.w∧VRs c (un L0 Lo) l vs
 | [],l,h,_=>by
  simp only [Ha,aiL] at h
  subst h
  exact⟨[],rfl,trivial⟩
 | .tmp t::rs,l,h,hl=>by
  simp only [Ha,aiK] at h
  obtain⟨l',h1,rfl⟩:=h
  simp only [ajB,aiM] at hl
  obtain⟨vs,h2,h3⟩:=C1 f rs l' h1 hl.2
  refine⟨a.tmps.getD t undef::vs,?_,(f.slot t).vr (zu hl.1),h3⟩
  simp only [List.mapM_cons,Sem.run_bind,Sem.run_pure,Result.andThen_ok,h2]
 | .cell x t::rs,l,h,hl=>by
  simp only [Ha,aiJ,aiK] at h
  obtain⟨y,hy,l',h1,rfl⟩:=h
  simp only [ajB,aiM] at hl
  obtain⟨vs,h2,h3⟩:=C1 f rs l' h1 hl.2
  have hx:=f.slot x
  obtain⟨u,hr,hu⟩:=zh (P:=P) f (t:=t) hx hy
  have hp:∃ad,a.tmps.getD x undef = .pointer (some ad):=by
   unfold nr at hy
   cases hq:s.ρ x<;>rw [hq] at hy hx<;>simp only at hy<;>try (cases hy; done)
   ·simp only [SR,VR] at hx; obtain⟨_,ad,h,_⟩:=hx; exact⟨ad,h⟩
   ·simp only [SR] at hx; exact⟨_,hx.1⟩
   ·simp only [SR,VR] at hx; obtain⟨_,_,h,_⟩:=hx; exact⟨_,h⟩
  obtain⟨ad,hp⟩:=hp
  rw [hp] at hr
  have EW:(loadVar t ad).run P c.w = .ok u c.w:=by simpa [Instr.loadAt,Instr.sureAddr] using hr
  refine⟨u::vs,?_,hu,h3⟩
  have ha:(asAddr (a.tmps.getD x undef)).run P c.w = .ok ad c.w:=by rw [hp]; rfl
  simp only [List.mapM_cons,Sem.run_bind,Sem.run_pure,Result.andThen_ok,h2,ha,EW]
theorem kU:un L0 none0=L0:=by funext b; simp [un,none0]
theorem Ext.close {c c':Cx}{nb:Nat→Prop}(e:Ext c none0 c' nb):Ext c none0 c' none0:=
 ⟨e.next,e.live,e.size,e.keep,e.exact,e.base,e.Qt,fun _ h=>h,fun _ h=>h.elim,e.os,e.tape,e.output⟩
theorem HRel.oB {c:Cx}{L L':Nat→Prop}(hL:∀b,L' b→L b)(h:HRel c L):HRel c L':=
 ⟨h.lt,fun id o ho=>by
  have:=h.obj id o ho
  cases o with
  | cells cs=>obtain⟨m,h1,h2,h3⟩:=this; exact⟨m,h1,h2,Cells.oB hL _ _ _ h3⟩
  | row t cs=>obtain⟨h0,C,h1,h2,h4,h3⟩:=this; exact⟨h0,C,h1,h2,h4,Cells.oB hL _ _ _ h3⟩
  | map es=>
   obtain⟨oX,clock,h1,h2⟩:=this
   refine⟨oX,clock,h1,?_⟩
   clear h1
   have:∀(es:List (AV × AV)) (ms:List MapEntry),oW c L es ms→oW c L' es ms:=by
    intro es
    induction es with
    | nil=>intro ms h; cases ms with | nil=>trivial | cons m ms=>exact h.elim
    | cons e es ih=>intro ms h; cases ms with
     | nil=>exact h.elim
     | cons m ms=>obtain⟨h1,h2,h3⟩:=h; exact⟨⟨VR.oB hL _ _ h1.1,h1.2⟩,VR.oB hL _ _ h2,ih _ h3⟩
   exact this _ _ h2,h.inj,fun id hl hb=>h.out id hl (hL _ hb),fun b hb=>h.bd b (hL b hb),h.low,h.ver⟩
structure Fit (P:Program):Prop where
 mixed:P.follows .mixedOrders=true
 WS : ∀ (f : FuncId) fn c, P.funcs[f]? = some fn → fn.body = some c → oe fn.ntmps c = true ∧ fn.name ≠ "runtime.NumGoroutine"
def IntrOK (P:Program)(intr:FuncId→Option (List AV→AHeap→Option (AV × AHeap))):Prop:=
 ∀f g,intr f=some g→(CallOK P fun f' args h=>if f'=f then g args h else none)∧∀args h r h',g args h=some (r,h')→Steady h h'
theorem rR {f : FuncId} {fn : Func} {c : Code} (hf : P.funcs[f]? = some fn) (hc : fn.body = some c) (hn : fn.name ≠ "runtime.NumGoroutine") (vs : Array Value) (w : World) : (callFunc f vs).run P w = .ok (.enter f vs) w := by
 have ZV : (fn.name == "runtime.NumGoroutine") = false := by simpa using hn
 simp [callFunc,program,Sem.run,hf,hn,hc]
theorem EX (hP:Fit P){aW:FuncId→b4}{cf:CallF}(ih:CallOK P cf)(Ll:Hr P cf)(m:Nat):CallOK P (bj P aW cf m):=by
 intro f args h r h' hc
 unfold bj at hc
 rw [aiJ] at hc
 obtain⟨fn,hf,hc⟩:=hc
 rw [aiJ] at hc
 obtain⟨c,hb,hc⟩:=hc
 obtain⟨hB,WT⟩:=hP.WS f fn c hf hb
 refine⟨rR hf hb WT,fun L0 c0 vs hh hb0 hrel hargs=>?_⟩
 split at hc
 rotate_left
 ·cases hc
 rename_i hlen
 rw [aiJ] at hc
 obtain⟨⟨ex,st⟩,hex,hc⟩:=hc
 have hl:=hargs.length
 refine calls_of_wp hf hb ?_
 refine nA (L0:=L0) (c0:=c0) (n:=fn.ntmps) ih Ll hb0 c hB _ _ _ hex _ _ _ ?_ ?_
 ·refine⟨by simp; omega,c0,none0,fun _=>0,rfl,⟨hh,by rw [kU]; exact hrel,fun t=>?_,fun k cs hk=>?_,fun k k' hk=>?_,fun t k off _ he=>?_,rfl,fun b hb=>hb.elim⟩,Ext.refl _ _⟩
  ·simp only [St.open,rK,lO]
   split
   ·by_cases ht:t<args.length
    ·obtain⟨v,hv,hr⟩:=hargs.get t args[t] (by simp [ht])
     have:args.getD t AV.any=args[t]:=by simp [ht]
     rw [this,Array.getD_eq_getD_getElem?,Array.getElem?_append_left (by simp; omega)]
     have ZS:vs.toArray[t]? = some v:=by simpa using hv
     rw [ZS]
     exact SR.of (by rw [kU]; exact hr)
    ·have:args.getD t AV.any = .any:=by simp [ai8 (Nat.not_lt.1 ht)]
     rw [this]
     exact SR.of (by simp [VR])
   ·exact SR.of (by simp [VR])
  ·simp only [St.open,lO] at hk
   split at hk<;>cases hk
  ·simp only [St.open,lO] at hk
   split at hk<;>cases hk
  ·simp only [St.open,rK,lO] at he
   split at he
   ·by_cases ht:t<args.length
    ·obtain⟨v,hv,hr⟩:=hargs.get t args[t] (by simp [ht])
     have h1:args.getD t AV.any=args[t]:=by simp [ht]
     rw [h1] at he
     rw [he] at hr
     exact hr.elim
    ·have:args.getD t AV.any = .any:=by simp [ai8 (Nat.not_lt.1 ht)]
     rw [this] at he
     cases he
   ·cases he
 ·intro a' w' mZ
  have hfin:(aK P (st.open (aW f)) fn.results.toList).map (fun r=>(r,st.h))=some (r,h')→a'.defers=[]∧∃v,(results fn a'.tmps).run P w' = .ok v w'∧(∃c' v',Ending.returned v = .returned v'∧c'.w=w'∧c'.h=h'∧VR c' L0 r v'∧HRel c' L0∧Ext c0 none0 c' none0):=by
   intro hc
   rw [aiK] at hc
   obtain⟨r',EW,he⟩:=hc
   cases he
   obtain⟨hn,c',Lo,lam,rfl,f',e'⟩:=mZ
   refine⟨f'.defers,?_⟩
   unfold aK at EW
   rw [aiJ] at EW
   obtain⟨l,hl,EW⟩:=EW
   split at EW
   rotate_left
   ·cases EW
   rename_i pc
   obtain⟨us,hus,IG⟩:=C1 f' _ _ hl pc
   have M4:VRs c' L0 l us:=VRs.oB (fun b hb=>.inl hb) _ _ IG
   have Hi:(results fn a'.tmps).run P c'.w = .ok (if h:us.toArray.size=1 then us.toArray[0] else .tuple us.toArray) c'.w:=by
    unfold results
    rw [←Array.toArray_toList (xs:=fn.results)]
    rw [List.mapM_toArray]
    simp only [Sem.run_bind,Sem.run_map,Result.andThen_ok,Sem.run_pure]
    exact (congrArg (fun z=>(Result.andThen z (fun (a:List Value) w'=>Result.ok a.toArray w')).andThen (fun (a:Array Value) w'=>Result.ok (if h:a.size=1 then a[0] else Value.tuple a) w')) hus).trans rfl
   refine⟨_,Hi,c',_,rfl,rfl,f'.h,?_,HRel.oB (fun b hb=>.inl hb) f'.rel,e'.close⟩
   split at EW
   ·rename_i x
    cases EW
    cases us with
    | nil=>exact M4.elim
    | cons u us=>cases us with
     | nil=>exact M4.1
     | cons u2 us=>exact M4.2.elim
   ·rename_i hne
    cases EW
    have ZW:us.length≠1:=by
     intro h1
     rw [←M4.length] at h1
     cases l with
     | nil=>simp at h1
     | cons x l=>cases l with
      | nil=>exact hne x rfl
      | cons y l=>simp at h1
    have:¬us.toArray.size=1:=by simpa using ZW
    rw [dif_neg this]
    simp only [VR]
    exact⟨us.toArray,rfl,M4⟩
  cases ex with
  | norm=>exact hfin hc
  | ret=>exact hfin hc
  | exit id=>cases hc
end
end Go.R
