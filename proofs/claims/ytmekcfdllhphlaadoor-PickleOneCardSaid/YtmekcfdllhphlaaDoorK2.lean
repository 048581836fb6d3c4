/- Part of the proof: ROps5, ROps6, ROps7, ROpAll, RFrz, RCode, RLocal. -/
import Derived.Test.YtmekcfdllhphlaaDoorK1
import Derived.MapKept
import Derived.Laws.CopyRow
import Derived.Laws.BytesArg
import Derived.Laws.IdiomStrings
import Derived.Tactics
set_option linter.unusedVariables false
set_option linter.unusedSimpArgs false
set_option maxRecDepth 100000
open Array renaming getElem?_eq_some_iff → Xt, getElem?_setIfInBounds → XR, getElem?_modify → Yj, ext' → Yq
open Bool renaming and_eq_true → WV, false_eq_true → W9, true_and → X6, not_eq_true' → Yc
open List renaming length_set → WY, getElem?_eq_some_iff → WZ, getElem?_eq_none → Xa, mem_map → Xd, map_cons → Xe, all_eq_true → Xi, mem_cons → Xo, eq_nil_of_length_eq_zero → XF, ext_getElem? → XI, all_cons → XO, getElem?_set → Ye
open Nat renaming le_refl → WU, zero_add → Xh, beq → XB, le_succ → X5, lt_succ_of_lt → Yd, min_eq_left → Yr
open Ne renaming symm → X9
open Option renaming bind_some → WQ, bind_eq_some_iff → WR, map_eq_some_iff → WS, map_some → WW, isSome_iff_exists → Xw, getD_some → XQ
open Option.some renaming injEq → WT
open Prod.mk renaming injEq → W2
open UInt8 renaming ofNat → Ys
namespace Go.R
open Go
section
variable {P:Program}{L0:Nat→Prop}{c0:Cx}{n:Nat}{ds:List Nat}{o:Oper}{s:RS}
theorem Fr.wq {c:Cx}{Lo:Nat→Prop}{lam:Nat→Nat}{a:Act}(f:Fr L0 c Lo lam ds s a)(hbs:c.base≤c.w.heap.size){id:Nat}{es qQ:List (AV × AV)}(ho:c.h.get id=some (.map es)){kE qW:Array MapEntry}{clock nO:Nat}
  (hb:c.w.heap[(c.β id).1]? = some (.map kE clock)) (he:kD c (un L0 Lo) qQ qW.toList) :
  Ext c Lo ⟨c.β,s.h.put id (.map qQ),{c.w with heap:=c.w.heap.setIfInBounds (c.β id).1 (.map qW nO)},c.base⟩ Lo∧
   Fr L0 ⟨c.β,s.h.put id (.map qQ),{c.w with heap:=c.w.heap.setIfInBounds (c.β id).1 (.map qW nO)},c.base⟩ Lo lam ds {s with h:=s.h.put id (.map qQ)} a:=by
 have hl:Live c.h id:=⟨f.rel.lt _ _ ho,by simp [ho]⟩
 have hlt:(c.β id).1<c.w.heap.size:=(Xt.1 hb).1
 have hne:∀b,b≠(c.β id).1→({c.w with heap:=c.w.heap.setIfInBounds (c.β id).1 (.map qW nO)}:World).heap[b]? = c.w.heap[b]?:=by
  intro b hb
  simp only [XR]
  rw [if_neg (X9 hb)]
 rw [←f.h]
 refine f.upd (β':=c.β) (h':=c.h.put id (.map qQ)) id (.map qQ) (Steady.put _ _ _) (Yd hl.1) (by simp [AHeap.put,beq_nat])
  (fun ox h1=>.inr ⟨by simp [AHeap.put,beq_nat,h1],rfl⟩) (fun _=>⟨hl,rfl⟩) (.inr ⟨id,hl,rfl,.inl rfl⟩) (fun _=>?_)
  (fun b _ h1=>hne b h1) (fun b _ h1=>hne b h1) (by simp) hbs rfl rfl rfl (fun e=>⟨qW,nO,by simp [hlt],he.ext e⟩)
 simp only [Cx.len,World.shape?,hb,XR,hlt,if_true]
theorem wu {x y:AV}(hs:sameShape x y=true)(hq:fS x y=true):x=y:=by
 cases x<;>cases y<;>simp only [sameShape] at hs<;>try (cases hs; done)
 ·simp only [fS,iX,WV,beq_iff_eq] at hq
  obtain⟨rfl,rfl⟩:=hq
  rfl
 ·rename_i a b
  simp only [fS,iX,beq_iff_eq] at hq
  congr 1
  cases a; cases b
  congr 1
  exact Array.toList_inj.1 hq
 ·rename_i xs ys
  simp only [WV,beq_iff_eq] at hs
  obtain⟨⟨_,hx⟩,hy⟩:=hs
  obtain⟨ns,rfl⟩:=hH hx
  obtain⟨ms,rfl⟩:=hH hy
  simp only [fS,kb,decide_eq_true_eq] at hq
  rw [hq]
theorem nq:∀ns:List Int,iV (ns.map fun n=>AV.int .i64 n)=some (ns.map fun n=>Value.int .i64 n)
 | []=>rfl
 | n::ns=>by simp [iV,AV.fC,nq ns]
theorem Ak {t:TypeId}{k:AV}(h:fT P t k=true):∃u,k.zW=some u∧Instr.sameBits 10000 u u=true:=by
 unfold fT at h
 have Mg:∀cs:List AV,cs.all j8=true→∃u,(AV.agg cs).zW=some u∧Instr.sameBits 10000 u u=true:=by
  intro cs hcs
  obtain⟨ns,rfl⟩:=hH hcs
  refine⟨.agg (ns.map fun n=>Value.int .i64 n).toArray,by simp [AV.zW,nq],?_⟩
  simp only [Instr.sameBits,beq_self_eq_true,X6,Xi]
  intro p hp
  have:∀(l:List Value),(∀v∈l,∃m,v=Value.int .i64 m)→∀p∈l.zip l,Instr.sameBits 9999 p.1 p.2=true:=by
   clear hp p
   intro l hl p hp
   have h1:p.1=p.2∧p.1∈l:=by
    clear hl
    induction l with
    | nil=>cases hp
    | cons v l ih=>
     simp only [List.zip_cons_cons,Xo] at hp
     rcases hp with rfl | hp
     ·exact⟨rfl,by simp⟩
     ·obtain⟨h1,h2⟩:=ih hp; exact⟨h1,by simp [h2]⟩
   obtain⟨h1,h2⟩:=h1
   obtain⟨m,hm⟩:=hl _ h2
   rw [←h1,hm]
   simp [Instr.sameBits]
  exact this (ns.map fun n=>Value.int .i64 n) (fun v hv=>by obtain⟨m,_,rfl⟩:=Xd.1 hv; exact⟨m,rfl⟩) p (by simpa using hp)
 split at h
 ·exact⟨_,rfl,by simp [Instr.sameBits]⟩
 ·exact⟨_,rfl,by simp [Instr.sameBits,vc]⟩
 ·simp only [WV] at h; exact Mg _ h.1.1.2
 ·simp only [WV] at h; exact Mg _ h.1.1.2
 ·cases h
theorem sP {c:Cx}{L:Nat→Prop}{k v:AV}{kv vv:Value}(hc:k.zW.isSome=true)(hk:VR c L k kv)(hv:VR c L v vv) :
  ∀(es qQ:List (AV × AV)) (ms:List MapEntry) (i:Nat),kD c L es ms→vY k v es=some qQ→
   iE k es≠none∧(place k es ms i=none∧(∀b,kD c L qQ (ms++[{key:=kv,val:=vv,born:=b}]))∨
    ∃j u m,place k es ms i=some (i+j,u)∧ms[j]? = some m∧m.key=kv∧kD c L qQ (ms.modify j fun e=>{e with key:=kv,val:=vv}))
 | [],qQ,[],i,_,h=>by
  simp only [vY,WT] at h
  subst h
  exact⟨by simp [iE],.inl ⟨rfl,fun b=>⟨⟨hk,hc⟩,hv,trivial⟩⟩⟩
 | (k',v')::es,qQ,m::ms,i,he,h=>by
  obtain⟨⟨Ee,Si⟩,Bt,uz⟩:=he
  simp only [vY] at h
  split at h
  rotate_left
  ·cases h
  rename_i hs
  split at h
  ·rename_i hq
   cases h
   have ya:k=k':=wu hs hq
   obtain⟨u,hu⟩:=Xw.1 hc
   refine⟨by simp [iE,hs,hq],.inr ⟨0,m.val,m,by simp [place,hq],rfl,?_,?_⟩⟩
   ·subst ya
    rw [wg hu hk,wg hu Ee]
   ·exact⟨⟨hk,hc⟩,hv,uz⟩
  ·rename_i hq
   rw [WS] at h
   obtain⟨Uw,h1,rfl⟩:=h
   obtain⟨h2,h3⟩:=sP hc hk hv es Uw ms (i+1) uz h1
   refine⟨by simp [iE,hs,hq,h2],?_⟩
   have yh:fS k k'=false:=by simpa using hq
   rcases h3 with⟨h3,h4⟩| ⟨j,u,m',h3,h4,h5,h6⟩
   ·exact .inl ⟨by simp [place,yh,h3],fun b=>⟨⟨Ee,Si⟩,Bt,h4 b⟩⟩
   ·exact .inr ⟨j+1,u,m',by simp [place,yh,h3]; omega,by simpa using h4,h5,⟨⟨Ee,Si⟩,Bt,h6⟩⟩
 | [],_,_::_,_,h,_=>h.elim
 | _::_,_,[],_,h,_=>h.elim
theorem sQ {x:AV}(h:x.lC=true):∀k off,x≠.lp k off:=by rintro k off rfl; simp [AV.lC] at h
theorem uG {c:Cx}{Lo:Nat→Prop}{lam:Nat→Nat}{a:Act}(f:Fr L0 c Lo lam ds s a)(hbs:c.base≤c.w.heap.size){t:TypeId}{m k x:AV}{mv kv xv:Value}(hm:SR c L0 Lo lam s.bx m mv)(hk:SR c L0 Lo lam s.bx k kv)(hx:SR c L0 Lo lam s.bx x xv){h':AHeap}
  (h:iF P s.h t m k x=some h'):∃c',(Instr.mapUpdate t mv kv xv).run P c.w = .ok () c'.w∧Ext c Lo c' Lo∧Fr L0 c' Lo lam ds {s with h:=h'} a:=by
 unfold iF at h
 rw [WR] at h
 obtain⟨d,hd,h⟩:=h
 cases d<;>simp only at h<;>try (cases h; done)
 rename_i kt et
 split at h
 ·cases h
 rename_i jT
 obtain⟨uE,hargs⟩:fT P kt k=true∧x.lC=true:=by
  cases h1:fT P kt k<;>cases h2:x.lC<;>simp [h1,h2] at jT ⊢
 have yb:VR c (un L0 Lo) k kv:=hk.vr (by rintro k0 off rfl; simp [fT] at uE)
 have Ux:=hx.vr (sQ hargs)
 cases m<;>simp only at h<;>try (cases h; done)
 rename_i id
 rw [WR] at h
 obtain⟨ob,ho,h⟩:=h
 cases ob with
 | cells cs=>cases h
 | row t cs=>cases h
 | map es=>
 rw [WS] at h
 obtain⟨qQ,hu,rfl⟩:=h
 simp only [SR,VR] at hm
 obtain⟨hi,r,rfl,hr⟩:=hm
 rw [←f.h] at ho
 have hl:Live c.h id:=⟨f.rel.lt _ _ ho,by simp [ho]⟩
 have O5:=hr hl
 subst O5
 obtain⟨kE,clock,h1,h2⟩:=f.rel.obj _ _ ho
 obtain⟨u0,IT,Uy⟩:=Ak uE
 obtain⟨hf,hp⟩:=sP (by simp [IT]) yb Ux es qQ kE.toList 0 h2 hu
 have Ef:=vd uE yb c.w h2 hf
 have Jx:=nl (P:=P) false 9998 uE yb c.w
 have hget:(getObj (c.β id).1).run P c.w = .ok (.map kE clock) c.w:=MapKept.run_getObj_map h1
 rcases hp with⟨hp,sF⟩| ⟨j,u,m,hp,hj,hmk,sF⟩
 ·obtain⟨e',f'⟩:=f.wq hbs ho h1 (qW:=kE.push {key:=kv,val:=xv,born:=clock}) (nO:=clock+1) (qQ:=qQ) (by simpa using sF clock)
  refine⟨_,?_,e',f'⟩
  unfold Instr.mapUpdate
  rw [hp] at Ef
  simp only [Sem.run_bind,bn hd,Result.andThen_ok,hget,Jx,Ef]
  exact MapKept.run_setObj_map _ h1
 ·obtain⟨e',f'⟩:=f.wq hbs ho h1 (qW:=kE.modify j fun e=>{e with key:=kv,val:=xv}) (nO:=clock) (qQ:=qQ) (by simpa using sF)
  refine⟨_,?_,e',f'⟩
  unfold Instr.mapUpdate
  rw [hp,Xh] at Ef
  have JF:kE[j]? = some m:=by simpa using hj
  have HB:(Instr.keyThatStays m.key kv).run P c.w = .ok kv c.w:=by
   rw [hmk]
   unfold Instr.keyThatStays
   rw [wg IT yb,Uy]
   rfl
  simp only [Sem.run_bind,bn hd,Result.andThen_ok,hget,Jx,Ef,JF,WW,XQ,HB]
  exact MapKept.run_setObj_map _ h1
theorem oC (hb0:c0.base≤c0.w.heap.size){t:TypeId}{m k x:Operand}(ho:o.op = .mapUpdate t m k x∨o.op = .insert t m k x)(ry:o.dst=none){h':AHeap}
  (h:iF P s.h t (bP s.ρ m) (bP s.ρ k) (bP s.ρ x)=some h'):jm P L0 c0 n ds o s {s with h:=h'}:=by
 rintro a w K Q ⟨hn,c,Lo,lam,rfl,f,e⟩ hK
 obtain⟨c',hr,e',f'⟩:=uG f (jD e hb0) (bz f m) (bz f k) (bz f x) h
 unfold Oper.wp
 have:(execOp a.eval o).run P c.w = .ok .skip c'.w:=by rcases ho with ho | ho<;>simp [execOp,ho,hr]
 rw [this,Oper.upon_skip]
 have JA:a.put o.dst undef=a:=by rw [ry]; rfl
 rw [JA]
 exact hK _ _ ⟨hn,c',Lo,lam,rfl,f',e.trans e'⟩
theorem Es (hb0:c0.base≤c0.w.heap.size)(hd:fU n ds o){t:TypeId}{x:Operand}(ho:o.op = .call {callee:=.builtin .clear,args:=#[x],argTypes:=#[t]}){h':AHeap}
  (h:ss P s.h t (bP s.ρ x)=some h'):jm P L0 c0 n ds o s ({s with h:=h'}.set o.dst (.tup [])):=by
 rintro a w K Q ⟨hn,c,Lo,lam,rfl,f,e⟩ hK
 unfold ss at h
 rw [WR] at h
 obtain⟨d,CW,h⟩:=h
 have hx:=bz f x
 have fin:∀c',(Builtin.clear_ #[t] o.type #[a.eval x]).run P c.w = .ok (.tuple #[]) c'.w→Ext c Lo c' Lo→Fr L0 c' Lo lam ds {s with h:=h'} a→o.wp P a c.w K Q:=by
  intro c' hr e' f'
  unfold Oper.wp
  have:(execOp a.eval o).run P c.w = .ok (.value (.tuple #[])) c'.w:=by
   simp [execOp,ho,resolve,invoke,builtin,hr]
  rw [this,Oper.upon_value]
  exact hK _ _ ⟨(gu _ _ _).trans hn,c',Lo,lam,rfl,f'.set (SR.of (by simp [VR,VRs])) (fun t ht=>by rw [hn]; exact hd t ht),e.trans e'⟩
 cases CQ:bP s.ρ x<;>rw [CQ] at h hx<;>simp only at h<;>try (cases h; done)
 ·cases h
  simp only [SR,VR] at hx
  refine fin c ?_ (Ext.refl _ _) f
  simp [Builtin.clear_,bn CW,hx]
 ·rename_i id
  rw [WR] at h
  obtain⟨ob,ho,h⟩:=h
  cases ob with
  | cells cs=>cases h
  | row t cs=>cases h
  | map es=>
  cases h
  simp only [SR,VR] at hx
  obtain⟨hi,r,r7,hr⟩:=hx
  rw [←f.h] at ho
  have hl:Live c.h id:=⟨f.rel.lt _ _ ho,by simp [ho]⟩
  have O5:=hr hl
  subst O5
  obtain⟨kE,clock,h1,h2⟩:=f.rel.obj _ _ ho
  obtain⟨e',f'⟩:=f.wq (jD e hb0) ho h1 (qW:=#[]) (nO:=clock) (qQ:=[]) trivial
  refine fin _ ?_ e' f'
  have hget:(getObj (c.β id).1).run P c.w = .ok (.map kE clock) c.w:=MapKept.run_getObj_map h1
  have Al:=MapKept.run_setObj_map (P:=P) (.map #[] clock) h1
  simp [Builtin.clear_,bn CW,r7,hget,Al]
end
end Go.R
namespace Go.R
open Go
section
variable {P:Program}{L0:Nat→Prop}{c0:Cx}{n:Nat}{ds:List Nat}{o:Oper}{s:RS}
theorem l9 {w:World}{t t2 ty e:TypeId}{i:TypeInfo}(ht:P.underlying t=some (.slice e))(hi:P.info? e=some i){base:Option Addr}{len cap:Nat}{x:Value}{news:List Value}{m:Nat}(hs:Src P i.size t2 x m news w)(hm:m≤len) :
  (Builtin.copy_ #[t,t2] ty #[.slice base len cap,x]).run P w=match base with | none=>.ok (goInt m) w | some a=>((storeCells a news).run P w).andThen fun _ w'=>.ok (goInt m) w':=by
 have Mh:Nat.min m len=m:=Yr hm
 have hlen:=hs.len w
 have hc:=hs.cells
 have hsz:(sizeOf e).run P w = .ok i.size w:=by simp [sizeOf,typeInfo,hi]
 unfold Builtin.copy_
 cases base with
 | none=>simp [bn ht,hlen,Mh,hsz,hc]
 | some a=>simp [bn ht,hlen,Mh,hsz,hc,Sem.run_bind]
theorem HC (hb0:c0.base≤c0.w.heap.size)(hd:fU n ds o){t t2:TypeId}{dx sx:Operand}(ho:o.op = .call {callee:=.builtin .copy,args:=#[dx,sx],argTypes:=#[t,t2]}){y:AV}{h':AHeap}
  (h:u4 P s.h t t2 (bP s.ρ dx) (bP s.ρ sx)=some (y,h')):jm P L0 c0 n ds o s ({s with h:=h'}.set o.dst y):=by
 rintro a w K Q ⟨hn,c,Lo,lam,rfl,f,e0⟩ hK
 have hbs:=jD e0 hb0
 unfold u4 at h
 rw [WR] at h
 obtain⟨d,CW,h⟩:=h
 cases d<;>simp only at h<;>try (cases h; done)
 rename_i e
 rw [WR] at h
 obtain⟨i,hi,h⟩:=h
 rw [WR] at h
 obtain⟨⟨new,m⟩,hcs,h⟩:=h
 simp only at h
 split at h
 ·cases h
 rename_i ig
 have ig:j7 P t2 (bP s.ρ sx)=true:=by simpa using ig
 have Sj:∀st,bP s.ρ sx = .str st→P.underlying t2=some .string:=by
  intro st hst
  rw [hst] at ig
  unfold j7 at ig
  simp only at ig
  split at ig
  ·assumption
  ·cases ig
 have pY:(∀st,bP s.ρ sx≠.str st)→∃e',P.underlying t2=some (.slice e'):=by
  intro hne
  unfold j7 at ig
  split at ig
  ·rename_i st hst; exact absurd hst (hne st)
  ·split at ig
   ·rename_i e' he; exact⟨e',he⟩
   ·cases ig
 have hk:(∃e',P.underlying t2=some (.slice e'))∨P.underlying t2=some .string:=by
  by_cases hst:∃st,bP s.ρ sx = .str st
  ·obtain⟨st,hst⟩:=hst; exact .inr (Sj st hst)
  ·exact .inl (pY fun st O6=>hst ⟨st,O6⟩)
 obtain⟨news,hS,hv⟩:=pX f (bz f sx) hk Sj pY hcs
 have xO:=bz f dx
 have fin:∀c',(Builtin.copy_ #[t,t2] o.type #[a.eval dx,a.eval sx]).run P c.w = .ok (goInt m) c'.w→Ext c Lo c' Lo→Fr L0 c' Lo lam ds {s with h:=h'} a→y = .int .i64 m→o.wp P a c.w K Q:=by
  intro c' hr e' f' hy
  unfold Oper.wp
  have:(execOp a.eval o).run P c.w = .ok (.value (goInt m)) c'.w:=by
   simp [execOp,ho,resolve,invoke,builtin,hr]
  rw [this,Oper.upon_value]
  exact hK _ _ ⟨(gu _ _ _).trans hn,c',Lo,lam,rfl,f'.set (SR.of (by subst hy; simp [VR,goInt])) (fun t ht=>by rw [hn]; exact hd t ht),e0.trans e'⟩
 cases CQ:bP s.ρ dx<;>rw [CQ] at h xO<;>simp only at h<;>try (cases h; done)
 ·split at h
  rotate_left
  ·cases h
  rename_i sE
  cases h
  simp only [SR,VR] at xO
  obtain⟨ad,xO⟩:∃ad:Option Addr,a.eval dx = .slice ad 0 0:=⟨none,xO⟩
  refine fin c ?_ (Ext.refl _ _) f (by rw [sE]; rfl)
  rw [xO,l9 CW hi hS (by omega)]
  cases ad with
  | none=>rfl
  | some ad=>
   have:news=[]:=XF (by rw [hS.newsLen,sE]; simp)
   subst this
   rfl
 ·rename_i id off len jw
  split at h
  ·rename_i hid
   split at h
   rotate_left
   ·cases h
   rename_i sE
   cases h
   simp only [SR,VR] at xO
   rcases xO with⟨_,_,_,ad,xO⟩| xO
   rotate_left
   ·exact absurd hid xO.1
   refine fin c ?_ (Ext.refl _ _) f (by rw [sE]; rfl)
   rw [xO,l9 CW hi hS (by omega)]
   cases ad with
   | none=>rfl
   | some ad=>
    have:news=[]:=XF (by rw [hS.newsLen,sE]; simp)
    subst this
    rfl
  rename_i lK
  rw [WR] at h
  obtain⟨ob,hob,h⟩:=h
  cases ob with
  | map es=>cases h
  | row t cs=>cases h
  | cells cs=>
  simp only at h
  split at h
  rotate_left
  ·cases h
  rename_i hh
  obtain⟨Uz,Mi,hoff⟩:=hh
  cases h
  simp only [SR,VR] at xO
  rcases xO with xO | ⟨_,hid,ad,cap,xO,hlc,Eh,hlive⟩
  ·exact absurd xO.1 lK
  rw [←f.h] at hob
  have hl:Live c.h id:=⟨f.rel.lt _ _ hob,by simp [hob]⟩
  obtain⟨q,hp,hq,hc⟩:=f.rel.obj _ _ hob
  have hnl:=hS.newsLen
  have hvl:=hv.length
  have hr:=l9 (ty:=o.type) CW hi hS Mi (base:=ad) (cap:=cap)
  by_cases ha:ad=some ⟨(c.β id).1,(c.β id).2+off,none⟩
  ·subst ha
   simp only at hr
   have hst:=lZ (P:=P) hp.mO (base:=(c.β id).2) (off:=off) (vs:=news) (by omega) hS.one
   rw [hst] at hr
   simp only [Result.andThen_ok] at hr
   obtain⟨q1,q2,q3,q4⟩:=hU news (c.β id).1 ((c.β id).2+off) c.w
   have Ae:iH c (c.β id).1 q:=hp
   obtain⟨C,Mf,hb,Af⟩:=hp
   obtain⟨C',g1,g2,g3⟩:=fJ news (c.β id).1 ((c.β id).2+off) c.w C Mf (0,0) hb (by omega)
   obtain⟨e',f'⟩:=f.upd (w':=c.w.setCells (c.β id).1 ((c.β id).2+off) news) (β':=c.β) (h':=s.h.put id (.cells (dy cs off new))) id (.cells (dy cs off new))
    (by rw [f.h]; exact Steady.put _ _ _) (by rw [←f.h]; exact Yd hl.1) (by simp [AHeap.put,beq_nat]) (fun ox h1=>.inr ⟨by rw [f.h]; simp [AHeap.put,beq_nat,h1],rfl⟩) (fun _=>⟨hl,rfl⟩) (.inr ⟨id,hl,rfl,.inl rfl⟩)
    (fun _=>by simp only [Cx.len,World.shape?,g1,hb,WW,XQ,g2])
    (fun b _ hne=>dZ _ _ _ _ _ hne) (fun b _ hne=>dZ _ _ _ _ _ hne) (by rw [q1]; exact WU _) hbs q2 q3 q4
    (fun ee=>⟨q,Ae.setCells (by omega) _ _ _,by rw [jh]; exact hq,jS Ae.mO hc hv hS.one (by omega) (by omega) ee rfl⟩)
   refine fin _ ?_ e' f' rfl
   rw [xO]
   exact hr
  ·have hz:new=[]∧m=0∧news=[]:=by
    rcases hlive hl with⟨h1,_⟩| h1
    ·exact absurd h1 ha
    ·have h0:m=0:=by omega
     have h2:news=[]:=XF (by rw [hnl,h0]; simp)
     subst h2
     exact⟨XF (by simpa using hvl),h0,rfl⟩
   obtain⟨rfl,rfl,rfl⟩:=hz
   have np:dy cs off []=cs:=by simp [dy]
   rw [np] at *
   obtain⟨e',f'⟩:=f.upd (w':=c.w) (β':=c.β) (h':=s.h.put id (.cells cs)) id (.cells cs)
    (by rw [f.h]; exact Steady.put _ _ _) (by rw [←f.h]; exact Yd hl.1) (by simp [AHeap.put,beq_nat]) (fun ox h1=>.inr ⟨by rw [f.h]; simp [AHeap.put,beq_nat,h1],rfl⟩) (fun _=>⟨hl,rfl⟩) (.inr ⟨id,hl,rfl,.inl rfl⟩)
    (fun _=>rfl) (fun b _ hne=>rfl) (fun b _ hne=>rfl) (WU _) hbs rfl rfl rfl
    (fun ee=>ru.ext ee ⟨q,hp,hq,hc⟩ rfl)
   refine fin _ ?_ e' f' rfl
   rw [xO,hr]
   cases ad<;>rfl
end
end Go.R
namespace Go.R
open Go
section
variable {P:Program}{L0:Nat→Prop}{c0:Cx}{n:Nat}{ds:List Nat}{o:Oper}{s:RS}
theorem pZ {e:TypeId}(h:CJ P e=true):P.underlying e=some (.int .u8)∧eu P e=some 1:=by
 unfold CJ at h
 simp only [WV,beq_iff_eq] at h
 obtain⟨h1,h2⟩:=h
 refine⟨?_,h2⟩
 split at h1
 ·assumption
 ·cases h1
theorem Bw {c:Cx}{L:Nat→Prop}:∀{cs:List AV} {l:List UInt8} {vs:List Value},Ha cs=some l→VRs c L cs vs→∃xs:List Int,vs=xs.map (Value.int .u8)∧l=xs.map fun n=>Ys n.toNat
 | [],l,[],h,_=>by simp only [Ha,WT] at h; subst h; exact⟨[],rfl,rfl⟩
 | x::cs,l,v::vs,h,hv=>by
  unfold Ha at h
  split at h
  ·rename_i heq; cases heq
  ·rename_i n xs heq
   cases heq
   rw [WS] at h
   obtain⟨l',h1,rfl⟩:=h
   obtain⟨ys,rfl,rfl⟩:=Bw h1 hv.2
   have h2:=hv.1
   simp only [VR] at h2
   subst h2
   exact⟨n::ys,rfl,rfl⟩
  ·cases h
 | [],_,_::_,_,h=>h.elim
 | _::_,_,[],_,h=>h.elim
theorem wv (xs:List Int):strOfNums xs=⟨(xs.map fun n=>Ys n.toNat).toArray⟩:=rfl
theorem yi {w:World}{src dst e:TypeId}{v:Value}{m:Nat}{xs:List Int}(hs:P.underlying src=some (.slice e))(he:P.underlying e=some (.int .u8))(hd:P.underlying dst=some .string)
  (hS:Src P 1 src v m (xs.map (Value.int .u8)) w) (hv:∃a cap,v = .slice a m cap):(convert src dst v).run P w = .ok (.string (strOfNums xs)) w:=by
 obtain⟨a,cap,rfl⟩:=hv
 have hc:=hS.cells
 have hl:=hS.newsLen
 cases a with
 | none=>
  have:xs=[]:=by
   simp [Builtin.firstCells] at hc
   cases xs with
   | nil=>rfl
   | cons x xs=>simp at hc
  subst this
  exact run_convert_bytes_nil w src e hs he m cap dst hd
 | some a=>
  rw [run_convert_bytes_string w src dst e (some a) m cap hs he hd]
  have h1:(loadCells a m).run P w = .ok (xs.map (Value.int .u8)).toArray w:=by simpa [Builtin.firstCells] using hc
  rw [run_bytesToString w a m cap xs h1,foldl_push_bytes]
  simp [strOfNums,ByteArray.empty,ByteArray.emptyWithCapacity]
  rfl
theorem uH {c:Cx}{Lo:Nat→Prop}{lam:Nat→Nat}{x:AV}{v:Value}{h:AHeap}{size m:Nat}{new:List AV}(hx:SR c L0 Lo lam s.bx x v)(hc:dJ h size x=some (new,m))(hne:∀st,x≠.str st):∃a cap,v = .slice a m cap:=by
 unfold dJ at hc
 cases x<;>simp only at hc<;>try (cases hc; done)
 ·exact absurd rfl (hne _)
 ·cases hc
  simp only [SR,VR] at hx
  subst hx
  exact⟨none,0,rfl⟩
 ·split at hc
  ·cases hc
   simp only [SR,VR] at hx
   obtain⟨a,cap,rfl,_⟩:=hx
   exact⟨a,cap,rfl⟩
  ·cases hc
 ·split at hc
  ·split at hc
   ·cases hc
    simp only [SR,VR] at hx
    rename_i hid _
    rcases hx with⟨_,_,_,a,rfl⟩| hx
    ·exact⟨a,0,rfl⟩
    ·exact absurd hid hx.1
   ·cases hc
  rename_i lK
  rw [WR] at hc
  obtain⟨ob,_,hc⟩:=hc
  cases ob with
  | map es=>cases hc
  | row t cs=>cases hc
  | cells cs=>
   simp only at hc
   split at hc
   ·cases hc
    simp only [SR,VR] at hx
    rcases hx with hx | ⟨_,_,a,cap,rfl,_⟩
    ·exact absurd hx.1 lK
    exact⟨a,cap,rfl⟩
   ·cases hc
theorem bytes_VRs {c:Cx}{L:Nat→Prop}:∀l:List UInt8,VRs c L (l.map fun b=>AV.int .u8 b.toNat) (l.map fun b=>Value.int .u8 b.toNat)
 | []=>trivial
 | b::l=>⟨by simp [VR],bytes_VRs l⟩
theorem wx {w:World}{b o k:Nat}{C:Array Value}{e:TypeId}{fr:Nat × Nat}(hb:w.heap[b]? = some (.cells C e fr))(ho:C.size≤o)(hk:k≠0) :
  (∀b',iG w (w.freeze ⟨b,o,none⟩ k) b')∧(∀b',b'≠b→(w.freeze ⟨b,o,none⟩ k).heap[b']? = w.heap[b']?)∧(w.freeze ⟨b,o,none⟩ k).heap.size=w.heap.size∧(w.freeze ⟨b,o,none⟩ k).os=w.os∧(w.freeze ⟨b,o,none⟩ k).tape=w.tape∧(w.freeze ⟨b,o,none⟩ k).output=w.output:=by
 unfold World.freeze
 rw [if_neg hk]
 have hlt:=(Xt.1 hb).1
 refine⟨fun b'=>?_,fun b' hne=>by simp [Yj,X9 hne],by simp,rfl,rfl,rfl⟩
 by_cases hne:b'=b
 ·subst hne
  obtain⟨lo,hi⟩:=fr
  refine .inr ⟨C,e,lo,hi,(if lo==hi then (o,o+k) else (min lo o,max hi (o+k))).1,(if lo==hi then (o,o+k) else (min lo o,max hi (o+k))).2,hb,?_,?_⟩
  ·simp [Yj,hb]
  ·intro h
   by_cases O7:lo=hi
   ·subst O7; right; simpa using ho
   ·have:(lo==hi)=false:=by simpa using O7
    right
    simp only [this,W9,if_false]
    rcases h with h | h
    ·exact absurd h O7
    ·exact Nat.le_min.2 ⟨h,ho⟩
 ·exact .inl (by simp [Yj,X9 hne])
theorem Am (hb0:c0.base≤c0.w.heap.size)(hd:fU n ds o){src dst:TypeId}{x:Operand}(ho:o.op = .convert src dst x){y:AV}(h:dW P s.h src dst (bP s.ρ x)=some y):jm P L0 c0 n ds o s (s.set o.dst y):=by
 have hex:∀(a:Act) (w w':World) v,(convert src dst (a.eval x)).run P w = .ok v w'→(execOp a.eval o).run P w = .ok (.value v) w':=by
  intro a w w' v hr; simp [execOp,ho,hr]
 unfold dW at h
 split at h
 ·rename_i e hs zR
  split at h
  rotate_left
  ·cases h
  rename_i hu
  obtain⟨he,hsz⟩:=pZ hu
  rw [WR] at h
  obtain⟨⟨cs,m⟩,hcs,h⟩:=h
  rw [WS] at h
  obtain⟨l,hl,rfl⟩:=h
  by_cases hst:∃st,bP s.ρ x = .str st
  ·
   obtain⟨st,hst⟩:=hst
   refine fq hd fun a c Lo lam f hn=>?_
   have hx:=bz f x
   rw [hst] at hx hcs
   simp only [SR,VR] at hx
   simp only [dJ,if_true,WT,W2] at hcs
   obtain⟨rfl,rfl⟩:=hcs
   refine⟨_,hex _ _ _ (.string st) ?_,?_⟩
   ·simp [convert,run_underlying hs,run_underlying zR,hx]
   ·have:∀(l0 l1:List UInt8),Ha (l0.map fun b=>AV.int .u8 b.toNat)=some l1→l1=l0:=by
     intro l0
     induction l0 with
     | nil=>intro l1 h; simp [Ha] at h; exact h
     | cons b l0 ih=>
      intro l1 h
      simp only [Xe,Ha,WS] at h
      obtain⟨l2,h2,rfl⟩:=h
      rw [ih l2 h2]
      simp
    rw [this _ _ hl]
    simp [SR,VR]
  ·refine fq hd fun a c Lo lam f hn=>?_
   have hne:∀st,bP s.ρ x≠.str st:=fun st h=>hst ⟨st,h⟩
   have hx:=bz f x
   obtain⟨news,hS,hv⟩:=pX f hx (.inl ⟨e,hs⟩) (fun st h=>absurd h (hne st)) (fun _=>⟨e,hs⟩) hcs
   obtain⟨xs,rfl,rfl⟩:=Bw hl hv
   exact⟨_,hex _ _ _ _ (yi hs he zR hS (uH hx hcs hne)),by simp [SR,VR,wv]⟩
 ·rename_i e hs zR
  cases CQ:bP s.ρ x<;>rw [CQ] at h<;>simp only at h<;>try (cases h; done)
  rename_i st
  split at h
  rotate_left
  ·cases h
  rename_i hu
  obtain⟨he,hsz⟩:=pZ hu
  cases h
  refine sL hb0 hd (fun a c Lo lam f hn hbs=>?_) (by rintro k off h; cases h)
  have hx:=bz f x
  rw [CQ] at hx
  simp only [SR,VR] at hx
  have hr:=run_bytes_of_string c.w src dst e st hs zR he
  rw [←hx] at hr
  refine⟨_,_,hex _ _ _ _ hr,fun b hb=>.inl (alloc_old c.w.drew _ (show b<c.w.heap.size from hb)),fun id hl=>alloc_old c.w.drew _ (show (c.β id).1<c.w.heap.size from f.rel.block hl),fun b hb=>alloc_old c.w.drew _ (show b<c.w.heap.size by omega),by show c.w.heap.size≤(c.w.heap.push _).size; simp,rfl,rfl,rfl,fun e'=>?_⟩
  simp only [VR]
  refine⟨_,_,rfl,grownCap_ge c.w,by simp,.inl rfl,?_⟩
  refine .inr ⟨c.w.heap.size,0,rfl,Eo f.rel rfl rfl,by simp,?_⟩
  refine Cells.of_vals (bytes_VRs st.data.toList) (fun i hi=>?_) (fun v hv=>by obtain⟨b,_,rfl⟩:=Xd.1 hv; rfl)
  have lE:i<st.data.size:=by simpa using hi
  have:(World.alloc c.w.drew (.cells (bytesRow st (grownCap c.w st.size 0 e)) e ((bytesRow st (grownCap c.w st.size 0 e)).size,(bytesRow st (grownCap c.w st.size 0 e)).size+1))).heap[c.w.heap.size]? = some (.cells (bytesRow st (grownCap c.w st.size 0 e)) e ((bytesRow st (grownCap c.w st.size 0 e)).size,(bytesRow st (grownCap c.w st.size 0 e)).size+1)):=iq c.w.drew _
  rw [cell_of_block this]
  simp [bytesRow,Array.getElem?_append,lE]
  intro hge
  have:st.size=st.data.size:=rfl
  omega
 ·rename_i e0 e hs zR
  cases CQ:bP s.ρ x<;>rw [CQ] at h<;>try (cases h; done)
  rename_i cs m ex
  cases ex
  ·cases h
  simp only at h
  split at h
  rotate_left
  ·cases h
  rename_i hu
  simp only [WV,beq_iff_eq,decide_eq_true_eq] at hu
  obtain⟨⟨UA,hu⟩,iS⟩:=hu
  subst UA
  obtain⟨he,hsz⟩:=pZ hu
  cases h
  refine sL hb0 hd (fun a c Lo lam f hn hbs=>?_) (by rintro k off h; cases h)
  have hx:=bz f x
  rw [CQ] at hx
  have HD:=hx.vr (by rintro k off h; cases h)
  simp only [SR,VR] at hx
  obtain⟨ad,cap,r7,h1,h2,_,h3⟩:=hx
  rcases h3 with rfl | ⟨b,off,rfl,LV,hbb,hc⟩
  ·simp at iS
  have hlt:b<c.w.heap.size:=by
   cases cs with
   | nil=>simp at iS
   | cons x cs=>exact jP hc
  have np:∃C e' fr,c.w.heap[b]? = some (.cells C e' fr):=by
   cases cs with
   | nil=>simp at iS
   | cons x cs=>
    obtain⟨⟨v,hv,_⟩,_⟩:=hc
    unfold World.cell? at hv
    split at hv
    ·exact⟨_,_,_,by assumption⟩
    ·cases hv
  obtain⟨C,e',fr,hb⟩:=np
  obtain⟨k1,k2,k3,k4,k5,k6⟩:=wx (k:=1) hb (WU C.size) (by decide)
  refine⟨c.w.freeze ⟨b,C.size,none⟩ 1,a.eval x,hex _ _ _ _ ?_,fun b' _=>k1 b',fun id hl=>k2 _ (LV.1 id hl),fun b' D0=>k2 b' (by have:=hbb trivial; omega),by rw [k3]; exact WU _,k4,k5,k6,fun Mf=>VR.ext Mf _ _ HD⟩
  rw [r7]
  have UB:c.w.shape? b=some (e',C.size):=by simp [World.shape?,hb]
  simp [convert,run_underlying zR,run_underlying he,markStringish,UB]
 ·rw [WR] at h
  obtain⟨v,hv,h⟩:=h
  rw [WR] at h
  obtain⟨r,hr,h⟩:=h
  refine fq hd fun a c Lo lam f hn=>?_
  have hx:=kF hv ((bz f x).vr (kG hv))
  exact⟨r,hex _ _ _ _ (by rw [hx]; exact ka _ hr),SR.of (mP h)⟩
theorem dD {op:BinOp}{t:TypeId}{x y:Operand}{u v:Value}(h:(∀a b,u≠.agg a∨v≠.agg b)∧u≠.nilIface)(w:World):(eqGuard op t x y u v).run P w = .ok () w:=by
 obtain⟨h1,h2⟩:=h
 unfold eqGuard
 cases op<;>first | rfl | skip
 all_goals
  simp only [Bool.not_true,W9,if_false]
  split
  ·exact absurd rfl h2
  ·rename_i a b; rcases h1 a b with h3 | h3<;>exact absurd rfl h3
  ·rfl
theorem An {x:AV}{u:Value}(h:x.fC=some u):(∀a,u≠.agg a)∧u≠.nilIface:=by
 unfold AV.fC at h
 split at h<;>first | (cases h; done) | (cases h; exact⟨fun _=>(by simp),(by simp)⟩)
theorem CX {op:BinOp}{a b:ByteArray}{y:AV}(h:zZ op a b=some y)(w:World):∃r,(Op.stringOp op a b).run P w = .ok r w∧∀(c:Cx) (L:Nat→Prop),VR c L y r:=by
 have hl:∀z:ByteArray,z.toList=z.data.toList:=fun z=>ByteArray.toList_eq z
 unfold zZ at h
 unfold Op.stringOp
 simp only [hl]
 cases op<;>simp only at h<;>try (cases h; done)
 ·split at h
  rotate_left
  ·cases h
  rename_i hsz
  cases h
  refine⟨.string (a++b),?_,fun c L=>by simp only [VR]⟩
  have h1:¬(((a.size+b.size:Nat):Int) > IntKind.i64.max):=by
   have:IntKind.i64.max=9223372036854775807:=by decide
   rw [this]; omega
  simp only [h1,if_false]
  rfl
 all_goals (cases h; exact⟨_,rfl,fun c L=>by simp only [VR]⟩)
theorem mQ {op:BinOp}{pL:Bool}(h:z6 op=some pL):(op = .eql∧pL=true)∨(op = .neq∧pL=false):=by
 unfold z6 at h
 split at h<;>cases h
 ·exact .inl ⟨rfl,rfl⟩
 ·exact .inr ⟨rfl,rfl⟩
theorem nP {t:TypeId}(ht:∃q,P.underlying t=some (.pointer q)){a:Addr}{op:BinOp}{pL:Bool}(h:z6 op=some pL)(w:World) :
  (binOp op t (.pointer (some a)) (.pointer none)).run P w = .ok (.bool (!pL)) w∧(binOp op t (.pointer none) (.pointer (some a))).run P w = .ok (.bool (!pL)) w:=by
 obtain⟨q,hq⟩:=ht
 have e1:(Op.equal t (.pointer (some a)) (.pointer none)).run P w = .ok false w:=by
  unfold Op.equal Op.maxDepth
  unfold Op.equalIn
  simp [bn hq]
 have e2:(Op.equal t (.pointer none) (.pointer (some a))).run P w = .ok false w:=by
  unfold Op.equal Op.maxDepth
  unfold Op.equalIn
  simp [bn hq]
 rcases mQ h with⟨rfl,rfl⟩| ⟨rfl,rfl⟩
 ·constructor
  ·show ((do pure (.bool (←Op.equal t (.pointer (some a)) (.pointer none)))):Sem Value).run P w=_
   simp [e1]
  ·show ((do pure (.bool (←Op.equal t (.pointer none) (.pointer (some a))))):Sem Value).run P w=_
   simp [e2]
 ·constructor
  ·show ((do pure (.bool (!(←Op.equal t (.pointer (some a)) (.pointer none))))):Sem Value).run P w=_
   simp [e1]
  ·show ((do pure (.bool (!(←Op.equal t (.pointer none) (.pointer (some a)))))):Sem Value).run P w=_
   simp [e2]
theorem oD {t:TypeId}(ht:∃q,P.underlying t=some (.slice q)){ad:Option Addr}(hs:ad.isSome=true){m cap:Nat}{op:BinOp}{pL:Bool}(h:z6 op=some pL)(w:World) :
  (binOp op t (.slice ad m cap) (.slice none 0 0)).run P w = .ok (.bool (!pL)) w:=by
 obtain⟨q,hq⟩:=ht
 obtain⟨a,rfl⟩:=Xw.1 hs
 have e1:(Op.equal t (.slice (some a) m cap) (.slice none 0 0)).run P w = .ok false w:=by
  unfold Op.equal Op.maxDepth
  unfold Op.equalIn
  simp [bn hq]
 rcases mQ h with⟨rfl,rfl⟩| ⟨rfl,rfl⟩
 ·show ((do pure (.bool (←Op.equal t (.slice (some a) m cap) (.slice none 0 0)))):Sem Value).run P w=_
  simp [e1]
 ·show ((do pure (.bool (!(←Op.equal t (.slice (some a) m cap) (.slice none 0 0))))):Sem Value).run P w=_
  simp [e1]
theorem Et (hd:fU n ds o){op:BinOp}{t t2:TypeId}{x y:Operand}(ho:o.op = .binOp op t x y t2){z:AV}(h:lU P op t (bP s.ρ x) (bP s.ρ y)=some z):jm P L0 c0 n ds o s (s.set o.dst z):=by
 refine fq hd fun a c Lo lam f hn=>?_
 have hx:=bz f x
 have hy:=bz f y
 have hex:∀v,(eqGuard op t x y (a.eval x) (a.eval y)).run P c.w = .ok () c.w→(binOp op t (a.eval x) (a.eval y)).run P c.w = .ok v c.w→(execOp a.eval o).run P c.w = .ok (.value v) c.w:=by
  intro v h1 h2; simp [execOp,ho,h1,h2]
 unfold lU at h
 split at h
 ·rename_i p q hp hq
  rw [hp] at hx; rw [hq] at hy
  simp only [SR,VR] at hx hy
  obtain⟨r,hr,hv⟩:=CX (P:=P) h c.w
  refine⟨r,hex _ (dD ⟨fun _ _=>.inl (by rw [hx]; simp),by rw [hx]; simp⟩ _) ?_,SR.of (hv _ _)⟩
  rw [hx,hy]
  unfold binOp
  simpa using hr
 ·rename_i p q hp hq
  rw [hp] at hx; rw [hq] at hy
  simp only [SR,VR] at hx hy
  obtain⟨_,ad,r7,_⟩:=hx
  rw [WR] at h
  obtain⟨pL,rz,h⟩:=h
  split at h
  rotate_left
  ·cases h
  rename_i ht
  cases h
  refine⟨.bool (!pL),hex _ (dD ⟨fun _ _=>.inl (by rw [r7]; simp),by rw [r7]; simp⟩ _) ?_,SR.of (by simp [VR])⟩
  rw [r7,hy]
  exact (nP ⟨_,ht⟩ rz _).1
 ·rename_i p q hp hq
  rw [hp] at hx; rw [hq] at hy
  simp only [SR,VR] at hx hy
  obtain⟨_,ad,Og,_⟩:=hy
  rw [WR] at h
  obtain⟨pL,rz,h⟩:=h
  split at h
  rotate_left
  ·cases h
  rename_i ht
  cases h
  refine⟨.bool (!pL),hex _ (dD ⟨fun _ _=>.inl (by rw [hx]; simp),by rw [hx]; simp⟩ _) ?_,SR.of (by simp [VR])⟩
  rw [hx,Og]
  exact (nP ⟨_,ht⟩ rz _).2
 ·rename_i p q hp hq
  rw [hp] at hx; rw [hq] at hy
  simp only [SR,VR] at hx hy
  obtain⟨b,off,r7,_⟩:=hx
  rw [WR] at h
  obtain⟨pL,rz,h⟩:=h
  split at h
  rotate_left
  ·cases h
  rename_i ht
  cases h
  refine⟨.bool (!pL),hex _ (dD ⟨fun _ _=>.inl (by rw [r7]; simp),by rw [r7]; simp⟩ _) ?_,SR.of (by simp [VR])⟩
  rw [r7,hy]
  exact (nP ⟨_,ht⟩ rz _).1
 ·rename_i hp hq
  rw [hp] at hx; rw [hq] at hy
  simp only [SR,VR] at hx hy
  obtain⟨ad,cap,r7,_,_,hs,_⟩:=hx
  replace hs:ad.isSome=true:=hs.elim id fun h=>by cases h.1
  rw [WR] at h
  obtain⟨pL,rz,h⟩:=h
  split at h
  rotate_left
  ·cases h
  rename_i ht
  cases h
  refine⟨.bool (!pL),hex _ (dD ⟨fun _ _=>.inl (by rw [r7]; simp),by rw [r7]; simp⟩ _) ?_,SR.of (by simp [VR])⟩
  rw [r7,hy]
  exact oD ⟨_,ht⟩ hs rz _
 ·rename_i hp hq
  rw [hp] at hx; rw [hq] at hy
  simp only [SR,VR] at hx hy
  rcases hx with⟨hx,_⟩| ⟨_,_,ad,cap,r7,_,hs,_⟩
  ·omega
  rw [WR] at h
  obtain⟨pL,rz,h⟩:=h
  split at h
  rotate_left
  ·cases h
  rename_i ht
  cases h
  refine⟨.bool (!pL),hex _ (dD ⟨fun _ _=>.inl (by rw [r7]; simp),by rw [r7]; simp⟩ _) ?_,SR.of (by simp [VR])⟩
  rw [r7,hy]
  exact oD ⟨_,ht⟩ hs rz _
 ·rename_i p q hp hq
  rw [hp,hq] at h
  rw [hp] at hx; rw [hq] at hy
  have HD:=hx.vr (by rintro k off h; cases h)
  have O8:=hy.vr (by rintro k off h; cases h)
  rw [WR] at h
  obtain⟨pL,rz,h⟩:=h
  split at h
  rotate_left
  ·cases h
  rename_i jT
  simp only [WV,Yc] at jT
  obtain⟨⟨⟨h1,h2⟩,h3⟩,h4⟩:=jT
  cases h
  have hk:=u9 (P:=P) 9998 h1 h3 HD O8 c.w
  simp only [VR] at HD O8
  obtain⟨vx,r7,_⟩:=HD
  obtain⟨vy,Og,_⟩:=O8
  refine⟨.bool (fS (.agg p) (.agg q)==pL),hex _ ?_ ?_,SR.of (by simp only [VR])⟩
  ·rw [r7,Og]
   rcases mQ rz with⟨rfl,rfl⟩| ⟨rfl,rfl⟩<;>simp [eqGuard,h4,program,Sem.run]
  ·rw [r7,Og] at hk ⊢
   rcases mQ rz with⟨rfl,rfl⟩| ⟨rfl,rfl⟩
   ·show ((do pure (.bool (←Op.equal t (.agg vx) (.agg vy)))):Sem Value).run P c.w=_
    have L2:(Op.equal t (.agg vx) (.agg vy)).run P c.w=_:=hk
    simp [L2]
   ·show ((do pure (.bool (!(←Op.equal t (.agg vx) (.agg vy))))):Sem Value).run P c.w=_
    have L2:(Op.equal t (.agg vx) (.agg vy)).run P c.w=_:=hk
    simp [L2]
 ·rw [WR] at h
  obtain⟨u,hu,h⟩:=h
  rw [WR] at h
  obtain⟨v,hv,h⟩:=h
  rw [WR] at h
  obtain⟨r,hr,h⟩:=h
  have h1:=kF hu (hx.vr (kG hu))
  have h2:=kF hv (hy.vr (kG hv))
  have h3:=An hu
  exact⟨r,hex _ (dD ⟨fun p _=>.inl (by rw [h1]; exact h3.1 p),by rw [h1]; exact h3.2⟩ _) (by rw [h1,h2]; exact ka _ hr),SR.of (mP h)⟩
theorem HE (hd:fU n ds o){op:UnOp}{t:TypeId}{x:Operand}(ho:o.op = .unOp op t x){z:AV}(h:((bP s.ρ x).fC.bind fun a=>(iC P (Op.unary op a)).bind ou)=some z):jm P L0 c0 n ds o s (s.set o.dst z):=by
 refine fq hd fun a c Lo lam f hn=>?_
 rw [WR] at h
 obtain⟨u,hu,h⟩:=h
 rw [WR] at h
 obtain⟨r,hr,h⟩:=h
 have h1:=kF hu ((bz f x).vr (kG hu))
 refine⟨r,?_,SR.of (mP h)⟩
 have:=ka (P:=P) c.w hr
 rw [←h1] at this
 simp [execOp,ho,this]
theorem Bx (hd:fU n ds o){x:Operand}(ho:o.op = .move x∨o.op = .assign x):jm P L0 c0 n ds o s (s.set o.dst (bP s.ρ x)):=
 fq hd fun a c Lo lam f hn=>⟨a.eval x,by rcases ho with ho | ho<;>simp [execOp,ho],bz f x⟩
theorem HF (hd:fU n ds o){k x y:Operand}(ho:o.op = .pick k x y){t:Bool}(h:sv (bP s.ρ k)=some t):jm P L0 c0 n ds o s (s.set o.dst (if t then bP s.ρ x else bP s.ρ y)):=by
 refine fq hd fun a c Lo lam f hn=>?_
 have hk:=bz f k
 unfold sv at h
 split at h
 ·rename_i b hb
  cases h
  rw [hb] at hk
  simp only [SR,VR] at hk
  refine⟨if t then a.eval x else a.eval y,by simp [execOp,ho,hk,asBool],?_⟩
  cases t
  ·exact bz f y
  ·exact bz f x
 ·cases h
theorem yj (hd:fU n ds o){x:Operand}(ho:o.op = .nilCheck x){z:AV}(h:pP (bP s.ρ x)=some z):jm P L0 c0 n ds o s (s.set o.dst z):=by
 refine fq hd fun a c Lo lam f hn=>?_
 have hx:=bz f x
 have hp:(∃ad,a.eval x = .pointer (some ad))∧z=bP s.ρ x:=by
  unfold pP at h
  split at h
  ·rename_i id off heq
   cases h
   rw [heq] at hx
   simp only [SR,VR] at hx
   obtain⟨_,ad,h1,_⟩:=hx
   exact⟨⟨ad,h1⟩,heq.symm⟩
  ·rename_i k off heq
   cases h
   rw [heq] at hx
   simp only [SR] at hx
   exact⟨⟨_,hx.1⟩,heq.symm⟩
  ·rename_i cs off heq
   cases h
   rw [heq] at hx
   simp only [SR,VR] at hx
   obtain⟨b,o',h1,_⟩:=hx
   exact⟨⟨_,h1⟩,heq.symm⟩
  ·cases h
 obtain⟨⟨ad,hp⟩,rfl⟩:=hp
 exact⟨a.eval x,by simp [execOp,ho,hp],hx⟩
theorem mR {c:Cx}{Lo:Nat→Prop}{lam:Nat→Nat}{a:Act}(f:Fr L0 c Lo lam ds s a):∀xs:List Operand,(∀x∈xs,∀k off,bP s.ρ x≠.lp k off)→VRs c (un L0 Lo) (xs.map (bP s.ρ)) (xs.map a.eval)
 | [],_=>trivial
 | x::xs,h=>⟨(bz f x).vr (h x (by simp)),mR f xs fun y hy=>h y (by simp [hy])⟩
theorem CY {x:AV}(h:x.cJ=true):∀k off,x≠.lp k off:=by rintro k off rfl; simp [AV.cJ] at h
theorem yk (hd:fU n ds o){Ao:FuncId}{first cap:Array Operand}(ho:o.op = .makeFunc (.func Ao) first cap)(hf:first.isEmpty=true)(hc:(cap.toList.map (bP s.ρ)).all AV.cJ=true):jm P L0 c0 n ds o s (s.set o.dst (.fn Ao (cap.toList.map (bP s.ρ)))):=by
 refine fq hd fun a c Lo lam f hn=>?_
 have Mj:first = #[]:=by simpa using hf
 subst Mj
 refine⟨.func (.func Ao) #[] (cap.map a.eval),by simp [execOp,ho,Instr.makeFunc],SR.of ?_⟩
 simp only [VR]
 refine⟨_,rfl,?_⟩
 rw [Array.toList_map]
 refine mR f _ fun x hx=>CY ?_
 rw [Xi] at hc
 exact hc _ (Xd.2 ⟨x,hx,rfl⟩)
theorem Ap (hd:fU n ds o){x:Operand}{i:Nat}(ho:o.op = .extract x i){z:AV}(h:sw (bP s.ρ x) i=some z):jm P L0 c0 n ds o s (s.set o.dst z):=by
 refine fq hd fun a c Lo lam f hn=>?_
 have hx:=bz f x
 cases heq:bP s.ρ x<;>rw [heq] at h hx<;>simp only [sw] at h<;>try (cases h; done)
 rename_i vs
 simp only [SR,VR] at hx
 obtain⟨us,r7,D1⟩:=hx
 obtain⟨v,hv,hr⟩:=D1.get i z h
 have O9:us[i]? = some v:=by simpa using hv
 exact⟨v,by simp [execOp,ho,r7,Instr.extract,O9],SR.of hr⟩
theorem qX {op:Value→Value→Sem Value}:∀(vs:List Value) (v r:Value) (w:World),kX P op v vs=some r→(vs.foldlM op v).run P w = .ok r w
 | [],v,r,w,h=>by simp only [kX,WT] at h; subst h; rfl
 | x::xs,v,r,w,h=>by
  simp only [kX,WR] at h
  obtain⟨u,h1,h2⟩:=h
  simp only [List.foldlM_cons,Sem.run_bind,ka w h1,Result.andThen_ok]
  exact qX xs u r w h2
theorem vi (hd:fU n ds o){b:Builtin}{By:Array TypeId}{args:Array Operand}(ho:o.op = .call {callee:=.builtin b,args:=args,argTypes:=By}){op:Value→Value→Sem Value}(hb:(b = .min∧op=Builtin.min2)∨(b = .max∧op=Builtin.max2))
  {x:AV} {xs:List AV} (he:args.toList.map (bP s.ρ)=x::xs) {v u:Value} {vs:List Value} (hx:x.fC=some v) (hxs:iV xs=some vs) (hf:kX P op v vs=some u) {z:AV} (hz:ou u=some z):jm P L0 c0 n ds o s (s.set o.dst z):=by
 refine fq hd fun a c Lo lam f hn=>?_
 refine⟨u,?_,SR.of (mP hz)⟩
 have hne:∀q:Operand,∀k off,bP s.ρ q = .lp k off→q∉args.toList:=by
  intro q k off hq hm
  have yl:AV.lp k off∈x::xs:=by rw [←he,←hq]; exact Xd.2 ⟨q,hm,rfl⟩
  rcases Xo.1 yl with h1 | h1
  ·exact kG hx k off h1.symm
  ·have:∀(ys:List AV) (us:List Value),iV ys=some us→AV.lp k off∉ys:=by
    intro ys
    induction ys with
    | nil=>intro us _ h; cases h
    | cons y ys ih=>
     intro us hu hm
     simp only [iV,WR] at hu
     obtain⟨u1,h2,Ww,h3,_⟩:=hu
     rcases Xo.1 hm with h4 | h4
     ·exact kG h2 k off h4.symm
     ·exact ih _ h3 h4
   exact this _ _ hxs h1
 have Bt:=mR f args.toList (fun q hq k off h=>hne q k off h hq)
 rw [he] at Bt
 have kK:args.toList.map a.eval=v::vs:=pV (xs:=x::xs) (us:=v::vs) (by simp [iV,hx,hxs]) Bt
 have hr:=qX vs v u c.w hf
 have hargs:args.map a.eval=(v::vs).toArray:=by rw [←kK]; apply Yq; simp
 rcases hb with⟨rfl,rfl⟩| ⟨rfl,rfl⟩
 ·simp [execOp,ho,resolve,invoke,builtin,Builtin.min_,hargs,hr]
 ·simp [execOp,ho,resolve,invoke,builtin,Builtin.max_,hargs,hr]
end
end Go.R
namespace Go.R
open Go
def CallOK (P:Program)(cf:CallF):Prop:=
 ∀f args h r h',cf f args h=some (r,h')→
  (∀(vs:Array Value) (w:World),(callFunc f vs).run P w = .ok (.enter f vs) w)∧
  ∀(L0:Nat→Prop) (c:Cx) (vs:List Value),c.h=h→c.base≤c.w.heap.size→HRel c L0→VRs c L0 args vs→
   Calls P f vs.toArray c.w fun e w'=>∃c' v,e = .returned v∧c'.w=w'∧c'.h=h'∧VR c' L0 r v∧HRel c' L0∧Ext c none0 c' none0
section
variable {P:Program}{L0:Nat→Prop}{c0:Cx}{n:Nat}{ds:List Nat}{o:Oper}{s:RS}
theorem Fr.call {c c':Cx}{Lo:Nat→Prop}{lam:Nat→Nat}{a:Act}(f:Fr L0 c Lo lam ds s a)(hr:HRel c' (un L0 Lo))(e:Ext c none0 c' none0) :
  Ext c Lo c' Lo∧Fr L0 c' Lo lam ds {s with h:=c'.h} a:=by
 have zP:∀b,Lo b→b<c.w.heap.size:=fun b hb=>f.rel.bd b (.inr hb)
 have e':Ext c Lo c' Lo:=
  ⟨e.next,e.live,e.size,fun b h1 _ h3=>e.gg b h1 (fun h=>h.elim) h3,e.exact,e.base,e.IM,fun _ h=>h,fun _ h=>.inl h,e.os,e.tape,e.output⟩
 refine⟨e',rfl,hr,fun t=>(f.slot t).ext e' (fun _ _ _=>⟨rfl,fun h=>h⟩),fun k cs hb=>?_,f.inj,f.tidy,f.defers,fun b hb=>by rw [e.base]; exact f.Eb b hb⟩
 have ob:=f.box k cs hb
 exact ob.ext e' (e.gg _ ob.plain.lt (fun h=>h.elim) fun id hl he=>f.rel.out id hl (he ▸ .inr ob.own))
theorem HG {cf:CallF}(hcf:CallOK P cf)(hb0:c0.base≤c0.w.heap.size)(hd:fU n ds o){fx:Operand}{args:Array Operand}{By:Array TypeId}(ho:o.op = .call {callee:=.value fx,args:=args,argTypes:=By}){Ao:FuncId}{cap:List AV}
  (hf:bP s.ρ fx = .fn Ao cap) (ha:(args.toList.map (bP s.ρ)).all AV.lC=true) {r:AV} {h':AHeap} (h:cf Ao (args.toList.map (bP s.ρ)++cap) s.h=some (r,h')) :
  jm P L0 c0 n ds o s ({s with h:=h'}.set o.dst r):=by
 rintro a w K Q ⟨hn,c,Lo,lam,rfl,f,e0⟩ hK
 obtain⟨hin,hcall⟩:=hcf _ _ _ _ _ h
 have Pa:=bz f fx
 rw [hf] at Pa
 simp only [SR,VR] at Pa
 obtain⟨cv,UC,L5⟩:=Pa
 have hargs:VRs c (un L0 Lo) (args.toList.map (bP s.ρ)) (args.toList.map a.eval):=by
  refine mR f _ fun x hx=>sQ ?_
  rw [Xi] at ha
  exact ha _ (Xd.2 ⟨x,hx,rfl⟩)
 have kK:=VRs.append hargs L5
 unfold Oper.wp
 have:(execOp a.eval o).run P c.w = .ok (.enter Ao (args.map a.eval++cv)) c.w:=by
  simp [execOp,ho,resolve,UC,Deferred.ofValue,invoke,hin]
 rw [this,Oper.upon_enter]
 have hc:=hcall (un L0 Lo) c _ f.h (jD e0 hb0) f.rel kK
 have he:(args.toList.map a.eval++cv.toList).toArray=args.map a.eval++cv:=by
  apply Yq; simp
 rw [he] at hc
 refine Calls.mono hc ?_
 rintro e w' ⟨c',v,rfl,rfl,hh,hv,hrel,JG⟩
 obtain⟨e',f'⟩:=f.call hrel JG
 rw [hh] at f'
 exact hK _ _ ⟨(gu _ _ _).trans hn,c',Lo,lam,rfl,f'.set (SR.of hv) (fun t ht=>by rw [hn]; exact hd t ht),e0.trans e'⟩
theorem Option.map_some' {α β:Type}{x:Option α}{g:α→β}{y:β}(h:x.map g=some y):∃z,x=some z∧g z=y:=WS.1 h
theorem vj {aF:List Nat}{cs:List AV}{s':RS}(h:ie s aF ds o cs=some s'):cs.all AV.cJ=true:=by
 unfold ie at h
 split at h
 ·assumption
 ·cases h
theorem JH {cf:CallF}(hcf:CallOK P cf)(hb0:c0.base≤c0.w.heap.size)(hd:fU n ds o){aF:List Nat}{s':RS}(h:vZ P cf aF ds s o=some s'):jm P L0 c0 n ds o s s':=by
 have dz:∀{x:Option AV},(x.map fun x=>s.set o.dst x)=some s'→(∀z,x=some z→jm P L0 c0 n ds o s (s.set o.dst z))→jm P L0 c0 n ds o s s':=by
  intro x hx hz
  obtain⟨z,rfl,rfl⟩:=Option.map_some' hx
  exact hz z rfl
 unfold vZ z7 at h
 dsimp only at h
 split at h
 ·rename_i x ho; cases h; exact Bx hd (.inl ho)
 ·rename_i x ho; cases h; exact Bx hd (.inr ho)
 ·rename_i k x y ho
  obtain⟨t,ht,rfl⟩:=Option.map_some' h
  exact HF hd ho ht
 ·
  rename_i t ho
  rw [WR] at h
  obtain⟨z,hz,h⟩:=h
  refine ve hb0 hd t h fun a c Lo lam f hn=>?_
  have oy:=vj h
  obtain⟨v,h1,h2,h3⟩:=CS (P:=P) (c:=c) hz (Hz oy) (un L0 Lo)
  exact⟨v,by simp [execOp,ho,h1],Hy h2,h3⟩
 ·
  rename_i t x ho
  refine ve hb0 hd t h fun a c Lo lam f hn=>?_
  have oy:(bP s.ρ x).cells.all AV.cJ=true:=vj h
  obtain⟨h1,h2⟩:=jo oy ((bz f x).r6 oy)
  exact⟨a.eval x,by simp [execOp,ho,Instr.box,newVar,newRow],h1,h2⟩
 ·rename_i t ps ho
  refine dz h fun z hz=>fq hd fun a c Lo lam f hn=>?_
  obtain⟨v,hr,hv⟩:=run_build (P:=P) (oA f ps.toList) hz
  refine⟨v,?_,SR.of hv⟩
  have he:ps.map (fun (i,x)=>(i,a.eval x))=(ps.toList.map fun (i,x)=>(i,a.eval x)).toArray:=by
   apply Yq; simp
  simp only [execOp,ho,Sem.run_bind]
  rw [he,hr]
  rfl
 ·rename_i t k ps ho
  rw [WS] at h
  obtain⟨z,hz,rfl⟩:=h
  exact sM hb0 hd ho aF hz
 ·
  rename_i t x ho
  refine dz h fun z hz=>fq hd fun a c Lo lam f hn=>?_
  obtain⟨r,hr,hv⟩:=sD (P:=P) f (t:=t) (bz f x) hz
  exact⟨r,by simp [execOp,ho,hr],SR.of hv⟩
 ·
  rename_i t x y ho
  split at h
  ·cases h
  rename_i ry
  exact Ek hb0 hd ho (by simpa using ry) h
 ·rename_i ho; exact dz h fun z hz=>yj hd ho hz
 ·rename_i ho; exact dz h fun z hz=>Et hd ho hz
 ·rename_i ho; exact dz h fun z hz=>HE hd ho hz
 ·rename_i ho; exact dz h fun z hz=>Am hb0 hd ho hz
 ·rename_i Ao first cap ho
  split at h
  ·rename_i hh
   refine dz h fun z hz=>?_
   cases hz
   exact yk hd ho hh.1 hh.2
  ·cases h
 ·rename_i ho; cases h; exact Ag hb0 hd ho
 ·rename_i ho; exact wk hb0 hd ho h
 ·
  rename_i t x lo hi mx ho
  refine dz h fun z hz=>fq hd fun a c Lo lam f hn=>?_
  have hs:∀(q:Option Operand) (y:AV),q.map (bP s.ρ)=some y→∃v,q.map a.eval=some v∧SR c L0 Lo lam s.bx y v:=by
   intro q y hq
   obtain⟨u,rfl,rfl⟩:=Option.map_some' hq
   exact⟨_,rfl,bz f u⟩
  have Lw:∀(q:Option Operand),q.map (bP s.ρ)=none→q.map a.eval=none:=by
   intro q hq
   simpa using hq
  obtain⟨r,hr,hv⟩:=Ad (P:=P) (bz f x) (hs lo) (Lw lo) (hs hi) (Lw hi) (hs mx) (Lw mx) hz
  exact⟨r,by simp [execOp,ho,hr],SR.of hv⟩
 ·rename_i t x i ho
  refine dz h fun z hz=>fq hd fun a c Lo lam f hn=>?_
  obtain⟨r,hr,hv⟩:=xX (P:=P) (bz f x) hz
  exact⟨r,by simp [execOp,ho,hr],hv⟩
 ·rename_i t x i ho
  refine dz h fun z hz=>fq hd fun a c Lo lam f hn=>?_
  obtain⟨r,hr,hv⟩:=Ab (P:=P) (bz f x) hz
  exact⟨r,by simp [execOp,ho,hr],SR.of hv⟩
 ·rename_i t x i ho
  refine dz h fun z hz=>fq hd fun a c Lo lam f hn=>?_
  obtain⟨r,hr,hv⟩:=xW (P:=P) (bz f x) (bz f i) hz
  exact⟨r,by simp [execOp,ho,hr],hv⟩
 ·rename_i t x i ho
  refine dz h fun z hz=>fq hd fun a c Lo lam f hn=>?_
  obtain⟨r,hr,hv⟩:=Ac (P:=P) (bz f x) (bz f i) hz
  exact⟨r,by simp [execOp,ho,hr],SR.of hv⟩
 ·rename_i t m k ok ho
  refine dz h fun z hz=>fq hd fun a c Lo lam f hn=>?_
  obtain⟨r,hr,hv⟩:=yc (P:=P) f (bz f m) (bz f k) hz
  exact⟨r,by simp [execOp,ho,hr],SR.of hv⟩
 ·rename_i t m k x ho
  split at h
  ·cases h
  rename_i ry
  obtain⟨h',hh,rfl⟩:=Option.map_some' h
  exact oC hb0 (.inl ho) (by simpa using ry) hh
 ·rename_i t m k x ho
  split at h
  ·cases h
  rename_i ry
  obtain⟨h',hh,rfl⟩:=Option.map_some' h
  exact oC hb0 (.inr ho) (by simpa using ry) hh
 ·rename_i ho; exact dz h fun z hz=>Ap hd ho hz
 ·
  rename_i b args By ho
  unfold gq at h
  split at h
  ·rename_i t x hts hargs
   have Aq:By = #[t]:=by apply Yq; simpa using hts
   obtain⟨q,hq,rfl⟩:∃q,args = #[q]∧bP s.ρ q=x:=by
    cases args with | mk l=>
    rcases l with _ | ⟨q,_ | ⟨q2,l⟩⟩<;>simp at hargs
    exact⟨q,rfl,hargs⟩
   subst Aq hq
   refine dz h fun z hz=>fq hd fun a c Lo lam f hn=>?_
   obtain⟨r,hr,hv⟩:=Eg (P:=P) f #[t] rfl (bz f q) hz o.type
   exact⟨r,by simp [execOp,ho,resolve,invoke,builtin,hr],SR.of hv⟩
  ·rename_i t t2 x y hts hargs
   have Aq:By = #[t,t2]:=by apply Yq; simpa using hts
   obtain⟨q,q2,hq,rfl,rfl⟩:∃q q2,args = #[q,q2]∧bP s.ρ q=x∧bP s.ρ q2=y:=by
    cases args with | mk l=>
    rcases l with _ | ⟨q,_ | ⟨q2,_ | ⟨q3,l⟩⟩⟩<;>simp at hargs
    exact⟨q,q2,rfl,hargs.1,hargs.2⟩
   subst Aq hq
   exact CV hb0 hd ho h
  ·rename_i t t2 x y hts hargs
   have Aq:By = #[t,t2]:=by apply Yq; simpa using hts
   obtain⟨q,q2,hq,rfl,rfl⟩:∃q q2,args = #[q,q2]∧bP s.ρ q=x∧bP s.ρ q2=y:=by
    cases args with | mk l=>
    rcases l with _ | ⟨q,_ | ⟨q2,_ | ⟨q3,l⟩⟩⟩<;>simp at hargs
    exact⟨q,q2,rfl,hargs.1,hargs.2⟩
   subst Aq hq
   obtain⟨⟨z,h'⟩,hh,rfl⟩:=Option.map_some' h
   exact HC hb0 hd ho hh
  ·rename_i t x hts hargs
   have Aq:By = #[t]:=by apply Yq; simpa using hts
   obtain⟨q,hq,rfl⟩:∃q,args = #[q]∧bP s.ρ q=x:=by
    cases args with | mk l=>
    rcases l with _ | ⟨q,_ | ⟨q2,l⟩⟩<;>simp at hargs
    exact⟨q,rfl,hargs⟩
   subst Aq hq
   obtain⟨h',hh,rfl⟩:=Option.map_some' h
   exact Es hb0 hd ho hh
  ·rename_i x xs hargs
   rw [WR] at h
   obtain⟨v,hv,h⟩:=h
   rw [WR] at h
   obtain⟨vs,D1,h⟩:=h
   rw [WR] at h
   obtain⟨u,hu,h⟩:=h
   exact dz h fun z hz=>vi hd ho (.inl ⟨rfl,rfl⟩) hargs hv D1 hu hz
  ·rename_i x xs hargs
   rw [WR] at h
   obtain⟨v,hv,h⟩:=h
   rw [WR] at h
   obtain⟨vs,D1,h⟩:=h
   rw [WR] at h
   obtain⟨u,hu,h⟩:=h
   exact dz h fun z hz=>vi hd ho (.inr ⟨rfl,rfl⟩) hargs hv D1 hu hz
  ·cases h
 ·
  rename_i fx args By ho
  split at h
  ·rename_i Ao cap heq
   split at h
   ·rename_i ha
    obtain⟨⟨r,h'⟩,hh,rfl⟩:=Option.map_some' h
    exact HG hcf hb0 hd ho heq ha hh
   ·cases h
  ·cases h
 ·cases h
end
end Go.R
namespace Go.R
open Go
section
variable {P:Program}{L0:Nat→Prop}{c0:Cx}{n:Nat}{ds:List Nat}{s:RS}
theorem Fr.JI {c:Cx}{Lo:Nat→Prop}{lam:Nat→Nat}{a:Act}(f:Fr L0 c Lo lam ds s a)(id:Nat) :
  Ext c Lo ⟨c.β,c.h.kill id,c.w,c.base⟩ Lo∧Fr L0 ⟨c.β,c.h.kill id,c.w,c.base⟩ Lo lam ds {s with h:=s.h.kill id} a∧(Live c.h id→RO ⟨c.β,c.h.kill id,c.w,c.base⟩ (un L0 Lo) (c.β id).1):=by
 have hg:∀i,(c.h.kill id).get i=if i=id then none else c.h.get i:=fun i=>by
  simp only [AHeap.kill,beq_nat]
  by_cases h:i=id<;>simp [h]
 have og:∀i,Live (c.h.kill id) i→i≠id∧Live c.h i:=fun i hl=>by
  have h2:=hl.2
  rw [hg] at h2
  by_cases h:i=id
  ·rw [if_pos h] at h2; cases h2
  ·rw [if_neg h] at h2
   obtain⟨o,ho⟩:=Xw.1 h2
   exact⟨h,f.rel.lt _ _ ho,h2⟩
 have e:Ext c Lo ⟨c.β,c.h.kill id,c.w,c.base⟩ Lo:=
  ⟨X5 _,fun i hi hl=>⟨(og i hl).2,rfl,rfl⟩,WU _,fun _ _ _ _=>.inl rfl,fun _ _=>rfl,rfl,fun i hl=>.inr ⟨i,(og i hl).2,rfl⟩,fun _ h=>h,fun _ h=>.inl h,rfl,rfl,rfl⟩
 refine⟨e,⟨by rw [←f.h],⟨fun i o ho=>?_,fun i o ho=>?_,fun i j hi hj he=>?_,fun i hi=>?_,f.rel.bd,fun i hi=>?_,(Steady.kill c.h id).wf f.rel.ver⟩,fun t=>?_,fun k cs hb=>?_,f.inj,f.tidy,f.defers,f.Eb⟩,fun hl=>⟨fun i hi he=>?_,f.rel.out id hl⟩⟩
 ·replace ho:(c.h.kill id).get i=some o:=ho
  rw [hg] at ho
  by_cases h:i=id
  ·rw [if_pos h] at ho; cases ho
  ·rw [if_neg h] at ho; exact Yd (f.rel.lt _ _ ho)
 ·replace ho:(c.h.kill id).get i=some o:=ho
  rw [hg] at ho
  by_cases h:i=id
  ·rw [if_pos h] at ho; cases ho
  ·rw [if_neg h] at ho
   exact (f.rel.obj i o ho).ext e rfl
 ·exact f.rel.inj i j (og i hi).2 (og j hj).2 he
 ·exact f.rel.out i (og i hi).2
 ·exact f.rel.low i (og i hi).2
 ·exact (f.slot t).ext e (fun _ _ _=>⟨rfl,fun h=>h⟩)
 ·have hb2:=f.box k cs hb
  exact hb2.ext e (.inl rfl)
 ·obtain⟨h1,h2⟩:=og i hi
  exact h1 (f.rel.inj i id h2 hl he)
theorem Bz {c:Cx}{Lo:Nat→Prop}{lam:Nat→Nat}{a:Act}(f:Fr L0 c Lo lam ds s a){k:Nat}{x y:AV}{h':AHeap}(h:kB k s.h x=some (y,h')) :
  (∀k off,x≠.lp k off)∧(∀k off,y≠.lp k off)∧∃c',c'.w=c.w∧Ext c Lo c' Lo∧Fr L0 c' Lo lam ds {s with h:=h'} a∧∀v,VR c (un L0 Lo) x v→VR c' (un L0 Lo) y v:=by
 cases k with
 | zero=>
  cases x with
  | nils=>
   simp only [kB,WT,W2] at h
   obtain⟨rfl,rfl⟩:=h
   refine⟨by simp,by simp,c,rfl,Ext.refl _ _,f,fun v hv=>?_⟩
   simp only [VR] at hv ⊢
   exact⟨none,0,hv,WU _,fun _=>rfl,.inr ⟨trivial,rfl⟩,.inl trivial⟩
  | fz cs m ex=>
   simp only [kB,WT,W2] at h
   obtain⟨rfl,rfl⟩:=h
   refine⟨by simp,by simp,c,rfl,Ext.refl _ _,f,fun v hv=>?_⟩
   simp only [VR] at hv ⊢
   obtain⟨a,cap,rfl,h1,h2,hs,hc⟩:=hv
   exact⟨a,cap,rfl,h1,by simp,hs,hc.imp id fun ⟨b,o,ha,hr,hex,hc⟩=>⟨b,o,ha,hr,by simp,hc⟩⟩
  | rs id off len jw=>
   simp only [kB] at h
   split at h
   ·rename_i hid
    split at h
    rotate_left
    ·cases h
    rename_i hl0
    simp only [WT,W2] at h
    obtain⟨rfl,rfl⟩:=h
    refine⟨by simp,by simp,c,rfl,Ext.refl _ _,f,fun v hv=>?_⟩
    simp only [VR] at hv ⊢
    rcases hv with⟨_,_,_,a,rfl⟩| hv
    ·exact⟨a,0,rfl,WU _,fun _=>rfl,.inr ⟨trivial,rfl⟩,.inl trivial⟩
    ·exact absurd hid hv.1
   rename_i lK
   rw [WR] at h
   obtain⟨ob,ho,h⟩:=h
   cases ob with
   | map es=>cases h
   | row t cs=>cases h
   | cells cs=>
   simp only at h
   split at h
   rotate_left
   ·cases h
   rename_i hle
   simp only [WT,W2] at h
   obtain⟨rfl,rfl⟩:=h
   rw [←f.h] at ho
   have hl:Live c.h id:=⟨f.rel.lt _ _ ho,by simp [ho]⟩
   obtain⟨e,f',LV⟩:=f.JI id
   refine⟨by simp,by simp,⟨c.β,c.h.kill id,c.w,c.base⟩,rfl,e,f',fun v hv=>?_⟩
   simp only [VR] at hv ⊢
   rcases hv with hv | ⟨_,_,a,cap,rfl,h1,h2,h3⟩
   ·exact absurd hv.1 lK
   obtain⟨m,_,_,hc⟩:=f.rel.obj _ _ ho
   refine⟨a,cap,rfl,h1,by simp,.inl h2,?_⟩
   rcases h3 hl with⟨h4,_⟩| h4
   ·exact .inr ⟨_,_,h4,LV hl,by simp,Cells.move e _ _ _ _ _ (fun i hi=>rfl) ((hc.drop off).take (len*jw))⟩
   ·left
    have hz:len=0:=by omega
    subst hz
    simp
  | _=>simp [kB] at h
 | succ k=>
  have key:(x = .nils∨x = .fz [] 0 true)→y = .rs 0 0 0 (k+1)→h'=s.h→(∀k off,x≠.lp k off)∧(∀k off,y≠.lp k off)∧∃c',c'.w=c.w∧Ext c Lo c' Lo∧Fr L0 c' Lo lam ds {s with h:=h'} a∧∀v,VR c (un L0 Lo) x v→VR c' (un L0 Lo) y v:=by
   rintro hx rfl rfl
   refine⟨by rcases hx with rfl | rfl<;>simp,by simp,c,rfl,Ext.refl _ _,f,fun v hv=>?_⟩
   rcases hx with rfl | rfl
   ·simp only [VR] at hv ⊢
    exact .inl ⟨trivial,trivial,trivial,none,hv⟩
   ·simp only [VR] at hv ⊢
    obtain⟨a,cap,rfl,h1,h2,hs,hc⟩:=hv
    have:=h2 trivial
    subst this
    exact .inl ⟨trivial,trivial,trivial,a,rfl⟩
  unfold kB at h
  simp only at h
  split at h
  ·simp only [WT,W2] at h
   exact key (.inl rfl) h.1.symm h.2.symm
  ·simp only [WT,W2] at h
   exact key (.inr rfl) h.1.symm h.2.symm
  ·simp only [WT,W2] at h
   obtain⟨rfl,rfl⟩:=h
   exact⟨by simp,by simp,c,rfl,Ext.refl _ _,f,fun v hv=>hv⟩
  ·cases h
theorem Inv.we {a:Act}{w:World}{p:Nat × Option Nat × Nat}{s':RS}(hi:Inv L0 c0 n ds s a w)(h:we s p=some s'):Inv L0 c0 n ds s' a w:=by
 obtain⟨hn,c,Lo,lam,rfl,f,e⟩:=hi
 unfold Go.R.we at h
 split at h
 ·rw [WS] at h
  obtain⟨⟨y,h'⟩,hz,rfl⟩:=h
  obtain⟨hx,hy,c',hw,e',f',hv⟩:=Bz f hz
  refine⟨hn,c',Lo,lam,hw,⟨f'.h,f'.rel,fun t=>?_,f'.box,f'.inj,fun t k off ht he=>?_,f'.defers,f'.Eb⟩,e.trans e'⟩
  ·simp only [beq_nat]
   by_cases ht:t=p.1
   ·subst ht
    simp only [decide_true,cond_true]
    exact SR.of (hv _ ((f.slot _).vr hx))
   ·simp only [ht,decide_false,cond_false]
    exact f'.slot t
  ·simp only [beq_nat] at he
   by_cases Sk:t=p.1
   ·simp only [Sk,decide_true,cond_true] at he
    exact absurd he (hy _ _)
   ·simp only [Sk,decide_false,cond_false] at he
    exact f'.tidy t k off ht he
 ·rename_i i hp
  split at h
  rotate_left
  ·cases h
  rename_i cs hcs
  simp only [WR,WS] at h
  obtain⟨x,hx,⟨y,h'⟩,hz,rfl⟩:=h
  obtain⟨hx1,hy,c',hw,e',f',hv⟩:=Bz f hz
  have Aj:∀k,(bif XB k p.1 then some (cs.set i y) else s.bx k).isSome=(s.bx k).isSome:=fun k=>by
   simp only [beq_nat]
   by_cases hk:k=p.1
   ·subst hk; simp [hcs]
   ·simp [hk]
  refine⟨hn,c',Lo,lam,hw,⟨f'.h,f'.rel,fun t=>?_,fun k fH hb=>?_,fun k k' h1 h2=>f'.inj k k' (by rw [←Aj]; exact h1) (by rw [←Aj]; exact h2),f'.tidy,f'.defers,f'.Eb⟩,e.trans e'⟩
  ·have:=f'.slot t
   unfold SR at this ⊢
   split
   ·rename_i k off he
    rw [he] at this
    simp only at this
    exact⟨this.1,by rw [Aj]; exact this.2⟩
   ·rename_i x' HD
    split at this
    ·rename_i he; exact absurd he (HD _ _)
    ·exact this
  ·simp only [beq_nat] at hb
   by_cases hk:k=p.1
   ·subst hk
    simp only [decide_true,cond_true,WT] at hb
    subst hb
    have ob:=f.box _ cs hcs
    have Pb:=f'.box _ cs hcs
    refine⟨Pb.own,by rw [WY]; exact Pb.plain,?_⟩
    obtain⟨vs,q1,q2,q3⟩:=ob.cells.vals
    obtain⟨UD,r1,r2,r3⟩:=Pb.cells.vals
    have hlen:vs=UD:=by
     apply XI
     intro j
     by_cases hj:j<cs.length
     ·rw [←q2 j hj,←r2 j hj,hw]
     ·rw [Xa (by rw [←q1.length]; omega),Xa (by rw [←r1.length]; omega)]
    subst hlen
    obtain⟨u,hu,hr⟩:=VRs.get q1 i x hx
    have Al:VRs c' (un L0 Lo) (cs.set i y) vs:=by
     have:=VRs.set (hv u hr) i r1
     have IN:vs.set i u=vs:=by
      apply XI
      intro j
      rw [Ye]
      by_cases hji:i=j
      ·subst hji
       rw [if_pos rfl,hu]
       have:=(WZ.1 hu).1
       simp [this]
      ·rw [if_neg hji]
     rwa [IN] at this
    exact Cells.of_vals Al (fun j hj=>by rw [r2 j (by rw [r1.length]; exact hj)]) r3
   ·simp only [hk,decide_false,cond_false] at hb
    exact f'.box k fH hb
theorem Inv.kZ {a:Act}{w:World}:∀{l:List (Nat × Option Nat × Nat)} {s s':RS},Inv L0 c0 n ds s a w→kZ s l=some s'→Inv L0 c0 n ds s' a w
 | [],s,s',hi,h=>by cases h; exact hi
 | p::ps,s,s',hi,h=>by
  simp only [Go.R.kZ,WR] at h
  obtain⟨s1,h1,h2⟩:=h
  exact Inv.kZ (hi.we h1) h2
theorem HH {A:cd}{r:Nat}{s:RS}:(s.nk A r).h=s.h:=by
 unfold RS.nk
 split<;>rfl
theorem qY {k:Nat}{h h':AHeap}{x y:AV}(hz:kB k h x=some (y,h')):Steady h h':=by
 unfold kB at hz
 split at hz
 ·split at hz
  ·cases hz; exact Steady.refl _
  ·split at hz
   ·split at hz
    ·cases hz; exact Steady.refl _
    ·cases hz
   rw [WR] at hz
   obtain⟨o,_,hz⟩:=hz
   split at hz
   ·split at hz
    ·cases hz; exact Steady.kill _ _
    ·cases hz
   ·cases hz
  ·cases hz; exact Steady.refl _
  ·cases hz
 ·split at hz<;>cases hz<;>exact Steady.refl _
theorem ym {s s':RS}{p:Nat × Option Nat × Nat}(hz:we s p=some s'):Steady s.h s'.h:=by
 unfold we at hz
 split at hz
 ·rw [WS] at hz
  obtain⟨⟨y,h'⟩,hz,rfl⟩:=hz
  exact qY hz
 ·split at hz
  ·simp only [WR,WS] at hz
   obtain⟨x,hx,⟨y,h'⟩,hz,rfl⟩:=hz
   exact qY hz
  ·cases hz
theorem ma:∀{l:List (Nat × Option Nat × Nat)} {s s':RS},kZ s l=some s'→Steady s.h s'.h
 | [],s,s',h=>by cases h; exact Steady.refl _
 | p::ps,s,s',h=>by
  simp only [kZ,WR] at h
  obtain⟨s1,h1,h2⟩:=h
  exact (ym h1).trans (ma h2)
end
end Go.R
namespace Go.R
open Go
section
variable {P:Program}{L0:Nat→Prop}{c0:Cx}{n:Nat}{ds:List Nat}{o:Oper}{s:RS}
theorem CZ {ops:Array Oper}{c:Cx}{Lo:Nat→Prop}{lam:Nat→Nat}{a:Act}(f:Fr L0 c Lo lam ds s a){b:Bool}(h:gN ops.toList s.ρ o=some b):Region.wanted o (yielded ops a.tmps)=b:=by
 unfold gN at h
 unfold Region.wanted
 split at h
 ·rename_i hg; rw [hg]; cases h; rfl
 ·rename_i j want hg
  rw [hg]
  rw [WR] at h
  obtain⟨d,hd,h⟩:=h
  have Hc:(ops[j]?).bind (·.dst)=some d:=by simpa using hd
  have hs:=f.slot d
  simp only [yielded,Hc,WQ]
  rw [Array.getD_eq_getD_getElem?] at hs
  split at h
  ·rename_i b' hb
   cases h
   rw [hb] at hs
   simp only [SR,VR] at hs
   cases hq:a.tmps[d]? with
   | none=>rw [hq] at hs; simp [undef] at hs
   | some v=>
    rw [hq] at hs
    simp only [XQ] at hs
    subst hs
    cases b'<;>cases want<;>rfl
  ·rename_i hb
   cases h
   rw [hb] at hs
   simp only [SR,VR] at hs
   obtain⟨vs,hv,_⟩:=hs
   cases hq:a.tmps[d]? with
   | none=>rfl
   | some v=>
    rw [hq] at hv
    simp only [XQ] at hv
    subst hv
    rfl
  ·cases h
theorem yn {cf:CallF}(hcf:CallOK P cf)(hb0:c0.base≤c0.w.heap.size){ops:Array Oper}(JJ:ds=ops.toList.filterMap (·.dst))(hd:fU n ds o){aF:List Nat}{s':RS}(h:lV P cf aF ops.toList s o=some s')
  {a:Act} {w:World} {K:Act→World→Prop} {Q:Exit→Act→World→Prop} (hi:Inv L0 c0 n ds s a w) (hK:∀a' w',Inv L0 c0 n ds s' a' w'→K a' w') :
  if Region.wanted o (yielded ops a.tmps) then o.wp P a w K Q else K (a.put o.dst undef) w:=by
 unfold lV at h
 rw [WR] at h
 obtain⟨b,hb,h⟩:=h
 have UE:=hi
 obtain⟨hn,c,Lo,lam,rfl,f,e⟩:=hi
 rw [CZ f hb]
 cases b with
 | true=>
  simp only [if_true] at h ⊢
  rw [←JJ] at h
  exact JH hcf hb0 hd h a c.w K Q UE hK
 | false=>
  simp only [W9,if_false,WT] at h ⊢
  subst h
  exact hK _ _ ⟨(gu _ _ _).trans hn,c,Lo,lam,rfl,f.set (SR.of (by simp [VR,undef,VRs])) (fun t ht=>by rw [hn]; exact hd t ht),e⟩
def vk (n:Nat)(ops:List Oper):Bool:=ops.all fun o=>match o.dst with | some t=>Nat.blt t n | none=>true
theorem yo {ops:List Oper}(h:vk n ops=true){o:Oper}(ho:o∈ops):fU n (ops.filterMap (·.dst)) o:=by
 intro t ht
 unfold vk at h
 rw [Xi] at h
 have:=h o ho
 rw [ht] at this
 exact⟨Nat.blt_eq.mp this,List.mem_filterMap.2 ⟨o,ho,ht⟩⟩
theorem BA {cf:CallF}(hcf:CallOK P cf)(hb0:c0.base≤c0.w.heap.size){ops:Array Oper}(JJ:ds=ops.toList.filterMap (·.dst))(ye:vk n ops.toList=true){aF:List Nat}{Q:Exit→Act→World→Prop}{s':RS}(hQ:∀a' w',Inv L0 c0 n ds s' a' w'→Q .normal a' w') :
  ∀(l:List Oper) (s:RS),(∀o∈l,o∈ops.toList)→rr P cf aF ops.toList s l=some s'→∀a w,Inv L0 c0 n ds s a w→wpList P ops Q l a w
 | [],s,_,h,a,w,hi=>by
  simp only [rr,WT] at h
  subst h
  exact wpList_nil (hQ a w hi)
 | o::l,s,hl,h,a,w,hi=>by
  simp only [rr,WR] at h
  obtain⟨s1,h1,h2⟩:=h
  refine wpList_step fun K hK=>?_
  exact yn hcf hb0 JJ (by rw [JJ]; exact yo ye (hl o (by simp))) h1 hi fun a' w' lE=>hK a' w' (BA hcf hb0 JJ ye hQ l s1 (fun o ho=>hl o (by simp [ho])) h2 a' w' lE)
theorem iI {α:Type}(d:α):∀(ks:List Nat) (g:Nat→α) (t:Nat),look d ks (ks.map g) t=if t∈ks then g t else d
 | [],g,t=>rfl
 | k::ks,g,t=>by
  simp only [Xe,look,beq_nat,iI d ks g t,Xo]
  by_cases h:t=k
  ·subst h; simp
  ·simp [h]
theorem Fr.forget {c:Cx}{Lo:Nat→Prop}{lam:Nat→Nat}{a:Act}(f:Fr L0 c Lo lam ds s a){s2:RS}(hh:s2.h=s.h)(hb:∀k cs,s2.bx k=some cs→s.bx k=some cs)
  (hr:∀t,s2.ρ t = .any∨s2.ρ t=s.ρ t∧∀k off,s.ρ t = .lp k off→k=t∧((s.bx k).isSome=true→(s2.bx k).isSome=true)):Fr L0 c Lo lam [] s2 a:=by
 refine⟨f.h.trans hh.symm,f.rel,fun t=>?_,fun k cs h=>f.box k cs (hb k cs h),fun k k' h h'=>f.inj k k' ?_ ?_,fun t k off _ he=>?_,f.defers,f.Eb⟩
 ·rcases hr t with h | ⟨h,h2⟩
  ·rw [h]; exact SR.of (by simp [VR])
  ·rw [h]
   have hs:=f.slot t
   cases hx:s.ρ t<;>rw [hx] at hs<;>try exact hs
   rename_i k off
   simp only [SR] at hs ⊢
   exact⟨hs.1,(h2 k off hx).2 hs.2⟩
 ·obtain⟨cs,hcs⟩:=Xw.1 h; rw [hb k cs hcs]; rfl
 ·obtain⟨cs,hcs⟩:=Xw.1 h'; rw [hb k' cs hcs]; rfl
 ·rcases hr t with h | ⟨h,h2⟩
  ·rw [h] at he; cases he
  ·exact (h2 k off (h ▸ he)).1
theorem Inv.shut {a:Act}{w:World}(A:cd)(h:Inv L0 c0 n ds s a w):Inv L0 c0 n [] ((s.shut A).open A) a w:=by
 obtain⟨hn,c,Lo,lam,rfl,f,e⟩:=h
 refine⟨hn,c,Lo,lam,rfl,f.forget rfl (fun k cs hk=>?_) (fun t=>?_),e⟩
 ·simp only [RS.shut,St.open,iI] at hk
  split at hk
  ·exact hk
  ·cases hk
 ·simp only [RS.shut,St.open,iI]
  split
  ·unfold xT
   cases hx:s.ρ t<;>simp only<;>try (right; exact⟨trivial,fun k off he=>by cases he⟩)
   rename_i k off
   cases hc:(XB k t&&XB off 0&&A.aF.contains k) with
   | false=>left; rfl
   | true=>
    right
    simp only [WV,beq_nat,decide_eq_true_eq,List.contains_iff_mem] at hc
    refine⟨rfl,fun k' UF he=>?_⟩
    cases he
    refine⟨hc.1.1,fun hs=>?_⟩
    rw [if_pos hc.2]
    exact hs
  ·left; rfl
theorem Inv.nk {a:Act}{w:World}(A:cd)(r:Nat)(h:Inv L0 c0 n ds s a w):Inv L0 c0 n [] ((s.nk A r).open A) a w:=by
 unfold RS.nk
 split
 ·exact h.shut A
 rename_i dl _
 have h2:=h.shut A
 obtain⟨hn,c,Lo,lam,hw,f,e⟩:=h2
 have L4:∀k,(St.open A {vars:=A.gg.map (fun t=>bif (gr r A.dead).contains t then .any else xT A.aF s.ρ t),Lr:=A.aF.map (fun k=>bif (gr r A.dead).contains k then none else s.bx k),h:=s.h}).bx k=bif (gr r A.dead).contains k then none else (St.open A (s.shut A)).bx k:=by
  intro k
  simp only [RS.shut,St.open,iI]
  cases (gr r A.dead).contains k<;>simp
 refine⟨hn,c,Lo,lam,hw,f.forget rfl (fun k cs hk=>?_) (fun t=>?_),e⟩
 ·rw [L4] at hk
  cases hc:(gr r A.dead).contains k with
  | true=>rw [hc] at hk; cases hk
  | false=>rw [hc] at hk; exact hk
 ·have hv:(St.open A {vars:=A.gg.map (fun t=>bif (gr r A.dead).contains t then .any else xT A.aF s.ρ t),Lr:=A.aF.map (fun k=>bif (gr r A.dead).contains k then none else s.bx k),h:=s.h}).ρ t=bif (gr r A.dead).contains t then .any else (St.open A (s.shut A)).ρ t:=by
   simp only [RS.shut,St.open,iI]
   cases (gr r A.dead).contains t<;>simp
  rw [hv]
  cases hc:(gr r A.dead).contains t with
  | true=>left; rfl
  | false=>
   right
   refine⟨rfl,fun k off he=>?_⟩
   have HB:k=t:=f.tidy t k off (by simp) he
   refine⟨HB,fun hs=>?_⟩
   rw [L4,HB,hc]
   rw [HB] at hs
   exact hs
theorem Inv.wide {a:Act}{w:World}(h:Inv L0 c0 n [] s a w)(ds:List Nat):Inv L0 c0 n ds s a w:=by
 obtain⟨hn,c,Lo,lam,rfl,f,e⟩:=h
 exact⟨hn,c,Lo,lam,rfl,⟨f.h,f.rel,f.slot,f.box,f.inj,fun t k off _ he=>f.tidy t k off (by simp) he,f.defers,f.Eb⟩,e⟩
theorem Inv.drew {a:Act}{w:World}(h:Inv L0 c0 n ds s a w):Inv L0 c0 n ds s a {w with drawn:=w.drawn+1}:=by
 obtain⟨hn,c,Lo,lam,rfl,f,e⟩:=h
 obtain⟨e',f'⟩:=f.world (w':={c.w with drawn:=c.w.drawn+1}) (fun b _=>.inl rfl) (fun _ _=>rfl) (fun b _=>rfl) (WU _) rfl rfl rfl
 exact⟨hn,_,Lo,lam,rfl,f',e.trans e'⟩
def mb (P:Program)(c:Code)(Q:Exit→Act→World→Prop)(a:Act)(w:World):Prop:=
 ∀(b:Frame) (k:List Item) (cs:List Frame),∃e a' w',Q e a' w'∧Arrives P (lone (b.at a (.code c :: .inLoop c::k)) cs w) b k cs e a' w'
theorem mb.step {c:Code}{Q:Exit→Act→World→Prop}{a:Act}{w:World}(h:c.wp P (Exit.then (mb P c Q) Q) a w):mb P c Q a w:=by
 intro b k cs
 obtain⟨e,a₁,w₁,hq,yp⟩:=h b (.inLoop c::k) cs
 cases e with
 | normal=>
  obtain⟨e₂,a₂,w₂,UG,Mk⟩:=hq b k cs
  exact⟨e₂,a₂,w₂,UG,.of_steps (Steps.trans yp (.one step_inLoop)) Mk⟩
 | exit id=>exact⟨_,a₁,w₁,hq,.pass (x:=.inLoop c) rfl (fun _ _=>.inl (by simp)) yp⟩
 | goto l=>exact⟨_,a₁,w₁,hq,.pass (x:=.inLoop c) rfl (fun _ _=>.inl (by simp)) yp⟩
 | ret=>exact⟨_,a₁,w₁,hq,.pass (x:=.inLoop c) rfl (fun _ _=>.inl (by simp)) yp⟩
 | panic ch=>exact⟨_,a₁,w₁,hq,.pass (x:=.inLoop c) rfl (fun _ _=>.inl (by simp)) yp⟩
 | outgrown=>exact⟨_,a₁,w₁,hq,.pass (x:=.inLoop c) rfl (fun _ _=>.inl (by simp)) yp⟩
theorem mb.loop {c:Code}{Q:Exit→Act→World→Prop}{a:Act}{w:World}(h:mb P c Q a w):(Code.loop c).wp P Q a w:=by
 intro b k cs
 obtain⟨e,a',w',hq,yp⟩:=h b k cs
 exact⟨e,a',w',hq,.of_steps (.one step_loop) yp⟩
def Ex.IU:Ex→Exit
 | .norm=>.normal
 | .exit id=>.exit id
 | .ret=>.ret
def ke (n:Nat):Code→Bool
 | .region _ ops _=>vk n ops.toList
 | .seq a b=>ke n a&&ke n b
 | .cond _ x y=>ke n x&&ke n y
 | .block _ c=>ke n c
 | .loop c=>ke n c
 | _=>true
def Ar (P:Program)(cf:CallF):Prop:=
 ∀(L0:Nat→Prop) (c0:Cx) (n:Nat) (aF:List Nat) (id:Nat) (ops:Array Oper) (s s':RS),kY P cf aF ops s=some s'→c0.base≤c0.w.heap.size→vk n ops.toList=true→
  ∀a w Q,Inv L0 c0 n (ops.toList.filterMap (·.dst)) s a w→(∀a' w',Inv L0 c0 n (ops.toList.filterMap (·.dst)) s' a' w'→Q .normal a' w')→(Code.region id ops true).wp P Q a w
theorem jU {cf:CallF}(hcf:CallOK P cf)(C0:Ar P cf)(hb0:c0.base≤c0.w.heap.size){A:cd}{m:Nat}:∀(c:Code),ke n c=true→∀(st jF:St) (ex:Ex),bL P cf A m c st=some (ex,jF)→
  ∀a w Q,Inv L0 c0 n [] (st.open A) a w→(∀a' w',Inv L0 c0 n [] (jF.open A) a' w'→Q ex.IU a' w')→c.wp P Q a w
 | .skip,_,st,jF,ex,h,a,w,Q,hi,hQ=>by
  simp only [bL,WT,W2] at h
  obtain⟨rfl,rfl⟩:=h
  exact wp_skip (hQ a w hi)
 | .label _,_,st,jF,ex,h,a,w,Q,hi,hQ=>by
  simp only [bL,WT,W2] at h
  obtain⟨rfl,rfl⟩:=h
  exact wp_label (hQ a w hi)
 | .ret,_,st,jF,ex,h,a,w,Q,hi,hQ=>by
  simp only [bL,WT,W2] at h
  obtain⟨rfl,rfl⟩:=h
  exact wp_ret (hQ a w hi)
 | .exit id,_,st,jF,ex,h,a,w,Q,hi,hQ=>by
  simp only [bL,WT,W2] at h
  obtain⟨rfl,rfl⟩:=h
  exact wp_exit (hQ a w hi)
 | .seq x y,hB,st,jF,ex,h,a,w,Q,hi,hQ=>by
  simp only [ke,WV] at hB
  simp only [bL,WR] at h
  obtain⟨⟨IV,uI⟩,h1,h2⟩:=h
  refine wp_seq (jU hcf C0 hb0 x hB.1 st uI IV h1 a w _ hi fun a' w' lE=>?_)
  cases IV with
  | norm=>exact jU hcf C0 hb0 y hB.2 uI jF ex h2 a' w' Q lE hQ
  | exit id=>
   simp only [WT,W2] at h2
   obtain⟨rfl,rfl⟩:=h2
   exact hQ a' w' lE
  | ret=>
   simp only [WT,W2] at h2
   obtain⟨rfl,rfl⟩:=h2
   exact hQ a' w' lE
 | .cond k x y,hB,st,jF,ex,h,a,w,Q,hi,hQ=>by
  simp only [ke,WV] at hB
  simp only [bL,WR] at h
  obtain⟨t,ht,h⟩:=h
  have hk:a.eval k = .bool t:=by
   obtain⟨hn,c,Lo,lam,rfl,f,e⟩:=hi
   have hk:=bz f k
   unfold sv at ht
   split at ht
   ·rename_i b hb
    cases ht
    rw [hb] at hk
    simpa [SR,VR] using hk
   ·cases ht
  refine wp_cond hk ?_
  cases t with
  | true=>exact jU hcf C0 hb0 x hB.1 st jF ex (by simpa using h) a w Q hi hQ
  | false=>exact jU hcf C0 hb0 y hB.2 st jF ex (by simpa using h) a w Q hi hQ
 | .block id x,hB,st,jF,ex,h,a,w,Q,hi,hQ=>by
  simp only [ke] at hB
  simp only [bL,WS] at h
  obtain⟨⟨IV,uI⟩,h1,h2⟩:=h
  refine wp_block (jU hcf C0 hb0 x hB st uI IV h1 a w _ hi fun a' w' lE=>?_)
  cases IV with
  | norm=>
   simp only [W2] at h2
   obtain⟨rfl,rfl⟩:=h2
   exact hQ a' w' lE
  | exit ox=>
   simp only [W2] at h2
   obtain⟨rfl,rfl⟩:=h2
   have:=hQ a' w' lE
   simp only [Ex.IU,Exit.inBlock]
   split
   ·rename_i he; rw [if_pos he] at this; exact this
   ·rename_i he; rw [if_neg he] at this; exact this
  | ret=>
   simp only [W2] at h2
   obtain⟨rfl,rfl⟩:=h2
   exact hQ a' w' lE
 | .loop x,hB,st,jF,ex,h,a,w,Q,hi,hQ=>by
  simp only [ke] at hB
  simp only [bL] at h
  have key:∀(j:Nat) (st:St),kC (bL P cf A m x) j st=some (ex,jF)→∀a w,Inv L0 c0 n [] (st.open A) a w→mb P x Q a w:=by
   intro j
   induction j with
   | zero=>intro st h; simp [kC] at h
   | succ j ih=>
    intro st h a w hi
    simp only [kC,WR] at h
    obtain⟨⟨IV,uI⟩,h1,h2⟩:=h
    refine mb.step (jU hcf C0 hb0 x hB st uI IV h1 a w _ hi fun a' w' lE=>?_)
    cases IV with
    | norm=>exact ih uI h2 a' w' lE
    | exit id=>
     simp only [WT,W2] at h2
     obtain⟨rfl,rfl⟩:=h2
     exact hQ a' w' lE
    | ret=>
     simp only [WT,W2] at h2
     obtain⟨rfl,rfl⟩:=h2
     exact hQ a' w' lE
  exact mb.loop (key m st h a w hi)
 | .region id ops draw,hB,st,jF,ex,h,a,w,Q,hi,hQ=>by
  simp only [ke] at hB
  simp only [bL,WR,WS,W2] at h
  obtain⟨s0,h0,s',h1,s2,h2,rfl,rfl⟩:=h
  replace hi:=hi.kZ h0
  cases draw with
  | true=>
   simp only [if_true] at h1
   exact C0 L0 c0 n A.aF id ops _ s' h1 hb0 hB a w Q (hi.wide _) fun a' w' lE=>hQ a' w' ((lE.kZ h2).nk A id)
  | false=>
   simp only [W9,if_false] at h1
   exact wp_region_list (BA hcf hb0 rfl hB (fun a' w' lE=>hQ a' w' ((lE.kZ h2).nk A id)) ops.toList _ (fun _ h=>h) h1 a w (hi.wide _))
 | .rangeFunc ..,_,st,jF,ex,h,_,_,_,_,_=>by simp [bL] at h
 | .scope ..,_,st,jF,ex,h,_,_,_,_,_=>by simp [bL] at h
 | .goto ..,_,st,jF,ex,h,_,_,_,_,_=>by simp [bL] at h
 | .refuse ..,_,st,jF,ex,h,_,_,_,_,_=>by simp [bL] at h
theorem wy {c:Cx}{Lo:Nat→Prop}{lam:Nat→Nat}{a:Act}(f:Fr L0 c Lo lam ds s a):∀(rs:List ResultVar) (l:List AV),z8 P s rs=some l→l.all AV.lC=true→
  ∃vs:List Value,(rs.mapM (m:=Sem) fun | .tmp t=>pure (a.tmps.getD t undef) | .cell x t=>do loadVar t (←asAddr (a.tmps.getD x undef))).run P c.w = .ok vs c.w∧VRs c (un L0 Lo) l vs
 | [],l,h,_=>by
  simp only [z8,WT] at h
  subst h
  exact⟨[],rfl,trivial⟩
 | .tmp t::rs,l,h,hl=>by
  simp only [z8,WS] at h
  obtain⟨l',h1,rfl⟩:=h
  simp only [XO,WV] at hl
  obtain⟨vs,h2,h3⟩:=wy f rs l' h1 hl.2
  refine⟨a.tmps.getD t undef::vs,?_,(f.slot t).vr (sQ hl.1),h3⟩
  simp only [List.mapM_cons,Sem.run_bind,Sem.run_pure,Result.andThen_ok,h2]
 | .cell x t::rs,l,h,hl=>by
  simp only [z8,WR,WS] at h
  obtain⟨y,hy,l',h1,rfl⟩:=h
  simp only [XO,WV] at hl
  obtain⟨vs,h2,h3⟩:=wy f rs l' h1 hl.2
  have hx:=f.slot x
  obtain⟨u,hr,hu⟩:=sD (P:=P) f (t:=t) hx hy
  have hp:∃ad,a.tmps.getD x undef = .pointer (some ad):=by
   unfold jl at hy
   cases hq:s.ρ x<;>rw [hq] at hy hx<;>simp only at hy<;>try (cases hy; done)
   ·simp only [SR,VR] at hx; obtain⟨_,ad,h,_⟩:=hx; exact⟨ad,h⟩
   ·simp only [SR] at hx; exact⟨_,hx.1⟩
   ·simp only [SR,VR] at hx; obtain⟨_,_,h,_⟩:=hx; exact⟨_,h⟩
  obtain⟨ad,hp⟩:=hp
  rw [hp] at hr
  have As:(loadVar t ad).run P c.w = .ok u c.w:=by simpa [Instr.loadAt,Instr.sureAddr] using hr
  refine⟨u::vs,?_,hu,h3⟩
  have ha:(asAddr (a.tmps.getD x undef)).run P c.w = .ok ad c.w:=by rw [hp]; rfl
  simp only [List.mapM_cons,Sem.run_bind,Sem.run_pure,Result.andThen_ok,h2,ha,As]
theorem kL:un L0 none0=L0:=by funext b; simp [un,none0]
theorem Ext.close {c c':Cx}{jC:Nat→Prop}(e:Ext c none0 c' jC):Ext c none0 c' none0:=
 ⟨e.next,e.live,e.size,e.gg,e.exact,e.base,e.IM,fun _ h=>h,fun _ h=>h.elim,e.os,e.tape,e.output⟩
theorem HRel.kn {c:Cx}{L L':Nat→Prop}(hL:∀b,L' b→L b)(h:HRel c L):HRel c L':=
 ⟨h.lt,fun id o ho=>by
  have:=h.obj id o ho
  cases o with
  | cells cs=>obtain⟨m,h1,h2,h3⟩:=this; exact⟨m,h1,h2,Cells.kn hL _ _ _ h3⟩
  | row t cs=>obtain⟨h0,C,h1,h2,h4,h3⟩:=this; exact⟨h0,C,h1,h2,h4,Cells.kn hL _ _ _ h3⟩
  | map es=>
   obtain⟨kE,clock,h1,h2⟩:=this
   refine⟨kE,clock,h1,?_⟩
   clear h1
   have:∀(es:List (AV × AV)) (ms:List MapEntry),kD c L es ms→kD c L' es ms:=by
    intro es
    induction es with
    | nil=>intro ms h; cases ms with | nil=>trivial | cons m ms=>exact h.elim
    | cons e es ih=>intro ms h; cases ms with
     | nil=>exact h.elim
     | cons m ms=>obtain⟨h1,h2,h3⟩:=h; exact⟨⟨VR.kn hL _ _ h1.1,h1.2⟩,VR.kn hL _ _ h2,ih _ h3⟩
   exact this _ _ h2,h.inj,fun id hl hb=>h.out id hl (hL _ hb),fun b hb=>h.bd b (hL b hb),h.low,h.ver⟩
structure Fit (P:Program):Prop where
 mixed:P.follows .mixedOrders=true
 Ml : ∀ (f : FuncId) fn c, P.funcs[f]? = some fn → fn.body = some c → ke fn.ntmps c = true ∧ fn.name ≠ "runtime.NumGoroutine"
def IntrOK (P:Program)(intr:FuncId→Option (List AV→AHeap→Option (AV × AHeap))):Prop:=
 ∀f g,intr f=some g→(CallOK P fun f' args h=>if f'=f then g args h else none)∧∀args h r h',g args h=some (r,h')→Steady h h'
theorem jV {f : FuncId} {fn : Func} {c : Code} (hf : P.funcs[f]? = some fn) (hc : fn.body = some c) (hn : fn.name ≠ "runtime.NumGoroutine") (vs : Array Value) (w : World) : (callFunc f vs).run P w = .ok (.enter f vs) w := by
 have Wx : (fn.name == "runtime.NumGoroutine") = false := by simpa using hn
 simp [callFunc,program,Sem.run,hf,hn,hc]
theorem Eu (hP:Fit P){aS:FuncId→cd}{cf:CallF}(ih:CallOK P cf)(C0:Ar P cf)(m:Nat):CallOK P (aZ P aS cf m):=by
 intro f args h r h' hc
 unfold aZ at hc
 rw [WR] at hc
 obtain⟨fn,hf,hc⟩:=hc
 rw [WR] at hc
 obtain⟨c,hb,hc⟩:=hc
 obtain⟨hB,Mm⟩:=hP.Ml f fn c hf hb
 refine⟨jV hf hb Mm,fun L0 c0 vs hh hb0 hrel hargs=>?_⟩
 split at hc
 rotate_left
 ·cases hc
 rename_i hlen
 rw [WR] at hc
 obtain⟨⟨ex,st⟩,hex,hc⟩:=hc
 have hl:=hargs.length
 refine calls_of_wp hf hb ?_
 refine jU (L0:=L0) (c0:=c0) (n:=fn.ntmps) ih C0 hb0 c hB _ _ _ hex _ _ _ ?_ ?_
 ·refine⟨by simp; omega,c0,none0,fun _=>0,rfl,⟨hh,by rw [kL]; exact hrel,fun t=>?_,fun k cs hk=>?_,fun k k' hk=>?_,fun t k off _ he=>?_,rfl,fun b hb=>hb.elim⟩,Ext.refl _ _⟩
  ·simp only [St.open,lW,iI]
   split
   ·by_cases ht:t<args.length
    ·obtain⟨v,hv,hr⟩:=hargs.get t args[t] (by simp [ht])
     have:args.getD t AV.any=args[t]:=by simp [ht]
     rw [this,Array.getD_eq_getD_getElem?,Array.getElem?_append_left (by simp; omega)]
     have O9:vs.toArray[t]? = some v:=by simpa using hv
     rw [O9]
     exact SR.of (by rw [kL]; exact hr)
    ·have:args.getD t AV.any = .any:=by simp [Xa (Nat.not_lt.1 ht)]
     rw [this]
     exact SR.of (by simp [VR])
   ·exact SR.of (by simp [VR])
  ·simp only [St.open,iI] at hk
   split at hk<;>cases hk
  ·simp only [St.open,iI] at hk
   split at hk<;>cases hk
  ·simp only [St.open,lW,iI] at he
   split at he
   ·by_cases ht:t<args.length
    ·obtain⟨v,hv,hr⟩:=hargs.get t args[t] (by simp [ht])
     have h1:args.getD t AV.any=args[t]:=by simp [ht]
     rw [h1] at he
     rw [he] at hr
     exact hr.elim
    ·have:args.getD t AV.any = .any:=by simp [Xa (Nat.not_lt.1 ht)]
     rw [this] at he
     cases he
   ·cases he
 ·intro a' w' lE
  have hfin:(aI P (st.open (aS f)) fn.results.toList).map (fun r=>(r,st.h))=some (r,h')→a'.defers=[]∧∃v,(results fn a'.tmps).run P w' = .ok v w'∧(∃c' v',Ending.returned v = .returned v'∧c'.w=w'∧c'.h=h'∧VR c' L0 r v'∧HRel c' L0∧Ext c0 none0 c' none0):=by
   intro hc
   rw [WS] at hc
   obtain⟨r',As,he⟩:=hc
   cases he
   obtain⟨hn,c',Lo,lam,rfl,f',e'⟩:=lE
   refine⟨f'.defers,?_⟩
   unfold aI at As
   rw [WR] at As
   obtain⟨l,hl,As⟩:=As
   split at As
   rotate_left
   ·cases As
   rename_i kK
   obtain⟨us,UH,Bt⟩:=wy f' _ _ hl kK
   have Ev:VRs c' L0 l us:=VRs.kn (fun b hb=>.inl hb) _ _ Bt
   have Ah:(results fn a'.tmps).run P c'.w = .ok (if h:us.toArray.size=1 then us.toArray[0] else .tuple us.toArray) c'.w:=by
    unfold results
    rw [←Array.toArray_toList (xs:=fn.results)]
    rw [List.mapM_toArray]
    simp only [Sem.run_bind,Sem.run_map,Result.andThen_ok,Sem.run_pure]
    exact (congrArg (fun z=>(Result.andThen z (fun (a:List Value) w'=>Result.ok a.toArray w')).andThen (fun (a:Array Value) w'=>Result.ok (if h:a.size=1 then a[0] else Value.tuple a) w')) UH).trans rfl
   refine⟨_,Ah,c',_,rfl,rfl,f'.h,?_,HRel.kn (fun b hb=>.inl hb) f'.rel,e'.close⟩
   split at As
   ·rename_i x
    cases As
    cases us with
    | nil=>exact Ev.elim
    | cons u us=>cases us with
     | nil=>exact Ev.1
     | cons u2 us=>exact Ev.2.elim
   ·rename_i hne
    cases As
    have Pc:us.length≠1:=by
     intro h1
     rw [←Ev.length] at h1
     cases l with
     | nil=>simp at h1
     | cons x l=>cases l with
      | nil=>exact hne x rfl
      | cons y l=>simp at h1
    have:¬us.toArray.size=1:=by simpa using Pc
    rw [dif_neg this]
    simp only [VR]
    exact⟨us.toArray,rfl,Ev⟩
  cases ex with
  | norm=>exact hfin hc
  | ret=>exact hfin hc
  | exit id=>cases hc
end
end Go.R
namespace Go.R
open Go
def RS.shift (s2:RS)(f:kA)(d:Option Nat)(s':RS):RS:=
 {ρ:=match d with | none=>s2.ρ | some d=>fun t=>if t=d then s'.ρ d else s2.ρ t
  bx:=match f.wb with | none=>s2.bx | some k=>fun t=>if t=k then s'.bx k else s2.bx t
  h:=if f.wh then s'.h else s2.h}
theorem RS.ext' {s t:RS}(h1:∀i,s.ρ i=t.ρ i)(h2:∀i,s.bx i=t.bx i)(h3:s.h=t.h):s=t:=by
 cases s; cases t
 congr
 ·exact funext h1
 ·exact funext h2
theorem ir (s s2:RS)(f:kA)(d:Option Nat)(z:AV)(hw:f.wb=none)(hh:f.wh=false):s2.set d z=s2.shift f d (s.set d z):=by
 refine RS.ext' (fun i=>?_) (fun i=>?_) ?_
 ·cases d with
  | none=>rfl
  | some d=>simp only [u5,RS.shift,if_true]
 ·simp only [RS.shift,hw]; cases d<;>rfl
 ·simp only [RS.shift,hh]; cases d<;>rfl
theorem jq (s:RS)(d:Option Nat)(z:AV):(s.set d z).h=s.h:=by cases d<;>rfl
theorem JK (s:RS)(d:Option Nat)(z:AV):(s.set d z).bx=s.bx:=by cases d<;>rfl
theorem Ew (s:RS)(k i:Nat)(cs:List AV):(s.box k cs).bx i=if i=k then some cs else s.bx i:=by
 simp only [RS.box,beq_nat]
 by_cases h:i=k<;>simp [h]
theorem gx (s s2:RS)(f:kA)(d:Option Nat)(z:AV)(h':AHeap)(hw:f.wb=none)(hh:f.wh=true):({s2 with h:=h'}:RS).set d z=s2.shift f d (({s with h:=h'}:RS).set d z):=by
 refine RS.ext' (fun i=>?_) (fun i=>?_) ?_
 ·cases d with
  | none=>rfl
  | some d=>simp only [u5,RS.shift,if_true]
 ·simp only [RS.shift,hw]; cases d<;>rfl
 ·simp only [RS.shift,hh]; cases d<;>rfl
theorem C1 (s s2:RS)(f:kA)(k:Nat)(cs:List AV)(hw:f.wb=some k)(hh:f.wh=false):s2.box k cs=s2.shift f none (s.box k cs):=by
 refine RS.ext' (fun i=>rfl) (fun i=>?_) ?_
 ·simp only [Ew,RS.shift,hw,if_true]
 ·simp only [RS.shift,hh]; rfl
section
variable {P:Program}{cf:CallF}{aF ds:List Nat}{o:Oper}{s s' s2:RS}
theorem oE {cs:List AV}{f:kA}(h:ie s aF ds o cs=some s')(hf:f=(match o.dst with
  | some d=>if aF.contains d then {wb:=some d,al:=true} else {wh:=true}
  | none=>{})) (hh:f.wh=true→s2.h=s.h) (oo:f.al=true→∀d,o.dst=some d→su d s2.ρ (ds.filter fun t=>!Nat.beq t d)=true) :
  ie s2 aF ds o cs=some (s2.shift f o.dst s'):=by
 unfold ie at h ⊢
 split at h
 rotate_left
 ·cases h
 rename_i oy
 rw [if_pos oy]
 cases hd:o.dst with
 | none=>rw [hd] at h; cases h
 | some d=>
  rw [hd] at h hf
  simp only at h hf ⊢
  by_cases hl:aF.contains d=true
  ·rw [if_pos hl] at h hf ⊢
   subst hf
   split at h
   rotate_left
   ·cases h
   cases h
   rw [if_pos (oo rfl d hd)]
   congr 1
   refine RS.ext' (fun i=>?_) (fun i=>?_) ?_
   ·simp only [u5,RS.shift,if_true]; rfl
   ·simp only [JK,Ew,RS.shift,if_true]
   ·simp only [jq,RS.shift]; rfl
  ·rw [if_neg hl] at h hf ⊢
   subst hf
   cases h
   rw [hh rfl]
   congr 1
   exact gx s s2 {wh:=true} (some d) _ _ rfl rfl
theorem vl {e:Operand→AV}(h:z7 P cf aF ds e s o=some s')(hb:∀k∈(a7 aF e o).rb,s2.bx k=s.bx k)(hr:∀id∈(a7 aF e o).rh,s2.h.get id=s.h.get id)
  (hh:(a7 aF e o).wh=true→s2.h=s.h) (oo:(a7 aF e o).al=true→∀d,o.dst=some d→su d s2.ρ (ds.filter fun t=>!Nat.beq t d)=true) :
  z7 P cf aF ds e s2 o=some (s2.shift (a7 aF e o) o.dst s'):=by
 have dz:∀{x x2:Option AV} (f:kA),(x.map fun x=>s.set o.dst x)=some s'→(x2=x)→f.wb=none→f.wh=false→(x2.map fun x=>s2.set o.dst x)=some (s2.shift f o.dst s'):=by
  intro x x2 f hx h2 h3 h4
  obtain⟨z,rfl,rfl⟩:=Option.map_some' hx
  subst h2
  simp only [WW]
  rw [←ir s s2 f o.dst z h3 h4]
 have yq:∀{α:Type} {x x2:Option α} (f:kA) (g:α→AV) (k:α→AHeap),(x.map fun y=>({s with h:=k y}:RS).set o.dst (g y))=some s'→(x2=x)→f.wb=none→f.wh=true→
   (x2.map fun y=>({s2 with h:=k y}:RS).set o.dst (g y))=some (s2.shift f o.dst s'):=by
  intro α x x2 f g k hx h2 h3 h4
  obtain⟨z,rfl,rfl⟩:=Option.map_some' hx
  subst h2
  simp only [WW]
  rw [←gx s s2 f o.dst (g z) (k z) h3 h4]
 unfold z7 at h ⊢
 dsimp only at h ⊢
 split at h
 ·rename_i x ho; cases h; simp only [WT]; exact ir s s2 _ _ _ (by simp [a7,ho]) (by simp [a7,ho])
 ·rename_i x ho; cases h; simp only [WT]; exact ir s s2 _ _ _ (by simp [a7,ho]) (by simp [a7,ho])
 ·rename_i k x y ho
  obtain⟨t,ht,rfl⟩:=Option.map_some' h
  simp only [ht,WW,WT]
  exact ir s s2 _ _ _ (by simp [a7,ho]) (by simp [a7,ho])
 ·rename_i t ho
  rw [WR] at h
  obtain⟨z,hz,h⟩:=h
  simp only [hz,WQ]
  exact oE h (by simp only [a7,ho]; rfl) hh oo
 ·rename_i t x ho
  exact oE h (by simp only [a7,ho]; rfl) hh oo
 ·rename_i t ps ho; exact dz _ h rfl (by simp [a7,ho]) (by simp [a7,ho])
 ·rename_i t k ps ho
  obtain⟨z,hz,rfl⟩:=Option.map_some' h
  simp only [hz,WW,WT]
  have hf:a7 aF e o=(match o.dst with | some d=>if aF.contains d then {wh:=true} else {} | none=>{}):=by simp only [a7,ho]; rfl
  unfold pQ
  cases JC:nK P aF o t z with
  | none=>
   simp only
   cases hd:o.dst with
   | none=>rw [hd] at hf; rw [hf]; exact ir s s2 _ none _ rfl rfl
   | some d=>
    rw [hd] at hf
    simp only at hf
    by_cases hl:aF.contains d=true
    ·rw [if_pos hl] at hf
     have h2:=hh (by rw [hf])
     rw [hf]
     have h3:=gx s s2 {wh:=true} (some d) z s2.h rfl rfl
     refine h3.trans ?_
     rw [h2]
    ·rw [if_neg hl] at hf
     rw [hf]; exact ir s s2 _ _ _ rfl rfl
  | some q=>
   obtain⟨d,hd,hl⟩:∃d,o.dst=some d∧aF.contains d=true:=by
    unfold nK at JC
    split at JC
    ·rename_i d _ _ _ hd
     refine⟨d,hd,?_⟩
     cases hc:aF.contains d with
     | false=>rw [hc] at JC; cases JC
     | true=>rfl
    ·cases JC
   rw [hd] at hf
   simp only [hl,if_true] at hf
   rw [hf] at hh ⊢
   simp only [hh rfl]
   exact gx s s2 _ _ _ _ rfl rfl
 ·
  rename_i t x ho
  have hf:a7 aF e o=(match e x with | .lp k _=>{rb:=[k]} | .ptr id _=>{rh:=[id]} | _=>{}):=by simp only [a7,ho]; rfl
  refine dz _ h ?_ ?_ ?_
  ·rw [hf] at hb hr
   unfold jl
   cases hx:e x<;>rw [hx] at hb hr<;>try rfl
   ·simp only; rw [hr _ (by simp)]
   ·simp only; rw [hb _ (by simp)]
  ·rw [hf]; cases e x<;>rfl
  ·rw [hf]; cases e x<;>rfl
 ·
  rename_i t x y ho
  have hf:a7 aF e o=(match e x with | .lp k _=>{rb:=[k],wb:=some k} | _=>{wh:=true}):=by simp only [a7,ho]; rfl
  try simp only at h ⊢
  split at h
  ·cases h
  rename_i hd
  rw [if_neg hd]
  have Hc:o.dst=none:=by simpa using hd
  cases hx:e x<;>rw [hx] at h hf<;>simp only at h hf ⊢<;>try (cases h; done)
  ·rename_i id off
   rw [hf] at hh ⊢
   rw [WR] at h
   obtain⟨ob,hob,h⟩:=h
   rw [hh rfl,hob]
   cases ob with
   | map es=>cases h
   | row t cs=>cases h
   | cells cs=>
    obtain⟨fH,hcs,rfl⟩:=Option.map_some' h
    simp only [WQ,hcs,WW,Hc,WT]
    exact gx s s2 {wh:=true} none .any _ rfl rfl
  ·rename_i k off
   rw [hf] at hb ⊢
   rw [WR] at h
   obtain⟨cs,hcs,h⟩:=h
   rw [hb k (by simp),hcs]
   obtain⟨fH,Pd,rfl⟩:=Option.map_some' h
   simp only [WQ,Pd,WW,Hc,WT]
   exact C1 s s2 _ k fH rfl rfl
 ·rename_i ho; exact dz _ h rfl (by simp [a7,ho]) (by simp [a7,ho])
 ·rename_i ho; exact dz _ h rfl (by simp [a7,ho]) (by simp [a7,ho])
 ·rename_i ho; exact dz _ h rfl (by simp [a7,ho]) (by simp [a7,ho])
 ·
  rename_i a b x ho
  have hf:a7 aF e o=(match e x with | .rs id _ _ _=>{rh:=[id]} | _=>{}):=by simp only [a7,ho]; rfl
  refine dz _ h ?_ ?_ ?_
  ·have hc:dJ s2.h 1 (e x)=dJ s.h 1 (e x):=by
    rw [hf] at hr
    unfold dJ
    cases hx:e x<;>rw [hx] at hr<;>try rfl
    simp only; rw [hr _ (by simp)]
   unfold dW
   rw [hc]
  ·rw [hf]; cases e x<;>rfl
  ·rw [hf]; cases e x<;>rfl
 ·rename_i Ao first cap ho
  try simp only
  split at h
  ·rename_i hc
   rw [if_pos hc]
   exact dz _ h rfl (by simp [a7,ho]) (by simp [a7,ho])
  ·cases h
 ·rename_i ho
  have hf:(a7 aF e o).wh=true:=by simp [a7,ho]
  cases h
  simp only [hh hf,WT]
  exact gx s s2 _ _ _ _ (by simp [a7,ho]) hf
 ·rename_i t l c ho
  have hf:(a7 aF e o).wh=true:=by simp [a7,ho]
  exact yq _ (fun y:AV × AHeap=>y.1) (fun y=>y.2) h (by simp only [hh hf]) (by simp [a7,ho]) hf
 ·rename_i ho; exact dz _ h rfl (by simp [a7,ho]) (by simp [a7,ho])
 ·rename_i ho; exact dz _ h rfl (by simp [a7,ho]) (by simp [a7,ho])
 ·rename_i ho; exact dz _ h rfl (by simp [a7,ho]) (by simp [a7,ho])
 ·rename_i ho; exact dz _ h rfl (by simp [a7,ho]) (by simp [a7,ho])
 ·rename_i ho; exact dz _ h rfl (by simp [a7,ho]) (by simp [a7,ho])
 ·
  rename_i t m k ok ho
  have hf:a7 aF e o=(match e m with | .mp id=>{rh:=[id]} | _=>{}):=by simp only [a7,ho]; rfl
  refine dz _ h ?_ ?_ ?_
  ·rw [hf] at hr
   unfold fG
   cases hx:e m<;>rw [hx] at hr<;>try rfl
   simp only; rw [hr _ (by simp)]
  ·rw [hf]; cases e m<;>rfl
  ·rw [hf]; cases e m<;>rfl
 ·rename_i t m k x ho
  have hf:(a7 aF e o).wh=true:=by simp [a7,ho]
  try simp only at h ⊢
  split at h
  ·cases h
  rename_i hd
  rw [if_neg hd]
  have Hc:o.dst=none:=by simpa using hd
  obtain⟨h',hm,rfl⟩:=Option.map_some' h
  simp only [hh hf,hm,WW,Hc,WT]
  exact gx s s2 _ none .any _ (by simp [a7,ho]) hf
 ·rename_i t m k x ho
  have hf:(a7 aF e o).wh=true:=by simp [a7,ho]
  try simp only at h ⊢
  split at h
  ·cases h
  rename_i hd
  rw [if_neg hd]
  have Hc:o.dst=none:=by simpa using hd
  obtain⟨h',hm,rfl⟩:=Option.map_some' h
  simp only [hh hf,hm,WW,Hc,WT]
  exact gx s s2 _ none .any _ (by simp [a7,ho]) hf
 ·rename_i ho; exact dz _ h rfl (by simp [a7,ho]) (by simp [a7,ho])
 ·
  rename_i b args By ho
  try simp only
  unfold gq at h ⊢
  generalize hargs:args.toList.map e=as at h ⊢
  generalize By.toList=ts at h ⊢
  split at h
  ·rename_i t x
   try simp only
   have hf:a7 aF e o=(match x with | .mp id=>{rh:=[id]} | _=>{}):=by
    simp only [a7,ho,hargs]
    cases x<;>rfl
   refine dz _ h ?_ ?_ ?_
   ·rw [hf] at hr
    unfold sr
    cases x<;>try rfl
    simp only; rw [hr _ (by simp)]
   ·rw [hf]; cases x<;>rfl
   ·rw [hf]; cases x<;>rfl
  ·try simp only
   have hf:(a7 aF e o).wh=true∧(a7 aF e o).wb=none:=by simp only [a7,ho,hargs]; simp
   exact yq _ (fun y:AV × AHeap=>y.1) (fun y=>y.2) h (by simp only [hh hf.1]) hf.2 hf.1
  ·try simp only
   have hf:(a7 aF e o).wh=true∧(a7 aF e o).wb=none:=by simp only [a7,ho,hargs]; simp
   exact yq _ (fun y:AV × AHeap=>y.1) (fun y=>y.2) h (by simp only [hh hf.1]) hf.2 hf.1
  ·try simp only
   have hf:(a7 aF e o).wh=true∧(a7 aF e o).wb=none:=by simp only [a7,ho,hargs]; simp
   exact yq _ (fun _:AHeap=>.tup []) (fun y=>y) h (by simp only [hh hf.1]) hf.2 hf.1
  ·try simp only
   rw [WR] at h
   obtain⟨v,hv,h⟩:=h
   rw [WR] at h
   obtain⟨vs,D1,h⟩:=h
   rw [WR] at h
   obtain⟨u,hu,h⟩:=h
   simp only [hv,D1,hu,WQ]
   exact dz _ h rfl (by simp [a7,ho]) (by simp [a7,ho])
  ·try simp only
   rw [WR] at h
   obtain⟨v,hv,h⟩:=h
   rw [WR] at h
   obtain⟨vs,D1,h⟩:=h
   rw [WR] at h
   obtain⟨u,hu,h⟩:=h
   simp only [hv,D1,hu,WQ]
   exact dz _ h rfl (by simp [a7,ho]) (by simp [a7,ho])
  ·cases h
 ·
  rename_i fx args By ho
  have hf:(a7 aF e o).wh=true∧(a7 aF e o).wb=none:=by simp [a7,ho]
  try simp only
  cases hx:e fx<;>rw [hx] at h<;>simp only at h ⊢<;>try (cases h; done)
  rename_i Ao cap
  split at h
  ·rename_i ha
   rw [if_pos ha]
   exact yq _ (fun y:AV × AHeap=>y.1) (fun y=>y.2) h (by simp only [hh hf.1]) hf.2 hf.1
  ·cases h
 ·cases h
end
end Go.R
