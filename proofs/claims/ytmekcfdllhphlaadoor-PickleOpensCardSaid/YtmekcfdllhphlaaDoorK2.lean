/- Part of the proof: ROps5, ROps6, ROps7, ROpAll, RFrz, RCode. -/
import Derived.Test.YtmekcfdllhphlaaDoorK1
import Derived.MapKept
import Derived.Laws.CopyRow
import Derived.Laws.BytesArg
import Derived.Laws.IdiomStrings
import Derived.Tactics
set_option linter.unusedVariables false
set_option linter.unusedSimpArgs false
set_option maxRecDepth 100000
open Array renaming getElem?_eq_some_iff → X0, getElem?_setIfInBounds → Yq, getElem?_modify → Yz, ext' → Y2
open Bool renaming and_eq_true → Xw, false_eq_true → XJ, true_and → YH, not_eq_true' → YR
open List renaming getElem?_eq_some_iff → XA, length_set → XC, getElem?_eq_none → XL, map_cons → XN, mem_map → XQ, all_eq_true → XT, mem_cons → X8, eq_nil_of_length_eq_zero → Ya, ext_getElem? → Yh, all_cons → Ym, getElem?_set → YS
open Nat renaming le_refl → Xv, zero_add → XS, beq → Yc, lt_succ_of_lt → Yw, le_succ → YG, min_eq_left → Y3
open Ne renaming symm → YK
open Option renaming bind_some → Xr, bind_eq_some_iff → Xs, map_eq_some_iff → Xt, map_some → Xx, isSome_iff_exists → X5, getD_some → Yl
open Option.some renaming injEq → Xu
open Prod.mk renaming injEq → Xz
namespace Go.R
open Go
section
variable {P:Program}{L0:Nat→Prop}{c0:Cx}{n:Nat}{ds:List Nat}{o:Oper}{s:RS}
theorem Fr.wA {c:Cx}{Lo:Nat→Prop}{lam:Nat→Nat}{a:Act}(f:Fr L0 c Lo lam ds s a)(hbs:c.base≤c.w.heap.size){id:Nat}{es qN:List (AV × AV)}(ho:c.h.get id=some (.map es)){kp qT:Array MapEntry}{clock nA:Nat}
  (hb:c.w.heap[(c.β id).1]? = some (.map kp clock)) (he:ko c (un L0 Lo) qN qT.toList) :
  Ext c Lo ⟨c.β,s.h.put id (.map qN),{c.w with heap:=c.w.heap.setIfInBounds (c.β id).1 (.map qT nA)},c.base⟩ Lo∧
   Fr L0 ⟨c.β,s.h.put id (.map qN),{c.w with heap:=c.w.heap.setIfInBounds (c.β id).1 (.map qT nA)},c.base⟩ Lo lam ds {s with h:=s.h.put id (.map qN)} a:=by
 have hl:Live c.h id:=⟨f.rel.lt _ _ ho,by simp [ho]⟩
 have hlt:(c.β id).1<c.w.heap.size:=(X0.1 hb).1
 have hne:∀b,b≠(c.β id).1→({c.w with heap:=c.w.heap.setIfInBounds (c.β id).1 (.map qT nA)}:World).heap[b]? = c.w.heap[b]?:=by
  intro b hb
  simp only [Yq]
  rw [if_neg (YK hb)]
 rw [←f.h]
 refine f.upd (β':=c.β) (h':=c.h.put id (.map qN)) id (.map qN) (Steady.put _ _ _) (Yw hl.1) (by simp [AHeap.put,beq_nat])
  (fun nY h1=>.inr ⟨by simp [AHeap.put,beq_nat,h1],rfl⟩) (fun _=>⟨hl,rfl⟩) (.inr ⟨id,hl,rfl,.inl rfl⟩) (fun _=>?_)
  (fun b _ h1=>hne b h1) (fun b _ h1=>hne b h1) (by simp) hbs rfl rfl rfl (fun e=>⟨qT,nA,by simp [hlt],he.ext e⟩)
 simp only [Cx.len,World.shape?,hb,Yq,hlt,if_true]
theorem wC {x y:AV}(hs:sameShape x y=true)(hq:fN x y=true):x=y:=by
 cases x<;>cases y<;>simp only [sameShape] at hs<;>try (cases hs; done)
 ·simp only [fN,iR,Xw,beq_iff_eq] at hq
  obtain⟨rfl,rfl⟩:=hq
  rfl
 ·rename_i a b
  simp only [fN,iR,beq_iff_eq] at hq
  congr 1
  cases a; cases b
  congr 1
  exact Array.toList_inj.1 hq
 ·rename_i xs ys
  simp only [Xw,beq_iff_eq] at hs
  obtain⟨⟨_,hx⟩,hy⟩:=hs
  obtain⟨ns,rfl⟩:=gT hx
  obtain⟨ms,rfl⟩:=gT hy
  simp only [fN,jU,decide_eq_true_eq] at hq
  rw [hq]
theorem mZ:∀ns:List Int,iP (ns.map fun n=>AV.int .i64 n)=some (ns.map fun n=>Value.int .i64 n)
 | []=>rfl
 | n::ns=>by simp [iP,AV.fu,mZ ns]
theorem Ak {t:TypeId}{k:AV}(h:fO P t k=true):∃u,k.zV=some u∧Instr.sameBits 10000 u u=true:=by
 unfold fO at h
 have MM:∀cs:List AV,cs.all jS=true→∃u,(AV.agg cs).zV=some u∧Instr.sameBits 10000 u u=true:=by
  intro cs hcs
  obtain⟨ns,rfl⟩:=gT hcs
  refine⟨.agg (ns.map fun n=>Value.int .i64 n).toArray,by simp [AV.zV,mZ],?_⟩
  simp only [Instr.sameBits,beq_self_eq_true,YH,XT]
  intro p hp
  have:∀(l:List Value),(∀v∈l,∃m,v=Value.int .i64 m)→∀p∈l.zip l,Instr.sameBits 9999 p.1 p.2=true:=by
   clear hp p
   intro l hl p hp
   have h1:p.1=p.2∧p.1∈l:=by
    clear hl
    induction l with
    | nil=>cases hp
    | cons v l ih=>
     simp only [List.zip_cons_cons,X8] at hp
     rcases hp with rfl | hp
     ·exact⟨rfl,by simp⟩
     ·obtain⟨h1,h2⟩:=ih hp; exact⟨h1,by simp [h2]⟩
   obtain⟨h1,h2⟩:=h1
   obtain⟨m,hm⟩:=hl _ h2
   rw [←h1,hm]
   simp [Instr.sameBits]
  exact this (ns.map fun n=>Value.int .i64 n) (fun v hv=>by obtain⟨m,_,rfl⟩:=XQ.1 hv; exact⟨m,rfl⟩) p (by simpa using hp)
 split at h
 ·exact⟨_,rfl,by simp [Instr.sameBits]⟩
 ·exact⟨_,rfl,by simp [Instr.sameBits,u9]⟩
 ·simp only [Xw] at h; exact MM _ h.1.1.2
 ·simp only [Xw] at h; exact MM _ h.1.1.2
 ·cases h
theorem sQ {c:Cx}{L:Nat→Prop}{k v:AV}{kv vv:Value}(hc:k.zV.isSome=true)(hk:VR c L k kv)(hv:VR c L v vv) :
  ∀(es qN:List (AV × AV)) (ms:List MapEntry) (i:Nat),ko c L es ms→wg k v es=some qN→
   iu k es≠none∧(place k es ms i=none∧(∀b,ko c L qN (ms++[{key:=kv,val:=vv,born:=b}]))∨
    ∃j u m,place k es ms i=some (i+j,u)∧ms[j]? = some m∧m.key=kv∧ko c L qN (ms.modify j fun e=>{e with key:=kv,val:=vv}))
 | [],qN,[],i,_,h=>by
  simp only [wg,Xu] at h
  subst h
  exact⟨by simp [iu],.inl ⟨rfl,fun b=>⟨⟨hk,hc⟩,hv,trivial⟩⟩⟩
 | (k',v')::es,qN,m::ms,i,he,h=>by
  obtain⟨⟨Ep,SV⟩,Bw,uv⟩:=he
  simp only [wg] at h
  split at h
  rotate_left
  ·cases h
  rename_i hs
  split at h
  ·rename_i hq
   cases h
   have yd:k=k':=wC hs hq
   obtain⟨u,hu⟩:=X5.1 hc
   refine⟨by simp [iu,hs,hq],.inr ⟨0,m.val,m,by simp [place,hq],rfl,?_,?_⟩⟩
   ·subst yd
    rw [wu hu hk,wu hu Ep]
   ·exact⟨⟨hk,hc⟩,hv,uv⟩
  ·rename_i hq
   rw [Xt] at h
   obtain⟨U1,h1,rfl⟩:=h
   obtain⟨h2,h3⟩:=sQ hc hk hv es U1 ms (i+1) uv h1
   refine⟨by simp [iu,hs,hq,h2],?_⟩
   have yk:fN k k'=false:=by simpa using hq
   rcases h3 with⟨h3,h4⟩| ⟨j,u,m',h3,h4,h5,h6⟩
   ·exact .inl ⟨by simp [place,yk,h3],fun b=>⟨⟨Ep,SV⟩,Bw,h4 b⟩⟩
   ·exact .inr ⟨j+1,u,m',by simp [place,yk,h3]; omega,by simpa using h4,h5,⟨⟨Ep,SV⟩,Bw,h6⟩⟩
 | [],_,_::_,_,h,_=>h.elim
 | _::_,_,[],_,h,_=>h.elim
theorem sR {x:AV}(h:x.lq=true):∀k off,x≠.lp k off:=by rintro k off rfl; simp [AV.lq] at h
theorem uC {c:Cx}{Lo:Nat→Prop}{lam:Nat→Nat}{a:Act}(f:Fr L0 c Lo lam ds s a)(hbs:c.base≤c.w.heap.size){t:TypeId}{m k x:AV}{mv kv xv:Value}(hm:SR c L0 Lo lam s.bx m mv)(hk:SR c L0 Lo lam s.bx k kv)(hx:SR c L0 Lo lam s.bx x xv){h':AHeap}
  (h:iv P s.h t m k x=some h'):∃c',(Instr.mapUpdate t mv kv xv).run P c.w = .ok () c'.w∧Ext c Lo c' Lo∧Fr L0 c' Lo lam ds {s with h:=h'} a:=by
 unfold iv at h
 rw [Xs] at h
 obtain⟨d,hd,h⟩:=h
 cases d<;>simp only at h<;>try (cases h; done)
 rename_i kt et
 split at h
 ·cases h
 rename_i jI
 obtain⟨uz,hargs⟩:fO P kt k=true∧x.lq=true:=by
  cases h1:fO P kt k<;>cases h2:x.lq<;>simp [h1,h2] at jI ⊢
 have ye:VR c (un L0 Lo) k kv:=hk.vr (by rintro k0 off rfl; simp [fO] at uz)
 have U2:=hx.vr (sR hargs)
 cases m<;>simp only at h<;>try (cases h; done)
 rename_i id
 rw [Xs] at h
 obtain⟨ob,ho,h⟩:=h
 cases ob with
 | cells cs=>cases h
 | row t cs=>cases h
 | map es=>
 rw [Xt] at h
 obtain⟨qN,hu,rfl⟩:=h
 simp only [SR,VR] at hm
 obtain⟨hi,r,rfl,hr⟩:=hm
 rw [←f.h] at ho
 have hl:Live c.h id:=⟨f.rel.lt _ _ ho,by simp [ho]⟩
 have PG:=hr hl
 subst PG
 obtain⟨kp,clock,h1,h2⟩:=f.rel.obj _ _ ho
 obtain⟨u0,I9,U3⟩:=Ak uz
 obtain⟨hf,hp⟩:=sQ (by simp [I9]) ye U2 es qN kp.toList 0 h2 hu
 have Er:=va uz ye c.w h2 hf
 have JP:=mW (P:=P) false 9998 uz ye c.w
 have hget:(getObj (c.β id).1).run P c.w = .ok (.map kp clock) c.w:=MapKept.run_getObj_map h1
 rcases hp with⟨hp,sG⟩| ⟨j,u,m,hp,hj,hmk,sG⟩
 ·obtain⟨e',f'⟩:=f.wA hbs ho h1 (qT:=kp.push {key:=kv,val:=xv,born:=clock}) (nA:=clock+1) (qN:=qN) (by simpa using sG clock)
  refine⟨_,?_,e',f'⟩
  unfold Instr.mapUpdate
  rw [hp] at Er
  simp only [Sem.run_bind,bp hd,Result.andThen_ok,hget,JP,Er]
  exact MapKept.run_setObj_map _ h1
 ·obtain⟨e',f'⟩:=f.wA hbs ho h1 (qT:=kp.modify j fun e=>{e with key:=kv,val:=xv}) (nA:=clock) (qN:=qN) (by simpa using sG)
  refine⟨_,?_,e',f'⟩
  unfold Instr.mapUpdate
  rw [hp,XS] at Er
  have JX:kp[j]? = some m:=by simpa using hj
  have HQ:(Instr.keyThatStays m.key kv).run P c.w = .ok kv c.w:=by
   rw [hmk]
   unfold Instr.keyThatStays
   rw [wu I9 ye,U3]
   rfl
  simp only [Sem.run_bind,bp hd,Result.andThen_ok,hget,JP,Er,JX,Xx,Yl,HQ]
  exact MapKept.run_setObj_map _ h1
theorem og (hb0:c0.base≤c0.w.heap.size){t:TypeId}{m k x:Operand}(ho:o.op = .mapUpdate t m k x∨o.op = .insert t m k x)(ry:o.dst=none){h':AHeap}
  (h:iv P s.h t (bN s.ρ m) (bN s.ρ k) (bN s.ρ x)=some h'):je P L0 c0 n ds o s {s with h:=h'}:=by
 rintro a w K Q ⟨hn,c,Lo,lam,rfl,f,e⟩ hK
 obtain⟨c',hr,e',f'⟩:=uC f (jt e hb0) (bA f m) (bA f k) (bA f x) h
 unfold Oper.wp
 have:(execOp a.eval o).run P c.w = .ok .skip c'.w:=by rcases ho with ho | ho<;>simp [execOp,ho,hr]
 rw [this,Oper.upon_skip]
 have JS:a.put o.dst undef=a:=by rw [ry]; rfl
 rw [JS]
 exact hK _ _ ⟨hn,c',Lo,lam,rfl,f',e.trans e'⟩
theorem EE (hb0:c0.base≤c0.w.heap.size)(hd:fP n ds o){t:TypeId}{x:Operand}(ho:o.op = .call {callee:=.builtin .clear,args:=#[x],argTypes:=#[t]}){h':AHeap}
  (h:sv P s.h t (bN s.ρ x)=some h'):je P L0 c0 n ds o s ({s with h:=h'}.set o.dst (.tup [])):=by
 rintro a w K Q ⟨hn,c,Lo,lam,rfl,f,e⟩ hK
 unfold sv at h
 rw [Xs] at h
 obtain⟨d,C5,h⟩:=h
 have hx:=bA f x
 have fin:∀c',(Builtin.clear_ #[t] o.type #[a.eval x]).run P c.w = .ok (.tuple #[]) c'.w→Ext c Lo c' Lo→Fr L0 c' Lo lam ds {s with h:=h'} a→o.wp P a c.w K Q:=by
  intro c' hr e' f'
  unfold Oper.wp
  have:(execOp a.eval o).run P c.w = .ok (.value (.tuple #[])) c'.w:=by
   simp [execOp,ho,resolve,invoke,builtin,hr]
  rw [this,Oper.upon_value]
  exact hK _ _ ⟨(gj _ _ _).trans hn,c',Lo,lam,rfl,f'.set (SR.of (by simp [VR,VRs])) (fun t ht=>by rw [hn]; exact hd t ht),e.trans e'⟩
 cases C0:bN s.ρ x<;>rw [C0] at h hx<;>simp only at h<;>try (cases h; done)
 ·cases h
  simp only [SR,VR] at hx
  refine fin c ?_ (Ext.refl _ _) f
  simp [Builtin.clear_,bp C5,hx]
 ·rename_i id
  rw [Xs] at h
  obtain⟨ob,ho,h⟩:=h
  cases ob with
  | cells cs=>cases h
  | row t cs=>cases h
  | map es=>
  cases h
  simp only [SR,VR] at hx
  obtain⟨hi,r,sc,hr⟩:=hx
  rw [←f.h] at ho
  have hl:Live c.h id:=⟨f.rel.lt _ _ ho,by simp [ho]⟩
  have PG:=hr hl
  subst PG
  obtain⟨kp,clock,h1,h2⟩:=f.rel.obj _ _ ho
  obtain⟨e',f'⟩:=f.wA (jt e hb0) ho h1 (qT:=#[]) (nA:=clock) (qN:=[]) trivial
  refine fin _ ?_ e' f'
  have hget:(getObj (c.β id).1).run P c.w = .ok (.map kp clock) c.w:=MapKept.run_getObj_map h1
  have Al:=MapKept.run_setObj_map (P:=P) (.map #[] clock) h1
  simp [Builtin.clear_,bp C5,sc,hget,Al]
end
end Go.R
namespace Go.R
open Go
section
variable {P:Program}{L0:Nat→Prop}{c0:Cx}{n:Nat}{ds:List Nat}{o:Oper}{s:RS}
theorem lS {w:World}{t t2 ty e:TypeId}{i:TypeInfo}(ht:P.underlying t=some (.slice e))(hi:P.info? e=some i){base:Option Addr}{len cap:Nat}{x:Value}{news:List Value}{m:Nat}(hs:Src P i.size t2 x m news w)(hm:m≤len) :
  (Builtin.copy_ #[t,t2] ty #[.slice base len cap,x]).run P w=match base with | none=>.ok (goInt m) w | some a=>((storeCells a news).run P w).andThen fun _ w'=>.ok (goInt m) w':=by
 have MN:Nat.min m len=m:=Y3 hm
 have hlen:=hs.len w
 have hc:=hs.cells
 have hsz:(sizeOf e).run P w = .ok i.size w:=by simp [sizeOf,typeInfo,hi]
 unfold Builtin.copy_
 cases base with
 | none=>simp [bp ht,hlen,MN,hsz,hc]
 | some a=>simp [bp ht,hlen,MN,hsz,hc,Sem.run_bind]
theorem HR (hb0:c0.base≤c0.w.heap.size)(hd:fP n ds o){t t2:TypeId}{dx sx:Operand}(ho:o.op = .call {callee:=.builtin .copy,args:=#[dx,sx],argTypes:=#[t,t2]}){y:AV}{h':AHeap}
  (h:u3 P s.h t t2 (bN s.ρ dx) (bN s.ρ sx)=some (y,h')):je P L0 c0 n ds o s ({s with h:=h'}.set o.dst y):=by
 rintro a w K Q ⟨hn,c,Lo,lam,rfl,f,e0⟩ hK
 have hbs:=jt e0 hb0
 unfold u3 at h
 rw [Xs] at h
 obtain⟨d,C5,h⟩:=h
 cases d<;>simp only at h<;>try (cases h; done)
 rename_i e
 rw [Xs] at h
 obtain⟨i,hi,h⟩:=h
 rw [Xs] at h
 obtain⟨⟨new,m⟩,hcs,h⟩:=h
 simp only at h
 split at h
 ·cases h
 rename_i hX
 have hX:jR P t2 (bN s.ρ sx)=true:=by simpa using hX
 have SW:∀st,bN s.ρ sx = .str st→P.underlying t2=some .string:=by
  intro st hst
  rw [hst] at hX
  unfold jR at hX
  simp only at hX
  split at hX
  ·assumption
  ·cases hX
 have pP:(∀st,bN s.ρ sx≠.str st)→∃e',P.underlying t2=some (.slice e'):=by
  intro hne
  unfold jR at hX
  split at hX
  ·rename_i st hst; exact absurd hst (hne st)
  ·split at hX
   ·rename_i e' he; exact⟨e',he⟩
   ·cases hX
 have hk:(∃e',P.underlying t2=some (.slice e'))∨P.underlying t2=some .string:=by
  by_cases hst:∃st,bN s.ρ sx = .str st
  ·obtain⟨st,hst⟩:=hst; exact .inr (SW st hst)
  ·exact .inl (pP fun st PH=>hst ⟨st,PH⟩)
 obtain⟨news,hS,hv⟩:=pO f (bA f sx) hk SW pP hcs
 have xS:=bA f dx
 have fin:∀c',(Builtin.copy_ #[t,t2] o.type #[a.eval dx,a.eval sx]).run P c.w = .ok (goInt m) c'.w→Ext c Lo c' Lo→Fr L0 c' Lo lam ds {s with h:=h'} a→y = .int .i64 m→o.wp P a c.w K Q:=by
  intro c' hr e' f' hy
  unfold Oper.wp
  have:(execOp a.eval o).run P c.w = .ok (.value (goInt m)) c'.w:=by
   simp [execOp,ho,resolve,invoke,builtin,hr]
  rw [this,Oper.upon_value]
  exact hK _ _ ⟨(gj _ _ _).trans hn,c',Lo,lam,rfl,f'.set (SR.of (by subst hy; simp [VR,goInt])) (fun t ht=>by rw [hn]; exact hd t ht),e0.trans e'⟩
 cases C0:bN s.ρ dx<;>rw [C0] at h xS<;>simp only at h<;>try (cases h; done)
 ·split at h
  rotate_left
  ·cases h
  rename_i sa
  cases h
  simp only [SR,VR] at xS
  obtain⟨ad,xS⟩:∃ad:Option Addr,a.eval dx = .slice ad 0 0:=⟨none,xS⟩
  refine fin c ?_ (Ext.refl _ _) f (by rw [sa]; rfl)
  rw [xS,lS C5 hi hS (by omega)]
  cases ad with
  | none=>rfl
  | some ad=>
   have:news=[]:=Ya (by rw [hS.newsLen,sa]; simp)
   subst this
   rfl
 ·rename_i id off len iL
  split at h
  ·rename_i hid
   split at h
   rotate_left
   ·cases h
   rename_i sa
   cases h
   simp only [SR,VR] at xS
   rcases xS with⟨_,_,_,ad,xS⟩| xS
   rotate_left
   ·exact absurd hid xS.1
   refine fin c ?_ (Ext.refl _ _) f (by rw [sa]; rfl)
   rw [xS,lS C5 hi hS (by omega)]
   cases ad with
   | none=>rfl
   | some ad=>
    have:news=[]:=Ya (by rw [hS.newsLen,sa]; simp)
    subst this
    rfl
  rename_i ku
  rw [Xs] at h
  obtain⟨ob,hob,h⟩:=h
  cases ob with
  | map es=>cases h
  | row t cs=>cases h
  | cells cs=>
  simp only at h
  split at h
  rotate_left
  ·cases h
  rename_i hh
  obtain⟨U4,MO,hoff⟩:=hh
  cases h
  simp only [SR,VR] at xS
  rcases xS with xS | ⟨_,hid,ad,cap,xS,hlc,Et,hlive⟩
  ·exact absurd xS.1 ku
  rw [←f.h] at hob
  have hl:Live c.h id:=⟨f.rel.lt _ _ hob,by simp [hob]⟩
  obtain⟨q,hp,hq,hc⟩:=f.rel.obj _ _ hob
  have hnl:=hS.newsLen
  have hvl:=hv.length
  have hr:=lS (ty:=o.type) C5 hi hS MO (base:=ad) (cap:=cap)
  by_cases ha:ad=some ⟨(c.β id).1,(c.β id).2+off,none⟩
  ·subst ha
   simp only at hr
   have hst:=lQ (P:=P) hp.mz (base:=(c.β id).2) (off:=off) (vs:=news) (by omega) hS.one
   rw [hst] at hr
   simp only [Result.andThen_ok] at hr
   obtain⟨q1,q2,q3,q4⟩:=gU news (c.β id).1 ((c.β id).2+off) c.w
   have Ae:iy c (c.β id).1 q:=hp
   obtain⟨C,ML,hb,Af⟩:=hp
   obtain⟨C',g1,g2,g3⟩:=fD news (c.β id).1 ((c.β id).2+off) c.w C ML (0,0) hb (by omega)
   obtain⟨e',f'⟩:=f.upd (w':=c.w.setCells (c.β id).1 ((c.β id).2+off) news) (β':=c.β) (h':=s.h.put id (.cells (du cs off new))) id (.cells (du cs off new))
    (by rw [f.h]; exact Steady.put _ _ _) (by rw [←f.h]; exact Yw hl.1) (by simp [AHeap.put,beq_nat]) (fun nY h1=>.inr ⟨by rw [f.h]; simp [AHeap.put,beq_nat,h1],rfl⟩) (fun _=>⟨hl,rfl⟩) (.inr ⟨id,hl,rfl,.inl rfl⟩)
    (fun _=>by simp only [Cx.len,World.shape?,g1,hb,Xx,Yl,g2])
    (fun b _ hne=>dT _ _ _ _ _ hne) (fun b _ hne=>dT _ _ _ _ _ hne) (by rw [q1]; exact Xv _) hbs q2 q3 q4
    (fun ee=>⟨q,Ae.setCells (by omega) _ _ _,by rw [ja]; exact hq,jH Ae.mz hc hv hS.one (by omega) (by omega) ee rfl⟩)
   refine fin _ ?_ e' f' rfl
   rw [xS]
   exact hr
  ·have hz:new=[]∧m=0∧news=[]:=by
    rcases hlive hl with⟨h1,_⟩| h1
    ·exact absurd h1 ha
    ·have h0:m=0:=by omega
     have h2:news=[]:=Ya (by rw [hnl,h0]; simp)
     subst h2
     exact⟨Ya (by simpa using hvl),h0,rfl⟩
   obtain⟨rfl,rfl,rfl⟩:=hz
   have mY:du cs off []=cs:=by simp [du]
   rw [mY] at *
   obtain⟨e',f'⟩:=f.upd (w':=c.w) (β':=c.β) (h':=s.h.put id (.cells cs)) id (.cells cs)
    (by rw [f.h]; exact Steady.put _ _ _) (by rw [←f.h]; exact Yw hl.1) (by simp [AHeap.put,beq_nat]) (fun nY h1=>.inr ⟨by rw [f.h]; simp [AHeap.put,beq_nat,h1],rfl⟩) (fun _=>⟨hl,rfl⟩) (.inr ⟨id,hl,rfl,.inl rfl⟩)
    (fun _=>rfl) (fun b _ hne=>rfl) (fun b _ hne=>rfl) (Xv _) hbs rfl rfl rfl
    (fun ee=>ru.ext ee ⟨q,hp,hq,hc⟩ rfl)
   refine fin _ ?_ e' f' rfl
   rw [xS,hr]
   cases ad<;>rfl
end
end Go.R
namespace Go.R
open Go
section
variable {P:Program}{L0:Nat→Prop}{c0:Cx}{n:Nat}{ds:List Nat}{o:Oper}{s:RS}
theorem pQ {e:TypeId}(h:CS P e=true):P.underlying e=some (.int .u8)∧dZ P e=some 1:=by
 unfold CS at h
 simp only [Xw,beq_iff_eq] at h
 obtain⟨h1,h2⟩:=h
 refine⟨?_,h2⟩
 split at h1
 ·assumption
 ·cases h1
theorem BA {c:Cx}{L:Nat→Prop}:∀{cs:List AV} {l:List UInt8} {vs:List Value},Hs cs=some l→VRs c L cs vs→∃xs:List Int,vs=xs.map (Value.int .u8)∧l=xs.map fun n=>UInt8.ofNat n.toNat
 | [],l,[],h,_=>by simp only [Hs,Xu] at h; subst h; exact⟨[],rfl,rfl⟩
 | x::cs,l,v::vs,h,hv=>by
  unfold Hs at h
  split at h
  ·rename_i heq; cases heq
  ·rename_i n xs heq
   cases heq
   rw [Xt] at h
   obtain⟨l',h1,rfl⟩:=h
   obtain⟨ys,rfl,rfl⟩:=BA h1 hv.2
   have h2:=hv.1
   simp only [VR] at h2
   subst h2
   exact⟨n::ys,rfl,rfl⟩
  ·cases h
 | [],_,_::_,_,h=>h.elim
 | _::_,_,[],_,h=>h.elim
theorem wD (xs:List Int):strOfNums xs=⟨(xs.map fun n=>UInt8.ofNat n.toNat).toArray⟩:=rfl
theorem yl {w:World}{src dst e:TypeId}{v:Value}{m:Nat}{xs:List Int}(hs:P.underlying src=some (.slice e))(he:P.underlying e=some (.int .u8))(hd:P.underlying dst=some .string)
  (hS:Src P 1 src v m (xs.map (Value.int .u8)) w) (hv:∃a cap,v = .slice a m cap):(convert src dst v).run P w = .ok (.string (strOfNums xs)) w:=by
 obtain⟨a,cap,rfl⟩:=hv
 have hc:=hS.cells
 have hl:=hS.newsLen
 cases a with
 | none=>
  have:xs=[]:=by
   simp [Builtin.firstCells] at hc
   cases xs with
   | nil=>rfl
   | cons x xs=>simp at hc
  subst this
  exact run_convert_bytes_nil w src e hs he m cap dst hd
 | some a=>
  rw [run_convert_bytes_string w src dst e (some a) m cap hs he hd]
  have h1:(loadCells a m).run P w = .ok (xs.map (Value.int .u8)).toArray w:=by simpa [Builtin.firstCells] using hc
  rw [run_bytesToString w a m cap xs h1,foldl_push_bytes]
  simp [strOfNums,ByteArray.empty,ByteArray.emptyWithCapacity]
  rfl
theorem uD {c:Cx}{Lo:Nat→Prop}{lam:Nat→Nat}{x:AV}{v:Value}{h:AHeap}{size m:Nat}{new:List AV}(hx:SR c L0 Lo lam s.bx x v)(hc:dF h size x=some (new,m))(hne:∀st,x≠.str st):∃a cap,v = .slice a m cap:=by
 unfold dF at hc
 cases x<;>simp only at hc<;>try (cases hc; done)
 ·exact absurd rfl (hne _)
 ·cases hc
  simp only [SR,VR] at hx
  subst hx
  exact⟨none,0,rfl⟩
 ·split at hc
  ·cases hc
   simp only [SR,VR] at hx
   obtain⟨a,cap,rfl,_⟩:=hx
   exact⟨a,cap,rfl⟩
  ·cases hc
 ·split at hc
  ·split at hc
   ·cases hc
    simp only [SR,VR] at hx
    rename_i hid _
    rcases hx with⟨_,_,_,a,rfl⟩| hx
    ·exact⟨a,0,rfl⟩
    ·exact absurd hid hx.1
   ·cases hc
  rename_i ku
  rw [Xs] at hc
  obtain⟨ob,_,hc⟩:=hc
  cases ob with
  | map es=>cases hc
  | row t cs=>cases hc
  | cells cs=>
   simp only at hc
   split at hc
   ·cases hc
    simp only [SR,VR] at hx
    rcases hx with hx | ⟨_,_,a,cap,rfl,_⟩
    ·exact absurd hx.1 ku
    exact⟨a,cap,rfl⟩
   ·cases hc
theorem bytes_VRs {c:Cx}{L:Nat→Prop}:∀l:List UInt8,VRs c L (l.map fun b=>AV.int .u8 b.toNat) (l.map fun b=>Value.int .u8 b.toNat)
 | []=>trivial
 | b::l=>⟨by simp [VR],bytes_VRs l⟩
theorem wE {w:World}{b o k:Nat}{C:Array Value}{e:TypeId}{fr:Nat × Nat}(hb:w.heap[b]? = some (.cells C e fr))(ho:C.size≤o)(hk:k≠0) :
  (∀b',iw w (w.freeze ⟨b,o,none⟩ k) b')∧(∀b',b'≠b→(w.freeze ⟨b,o,none⟩ k).heap[b']? = w.heap[b']?)∧(w.freeze ⟨b,o,none⟩ k).heap.size=w.heap.size∧(w.freeze ⟨b,o,none⟩ k).os=w.os∧(w.freeze ⟨b,o,none⟩ k).tape=w.tape∧(w.freeze ⟨b,o,none⟩ k).output=w.output:=by
 unfold World.freeze
 rw [if_neg hk]
 have hlt:=(X0.1 hb).1
 refine⟨fun b'=>?_,fun b' hne=>by simp [Yz,YK hne],by simp,rfl,rfl,rfl⟩
 by_cases hne:b'=b
 ·subst hne
  obtain⟨lo,hi⟩:=fr
  refine .inr ⟨C,e,lo,hi,(if lo==hi then (o,o+k) else (min lo o,max hi (o+k))).1,(if lo==hi then (o,o+k) else (min lo o,max hi (o+k))).2,hb,?_,?_⟩
  ·simp [Yz,hb]
  ·intro h
   by_cases PI:lo=hi
   ·subst PI; right; simpa using ho
   ·have:(lo==hi)=false:=by simpa using PI
    right
    simp only [this,XJ,if_false]
    rcases h with h | h
    ·exact absurd h PI
    ·exact Nat.le_min.2 ⟨h,ho⟩
 ·exact .inl (by simp [Yz,YK hne])
theorem Am (hb0:c0.base≤c0.w.heap.size)(hd:fP n ds o){src dst:TypeId}{x:Operand}(ho:o.op = .convert src dst x){y:AV}(h:gS P s.h src dst (bN s.ρ x)=some y):je P L0 c0 n ds o s (s.set o.dst y):=by
 have hex:∀(a:Act) (w w':World) v,(convert src dst (a.eval x)).run P w = .ok v w'→(execOp a.eval o).run P w = .ok (.value v) w':=by
  intro a w w' v hr; simp [execOp,ho,hr]
 unfold gS at h
 split at h
 ·rename_i e hs zO
  split at h
  rotate_left
  ·cases h
  rename_i hu
  obtain⟨he,hsz⟩:=pQ hu
  rw [Xs] at h
  obtain⟨⟨cs,m⟩,hcs,h⟩:=h
  rw [Xt] at h
  obtain⟨l,hl,rfl⟩:=h
  by_cases hst:∃st,bN s.ρ x = .str st
  ·
   obtain⟨st,hst⟩:=hst
   refine fk hd fun a c Lo lam f hn=>?_
   have hx:=bA f x
   rw [hst] at hx hcs
   simp only [SR,VR] at hx
   simp only [dF,if_true,Xu,Xz] at hcs
   obtain⟨rfl,rfl⟩:=hcs
   refine⟨_,hex _ _ _ (.string st) ?_,?_⟩
   ·simp [convert,run_underlying hs,run_underlying zO,hx]
   ·have:∀(l0 l1:List UInt8),Hs (l0.map fun b=>AV.int .u8 b.toNat)=some l1→l1=l0:=by
     intro l0
     induction l0 with
     | nil=>intro l1 h; simp [Hs] at h; exact h
     | cons b l0 ih=>
      intro l1 h
      simp only [XN,Hs,Xt] at h
      obtain⟨l2,h2,rfl⟩:=h
      rw [ih l2 h2]
      simp
    rw [this _ _ hl]
    simp [SR,VR]
  ·refine fk hd fun a c Lo lam f hn=>?_
   have hne:∀st,bN s.ρ x≠.str st:=fun st h=>hst ⟨st,h⟩
   have hx:=bA f x
   obtain⟨news,hS,hv⟩:=pO f hx (.inl ⟨e,hs⟩) (fun st h=>absurd h (hne st)) (fun _=>⟨e,hs⟩) hcs
   obtain⟨xs,rfl,rfl⟩:=BA hl hv
   exact⟨_,hex _ _ _ _ (yl hs he zO hS (uD hx hcs hne)),by simp [SR,VR,wD]⟩
 ·rename_i e hs zO
  cases C0:bN s.ρ x<;>rw [C0] at h<;>simp only at h<;>try (cases h; done)
  rename_i st
  split at h
  rotate_left
  ·cases h
  rename_i hu
  obtain⟨he,hsz⟩:=pQ hu
  cases h
  refine sM hb0 hd (fun a c Lo lam f hn hbs=>?_) (by rintro k off h; cases h)
  have hx:=bA f x
  rw [C0] at hx
  simp only [SR,VR] at hx
  have hr:=run_bytes_of_string c.w src dst e st hs zO he
  rw [←hx] at hr
  refine⟨_,_,hex _ _ _ _ hr,fun b hb=>.inl (alloc_old c.w.drew _ (show b<c.w.heap.size from hb)),fun id hl=>alloc_old c.w.drew _ (show (c.β id).1<c.w.heap.size from f.rel.block hl),fun b hb=>alloc_old c.w.drew _ (show b<c.w.heap.size by omega),by show c.w.heap.size≤(c.w.heap.push _).size; simp,rfl,rfl,rfl,fun e'=>?_⟩
  simp only [VR]
  refine⟨_,_,rfl,grownCap_ge c.w,by simp,.inl rfl,?_⟩
  refine .inr ⟨c.w.heap.size,0,rfl,EB f.rel rfl rfl,by simp,?_⟩
  refine Cells.of_vals (bytes_VRs st.data.toList) (fun i hi=>?_) (fun v hv=>by obtain⟨b,_,rfl⟩:=XQ.1 hv; rfl)
  have lu:i<st.data.size:=by simpa using hi
  have:(World.alloc c.w.drew (.cells (bytesRow st (grownCap c.w st.size 0 e)) e ((bytesRow st (grownCap c.w st.size 0 e)).size,(bytesRow st (grownCap c.w st.size 0 e)).size+1))).heap[c.w.heap.size]? = some (.cells (bytesRow st (grownCap c.w st.size 0 e)) e ((bytesRow st (grownCap c.w st.size 0 e)).size,(bytesRow st (grownCap c.w st.size 0 e)).size+1)):=ib c.w.drew _
  rw [cell_of_block this]
  simp [bytesRow,Array.getElem?_append,lu]
  intro hge
  have:st.size=st.data.size:=rfl
  omega
 ·rename_i e0 e hs zO
  cases C0:bN s.ρ x<;>rw [C0] at h<;>try (cases h; done)
  rename_i cs m ex
  cases ex
  ·cases h
  simp only at h
  split at h
  rotate_left
  ·cases h
  rename_i hu
  simp only [Xw,beq_iff_eq,decide_eq_true_eq] at hu
  obtain⟨⟨U5,hu⟩,jg⟩:=hu
  subst U5
  obtain⟨he,hsz⟩:=pQ hu
  cases h
  refine sM hb0 hd (fun a c Lo lam f hn hbs=>?_) (by rintro k off h; cases h)
  have hx:=bA f x
  rw [C0] at hx
  have HS:=hx.vr (by rintro k off h; cases h)
  simp only [SR,VR] at hx
  obtain⟨ad,cap,sc,h1,h2,_,h3⟩:=hx
  rcases h3 with rfl | ⟨b,off,rfl,I5,hbb,hc⟩
  ·simp at jg
  have hlt:b<c.w.heap.size:=by
   cases cs with
   | nil=>simp at jg
   | cons x cs=>exact jE hc
  have mY:∃C e' fr,c.w.heap[b]? = some (.cells C e' fr):=by
   cases cs with
   | nil=>simp at jg
   | cons x cs=>
    obtain⟨⟨v,hv,_⟩,_⟩:=hc
    unfold World.cell? at hv
    split at hv
    ·exact⟨_,_,_,by assumption⟩
    ·cases hv
  obtain⟨C,e',fr,hb⟩:=mY
  obtain⟨k1,k2,k3,k4,k5,k6⟩:=wE (k:=1) hb (Xv C.size) (by decide)
  refine⟨c.w.freeze ⟨b,C.size,none⟩ 1,a.eval x,hex _ _ _ _ ?_,fun b' _=>k1 b',fun id hl=>k2 _ (I5.1 id hl),fun b' zM=>k2 b' (by have:=hbb trivial; omega),by rw [k3]; exact Xv _,k4,k5,k6,fun ML=>VR.ext ML _ _ HS⟩
  rw [sc]
  have U6:c.w.shape? b=some (e',C.size):=by simp [World.shape?,hb]
  simp [convert,run_underlying zO,run_underlying he,markStringish,U6]
 ·rw [Xs] at h
  obtain⟨v,hv,h⟩:=h
  rw [Xs] at h
  obtain⟨r,hr,h⟩:=h
  refine fk hd fun a c Lo lam f hn=>?_
  have hx:=kq hv ((bA f x).vr (kr hv))
  exact⟨r,hex _ _ _ _ (by rw [hx]; exact jT _ hr),SR.of (mA h)⟩
theorem dC {op:BinOp}{t:TypeId}{x y:Operand}{u v:Value}(h:(∀a b,u≠.agg a∨v≠.agg b)∧u≠.nilIface)(w:World):(eqGuard op t x y u v).run P w = .ok () w:=by
 obtain⟨h1,h2⟩:=h
 unfold eqGuard
 cases op<;>first | rfl | skip
 all_goals
  simp only [Bool.not_true,XJ,if_false]
  split
  ·exact absurd rfl h2
  ·rename_i a b; rcases h1 a b with h3 | h3<;>exact absurd rfl h3
  ·rfl
theorem An {x:AV}{u:Value}(h:x.fu=some u):(∀a,u≠.agg a)∧u≠.nilIface:=by
 unfold AV.fu at h
 split at h<;>first | (cases h; done) | (cases h; exact⟨fun _=>(by simp),(by simp)⟩)
theorem C6 {op:BinOp}{a b:ByteArray}{y:AV}(h:zY op a b=some y)(w:World):∃r,(Op.stringOp op a b).run P w = .ok r w∧∀(c:Cx) (L:Nat→Prop),VR c L y r:=by
 have hl:∀z:ByteArray,z.toList=z.data.toList:=fun z=>ByteArray.toList_eq z
 unfold zY at h
 unfold Op.stringOp
 simp only [hl]
 cases op<;>simp only at h<;>try (cases h; done)
 ·split at h
  rotate_left
  ·cases h
  rename_i hsz
  cases h
  refine⟨.string (a++b),?_,fun c L=>by simp only [VR]⟩
  have h1:¬(((a.size+b.size:Nat):Int) > IntKind.i64.max):=by
   have:IntKind.i64.max=9223372036854775807:=by decide
   rw [this]; omega
  simp only [h1,if_false]
  rfl
 all_goals (cases h; exact⟨_,rfl,fun c L=>by simp only [VR]⟩)
theorem mB {op:BinOp}{pC:Bool}(h:zZ op=some pC):(op = .eql∧pC=true)∨(op = .neq∧pC=false):=by
 unfold zZ at h
 split at h<;>cases h
 ·exact .inl ⟨rfl,rfl⟩
 ·exact .inr ⟨rfl,rfl⟩
theorem nB {t:TypeId}(ht:∃q,P.underlying t=some (.pointer q)){a:Addr}{op:BinOp}{pC:Bool}(h:zZ op=some pC)(w:World) :
  (binOp op t (.pointer (some a)) (.pointer none)).run P w = .ok (.bool (!pC)) w∧(binOp op t (.pointer none) (.pointer (some a))).run P w = .ok (.bool (!pC)) w:=by
 obtain⟨q,hq⟩:=ht
 have e1:(Op.equal t (.pointer (some a)) (.pointer none)).run P w = .ok false w:=by
  unfold Op.equal Op.maxDepth
  unfold Op.equalIn
  simp [bp hq]
 have e2:(Op.equal t (.pointer none) (.pointer (some a))).run P w = .ok false w:=by
  unfold Op.equal Op.maxDepth
  unfold Op.equalIn
  simp [bp hq]
 rcases mB h with⟨rfl,rfl⟩| ⟨rfl,rfl⟩
 ·constructor
  ·show ((do pure (.bool (←Op.equal t (.pointer (some a)) (.pointer none)))):Sem Value).run P w=_
   simp [e1]
  ·show ((do pure (.bool (←Op.equal t (.pointer none) (.pointer (some a))))):Sem Value).run P w=_
   simp [e2]
 ·constructor
  ·show ((do pure (.bool (!(←Op.equal t (.pointer (some a)) (.pointer none))))):Sem Value).run P w=_
   simp [e1]
  ·show ((do pure (.bool (!(←Op.equal t (.pointer none) (.pointer (some a)))))):Sem Value).run P w=_
   simp [e2]
theorem om {t:TypeId}(ht:∃q,P.underlying t=some (.slice q)){ad:Option Addr}(hs:ad.isSome=true){m cap:Nat}{op:BinOp}{pC:Bool}(h:zZ op=some pC)(w:World) :
  (binOp op t (.slice ad m cap) (.slice none 0 0)).run P w = .ok (.bool (!pC)) w:=by
 obtain⟨q,hq⟩:=ht
 obtain⟨a,rfl⟩:=X5.1 hs
 have e1:(Op.equal t (.slice (some a) m cap) (.slice none 0 0)).run P w = .ok false w:=by
  unfold Op.equal Op.maxDepth
  unfold Op.equalIn
  simp [bp hq]
 rcases mB h with⟨rfl,rfl⟩| ⟨rfl,rfl⟩
 ·show ((do pure (.bool (←Op.equal t (.slice (some a) m cap) (.slice none 0 0)))):Sem Value).run P w=_
  simp [e1]
 ·show ((do pure (.bool (!(←Op.equal t (.slice (some a) m cap) (.slice none 0 0))))):Sem Value).run P w=_
  simp [e1]
theorem EF (hd:fP n ds o){op:BinOp}{t t2:TypeId}{x y:Operand}(ho:o.op = .binOp op t x y t2){z:AV}(h:lL P op t (bN s.ρ x) (bN s.ρ y)=some z):je P L0 c0 n ds o s (s.set o.dst z):=by
 refine fk hd fun a c Lo lam f hn=>?_
 have hx:=bA f x
 have hy:=bA f y
 have hex:∀v,(eqGuard op t x y (a.eval x) (a.eval y)).run P c.w = .ok () c.w→(binOp op t (a.eval x) (a.eval y)).run P c.w = .ok v c.w→(execOp a.eval o).run P c.w = .ok (.value v) c.w:=by
  intro v h1 h2; simp [execOp,ho,h1,h2]
 unfold lL at h
 split at h
 ·rename_i p q hp hq
  rw [hp] at hx; rw [hq] at hy
  simp only [SR,VR] at hx hy
  obtain⟨r,hr,hv⟩:=C6 (P:=P) h c.w
  refine⟨r,hex _ (dC ⟨fun _ _=>.inl (by rw [hx]; simp),by rw [hx]; simp⟩ _) ?_,SR.of (hv _ _)⟩
  rw [hx,hy]
  unfold binOp
  simpa using hr
 ·rename_i p q hp hq
  rw [hp] at hx; rw [hq] at hy
  simp only [SR,VR] at hx hy
  obtain⟨_,ad,sc,_⟩:=hx
  rw [Xs] at h
  obtain⟨pC,rz,h⟩:=h
  split at h
  rotate_left
  ·cases h
  rename_i ht
  cases h
  refine⟨.bool (!pC),hex _ (dC ⟨fun _ _=>.inl (by rw [sc]; simp),by rw [sc]; simp⟩ _) ?_,SR.of (by simp [VR])⟩
  rw [sc,hy]
  exact (nB ⟨_,ht⟩ rz _).1
 ·rename_i p q hp hq
  rw [hp] at hx; rw [hq] at hy
  simp only [SR,VR] at hx hy
  obtain⟨_,ad,OW,_⟩:=hy
  rw [Xs] at h
  obtain⟨pC,rz,h⟩:=h
  split at h
  rotate_left
  ·cases h
  rename_i ht
  cases h
  refine⟨.bool (!pC),hex _ (dC ⟨fun _ _=>.inl (by rw [hx]; simp),by rw [hx]; simp⟩ _) ?_,SR.of (by simp [VR])⟩
  rw [hx,OW]
  exact (nB ⟨_,ht⟩ rz _).2
 ·rename_i p q hp hq
  rw [hp] at hx; rw [hq] at hy
  simp only [SR,VR] at hx hy
  obtain⟨b,off,sc,_⟩:=hx
  rw [Xs] at h
  obtain⟨pC,rz,h⟩:=h
  split at h
  rotate_left
  ·cases h
  rename_i ht
  cases h
  refine⟨.bool (!pC),hex _ (dC ⟨fun _ _=>.inl (by rw [sc]; simp),by rw [sc]; simp⟩ _) ?_,SR.of (by simp [VR])⟩
  rw [sc,hy]
  exact (nB ⟨_,ht⟩ rz _).1
 ·rename_i hp hq
  rw [hp] at hx; rw [hq] at hy
  simp only [SR,VR] at hx hy
  obtain⟨ad,cap,sc,_,_,hs,_⟩:=hx
  replace hs:ad.isSome=true:=hs.elim id fun h=>by cases h.1
  rw [Xs] at h
  obtain⟨pC,rz,h⟩:=h
  split at h
  rotate_left
  ·cases h
  rename_i ht
  cases h
  refine⟨.bool (!pC),hex _ (dC ⟨fun _ _=>.inl (by rw [sc]; simp),by rw [sc]; simp⟩ _) ?_,SR.of (by simp [VR])⟩
  rw [sc,hy]
  exact om ⟨_,ht⟩ hs rz _
 ·rename_i hp hq
  rw [hp] at hx; rw [hq] at hy
  simp only [SR,VR] at hx hy
  rcases hx with⟨hx,_⟩| ⟨_,_,ad,cap,sc,_,hs,_⟩
  ·omega
  rw [Xs] at h
  obtain⟨pC,rz,h⟩:=h
  split at h
  rotate_left
  ·cases h
  rename_i ht
  cases h
  refine⟨.bool (!pC),hex _ (dC ⟨fun _ _=>.inl (by rw [sc]; simp),by rw [sc]; simp⟩ _) ?_,SR.of (by simp [VR])⟩
  rw [sc,hy]
  exact om ⟨_,ht⟩ hs rz _
 ·rename_i p q hp hq
  rw [hp,hq] at h
  rw [hp] at hx; rw [hq] at hy
  have HS:=hx.vr (by rintro k off h; cases h)
  have PJ:=hy.vr (by rintro k off h; cases h)
  rw [Xs] at h
  obtain⟨pC,rz,h⟩:=h
  split at h
  rotate_left
  ·cases h
  rename_i jI
  simp only [Xw,YR] at jI
  obtain⟨⟨⟨h1,h2⟩,h3⟩,h4⟩:=jI
  cases h
  have hk:=u7 (P:=P) 9998 h1 h3 HS PJ c.w
  simp only [VR] at HS PJ
  obtain⟨vx,sc,_⟩:=HS
  obtain⟨vy,OW,_⟩:=PJ
  refine⟨.bool (fN (.agg p) (.agg q)==pC),hex _ ?_ ?_,SR.of (by simp only [VR])⟩
  ·rw [sc,OW]
   rcases mB rz with⟨rfl,rfl⟩| ⟨rfl,rfl⟩<;>simp [eqGuard,h4,program,Sem.run]
  ·rw [sc,OW] at hk ⊢
   rcases mB rz with⟨rfl,rfl⟩| ⟨rfl,rfl⟩
   ·show ((do pure (.bool (←Op.equal t (.agg vx) (.agg vy)))):Sem Value).run P c.w=_
    have My:(Op.equal t (.agg vx) (.agg vy)).run P c.w=_:=hk
    simp [My]
   ·show ((do pure (.bool (!(←Op.equal t (.agg vx) (.agg vy))))):Sem Value).run P c.w=_
    have My:(Op.equal t (.agg vx) (.agg vy)).run P c.w=_:=hk
    simp [My]
 ·rw [Xs] at h
  obtain⟨u,hu,h⟩:=h
  rw [Xs] at h
  obtain⟨v,hv,h⟩:=h
  rw [Xs] at h
  obtain⟨r,hr,h⟩:=h
  have h1:=kq hu (hx.vr (kr hu))
  have h2:=kq hv (hy.vr (kr hv))
  have h3:=An hu
  exact⟨r,hex _ (dC ⟨fun p _=>.inl (by rw [h1]; exact h3.1 p),by rw [h1]; exact h3.2⟩ _) (by rw [h1,h2]; exact jT _ hr),SR.of (mA h)⟩
theorem HT (hd:fP n ds o){op:UnOp}{t:TypeId}{x:Operand}(ho:o.op = .unOp op t x){z:AV}(h:((bN s.ρ x).fu.bind fun a=>(iq P (Op.unary op a)).bind nV)=some z):je P L0 c0 n ds o s (s.set o.dst z):=by
 refine fk hd fun a c Lo lam f hn=>?_
 rw [Xs] at h
 obtain⟨u,hu,h⟩:=h
 rw [Xs] at h
 obtain⟨r,hr,h⟩:=h
 have h1:=kq hu ((bA f x).vr (kr hu))
 refine⟨r,?_,SR.of (mA h)⟩
 have:=jT (P:=P) c.w hr
 rw [←h1] at this
 simp [execOp,ho,this]
theorem BB (hd:fP n ds o){x:Operand}(ho:o.op = .move x∨o.op = .assign x):je P L0 c0 n ds o s (s.set o.dst (bN s.ρ x)):=
 fk hd fun a c Lo lam f hn=>⟨a.eval x,by rcases ho with ho | ho<;>simp [execOp,ho],bA f x⟩
theorem HU (hd:fP n ds o){k x y:Operand}(ho:o.op = .pick k x y){t:Bool}(h:sy (bN s.ρ k)=some t):je P L0 c0 n ds o s (s.set o.dst (if t then bN s.ρ x else bN s.ρ y)):=by
 refine fk hd fun a c Lo lam f hn=>?_
 have hk:=bA f k
 unfold sy at h
 split at h
 ·rename_i b hb
  cases h
  rw [hb] at hk
  simp only [SR,VR] at hk
  refine⟨if t then a.eval x else a.eval y,by simp [execOp,ho,hk,asBool],?_⟩
  cases t
  ·exact bA f y
  ·exact bA f x
 ·cases h
theorem ym (hd:fP n ds o){x:Operand}(ho:o.op = .nilCheck x){z:AV}(h:pH (bN s.ρ x)=some z):je P L0 c0 n ds o s (s.set o.dst z):=by
 refine fk hd fun a c Lo lam f hn=>?_
 have hx:=bA f x
 have hp:(∃ad,a.eval x = .pointer (some ad))∧z=bN s.ρ x:=by
  unfold pH at h
  split at h
  ·rename_i id off heq
   cases h
   rw [heq] at hx
   simp only [SR,VR] at hx
   obtain⟨_,ad,h1,_⟩:=hx
   exact⟨⟨ad,h1⟩,heq.symm⟩
  ·rename_i k off heq
   cases h
   rw [heq] at hx
   simp only [SR] at hx
   exact⟨⟨_,hx.1⟩,heq.symm⟩
  ·rename_i cs off heq
   cases h
   rw [heq] at hx
   simp only [SR,VR] at hx
   obtain⟨b,o',h1,_⟩:=hx
   exact⟨⟨_,h1⟩,heq.symm⟩
  ·cases h
 obtain⟨⟨ad,hp⟩,rfl⟩:=hp
 exact⟨a.eval x,by simp [execOp,ho,hp],hx⟩
theorem mC {c:Cx}{Lo:Nat→Prop}{lam:Nat→Nat}{a:Act}(f:Fr L0 c Lo lam ds s a):∀xs:List Operand,(∀x∈xs,∀k off,bN s.ρ x≠.lp k off)→VRs c (un L0 Lo) (xs.map (bN s.ρ)) (xs.map a.eval)
 | [],_=>trivial
 | x::xs,h=>⟨(bA f x).vr (h x (by simp)),mC f xs fun y hy=>h y (by simp [hy])⟩
theorem C7 {x:AV}(h:x.cE=true):∀k off,x≠.lp k off:=by rintro k off rfl; simp [AV.cE] at h
theorem yn (hd:fP n ds o){Ao:FuncId}{first cap:Array Operand}(ho:o.op = .makeFunc (.func Ao) first cap)(hf:first.isEmpty=true)(hc:(cap.toList.map (bN s.ρ)).all AV.cE=true):je P L0 c0 n ds o s (s.set o.dst (.fn Ao (cap.toList.map (bN s.ρ)))):=by
 refine fk hd fun a c Lo lam f hn=>?_
 have MP:first = #[]:=by simpa using hf
 subst MP
 refine⟨.func (.func Ao) #[] (cap.map a.eval),by simp [execOp,ho,Instr.makeFunc],SR.of ?_⟩
 simp only [VR]
 refine⟨_,rfl,?_⟩
 rw [Array.toList_map]
 refine mC f _ fun x hx=>C7 ?_
 rw [XT] at hc
 exact hc _ (XQ.2 ⟨x,hx,rfl⟩)
theorem Ap (hd:fP n ds o){x:Operand}{i:Nat}(ho:o.op = .extract x i){z:AV}(h:sB (bN s.ρ x) i=some z):je P L0 c0 n ds o s (s.set o.dst z):=by
 refine fk hd fun a c Lo lam f hn=>?_
 have hx:=bA f x
 cases heq:bN s.ρ x<;>rw [heq] at h hx<;>simp only [sB] at h<;>try (cases h; done)
 rename_i vs
 simp only [SR,VR] at hx
 obtain⟨us,sc,Ec⟩:=hx
 obtain⟨v,hv,hr⟩:=Ec.get i z h
 have PK:us[i]? = some v:=by simpa using hv
 exact⟨v,by simp [execOp,ho,sc,Instr.extract,PK],SR.of hr⟩
theorem qU {op:Value→Value→Sem Value}:∀(vs:List Value) (v r:Value) (w:World),kP P op v vs=some r→(vs.foldlM op v).run P w = .ok r w
 | [],v,r,w,h=>by simp only [kP,Xu] at h; subst h; rfl
 | x::xs,v,r,w,h=>by
  simp only [kP,Xs] at h
  obtain⟨u,h1,h2⟩:=h
  simp only [List.foldlM_cons,Sem.run_bind,jT w h1,Result.andThen_ok]
  exact qU xs u r w h2
theorem vf (hd:fP n ds o){b:Builtin}{BC:Array TypeId}{args:Array Operand}(ho:o.op = .call {callee:=.builtin b,args:=args,argTypes:=BC}){op:Value→Value→Sem Value}(hb:(b = .min∧op=Builtin.min2)∨(b = .max∧op=Builtin.max2))
  {x:AV} {xs:List AV} (he:args.toList.map (bN s.ρ)=x::xs) {v u:Value} {vs:List Value} (hx:x.fu=some v) (hxs:iP xs=some vs) (hf:kP P op v vs=some u) {z:AV} (hz:nV u=some z):je P L0 c0 n ds o s (s.set o.dst z):=by
 refine fk hd fun a c Lo lam f hn=>?_
 refine⟨u,?_,SR.of (mA hz)⟩
 have hne:∀q:Operand,∀k off,bN s.ρ q = .lp k off→q∉args.toList:=by
  intro q k off hq hm
  have vg:AV.lp k off∈x::xs:=by rw [←he,←hq]; exact XQ.2 ⟨q,hm,rfl⟩
  rcases X8.1 vg with h1 | h1
  ·exact kr hx k off h1.symm
  ·have:∀(ys:List AV) (us:List Value),iP ys=some us→AV.lp k off∉ys:=by
    intro ys
    induction ys with
    | nil=>intro us _ h; cases h
    | cons y ys ih=>
     intro us hu hm
     simp only [iP,Xs] at hu
     obtain⟨u1,h2,W7,h3,_⟩:=hu
     rcases X8.1 hm with h4 | h4
     ·exact kr h2 k off h4.symm
     ·exact ih _ h3 h4
   exact this _ _ hxs h1
 have Bw:=mC f args.toList (fun q hq k off h=>hne q k off h hq)
 rw [he] at Bw
 have kA:args.toList.map a.eval=v::vs:=pM (xs:=x::xs) (us:=v::vs) (by simp [iP,hx,hxs]) Bw
 have hr:=qU vs v u c.w hf
 have hargs:args.map a.eval=(v::vs).toArray:=by rw [←kA]; apply Y2; simp
 rcases hb with⟨rfl,rfl⟩| ⟨rfl,rfl⟩
 ·simp [execOp,ho,resolve,invoke,builtin,Builtin.min_,hargs,hr]
 ·simp [execOp,ho,resolve,invoke,builtin,Builtin.max_,hargs,hr]
end
end Go.R
namespace Go.R
open Go
def CallOK (P:Program)(cf:CallF):Prop:=
 ∀f args h r h',cf f args h=some (r,h')→
  (∀(vs:Array Value) (w:World),(callFunc f vs).run P w = .ok (.enter f vs) w)∧
  ∀(L0:Nat→Prop) (c:Cx) (vs:List Value),c.h=h→c.base≤c.w.heap.size→HRel c L0→VRs c L0 args vs→
   Calls P f vs.toArray c.w fun e w'=>∃c' v,e = .returned v∧c'.w=w'∧c'.h=h'∧VR c' L0 r v∧HRel c' L0∧Ext c none0 c' none0
section
variable {P:Program}{L0:Nat→Prop}{c0:Cx}{n:Nat}{ds:List Nat}{o:Oper}{s:RS}
theorem Fr.call {c c':Cx}{Lo:Nat→Prop}{lam:Nat→Nat}{a:Act}(f:Fr L0 c Lo lam ds s a)(hr:HRel c' (un L0 Lo))(e:Ext c none0 c' none0) :
  Ext c Lo c' Lo∧Fr L0 c' Lo lam ds {s with h:=c'.h} a:=by
 have zL:∀b,Lo b→b<c.w.heap.size:=fun b hb=>f.rel.bd b (.inr hb)
 have e':Ext c Lo c' Lo:=
  ⟨e.next,e.live,e.size,fun b h1 _ h3=>e.keep b h1 (fun h=>h.elim) h3,e.exact,e.base,e.I3,fun _ h=>h,fun _ h=>.inl h,e.os,e.tape,e.output⟩
 refine⟨e',rfl,hr,fun t=>(f.slot t).ext e' (fun _ _ _=>⟨rfl,fun h=>h⟩),fun k cs hb=>?_,f.inj,f.tidy,f.defers,fun b hb=>by rw [e.base]; exact f.Em b hb⟩
 have ob:=f.box k cs hb
 exact ob.ext e' (e.keep _ ob.plain.lt (fun h=>h.elim) fun id hl he=>f.rel.out id hl (he ▸ .inr ob.own))
theorem HV {cf:CallF}(hcf:CallOK P cf)(hb0:c0.base≤c0.w.heap.size)(hd:fP n ds o){fx:Operand}{args:Array Operand}{BC:Array TypeId}(ho:o.op = .call {callee:=.value fx,args:=args,argTypes:=BC}){Ao:FuncId}{cap:List AV}
  (hf:bN s.ρ fx = .fn Ao cap) (ha:(args.toList.map (bN s.ρ)).all AV.lq=true) {r:AV} {h':AHeap} (h:cf Ao (args.toList.map (bN s.ρ)++cap) s.h=some (r,h')) :
  je P L0 c0 n ds o s ({s with h:=h'}.set o.dst r):=by
 rintro a w K Q ⟨hn,c,Lo,lam,rfl,f,e0⟩ hK
 obtain⟨hin,hcall⟩:=hcf _ _ _ _ _ h
 have PL:=bA f fx
 rw [hf] at PL
 simp only [SR,VR] at PL
 obtain⟨cv,U7,MB⟩:=PL
 have hargs:VRs c (un L0 Lo) (args.toList.map (bN s.ρ)) (args.toList.map a.eval):=by
  refine mC f _ fun x hx=>sR ?_
  rw [XT] at ha
  exact ha _ (XQ.2 ⟨x,hx,rfl⟩)
 have kA:=VRs.append hargs MB
 unfold Oper.wp
 have:(execOp a.eval o).run P c.w = .ok (.enter Ao (args.map a.eval++cv)) c.w:=by
  simp [execOp,ho,resolve,U7,Deferred.ofValue,invoke,hin]
 rw [this,Oper.upon_enter]
 have hc:=hcall (un L0 Lo) c _ f.h (jt e0 hb0) f.rel kA
 have he:(args.toList.map a.eval++cv.toList).toArray=args.map a.eval++cv:=by
  apply Y2; simp
 rw [he] at hc
 refine Calls.mono hc ?_
 rintro e w' ⟨c',v,rfl,rfl,hh,hv,hrel,JY⟩
 obtain⟨e',f'⟩:=f.call hrel JY
 rw [hh] at f'
 exact hK _ _ ⟨(gj _ _ _).trans hn,c',Lo,lam,rfl,f'.set (SR.of hv) (fun t ht=>by rw [hn]; exact hd t ht),e0.trans e'⟩
theorem Option.map_some' {α β:Type}{x:Option α}{g:α→β}{y:β}(h:x.map g=some y):∃z,x=some z∧g z=y:=Xt.1 h
theorem vh {aF:List Nat}{cs:List AV}{s':RS}(h:hU s aF ds o cs=some s'):cs.all AV.cE=true:=by
 unfold hU at h
 split at h
 ·assumption
 ·cases h
theorem JZ {cf:CallF}(hcf:CallOK P cf)(hb0:c0.base≤c0.w.heap.size)(hd:fP n ds o){aF:List Nat}{s':RS}(h:wi P cf aF ds s o=some s'):je P L0 c0 n ds o s s':=by
 have dv:∀{x:Option AV},(x.map fun x=>s.set o.dst x)=some s'→(∀z,x=some z→je P L0 c0 n ds o s (s.set o.dst z))→je P L0 c0 n ds o s s':=by
  intro x hx hz
  obtain⟨z,rfl,rfl⟩:=Option.map_some' hx
  exact hz z rfl
 unfold wi z6 at h
 dsimp only at h
 split at h
 ·rename_i x ho; cases h; exact BB hd (.inl ho)
 ·rename_i x ho; cases h; exact BB hd (.inr ho)
 ·rename_i k x y ho
  obtain⟨t,ht,rfl⟩:=Option.map_some' h
  exact HU hd ho ht
 ·
  rename_i t ho
  rw [Xs] at h
  obtain⟨z,hz,h⟩:=h
  refine vb hb0 hd t h fun a c Lo lam f hn=>?_
  have nZ:=vh h
  obtain⟨v,h1,h2,h3⟩:=C2 (P:=P) (c:=c) hz (HO nZ) (un L0 Lo)
  exact⟨v,by simp [execOp,ho,h1],HN h2,h3⟩
 ·
  rename_i t x ho
  refine vb hb0 hd t h fun a c Lo lam f hn=>?_
  have nZ:(bN s.ρ x).cells.all AV.cE=true:=vh h
  obtain⟨h1,h2⟩:=jf nZ ((bA f x).sb nZ)
  exact⟨a.eval x,by simp [execOp,ho,Instr.box,newVar,newRow],h1,h2⟩
 ·rename_i t ps ho
  refine dv h fun z hz=>fk hd fun a c Lo lam f hn=>?_
  obtain⟨v,hr,hv⟩:=run_build (P:=P) (oc f ps.toList) hz
  refine⟨v,?_,SR.of hv⟩
  have he:ps.map (fun (i,x)=>(i,a.eval x))=(ps.toList.map fun (i,x)=>(i,a.eval x)).toArray:=by
   apply Y2; simp
  simp only [execOp,ho,Sem.run_bind]
  rw [he,hr]
  rfl
 ·rename_i t k ps ho
  rw [Xt] at h
  obtain⟨z,hz,rfl⟩:=h
  exact sN hb0 hd ho aF hz
 ·
  rename_i t x ho
  refine dv h fun z hz=>fk hd fun a c Lo lam f hn=>?_
  obtain⟨r,hr,hv⟩:=sF (P:=P) f (t:=t) (bA f x) hz
  exact⟨r,by simp [execOp,ho,hr],SR.of hv⟩
 ·
  rename_i t x y ho
  split at h
  ·cases h
  rename_i ry
  exact Ew hb0 hd ho (by simpa using ry) h
 ·rename_i ho; exact dv h fun z hz=>ym hd ho hz
 ·rename_i ho; exact dv h fun z hz=>EF hd ho hz
 ·rename_i ho; exact dv h fun z hz=>HT hd ho hz
 ·rename_i ho; exact dv h fun z hz=>Am hb0 hd ho hz
 ·rename_i Ao first cap ho
  split at h
  ·rename_i hh
   refine dv h fun z hz=>?_
   cases hz
   exact yn hd ho hh.1 hh.2
  ·cases h
 ·rename_i ho; cases h; exact Ag hb0 hd ho
 ·rename_i ho; exact wy hb0 hd ho h
 ·
  rename_i t x lo hi mx ho
  refine dv h fun z hz=>fk hd fun a c Lo lam f hn=>?_
  have hs:∀(q:Option Operand) (y:AV),q.map (bN s.ρ)=some y→∃v,q.map a.eval=some v∧SR c L0 Lo lam s.bx y v:=by
   intro q y hq
   obtain⟨u,rfl,rfl⟩:=Option.map_some' hq
   exact⟨_,rfl,bA f u⟩
  have L4:∀(q:Option Operand),q.map (bN s.ρ)=none→q.map a.eval=none:=by
   intro q hq
   simpa using hq
  obtain⟨r,hr,hv⟩:=Ad (P:=P) (bA f x) (hs lo) (L4 lo) (hs hi) (L4 hi) (hs mx) (L4 mx) hz
  exact⟨r,by simp [execOp,ho,hr],SR.of hv⟩
 ·rename_i t x i ho
  refine dv h fun z hz=>fk hd fun a c Lo lam f hn=>?_
  obtain⟨r,hr,hv⟩:=ya (P:=P) (bA f x) hz
  exact⟨r,by simp [execOp,ho,hr],hv⟩
 ·rename_i t x i ho
  refine dv h fun z hz=>fk hd fun a c Lo lam f hn=>?_
  obtain⟨r,hr,hv⟩:=Aa (P:=P) (bA f x) hz
  exact⟨r,by simp [execOp,ho,hr],SR.of hv⟩
 ·rename_i t x i ho
  refine dv h fun z hz=>fk hd fun a c Lo lam f hn=>?_
  obtain⟨r,hr,hv⟩:=xZ (P:=P) (bA f x) (bA f i) hz
  exact⟨r,by simp [execOp,ho,hr],hv⟩
 ·rename_i t x i ho
  refine dv h fun z hz=>fk hd fun a c Lo lam f hn=>?_
  obtain⟨r,hr,hv⟩:=Ab (P:=P) (bA f x) (bA f i) hz
  exact⟨r,by simp [execOp,ho,hr],SR.of hv⟩
 ·rename_i t m k ok ho
  refine dv h fun z hz=>fk hd fun a c Lo lam f hn=>?_
  obtain⟨r,hr,hv⟩:=yf (P:=P) f (bA f m) (bA f k) hz
  exact⟨r,by simp [execOp,ho,hr],SR.of hv⟩
 ·rename_i t m k x ho
  split at h
  ·cases h
  rename_i ry
  obtain⟨h',hh,rfl⟩:=Option.map_some' h
  exact og hb0 (.inl ho) (by simpa using ry) hh
 ·rename_i t m k x ho
  split at h
  ·cases h
  rename_i ry
  obtain⟨h',hh,rfl⟩:=Option.map_some' h
  exact og hb0 (.inr ho) (by simpa using ry) hh
 ·rename_i ho; exact dv h fun z hz=>Ap hd ho hz
 ·
  rename_i b args BC ho
  unfold gg at h
  split at h
  ·rename_i t x hts hargs
   have Aq:BC = #[t]:=by apply Y2; simpa using hts
   obtain⟨q,hq,rfl⟩:∃q,args = #[q]∧bN s.ρ q=x:=by
    cases args with | mk l=>
    rcases l with _ | ⟨q,_ | ⟨q2,l⟩⟩<;>simp at hargs
    exact⟨q,rfl,hargs⟩
   subst Aq hq
   refine dv h fun z hz=>fk hd fun a c Lo lam f hn=>?_
   obtain⟨r,hr,hv⟩:=Es (P:=P) f #[t] rfl (bA f q) hz o.type
   exact⟨r,by simp [execOp,ho,resolve,invoke,builtin,hr],SR.of hv⟩
  ·rename_i t t2 x y hts hargs
   have Aq:BC = #[t,t2]:=by apply Y2; simpa using hts
   obtain⟨q,q2,hq,rfl,rfl⟩:∃q q2,args = #[q,q2]∧bN s.ρ q=x∧bN s.ρ q2=y:=by
    cases args with | mk l=>
    rcases l with _ | ⟨q,_ | ⟨q2,_ | ⟨q3,l⟩⟩⟩<;>simp at hargs
    exact⟨q,q2,rfl,hargs.1,hargs.2⟩
   subst Aq hq
   exact C4 hb0 hd ho h
  ·rename_i t t2 x y hts hargs
   have Aq:BC = #[t,t2]:=by apply Y2; simpa using hts
   obtain⟨q,q2,hq,rfl,rfl⟩:∃q q2,args = #[q,q2]∧bN s.ρ q=x∧bN s.ρ q2=y:=by
    cases args with | mk l=>
    rcases l with _ | ⟨q,_ | ⟨q2,_ | ⟨q3,l⟩⟩⟩<;>simp at hargs
    exact⟨q,q2,rfl,hargs.1,hargs.2⟩
   subst Aq hq
   obtain⟨⟨z,h'⟩,hh,rfl⟩:=Option.map_some' h
   exact HR hb0 hd ho hh
  ·rename_i t x hts hargs
   have Aq:BC = #[t]:=by apply Y2; simpa using hts
   obtain⟨q,hq,rfl⟩:∃q,args = #[q]∧bN s.ρ q=x:=by
    cases args with | mk l=>
    rcases l with _ | ⟨q,_ | ⟨q2,l⟩⟩<;>simp at hargs
    exact⟨q,rfl,hargs⟩
   subst Aq hq
   obtain⟨h',hh,rfl⟩:=Option.map_some' h
   exact EE hb0 hd ho hh
  ·rename_i x xs hargs
   rw [Xs] at h
   obtain⟨v,hv,h⟩:=h
   rw [Xs] at h
   obtain⟨vs,Ec,h⟩:=h
   rw [Xs] at h
   obtain⟨u,hu,h⟩:=h
   exact dv h fun z hz=>vf hd ho (.inl ⟨rfl,rfl⟩) hargs hv Ec hu hz
  ·rename_i x xs hargs
   rw [Xs] at h
   obtain⟨v,hv,h⟩:=h
   rw [Xs] at h
   obtain⟨vs,Ec,h⟩:=h
   rw [Xs] at h
   obtain⟨u,hu,h⟩:=h
   exact dv h fun z hz=>vf hd ho (.inr ⟨rfl,rfl⟩) hargs hv Ec hu hz
  ·cases h
 ·
  rename_i fx args BC ho
  split at h
  ·rename_i Ao cap heq
   split at h
   ·rename_i ha
    obtain⟨⟨r,h'⟩,hh,rfl⟩:=Option.map_some' h
    exact HV hcf hb0 hd ho heq ha hh
   ·cases h
  ·cases h
 ·cases h
end
end Go.R
namespace Go.R
open Go
section
variable {P:Program}{L0:Nat→Prop}{c0:Cx}{n:Nat}{ds:List Nat}{s:RS}
theorem Fr.EG {c:Cx}{Lo:Nat→Prop}{lam:Nat→Nat}{a:Act}(f:Fr L0 c Lo lam ds s a)(id:Nat) :
  Ext c Lo ⟨c.β,c.h.kill id,c.w,c.base⟩ Lo∧Fr L0 ⟨c.β,c.h.kill id,c.w,c.base⟩ Lo lam ds {s with h:=s.h.kill id} a∧(Live c.h id→RO ⟨c.β,c.h.kill id,c.w,c.base⟩ (un L0 Lo) (c.β id).1):=by
 have hg:∀i,(c.h.kill id).get i=if i=id then none else c.h.get i:=fun i=>by
  simp only [AHeap.kill,beq_nat]
  by_cases h:i=id<;>simp [h]
 have mV:∀i,Live (c.h.kill id) i→i≠id∧Live c.h i:=fun i hl=>by
  have h2:=hl.2
  rw [hg] at h2
  by_cases h:i=id
  ·rw [if_pos h] at h2; cases h2
  ·rw [if_neg h] at h2
   obtain⟨o,ho⟩:=X5.1 h2
   exact⟨h,f.rel.lt _ _ ho,h2⟩
 have e:Ext c Lo ⟨c.β,c.h.kill id,c.w,c.base⟩ Lo:=
  ⟨YG _,fun i hi hl=>⟨(mV i hl).2,rfl,rfl⟩,Xv _,fun _ _ _ _=>.inl rfl,fun _ _=>rfl,rfl,fun i hl=>.inr ⟨i,(mV i hl).2,rfl⟩,fun _ h=>h,fun _ h=>.inl h,rfl,rfl,rfl⟩
 refine⟨e,⟨by rw [←f.h],⟨fun i o ho=>?_,fun i o ho=>?_,fun i j hi hj he=>?_,fun i hi=>?_,f.rel.bd,fun i hi=>?_,(Steady.kill c.h id).wf f.rel.ver⟩,fun t=>?_,fun k cs hb=>?_,f.inj,f.tidy,f.defers,f.Em⟩,fun hl=>⟨fun i hi he=>?_,f.rel.out id hl⟩⟩
 ·replace ho:(c.h.kill id).get i=some o:=ho
  rw [hg] at ho
  by_cases h:i=id
  ·rw [if_pos h] at ho; cases ho
  ·rw [if_neg h] at ho; exact Yw (f.rel.lt _ _ ho)
 ·replace ho:(c.h.kill id).get i=some o:=ho
  rw [hg] at ho
  by_cases h:i=id
  ·rw [if_pos h] at ho; cases ho
  ·rw [if_neg h] at ho
   exact (f.rel.obj i o ho).ext e rfl
 ·exact f.rel.inj i j (mV i hi).2 (mV j hj).2 he
 ·exact f.rel.out i (mV i hi).2
 ·exact f.rel.low i (mV i hi).2
 ·exact (f.slot t).ext e (fun _ _ _=>⟨rfl,fun h=>h⟩)
 ·have hb2:=f.box k cs hb
  exact hb2.ext e (.inl rfl)
 ·obtain⟨h1,h2⟩:=mV i hi
  exact h1 (f.rel.inj i id h2 hl he)
theorem HW {c:Cx}{Lo:Nat→Prop}{lam:Nat→Nat}{a:Act}(f:Fr L0 c Lo lam ds s a){x y:AV}{h':AHeap}(h:CV s.h x=some (y,h')) :
  Ext c Lo ⟨c.β,h',c.w,c.base⟩ Lo∧Fr L0 ⟨c.β,h',c.w,c.base⟩ Lo lam ds {s with h:=h'} a∧(∀v,VR c (un L0 Lo) x v→VR ⟨c.β,h',c.w,c.base⟩ (un L0 Lo) y v)∧∀i,Live h' i→Live c.h i:=by
 have same:Ext c Lo ⟨c.β,s.h,c.w,c.base⟩ Lo∧Fr L0 ⟨c.β,s.h,c.w,c.base⟩ Lo lam ds {s with h:=s.h} a∧(⟨c.β,s.h,c.w,c.base⟩:Cx)=c:=by
  have e:(⟨c.β,s.h,c.w,c.base⟩:Cx)=c:=by rw [←f.h]
  rw [e]; exact⟨Ext.refl _ _,f,rfl⟩
 unfold CV at h
 split at h
 ·simp only [Xu,Xz] at h
  obtain⟨rfl,rfl⟩:=h
  obtain⟨h1,h2,h3⟩:=same
  exact⟨h1,h2,fun v hv=>by rw [h3]; exact hv,fun i hi=>by rw [f.h]; exact hi⟩
 cases x with
 | rs id off len iL=>
  simp only at h
  split at h
  ·rename_i hid
   split at h
   rotate_left
   ·cases h
   rename_i hl0
   simp only [Xu,Xz] at h
   obtain⟨rfl,rfl⟩:=h
   obtain⟨h1,h2,h3⟩:=same
   refine⟨h1,h2,fun v hv=>?_,fun i hi=>by rw [f.h]; exact hi⟩
   simp only [VR] at hv ⊢
   rcases hv with⟨_,_,_,a,rfl⟩| hv
   ·exact⟨a,0,rfl,Xv _,fun _=>rfl,.inr ⟨trivial,rfl⟩,.inl trivial⟩
   ·exact absurd hid hv.1
  rename_i ku
  rw [Xs] at h
  obtain⟨ob,ho,h⟩:=h
  cases ob with
  | map es=>cases h
  | row t cs=>cases h
  | cells cs=>
  simp only at h
  split at h
  rotate_left
  ·cases h
  rename_i hle
  simp only [Xu,Xz] at h
  obtain⟨rfl,rfl⟩:=h
  rw [←f.h] at ho
  have hl:Live c.h id:=⟨f.rel.lt _ _ ho,by simp [ho]⟩
  obtain⟨e,f',I5⟩:=f.EG id
  have hb:(⟨c.β,s.h.kill id,c.w,c.base⟩:Cx)=⟨c.β,c.h.kill id,c.w,c.base⟩:=by rw [f.h]
  rw [hb]
  refine⟨e,f',fun v hv=>?_,fun i hi=>?_⟩
  ·simp only [VR] at hv ⊢
   rcases hv with hv | ⟨_,_,a,cap,rfl,h1,h2,h3⟩
   ·exact absurd hv.1 ku
   obtain⟨m,_,_,hc⟩:=f.rel.obj _ _ ho
   refine⟨a,cap,rfl,h1,by simp,.inl h2,?_⟩
   rcases h3 hl with⟨h4,_⟩| h4
   ·exact .inr ⟨_,_,h4,I5 hl,by simp,Cells.move e _ _ _ _ _ (fun i hi=>rfl) ((hc.drop off).take (len*iL))⟩
   ·left
    have hz:len=0:=by omega
    subst hz
    simp
  ·have Ac:=hi.2
   simp only [AHeap.kill,beq_nat] at Ac
   by_cases h:i=id
   ·simp [h] at Ac
   ·simp only [h,decide_false,cond_false] at Ac
    rw [f.h]
    obtain⟨o,L5⟩:=X5.1 Ac
    have:=f.rel.lt i o (by rw [f.h]; exact L5)
    rw [f.h] at this
    exact⟨this,Ac⟩
 | _=>cases h
theorem BD:∀{cs:List AV} {c:Cx} {Lo:Nat→Prop} {lam:Nat→Nat} {a:Act} {s:RS} {ys:List AV} {h':AHeap},Fr L0 c Lo lam ds s a→wo s.h cs=some (ys,h')→
  Ext c Lo ⟨c.β,h',c.w,c.base⟩ Lo∧Fr L0 ⟨c.β,h',c.w,c.base⟩ Lo lam ds {s with h:=h'} a∧(∀b o,Cells c (un L0 Lo) cs b o→Cells ⟨c.β,h',c.w,c.base⟩ (un L0 Lo) ys b o)∧∀i,Live h' i→Live c.h i
 | [],c,Lo,lam,a,s,ys,h',f,h=>by
  cases h
  have e:(⟨c.β,s.h,c.w,c.base⟩:Cx)=c:=by rw [←f.h]
  rw [e]
  exact⟨Ext.refl _ _,f,fun _ _ h=>h,fun i hi=>by rw [f.h]; exact hi⟩
 | x::cs,c,Lo,lam,a,s,ys,h',f,h=>by
  simp only [wo,Xs,Xt] at h
  obtain⟨⟨y,h1⟩,hx,⟨zs,h2⟩,hz,he⟩:=h
  simp only [Xz] at he
  obtain⟨rfl,rfl⟩:=he
  obtain⟨e1,f1,v1,l1⟩:=HW f hx
  obtain⟨e2,f2,v2,l2⟩:=BD f1 hz
  refine⟨e1.trans e2,f2,fun b o hc=>?_,fun i hi=>l1 i (l2 i hi)⟩
  obtain⟨⟨v,q1,q2,q3⟩,hc⟩:=hc
  exact⟨⟨v,q1,q2,VR.ext e2 _ _ (v1 v q3)⟩,v2 _ _ (Cells.move e1 _ _ _ _ _ (fun i hi=>rfl) hc)⟩
theorem vi {h:AHeap}:∀{cs:List AV},cH cs=true→wo h cs=some (cs,h)
 | [],_=>rfl
 | x::cs,hn=>by
  simp only [cH,Xw] at hn
  simp only [wo,CV,hn.1,if_true,Xr,vi hn.2,Xx]
theorem yo {h h':AHeap}{x y:AV}(hz:CV h x=some (y,h')):Steady h h':=by
 unfold CV at hz
 split at hz
 ·cases hz; exact Steady.refl _
 split at hz
 ·split at hz
  ·split at hz
   ·cases hz; exact Steady.refl _
   ·cases hz
  rw [Xs] at hz
  obtain⟨o,_,hz⟩:=hz
  split at hz
  ·split at hz
   ·cases hz; exact Steady.kill _ _
   ·cases hz
  ·cases hz
 ·cases hz
theorem qV:∀{cs ys:List AV} {h h':AHeap},wo h cs=some (ys,h')→Steady h h'
 | [],ys,h,h',hz=>by cases hz; exact Steady.refl _
 | x::cs,ys,h,h',hz=>by
  simp only [wo,Xs,Xt] at hz
  obtain⟨⟨y,h1⟩,hx,⟨zs,h2⟩,hz,he⟩:=hz
  simp only [Xz] at he
  obtain⟨rfl,rfl⟩:=he
  exact (yo hx).trans (qV hz)
theorem BE {c:Cx}{Lo:Nat→Prop}{lam:Nat→Nat}{a:Act}(f:Fr L0 c Lo lam ds s a){k:Nat}{x y:AV}{h':AHeap}(h:km k s.h x=some (y,h')) :
  (∀k off,x≠.lp k off)∧(∀k off,y≠.lp k off)∧∃c',c'.w=c.w∧Ext c Lo c' Lo∧Fr L0 c' Lo lam ds {s with h:=h'} a∧∀v,VR c (un L0 Lo) x v→VR c' (un L0 Lo) y v:=by
 cases k with
 | zero=>
  cases x with
  | nils=>
   simp only [km,Xu,Xz] at h
   obtain⟨rfl,rfl⟩:=h
   refine⟨by simp,by simp,c,rfl,Ext.refl _ _,f,fun v hv=>?_⟩
   simp only [VR] at hv ⊢
   exact⟨none,0,hv,Xv _,fun _=>rfl,.inr ⟨trivial,rfl⟩,.inl trivial⟩
  | fz cs m ex=>
   simp only [km,Xu,Xz] at h
   obtain⟨rfl,rfl⟩:=h
   refine⟨by simp,by simp,c,rfl,Ext.refl _ _,f,fun v hv=>?_⟩
   simp only [VR] at hv ⊢
   obtain⟨a,cap,rfl,h1,h2,hs,hc⟩:=hv
   exact⟨a,cap,rfl,h1,by simp,hs,hc.imp id fun ⟨b,o,ha,hr,hex,hc⟩=>⟨b,o,ha,hr,by simp,hc⟩⟩
  | rs id off len iL=>
   simp only [km] at h
   split at h
   ·rename_i hid
    split at h
    rotate_left
    ·cases h
    rename_i hl0
    simp only [Xu,Xz] at h
    obtain⟨rfl,rfl⟩:=h
    refine⟨by simp,by simp,c,rfl,Ext.refl _ _,f,fun v hv=>?_⟩
    simp only [VR] at hv ⊢
    rcases hv with⟨_,_,_,a,rfl⟩| hv
    ·exact⟨a,0,rfl,Xv _,fun _=>rfl,.inr ⟨trivial,rfl⟩,.inl trivial⟩
    ·exact absurd hid hv.1
   rename_i ku
   rw [Xs] at h
   obtain⟨ob,ho,h⟩:=h
   cases ob with
   | map es=>cases h
   | row t cs=>cases h
   | cells cs=>
   simp only at h
   split at h
   rotate_left
   ·cases h
   rename_i hle
   rw [Xt] at h
   obtain⟨⟨fm,h2⟩,hz,he⟩:=h
   simp only [Xz] at he
   obtain⟨rfl,rfl⟩:=he
   rw [←f.h] at ho
   have hl:Live c.h id:=⟨f.rel.lt _ _ ho,by simp [ho]⟩
   obtain⟨e,f',I5⟩:=f.EG id
   obtain⟨e2,f2,hcs,mV⟩:=BD f' hz
   refine⟨by simp,by simp,⟨c.β,h2,c.w,c.base⟩,rfl,e.trans e2,f2,fun v hv=>?_⟩
   simp only [VR] at hv ⊢
   rcases hv with hv | ⟨_,_,a,cap,rfl,h1,h2,h3⟩
   ·exact absurd hv.1 ku
   obtain⟨m,_,_,hc⟩:=f.rel.obj _ _ ho
   refine⟨a,cap,rfl,h1,by simp,.inl h2,?_⟩
   rcases h3 hl with⟨h4,_⟩| h4
   ·exact .inr ⟨_,_,h4,⟨fun i hi=>(I5 hl).1 i (mV i hi),(I5 hl).2⟩,by simp,hcs _ _ (Cells.move e _ _ _ _ _ (fun i hi=>rfl) ((hc.drop off).take (len*iL)))⟩
   ·left
    have hz0:len=0:=by omega
    subst hz0
    simp [wo] at hz
    exact hz.1
  | _=>simp [km] at h
 | succ k=>
  have key:(x = .nils∨x = .fz [] 0 true)→y = .rs 0 0 0 (k+1)→h'=s.h→(∀k off,x≠.lp k off)∧(∀k off,y≠.lp k off)∧∃c',c'.w=c.w∧Ext c Lo c' Lo∧Fr L0 c' Lo lam ds {s with h:=h'} a∧∀v,VR c (un L0 Lo) x v→VR c' (un L0 Lo) y v:=by
   rintro hx rfl rfl
   refine⟨by rcases hx with rfl | rfl<;>simp,by simp,c,rfl,Ext.refl _ _,f,fun v hv=>?_⟩
   rcases hx with rfl | rfl
   ·simp only [VR] at hv ⊢
    exact .inl ⟨trivial,trivial,trivial,none,hv⟩
   ·simp only [VR] at hv ⊢
    obtain⟨a,cap,rfl,h1,h2,hs,hc⟩:=hv
    have:=h2 trivial
    subst this
    exact .inl ⟨trivial,trivial,trivial,a,rfl⟩
  unfold km at h
  simp only at h
  split at h
  ·simp only [Xu,Xz] at h
   exact key (.inl rfl) h.1.symm h.2.symm
  ·simp only [Xu,Xz] at h
   exact key (.inr rfl) h.1.symm h.2.symm
  ·simp only [Xu,Xz] at h
   obtain⟨rfl,rfl⟩:=h
   exact⟨by simp,by simp,c,rfl,Ext.refl _ _,f,fun v hv=>hv⟩
  ·cases h
theorem Inv.wq {a:Act}{w:World}{p:Nat × Option Nat × Nat}{s':RS}(hi:Inv L0 c0 n ds s a w)(h:wq s p=some s'):Inv L0 c0 n ds s' a w:=by
 obtain⟨hn,c,Lo,lam,rfl,f,e⟩:=hi
 unfold Go.R.wq at h
 split at h
 ·rw [Xt] at h
  obtain⟨⟨y,h'⟩,hz,rfl⟩:=h
  obtain⟨hx,hy,c',hw,e',f',hv⟩:=BE f hz
  refine⟨hn,c',Lo,lam,hw,⟨f'.h,f'.rel,fun t=>?_,f'.box,f'.inj,fun t k off ht he=>?_,f'.defers,f'.Em⟩,e.trans e'⟩
  ·simp only [beq_nat]
   by_cases ht:t=p.1
   ·subst ht
    simp only [decide_true,cond_true]
    exact SR.of (hv _ ((f.slot _).vr hx))
   ·simp only [ht,decide_false,cond_false]
    exact f'.slot t
  ·simp only [beq_nat] at he
   by_cases SX:t=p.1
   ·simp only [SX,decide_true,cond_true] at he
    exact absurd he (hy _ _)
   ·simp only [SX,decide_false,cond_false] at he
    exact f'.tidy t k off ht he
 ·rename_i i hp
  split at h
  rotate_left
  ·cases h
  rename_i cs hcs
  simp only [Xs,Xt] at h
  obtain⟨x,hx,⟨y,h'⟩,hz,rfl⟩:=h
  obtain⟨hx1,hy,c',hw,e',f',hv⟩:=BE f hz
  have Aj:∀k,(bif Yc k p.1 then some (cs.set i y) else s.bx k).isSome=(s.bx k).isSome:=fun k=>by
   simp only [beq_nat]
   by_cases hk:k=p.1
   ·subst hk; simp [hcs]
   ·simp [hk]
  refine⟨hn,c',Lo,lam,hw,⟨f'.h,f'.rel,fun t=>?_,fun k fm hb=>?_,fun k k' h1 h2=>f'.inj k k' (by rw [←Aj]; exact h1) (by rw [←Aj]; exact h2),f'.tidy,f'.defers,f'.Em⟩,e.trans e'⟩
  ·have:=f'.slot t
   unfold SR at this ⊢
   split
   ·rename_i k off he
    rw [he] at this
    simp only at this
    exact⟨this.1,by rw [Aj]; exact this.2⟩
   ·rename_i x' HS
    split at this
    ·rename_i he; exact absurd he (HS _ _)
    ·exact this
  ·simp only [beq_nat] at hb
   by_cases hk:k=p.1
   ·subst hk
    simp only [decide_true,cond_true,Xu] at hb
    subst hb
    have ob:=f.box _ cs hcs
    have PM:=f'.box _ cs hcs
    refine⟨PM.own,by rw [XC]; exact PM.plain,?_⟩
    obtain⟨vs,q1,q2,q3⟩:=ob.cells.vals
    obtain⟨U8,r1,r2,r3⟩:=PM.cells.vals
    have hlen:vs=U8:=by
     apply Yh
     intro j
     by_cases hj:j<cs.length
     ·rw [←q2 j hj,←r2 j hj,hw]
     ·rw [XL (by rw [←q1.length]; omega),XL (by rw [←r1.length]; omega)]
    subst hlen
    obtain⟨u,hu,hr⟩:=VRs.get q1 i x hx
    have Al:VRs c' (un L0 Lo) (cs.set i y) vs:=by
     have:=VRs.set (hv u hr) i r1
     have I4:vs.set i u=vs:=by
      apply Yh
      intro j
      rw [YS]
      by_cases hji:i=j
      ·subst hji
       rw [if_pos rfl,hu]
       have:=(XA.1 hu).1
       simp [this]
      ·rw [if_neg hji]
     rwa [I4] at this
    exact Cells.of_vals Al (fun j hj=>by rw [r2 j (by rw [r1.length]; exact hj)]) r3
   ·simp only [hk,decide_false,cond_false] at hb
    exact f'.box k fm hb
theorem Inv.kR {a:Act}{w:World}:∀{l:List (Nat × Option Nat × Nat)} {s s':RS},Inv L0 c0 n ds s a w→kR s l=some s'→Inv L0 c0 n ds s' a w
 | [],s,s',hi,h=>by cases h; exact hi
 | p::ps,s,s',hi,h=>by
  simp only [Go.R.kR,Xs] at h
  obtain⟨s1,h1,h2⟩:=h
  exact Inv.kR (hi.wq h1) h2
theorem HX {A:cg}{r:Nat}{s:RS}:(s.mU A r).h=s.h:=by
 unfold RS.mU
 split<;>rfl
theorem qW {k:Nat}{h h':AHeap}{x y:AV}(hz:km k h x=some (y,h')):Steady h h':=by
 unfold km at hz
 split at hz
 ·split at hz
  ·cases hz; exact Steady.refl _
  ·split at hz
   ·split at hz
    ·cases hz; exact Steady.refl _
    ·cases hz
   rw [Xs] at hz
   obtain⟨o,_,hz⟩:=hz
   split at hz
   ·split at hz
    ·rw [Xt] at hz
     obtain⟨⟨fm,h2⟩,hz,he⟩:=hz
     simp only [Xz] at he
     obtain⟨rfl,rfl⟩:=he
     exact (Steady.kill _ _).trans (qV hz)
    ·cases hz
   ·cases hz
  ·cases hz; exact Steady.refl _
  ·cases hz
 ·split at hz<;>cases hz<;>exact Steady.refl _
theorem yp {s s':RS}{p:Nat × Option Nat × Nat}(hz:wq s p=some s'):Steady s.h s'.h:=by
 unfold wq at hz
 split at hz
 ·rw [Xt] at hz
  obtain⟨⟨y,h'⟩,hz,rfl⟩:=hz
  exact qW hz
 ·split at hz
  ·simp only [Xs,Xt] at hz
   obtain⟨x,hx,⟨y,h'⟩,hz,rfl⟩:=hz
   exact qW hz
  ·cases hz
theorem lT:∀{l:List (Nat × Option Nat × Nat)} {s s':RS},kR s l=some s'→Steady s.h s'.h
 | [],s,s',h=>by cases h; exact Steady.refl _
 | p::ps,s,s',h=>by
  simp only [kR,Xs] at h
  obtain⟨s1,h1,h2⟩:=h
  exact (yp h1).trans (lT h2)
end
end Go.R
namespace Go.R
open Go
section
variable {P:Program}{L0:Nat→Prop}{c0:Cx}{n:Nat}{ds:List Nat}{o:Oper}{s:RS}
theorem C8 {ops:Array Oper}{c:Cx}{Lo:Nat→Prop}{lam:Nat→Nat}{a:Act}(f:Fr L0 c Lo lam ds s a){b:Bool}(h:gC ops.toList s.ρ o=some b):Region.wanted o (yielded ops a.tmps)=b:=by
 unfold gC at h
 unfold Region.wanted
 split at h
 ·rename_i hg; rw [hg]; cases h; rfl
 ·rename_i j want hg
  rw [hg]
  rw [Xs] at h
  obtain⟨d,hd,h⟩:=h
  have Hu:(ops[j]?).bind (·.dst)=some d:=by simpa using hd
  have hs:=f.slot d
  simp only [yielded,Hu,Xr]
  rw [Array.getD_eq_getD_getElem?] at hs
  split at h
  ·rename_i b' hb
   cases h
   rw [hb] at hs
   simp only [SR,VR] at hs
   cases hq:a.tmps[d]? with
   | none=>rw [hq] at hs; simp [undef] at hs
   | some v=>
    rw [hq] at hs
    simp only [Yl] at hs
    subst hs
    cases b'<;>cases want<;>rfl
  ·rename_i hb
   cases h
   rw [hb] at hs
   simp only [SR,VR] at hs
   obtain⟨vs,hv,_⟩:=hs
   cases hq:a.tmps[d]? with
   | none=>rfl
   | some v=>
    rw [hq] at hv
    simp only [Yl] at hv
    subst hv
    rfl
  ·cases h
theorem yq {cf:CallF}(hcf:CallOK P cf)(hb0:c0.base≤c0.w.heap.size){ops:Array Oper}(J0:ds=ops.toList.filterMap (·.dst))(hd:fP n ds o){aF:List Nat}{s':RS}(h:lM P cf aF ops.toList s o=some s')
  {a:Act} {w:World} {K:Act→World→Prop} {Q:Exit→Act→World→Prop} (hi:Inv L0 c0 n ds s a w) (hK:∀a' w',Inv L0 c0 n ds s' a' w'→K a' w') :
  if Region.wanted o (yielded ops a.tmps) then o.wp P a w K Q else K (a.put o.dst undef) w:=by
 unfold lM at h
 rw [Xs] at h
 obtain⟨b,hb,h⟩:=h
 have PN:=hi
 obtain⟨hn,c,Lo,lam,rfl,f,e⟩:=hi
 rw [C8 f hb]
 cases b with
 | true=>
  simp only [if_true] at h ⊢
  rw [←J0] at h
  exact JZ hcf hb0 hd h a c.w K Q PN hK
 | false=>
  simp only [XJ,if_false,Xu] at h ⊢
  subst h
  exact hK _ _ ⟨(gj _ _ _).trans hn,c,Lo,lam,rfl,f.set (SR.of (by simp [VR,undef,VRs])) (fun t ht=>by rw [hn]; exact hd t ht),e⟩
def vj (n:Nat)(ops:List Oper):Bool:=ops.all fun o=>match o.dst with | some t=>Nat.blt t n | none=>true
theorem yr {ops:List Oper}(h:vj n ops=true){o:Oper}(ho:o∈ops):fP n (ops.filterMap (·.dst)) o:=by
 intro t ht
 unfold vj at h
 rw [XT] at h
 have:=h o ho
 rw [ht] at this
 exact⟨Nat.blt_eq.mp this,List.mem_filterMap.2 ⟨o,ho,ht⟩⟩
theorem BF {cf:CallF}(hcf:CallOK P cf)(hb0:c0.base≤c0.w.heap.size){ops:Array Oper}(J0:ds=ops.toList.filterMap (·.dst))(yh:vj n ops.toList=true){aF:List Nat}{Q:Exit→Act→World→Prop}{s':RS}(hQ:∀a' w',Inv L0 c0 n ds s' a' w'→Q .normal a' w') :
  ∀(l:List Oper) (s:RS),(∀o∈l,o∈ops.toList)→rr P cf aF ops.toList s l=some s'→∀a w,Inv L0 c0 n ds s a w→wpList P ops Q l a w
 | [],s,_,h,a,w,hi=>by
  simp only [rr,Xu] at h
  subst h
  exact wpList_nil (hQ a w hi)
 | o::l,s,hl,h,a,w,hi=>by
  simp only [rr,Xs] at h
  obtain⟨s1,h1,h2⟩:=h
  refine wpList_step fun K hK=>?_
  exact yq hcf hb0 J0 (by rw [J0]; exact yr yh (hl o (by simp))) h1 hi fun a' w' lu=>hK a' w' (BF hcf hb0 J0 yh hQ l s1 (fun o ho=>hl o (by simp [ho])) h2 a' w' lu)
theorem iz {α:Type}(d:α):∀(ks:List Nat) (g:Nat→α) (t:Nat),look d ks (ks.map g) t=if t∈ks then g t else d
 | [],g,t=>rfl
 | k::ks,g,t=>by
  simp only [XN,look,beq_nat,iz d ks g t,X8]
  by_cases h:t=k
  ·subst h; simp
  ·simp [h]
theorem Fr.forget {c:Cx}{Lo:Nat→Prop}{lam:Nat→Nat}{a:Act}(f:Fr L0 c Lo lam ds s a){s2:RS}(hh:s2.h=s.h)(hb:∀k cs,s2.bx k=some cs→s.bx k=some cs)
  (hr:∀t,s2.ρ t = .any∨s2.ρ t=s.ρ t∧∀k off,s.ρ t = .lp k off→k=t∧((s.bx k).isSome=true→(s2.bx k).isSome=true)):Fr L0 c Lo lam [] s2 a:=by
 refine⟨f.h.trans hh.symm,f.rel,fun t=>?_,fun k cs h=>f.box k cs (hb k cs h),fun k k' h h'=>f.inj k k' ?_ ?_,fun t k off _ he=>?_,f.defers,f.Em⟩
 ·rcases hr t with h | ⟨h,h2⟩
  ·rw [h]; exact SR.of (by simp [VR])
  ·rw [h]
   have hs:=f.slot t
   cases hx:s.ρ t<;>rw [hx] at hs<;>try exact hs
   rename_i k off
   simp only [SR] at hs ⊢
   exact⟨hs.1,(h2 k off hx).2 hs.2⟩
 ·obtain⟨cs,hcs⟩:=X5.1 h; rw [hb k cs hcs]; rfl
 ·obtain⟨cs,hcs⟩:=X5.1 h'; rw [hb k' cs hcs]; rfl
 ·rcases hr t with h | ⟨h,h2⟩
  ·rw [h] at he; cases he
  ·exact (h2 k off (h ▸ he)).1
theorem Inv.shut {a:Act}{w:World}(A:cg)(h:Inv L0 c0 n ds s a w):Inv L0 c0 n [] ((s.shut A).open A) a w:=by
 obtain⟨hn,c,Lo,lam,rfl,f,e⟩:=h
 refine⟨hn,c,Lo,lam,rfl,f.forget rfl (fun k cs hk=>?_) (fun t=>?_),e⟩
 ·simp only [RS.shut,St.open,iz] at hk
  split at hk
  ·exact hk
  ·cases hk
 ·simp only [RS.shut,St.open,iz]
  split
  ·unfold xW
   cases hx:s.ρ t<;>simp only<;>try (right; exact⟨trivial,fun k off he=>by cases he⟩)
   rename_i k off
   cases hc:(Yc k t&&Yc off 0&&A.aF.contains k) with
   | false=>left; rfl
   | true=>
    right
    simp only [Xw,beq_nat,decide_eq_true_eq,List.contains_iff_mem] at hc
    refine⟨rfl,fun k' Va he=>?_⟩
    cases he
    refine⟨hc.1.1,fun hs=>?_⟩
    rw [if_pos hc.2]
    exact hs
  ·left; rfl
theorem Inv.mU {a:Act}{w:World}(A:cg)(r:Nat)(h:Inv L0 c0 n ds s a w):Inv L0 c0 n [] ((s.mU A r).open A) a w:=by
 unfold RS.mU
 split
 ·exact h.shut A
 rename_i dl _
 have h2:=h.shut A
 obtain⟨hn,c,Lo,lam,hw,f,e⟩:=h2
 have MA:∀k,(St.open A {vars:=A.keep.map (fun t=>bif (gh r A.dead).contains t then .any else xW A.aF s.ρ t),LX:=A.aF.map (fun k=>bif (gh r A.dead).contains k then none else s.bx k),h:=s.h}).bx k=bif (gh r A.dead).contains k then none else (St.open A (s.shut A)).bx k:=by
  intro k
  simp only [RS.shut,St.open,iz]
  cases (gh r A.dead).contains k<;>simp
 refine⟨hn,c,Lo,lam,hw,f.forget rfl (fun k cs hk=>?_) (fun t=>?_),e⟩
 ·rw [MA] at hk
  cases hc:(gh r A.dead).contains k with
  | true=>rw [hc] at hk; cases hk
  | false=>rw [hc] at hk; exact hk
 ·have hv:(St.open A {vars:=A.keep.map (fun t=>bif (gh r A.dead).contains t then .any else xW A.aF s.ρ t),LX:=A.aF.map (fun k=>bif (gh r A.dead).contains k then none else s.bx k),h:=s.h}).ρ t=bif (gh r A.dead).contains t then .any else (St.open A (s.shut A)).ρ t:=by
   simp only [RS.shut,St.open,iz]
   cases (gh r A.dead).contains t<;>simp
  rw [hv]
  cases hc:(gh r A.dead).contains t with
  | true=>left; rfl
  | false=>
   right
   refine⟨rfl,fun k off he=>?_⟩
   have HQ:k=t:=f.tidy t k off (by simp) he
   refine⟨HQ,fun hs=>?_⟩
   rw [MA,HQ,hc]
   rw [HQ] at hs
   exact hs
theorem Inv.wide {a:Act}{w:World}(h:Inv L0 c0 n [] s a w)(ds:List Nat):Inv L0 c0 n ds s a w:=by
 obtain⟨hn,c,Lo,lam,rfl,f,e⟩:=h
 exact⟨hn,c,Lo,lam,rfl,⟨f.h,f.rel,f.slot,f.box,f.inj,fun t k off _ he=>f.tidy t k off (by simp) he,f.defers,f.Em⟩,e⟩
theorem Inv.drew {a:Act}{w:World}(h:Inv L0 c0 n ds s a w):Inv L0 c0 n ds s a {w with drawn:=w.drawn+1}:=by
 obtain⟨hn,c,Lo,lam,rfl,f,e⟩:=h
 obtain⟨e',f'⟩:=f.world (w':={c.w with drawn:=c.w.drawn+1}) (fun b _=>.inl rfl) (fun _ _=>rfl) (fun b _=>rfl) (Xv _) rfl rfl rfl
 exact⟨hn,_,Lo,lam,rfl,f',e.trans e'⟩
def lU (P:Program)(c:Code)(Q:Exit→Act→World→Prop)(a:Act)(w:World):Prop:=
 ∀(b:Frame) (k:List Item) (cs:List Frame),∃e a' w',Q e a' w'∧Arrives P (lone (b.at a (.code c :: .inLoop c::k)) cs w) b k cs e a' w'
theorem lU.step {c:Code}{Q:Exit→Act→World→Prop}{a:Act}{w:World}(h:c.wp P (Exit.then (lU P c Q) Q) a w):lU P c Q a w:=by
 intro b k cs
 obtain⟨e,a₁,w₁,hq,yt⟩:=h b (.inLoop c::k) cs
 cases e with
 | normal=>
  obtain⟨e₂,a₂,w₂,Vb,MQ⟩:=hq b k cs
  exact⟨e₂,a₂,w₂,Vb,.of_steps (Steps.trans yt (.one step_inLoop)) MQ⟩
 | exit id=>exact⟨_,a₁,w₁,hq,.pass (x:=.inLoop c) rfl (fun _ _=>.inl (by simp)) yt⟩
 | goto l=>exact⟨_,a₁,w₁,hq,.pass (x:=.inLoop c) rfl (fun _ _=>.inl (by simp)) yt⟩
 | ret=>exact⟨_,a₁,w₁,hq,.pass (x:=.inLoop c) rfl (fun _ _=>.inl (by simp)) yt⟩
 | panic ch=>exact⟨_,a₁,w₁,hq,.pass (x:=.inLoop c) rfl (fun _ _=>.inl (by simp)) yt⟩
 | outgrown=>exact⟨_,a₁,w₁,hq,.pass (x:=.inLoop c) rfl (fun _ _=>.inl (by simp)) yt⟩
theorem lU.loop {c:Code}{Q:Exit→Act→World→Prop}{a:Act}{w:World}(h:lU P c Q a w):(Code.loop c).wp P Q a w:=by
 intro b k cs
 obtain⟨e,a',w',hq,yt⟩:=h b k cs
 exact⟨e,a',w',hq,.of_steps (.one step_loop) yt⟩
def Ex.Ja:Ex→Exit
 | .norm=>.normal
 | .exit id=>.exit id
 | .ret=>.ret
def jW (n:Nat):Code→Bool
 | .region _ ops _=>vj n ops.toList
 | .seq a b=>jW n a&&jW n b
 | .cond _ x y=>jW n x&&jW n y
 | .block _ c=>jW n c
 | .loop c=>jW n c
 | _=>true
def Ar (P:Program)(cf:CallF):Prop:=
 ∀(L0:Nat→Prop) (c0:Cx) (n:Nat) (aF:List Nat) (id:Nat) (ops:Array Oper) (s s':RS),kQ P cf aF ops s=some s'→c0.base≤c0.w.heap.size→vj n ops.toList=true→
  ∀a w Q,Inv L0 c0 n (ops.toList.filterMap (·.dst)) s a w→(∀a' w',Inv L0 c0 n (ops.toList.filterMap (·.dst)) s' a' w'→Q .normal a' w')→(Code.region id ops true).wp P Q a w
theorem jJ {cf:CallF}(hcf:CallOK P cf)(C9:Ar P cf)(hb0:c0.base≤c0.w.heap.size){A:cg}{m:Nat}:∀(c:Code),jW n c=true→∀(st jv:St) (ex:Ex),bG P cf A m c st=some (ex,jv)→
  ∀a w Q,Inv L0 c0 n [] (st.open A) a w→(∀a' w',Inv L0 c0 n [] (jv.open A) a' w'→Q ex.Ja a' w')→c.wp P Q a w
 | .skip,_,st,jv,ex,h,a,w,Q,hi,hQ=>by
  simp only [bG,Xu,Xz] at h
  obtain⟨rfl,rfl⟩:=h
  exact wp_skip (hQ a w hi)
 | .label _,_,st,jv,ex,h,a,w,Q,hi,hQ=>by
  simp only [bG,Xu,Xz] at h
  obtain⟨rfl,rfl⟩:=h
  exact wp_label (hQ a w hi)
 | .ret,_,st,jv,ex,h,a,w,Q,hi,hQ=>by
  simp only [bG,Xu,Xz] at h
  obtain⟨rfl,rfl⟩:=h
  exact wp_ret (hQ a w hi)
 | .exit id,_,st,jv,ex,h,a,w,Q,hi,hQ=>by
  simp only [bG,Xu,Xz] at h
  obtain⟨rfl,rfl⟩:=h
  exact wp_exit (hQ a w hi)
 | .seq x y,hB,st,jv,ex,h,a,w,Q,hi,hQ=>by
  simp only [jW,Xw] at hB
  simp only [bG,Xs] at h
  obtain⟨⟨Jb,uE⟩,h1,h2⟩:=h
  refine wp_seq (jJ hcf C9 hb0 x hB.1 st uE Jb h1 a w _ hi fun a' w' lu=>?_)
  cases Jb with
  | norm=>exact jJ hcf C9 hb0 y hB.2 uE jv ex h2 a' w' Q lu hQ
  | exit id=>
   simp only [Xu,Xz] at h2
   obtain⟨rfl,rfl⟩:=h2
   exact hQ a' w' lu
  | ret=>
   simp only [Xu,Xz] at h2
   obtain⟨rfl,rfl⟩:=h2
   exact hQ a' w' lu
 | .cond k x y,hB,st,jv,ex,h,a,w,Q,hi,hQ=>by
  simp only [jW,Xw] at hB
  simp only [bG,Xs] at h
  obtain⟨t,ht,h⟩:=h
  have hk:a.eval k = .bool t:=by
   obtain⟨hn,c,Lo,lam,rfl,f,e⟩:=hi
   have hk:=bA f k
   unfold sy at ht
   split at ht
   ·rename_i b hb
    cases ht
    rw [hb] at hk
    simpa [SR,VR] using hk
   ·cases ht
  refine wp_cond hk ?_
  cases t with
  | true=>exact jJ hcf C9 hb0 x hB.1 st jv ex (by simpa using h) a w Q hi hQ
  | false=>exact jJ hcf C9 hb0 y hB.2 st jv ex (by simpa using h) a w Q hi hQ
 | .block id x,hB,st,jv,ex,h,a,w,Q,hi,hQ=>by
  simp only [jW] at hB
  simp only [bG,Xt] at h
  obtain⟨⟨Jb,uE⟩,h1,h2⟩:=h
  refine wp_block (jJ hcf C9 hb0 x hB st uE Jb h1 a w _ hi fun a' w' lu=>?_)
  cases Jb with
  | norm=>
   simp only [Xz] at h2
   obtain⟨rfl,rfl⟩:=h2
   exact hQ a' w' lu
  | exit nY=>
   simp only [Xz] at h2
   obtain⟨rfl,rfl⟩:=h2
   have:=hQ a' w' lu
   simp only [Ex.Ja,Exit.inBlock]
   split
   ·rename_i he; rw [if_pos he] at this; exact this
   ·rename_i he; rw [if_neg he] at this; exact this
  | ret=>
   simp only [Xz] at h2
   obtain⟨rfl,rfl⟩:=h2
   exact hQ a' w' lu
 | .loop x,hB,st,jv,ex,h,a,w,Q,hi,hQ=>by
  simp only [jW] at hB
  simp only [bG] at h
  have key:∀(j:Nat) (st:St),kn (bG P cf A m x) j st=some (ex,jv)→∀a w,Inv L0 c0 n [] (st.open A) a w→lU P x Q a w:=by
   intro j
   induction j with
   | zero=>intro st h; simp [kn] at h
   | succ j ih=>
    intro st h a w hi
    simp only [kn,Xs] at h
    obtain⟨⟨Jb,uE⟩,h1,h2⟩:=h
    refine lU.step (jJ hcf C9 hb0 x hB st uE Jb h1 a w _ hi fun a' w' lu=>?_)
    cases Jb with
    | norm=>exact ih uE h2 a' w' lu
    | exit id=>
     simp only [Xu,Xz] at h2
     obtain⟨rfl,rfl⟩:=h2
     exact hQ a' w' lu
    | ret=>
     simp only [Xu,Xz] at h2
     obtain⟨rfl,rfl⟩:=h2
     exact hQ a' w' lu
  exact lU.loop (key m st h a w hi)
 | .region id ops draw,hB,st,jv,ex,h,a,w,Q,hi,hQ=>by
  simp only [jW] at hB
  simp only [bG,Xs,Xt,Xz] at h
  obtain⟨s0,h0,s',h1,s2,h2,rfl,rfl⟩:=h
  replace hi:=hi.kR h0
  cases draw with
  | true=>
   simp only [if_true] at h1
   exact C9 L0 c0 n A.aF id ops _ s' h1 hb0 hB a w Q (hi.wide _) fun a' w' lu=>hQ a' w' ((lu.kR h2).mU A id)
  | false=>
   simp only [XJ,if_false] at h1
   exact wp_region_list (BF hcf hb0 rfl hB (fun a' w' lu=>hQ a' w' ((lu.kR h2).mU A id)) ops.toList _ (fun _ h=>h) h1 a w (hi.wide _))
 | .rangeFunc ..,_,st,jv,ex,h,_,_,_,_,_=>by simp [bG] at h
 | .scope ..,_,st,jv,ex,h,_,_,_,_,_=>by simp [bG] at h
 | .goto ..,_,st,jv,ex,h,_,_,_,_,_=>by simp [bG] at h
 | .refuse ..,_,st,jv,ex,h,_,_,_,_,_=>by simp [bG] at h
theorem wF {c:Cx}{Lo:Nat→Prop}{lam:Nat→Nat}{a:Act}(f:Fr L0 c Lo lam ds s a):∀(rs:List ResultVar) (l:List AV),z7 P s rs=some l→l.all AV.lq=true→
  ∃vs:List Value,(rs.mapM (m:=Sem) fun | .tmp t=>pure (a.tmps.getD t undef) | .cell x t=>do loadVar t (←asAddr (a.tmps.getD x undef))).run P c.w = .ok vs c.w∧VRs c (un L0 Lo) l vs
 | [],l,h,_=>by
  simp only [z7,Xu] at h
  subst h
  exact⟨[],rfl,trivial⟩
 | .tmp t::rs,l,h,hl=>by
  simp only [z7,Xt] at h
  obtain⟨l',h1,rfl⟩:=h
  simp only [Ym,Xw] at hl
  obtain⟨vs,h2,h3⟩:=wF f rs l' h1 hl.2
  refine⟨a.tmps.getD t undef::vs,?_,(f.slot t).vr (sR hl.1),h3⟩
  simp only [List.mapM_cons,Sem.run_bind,Sem.run_pure,Result.andThen_ok,h2]
 | .cell x t::rs,l,h,hl=>by
  simp only [z7,Xs,Xt] at h
  obtain⟨y,hy,l',h1,rfl⟩:=h
  simp only [Ym,Xw] at hl
  obtain⟨vs,h2,h3⟩:=wF f rs l' h1 hl.2
  have hx:=f.slot x
  obtain⟨u,hr,hu⟩:=sF (P:=P) f (t:=t) hx hy
  have hp:∃ad,a.tmps.getD x undef = .pointer (some ad):=by
   unfold jd at hy
   cases hq:s.ρ x<;>rw [hq] at hy hx<;>simp only at hy<;>try (cases hy; done)
   ·simp only [SR,VR] at hx; obtain⟨_,ad,h,_⟩:=hx; exact⟨ad,h⟩
   ·simp only [SR] at hx; exact⟨_,hx.1⟩
   ·simp only [SR,VR] at hx; obtain⟨_,_,h,_⟩:=hx; exact⟨_,h⟩
  obtain⟨ad,hp⟩:=hp
  rw [hp] at hr
  have As:(loadVar t ad).run P c.w = .ok u c.w:=by simpa [Instr.loadAt,Instr.sureAddr] using hr
  refine⟨u::vs,?_,hu,h3⟩
  have ha:(asAddr (a.tmps.getD x undef)).run P c.w = .ok ad c.w:=by rw [hp]; rfl
  simp only [List.mapM_cons,Sem.run_bind,Sem.run_pure,Result.andThen_ok,h2,ha,As]
theorem kB:un L0 none0=L0:=by funext b; simp [un,none0]
theorem Ext.close {c c':Cx}{js:Nat→Prop}(e:Ext c none0 c' js):Ext c none0 c' none0:=
 ⟨e.next,e.live,e.size,e.keep,e.exact,e.base,e.I3,fun _ h=>h,fun _ h=>h.elim,e.os,e.tape,e.output⟩
theorem HRel.kb {c:Cx}{L L':Nat→Prop}(hL:∀b,L' b→L b)(h:HRel c L):HRel c L':=
 ⟨h.lt,fun id o ho=>by
  have:=h.obj id o ho
  cases o with
  | cells cs=>obtain⟨m,h1,h2,h3⟩:=this; exact⟨m,h1,h2,Cells.kb hL _ _ _ h3⟩
  | row t cs=>obtain⟨h0,C,h1,h2,h4,h3⟩:=this; exact⟨h0,C,h1,h2,h4,Cells.kb hL _ _ _ h3⟩
  | map es=>
   obtain⟨kp,clock,h1,h2⟩:=this
   refine⟨kp,clock,h1,?_⟩
   clear h1
   have:∀(es:List (AV × AV)) (ms:List MapEntry),ko c L es ms→ko c L' es ms:=by
    intro es
    induction es with
    | nil=>intro ms h; cases ms with | nil=>trivial | cons m ms=>exact h.elim
    | cons e es ih=>intro ms h; cases ms with
     | nil=>exact h.elim
     | cons m ms=>obtain⟨h1,h2,h3⟩:=h; exact⟨⟨VR.kb hL _ _ h1.1,h1.2⟩,VR.kb hL _ _ h2,ih _ h3⟩
   exact this _ _ h2,h.inj,fun id hl hb=>h.out id hl (hL _ hb),fun b hb=>h.bd b (hL b hb),h.low,h.ver⟩
structure Fit (P:Program):Prop where
 mixed:P.follows .mixedOrders=true
 MR : ∀ (f : FuncId) fn c, P.funcs[f]? = some fn → fn.body = some c → jW fn.ntmps c = true ∧ fn.name ≠ "runtime.NumGoroutine"
def IntrOK (P:Program)(intr:FuncId→Option (List AV→AHeap→Option (AV × AHeap))):Prop:=
 ∀f g,intr f=some g→(CallOK P fun f' args h=>if f'=f then g args h else none)∧∀args h r h',g args h=some (r,h')→Steady h h'
theorem gk {f : FuncId} {fn : Func} {c : Code} (hf : P.funcs[f]? = some fn) (hc : fn.body = some c) (hn : fn.name ≠ "runtime.NumGoroutine") (vs : Array Value) (w : World) : (callFunc f vs).run P w = .ok (.enter f vs) w := by
 have W8 : (fn.name == "runtime.NumGoroutine") = false := by simpa using hn
 simp [callFunc,program,Sem.run,hf,hn,hc]
theorem EH (hP:Fit P){aU:FuncId→cg}{cf:CallF}(ih:CallOK P cf)(C9:Ar P cf)(m:Nat):CallOK P (bc P aU cf m):=by
 intro f args h r h' hc
 unfold bc at hc
 rw [Xs] at hc
 obtain⟨fn,hf,hc⟩:=hc
 rw [Xs] at hc
 obtain⟨c,hb,hc⟩:=hc
 obtain⟨hB,MS⟩:=hP.MR f fn c hf hb
 refine⟨gk hf hb MS,fun L0 c0 vs hh hb0 hrel hargs=>?_⟩
 split at hc
 rotate_left
 ·cases hc
 rename_i hlen
 rw [Xs] at hc
 obtain⟨⟨ex,st⟩,hex,hc⟩:=hc
 have hl:=hargs.length
 refine calls_of_wp hf hb ?_
 refine jJ (L0:=L0) (c0:=c0) (n:=fn.ntmps) ih C9 hb0 c hB _ _ _ hex _ _ _ ?_ ?_
 ·refine⟨by simp; omega,c0,none0,fun _=>0,rfl,⟨hh,by rw [kB]; exact hrel,fun t=>?_,fun k cs hk=>?_,fun k k' hk=>?_,fun t k off _ he=>?_,rfl,fun b hb=>hb.elim⟩,Ext.refl _ _⟩
  ·simp only [St.open,lN,iz]
   split
   ·by_cases ht:t<args.length
    ·obtain⟨v,hv,hr⟩:=hargs.get t args[t] (by simp [ht])
     have:args.getD t AV.any=args[t]:=by simp [ht]
     rw [this,Array.getD_eq_getD_getElem?,Array.getElem?_append_left (by simp; omega)]
     have PK:vs.toArray[t]? = some v:=by simpa using hv
     rw [PK]
     exact SR.of (by rw [kB]; exact hr)
    ·have:args.getD t AV.any = .any:=by simp [XL (Nat.not_lt.1 ht)]
     rw [this]
     exact SR.of (by simp [VR])
   ·exact SR.of (by simp [VR])
  ·simp only [St.open,iz] at hk
   split at hk<;>cases hk
  ·simp only [St.open,iz] at hk
   split at hk<;>cases hk
  ·simp only [St.open,lN,iz] at he
   split at he
   ·by_cases ht:t<args.length
    ·obtain⟨v,hv,hr⟩:=hargs.get t args[t] (by simp [ht])
     have h1:args.getD t AV.any=args[t]:=by simp [ht]
     rw [h1] at he
     rw [he] at hr
     exact hr.elim
    ·have:args.getD t AV.any = .any:=by simp [XL (Nat.not_lt.1 ht)]
     rw [this] at he
     cases he
   ·cases he
 ·intro a' w' lu
  have hfin:(aH P (st.open (aU f)) fn.results.toList).map (fun r=>(r,st.h))=some (r,h')→a'.defers=[]∧∃v,(results fn a'.tmps).run P w' = .ok v w'∧(∃c' v',Ending.returned v = .returned v'∧c'.w=w'∧c'.h=h'∧VR c' L0 r v'∧HRel c' L0∧Ext c0 none0 c' none0):=by
   intro hc
   rw [Xt] at hc
   obtain⟨r',As,he⟩:=hc
   cases he
   obtain⟨hn,c',Lo,lam,rfl,f',e'⟩:=lu
   refine⟨f'.defers,?_⟩
   unfold aH at As
   rw [Xs] at As
   obtain⟨l,hl,As⟩:=As
   split at As
   rotate_left
   ·cases As
   rename_i kA
   obtain⟨us,Vc,Bw⟩:=wF f' _ _ hl kA
   have EI:VRs c' L0 l us:=VRs.kb (fun b hb=>.inl hb) _ _ Bw
   have Ah:(results fn a'.tmps).run P c'.w = .ok (if h:us.toArray.size=1 then us.toArray[0] else .tuple us.toArray) c'.w:=by
    unfold results
    rw [←Array.toArray_toList (xs:=fn.results)]
    rw [List.mapM_toArray]
    simp only [Sem.run_bind,Sem.run_map,Result.andThen_ok,Sem.run_pure]
    exact (congrArg (fun z=>(Result.andThen z (fun (a:List Value) w'=>Result.ok a.toArray w')).andThen (fun (a:Array Value) w'=>Result.ok (if h:a.size=1 then a[0] else Value.tuple a) w')) Vc).trans rfl
   refine⟨_,Ah,c',_,rfl,rfl,f'.h,?_,HRel.kb (fun b hb=>.inl hb) f'.rel,e'.close⟩
   split at As
   ·rename_i x
    cases As
    cases us with
    | nil=>exact EI.elim
    | cons u us=>cases us with
     | nil=>exact EI.1
     | cons u2 us=>exact EI.2.elim
   ·rename_i hne
    cases As
    have PO:us.length≠1:=by
     intro h1
     rw [←EI.length] at h1
     cases l with
     | nil=>simp at h1
     | cons x l=>cases l with
      | nil=>exact hne x rfl
      | cons y l=>simp at h1
    have:¬us.toArray.size=1:=by simpa using PO
    rw [dif_neg this]
    simp only [VR]
    exact⟨us.toArray,rfl,EI⟩
  cases ex with
  | norm=>exact hfin hc
  | ret=>exact hfin hc
  | exit id=>cases hc
end
end Go.R
