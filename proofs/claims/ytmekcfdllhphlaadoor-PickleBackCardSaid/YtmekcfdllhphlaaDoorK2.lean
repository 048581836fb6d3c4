/- Part of the proof: ROps5, ROps6, ROps7, ROpAll, RFrz, RCode, RLocal. -/
import Derived.Test.YtmekcfdllhphlaaDoorK1
import Derived.MapKept
import Derived.Laws.CopyRow
import Derived.Laws.BytesArg
import Derived.Laws.IdiomStrings
import Derived.Tactics
set_option linter.unusedVariables false
set_option linter.unusedSimpArgs false
set_option maxRecDepth 100000
open Array renaming getElem?_eq_some_iff → Xn, getElem?_setIfInBounds → XN, getElem?_modify → Ye, ext' → Ym
open Bool renaming and_eq_true → WR, false_eq_true → W4, true_and → X2, not_eq_true' → X8
open List renaming getElem?_eq_some_iff → WU, length_set → WW, getElem?_eq_none → W6, map_cons → Xc, all_eq_true → Xd, mem_map → Xg, mem_cons → Xs, eq_nil_of_length_eq_zero → XB, ext_getElem? → XE, all_cons → XK, getElem?_set → Ya
open Nat renaming le_refl → WQ, zero_add → Xb, beq → Xx, le_succ → X1, lt_succ_of_lt → X9, min_eq_left → Yn
open Ne renaming symm → X4
open Option renaming bind_some → WL, bind_eq_some_iff → WM, map_eq_some_iff → WN, map_some → WS, isSome_iff_exists → Xr, getD_some → XM
open Option.some renaming injEq → WO
open Prod.mk renaming injEq → WV
namespace Go.R
open Go
section
variable {P:Program}{L0:Nat→Prop}{c0:Cx}{n:Nat}{ds:List Nat}{o:Oper}{s:RS}
theorem Fr.wk {c:Cx}{Lo:Nat→Prop}{lam:Nat→Nat}{a:Act}(f:Fr L0 c Lo lam ds s a)(hbs:c.base≤c.w.heap.size){id:Nat}{es qP:List (AV × AV)}(ho:c.h.get id=some (.map es)){kA qV:Array MapEntry}{clock nI:Nat}
  (hb:c.w.heap[(c.β id).1]? = some (.map kA clock)) (he:kz c (un L0 Lo) qP qV.toList) :
  Ext c Lo ⟨c.β,s.h.put id (.map qP),{c.w with heap:=c.w.heap.setIfInBounds (c.β id).1 (.map qV nI)},c.base⟩ Lo∧
   Fr L0 ⟨c.β,s.h.put id (.map qP),{c.w with heap:=c.w.heap.setIfInBounds (c.β id).1 (.map qV nI)},c.base⟩ Lo lam ds {s with h:=s.h.put id (.map qP)} a:=by
 have hl:Live c.h id:=⟨f.rel.lt _ _ ho,by simp [ho]⟩
 have hlt:(c.β id).1<c.w.heap.size:=(Xn.1 hb).1
 have hne:∀b,b≠(c.β id).1→({c.w with heap:=c.w.heap.setIfInBounds (c.β id).1 (.map qV nI)}:World).heap[b]? = c.w.heap[b]?:=by
  intro b hb
  simp only [XN]
  rw [if_neg (X4 hb)]
 rw [←f.h]
 refine f.upd (β':=c.β) (h':=c.h.put id (.map qP)) id (.map qP) (Steady.put _ _ _) (X9 hl.1) (by simp [AHeap.put,beq_nat])
  (fun ot h1=>.inr ⟨by simp [AHeap.put,beq_nat,h1],rfl⟩) (fun _=>⟨hl,rfl⟩) (.inr ⟨id,hl,rfl,.inl rfl⟩) (fun _=>?_)
  (fun b _ h1=>hne b h1) (fun b _ h1=>hne b h1) (by simp) hbs rfl rfl rfl (fun e=>⟨qV,nI,by simp [hlt],he.ext e⟩)
 simp only [Cx.len,World.shape?,hb,XN,hlt,if_true]
theorem wo {x y:AV}(hs:sameShape x y=true)(hq:fT x y=true):x=y:=by
 cases x<;>cases y<;>simp only [sameShape] at hs<;>try (cases hs; done)
 ·simp only [fT,iT,WR,beq_iff_eq] at hq
  obtain⟨rfl,rfl⟩:=hq
  rfl
 ·rename_i a b
  simp only [fT,iT,beq_iff_eq] at hq
  congr 1
  cases a; cases b
  congr 1
  exact Array.toList_inj.1 hq
 ·rename_i xs ys
  simp only [WR,beq_iff_eq] at hs
  obtain⟨⟨_,hx⟩,hy⟩:=hs
  obtain⟨ns,rfl⟩:=gY hx
  obtain⟨ms,rfl⟩:=gY hy
  simp only [fT,j5,decide_eq_true_eq] at hq
  rw [hq]
theorem ni:∀ns:List Int,iR (ns.map fun n=>AV.int .i64 n)=some (ns.map fun n=>Value.int .i64 n)
 | []=>rfl
 | n::ns=>by simp [iR,AV.fD,ni ns]
theorem Ae {t:TypeId}{k:AV}(h:fU P t k=true):∃u,k.zQ=some u∧Instr.sameBits 10000 u u=true:=by
 unfold fU at h
 have Md:∀cs:List AV,cs.all jZ=true→∃u,(AV.agg cs).zQ=some u∧Instr.sameBits 10000 u u=true:=by
  intro cs hcs
  obtain⟨ns,rfl⟩:=gY hcs
  refine⟨.agg (ns.map fun n=>Value.int .i64 n).toArray,by simp [AV.zQ,ni],?_⟩
  simp only [Instr.sameBits,beq_self_eq_true,X2,Xd]
  intro p hp
  have:∀(l:List Value),(∀v∈l,∃m,v=Value.int .i64 m)→∀p∈l.zip l,Instr.sameBits 9999 p.1 p.2=true:=by
   clear hp p
   intro l hl p hp
   have h1:p.1=p.2∧p.1∈l:=by
    clear hl
    induction l with
    | nil=>cases hp
    | cons v l ih=>
     simp only [List.zip_cons_cons,Xs] at hp
     rcases hp with rfl | hp
     ·exact⟨rfl,by simp⟩
     ·obtain⟨h1,h2⟩:=ih hp; exact⟨h1,by simp [h2]⟩
   obtain⟨h1,h2⟩:=h1
   obtain⟨m,hm⟩:=hl _ h2
   rw [←h1,hm]
   simp [Instr.sameBits]
  exact this (ns.map fun n=>Value.int .i64 n) (fun v hv=>by obtain⟨m,_,rfl⟩:=Xg.1 hv; exact⟨m,rfl⟩) p (by simpa using hp)
 split at h
 ·exact⟨_,rfl,by simp [Instr.sameBits]⟩
 ·exact⟨_,rfl,by simp [Instr.sameBits,u9]⟩
 ·simp only [WR] at h; exact Md _ h.1.1.2
 ·simp only [WR] at h; exact Md _ h.1.1.2
 ·cases h
theorem sP {c:Cx}{L:Nat→Prop}{k v:AV}{kv vv:Value}(hc:k.zQ.isSome=true)(hk:VR c L k kv)(hv:VR c L v vv) :
  ∀(es qP:List (AV × AV)) (ms:List MapEntry) (i:Nat),kz c L es ms→vW k v es=some qP→
   iB k es≠none∧(place k es ms i=none∧(∀b,kz c L qP (ms++[{key:=kv,val:=vv,born:=b}]))∨
    ∃j u m,place k es ms i=some (i+j,u)∧ms[j]? = some m∧m.key=kv∧kz c L qP (ms.modify j fun e=>{e with key:=kv,val:=vv}))
 | [],qP,[],i,_,h=>by
  simp only [vW,WO] at h
  subst h
  exact⟨by simp [iB],.inl ⟨rfl,fun b=>⟨⟨hk,hc⟩,hv,trivial⟩⟩⟩
 | (k',v')::es,qP,m::ms,i,he,h=>by
  obtain⟨⟨Ec,Se⟩,Bs,uy⟩:=he
  simp only [vW] at h
  split at h
  rotate_left
  ·cases h
  rename_i hs
  split at h
  ·rename_i hq
   cases h
   have xX:k=k':=wo hs hq
   obtain⟨u,hu⟩:=Xr.1 hc
   refine⟨by simp [iB,hs,hq],.inr ⟨0,m.val,m,by simp [place,hq],rfl,?_,?_⟩⟩
   ·subst xX
    rw [wc hu hk,wc hu Ec]
   ·exact⟨⟨hk,hc⟩,hv,uy⟩
  ·rename_i hq
   rw [WN] at h
   obtain⟨Us,h1,rfl⟩:=h
   obtain⟨h2,h3⟩:=sP hc hk hv es Us ms (i+1) uy h1
   refine⟨by simp [iB,hs,hq,h2],?_⟩
   have ye:fT k k'=false:=by simpa using hq
   rcases h3 with⟨h3,h4⟩| ⟨j,u,m',h3,h4,h5,h6⟩
   ·exact .inl ⟨by simp [place,ye,h3],fun b=>⟨⟨Ec,Se⟩,Bs,h4 b⟩⟩
   ·exact .inr ⟨j+1,u,m',by simp [place,ye,h3]; omega,by simpa using h4,h5,⟨⟨Ec,Se⟩,Bs,h6⟩⟩
 | [],_,_::_,_,h,_=>h.elim
 | _::_,_,[],_,h,_=>h.elim
theorem sQ {x:AV}(h:x.lz=true):∀k off,x≠.lp k off:=by rintro k off rfl; simp [AV.lz] at h
theorem uD {c:Cx}{Lo:Nat→Prop}{lam:Nat→Nat}{a:Act}(f:Fr L0 c Lo lam ds s a)(hbs:c.base≤c.w.heap.size){t:TypeId}{m k x:AV}{mv kv xv:Value}(hm:SR c L0 Lo lam s.bx m mv)(hk:SR c L0 Lo lam s.bx k kv)(hx:SR c L0 Lo lam s.bx x xv){h':AHeap}
  (h:iC P s.h t m k x=some h'):∃c',(Instr.mapUpdate t mv kv xv).run P c.w = .ok () c'.w∧Ext c Lo c' Lo∧Fr L0 c' Lo lam ds {s with h:=h'} a:=by
 unfold iC at h
 rw [WM] at h
 obtain⟨d,hd,h⟩:=h
 cases d<;>simp only at h<;>try (cases h; done)
 rename_i kt et
 split at h
 ·cases h
 rename_i jO
 obtain⟨uB,hargs⟩:fU P kt k=true∧x.lz=true:=by
  cases h1:fU P kt k<;>cases h2:x.lz<;>simp [h1,h2] at jO ⊢
 have xY:VR c (un L0 Lo) k kv:=hk.vr (by rintro k0 off rfl; simp [fU] at uB)
 have Ut:=hx.vr (sQ hargs)
 cases m<;>simp only at h<;>try (cases h; done)
 rename_i id
 rw [WM] at h
 obtain⟨ob,ho,h⟩:=h
 cases ob with
 | cells cs=>cases h
 | row t cs=>cases h
 | map es=>
 rw [WN] at h
 obtain⟨qP,hu,rfl⟩:=h
 simp only [SR,VR] at hm
 obtain⟨hi,r,rfl,hr⟩:=hm
 rw [←f.h] at ho
 have hl:Live c.h id:=⟨f.rel.lt _ _ ho,by simp [ho]⟩
 have OY:=hr hl
 subst OY
 obtain⟨kA,clock,h1,h2⟩:=f.rel.obj _ _ ho
 obtain⟨u0,IP,Uu⟩:=Ae uB
 obtain⟨hf,hp⟩:=sP (by simp [IP]) xY Ut es qP kA.toList 0 h2 hu
 have Ed:=va uB xY c.w h2 hf
 have Jt:=nf (P:=P) false 9998 uB xY c.w
 have hget:(getObj (c.β id).1).run P c.w = .ok (.map kA clock) c.w:=MapKept.run_getObj_map h1
 rcases hp with⟨hp,sF⟩| ⟨j,u,m,hp,hj,hmk,sF⟩
 ·obtain⟨e',f'⟩:=f.wk hbs ho h1 (qV:=kA.push {key:=kv,val:=xv,born:=clock}) (nI:=clock+1) (qP:=qP) (by simpa using sF clock)
  refine⟨_,?_,e',f'⟩
  unfold Instr.mapUpdate
  rw [hp] at Ed
  simp only [Sem.run_bind,br hd,Result.andThen_ok,hget,Jt,Ed]
  exact MapKept.run_setObj_map _ h1
 ·obtain⟨e',f'⟩:=f.wk hbs ho h1 (qV:=kA.modify j fun e=>{e with key:=kv,val:=xv}) (nI:=clock) (qP:=qP) (by simpa using sF)
  refine⟨_,?_,e',f'⟩
  unfold Instr.mapUpdate
  rw [hp,Xb] at Ed
  have JB:kA[j]? = some m:=by simpa using hj
  have Hy:(Instr.keyThatStays m.key kv).run P c.w = .ok kv c.w:=by
   rw [hmk]
   unfold Instr.keyThatStays
   rw [wc IP xY,Uu]
   rfl
  simp only [Sem.run_bind,br hd,Result.andThen_ok,hget,Jt,Ed,JB,WS,XM,Hy]
  exact MapKept.run_setObj_map _ h1
theorem oy (hb0:c0.base≤c0.w.heap.size){t:TypeId}{m k x:Operand}(ho:o.op = .mapUpdate t m k x∨o.op = .insert t m k x)(rC:o.dst=none){h':AHeap}
  (h:iC P s.h t (bP s.ρ m) (bP s.ρ k) (bP s.ρ x)=some h'):jh P L0 c0 n ds o s {s with h:=h'}:=by
 rintro a w K Q ⟨hn,c,Lo,lam,rfl,f,e⟩ hK
 obtain⟨c',hr,e',f'⟩:=uD f (jy e hb0) (bC f m) (bC f k) (bC f x) h
 unfold Oper.wp
 have:(execOp a.eval o).run P c.w = .ok .skip c'.w:=by rcases ho with ho | ho<;>simp [execOp,ho,hr]
 rw [this,Oper.upon_skip]
 have Jw:a.put o.dst undef=a:=by rw [rC]; rfl
 rw [Jw]
 exact hK _ _ ⟨hn,c',Lo,lam,rfl,f',e.trans e'⟩
theorem Ep (hb0:c0.base≤c0.w.heap.size)(hd:fV n ds o){t:TypeId}{x:Operand}(ho:o.op = .call {callee:=.builtin .clear,args:=#[x],argTypes:=#[t]}){h':AHeap}
  (h:ss P s.h t (bP s.ρ x)=some h'):jh P L0 c0 n ds o s ({s with h:=h'}.set o.dst (.tup [])):=by
 rintro a w K Q ⟨hn,c,Lo,lam,rfl,f,e⟩ hK
 unfold ss at h
 rw [WM] at h
 obtain⟨d,CU,h⟩:=h
 have hx:=bC f x
 have fin:∀c',(Builtin.clear_ #[t] o.type #[a.eval x]).run P c.w = .ok (.tuple #[]) c'.w→Ext c Lo c' Lo→Fr L0 c' Lo lam ds {s with h:=h'} a→o.wp P a c.w K Q:=by
  intro c' hr e' f'
  unfold Oper.wp
  have:(execOp a.eval o).run P c.w = .ok (.value (.tuple #[])) c'.w:=by
   simp [execOp,ho,resolve,invoke,builtin,hr]
  rw [this,Oper.upon_value]
  exact hK _ _ ⟨(gu _ _ _).trans hn,c',Lo,lam,rfl,f'.set (SR.of (by simp [VR,VRs])) (fun t ht=>by rw [hn]; exact hd t ht),e.trans e'⟩
 cases CO:bP s.ρ x<;>rw [CO] at h hx<;>simp only at h<;>try (cases h; done)
 ·cases h
  simp only [SR,VR] at hx
  refine fin c ?_ (Ext.refl _ _) f
  simp [Builtin.clear_,br CU,hx]
 ·rename_i id
  rw [WM] at h
  obtain⟨ob,ho,h⟩:=h
  cases ob with
  | cells cs=>cases h
  | row t cs=>cases h
  | map es=>
  cases h
  simp only [SR,VR] at hx
  obtain⟨hi,r,r8,hr⟩:=hx
  rw [←f.h] at ho
  have hl:Live c.h id:=⟨f.rel.lt _ _ ho,by simp [ho]⟩
  have OY:=hr hl
  subst OY
  obtain⟨kA,clock,h1,h2⟩:=f.rel.obj _ _ ho
  obtain⟨e',f'⟩:=f.wk (jy e hb0) ho h1 (qV:=#[]) (nI:=clock) (qP:=[]) trivial
  refine fin _ ?_ e' f'
  have hget:(getObj (c.β id).1).run P c.w = .ok (.map kA clock) c.w:=MapKept.run_getObj_map h1
  have Af:=MapKept.run_setObj_map (P:=P) (.map #[] clock) h1
  simp [Builtin.clear_,br CU,r8,hget,Af]
end
end Go.R
namespace Go.R
open Go
section
variable {P:Program}{L0:Nat→Prop}{c0:Cx}{n:Nat}{ds:List Nat}{o:Oper}{s:RS}
theorem l9 {w:World}{t t2 ty e:TypeId}{i:TypeInfo}(ht:P.underlying t=some (.slice e))(hi:P.info? e=some i){base:Option Addr}{len cap:Nat}{x:Value}{news:List Value}{m:Nat}(hs:Src P i.size t2 x m news w)(hm:m≤len) :
  (Builtin.copy_ #[t,t2] ty #[.slice base len cap,x]).run P w=match base with | none=>.ok (goInt m) w | some a=>((storeCells a news).run P w).andThen fun _ w'=>.ok (goInt m) w':=by
 have Me:Nat.min m len=m:=Yn hm
 have hlen:=hs.len w
 have hc:=hs.cells
 have hsz:(sizeOf e).run P w = .ok i.size w:=by simp [sizeOf,typeInfo,hi]
 unfold Builtin.copy_
 cases base with
 | none=>simp [br ht,hlen,Me,hsz,hc]
 | some a=>simp [br ht,hlen,Me,hsz,hc,Sem.run_bind]
theorem Hz (hb0:c0.base≤c0.w.heap.size)(hd:fV n ds o){t t2:TypeId}{dx sx:Operand}(ho:o.op = .call {callee:=.builtin .copy,args:=#[dx,sx],argTypes:=#[t,t2]}){y:AV}{h':AHeap}
  (h:u3 P s.h t t2 (bP s.ρ dx) (bP s.ρ sx)=some (y,h')):jh P L0 c0 n ds o s ({s with h:=h'}.set o.dst y):=by
 rintro a w K Q ⟨hn,c,Lo,lam,rfl,f,e0⟩ hK
 have hbs:=jy e0 hb0
 unfold u3 at h
 rw [WM] at h
 obtain⟨d,CU,h⟩:=h
 cases d<;>simp only at h<;>try (cases h; done)
 rename_i e
 rw [WM] at h
 obtain⟨i,hi,h⟩:=h
 rw [WM] at h
 obtain⟨⟨new,m⟩,hcs,h⟩:=h
 simp only at h
 split at h
 ·cases h
 rename_i ib
 have ib:jY P t2 (bP s.ρ sx)=true:=by simpa using ib
 have Sf:∀st,bP s.ρ sx = .str st→P.underlying t2=some .string:=by
  intro st hst
  rw [hst] at ib
  unfold jY at ib
  simp only at ib
  split at ib
  ·assumption
  ·cases ib
 have pW:(∀st,bP s.ρ sx≠.str st)→∃e',P.underlying t2=some (.slice e'):=by
  intro hne
  unfold jY at ib
  split at ib
  ·rename_i st hst; exact absurd hst (hne st)
  ·split at ib
   ·rename_i e' he; exact⟨e',he⟩
   ·cases ib
 have hk:(∃e',P.underlying t2=some (.slice e'))∨P.underlying t2=some .string:=by
  by_cases hst:∃st,bP s.ρ sx = .str st
  ·obtain⟨st,hst⟩:=hst; exact .inr (Sf st hst)
  ·exact .inl (pW fun st OZ=>hst ⟨st,OZ⟩)
 obtain⟨news,hS,hv⟩:=pV f (bC f sx) hk Sf pW hcs
 have xK:=bC f dx
 have fin:∀c',(Builtin.copy_ #[t,t2] o.type #[a.eval dx,a.eval sx]).run P c.w = .ok (goInt m) c'.w→Ext c Lo c' Lo→Fr L0 c' Lo lam ds {s with h:=h'} a→y = .int .i64 m→o.wp P a c.w K Q:=by
  intro c' hr e' f' hy
  unfold Oper.wp
  have:(execOp a.eval o).run P c.w = .ok (.value (goInt m)) c'.w:=by
   simp [execOp,ho,resolve,invoke,builtin,hr]
  rw [this,Oper.upon_value]
  exact hK _ _ ⟨(gu _ _ _).trans hn,c',Lo,lam,rfl,f'.set (SR.of (by subst hy; simp [VR,goInt])) (fun t ht=>by rw [hn]; exact hd t ht),e0.trans e'⟩
 cases CO:bP s.ρ dx<;>rw [CO] at h xK<;>simp only at h<;>try (cases h; done)
 ·split at h
  rotate_left
  ·cases h
  rename_i sE
  cases h
  simp only [SR,VR] at xK
  obtain⟨ad,xK⟩:∃ad:Option Addr,a.eval dx = .slice ad 0 0:=⟨none,xK⟩
  refine fin c ?_ (Ext.refl _ _) f (by rw [sE]; rfl)
  rw [xK,l9 CU hi hS (by omega)]
  cases ad with
  | none=>rfl
  | some ad=>
   have:news=[]:=XB (by rw [hS.newsLen,sE]; simp)
   subst this
   rfl
 ·rename_i id off len jr
  split at h
  ·rename_i hid
   split at h
   rotate_left
   ·cases h
   rename_i sE
   cases h
   simp only [SR,VR] at xK
   rcases xK with⟨_,_,_,ad,xK⟩| xK
   rotate_left
   ·exact absurd hid xK.1
   refine fin c ?_ (Ext.refl _ _) f (by rw [sE]; rfl)
   rw [xK,l9 CU hi hS (by omega)]
   cases ad with
   | none=>rfl
   | some ad=>
    have:news=[]:=XB (by rw [hS.newsLen,sE]; simp)
    subst this
    rfl
  rename_i lH
  rw [WM] at h
  obtain⟨ob,hob,h⟩:=h
  cases ob with
  | map es=>cases h
  | row t cs=>cases h
  | cells cs=>
  simp only at h
  split at h
  rotate_left
  ·cases h
  rename_i hh
  obtain⟨Uv,Mf,hoff⟩:=hh
  cases h
  simp only [SR,VR] at xK
  rcases xK with xK | ⟨_,hid,ad,cap,xK,hlc,Ef,hlive⟩
  ·exact absurd xK.1 lH
  rw [←f.h] at hob
  have hl:Live c.h id:=⟨f.rel.lt _ _ hob,by simp [hob]⟩
  obtain⟨q,hp,hq,hc⟩:=f.rel.obj _ _ hob
  have hnl:=hS.newsLen
  have hvl:=hv.length
  have hr:=l9 (ty:=o.type) CU hi hS Mf (base:=ad) (cap:=cap)
  by_cases ha:ad=some ⟨(c.β id).1,(c.β id).2+off,none⟩
  ·subst ha
   simp only at hr
   have hst:=lZ (P:=P) hp.mH (base:=(c.β id).2) (off:=off) (vs:=news) (by omega) hS.one
   rw [hst] at hr
   simp only [Result.andThen_ok] at hr
   obtain⟨q1,q2,q3,q4⟩:=gZ news (c.β id).1 ((c.β id).2+off) c.w
   have z7:iE c (c.β id).1 q:=hp
   obtain⟨C,Mc,hb,z8⟩:=hp
   obtain⟨C',g1,g2,g3⟩:=fK news (c.β id).1 ((c.β id).2+off) c.w C Mc (0,0) hb (by omega)
   obtain⟨e',f'⟩:=f.upd (w':=c.w.setCells (c.β id).1 ((c.β id).2+off) news) (β':=c.β) (h':=s.h.put id (.cells (dA cs off new))) id (.cells (dA cs off new))
    (by rw [f.h]; exact Steady.put _ _ _) (by rw [←f.h]; exact X9 hl.1) (by simp [AHeap.put,beq_nat]) (fun ot h1=>.inr ⟨by rw [f.h]; simp [AHeap.put,beq_nat,h1],rfl⟩) (fun _=>⟨hl,rfl⟩) (.inr ⟨id,hl,rfl,.inl rfl⟩)
    (fun _=>by simp only [Cx.len,World.shape?,g1,hb,WS,XM,g2])
    (fun b _ hne=>dW _ _ _ _ _ hne) (fun b _ hne=>dW _ _ _ _ _ hne) (by rw [q1]; exact WQ _) hbs q2 q3 q4
    (fun ee=>⟨q,z7.setCells (by omega) _ _ _,by rw [jd]; exact hq,jN z7.mH hc hv hS.one (by omega) (by omega) ee rfl⟩)
   refine fin _ ?_ e' f' rfl
   rw [xK]
   exact hr
  ·have hz:new=[]∧m=0∧news=[]:=by
    rcases hlive hl with⟨h1,_⟩| h1
    ·exact absurd h1 ha
    ·have h0:m=0:=by omega
     have h2:news=[]:=XB (by rw [hnl,h0]; simp)
     subst h2
     exact⟨XB (by simpa using hvl),h0,rfl⟩
   obtain⟨rfl,rfl,rfl⟩:=hz
   have nh:dA cs off []=cs:=by simp [dA]
   rw [nh] at *
   obtain⟨e',f'⟩:=f.upd (w':=c.w) (β':=c.β) (h':=s.h.put id (.cells cs)) id (.cells cs)
    (by rw [f.h]; exact Steady.put _ _ _) (by rw [←f.h]; exact X9 hl.1) (by simp [AHeap.put,beq_nat]) (fun ot h1=>.inr ⟨by rw [f.h]; simp [AHeap.put,beq_nat,h1],rfl⟩) (fun _=>⟨hl,rfl⟩) (.inr ⟨id,hl,rfl,.inl rfl⟩)
    (fun _=>rfl) (fun b _ hne=>rfl) (fun b _ hne=>rfl) (WQ _) hbs rfl rfl rfl
    (fun ee=>rA.ext ee ⟨q,hp,hq,hc⟩ rfl)
   refine fin _ ?_ e' f' rfl
   rw [xK,hr]
   cases ad<;>rfl
end
end Go.R
namespace Go.R
open Go
section
variable {P:Program}{L0:Nat→Prop}{c0:Cx}{n:Nat}{ds:List Nat}{o:Oper}{s:RS}
theorem pX {e:TypeId}(h:CH P e=true):P.underlying e=some (.int .u8)∧ep P e=some 1:=by
 unfold CH at h
 simp only [WR,beq_iff_eq] at h
 obtain⟨h1,h2⟩:=h
 refine⟨?_,h2⟩
 split at h1
 ·assumption
 ·cases h1
theorem Bv {c:Cx}{L:Nat→Prop}:∀{cs:List AV} {l:List UInt8} {vs:List Value},G5 cs=some l→VRs c L cs vs→∃xs:List Int,vs=xs.map (Value.int .u8)∧l=xs.map fun n=>UInt8.ofNat n.toNat
 | [],l,[],h,_=>by simp only [G5,WO] at h; subst h; exact⟨[],rfl,rfl⟩
 | x::cs,l,v::vs,h,hv=>by
  unfold G5 at h
  split at h
  ·rename_i heq; cases heq
  ·rename_i n xs heq
   cases heq
   rw [WN] at h
   obtain⟨l',h1,rfl⟩:=h
   obtain⟨ys,rfl,rfl⟩:=Bv h1 hv.2
   have h2:=hv.1
   simp only [VR] at h2
   subst h2
   exact⟨n::ys,rfl,rfl⟩
  ·cases h
 | [],_,_::_,_,h=>h.elim
 | _::_,_,[],_,h=>h.elim
theorem wq (xs:List Int):strOfNums xs=⟨(xs.map fun n=>UInt8.ofNat n.toNat).toArray⟩:=rfl
theorem yf {w:World}{src dst e:TypeId}{v:Value}{m:Nat}{xs:List Int}(hs:P.underlying src=some (.slice e))(he:P.underlying e=some (.int .u8))(hd:P.underlying dst=some .string)
  (hS:Src P 1 src v m (xs.map (Value.int .u8)) w) (hv:∃a cap,v = .slice a m cap):(convert src dst v).run P w = .ok (.string (strOfNums xs)) w:=by
 obtain⟨a,cap,rfl⟩:=hv
 have hc:=hS.cells
 have hl:=hS.newsLen
 cases a with
 | none=>
  have:xs=[]:=by
   simp [Builtin.firstCells] at hc
   cases xs with
   | nil=>rfl
   | cons x xs=>simp at hc
  subst this
  exact run_convert_bytes_nil w src e hs he m cap dst hd
 | some a=>
  rw [run_convert_bytes_string w src dst e (some a) m cap hs he hd]
  have h1:(loadCells a m).run P w = .ok (xs.map (Value.int .u8)).toArray w:=by simpa [Builtin.firstCells] using hc
  rw [run_bytesToString w a m cap xs h1,foldl_push_bytes]
  simp [strOfNums,ByteArray.empty,ByteArray.emptyWithCapacity]
  rfl
theorem uE {c:Cx}{Lo:Nat→Prop}{lam:Nat→Nat}{x:AV}{v:Value}{h:AHeap}{size m:Nat}{new:List AV}(hx:SR c L0 Lo lam s.bx x v)(hc:dI h size x=some (new,m))(hne:∀st,x≠.str st):∃a cap,v = .slice a m cap:=by
 unfold dI at hc
 cases x<;>simp only at hc<;>try (cases hc; done)
 ·exact absurd rfl (hne _)
 ·cases hc
  simp only [SR,VR] at hx
  subst hx
  exact⟨none,0,rfl⟩
 ·split at hc
  ·cases hc
   simp only [SR,VR] at hx
   obtain⟨a,cap,rfl,_⟩:=hx
   exact⟨a,cap,rfl⟩
  ·cases hc
 ·split at hc
  ·split at hc
   ·cases hc
    simp only [SR,VR] at hx
    rename_i hid _
    rcases hx with⟨_,_,_,a,rfl⟩| hx
    ·exact⟨a,0,rfl⟩
    ·exact absurd hid hx.1
   ·cases hc
  rename_i lH
  rw [WM] at hc
  obtain⟨ob,_,hc⟩:=hc
  cases ob with
  | map es=>cases hc
  | row t cs=>cases hc
  | cells cs=>
   simp only at hc
   split at hc
   ·cases hc
    simp only [SR,VR] at hx
    rcases hx with hx | ⟨_,_,a,cap,rfl,_⟩
    ·exact absurd hx.1 lH
    exact⟨a,cap,rfl⟩
   ·cases hc
theorem bytes_VRs {c:Cx}{L:Nat→Prop}:∀l:List UInt8,VRs c L (l.map fun b=>AV.int .u8 b.toNat) (l.map fun b=>Value.int .u8 b.toNat)
 | []=>trivial
 | b::l=>⟨by simp [VR],bytes_VRs l⟩
theorem wu {w:World}{b o k:Nat}{C:Array Value}{e:TypeId}{fr:Nat × Nat}(hb:w.heap[b]? = some (.cells C e fr))(ho:C.size≤o)(hk:k≠0) :
  (∀b',iD w (w.freeze ⟨b,o,none⟩ k) b')∧(∀b',b'≠b→(w.freeze ⟨b,o,none⟩ k).heap[b']? = w.heap[b']?)∧(w.freeze ⟨b,o,none⟩ k).heap.size=w.heap.size∧(w.freeze ⟨b,o,none⟩ k).os=w.os∧(w.freeze ⟨b,o,none⟩ k).tape=w.tape∧(w.freeze ⟨b,o,none⟩ k).output=w.output:=by
 unfold World.freeze
 rw [if_neg hk]
 have hlt:=(Xn.1 hb).1
 refine⟨fun b'=>?_,fun b' hne=>by simp [Ye,X4 hne],by simp,rfl,rfl,rfl⟩
 by_cases hne:b'=b
 ·subst hne
  obtain⟨lo,hi⟩:=fr
  refine .inr ⟨C,e,lo,hi,(if lo==hi then (o,o+k) else (min lo o,max hi (o+k))).1,(if lo==hi then (o,o+k) else (min lo o,max hi (o+k))).2,hb,?_,?_⟩
  ·simp [Ye,hb]
  ·intro h
   by_cases O0:lo=hi
   ·subst O0; right; simpa using ho
   ·have:(lo==hi)=false:=by simpa using O0
    right
    simp only [this,W4,if_false]
    rcases h with h | h
    ·exact absurd h O0
    ·exact Nat.le_min.2 ⟨h,ho⟩
 ·exact .inl (by simp [Ye,X4 hne])
theorem Ag (hb0:c0.base≤c0.w.heap.size)(hd:fV n ds o){src dst:TypeId}{x:Operand}(ho:o.op = .convert src dst x){y:AV}(h:eS P s.h src dst (bP s.ρ x)=some y):jh P L0 c0 n ds o s (s.set o.dst y):=by
 have hex:∀(a:Act) (w w':World) v,(convert src dst (a.eval x)).run P w = .ok v w'→(execOp a.eval o).run P w = .ok (.value v) w':=by
  intro a w w' v hr; simp [execOp,ho,hr]
 unfold eS at h
 split at h
 ·rename_i e hs zL
  split at h
  rotate_left
  ·cases h
  rename_i hu
  obtain⟨he,hsz⟩:=pX hu
  rw [WM] at h
  obtain⟨⟨cs,m⟩,hcs,h⟩:=h
  rw [WN] at h
  obtain⟨l,hl,rfl⟩:=h
  by_cases hst:∃st,bP s.ρ x = .str st
  ·
   obtain⟨st,hst⟩:=hst
   refine fq hd fun a c Lo lam f hn=>?_
   have hx:=bC f x
   rw [hst] at hx hcs
   simp only [SR,VR] at hx
   simp only [dI,if_true,WO,WV] at hcs
   obtain⟨rfl,rfl⟩:=hcs
   refine⟨_,hex _ _ _ (.string st) ?_,?_⟩
   ·simp [convert,run_underlying hs,run_underlying zL,hx]
   ·have:∀(l0 l1:List UInt8),G5 (l0.map fun b=>AV.int .u8 b.toNat)=some l1→l1=l0:=by
     intro l0
     induction l0 with
     | nil=>intro l1 h; simp [G5] at h; exact h
     | cons b l0 ih=>
      intro l1 h
      simp only [Xc,G5,WN] at h
      obtain⟨l2,h2,rfl⟩:=h
      rw [ih l2 h2]
      simp
    rw [this _ _ hl]
    simp [SR,VR]
  ·refine fq hd fun a c Lo lam f hn=>?_
   have hne:∀st,bP s.ρ x≠.str st:=fun st h=>hst ⟨st,h⟩
   have hx:=bC f x
   obtain⟨news,hS,hv⟩:=pV f hx (.inl ⟨e,hs⟩) (fun st h=>absurd h (hne st)) (fun _=>⟨e,hs⟩) hcs
   obtain⟨xs,rfl,rfl⟩:=Bv hl hv
   exact⟨_,hex _ _ _ _ (yf hs he zL hS (uE hx hcs hne)),by simp [SR,VR,wq]⟩
 ·rename_i e hs zL
  cases CO:bP s.ρ x<;>rw [CO] at h<;>simp only at h<;>try (cases h; done)
  rename_i st
  split at h
  rotate_left
  ·cases h
  rename_i hu
  obtain⟨he,hsz⟩:=pX hu
  cases h
  refine sL hb0 hd (fun a c Lo lam f hn hbs=>?_) (by rintro k off h; cases h)
  have hx:=bC f x
  rw [CO] at hx
  simp only [SR,VR] at hx
  have hr:=run_bytes_of_string c.w src dst e st hs zL he
  rw [←hx] at hr
  refine⟨_,_,hex _ _ _ _ hr,fun b hb=>.inl (alloc_old c.w.drew _ (show b<c.w.heap.size from hb)),fun id hl=>alloc_old c.w.drew _ (show (c.β id).1<c.w.heap.size from f.rel.block hl),fun b hb=>alloc_old c.w.drew _ (show b<c.w.heap.size by omega),by show c.w.heap.size≤(c.w.heap.push _).size; simp,rfl,rfl,rfl,fun e'=>?_⟩
  simp only [VR]
  refine⟨_,_,rfl,grownCap_ge c.w,by simp,.inl rfl,?_⟩
  refine .inr ⟨c.w.heap.size,0,rfl,Em f.rel rfl rfl,by simp,?_⟩
  refine Cells.of_vals (bytes_VRs st.data.toList) (fun i hi=>?_) (fun v hv=>by obtain⟨b,_,rfl⟩:=Xg.1 hv; rfl)
  have lB:i<st.data.size:=by simpa using hi
  have:(World.alloc c.w.drew (.cells (bytesRow st (grownCap c.w st.size 0 e)) e ((bytesRow st (grownCap c.w st.size 0 e)).size,(bytesRow st (grownCap c.w st.size 0 e)).size+1))).heap[c.w.heap.size]? = some (.cells (bytesRow st (grownCap c.w st.size 0 e)) e ((bytesRow st (grownCap c.w st.size 0 e)).size,(bytesRow st (grownCap c.w st.size 0 e)).size+1)):=ij c.w.drew _
  rw [cell_of_block this]
  simp [bytesRow,Array.getElem?_append,lB]
  intro hge
  have:st.size=st.data.size:=rfl
  omega
 ·rename_i e0 e hs zL
  cases CO:bP s.ρ x<;>rw [CO] at h<;>try (cases h; done)
  rename_i cs m ex
  cases ex
  ·cases h
  simp only at h
  split at h
  rotate_left
  ·cases h
  rename_i hu
  simp only [WR,beq_iff_eq,decide_eq_true_eq] at hu
  obtain⟨⟨Uw,hu⟩,iO⟩:=hu
  subst Uw
  obtain⟨he,hsz⟩:=pX hu
  cases h
  refine sL hb0 hd (fun a c Lo lam f hn hbs=>?_) (by rintro k off h; cases h)
  have hx:=bC f x
  rw [CO] at hx
  have HA:=hx.vr (by rintro k off h; cases h)
  simp only [SR,VR] at hx
  obtain⟨ad,cap,r8,h1,h2,_,h3⟩:=hx
  rcases h3 with rfl | ⟨b,off,rfl,LR,hbb,hc⟩
  ·simp at iO
  have hlt:b<c.w.heap.size:=by
   cases cs with
   | nil=>simp at iO
   | cons x cs=>exact jK hc
  have nh:∃C e' fr,c.w.heap[b]? = some (.cells C e' fr):=by
   cases cs with
   | nil=>simp at iO
   | cons x cs=>
    obtain⟨⟨v,hv,_⟩,_⟩:=hc
    unfold World.cell? at hv
    split at hv
    ·exact⟨_,_,_,by assumption⟩
    ·cases hv
  obtain⟨C,e',fr,hb⟩:=nh
  obtain⟨k1,k2,k3,k4,k5,k6⟩:=wu (k:=1) hb (WQ C.size) (by decide)
  refine⟨c.w.freeze ⟨b,C.size,none⟩ 1,a.eval x,hex _ _ _ _ ?_,fun b' _=>k1 b',fun id hl=>k2 _ (LR.1 id hl),fun b' DX=>k2 b' (by have:=hbb trivial; omega),by rw [k3]; exact WQ _,k4,k5,k6,fun Mc=>VR.ext Mc _ _ HA⟩
  rw [r8]
  have Ux:c.w.shape? b=some (e',C.size):=by simp [World.shape?,hb]
  simp [convert,run_underlying zL,run_underlying he,markStringish,Ux]
 ·rw [WM] at h
  obtain⟨v,hv,h⟩:=h
  rw [WM] at h
  obtain⟨r,hr,h⟩:=h
  refine fq hd fun a c Lo lam f hn=>?_
  have hx:=kB hv ((bC f x).vr (kC hv))
  exact⟨r,hex _ _ _ _ (by rw [hx]; exact j4 _ hr),SR.of (mI h)⟩
theorem dF {op:BinOp}{t:TypeId}{x y:Operand}{u v:Value}(h:(∀a b,u≠.agg a∨v≠.agg b)∧u≠.nilIface)(w:World):(eqGuard op t x y u v).run P w = .ok () w:=by
 obtain⟨h1,h2⟩:=h
 unfold eqGuard
 cases op<;>first | rfl | skip
 all_goals
  simp only [Bool.not_true,W4,if_false]
  split
  ·exact absurd rfl h2
  ·rename_i a b; rcases h1 a b with h3 | h3<;>exact absurd rfl h3
  ·rfl
theorem Ah {x:AV}{u:Value}(h:x.fD=some u):(∀a,u≠.agg a)∧u≠.nilIface:=by
 unfold AV.fD at h
 split at h<;>first | (cases h; done) | (cases h; exact⟨fun _=>(by simp),(by simp)⟩)
theorem CV {op:BinOp}{a b:ByteArray}{y:AV}(h:zT op a b=some y)(w:World):∃r,(Op.stringOp op a b).run P w = .ok r w∧∀(c:Cx) (L:Nat→Prop),VR c L y r:=by
 have hl:∀z:ByteArray,z.toList=z.data.toList:=fun z=>ByteArray.toList_eq z
 unfold zT at h
 unfold Op.stringOp
 simp only [hl]
 cases op<;>simp only at h<;>try (cases h; done)
 ·split at h
  rotate_left
  ·cases h
  rename_i hsz
  cases h
  refine⟨.string (a++b),?_,fun c L=>by simp only [VR]⟩
  have h1:¬(((a.size+b.size:Nat):Int) > IntKind.i64.max):=by
   have:IntKind.i64.max=9223372036854775807:=by decide
   rw [this]; omega
  simp only [h1,if_false]
  rfl
 all_goals (cases h; exact⟨_,rfl,fun c L=>by simp only [VR]⟩)
theorem mK {op:BinOp}{pJ:Bool}(h:zU op=some pJ):(op = .eql∧pJ=true)∨(op = .neq∧pJ=false):=by
 unfold zU at h
 split at h<;>cases h
 ·exact .inl ⟨rfl,rfl⟩
 ·exact .inr ⟨rfl,rfl⟩
theorem nJ {t:TypeId}(ht:∃q,P.underlying t=some (.pointer q)){a:Addr}{op:BinOp}{pJ:Bool}(h:zU op=some pJ)(w:World) :
  (binOp op t (.pointer (some a)) (.pointer none)).run P w = .ok (.bool (!pJ)) w∧(binOp op t (.pointer none) (.pointer (some a))).run P w = .ok (.bool (!pJ)) w:=by
 obtain⟨q,hq⟩:=ht
 have e1:(Op.equal t (.pointer (some a)) (.pointer none)).run P w = .ok false w:=by
  unfold Op.equal Op.maxDepth
  unfold Op.equalIn
  simp [br hq]
 have e2:(Op.equal t (.pointer none) (.pointer (some a))).run P w = .ok false w:=by
  unfold Op.equal Op.maxDepth
  unfold Op.equalIn
  simp [br hq]
 rcases mK h with⟨rfl,rfl⟩| ⟨rfl,rfl⟩
 ·constructor
  ·show ((do pure (.bool (←Op.equal t (.pointer (some a)) (.pointer none)))):Sem Value).run P w=_
   simp [e1]
  ·show ((do pure (.bool (←Op.equal t (.pointer none) (.pointer (some a))))):Sem Value).run P w=_
   simp [e2]
 ·constructor
  ·show ((do pure (.bool (!(←Op.equal t (.pointer (some a)) (.pointer none))))):Sem Value).run P w=_
   simp [e1]
  ·show ((do pure (.bool (!(←Op.equal t (.pointer none) (.pointer (some a)))))):Sem Value).run P w=_
   simp [e2]
theorem oz {t:TypeId}(ht:∃q,P.underlying t=some (.slice q)){ad:Option Addr}(hs:ad.isSome=true){m cap:Nat}{op:BinOp}{pJ:Bool}(h:zU op=some pJ)(w:World) :
  (binOp op t (.slice ad m cap) (.slice none 0 0)).run P w = .ok (.bool (!pJ)) w:=by
 obtain⟨q,hq⟩:=ht
 obtain⟨a,rfl⟩:=Xr.1 hs
 have e1:(Op.equal t (.slice (some a) m cap) (.slice none 0 0)).run P w = .ok false w:=by
  unfold Op.equal Op.maxDepth
  unfold Op.equalIn
  simp [br hq]
 rcases mK h with⟨rfl,rfl⟩| ⟨rfl,rfl⟩
 ·show ((do pure (.bool (←Op.equal t (.slice (some a) m cap) (.slice none 0 0)))):Sem Value).run P w=_
  simp [e1]
 ·show ((do pure (.bool (!(←Op.equal t (.slice (some a) m cap) (.slice none 0 0))))):Sem Value).run P w=_
  simp [e1]
theorem Er (hd:fV n ds o){op:BinOp}{t t2:TypeId}{x y:Operand}(ho:o.op = .binOp op t x y t2){z:AV}(h:lU P op t (bP s.ρ x) (bP s.ρ y)=some z):jh P L0 c0 n ds o s (s.set o.dst z):=by
 refine fq hd fun a c Lo lam f hn=>?_
 have hx:=bC f x
 have hy:=bC f y
 have hex:∀v,(eqGuard op t x y (a.eval x) (a.eval y)).run P c.w = .ok () c.w→(binOp op t (a.eval x) (a.eval y)).run P c.w = .ok v c.w→(execOp a.eval o).run P c.w = .ok (.value v) c.w:=by
  intro v h1 h2; simp [execOp,ho,h1,h2]
 unfold lU at h
 split at h
 ·rename_i p q hp hq
  rw [hp] at hx; rw [hq] at hy
  simp only [SR,VR] at hx hy
  obtain⟨r,hr,hv⟩:=CV (P:=P) h c.w
  refine⟨r,hex _ (dF ⟨fun _ _=>.inl (by rw [hx]; simp),by rw [hx]; simp⟩ _) ?_,SR.of (hv _ _)⟩
  rw [hx,hy]
  unfold binOp
  simpa using hr
 ·rename_i p q hp hq
  rw [hp] at hx; rw [hq] at hy
  simp only [SR,VR] at hx hy
  obtain⟨_,ad,r8,_⟩:=hx
  rw [WM] at h
  obtain⟨pJ,rD,h⟩:=h
  split at h
  rotate_left
  ·cases h
  rename_i ht
  cases h
  refine⟨.bool (!pJ),hex _ (dF ⟨fun _ _=>.inl (by rw [r8]; simp),by rw [r8]; simp⟩ _) ?_,SR.of (by simp [VR])⟩
  rw [r8,hy]
  exact (nJ ⟨_,ht⟩ rD _).1
 ·rename_i p q hp hq
  rw [hp] at hx; rw [hq] at hy
  simp only [SR,VR] at hx hy
  obtain⟨_,ad,Oe,_⟩:=hy
  rw [WM] at h
  obtain⟨pJ,rD,h⟩:=h
  split at h
  rotate_left
  ·cases h
  rename_i ht
  cases h
  refine⟨.bool (!pJ),hex _ (dF ⟨fun _ _=>.inl (by rw [hx]; simp),by rw [hx]; simp⟩ _) ?_,SR.of (by simp [VR])⟩
  rw [hx,Oe]
  exact (nJ ⟨_,ht⟩ rD _).2
 ·rename_i p q hp hq
  rw [hp] at hx; rw [hq] at hy
  simp only [SR,VR] at hx hy
  obtain⟨b,off,r8,_⟩:=hx
  rw [WM] at h
  obtain⟨pJ,rD,h⟩:=h
  split at h
  rotate_left
  ·cases h
  rename_i ht
  cases h
  refine⟨.bool (!pJ),hex _ (dF ⟨fun _ _=>.inl (by rw [r8]; simp),by rw [r8]; simp⟩ _) ?_,SR.of (by simp [VR])⟩
  rw [r8,hy]
  exact (nJ ⟨_,ht⟩ rD _).1
 ·rename_i hp hq
  rw [hp] at hx; rw [hq] at hy
  simp only [SR,VR] at hx hy
  obtain⟨ad,cap,r8,_,_,hs,_⟩:=hx
  replace hs:ad.isSome=true:=hs.elim id fun h=>by cases h.1
  rw [WM] at h
  obtain⟨pJ,rD,h⟩:=h
  split at h
  rotate_left
  ·cases h
  rename_i ht
  cases h
  refine⟨.bool (!pJ),hex _ (dF ⟨fun _ _=>.inl (by rw [r8]; simp),by rw [r8]; simp⟩ _) ?_,SR.of (by simp [VR])⟩
  rw [r8,hy]
  exact oz ⟨_,ht⟩ hs rD _
 ·rename_i hp hq
  rw [hp] at hx; rw [hq] at hy
  simp only [SR,VR] at hx hy
  rcases hx with⟨hx,_⟩| ⟨_,_,ad,cap,r8,_,hs,_⟩
  ·omega
  rw [WM] at h
  obtain⟨pJ,rD,h⟩:=h
  split at h
  rotate_left
  ·cases h
  rename_i ht
  cases h
  refine⟨.bool (!pJ),hex _ (dF ⟨fun _ _=>.inl (by rw [r8]; simp),by rw [r8]; simp⟩ _) ?_,SR.of (by simp [VR])⟩
  rw [r8,hy]
  exact oz ⟨_,ht⟩ hs rD _
 ·rename_i p q hp hq
  rw [hp,hq] at h
  rw [hp] at hx; rw [hq] at hy
  have HA:=hx.vr (by rintro k off h; cases h)
  have O3:=hy.vr (by rintro k off h; cases h)
  rw [WM] at h
  obtain⟨pJ,rD,h⟩:=h
  split at h
  rotate_left
  ·cases h
  rename_i jO
  simp only [WR,X8] at jO
  obtain⟨⟨⟨h1,h2⟩,h3⟩,h4⟩:=jO
  cases h
  have hk:=u7 (P:=P) 9998 h1 h3 HA O3 c.w
  simp only [VR] at HA O3
  obtain⟨vx,r8,_⟩:=HA
  obtain⟨vy,Oe,_⟩:=O3
  refine⟨.bool (fT (.agg p) (.agg q)==pJ),hex _ ?_ ?_,SR.of (by simp only [VR])⟩
  ·rw [r8,Oe]
   rcases mK rD with⟨rfl,rfl⟩| ⟨rfl,rfl⟩<;>simp [eqGuard,h4,program,Sem.run]
  ·rw [r8,Oe] at hk ⊢
   rcases mK rD with⟨rfl,rfl⟩| ⟨rfl,rfl⟩
   ·show ((do pure (.bool (←Op.equal t (.agg vx) (.agg vy)))):Sem Value).run P c.w=_
    have LX:(Op.equal t (.agg vx) (.agg vy)).run P c.w=_:=hk
    simp [LX]
   ·show ((do pure (.bool (!(←Op.equal t (.agg vx) (.agg vy))))):Sem Value).run P c.w=_
    have LX:(Op.equal t (.agg vx) (.agg vy)).run P c.w=_:=hk
    simp [LX]
 ·rw [WM] at h
  obtain⟨u,hu,h⟩:=h
  rw [WM] at h
  obtain⟨v,hv,h⟩:=h
  rw [WM] at h
  obtain⟨r,hr,h⟩:=h
  have h1:=kB hu (hx.vr (kC hu))
  have h2:=kB hv (hy.vr (kC hv))
  have h3:=Ah hu
  exact⟨r,hex _ (dF ⟨fun p _=>.inl (by rw [h1]; exact h3.1 p),by rw [h1]; exact h3.2⟩ _) (by rw [h1,h2]; exact j4 _ hr),SR.of (mI h)⟩
theorem HB (hd:fV n ds o){op:UnOp}{t:TypeId}{x:Operand}(ho:o.op = .unOp op t x){z:AV}(h:((bP s.ρ x).fD.bind fun a=>(iz P (Op.unary op a)).bind om)=some z):jh P L0 c0 n ds o s (s.set o.dst z):=by
 refine fq hd fun a c Lo lam f hn=>?_
 rw [WM] at h
 obtain⟨u,hu,h⟩:=h
 rw [WM] at h
 obtain⟨r,hr,h⟩:=h
 have h1:=kB hu ((bC f x).vr (kC hu))
 refine⟨r,?_,SR.of (mI h)⟩
 have:=j4 (P:=P) c.w hr
 rw [←h1] at this
 simp [execOp,ho,this]
theorem Bw (hd:fV n ds o){x:Operand}(ho:o.op = .move x∨o.op = .assign x):jh P L0 c0 n ds o s (s.set o.dst (bP s.ρ x)):=
 fq hd fun a c Lo lam f hn=>⟨a.eval x,by rcases ho with ho | ho<;>simp [execOp,ho],bC f x⟩
theorem HC (hd:fV n ds o){k x y:Operand}(ho:o.op = .pick k x y){t:Bool}(h:sv (bP s.ρ k)=some t):jh P L0 c0 n ds o s (s.set o.dst (if t then bP s.ρ x else bP s.ρ y)):=by
 refine fq hd fun a c Lo lam f hn=>?_
 have hk:=bC f k
 unfold sv at h
 split at h
 ·rename_i b hb
  cases h
  rw [hb] at hk
  simp only [SR,VR] at hk
  refine⟨if t then a.eval x else a.eval y,by simp [execOp,ho,hk,asBool],?_⟩
  cases t
  ·exact bC f y
  ·exact bC f x
 ·cases h
theorem yg (hd:fV n ds o){x:Operand}(ho:o.op = .nilCheck x){z:AV}(h:pO (bP s.ρ x)=some z):jh P L0 c0 n ds o s (s.set o.dst z):=by
 refine fq hd fun a c Lo lam f hn=>?_
 have hx:=bC f x
 have hp:(∃ad,a.eval x = .pointer (some ad))∧z=bP s.ρ x:=by
  unfold pO at h
  split at h
  ·rename_i id off heq
   cases h
   rw [heq] at hx
   simp only [SR,VR] at hx
   obtain⟨_,ad,h1,_⟩:=hx
   exact⟨⟨ad,h1⟩,heq.symm⟩
  ·rename_i k off heq
   cases h
   rw [heq] at hx
   simp only [SR] at hx
   exact⟨⟨_,hx.1⟩,heq.symm⟩
  ·rename_i cs off heq
   cases h
   rw [heq] at hx
   simp only [SR,VR] at hx
   obtain⟨b,o',h1,_⟩:=hx
   exact⟨⟨_,h1⟩,heq.symm⟩
  ·cases h
 obtain⟨⟨ad,hp⟩,rfl⟩:=hp
 exact⟨a.eval x,by simp [execOp,ho,hp],hx⟩
theorem mL {c:Cx}{Lo:Nat→Prop}{lam:Nat→Nat}{a:Act}(f:Fr L0 c Lo lam ds s a):∀xs:List Operand,(∀x∈xs,∀k off,bP s.ρ x≠.lp k off)→VRs c (un L0 Lo) (xs.map (bP s.ρ)) (xs.map a.eval)
 | [],_=>trivial
 | x::xs,h=>⟨(bC f x).vr (h x (by simp)),mL f xs fun y hy=>h y (by simp [hy])⟩
theorem CW {x:AV}(h:x.cK=true):∀k off,x≠.lp k off:=by rintro k off rfl; simp [AV.cK] at h
theorem yh (hd:fV n ds o){Ai:FuncId}{first cap:Array Operand}(ho:o.op = .makeFunc (.func Ai) first cap)(hf:first.isEmpty=true)(hc:(cap.toList.map (bP s.ρ)).all AV.cK=true):jh P L0 c0 n ds o s (s.set o.dst (.fn Ai (cap.toList.map (bP s.ρ)))):=by
 refine fq hd fun a c Lo lam f hn=>?_
 have Mg:first = #[]:=by simpa using hf
 subst Mg
 refine⟨.func (.func Ai) #[] (cap.map a.eval),by simp [execOp,ho,Instr.makeFunc],SR.of ?_⟩
 simp only [VR]
 refine⟨_,rfl,?_⟩
 rw [Array.toList_map]
 refine mL f _ fun x hx=>CW ?_
 rw [Xd] at hc
 exact hc _ (Xg.2 ⟨x,hx,rfl⟩)
theorem Aj (hd:fV n ds o){x:Operand}{i:Nat}(ho:o.op = .extract x i){z:AV}(h:sw (bP s.ρ x) i=some z):jh P L0 c0 n ds o s (s.set o.dst z):=by
 refine fq hd fun a c Lo lam f hn=>?_
 have hx:=bC f x
 cases heq:bP s.ρ x<;>rw [heq] at h hx<;>simp only [sw] at h<;>try (cases h; done)
 rename_i vs
 simp only [SR,VR] at hx
 obtain⟨us,r8,DY⟩:=hx
 obtain⟨v,hv,hr⟩:=DY.get i z h
 have O4:us[i]? = some v:=by simpa using hv
 exact⟨v,by simp [execOp,ho,r8,Instr.extract,O4],SR.of hr⟩
theorem qW {op:Value→Value→Sem Value}:∀(vs:List Value) (v r:Value) (w:World),kU P op v vs=some r→(vs.foldlM op v).run P w = .ok r w
 | [],v,r,w,h=>by simp only [kU,WO] at h; subst h; rfl
 | x::xs,v,r,w,h=>by
  simp only [kU,WM] at h
  obtain⟨u,h1,h2⟩:=h
  simp only [List.foldlM_cons,Sem.run_bind,j4 w h1,Result.andThen_ok]
  exact qW xs u r w h2
theorem vf (hd:fV n ds o){b:Builtin}{Bx:Array TypeId}{args:Array Operand}(ho:o.op = .call {callee:=.builtin b,args:=args,argTypes:=Bx}){op:Value→Value→Sem Value}(hb:(b = .min∧op=Builtin.min2)∨(b = .max∧op=Builtin.max2))
  {x:AV} {xs:List AV} (he:args.toList.map (bP s.ρ)=x::xs) {v u:Value} {vs:List Value} (hx:x.fD=some v) (hxs:iR xs=some vs) (hf:kU P op v vs=some u) {z:AV} (hz:om u=some z):jh P L0 c0 n ds o s (s.set o.dst z):=by
 refine fq hd fun a c Lo lam f hn=>?_
 refine⟨u,?_,SR.of (mI hz)⟩
 have hne:∀q:Operand,∀k off,bP s.ρ q = .lp k off→q∉args.toList:=by
  intro q k off hq hm
  have uF:AV.lp k off∈x::xs:=by rw [←he,←hq]; exact Xg.2 ⟨q,hm,rfl⟩
  rcases Xs.1 uF with h1 | h1
  ·exact kC hx k off h1.symm
  ·have:∀(ys:List AV) (us:List Value),iR ys=some us→AV.lp k off∉ys:=by
    intro ys
    induction ys with
    | nil=>intro us _ h; cases h
    | cons y ys ih=>
     intro us hu hm
     simp only [iR,WM] at hu
     obtain⟨u1,h2,Wr,h3,_⟩:=hu
     rcases Xs.1 hm with h4 | h4
     ·exact kC h2 k off h4.symm
     ·exact ih _ h3 h4
   exact this _ _ hxs h1
 have Bs:=mL f args.toList (fun q hq k off h=>hne q k off h hq)
 rw [he] at Bs
 have kG:args.toList.map a.eval=v::vs:=pT (xs:=x::xs) (us:=v::vs) (by simp [iR,hx,hxs]) Bs
 have hr:=qW vs v u c.w hf
 have hargs:args.map a.eval=(v::vs).toArray:=by rw [←kG]; apply Ym; simp
 rcases hb with⟨rfl,rfl⟩| ⟨rfl,rfl⟩
 ·simp [execOp,ho,resolve,invoke,builtin,Builtin.min_,hargs,hr]
 ·simp [execOp,ho,resolve,invoke,builtin,Builtin.max_,hargs,hr]
end
end Go.R
namespace Go.R
open Go
def CallOK (P:Program)(cf:CallF):Prop:=
 ∀f args h r h',cf f args h=some (r,h')→
  (∀(vs:Array Value) (w:World),(callFunc f vs).run P w = .ok (.enter f vs) w)∧
  ∀(L0:Nat→Prop) (c:Cx) (vs:List Value),c.h=h→c.base≤c.w.heap.size→HRel c L0→VRs c L0 args vs→
   Calls P f vs.toArray c.w fun e w'=>∃c' v,e = .returned v∧c'.w=w'∧c'.h=h'∧VR c' L0 r v∧HRel c' L0∧Ext c none0 c' none0
section
variable {P:Program}{L0:Nat→Prop}{c0:Cx}{n:Nat}{ds:List Nat}{o:Oper}{s:RS}
theorem Fr.call {c c':Cx}{Lo:Nat→Prop}{lam:Nat→Nat}{a:Act}(f:Fr L0 c Lo lam ds s a)(hr:HRel c' (un L0 Lo))(e:Ext c none0 c' none0) :
  Ext c Lo c' Lo∧Fr L0 c' Lo lam ds {s with h:=c'.h} a:=by
 have zJ:∀b,Lo b→b<c.w.heap.size:=fun b hb=>f.rel.bd b (.inr hb)
 have e':Ext c Lo c' Lo:=
  ⟨e.next,e.live,e.size,fun b h1 _ h3=>e.gg b h1 (fun h=>h.elim) h3,e.exact,e.base,e.IJ,fun _ h=>h,fun _ h=>.inl h,e.os,e.tape,e.output⟩
 refine⟨e',rfl,hr,fun t=>(f.slot t).ext e' (fun _ _ _=>⟨rfl,fun h=>h⟩),fun k cs hb=>?_,f.inj,f.tidy,f.defers,fun b hb=>by rw [e.base]; exact f.D9 b hb⟩
 have ob:=f.box k cs hb
 exact ob.ext e' (e.gg _ ob.plain.lt (fun h=>h.elim) fun id hl he=>f.rel.out id hl (he ▸ .inr ob.own))
theorem HD {cf:CallF}(hcf:CallOK P cf)(hb0:c0.base≤c0.w.heap.size)(hd:fV n ds o){fx:Operand}{args:Array Operand}{Bx:Array TypeId}(ho:o.op = .call {callee:=.value fx,args:=args,argTypes:=Bx}){Ai:FuncId}{cap:List AV}
  (hf:bP s.ρ fx = .fn Ai cap) (ha:(args.toList.map (bP s.ρ)).all AV.lz=true) {r:AV} {h':AHeap} (h:cf Ai (args.toList.map (bP s.ρ)++cap) s.h=some (r,h')) :
  jh P L0 c0 n ds o s ({s with h:=h'}.set o.dst r):=by
 rintro a w K Q ⟨hn,c,Lo,lam,rfl,f,e0⟩ hK
 obtain⟨hin,hcall⟩:=hcf _ _ _ _ _ h
 have O5:=bC f fx
 rw [hf] at O5
 simp only [SR,VR] at O5
 obtain⟨cv,Uy,L2⟩:=O5
 have hargs:VRs c (un L0 Lo) (args.toList.map (bP s.ρ)) (args.toList.map a.eval):=by
  refine mL f _ fun x hx=>sQ ?_
  rw [Xd] at ha
  exact ha _ (Xg.2 ⟨x,hx,rfl⟩)
 have kG:=VRs.append hargs L2
 unfold Oper.wp
 have:(execOp a.eval o).run P c.w = .ok (.enter Ai (args.map a.eval++cv)) c.w:=by
  simp [execOp,ho,resolve,Uy,Deferred.ofValue,invoke,hin]
 rw [this,Oper.upon_enter]
 have hc:=hcall (un L0 Lo) c _ f.h (jy e0 hb0) f.rel kG
 have he:(args.toList.map a.eval++cv.toList).toArray=args.map a.eval++cv:=by
  apply Ym; simp
 rw [he] at hc
 refine Calls.mono hc ?_
 rintro e w' ⟨c',v,rfl,rfl,hh,hv,hrel,JC⟩
 obtain⟨e',f'⟩:=f.call hrel JC
 rw [hh] at f'
 exact hK _ _ ⟨(gu _ _ _).trans hn,c',Lo,lam,rfl,f'.set (SR.of hv) (fun t ht=>by rw [hn]; exact hd t ht),e0.trans e'⟩
theorem Option.map_some' {α β:Type}{x:Option α}{g:α→β}{y:β}(h:x.map g=some y):∃z,x=some z∧g z=y:=WN.1 h
theorem vg {aG:List Nat}{cs:List AV}{s':RS}(h:ia s aG ds o cs=some s'):cs.all AV.cK=true:=by
 unfold ia at h
 split at h
 ·assumption
 ·cases h
theorem JD {cf:CallF}(hcf:CallOK P cf)(hb0:c0.base≤c0.w.heap.size)(hd:fV n ds o){aG:List Nat}{s':RS}(h:vX P cf aG ds s o=some s'):jh P L0 c0 n ds o s s':=by
 have dB:∀{x:Option AV},(x.map fun x=>s.set o.dst x)=some s'→(∀z,x=some z→jh P L0 c0 n ds o s (s.set o.dst z))→jh P L0 c0 n ds o s s':=by
  intro x hx hz
  obtain⟨z,rfl,rfl⟩:=Option.map_some' hx
  exact hz z rfl
 unfold vX zV at h
 dsimp only at h
 split at h
 ·rename_i x ho; cases h; exact Bw hd (.inl ho)
 ·rename_i x ho; cases h; exact Bw hd (.inr ho)
 ·rename_i k x y ho
  obtain⟨t,ht,rfl⟩:=Option.map_some' h
  exact HC hd ho ht
 ·
  rename_i t ho
  rw [WM] at h
  obtain⟨z,hz,h⟩:=h
  refine vb hb0 hd t h fun a c Lo lam f hn=>?_
  have ou:=vg h
  obtain⟨v,h1,h2,h3⟩:=CQ (P:=P) (c:=c) hz (Hw ou) (un L0 Lo)
  exact⟨v,by simp [execOp,ho,h1],Hv h2,h3⟩
 ·
  rename_i t x ho
  refine vb hb0 hd t h fun a c Lo lam f hn=>?_
  have ou:(bP s.ρ x).cells.all AV.cK=true:=vg h
  obtain⟨h1,h2⟩:=ji ou ((bC f x).r7 ou)
  exact⟨a.eval x,by simp [execOp,ho,Instr.box,newVar,newRow],h1,h2⟩
 ·rename_i t ps ho
  refine dB h fun z hz=>fq hd fun a c Lo lam f hn=>?_
  obtain⟨v,hr,hv⟩:=run_build (P:=P) (ow f ps.toList) hz
  refine⟨v,?_,SR.of hv⟩
  have he:ps.map (fun (i,x)=>(i,a.eval x))=(ps.toList.map fun (i,x)=>(i,a.eval x)).toArray:=by
   apply Ym; simp
  simp only [execOp,ho,Sem.run_bind]
  rw [he,hr]
  rfl
 ·rename_i t k ps ho
  rw [WN] at h
  obtain⟨z,hz,rfl⟩:=h
  exact sM hb0 hd ho aG hz
 ·
  rename_i t x ho
  refine dB h fun z hz=>fq hd fun a c Lo lam f hn=>?_
  obtain⟨r,hr,hv⟩:=sD (P:=P) f (t:=t) (bC f x) hz
  exact⟨r,by simp [execOp,ho,hr],SR.of hv⟩
 ·
  rename_i t x y ho
  split at h
  ·cases h
  rename_i rC
  exact Ei hb0 hd ho (by simpa using rC) h
 ·rename_i ho; exact dB h fun z hz=>yg hd ho hz
 ·rename_i ho; exact dB h fun z hz=>Er hd ho hz
 ·rename_i ho; exact dB h fun z hz=>HB hd ho hz
 ·rename_i ho; exact dB h fun z hz=>Ag hb0 hd ho hz
 ·rename_i Ai first cap ho
  split at h
  ·rename_i hh
   refine dB h fun z hz=>?_
   cases hz
   exact yh hd ho hh.1 hh.2
  ·cases h
 ·rename_i ho; cases h; exact Aa hb0 hd ho
 ·rename_i ho; exact wi hb0 hd ho h
 ·
  rename_i t x lo hi mx ho
  refine dB h fun z hz=>fq hd fun a c Lo lam f hn=>?_
  have hs:∀(q:Option Operand) (y:AV),q.map (bP s.ρ)=some y→∃v,q.map a.eval=some v∧SR c L0 Lo lam s.bx y v:=by
   intro q y hq
   obtain⟨u,rfl,rfl⟩:=Option.map_some' hq
   exact⟨_,rfl,bC f u⟩
  have Lu:∀(q:Option Operand),q.map (bP s.ρ)=none→q.map a.eval=none:=by
   intro q hq
   simpa using hq
  obtain⟨r,hr,hv⟩:=z6 (P:=P) (bC f x) (hs lo) (Lu lo) (hs hi) (Lu hi) (hs mx) (Lu mx) hz
  exact⟨r,by simp [execOp,ho,hr],SR.of hv⟩
 ·rename_i t x i ho
  refine dB h fun z hz=>fq hd fun a c Lo lam f hn=>?_
  obtain⟨r,hr,hv⟩:=xU (P:=P) (bC f x) hz
  exact⟨r,by simp [execOp,ho,hr],hv⟩
 ·rename_i t x i ho
  refine dB h fun z hz=>fq hd fun a c Lo lam f hn=>?_
  obtain⟨r,hr,hv⟩:=zY (P:=P) (bC f x) hz
  exact⟨r,by simp [execOp,ho,hr],SR.of hv⟩
 ·rename_i t x i ho
  refine dB h fun z hz=>fq hd fun a c Lo lam f hn=>?_
  obtain⟨r,hr,hv⟩:=xT (P:=P) (bC f x) (bC f i) hz
  exact⟨r,by simp [execOp,ho,hr],hv⟩
 ·rename_i t x i ho
  refine dB h fun z hz=>fq hd fun a c Lo lam f hn=>?_
  obtain⟨r,hr,hv⟩:=zZ (P:=P) (bC f x) (bC f i) hz
  exact⟨r,by simp [execOp,ho,hr],SR.of hv⟩
 ·rename_i t m k ok ho
  refine dB h fun z hz=>fq hd fun a c Lo lam f hn=>?_
  obtain⟨r,hr,hv⟩:=xZ (P:=P) f (bC f m) (bC f k) hz
  exact⟨r,by simp [execOp,ho,hr],SR.of hv⟩
 ·rename_i t m k x ho
  split at h
  ·cases h
  rename_i rC
  obtain⟨h',hh,rfl⟩:=Option.map_some' h
  exact oy hb0 (.inl ho) (by simpa using rC) hh
 ·rename_i t m k x ho
  split at h
  ·cases h
  rename_i rC
  obtain⟨h',hh,rfl⟩:=Option.map_some' h
  exact oy hb0 (.inr ho) (by simpa using rC) hh
 ·rename_i ho; exact dB h fun z hz=>Aj hd ho hz
 ·
  rename_i b args Bx ho
  unfold gq at h
  split at h
  ·rename_i t x hts hargs
   have Ak:Bx = #[t]:=by apply Ym; simpa using hts
   obtain⟨q,hq,rfl⟩:∃q,args = #[q]∧bP s.ρ q=x:=by
    cases args with | mk l=>
    rcases l with _ | ⟨q,_ | ⟨q2,l⟩⟩<;>simp at hargs
    exact⟨q,rfl,hargs⟩
   subst Ak hq
   refine dB h fun z hz=>fq hd fun a c Lo lam f hn=>?_
   obtain⟨r,hr,hv⟩:=Ee (P:=P) f #[t] rfl (bC f q) hz o.type
   exact⟨r,by simp [execOp,ho,resolve,invoke,builtin,hr],SR.of hv⟩
  ·rename_i t t2 x y hts hargs
   have Ak:Bx = #[t,t2]:=by apply Ym; simpa using hts
   obtain⟨q,q2,hq,rfl,rfl⟩:∃q q2,args = #[q,q2]∧bP s.ρ q=x∧bP s.ρ q2=y:=by
    cases args with | mk l=>
    rcases l with _ | ⟨q,_ | ⟨q2,_ | ⟨q3,l⟩⟩⟩<;>simp at hargs
    exact⟨q,q2,rfl,hargs.1,hargs.2⟩
   subst Ak hq
   exact CT hb0 hd ho h
  ·rename_i t t2 x y hts hargs
   have Ak:Bx = #[t,t2]:=by apply Ym; simpa using hts
   obtain⟨q,q2,hq,rfl,rfl⟩:∃q q2,args = #[q,q2]∧bP s.ρ q=x∧bP s.ρ q2=y:=by
    cases args with | mk l=>
    rcases l with _ | ⟨q,_ | ⟨q2,_ | ⟨q3,l⟩⟩⟩<;>simp at hargs
    exact⟨q,q2,rfl,hargs.1,hargs.2⟩
   subst Ak hq
   obtain⟨⟨z,h'⟩,hh,rfl⟩:=Option.map_some' h
   exact Hz hb0 hd ho hh
  ·rename_i t x hts hargs
   have Ak:Bx = #[t]:=by apply Ym; simpa using hts
   obtain⟨q,hq,rfl⟩:∃q,args = #[q]∧bP s.ρ q=x:=by
    cases args with | mk l=>
    rcases l with _ | ⟨q,_ | ⟨q2,l⟩⟩<;>simp at hargs
    exact⟨q,rfl,hargs⟩
   subst Ak hq
   obtain⟨h',hh,rfl⟩:=Option.map_some' h
   exact Ep hb0 hd ho hh
  ·rename_i x xs hargs
   rw [WM] at h
   obtain⟨v,hv,h⟩:=h
   rw [WM] at h
   obtain⟨vs,DY,h⟩:=h
   rw [WM] at h
   obtain⟨u,hu,h⟩:=h
   exact dB h fun z hz=>vf hd ho (.inl ⟨rfl,rfl⟩) hargs hv DY hu hz
  ·rename_i x xs hargs
   rw [WM] at h
   obtain⟨v,hv,h⟩:=h
   rw [WM] at h
   obtain⟨vs,DY,h⟩:=h
   rw [WM] at h
   obtain⟨u,hu,h⟩:=h
   exact dB h fun z hz=>vf hd ho (.inr ⟨rfl,rfl⟩) hargs hv DY hu hz
  ·cases h
 ·
  rename_i fx args Bx ho
  split at h
  ·rename_i Ai cap heq
   split at h
   ·rename_i ha
    obtain⟨⟨r,h'⟩,hh,rfl⟩:=Option.map_some' h
    exact HD hcf hb0 hd ho heq ha hh
   ·cases h
  ·cases h
 ·cases h
end
end Go.R
namespace Go.R
open Go
section
variable {P:Program}{L0:Nat→Prop}{c0:Cx}{n:Nat}{ds:List Nat}{s:RS}
theorem Fr.JE {c:Cx}{Lo:Nat→Prop}{lam:Nat→Nat}{a:Act}(f:Fr L0 c Lo lam ds s a)(id:Nat) :
  Ext c Lo ⟨c.β,c.h.kill id,c.w,c.base⟩ Lo∧Fr L0 ⟨c.β,c.h.kill id,c.w,c.base⟩ Lo lam ds {s with h:=s.h.kill id} a∧(Live c.h id→RO ⟨c.β,c.h.kill id,c.w,c.base⟩ (un L0 Lo) (c.β id).1):=by
 have hg:∀i,(c.h.kill id).get i=if i=id then none else c.h.get i:=fun i=>by
  simp only [AHeap.kill,beq_nat]
  by_cases h:i=id<;>simp [h]
 have oa:∀i,Live (c.h.kill id) i→i≠id∧Live c.h i:=fun i hl=>by
  have h2:=hl.2
  rw [hg] at h2
  by_cases h:i=id
  ·rw [if_pos h] at h2; cases h2
  ·rw [if_neg h] at h2
   obtain⟨o,ho⟩:=Xr.1 h2
   exact⟨h,f.rel.lt _ _ ho,h2⟩
 have e:Ext c Lo ⟨c.β,c.h.kill id,c.w,c.base⟩ Lo:=
  ⟨X1 _,fun i hi hl=>⟨(oa i hl).2,rfl,rfl⟩,WQ _,fun _ _ _ _=>.inl rfl,fun _ _=>rfl,rfl,fun i hl=>.inr ⟨i,(oa i hl).2,rfl⟩,fun _ h=>h,fun _ h=>.inl h,rfl,rfl,rfl⟩
 refine⟨e,⟨by rw [←f.h],⟨fun i o ho=>?_,fun i o ho=>?_,fun i j hi hj he=>?_,fun i hi=>?_,f.rel.bd,fun i hi=>?_,(Steady.kill c.h id).wf f.rel.ver⟩,fun t=>?_,fun k cs hb=>?_,f.inj,f.tidy,f.defers,f.D9⟩,fun hl=>⟨fun i hi he=>?_,f.rel.out id hl⟩⟩
 ·replace ho:(c.h.kill id).get i=some o:=ho
  rw [hg] at ho
  by_cases h:i=id
  ·rw [if_pos h] at ho; cases ho
  ·rw [if_neg h] at ho; exact X9 (f.rel.lt _ _ ho)
 ·replace ho:(c.h.kill id).get i=some o:=ho
  rw [hg] at ho
  by_cases h:i=id
  ·rw [if_pos h] at ho; cases ho
  ·rw [if_neg h] at ho
   exact (f.rel.obj i o ho).ext e rfl
 ·exact f.rel.inj i j (oa i hi).2 (oa j hj).2 he
 ·exact f.rel.out i (oa i hi).2
 ·exact f.rel.low i (oa i hi).2
 ·exact (f.slot t).ext e (fun _ _ _=>⟨rfl,fun h=>h⟩)
 ·have hb2:=f.box k cs hb
  exact hb2.ext e (.inl rfl)
 ·obtain⟨h1,h2⟩:=oa i hi
  exact h1 (f.rel.inj i id h2 hl he)
theorem By {c:Cx}{Lo:Nat→Prop}{lam:Nat→Nat}{a:Act}(f:Fr L0 c Lo lam ds s a){k:Nat}{x y:AV}{h':AHeap}(h:kx k s.h x=some (y,h')) :
  (∀k off,x≠.lp k off)∧(∀k off,y≠.lp k off)∧∃c',c'.w=c.w∧Ext c Lo c' Lo∧Fr L0 c' Lo lam ds {s with h:=h'} a∧∀v,VR c (un L0 Lo) x v→VR c' (un L0 Lo) y v:=by
 cases k with
 | zero=>
  cases x with
  | nils=>
   simp only [kx,WO,WV] at h
   obtain⟨rfl,rfl⟩:=h
   refine⟨by simp,by simp,c,rfl,Ext.refl _ _,f,fun v hv=>?_⟩
   simp only [VR] at hv ⊢
   exact⟨none,0,hv,WQ _,fun _=>rfl,.inr ⟨trivial,rfl⟩,.inl trivial⟩
  | fz cs m ex=>
   simp only [kx,WO,WV] at h
   obtain⟨rfl,rfl⟩:=h
   refine⟨by simp,by simp,c,rfl,Ext.refl _ _,f,fun v hv=>?_⟩
   simp only [VR] at hv ⊢
   obtain⟨a,cap,rfl,h1,h2,hs,hc⟩:=hv
   exact⟨a,cap,rfl,h1,by simp,hs,hc.imp id fun ⟨b,o,ha,hr,hex,hc⟩=>⟨b,o,ha,hr,by simp,hc⟩⟩
  | rs id off len jr=>
   simp only [kx] at h
   split at h
   ·rename_i hid
    split at h
    rotate_left
    ·cases h
    rename_i hl0
    simp only [WO,WV] at h
    obtain⟨rfl,rfl⟩:=h
    refine⟨by simp,by simp,c,rfl,Ext.refl _ _,f,fun v hv=>?_⟩
    simp only [VR] at hv ⊢
    rcases hv with⟨_,_,_,a,rfl⟩| hv
    ·exact⟨a,0,rfl,WQ _,fun _=>rfl,.inr ⟨trivial,rfl⟩,.inl trivial⟩
    ·exact absurd hid hv.1
   rename_i lH
   rw [WM] at h
   obtain⟨ob,ho,h⟩:=h
   cases ob with
   | map es=>cases h
   | row t cs=>cases h
   | cells cs=>
   simp only at h
   split at h
   rotate_left
   ·cases h
   rename_i hle
   simp only [WO,WV] at h
   obtain⟨rfl,rfl⟩:=h
   rw [←f.h] at ho
   have hl:Live c.h id:=⟨f.rel.lt _ _ ho,by simp [ho]⟩
   obtain⟨e,f',LR⟩:=f.JE id
   refine⟨by simp,by simp,⟨c.β,c.h.kill id,c.w,c.base⟩,rfl,e,f',fun v hv=>?_⟩
   simp only [VR] at hv ⊢
   rcases hv with hv | ⟨_,_,a,cap,rfl,h1,h2,h3⟩
   ·exact absurd hv.1 lH
   obtain⟨m,_,_,hc⟩:=f.rel.obj _ _ ho
   refine⟨a,cap,rfl,h1,by simp,.inl h2,?_⟩
   rcases h3 hl with⟨h4,_⟩| h4
   ·exact .inr ⟨_,_,h4,LR hl,by simp,Cells.move e _ _ _ _ _ (fun i hi=>rfl) ((hc.drop off).take (len*jr))⟩
   ·left
    have hz:len=0:=by omega
    subst hz
    simp
  | _=>simp [kx] at h
 | succ k=>
  have key:(x = .nils∨x = .fz [] 0 true)→y = .rs 0 0 0 (k+1)→h'=s.h→(∀k off,x≠.lp k off)∧(∀k off,y≠.lp k off)∧∃c',c'.w=c.w∧Ext c Lo c' Lo∧Fr L0 c' Lo lam ds {s with h:=h'} a∧∀v,VR c (un L0 Lo) x v→VR c' (un L0 Lo) y v:=by
   rintro hx rfl rfl
   refine⟨by rcases hx with rfl | rfl<;>simp,by simp,c,rfl,Ext.refl _ _,f,fun v hv=>?_⟩
   rcases hx with rfl | rfl
   ·simp only [VR] at hv ⊢
    exact .inl ⟨trivial,trivial,trivial,none,hv⟩
   ·simp only [VR] at hv ⊢
    obtain⟨a,cap,rfl,h1,h2,hs,hc⟩:=hv
    have:=h2 trivial
    subst this
    exact .inl ⟨trivial,trivial,trivial,a,rfl⟩
  unfold kx at h
  simp only at h
  split at h
  ·simp only [WO,WV] at h
   exact key (.inl rfl) h.1.symm h.2.symm
  ·simp only [WO,WV] at h
   exact key (.inr rfl) h.1.symm h.2.symm
  ·simp only [WO,WV] at h
   obtain⟨rfl,rfl⟩:=h
   exact⟨by simp,by simp,c,rfl,Ext.refl _ _,f,fun v hv=>hv⟩
  ·cases h
theorem Inv.wa {a:Act}{w:World}{p:Nat × Option Nat × Nat}{s':RS}(hi:Inv L0 c0 n ds s a w)(h:wa s p=some s'):Inv L0 c0 n ds s' a w:=by
 obtain⟨hn,c,Lo,lam,rfl,f,e⟩:=hi
 unfold Go.R.wa at h
 split at h
 ·rw [WN] at h
  obtain⟨⟨y,h'⟩,hz,rfl⟩:=h
  obtain⟨hx,hy,c',hw,e',f',hv⟩:=By f hz
  refine⟨hn,c',Lo,lam,hw,⟨f'.h,f'.rel,fun t=>?_,f'.box,f'.inj,fun t k off ht he=>?_,f'.defers,f'.D9⟩,e.trans e'⟩
  ·simp only [beq_nat]
   by_cases ht:t=p.1
   ·subst ht
    simp only [decide_true,cond_true]
    exact SR.of (hv _ ((f.slot _).vr hx))
   ·simp only [ht,decide_false,cond_false]
    exact f'.slot t
  ·simp only [beq_nat] at he
   by_cases Sh:t=p.1
   ·simp only [Sh,decide_true,cond_true] at he
    exact absurd he (hy _ _)
   ·simp only [Sh,decide_false,cond_false] at he
    exact f'.tidy t k off ht he
 ·rename_i i hp
  split at h
  rotate_left
  ·cases h
  rename_i cs hcs
  simp only [WM,WN] at h
  obtain⟨x,hx,⟨y,h'⟩,hz,rfl⟩:=h
  obtain⟨hx1,hy,c',hw,e',f',hv⟩:=By f hz
  have Ad:∀k,(bif Xx k p.1 then some (cs.set i y) else s.bx k).isSome=(s.bx k).isSome:=fun k=>by
   simp only [beq_nat]
   by_cases hk:k=p.1
   ·subst hk; simp [hcs]
   ·simp [hk]
  refine⟨hn,c',Lo,lam,hw,⟨f'.h,f'.rel,fun t=>?_,fun k fI hb=>?_,fun k k' h1 h2=>f'.inj k k' (by rw [←Ad]; exact h1) (by rw [←Ad]; exact h2),f'.tidy,f'.defers,f'.D9⟩,e.trans e'⟩
  ·have:=f'.slot t
   unfold SR at this ⊢
   split
   ·rename_i k off he
    rw [he] at this
    simp only at this
    exact⟨this.1,by rw [Ad]; exact this.2⟩
   ·rename_i x' HA
    split at this
    ·rename_i he; exact absurd he (HA _ _)
    ·exact this
  ·simp only [beq_nat] at hb
   by_cases hk:k=p.1
   ·subst hk
    simp only [decide_true,cond_true,WO] at hb
    subst hb
    have ob:=f.box _ cs hcs
    have O6:=f'.box _ cs hcs
    refine⟨O6.own,by rw [WW]; exact O6.plain,?_⟩
    obtain⟨vs,q1,q2,q3⟩:=ob.cells.vals
    obtain⟨Uz,r1,r2,r3⟩:=O6.cells.vals
    have hlen:vs=Uz:=by
     apply XE
     intro j
     by_cases hj:j<cs.length
     ·rw [←q2 j hj,←r2 j hj,hw]
     ·rw [W6 (by rw [←q1.length]; omega),W6 (by rw [←r1.length]; omega)]
    subst hlen
    obtain⟨u,hu,hr⟩:=VRs.get q1 i x hx
    have Af:VRs c' (un L0 Lo) (cs.set i y) vs:=by
     have:=VRs.set (hv u hr) i r1
     have IK:vs.set i u=vs:=by
      apply XE
      intro j
      rw [Ya]
      by_cases hji:i=j
      ·subst hji
       rw [if_pos rfl,hu]
       have:=(WU.1 hu).1
       simp [this]
      ·rw [if_neg hji]
     rwa [IK] at this
    exact Cells.of_vals Af (fun j hj=>by rw [r2 j (by rw [r1.length]; exact hj)]) r3
   ·simp only [hk,decide_false,cond_false] at hb
    exact f'.box k fI hb
theorem Inv.kW {a:Act}{w:World}:∀{l:List (Nat × Option Nat × Nat)} {s s':RS},Inv L0 c0 n ds s a w→kW s l=some s'→Inv L0 c0 n ds s' a w
 | [],s,s',hi,h=>by cases h; exact hi
 | p::ps,s,s',hi,h=>by
  simp only [Go.R.kW,WM] at h
  obtain⟨s1,h1,h2⟩:=h
  exact Inv.kW (hi.wa h1) h2
theorem HE {A:cg}{r:Nat}{s:RS}:(s.nc A r).h=s.h:=by
 unfold RS.nc
 split<;>rfl
theorem qX {k:Nat}{h h':AHeap}{x y:AV}(hz:kx k h x=some (y,h')):Steady h h':=by
 unfold kx at hz
 split at hz
 ·split at hz
  ·cases hz; exact Steady.refl _
  ·split at hz
   ·split at hz
    ·cases hz; exact Steady.refl _
    ·cases hz
   rw [WM] at hz
   obtain⟨o,_,hz⟩:=hz
   split at hz
   ·split at hz
    ·cases hz; exact Steady.kill _ _
    ·cases hz
   ·cases hz
  ·cases hz; exact Steady.refl _
  ·cases hz
 ·split at hz<;>cases hz<;>exact Steady.refl _
theorem yi {s s':RS}{p:Nat × Option Nat × Nat}(hz:wa s p=some s'):Steady s.h s'.h:=by
 unfold wa at hz
 split at hz
 ·rw [WN] at hz
  obtain⟨⟨y,h'⟩,hz,rfl⟩:=hz
  exact qX hz
 ·split at hz
  ·simp only [WM,WN] at hz
   obtain⟨x,hx,⟨y,h'⟩,hz,rfl⟩:=hz
   exact qX hz
  ·cases hz
theorem ma:∀{l:List (Nat × Option Nat × Nat)} {s s':RS},kW s l=some s'→Steady s.h s'.h
 | [],s,s',h=>by cases h; exact Steady.refl _
 | p::ps,s,s',h=>by
  simp only [kW,WM] at h
  obtain⟨s1,h1,h2⟩:=h
  exact (yi h1).trans (ma h2)
end
end Go.R
namespace Go.R
open Go
section
variable {P:Program}{L0:Nat→Prop}{c0:Cx}{n:Nat}{ds:List Nat}{o:Oper}{s:RS}
theorem CX {ops:Array Oper}{c:Cx}{Lo:Nat→Prop}{lam:Nat→Nat}{a:Act}(f:Fr L0 c Lo lam ds s a){b:Bool}(h:gK ops.toList s.ρ o=some b):Region.wanted o (yielded ops a.tmps)=b:=by
 unfold gK at h
 unfold Region.wanted
 split at h
 ·rename_i hg; rw [hg]; cases h; rfl
 ·rename_i j want hg
  rw [hg]
  rw [WM] at h
  obtain⟨d,hd,h⟩:=h
  have G7:(ops[j]?).bind (·.dst)=some d:=by simpa using hd
  have hs:=f.slot d
  simp only [yielded,G7,WL]
  rw [Array.getD_eq_getD_getElem?] at hs
  split at h
  ·rename_i b' hb
   cases h
   rw [hb] at hs
   simp only [SR,VR] at hs
   cases hq:a.tmps[d]? with
   | none=>rw [hq] at hs; simp [undef] at hs
   | some v=>
    rw [hq] at hs
    simp only [XM] at hs
    subst hs
    cases b'<;>cases want<;>rfl
  ·rename_i hb
   cases h
   rw [hb] at hs
   simp only [SR,VR] at hs
   obtain⟨vs,hv,_⟩:=hs
   cases hq:a.tmps[d]? with
   | none=>rfl
   | some v=>
    rw [hq] at hv
    simp only [XM] at hv
    subst hv
    rfl
  ·cases h
theorem yj {cf:CallF}(hcf:CallOK P cf)(hb0:c0.base≤c0.w.heap.size){ops:Array Oper}(JF:ds=ops.toList.filterMap (·.dst))(hd:fV n ds o){aG:List Nat}{s':RS}(h:lV P cf aG ops.toList s o=some s')
  {a:Act} {w:World} {K:Act→World→Prop} {Q:Exit→Act→World→Prop} (hi:Inv L0 c0 n ds s a w) (hK:∀a' w',Inv L0 c0 n ds s' a' w'→K a' w') :
  if Region.wanted o (yielded ops a.tmps) then o.wp P a w K Q else K (a.put o.dst undef) w:=by
 unfold lV at h
 rw [WM] at h
 obtain⟨b,hb,h⟩:=h
 have UA:=hi
 obtain⟨hn,c,Lo,lam,rfl,f,e⟩:=hi
 rw [CX f hb]
 cases b with
 | true=>
  simp only [if_true] at h ⊢
  rw [←JF] at h
  exact JD hcf hb0 hd h a c.w K Q UA hK
 | false=>
  simp only [W4,if_false,WO] at h ⊢
  subst h
  exact hK _ _ ⟨(gu _ _ _).trans hn,c,Lo,lam,rfl,f.set (SR.of (by simp [VR,undef,VRs])) (fun t ht=>by rw [hn]; exact hd t ht),e⟩
def vh (n:Nat)(ops:List Oper):Bool:=ops.all fun o=>match o.dst with | some t=>Nat.blt t n | none=>true
theorem yk {ops:List Oper}(h:vh n ops=true){o:Oper}(ho:o∈ops):fV n (ops.filterMap (·.dst)) o:=by
 intro t ht
 unfold vh at h
 rw [Xd] at h
 have:=h o ho
 rw [ht] at this
 exact⟨Nat.blt_eq.mp this,List.mem_filterMap.2 ⟨o,ho,ht⟩⟩
theorem Bz {cf:CallF}(hcf:CallOK P cf)(hb0:c0.base≤c0.w.heap.size){ops:Array Oper}(JF:ds=ops.toList.filterMap (·.dst))(yb:vh n ops.toList=true){aG:List Nat}{Q:Exit→Act→World→Prop}{s':RS}(hQ:∀a' w',Inv L0 c0 n ds s' a' w'→Q .normal a' w') :
  ∀(l:List Oper) (s:RS),(∀o∈l,o∈ops.toList)→rz P cf aG ops.toList s l=some s'→∀a w,Inv L0 c0 n ds s a w→wpList P ops Q l a w
 | [],s,_,h,a,w,hi=>by
  simp only [rz,WO] at h
  subst h
  exact wpList_nil (hQ a w hi)
 | o::l,s,hl,h,a,w,hi=>by
  simp only [rz,WM] at h
  obtain⟨s1,h1,h2⟩:=h
  refine wpList_step fun K hK=>?_
  exact yj hcf hb0 JF (by rw [JF]; exact yk yb (hl o (by simp))) h1 hi fun a' w' lB=>hK a' w' (Bz hcf hb0 JF yb hQ l s1 (fun o ho=>hl o (by simp [ho])) h2 a' w' lB)
theorem iF {α:Type}(d:α):∀(ks:List Nat) (g:Nat→α) (t:Nat),look d ks (ks.map g) t=if t∈ks then g t else d
 | [],g,t=>rfl
 | k::ks,g,t=>by
  simp only [Xc,look,beq_nat,iF d ks g t,Xs]
  by_cases h:t=k
  ·subst h; simp
  ·simp [h]
theorem Fr.forget {c:Cx}{Lo:Nat→Prop}{lam:Nat→Nat}{a:Act}(f:Fr L0 c Lo lam ds s a){s2:RS}(hh:s2.h=s.h)(hb:∀k cs,s2.bx k=some cs→s.bx k=some cs)
  (hr:∀t,s2.ρ t = .any∨s2.ρ t=s.ρ t∧∀k off,s.ρ t = .lp k off→k=t∧((s.bx k).isSome=true→(s2.bx k).isSome=true)):Fr L0 c Lo lam [] s2 a:=by
 refine⟨f.h.trans hh.symm,f.rel,fun t=>?_,fun k cs h=>f.box k cs (hb k cs h),fun k k' h h'=>f.inj k k' ?_ ?_,fun t k off _ he=>?_,f.defers,f.D9⟩
 ·rcases hr t with h | ⟨h,h2⟩
  ·rw [h]; exact SR.of (by simp [VR])
  ·rw [h]
   have hs:=f.slot t
   cases hx:s.ρ t<;>rw [hx] at hs<;>try exact hs
   rename_i k off
   simp only [SR] at hs ⊢
   exact⟨hs.1,(h2 k off hx).2 hs.2⟩
 ·obtain⟨cs,hcs⟩:=Xr.1 h; rw [hb k cs hcs]; rfl
 ·obtain⟨cs,hcs⟩:=Xr.1 h'; rw [hb k' cs hcs]; rfl
 ·rcases hr t with h | ⟨h,h2⟩
  ·rw [h] at he; cases he
  ·exact (h2 k off (h ▸ he)).1
theorem Inv.shut {a:Act}{w:World}(A:cg)(h:Inv L0 c0 n ds s a w):Inv L0 c0 n [] ((s.shut A).open A) a w:=by
 obtain⟨hn,c,Lo,lam,rfl,f,e⟩:=h
 refine⟨hn,c,Lo,lam,rfl,f.forget rfl (fun k cs hk=>?_) (fun t=>?_),e⟩
 ·simp only [RS.shut,St.open,iF] at hk
  split at hk
  ·exact hk
  ·cases hk
 ·simp only [RS.shut,St.open,iF]
  split
  ·unfold xQ
   cases hx:s.ρ t<;>simp only<;>try (right; exact⟨trivial,fun k off he=>by cases he⟩)
   rename_i k off
   cases hc:(Xx k t&&Xx off 0&&A.aG.contains k) with
   | false=>left; rfl
   | true=>
    right
    simp only [WR,beq_nat,decide_eq_true_eq,List.contains_iff_mem] at hc
    refine⟨rfl,fun k' UB he=>?_⟩
    cases he
    refine⟨hc.1.1,fun hs=>?_⟩
    rw [if_pos hc.2]
    exact hs
  ·left; rfl
theorem Inv.nc {a:Act}{w:World}(A:cg)(r:Nat)(h:Inv L0 c0 n ds s a w):Inv L0 c0 n [] ((s.nc A r).open A) a w:=by
 unfold RS.nc
 split
 ·exact h.shut A
 rename_i dl _
 have h2:=h.shut A
 obtain⟨hn,c,Lo,lam,hw,f,e⟩:=h2
 have LZ:∀k,(St.open A {vars:=A.gg.map (fun t=>bif (gr r A.dead).contains t then .any else xQ A.aG s.ρ t),Lp:=A.aG.map (fun k=>bif (gr r A.dead).contains k then none else s.bx k),h:=s.h}).bx k=bif (gr r A.dead).contains k then none else (St.open A (s.shut A)).bx k:=by
  intro k
  simp only [RS.shut,St.open,iF]
  cases (gr r A.dead).contains k<;>simp
 refine⟨hn,c,Lo,lam,hw,f.forget rfl (fun k cs hk=>?_) (fun t=>?_),e⟩
 ·rw [LZ] at hk
  cases hc:(gr r A.dead).contains k with
  | true=>rw [hc] at hk; cases hk
  | false=>rw [hc] at hk; exact hk
 ·have hv:(St.open A {vars:=A.gg.map (fun t=>bif (gr r A.dead).contains t then .any else xQ A.aG s.ρ t),Lp:=A.aG.map (fun k=>bif (gr r A.dead).contains k then none else s.bx k),h:=s.h}).ρ t=bif (gr r A.dead).contains t then .any else (St.open A (s.shut A)).ρ t:=by
   simp only [RS.shut,St.open,iF]
   cases (gr r A.dead).contains t<;>simp
  rw [hv]
  cases hc:(gr r A.dead).contains t with
  | true=>left; rfl
  | false=>
   right
   refine⟨rfl,fun k off he=>?_⟩
   have Hy:k=t:=f.tidy t k off (by simp) he
   refine⟨Hy,fun hs=>?_⟩
   rw [LZ,Hy,hc]
   rw [Hy] at hs
   exact hs
theorem Inv.wide {a:Act}{w:World}(h:Inv L0 c0 n [] s a w)(ds:List Nat):Inv L0 c0 n ds s a w:=by
 obtain⟨hn,c,Lo,lam,rfl,f,e⟩:=h
 exact⟨hn,c,Lo,lam,rfl,⟨f.h,f.rel,f.slot,f.box,f.inj,fun t k off _ he=>f.tidy t k off (by simp) he,f.defers,f.D9⟩,e⟩
theorem Inv.drew {a:Act}{w:World}(h:Inv L0 c0 n ds s a w):Inv L0 c0 n ds s a {w with drawn:=w.drawn+1}:=by
 obtain⟨hn,c,Lo,lam,rfl,f,e⟩:=h
 obtain⟨e',f'⟩:=f.world (w':={c.w with drawn:=c.w.drawn+1}) (fun b _=>.inl rfl) (fun _ _=>rfl) (fun b _=>rfl) (WQ _) rfl rfl rfl
 exact⟨hn,_,Lo,lam,rfl,f',e.trans e'⟩
def mb (P:Program)(c:Code)(Q:Exit→Act→World→Prop)(a:Act)(w:World):Prop:=
 ∀(b:Frame) (k:List Item) (cs:List Frame),∃e a' w',Q e a' w'∧Arrives P (lone (b.at a (.code c :: .inLoop c::k)) cs w) b k cs e a' w'
theorem mb.step {c:Code}{Q:Exit→Act→World→Prop}{a:Act}{w:World}(h:c.wp P (Exit.then (mb P c Q) Q) a w):mb P c Q a w:=by
 intro b k cs
 obtain⟨e,a₁,w₁,hq,yl⟩:=h b (.inLoop c::k) cs
 cases e with
 | normal=>
  obtain⟨e₂,a₂,w₂,UC,Mh⟩:=hq b k cs
  exact⟨e₂,a₂,w₂,UC,.of_steps (Steps.trans yl (.one step_inLoop)) Mh⟩
 | exit id=>exact⟨_,a₁,w₁,hq,.pass (x:=.inLoop c) rfl (fun _ _=>.inl (by simp)) yl⟩
 | goto l=>exact⟨_,a₁,w₁,hq,.pass (x:=.inLoop c) rfl (fun _ _=>.inl (by simp)) yl⟩
 | ret=>exact⟨_,a₁,w₁,hq,.pass (x:=.inLoop c) rfl (fun _ _=>.inl (by simp)) yl⟩
 | panic ch=>exact⟨_,a₁,w₁,hq,.pass (x:=.inLoop c) rfl (fun _ _=>.inl (by simp)) yl⟩
 | outgrown=>exact⟨_,a₁,w₁,hq,.pass (x:=.inLoop c) rfl (fun _ _=>.inl (by simp)) yl⟩
theorem mb.loop {c:Code}{Q:Exit→Act→World→Prop}{a:Act}{w:World}(h:mb P c Q a w):(Code.loop c).wp P Q a w:=by
 intro b k cs
 obtain⟨e,a',w',hq,yl⟩:=h b k cs
 exact⟨e,a',w',hq,.of_steps (.one step_loop) yl⟩
def Ex.IQ:Ex→Exit
 | .norm=>.normal
 | .exit id=>.exit id
 | .ret=>.ret
def j8 (n:Nat):Code→Bool
 | .region _ ops _=>vh n ops.toList
 | .seq a b=>j8 n a&&j8 n b
 | .cond _ x y=>j8 n x&&j8 n y
 | .block _ c=>j8 n c
 | .loop c=>j8 n c
 | _=>true
def Al (P:Program)(cf:CallF):Prop:=
 ∀(L0:Nat→Prop) (c0:Cx) (n:Nat) (aG:List Nat) (id:Nat) (ops:Array Oper) (s s':RS),kV P cf aG ops s=some s'→c0.base≤c0.w.heap.size→vh n ops.toList=true→
  ∀a w Q,Inv L0 c0 n (ops.toList.filterMap (·.dst)) s a w→(∀a' w',Inv L0 c0 n (ops.toList.filterMap (·.dst)) s' a' w'→Q .normal a' w')→(Code.region id ops true).wp P Q a w
theorem jP {cf:CallF}(hcf:CallOK P cf)(CY:Al P cf)(hb0:c0.base≤c0.w.heap.size){A:cg}{m:Nat}:∀(c:Code),j8 n c=true→∀(st jA:St) (ex:Ex),bL P cf A m c st=some (ex,jA)→
  ∀a w Q,Inv L0 c0 n [] (st.open A) a w→(∀a' w',Inv L0 c0 n [] (jA.open A) a' w'→Q ex.IQ a' w')→c.wp P Q a w
 | .skip,_,st,jA,ex,h,a,w,Q,hi,hQ=>by
  simp only [bL,WO,WV] at h
  obtain⟨rfl,rfl⟩:=h
  exact wp_skip (hQ a w hi)
 | .label _,_,st,jA,ex,h,a,w,Q,hi,hQ=>by
  simp only [bL,WO,WV] at h
  obtain⟨rfl,rfl⟩:=h
  exact wp_label (hQ a w hi)
 | .ret,_,st,jA,ex,h,a,w,Q,hi,hQ=>by
  simp only [bL,WO,WV] at h
  obtain⟨rfl,rfl⟩:=h
  exact wp_ret (hQ a w hi)
 | .exit id,_,st,jA,ex,h,a,w,Q,hi,hQ=>by
  simp only [bL,WO,WV] at h
  obtain⟨rfl,rfl⟩:=h
  exact wp_exit (hQ a w hi)
 | .seq x y,hB,st,jA,ex,h,a,w,Q,hi,hQ=>by
  simp only [j8,WR] at hB
  simp only [bL,WM] at h
  obtain⟨⟨IS,uG⟩,h1,h2⟩:=h
  refine wp_seq (jP hcf CY hb0 x hB.1 st uG IS h1 a w _ hi fun a' w' lB=>?_)
  cases IS with
  | norm=>exact jP hcf CY hb0 y hB.2 uG jA ex h2 a' w' Q lB hQ
  | exit id=>
   simp only [WO,WV] at h2
   obtain⟨rfl,rfl⟩:=h2
   exact hQ a' w' lB
  | ret=>
   simp only [WO,WV] at h2
   obtain⟨rfl,rfl⟩:=h2
   exact hQ a' w' lB
 | .cond k x y,hB,st,jA,ex,h,a,w,Q,hi,hQ=>by
  simp only [j8,WR] at hB
  simp only [bL,WM] at h
  obtain⟨t,ht,h⟩:=h
  have hk:a.eval k = .bool t:=by
   obtain⟨hn,c,Lo,lam,rfl,f,e⟩:=hi
   have hk:=bC f k
   unfold sv at ht
   split at ht
   ·rename_i b hb
    cases ht
    rw [hb] at hk
    simpa [SR,VR] using hk
   ·cases ht
  refine wp_cond hk ?_
  cases t with
  | true=>exact jP hcf CY hb0 x hB.1 st jA ex (by simpa using h) a w Q hi hQ
  | false=>exact jP hcf CY hb0 y hB.2 st jA ex (by simpa using h) a w Q hi hQ
 | .block id x,hB,st,jA,ex,h,a,w,Q,hi,hQ=>by
  simp only [j8] at hB
  simp only [bL,WN] at h
  obtain⟨⟨IS,uG⟩,h1,h2⟩:=h
  refine wp_block (jP hcf CY hb0 x hB st uG IS h1 a w _ hi fun a' w' lB=>?_)
  cases IS with
  | norm=>
   simp only [WV] at h2
   obtain⟨rfl,rfl⟩:=h2
   exact hQ a' w' lB
  | exit ot=>
   simp only [WV] at h2
   obtain⟨rfl,rfl⟩:=h2
   have:=hQ a' w' lB
   simp only [Ex.IQ,Exit.inBlock]
   split
   ·rename_i he; rw [if_pos he] at this; exact this
   ·rename_i he; rw [if_neg he] at this; exact this
  | ret=>
   simp only [WV] at h2
   obtain⟨rfl,rfl⟩:=h2
   exact hQ a' w' lB
 | .loop x,hB,st,jA,ex,h,a,w,Q,hi,hQ=>by
  simp only [j8] at hB
  simp only [bL] at h
  have key:∀(j:Nat) (st:St),ky (bL P cf A m x) j st=some (ex,jA)→∀a w,Inv L0 c0 n [] (st.open A) a w→mb P x Q a w:=by
   intro j
   induction j with
   | zero=>intro st h; simp [ky] at h
   | succ j ih=>
    intro st h a w hi
    simp only [ky,WM] at h
    obtain⟨⟨IS,uG⟩,h1,h2⟩:=h
    refine mb.step (jP hcf CY hb0 x hB st uG IS h1 a w _ hi fun a' w' lB=>?_)
    cases IS with
    | norm=>exact ih uG h2 a' w' lB
    | exit id=>
     simp only [WO,WV] at h2
     obtain⟨rfl,rfl⟩:=h2
     exact hQ a' w' lB
    | ret=>
     simp only [WO,WV] at h2
     obtain⟨rfl,rfl⟩:=h2
     exact hQ a' w' lB
  exact mb.loop (key m st h a w hi)
 | .region id ops draw,hB,st,jA,ex,h,a,w,Q,hi,hQ=>by
  simp only [j8] at hB
  simp only [bL,WM,WN,WV] at h
  obtain⟨s0,h0,s',h1,s2,h2,rfl,rfl⟩:=h
  replace hi:=hi.kW h0
  cases draw with
  | true=>
   simp only [if_true] at h1
   exact CY L0 c0 n A.aG id ops _ s' h1 hb0 hB a w Q (hi.wide _) fun a' w' lB=>hQ a' w' ((lB.kW h2).nc A id)
  | false=>
   simp only [W4,if_false] at h1
   exact wp_region_list (Bz hcf hb0 rfl hB (fun a' w' lB=>hQ a' w' ((lB.kW h2).nc A id)) ops.toList _ (fun _ h=>h) h1 a w (hi.wide _))
 | .rangeFunc ..,_,st,jA,ex,h,_,_,_,_,_=>by simp [bL] at h
 | .scope ..,_,st,jA,ex,h,_,_,_,_,_=>by simp [bL] at h
 | .goto ..,_,st,jA,ex,h,_,_,_,_,_=>by simp [bL] at h
 | .refuse ..,_,st,jA,ex,h,_,_,_,_,_=>by simp [bL] at h
theorem wv {c:Cx}{Lo:Nat→Prop}{lam:Nat→Nat}{a:Act}(f:Fr L0 c Lo lam ds s a):∀(rs:List ResultVar) (l:List AV),zW P s rs=some l→l.all AV.lz=true→
  ∃vs:List Value,(rs.mapM (m:=Sem) fun | .tmp t=>pure (a.tmps.getD t undef) | .cell x t=>do loadVar t (←asAddr (a.tmps.getD x undef))).run P c.w = .ok vs c.w∧VRs c (un L0 Lo) l vs
 | [],l,h,_=>by
  simp only [zW,WO] at h
  subst h
  exact⟨[],rfl,trivial⟩
 | .tmp t::rs,l,h,hl=>by
  simp only [zW,WN] at h
  obtain⟨l',h1,rfl⟩:=h
  simp only [XK,WR] at hl
  obtain⟨vs,h2,h3⟩:=wv f rs l' h1 hl.2
  refine⟨a.tmps.getD t undef::vs,?_,(f.slot t).vr (sQ hl.1),h3⟩
  simp only [List.mapM_cons,Sem.run_bind,Sem.run_pure,Result.andThen_ok,h2]
 | .cell x t::rs,l,h,hl=>by
  simp only [zW,WM,WN] at h
  obtain⟨y,hy,l',h1,rfl⟩:=h
  simp only [XK,WR] at hl
  obtain⟨vs,h2,h3⟩:=wv f rs l' h1 hl.2
  have hx:=f.slot x
  obtain⟨u,hr,hu⟩:=sD (P:=P) f (t:=t) hx hy
  have hp:∃ad,a.tmps.getD x undef = .pointer (some ad):=by
   unfold jg at hy
   cases hq:s.ρ x<;>rw [hq] at hy hx<;>simp only at hy<;>try (cases hy; done)
   ·simp only [SR,VR] at hx; obtain⟨_,ad,h,_⟩:=hx; exact⟨ad,h⟩
   ·simp only [SR] at hx; exact⟨_,hx.1⟩
   ·simp only [SR,VR] at hx; obtain⟨_,_,h,_⟩:=hx; exact⟨_,h⟩
  obtain⟨ad,hp⟩:=hp
  rw [hp] at hr
  have Am:(loadVar t ad).run P c.w = .ok u c.w:=by simpa [Instr.loadAt,Instr.sureAddr] using hr
  refine⟨u::vs,?_,hu,h3⟩
  have ha:(asAddr (a.tmps.getD x undef)).run P c.w = .ok ad c.w:=by rw [hp]; rfl
  simp only [List.mapM_cons,Sem.run_bind,Sem.run_pure,Result.andThen_ok,h2,ha,Am]
theorem kH:un L0 none0=L0:=by funext b; simp [un,none0]
theorem Ext.close {c c':Cx}{jx:Nat→Prop}(e:Ext c none0 c' jx):Ext c none0 c' none0:=
 ⟨e.next,e.live,e.size,e.gg,e.exact,e.base,e.IJ,fun _ h=>h,fun _ h=>h.elim,e.os,e.tape,e.output⟩
theorem HRel.ki {c:Cx}{L L':Nat→Prop}(hL:∀b,L' b→L b)(h:HRel c L):HRel c L':=
 ⟨h.lt,fun id o ho=>by
  have:=h.obj id o ho
  cases o with
  | cells cs=>obtain⟨m,h1,h2,h3⟩:=this; exact⟨m,h1,h2,Cells.ki hL _ _ _ h3⟩
  | row t cs=>obtain⟨h0,C,h1,h2,h4,h3⟩:=this; exact⟨h0,C,h1,h2,h4,Cells.ki hL _ _ _ h3⟩
  | map es=>
   obtain⟨kA,clock,h1,h2⟩:=this
   refine⟨kA,clock,h1,?_⟩
   clear h1
   have:∀(es:List (AV × AV)) (ms:List MapEntry),kz c L es ms→kz c L' es ms:=by
    intro es
    induction es with
    | nil=>intro ms h; cases ms with | nil=>trivial | cons m ms=>exact h.elim
    | cons e es ih=>intro ms h; cases ms with
     | nil=>exact h.elim
     | cons m ms=>obtain⟨h1,h2,h3⟩:=h; exact⟨⟨VR.ki hL _ _ h1.1,h1.2⟩,VR.ki hL _ _ h2,ih _ h3⟩
   exact this _ _ h2,h.inj,fun id hl hb=>h.out id hl (hL _ hb),fun b hb=>h.bd b (hL b hb),h.low,h.ver⟩
structure Fit (P:Program):Prop where
 mixed:P.follows .mixedOrders=true
 Mi : ∀ (f : FuncId) fn c, P.funcs[f]? = some fn → fn.body = some c → j8 fn.ntmps c = true ∧ fn.name ≠ "runtime.NumGoroutine"
def IntrOK (P:Program)(intr:FuncId→Option (List AV→AHeap→Option (AV × AHeap))):Prop:=
 ∀f g,intr f=some g→(CallOK P fun f' args h=>if f'=f then g args h else none)∧∀args h r h',g args h=some (r,h')→Steady h h'
theorem jQ {f : FuncId} {fn : Func} {c : Code} (hf : P.funcs[f]? = some fn) (hc : fn.body = some c) (hn : fn.name ≠ "runtime.NumGoroutine") (vs : Array Value) (w : World) : (callFunc f vs).run P w = .ok (.enter f vs) w := by
 have Ws : (fn.name == "runtime.NumGoroutine") = false := by simpa using hn
 simp [callFunc,program,Sem.run,hf,hn,hc]
theorem Es (hP:Fit P){aS:FuncId→cg}{cf:CallF}(ih:CallOK P cf)(CY:Al P cf)(m:Nat):CallOK P (a7 P aS cf m):=by
 intro f args h r h' hc
 unfold a7 at hc
 rw [WM] at hc
 obtain⟨fn,hf,hc⟩:=hc
 rw [WM] at hc
 obtain⟨c,hb,hc⟩:=hc
 obtain⟨hB,Mj⟩:=hP.Mi f fn c hf hb
 refine⟨jQ hf hb Mj,fun L0 c0 vs hh hb0 hrel hargs=>?_⟩
 split at hc
 rotate_left
 ·cases hc
 rename_i hlen
 rw [WM] at hc
 obtain⟨⟨ex,st⟩,hex,hc⟩:=hc
 have hl:=hargs.length
 refine calls_of_wp hf hb ?_
 refine jP (L0:=L0) (c0:=c0) (n:=fn.ntmps) ih CY hb0 c hB _ _ _ hex _ _ _ ?_ ?_
 ·refine⟨by simp; omega,c0,none0,fun _=>0,rfl,⟨hh,by rw [kH]; exact hrel,fun t=>?_,fun k cs hk=>?_,fun k k' hk=>?_,fun t k off _ he=>?_,rfl,fun b hb=>hb.elim⟩,Ext.refl _ _⟩
  ·simp only [St.open,lW,iF]
   split
   ·by_cases ht:t<args.length
    ·obtain⟨v,hv,hr⟩:=hargs.get t args[t] (by simp [ht])
     have:args.getD t AV.any=args[t]:=by simp [ht]
     rw [this,Array.getD_eq_getD_getElem?,Array.getElem?_append_left (by simp; omega)]
     have O4:vs.toArray[t]? = some v:=by simpa using hv
     rw [O4]
     exact SR.of (by rw [kH]; exact hr)
    ·have:args.getD t AV.any = .any:=by simp [W6 (Nat.not_lt.1 ht)]
     rw [this]
     exact SR.of (by simp [VR])
   ·exact SR.of (by simp [VR])
  ·simp only [St.open,iF] at hk
   split at hk<;>cases hk
  ·simp only [St.open,iF] at hk
   split at hk<;>cases hk
  ·simp only [St.open,lW,iF] at he
   split at he
   ·by_cases ht:t<args.length
    ·obtain⟨v,hv,hr⟩:=hargs.get t args[t] (by simp [ht])
     have h1:args.getD t AV.any=args[t]:=by simp [ht]
     rw [h1] at he
     rw [he] at hr
     exact hr.elim
    ·have:args.getD t AV.any = .any:=by simp [W6 (Nat.not_lt.1 ht)]
     rw [this] at he
     cases he
   ·cases he
 ·intro a' w' lB
  have hfin:(aI P (st.open (aS f)) fn.results.toList).map (fun r=>(r,st.h))=some (r,h')→a'.defers=[]∧∃v,(results fn a'.tmps).run P w' = .ok v w'∧(∃c' v',Ending.returned v = .returned v'∧c'.w=w'∧c'.h=h'∧VR c' L0 r v'∧HRel c' L0∧Ext c0 none0 c' none0):=by
   intro hc
   rw [WN] at hc
   obtain⟨r',Am,he⟩:=hc
   cases he
   obtain⟨hn,c',Lo,lam,rfl,f',e'⟩:=lB
   refine⟨f'.defers,?_⟩
   unfold aI at Am
   rw [WM] at Am
   obtain⟨l,hl,Am⟩:=Am
   split at Am
   rotate_left
   ·cases Am
   rename_i kG
   obtain⟨us,UD,Bs⟩:=wv f' _ _ hl kG
   have Et:VRs c' L0 l us:=VRs.ki (fun b hb=>.inl hb) _ _ Bs
   have Ab:(results fn a'.tmps).run P c'.w = .ok (if h:us.toArray.size=1 then us.toArray[0] else .tuple us.toArray) c'.w:=by
    unfold results
    rw [←Array.toArray_toList (xs:=fn.results)]
    rw [List.mapM_toArray]
    simp only [Sem.run_bind,Sem.run_map,Result.andThen_ok,Sem.run_pure]
    exact (congrArg (fun z=>(Result.andThen z (fun (a:List Value) w'=>Result.ok a.toArray w')).andThen (fun (a:Array Value) w'=>Result.ok (if h:a.size=1 then a[0] else Value.tuple a) w')) UD).trans rfl
   refine⟨_,Ab,c',_,rfl,rfl,f'.h,?_,HRel.ki (fun b hb=>.inl hb) f'.rel,e'.close⟩
   split at Am
   ·rename_i x
    cases Am
    cases us with
    | nil=>exact Et.elim
    | cons u us=>cases us with
     | nil=>exact Et.1
     | cons u2 us=>exact Et.2.elim
   ·rename_i hne
    cases Am
    have O7:us.length≠1:=by
     intro h1
     rw [←Et.length] at h1
     cases l with
     | nil=>simp at h1
     | cons x l=>cases l with
      | nil=>exact hne x rfl
      | cons y l=>simp at h1
    have:¬us.toArray.size=1:=by simpa using O7
    rw [dif_neg this]
    simp only [VR]
    exact⟨us.toArray,rfl,Et⟩
  cases ex with
  | norm=>exact hfin hc
  | ret=>exact hfin hc
  | exit id=>cases hc
end
end Go.R
namespace Go.R
open Go
def RS.shift (s2:RS)(f:ku)(d:Option Nat)(s':RS):RS:=
 {ρ:=match d with | none=>s2.ρ | some d=>fun t=>if t=d then s'.ρ d else s2.ρ t
  bx:=match f.wb with | none=>s2.bx | some k=>fun t=>if t=k then s'.bx k else s2.bx t
  h:=if f.wh then s'.h else s2.h}
theorem RS.ext' {s t:RS}(h1:∀i,s.ρ i=t.ρ i)(h2:∀i,s.bx i=t.bx i)(h3:s.h=t.h):s=t:=by
 cases s; cases t
 congr
 ·exact funext h1
 ·exact funext h2
theorem ik (s s2:RS)(f:ku)(d:Option Nat)(z:AV)(hw:f.wb=none)(hh:f.wh=false):s2.set d z=s2.shift f d (s.set d z):=by
 refine RS.ext' (fun i=>?_) (fun i=>?_) ?_
 ·cases d with
  | none=>rfl
  | some d=>simp only [u4,RS.shift,if_true]
 ·simp only [RS.shift,hw]; cases d<;>rfl
 ·simp only [RS.shift,hh]; cases d<;>rfl
theorem jj (s:RS)(d:Option Nat)(z:AV):(s.set d z).h=s.h:=by cases d<;>rfl
theorem JG (s:RS)(d:Option Nat)(z:AV):(s.set d z).bx=s.bx:=by cases d<;>rfl
theorem Eu (s:RS)(k i:Nat)(cs:List AV):(s.box k cs).bx i=if i=k then some cs else s.bx i:=by
 simp only [RS.box,beq_nat]
 by_cases h:i=k<;>simp [h]
theorem gx (s s2:RS)(f:ku)(d:Option Nat)(z:AV)(h':AHeap)(hw:f.wb=none)(hh:f.wh=true):({s2 with h:=h'}:RS).set d z=s2.shift f d (({s with h:=h'}:RS).set d z):=by
 refine RS.ext' (fun i=>?_) (fun i=>?_) ?_
 ·cases d with
  | none=>rfl
  | some d=>simp only [u4,RS.shift,if_true]
 ·simp only [RS.shift,hw]; cases d<;>rfl
 ·simp only [RS.shift,hh]; cases d<;>rfl
theorem CZ (s s2:RS)(f:ku)(k:Nat)(cs:List AV)(hw:f.wb=some k)(hh:f.wh=false):s2.box k cs=s2.shift f none (s.box k cs):=by
 refine RS.ext' (fun i=>rfl) (fun i=>?_) ?_
 ·simp only [Eu,RS.shift,hw,if_true]
 ·simp only [RS.shift,hh]; rfl
section
variable {P:Program}{cf:CallF}{aG ds:List Nat}{o:Oper}{s s' s2:RS}
theorem oA {cs:List AV}{f:ku}(h:ia s aG ds o cs=some s')(hf:f=(match o.dst with
  | some d=>if aG.contains d then {wb:=some d,al:=true} else {wh:=true}
  | none=>{})) (hh:f.wh=true→s2.h=s.h) (oe:f.al=true→∀d,o.dst=some d→su d s2.ρ (ds.filter fun t=>!Nat.beq t d)=true) :
  ia s2 aG ds o cs=some (s2.shift f o.dst s'):=by
 unfold ia at h ⊢
 split at h
 rotate_left
 ·cases h
 rename_i ou
 rw [if_pos ou]
 cases hd:o.dst with
 | none=>rw [hd] at h; cases h
 | some d=>
  rw [hd] at h hf
  simp only at h hf ⊢
  by_cases hl:aG.contains d=true
  ·rw [if_pos hl] at h hf ⊢
   subst hf
   split at h
   rotate_left
   ·cases h
   cases h
   rw [if_pos (oe rfl d hd)]
   congr 1
   refine RS.ext' (fun i=>?_) (fun i=>?_) ?_
   ·simp only [u4,RS.shift,if_true]; rfl
   ·simp only [JG,Eu,RS.shift,if_true]
   ·simp only [jj,RS.shift]; rfl
  ·rw [if_neg hl] at h hf ⊢
   subst hf
   cases h
   rw [hh rfl]
   congr 1
   exact gx s s2 {wh:=true} (some d) _ _ rfl rfl
theorem vi {e:Operand→AV}(h:zV P cf aG ds e s o=some s')(hb:∀k∈(ba aG e o).rb,s2.bx k=s.bx k)(hr:∀id∈(ba aG e o).rh,s2.h.get id=s.h.get id)
  (hh:(ba aG e o).wh=true→s2.h=s.h) (oe:(ba aG e o).al=true→∀d,o.dst=some d→su d s2.ρ (ds.filter fun t=>!Nat.beq t d)=true) :
  zV P cf aG ds e s2 o=some (s2.shift (ba aG e o) o.dst s'):=by
 have dB:∀{x x2:Option AV} (f:ku),(x.map fun x=>s.set o.dst x)=some s'→(x2=x)→f.wb=none→f.wh=false→(x2.map fun x=>s2.set o.dst x)=some (s2.shift f o.dst s'):=by
  intro x x2 f hx h2 h3 h4
  obtain⟨z,rfl,rfl⟩:=Option.map_some' hx
  subst h2
  simp only [WS]
  rw [←ik s s2 f o.dst z h3 h4]
 have ym:∀{α:Type} {x x2:Option α} (f:ku) (g:α→AV) (k:α→AHeap),(x.map fun y=>({s with h:=k y}:RS).set o.dst (g y))=some s'→(x2=x)→f.wb=none→f.wh=true→
   (x2.map fun y=>({s2 with h:=k y}:RS).set o.dst (g y))=some (s2.shift f o.dst s'):=by
  intro α x x2 f g k hx h2 h3 h4
  obtain⟨z,rfl,rfl⟩:=Option.map_some' hx
  subst h2
  simp only [WS]
  rw [←gx s s2 f o.dst (g z) (k z) h3 h4]
 unfold zV at h ⊢
 dsimp only at h ⊢
 split at h
 ·rename_i x ho; cases h; simp only [WO]; exact ik s s2 _ _ _ (by simp [ba,ho]) (by simp [ba,ho])
 ·rename_i x ho; cases h; simp only [WO]; exact ik s s2 _ _ _ (by simp [ba,ho]) (by simp [ba,ho])
 ·rename_i k x y ho
  obtain⟨t,ht,rfl⟩:=Option.map_some' h
  simp only [ht,WS,WO]
  exact ik s s2 _ _ _ (by simp [ba,ho]) (by simp [ba,ho])
 ·rename_i t ho
  rw [WM] at h
  obtain⟨z,hz,h⟩:=h
  simp only [hz,WL]
  exact oA h (by simp only [ba,ho]; rfl) hh oe
 ·rename_i t x ho
  exact oA h (by simp only [ba,ho]; rfl) hh oe
 ·rename_i t ps ho; exact dB _ h rfl (by simp [ba,ho]) (by simp [ba,ho])
 ·rename_i t k ps ho
  obtain⟨z,hz,rfl⟩:=Option.map_some' h
  simp only [hz,WS,WO]
  have hf:ba aG e o=(match o.dst with | some d=>if aG.contains d then {wh:=true} else {} | none=>{}):=by simp only [ba,ho]; rfl
  unfold pP
  cases Jy:nE P aG o t z with
  | none=>
   simp only
   cases hd:o.dst with
   | none=>rw [hd] at hf; rw [hf]; exact ik s s2 _ none _ rfl rfl
   | some d=>
    rw [hd] at hf
    simp only at hf
    by_cases hl:aG.contains d=true
    ·rw [if_pos hl] at hf
     have h2:=hh (by rw [hf])
     rw [hf]
     have h3:=gx s s2 {wh:=true} (some d) z s2.h rfl rfl
     refine h3.trans ?_
     rw [h2]
    ·rw [if_neg hl] at hf
     rw [hf]; exact ik s s2 _ _ _ rfl rfl
  | some q=>
   obtain⟨d,hd,hl⟩:∃d,o.dst=some d∧aG.contains d=true:=by
    unfold nE at Jy
    split at Jy
    ·rename_i d _ _ _ hd
     refine⟨d,hd,?_⟩
     cases hc:aG.contains d with
     | false=>rw [hc] at Jy; cases Jy
     | true=>rfl
    ·cases Jy
   rw [hd] at hf
   simp only [hl,if_true] at hf
   rw [hf] at hh ⊢
   simp only [hh rfl]
   exact gx s s2 _ _ _ _ rfl rfl
 ·
  rename_i t x ho
  have hf:ba aG e o=(match e x with | .lp k _=>{rb:=[k]} | .ptr id _=>{rh:=[id]} | _=>{}):=by simp only [ba,ho]; rfl
  refine dB _ h ?_ ?_ ?_
  ·rw [hf] at hb hr
   unfold jg
   cases hx:e x<;>rw [hx] at hb hr<;>try rfl
   ·simp only; rw [hr _ (by simp)]
   ·simp only; rw [hb _ (by simp)]
  ·rw [hf]; cases e x<;>rfl
  ·rw [hf]; cases e x<;>rfl
 ·
  rename_i t x y ho
  have hf:ba aG e o=(match e x with | .lp k _=>{rb:=[k],wb:=some k} | _=>{wh:=true}):=by simp only [ba,ho]; rfl
  try simp only at h ⊢
  split at h
  ·cases h
  rename_i hd
  rw [if_neg hd]
  have G7:o.dst=none:=by simpa using hd
  cases hx:e x<;>rw [hx] at h hf<;>simp only at h hf ⊢<;>try (cases h; done)
  ·rename_i id off
   rw [hf] at hh ⊢
   rw [WM] at h
   obtain⟨ob,hob,h⟩:=h
   rw [hh rfl,hob]
   cases ob with
   | map es=>cases h
   | row t cs=>cases h
   | cells cs=>
    obtain⟨fI,hcs,rfl⟩:=Option.map_some' h
    simp only [WL,hcs,WS,G7,WO]
    exact gx s s2 {wh:=true} none .any _ rfl rfl
  ·rename_i k off
   rw [hf] at hb ⊢
   rw [WM] at h
   obtain⟨cs,hcs,h⟩:=h
   rw [hb k (by simp),hcs]
   obtain⟨fI,O8,rfl⟩:=Option.map_some' h
   simp only [WL,O8,WS,G7,WO]
   exact CZ s s2 _ k fI rfl rfl
 ·rename_i ho; exact dB _ h rfl (by simp [ba,ho]) (by simp [ba,ho])
 ·rename_i ho; exact dB _ h rfl (by simp [ba,ho]) (by simp [ba,ho])
 ·rename_i ho; exact dB _ h rfl (by simp [ba,ho]) (by simp [ba,ho])
 ·
  rename_i a b x ho
  have hf:ba aG e o=(match e x with | .rs id _ _ _=>{rh:=[id]} | _=>{}):=by simp only [ba,ho]; rfl
  refine dB _ h ?_ ?_ ?_
  ·have hc:dI s2.h 1 (e x)=dI s.h 1 (e x):=by
    rw [hf] at hr
    unfold dI
    cases hx:e x<;>rw [hx] at hr<;>try rfl
    simp only; rw [hr _ (by simp)]
   unfold eS
   rw [hc]
  ·rw [hf]; cases e x<;>rfl
  ·rw [hf]; cases e x<;>rfl
 ·rename_i Ai first cap ho
  try simp only
  split at h
  ·rename_i hc
   rw [if_pos hc]
   exact dB _ h rfl (by simp [ba,ho]) (by simp [ba,ho])
  ·cases h
 ·rename_i ho
  have hf:(ba aG e o).wh=true:=by simp [ba,ho]
  cases h
  simp only [hh hf,WO]
  exact gx s s2 _ _ _ _ (by simp [ba,ho]) hf
 ·rename_i t l c ho
  have hf:(ba aG e o).wh=true:=by simp [ba,ho]
  exact ym _ (fun y:AV × AHeap=>y.1) (fun y=>y.2) h (by simp only [hh hf]) (by simp [ba,ho]) hf
 ·rename_i ho; exact dB _ h rfl (by simp [ba,ho]) (by simp [ba,ho])
 ·rename_i ho; exact dB _ h rfl (by simp [ba,ho]) (by simp [ba,ho])
 ·rename_i ho; exact dB _ h rfl (by simp [ba,ho]) (by simp [ba,ho])
 ·rename_i ho; exact dB _ h rfl (by simp [ba,ho]) (by simp [ba,ho])
 ·rename_i ho; exact dB _ h rfl (by simp [ba,ho]) (by simp [ba,ho])
 ·
  rename_i t m k ok ho
  have hf:ba aG e o=(match e m with | .mp id=>{rh:=[id]} | _=>{}):=by simp only [ba,ho]; rfl
  refine dB _ h ?_ ?_ ?_
  ·rw [hf] at hr
   unfold fH
   cases hx:e m<;>rw [hx] at hr<;>try rfl
   simp only; rw [hr _ (by simp)]
  ·rw [hf]; cases e m<;>rfl
  ·rw [hf]; cases e m<;>rfl
 ·rename_i t m k x ho
  have hf:(ba aG e o).wh=true:=by simp [ba,ho]
  try simp only at h ⊢
  split at h
  ·cases h
  rename_i hd
  rw [if_neg hd]
  have G7:o.dst=none:=by simpa using hd
  obtain⟨h',hm,rfl⟩:=Option.map_some' h
  simp only [hh hf,hm,WS,G7,WO]
  exact gx s s2 _ none .any _ (by simp [ba,ho]) hf
 ·rename_i t m k x ho
  have hf:(ba aG e o).wh=true:=by simp [ba,ho]
  try simp only at h ⊢
  split at h
  ·cases h
  rename_i hd
  rw [if_neg hd]
  have G7:o.dst=none:=by simpa using hd
  obtain⟨h',hm,rfl⟩:=Option.map_some' h
  simp only [hh hf,hm,WS,G7,WO]
  exact gx s s2 _ none .any _ (by simp [ba,ho]) hf
 ·rename_i ho; exact dB _ h rfl (by simp [ba,ho]) (by simp [ba,ho])
 ·
  rename_i b args Bx ho
  try simp only
  unfold gq at h ⊢
  generalize hargs:args.toList.map e=as at h ⊢
  generalize Bx.toList=ts at h ⊢
  split at h
  ·rename_i t x
   try simp only
   have hf:ba aG e o=(match x with | .mp id=>{rh:=[id]} | _=>{}):=by
    simp only [ba,ho,hargs]
    cases x<;>rfl
   refine dB _ h ?_ ?_ ?_
   ·rw [hf] at hr
    unfold sr
    cases x<;>try rfl
    simp only; rw [hr _ (by simp)]
   ·rw [hf]; cases x<;>rfl
   ·rw [hf]; cases x<;>rfl
  ·try simp only
   have hf:(ba aG e o).wh=true∧(ba aG e o).wb=none:=by simp only [ba,ho,hargs]; simp
   exact ym _ (fun y:AV × AHeap=>y.1) (fun y=>y.2) h (by simp only [hh hf.1]) hf.2 hf.1
  ·try simp only
   have hf:(ba aG e o).wh=true∧(ba aG e o).wb=none:=by simp only [ba,ho,hargs]; simp
   exact ym _ (fun y:AV × AHeap=>y.1) (fun y=>y.2) h (by simp only [hh hf.1]) hf.2 hf.1
  ·try simp only
   have hf:(ba aG e o).wh=true∧(ba aG e o).wb=none:=by simp only [ba,ho,hargs]; simp
   exact ym _ (fun _:AHeap=>.tup []) (fun y=>y) h (by simp only [hh hf.1]) hf.2 hf.1
  ·try simp only
   rw [WM] at h
   obtain⟨v,hv,h⟩:=h
   rw [WM] at h
   obtain⟨vs,DY,h⟩:=h
   rw [WM] at h
   obtain⟨u,hu,h⟩:=h
   simp only [hv,DY,hu,WL]
   exact dB _ h rfl (by simp [ba,ho]) (by simp [ba,ho])
  ·try simp only
   rw [WM] at h
   obtain⟨v,hv,h⟩:=h
   rw [WM] at h
   obtain⟨vs,DY,h⟩:=h
   rw [WM] at h
   obtain⟨u,hu,h⟩:=h
   simp only [hv,DY,hu,WL]
   exact dB _ h rfl (by simp [ba,ho]) (by simp [ba,ho])
  ·cases h
 ·
  rename_i fx args Bx ho
  have hf:(ba aG e o).wh=true∧(ba aG e o).wb=none:=by simp [ba,ho]
  try simp only
  cases hx:e fx<;>rw [hx] at h<;>simp only at h ⊢<;>try (cases h; done)
  rename_i Ai cap
  split at h
  ·rename_i ha
   rw [if_pos ha]
   exact ym _ (fun y:AV × AHeap=>y.1) (fun y=>y.2) h (by simp only [hh hf.1]) hf.2 hf.1
  ·cases h
 ·cases h
end
end Go.R
