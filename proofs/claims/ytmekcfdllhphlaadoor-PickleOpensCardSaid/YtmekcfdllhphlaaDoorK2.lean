/- Part of the proof: ROps5, ROps6, ROps7, ROpAll, RFrz, RCode. -/
import Derived.Test.YtmekcfdllhphlaaDoorK1
import Derived.MapKept
import Derived.Laws.CopyRow
import Derived.Laws.BytesArg
import Derived.Laws.IdiomStrings
import Derived.Tactics
set_option linter.unusedVariables false
set_option linter.unusedSimpArgs false
set_option maxRecDepth 100000
open Array renaming getElem?_eq_some_iff → XX, getElem?_setIfInBounds → Yn, getElem?_modify → Yw, ext' → YZ
open Bool renaming and_eq_true → Xt, false_eq_true → XG, true_and → YE, not_eq_true' → YO
open List renaming getElem?_eq_some_iff → Xx, length_set → Xz, getElem?_eq_none → XI, map_cons → XK, mem_map → XN, all_eq_true → XQ, mem_cons → X5, eq_nil_of_length_eq_zero → X7, ext_getElem? → Ye, all_cons → Yj, getElem?_set → YP
open Nat renaming le_refl → Xs, zero_add → XP, beq → X9, lt_succ_of_lt → Yt, le_succ → YD, min_eq_left → Y0
open Ne renaming symm → YH
open Option renaming bind_some → Xo, bind_eq_some_iff → Xp, map_eq_some_iff → Xq, map_some → Xu, isSome_iff_exists → X2, getD_some → Yi
open Option.some renaming injEq → Xr
open Prod.mk renaming injEq → Xw
namespace Go.R
open Go
section
variable {P:Program}{L0:Nat→Prop}{c0:Cx}{n:Nat}{ds:List Nat}{o:Oper}{s:RS}
theorem Fr.wz {c:Cx}{Lo:Nat→Prop}{lam:Nat→Nat}{a:Act}(f:Fr L0 c Lo lam ds s a)(hbs:c.base≤c.w.heap.size){id:Nat}{es qL:List (AV × AV)}(ho:c.h.get id=some (.map es)){kp qR:Array MapEntry}{clock nA:Nat}
  (hb:c.w.heap[(c.β id).1]? = some (.map kp clock)) (he:ko c (un L0 Lo) qL qR.toList) :
  Ext c Lo ⟨c.β,s.h.put id (.map qL),{c.w with heap:=c.w.heap.setIfInBounds (c.β id).1 (.map qR nA)},c.base⟩ Lo∧
   Fr L0 ⟨c.β,s.h.put id (.map qL),{c.w with heap:=c.w.heap.setIfInBounds (c.β id).1 (.map qR nA)},c.base⟩ Lo lam ds {s with h:=s.h.put id (.map qL)} a:=by
 have hl:Live c.h id:=⟨f.rel.lt _ _ ho,by simp [ho]⟩
 have hlt:(c.β id).1<c.w.heap.size:=(XX.1 hb).1
 have hne:∀b,b≠(c.β id).1→({c.w with heap:=c.w.heap.setIfInBounds (c.β id).1 (.map qR nA)}:World).heap[b]? = c.w.heap[b]?:=by
  intro b hb
  simp only [Yn]
  rw [if_neg (YH hb)]
 rw [←f.h]
 refine f.upd (β':=c.β) (h':=c.h.put id (.map qL)) id (.map qL) (Steady.put _ _ _) (Yt hl.1) (by simp [AHeap.put,beq_nat])
  (fun nY h1=>.inr ⟨by simp [AHeap.put,beq_nat,h1],rfl⟩) (fun _=>⟨hl,rfl⟩) (.inr ⟨id,hl,rfl,.inl rfl⟩) (fun _=>?_)
  (fun b _ h1=>hne b h1) (fun b _ h1=>hne b h1) (by simp) hbs rfl rfl rfl (fun e=>⟨qR,nA,by simp [hlt],he.ext e⟩)
 simp only [Cx.len,World.shape?,hb,Yn,hlt,if_true]
theorem wA {x y:AV}(hs:sameShape x y=true)(hq:fO x y=true):x=y:=by
 cases x<;>cases y<;>simp only [sameShape] at hs<;>try (cases hs; done)
 ·simp only [fO,iR,Xt,beq_iff_eq] at hq
  obtain⟨rfl,rfl⟩:=hq
  rfl
 ·rename_i a b
  simp only [fO,iR,beq_iff_eq] at hq
  congr 1
  cases a; cases b
  congr 1
  exact Array.toList_inj.1 hq
 ·rename_i xs ys
  simp only [Xt,beq_iff_eq] at hs
  obtain⟨⟨_,hx⟩,hy⟩:=hs
  obtain⟨ns,rfl⟩:=gU hx
  obtain⟨ms,rfl⟩:=gU hy
  simp only [fO,jU,decide_eq_true_eq] at hq
  rw [hq]
theorem mZ:∀ns:List Int,iP (ns.map fun n=>AV.int .i64 n)=some (ns.map fun n=>Value.int .i64 n)
 | []=>rfl
 | n::ns=>by simp [iP,AV.fu,mZ ns]
theorem Ag {t:TypeId}{k:AV}(h:fP P t k=true):∃u,k.zR=some u∧Instr.sameBits 10000 u u=true:=by
 unfold fP at h
 have MJ:∀cs:List AV,cs.all jS=true→∃u,(AV.agg cs).zR=some u∧Instr.sameBits 10000 u u=true:=by
  intro cs hcs
  obtain⟨ns,rfl⟩:=gU hcs
  refine⟨.agg (ns.map fun n=>Value.int .i64 n).toArray,by simp [AV.zR,mZ],?_⟩
  simp only [Instr.sameBits,beq_self_eq_true,YE,XQ]
  intro p hp
  have:∀(l:List Value),(∀v∈l,∃m,v=Value.int .i64 m)→∀p∈l.zip l,Instr.sameBits 9999 p.1 p.2=true:=by
   clear hp p
   intro l hl p hp
   have h1:p.1=p.2∧p.1∈l:=by
    clear hl
    induction l with
    | nil=>cases hp
    | cons v l ih=>
     simp only [List.zip_cons_cons,X5] at hp
     rcases hp with rfl | hp
     ·exact⟨rfl,by simp⟩
     ·obtain⟨h1,h2⟩:=ih hp; exact⟨h1,by simp [h2]⟩
   obtain⟨h1,h2⟩:=h1
   obtain⟨m,hm⟩:=hl _ h2
   rw [←h1,hm]
   simp [Instr.sameBits]
  exact this (ns.map fun n=>Value.int .i64 n) (fun v hv=>by obtain⟨m,_,rfl⟩:=XN.1 hv; exact⟨m,rfl⟩) p (by simpa using hp)
 split at h
 ·exact⟨_,rfl,by simp [Instr.sameBits]⟩
 ·exact⟨_,rfl,by simp [Instr.sameBits,u7]⟩
 ·simp only [Xt] at h; exact MJ _ h.1.1.2
 ·simp only [Xt] at h; exact MJ _ h.1.1.2
 ·cases h
theorem sO {c:Cx}{L:Nat→Prop}{k v:AV}{kv vv:Value}(hc:k.zR.isSome=true)(hk:VR c L k kv)(hv:VR c L v vv) :
  ∀(es qL:List (AV × AV)) (ms:List MapEntry) (i:Nat),ko c L es ms→we k v es=some qL→
   iu k es≠none∧(place k es ms i=none∧(∀b,ko c L qL (ms++[{key:=kv,val:=vv,born:=b}]))∨
    ∃j u m,place k es ms i=some (i+j,u)∧ms[j]? = some m∧m.key=kv∧ko c L qL (ms.modify j fun e=>{e with key:=kv,val:=vv}))
 | [],qL,[],i,_,h=>by
  simp only [we,Xr] at h
  subst h
  exact⟨by simp [iu],.inl ⟨rfl,fun b=>⟨⟨hk,hc⟩,hv,trivial⟩⟩⟩
 | (k',v')::es,qL,m::ms,i,he,h=>by
  obtain⟨⟨El,SQ⟩,Bs,uu⟩:=he
  simp only [we] at h
  split at h
  rotate_left
  ·cases h
  rename_i hs
  split at h
  ·rename_i hq
   cases h
   have yc:k=k':=wA hs hq
   obtain⟨u,hu⟩:=X2.1 hc
   refine⟨by simp [iu,hs,hq],.inr ⟨0,m.val,m,by simp [place,hq],rfl,?_,?_⟩⟩
   ·subst yc
    rw [wq hu hk,wq hu El]
   ·exact⟨⟨hk,hc⟩,hv,uu⟩
  ·rename_i hq
   rw [Xq] at h
   obtain⟨UY,h1,rfl⟩:=h
   obtain⟨h2,h3⟩:=sO hc hk hv es UY ms (i+1) uu h1
   refine⟨by simp [iu,hs,hq,h2],?_⟩
   have yj:fO k k'=false:=by simpa using hq
   rcases h3 with⟨h3,h4⟩| ⟨j,u,m',h3,h4,h5,h6⟩
   ·exact .inl ⟨by simp [place,yj,h3],fun b=>⟨⟨El,SQ⟩,Bs,h4 b⟩⟩
   ·exact .inr ⟨j+1,u,m',by simp [place,yj,h3]; omega,by simpa using h4,h5,⟨⟨El,SQ⟩,Bs,h6⟩⟩
 | [],_,_::_,_,h,_=>h.elim
 | _::_,_,[],_,h,_=>h.elim
theorem sP {x:AV}(h:x.lq=true):∀k off,x≠.lp k off:=by rintro k off rfl; simp [AV.lq] at h
theorem uB {c:Cx}{Lo:Nat→Prop}{lam:Nat→Nat}{a:Act}(f:Fr L0 c Lo lam ds s a)(hbs:c.base≤c.w.heap.size){t:TypeId}{m k x:AV}{mv kv xv:Value}(hm:SR c L0 Lo lam s.bx m mv)(hk:SR c L0 Lo lam s.bx k kv)(hx:SR c L0 Lo lam s.bx x xv){h':AHeap}
  (h:iv P s.h t m k x=some h'):∃c',(Instr.mapUpdate t mv kv xv).run P c.w = .ok () c'.w∧Ext c Lo c' Lo∧Fr L0 c' Lo lam ds {s with h:=h'} a:=by
 unfold iv at h
 rw [Xp] at h
 obtain⟨d,hd,h⟩:=h
 cases d<;>simp only at h<;>try (cases h; done)
 rename_i kt et
 split at h
 ·cases h
 rename_i jI
 obtain⟨uy,hargs⟩:fP P kt k=true∧x.lq=true:=by
  cases h1:fP P kt k<;>cases h2:x.lq<;>simp [h1,h2] at jI ⊢
 have yd:VR c (un L0 Lo) k kv:=hk.vr (by rintro k0 off rfl; simp [fP] at uy)
 have UZ:=hx.vr (sP hargs)
 cases m<;>simp only at h<;>try (cases h; done)
 rename_i id
 rw [Xp] at h
 obtain⟨ob,ho,h⟩:=h
 cases ob with
 | cells cs=>cases h
 | row t cs=>cases h
 | map es=>
 rw [Xq] at h
 obtain⟨qL,hu,rfl⟩:=h
 simp only [SR,VR] at hm
 obtain⟨hi,r,rfl,hr⟩:=hm
 rw [←f.h] at ho
 have hl:Live c.h id:=⟨f.rel.lt _ _ ho,by simp [ho]⟩
 have PD:=hr hl
 subst PD
 obtain⟨kp,clock,h1,h2⟩:=f.rel.obj _ _ ho
 obtain⟨u0,I6,U0⟩:=Ag uy
 obtain⟨hf,hp⟩:=sO (by simp [I6]) yd UZ es qL kp.toList 0 h2 hu
 have Em:=u9 uy yd c.w h2 hf
 have JM:=mW (P:=P) false 9998 uy yd c.w
 have hget:(getObj (c.β id).1).run P c.w = .ok (.map kp clock) c.w:=MapKept.run_getObj_map h1
 rcases hp with⟨hp,sE⟩| ⟨j,u,m,hp,hj,hmk,sE⟩
 ·obtain⟨e',f'⟩:=f.wz hbs ho h1 (qR:=kp.push {key:=kv,val:=xv,born:=clock}) (nA:=clock+1) (qL:=qL) (by simpa using sE clock)
  refine⟨_,?_,e',f'⟩
  unfold Instr.mapUpdate
  rw [hp] at Em
  simp only [Sem.run_bind,bp hd,Result.andThen_ok,hget,JM,Em]
  exact MapKept.run_setObj_map _ h1
 ·obtain⟨e',f'⟩:=f.wz hbs ho h1 (qR:=kp.modify j fun e=>{e with key:=kv,val:=xv}) (nA:=clock) (qL:=qL) (by simpa using sE)
  refine⟨_,?_,e',f'⟩
  unfold Instr.mapUpdate
  rw [hp,XP] at Em
  have JU:kp[j]? = some m:=by simpa using hj
  have HN:(Instr.keyThatStays m.key kv).run P c.w = .ok kv c.w:=by
   rw [hmk]
   unfold Instr.keyThatStays
   rw [wq I6 yd,U0]
   rfl
  simp only [Sem.run_bind,bp hd,Result.andThen_ok,hget,JM,Em,JU,Xu,Yi,HN]
  exact MapKept.run_setObj_map _ h1
theorem og (hb0:c0.base≤c0.w.heap.size){t:TypeId}{m k x:Operand}(ho:o.op = .mapUpdate t m k x∨o.op = .insert t m k x)(ru:o.dst=none){h':AHeap}
  (h:iv P s.h t (bN s.ρ m) (bN s.ρ k) (bN s.ρ x)=some h'):je P L0 c0 n ds o s {s with h:=h'}:=by
 rintro a w K Q ⟨hn,c,Lo,lam,rfl,f,e⟩ hK
 obtain⟨c',hr,e',f'⟩:=uB f (jt e hb0) (bA f m) (bA f k) (bA f x) h
 unfold Oper.wp
 have:(execOp a.eval o).run P c.w = .ok .skip c'.w:=by rcases ho with ho | ho<;>simp [execOp,ho,hr]
 rw [this,Oper.upon_skip]
 have JP:a.put o.dst undef=a:=by rw [ru]; rfl
 rw [JP]
 exact hK _ _ ⟨hn,c',Lo,lam,rfl,f',e.trans e'⟩
theorem EA (hb0:c0.base≤c0.w.heap.size)(hd:fQ n ds o){t:TypeId}{x:Operand}(ho:o.op = .call {callee:=.builtin .clear,args:=#[x],argTypes:=#[t]}){h':AHeap}
  (h:ss P s.h t (bN s.ρ x)=some h'):je P L0 c0 n ds o s ({s with h:=h'}.set o.dst (.tup [])):=by
 rintro a w K Q ⟨hn,c,Lo,lam,rfl,f,e⟩ hK
 unfold ss at h
 rw [Xp] at h
 obtain⟨d,C1,h⟩:=h
 have hx:=bA f x
 have fin:∀c',(Builtin.clear_ #[t] o.type #[a.eval x]).run P c.w = .ok (.tuple #[]) c'.w→Ext c Lo c' Lo→Fr L0 c' Lo lam ds {s with h:=h'} a→o.wp P a c.w K Q:=by
  intro c' hr e' f'
  unfold Oper.wp
  have:(execOp a.eval o).run P c.w = .ok (.value (.tuple #[])) c'.w:=by
   simp [execOp,ho,resolve,invoke,builtin,hr]
  rw [this,Oper.upon_value]
  exact hK _ _ ⟨(gk _ _ _).trans hn,c',Lo,lam,rfl,f'.set (SR.of (by simp [VR,VRs])) (fun t ht=>by rw [hn]; exact hd t ht),e.trans e'⟩
 cases CW:bN s.ρ x<;>rw [CW] at h hx<;>simp only at h<;>try (cases h; done)
 ·cases h
  simp only [SR,VR] at hx
  refine fin c ?_ (Ext.refl _ _) f
  simp [Builtin.clear_,bp C1,hx]
 ·rename_i id
  rw [Xp] at h
  obtain⟨ob,ho,h⟩:=h
  cases ob with
  | cells cs=>cases h
  | row t cs=>cases h
  | map es=>
  cases h
  simp only [SR,VR] at hx
  obtain⟨hi,r,sa,hr⟩:=hx
  rw [←f.h] at ho
  have hl:Live c.h id:=⟨f.rel.lt _ _ ho,by simp [ho]⟩
  have PD:=hr hl
  subst PD
  obtain⟨kp,clock,h1,h2⟩:=f.rel.obj _ _ ho
  obtain⟨e',f'⟩:=f.wz (jt e hb0) ho h1 (qR:=#[]) (nA:=clock) (qL:=[]) trivial
  refine fin _ ?_ e' f'
  have hget:(getObj (c.β id).1).run P c.w = .ok (.map kp clock) c.w:=MapKept.run_getObj_map h1
  have Ah:=MapKept.run_setObj_map (P:=P) (.map #[] clock) h1
  simp [Builtin.clear_,bp C1,sa,hget,Ah]
end
end Go.R
namespace Go.R
open Go
section
variable {P:Program}{L0:Nat→Prop}{c0:Cx}{n:Nat}{ds:List Nat}{o:Oper}{s:RS}
theorem lS {w:World}{t t2 ty e:TypeId}{i:TypeInfo}(ht:P.underlying t=some (.slice e))(hi:P.info? e=some i){base:Option Addr}{len cap:Nat}{x:Value}{news:List Value}{m:Nat}(hs:Src P i.size t2 x m news w)(hm:m≤len) :
  (Builtin.copy_ #[t,t2] ty #[.slice base len cap,x]).run P w=match base with | none=>.ok (goInt m) w | some a=>((storeCells a news).run P w).andThen fun _ w'=>.ok (goInt m) w':=by
 have MK:Nat.min m len=m:=Y0 hm
 have hlen:=hs.len w
 have hc:=hs.cells
 have hsz:(sizeOf e).run P w = .ok i.size w:=by simp [sizeOf,typeInfo,hi]
 unfold Builtin.copy_
 cases base with
 | none=>simp [bp ht,hlen,MK,hsz,hc]
 | some a=>simp [bp ht,hlen,MK,hsz,hc,Sem.run_bind]
theorem HO (hb0:c0.base≤c0.w.heap.size)(hd:fQ n ds o){t t2:TypeId}{dx sx:Operand}(ho:o.op = .call {callee:=.builtin .copy,args:=#[dx,sx],argTypes:=#[t,t2]}){y:AV}{h':AHeap}
  (h:uZ P s.h t t2 (bN s.ρ dx) (bN s.ρ sx)=some (y,h')):je P L0 c0 n ds o s ({s with h:=h'}.set o.dst y):=by
 rintro a w K Q ⟨hn,c,Lo,lam,rfl,f,e0⟩ hK
 have hbs:=jt e0 hb0
 unfold uZ at h
 rw [Xp] at h
 obtain⟨d,C1,h⟩:=h
 cases d<;>simp only at h<;>try (cases h; done)
 rename_i e
 rw [Xp] at h
 obtain⟨i,hi,h⟩:=h
 rw [Xp] at h
 obtain⟨⟨new,m⟩,hcs,h⟩:=h
 simp only at h
 split at h
 ·cases h
 rename_i hX
 have hX:jR P t2 (bN s.ρ sx)=true:=by simpa using hX
 have SS:∀st,bN s.ρ sx = .str st→P.underlying t2=some .string:=by
  intro st hst
  rw [hst] at hX
  unfold jR at hX
  simp only at hX
  split at hX
  ·assumption
  ·cases hX
 have pO:(∀st,bN s.ρ sx≠.str st)→∃e',P.underlying t2=some (.slice e'):=by
  intro hne
  unfold jR at hX
  split at hX
  ·rename_i st hst; exact absurd hst (hne st)
  ·split at hX
   ·rename_i e' he; exact⟨e',he⟩
   ·cases hX
 have hk:(∃e',P.underlying t2=some (.slice e'))∨P.underlying t2=some .string:=by
  by_cases hst:∃st,bN s.ρ sx = .str st
  ·obtain⟨st,hst⟩:=hst; exact .inr (SS st hst)
  ·exact .inl (pO fun st PE=>hst ⟨st,PE⟩)
 obtain⟨news,hS,hv⟩:=pN f (bA f sx) hk SS pO hcs
 have xR:=bA f dx
 have fin:∀c',(Builtin.copy_ #[t,t2] o.type #[a.eval dx,a.eval sx]).run P c.w = .ok (goInt m) c'.w→Ext c Lo c' Lo→Fr L0 c' Lo lam ds {s with h:=h'} a→y = .int .i64 m→o.wp P a c.w K Q:=by
  intro c' hr e' f' hy
  unfold Oper.wp
  have:(execOp a.eval o).run P c.w = .ok (.value (goInt m)) c'.w:=by
   simp [execOp,ho,resolve,invoke,builtin,hr]
  rw [this,Oper.upon_value]
  exact hK _ _ ⟨(gk _ _ _).trans hn,c',Lo,lam,rfl,f'.set (SR.of (by subst hy; simp [VR,goInt])) (fun t ht=>by rw [hn]; exact hd t ht),e0.trans e'⟩
 cases CW:bN s.ρ dx<;>rw [CW] at h xR<;>simp only at h<;>try (cases h; done)
 ·split at h
  rotate_left
  ·cases h
  rename_i r8
  cases h
  simp only [SR,VR] at xR
  obtain⟨ad,xR⟩:∃ad:Option Addr,a.eval dx = .slice ad 0 0:=⟨none,xR⟩
  refine fin c ?_ (Ext.refl _ _) f (by rw [r8]; rfl)
  rw [xR,lS C1 hi hS (by omega)]
  cases ad with
  | none=>rfl
  | some ad=>
   have:news=[]:=X7 (by rw [hS.newsLen,r8]; simp)
   subst this
   rfl
 ·rename_i id off len iL
  split at h
  ·rename_i hid
   split at h
   rotate_left
   ·cases h
   rename_i r8
   cases h
   simp only [SR,VR] at xR
   rcases xR with⟨_,_,_,ad,xR⟩| xR
   rotate_left
   ·exact absurd hid xR.1
   refine fin c ?_ (Ext.refl _ _) f (by rw [r8]; rfl)
   rw [xR,lS C1 hi hS (by omega)]
   cases ad with
   | none=>rfl
   | some ad=>
    have:news=[]:=X7 (by rw [hS.newsLen,r8]; simp)
    subst this
    rfl
  rename_i ku
  rw [Xp] at h
  obtain⟨ob,hob,h⟩:=h
  cases ob with
  | map es=>cases h
  | row t cs=>cases h
  | cells cs=>
  simp only at h
  split at h
  rotate_left
  ·cases h
  rename_i hh
  obtain⟨U1,ML,hoff⟩:=hh
  cases h
  simp only [SR,VR] at xR
  rcases xR with xR | ⟨_,hid,ad,cap,xR,hlc,Eo,hlive⟩
  ·exact absurd xR.1 ku
  rw [←f.h] at hob
  have hl:Live c.h id:=⟨f.rel.lt _ _ hob,by simp [hob]⟩
  obtain⟨q,hp,hq,hc⟩:=f.rel.obj _ _ hob
  have hnl:=hS.newsLen
  have hvl:=hv.length
  have hr:=lS (ty:=o.type) C1 hi hS ML (base:=ad) (cap:=cap)
  by_cases ha:ad=some ⟨(c.β id).1,(c.β id).2+off,none⟩
  ·subst ha
   simp only at hr
   have hst:=lQ (P:=P) hp.mz (base:=(c.β id).2) (off:=off) (vs:=news) (by omega) hS.one
   rw [hst] at hr
   simp only [Result.andThen_ok] at hr
   obtain⟨q1,q2,q3,q4⟩:=gV news (c.β id).1 ((c.β id).2+off) c.w
   have Aa:iy c (c.β id).1 q:=hp
   obtain⟨C,MI,hb,Ab⟩:=hp
   obtain⟨C',g1,g2,g3⟩:=fD news (c.β id).1 ((c.β id).2+off) c.w C MI (0,0) hb (by omega)
   obtain⟨e',f'⟩:=f.upd (w':=c.w.setCells (c.β id).1 ((c.β id).2+off) news) (β':=c.β) (h':=s.h.put id (.cells (du cs off new))) id (.cells (du cs off new))
    (by rw [f.h]; exact Steady.put _ _ _) (by rw [←f.h]; exact Yt hl.1) (by simp [AHeap.put,beq_nat]) (fun nY h1=>.inr ⟨by rw [f.h]; simp [AHeap.put,beq_nat,h1],rfl⟩) (fun _=>⟨hl,rfl⟩) (.inr ⟨id,hl,rfl,.inl rfl⟩)
    (fun _=>by simp only [Cx.len,World.shape?,g1,hb,Xu,Yi,g2])
    (fun b _ hne=>dT _ _ _ _ _ hne) (fun b _ hne=>dT _ _ _ _ _ hne) (by rw [q1]; exact Xs _) hbs q2 q3 q4
    (fun ee=>⟨q,Aa.setCells (by omega) _ _ _,by rw [ja]; exact hq,jH Aa.mz hc hv hS.one (by omega) (by omega) ee rfl⟩)
   refine fin _ ?_ e' f' rfl
   rw [xR]
   exact hr
  ·have hz:new=[]∧m=0∧news=[]:=by
    rcases hlive hl with⟨h1,_⟩| h1
    ·exact absurd h1 ha
    ·have h0:m=0:=by omega
     have h2:news=[]:=X7 (by rw [hnl,h0]; simp)
     subst h2
     exact⟨X7 (by simpa using hvl),h0,rfl⟩
   obtain⟨rfl,rfl,rfl⟩:=hz
   have mY:du cs off []=cs:=by simp [du]
   rw [mY] at *
   obtain⟨e',f'⟩:=f.upd (w':=c.w) (β':=c.β) (h':=s.h.put id (.cells cs)) id (.cells cs)
    (by rw [f.h]; exact Steady.put _ _ _) (by rw [←f.h]; exact Yt hl.1) (by simp [AHeap.put,beq_nat]) (fun nY h1=>.inr ⟨by rw [f.h]; simp [AHeap.put,beq_nat,h1],rfl⟩) (fun _=>⟨hl,rfl⟩) (.inr ⟨id,hl,rfl,.inl rfl⟩)
    (fun _=>rfl) (fun b _ hne=>rfl) (fun b _ hne=>rfl) (Xs _) hbs rfl rfl rfl
    (fun ee=>rq.ext ee ⟨q,hp,hq,hc⟩ rfl)
   refine fin _ ?_ e' f' rfl
   rw [xR,hr]
   cases ad<;>rfl
end
end Go.R
namespace Go.R
open Go
section
variable {P:Program}{L0:Nat→Prop}{c0:Cx}{n:Nat}{ds:List Nat}{o:Oper}{s:RS}
theorem pP {e:TypeId}(h:CO P e=true):P.underlying e=some (.int .u8)∧dZ P e=some 1:=by
 unfold CO at h
 simp only [Xt,beq_iff_eq] at h
 obtain⟨h1,h2⟩:=h
 refine⟨?_,h2⟩
 split at h1
 ·assumption
 ·cases h1
theorem Bw {c:Cx}{L:Nat→Prop}:∀{cs:List AV} {l:List UInt8} {vs:List Value},Hp cs=some l→VRs c L cs vs→∃xs:List Int,vs=xs.map (Value.int .u8)∧l=xs.map fun n=>UInt8.ofNat n.toNat
 | [],l,[],h,_=>by simp only [Hp,Xr] at h; subst h; exact⟨[],rfl,rfl⟩
 | x::cs,l,v::vs,h,hv=>by
  unfold Hp at h
  split at h
  ·rename_i heq; cases heq
  ·rename_i n xs heq
   cases heq
   rw [Xq] at h
   obtain⟨l',h1,rfl⟩:=h
   obtain⟨ys,rfl,rfl⟩:=Bw h1 hv.2
   have h2:=hv.1
   simp only [VR] at h2
   subst h2
   exact⟨n::ys,rfl,rfl⟩
  ·cases h
 | [],_,_::_,_,h=>h.elim
 | _::_,_,[],_,h=>h.elim
theorem wC (xs:List Int):strOfNums xs=⟨(xs.map fun n=>UInt8.ofNat n.toNat).toArray⟩:=rfl
theorem yk {w:World}{src dst e:TypeId}{v:Value}{m:Nat}{xs:List Int}(hs:P.underlying src=some (.slice e))(he:P.underlying e=some (.int .u8))(hd:P.underlying dst=some .string)
  (hS:Src P 1 src v m (xs.map (Value.int .u8)) w) (hv:∃a cap,v = .slice a m cap):(convert src dst v).run P w = .ok (.string (strOfNums xs)) w:=by
 obtain⟨a,cap,rfl⟩:=hv
 have hc:=hS.cells
 have hl:=hS.newsLen
 cases a with
 | none=>
  have:xs=[]:=by
   simp [Builtin.firstCells] at hc
   cases xs with
   | nil=>rfl
   | cons x xs=>simp at hc
  subst this
  exact run_convert_bytes_nil w src e hs he m cap dst hd
 | some a=>
  rw [run_convert_bytes_string w src dst e (some a) m cap hs he hd]
  have h1:(loadCells a m).run P w = .ok (xs.map (Value.int .u8)).toArray w:=by simpa [Builtin.firstCells] using hc
  rw [run_bytesToString w a m cap xs h1,foldl_push_bytes]
  simp [strOfNums,ByteArray.empty,ByteArray.emptyWithCapacity]
  rfl
theorem uC {c:Cx}{Lo:Nat→Prop}{lam:Nat→Nat}{x:AV}{v:Value}{h:AHeap}{size m:Nat}{new:List AV}(hx:SR c L0 Lo lam s.bx x v)(hc:dF h size x=some (new,m))(hne:∀st,x≠.str st):∃a cap,v = .slice a m cap:=by
 unfold dF at hc
 cases x<;>simp only at hc<;>try (cases hc; done)
 ·exact absurd rfl (hne _)
 ·cases hc
  simp only [SR,VR] at hx
  subst hx
  exact⟨none,0,rfl⟩
 ·split at hc
  ·cases hc
   simp only [SR,VR] at hx
   obtain⟨a,cap,rfl,_⟩:=hx
   exact⟨a,cap,rfl⟩
  ·cases hc
 ·split at hc
  ·split at hc
   ·cases hc
    simp only [SR,VR] at hx
    rename_i hid _
    rcases hx with⟨_,_,_,a,rfl⟩| hx
    ·exact⟨a,0,rfl⟩
    ·exact absurd hid hx.1
   ·cases hc
  rename_i ku
  rw [Xp] at hc
  obtain⟨ob,_,hc⟩:=hc
  cases ob with
  | map es=>cases hc
  | row t cs=>cases hc
  | cells cs=>
   simp only at hc
   split at hc
   ·cases hc
    simp only [SR,VR] at hx
    rcases hx with hx | ⟨_,_,a,cap,rfl,_⟩
    ·exact absurd hx.1 ku
    exact⟨a,cap,rfl⟩
   ·cases hc
theorem bytes_VRs {c:Cx}{L:Nat→Prop}:∀l:List UInt8,VRs c L (l.map fun b=>AV.int .u8 b.toNat) (l.map fun b=>Value.int .u8 b.toNat)
 | []=>trivial
 | b::l=>⟨by simp [VR],bytes_VRs l⟩
theorem wD {w:World}{b o k:Nat}{C:Array Value}{e:TypeId}{fr:Nat × Nat}(hb:w.heap[b]? = some (.cells C e fr))(ho:C.size≤o)(hk:k≠0) :
  (∀b',iw w (w.freeze ⟨b,o,none⟩ k) b')∧(∀b',b'≠b→(w.freeze ⟨b,o,none⟩ k).heap[b']? = w.heap[b']?)∧(w.freeze ⟨b,o,none⟩ k).heap.size=w.heap.size∧(w.freeze ⟨b,o,none⟩ k).os=w.os∧(w.freeze ⟨b,o,none⟩ k).tape=w.tape∧(w.freeze ⟨b,o,none⟩ k).output=w.output:=by
 unfold World.freeze
 rw [if_neg hk]
 have hlt:=(XX.1 hb).1
 refine⟨fun b'=>?_,fun b' hne=>by simp [Yw,YH hne],by simp,rfl,rfl,rfl⟩
 by_cases hne:b'=b
 ·subst hne
  obtain⟨lo,hi⟩:=fr
  refine .inr ⟨C,e,lo,hi,(if lo==hi then (o,o+k) else (min lo o,max hi (o+k))).1,(if lo==hi then (o,o+k) else (min lo o,max hi (o+k))).2,hb,?_,?_⟩
  ·simp [Yw,hb]
  ·intro h
   by_cases PF:lo=hi
   ·subst PF; right; simpa using ho
   ·have:(lo==hi)=false:=by simpa using PF
    right
    simp only [this,XG,if_false]
    rcases h with h | h
    ·exact absurd h PF
    ·exact Nat.le_min.2 ⟨h,ho⟩
 ·exact .inl (by simp [Yw,YH hne])
theorem Ai (hb0:c0.base≤c0.w.heap.size)(hd:fQ n ds o){src dst:TypeId}{x:Operand}(ho:o.op = .convert src dst x){y:AV}(h:gT P s.h src dst (bN s.ρ x)=some y):je P L0 c0 n ds o s (s.set o.dst y):=by
 have hex:∀(a:Act) (w w':World) v,(convert src dst (a.eval x)).run P w = .ok v w'→(execOp a.eval o).run P w = .ok (.value v) w':=by
  intro a w w' v hr; simp [execOp,ho,hr]
 unfold gT at h
 split at h
 ·rename_i e hs zK
  split at h
  rotate_left
  ·cases h
  rename_i hu
  obtain⟨he,hsz⟩:=pP hu
  rw [Xp] at h
  obtain⟨⟨cs,m⟩,hcs,h⟩:=h
  rw [Xq] at h
  obtain⟨l,hl,rfl⟩:=h
  by_cases hst:∃st,bN s.ρ x = .str st
  ·
   obtain⟨st,hst⟩:=hst
   refine fk hd fun a c Lo lam f hn=>?_
   have hx:=bA f x
   rw [hst] at hx hcs
   simp only [SR,VR] at hx
   simp only [dF,if_true,Xr,Xw] at hcs
   obtain⟨rfl,rfl⟩:=hcs
   refine⟨_,hex _ _ _ (.string st) ?_,?_⟩
   ·simp [convert,run_underlying hs,run_underlying zK,hx]
   ·have:∀(l0 l1:List UInt8),Hp (l0.map fun b=>AV.int .u8 b.toNat)=some l1→l1=l0:=by
     intro l0
     induction l0 with
     | nil=>intro l1 h; simp [Hp] at h; exact h
     | cons b l0 ih=>
      intro l1 h
      simp only [XK,Hp,Xq] at h
      obtain⟨l2,h2,rfl⟩:=h
      rw [ih l2 h2]
      simp
    rw [this _ _ hl]
    simp [SR,VR]
  ·refine fk hd fun a c Lo lam f hn=>?_
   have hne:∀st,bN s.ρ x≠.str st:=fun st h=>hst ⟨st,h⟩
   have hx:=bA f x
   obtain⟨news,hS,hv⟩:=pN f hx (.inl ⟨e,hs⟩) (fun st h=>absurd h (hne st)) (fun _=>⟨e,hs⟩) hcs
   obtain⟨xs,rfl,rfl⟩:=Bw hl hv
   exact⟨_,hex _ _ _ _ (yk hs he zK hS (uC hx hcs hne)),by simp [SR,VR,wC]⟩
 ·rename_i e hs zK
  cases CW:bN s.ρ x<;>rw [CW] at h<;>simp only at h<;>try (cases h; done)
  rename_i st
  split at h
  rotate_left
  ·cases h
  rename_i hu
  obtain⟨he,hsz⟩:=pP hu
  cases h
  refine sK hb0 hd (fun a c Lo lam f hn hbs=>?_) (by rintro k off h; cases h)
  have hx:=bA f x
  rw [CW] at hx
  simp only [SR,VR] at hx
  have hr:=run_bytes_of_string c.w src dst e st hs zK he
  rw [←hx] at hr
  refine⟨_,_,hex _ _ _ _ hr,fun b hb=>.inl (alloc_old c.w.drew _ (show b<c.w.heap.size from hb)),fun id hl=>alloc_old c.w.drew _ (show (c.β id).1<c.w.heap.size from f.rel.block hl),fun b hb=>alloc_old c.w.drew _ (show b<c.w.heap.size by omega),by show c.w.heap.size≤(c.w.heap.push _).size; simp,rfl,rfl,rfl,fun e'=>?_⟩
  simp only [VR]
  refine⟨_,_,rfl,grownCap_ge c.w,by simp,.inl rfl,?_⟩
  refine .inr ⟨c.w.heap.size,0,rfl,Ew f.rel rfl rfl,by simp,?_⟩
  refine Cells.of_vals (bytes_VRs st.data.toList) (fun i hi=>?_) (fun v hv=>by obtain⟨b,_,rfl⟩:=XN.1 hv; rfl)
  have lu:i<st.data.size:=by simpa using hi
  have:(World.alloc c.w.drew (.cells (bytesRow st (grownCap c.w st.size 0 e)) e ((bytesRow st (grownCap c.w st.size 0 e)).size,(bytesRow st (grownCap c.w st.size 0 e)).size+1))).heap[c.w.heap.size]? = some (.cells (bytesRow st (grownCap c.w st.size 0 e)) e ((bytesRow st (grownCap c.w st.size 0 e)).size,(bytesRow st (grownCap c.w st.size 0 e)).size+1)):=ib c.w.drew _
  rw [cell_of_block this]
  simp [bytesRow,Array.getElem?_append,lu]
  intro hge
  have:st.size=st.data.size:=rfl
  omega
 ·rename_i e0 e hs zK
  cases CW:bN s.ρ x<;>rw [CW] at h<;>try (cases h; done)
  rename_i cs m ex
  cases ex
  ·cases h
  simp only at h
  split at h
  rotate_left
  ·cases h
  rename_i hu
  simp only [Xt,beq_iff_eq,decide_eq_true_eq] at hu
  obtain⟨⟨U2,hu⟩,jg⟩:=hu
  subst U2
  obtain⟨he,hsz⟩:=pP hu
  cases h
  refine sK hb0 hd (fun a c Lo lam f hn hbs=>?_) (by rintro k off h; cases h)
  have hx:=bA f x
  rw [CW] at hx
  have HP:=hx.vr (by rintro k off h; cases h)
  simp only [SR,VR] at hx
  obtain⟨ad,cap,sa,h1,h2,_,h3⟩:=hx
  rcases h3 with rfl | ⟨b,off,rfl,I2,hbb,hc⟩
  ·simp at jg
  have hlt:b<c.w.heap.size:=by
   cases cs with
   | nil=>simp at jg
   | cons x cs=>exact jE hc
  have mY:∃C e' fr,c.w.heap[b]? = some (.cells C e' fr):=by
   cases cs with
   | nil=>simp at jg
   | cons x cs=>
    obtain⟨⟨v,hv,_⟩,_⟩:=hc
    unfold World.cell? at hv
    split at hv
    ·exact⟨_,_,_,by assumption⟩
    ·cases hv
  obtain⟨C,e',fr,hb⟩:=mY
  obtain⟨k1,k2,k3,k4,k5,k6⟩:=wD (k:=1) hb (Xs C.size) (by decide)
  refine⟨c.w.freeze ⟨b,C.size,none⟩ 1,a.eval x,hex _ _ _ _ ?_,fun b' _=>k1 b',fun id hl=>k2 _ (I2.1 id hl),fun b' zI=>k2 b' (by have:=hbb trivial; omega),by rw [k3]; exact Xs _,k4,k5,k6,fun MI=>VR.ext MI _ _ HP⟩
  rw [sa]
  have U3:c.w.shape? b=some (e',C.size):=by simp [World.shape?,hb]
  simp [convert,run_underlying zK,run_underlying he,markStringish,U3]
 ·rw [Xp] at h
  obtain⟨v,hv,h⟩:=h
  rw [Xp] at h
  obtain⟨r,hr,h⟩:=h
  refine fk hd fun a c Lo lam f hn=>?_
  have hx:=kq hv ((bA f x).vr (kr hv))
  exact⟨r,hex _ _ _ _ (by rw [hx]; exact jT _ hr),SR.of (mA h)⟩
theorem dC {op:BinOp}{t:TypeId}{x y:Operand}{u v:Value}(h:(∀a b,u≠.agg a∨v≠.agg b)∧u≠.nilIface)(w:World):(eqGuard op t x y u v).run P w = .ok () w:=by
 obtain⟨h1,h2⟩:=h
 unfold eqGuard
 cases op<;>first | rfl | skip
 all_goals
  simp only [Bool.not_true,XG,if_false]
  split
  ·exact absurd rfl h2
  ·rename_i a b; rcases h1 a b with h3 | h3<;>exact absurd rfl h3
  ·rfl
theorem Aj {x:AV}{u:Value}(h:x.fu=some u):(∀a,u≠.agg a)∧u≠.nilIface:=by
 unfold AV.fu at h
 split at h<;>first | (cases h; done) | (cases h; exact⟨fun _=>(by simp),(by simp)⟩)
theorem C2 {op:BinOp}{a b:ByteArray}{y:AV}(h:zU op a b=some y)(w:World):∃r,(Op.stringOp op a b).run P w = .ok r w∧∀(c:Cx) (L:Nat→Prop),VR c L y r:=by
 have hl:∀z:ByteArray,z.toList=z.data.toList:=fun z=>ByteArray.toList_eq z
 unfold zU at h
 unfold Op.stringOp
 simp only [hl]
 cases op<;>simp only at h<;>try (cases h; done)
 ·split at h
  rotate_left
  ·cases h
  rename_i hsz
  cases h
  refine⟨.string (a++b),?_,fun c L=>by simp only [VR]⟩
  have h1:¬(((a.size+b.size:Nat):Int) > IntKind.i64.max):=by
   have:IntKind.i64.max=9223372036854775807:=by decide
   rw [this]; omega
  simp only [h1,if_false]
  rfl
 all_goals (cases h; exact⟨_,rfl,fun c L=>by simp only [VR]⟩)
theorem mB {op:BinOp}{pB:Bool}(h:zV op=some pB):(op = .eql∧pB=true)∨(op = .neq∧pB=false):=by
 unfold zV at h
 split at h<;>cases h
 ·exact .inl ⟨rfl,rfl⟩
 ·exact .inr ⟨rfl,rfl⟩
theorem nB {t:TypeId}(ht:∃q,P.underlying t=some (.pointer q)){a:Addr}{op:BinOp}{pB:Bool}(h:zV op=some pB)(w:World) :
  (binOp op t (.pointer (some a)) (.pointer none)).run P w = .ok (.bool (!pB)) w∧(binOp op t (.pointer none) (.pointer (some a))).run P w = .ok (.bool (!pB)) w:=by
 obtain⟨q,hq⟩:=ht
 have e1:(Op.equal t (.pointer (some a)) (.pointer none)).run P w = .ok false w:=by
  unfold Op.equal Op.maxDepth
  unfold Op.equalIn
  simp [bp hq]
 have e2:(Op.equal t (.pointer none) (.pointer (some a))).run P w = .ok false w:=by
  unfold Op.equal Op.maxDepth
  unfold Op.equalIn
  simp [bp hq]
 rcases mB h with⟨rfl,rfl⟩| ⟨rfl,rfl⟩
 ·constructor
  ·show ((do pure (.bool (←Op.equal t (.pointer (some a)) (.pointer none)))):Sem Value).run P w=_
   simp [e1]
  ·show ((do pure (.bool (←Op.equal t (.pointer none) (.pointer (some a))))):Sem Value).run P w=_
   simp [e2]
 ·constructor
  ·show ((do pure (.bool (!(←Op.equal t (.pointer (some a)) (.pointer none))))):Sem Value).run P w=_
   simp [e1]
  ·show ((do pure (.bool (!(←Op.equal t (.pointer none) (.pointer (some a)))))):Sem Value).run P w=_
   simp [e2]
theorem om {t:TypeId}(ht:∃q,P.underlying t=some (.slice q)){ad:Option Addr}(hs:ad.isSome=true){m cap:Nat}{op:BinOp}{pB:Bool}(h:zV op=some pB)(w:World) :
  (binOp op t (.slice ad m cap) (.slice none 0 0)).run P w = .ok (.bool (!pB)) w:=by
 obtain⟨q,hq⟩:=ht
 obtain⟨a,rfl⟩:=X2.1 hs
 have e1:(Op.equal t (.slice (some a) m cap) (.slice none 0 0)).run P w = .ok false w:=by
  unfold Op.equal Op.maxDepth
  unfold Op.equalIn
  simp [bp hq]
 rcases mB h with⟨rfl,rfl⟩| ⟨rfl,rfl⟩
 ·show ((do pure (.bool (←Op.equal t (.slice (some a) m cap) (.slice none 0 0)))):Sem Value).run P w=_
  simp [e1]
 ·show ((do pure (.bool (!(←Op.equal t (.slice (some a) m cap) (.slice none 0 0))))):Sem Value).run P w=_
  simp [e1]
theorem EB (hd:fQ n ds o){op:BinOp}{t t2:TypeId}{x y:Operand}(ho:o.op = .binOp op t x y t2){z:AV}(h:lL P op t (bN s.ρ x) (bN s.ρ y)=some z):je P L0 c0 n ds o s (s.set o.dst z):=by
 refine fk hd fun a c Lo lam f hn=>?_
 have hx:=bA f x
 have hy:=bA f y
 have hex:∀v,(eqGuard op t x y (a.eval x) (a.eval y)).run P c.w = .ok () c.w→(binOp op t (a.eval x) (a.eval y)).run P c.w = .ok v c.w→(execOp a.eval o).run P c.w = .ok (.value v) c.w:=by
  intro v h1 h2; simp [execOp,ho,h1,h2]
 unfold lL at h
 split at h
 ·rename_i p q hp hq
  rw [hp] at hx; rw [hq] at hy
  simp only [SR,VR] at hx hy
  obtain⟨r,hr,hv⟩:=C2 (P:=P) h c.w
  refine⟨r,hex _ (dC ⟨fun _ _=>.inl (by rw [hx]; simp),by rw [hx]; simp⟩ _) ?_,SR.of (hv _ _)⟩
  rw [hx,hy]
  unfold binOp
  simpa using hr
 ·rename_i p q hp hq
  rw [hp] at hx; rw [hq] at hy
  simp only [SR,VR] at hx hy
  obtain⟨_,ad,sa,_⟩:=hx
  rw [Xp] at h
  obtain⟨pB,rv,h⟩:=h
  split at h
  rotate_left
  ·cases h
  rename_i ht
  cases h
  refine⟨.bool (!pB),hex _ (dC ⟨fun _ _=>.inl (by rw [sa]; simp),by rw [sa]; simp⟩ _) ?_,SR.of (by simp [VR])⟩
  rw [sa,hy]
  exact (nB ⟨_,ht⟩ rv _).1
 ·rename_i p q hp hq
  rw [hp] at hx; rw [hq] at hy
  simp only [SR,VR] at hx hy
  obtain⟨_,ad,OS,_⟩:=hy
  rw [Xp] at h
  obtain⟨pB,rv,h⟩:=h
  split at h
  rotate_left
  ·cases h
  rename_i ht
  cases h
  refine⟨.bool (!pB),hex _ (dC ⟨fun _ _=>.inl (by rw [hx]; simp),by rw [hx]; simp⟩ _) ?_,SR.of (by simp [VR])⟩
  rw [hx,OS]
  exact (nB ⟨_,ht⟩ rv _).2
 ·rename_i p q hp hq
  rw [hp] at hx; rw [hq] at hy
  simp only [SR,VR] at hx hy
  obtain⟨b,off,sa,_⟩:=hx
  rw [Xp] at h
  obtain⟨pB,rv,h⟩:=h
  split at h
  rotate_left
  ·cases h
  rename_i ht
  cases h
  refine⟨.bool (!pB),hex _ (dC ⟨fun _ _=>.inl (by rw [sa]; simp),by rw [sa]; simp⟩ _) ?_,SR.of (by simp [VR])⟩
  rw [sa,hy]
  exact (nB ⟨_,ht⟩ rv _).1
 ·rename_i hp hq
  rw [hp] at hx; rw [hq] at hy
  simp only [SR,VR] at hx hy
  obtain⟨ad,cap,sa,_,_,hs,_⟩:=hx
  replace hs:ad.isSome=true:=hs.elim id fun h=>by cases h.1
  rw [Xp] at h
  obtain⟨pB,rv,h⟩:=h
  split at h
  rotate_left
  ·cases h
  rename_i ht
  cases h
  refine⟨.bool (!pB),hex _ (dC ⟨fun _ _=>.inl (by rw [sa]; simp),by rw [sa]; simp⟩ _) ?_,SR.of (by simp [VR])⟩
  rw [sa,hy]
  exact om ⟨_,ht⟩ hs rv _
 ·rename_i hp hq
  rw [hp] at hx; rw [hq] at hy
  simp only [SR,VR] at hx hy
  rcases hx with⟨hx,_⟩| ⟨_,_,ad,cap,sa,_,hs,_⟩
  ·omega
  rw [Xp] at h
  obtain⟨pB,rv,h⟩:=h
  split at h
  rotate_left
  ·cases h
  rename_i ht
  cases h
  refine⟨.bool (!pB),hex _ (dC ⟨fun _ _=>.inl (by rw [sa]; simp),by rw [sa]; simp⟩ _) ?_,SR.of (by simp [VR])⟩
  rw [sa,hy]
  exact om ⟨_,ht⟩ hs rv _
 ·rename_i p q hp hq
  rw [hp,hq] at h
  rw [hp] at hx; rw [hq] at hy
  have HP:=hx.vr (by rintro k off h; cases h)
  have PG:=hy.vr (by rintro k off h; cases h)
  rw [Xp] at h
  obtain⟨pB,rv,h⟩:=h
  split at h
  rotate_left
  ·cases h
  rename_i jI
  simp only [Xt,YO] at jI
  obtain⟨⟨⟨h1,h2⟩,h3⟩,h4⟩:=jI
  cases h
  have hk:=u6 (P:=P) 9998 h1 h3 HP PG c.w
  simp only [VR] at HP PG
  obtain⟨vx,sa,_⟩:=HP
  obtain⟨vy,OS,_⟩:=PG
  refine⟨.bool (fO (.agg p) (.agg q)==pB),hex _ ?_ ?_,SR.of (by simp only [VR])⟩
  ·rw [sa,OS]
   rcases mB rv with⟨rfl,rfl⟩| ⟨rfl,rfl⟩<;>simp [eqGuard,h4,program,Sem.run]
  ·rw [sa,OS] at hk ⊢
   rcases mB rv with⟨rfl,rfl⟩| ⟨rfl,rfl⟩
   ·show ((do pure (.bool (←Op.equal t (.agg vx) (.agg vy)))):Sem Value).run P c.w=_
    have Mu:(Op.equal t (.agg vx) (.agg vy)).run P c.w=_:=hk
    simp [Mu]
   ·show ((do pure (.bool (!(←Op.equal t (.agg vx) (.agg vy))))):Sem Value).run P c.w=_
    have Mu:(Op.equal t (.agg vx) (.agg vy)).run P c.w=_:=hk
    simp [Mu]
 ·rw [Xp] at h
  obtain⟨u,hu,h⟩:=h
  rw [Xp] at h
  obtain⟨v,hv,h⟩:=h
  rw [Xp] at h
  obtain⟨r,hr,h⟩:=h
  have h1:=kq hu (hx.vr (kr hu))
  have h2:=kq hv (hy.vr (kr hv))
  have h3:=Aj hu
  exact⟨r,hex _ (dC ⟨fun p _=>.inl (by rw [h1]; exact h3.1 p),by rw [h1]; exact h3.2⟩ _) (by rw [h1,h2]; exact jT _ hr),SR.of (mA h)⟩
theorem HQ (hd:fQ n ds o){op:UnOp}{t:TypeId}{x:Operand}(ho:o.op = .unOp op t x){z:AV}(h:((bN s.ρ x).fu.bind fun a=>(iq P (Op.unary op a)).bind nV)=some z):je P L0 c0 n ds o s (s.set o.dst z):=by
 refine fk hd fun a c Lo lam f hn=>?_
 rw [Xp] at h
 obtain⟨u,hu,h⟩:=h
 rw [Xp] at h
 obtain⟨r,hr,h⟩:=h
 have h1:=kq hu ((bA f x).vr (kr hu))
 refine⟨r,?_,SR.of (mA h)⟩
 have:=jT (P:=P) c.w hr
 rw [←h1] at this
 simp [execOp,ho,this]
theorem Bx (hd:fQ n ds o){x:Operand}(ho:o.op = .move x∨o.op = .assign x):je P L0 c0 n ds o s (s.set o.dst (bN s.ρ x)):=
 fk hd fun a c Lo lam f hn=>⟨a.eval x,by rcases ho with ho | ho<;>simp [execOp,ho],bA f x⟩
theorem HR (hd:fQ n ds o){k x y:Operand}(ho:o.op = .pick k x y){t:Bool}(h:sv (bN s.ρ k)=some t):je P L0 c0 n ds o s (s.set o.dst (if t then bN s.ρ x else bN s.ρ y)):=by
 refine fk hd fun a c Lo lam f hn=>?_
 have hk:=bA f k
 unfold sv at h
 split at h
 ·rename_i b hb
  cases h
  rw [hb] at hk
  simp only [SR,VR] at hk
  refine⟨if t then a.eval x else a.eval y,by simp [execOp,ho,hk,asBool],?_⟩
  cases t
  ·exact bA f y
  ·exact bA f x
 ·cases h
theorem yl (hd:fQ n ds o){x:Operand}(ho:o.op = .nilCheck x){z:AV}(h:pG (bN s.ρ x)=some z):je P L0 c0 n ds o s (s.set o.dst z):=by
 refine fk hd fun a c Lo lam f hn=>?_
 have hx:=bA f x
 have hp:(∃ad,a.eval x = .pointer (some ad))∧z=bN s.ρ x:=by
  unfold pG at h
  split at h
  ·rename_i id off heq
   cases h
   rw [heq] at hx
   simp only [SR,VR] at hx
   obtain⟨_,ad,h1,_⟩:=hx
   exact⟨⟨ad,h1⟩,heq.symm⟩
  ·rename_i k off heq
   cases h
   rw [heq] at hx
   simp only [SR] at hx
   exact⟨⟨_,hx.1⟩,heq.symm⟩
  ·rename_i cs off heq
   cases h
   rw [heq] at hx
   simp only [SR,VR] at hx
   obtain⟨b,o',h1,_⟩:=hx
   exact⟨⟨_,h1⟩,heq.symm⟩
  ·cases h
 obtain⟨⟨ad,hp⟩,rfl⟩:=hp
 exact⟨a.eval x,by simp [execOp,ho,hp],hx⟩
theorem mC {c:Cx}{Lo:Nat→Prop}{lam:Nat→Nat}{a:Act}(f:Fr L0 c Lo lam ds s a):∀xs:List Operand,(∀x∈xs,∀k off,bN s.ρ x≠.lp k off)→VRs c (un L0 Lo) (xs.map (bN s.ρ)) (xs.map a.eval)
 | [],_=>trivial
 | x::xs,h=>⟨(bA f x).vr (h x (by simp)),mC f xs fun y hy=>h y (by simp [hy])⟩
theorem C3 {x:AV}(h:x.cE=true):∀k off,x≠.lp k off:=by rintro k off rfl; simp [AV.cE] at h
theorem ym (hd:fQ n ds o){Ak:FuncId}{first cap:Array Operand}(ho:o.op = .makeFunc (.func Ak) first cap)(hf:first.isEmpty=true)(hc:(cap.toList.map (bN s.ρ)).all AV.cE=true):je P L0 c0 n ds o s (s.set o.dst (.fn Ak (cap.toList.map (bN s.ρ)))):=by
 refine fk hd fun a c Lo lam f hn=>?_
 have MM:first = #[]:=by simpa using hf
 subst MM
 refine⟨.func (.func Ak) #[] (cap.map a.eval),by simp [execOp,ho,Instr.makeFunc],SR.of ?_⟩
 simp only [VR]
 refine⟨_,rfl,?_⟩
 rw [Array.toList_map]
 refine mC f _ fun x hx=>C3 ?_
 rw [XQ] at hc
 exact hc _ (XN.2 ⟨x,hx,rfl⟩)
theorem Al (hd:fQ n ds o){x:Operand}{i:Nat}(ho:o.op = .extract x i){z:AV}(h:sw (bN s.ρ x) i=some z):je P L0 c0 n ds o s (s.set o.dst z):=by
 refine fk hd fun a c Lo lam f hn=>?_
 have hx:=bA f x
 cases heq:bN s.ρ x<;>rw [heq] at h hx<;>simp only [sw] at h<;>try (cases h; done)
 rename_i vs
 simp only [SR,VR] at hx
 obtain⟨us,sa,D8⟩:=hx
 obtain⟨v,hv,hr⟩:=D8.get i z h
 have PH:us[i]? = some v:=by simpa using hv
 exact⟨v,by simp [execOp,ho,sa,Instr.extract,PH],SR.of hr⟩
theorem qS {op:Value→Value→Sem Value}:∀(vs:List Value) (v r:Value) (w:World),kP P op v vs=some r→(vs.foldlM op v).run P w = .ok r w
 | [],v,r,w,h=>by simp only [kP,Xr] at h; subst h; rfl
 | x::xs,v,r,w,h=>by
  simp only [kP,Xp] at h
  obtain⟨u,h1,h2⟩:=h
  simp only [List.foldlM_cons,Sem.run_bind,jT w h1,Result.andThen_ok]
  exact qS xs u r w h2
theorem ve (hd:fQ n ds o){b:Builtin}{By:Array TypeId}{args:Array Operand}(ho:o.op = .call {callee:=.builtin b,args:=args,argTypes:=By}){op:Value→Value→Sem Value}(hb:(b = .min∧op=Builtin.min2)∨(b = .max∧op=Builtin.max2))
  {x:AV} {xs:List AV} (he:args.toList.map (bN s.ρ)=x::xs) {v u:Value} {vs:List Value} (hx:x.fu=some v) (hxs:iP xs=some vs) (hf:kP P op v vs=some u) {z:AV} (hz:nV u=some z):je P L0 c0 n ds o s (s.set o.dst z):=by
 refine fk hd fun a c Lo lam f hn=>?_
 refine⟨u,?_,SR.of (mA hz)⟩
 have hne:∀q:Operand,∀k off,bN s.ρ q = .lp k off→q∉args.toList:=by
  intro q k off hq hm
  have vf:AV.lp k off∈x::xs:=by rw [←he,←hq]; exact XN.2 ⟨q,hm,rfl⟩
  rcases X5.1 vf with h1 | h1
  ·exact kr hx k off h1.symm
  ·have:∀(ys:List AV) (us:List Value),iP ys=some us→AV.lp k off∉ys:=by
    intro ys
    induction ys with
    | nil=>intro us _ h; cases h
    | cons y ys ih=>
     intro us hu hm
     simp only [iP,Xp] at hu
     obtain⟨u1,h2,W4,h3,_⟩:=hu
     rcases X5.1 hm with h4 | h4
     ·exact kr h2 k off h4.symm
     ·exact ih _ h3 h4
   exact this _ _ hxs h1
 have Bs:=mC f args.toList (fun q hq k off h=>hne q k off h hq)
 rw [he] at Bs
 have kA:args.toList.map a.eval=v::vs:=pL (xs:=x::xs) (us:=v::vs) (by simp [iP,hx,hxs]) Bs
 have hr:=qS vs v u c.w hf
 have hargs:args.map a.eval=(v::vs).toArray:=by rw [←kA]; apply YZ; simp
 rcases hb with⟨rfl,rfl⟩| ⟨rfl,rfl⟩
 ·simp [execOp,ho,resolve,invoke,builtin,Builtin.min_,hargs,hr]
 ·simp [execOp,ho,resolve,invoke,builtin,Builtin.max_,hargs,hr]
end
end Go.R
namespace Go.R
open Go
def CallOK (P:Program)(cf:CallF):Prop:=
 ∀f args h r h',cf f args h=some (r,h')→
  (∀(vs:Array Value) (w:World),(callFunc f vs).run P w = .ok (.enter f vs) w)∧
  ∀(L0:Nat→Prop) (c:Cx) (vs:List Value),c.h=h→c.base≤c.w.heap.size→HRel c L0→VRs c L0 args vs→
   Calls P f vs.toArray c.w fun e w'=>∃c' v,e = .returned v∧c'.w=w'∧c'.h=h'∧VR c' L0 r v∧HRel c' L0∧Ext c none0 c' none0
section
variable {P:Program}{L0:Nat→Prop}{c0:Cx}{n:Nat}{ds:List Nat}{o:Oper}{s:RS}
theorem Fr.call {c c':Cx}{Lo:Nat→Prop}{lam:Nat→Nat}{a:Act}(f:Fr L0 c Lo lam ds s a)(hr:HRel c' (un L0 Lo))(e:Ext c none0 c' none0) :
  Ext c Lo c' Lo∧Fr L0 c' Lo lam ds {s with h:=c'.h} a:=by
 have zH:∀b,Lo b→b<c.w.heap.size:=fun b hb=>f.rel.bd b (.inr hb)
 have e':Ext c Lo c' Lo:=
  ⟨e.next,e.live,e.size,fun b h1 _ h3=>e.keep b h1 (fun h=>h.elim) h3,e.exact,e.base,e.I0,fun _ h=>h,fun _ h=>.inl h,e.os,e.tape,e.output⟩
 refine⟨e',rfl,hr,fun t=>(f.slot t).ext e' (fun _ _ _=>⟨rfl,fun h=>h⟩),fun k cs hb=>?_,f.inj,f.tidy,f.defers,fun b hb=>by rw [e.base]; exact f.Ei b hb⟩
 have ob:=f.box k cs hb
 exact ob.ext e' (e.keep _ ob.plain.lt (fun h=>h.elim) fun id hl he=>f.rel.out id hl (he ▸ .inr ob.own))
theorem HS {cf:CallF}(hcf:CallOK P cf)(hb0:c0.base≤c0.w.heap.size)(hd:fQ n ds o){fx:Operand}{args:Array Operand}{By:Array TypeId}(ho:o.op = .call {callee:=.value fx,args:=args,argTypes:=By}){Ak:FuncId}{cap:List AV}
  (hf:bN s.ρ fx = .fn Ak cap) (ha:(args.toList.map (bN s.ρ)).all AV.lq=true) {r:AV} {h':AHeap} (h:cf Ak (args.toList.map (bN s.ρ)++cap) s.h=some (r,h')) :
  je P L0 c0 n ds o s ({s with h:=h'}.set o.dst r):=by
 rintro a w K Q ⟨hn,c,Lo,lam,rfl,f,e0⟩ hK
 obtain⟨hin,hcall⟩:=hcf _ _ _ _ _ h
 have PI:=bA f fx
 rw [hf] at PI
 simp only [SR,VR] at PI
 obtain⟨cv,U4,My⟩:=PI
 have hargs:VRs c (un L0 Lo) (args.toList.map (bN s.ρ)) (args.toList.map a.eval):=by
  refine mC f _ fun x hx=>sP ?_
  rw [XQ] at ha
  exact ha _ (XN.2 ⟨x,hx,rfl⟩)
 have kA:=VRs.append hargs My
 unfold Oper.wp
 have:(execOp a.eval o).run P c.w = .ok (.enter Ak (args.map a.eval++cv)) c.w:=by
  simp [execOp,ho,resolve,U4,Deferred.ofValue,invoke,hin]
 rw [this,Oper.upon_enter]
 have hc:=hcall (un L0 Lo) c _ f.h (jt e0 hb0) f.rel kA
 have he:(args.toList.map a.eval++cv.toList).toArray=args.map a.eval++cv:=by
  apply YZ; simp
 rw [he] at hc
 refine Calls.mono hc ?_
 rintro e w' ⟨c',v,rfl,rfl,hh,hv,hrel,JV⟩
 obtain⟨e',f'⟩:=f.call hrel JV
 rw [hh] at f'
 exact hK _ _ ⟨(gk _ _ _).trans hn,c',Lo,lam,rfl,f'.set (SR.of hv) (fun t ht=>by rw [hn]; exact hd t ht),e0.trans e'⟩
theorem Option.map_some' {α β:Type}{x:Option α}{g:α→β}{y:β}(h:x.map g=some y):∃z,x=some z∧g z=y:=Xq.1 h
theorem vg {aF:List Nat}{cs:List AV}{s':RS}(h:hU s aF ds o cs=some s'):cs.all AV.cE=true:=by
 unfold hU at h
 split at h
 ·assumption
 ·cases h
theorem JW {cf:CallF}(hcf:CallOK P cf)(hb0:c0.base≤c0.w.heap.size)(hd:fQ n ds o){aF:List Nat}{s':RS}(h:wg P cf aF ds s o=some s'):je P L0 c0 n ds o s s':=by
 have dv:∀{x:Option AV},(x.map fun x=>s.set o.dst x)=some s'→(∀z,x=some z→je P L0 c0 n ds o s (s.set o.dst z))→je P L0 c0 n ds o s s':=by
  intro x hx hz
  obtain⟨z,rfl,rfl⟩:=Option.map_some' hx
  exact hz z rfl
 unfold wg zW at h
 dsimp only at h
 split at h
 ·rename_i x ho; cases h; exact Bx hd (.inl ho)
 ·rename_i x ho; cases h; exact Bx hd (.inr ho)
 ·rename_i k x y ho
  obtain⟨t,ht,rfl⟩:=Option.map_some' h
  exact HR hd ho ht
 ·
  rename_i t ho
  rw [Xp] at h
  obtain⟨z,hz,h⟩:=h
  refine va hb0 hd t h fun a c Lo lam f hn=>?_
  have nZ:=vg h
  obtain⟨v,h1,h2,h3⟩:=CY (P:=P) (c:=c) hz (HL nZ) (un L0 Lo)
  exact⟨v,by simp [execOp,ho,h1],HK h2,h3⟩
 ·
  rename_i t x ho
  refine va hb0 hd t h fun a c Lo lam f hn=>?_
  have nZ:(bN s.ρ x).cells.all AV.cE=true:=vg h
  obtain⟨h1,h2⟩:=jf nZ ((bA f x).r9 nZ)
  exact⟨a.eval x,by simp [execOp,ho,Instr.box,newVar,newRow],h1,h2⟩
 ·rename_i t ps ho
  refine dv h fun z hz=>fk hd fun a c Lo lam f hn=>?_
  obtain⟨v,hr,hv⟩:=run_build (P:=P) (oc f ps.toList) hz
  refine⟨v,?_,SR.of hv⟩
  have he:ps.map (fun (i,x)=>(i,a.eval x))=(ps.toList.map fun (i,x)=>(i,a.eval x)).toArray:=by
   apply YZ; simp
  simp only [execOp,ho,Sem.run_bind]
  rw [he,hr]
  rfl
 ·rename_i t k ps ho
  rw [Xq] at h
  obtain⟨z,hz,rfl⟩:=h
  exact sL hb0 hd ho aF hz
 ·
  rename_i t x ho
  refine dv h fun z hz=>fk hd fun a c Lo lam f hn=>?_
  obtain⟨r,hr,hv⟩:=sD (P:=P) f (t:=t) (bA f x) hz
  exact⟨r,by simp [execOp,ho,hr],SR.of hv⟩
 ·
  rename_i t x y ho
  split at h
  ·cases h
  rename_i ru
  exact Es hb0 hd ho (by simpa using ru) h
 ·rename_i ho; exact dv h fun z hz=>yl hd ho hz
 ·rename_i ho; exact dv h fun z hz=>EB hd ho hz
 ·rename_i ho; exact dv h fun z hz=>HQ hd ho hz
 ·rename_i ho; exact dv h fun z hz=>Ai hb0 hd ho hz
 ·rename_i Ak first cap ho
  split at h
  ·rename_i hh
   refine dv h fun z hz=>?_
   cases hz
   exact ym hd ho hh.1 hh.2
  ·cases h
 ·rename_i ho; cases h; exact Ac hb0 hd ho
 ·rename_i ho; exact wx hb0 hd ho h
 ·
  rename_i t x lo hi mx ho
  refine dv h fun z hz=>fk hd fun a c Lo lam f hn=>?_
  have hs:∀(q:Option Operand) (y:AV),q.map (bN s.ρ)=some y→∃v,q.map a.eval=some v∧SR c L0 Lo lam s.bx y v:=by
   intro q y hq
   obtain⟨u,rfl,rfl⟩:=Option.map_some' hq
   exact⟨_,rfl,bA f u⟩
  have LZ:∀(q:Option Operand),q.map (bN s.ρ)=none→q.map a.eval=none:=by
   intro q hq
   simpa using hq
  obtain⟨r,hr,hv⟩:=z8 (P:=P) (bA f x) (hs lo) (LZ lo) (hs hi) (LZ hi) (hs mx) (LZ mx) hz
  exact⟨r,by simp [execOp,ho,hr],SR.of hv⟩
 ·rename_i t x i ho
  refine dv h fun z hz=>fk hd fun a c Lo lam f hn=>?_
  obtain⟨r,hr,hv⟩:=xZ (P:=P) (bA f x) hz
  exact⟨r,by simp [execOp,ho,hr],hv⟩
 ·rename_i t x i ho
  refine dv h fun z hz=>fk hd fun a c Lo lam f hn=>?_
  obtain⟨r,hr,hv⟩:=zZ (P:=P) (bA f x) hz
  exact⟨r,by simp [execOp,ho,hr],SR.of hv⟩
 ·rename_i t x i ho
  refine dv h fun z hz=>fk hd fun a c Lo lam f hn=>?_
  obtain⟨r,hr,hv⟩:=xY (P:=P) (bA f x) (bA f i) hz
  exact⟨r,by simp [execOp,ho,hr],hv⟩
 ·rename_i t x i ho
  refine dv h fun z hz=>fk hd fun a c Lo lam f hn=>?_
  obtain⟨r,hr,hv⟩:=z6 (P:=P) (bA f x) (bA f i) hz
  exact⟨r,by simp [execOp,ho,hr],SR.of hv⟩
 ·rename_i t m k ok ho
  refine dv h fun z hz=>fk hd fun a c Lo lam f hn=>?_
  obtain⟨r,hr,hv⟩:=ye (P:=P) f (bA f m) (bA f k) hz
  exact⟨r,by simp [execOp,ho,hr],SR.of hv⟩
 ·rename_i t m k x ho
  split at h
  ·cases h
  rename_i ru
  obtain⟨h',hh,rfl⟩:=Option.map_some' h
  exact og hb0 (.inl ho) (by simpa using ru) hh
 ·rename_i t m k x ho
  split at h
  ·cases h
  rename_i ru
  obtain⟨h',hh,rfl⟩:=Option.map_some' h
  exact og hb0 (.inr ho) (by simpa using ru) hh
 ·rename_i ho; exact dv h fun z hz=>Al hd ho hz
 ·
  rename_i b args By ho
  unfold gh at h
  split at h
  ·rename_i t x hts hargs
   have Am:By = #[t]:=by apply YZ; simpa using hts
   obtain⟨q,hq,rfl⟩:∃q,args = #[q]∧bN s.ρ q=x:=by
    cases args with | mk l=>
    rcases l with _ | ⟨q,_ | ⟨q2,l⟩⟩<;>simp at hargs
    exact⟨q,rfl,hargs⟩
   subst Am hq
   refine dv h fun z hz=>fk hd fun a c Lo lam f hn=>?_
   obtain⟨r,hr,hv⟩:=En (P:=P) f #[t] rfl (bA f q) hz o.type
   exact⟨r,by simp [execOp,ho,resolve,invoke,builtin,hr],SR.of hv⟩
  ·rename_i t t2 x y hts hargs
   have Am:By = #[t,t2]:=by apply YZ; simpa using hts
   obtain⟨q,q2,hq,rfl,rfl⟩:∃q q2,args = #[q,q2]∧bN s.ρ q=x∧bN s.ρ q2=y:=by
    cases args with | mk l=>
    rcases l with _ | ⟨q,_ | ⟨q2,_ | ⟨q3,l⟩⟩⟩<;>simp at hargs
    exact⟨q,q2,rfl,hargs.1,hargs.2⟩
   subst Am hq
   exact C0 hb0 hd ho h
  ·rename_i t t2 x y hts hargs
   have Am:By = #[t,t2]:=by apply YZ; simpa using hts
   obtain⟨q,q2,hq,rfl,rfl⟩:∃q q2,args = #[q,q2]∧bN s.ρ q=x∧bN s.ρ q2=y:=by
    cases args with | mk l=>
    rcases l with _ | ⟨q,_ | ⟨q2,_ | ⟨q3,l⟩⟩⟩<;>simp at hargs
    exact⟨q,q2,rfl,hargs.1,hargs.2⟩
   subst Am hq
   obtain⟨⟨z,h'⟩,hh,rfl⟩:=Option.map_some' h
   exact HO hb0 hd ho hh
  ·rename_i t x hts hargs
   have Am:By = #[t]:=by apply YZ; simpa using hts
   obtain⟨q,hq,rfl⟩:∃q,args = #[q]∧bN s.ρ q=x:=by
    cases args with | mk l=>
    rcases l with _ | ⟨q,_ | ⟨q2,l⟩⟩<;>simp at hargs
    exact⟨q,rfl,hargs⟩
   subst Am hq
   obtain⟨h',hh,rfl⟩:=Option.map_some' h
   exact EA hb0 hd ho hh
  ·rename_i x xs hargs
   rw [Xp] at h
   obtain⟨v,hv,h⟩:=h
   rw [Xp] at h
   obtain⟨vs,D8,h⟩:=h
   rw [Xp] at h
   obtain⟨u,hu,h⟩:=h
   exact dv h fun z hz=>ve hd ho (.inl ⟨rfl,rfl⟩) hargs hv D8 hu hz
  ·rename_i x xs hargs
   rw [Xp] at h
   obtain⟨v,hv,h⟩:=h
   rw [Xp] at h
   obtain⟨vs,D8,h⟩:=h
   rw [Xp] at h
   obtain⟨u,hu,h⟩:=h
   exact dv h fun z hz=>ve hd ho (.inr ⟨rfl,rfl⟩) hargs hv D8 hu hz
  ·cases h
 ·
  rename_i fx args By ho
  split at h
  ·rename_i Ak cap heq
   split at h
   ·rename_i ha
    obtain⟨⟨r,h'⟩,hh,rfl⟩:=Option.map_some' h
    exact HS hcf hb0 hd ho heq ha hh
   ·cases h
  ·cases h
 ·cases h
end
end Go.R
namespace Go.R
open Go
section
variable {P:Program}{L0:Nat→Prop}{c0:Cx}{n:Nat}{ds:List Nat}{s:RS}
theorem Fr.EC {c:Cx}{Lo:Nat→Prop}{lam:Nat→Nat}{a:Act}(f:Fr L0 c Lo lam ds s a)(id:Nat) :
  Ext c Lo ⟨c.β,c.h.kill id,c.w,c.base⟩ Lo∧Fr L0 ⟨c.β,c.h.kill id,c.w,c.base⟩ Lo lam ds {s with h:=s.h.kill id} a∧(Live c.h id→RO ⟨c.β,c.h.kill id,c.w,c.base⟩ (un L0 Lo) (c.β id).1):=by
 have hg:∀i,(c.h.kill id).get i=if i=id then none else c.h.get i:=fun i=>by
  simp only [AHeap.kill,beq_nat]
  by_cases h:i=id<;>simp [h]
 have mV:∀i,Live (c.h.kill id) i→i≠id∧Live c.h i:=fun i hl=>by
  have h2:=hl.2
  rw [hg] at h2
  by_cases h:i=id
  ·rw [if_pos h] at h2; cases h2
  ·rw [if_neg h] at h2
   obtain⟨o,ho⟩:=X2.1 h2
   exact⟨h,f.rel.lt _ _ ho,h2⟩
 have e:Ext c Lo ⟨c.β,c.h.kill id,c.w,c.base⟩ Lo:=
  ⟨YD _,fun i hi hl=>⟨(mV i hl).2,rfl,rfl⟩,Xs _,fun _ _ _ _=>.inl rfl,fun _ _=>rfl,rfl,fun i hl=>.inr ⟨i,(mV i hl).2,rfl⟩,fun _ h=>h,fun _ h=>.inl h,rfl,rfl,rfl⟩
 refine⟨e,⟨by rw [←f.h],⟨fun i o ho=>?_,fun i o ho=>?_,fun i j hi hj he=>?_,fun i hi=>?_,f.rel.bd,fun i hi=>?_,(Steady.kill c.h id).wf f.rel.ver⟩,fun t=>?_,fun k cs hb=>?_,f.inj,f.tidy,f.defers,f.Ei⟩,fun hl=>⟨fun i hi he=>?_,f.rel.out id hl⟩⟩
 ·replace ho:(c.h.kill id).get i=some o:=ho
  rw [hg] at ho
  by_cases h:i=id
  ·rw [if_pos h] at ho; cases ho
  ·rw [if_neg h] at ho; exact Yt (f.rel.lt _ _ ho)
 ·replace ho:(c.h.kill id).get i=some o:=ho
  rw [hg] at ho
  by_cases h:i=id
  ·rw [if_pos h] at ho; cases ho
  ·rw [if_neg h] at ho
   exact (f.rel.obj i o ho).ext e rfl
 ·exact f.rel.inj i j (mV i hi).2 (mV j hj).2 he
 ·exact f.rel.out i (mV i hi).2
 ·exact f.rel.low i (mV i hi).2
 ·exact (f.slot t).ext e (fun _ _ _=>⟨rfl,fun h=>h⟩)
 ·have hb2:=f.box k cs hb
  exact hb2.ext e (.inl rfl)
 ·obtain⟨h1,h2⟩:=mV i hi
  exact h1 (f.rel.inj i id h2 hl he)
theorem HT {c:Cx}{Lo:Nat→Prop}{lam:Nat→Nat}{a:Act}(f:Fr L0 c Lo lam ds s a){x y:AV}{h':AHeap}(h:CR s.h x=some (y,h')) :
  Ext c Lo ⟨c.β,h',c.w,c.base⟩ Lo∧Fr L0 ⟨c.β,h',c.w,c.base⟩ Lo lam ds {s with h:=h'} a∧(∀v,VR c (un L0 Lo) x v→VR ⟨c.β,h',c.w,c.base⟩ (un L0 Lo) y v)∧∀i,Live h' i→Live c.h i:=by
 have same:Ext c Lo ⟨c.β,s.h,c.w,c.base⟩ Lo∧Fr L0 ⟨c.β,s.h,c.w,c.base⟩ Lo lam ds {s with h:=s.h} a∧(⟨c.β,s.h,c.w,c.base⟩:Cx)=c:=by
  have e:(⟨c.β,s.h,c.w,c.base⟩:Cx)=c:=by rw [←f.h]
  rw [e]; exact⟨Ext.refl _ _,f,rfl⟩
 unfold CR at h
 split at h
 ·simp only [Xr,Xw] at h
  obtain⟨rfl,rfl⟩:=h
  obtain⟨h1,h2,h3⟩:=same
  exact⟨h1,h2,fun v hv=>by rw [h3]; exact hv,fun i hi=>by rw [f.h]; exact hi⟩
 cases x with
 | rs id off len iL=>
  simp only at h
  split at h
  ·rename_i hid
   split at h
   rotate_left
   ·cases h
   rename_i hl0
   simp only [Xr,Xw] at h
   obtain⟨rfl,rfl⟩:=h
   obtain⟨h1,h2,h3⟩:=same
   refine⟨h1,h2,fun v hv=>?_,fun i hi=>by rw [f.h]; exact hi⟩
   simp only [VR] at hv ⊢
   rcases hv with⟨_,_,_,a,rfl⟩| hv
   ·exact⟨a,0,rfl,Xs _,fun _=>rfl,.inr ⟨trivial,rfl⟩,.inl trivial⟩
   ·exact absurd hid hv.1
  rename_i ku
  rw [Xp] at h
  obtain⟨ob,ho,h⟩:=h
  cases ob with
  | map es=>cases h
  | row t cs=>cases h
  | cells cs=>
  simp only at h
  split at h
  rotate_left
  ·cases h
  rename_i hle
  simp only [Xr,Xw] at h
  obtain⟨rfl,rfl⟩:=h
  rw [←f.h] at ho
  have hl:Live c.h id:=⟨f.rel.lt _ _ ho,by simp [ho]⟩
  obtain⟨e,f',I2⟩:=f.EC id
  have hb:(⟨c.β,s.h.kill id,c.w,c.base⟩:Cx)=⟨c.β,c.h.kill id,c.w,c.base⟩:=by rw [f.h]
  rw [hb]
  refine⟨e,f',fun v hv=>?_,fun i hi=>?_⟩
  ·simp only [VR] at hv ⊢
   rcases hv with hv | ⟨_,_,a,cap,rfl,h1,h2,h3⟩
   ·exact absurd hv.1 ku
   obtain⟨m,_,_,hc⟩:=f.rel.obj _ _ ho
   refine⟨a,cap,rfl,h1,by simp,.inl h2,?_⟩
   rcases h3 hl with⟨h4,_⟩| h4
   ·exact .inr ⟨_,_,h4,I2 hl,by simp,Cells.move e _ _ _ _ _ (fun i hi=>rfl) ((hc.drop off).take (len*iL))⟩
   ·left
    have hz:len=0:=by omega
    subst hz
    simp
  ·have z7:=hi.2
   simp only [AHeap.kill,beq_nat] at z7
   by_cases h:i=id
   ·simp [h] at z7
   ·simp only [h,decide_false,cond_false] at z7
    rw [f.h]
    obtain⟨o,L2⟩:=X2.1 z7
    have:=f.rel.lt i o (by rw [f.h]; exact L2)
    rw [f.h] at this
    exact⟨this,z7⟩
 | _=>cases h
theorem Bz:∀{cs:List AV} {c:Cx} {Lo:Nat→Prop} {lam:Nat→Nat} {a:Act} {s:RS} {ys:List AV} {h':AHeap},Fr L0 c Lo lam ds s a→wk s.h cs=some (ys,h')→
  Ext c Lo ⟨c.β,h',c.w,c.base⟩ Lo∧Fr L0 ⟨c.β,h',c.w,c.base⟩ Lo lam ds {s with h:=h'} a∧(∀b o,Cells c (un L0 Lo) cs b o→Cells ⟨c.β,h',c.w,c.base⟩ (un L0 Lo) ys b o)∧∀i,Live h' i→Live c.h i
 | [],c,Lo,lam,a,s,ys,h',f,h=>by
  cases h
  have e:(⟨c.β,s.h,c.w,c.base⟩:Cx)=c:=by rw [←f.h]
  rw [e]
  exact⟨Ext.refl _ _,f,fun _ _ h=>h,fun i hi=>by rw [f.h]; exact hi⟩
 | x::cs,c,Lo,lam,a,s,ys,h',f,h=>by
  simp only [wk,Xp,Xq] at h
  obtain⟨⟨y,h1⟩,hx,⟨zs,h2⟩,hz,he⟩:=h
  simp only [Xw] at he
  obtain⟨rfl,rfl⟩:=he
  obtain⟨e1,f1,v1,l1⟩:=HT f hx
  obtain⟨e2,f2,v2,l2⟩:=Bz f1 hz
  refine⟨e1.trans e2,f2,fun b o hc=>?_,fun i hi=>l1 i (l2 i hi)⟩
  obtain⟨⟨v,q1,q2,q3⟩,hc⟩:=hc
  exact⟨⟨v,q1,q2,VR.ext e2 _ _ (v1 v q3)⟩,v2 _ _ (Cells.move e1 _ _ _ _ _ (fun i hi=>rfl) hc)⟩
theorem vh {h:AHeap}:∀{cs:List AV},cH cs=true→wk h cs=some (cs,h)
 | [],_=>rfl
 | x::cs,hn=>by
  simp only [cH,Xt] at hn
  simp only [wk,CR,hn.1,if_true,Xo,vh hn.2,Xu]
theorem yn {h h':AHeap}{x y:AV}(hz:CR h x=some (y,h')):Steady h h':=by
 unfold CR at hz
 split at hz
 ·cases hz; exact Steady.refl _
 split at hz
 ·split at hz
  ·split at hz
   ·cases hz; exact Steady.refl _
   ·cases hz
  rw [Xp] at hz
  obtain⟨o,_,hz⟩:=hz
  split at hz
  ·split at hz
   ·cases hz; exact Steady.kill _ _
   ·cases hz
  ·cases hz
 ·cases hz
theorem qT:∀{cs ys:List AV} {h h':AHeap},wk h cs=some (ys,h')→Steady h h'
 | [],ys,h,h',hz=>by cases hz; exact Steady.refl _
 | x::cs,ys,h,h',hz=>by
  simp only [wk,Xp,Xq] at hz
  obtain⟨⟨y,h1⟩,hx,⟨zs,h2⟩,hz,he⟩:=hz
  simp only [Xw] at he
  obtain⟨rfl,rfl⟩:=he
  exact (yn hx).trans (qT hz)
theorem BA {c:Cx}{Lo:Nat→Prop}{lam:Nat→Nat}{a:Act}(f:Fr L0 c Lo lam ds s a){k:Nat}{x y:AV}{h':AHeap}(h:km k s.h x=some (y,h')) :
  (∀k off,x≠.lp k off)∧(∀k off,y≠.lp k off)∧∃c',c'.w=c.w∧Ext c Lo c' Lo∧Fr L0 c' Lo lam ds {s with h:=h'} a∧∀v,VR c (un L0 Lo) x v→VR c' (un L0 Lo) y v:=by
 cases k with
 | zero=>
  cases x with
  | nils=>
   simp only [km,Xr,Xw] at h
   obtain⟨rfl,rfl⟩:=h
   refine⟨by simp,by simp,c,rfl,Ext.refl _ _,f,fun v hv=>?_⟩
   simp only [VR] at hv ⊢
   exact⟨none,0,hv,Xs _,fun _=>rfl,.inr ⟨trivial,rfl⟩,.inl trivial⟩
  | fz cs m ex=>
   simp only [km,Xr,Xw] at h
   obtain⟨rfl,rfl⟩:=h
   refine⟨by simp,by simp,c,rfl,Ext.refl _ _,f,fun v hv=>?_⟩
   simp only [VR] at hv ⊢
   obtain⟨a,cap,rfl,h1,h2,hs,hc⟩:=hv
   exact⟨a,cap,rfl,h1,by simp,hs,hc.imp id fun ⟨b,o,ha,hr,hex,hc⟩=>⟨b,o,ha,hr,by simp,hc⟩⟩
  | rs id off len iL=>
   simp only [km] at h
   split at h
   ·rename_i hid
    split at h
    rotate_left
    ·cases h
    rename_i hl0
    simp only [Xr,Xw] at h
    obtain⟨rfl,rfl⟩:=h
    refine⟨by simp,by simp,c,rfl,Ext.refl _ _,f,fun v hv=>?_⟩
    simp only [VR] at hv ⊢
    rcases hv with⟨_,_,_,a,rfl⟩| hv
    ·exact⟨a,0,rfl,Xs _,fun _=>rfl,.inr ⟨trivial,rfl⟩,.inl trivial⟩
    ·exact absurd hid hv.1
   rename_i ku
   rw [Xp] at h
   obtain⟨ob,ho,h⟩:=h
   cases ob with
   | map es=>cases h
   | row t cs=>cases h
   | cells cs=>
   simp only at h
   split at h
   rotate_left
   ·cases h
   rename_i hle
   rw [Xq] at h
   obtain⟨⟨fm,h2⟩,hz,he⟩:=h
   simp only [Xw] at he
   obtain⟨rfl,rfl⟩:=he
   rw [←f.h] at ho
   have hl:Live c.h id:=⟨f.rel.lt _ _ ho,by simp [ho]⟩
   obtain⟨e,f',I2⟩:=f.EC id
   obtain⟨e2,f2,hcs,mV⟩:=Bz f' hz
   refine⟨by simp,by simp,⟨c.β,h2,c.w,c.base⟩,rfl,e.trans e2,f2,fun v hv=>?_⟩
   simp only [VR] at hv ⊢
   rcases hv with hv | ⟨_,_,a,cap,rfl,h1,h2,h3⟩
   ·exact absurd hv.1 ku
   obtain⟨m,_,_,hc⟩:=f.rel.obj _ _ ho
   refine⟨a,cap,rfl,h1,by simp,.inl h2,?_⟩
   rcases h3 hl with⟨h4,_⟩| h4
   ·exact .inr ⟨_,_,h4,⟨fun i hi=>(I2 hl).1 i (mV i hi),(I2 hl).2⟩,by simp,hcs _ _ (Cells.move e _ _ _ _ _ (fun i hi=>rfl) ((hc.drop off).take (len*iL)))⟩
   ·left
    have hz0:len=0:=by omega
    subst hz0
    simp [wk] at hz
    exact hz.1
  | _=>simp [km] at h
 | succ k=>
  have key:(x = .nils∨x = .fz [] 0 true)→y = .rs 0 0 0 (k+1)→h'=s.h→(∀k off,x≠.lp k off)∧(∀k off,y≠.lp k off)∧∃c',c'.w=c.w∧Ext c Lo c' Lo∧Fr L0 c' Lo lam ds {s with h:=h'} a∧∀v,VR c (un L0 Lo) x v→VR c' (un L0 Lo) y v:=by
   rintro hx rfl rfl
   refine⟨by rcases hx with rfl | rfl<;>simp,by simp,c,rfl,Ext.refl _ _,f,fun v hv=>?_⟩
   rcases hx with rfl | rfl
   ·simp only [VR] at hv ⊢
    exact .inl ⟨trivial,trivial,trivial,none,hv⟩
   ·simp only [VR] at hv ⊢
    obtain⟨a,cap,rfl,h1,h2,hs,hc⟩:=hv
    have:=h2 trivial
    subst this
    exact .inl ⟨trivial,trivial,trivial,a,rfl⟩
  unfold km at h
  simp only at h
  split at h
  ·simp only [Xr,Xw] at h
   exact key (.inl rfl) h.1.symm h.2.symm
  ·simp only [Xr,Xw] at h
   exact key (.inr rfl) h.1.symm h.2.symm
  ·simp only [Xr,Xw] at h
   obtain⟨rfl,rfl⟩:=h
   exact⟨by simp,by simp,c,rfl,Ext.refl _ _,f,fun v hv=>hv⟩
  ·cases h
theorem Inv.wo {a:Act}{w:World}{p:Nat × Option Nat × Nat}{s':RS}(hi:Inv L0 c0 n ds s a w)(h:wo s p=some s'):Inv L0 c0 n ds s' a w:=by
 obtain⟨hn,c,Lo,lam,rfl,f,e⟩:=hi
 unfold Go.R.wo at h
 split at h
 ·rw [Xq] at h
  obtain⟨⟨y,h'⟩,hz,rfl⟩:=h
  obtain⟨hx,hy,c',hw,e',f',hv⟩:=BA f hz
  refine⟨hn,c',Lo,lam,hw,⟨f'.h,f'.rel,fun t=>?_,f'.box,f'.inj,fun t k off ht he=>?_,f'.defers,f'.Ei⟩,e.trans e'⟩
  ·simp only [beq_nat]
   by_cases ht:t=p.1
   ·subst ht
    simp only [decide_true,cond_true]
    exact SR.of (hv _ ((f.slot _).vr hx))
   ·simp only [ht,decide_false,cond_false]
    exact f'.slot t
  ·simp only [beq_nat] at he
   by_cases SU:t=p.1
   ·simp only [SU,decide_true,cond_true] at he
    exact absurd he (hy _ _)
   ·simp only [SU,decide_false,cond_false] at he
    exact f'.tidy t k off ht he
 ·rename_i i hp
  split at h
  rotate_left
  ·cases h
  rename_i cs hcs
  simp only [Xp,Xq] at h
  obtain⟨x,hx,⟨y,h'⟩,hz,rfl⟩:=h
  obtain⟨hx1,hy,c',hw,e',f',hv⟩:=BA f hz
  have Af:∀k,(bif X9 k p.1 then some (cs.set i y) else s.bx k).isSome=(s.bx k).isSome:=fun k=>by
   simp only [beq_nat]
   by_cases hk:k=p.1
   ·subst hk; simp [hcs]
   ·simp [hk]
  refine⟨hn,c',Lo,lam,hw,⟨f'.h,f'.rel,fun t=>?_,fun k fm hb=>?_,fun k k' h1 h2=>f'.inj k k' (by rw [←Af]; exact h1) (by rw [←Af]; exact h2),f'.tidy,f'.defers,f'.Ei⟩,e.trans e'⟩
  ·have:=f'.slot t
   unfold SR at this ⊢
   split
   ·rename_i k off he
    rw [he] at this
    simp only at this
    exact⟨this.1,by rw [Af]; exact this.2⟩
   ·rename_i x' HP
    split at this
    ·rename_i he; exact absurd he (HP _ _)
    ·exact this
  ·simp only [beq_nat] at hb
   by_cases hk:k=p.1
   ·subst hk
    simp only [decide_true,cond_true,Xr] at hb
    subst hb
    have ob:=f.box _ cs hcs
    have PJ:=f'.box _ cs hcs
    refine⟨PJ.own,by rw [Xz]; exact PJ.plain,?_⟩
    obtain⟨vs,q1,q2,q3⟩:=ob.cells.vals
    obtain⟨U5,r1,r2,r3⟩:=PJ.cells.vals
    have hlen:vs=U5:=by
     apply Ye
     intro j
     by_cases hj:j<cs.length
     ·rw [←q2 j hj,←r2 j hj,hw]
     ·rw [XI (by rw [←q1.length]; omega),XI (by rw [←r1.length]; omega)]
    subst hlen
    obtain⟨u,hu,hr⟩:=VRs.get q1 i x hx
    have Ah:VRs c' (un L0 Lo) (cs.set i y) vs:=by
     have:=VRs.set (hv u hr) i r1
     have I1:vs.set i u=vs:=by
      apply Ye
      intro j
      rw [YP]
      by_cases hji:i=j
      ·subst hji
       rw [if_pos rfl,hu]
       have:=(Xx.1 hu).1
       simp [this]
      ·rw [if_neg hji]
     rwa [I1] at this
    exact Cells.of_vals Ah (fun j hj=>by rw [r2 j (by rw [r1.length]; exact hj)]) r3
   ·simp only [hk,decide_false,cond_false] at hb
    exact f'.box k fm hb
theorem Inv.kR {a:Act}{w:World}:∀{l:List (Nat × Option Nat × Nat)} {s s':RS},Inv L0 c0 n ds s a w→kR s l=some s'→Inv L0 c0 n ds s' a w
 | [],s,s',hi,h=>by cases h; exact hi
 | p::ps,s,s',hi,h=>by
  simp only [Go.R.kR,Xp] at h
  obtain⟨s1,h1,h2⟩:=h
  exact Inv.kR (hi.wo h1) h2
theorem HU {A:cg}{r:Nat}{s:RS}:(s.mU A r).h=s.h:=by
 unfold RS.mU
 split<;>rfl
theorem qU {k:Nat}{h h':AHeap}{x y:AV}(hz:km k h x=some (y,h')):Steady h h':=by
 unfold km at hz
 split at hz
 ·split at hz
  ·cases hz; exact Steady.refl _
  ·split at hz
   ·split at hz
    ·cases hz; exact Steady.refl _
    ·cases hz
   rw [Xp] at hz
   obtain⟨o,_,hz⟩:=hz
   split at hz
   ·split at hz
    ·rw [Xq] at hz
     obtain⟨⟨fm,h2⟩,hz,he⟩:=hz
     simp only [Xw] at he
     obtain⟨rfl,rfl⟩:=he
     exact (Steady.kill _ _).trans (qT hz)
    ·cases hz
   ·cases hz
  ·cases hz; exact Steady.refl _
  ·cases hz
 ·split at hz<;>cases hz<;>exact Steady.refl _
theorem yo {s s':RS}{p:Nat × Option Nat × Nat}(hz:wo s p=some s'):Steady s.h s'.h:=by
 unfold wo at hz
 split at hz
 ·rw [Xq] at hz
  obtain⟨⟨y,h'⟩,hz,rfl⟩:=hz
  exact qU hz
 ·split at hz
  ·simp only [Xp,Xq] at hz
   obtain⟨x,hx,⟨y,h'⟩,hz,rfl⟩:=hz
   exact qU hz
  ·cases hz
theorem lT:∀{l:List (Nat × Option Nat × Nat)} {s s':RS},kR s l=some s'→Steady s.h s'.h
 | [],s,s',h=>by cases h; exact Steady.refl _
 | p::ps,s,s',h=>by
  simp only [kR,Xp] at h
  obtain⟨s1,h1,h2⟩:=h
  exact (yo h1).trans (lT h2)
end
end Go.R
namespace Go.R
open Go
section
variable {P:Program}{L0:Nat→Prop}{c0:Cx}{n:Nat}{ds:List Nat}{o:Oper}{s:RS}
theorem C4 {ops:Array Oper}{c:Cx}{Lo:Nat→Prop}{lam:Nat→Nat}{a:Act}(f:Fr L0 c Lo lam ds s a){b:Bool}(h:gD ops.toList s.ρ o=some b):Region.wanted o (yielded ops a.tmps)=b:=by
 unfold gD at h
 unfold Region.wanted
 split at h
 ·rename_i hg; rw [hg]; cases h; rfl
 ·rename_i j want hg
  rw [hg]
  rw [Xp] at h
  obtain⟨d,hd,h⟩:=h
  have Hr:(ops[j]?).bind (·.dst)=some d:=by simpa using hd
  have hs:=f.slot d
  simp only [yielded,Hr,Xo]
  rw [Array.getD_eq_getD_getElem?] at hs
  split at h
  ·rename_i b' hb
   cases h
   rw [hb] at hs
   simp only [SR,VR] at hs
   cases hq:a.tmps[d]? with
   | none=>rw [hq] at hs; simp [undef] at hs
   | some v=>
    rw [hq] at hs
    simp only [Yi] at hs
    subst hs
    cases b'<;>cases want<;>rfl
  ·rename_i hb
   cases h
   rw [hb] at hs
   simp only [SR,VR] at hs
   obtain⟨vs,hv,_⟩:=hs
   cases hq:a.tmps[d]? with
   | none=>rfl
   | some v=>
    rw [hq] at hv
    simp only [Yi] at hv
    subst hv
    rfl
  ·cases h
theorem yp {cf:CallF}(hcf:CallOK P cf)(hb0:c0.base≤c0.w.heap.size){ops:Array Oper}(JX:ds=ops.toList.filterMap (·.dst))(hd:fQ n ds o){aF:List Nat}{s':RS}(h:lM P cf aF ops.toList s o=some s')
  {a:Act} {w:World} {K:Act→World→Prop} {Q:Exit→Act→World→Prop} (hi:Inv L0 c0 n ds s a w) (hK:∀a' w',Inv L0 c0 n ds s' a' w'→K a' w') :
  if Region.wanted o (yielded ops a.tmps) then o.wp P a w K Q else K (a.put o.dst undef) w:=by
 unfold lM at h
 rw [Xp] at h
 obtain⟨b,hb,h⟩:=h
 have PK:=hi
 obtain⟨hn,c,Lo,lam,rfl,f,e⟩:=hi
 rw [C4 f hb]
 cases b with
 | true=>
  simp only [if_true] at h ⊢
  rw [←JX] at h
  exact JW hcf hb0 hd h a c.w K Q PK hK
 | false=>
  simp only [XG,if_false,Xr] at h ⊢
  subst h
  exact hK _ _ ⟨(gk _ _ _).trans hn,c,Lo,lam,rfl,f.set (SR.of (by simp [VR,undef,VRs])) (fun t ht=>by rw [hn]; exact hd t ht),e⟩
def vi (n:Nat)(ops:List Oper):Bool:=ops.all fun o=>match o.dst with | some t=>Nat.blt t n | none=>true
theorem yq {ops:List Oper}(h:vi n ops=true){o:Oper}(ho:o∈ops):fQ n (ops.filterMap (·.dst)) o:=by
 intro t ht
 unfold vi at h
 rw [XQ] at h
 have:=h o ho
 rw [ht] at this
 exact⟨Nat.blt_eq.mp this,List.mem_filterMap.2 ⟨o,ho,ht⟩⟩
theorem BB {cf:CallF}(hcf:CallOK P cf)(hb0:c0.base≤c0.w.heap.size){ops:Array Oper}(JX:ds=ops.toList.filterMap (·.dst))(yg:vi n ops.toList=true){aF:List Nat}{Q:Exit→Act→World→Prop}{s':RS}(hQ:∀a' w',Inv L0 c0 n ds s' a' w'→Q .normal a' w') :
  ∀(l:List Oper) (s:RS),(∀o∈l,o∈ops.toList)→rp P cf aF ops.toList s l=some s'→∀a w,Inv L0 c0 n ds s a w→wpList P ops Q l a w
 | [],s,_,h,a,w,hi=>by
  simp only [rp,Xr] at h
  subst h
  exact wpList_nil (hQ a w hi)
 | o::l,s,hl,h,a,w,hi=>by
  simp only [rp,Xp] at h
  obtain⟨s1,h1,h2⟩:=h
  refine wpList_step fun K hK=>?_
  exact yp hcf hb0 JX (by rw [JX]; exact yq yg (hl o (by simp))) h1 hi fun a' w' lu=>hK a' w' (BB hcf hb0 JX yg hQ l s1 (fun o ho=>hl o (by simp [ho])) h2 a' w' lu)
theorem iz {α:Type}(d:α):∀(ks:List Nat) (g:Nat→α) (t:Nat),look d ks (ks.map g) t=if t∈ks then g t else d
 | [],g,t=>rfl
 | k::ks,g,t=>by
  simp only [XK,look,beq_nat,iz d ks g t,X5]
  by_cases h:t=k
  ·subst h; simp
  ·simp [h]
theorem Fr.forget {c:Cx}{Lo:Nat→Prop}{lam:Nat→Nat}{a:Act}(f:Fr L0 c Lo lam ds s a){s2:RS}(hh:s2.h=s.h)(hb:∀k cs,s2.bx k=some cs→s.bx k=some cs)
  (hr:∀t,s2.ρ t = .any∨s2.ρ t=s.ρ t∧∀k off,s.ρ t = .lp k off→k=t∧((s.bx k).isSome=true→(s2.bx k).isSome=true)):Fr L0 c Lo lam [] s2 a:=by
 refine⟨f.h.trans hh.symm,f.rel,fun t=>?_,fun k cs h=>f.box k cs (hb k cs h),fun k k' h h'=>f.inj k k' ?_ ?_,fun t k off _ he=>?_,f.defers,f.Ei⟩
 ·rcases hr t with h | ⟨h,h2⟩
  ·rw [h]; exact SR.of (by simp [VR])
  ·rw [h]
   have hs:=f.slot t
   cases hx:s.ρ t<;>rw [hx] at hs<;>try exact hs
   rename_i k off
   simp only [SR] at hs ⊢
   exact⟨hs.1,(h2 k off hx).2 hs.2⟩
 ·obtain⟨cs,hcs⟩:=X2.1 h; rw [hb k cs hcs]; rfl
 ·obtain⟨cs,hcs⟩:=X2.1 h'; rw [hb k' cs hcs]; rfl
 ·rcases hr t with h | ⟨h,h2⟩
  ·rw [h] at he; cases he
  ·exact (h2 k off (h ▸ he)).1
theorem Inv.shut {a:Act}{w:World}(A:cg)(h:Inv L0 c0 n ds s a w):Inv L0 c0 n [] ((s.shut A).open A) a w:=by
 obtain⟨hn,c,Lo,lam,rfl,f,e⟩:=h
 refine⟨hn,c,Lo,lam,rfl,f.forget rfl (fun k cs hk=>?_) (fun t=>?_),e⟩
 ·simp only [RS.shut,St.open,iz] at hk
  split at hk
  ·exact hk
  ·cases hk
 ·simp only [RS.shut,St.open,iz]
  split
  ·unfold xV
   cases hx:s.ρ t<;>simp only<;>try (right; exact⟨trivial,fun k off he=>by cases he⟩)
   rename_i k off
   cases hc:(X9 k t&&X9 off 0&&A.aF.contains k) with
   | false=>left; rfl
   | true=>
    right
    simp only [Xt,beq_nat,decide_eq_true_eq,List.contains_iff_mem] at hc
    refine⟨rfl,fun k' U6 he=>?_⟩
    cases he
    refine⟨hc.1.1,fun hs=>?_⟩
    rw [if_pos hc.2]
    exact hs
  ·left; rfl
theorem Inv.mU {a:Act}{w:World}(A:cg)(r:Nat)(h:Inv L0 c0 n ds s a w):Inv L0 c0 n [] ((s.mU A r).open A) a w:=by
 unfold RS.mU
 split
 ·exact h.shut A
 rename_i dl _
 have h2:=h.shut A
 obtain⟨hn,c,Lo,lam,hw,f,e⟩:=h2
 have Mx:∀k,(St.open A {vars:=A.keep.map (fun t=>bif (gj r A.dead).contains t then .any else xV A.aF s.ρ t),LU:=A.aF.map (fun k=>bif (gj r A.dead).contains k then none else s.bx k),h:=s.h}).bx k=bif (gj r A.dead).contains k then none else (St.open A (s.shut A)).bx k:=by
  intro k
  simp only [RS.shut,St.open,iz]
  cases (gj r A.dead).contains k<;>simp
 refine⟨hn,c,Lo,lam,hw,f.forget rfl (fun k cs hk=>?_) (fun t=>?_),e⟩
 ·rw [Mx] at hk
  cases hc:(gj r A.dead).contains k with
  | true=>rw [hc] at hk; cases hk
  | false=>rw [hc] at hk; exact hk
 ·have hv:(St.open A {vars:=A.keep.map (fun t=>bif (gj r A.dead).contains t then .any else xV A.aF s.ρ t),LU:=A.aF.map (fun k=>bif (gj r A.dead).contains k then none else s.bx k),h:=s.h}).ρ t=bif (gj r A.dead).contains t then .any else (St.open A (s.shut A)).ρ t:=by
   simp only [RS.shut,St.open,iz]
   cases (gj r A.dead).contains t<;>simp
  rw [hv]
  cases hc:(gj r A.dead).contains t with
  | true=>left; rfl
  | false=>
   right
   refine⟨rfl,fun k off he=>?_⟩
   have HN:k=t:=f.tidy t k off (by simp) he
   refine⟨HN,fun hs=>?_⟩
   rw [Mx,HN,hc]
   rw [HN] at hs
   exact hs
theorem Inv.wide {a:Act}{w:World}(h:Inv L0 c0 n [] s a w)(ds:List Nat):Inv L0 c0 n ds s a w:=by
 obtain⟨hn,c,Lo,lam,rfl,f,e⟩:=h
 exact⟨hn,c,Lo,lam,rfl,⟨f.h,f.rel,f.slot,f.box,f.inj,fun t k off _ he=>f.tidy t k off (by simp) he,f.defers,f.Ei⟩,e⟩
theorem Inv.drew {a:Act}{w:World}(h:Inv L0 c0 n ds s a w):Inv L0 c0 n ds s a {w with drawn:=w.drawn+1}:=by
 obtain⟨hn,c,Lo,lam,rfl,f,e⟩:=h
 obtain⟨e',f'⟩:=f.world (w':={c.w with drawn:=c.w.drawn+1}) (fun b _=>.inl rfl) (fun _ _=>rfl) (fun b _=>rfl) (Xs _) rfl rfl rfl
 exact⟨hn,_,Lo,lam,rfl,f',e.trans e'⟩
def lU (P:Program)(c:Code)(Q:Exit→Act→World→Prop)(a:Act)(w:World):Prop:=
 ∀(b:Frame) (k:List Item) (cs:List Frame),∃e a' w',Q e a' w'∧Arrives P (lone (b.at a (.code c :: .inLoop c::k)) cs w) b k cs e a' w'
theorem lU.step {c:Code}{Q:Exit→Act→World→Prop}{a:Act}{w:World}(h:c.wp P (Exit.then (lU P c Q) Q) a w):lU P c Q a w:=by
 intro b k cs
 obtain⟨e,a₁,w₁,hq,yr⟩:=h b (.inLoop c::k) cs
 cases e with
 | normal=>
  obtain⟨e₂,a₂,w₂,U7,MN⟩:=hq b k cs
  exact⟨e₂,a₂,w₂,U7,.of_steps (Steps.trans yr (.one step_inLoop)) MN⟩
 | exit id=>exact⟨_,a₁,w₁,hq,.pass (x:=.inLoop c) rfl (fun _ _=>.inl (by simp)) yr⟩
 | goto l=>exact⟨_,a₁,w₁,hq,.pass (x:=.inLoop c) rfl (fun _ _=>.inl (by simp)) yr⟩
 | ret=>exact⟨_,a₁,w₁,hq,.pass (x:=.inLoop c) rfl (fun _ _=>.inl (by simp)) yr⟩
 | panic ch=>exact⟨_,a₁,w₁,hq,.pass (x:=.inLoop c) rfl (fun _ _=>.inl (by simp)) yr⟩
 | outgrown=>exact⟨_,a₁,w₁,hq,.pass (x:=.inLoop c) rfl (fun _ _=>.inl (by simp)) yr⟩
theorem lU.loop {c:Code}{Q:Exit→Act→World→Prop}{a:Act}{w:World}(h:lU P c Q a w):(Code.loop c).wp P Q a w:=by
 intro b k cs
 obtain⟨e,a',w',hq,yr⟩:=h b k cs
 exact⟨e,a',w',hq,.of_steps (.one step_loop) yr⟩
def Ex.I7:Ex→Exit
 | .norm=>.normal
 | .exit id=>.exit id
 | .ret=>.ret
def jW (n:Nat):Code→Bool
 | .region _ ops _=>vi n ops.toList
 | .seq a b=>jW n a&&jW n b
 | .cond _ x y=>jW n x&&jW n y
 | .block _ c=>jW n c
 | .loop c=>jW n c
 | _=>true
def An (P:Program)(cf:CallF):Prop:=
 ∀(L0:Nat→Prop) (c0:Cx) (n:Nat) (aF:List Nat) (id:Nat) (ops:Array Oper) (s s':RS),kQ P cf aF ops s=some s'→c0.base≤c0.w.heap.size→vi n ops.toList=true→
  ∀a w Q,Inv L0 c0 n (ops.toList.filterMap (·.dst)) s a w→(∀a' w',Inv L0 c0 n (ops.toList.filterMap (·.dst)) s' a' w'→Q .normal a' w')→(Code.region id ops true).wp P Q a w
theorem jJ {cf:CallF}(hcf:CallOK P cf)(C5:An P cf)(hb0:c0.base≤c0.w.heap.size){A:cg}{m:Nat}:∀(c:Code),jW n c=true→∀(st jv:St) (ex:Ex),bG P cf A m c st=some (ex,jv)→
  ∀a w Q,Inv L0 c0 n [] (st.open A) a w→(∀a' w',Inv L0 c0 n [] (jv.open A) a' w'→Q ex.I7 a' w')→c.wp P Q a w
 | .skip,_,st,jv,ex,h,a,w,Q,hi,hQ=>by
  simp only [bG,Xr,Xw] at h
  obtain⟨rfl,rfl⟩:=h
  exact wp_skip (hQ a w hi)
 | .label _,_,st,jv,ex,h,a,w,Q,hi,hQ=>by
  simp only [bG,Xr,Xw] at h
  obtain⟨rfl,rfl⟩:=h
  exact wp_label (hQ a w hi)
 | .ret,_,st,jv,ex,h,a,w,Q,hi,hQ=>by
  simp only [bG,Xr,Xw] at h
  obtain⟨rfl,rfl⟩:=h
  exact wp_ret (hQ a w hi)
 | .exit id,_,st,jv,ex,h,a,w,Q,hi,hQ=>by
  simp only [bG,Xr,Xw] at h
  obtain⟨rfl,rfl⟩:=h
  exact wp_exit (hQ a w hi)
 | .seq x y,hB,st,jv,ex,h,a,w,Q,hi,hQ=>by
  simp only [jW,Xt] at hB
  simp only [bG,Xp] at h
  obtain⟨⟨I8,uD⟩,h1,h2⟩:=h
  refine wp_seq (jJ hcf C5 hb0 x hB.1 st uD I8 h1 a w _ hi fun a' w' lu=>?_)
  cases I8 with
  | norm=>exact jJ hcf C5 hb0 y hB.2 uD jv ex h2 a' w' Q lu hQ
  | exit id=>
   simp only [Xr,Xw] at h2
   obtain⟨rfl,rfl⟩:=h2
   exact hQ a' w' lu
  | ret=>
   simp only [Xr,Xw] at h2
   obtain⟨rfl,rfl⟩:=h2
   exact hQ a' w' lu
 | .cond k x y,hB,st,jv,ex,h,a,w,Q,hi,hQ=>by
  simp only [jW,Xt] at hB
  simp only [bG,Xp] at h
  obtain⟨t,ht,h⟩:=h
  have hk:a.eval k = .bool t:=by
   obtain⟨hn,c,Lo,lam,rfl,f,e⟩:=hi
   have hk:=bA f k
   unfold sv at ht
   split at ht
   ·rename_i b hb
    cases ht
    rw [hb] at hk
    simpa [SR,VR] using hk
   ·cases ht
  refine wp_cond hk ?_
  cases t with
  | true=>exact jJ hcf C5 hb0 x hB.1 st jv ex (by simpa using h) a w Q hi hQ
  | false=>exact jJ hcf C5 hb0 y hB.2 st jv ex (by simpa using h) a w Q hi hQ
 | .block id x,hB,st,jv,ex,h,a,w,Q,hi,hQ=>by
  simp only [jW] at hB
  simp only [bG,Xq] at h
  obtain⟨⟨I8,uD⟩,h1,h2⟩:=h
  refine wp_block (jJ hcf C5 hb0 x hB st uD I8 h1 a w _ hi fun a' w' lu=>?_)
  cases I8 with
  | norm=>
   simp only [Xw] at h2
   obtain⟨rfl,rfl⟩:=h2
   exact hQ a' w' lu
  | exit nY=>
   simp only [Xw] at h2
   obtain⟨rfl,rfl⟩:=h2
   have:=hQ a' w' lu
   simp only [Ex.I7,Exit.inBlock]
   split
   ·rename_i he; rw [if_pos he] at this; exact this
   ·rename_i he; rw [if_neg he] at this; exact this
  | ret=>
   simp only [Xw] at h2
   obtain⟨rfl,rfl⟩:=h2
   exact hQ a' w' lu
 | .loop x,hB,st,jv,ex,h,a,w,Q,hi,hQ=>by
  simp only [jW] at hB
  simp only [bG] at h
  have key:∀(j:Nat) (st:St),kn (bG P cf A m x) j st=some (ex,jv)→∀a w,Inv L0 c0 n [] (st.open A) a w→lU P x Q a w:=by
   intro j
   induction j with
   | zero=>intro st h; simp [kn] at h
   | succ j ih=>
    intro st h a w hi
    simp only [kn,Xp] at h
    obtain⟨⟨I8,uD⟩,h1,h2⟩:=h
    refine lU.step (jJ hcf C5 hb0 x hB st uD I8 h1 a w _ hi fun a' w' lu=>?_)
    cases I8 with
    | norm=>exact ih uD h2 a' w' lu
    | exit id=>
     simp only [Xr,Xw] at h2
     obtain⟨rfl,rfl⟩:=h2
     exact hQ a' w' lu
    | ret=>
     simp only [Xr,Xw] at h2
     obtain⟨rfl,rfl⟩:=h2
     exact hQ a' w' lu
  exact lU.loop (key m st h a w hi)
 | .region id ops draw,hB,st,jv,ex,h,a,w,Q,hi,hQ=>by
  simp only [jW] at hB
  simp only [bG,Xp,Xq,Xw] at h
  obtain⟨s0,h0,s',h1,s2,h2,rfl,rfl⟩:=h
  replace hi:=hi.kR h0
  cases draw with
  | true=>
   simp only [if_true] at h1
   exact C5 L0 c0 n A.aF id ops _ s' h1 hb0 hB a w Q (hi.wide _) fun a' w' lu=>hQ a' w' ((lu.kR h2).mU A id)
  | false=>
   simp only [XG,if_false] at h1
   exact wp_region_list (BB hcf hb0 rfl hB (fun a' w' lu=>hQ a' w' ((lu.kR h2).mU A id)) ops.toList _ (fun _ h=>h) h1 a w (hi.wide _))
 | .rangeFunc ..,_,st,jv,ex,h,_,_,_,_,_=>by simp [bG] at h
 | .scope ..,_,st,jv,ex,h,_,_,_,_,_=>by simp [bG] at h
 | .goto ..,_,st,jv,ex,h,_,_,_,_,_=>by simp [bG] at h
 | .refuse ..,_,st,jv,ex,h,_,_,_,_,_=>by simp [bG] at h
theorem wE {c:Cx}{Lo:Nat→Prop}{lam:Nat→Nat}{a:Act}(f:Fr L0 c Lo lam ds s a):∀(rs:List ResultVar) (l:List AV),zX P s rs=some l→l.all AV.lq=true→
  ∃vs:List Value,(rs.mapM (m:=Sem) fun | .tmp t=>pure (a.tmps.getD t undef) | .cell x t=>do loadVar t (←asAddr (a.tmps.getD x undef))).run P c.w = .ok vs c.w∧VRs c (un L0 Lo) l vs
 | [],l,h,_=>by
  simp only [zX,Xr] at h
  subst h
  exact⟨[],rfl,trivial⟩
 | .tmp t::rs,l,h,hl=>by
  simp only [zX,Xq] at h
  obtain⟨l',h1,rfl⟩:=h
  simp only [Yj,Xt] at hl
  obtain⟨vs,h2,h3⟩:=wE f rs l' h1 hl.2
  refine⟨a.tmps.getD t undef::vs,?_,(f.slot t).vr (sP hl.1),h3⟩
  simp only [List.mapM_cons,Sem.run_bind,Sem.run_pure,Result.andThen_ok,h2]
 | .cell x t::rs,l,h,hl=>by
  simp only [zX,Xp,Xq] at h
  obtain⟨y,hy,l',h1,rfl⟩:=h
  simp only [Yj,Xt] at hl
  obtain⟨vs,h2,h3⟩:=wE f rs l' h1 hl.2
  have hx:=f.slot x
  obtain⟨u,hr,hu⟩:=sD (P:=P) f (t:=t) hx hy
  have hp:∃ad,a.tmps.getD x undef = .pointer (some ad):=by
   unfold jd at hy
   cases hq:s.ρ x<;>rw [hq] at hy hx<;>simp only at hy<;>try (cases hy; done)
   ·simp only [SR,VR] at hx; obtain⟨_,ad,h,_⟩:=hx; exact⟨ad,h⟩
   ·simp only [SR] at hx; exact⟨_,hx.1⟩
   ·simp only [SR,VR] at hx; obtain⟨_,_,h,_⟩:=hx; exact⟨_,h⟩
  obtain⟨ad,hp⟩:=hp
  rw [hp] at hr
  have Ao:(loadVar t ad).run P c.w = .ok u c.w:=by simpa [Instr.loadAt,Instr.sureAddr] using hr
  refine⟨u::vs,?_,hu,h3⟩
  have ha:(asAddr (a.tmps.getD x undef)).run P c.w = .ok ad c.w:=by rw [hp]; rfl
  simp only [List.mapM_cons,Sem.run_bind,Sem.run_pure,Result.andThen_ok,h2,ha,Ao]
theorem kB:un L0 none0=L0:=by funext b; simp [un,none0]
theorem Ext.close {c c':Cx}{js:Nat→Prop}(e:Ext c none0 c' js):Ext c none0 c' none0:=
 ⟨e.next,e.live,e.size,e.keep,e.exact,e.base,e.I0,fun _ h=>h,fun _ h=>h.elim,e.os,e.tape,e.output⟩
theorem HRel.kb {c:Cx}{L L':Nat→Prop}(hL:∀b,L' b→L b)(h:HRel c L):HRel c L':=
 ⟨h.lt,fun id o ho=>by
  have:=h.obj id o ho
  cases o with
  | cells cs=>obtain⟨m,h1,h2,h3⟩:=this; exact⟨m,h1,h2,Cells.kb hL _ _ _ h3⟩
  | row t cs=>obtain⟨h0,C,h1,h2,h4,h3⟩:=this; exact⟨h0,C,h1,h2,h4,Cells.kb hL _ _ _ h3⟩
  | map es=>
   obtain⟨kp,clock,h1,h2⟩:=this
   refine⟨kp,clock,h1,?_⟩
   clear h1
   have:∀(es:List (AV × AV)) (ms:List MapEntry),ko c L es ms→ko c L' es ms:=by
    intro es
    induction es with
    | nil=>intro ms h; cases ms with | nil=>trivial | cons m ms=>exact h.elim
    | cons e es ih=>intro ms h; cases ms with
     | nil=>exact h.elim
     | cons m ms=>obtain⟨h1,h2,h3⟩:=h; exact⟨⟨VR.kb hL _ _ h1.1,h1.2⟩,VR.kb hL _ _ h2,ih _ h3⟩
   exact this _ _ h2,h.inj,fun id hl hb=>h.out id hl (hL _ hb),fun b hb=>h.bd b (hL b hb),h.low,h.ver⟩
structure Fit (P:Program):Prop where
 mixed:P.follows .mixedOrders=true
 MO : ∀ (f : FuncId) fn c, P.funcs[f]? = some fn → fn.body = some c → jW fn.ntmps c = true ∧ fn.name ≠ "runtime.NumGoroutine"
def IntrOK (P:Program)(intr:FuncId→Option (List AV→AHeap→Option (AV × AHeap))):Prop:=
 ∀f g,intr f=some g→(CallOK P fun f' args h=>if f'=f then g args h else none)∧∀args h r h',g args h=some (r,h')→Steady h h'
theorem gm {f : FuncId} {fn : Func} {c : Code} (hf : P.funcs[f]? = some fn) (hc : fn.body = some c) (hn : fn.name ≠ "runtime.NumGoroutine") (vs : Array Value) (w : World) : (callFunc f vs).run P w = .ok (.enter f vs) w := by
 have W5 : (fn.name == "runtime.NumGoroutine") = false := by simpa using hn
 simp [callFunc,program,Sem.run,hf,hn,hc]
theorem ED (hP:Fit P){aU:FuncId→cg}{cf:CallF}(ih:CallOK P cf)(C5:An P cf)(m:Nat):CallOK P (bc P aU cf m):=by
 intro f args h r h' hc
 unfold bc at hc
 rw [Xp] at hc
 obtain⟨fn,hf,hc⟩:=hc
 rw [Xp] at hc
 obtain⟨c,hb,hc⟩:=hc
 obtain⟨hB,MP⟩:=hP.MO f fn c hf hb
 refine⟨gm hf hb MP,fun L0 c0 vs hh hb0 hrel hargs=>?_⟩
 split at hc
 rotate_left
 ·cases hc
 rename_i hlen
 rw [Xp] at hc
 obtain⟨⟨ex,st⟩,hex,hc⟩:=hc
 have hl:=hargs.length
 refine calls_of_wp hf hb ?_
 refine jJ (L0:=L0) (c0:=c0) (n:=fn.ntmps) ih C5 hb0 c hB _ _ _ hex _ _ _ ?_ ?_
 ·refine⟨by simp; omega,c0,none0,fun _=>0,rfl,⟨hh,by rw [kB]; exact hrel,fun t=>?_,fun k cs hk=>?_,fun k k' hk=>?_,fun t k off _ he=>?_,rfl,fun b hb=>hb.elim⟩,Ext.refl _ _⟩
  ·simp only [St.open,lN,iz]
   split
   ·by_cases ht:t<args.length
    ·obtain⟨v,hv,hr⟩:=hargs.get t args[t] (by simp [ht])
     have:args.getD t AV.any=args[t]:=by simp [ht]
     rw [this,Array.getD_eq_getD_getElem?,Array.getElem?_append_left (by simp; omega)]
     have PH:vs.toArray[t]? = some v:=by simpa using hv
     rw [PH]
     exact SR.of (by rw [kB]; exact hr)
    ·have:args.getD t AV.any = .any:=by simp [XI (Nat.not_lt.1 ht)]
     rw [this]
     exact SR.of (by simp [VR])
   ·exact SR.of (by simp [VR])
  ·simp only [St.open,iz] at hk
   split at hk<;>cases hk
  ·simp only [St.open,iz] at hk
   split at hk<;>cases hk
  ·simp only [St.open,lN,iz] at he
   split at he
   ·by_cases ht:t<args.length
    ·obtain⟨v,hv,hr⟩:=hargs.get t args[t] (by simp [ht])
     have h1:args.getD t AV.any=args[t]:=by simp [ht]
     rw [h1] at he
     rw [he] at hr
     exact hr.elim
    ·have:args.getD t AV.any = .any:=by simp [XI (Nat.not_lt.1 ht)]
     rw [this] at he
     cases he
   ·cases he
 ·intro a' w' lu
  have hfin:(aH P (st.open (aU f)) fn.results.toList).map (fun r=>(r,st.h))=some (r,h')→a'.defers=[]∧∃v,(results fn a'.tmps).run P w' = .ok v w'∧(∃c' v',Ending.returned v = .returned v'∧c'.w=w'∧c'.h=h'∧VR c' L0 r v'∧HRel c' L0∧Ext c0 none0 c' none0):=by
   intro hc
   rw [Xq] at hc
   obtain⟨r',Ao,he⟩:=hc
   cases he
   obtain⟨hn,c',Lo,lam,rfl,f',e'⟩:=lu
   refine⟨f'.defers,?_⟩
   unfold aH at Ao
   rw [Xp] at Ao
   obtain⟨l,hl,Ao⟩:=Ao
   split at Ao
   rotate_left
   ·cases Ao
   rename_i kA
   obtain⟨us,U8,Bs⟩:=wE f' _ _ hl kA
   have EE:VRs c' L0 l us:=VRs.kb (fun b hb=>.inl hb) _ _ Bs
   have Ad:(results fn a'.tmps).run P c'.w = .ok (if h:us.toArray.size=1 then us.toArray[0] else .tuple us.toArray) c'.w:=by
    unfold results
    rw [←Array.toArray_toList (xs:=fn.results)]
    rw [List.mapM_toArray]
    simp only [Sem.run_bind,Sem.run_map,Result.andThen_ok,Sem.run_pure]
    exact (congrArg (fun z=>(Result.andThen z (fun (a:List Value) w'=>Result.ok a.toArray w')).andThen (fun (a:Array Value) w'=>Result.ok (if h:a.size=1 then a[0] else Value.tuple a) w')) U8).trans rfl
   refine⟨_,Ad,c',_,rfl,rfl,f'.h,?_,HRel.kb (fun b hb=>.inl hb) f'.rel,e'.close⟩
   split at Ao
   ·rename_i x
    cases Ao
    cases us with
    | nil=>exact EE.elim
    | cons u us=>cases us with
     | nil=>exact EE.1
     | cons u2 us=>exact EE.2.elim
   ·rename_i hne
    cases Ao
    have PL:us.length≠1:=by
     intro h1
     rw [←EE.length] at h1
     cases l with
     | nil=>simp at h1
     | cons x l=>cases l with
      | nil=>exact hne x rfl
      | cons y l=>simp at h1
    have:¬us.toArray.size=1:=by simpa using PL
    rw [dif_neg this]
    simp only [VR]
    exact⟨us.toArray,rfl,EE⟩
  cases ex with
  | norm=>exact hfin hc
  | ret=>exact hfin hc
  | exit id=>cases hc
end
end Go.R
