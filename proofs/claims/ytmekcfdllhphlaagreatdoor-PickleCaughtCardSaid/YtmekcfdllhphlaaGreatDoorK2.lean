/- Part of the proof: ROps5, ROps6, ROps7, ROpAll, RFrz, RCode. -/
import Derived.Test.YtmekcfdllhphlaaGreatDoorK1
import Derived.MapKept
import Derived.Laws.CopyRow
import Derived.Laws.BytesArg
import Derived.Laws.IdiomStrings
import Derived.Tactics
set_option linter.unusedVariables false
set_option linter.unusedSimpArgs false
set_option maxRecDepth 100000
open Array renaming getElem?_eq_some_iff → YT, getElem?_setIfInBounds → Zj, getElem?_modify → ZL, ext' → ZV
open Bool renaming and_eq_true → Yo, false_eq_true → YA, true_and → Zy, not_eq_true' → ZF
open List renaming length_set → Yt, getElem?_eq_some_iff → Yu, getElem?_eq_none → YC, mem_map → YH, map_cons → YJ, all_eq_true → YK, mem_cons → YW, eq_nil_of_length_eq_zero → Y8, ext_getElem? → Zd, all_cons → Zg, getElem?_set → ZH
open Nat renaming le_refl → Yn, zero_add → YG, beq → Y5, le_succ → Zr, lt_succ_of_lt → ZG, min_eq_left → ZW
open Ne renaming symm → ZB
open Option renaming bind_some → Yj, bind_eq_some_iff → Yk, map_eq_some_iff → Yl, map_some → Yp, isSome_iff_exists → YU, getD_some → Zi
open Option.some renaming injEq → Ym
open Prod.mk renaming injEq → Yr
open UInt8 renaming ofNat → ZX
namespace Go.R
open Go
section
variable {P:Program}{L0:Nat→Prop}{c0:Cx}{n:Nat}{ds:List Nat}{o:Oper}{s:RS}
theorem Fr.w7 {c:Cx}{Lo:Nat→Prop}{lam:Nat→Nat}{a:Act}(f:Fr L0 c Lo lam ds s a)(hbs:c.base≤c.w.heap.size){id:Nat}{es rj:List (AV × AV)}(ho:c.h.get id=some (.map es)){kP ru:Array MapEntry}{clock oa:Nat}
  (hb:c.w.heap[(c.β id).1]? = some (.map kP clock)) (he:kO c (un L0 Lo) rj ru.toList) :
  Ext c Lo ⟨c.β,s.h.put id (.map rj),{c.w with heap:=c.w.heap.setIfInBounds (c.β id).1 (.map ru oa)},c.base⟩ Lo∧
   Fr L0 ⟨c.β,s.h.put id (.map rj),{c.w with heap:=c.w.heap.setIfInBounds (c.β id).1 (.map ru oa)},c.base⟩ Lo lam ds {s with h:=s.h.put id (.map rj)} a:=by
 have hl:Live c.h id:=⟨f.rel.lt _ _ ho,by simp [ho]⟩
 have hlt:(c.β id).1<c.w.heap.size:=(YT.1 hb).1
 have hne:∀b,b≠(c.β id).1→({c.w with heap:=c.w.heap.setIfInBounds (c.β id).1 (.map ru oa)}:World).heap[b]? = c.w.heap[b]?:=by
  intro b hb
  simp only [Zj]
  rw [if_neg (ZB hb)]
 rw [←f.h]
 refine f.upd (β':=c.β) (h':=c.h.put id (.map rj)) id (.map rj) (Steady.put _ _ _) (ZG hl.1) (by simp [AHeap.put,beq_nat])
  (fun oM h1=>.inr ⟨by simp [AHeap.put,beq_nat,h1],rfl⟩) (fun _=>⟨hl,rfl⟩) (.inr ⟨id,hl,rfl,.inl rfl⟩) (fun _=>?_)
  (fun b _ h1=>hne b h1) (fun b _ h1=>hne b h1) (by simp) hbs rfl rfl rfl (fun e=>⟨ru,oa,by simp [hlt],he.ext e⟩)
 simp only [Cx.len,World.shape?,hb,Zj,hlt,if_true]
theorem w8 {x y:AV}(hs:sameShape x y=true)(hq:gd x y=true):x=y:=by
 cases x<;>cases y<;>simp only [sameShape] at hs<;>try (cases hs; done)
 ·simp only [gd,ji,Yo,beq_iff_eq] at hq
  obtain⟨rfl,rfl⟩:=hq
  rfl
 ·rename_i a b
  simp only [gd,ji,beq_iff_eq] at hq
  congr 1
  cases a; cases b
  congr 1
  exact Array.toList_inj.1 hq
 ·rename_i xs ys
  simp only [Yo,beq_iff_eq] at hs
  obtain⟨⟨_,hx⟩,hy⟩:=hs
  obtain⟨ns,rfl⟩:=ic hx
  obtain⟨ms,rfl⟩:=ic hy
  simp only [gd,ko,decide_eq_true_eq] at hq
  rw [hq]
theorem nI:∀ns:List Int,jg (ns.map fun n=>AV.int .i64 n)=some (ns.map fun n=>Value.int .i64 n)
 | []=>rfl
 | n::ns=>by simp [jg,AV.fA,nI ns]
theorem AX {t:TypeId}{k:AV}(h:gf P t k=true):∃u,k.AF=some u∧Instr.sameBits 10000 u u=true:=by
 unfold gf at h
 have NO:∀cs:List AV,cs.all km=true→∃u,(AV.agg cs).AF=some u∧Instr.sameBits 10000 u u=true:=by
  intro cs hcs
  obtain⟨ns,rfl⟩:=ic hcs
  refine⟨.agg (ns.map fun n=>Value.int .i64 n).toArray,by simp [AV.AF,nI],?_⟩
  simp only [Instr.sameBits,beq_self_eq_true,Zy,YK]
  intro p hp
  have:∀(l:List Value),(∀v∈l,∃m,v=Value.int .i64 m)→∀p∈l.zip l,Instr.sameBits 9999 p.1 p.2=true:=by
   clear hp p
   intro l hl p hp
   have h1:p.1=p.2∧p.1∈l:=by
    clear hl
    induction l with
    | nil=>cases hp
    | cons v l ih=>
     simp only [List.zip_cons_cons,YW] at hp
     rcases hp with rfl | hp
     ·exact⟨rfl,by simp⟩
     ·obtain⟨h1,h2⟩:=ih hp; exact⟨h1,by simp [h2]⟩
   obtain⟨h1,h2⟩:=h1
   obtain⟨m,hm⟩:=hl _ h2
   rw [←h1,hm]
   simp [Instr.sameBits]
  exact this (ns.map fun n=>Value.int .i64 n) (fun v hv=>by obtain⟨m,_,rfl⟩:=YH.1 hv; exact⟨m,rfl⟩) p (by simpa using hp)
 split at h
 ·exact⟨_,rfl,by simp [Instr.sameBits]⟩
 ·exact⟨_,rfl,by simp [Instr.sameBits,vK]⟩
 ·simp only [Yo] at h; exact NO _ h.1.1.2
 ·simp only [Yo] at h; exact NO _ h.1.1.2
 ·cases h
theorem th {c:Cx}{L:Nat→Prop}{k v:AV}{kv vv:Value}(hc:k.AF.isSome=true)(hk:VR c L k kv)(hv:VR c L v vv) :
  ∀(es rj:List (AV × AV)) (ms:List MapEntry) (i:Nat),kO c L es ms→wR k v es=some rj→
   iM k es≠none∧(place k es ms i=none∧(∀b,kO c L rj (ms++[{key:=kv,val:=vv,born:=b}]))∨
    ∃j u m,place k es ms i=some (i+j,u)∧ms[j]? = some m∧m.key=kv∧kO c L rj (ms.modify j fun e=>{e with key:=kv,val:=vv}))
 | [],rj,[],i,_,h=>by
  simp only [wR,Ym] at h
  subst h
  exact⟨by simp [iM],.inl ⟨rfl,fun b=>⟨⟨hk,hc⟩,hv,trivial⟩⟩⟩
 | (k',v')::es,rj,m::ms,i,he,h=>by
  obtain⟨⟨Fh,TW⟩,Cb,u5⟩:=he
  simp only [wR] at h
  split at h
  rotate_left
  ·cases h
  rename_i hs
  split at h
  ·rename_i hq
   cases h
   have yJ:k=k':=w8 hs hq
   obtain⟨u,hu⟩:=YU.1 hc
   refine⟨by simp [iM,hs,hq],.inr ⟨0,m.val,m,by simp [place,hq],rfl,?_,?_⟩⟩
   ·subst yJ
    rw [wX hu hk,wX hu Fh]
   ·exact⟨⟨hk,hc⟩,hv,u5⟩
  ·rename_i hq
   rw [Yl] at h
   obtain⟨VV,h1,rfl⟩:=h
   obtain⟨h2,h3⟩:=th hc hk hv es VV ms (i+1) u5 h1
   refine⟨by simp [iM,hs,hq,h2],?_⟩
   have yQ:gd k k'=false:=by simpa using hq
   rcases h3 with⟨h3,h4⟩| ⟨j,u,m',h3,h4,h5,h6⟩
   ·exact .inl ⟨by simp [place,yQ,h3],fun b=>⟨⟨Fh,TW⟩,Cb,h4 b⟩⟩
   ·exact .inr ⟨j+1,u,m',by simp [place,yQ,h3]; omega,by simpa using h4,h5,⟨⟨Fh,TW⟩,Cb,h6⟩⟩
 | [],_,_::_,_,h,_=>h.elim
 | _::_,_,[],_,h,_=>h.elim
theorem ti {x:AV}(h:x.lW=true):∀k off,x≠.lp k off:=by rintro k off rfl; simp [AV.lW] at h
theorem va {c:Cx}{Lo:Nat→Prop}{lam:Nat→Nat}{a:Act}(f:Fr L0 c Lo lam ds s a)(hbs:c.base≤c.w.heap.size){t:TypeId}{m k x:AV}{mv kv xv:Value}(hm:SR c L0 Lo lam s.bx m mv)(hk:SR c L0 Lo lam s.bx k kv)(hx:SR c L0 Lo lam s.bx x xv){h':AHeap}
  (h:iN P s.h t m k x=some h'):∃c',(Instr.mapUpdate t mv kv xv).run P c.w = .ok () c'.w∧Ext c Lo c' Lo∧Fr L0 c' Lo lam ds {s with h:=h'} a:=by
 unfold iN at h
 rw [Yk] at h
 obtain⟨d,hd,h⟩:=h
 cases d<;>simp only at h<;>try (cases h; done)
 rename_i kt et
 split at h
 ·cases h
 rename_i j7
 obtain⟨u7,hargs⟩:gf P kt k=true∧x.lW=true:=by
  cases h1:gf P kt k<;>cases h2:x.lW<;>simp [h1,h2] at j7 ⊢
 have yK:VR c (un L0 Lo) k kv:=hk.vr (by rintro k0 off rfl; simp [gf] at u7)
 have VW:=hx.vr (ti hargs)
 cases m<;>simp only at h<;>try (cases h; done)
 rename_i id
 rw [Yk] at h
 obtain⟨ob,ho,h⟩:=h
 cases ob with
 | cells cs=>cases h
 | row t cs=>cases h
 | map es=>
 rw [Yl] at h
 obtain⟨rj,hu,rfl⟩:=h
 simp only [SR,VR] at hm
 obtain⟨hi,r,rfl,hr⟩:=hm
 rw [←f.h] at ho
 have hl:Live c.h id:=⟨f.rel.lt _ _ ho,by simp [ho]⟩
 have QC:=hr hl
 subst QC
 obtain⟨kP,clock,h1,h2⟩:=f.rel.obj _ _ ho
 obtain⟨u0,J3,VX⟩:=AX u7
 obtain⟨hf,hp⟩:=th (by simp [J3]) yK VW es rj kP.toList 0 h2 hu
 have Fi:=vL u7 yK c.w h2 hf
 have KL:=nF (P:=P) false 9998 u7 yK c.w
 have hget:(getObj (c.β id).1).run P c.w = .ok (.map kP clock) c.w:=MapKept.run_getObj_map h1
 rcases hp with⟨hp,s5⟩| ⟨j,u,m,hp,hj,hmk,s5⟩
 ·obtain⟨e',f'⟩:=f.w7 hbs ho h1 (ru:=kP.push {key:=kv,val:=xv,born:=clock}) (oa:=clock+1) (rj:=rj) (by simpa using s5 clock)
  refine⟨_,?_,e',f'⟩
  unfold Instr.mapUpdate
  rw [hp] at Fi
  simp only [Sem.run_bind,bz hd,Result.andThen_ok,hget,KL,Fi]
  exact MapKept.run_setObj_map _ h1
 ·obtain⟨e',f'⟩:=f.w7 hbs ho h1 (ru:=kP.modify j fun e=>{e with key:=kv,val:=xv}) (oa:=clock) (rj:=rj) (by simpa using s5)
  refine⟨_,?_,e',f'⟩
  unfold Instr.mapUpdate
  rw [hp,YG] at Fi
  have KT:kP[j]? = some m:=by simpa using hj
  have IK:(Instr.keyThatStays m.key kv).run P c.w = .ok kv c.w:=by
   rw [hmk]
   unfold Instr.keyThatStays
   rw [wX J3 yK,VX]
   rfl
  simp only [Sem.run_bind,bz hd,Result.andThen_ok,hget,KL,Fi,KT,Yp,Zi,IK]
  exact MapKept.run_setObj_map _ h1
theorem oS (hb0:c0.base≤c0.w.heap.size){t:TypeId}{m k x:Operand}(ho:o.op = .mapUpdate t m k x∨o.op = .insert t m k x)(rS:o.dst=none){h':AHeap}
  (h:iN P s.h t (bS s.ρ m) (bS s.ρ k) (bS s.ρ x)=some h'):jv P L0 c0 n ds o s {s with h:=h'}:=by
 rintro a w K Q ⟨hn,c,Lo,lam,rfl,f,e⟩ hK
 obtain⟨c',hr,e',f'⟩:=va f (jL e hb0) (bB f m) (bB f k) (bB f x) h
 unfold Oper.wp
 have:(execOp a.eval o).run P c.w = .ok .skip c'.w:=by rcases ho with ho | ho<;>simp [execOp,ho,hr]
 rw [this,Oper.upon_skip]
 have KO:a.put o.dst undef=a:=by rw [rS]; rfl
 rw [KO]
 exact hK _ _ ⟨hn,c',Lo,lam,rfl,f',e.trans e'⟩
theorem Fw (hb0:c0.base≤c0.w.heap.size)(hd:gg n ds o){t:TypeId}{x:Operand}(ho:o.op = .call {callee:=.builtin .clear,args:=#[x],argTypes:=#[t]}){h':AHeap}
  (h:sS P s.h t (bS s.ρ x)=some h'):jv P L0 c0 n ds o s ({s with h:=h'}.set o.dst (.tup [])):=by
 rintro a w K Q ⟨hn,c,Lo,lam,rfl,f,e⟩ hK
 unfold sS at h
 rw [Yk] at h
 obtain⟨d,DO,h⟩:=h
 have hx:=bB f x
 have fin:∀c',(Builtin.clear_ #[t] o.type #[a.eval x]).run P c.w = .ok (.tuple #[]) c'.w→Ext c Lo c' Lo→Fr L0 c' Lo lam ds {s with h:=h'} a→o.wp P a c.w K Q:=by
  intro c' hr e' f'
  unfold Oper.wp
  have:(execOp a.eval o).run P c.w = .ok (.value (.tuple #[])) c'.w:=by
   simp [execOp,ho,resolve,invoke,builtin,hr]
  rw [this,Oper.upon_value]
  exact hK _ _ ⟨(gG _ _ _).trans hn,c',Lo,lam,rfl,f'.set (SR.of (by simp [VR,VRs])) (fun t ht=>by rw [hn]; exact hd t ht),e.trans e'⟩
 cases DI:bS s.ρ x<;>rw [DI] at h hx<;>simp only at h<;>try (cases h; done)
 ·cases h
  simp only [SR,VR] at hx
  refine fin c ?_ (Ext.refl _ _) f
  simp [Builtin.clear_,bz DO,hx]
 ·rename_i id
  rw [Yk] at h
  obtain⟨ob,ho,h⟩:=h
  cases ob with
  | cells cs=>cases h
  | row t cs=>cases h
  | map es=>
  cases h
  simp only [SR,VR] at hx
  obtain⟨hi,r,sy,hr⟩:=hx
  rw [←f.h] at ho
  have hl:Live c.h id:=⟨f.rel.lt _ _ ho,by simp [ho]⟩
  have QC:=hr hl
  subst QC
  obtain⟨kP,clock,h1,h2⟩:=f.rel.obj _ _ ho
  obtain⟨e',f'⟩:=f.w7 (jL e hb0) ho h1 (ru:=#[]) (oa:=clock) (rj:=[]) trivial
  refine fin _ ?_ e' f'
  have hget:(getObj (c.β id).1).run P c.w = .ok (.map kP clock) c.w:=MapKept.run_getObj_map h1
  have AY:=MapKept.run_setObj_map (P:=P) (.map #[] clock) h1
  simp [Builtin.clear_,bz DO,sy,hget,AY]
end
end Go.R
namespace Go.R
open Go
section
variable {P:Program}{L0:Nat→Prop}{c0:Cx}{n:Nat}{ds:List Nat}{o:Oper}{s:RS}
theorem mD {w:World}{t t2 ty e:TypeId}{i:TypeInfo}(ht:P.underlying t=some (.slice e))(hi:P.info? e=some i){base:Option Addr}{len cap:Nat}{x:Value}{news:List Value}{m:Nat}(hs:Src P i.size t2 x m news w)(hm:m≤len) :
  (Builtin.copy_ #[t,t2] ty #[.slice base len cap,x]).run P w=match base with | none=>.ok (goInt m) w | some a=>((storeCells a news).run P w).andThen fun _ w'=>.ok (goInt m) w':=by
 have NP:Nat.min m len=m:=ZW hm
 have hlen:=hs.len w
 have hc:=hs.cells
 have hsz:(sizeOf e).run P w = .ok i.size w:=by simp [sizeOf,typeInfo,hi]
 unfold Builtin.copy_
 cases base with
 | none=>simp [bz ht,hlen,NP,hsz,hc]
 | some a=>simp [bz ht,hlen,NP,hsz,hc,Sem.run_bind]
theorem IL (hb0:c0.base≤c0.w.heap.size)(hd:gg n ds o){t t2:TypeId}{dx sx:Operand}(ho:o.op = .call {callee:=.builtin .copy,args:=#[dx,sx],argTypes:=#[t,t2]}){y:AV}{h':AHeap}
  (h:vF P s.h t t2 (bS s.ρ dx) (bS s.ρ sx)=some (y,h')):jv P L0 c0 n ds o s ({s with h:=h'}.set o.dst y):=by
 rintro a w K Q ⟨hn,c,Lo,lam,rfl,f,e0⟩ hK
 have hbs:=jL e0 hb0
 unfold vF at h
 rw [Yk] at h
 obtain⟨d,DO,h⟩:=h
 cases d<;>simp only at h<;>try (cases h; done)
 rename_i e
 rw [Yk] at h
 obtain⟨i,hi,h⟩:=h
 rw [Yk] at h
 obtain⟨⟨new,m⟩,hcs,h⟩:=h
 simp only at h
 split at h
 ·cases h
 rename_i gA
 have gA:jU P t2 (bS s.ρ sx)=true:=by simpa using gA
 have TX:∀st,bS s.ρ sx = .str st→P.underlying t2=some .string:=by
  intro st hst
  rw [hst] at gA
  unfold jU at gA
  simp only at gA
  split at gA
  ·assumption
  ·cases gA
 have qv:(∀st,bS s.ρ sx≠.str st)→∃e',P.underlying t2=some (.slice e'):=by
  intro hne
  unfold jU at gA
  split at gA
  ·rename_i st hst; exact absurd hst (hne st)
  ·split at gA
   ·rename_i e' he; exact⟨e',he⟩
   ·cases gA
 have hk:(∃e',P.underlying t2=some (.slice e'))∨P.underlying t2=some .string:=by
  by_cases hst:∃st,bS s.ρ sx = .str st
  ·obtain⟨st,hst⟩:=hst; exact .inr (TX st hst)
  ·exact .inl (qv fun st QD=>hst ⟨st,QD⟩)
 obtain⟨news,hS,hv⟩:=qu f (bB f sx) hk TX qv hcs
 have yy:=bB f dx
 have fin:∀c',(Builtin.copy_ #[t,t2] o.type #[a.eval dx,a.eval sx]).run P c.w = .ok (goInt m) c'.w→Ext c Lo c' Lo→Fr L0 c' Lo lam ds {s with h:=h'} a→y = .int .i64 m→o.wp P a c.w K Q:=by
  intro c' hr e' f' hy
  unfold Oper.wp
  have:(execOp a.eval o).run P c.w = .ok (.value (goInt m)) c'.w:=by
   simp [execOp,ho,resolve,invoke,builtin,hr]
  rw [this,Oper.upon_value]
  exact hK _ _ ⟨(gG _ _ _).trans hn,c',Lo,lam,rfl,f'.set (SR.of (by subst hy; simp [VR,goInt])) (fun t ht=>by rw [hn]; exact hd t ht),e0.trans e'⟩
 cases DI:bS s.ρ dx<;>rw [DI] at h yy<;>simp only at h<;>try (cases h; done)
 ·split at h
  rotate_left
  ·cases h
  rename_i s4
  cases h
  simp only [SR,VR] at yy
  obtain⟨ad,yy⟩:∃ad:Option Addr,a.eval dx = .slice ad 0 0:=⟨none,yy⟩
  refine fin c ?_ (Ext.refl _ _) f (by rw [s4]; rfl)
  rw [yy,mD DO hi hS (by omega)]
  cases ad with
  | none=>rfl
  | some ad=>
   have:news=[]:=Y8 (by rw [hS.newsLen,s4]; simp)
   subst this
   rfl
 ·rename_i id off len jc
  split at h
  ·rename_i hid
   split at h
   rotate_left
   ·cases h
   rename_i s4
   cases h
   simp only [SR,VR] at yy
   rcases yy with⟨_,_,_,ad,yy⟩| yy
   rotate_left
   ·exact absurd hid yy.1
   refine fin c ?_ (Ext.refl _ _) f (by rw [s4]; rfl)
   rw [yy,mD DO hi hS (by omega)]
   cases ad with
   | none=>rfl
   | some ad=>
    have:news=[]:=Y8 (by rw [hS.newsLen,s4]; simp)
    subst this
    rfl
  rename_i kS
  rw [Yk] at h
  obtain⟨ob,hob,h⟩:=h
  cases ob with
  | map es=>cases h
  | row t cs=>cases h
  | cells cs=>
  simp only at h
  split at h
  rotate_left
  ·cases h
  rename_i hh
  obtain⟨VY,NQ,hoff⟩:=hh
  cases h
  simp only [SR,VR] at yy
  rcases yy with yy | ⟨_,hid,ad,cap,yy,hlc,Fk,hlive⟩
  ·exact absurd yy.1 kS
  rw [←f.h] at hob
  have hl:Live c.h id:=⟨f.rel.lt _ _ hob,by simp [hob]⟩
  obtain⟨q,hp,hq,hc⟩:=f.rel.obj _ _ hob
  have hnl:=hS.newsLen
  have hvl:=hv.length
  have hr:=mD (ty:=o.type) DO hi hS NQ (base:=ad) (cap:=cap)
  by_cases ha:ad=some ⟨(c.β id).1,(c.β id).2+off,none⟩
  ·subst ha
   simp only at hr
   have hst:=mB (P:=P) hp.nb (base:=(c.β id).2) (off:=off) (vs:=news) (by omega) hS.one
   rw [hst] at hr
   simp only [Result.andThen_ok] at hr
   obtain⟨q1,q2,q3,q4⟩:=ie news (c.β id).1 ((c.β id).2+off) c.w
   have AQ:iP c (c.β id).1 q:=hp
   obtain⟨C,NN,hb,AR⟩:=hp
   obtain⟨C',g1,g2,g3⟩:=fN news (c.β id).1 ((c.β id).2+off) c.w C NN (0,0) hb (by omega)
   obtain⟨e',f'⟩:=f.upd (w':=c.w.setCells (c.β id).1 ((c.β id).2+off) news) (β':=c.β) (h':=s.h.put id (.cells (dE cs off new))) id (.cells (dE cs off new))
    (by rw [f.h]; exact Steady.put _ _ _) (by rw [←f.h]; exact ZG hl.1) (by simp [AHeap.put,beq_nat]) (fun oM h1=>.inr ⟨by rw [f.h]; simp [AHeap.put,beq_nat,h1],rfl⟩) (fun _=>⟨hl,rfl⟩) (.inr ⟨id,hl,rfl,.inl rfl⟩)
    (fun _=>by simp only [Cx.len,World.shape?,g1,hb,Yp,Zi,g2])
    (fun b _ hne=>ec _ _ _ _ _ hne) (fun b _ hne=>ec _ _ _ _ _ hne) (by rw [q1]; exact Yn _) hbs q2 q3 q4
    (fun ee=>⟨q,AQ.setCells (by omega) _ _ _,by rw [js]; exact hq,jZ AQ.nb hc hv hS.one (by omega) (by omega) ee rfl⟩)
   refine fin _ ?_ e' f' rfl
   rw [yy]
   exact hr
  ·have hz:new=[]∧m=0∧news=[]:=by
    rcases hlive hl with⟨h1,_⟩| h1
    ·exact absurd h1 ha
    ·have h0:m=0:=by omega
     have h2:news=[]:=Y8 (by rw [hnl,h0]; simp)
     subst h2
     exact⟨Y8 (by simpa using hvl),h0,rfl⟩
   obtain⟨rfl,rfl,rfl⟩:=hz
   have nH:dE cs off []=cs:=by simp [dE]
   rw [nH] at *
   obtain⟨e',f'⟩:=f.upd (w':=c.w) (β':=c.β) (h':=s.h.put id (.cells cs)) id (.cells cs)
    (by rw [f.h]; exact Steady.put _ _ _) (by rw [←f.h]; exact ZG hl.1) (by simp [AHeap.put,beq_nat]) (fun oM h1=>.inr ⟨by rw [f.h]; simp [AHeap.put,beq_nat,h1],rfl⟩) (fun _=>⟨hl,rfl⟩) (.inr ⟨id,hl,rfl,.inl rfl⟩)
    (fun _=>rfl) (fun b _ hne=>rfl) (fun b _ hne=>rfl) (Yn _) hbs rfl rfl rfl
    (fun ee=>rQ.ext ee ⟨q,hp,hq,hc⟩ rfl)
   refine fin _ ?_ e' f' rfl
   rw [yy,hr]
   cases ad<;>rfl
end
end Go.R
namespace Go.R
open Go
section
variable {P:Program}{L0:Nat→Prop}{c0:Cx}{n:Nat}{ds:List Nat}{o:Oper}{s:RS}
theorem qw {e:TypeId}(h:DA P e=true):P.underlying e=some (.int .u8)∧ez P e=some 1:=by
 unfold DA at h
 simp only [Yo,beq_iff_eq] at h
 obtain⟨h1,h2⟩:=h
 refine⟨?_,h2⟩
 split at h1
 ·assumption
 ·cases h1
theorem Ce {c:Cx}{L:Nat→Prop}:∀{cs:List AV} {l:List UInt8} {vs:List Value},Il cs=some l→VRs c L cs vs→∃xs:List Int,vs=xs.map (Value.int .u8)∧l=xs.map fun n=>ZX n.toNat
 | [],l,[],h,_=>by simp only [Il,Ym] at h; subst h; exact⟨[],rfl,rfl⟩
 | x::cs,l,v::vs,h,hv=>by
  unfold Il at h
  split at h
  ·rename_i heq; cases heq
  ·rename_i n xs heq
   cases heq
   rw [Yl] at h
   obtain⟨l',h1,rfl⟩:=h
   obtain⟨ys,rfl,rfl⟩:=Ce h1 hv.2
   have h2:=hv.1
   simp only [VR] at h2
   subst h2
   exact⟨n::ys,rfl,rfl⟩
  ·cases h
 | [],_,_::_,_,h=>h.elim
 | _::_,_,[],_,h=>h.elim
theorem w9 (xs:List Int):strOfNums xs=⟨(xs.map fun n=>ZX n.toNat).toArray⟩:=rfl
theorem yR {w:World}{src dst e:TypeId}{v:Value}{m:Nat}{xs:List Int}(hs:P.underlying src=some (.slice e))(he:P.underlying e=some (.int .u8))(hd:P.underlying dst=some .string)
  (hS:Src P 1 src v m (xs.map (Value.int .u8)) w) (hv:∃a cap,v = .slice a m cap):(convert src dst v).run P w = .ok (.string (strOfNums xs)) w:=by
 obtain⟨a,cap,rfl⟩:=hv
 have hc:=hS.cells
 have hl:=hS.newsLen
 cases a with
 | none=>
  have:xs=[]:=by
   simp [Builtin.firstCells] at hc
   cases xs with
   | nil=>rfl
   | cons x xs=>simp at hc
  subst this
  exact run_convert_bytes_nil w src e hs he m cap dst hd
 | some a=>
  rw [run_convert_bytes_string w src dst e (some a) m cap hs he hd]
  have h1:(loadCells a m).run P w = .ok (xs.map (Value.int .u8)).toArray w:=by simpa [Builtin.firstCells] using hc
  rw [run_bytesToString w a m cap xs h1,foldl_push_bytes]
  simp [strOfNums,ByteArray.empty,ByteArray.emptyWithCapacity]
  rfl
theorem vb {c:Cx}{Lo:Nat→Prop}{lam:Nat→Nat}{x:AV}{v:Value}{h:AHeap}{size m:Nat}{new:List AV}(hx:SR c L0 Lo lam s.bx x v)(hc:dR h size x=some (new,m))(hne:∀st,x≠.str st):∃a cap,v = .slice a m cap:=by
 unfold dR at hc
 cases x<;>simp only at hc<;>try (cases hc; done)
 ·exact absurd rfl (hne _)
 ·cases hc
  simp only [SR,VR] at hx
  subst hx
  exact⟨none,0,rfl⟩
 ·split at hc
  ·cases hc
   simp only [SR,VR] at hx
   obtain⟨a,cap,rfl,_⟩:=hx
   exact⟨a,cap,rfl⟩
  ·cases hc
 ·split at hc
  ·split at hc
   ·cases hc
    simp only [SR,VR] at hx
    rename_i hid _
    rcases hx with⟨_,_,_,a,rfl⟩| hx
    ·exact⟨a,0,rfl⟩
    ·exact absurd hid hx.1
   ·cases hc
  rename_i kS
  rw [Yk] at hc
  obtain⟨ob,_,hc⟩:=hc
  cases ob with
  | map es=>cases hc
  | row t cs=>cases hc
  | cells cs=>
   simp only at hc
   split at hc
   ·cases hc
    simp only [SR,VR] at hx
    rcases hx with hx | ⟨_,_,a,cap,rfl,_⟩
    ·exact absurd hx.1 kS
    exact⟨a,cap,rfl⟩
   ·cases hc
theorem bytes_VRs {c:Cx}{L:Nat→Prop}:∀l:List UInt8,VRs c L (l.map fun b=>AV.int .u8 b.toNat) (l.map fun b=>Value.int .u8 b.toNat)
 | []=>trivial
 | b::l=>⟨by simp [VR],bytes_VRs l⟩
theorem xb {w:World}{b o k:Nat}{C:Array Value}{e:TypeId}{fr:Nat × Nat}(hb:w.heap[b]? = some (.cells C e fr))(ho:C.size≤o)(hk:k≠0) :
  (∀b',iO w (w.freeze ⟨b,o,none⟩ k) b')∧(∀b',b'≠b→(w.freeze ⟨b,o,none⟩ k).heap[b']? = w.heap[b']?)∧(w.freeze ⟨b,o,none⟩ k).heap.size=w.heap.size∧(w.freeze ⟨b,o,none⟩ k).os=w.os∧(w.freeze ⟨b,o,none⟩ k).tape=w.tape∧(w.freeze ⟨b,o,none⟩ k).output=w.output:=by
 unfold World.freeze
 rw [if_neg hk]
 have hlt:=(YT.1 hb).1
 refine⟨fun b'=>?_,fun b' hne=>by simp [ZL,ZB hne],by simp,rfl,rfl,rfl⟩
 by_cases hne:b'=b
 ·subst hne
  obtain⟨lo,hi⟩:=fr
  refine .inr ⟨C,e,lo,hi,(if lo==hi then (o,o+k) else (min lo o,max hi (o+k))).1,(if lo==hi then (o,o+k) else (min lo o,max hi (o+k))).2,hb,?_,?_⟩
  ·simp [ZL,hb]
  ·intro h
   by_cases QE:lo=hi
   ·subst QE; right; simpa using ho
   ·have:(lo==hi)=false:=by simpa using QE
    right
    simp only [this,YA,if_false]
    rcases h with h | h
    ·exact absurd h QE
    ·exact Nat.le_min.2 ⟨h,ho⟩
 ·exact .inl (by simp [ZL,ZB hne])
theorem AZ (hb0:c0.base≤c0.w.heap.size)(hd:gg n ds o){src dst:TypeId}{x:Operand}(ho:o.op = .convert src dst x){y:AV}(h:ib P s.h src dst (bS s.ρ x)=some y):jv P L0 c0 n ds o s (s.set o.dst y):=by
 have hex:∀(a:Act) (w w':World) v,(convert src dst (a.eval x)).run P w = .ok v w'→(execOp a.eval o).run P w = .ok (.value v) w':=by
  intro a w w' v hr; simp [execOp,ho,hr]
 unfold ib at h
 split at h
 ·rename_i e hs Ay
  split at h
  rotate_left
  ·cases h
  rename_i hu
  obtain⟨he,hsz⟩:=qw hu
  rw [Yk] at h
  obtain⟨⟨cs,m⟩,hcs,h⟩:=h
  rw [Yl] at h
  obtain⟨l,hl,rfl⟩:=h
  by_cases hst:∃st,bS s.ρ x = .str st
  ·
   obtain⟨st,hst⟩:=hst
   refine fB hd fun a c Lo lam f hn=>?_
   have hx:=bB f x
   rw [hst] at hx hcs
   simp only [SR,VR] at hx
   simp only [dR,if_true,Ym,Yr] at hcs
   obtain⟨rfl,rfl⟩:=hcs
   refine⟨_,hex _ _ _ (.string st) ?_,?_⟩
   ·simp [convert,run_underlying hs,run_underlying Ay,hx]
   ·have:∀(l0 l1:List UInt8),Il (l0.map fun b=>AV.int .u8 b.toNat)=some l1→l1=l0:=by
     intro l0
     induction l0 with
     | nil=>intro l1 h; simp [Il] at h; exact h
     | cons b l0 ih=>
      intro l1 h
      simp only [YJ,Il,Yl] at h
      obtain⟨l2,h2,rfl⟩:=h
      rw [ih l2 h2]
      simp
    rw [this _ _ hl]
    simp [SR,VR]
  ·refine fB hd fun a c Lo lam f hn=>?_
   have hne:∀st,bS s.ρ x≠.str st:=fun st h=>hst ⟨st,h⟩
   have hx:=bB f x
   obtain⟨news,hS,hv⟩:=qu f hx (.inl ⟨e,hs⟩) (fun st h=>absurd h (hne st)) (fun _=>⟨e,hs⟩) hcs
   obtain⟨xs,rfl,rfl⟩:=Ce hl hv
   exact⟨_,hex _ _ _ _ (yR hs he Ay hS (vb hx hcs hne)),by simp [SR,VR,w9]⟩
 ·rename_i e hs Ay
  cases DI:bS s.ρ x<;>rw [DI] at h<;>simp only at h<;>try (cases h; done)
  rename_i st
  split at h
  rotate_left
  ·cases h
  rename_i hu
  obtain⟨he,hsz⟩:=qw hu
  cases h
  refine ta hb0 hd (fun a c Lo lam f hn hbs=>?_) (by rintro k off h; cases h)
  have hx:=bB f x
  rw [DI] at hx
  simp only [SR,VR] at hx
  have hr:=run_bytes_of_string c.w src dst e st hs Ay he
  rw [←hx] at hr
  refine⟨_,_,hex _ _ _ _ hr,fun b hb=>.inl (alloc_old c.w.drew _ (show b<c.w.heap.size from hb)),fun id hl=>alloc_old c.w.drew _ (show (c.β id).1<c.w.heap.size from f.rel.block hl),fun b hb=>alloc_old c.w.drew _ (show b<c.w.heap.size by omega),by show c.w.heap.size≤(c.w.heap.push _).size; simp,rfl,rfl,rfl,fun e'=>?_⟩
  simp only [VR]
  refine⟨_,_,rfl,grownCap_ge c.w,by simp,.inl rfl,?_⟩
  refine .inr ⟨c.w.heap.size,0,rfl,Ft f.rel rfl rfl,by simp,?_⟩
  refine Cells.of_vals (bytes_VRs st.data.toList) (fun i hi=>?_) (fun v hv=>by obtain⟨b,_,rfl⟩:=YH.1 hv; rfl)
  have lY:i<st.data.size:=by simpa using hi
  have:(World.alloc c.w.drew (.cells (bytesRow st (grownCap c.w st.size 0 e)) e ((bytesRow st (grownCap c.w st.size 0 e)).size,(bytesRow st (grownCap c.w st.size 0 e)).size+1))).heap[c.w.heap.size]? = some (.cells (bytesRow st (grownCap c.w st.size 0 e)) e ((bytesRow st (grownCap c.w st.size 0 e)).size,(bytesRow st (grownCap c.w st.size 0 e)).size+1)):=iC c.w.drew _
  rw [cell_of_block this]
  simp [bytesRow,Array.getElem?_append,lY]
  intro hge
  have:st.size=st.data.size:=rfl
  omega
 ·rename_i e0 e hs Ay
  cases DI:bS s.ρ x<;>rw [DI] at h<;>try (cases h; done)
  rename_i cs m ex
  cases ex
  ·cases h
  simp only at h
  split at h
  rotate_left
  ·cases h
  rename_i hu
  simp only [Yo,beq_iff_eq,decide_eq_true_eq] at hu
  obtain⟨⟨VZ,hu⟩,iy⟩:=hu
  subst VZ
  obtain⟨he,hsz⟩:=qw hu
  cases h
  refine ta hb0 hd (fun a c Lo lam f hn hbs=>?_) (by rintro k off h; cases h)
  have hx:=bB f x
  rw [DI] at hx
  have IM:=hx.vr (by rintro k off h; cases h)
  simp only [SR,VR] at hx
  obtain⟨ad,cap,sy,h1,h2,_,h3⟩:=hx
  rcases h3 with rfl | ⟨b,off,rfl,JZ,hbb,hc⟩
  ·simp at iy
  have hlt:b<c.w.heap.size:=by
   cases cs with
   | nil=>simp at iy
   | cons x cs=>exact jW hc
  have nH:∃C e' fr,c.w.heap[b]? = some (.cells C e' fr):=by
   cases cs with
   | nil=>simp at iy
   | cons x cs=>
    obtain⟨⟨v,hv,_⟩,_⟩:=hc
    unfold World.cell? at hv
    split at hv
    ·exact⟨_,_,_,by assumption⟩
    ·cases hv
  obtain⟨C,e',fr,hb⟩:=nH
  obtain⟨k1,k2,k3,k4,k5,k6⟩:=xb (k:=1) hb (Yn C.size) (by decide)
  refine⟨c.w.freeze ⟨b,C.size,none⟩ 1,a.eval x,hex _ _ _ _ ?_,fun b' _=>k1 b',fun id hl=>k2 _ (JZ.1 id hl),fun b' EY=>k2 b' (by have:=hbb trivial; omega),by rw [k3]; exact Yn _,k4,k5,k6,fun NN=>VR.ext NN _ _ IM⟩
  rw [sy]
  have QF:c.w.shape? b=some (e',C.size):=by simp [World.shape?,hb]
  simp [convert,run_underlying Ay,run_underlying he,markStringish,QF]
 ·rw [Yk] at h
  obtain⟨v,hv,h⟩:=h
  rw [Yk] at h
  obtain⟨r,hr,h⟩:=h
  refine fB hd fun a c Lo lam f hn=>?_
  have hx:=kQ hv ((bB f x).vr (kR hv))
  exact⟨r,hex _ _ _ _ (by rw [hx]; exact kn _ hr),SR.of (nc h)⟩
theorem dK {op:BinOp}{t:TypeId}{x y:Operand}{u v:Value}(h:(∀a b,u≠.agg a∨v≠.agg b)∧u≠.nilIface)(w:World):(eqGuard op t x y u v).run P w = .ok () w:=by
 obtain⟨h1,h2⟩:=h
 unfold eqGuard
 cases op<;>first | rfl | skip
 all_goals
  simp only [Bool.not_true,YA,if_false]
  split
  ·exact absurd rfl h2
  ·rename_i a b; rcases h1 a b with h3 | h3<;>exact absurd rfl h3
  ·rfl
theorem A0 {x:AV}{u:Value}(h:x.fA=some u):(∀a,u≠.agg a)∧u≠.nilIface:=by
 unfold AV.fA at h
 split at h<;>first | (cases h; done) | (cases h; exact⟨fun _=>(by simp),(by simp)⟩)
theorem DP {op:BinOp}{a b:ByteArray}{y:AV}(h:AI op a b=some y)(w:World):∃r,(Op.stringOp op a b).run P w = .ok r w∧∀(c:Cx) (L:Nat→Prop),VR c L y r:=by
 have hl:∀z:ByteArray,z.toList=z.data.toList:=fun z=>ByteArray.toList_eq z
 unfold AI at h
 unfold Op.stringOp
 simp only [hl]
 cases op<;>simp only at h<;>try (cases h; done)
 ·split at h
  rotate_left
  ·cases h
  rename_i hsz
  cases h
  refine⟨.string (a++b),?_,fun c L=>by simp only [VR]⟩
  have h1:¬(((a.size+b.size:Nat):Int) > IntKind.i64.max):=by
   have:IntKind.i64.max=9223372036854775807:=by decide
   rw [this]; omega
  simp only [h1,if_false]
  rfl
 all_goals (cases h; exact⟨_,rfl,fun c L=>by simp only [VR]⟩)
theorem nf {op:BinOp}{qa:Bool}(h:AJ op=some qa):(op = .eql∧qa=true)∨(op = .neq∧qa=false):=by
 unfold AJ at h
 split at h<;>cases h
 ·exact .inl ⟨rfl,rfl⟩
 ·exact .inr ⟨rfl,rfl⟩
theorem oc {t:TypeId}(ht:∃q,P.underlying t=some (.pointer q)){a:Addr}{op:BinOp}{qa:Bool}(h:AJ op=some qa)(w:World) :
  (binOp op t (.pointer (some a)) (.pointer none)).run P w = .ok (.bool (!qa)) w∧(binOp op t (.pointer none) (.pointer (some a))).run P w = .ok (.bool (!qa)) w:=by
 obtain⟨q,hq⟩:=ht
 have e1:(Op.equal t (.pointer (some a)) (.pointer none)).run P w = .ok false w:=by
  unfold Op.equal Op.maxDepth
  unfold Op.equalIn
  simp [bz hq]
 have e2:(Op.equal t (.pointer none) (.pointer (some a))).run P w = .ok false w:=by
  unfold Op.equal Op.maxDepth
  unfold Op.equalIn
  simp [bz hq]
 rcases nf h with⟨rfl,rfl⟩| ⟨rfl,rfl⟩
 ·constructor
  ·show ((do pure (.bool (←Op.equal t (.pointer (some a)) (.pointer none)))):Sem Value).run P w=_
   simp [e1]
  ·show ((do pure (.bool (←Op.equal t (.pointer none) (.pointer (some a))))):Sem Value).run P w=_
   simp [e2]
 ·constructor
  ·show ((do pure (.bool (!(←Op.equal t (.pointer (some a)) (.pointer none))))):Sem Value).run P w=_
   simp [e1]
  ·show ((do pure (.bool (!(←Op.equal t (.pointer none) (.pointer (some a)))))):Sem Value).run P w=_
   simp [e2]
theorem oT {t:TypeId}(ht:∃q,P.underlying t=some (.slice q)){ad:Option Addr}(hs:ad.isSome=true){m cap:Nat}{op:BinOp}{qa:Bool}(h:AJ op=some qa)(w:World) :
  (binOp op t (.slice ad m cap) (.slice none 0 0)).run P w = .ok (.bool (!qa)) w:=by
 obtain⟨q,hq⟩:=ht
 obtain⟨a,rfl⟩:=YU.1 hs
 have e1:(Op.equal t (.slice (some a) m cap) (.slice none 0 0)).run P w = .ok false w:=by
  unfold Op.equal Op.maxDepth
  unfold Op.equalIn
  simp [bz hq]
 rcases nf h with⟨rfl,rfl⟩| ⟨rfl,rfl⟩
 ·show ((do pure (.bool (←Op.equal t (.slice (some a) m cap) (.slice none 0 0)))):Sem Value).run P w=_
  simp [e1]
 ·show ((do pure (.bool (!(←Op.equal t (.slice (some a) m cap) (.slice none 0 0))))):Sem Value).run P w=_
  simp [e1]
theorem Fx (hd:gg n ds o){op:BinOp}{t t2:TypeId}{x y:Operand}(ho:o.op = .binOp op t x y t2){z:AV}(h:jC P op t (bS s.ρ x) (bS s.ρ y)=some z):jv P L0 c0 n ds o s (s.set o.dst z):=by
 refine fB hd fun a c Lo lam f hn=>?_
 have hx:=bB f x
 have hy:=bB f y
 have hex:∀v,(eqGuard op t x y (a.eval x) (a.eval y)).run P c.w = .ok () c.w→(binOp op t (a.eval x) (a.eval y)).run P c.w = .ok v c.w→(execOp a.eval o).run P c.w = .ok (.value v) c.w:=by
  intro v h1 h2; simp [execOp,ho,h1,h2]
 unfold jC at h
 split at h
 ·rename_i p q hp hq
  rw [hp] at hx; rw [hq] at hy
  simp only [SR,VR] at hx hy
  obtain⟨r,hr,hv⟩:=DP (P:=P) h c.w
  refine⟨r,hex _ (dK ⟨fun _ _=>.inl (by rw [hx]; simp),by rw [hx]; simp⟩ _) ?_,SR.of (hv _ _)⟩
  rw [hx,hy]
  unfold binOp
  simpa using hr
 ·rename_i p q hp hq
  rw [hp] at hx; rw [hq] at hy
  simp only [SR,VR] at hx hy
  obtain⟨_,ad,sy,_⟩:=hx
  rw [Yk] at h
  obtain⟨qa,rU,h⟩:=h
  split at h
  rotate_left
  ·cases h
  rename_i ht
  cases h
  refine⟨.bool (!qa),hex _ (dK ⟨fun _ _=>.inl (by rw [sy]; simp),by rw [sy]; simp⟩ _) ?_,SR.of (by simp [VR])⟩
  rw [sy,hy]
  exact (oc ⟨_,ht⟩ rU _).1
 ·rename_i p q hp hq
  rw [hp] at hx; rw [hq] at hy
  simp only [SR,VR] at hx hy
  obtain⟨_,ad,PM,_⟩:=hy
  rw [Yk] at h
  obtain⟨qa,rU,h⟩:=h
  split at h
  rotate_left
  ·cases h
  rename_i ht
  cases h
  refine⟨.bool (!qa),hex _ (dK ⟨fun _ _=>.inl (by rw [hx]; simp),by rw [hx]; simp⟩ _) ?_,SR.of (by simp [VR])⟩
  rw [hx,PM]
  exact (oc ⟨_,ht⟩ rU _).2
 ·rename_i p q hp hq
  rw [hp] at hx; rw [hq] at hy
  simp only [SR,VR] at hx hy
  obtain⟨b,off,sy,_⟩:=hx
  rw [Yk] at h
  obtain⟨qa,rU,h⟩:=h
  split at h
  rotate_left
  ·cases h
  rename_i ht
  cases h
  refine⟨.bool (!qa),hex _ (dK ⟨fun _ _=>.inl (by rw [sy]; simp),by rw [sy]; simp⟩ _) ?_,SR.of (by simp [VR])⟩
  rw [sy,hy]
  exact (oc ⟨_,ht⟩ rU _).1
 ·rename_i hp hq
  rw [hp] at hx; rw [hq] at hy
  simp only [SR,VR] at hx hy
  obtain⟨ad,cap,sy,_,_,hs,_⟩:=hx
  replace hs:ad.isSome=true:=hs.elim id fun h=>by cases h.1
  rw [Yk] at h
  obtain⟨qa,rU,h⟩:=h
  split at h
  rotate_left
  ·cases h
  rename_i ht
  cases h
  refine⟨.bool (!qa),hex _ (dK ⟨fun _ _=>.inl (by rw [sy]; simp),by rw [sy]; simp⟩ _) ?_,SR.of (by simp [VR])⟩
  rw [sy,hy]
  exact oT ⟨_,ht⟩ hs rU _
 ·rename_i hp hq
  rw [hp] at hx; rw [hq] at hy
  simp only [SR,VR] at hx hy
  rcases hx with⟨hx,_⟩| ⟨_,_,ad,cap,sy,_,hs,_⟩
  ·omega
  rw [Yk] at h
  obtain⟨qa,rU,h⟩:=h
  split at h
  rotate_left
  ·cases h
  rename_i ht
  cases h
  refine⟨.bool (!qa),hex _ (dK ⟨fun _ _=>.inl (by rw [sy]; simp),by rw [sy]; simp⟩ _) ?_,SR.of (by simp [VR])⟩
  rw [sy,hy]
  exact oT ⟨_,ht⟩ hs rU _
 ·rename_i p q hp hq
  rw [hp,hq] at h
  rw [hp] at hx; rw [hq] at hy
  have IM:=hx.vr (by rintro k off h; cases h)
  have QG:=hy.vr (by rintro k off h; cases h)
  rw [Yk] at h
  obtain⟨qa,rU,h⟩:=h
  split at h
  rotate_left
  ·cases h
  rename_i j7
  simp only [Yo,ZF] at j7
  obtain⟨⟨⟨h1,h2⟩,h3⟩,h4⟩:=j7
  cases h
  have hk:=vJ (P:=P) 9998 h1 h3 IM QG c.w
  simp only [VR] at IM QG
  obtain⟨vx,sy,_⟩:=IM
  obtain⟨vy,PM,_⟩:=QG
  refine⟨.bool (gd (.agg p) (.agg q)==qa),hex _ ?_ ?_,SR.of (by simp only [VR])⟩
  ·rw [sy,PM]
   rcases nf rU with⟨rfl,rfl⟩| ⟨rfl,rfl⟩<;>simp [eqGuard,h4,program,Sem.run]
  ·rw [sy,PM] at hk ⊢
   rcases nf rU with⟨rfl,rfl⟩| ⟨rfl,rfl⟩
   ·show ((do pure (.bool (←Op.equal t (.agg vx) (.agg vy)))):Sem Value).run P c.w=_
    have Nz:(Op.equal t (.agg vx) (.agg vy)).run P c.w=_:=hk
    simp [Nz]
   ·show ((do pure (.bool (!(←Op.equal t (.agg vx) (.agg vy))))):Sem Value).run P c.w=_
    have Nz:(Op.equal t (.agg vx) (.agg vy)).run P c.w=_:=hk
    simp [Nz]
 ·rw [Yk] at h
  obtain⟨u,hu,h⟩:=h
  rw [Yk] at h
  obtain⟨v,hv,h⟩:=h
  rw [Yk] at h
  obtain⟨r,hr,h⟩:=h
  have h1:=kQ hu (hx.vr (kR hu))
  have h2:=kQ hv (hy.vr (kR hv))
  have h3:=A0 hu
  exact⟨r,hex _ (dK ⟨fun p _=>.inl (by rw [h1]; exact h3.1 p),by rw [h1]; exact h3.2⟩ _) (by rw [h1,h2]; exact kn _ hr),SR.of (nc h)⟩
theorem IN (hd:gg n ds o){op:UnOp}{t:TypeId}{x:Operand}(ho:o.op = .unOp op t x){z:AV}(h:((bS s.ρ x).fA.bind fun a=>(iK P (Op.unary op a)).bind oI)=some z):jv P L0 c0 n ds o s (s.set o.dst z):=by
 refine fB hd fun a c Lo lam f hn=>?_
 rw [Yk] at h
 obtain⟨u,hu,h⟩:=h
 rw [Yk] at h
 obtain⟨r,hr,h⟩:=h
 have h1:=kQ hu ((bB f x).vr (kR hu))
 refine⟨r,?_,SR.of (nc h)⟩
 have:=kn (P:=P) c.w hr
 rw [←h1] at this
 simp [execOp,ho,this]
theorem Cf (hd:gg n ds o){x:Operand}(ho:o.op = .move x∨o.op = .assign x):jv P L0 c0 n ds o s (s.set o.dst (bS s.ρ x)):=
 fB hd fun a c Lo lam f hn=>⟨a.eval x,by rcases ho with ho | ho<;>simp [execOp,ho],bB f x⟩
theorem IP (hd:gg n ds o){k x y:Operand}(ho:o.op = .pick k x y){t:Bool}(h:sU (bS s.ρ k)=some t):jv P L0 c0 n ds o s (s.set o.dst (if t then bS s.ρ x else bS s.ρ y)):=by
 refine fB hd fun a c Lo lam f hn=>?_
 have hk:=bB f k
 unfold sU at h
 split at h
 ·rename_i b hb
  cases h
  rw [hb] at hk
  simp only [SR,VR] at hk
  refine⟨if t then a.eval x else a.eval y,by simp [execOp,ho,hk,asBool],?_⟩
  cases t
  ·exact bB f y
  ·exact bB f x
 ·cases h
theorem yS (hd:gg n ds o){x:Operand}(ho:o.op = .nilCheck x){z:AV}(h:qg (bS s.ρ x)=some z):jv P L0 c0 n ds o s (s.set o.dst z):=by
 refine fB hd fun a c Lo lam f hn=>?_
 have hx:=bB f x
 have hp:(∃ad,a.eval x = .pointer (some ad))∧z=bS s.ρ x:=by
  unfold qg at h
  split at h
  ·rename_i id off heq
   cases h
   rw [heq] at hx
   simp only [SR,VR] at hx
   obtain⟨_,ad,h1,_⟩:=hx
   exact⟨⟨ad,h1⟩,heq.symm⟩
  ·rename_i k off heq
   cases h
   rw [heq] at hx
   simp only [SR] at hx
   exact⟨⟨_,hx.1⟩,heq.symm⟩
  ·rename_i cs off heq
   cases h
   rw [heq] at hx
   simp only [SR,VR] at hx
   obtain⟨b,o',h1,_⟩:=hx
   exact⟨⟨_,h1⟩,heq.symm⟩
  ·cases h
 obtain⟨⟨ad,hp⟩,rfl⟩:=hp
 exact⟨a.eval x,by simp [execOp,ho,hp],hx⟩
theorem ng {c:Cx}{Lo:Nat→Prop}{lam:Nat→Nat}{a:Act}(f:Fr L0 c Lo lam ds s a):∀xs:List Operand,(∀x∈xs,∀k off,bS s.ρ x≠.lp k off)→VRs c (un L0 Lo) (xs.map (bS s.ρ)) (xs.map a.eval)
 | [],_=>trivial
 | x::xs,h=>⟨(bB f x).vr (h x (by simp)),ng f xs fun y hy=>h y (by simp [hy])⟩
theorem DQ {x:AV}(h:x.cK=true):∀k off,x≠.lp k off:=by rintro k off rfl; simp [AV.cK] at h
theorem yT (hd:gg n ds o){A6:FuncId}{first cap:Array Operand}(ho:o.op = .makeFunc (.func A6) first cap)(hf:first.isEmpty=true)(hc:(cap.toList.map (bS s.ρ)).all AV.cK=true):jv P L0 c0 n ds o s (s.set o.dst (.fn A6 (cap.toList.map (bS s.ρ)))):=by
 refine fB hd fun a c Lo lam f hn=>?_
 have NR:first = #[]:=by simpa using hf
 subst NR
 refine⟨.func (.func A6) #[] (cap.map a.eval),by simp [execOp,ho,Instr.makeFunc],SR.of ?_⟩
 simp only [VR]
 refine⟨_,rfl,?_⟩
 rw [Array.toList_map]
 refine ng f _ fun x hx=>DQ ?_
 rw [YK] at hc
 exact hc _ (YH.2 ⟨x,hx,rfl⟩)
theorem A7 (hd:gg n ds o){x:Operand}{i:Nat}(ho:o.op = .extract x i){z:AV}(h:sV (bS s.ρ x) i=some z):jv P L0 c0 n ds o s (s.set o.dst z):=by
 refine fB hd fun a c Lo lam f hn=>?_
 have hx:=bB f x
 cases heq:bS s.ρ x<;>rw [heq] at h hx<;>simp only [sV] at h<;>try (cases h; done)
 rename_i vs
 simp only [SR,VR] at hx
 obtain⟨us,sy,EZ⟩:=hx
 obtain⟨v,hv,hr⟩:=EZ.get i z h
 have QH:us[i]? = some v:=by simpa using hv
 exact⟨v,by simp [execOp,ho,sy,Instr.extract,QH],SR.of hr⟩
theorem rv {op:Value→Value→Sem Value}:∀(vs:List Value) (v r:Value) (w:World),lF P op v vs=some r→(vs.foldlM op v).run P w = .ok r w
 | [],v,r,w,h=>by simp only [lF,Ym] at h; subst h; rfl
 | x::xs,v,r,w,h=>by
  simp only [lF,Yk] at h
  obtain⟨u,h1,h2⟩:=h
  simp only [List.foldlM_cons,Sem.run_bind,kn w h1,Result.andThen_ok]
  exact rv xs u r w h2
theorem vQ (hd:gg n ds o){b:Builtin}{Cg:Array TypeId}{args:Array Operand}(ho:o.op = .call {callee:=.builtin b,args:=args,argTypes:=Cg}){op:Value→Value→Sem Value}(hb:(b = .min∧op=Builtin.min2)∨(b = .max∧op=Builtin.max2))
  {x:AV} {xs:List AV} (he:args.toList.map (bS s.ρ)=x::xs) {v u:Value} {vs:List Value} (hx:x.fA=some v) (hxs:jg xs=some vs) (hf:lF P op v vs=some u) {z:AV} (hz:oI u=some z):jv P L0 c0 n ds o s (s.set o.dst z):=by
 refine fB hd fun a c Lo lam f hn=>?_
 refine⟨u,?_,SR.of (nc hz)⟩
 have hne:∀q:Operand,∀k off,bS s.ρ q = .lp k off→q∉args.toList:=by
  intro q k off hq hm
  have yU:AV.lp k off∈x::xs:=by rw [←he,←hq]; exact YH.2 ⟨q,hm,rfl⟩
  rcases YW.1 yU with h1 | h1
  ·exact kR hx k off h1.symm
  ·have:∀(ys:List AV) (us:List Value),jg ys=some us→AV.lp k off∉ys:=by
    intro ys
    induction ys with
    | nil=>intro us _ h; cases h
    | cons y ys ih=>
     intro us hu hm
     simp only [jg,Yk] at hu
     obtain⟨u1,h2,XZ,h3,_⟩:=hu
     rcases YW.1 hm with h4 | h4
     ·exact kR h2 k off h4.symm
     ·exact ih _ h3 h4
   exact this _ _ hxs h1
 have Cb:=ng f args.toList (fun q hq k off h=>hne q k off h hq)
 rw [he] at Cb
 have kW:args.toList.map a.eval=v::vs:=qo (xs:=x::xs) (us:=v::vs) (by simp [jg,hx,hxs]) Cb
 have hr:=rv vs v u c.w hf
 have hargs:args.map a.eval=(v::vs).toArray:=by rw [←kW]; apply ZV; simp
 rcases hb with⟨rfl,rfl⟩| ⟨rfl,rfl⟩
 ·simp [execOp,ho,resolve,invoke,builtin,Builtin.min_,hargs,hr]
 ·simp [execOp,ho,resolve,invoke,builtin,Builtin.max_,hargs,hr]
end
end Go.R
namespace Go.R
open Go
def CallOK (P:Program)(cf:CallF):Prop:=
 ∀f args h r h',cf f args h=some (r,h')→
  (∀(vs:Array Value) (w:World),(callFunc f vs).run P w = .ok (.enter f vs) w)∧
  ∀(L0:Nat→Prop) (c:Cx) (vs:List Value),c.h=h→c.base≤c.w.heap.size→HRel c L0→VRs c L0 args vs→
   Calls P f vs.toArray c.w fun e w'=>∃c' v,e = .returned v∧c'.w=w'∧c'.h=h'∧VR c' L0 r v∧HRel c' L0∧Ext c none0 c' none0
section
variable {P:Program}{L0:Nat→Prop}{c0:Cx}{n:Nat}{ds:List Nat}{o:Oper}{s:RS}
theorem Fr.call {c c':Cx}{Lo:Nat→Prop}{lam:Nat→Nat}{a:Act}(f:Fr L0 c Lo lam ds s a)(hr:HRel c' (un L0 Lo))(e:Ext c none0 c' none0) :
  Ext c Lo c' Lo∧Fr L0 c' Lo lam ds {s with h:=c'.h} a:=by
 have Av:∀b,Lo b→b<c.w.heap.size:=fun b hb=>f.rel.bd b (.inr hb)
 have e':Ext c Lo c' Lo:=
  ⟨e.next,e.live,e.size,fun b h1 _ h3=>e.gz b h1 (fun h=>h.elim) h3,e.exact,e.base,e.JX,fun _ h=>h,fun _ h=>.inl h,e.os,e.tape,e.output⟩
 refine⟨e',rfl,hr,fun t=>(f.slot t).ext e' (fun _ _ _=>⟨rfl,fun h=>h⟩),fun k cs hb=>?_,f.inj,f.tidy,f.defers,fun b hb=>by rw [e.base]; exact f.Fc b hb⟩
 have ob:=f.box k cs hb
 exact ob.ext e' (e.gz _ ob.plain.lt (fun h=>h.elim) fun id hl he=>f.rel.out id hl (he ▸ .inr ob.own))
theorem IQ {cf:CallF}(hcf:CallOK P cf)(hb0:c0.base≤c0.w.heap.size)(hd:gg n ds o){fx:Operand}{args:Array Operand}{Cg:Array TypeId}(ho:o.op = .call {callee:=.value fx,args:=args,argTypes:=Cg}){A6:FuncId}{cap:List AV}
  (hf:bS s.ρ fx = .fn A6 cap) (ha:(args.toList.map (bS s.ρ)).all AV.lW=true) {r:AV} {h':AHeap} (h:cf A6 (args.toList.map (bS s.ρ)++cap) s.h=some (r,h')) :
  jv P L0 c0 n ds o s ({s with h:=h'}.set o.dst r):=by
 rintro a w K Q ⟨hn,c,Lo,lam,rfl,f,e0⟩ hK
 obtain⟨hin,hcall⟩:=hcf _ _ _ _ _ h
 have QI:=bB f fx
 rw [hf] at QI
 simp only [SR,VR] at QI
 obtain⟨cv,V0,NC⟩:=QI
 have hargs:VRs c (un L0 Lo) (args.toList.map (bS s.ρ)) (args.toList.map a.eval):=by
  refine ng f _ fun x hx=>ti ?_
  rw [YK] at ha
  exact ha _ (YH.2 ⟨x,hx,rfl⟩)
 have kW:=VRs.append hargs NC
 unfold Oper.wp
 have:(execOp a.eval o).run P c.w = .ok (.enter A6 (args.map a.eval++cv)) c.w:=by
  simp [execOp,ho,resolve,V0,Deferred.ofValue,invoke,hin]
 rw [this,Oper.upon_enter]
 have hc:=hcall (un L0 Lo) c _ f.h (jL e0 hb0) f.rel kW
 have he:(args.toList.map a.eval++cv.toList).toArray=args.map a.eval++cv:=by
  apply ZV; simp
 rw [he] at hc
 refine Calls.mono hc ?_
 rintro e w' ⟨c',v,rfl,rfl,hh,hv,hrel,KU⟩
 obtain⟨e',f'⟩:=f.call hrel KU
 rw [hh] at f'
 exact hK _ _ ⟨(gG _ _ _).trans hn,c',Lo,lam,rfl,f'.set (SR.of hv) (fun t ht=>by rw [hn]; exact hd t ht),e0.trans e'⟩
theorem Option.map_some' {α β:Type}{x:Option α}{g:α→β}{y:β}(h:x.map g=some y):∃z,x=some z∧g z=y:=Yl.1 h
theorem vR {aF:List Nat}{cs:List AV}{s':RS}(h:iw s aF ds o cs=some s'):cs.all AV.cK=true:=by
 unfold iw at h
 split at h
 ·assumption
 ·cases h
theorem KV {cf:CallF}(hcf:CallOK P cf)(hb0:c0.base≤c0.w.heap.size)(hd:gg n ds o){aF:List Nat}{s':RS}(h:wS P cf aF ds s o=some s'):jv P L0 c0 n ds o s s':=by
 have dF:∀{x:Option AV},(x.map fun x=>s.set o.dst x)=some s'→(∀z,x=some z→jv P L0 c0 n ds o s (s.set o.dst z))→jv P L0 c0 n ds o s s':=by
  intro x hx hz
  obtain⟨z,rfl,rfl⟩:=Option.map_some' hx
  exact hz z rfl
 unfold wS AK at h
 dsimp only at h
 split at h
 ·rename_i x ho; cases h; exact Cf hd (.inl ho)
 ·rename_i x ho; cases h; exact Cf hd (.inr ho)
 ·rename_i k x y ho
  obtain⟨t,ht,rfl⟩:=Option.map_some' h
  exact IP hd ho ht
 ·
  rename_i t ho
  rw [Yk] at h
  obtain⟨z,hz,h⟩:=h
  refine vM hb0 hd t h fun a c Lo lam f hn=>?_
  have oN:=vR h
  obtain⟨v,h1,h2,h3⟩:=DK (P:=P) (c:=c) hz (II oN) (un L0 Lo)
  exact⟨v,by simp [execOp,ho,h1],IG h2,h3⟩
 ·
  rename_i t x ho
  refine vM hb0 hd t h fun a c Lo lam f hn=>?_
  have oN:(bS s.ρ x).cells.all AV.cK=true:=vR h
  obtain⟨h1,h2⟩:=jw oN ((bB f x).sw oN)
  exact⟨a.eval x,by simp [execOp,ho,Instr.box,newVar,newRow],h1,h2⟩
 ·rename_i t ps ho
  refine dF h fun z hz=>fB hd fun a c Lo lam f hn=>?_
  obtain⟨v,hr,hv⟩:=run_build (P:=P) (oQ f ps.toList) hz
  refine⟨v,?_,SR.of hv⟩
  have he:ps.map (fun (i,x)=>(i,a.eval x))=(ps.toList.map fun (i,x)=>(i,a.eval x)).toArray:=by
   apply ZV; simp
  simp only [execOp,ho,Sem.run_bind]
  rw [he,hr]
  rfl
 ·rename_i t k ps ho
  rw [Yl] at h
  obtain⟨z,hz,rfl⟩:=h
  exact tc hb0 hd ho aF hz
 ·
  rename_i t x ho
  refine dF h fun z hz=>fB hd fun a c Lo lam f hn=>?_
  obtain⟨r,hr,hv⟩:=sZ (P:=P) f (t:=t) (bB f x) hz
  exact⟨r,by simp [execOp,ho,hr],SR.of hv⟩
 ·
  rename_i t x y ho
  split at h
  ·cases h
  rename_i rS
  exact Fo hb0 hd ho (by simpa using rS) h
 ·rename_i ho; exact dF h fun z hz=>yS hd ho hz
 ·rename_i ho; exact dF h fun z hz=>Fx hd ho hz
 ·rename_i ho; exact dF h fun z hz=>IN hd ho hz
 ·rename_i ho; exact dF h fun z hz=>AZ hb0 hd ho hz
 ·rename_i A6 first cap ho
  split at h
  ·rename_i hh
   refine dF h fun z hz=>?_
   cases hz
   exact yT hd ho hh.1 hh.2
  ·cases h
 ·rename_i ho; cases h; exact AS hb0 hd ho
 ·rename_i ho; exact w5 hb0 hd ho h
 ·
  rename_i t x lo hi mx ho
  refine dF h fun z hz=>fB hd fun a c Lo lam f hn=>?_
  have hs:∀(q:Option Operand) (y:AV),q.map (bS s.ρ)=some y→∃v,q.map a.eval=some v∧SR c L0 Lo lam s.bx y v:=by
   intro q y hq
   obtain⟨u,rfl,rfl⟩:=Option.map_some' hq
   exact⟨_,rfl,bB f u⟩
  have MY:∀(q:Option Operand),q.map (bS s.ρ)=none→q.map a.eval=none:=by
   intro q hq
   simpa using hq
  obtain⟨r,hr,hv⟩:=AP (P:=P) (bB f x) (hs lo) (MY lo) (hs hi) (MY hi) (hs mx) (MY mx) hz
  exact⟨r,by simp [execOp,ho,hr],SR.of hv⟩
 ·rename_i t x i ho
  refine dF h fun z hz=>fB hd fun a c Lo lam f hn=>?_
  obtain⟨r,hr,hv⟩:=yG (P:=P) (bB f x) hz
  exact⟨r,by simp [execOp,ho,hr],hv⟩
 ·rename_i t x i ho
  refine dF h fun z hz=>fB hd fun a c Lo lam f hn=>?_
  obtain⟨r,hr,hv⟩:=AN (P:=P) (bB f x) hz
  exact⟨r,by simp [execOp,ho,hr],SR.of hv⟩
 ·rename_i t x i ho
  refine dF h fun z hz=>fB hd fun a c Lo lam f hn=>?_
  obtain⟨r,hr,hv⟩:=yF (P:=P) (bB f x) (bB f i) hz
  exact⟨r,by simp [execOp,ho,hr],hv⟩
 ·rename_i t x i ho
  refine dF h fun z hz=>fB hd fun a c Lo lam f hn=>?_
  obtain⟨r,hr,hv⟩:=AO (P:=P) (bB f x) (bB f i) hz
  exact⟨r,by simp [execOp,ho,hr],SR.of hv⟩
 ·rename_i t m k ok ho
  refine dF h fun z hz=>fB hd fun a c Lo lam f hn=>?_
  obtain⟨r,hr,hv⟩:=yL (P:=P) f (bB f m) (bB f k) hz
  exact⟨r,by simp [execOp,ho,hr],SR.of hv⟩
 ·rename_i t m k x ho
  split at h
  ·cases h
  rename_i rS
  obtain⟨h',hh,rfl⟩:=Option.map_some' h
  exact oS hb0 (.inl ho) (by simpa using rS) hh
 ·rename_i t m k x ho
  split at h
  ·cases h
  rename_i rS
  obtain⟨h',hh,rfl⟩:=Option.map_some' h
  exact oS hb0 (.inr ho) (by simpa using rS) hh
 ·rename_i ho; exact dF h fun z hz=>A7 hd ho hz
 ·
  rename_i b args Cg ho
  unfold gE at h
  split at h
  ·rename_i t x hts hargs
   have A8:Cg = #[t]:=by apply ZV; simpa using hts
   obtain⟨q,hq,rfl⟩:∃q,args = #[q]∧bS s.ρ q=x:=by
    cases args with | mk l=>
    rcases l with _ | ⟨q,_ | ⟨q2,l⟩⟩<;>simp at hargs
    exact⟨q,rfl,hargs⟩
   subst A8 hq
   refine dF h fun z hz=>fB hd fun a c Lo lam f hn=>?_
   obtain⟨r,hr,hv⟩:=Fj (P:=P) f #[t] rfl (bB f q) hz o.type
   exact⟨r,by simp [execOp,ho,resolve,invoke,builtin,hr],SR.of hv⟩
  ·rename_i t t2 x y hts hargs
   have A8:Cg = #[t,t2]:=by apply ZV; simpa using hts
   obtain⟨q,q2,hq,rfl,rfl⟩:∃q q2,args = #[q,q2]∧bS s.ρ q=x∧bS s.ρ q2=y:=by
    cases args with | mk l=>
    rcases l with _ | ⟨q,_ | ⟨q2,_ | ⟨q3,l⟩⟩⟩<;>simp at hargs
    exact⟨q,q2,rfl,hargs.1,hargs.2⟩
   subst A8 hq
   exact DN hb0 hd ho h
  ·rename_i t t2 x y hts hargs
   have A8:Cg = #[t,t2]:=by apply ZV; simpa using hts
   obtain⟨q,q2,hq,rfl,rfl⟩:∃q q2,args = #[q,q2]∧bS s.ρ q=x∧bS s.ρ q2=y:=by
    cases args with | mk l=>
    rcases l with _ | ⟨q,_ | ⟨q2,_ | ⟨q3,l⟩⟩⟩<;>simp at hargs
    exact⟨q,q2,rfl,hargs.1,hargs.2⟩
   subst A8 hq
   obtain⟨⟨z,h'⟩,hh,rfl⟩:=Option.map_some' h
   exact IL hb0 hd ho hh
  ·rename_i t x hts hargs
   have A8:Cg = #[t]:=by apply ZV; simpa using hts
   obtain⟨q,hq,rfl⟩:∃q,args = #[q]∧bS s.ρ q=x:=by
    cases args with | mk l=>
    rcases l with _ | ⟨q,_ | ⟨q2,l⟩⟩<;>simp at hargs
    exact⟨q,rfl,hargs⟩
   subst A8 hq
   obtain⟨h',hh,rfl⟩:=Option.map_some' h
   exact Fw hb0 hd ho hh
  ·rename_i x xs hargs
   rw [Yk] at h
   obtain⟨v,hv,h⟩:=h
   rw [Yk] at h
   obtain⟨vs,EZ,h⟩:=h
   rw [Yk] at h
   obtain⟨u,hu,h⟩:=h
   exact dF h fun z hz=>vQ hd ho (.inl ⟨rfl,rfl⟩) hargs hv EZ hu hz
  ·rename_i x xs hargs
   rw [Yk] at h
   obtain⟨v,hv,h⟩:=h
   rw [Yk] at h
   obtain⟨vs,EZ,h⟩:=h
   rw [Yk] at h
   obtain⟨u,hu,h⟩:=h
   exact dF h fun z hz=>vQ hd ho (.inr ⟨rfl,rfl⟩) hargs hv EZ hu hz
  ·cases h
 ·
  rename_i fx args Cg ho
  split at h
  ·rename_i A6 cap heq
   split at h
   ·rename_i ha
    obtain⟨⟨r,h'⟩,hh,rfl⟩:=Option.map_some' h
    exact IQ hcf hb0 hd ho heq ha hh
   ·cases h
  ·cases h
 ·cases h
end
end Go.R
namespace Go.R
open Go
section
variable {P:Program}{L0:Nat→Prop}{c0:Cx}{n:Nat}{ds:List Nat}{s:RS}
theorem Fr.Fy {c:Cx}{Lo:Nat→Prop}{lam:Nat→Nat}{a:Act}(f:Fr L0 c Lo lam ds s a)(id:Nat) :
  Ext c Lo ⟨c.β,c.h.kill id,c.w,c.base⟩ Lo∧Fr L0 ⟨c.β,c.h.kill id,c.w,c.base⟩ Lo lam ds {s with h:=s.h.kill id} a∧(Live c.h id→RO ⟨c.β,c.h.kill id,c.w,c.base⟩ (un L0 Lo) (c.β id).1):=by
 have hg:∀i,(c.h.kill id).get i=if i=id then none else c.h.get i:=fun i=>by
  simp only [AHeap.kill,beq_nat]
  by_cases h:i=id<;>simp [h]
 have nE:∀i,Live (c.h.kill id) i→i≠id∧Live c.h i:=fun i hl=>by
  have h2:=hl.2
  rw [hg] at h2
  by_cases h:i=id
  ·rw [if_pos h] at h2; cases h2
  ·rw [if_neg h] at h2
   obtain⟨o,ho⟩:=YU.1 h2
   exact⟨h,f.rel.lt _ _ ho,h2⟩
 have e:Ext c Lo ⟨c.β,c.h.kill id,c.w,c.base⟩ Lo:=
  ⟨Zr _,fun i hi hl=>⟨(nE i hl).2,rfl,rfl⟩,Yn _,fun _ _ _ _=>.inl rfl,fun _ _=>rfl,rfl,fun i hl=>.inr ⟨i,(nE i hl).2,rfl⟩,fun _ h=>h,fun _ h=>.inl h,rfl,rfl,rfl⟩
 refine⟨e,⟨by rw [←f.h],⟨fun i o ho=>?_,fun i o ho=>?_,fun i j hi hj he=>?_,fun i hi=>?_,f.rel.bd,fun i hi=>?_,(Steady.kill c.h id).wf f.rel.ver⟩,fun t=>?_,fun k cs hb=>?_,f.inj,f.tidy,f.defers,f.Fc⟩,fun hl=>⟨fun i hi he=>?_,f.rel.out id hl⟩⟩
 ·replace ho:(c.h.kill id).get i=some o:=ho
  rw [hg] at ho
  by_cases h:i=id
  ·rw [if_pos h] at ho; cases ho
  ·rw [if_neg h] at ho; exact ZG (f.rel.lt _ _ ho)
 ·replace ho:(c.h.kill id).get i=some o:=ho
  rw [hg] at ho
  by_cases h:i=id
  ·rw [if_pos h] at ho; cases ho
  ·rw [if_neg h] at ho
   exact (f.rel.obj i o ho).ext e rfl
 ·exact f.rel.inj i j (nE i hi).2 (nE j hj).2 he
 ·exact f.rel.out i (nE i hi).2
 ·exact f.rel.low i (nE i hi).2
 ·exact (f.slot t).ext e (fun _ _ _=>⟨rfl,fun h=>h⟩)
 ·have hb2:=f.box k cs hb
  exact hb2.ext e (.inl rfl)
 ·obtain⟨h1,h2⟩:=nE i hi
  exact h1 (f.rel.inj i id h2 hl he)
theorem IS {c:Cx}{Lo:Nat→Prop}{lam:Nat→Nat}{a:Act}(f:Fr L0 c Lo lam ds s a){x y:AV}{h':AHeap}(h:DD s.h x=some (y,h')) :
  Ext c Lo ⟨c.β,h',c.w,c.base⟩ Lo∧Fr L0 ⟨c.β,h',c.w,c.base⟩ Lo lam ds {s with h:=h'} a∧(∀v,VR c (un L0 Lo) x v→VR ⟨c.β,h',c.w,c.base⟩ (un L0 Lo) y v)∧∀i,Live h' i→Live c.h i:=by
 have same:Ext c Lo ⟨c.β,s.h,c.w,c.base⟩ Lo∧Fr L0 ⟨c.β,s.h,c.w,c.base⟩ Lo lam ds {s with h:=s.h} a∧(⟨c.β,s.h,c.w,c.base⟩:Cx)=c:=by
  have e:(⟨c.β,s.h,c.w,c.base⟩:Cx)=c:=by rw [←f.h]
  rw [e]; exact⟨Ext.refl _ _,f,rfl⟩
 unfold DD at h
 split at h
 ·simp only [Ym,Yr] at h
  obtain⟨rfl,rfl⟩:=h
  obtain⟨h1,h2,h3⟩:=same
  exact⟨h1,h2,fun v hv=>by rw [h3]; exact hv,fun i hi=>by rw [f.h]; exact hi⟩
 cases x with
 | rs id off len jc=>
  simp only at h
  split at h
  ·rename_i hid
   split at h
   rotate_left
   ·cases h
   rename_i hl0
   simp only [Ym,Yr] at h
   obtain⟨rfl,rfl⟩:=h
   obtain⟨h1,h2,h3⟩:=same
   refine⟨h1,h2,fun v hv=>?_,fun i hi=>by rw [f.h]; exact hi⟩
   simp only [VR] at hv ⊢
   rcases hv with⟨_,_,_,a,rfl⟩| hv
   ·exact⟨a,0,rfl,Yn _,fun _=>rfl,.inr ⟨trivial,rfl⟩,.inl trivial⟩
   ·exact absurd hid hv.1
  rename_i kS
  rw [Yk] at h
  obtain⟨ob,ho,h⟩:=h
  cases ob with
  | map es=>cases h
  | row t cs=>cases h
  | cells cs=>
  simp only at h
  split at h
  rotate_left
  ·cases h
  rename_i hle
  simp only [Ym,Yr] at h
  obtain⟨rfl,rfl⟩:=h
  rw [←f.h] at ho
  have hl:Live c.h id:=⟨f.rel.lt _ _ ho,by simp [ho]⟩
  obtain⟨e,f',JZ⟩:=f.Fy id
  have hb:(⟨c.β,s.h.kill id,c.w,c.base⟩:Cx)=⟨c.β,c.h.kill id,c.w,c.base⟩:=by rw [f.h]
  rw [hb]
  refine⟨e,f',fun v hv=>?_,fun i hi=>?_⟩
  ·simp only [VR] at hv ⊢
   rcases hv with hv | ⟨_,_,a,cap,rfl,h1,h2,h3⟩
   ·exact absurd hv.1 kS
   obtain⟨m,_,_,hc⟩:=f.rel.obj _ _ ho
   refine⟨a,cap,rfl,h1,by simp,.inl h2,?_⟩
   rcases h3 hl with⟨h4,_⟩| h4
   ·exact .inr ⟨_,_,h4,JZ hl,by simp,Cells.move e _ _ _ _ _ (fun i hi=>rfl) ((hc.drop off).take (len*jc))⟩
   ·left
    have hz:len=0:=by omega
    subst hz
    simp
  ·have Aw:=hi.2
   simp only [AHeap.kill,beq_nat] at Aw
   by_cases h:i=id
   ·simp [h] at Aw
   ·simp only [h,decide_false,cond_false] at Aw
    rw [f.h]
    obtain⟨o,MZ⟩:=YU.1 Aw
    have:=f.rel.lt i o (by rw [f.h]; exact MZ)
    rw [f.h] at this
    exact⟨this,Aw⟩
 | _=>cases h
theorem Ch:∀{cs:List AV} {c:Cx} {Lo:Nat→Prop} {lam:Nat→Nat} {a:Act} {s:RS} {ys:List AV} {h':AHeap},Fr L0 c Lo lam ds s a→wV s.h cs=some (ys,h')→
  Ext c Lo ⟨c.β,h',c.w,c.base⟩ Lo∧Fr L0 ⟨c.β,h',c.w,c.base⟩ Lo lam ds {s with h:=h'} a∧(∀b o,Cells c (un L0 Lo) cs b o→Cells ⟨c.β,h',c.w,c.base⟩ (un L0 Lo) ys b o)∧∀i,Live h' i→Live c.h i
 | [],c,Lo,lam,a,s,ys,h',f,h=>by
  cases h
  have e:(⟨c.β,s.h,c.w,c.base⟩:Cx)=c:=by rw [←f.h]
  rw [e]
  exact⟨Ext.refl _ _,f,fun _ _ h=>h,fun i hi=>by rw [f.h]; exact hi⟩
 | x::cs,c,Lo,lam,a,s,ys,h',f,h=>by
  simp only [wV,Yk,Yl] at h
  obtain⟨⟨y,h1⟩,hx,⟨zs,h2⟩,hz,he⟩:=h
  simp only [Yr] at he
  obtain⟨rfl,rfl⟩:=he
  obtain⟨e1,f1,v1,l1⟩:=IS f hx
  obtain⟨e2,f2,v2,l2⟩:=Ch f1 hz
  refine⟨e1.trans e2,f2,fun b o hc=>?_,fun i hi=>l1 i (l2 i hi)⟩
  obtain⟨⟨v,q1,q2,q3⟩,hc⟩:=hc
  exact⟨⟨v,q1,q2,VR.ext e2 _ _ (v1 v q3)⟩,v2 _ _ (Cells.move e1 _ _ _ _ _ (fun i hi=>rfl) hc)⟩
theorem vS {h:AHeap}:∀{cs:List AV},cL cs=true→wV h cs=some (cs,h)
 | [],_=>rfl
 | x::cs,hn=>by
  simp only [cL,Yo] at hn
  simp only [wV,DD,hn.1,if_true,Yj,vS hn.2,Yp]
theorem yV {h h':AHeap}{x y:AV}(hz:DD h x=some (y,h')):Steady h h':=by
 unfold DD at hz
 split at hz
 ·cases hz; exact Steady.refl _
 split at hz
 ·split at hz
  ·split at hz
   ·cases hz; exact Steady.refl _
   ·cases hz
  rw [Yk] at hz
  obtain⟨o,_,hz⟩:=hz
  split at hz
  ·split at hz
   ·cases hz; exact Steady.kill _ _
   ·cases hz
  ·cases hz
 ·cases hz
theorem ry:∀{cs ys:List AV} {h h':AHeap},wV h cs=some (ys,h')→Steady h h'
 | [],ys,h,h',hz=>by cases hz; exact Steady.refl _
 | x::cs,ys,h,h',hz=>by
  simp only [wV,Yk,Yl] at hz
  obtain⟨⟨y,h1⟩,hx,⟨zs,h2⟩,hz,he⟩:=hz
  simp only [Yr] at he
  obtain⟨rfl,rfl⟩:=he
  exact (yV hx).trans (ry hz)
theorem Ci {c:Cx}{Lo:Nat→Prop}{lam:Nat→Nat}{a:Act}(f:Fr L0 c Lo lam ds s a){k:Nat}{x y:AV}{h':AHeap}(h:kM k s.h x=some (y,h')) :
  (∀k off,x≠.lp k off)∧(∀k off,y≠.lp k off)∧∃c',c'.w=c.w∧Ext c Lo c' Lo∧Fr L0 c' Lo lam ds {s with h:=h'} a∧∀v,VR c (un L0 Lo) x v→VR c' (un L0 Lo) y v:=by
 cases k with
 | zero=>
  cases x with
  | nils=>
   simp only [kM,Ym,Yr] at h
   obtain⟨rfl,rfl⟩:=h
   refine⟨by simp,by simp,c,rfl,Ext.refl _ _,f,fun v hv=>?_⟩
   simp only [VR] at hv ⊢
   exact⟨none,0,hv,Yn _,fun _=>rfl,.inr ⟨trivial,rfl⟩,.inl trivial⟩
  | fz cs m ex=>
   simp only [kM,Ym,Yr] at h
   obtain⟨rfl,rfl⟩:=h
   refine⟨by simp,by simp,c,rfl,Ext.refl _ _,f,fun v hv=>?_⟩
   simp only [VR] at hv ⊢
   obtain⟨a,cap,rfl,h1,h2,hs,hc⟩:=hv
   exact⟨a,cap,rfl,h1,by simp,hs,hc.imp id fun ⟨b,o,ha,hr,hex,hc⟩=>⟨b,o,ha,hr,by simp,hc⟩⟩
  | rs id off len jc=>
   simp only [kM] at h
   split at h
   ·rename_i hid
    split at h
    rotate_left
    ·cases h
    rename_i hl0
    simp only [Ym,Yr] at h
    obtain⟨rfl,rfl⟩:=h
    refine⟨by simp,by simp,c,rfl,Ext.refl _ _,f,fun v hv=>?_⟩
    simp only [VR] at hv ⊢
    rcases hv with⟨_,_,_,a,rfl⟩| hv
    ·exact⟨a,0,rfl,Yn _,fun _=>rfl,.inr ⟨trivial,rfl⟩,.inl trivial⟩
    ·exact absurd hid hv.1
   rename_i kS
   rw [Yk] at h
   obtain⟨ob,ho,h⟩:=h
   cases ob with
   | map es=>cases h
   | row t cs=>cases h
   | cells cs=>
   simp only at h
   split at h
   rotate_left
   ·cases h
   rename_i hle
   rw [Yl] at h
   obtain⟨⟨fF,h2⟩,hz,he⟩:=h
   simp only [Yr] at he
   obtain⟨rfl,rfl⟩:=he
   rw [←f.h] at ho
   have hl:Live c.h id:=⟨f.rel.lt _ _ ho,by simp [ho]⟩
   obtain⟨e,f',JZ⟩:=f.Fy id
   obtain⟨e2,f2,hcs,nE⟩:=Ch f' hz
   refine⟨by simp,by simp,⟨c.β,h2,c.w,c.base⟩,rfl,e.trans e2,f2,fun v hv=>?_⟩
   simp only [VR] at hv ⊢
   rcases hv with hv | ⟨_,_,a,cap,rfl,h1,h2,h3⟩
   ·exact absurd hv.1 kS
   obtain⟨m,_,_,hc⟩:=f.rel.obj _ _ ho
   refine⟨a,cap,rfl,h1,by simp,.inl h2,?_⟩
   rcases h3 hl with⟨h4,_⟩| h4
   ·exact .inr ⟨_,_,h4,⟨fun i hi=>(JZ hl).1 i (nE i hi),(JZ hl).2⟩,by simp,hcs _ _ (Cells.move e _ _ _ _ _ (fun i hi=>rfl) ((hc.drop off).take (len*jc)))⟩
   ·left
    have hz0:len=0:=by omega
    subst hz0
    simp [wV] at hz
    exact hz.1
  | _=>simp [kM] at h
 | succ k=>
  have key:(x = .nils∨x = .fz [] 0 true)→y = .rs 0 0 0 (k+1)→h'=s.h→(∀k off,x≠.lp k off)∧(∀k off,y≠.lp k off)∧∃c',c'.w=c.w∧Ext c Lo c' Lo∧Fr L0 c' Lo lam ds {s with h:=h'} a∧∀v,VR c (un L0 Lo) x v→VR c' (un L0 Lo) y v:=by
   rintro hx rfl rfl
   refine⟨by rcases hx with rfl | rfl<;>simp,by simp,c,rfl,Ext.refl _ _,f,fun v hv=>?_⟩
   rcases hx with rfl | rfl
   ·simp only [VR] at hv ⊢
    exact .inl ⟨trivial,trivial,trivial,none,hv⟩
   ·simp only [VR] at hv ⊢
    obtain⟨a,cap,rfl,h1,h2,hs,hc⟩:=hv
    have:=h2 trivial
    subst this
    exact .inl ⟨trivial,trivial,trivial,a,rfl⟩
  unfold kM at h
  simp only at h
  split at h
  ·simp only [Ym,Yr] at h
   exact key (.inl rfl) h.1.symm h.2.symm
  ·simp only [Ym,Yr] at h
   exact key (.inr rfl) h.1.symm h.2.symm
  ·simp only [Ym,Yr] at h
   obtain⟨rfl,rfl⟩:=h
   exact⟨by simp,by simp,c,rfl,Ext.refl _ _,f,fun v hv=>hv⟩
  ·cases h
theorem Inv.wW {a:Act}{w:World}{p:Nat × Option Nat × Nat}{s':RS}(hi:Inv L0 c0 n ds s a w)(h:wW s p=some s'):Inv L0 c0 n ds s' a w:=by
 obtain⟨hn,c,Lo,lam,rfl,f,e⟩:=hi
 unfold Go.R.wW at h
 split at h
 ·rw [Yl] at h
  obtain⟨⟨y,h'⟩,hz,rfl⟩:=h
  obtain⟨hx,hy,c',hw,e',f',hv⟩:=Ci f hz
  refine⟨hn,c',Lo,lam,hw,⟨f'.h,f'.rel,fun t=>?_,f'.box,f'.inj,fun t k off ht he=>?_,f'.defers,f'.Fc⟩,e.trans e'⟩
  ·simp only [beq_nat]
   by_cases ht:t=p.1
   ·subst ht
    simp only [decide_true,cond_true]
    exact SR.of (hv _ ((f.slot _).vr hx))
   ·simp only [ht,decide_false,cond_false]
    exact f'.slot t
  ·simp only [beq_nat] at he
   by_cases TY:t=p.1
   ·simp only [TY,decide_true,cond_true] at he
    exact absurd he (hy _ _)
   ·simp only [TY,decide_false,cond_false] at he
    exact f'.tidy t k off ht he
 ·rename_i i hp
  split at h
  rotate_left
  ·cases h
  rename_i cs hcs
  simp only [Yk,Yl] at h
  obtain⟨x,hx,⟨y,h'⟩,hz,rfl⟩:=h
  obtain⟨hx1,hy,c',hw,e',f',hv⟩:=Ci f hz
  have AW:∀k,(bif Y5 k p.1 then some (cs.set i y) else s.bx k).isSome=(s.bx k).isSome:=fun k=>by
   simp only [beq_nat]
   by_cases hk:k=p.1
   ·subst hk; simp [hcs]
   ·simp [hk]
  refine⟨hn,c',Lo,lam,hw,⟨f'.h,f'.rel,fun t=>?_,fun k fF hb=>?_,fun k k' h1 h2=>f'.inj k k' (by rw [←AW]; exact h1) (by rw [←AW]; exact h2),f'.tidy,f'.defers,f'.Fc⟩,e.trans e'⟩
  ·have:=f'.slot t
   unfold SR at this ⊢
   split
   ·rename_i k off he
    rw [he] at this
    simp only at this
    exact⟨this.1,by rw [AW]; exact this.2⟩
   ·rename_i x' IM
    split at this
    ·rename_i he; exact absurd he (IM _ _)
    ·exact this
  ·simp only [beq_nat] at hb
   by_cases hk:k=p.1
   ·subst hk
    simp only [decide_true,cond_true,Ym] at hb
    subst hb
    have ob:=f.box _ cs hcs
    have QJ:=f'.box _ cs hcs
    refine⟨QJ.own,by rw [Yt]; exact QJ.plain,?_⟩
    obtain⟨vs,q1,q2,q3⟩:=ob.cells.vals
    obtain⟨V1,r1,r2,r3⟩:=QJ.cells.vals
    have hlen:vs=V1:=by
     apply Zd
     intro j
     by_cases hj:j<cs.length
     ·rw [←q2 j hj,←r2 j hj,hw]
     ·rw [YC (by rw [←q1.length]; omega),YC (by rw [←r1.length]; omega)]
    subst hlen
    obtain⟨u,hu,hr⟩:=VRs.get q1 i x hx
    have AY:VRs c' (un L0 Lo) (cs.set i y) vs:=by
     have:=VRs.set (hv u hr) i r1
     have JY:vs.set i u=vs:=by
      apply Zd
      intro j
      rw [ZH]
      by_cases hji:i=j
      ·subst hji
       rw [if_pos rfl,hu]
       have:=(Yu.1 hu).1
       simp [this]
      ·rw [if_neg hji]
     rwa [JY] at this
    exact Cells.of_vals AY (fun j hj=>by rw [r2 j (by rw [r1.length]; exact hj)]) r3
   ·simp only [hk,decide_false,cond_false] at hb
    exact f'.box k fF hb
theorem Inv.lH {a:Act}{w:World}:∀{l:List (Nat × Option Nat × Nat)} {s s':RS},Inv L0 c0 n ds s a w→lH s l=some s'→Inv L0 c0 n ds s' a w
 | [],s,s',hi,h=>by cases h; exact hi
 | p::ps,s,s',hi,h=>by
  simp only [Go.R.lH,Yk] at h
  obtain⟨s1,h1,h2⟩:=h
  exact Inv.lH (hi.wW h1) h2
theorem IT {A:cm}{r:Nat}{s:RS}:(s.nD A r).h=s.h:=by
 unfold RS.nD
 split<;>rfl
theorem rz {k:Nat}{h h':AHeap}{x y:AV}(hz:kM k h x=some (y,h')):Steady h h':=by
 unfold kM at hz
 split at hz
 ·split at hz
  ·cases hz; exact Steady.refl _
  ·split at hz
   ·split at hz
    ·cases hz; exact Steady.refl _
    ·cases hz
   rw [Yk] at hz
   obtain⟨o,_,hz⟩:=hz
   split at hz
   ·split at hz
    ·rw [Yl] at hz
     obtain⟨⟨fF,h2⟩,hz,he⟩:=hz
     simp only [Yr] at he
     obtain⟨rfl,rfl⟩:=he
     exact (Steady.kill _ _).trans (ry hz)
    ·cases hz
   ·cases hz
  ·cases hz; exact Steady.refl _
  ·cases hz
 ·split at hz<;>cases hz<;>exact Steady.refl _
theorem yW {s s':RS}{p:Nat × Option Nat × Nat}(hz:wW s p=some s'):Steady s.h s'.h:=by
 unfold wW at hz
 split at hz
 ·rw [Yl] at hz
  obtain⟨⟨y,h'⟩,hz,rfl⟩:=hz
  exact rz hz
 ·split at hz
  ·simp only [Yk,Yl] at hz
   obtain⟨x,hx,⟨y,h'⟩,hz,rfl⟩:=hz
   exact rz hz
  ·cases hz
theorem mE:∀{l:List (Nat × Option Nat × Nat)} {s s':RS},lH s l=some s'→Steady s.h s'.h
 | [],s,s',h=>by cases h; exact Steady.refl _
 | p::ps,s,s',h=>by
  simp only [lH,Yk] at h
  obtain⟨s1,h1,h2⟩:=h
  exact (yW h1).trans (mE h2)
end
end Go.R
namespace Go.R
open Go
section
variable {P:Program}{L0:Nat→Prop}{c0:Cx}{n:Nat}{ds:List Nat}{o:Oper}{s:RS}
theorem DR {ops:Array Oper}{c:Cx}{Lo:Nat→Prop}{lam:Nat→Nat}{a:Act}(f:Fr L0 c Lo lam ds s a){b:Bool}(h:gS ops.toList s.ρ o=some b):Region.wanted o (yielded ops a.tmps)=b:=by
 unfold gS at h
 unfold Region.wanted
 split at h
 ·rename_i hg; rw [hg]; cases h; rfl
 ·rename_i j want hg
  rw [hg]
  rw [Yk] at h
  obtain⟨d,hd,h⟩:=h
  have Io:(ops[j]?).bind (·.dst)=some d:=by simpa using hd
  have hs:=f.slot d
  simp only [yielded,Io,Yj]
  rw [Array.getD_eq_getD_getElem?] at hs
  split at h
  ·rename_i b' hb
   cases h
   rw [hb] at hs
   simp only [SR,VR] at hs
   cases hq:a.tmps[d]? with
   | none=>rw [hq] at hs; simp [undef] at hs
   | some v=>
    rw [hq] at hs
    simp only [Zi] at hs
    subst hs
    cases b'<;>cases want<;>rfl
  ·rename_i hb
   cases h
   rw [hb] at hs
   simp only [SR,VR] at hs
   obtain⟨vs,hv,_⟩:=hs
   cases hq:a.tmps[d]? with
   | none=>rfl
   | some v=>
    rw [hq] at hv
    simp only [Zi] at hv
    subst hv
    rfl
  ·cases h
theorem yX {cf:CallF}(hcf:CallOK P cf)(hb0:c0.base≤c0.w.heap.size){ops:Array Oper}(KW:ds=ops.toList.filterMap (·.dst))(hd:gg n ds o){aF:List Nat}{s':RS}(h:mw P cf aF ops.toList s o=some s')
  {a:Act} {w:World} {K:Act→World→Prop} {Q:Exit→Act→World→Prop} (hi:Inv L0 c0 n ds s a w) (hK:∀a' w',Inv L0 c0 n ds s' a' w'→K a' w') :
  if Region.wanted o (yielded ops a.tmps) then o.wp P a w K Q else K (a.put o.dst undef) w:=by
 unfold mw at h
 rw [Yk] at h
 obtain⟨b,hb,h⟩:=h
 have V2:=hi
 obtain⟨hn,c,Lo,lam,rfl,f,e⟩:=hi
 rw [DR f hb]
 cases b with
 | true=>
  simp only [if_true] at h ⊢
  rw [←KW] at h
  exact KV hcf hb0 hd h a c.w K Q V2 hK
 | false=>
  simp only [YA,if_false,Ym] at h ⊢
  subst h
  exact hK _ _ ⟨(gG _ _ _).trans hn,c,Lo,lam,rfl,f.set (SR.of (by simp [VR,undef,VRs])) (fun t ht=>by rw [hn]; exact hd t ht),e⟩
def vT (n:Nat)(ops:List Oper):Bool:=ops.all fun o=>match o.dst with | some t=>Nat.blt t n | none=>true
theorem yY {ops:List Oper}(h:vT n ops=true){o:Oper}(ho:o∈ops):gg n (ops.filterMap (·.dst)) o:=by
 intro t ht
 unfold vT at h
 rw [YK] at h
 have:=h o ho
 rw [ht] at this
 exact⟨Nat.blt_eq.mp this,List.mem_filterMap.2 ⟨o,ho,ht⟩⟩
theorem Cj {cf:CallF}(hcf:CallOK P cf)(hb0:c0.base≤c0.w.heap.size){ops:Array Oper}(KW:ds=ops.toList.filterMap (·.dst))(yN:vT n ops.toList=true){aF:List Nat}{Q:Exit→Act→World→Prop}{s':RS}(hQ:∀a' w',Inv L0 c0 n ds s' a' w'→Q .normal a' w') :
  ∀(l:List Oper) (s:RS),(∀o∈l,o∈ops.toList)→rP P cf aF ops.toList s l=some s'→∀a w,Inv L0 c0 n ds s a w→wpList P ops Q l a w
 | [],s,_,h,a,w,hi=>by
  simp only [rP,Ym] at h
  subst h
  exact wpList_nil (hQ a w hi)
 | o::l,s,hl,h,a,w,hi=>by
  simp only [rP,Yk] at h
  obtain⟨s1,h1,h2⟩:=h
  refine wpList_step fun K hK=>?_
  exact yX hcf hb0 KW (by rw [KW]; exact yY yN (hl o (by simp))) h1 hi fun a' w' lY=>hK a' w' (Cj hcf hb0 KW yN hQ l s1 (fun o ho=>hl o (by simp [ho])) h2 a' w' lY)
theorem iQ {α:Type}(d:α):∀(ks:List Nat) (g:Nat→α) (t:Nat),look d ks (ks.map g) t=if t∈ks then g t else d
 | [],g,t=>rfl
 | k::ks,g,t=>by
  simp only [YJ,look,beq_nat,iQ d ks g t,YW]
  by_cases h:t=k
  ·subst h; simp
  ·simp [h]
theorem Fr.forget {c:Cx}{Lo:Nat→Prop}{lam:Nat→Nat}{a:Act}(f:Fr L0 c Lo lam ds s a){s2:RS}(hh:s2.h=s.h)(hb:∀k cs,s2.bx k=some cs→s.bx k=some cs)
  (hr:∀t,s2.ρ t = .any∨s2.ρ t=s.ρ t∧∀k off,s.ρ t = .lp k off→k=t∧((s.bx k).isSome=true→(s2.bx k).isSome=true)):Fr L0 c Lo lam [] s2 a:=by
 refine⟨f.h.trans hh.symm,f.rel,fun t=>?_,fun k cs h=>f.box k cs (hb k cs h),fun k k' h h'=>f.inj k k' ?_ ?_,fun t k off _ he=>?_,f.defers,f.Fc⟩
 ·rcases hr t with h | ⟨h,h2⟩
  ·rw [h]; exact SR.of (by simp [VR])
  ·rw [h]
   have hs:=f.slot t
   cases hx:s.ρ t<;>rw [hx] at hs<;>try exact hs
   rename_i k off
   simp only [SR] at hs ⊢
   exact⟨hs.1,(h2 k off hx).2 hs.2⟩
 ·obtain⟨cs,hcs⟩:=YU.1 h; rw [hb k cs hcs]; rfl
 ·obtain⟨cs,hcs⟩:=YU.1 h'; rw [hb k' cs hcs]; rfl
 ·rcases hr t with h | ⟨h,h2⟩
  ·rw [h] at he; cases he
  ·exact (h2 k off (h ▸ he)).1
theorem Inv.shut {a:Act}{w:World}(A:cm)(h:Inv L0 c0 n ds s a w):Inv L0 c0 n [] ((s.shut A).open A) a w:=by
 obtain⟨hn,c,Lo,lam,rfl,f,e⟩:=h
 refine⟨hn,c,Lo,lam,rfl,f.forget rfl (fun k cs hk=>?_) (fun t=>?_),e⟩
 ·simp only [RS.shut,St.open,iQ] at hk
  split at hk
  ·exact hk
  ·cases hk
 ·simp only [RS.shut,St.open,iQ]
  split
  ·unfold yC
   cases hx:s.ρ t<;>simp only<;>try (right; exact⟨trivial,fun k off he=>by cases he⟩)
   rename_i k off
   cases hc:(Y5 k t&&Y5 off 0&&A.aF.contains k) with
   | false=>left; rfl
   | true=>
    right
    simp only [Yo,beq_nat,decide_eq_true_eq,List.contains_iff_mem] at hc
    refine⟨rfl,fun k' V3 he=>?_⟩
    cases he
    refine⟨hc.1.1,fun hs=>?_⟩
    rw [if_pos hc.2]
    exact hs
  ·left; rfl
theorem Inv.nD {a:Act}{w:World}(A:cm)(r:Nat)(h:Inv L0 c0 n ds s a w):Inv L0 c0 n [] ((s.nD A r).open A) a w:=by
 unfold RS.nD
 split
 ·exact h.shut A
 rename_i dl _
 have h2:=h.shut A
 obtain⟨hn,c,Lo,lam,hw,f,e⟩:=h2
 have NB:∀k,(St.open A {vars:=A.gz.map (fun t=>bif (gF r A.dead).contains t then .any else yC A.aF s.ρ t),MU:=A.aF.map (fun k=>bif (gF r A.dead).contains k then none else s.bx k),h:=s.h}).bx k=bif (gF r A.dead).contains k then none else (St.open A (s.shut A)).bx k:=by
  intro k
  simp only [RS.shut,St.open,iQ]
  cases (gF r A.dead).contains k<;>simp
 refine⟨hn,c,Lo,lam,hw,f.forget rfl (fun k cs hk=>?_) (fun t=>?_),e⟩
 ·rw [NB] at hk
  cases hc:(gF r A.dead).contains k with
  | true=>rw [hc] at hk; cases hk
  | false=>rw [hc] at hk; exact hk
 ·have hv:(St.open A {vars:=A.gz.map (fun t=>bif (gF r A.dead).contains t then .any else yC A.aF s.ρ t),MU:=A.aF.map (fun k=>bif (gF r A.dead).contains k then none else s.bx k),h:=s.h}).ρ t=bif (gF r A.dead).contains t then .any else (St.open A (s.shut A)).ρ t:=by
   simp only [RS.shut,St.open,iQ]
   cases (gF r A.dead).contains t<;>simp
  rw [hv]
  cases hc:(gF r A.dead).contains t with
  | true=>left; rfl
  | false=>
   right
   refine⟨rfl,fun k off he=>?_⟩
   have IK:k=t:=f.tidy t k off (by simp) he
   refine⟨IK,fun hs=>?_⟩
   rw [NB,IK,hc]
   rw [IK] at hs
   exact hs
theorem Inv.wide {a:Act}{w:World}(h:Inv L0 c0 n [] s a w)(ds:List Nat):Inv L0 c0 n ds s a w:=by
 obtain⟨hn,c,Lo,lam,rfl,f,e⟩:=h
 exact⟨hn,c,Lo,lam,rfl,⟨f.h,f.rel,f.slot,f.box,f.inj,fun t k off _ he=>f.tidy t k off (by simp) he,f.defers,f.Fc⟩,e⟩
theorem Inv.drew {a:Act}{w:World}(h:Inv L0 c0 n ds s a w):Inv L0 c0 n ds s a {w with drawn:=w.drawn+1}:=by
 obtain⟨hn,c,Lo,lam,rfl,f,e⟩:=h
 obtain⟨e',f'⟩:=f.world (w':={c.w with drawn:=c.w.drawn+1}) (fun b _=>.inl rfl) (fun _ _=>rfl) (fun b _=>rfl) (Yn _) rfl rfl rfl
 exact⟨hn,_,Lo,lam,rfl,f',e.trans e'⟩
def mF (P:Program)(c:Code)(Q:Exit→Act→World→Prop)(a:Act)(w:World):Prop:=
 ∀(b:Frame) (k:List Item) (cs:List Frame),∃e a' w',Q e a' w'∧Arrives P (lone (b.at a (.code c :: .inLoop c::k)) cs w) b k cs e a' w'
theorem mF.step {c:Code}{Q:Exit→Act→World→Prop}{a:Act}{w:World}(h:c.wp P (Exit.then (mF P c Q) Q) a w):mF P c Q a w:=by
 intro b k cs
 obtain⟨e,a₁,w₁,hq,yZ⟩:=h b (.inLoop c::k) cs
 cases e with
 | normal=>
  obtain⟨e₂,a₂,w₂,V4,NS⟩:=hq b k cs
  exact⟨e₂,a₂,w₂,V4,.of_steps (Steps.trans yZ (.one step_inLoop)) NS⟩
 | exit id=>exact⟨_,a₁,w₁,hq,.pass (x:=.inLoop c) rfl (fun _ _=>.inl (by simp)) yZ⟩
 | goto l=>exact⟨_,a₁,w₁,hq,.pass (x:=.inLoop c) rfl (fun _ _=>.inl (by simp)) yZ⟩
 | ret=>exact⟨_,a₁,w₁,hq,.pass (x:=.inLoop c) rfl (fun _ _=>.inl (by simp)) yZ⟩
 | panic ch=>exact⟨_,a₁,w₁,hq,.pass (x:=.inLoop c) rfl (fun _ _=>.inl (by simp)) yZ⟩
 | outgrown=>exact⟨_,a₁,w₁,hq,.pass (x:=.inLoop c) rfl (fun _ _=>.inl (by simp)) yZ⟩
theorem mF.loop {c:Code}{Q:Exit→Act→World→Prop}{a:Act}{w:World}(h:mF P c Q a w):(Code.loop c).wp P Q a w:=by
 intro b k cs
 obtain⟨e,a',w',hq,yZ⟩:=h b k cs
 exact⟨e,a',w',hq,.of_steps (.one step_loop) yZ⟩
def Ex.J4:Ex→Exit
 | .norm=>.normal
 | .exit id=>.exit id
 | .ret=>.ret
def kq (n:Nat):Code→Bool
 | .region _ ops _=>vT n ops.toList
 | .seq a b=>kq n a&&kq n b
 | .cond _ x y=>kq n x&&kq n y
 | .block _ c=>kq n c
 | .loop c=>kq n c
 | _=>true
def Ba (P:Program)(cf:CallF):Prop:=
 ∀(L0:Nat→Prop) (c0:Cx) (n:Nat) (aF:List Nat) (id:Nat) (ops:Array Oper) (s s':RS),lG P cf aF ops s=some s'→c0.base≤c0.w.heap.size→vT n ops.toList=true→
  ∀a w Q,Inv L0 c0 n (ops.toList.filterMap (·.dst)) s a w→(∀a' w',Inv L0 c0 n (ops.toList.filterMap (·.dst)) s' a' w'→Q .normal a' w')→(Code.region id ops true).wp P Q a w
theorem j9 {cf:CallF}(hcf:CallOK P cf)(DS:Ba P cf)(hb0:c0.base≤c0.w.heap.size){A:cm}{m:Nat}:∀(c:Code),kq n c=true→∀(st jN:St) (ex:Ex),bN P cf A m c st=some (ex,jN)→
  ∀a w Q,Inv L0 c0 n [] (st.open A) a w→(∀a' w',Inv L0 c0 n [] (jN.open A) a' w'→Q ex.J4 a' w')→c.wp P Q a w
 | .skip,_,st,jN,ex,h,a,w,Q,hi,hQ=>by
  simp only [bN,Ym,Yr] at h
  obtain⟨rfl,rfl⟩:=h
  exact wp_skip (hQ a w hi)
 | .label _,_,st,jN,ex,h,a,w,Q,hi,hQ=>by
  simp only [bN,Ym,Yr] at h
  obtain⟨rfl,rfl⟩:=h
  exact wp_label (hQ a w hi)
 | .ret,_,st,jN,ex,h,a,w,Q,hi,hQ=>by
  simp only [bN,Ym,Yr] at h
  obtain⟨rfl,rfl⟩:=h
  exact wp_ret (hQ a w hi)
 | .exit id,_,st,jN,ex,h,a,w,Q,hi,hQ=>by
  simp only [bN,Ym,Yr] at h
  obtain⟨rfl,rfl⟩:=h
  exact wp_exit (hQ a w hi)
 | .seq x y,hB,st,jN,ex,h,a,w,Q,hi,hQ=>by
  simp only [kq,Yo] at hB
  simp only [bN,Yk] at h
  obtain⟨⟨J5,vc⟩,h1,h2⟩:=h
  refine wp_seq (j9 hcf DS hb0 x hB.1 st vc J5 h1 a w _ hi fun a' w' lY=>?_)
  cases J5 with
  | norm=>exact j9 hcf DS hb0 y hB.2 vc jN ex h2 a' w' Q lY hQ
  | exit id=>
   simp only [Ym,Yr] at h2
   obtain⟨rfl,rfl⟩:=h2
   exact hQ a' w' lY
  | ret=>
   simp only [Ym,Yr] at h2
   obtain⟨rfl,rfl⟩:=h2
   exact hQ a' w' lY
 | .cond k x y,hB,st,jN,ex,h,a,w,Q,hi,hQ=>by
  simp only [kq,Yo] at hB
  simp only [bN,Yk] at h
  obtain⟨t,ht,h⟩:=h
  have hk:a.eval k = .bool t:=by
   obtain⟨hn,c,Lo,lam,rfl,f,e⟩:=hi
   have hk:=bB f k
   unfold sU at ht
   split at ht
   ·rename_i b hb
    cases ht
    rw [hb] at hk
    simpa [SR,VR] using hk
   ·cases ht
  refine wp_cond hk ?_
  cases t with
  | true=>exact j9 hcf DS hb0 x hB.1 st jN ex (by simpa using h) a w Q hi hQ
  | false=>exact j9 hcf DS hb0 y hB.2 st jN ex (by simpa using h) a w Q hi hQ
 | .block id x,hB,st,jN,ex,h,a,w,Q,hi,hQ=>by
  simp only [kq] at hB
  simp only [bN,Yl] at h
  obtain⟨⟨J5,vc⟩,h1,h2⟩:=h
  refine wp_block (j9 hcf DS hb0 x hB st vc J5 h1 a w _ hi fun a' w' lY=>?_)
  cases J5 with
  | norm=>
   simp only [Yr] at h2
   obtain⟨rfl,rfl⟩:=h2
   exact hQ a' w' lY
  | exit oM=>
   simp only [Yr] at h2
   obtain⟨rfl,rfl⟩:=h2
   have:=hQ a' w' lY
   simp only [Ex.J4,Exit.inBlock]
   split
   ·rename_i he; rw [if_pos he] at this; exact this
   ·rename_i he; rw [if_neg he] at this; exact this
  | ret=>
   simp only [Yr] at h2
   obtain⟨rfl,rfl⟩:=h2
   exact hQ a' w' lY
 | .loop x,hB,st,jN,ex,h,a,w,Q,hi,hQ=>by
  simp only [kq] at hB
  simp only [bN] at h
  have key:∀(j:Nat) (st:St),kN (bN P cf A m x) j st=some (ex,jN)→∀a w,Inv L0 c0 n [] (st.open A) a w→mF P x Q a w:=by
   intro j
   induction j with
   | zero=>intro st h; simp [kN] at h
   | succ j ih=>
    intro st h a w hi
    simp only [kN,Yk] at h
    obtain⟨⟨J5,vc⟩,h1,h2⟩:=h
    refine mF.step (j9 hcf DS hb0 x hB st vc J5 h1 a w _ hi fun a' w' lY=>?_)
    cases J5 with
    | norm=>exact ih vc h2 a' w' lY
    | exit id=>
     simp only [Ym,Yr] at h2
     obtain⟨rfl,rfl⟩:=h2
     exact hQ a' w' lY
    | ret=>
     simp only [Ym,Yr] at h2
     obtain⟨rfl,rfl⟩:=h2
     exact hQ a' w' lY
  exact mF.loop (key m st h a w hi)
 | .region id ops draw,hB,st,jN,ex,h,a,w,Q,hi,hQ=>by
  simp only [kq] at hB
  simp only [bN,Yk,Yl,Yr] at h
  obtain⟨s0,h0,s',h1,s2,h2,rfl,rfl⟩:=h
  replace hi:=hi.lH h0
  cases draw with
  | true=>
   simp only [if_true] at h1
   exact DS L0 c0 n A.aF id ops _ s' h1 hb0 hB a w Q (hi.wide _) fun a' w' lY=>hQ a' w' ((lY.lH h2).nD A id)
  | false=>
   simp only [YA,if_false] at h1
   exact wp_region_list (Cj hcf hb0 rfl hB (fun a' w' lY=>hQ a' w' ((lY.lH h2).nD A id)) ops.toList _ (fun _ h=>h) h1 a w (hi.wide _))
 | .rangeFunc ..,_,st,jN,ex,h,_,_,_,_,_=>by simp [bN] at h
 | .scope ..,_,st,jN,ex,h,_,_,_,_,_=>by simp [bN] at h
 | .goto ..,_,st,jN,ex,h,_,_,_,_,_=>by simp [bN] at h
 | .refuse ..,_,st,jN,ex,h,_,_,_,_,_=>by simp [bN] at h
theorem xc {c:Cx}{Lo:Nat→Prop}{lam:Nat→Nat}{a:Act}(f:Fr L0 c Lo lam ds s a):∀(rs:List ResultVar) (l:List AV),AL P s rs=some l→l.all AV.lW=true→
  ∃vs:List Value,(rs.mapM (m:=Sem) fun | .tmp t=>pure (a.tmps.getD t undef) | .cell x t=>do loadVar t (←asAddr (a.tmps.getD x undef))).run P c.w = .ok vs c.w∧VRs c (un L0 Lo) l vs
 | [],l,h,_=>by
  simp only [AL,Ym] at h
  subst h
  exact⟨[],rfl,trivial⟩
 | .tmp t::rs,l,h,hl=>by
  simp only [AL,Yl] at h
  obtain⟨l',h1,rfl⟩:=h
  simp only [Zg,Yo] at hl
  obtain⟨vs,h2,h3⟩:=xc f rs l' h1 hl.2
  refine⟨a.tmps.getD t undef::vs,?_,(f.slot t).vr (ti hl.1),h3⟩
  simp only [List.mapM_cons,Sem.run_bind,Sem.run_pure,Result.andThen_ok,h2]
 | .cell x t::rs,l,h,hl=>by
  simp only [AL,Yk,Yl] at h
  obtain⟨y,hy,l',h1,rfl⟩:=h
  simp only [Zg,Yo] at hl
  obtain⟨vs,h2,h3⟩:=xc f rs l' h1 hl.2
  have hx:=f.slot x
  obtain⟨u,hr,hu⟩:=sZ (P:=P) f (t:=t) hx hy
  have hp:∃ad,a.tmps.getD x undef = .pointer (some ad):=by
   unfold ju at hy
   cases hq:s.ρ x<;>rw [hq] at hy hx<;>simp only at hy<;>try (cases hy; done)
   ·simp only [SR,VR] at hx; obtain⟨_,ad,h,_⟩:=hx; exact⟨ad,h⟩
   ·simp only [SR] at hx; exact⟨_,hx.1⟩
   ·simp only [SR,VR] at hx; obtain⟨_,_,h,_⟩:=hx; exact⟨_,h⟩
  obtain⟨ad,hp⟩:=hp
  rw [hp] at hr
  have y4:(loadVar t ad).run P c.w = .ok u c.w:=by simpa [Instr.loadAt,Instr.sureAddr] using hr
  refine⟨u::vs,?_,hu,h3⟩
  have ha:(asAddr (a.tmps.getD x undef)).run P c.w = .ok ad c.w:=by rw [hp]; rfl
  simp only [List.mapM_cons,Sem.run_bind,Sem.run_pure,Result.andThen_ok,h2,ha,y4]
theorem kX:un L0 none0=L0:=by funext b; simp [un,none0]
theorem Ext.close {c c':Cx}{jK:Nat→Prop}(e:Ext c none0 c' jK):Ext c none0 c' none0:=
 ⟨e.next,e.live,e.size,e.gz,e.exact,e.base,e.JX,fun _ h=>h,fun _ h=>h.elim,e.os,e.tape,e.output⟩
theorem HRel.kD {c:Cx}{L L':Nat→Prop}(hL:∀b,L' b→L b)(h:HRel c L):HRel c L':=
 ⟨h.lt,fun id o ho=>by
  have:=h.obj id o ho
  cases o with
  | cells cs=>obtain⟨m,h1,h2,h3⟩:=this; exact⟨m,h1,h2,Cells.kD hL _ _ _ h3⟩
  | row t cs=>obtain⟨h0,C,h1,h2,h4,h3⟩:=this; exact⟨h0,C,h1,h2,h4,Cells.kD hL _ _ _ h3⟩
  | map es=>
   obtain⟨kP,clock,h1,h2⟩:=this
   refine⟨kP,clock,h1,?_⟩
   clear h1
   have:∀(es:List (AV × AV)) (ms:List MapEntry),kO c L es ms→kO c L' es ms:=by
    intro es
    induction es with
    | nil=>intro ms h; cases ms with | nil=>trivial | cons m ms=>exact h.elim
    | cons e es ih=>intro ms h; cases ms with
     | nil=>exact h.elim
     | cons m ms=>obtain⟨h1,h2,h3⟩:=h; exact⟨⟨VR.kD hL _ _ h1.1,h1.2⟩,VR.kD hL _ _ h2,ih _ h3⟩
   exact this _ _ h2,h.inj,fun id hl hb=>h.out id hl (hL _ hb),fun b hb=>h.bd b (hL b hb),h.low,h.ver⟩
structure Fit (P:Program):Prop where
 mixed:P.follows .mixedOrders=true
 NT : ∀ (f : FuncId) fn c, P.funcs[f]? = some fn → fn.body = some c → kq fn.ntmps c = true ∧ fn.name ≠ "runtime.NumGoroutine"
def IntrOK (P:Program)(intr:FuncId→Option (List AV→AHeap→Option (AV × AHeap))):Prop:=
 ∀f g,intr f=some g→(CallOK P fun f' args h=>if f'=f then g args h else none)∧∀args h r h',g args h=some (r,h')→Steady h h'
theorem ka {f : FuncId} {fn : Func} {c : Code} (hf : P.funcs[f]? = some fn) (hc : fn.body = some c) (hn : fn.name ≠ "runtime.NumGoroutine") (vs : Array Value) (w : World) : (callFunc f vs).run P w = .ok (.enter f vs) w := by
 have X0 : (fn.name == "runtime.NumGoroutine") = false := by simpa using hn
 simp [callFunc,program,Sem.run,hf,hn,hc]
theorem Fz (hP:Fit P){aU:FuncId→cm}{cf:CallF}(ih:CallOK P cf)(DS:Ba P cf)(m:Nat):CallOK P (be P aU cf m):=by
 intro f args h r h' hc
 unfold be at hc
 rw [Yk] at hc
 obtain⟨fn,hf,hc⟩:=hc
 rw [Yk] at hc
 obtain⟨c,hb,hc⟩:=hc
 obtain⟨hB,NU⟩:=hP.NT f fn c hf hb
 refine⟨ka hf hb NU,fun L0 c0 vs hh hb0 hrel hargs=>?_⟩
 split at hc
 rotate_left
 ·cases hc
 rename_i hlen
 rw [Yk] at hc
 obtain⟨⟨ex,st⟩,hex,hc⟩:=hc
 have hl:=hargs.length
 refine calls_of_wp hf hb ?_
 refine j9 (L0:=L0) (c0:=c0) (n:=fn.ntmps) ih DS hb0 c hB _ _ _ hex _ _ _ ?_ ?_
 ·refine⟨by simp; omega,c0,none0,fun _=>0,rfl,⟨hh,by rw [kX]; exact hrel,fun t=>?_,fun k cs hk=>?_,fun k k' hk=>?_,fun t k off _ he=>?_,rfl,fun b hb=>hb.elim⟩,Ext.refl _ _⟩
  ·simp only [St.open,my,iQ]
   split
   ·by_cases ht:t<args.length
    ·obtain⟨v,hv,hr⟩:=hargs.get t args[t] (by simp [ht])
     have:args.getD t AV.any=args[t]:=by simp [ht]
     rw [this,Array.getD_eq_getD_getElem?,Array.getElem?_append_left (by simp; omega)]
     have QH:vs.toArray[t]? = some v:=by simpa using hv
     rw [QH]
     exact SR.of (by rw [kX]; exact hr)
    ·have:args.getD t AV.any = .any:=by simp [YC (Nat.not_lt.1 ht)]
     rw [this]
     exact SR.of (by simp [VR])
   ·exact SR.of (by simp [VR])
  ·simp only [St.open,iQ] at hk
   split at hk<;>cases hk
  ·simp only [St.open,iQ] at hk
   split at hk<;>cases hk
  ·simp only [St.open,my,iQ] at he
   split at he
   ·by_cases ht:t<args.length
    ·obtain⟨v,hv,hr⟩:=hargs.get t args[t] (by simp [ht])
     have h1:args.getD t AV.any=args[t]:=by simp [ht]
     rw [h1] at he
     rw [he] at hr
     exact hr.elim
    ·have:args.getD t AV.any = .any:=by simp [YC (Nat.not_lt.1 ht)]
     rw [this] at he
     cases he
   ·cases he
 ·intro a' w' lY
  have hfin:(aH P (st.open (aU f)) fn.results.toList).map (fun r=>(r,st.h))=some (r,h')→a'.defers=[]∧∃v,(results fn a'.tmps).run P w' = .ok v w'∧(∃c' v',Ending.returned v = .returned v'∧c'.w=w'∧c'.h=h'∧VR c' L0 r v'∧HRel c' L0∧Ext c0 none0 c' none0):=by
   intro hc
   rw [Yl] at hc
   obtain⟨r',y4,he⟩:=hc
   cases he
   obtain⟨hn,c',Lo,lam,rfl,f',e'⟩:=lY
   refine⟨f'.defers,?_⟩
   unfold aH at y4
   rw [Yk] at y4
   obtain⟨l,hl,y4⟩:=y4
   split at y4
   rotate_left
   ·cases y4
   rename_i kW
   obtain⟨us,V5,Cb⟩:=xc f' _ _ hl kW
   have FA:VRs c' L0 l us:=VRs.kD (fun b hb=>.inl hb) _ _ Cb
   have AT:(results fn a'.tmps).run P c'.w = .ok (if h:us.toArray.size=1 then us.toArray[0] else .tuple us.toArray) c'.w:=by
    unfold results
    rw [←Array.toArray_toList (xs:=fn.results)]
    rw [List.mapM_toArray]
    simp only [Sem.run_bind,Sem.run_map,Result.andThen_ok,Sem.run_pure]
    exact (congrArg (fun z=>(Result.andThen z (fun (a:List Value) w'=>Result.ok a.toArray w')).andThen (fun (a:Array Value) w'=>Result.ok (if h:a.size=1 then a[0] else Value.tuple a) w')) V5).trans rfl
   refine⟨_,AT,c',_,rfl,rfl,f'.h,?_,HRel.kD (fun b hb=>.inl hb) f'.rel,e'.close⟩
   split at y4
   ·rename_i x
    cases y4
    cases us with
    | nil=>exact FA.elim
    | cons u us=>cases us with
     | nil=>exact FA.1
     | cons u2 us=>exact FA.2.elim
   ·rename_i hne
    cases y4
    have QK:us.length≠1:=by
     intro h1
     rw [←FA.length] at h1
     cases l with
     | nil=>simp at h1
     | cons x l=>cases l with
      | nil=>exact hne x rfl
      | cons y l=>simp at h1
    have:¬us.toArray.size=1:=by simpa using QK
    rw [dif_neg this]
    simp only [VR]
    exact⟨us.toArray,rfl,FA⟩
  cases ex with
  | norm=>exact hfin hc
  | ret=>exact hfin hc
  | exit id=>cases hc
end
end Go.R
