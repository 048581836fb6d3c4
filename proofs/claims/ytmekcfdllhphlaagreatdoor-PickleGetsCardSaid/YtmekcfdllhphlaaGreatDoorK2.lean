/- Part of the proof: ROps5, ROps6, ROps7, ROpAll, RFrz, RCode. -/
import Derived.Test.YtmekcfdllhphlaaGreatDoorK1
import Derived.MapKept
import Derived.Laws.CopyRow
import Derived.Laws.BytesArg
import Derived.Laws.IdiomStrings
import Derived.Tactics
set_option linter.unusedVariables false
set_option linter.unusedSimpArgs false
set_option maxRecDepth 100000
open Array renaming getElem?_eq_some_iff → abc, getElem?_setIfInBounds → abG, getElem?_modify → abN, ext' → acn
open Bool renaming and_eq_true → aaF, false_eq_true → aaS, true_and → abW, not_eq_true' → ab4
open List renaming getElem?_eq_some_iff → aaK, length_set → aaN, getElem?_eq_none → aa1, map_cons → aa6, mem_map → aba, mem_cons → abb, all_eq_true → abd, eq_nil_of_length_eq_zero → abn, all_cons → abA, ext_getElem? → abF, getElem?_set → ab5
open Nat renaming le_refl → aaE, zero_add → aaZ, beq → abp, lt_succ_of_lt → abK, le_succ → abQ, min_eq_left → aco
open Ne renaming symm → abZ
open Option renaming bind_some → aaA, bind_eq_some_iff → aaB, map_eq_some_iff → aaC, map_some → aaG, isSome_iff_exists → abh, getD_some → aby
open Option.some renaming injEq → aaD
open Prod.mk renaming injEq → aaJ
open UInt8 renaming ofNat → acp
namespace Go.R
open Go
section
variable {P:Program}{L0:Nat→Prop}{c0:Cx}{n:Nat}{ds:List Nat}{o:Oper}{s:RS}
theorem Fr.yM {c:Cx}{Lo:Nat→Prop}{lam:Nat→Nat}{a:Act}(f:Fr L0 c Lo lam ds s a)(hbs:c.base≤c.w.heap.size){id:Nat}{es sR:List (AV × AV)}(ho:c.h.get id=some (.map es)){lM sX:Array MapEntry}{clock pv:Nat}
  (hb:c.w.heap[(c.β id).1]? = some (.map lM clock)) (he:lL c (un L0 Lo) sR sX.toList) :
  Ext c Lo ⟨c.β,s.h.put id (.map sR),{c.w with heap:=c.w.heap.setIfInBounds (c.β id).1 (.map sX pv)},c.base⟩ Lo∧
   Fr L0 ⟨c.β,s.h.put id (.map sR),{c.w with heap:=c.w.heap.setIfInBounds (c.β id).1 (.map sX pv)},c.base⟩ Lo lam ds {s with h:=s.h.put id (.map sR)} a:=by
 have hl:Live c.h id:=⟨f.rel.lt _ _ ho,by simp [ho]⟩
 have hlt:(c.β id).1<c.w.heap.size:=(abc.1 hb).1
 have hne:∀b,b≠(c.β id).1→({c.w with heap:=c.w.heap.setIfInBounds (c.β id).1 (.map sX pv)}:World).heap[b]? = c.w.heap[b]?:=by
  intro b hb
  simp only [abG]
  rw [if_neg (abZ hb)]
 rw [←f.h]
 refine f.upd (β':=c.β) (h':=c.h.put id (.map sR)) id (.map sR) (Steady.put _ _ _) (abK hl.1) (by simp [AHeap.put,beq_nat])
  (fun pU h1=>.inr ⟨by simp [AHeap.put,beq_nat,h1],rfl⟩) (fun _=>⟨hl,rfl⟩) (.inr ⟨id,hl,rfl,.inl rfl⟩) (fun _=>?_)
  (fun b _ h1=>hne b h1) (fun b _ h1=>hne b h1) (by simp) hbs rfl rfl rfl (fun e=>⟨sX,pv,by simp [hlt],he.ext e⟩)
 simp only [Cx.len,World.shape?,hb,abG,hlt,if_true]
theorem yN {x y:AV}(hs:sameShape x y=true)(hq:gL x y=true):x=y:=by
 cases x<;>cases y<;>simp only [sameShape] at hs<;>try (cases hs; done)
 ·simp only [gL,jM,aaF,beq_iff_eq] at hq
  obtain⟨rfl,rfl⟩:=hq
  rfl
 ·rename_i a b
  simp only [gL,jM,beq_iff_eq] at hq
  congr 1
  cases a; cases b
  congr 1
  exact Array.toList_inj.1 hq
 ·rename_i xs ys
  simp only [aaF,beq_iff_eq] at hs
  obtain⟨⟨_,hx⟩,hy⟩:=hs
  obtain⟨ns,rfl⟩:=iQ hx
  obtain⟨ms,rfl⟩:=iQ hy
  simp only [gL,k8,decide_eq_true_eq] at hq
  rw [hq]
theorem oT:∀ns:List Int,jK (ns.map fun n=>AV.int .i64 n)=some (ns.map fun n=>Value.int .i64 n)
 | []=>rfl
 | n::ns=>by simp [jK,AV.gp,oT ns]
theorem CC {t:TypeId}{k:AV}(h:gM P t k=true):∃u,k.Ci=some u∧Instr.sameBits 10000 u u=true:=by
 unfold gM at h
 have PF:∀cs:List AV,cs.all kZ=true→∃u,(AV.agg cs).Ci=some u∧Instr.sameBits 10000 u u=true:=by
  intro cs hcs
  obtain⟨ns,rfl⟩:=iQ hcs
  refine⟨.agg (ns.map fun n=>Value.int .i64 n).toArray,by simp [AV.Ci,oT],?_⟩
  simp only [Instr.sameBits,beq_self_eq_true,abW,abd]
  intro p hp
  have:∀(l:List Value),(∀v∈l,∃m,v=Value.int .i64 m)→∀p∈l.zip l,Instr.sameBits 9999 p.1 p.2=true:=by
   clear hp p
   intro l hl p hp
   have h1:p.1=p.2∧p.1∈l:=by
    clear hl
    induction l with
    | nil=>cases hp
    | cons v l ih=>
     simp only [List.zip_cons_cons,abb] at hp
     rcases hp with rfl | hp
     ·exact⟨rfl,by simp⟩
     ·obtain⟨h1,h2⟩:=ih hp; exact⟨h1,by simp [h2]⟩
   obtain⟨h1,h2⟩:=h1
   obtain⟨m,hm⟩:=hl _ h2
   rw [←h1,hm]
   simp [Instr.sameBits]
  exact this (ns.map fun n=>Value.int .i64 n) (fun v hv=>by obtain⟨m,_,rfl⟩:=aba.1 hv; exact⟨m,rfl⟩) p (by simpa using hp)
 split at h
 ·exact⟨_,rfl,by simp [Instr.sameBits]⟩
 ·exact⟨_,rfl,by simp [Instr.sameBits,xA]⟩
 ·simp only [aaF] at h; exact PF _ h.1.1.2
 ·simp only [aaF] at h; exact PF _ h.1.1.2
 ·cases h
theorem u5 {c:Cx}{L:Nat→Prop}{k v:AV}{kv vv:Value}(hc:k.Ci.isSome=true)(hk:VR c L k kv)(hv:VR c L v vv) :
  ∀(es sR:List (AV × AV)) (ms:List MapEntry) (i:Nat),lL c L es ms→yB k v es=some sR→
   jo k es≠none∧(place k es ms i=none∧(∀b,lL c L sR (ms++[{key:=kv,val:=vv,born:=b}]))∨
    ∃j u m,place k es ms i=some (i+j,u)∧ms[j]? = some m∧m.key=kv∧lL c L sR (ms.modify j fun e=>{e with key:=kv,val:=vv}))
 | [],sR,[],i,_,h=>by
  simp only [yB,aaD] at h
  subst h
  exact⟨by simp [jo],.inl ⟨rfl,fun b=>⟨⟨hk,hc⟩,hv,trivial⟩⟩⟩
 | (k',v')::es,sR,m::ms,i,he,h=>by
  obtain⟨⟨GW,V5⟩,DM,wT⟩:=he
  simp only [yB] at h
  split at h
  rotate_left
  ·cases h
  rename_i hs
  split at h
  ·rename_i hq
   cases h
   have Aj:k=k':=yN hs hq
   obtain⟨u,hu⟩:=abh.1 hc
   refine⟨by simp [jo,hs,hq],.inr ⟨0,m.val,m,by simp [place,hq],rfl,?_,?_⟩⟩
   ·subst Aj
    rw [yH hu hk,yH hu GW]
   ·exact⟨⟨hk,hc⟩,hv,wT⟩
  ·rename_i hq
   rw [aaC] at h
   obtain⟨Ya,h1,rfl⟩:=h
   obtain⟨h2,h3⟩:=u5 hc hk hv es Ya ms (i+1) wT h1
   refine⟨by simp [jo,hs,hq,h2],?_⟩
   have Aq:gL k k'=false:=by simpa using hq
   rcases h3 with⟨h3,h4⟩| ⟨j,u,m',h3,h4,h5,h6⟩
   ·exact .inl ⟨by simp [place,Aq,h3],fun b=>⟨⟨GW,V5⟩,DM,h4 b⟩⟩
   ·exact .inr ⟨j+1,u,m',by simp [place,Aq,h3]; omega,by simpa using h4,h5,⟨⟨GW,V5⟩,DM,h6⟩⟩
 | [],_,_::_,_,h,_=>h.elim
 | _::_,_,[],_,h,_=>h.elim
theorem u6 {x:AV}(h:x.mO=true):∀k off,x≠.lp k off:=by rintro k off rfl; simp [AV.mO] at h
theorem wY {c:Cx}{Lo:Nat→Prop}{lam:Nat→Nat}{a:Act}(f:Fr L0 c Lo lam ds s a)(hbs:c.base≤c.w.heap.size){t:TypeId}{m k x:AV}{mv kv xv:Value}(hm:SR c L0 Lo lam s.bx m mv)(hk:SR c L0 Lo lam s.bx k kv)(hx:SR c L0 Lo lam s.bx x xv){h':AHeap}
  (h:jq P s.h t m k x=some h'):∃c',(Instr.mapUpdate t mv kv xv).run P c.w = .ok () c'.w∧Ext c Lo c' Lo∧Fr L0 c' Lo lam ds {s with h:=h'} a:=by
 unfold jq at h
 rw [aaB] at h
 obtain⟨d,hd,h⟩:=h
 cases d<;>simp only at h<;>try (cases h; done)
 rename_i kt et
 split at h
 ·cases h
 rename_i kI
 obtain⟨wV,hargs⟩:gM P kt k=true∧x.mO=true:=by
  cases h1:gM P kt k<;>cases h2:x.mO<;>simp [h1,h2] at kI ⊢
 have Ak:VR c (un L0 Lo) k kv:=hk.vr (by rintro k0 off rfl; simp [gM] at wV)
 have Yb:=hx.vr (u6 hargs)
 cases m<;>simp only at h<;>try (cases h; done)
 rename_i id
 rw [aaB] at h
 obtain⟨ob,ho,h⟩:=h
 cases ob with
 | cells cs=>cases h
 | row t cs=>cases h
 | map es=>
 rw [aaC] at h
 obtain⟨sR,hu,rfl⟩:=h
 simp only [SR,VR] at hm
 obtain⟨hi,r,rfl,hr⟩:=hm
 rw [←f.h] at ho
 have hl:Live c.h id:=⟨f.rel.lt _ _ ho,by simp [ho]⟩
 have SN:=hr hl
 subst SN
 obtain⟨lM,clock,h1,h2⟩:=f.rel.obj _ _ ho
 obtain⟨u0,LN,Yc⟩:=CC wV
 obtain⟨hf,hp⟩:=u5 (by simp [LN]) Ak Yb es sR lM.toList 0 h2 hu
 have GX:=xB wV Ak c.w h2 hf
 have MF:=oQ (P:=P) false 9998 wV Ak c.w
 have hget:(getObj (c.β id).1).run P c.w = .ok (.map lM clock) c.w:=MapKept.run_getObj_map h1
 rcases hp with⟨hp,uT⟩| ⟨j,u,m,hp,hj,hmk,uT⟩
 ·obtain⟨e',f'⟩:=f.yM hbs ho h1 (sX:=lM.push {key:=kv,val:=xv,born:=clock}) (pv:=clock+1) (sR:=sR) (by simpa using uT clock)
  refine⟨_,?_,e',f'⟩
  unfold Instr.mapUpdate
  rw [hp] at GX
  simp only [Sem.run_bind,bP hd,Result.andThen_ok,hget,MF,GX]
  exact MapKept.run_setObj_map _ h1
 ·obtain⟨e',f'⟩:=f.yM hbs ho h1 (sX:=lM.modify j fun e=>{e with key:=kv,val:=xv}) (pv:=clock) (sR:=sR) (by simpa using uT)
  refine⟨_,?_,e',f'⟩
  unfold Instr.mapUpdate
  rw [hp,aaZ] at GX
  have MN:lM[j]? = some m:=by simpa using hj
  have Kp:(Instr.keyThatStays m.key kv).run P c.w = .ok kv c.w:=by
   rw [hmk]
   unfold Instr.keyThatStays
   rw [yH LN Ak,Yc]
   rfl
  simp only [Sem.run_bind,bP hd,Result.andThen_ok,hget,MF,GX,MN,aaG,aby,Kp]
  exact MapKept.run_setObj_map _ h1
theorem pZ (hb0:c0.base≤c0.w.heap.size){t:TypeId}{m k x:Operand}(ho:o.op = .mapUpdate t m k x∨o.op = .insert t m k x)(tD:o.dst=none){h':AHeap}
  (h:jq P s.h t (b8 s.ρ m) (b8 s.ρ k) (b8 s.ρ x)=some h'):jW P L0 c0 n ds o s {s with h:=h'}:=by
 rintro a w K Q ⟨hn,c,Lo,lam,rfl,f,e⟩ hK
 obtain⟨c',hr,e',f'⟩:=wY f (kr e hb0) (bT f m) (bT f k) (bT f x) h
 unfold Oper.wp
 have:(execOp a.eval o).run P c.w = .ok .skip c'.w:=by rcases ho with ho | ho<;>simp [execOp,ho,hr]
 rw [this,Oper.upon_skip]
 have MI:a.put o.dst undef=a:=by rw [tD]; rfl
 rw [MI]
 exact hK _ _ ⟨hn,c',Lo,lam,rfl,f',e.trans e'⟩
theorem G9 (hb0:c0.base≤c0.w.heap.size)(hd:gN n ds o){t:TypeId}{x:Operand}(ho:o.op = .call {callee:=.builtin .clear,args:=#[x],argTypes:=#[t]}){h':AHeap}
  (h:uL P s.h t (b8 s.ρ x)=some h'):jW P L0 c0 n ds o s ({s with h:=h'}.set o.dst (.tup [])):=by
 rintro a w K Q ⟨hn,c,Lo,lam,rfl,f,e⟩ hK
 unfold uL at h
 rw [aaB] at h
 obtain⟨d,Fx,h⟩:=h
 have hx:=bT f x
 have fin:∀c',(Builtin.clear_ #[t] o.type #[a.eval x]).run P c.w = .ok (.tuple #[]) c'.w→Ext c Lo c' Lo→Fr L0 c' Lo lam ds {s with h:=h'} a→o.wp P a c.w K Q:=by
  intro c' hr e' f'
  unfold Oper.wp
  have:(execOp a.eval o).run P c.w = .ok (.value (.tuple #[])) c'.w:=by
   simp [execOp,ho,resolve,invoke,builtin,hr]
  rw [this,Oper.upon_value]
  exact hK _ _ ⟨(ij _ _ _).trans hn,c',Lo,lam,rfl,f'.set (SR.of (by simp [VR,VRs])) (fun t ht=>by rw [hn]; exact hd t ht),e.trans e'⟩
 cases Fs:b8 s.ρ x<;>rw [Fs] at h hx<;>simp only at h<;>try (cases h; done)
 ·cases h
  simp only [SR,VR] at hx
  refine fin c ?_ (Ext.refl _ _) f
  simp [Builtin.clear_,bP Fx,hx]
 ·rename_i id
  rw [aaB] at h
  obtain⟨ob,ho,h⟩:=h
  cases ob with
  | cells cs=>cases h
  | row t cs=>cases h
  | map es=>
  cases h
  simp only [SR,VR] at hx
  obtain⟨hi,r,uq,hr⟩:=hx
  rw [←f.h] at ho
  have hl:Live c.h id:=⟨f.rel.lt _ _ ho,by simp [ho]⟩
  have SN:=hr hl
  subst SN
  obtain⟨lM,clock,h1,h2⟩:=f.rel.obj _ _ ho
  obtain⟨e',f'⟩:=f.yM (kr e hb0) ho h1 (sX:=#[]) (pv:=clock) (sR:=[]) trivial
  refine fin _ ?_ e' f'
  have hget:(getObj (c.β id).1).run P c.w = .ok (.map lM clock) c.w:=MapKept.run_getObj_map h1
  have CD:=MapKept.run_setObj_map (P:=P) (.map #[] clock) h1
  simp [Builtin.clear_,bP Fx,uq,hget,CD]
end
end Go.R
namespace Go.R
open Go
section
variable {P:Program}{L0:Nat→Prop}{c0:Cx}{n:Nat}{ds:List Nat}{o:Oper}{s:RS}
theorem nr {w:World}{t t2 ty e:TypeId}{i:TypeInfo}(ht:P.underlying t=some (.slice e))(hi:P.info? e=some i){base:Option Addr}{len cap:Nat}{x:Value}{news:List Value}{m:Nat}(hs:Src P i.size t2 x m news w)(hm:m≤len) :
  (Builtin.copy_ #[t,t2] ty #[.slice base len cap,x]).run P w=match base with | none=>.ok (goInt m) w | some a=>((storeCells a news).run P w).andThen fun _ w'=>.ok (goInt m) w':=by
 have PG:Nat.min m len=m:=aco hm
 have hlen:=hs.len w
 have hc:=hs.cells
 have hsz:(sizeOf e).run P w = .ok i.size w:=by simp [sizeOf,typeInfo,hi]
 unfold Builtin.copy_
 cases base with
 | none=>simp [bP ht,hlen,PG,hsz,hc]
 | some a=>simp [bP ht,hlen,PG,hsz,hc,Sem.run_bind]
theorem Kq (hb0:c0.base≤c0.w.heap.size)(hd:gN n ds o){t t2:TypeId}{dx sx:Operand}(ho:o.op = .call {callee:=.builtin .copy,args:=#[dx,sx],argTypes:=#[t,t2]}){y:AV}{h':AHeap}
  (h:xt P s.h t t2 (b8 s.ρ dx) (b8 s.ρ sx)=some (y,h')):jW P L0 c0 n ds o s ({s with h:=h'}.set o.dst y):=by
 rintro a w K Q ⟨hn,c,Lo,lam,rfl,f,e0⟩ hK
 have hbs:=kr e0 hb0
 unfold xt at h
 rw [aaB] at h
 obtain⟨d,Fx,h⟩:=h
 cases d<;>simp only at h<;>try (cases h; done)
 rename_i e
 rw [aaB] at h
 obtain⟨i,hi,h⟩:=h
 rw [aaB] at h
 obtain⟨⟨new,m⟩,hcs,h⟩:=h
 simp only at h
 split at h
 ·cases h
 rename_i hZ
 have hZ:kC P t2 (b8 s.ρ sx)=true:=by simpa using hZ
 have V6:∀st,b8 s.ρ sx = .str st→P.underlying t2=some .string:=by
  intro st hst
  rw [hst] at hZ
  unfold kC at hZ
  simp only at hZ
  split at hZ
  ·assumption
  ·cases hZ
 have rS:(∀st,b8 s.ρ sx≠.str st)→∃e',P.underlying t2=some (.slice e'):=by
  intro hne
  unfold kC at hZ
  split at hZ
  ·rename_i st hst; exact absurd hst (hne st)
  ·split at hZ
   ·rename_i e' he; exact⟨e',he⟩
   ·cases hZ
 have hk:(∃e',P.underlying t2=some (.slice e'))∨P.underlying t2=some .string:=by
  by_cases hst:∃st,b8 s.ρ sx = .str st
  ·obtain⟨st,hst⟩:=hst; exact .inr (V6 st hst)
  ·exact .inl (rS fun st SO=>hst ⟨st,SO⟩)
 obtain⟨news,hS,hv⟩:=rR f (bT f sx) hk V6 rS hcs
 have zW:=bT f dx
 have fin:∀c',(Builtin.copy_ #[t,t2] o.type #[a.eval dx,a.eval sx]).run P c.w = .ok (goInt m) c'.w→Ext c Lo c' Lo→Fr L0 c' Lo lam ds {s with h:=h'} a→y = .int .i64 m→o.wp P a c.w K Q:=by
  intro c' hr e' f' hy
  unfold Oper.wp
  have:(execOp a.eval o).run P c.w = .ok (.value (goInt m)) c'.w:=by
   simp [execOp,ho,resolve,invoke,builtin,hr]
  rw [this,Oper.upon_value]
  exact hK _ _ ⟨(ij _ _ _).trans hn,c',Lo,lam,rfl,f'.set (SR.of (by subst hy; simp [VR,goInt])) (fun t ht=>by rw [hn]; exact hd t ht),e0.trans e'⟩
 cases Fs:b8 s.ρ dx<;>rw [Fs] at h zW<;>simp only at h<;>try (cases h; done)
 ·split at h
  rotate_left
  ·cases h
  rename_i um
  cases h
  simp only [SR,VR] at zW
  obtain⟨ad,zW⟩:∃ad:Option Addr,a.eval dx = .slice ad 0 0:=⟨none,zW⟩
  refine fin c ?_ (Ext.refl _ _) f (by rw [um]; rfl)
  rw [zW,nr Fx hi hS (by omega)]
  cases ad with
  | none=>rfl
  | some ad=>
   have:news=[]:=abn (by rw [hS.newsLen,um]; simp)
   subst this
   rfl
 ·rename_i id off len jG
  split at h
  ·rename_i hid
   split at h
   rotate_left
   ·cases h
   rename_i um
   cases h
   simp only [SR,VR] at zW
   rcases zW with⟨_,_,_,ad,zW⟩| zW
   rotate_left
   ·exact absurd hid zW.1
   refine fin c ?_ (Ext.refl _ _) f (by rw [um]; rfl)
   rw [zW,nr Fx hi hS (by omega)]
   cases ad with
   | none=>rfl
   | some ad=>
    have:news=[]:=abn (by rw [hS.newsLen,um]; simp)
    subst this
    rfl
  rename_i lP
  rw [aaB] at h
  obtain⟨ob,hob,h⟩:=h
  cases ob with
  | map es=>cases h
  | row t cs=>cases h
  | cells cs=>
  simp only at h
  split at h
  rotate_left
  ·cases h
  rename_i hh
  obtain⟨Yd,PH,hoff⟩:=hh
  cases h
  simp only [SR,VR] at zW
  rcases zW with zW | ⟨_,hid,ad,cap,zW,hlc,GZ,hlive⟩
  ·exact absurd zW.1 lP
  rw [←f.h] at hob
  have hl:Live c.h id:=⟨f.rel.lt _ _ hob,by simp [hob]⟩
  obtain⟨q,hp,hq,hc⟩:=f.rel.obj _ _ hob
  have hnl:=hS.newsLen
  have hvl:=hv.length
  have hr:=nr (ty:=o.type) Fx hi hS PH (base:=ad) (cap:=cap)
  by_cases ha:ad=some ⟨(c.β id).1,(c.β id).2+off,none⟩
  ·subst ha
   simp only at hr
   have hst:=np (P:=P) hp.og (base:=(c.β id).2) (off:=off) (vs:=news) (by omega) hS.one
   rw [hst] at hr
   simp only [Result.andThen_ok] at hr
   obtain⟨q1,q2,q3,q4⟩:=iR news (c.β id).1 ((c.β id).2+off) c.w
   have Cw:js c (c.β id).1 q:=hp
   obtain⟨C,PE,hb,Cy⟩:=hp
   obtain⟨C',g1,g2,g3⟩:=gB news (c.β id).1 ((c.β id).2+off) c.w C PE (0,0) hb (by omega)
   obtain⟨e',f'⟩:=f.upd (w':=c.w.setCells (c.β id).1 ((c.β id).2+off) news) (β':=c.β) (h':=s.h.put id (.cells (en cs off new))) id (.cells (en cs off new))
    (by rw [f.h]; exact Steady.put _ _ _) (by rw [←f.h]; exact abK hl.1) (by simp [AHeap.put,beq_nat]) (fun pU h1=>.inr ⟨by rw [f.h]; simp [AHeap.put,beq_nat,h1],rfl⟩) (fun _=>⟨hl,rfl⟩) (.inr ⟨id,hl,rfl,.inl rfl⟩)
    (fun _=>by simp only [Cx.len,World.shape?,g1,hb,aaG,aby,g2])
    (fun b _ hne=>eQ _ _ _ _ _ hne) (fun b _ hne=>eQ _ _ _ _ _ hne) (by rw [q1]; exact aaE _) hbs q2 q3 q4
    (fun ee=>⟨q,Cw.setCells (by omega) _ _ _,by rw [jT]; exact hq,kH Cw.og hc hv hS.one (by omega) (by omega) ee rfl⟩)
   refine fin _ ?_ e' f' rfl
   rw [zW]
   exact hr
  ·have hz:new=[]∧m=0∧news=[]:=by
    rcases hlive hl with⟨h1,_⟩| h1
    ·exact absurd h1 ha
    ·have h0:m=0:=by omega
     have h2:news=[]:=abn (by rw [hnl,h0]; simp)
     subst h2
     exact⟨abn (by simpa using hvl),h0,rfl⟩
   obtain⟨rfl,rfl,rfl⟩:=hz
   have oS:en cs off []=cs:=by simp [en]
   rw [oS] at *
   obtain⟨e',f'⟩:=f.upd (w':=c.w) (β':=c.β) (h':=s.h.put id (.cells cs)) id (.cells cs)
    (by rw [f.h]; exact Steady.put _ _ _) (by rw [←f.h]; exact abK hl.1) (by simp [AHeap.put,beq_nat]) (fun pU h1=>.inr ⟨by rw [f.h]; simp [AHeap.put,beq_nat,h1],rfl⟩) (fun _=>⟨hl,rfl⟩) (.inr ⟨id,hl,rfl,.inl rfl⟩)
    (fun _=>rfl) (fun b _ hne=>rfl) (fun b _ hne=>rfl) (aaE _) hbs rfl rfl rfl
    (fun ee=>tB.ext ee ⟨q,hp,hq,hc⟩ rfl)
   refine fin _ ?_ e' f' rfl
   rw [zW,hr]
   cases ad<;>rfl
end
end Go.R
namespace Go.R
open Go
section
variable {P:Program}{L0:Nat→Prop}{c0:Cx}{n:Nat}{ds:List Nat}{o:Oper}{s:RS}
theorem rT {e:TypeId}(h:Cl P e=true):P.underlying e=some (.int .u8)∧fe P e=some 1:=by
 unfold Cl at h
 simp only [aaF,beq_iff_eq] at h
 obtain⟨h1,h2⟩:=h
 refine⟨?_,h2⟩
 split at h1
 ·assumption
 ·cases h1
theorem DP {c:Cx}{L:Nat→Prop}:∀{cs:List AV} {l:List UInt8} {vs:List Value},J1 cs=some l→VRs c L cs vs→∃xs:List Int,vs=xs.map (Value.int .u8)∧l=xs.map fun n=>acp n.toNat
 | [],l,[],h,_=>by simp only [J1,aaD] at h; subst h; exact⟨[],rfl,rfl⟩
 | x::cs,l,v::vs,h,hv=>by
  unfold J1 at h
  split at h
  ·rename_i heq; cases heq
  ·rename_i n xs heq
   cases heq
   rw [aaC] at h
   obtain⟨l',h1,rfl⟩:=h
   obtain⟨ys,rfl,rfl⟩:=DP h1 hv.2
   have h2:=hv.1
   simp only [VR] at h2
   subst h2
   exact⟨n::ys,rfl,rfl⟩
  ·cases h
 | [],_,_::_,_,h=>h.elim
 | _::_,_,[],_,h=>h.elim
theorem yO (xs:List Int):strOfNums xs=⟨(xs.map fun n=>acp n.toNat).toArray⟩:=rfl
theorem Ar {w:World}{src dst e:TypeId}{v:Value}{m:Nat}{xs:List Int}(hs:P.underlying src=some (.slice e))(he:P.underlying e=some (.int .u8))(hd:P.underlying dst=some .string)
  (hS:Src P 1 src v m (xs.map (Value.int .u8)) w) (hv:∃a cap,v = .slice a m cap):(convert src dst v).run P w = .ok (.string (strOfNums xs)) w:=by
 obtain⟨a,cap,rfl⟩:=hv
 have hc:=hS.cells
 have hl:=hS.newsLen
 cases a with
 | none=>
  have:xs=[]:=by
   simp [Builtin.firstCells] at hc
   cases xs with
   | nil=>rfl
   | cons x xs=>simp at hc
  subst this
  exact run_convert_bytes_nil w src e hs he m cap dst hd
 | some a=>
  rw [run_convert_bytes_string w src dst e (some a) m cap hs he hd]
  have h1:(loadCells a m).run P w = .ok (xs.map (Value.int .u8)).toArray w:=by simpa [Builtin.firstCells] using hc
  rw [run_bytesToString w a m cap xs h1,foldl_push_bytes]
  simp [strOfNums,ByteArray.empty,ByteArray.emptyWithCapacity]
  rfl
theorem wZ {c:Cx}{Lo:Nat→Prop}{lam:Nat→Nat}{x:AV}{v:Value}{h:AHeap}{size m:Nat}{new:List AV}(hx:SR c L0 Lo lam s.bx x v)(hc:dT h size x=some (new,m))(hne:∀st,x≠.str st):∃a cap,v = .slice a m cap:=by
 unfold dT at hc
 cases x<;>simp only at hc<;>try (cases hc; done)
 ·exact absurd rfl (hne _)
 ·cases hc
  simp only [SR,VR] at hx
  subst hx
  exact⟨none,0,rfl⟩
 ·split at hc
  ·cases hc
   simp only [SR,VR] at hx
   obtain⟨a,cap,rfl,_⟩:=hx
   exact⟨a,cap,rfl⟩
  ·cases hc
 ·split at hc
  ·split at hc
   ·cases hc
    simp only [SR,VR] at hx
    rename_i hid _
    rcases hx with⟨_,_,_,a,rfl⟩| hx
    ·exact⟨a,0,rfl⟩
    ·exact absurd hid hx.1
   ·cases hc
  rename_i lP
  rw [aaB] at hc
  obtain⟨ob,_,hc⟩:=hc
  cases ob with
  | map es=>cases hc
  | row t cs=>cases hc
  | cells cs=>
   simp only at hc
   split at hc
   ·cases hc
    simp only [SR,VR] at hx
    rcases hx with hx | ⟨_,_,a,cap,rfl,_⟩
    ·exact absurd hx.1 lP
    exact⟨a,cap,rfl⟩
   ·cases hc
theorem bytes_VRs {c:Cx}{L:Nat→Prop}:∀l:List UInt8,VRs c L (l.map fun b=>AV.int .u8 b.toNat) (l.map fun b=>Value.int .u8 b.toNat)
 | []=>trivial
 | b::l=>⟨by simp [VR],bytes_VRs l⟩
theorem yP {w:World}{b o k:Nat}{C:Array Value}{e:TypeId}{fr:Nat × Nat}(hb:w.heap[b]? = some (.cells C e fr))(ho:C.size≤o)(hk:k≠0) :
  (∀b',jr w (w.freeze ⟨b,o,none⟩ k) b')∧(∀b',b'≠b→(w.freeze ⟨b,o,none⟩ k).heap[b']? = w.heap[b']?)∧(w.freeze ⟨b,o,none⟩ k).heap.size=w.heap.size∧(w.freeze ⟨b,o,none⟩ k).os=w.os∧(w.freeze ⟨b,o,none⟩ k).tape=w.tape∧(w.freeze ⟨b,o,none⟩ k).output=w.output:=by
 unfold World.freeze
 rw [if_neg hk]
 have hlt:=(abc.1 hb).1
 refine⟨fun b'=>?_,fun b' hne=>by simp [abN,abZ hne],by simp,rfl,rfl,rfl⟩
 by_cases hne:b'=b
 ·subst hne
  obtain⟨lo,hi⟩:=fr
  refine .inr ⟨C,e,lo,hi,(if lo==hi then (o,o+k) else (min lo o,max hi (o+k))).1,(if lo==hi then (o,o+k) else (min lo o,max hi (o+k))).2,hb,?_,?_⟩
  ·simp [abN,hb]
  ·intro h
   by_cases SP:lo=hi
   ·subst SP; right; simpa using ho
   ·have:(lo==hi)=false:=by simpa using SP
    right
    simp only [this,aaS,if_false]
    rcases h with h | h
    ·exact absurd h SP
    ·exact Nat.le_min.2 ⟨h,ho⟩
 ·exact .inl (by simp [abN,abZ hne])
theorem CE (hb0:c0.base≤c0.w.heap.size)(hd:gN n ds o){src dst:TypeId}{x:Operand}(ho:o.op = .convert src dst x){y:AV}(h:eu P s.h src dst (b8 s.ρ x)=some y):jW P L0 c0 n ds o s (s.set o.dst y):=by
 have hex:∀(a:Act) (w w':World) v,(convert src dst (a.eval x)).run P w = .ok v w'→(execOp a.eval o).run P w = .ok (.value v) w':=by
  intro a w w' v hr; simp [execOp,ho,hr]
 unfold eu at h
 split at h
 ·rename_i e hs Cd
  split at h
  rotate_left
  ·cases h
  rename_i hu
  obtain⟨he,hsz⟩:=rT hu
  rw [aaB] at h
  obtain⟨⟨cs,m⟩,hcs,h⟩:=h
  rw [aaC] at h
  obtain⟨l,hl,rfl⟩:=h
  by_cases hst:∃st,b8 s.ρ x = .str st
  ·
   obtain⟨st,hst⟩:=hst
   refine gh hd fun a c Lo lam f hn=>?_
   have hx:=bT f x
   rw [hst] at hx hcs
   simp only [SR,VR] at hx
   simp only [dT,if_true,aaD,aaJ] at hcs
   obtain⟨rfl,rfl⟩:=hcs
   refine⟨_,hex _ _ _ (.string st) ?_,?_⟩
   ·simp [convert,run_underlying hs,run_underlying Cd,hx]
   ·have:∀(l0 l1:List UInt8),J1 (l0.map fun b=>AV.int .u8 b.toNat)=some l1→l1=l0:=by
     intro l0
     induction l0 with
     | nil=>intro l1 h; simp [J1] at h; exact h
     | cons b l0 ih=>
      intro l1 h
      simp only [aa6,J1,aaC] at h
      obtain⟨l2,h2,rfl⟩:=h
      rw [ih l2 h2]
      simp
    rw [this _ _ hl]
    simp [SR,VR]
  ·refine gh hd fun a c Lo lam f hn=>?_
   have hne:∀st,b8 s.ρ x≠.str st:=fun st h=>hst ⟨st,h⟩
   have hx:=bT f x
   obtain⟨news,hS,hv⟩:=rR f hx (.inl ⟨e,hs⟩) (fun st h=>absurd h (hne st)) (fun _=>⟨e,hs⟩) hcs
   obtain⟨xs,rfl,rfl⟩:=DP hl hv
   exact⟨_,hex _ _ _ _ (Ar hs he Cd hS (wZ hx hcs hne)),by simp [SR,VR,yO]⟩
 ·rename_i e hs Cd
  cases Fs:b8 s.ρ x<;>rw [Fs] at h<;>simp only at h<;>try (cases h; done)
  rename_i st
  split at h
  rotate_left
  ·cases h
  rename_i hu
  obtain⟨he,hsz⟩:=rT hu
  cases h
  refine uY hb0 hd (fun a c Lo lam f hn hbs=>?_) (by rintro k off h; cases h)
  have hx:=bT f x
  rw [Fs] at hx
  simp only [SR,VR] at hx
  have hr:=run_bytes_of_string c.w src dst e st hs Cd he
  rw [←hx] at hr
  refine⟨_,_,hex _ _ _ _ hr,fun b hb=>.inl (alloc_old c.w.drew _ (show b<c.w.heap.size from hb)),fun id hl=>alloc_old c.w.drew _ (show (c.β id).1<c.w.heap.size from f.rel.block hl),fun b hb=>alloc_old c.w.drew _ (show b<c.w.heap.size by omega),by show c.w.heap.size≤(c.w.heap.push _).size; simp,rfl,rfl,rfl,fun e'=>?_⟩
  simp only [VR]
  refine⟨_,_,rfl,grownCap_ge c.w,by simp,.inl rfl,?_⟩
  refine .inr ⟨c.w.heap.size,0,rfl,G6 f.rel rfl rfl,by simp,?_⟩
  refine Cells.of_vals (bytes_VRs st.data.toList) (fun i hi=>?_) (fun v hv=>by obtain⟨b,_,rfl⟩:=aba.1 hv; rfl)
  have mQ:i<st.data.size:=by simpa using hi
  have:(World.alloc c.w.drew (.cells (bytesRow st (grownCap c.w st.size 0 e)) e ((bytesRow st (grownCap c.w st.size 0 e)).size,(bytesRow st (grownCap c.w st.size 0 e)).size+1))).heap[c.w.heap.size]? = some (.cells (bytesRow st (grownCap c.w st.size 0 e)) e ((bytesRow st (grownCap c.w st.size 0 e)).size,(bytesRow st (grownCap c.w st.size 0 e)).size+1)):=jd c.w.drew _
  rw [cell_of_block this]
  simp [bytesRow,Array.getElem?_append,mQ]
  intro hge
  have:st.size=st.data.size:=rfl
  omega
 ·rename_i e0 e hs Cd
  cases Fs:b8 s.ρ x<;>rw [Fs] at h<;>try (cases h; done)
  rename_i cs m ex
  cases ex
  ·cases h
  simp only at h
  split at h
  rotate_left
  ·cases h
  rename_i hu
  simp only [aaF,beq_iff_eq,decide_eq_true_eq] at hu
  obtain⟨⟨Ye,hu⟩,iZ⟩:=hu
  subst Ye
  obtain⟨he,hsz⟩:=rT hu
  cases h
  refine uY hb0 hd (fun a c Lo lam f hn hbs=>?_) (by rintro k off h; cases h)
  have hx:=bT f x
  rw [Fs] at hx
  have GN:=hx.vr (by rintro k off h; cases h)
  simp only [SR,VR] at hx
  obtain⟨ad,cap,uq,h1,h2,_,h3⟩:=hx
  rcases h3 with rfl | ⟨b,off,rfl,LJ,hbb,hc⟩
  ·simp at iZ
  have hlt:b<c.w.heap.size:=by
   cases cs with
   | nil=>simp at iZ
   | cons x cs=>exact kE hc
  have oS:∃C e' fr,c.w.heap[b]? = some (.cells C e' fr):=by
   cases cs with
   | nil=>simp at iZ
   | cons x cs=>
    obtain⟨⟨v,hv,_⟩,_⟩:=hc
    unfold World.cell? at hv
    split at hv
    ·exact⟨_,_,_,by assumption⟩
    ·cases hv
  obtain⟨C,e',fr,hb⟩:=oS
  obtain⟨k1,k2,k3,k4,k5,k6⟩:=yP (k:=1) hb (aaE C.size) (by decide)
  refine⟨c.w.freeze ⟨b,C.size,none⟩ 1,a.eval x,hex _ _ _ _ ?_,fun b' _=>k1 b',fun id hl=>k2 _ (LJ.1 id hl),fun b' xC=>k2 b' (by have:=hbb trivial; omega),by rw [k3]; exact aaE _,k4,k5,k6,fun PE=>VR.ext PE _ _ GN⟩
  rw [uq]
  have OO:c.w.shape? b=some (e',C.size):=by simp [World.shape?,hb]
  simp [convert,run_underlying Cd,run_underlying he,markStringish,OO]
 ·rw [aaB] at h
  obtain⟨v,hv,h⟩:=h
  rw [aaB] at h
  obtain⟨r,hr,h⟩:=h
  refine gh hd fun a c Lo lam f hn=>?_
  have hx:=lN hv ((bT f x).vr (lO hv))
  exact⟨r,hex _ _ _ _ (by rw [hx]; exact k7 _ hr),SR.of (om h)⟩
theorem eB {op:BinOp}{t:TypeId}{x y:Operand}{u v:Value}(h:(∀a b,u≠.agg a∨v≠.agg b)∧u≠.nilIface)(w:World):(eqGuard op t x y u v).run P w = .ok () w:=by
 obtain⟨h1,h2⟩:=h
 unfold eqGuard
 cases op<;>first | rfl | skip
 all_goals
  simp only [Bool.not_true,aaS,if_false]
  split
  ·exact absurd rfl h2
  ·rename_i a b; rcases h1 a b with h3 | h3<;>exact absurd rfl h3
  ·rfl
theorem CF {x:AV}{u:Value}(h:x.gp=some u):(∀a,u≠.agg a)∧u≠.nilIface:=by
 unfold AV.gp at h
 split at h<;>first | (cases h; done) | (cases h; exact⟨fun _=>(by simp),(by simp)⟩)
theorem Fy {op:BinOp}{a b:ByteArray}{y:AV}(h:Cn op a b=some y)(w:World):∃r,(Op.stringOp op a b).run P w = .ok r w∧∀(c:Cx) (L:Nat→Prop),VR c L y r:=by
 have hl:∀z:ByteArray,z.toList=z.data.toList:=fun z=>ByteArray.toList_eq z
 unfold Cn at h
 unfold Op.stringOp
 simp only [hl]
 cases op<;>simp only at h<;>try (cases h; done)
 ·split at h
  rotate_left
  ·cases h
  rename_i hsz
  cases h
  refine⟨.string (a++b),?_,fun c L=>by simp only [VR]⟩
  have h1:¬(((a.size+b.size:Nat):Int) > IntKind.i64.max):=by
   have:IntKind.i64.max=9223372036854775807:=by decide
   rw [this]; omega
  simp only [h1,if_false]
  rfl
 all_goals (cases h; exact⟨_,rfl,fun c L=>by simp only [VR]⟩)
theorem oq {op:BinOp}{rE:Bool}(h:Co op=some rE):(op = .eql∧rE=true)∨(op = .neq∧rE=false):=by
 unfold Co at h
 split at h<;>cases h
 ·exact .inl ⟨rfl,rfl⟩
 ·exact .inr ⟨rfl,rfl⟩
theorem pw {t:TypeId}(ht:∃q,P.underlying t=some (.pointer q)){a:Addr}{op:BinOp}{rE:Bool}(h:Co op=some rE)(w:World) :
  (binOp op t (.pointer (some a)) (.pointer none)).run P w = .ok (.bool (!rE)) w∧(binOp op t (.pointer none) (.pointer (some a))).run P w = .ok (.bool (!rE)) w:=by
 obtain⟨q,hq⟩:=ht
 have e1:(Op.equal t (.pointer (some a)) (.pointer none)).run P w = .ok false w:=by
  unfold Op.equal Op.maxDepth
  unfold Op.equalIn
  simp [bP hq]
 have e2:(Op.equal t (.pointer none) (.pointer (some a))).run P w = .ok false w:=by
  unfold Op.equal Op.maxDepth
  unfold Op.equalIn
  simp [bP hq]
 rcases oq h with⟨rfl,rfl⟩| ⟨rfl,rfl⟩
 ·constructor
  ·show ((do pure (.bool (←Op.equal t (.pointer (some a)) (.pointer none)))):Sem Value).run P w=_
   simp [e1]
  ·show ((do pure (.bool (←Op.equal t (.pointer none) (.pointer (some a))))):Sem Value).run P w=_
   simp [e2]
 ·constructor
  ·show ((do pure (.bool (!(←Op.equal t (.pointer (some a)) (.pointer none))))):Sem Value).run P w=_
   simp [e1]
  ·show ((do pure (.bool (!(←Op.equal t (.pointer none) (.pointer (some a)))))):Sem Value).run P w=_
   simp [e2]
theorem qa {t:TypeId}(ht:∃q,P.underlying t=some (.slice q)){ad:Option Addr}(hs:ad.isSome=true){m cap:Nat}{op:BinOp}{rE:Bool}(h:Co op=some rE)(w:World) :
  (binOp op t (.slice ad m cap) (.slice none 0 0)).run P w = .ok (.bool (!rE)) w:=by
 obtain⟨q,hq⟩:=ht
 obtain⟨a,rfl⟩:=abh.1 hs
 have e1:(Op.equal t (.slice (some a) m cap) (.slice none 0 0)).run P w = .ok false w:=by
  unfold Op.equal Op.maxDepth
  unfold Op.equalIn
  simp [bP hq]
 rcases oq h with⟨rfl,rfl⟩| ⟨rfl,rfl⟩
 ·show ((do pure (.bool (←Op.equal t (.slice (some a) m cap) (.slice none 0 0)))):Sem Value).run P w=_
  simp [e1]
 ·show ((do pure (.bool (!(←Op.equal t (.slice (some a) m cap) (.slice none 0 0))))):Sem Value).run P w=_
  simp [e1]
theorem Ha (hd:gN n ds o){op:BinOp}{t t2:TypeId}{x y:Operand}(ho:o.op = .binOp op t x y t2){z:AV}(h:ml P op t (b8 s.ρ x) (b8 s.ρ y)=some z):jW P L0 c0 n ds o s (s.set o.dst z):=by
 refine gh hd fun a c Lo lam f hn=>?_
 have hx:=bT f x
 have hy:=bT f y
 have hex:∀v,(eqGuard op t x y (a.eval x) (a.eval y)).run P c.w = .ok () c.w→(binOp op t (a.eval x) (a.eval y)).run P c.w = .ok v c.w→(execOp a.eval o).run P c.w = .ok (.value v) c.w:=by
  intro v h1 h2; simp [execOp,ho,h1,h2]
 unfold ml at h
 split at h
 ·rename_i p q hp hq
  rw [hp] at hx; rw [hq] at hy
  simp only [SR,VR] at hx hy
  obtain⟨r,hr,hv⟩:=Fy (P:=P) h c.w
  refine⟨r,hex _ (eB ⟨fun _ _=>.inl (by rw [hx]; simp),by rw [hx]; simp⟩ _) ?_,SR.of (hv _ _)⟩
  rw [hx,hy]
  unfold binOp
  simpa using hr
 ·rename_i p q hp hq
  rw [hp] at hx; rw [hq] at hy
  simp only [SR,VR] at hx hy
  obtain⟨_,ad,uq,_⟩:=hx
  rw [aaB] at h
  obtain⟨rE,tF,h⟩:=h
  split at h
  rotate_left
  ·cases h
  rename_i ht
  cases h
  refine⟨.bool (!rE),hex _ (eB ⟨fun _ _=>.inl (by rw [uq]; simp),by rw [uq]; simp⟩ _) ?_,SR.of (by simp [VR])⟩
  rw [uq,hy]
  exact (pw ⟨_,ht⟩ tF _).1
 ·rename_i p q hp hq
  rw [hp] at hx; rw [hq] at hy
  simp only [SR,VR] at hx hy
  obtain⟨_,ad,RM,_⟩:=hy
  rw [aaB] at h
  obtain⟨rE,tF,h⟩:=h
  split at h
  rotate_left
  ·cases h
  rename_i ht
  cases h
  refine⟨.bool (!rE),hex _ (eB ⟨fun _ _=>.inl (by rw [hx]; simp),by rw [hx]; simp⟩ _) ?_,SR.of (by simp [VR])⟩
  rw [hx,RM]
  exact (pw ⟨_,ht⟩ tF _).2
 ·rename_i p q hp hq
  rw [hp] at hx; rw [hq] at hy
  simp only [SR,VR] at hx hy
  obtain⟨b,off,uq,_⟩:=hx
  rw [aaB] at h
  obtain⟨rE,tF,h⟩:=h
  split at h
  rotate_left
  ·cases h
  rename_i ht
  cases h
  refine⟨.bool (!rE),hex _ (eB ⟨fun _ _=>.inl (by rw [uq]; simp),by rw [uq]; simp⟩ _) ?_,SR.of (by simp [VR])⟩
  rw [uq,hy]
  exact (pw ⟨_,ht⟩ tF _).1
 ·rename_i hp hq
  rw [hp] at hx; rw [hq] at hy
  simp only [SR,VR] at hx hy
  obtain⟨ad,cap,uq,_,_,hs,_⟩:=hx
  replace hs:ad.isSome=true:=hs.elim id fun h=>by cases h.1
  rw [aaB] at h
  obtain⟨rE,tF,h⟩:=h
  split at h
  rotate_left
  ·cases h
  rename_i ht
  cases h
  refine⟨.bool (!rE),hex _ (eB ⟨fun _ _=>.inl (by rw [uq]; simp),by rw [uq]; simp⟩ _) ?_,SR.of (by simp [VR])⟩
  rw [uq,hy]
  exact qa ⟨_,ht⟩ hs tF _
 ·rename_i hp hq
  rw [hp] at hx; rw [hq] at hy
  simp only [SR,VR] at hx hy
  rcases hx with⟨hx,_⟩| ⟨_,_,ad,cap,uq,_,hs,_⟩
  ·omega
  rw [aaB] at h
  obtain⟨rE,tF,h⟩:=h
  split at h
  rotate_left
  ·cases h
  rename_i ht
  cases h
  refine⟨.bool (!rE),hex _ (eB ⟨fun _ _=>.inl (by rw [uq]; simp),by rw [uq]; simp⟩ _) ?_,SR.of (by simp [VR])⟩
  rw [uq,hy]
  exact qa ⟨_,ht⟩ hs tF _
 ·rename_i p q hp hq
  rw [hp,hq] at h
  rw [hp] at hx; rw [hq] at hy
  have GN:=hx.vr (by rintro k off h; cases h)
  have SQ:=hy.vr (by rintro k off h; cases h)
  rw [aaB] at h
  obtain⟨rE,tF,h⟩:=h
  split at h
  rotate_left
  ·cases h
  rename_i kI
  simp only [aaF,ab4] at kI
  obtain⟨⟨⟨h1,h2⟩,h3⟩,h4⟩:=kI
  cases h
  have hk:=xz (P:=P) 9998 h1 h3 GN SQ c.w
  simp only [VR] at GN SQ
  obtain⟨vx,uq,_⟩:=GN
  obtain⟨vy,RM,_⟩:=SQ
  refine⟨.bool (gL (.agg p) (.agg q)==rE),hex _ ?_ ?_,SR.of (by simp only [VR])⟩
  ·rw [uq,RM]
   rcases oq tF with⟨rfl,rfl⟩| ⟨rfl,rfl⟩<;>simp [eqGuard,h4,program,Sem.run]
  ·rw [uq,RM] at hk ⊢
   rcases oq tF with⟨rfl,rfl⟩| ⟨rfl,rfl⟩
   ·show ((do pure (.bool (←Op.equal t (.agg vx) (.agg vy)))):Sem Value).run P c.w=_
    have Pp:(Op.equal t (.agg vx) (.agg vy)).run P c.w=_:=hk
    simp [Pp]
   ·show ((do pure (.bool (!(←Op.equal t (.agg vx) (.agg vy))))):Sem Value).run P c.w=_
    have Pp:(Op.equal t (.agg vx) (.agg vy)).run P c.w=_:=hk
    simp [Pp]
 ·rw [aaB] at h
  obtain⟨u,hu,h⟩:=h
  rw [aaB] at h
  obtain⟨v,hv,h⟩:=h
  rw [aaB] at h
  obtain⟨r,hr,h⟩:=h
  have h1:=lN hu (hx.vr (lO hu))
  have h2:=lN hv (hy.vr (lO hv))
  have h3:=CF hu
  exact⟨r,hex _ (eB ⟨fun p _=>.inl (by rw [h1]; exact h3.1 p),by rw [h1]; exact h3.2⟩ _) (by rw [h1,h2]; exact k7 _ hr),SR.of (om h)⟩
theorem Kr (hd:gN n ds o){op:UnOp}{t:TypeId}{x:Operand}(ho:o.op = .unOp op t x){z:AV}(h:((b8 s.ρ x).gp.bind fun a=>(jl P (Op.unary op a)).bind pR)=some z):jW P L0 c0 n ds o s (s.set o.dst z):=by
 refine gh hd fun a c Lo lam f hn=>?_
 rw [aaB] at h
 obtain⟨u,hu,h⟩:=h
 rw [aaB] at h
 obtain⟨r,hr,h⟩:=h
 have h1:=lN hu ((bT f x).vr (lO hu))
 refine⟨r,?_,SR.of (om h)⟩
 have:=k7 (P:=P) c.w hr
 rw [←h1] at this
 simp [execOp,ho,this]
theorem DQ (hd:gN n ds o){x:Operand}(ho:o.op = .move x∨o.op = .assign x):jW P L0 c0 n ds o s (s.set o.dst (b8 s.ρ x)):=
 gh hd fun a c Lo lam f hn=>⟨a.eval x,by rcases ho with ho | ho<;>simp [execOp,ho],bT f x⟩
theorem Ks (hd:gN n ds o){k x y:Operand}(ho:o.op = .pick k x y){t:Bool}(h:uN (b8 s.ρ k)=some t):jW P L0 c0 n ds o s (s.set o.dst (if t then b8 s.ρ x else b8 s.ρ y)):=by
 refine gh hd fun a c Lo lam f hn=>?_
 have hk:=bT f k
 unfold uN at h
 split at h
 ·rename_i b hb
  cases h
  rw [hb] at hk
  simp only [SR,VR] at hk
  refine⟨if t then a.eval x else a.eval y,by simp [execOp,ho,hk,asBool],?_⟩
  cases t
  ·exact bT f y
  ·exact bT f x
 ·cases h
theorem As (hd:gN n ds o){x:Operand}(ho:o.op = .nilCheck x){z:AV}(h:rK (b8 s.ρ x)=some z):jW P L0 c0 n ds o s (s.set o.dst z):=by
 refine gh hd fun a c Lo lam f hn=>?_
 have hx:=bT f x
 have hp:(∃ad,a.eval x = .pointer (some ad))∧z=b8 s.ρ x:=by
  unfold rK at h
  split at h
  ·rename_i id off heq
   cases h
   rw [heq] at hx
   simp only [SR,VR] at hx
   obtain⟨_,ad,h1,_⟩:=hx
   exact⟨⟨ad,h1⟩,heq.symm⟩
  ·rename_i k off heq
   cases h
   rw [heq] at hx
   simp only [SR] at hx
   exact⟨⟨_,hx.1⟩,heq.symm⟩
  ·rename_i cs off heq
   cases h
   rw [heq] at hx
   simp only [SR,VR] at hx
   obtain⟨b,o',h1,_⟩:=hx
   exact⟨⟨_,h1⟩,heq.symm⟩
  ·cases h
 obtain⟨⟨ad,hp⟩,rfl⟩:=hp
 exact⟨a.eval x,by simp [execOp,ho,hp],hx⟩
theorem ot {c:Cx}{Lo:Nat→Prop}{lam:Nat→Nat}{a:Act}(f:Fr L0 c Lo lam ds s a):∀xs:List Operand,(∀x∈xs,∀k off,b8 s.ρ x≠.lp k off)→VRs c (un L0 Lo) (xs.map (b8 s.ρ)) (xs.map a.eval)
 | [],_=>trivial
 | x::xs,h=>⟨(bT f x).vr (h x (by simp)),ot f xs fun y hy=>h y (by simp [hy])⟩
theorem Fz {x:AV}(h:x.dp=true):∀k off,x≠.lp k off:=by rintro k off rfl; simp [AV.dp] at h
theorem Au (hd:gN n ds o){CG:FuncId}{first cap:Array Operand}(ho:o.op = .makeFunc (.func CG) first cap)(hf:first.isEmpty=true)(hc:(cap.toList.map (b8 s.ρ)).all AV.dp=true):jW P L0 c0 n ds o s (s.set o.dst (.fn CG (cap.toList.map (b8 s.ρ)))):=by
 refine gh hd fun a c Lo lam f hn=>?_
 have PI:first = #[]:=by simpa using hf
 subst PI
 refine⟨.func (.func CG) #[] (cap.map a.eval),by simp [execOp,ho,Instr.makeFunc],SR.of ?_⟩
 simp only [VR]
 refine⟨_,rfl,?_⟩
 rw [Array.toList_map]
 refine ot f _ fun x hx=>Fz ?_
 rw [abd] at hc
 exact hc _ (aba.2 ⟨x,hx,rfl⟩)
theorem CH (hd:gN n ds o){x:Operand}{i:Nat}(ho:o.op = .extract x i){z:AV}(h:uO (b8 s.ρ x) i=some z):jW P L0 c0 n ds o s (s.set o.dst z):=by
 refine gh hd fun a c Lo lam f hn=>?_
 have hx:=bT f x
 cases heq:b8 s.ρ x<;>rw [heq] at h hx<;>simp only [uO] at h<;>try (cases h; done)
 rename_i vs
 simp only [SR,VR] at hx
 obtain⟨us,uq,GM⟩:=hx
 obtain⟨v,hv,hr⟩:=GM.get i z h
 have SS:us[i]? = some v:=by simpa using hv
 exact⟨v,by simp [execOp,ho,uq,Instr.extract,SS],SR.of hr⟩
theorem sY {op:Value→Value→Sem Value}:∀(vs:List Value) (v r:Value) (w:World),mo P op v vs=some r→(vs.foldlM op v).run P w = .ok r w
 | [],v,r,w,h=>by simp only [mo,aaD] at h; subst h; rfl
 | x::xs,v,r,w,h=>by
  simp only [mo,aaB] at h
  obtain⟨u,h1,h2⟩:=h
  simp only [List.foldlM_cons,Sem.run_bind,k7 w h1,Result.andThen_ok]
  exact sY xs u r w h2
theorem xH (hd:gN n ds o){b:Builtin}{DR:Array TypeId}{args:Array Operand}(ho:o.op = .call {callee:=.builtin b,args:=args,argTypes:=DR}){op:Value→Value→Sem Value}(hb:(b = .min∧op=Builtin.min2)∨(b = .max∧op=Builtin.max2))
  {x:AV} {xs:List AV} (he:args.toList.map (b8 s.ρ)=x::xs) {v u:Value} {vs:List Value} (hx:x.gp=some v) (hxs:jK xs=some vs) (hf:mo P op v vs=some u) {z:AV} (hz:pR u=some z):jW P L0 c0 n ds o s (s.set o.dst z):=by
 refine gh hd fun a c Lo lam f hn=>?_
 refine⟨u,?_,SR.of (om hz)⟩
 have hne:∀q:Operand,∀k off,b8 s.ρ q = .lp k off→q∉args.toList:=by
  intro q k off hq hm
  have Av:AV.lp k off∈x::xs:=by rw [←he,←hq]; exact aba.2 ⟨q,hm,rfl⟩
  rcases abb.1 Av with h1 | h1
  ·exact lO hx k off h1.symm
  ·have:∀(ys:List AV) (us:List Value),jK ys=some us→AV.lp k off∉ys:=by
    intro ys
    induction ys with
    | nil=>intro us _ h; cases h
    | cons y ys ih=>
     intro us hu hm
     simp only [jK,aaB] at hu
     obtain⟨u1,h2,us1,h3,_⟩:=hu
     rcases abb.1 hm with h4 | h4
     ·exact lO h2 k off h4.symm
     ·exact ih _ h3 h4
   exact this _ _ hxs h1
 have DM:=ot f args.toList (fun q hq k off h=>hne q k off h hq)
 rw [he] at DM
 have lT:args.toList.map a.eval=v::vs:=rP (xs:=x::xs) (us:=v::vs) (by simp [jK,hx,hxs]) DM
 have hr:=sY vs v u c.w hf
 have hargs:args.map a.eval=(v::vs).toArray:=by rw [←lT]; apply acn; simp
 rcases hb with⟨rfl,rfl⟩| ⟨rfl,rfl⟩
 ·simp [execOp,ho,resolve,invoke,builtin,Builtin.min_,hargs,hr]
 ·simp [execOp,ho,resolve,invoke,builtin,Builtin.max_,hargs,hr]
end
end Go.R
namespace Go.R
open Go
def CallOK (P:Program)(cf:CallF):Prop:=
 ∀f args h r h',cf f args h=some (r,h')→
  (∀(vs:Array Value) (w:World),(callFunc f vs).run P w = .ok (.enter f vs) w)∧
  ∀(L0:Nat→Prop) (c:Cx) (vs:List Value),c.h=h→c.base≤c.w.heap.size→HRel c L0→VRs c L0 args vs→
   Calls P f vs.toArray c.w fun e w'=>∃c' v,e = .returned v∧c'.w=w'∧c'.h=h'∧VR c' L0 r v∧HRel c' L0∧Ext c none0 c' none0
section
variable {P:Program}{L0:Nat→Prop}{c0:Cx}{n:Nat}{ds:List Nat}{o:Oper}{s:RS}
theorem Fr.call {c c':Cx}{Lo:Nat→Prop}{lam:Nat→Nat}{a:Act}(f:Fr L0 c Lo lam ds s a)(hr:HRel c' (un L0 Lo))(e:Ext c none0 c' none0) :
  Ext c Lo c' Lo∧Fr L0 c' Lo lam ds {s with h:=c'.h} a:=by
 have Ca:∀b,Lo b→b<c.w.heap.size:=fun b hb=>f.rel.bd b (.inr hb)
 have e':Ext c Lo c' Lo:=
  ⟨e.next,e.live,e.size,fun b h1 _ h3=>e.keep b h1 (fun h=>h.elim) h3,e.exact,e.base,e.LI,fun _ h=>h,fun _ h=>.inl h,e.os,e.tape,e.output⟩
 refine⟨e',rfl,hr,fun t=>(f.slot t).ext e' (fun _ _ _=>⟨rfl,fun h=>h⟩),fun k cs hb=>?_,f.inj,f.tidy,f.defers,fun b hb=>by rw [e.base]; exact f.GS b hb⟩
 have ob:=f.box k cs hb
 exact ob.ext e' (e.keep _ ob.plain.lt (fun h=>h.elim) fun id hl he=>f.rel.out id hl (he ▸ .inr ob.own))
theorem Kt {cf:CallF}(hcf:CallOK P cf)(hb0:c0.base≤c0.w.heap.size)(hd:gN n ds o){fx:Operand}{args:Array Operand}{DR:Array TypeId}(ho:o.op = .call {callee:=.value fx,args:=args,argTypes:=DR}){CG:FuncId}{cap:List AV}
  (hf:b8 s.ρ fx = .fn CG cap) (ha:(args.toList.map (b8 s.ρ)).all AV.mO=true) {r:AV} {h':AHeap} (h:cf CG (args.toList.map (b8 s.ρ)++cap) s.h=some (r,h')) :
  jW P L0 c0 n ds o s ({s with h:=h'}.set o.dst r):=by
 rintro a w K Q ⟨hn,c,Lo,lam,rfl,f,e0⟩ hK
 obtain⟨hin,hcall⟩:=hcf _ _ _ _ _ h
 have SU:=bT f fx
 rw [hf] at SU
 simp only [SR,VR] at SU
 obtain⟨cv,Yf,Pt⟩:=SU
 have hargs:VRs c (un L0 Lo) (args.toList.map (b8 s.ρ)) (args.toList.map a.eval):=by
  refine ot f _ fun x hx=>u6 ?_
  rw [abd] at ha
  exact ha _ (aba.2 ⟨x,hx,rfl⟩)
 have lT:=VRs.append hargs Pt
 unfold Oper.wp
 have:(execOp a.eval o).run P c.w = .ok (.enter CG (args.map a.eval++cv)) c.w:=by
  simp [execOp,ho,resolve,Yf,Deferred.ofValue,invoke,hin]
 rw [this,Oper.upon_enter]
 have hc:=hcall (un L0 Lo) c _ f.h (kr e0 hb0) f.rel lT
 have he:(args.toList.map a.eval++cv.toList).toArray=args.map a.eval++cv:=by
  apply acn; simp
 rw [he] at hc
 refine Calls.mono hc ?_
 rintro e w' ⟨c',v,rfl,rfl,hh,hv,hrel,MO⟩
 obtain⟨e',f'⟩:=f.call hrel MO
 rw [hh] at f'
 exact hK _ _ ⟨(ij _ _ _).trans hn,c',Lo,lam,rfl,f'.set (SR.of hv) (fun t ht=>by rw [hn]; exact hd t ht),e0.trans e'⟩
theorem Option.map_some' {α β:Type}{x:Option α}{g:α→β}{y:β}(h:x.map g=some y):∃z,x=some z∧g z=y:=aaC.1 h
theorem xI {aN:List Nat}{cs:List AV}{s':RS}(h:iY s aN ds o cs=some s'):cs.all AV.dp=true:=by
 unfold iY at h
 split at h
 ·assumption
 ·cases h
theorem MP {cf:CallF}(hcf:CallOK P cf)(hb0:c0.base≤c0.w.heap.size)(hd:gN n ds o){aN:List Nat}{s':RS}(h:yC P cf aN ds s o=some s'):jW P L0 c0 n ds o s s':=by
 have ep:∀{x:Option AV},(x.map fun x=>s.set o.dst x)=some s'→(∀z,x=some z→jW P L0 c0 n ds o s (s.set o.dst z))→jW P L0 c0 n ds o s s':=by
  intro x hx hz
  obtain⟨z,rfl,rfl⟩:=Option.map_some' hx
  exact hz z rfl
 unfold yC Cp at h
 dsimp only at h
 split at h
 ·rename_i x ho; cases h; exact DQ hd (.inl ho)
 ·rename_i x ho; cases h; exact DQ hd (.inr ho)
 ·rename_i k x y ho
  obtain⟨t,ht,rfl⟩:=Option.map_some' h
  exact Ks hd ho ht
 ·
  rename_i t ho
  rw [aaB] at h
  obtain⟨z,hz,h⟩:=h
  refine xD hb0 hd t h fun a c Lo lam f hn=>?_
  have pV:=xI h
  obtain⟨v,h1,h2,h3⟩:=Fu (P:=P) (c:=c) hz (Ko pV) (un L0 Lo)
  exact⟨v,by simp [execOp,ho,h1],Kn h2,h3⟩
 ·
  rename_i t x ho
  refine xD hb0 hd t h fun a c Lo lam f hn=>?_
  have pV:(b8 s.ρ x).cells.all AV.dp=true:=xI h
  obtain⟨h1,h2⟩:=jX pV ((bT f x).uo pV)
  exact⟨a.eval x,by simp [execOp,ho,Instr.box,newVar,newRow],h1,h2⟩
 ·rename_i t ps ho
  refine ep h fun z hz=>gh hd fun a c Lo lam f hn=>?_
  obtain⟨v,hr,hv⟩:=run_build (P:=P) (pX f ps.toList) hz
  refine⟨v,?_,SR.of hv⟩
  have he:ps.map (fun (i,x)=>(i,a.eval x))=(ps.toList.map fun (i,x)=>(i,a.eval x)).toArray:=by
   apply acn; simp
  simp only [execOp,ho,Sem.run_bind]
  rw [he,hr]
  rfl
 ·rename_i t k ps ho
  rw [aaC] at h
  obtain⟨z,hz,rfl⟩:=h
  exact uZ hb0 hd ho aN hz
 ·
  rename_i t x ho
  refine ep h fun z hz=>gh hd fun a c Lo lam f hn=>?_
  obtain⟨r,hr,hv⟩:=uS (P:=P) f (t:=t) (bT f x) hz
  exact⟨r,by simp [execOp,ho,hr],SR.of hv⟩
 ·
  rename_i t x y ho
  split at h
  ·cases h
  rename_i tD
  exact G2 hb0 hd ho (by simpa using tD) h
 ·rename_i ho; exact ep h fun z hz=>As hd ho hz
 ·rename_i ho; exact ep h fun z hz=>Ha hd ho hz
 ·rename_i ho; exact ep h fun z hz=>Kr hd ho hz
 ·rename_i ho; exact ep h fun z hz=>CE hb0 hd ho hz
 ·rename_i CG first cap ho
  split at h
  ·rename_i hh
   refine ep h fun z hz=>?_
   cases hz
   exact Au hd ho hh.1 hh.2
  ·cases h
 ·rename_i ho; cases h; exact Cz hb0 hd ho
 ·rename_i ho; exact yK hb0 hd ho h
 ·
  rename_i t x lo hi mx ho
  refine ep h fun z hz=>gh hd fun a c Lo lam f hn=>?_
  have hs:∀(q:Option Operand) (y:AV),q.map (b8 s.ρ)=some y→∃v,q.map a.eval=some v∧SR c L0 Lo lam s.bx y v:=by
   intro q y hq
   obtain⟨u,rfl,rfl⟩:=Option.map_some' hq
   exact⟨_,rfl,bT f u⟩
  have OP:∀(q:Option Operand),q.map (b8 s.ρ)=none→q.map a.eval=none:=by
   intro q hq
   simpa using hq
  obtain⟨r,hr,hv⟩:=Cv (P:=P) (bT f x) (hs lo) (OP lo) (hs hi) (OP hi) (hs mx) (OP mx) hz
  exact⟨r,by simp [execOp,ho,hr],SR.of hv⟩
 ·rename_i t x i ho
  refine ep h fun z hz=>gh hd fun a c Lo lam f hn=>?_
  obtain⟨r,hr,hv⟩:=Ag (P:=P) (bT f x) hz
  exact⟨r,by simp [execOp,ho,hr],hv⟩
 ·rename_i t x i ho
  refine ep h fun z hz=>gh hd fun a c Lo lam f hn=>?_
  obtain⟨r,hr,hv⟩:=Cs (P:=P) (bT f x) hz
  exact⟨r,by simp [execOp,ho,hr],SR.of hv⟩
 ·rename_i t x i ho
  refine ep h fun z hz=>gh hd fun a c Lo lam f hn=>?_
  obtain⟨r,hr,hv⟩:=Af (P:=P) (bT f x) (bT f i) hz
  exact⟨r,by simp [execOp,ho,hr],hv⟩
 ·rename_i t x i ho
  refine ep h fun z hz=>gh hd fun a c Lo lam f hn=>?_
  obtain⟨r,hr,hv⟩:=Cu (P:=P) (bT f x) (bT f i) hz
  exact⟨r,by simp [execOp,ho,hr],SR.of hv⟩
 ·rename_i t m k ok ho
  refine ep h fun z hz=>gh hd fun a c Lo lam f hn=>?_
  obtain⟨r,hr,hv⟩:=Al (P:=P) f (bT f m) (bT f k) hz
  exact⟨r,by simp [execOp,ho,hr],SR.of hv⟩
 ·rename_i t m k x ho
  split at h
  ·cases h
  rename_i tD
  obtain⟨h',hh,rfl⟩:=Option.map_some' h
  exact pZ hb0 (.inl ho) (by simpa using tD) hh
 ·rename_i t m k x ho
  split at h
  ·cases h
  rename_i tD
  obtain⟨h',hh,rfl⟩:=Option.map_some' h
  exact pZ hb0 (.inr ho) (by simpa using tD) hh
 ·rename_i ho; exact ep h fun z hz=>CH hd ho hz
 ·
  rename_i b args DR ho
  unfold ie at h
  split at h
  ·rename_i t x hts hargs
   have CI:DR = #[t]:=by apply acn; simpa using hts
   obtain⟨q,hq,rfl⟩:∃q,args = #[q]∧b8 s.ρ q=x:=by
    cases args with | mk l=>
    rcases l with _ | ⟨q,_ | ⟨q2,l⟩⟩<;>simp at hargs
    exact⟨q,rfl,hargs⟩
   subst CI hq
   refine ep h fun z hz=>gh hd fun a c Lo lam f hn=>?_
   obtain⟨r,hr,hv⟩:=GY (P:=P) f #[t] rfl (bT f q) hz o.type
   exact⟨r,by simp [execOp,ho,resolve,invoke,builtin,hr],SR.of hv⟩
  ·rename_i t t2 x y hts hargs
   have CI:DR = #[t,t2]:=by apply acn; simpa using hts
   obtain⟨q,q2,hq,rfl,rfl⟩:∃q q2,args = #[q,q2]∧b8 s.ρ q=x∧b8 s.ρ q2=y:=by
    cases args with | mk l=>
    rcases l with _ | ⟨q,_ | ⟨q2,_ | ⟨q3,l⟩⟩⟩<;>simp at hargs
    exact⟨q,q2,rfl,hargs.1,hargs.2⟩
   subst CI hq
   exact Fw hb0 hd ho h
  ·rename_i t t2 x y hts hargs
   have CI:DR = #[t,t2]:=by apply acn; simpa using hts
   obtain⟨q,q2,hq,rfl,rfl⟩:∃q q2,args = #[q,q2]∧b8 s.ρ q=x∧b8 s.ρ q2=y:=by
    cases args with | mk l=>
    rcases l with _ | ⟨q,_ | ⟨q2,_ | ⟨q3,l⟩⟩⟩<;>simp at hargs
    exact⟨q,q2,rfl,hargs.1,hargs.2⟩
   subst CI hq
   obtain⟨⟨z,h'⟩,hh,rfl⟩:=Option.map_some' h
   exact Kq hb0 hd ho hh
  ·rename_i t x hts hargs
   have CI:DR = #[t]:=by apply acn; simpa using hts
   obtain⟨q,hq,rfl⟩:∃q,args = #[q]∧b8 s.ρ q=x:=by
    cases args with | mk l=>
    rcases l with _ | ⟨q,_ | ⟨q2,l⟩⟩<;>simp at hargs
    exact⟨q,rfl,hargs⟩
   subst CI hq
   obtain⟨h',hh,rfl⟩:=Option.map_some' h
   exact G9 hb0 hd ho hh
  ·rename_i x xs hargs
   rw [aaB] at h
   obtain⟨v,hv,h⟩:=h
   rw [aaB] at h
   obtain⟨vs,GM,h⟩:=h
   rw [aaB] at h
   obtain⟨u,hu,h⟩:=h
   exact ep h fun z hz=>xH hd ho (.inl ⟨rfl,rfl⟩) hargs hv GM hu hz
  ·rename_i x xs hargs
   rw [aaB] at h
   obtain⟨v,hv,h⟩:=h
   rw [aaB] at h
   obtain⟨vs,GM,h⟩:=h
   rw [aaB] at h
   obtain⟨u,hu,h⟩:=h
   exact ep h fun z hz=>xH hd ho (.inr ⟨rfl,rfl⟩) hargs hv GM hu hz
  ·cases h
 ·
  rename_i fx args DR ho
  split at h
  ·rename_i CG cap heq
   split at h
   ·rename_i ha
    obtain⟨⟨r,h'⟩,hh,rfl⟩:=Option.map_some' h
    exact Kt hcf hb0 hd ho heq ha hh
   ·cases h
  ·cases h
 ·cases h
end
end Go.R
namespace Go.R
open Go
section
variable {P:Program}{L0:Nat→Prop}{c0:Cx}{n:Nat}{ds:List Nat}{s:RS}
theorem Fr.Hb {c:Cx}{Lo:Nat→Prop}{lam:Nat→Nat}{a:Act}(f:Fr L0 c Lo lam ds s a)(id:Nat) :
  Ext c Lo ⟨c.β,c.h.kill id,c.w,c.base⟩ Lo∧Fr L0 ⟨c.β,c.h.kill id,c.w,c.base⟩ Lo lam ds {s with h:=s.h.kill id} a∧(Live c.h id→RO ⟨c.β,c.h.kill id,c.w,c.base⟩ (un L0 Lo) (c.β id).1):=by
 have hg:∀i,(c.h.kill id).get i=if i=id then none else c.h.get i:=fun i=>by
  simp only [AHeap.kill,beq_nat]
  by_cases h:i=id<;>simp [h]
 have oo:∀i,Live (c.h.kill id) i→i≠id∧Live c.h i:=fun i hl=>by
  have h2:=hl.2
  rw [hg] at h2
  by_cases h:i=id
  ·rw [if_pos h] at h2; cases h2
  ·rw [if_neg h] at h2
   obtain⟨o,ho⟩:=abh.1 h2
   exact⟨h,f.rel.lt _ _ ho,h2⟩
 have e:Ext c Lo ⟨c.β,c.h.kill id,c.w,c.base⟩ Lo:=
  ⟨abQ _,fun i hi hl=>⟨(oo i hl).2,rfl,rfl⟩,aaE _,fun _ _ _ _=>.inl rfl,fun _ _=>rfl,rfl,fun i hl=>.inr ⟨i,(oo i hl).2,rfl⟩,fun _ h=>h,fun _ h=>.inl h,rfl,rfl,rfl⟩
 refine⟨e,⟨by rw [←f.h],⟨fun i o ho=>?_,fun i o ho=>?_,fun i j hi hj he=>?_,fun i hi=>?_,f.rel.bd,fun i hi=>?_,(Steady.kill c.h id).wf f.rel.ver⟩,fun t=>?_,fun k cs hb=>?_,f.inj,f.tidy,f.defers,f.GS⟩,fun hl=>⟨fun i hi he=>?_,f.rel.out id hl⟩⟩
 ·replace ho:(c.h.kill id).get i=some o:=ho
  rw [hg] at ho
  by_cases h:i=id
  ·rw [if_pos h] at ho; cases ho
  ·rw [if_neg h] at ho; exact abK (f.rel.lt _ _ ho)
 ·replace ho:(c.h.kill id).get i=some o:=ho
  rw [hg] at ho
  by_cases h:i=id
  ·rw [if_pos h] at ho; cases ho
  ·rw [if_neg h] at ho
   exact (f.rel.obj i o ho).ext e rfl
 ·exact f.rel.inj i j (oo i hi).2 (oo j hj).2 he
 ·exact f.rel.out i (oo i hi).2
 ·exact f.rel.low i (oo i hi).2
 ·exact (f.slot t).ext e (fun _ _ _=>⟨rfl,fun h=>h⟩)
 ·have hb2:=f.box k cs hb
  exact hb2.ext e (.inl rfl)
 ·obtain⟨h1,h2⟩:=oo i hi
  exact h1 (f.rel.inj i id h2 hl he)
theorem Ku {c:Cx}{Lo:Nat→Prop}{lam:Nat→Nat}{a:Act}(f:Fr L0 c Lo lam ds s a){x y:AV}{h':AHeap}(h:Fk s.h x=some (y,h')) :
  Ext c Lo ⟨c.β,h',c.w,c.base⟩ Lo∧Fr L0 ⟨c.β,h',c.w,c.base⟩ Lo lam ds {s with h:=h'} a∧(∀v,VR c (un L0 Lo) x v→VR ⟨c.β,h',c.w,c.base⟩ (un L0 Lo) y v)∧∀i,Live h' i→Live c.h i:=by
 have same:Ext c Lo ⟨c.β,s.h,c.w,c.base⟩ Lo∧Fr L0 ⟨c.β,s.h,c.w,c.base⟩ Lo lam ds {s with h:=s.h} a∧(⟨c.β,s.h,c.w,c.base⟩:Cx)=c:=by
  have e:(⟨c.β,s.h,c.w,c.base⟩:Cx)=c:=by rw [←f.h]
  rw [e]; exact⟨Ext.refl _ _,f,rfl⟩
 unfold Fk at h
 split at h
 ·simp only [aaD,aaJ] at h
  obtain⟨rfl,rfl⟩:=h
  obtain⟨h1,h2,h3⟩:=same
  exact⟨h1,h2,fun v hv=>by rw [h3]; exact hv,fun i hi=>by rw [f.h]; exact hi⟩
 cases x with
 | rs id off len jG=>
  simp only at h
  split at h
  ·rename_i hid
   split at h
   rotate_left
   ·cases h
   rename_i hl0
   simp only [aaD,aaJ] at h
   obtain⟨rfl,rfl⟩:=h
   obtain⟨h1,h2,h3⟩:=same
   refine⟨h1,h2,fun v hv=>?_,fun i hi=>by rw [f.h]; exact hi⟩
   simp only [VR] at hv ⊢
   rcases hv with⟨_,_,_,a,rfl⟩| hv
   ·exact⟨a,0,rfl,aaE _,fun _=>rfl,.inr ⟨trivial,rfl⟩,.inl trivial⟩
   ·exact absurd hid hv.1
  rename_i lP
  rw [aaB] at h
  obtain⟨ob,ho,h⟩:=h
  cases ob with
  | map es=>cases h
  | row t cs=>cases h
  | cells cs=>
  simp only at h
  split at h
  rotate_left
  ·cases h
  rename_i hle
  simp only [aaD,aaJ] at h
  obtain⟨rfl,rfl⟩:=h
  rw [←f.h] at ho
  have hl:Live c.h id:=⟨f.rel.lt _ _ ho,by simp [ho]⟩
  obtain⟨e,f',LJ⟩:=f.Hb id
  have hb:(⟨c.β,s.h.kill id,c.w,c.base⟩:Cx)=⟨c.β,c.h.kill id,c.w,c.base⟩:=by rw [f.h]
  rw [hb]
  refine⟨e,f',fun v hv=>?_,fun i hi=>?_⟩
  ·simp only [VR] at hv ⊢
   rcases hv with hv | ⟨_,_,a,cap,rfl,h1,h2,h3⟩
   ·exact absurd hv.1 lP
   obtain⟨m,_,_,hc⟩:=f.rel.obj _ _ ho
   refine⟨a,cap,rfl,h1,by simp,.inl h2,?_⟩
   rcases h3 hl with⟨h4,_⟩| h4
   ·exact .inr ⟨_,_,h4,LJ hl,by simp,Cells.move e _ _ _ _ _ (fun i hi=>rfl) ((hc.drop off).take (len*jG))⟩
   ·left
    have hz:len=0:=by omega
    subst hz
    simp
  ·have Cb:=hi.2
   simp only [AHeap.kill,beq_nat] at Cb
   by_cases h:i=id
   ·simp [h] at Cb
   ·simp only [h,decide_false,cond_false] at Cb
    rw [f.h]
    obtain⟨o,OQ⟩:=abh.1 Cb
    have:=f.rel.lt i o (by rw [f.h]; exact OQ)
    rw [f.h] at this
    exact⟨this,Cb⟩
 | _=>cases h
theorem DS:∀{cs:List AV} {c:Cx} {Lo:Nat→Prop} {lam:Nat→Nat} {a:Act} {s:RS} {ys:List AV} {h':AHeap},Fr L0 c Lo lam ds s a→yF s.h cs=some (ys,h')→
  Ext c Lo ⟨c.β,h',c.w,c.base⟩ Lo∧Fr L0 ⟨c.β,h',c.w,c.base⟩ Lo lam ds {s with h:=h'} a∧(∀b o,Cells c (un L0 Lo) cs b o→Cells ⟨c.β,h',c.w,c.base⟩ (un L0 Lo) ys b o)∧∀i,Live h' i→Live c.h i
 | [],c,Lo,lam,a,s,ys,h',f,h=>by
  cases h
  have e:(⟨c.β,s.h,c.w,c.base⟩:Cx)=c:=by rw [←f.h]
  rw [e]
  exact⟨Ext.refl _ _,f,fun _ _ h=>h,fun i hi=>by rw [f.h]; exact hi⟩
 | x::cs,c,Lo,lam,a,s,ys,h',f,h=>by
  simp only [yF,aaB,aaC] at h
  obtain⟨⟨y,h1⟩,hx,⟨zs,h2⟩,hz,he⟩:=h
  simp only [aaJ] at he
  obtain⟨rfl,rfl⟩:=he
  obtain⟨e1,f1,v1,l1⟩:=Ku f hx
  obtain⟨e2,f2,v2,l2⟩:=DS f1 hz
  refine⟨e1.trans e2,f2,fun b o hc=>?_,fun i hi=>l1 i (l2 i hi)⟩
  obtain⟨⟨v,q1,q2,q3⟩,hc⟩:=hc
  exact⟨⟨v,q1,q2,VR.ext e2 _ _ (v1 v q3)⟩,v2 _ _ (Cells.move e1 _ _ _ _ _ (fun i hi=>rfl) hc)⟩
theorem xJ {h:AHeap}:∀{cs:List AV},ef cs=true→yF h cs=some (cs,h)
 | [],_=>rfl
 | x::cs,hn=>by
  simp only [ef,aaF] at hn
  simp only [yF,Fk,hn.1,if_true,aaA,xJ hn.2,aaG]
theorem Aw {h h':AHeap}{x y:AV}(hz:Fk h x=some (y,h')):Steady h h':=by
 unfold Fk at hz
 split at hz
 ·cases hz; exact Steady.refl _
 split at hz
 ·split at hz
  ·split at hz
   ·cases hz; exact Steady.refl _
   ·cases hz
  rw [aaB] at hz
  obtain⟨o,_,hz⟩:=hz
  split at hz
  ·split at hz
   ·cases hz; exact Steady.kill _ _
   ·cases hz
  ·cases hz
 ·cases hz
theorem sZ:∀{cs ys:List AV} {h h':AHeap},yF h cs=some (ys,h')→Steady h h'
 | [],ys,h,h',hz=>by cases hz; exact Steady.refl _
 | x::cs,ys,h,h',hz=>by
  simp only [yF,aaB,aaC] at hz
  obtain⟨⟨y,h1⟩,hx,⟨zs,h2⟩,hz,he⟩:=hz
  simp only [aaJ] at he
  obtain⟨rfl,rfl⟩:=he
  exact (Aw hx).trans (sZ hz)
theorem DT {c:Cx}{Lo:Nat→Prop}{lam:Nat→Nat}{a:Act}(f:Fr L0 c Lo lam ds s a){k:Nat}{x y:AV}{h':AHeap}(h:lJ k s.h x=some (y,h')) :
  (∀k off,x≠.lp k off)∧(∀k off,y≠.lp k off)∧∃c',c'.w=c.w∧Ext c Lo c' Lo∧Fr L0 c' Lo lam ds {s with h:=h'} a∧∀v,VR c (un L0 Lo) x v→VR c' (un L0 Lo) y v:=by
 cases k with
 | zero=>
  cases x with
  | nils=>
   simp only [lJ,aaD,aaJ] at h
   obtain⟨rfl,rfl⟩:=h
   refine⟨by simp,by simp,c,rfl,Ext.refl _ _,f,fun v hv=>?_⟩
   simp only [VR] at hv ⊢
   exact⟨none,0,hv,aaE _,fun _=>rfl,.inr ⟨trivial,rfl⟩,.inl trivial⟩
  | fz cs m ex=>
   simp only [lJ,aaD,aaJ] at h
   obtain⟨rfl,rfl⟩:=h
   refine⟨by simp,by simp,c,rfl,Ext.refl _ _,f,fun v hv=>?_⟩
   simp only [VR] at hv ⊢
   obtain⟨a,cap,rfl,h1,h2,hs,hc⟩:=hv
   exact⟨a,cap,rfl,h1,by simp,hs,hc.imp id fun ⟨b,o,ha,hr,hex,hc⟩=>⟨b,o,ha,hr,by simp,hc⟩⟩
  | rs id off len jG=>
   simp only [lJ] at h
   split at h
   ·rename_i hid
    split at h
    rotate_left
    ·cases h
    rename_i hl0
    simp only [aaD,aaJ] at h
    obtain⟨rfl,rfl⟩:=h
    refine⟨by simp,by simp,c,rfl,Ext.refl _ _,f,fun v hv=>?_⟩
    simp only [VR] at hv ⊢
    rcases hv with⟨_,_,_,a,rfl⟩| hv
    ·exact⟨a,0,rfl,aaE _,fun _=>rfl,.inr ⟨trivial,rfl⟩,.inl trivial⟩
    ·exact absurd hid hv.1
   rename_i lP
   rw [aaB] at h
   obtain⟨ob,ho,h⟩:=h
   cases ob with
   | map es=>cases h
   | row t cs=>cases h
   | cells cs=>
   simp only at h
   split at h
   rotate_left
   ·cases h
   rename_i hle
   rw [aaC] at h
   obtain⟨⟨fU,h2⟩,hz,he⟩:=h
   simp only [aaJ] at he
   obtain⟨rfl,rfl⟩:=he
   rw [←f.h] at ho
   have hl:Live c.h id:=⟨f.rel.lt _ _ ho,by simp [ho]⟩
   obtain⟨e,f',LJ⟩:=f.Hb id
   obtain⟨e2,f2,hcs,oo⟩:=DS f' hz
   refine⟨by simp,by simp,⟨c.β,h2,c.w,c.base⟩,rfl,e.trans e2,f2,fun v hv=>?_⟩
   simp only [VR] at hv ⊢
   rcases hv with hv | ⟨_,_,a,cap,rfl,h1,h2,h3⟩
   ·exact absurd hv.1 lP
   obtain⟨m,_,_,hc⟩:=f.rel.obj _ _ ho
   refine⟨a,cap,rfl,h1,by simp,.inl h2,?_⟩
   rcases h3 hl with⟨h4,_⟩| h4
   ·exact .inr ⟨_,_,h4,⟨fun i hi=>(LJ hl).1 i (oo i hi),(LJ hl).2⟩,by simp,hcs _ _ (Cells.move e _ _ _ _ _ (fun i hi=>rfl) ((hc.drop off).take (len*jG)))⟩
   ·left
    have hz0:len=0:=by omega
    subst hz0
    simp [yF] at hz
    exact hz.1
  | _=>simp [lJ] at h
 | succ k=>
  have key:(x = .nils∨x = .fz [] 0 true)→y = .rs 0 0 0 (k+1)→h'=s.h→(∀k off,x≠.lp k off)∧(∀k off,y≠.lp k off)∧∃c',c'.w=c.w∧Ext c Lo c' Lo∧Fr L0 c' Lo lam ds {s with h:=h'} a∧∀v,VR c (un L0 Lo) x v→VR c' (un L0 Lo) y v:=by
   rintro hx rfl rfl
   refine⟨by rcases hx with rfl | rfl<;>simp,by simp,c,rfl,Ext.refl _ _,f,fun v hv=>?_⟩
   rcases hx with rfl | rfl
   ·simp only [VR] at hv ⊢
    exact .inl ⟨trivial,trivial,trivial,none,hv⟩
   ·simp only [VR] at hv ⊢
    obtain⟨a,cap,rfl,h1,h2,hs,hc⟩:=hv
    have:=h2 trivial
    subst this
    exact .inl ⟨trivial,trivial,trivial,a,rfl⟩
  unfold lJ at h
  simp only at h
  split at h
  ·simp only [aaD,aaJ] at h
   exact key (.inl rfl) h.1.symm h.2.symm
  ·simp only [aaD,aaJ] at h
   exact key (.inr rfl) h.1.symm h.2.symm
  ·simp only [aaD,aaJ] at h
   obtain⟨rfl,rfl⟩:=h
   exact⟨by simp,by simp,c,rfl,Ext.refl _ _,f,fun v hv=>hv⟩
  ·cases h
theorem Inv.yG {a:Act}{w:World}{p:Nat × Option Nat × Nat}{s':RS}(hi:Inv L0 c0 n ds s a w)(h:yG s p=some s'):Inv L0 c0 n ds s' a w:=by
 obtain⟨hn,c,Lo,lam,rfl,f,e⟩:=hi
 unfold Go.R.yG at h
 split at h
 ·rw [aaC] at h
  obtain⟨⟨y,h'⟩,hz,rfl⟩:=h
  obtain⟨hx,hy,c',hw,e',f',hv⟩:=DT f hz
  refine⟨hn,c',Lo,lam,hw,⟨f'.h,f'.rel,fun t=>?_,f'.box,f'.inj,fun t k off ht he=>?_,f'.defers,f'.GS⟩,e.trans e'⟩
  ·simp only [beq_nat]
   by_cases ht:t=p.1
   ·subst ht
    simp only [decide_true,cond_true]
    exact SR.of (hv _ ((f.slot _).vr hx))
   ·simp only [ht,decide_false,cond_false]
    exact f'.slot t
  ·simp only [beq_nat] at he
   by_cases V7:t=p.1
   ·simp only [V7,decide_true,cond_true] at he
    exact absurd he (hy _ _)
   ·simp only [V7,decide_false,cond_false] at he
    exact f'.tidy t k off ht he
 ·rename_i i hp
  split at h
  rotate_left
  ·cases h
  rename_i cs hcs
  simp only [aaB,aaC] at h
  obtain⟨x,hx,⟨y,h'⟩,hz,rfl⟩:=h
  obtain⟨hx1,hy,c',hw,e',f',hv⟩:=DT f hz
  have Ce:∀k,(bif abp k p.1 then some (cs.set i y) else s.bx k).isSome=(s.bx k).isSome:=fun k=>by
   simp only [beq_nat]
   by_cases hk:k=p.1
   ·subst hk; simp [hcs]
   ·simp [hk]
  refine⟨hn,c',Lo,lam,hw,⟨f'.h,f'.rel,fun t=>?_,fun k fU hb=>?_,fun k k' h1 h2=>f'.inj k k' (by rw [←Ce]; exact h1) (by rw [←Ce]; exact h2),f'.tidy,f'.defers,f'.GS⟩,e.trans e'⟩
  ·have:=f'.slot t
   unfold SR at this ⊢
   split
   ·rename_i k off he
    rw [he] at this
    simp only at this
    exact⟨this.1,by rw [Ce]; exact this.2⟩
   ·rename_i x' GN
    split at this
    ·rename_i he; exact absurd he (GN _ _)
    ·exact this
  ·simp only [beq_nat] at hb
   by_cases hk:k=p.1
   ·subst hk
    simp only [decide_true,cond_true,aaD] at hb
    subst hb
    have ob:=f.box _ cs hcs
    have SV:=f'.box _ cs hcs
    refine⟨SV.own,by rw [aaN]; exact SV.plain,?_⟩
    obtain⟨vs,q1,q2,q3⟩:=ob.cells.vals
    obtain⟨Yg,r1,r2,r3⟩:=SV.cells.vals
    have hlen:vs=Yg:=by
     apply abF
     intro j
     by_cases hj:j<cs.length
     ·rw [←q2 j hj,←r2 j hj,hw]
     ·rw [aa1 (by rw [←q1.length]; omega),aa1 (by rw [←r1.length]; omega)]
    subst hlen
    obtain⟨u,hu,hr⟩:=VRs.get q1 i x hx
    have CD:VRs c' (un L0 Lo) (cs.set i y) vs:=by
     have:=VRs.set (hv u hr) i r1
     have OL:vs.set i u=vs:=by
      apply abF
      intro j
      rw [ab5]
      by_cases hji:i=j
      ·subst hji
       rw [if_pos rfl,hu]
       have:=(aaK.1 hu).1
       simp [this]
      ·rw [if_neg hji]
     rwa [OL] at this
    exact Cells.of_vals CD (fun j hj=>by rw [r2 j (by rw [r1.length]; exact hj)]) r3
   ·simp only [hk,decide_false,cond_false] at hb
    exact f'.box k fU hb
theorem Inv.mw {a:Act}{w:World}:∀{l:List (Nat × Option Nat × Nat)} {s s':RS},Inv L0 c0 n ds s a w→mw s l=some s'→Inv L0 c0 n ds s' a w
 | [],s,s',hi,h=>by cases h; exact hi
 | p::ps,s,s',hi,h=>by
  simp only [Go.R.mw,aaB] at h
  obtain⟨s1,h1,h2⟩:=h
  exact Inv.mw (hi.yG h1) h2
theorem Kv {A:b9}{r:Nat}{s:RS}:(s.oP A r).h=s.h:=by
 unfold RS.oP
 split<;>rfl
theorem s5 {k:Nat}{h h':AHeap}{x y:AV}(hz:lJ k h x=some (y,h')):Steady h h':=by
 unfold lJ at hz
 split at hz
 ·split at hz
  ·cases hz; exact Steady.refl _
  ·split at hz
   ·split at hz
    ·cases hz; exact Steady.refl _
    ·cases hz
   rw [aaB] at hz
   obtain⟨o,_,hz⟩:=hz
   split at hz
   ·split at hz
    ·rw [aaC] at hz
     obtain⟨⟨fU,h2⟩,hz,he⟩:=hz
     simp only [aaJ] at he
     obtain⟨rfl,rfl⟩:=he
     exact (Steady.kill _ _).trans (sZ hz)
    ·cases hz
   ·cases hz
  ·cases hz; exact Steady.refl _
  ·cases hz
 ·split at hz<;>cases hz<;>exact Steady.refl _
theorem Ax {s s':RS}{p:Nat × Option Nat × Nat}(hz:yG s p=some s'):Steady s.h s'.h:=by
 unfold yG at hz
 split at hz
 ·rw [aaC] at hz
  obtain⟨⟨y,h'⟩,hz,rfl⟩:=hz
  exact s5 hz
 ·split at hz
  ·simp only [aaB,aaC] at hz
   obtain⟨x,hx,⟨y,h'⟩,hz,rfl⟩:=hz
   exact s5 hz
  ·cases hz
theorem nu:∀{l:List (Nat × Option Nat × Nat)} {s s':RS},mw s l=some s'→Steady s.h s'.h
 | [],s,s',h=>by cases h; exact Steady.refl _
 | p::ps,s,s',h=>by
  simp only [mw,aaB] at h
  obtain⟨s1,h1,h2⟩:=h
  exact (Ax h1).trans (nu h2)
end
end Go.R
namespace Go.R
open Go
section
variable {P:Program}{L0:Nat→Prop}{c0:Cx}{n:Nat}{ds:List Nat}{o:Oper}{s:RS}
theorem FA {ops:Array Oper}{c:Cx}{Lo:Nat→Prop}{lam:Nat→Nat}{a:Act}(f:Fr L0 c Lo lam ds s a){b:Bool}(h:iE ops.toList s.ρ o=some b):Region.wanted o (yielded ops a.tmps)=b:=by
 unfold iE at h
 unfold Region.wanted
 split at h
 ·rename_i hg; rw [hg]; cases h; rfl
 ·rename_i j want hg
  rw [hg]
  rw [aaB] at h
  obtain⟨d,hd,h⟩:=h
  have FB:(ops[j]?).bind (·.dst)=some d:=by simpa using hd
  have hs:=f.slot d
  simp only [yielded,FB,aaA]
  rw [Array.getD_eq_getD_getElem?] at hs
  split at h
  ·rename_i b' hb
   cases h
   rw [hb] at hs
   simp only [SR,VR] at hs
   cases hq:a.tmps[d]? with
   | none=>rw [hq] at hs; simp [undef] at hs
   | some v=>
    rw [hq] at hs
    simp only [aby] at hs
    subst hs
    cases b'<;>cases want<;>rfl
  ·rename_i hb
   cases h
   rw [hb] at hs
   simp only [SR,VR] at hs
   obtain⟨vs,hv,_⟩:=hs
   cases hq:a.tmps[d]? with
   | none=>rfl
   | some v=>
    rw [hq] at hv
    simp only [aby] at hv
    subst hv
    rfl
  ·cases h
theorem Ay {cf:CallF}(hcf:CallOK P cf)(hb0:c0.base≤c0.w.heap.size){ops:Array Oper}(MQ:ds=ops.toList.filterMap (·.dst))(hd:gN n ds o){aN:List Nat}{s':RS}(h:nj P cf aN ops.toList s o=some s')
  {a:Act} {w:World} {K:Act→World→Prop} {Q:Exit→Act→World→Prop} (hi:Inv L0 c0 n ds s a w) (hK:∀a' w',Inv L0 c0 n ds s' a' w'→K a' w') :
  if Region.wanted o (yielded ops a.tmps) then o.wp P a w K Q else K (a.put o.dst undef) w:=by
 unfold nj at h
 rw [aaB] at h
 obtain⟨b,hb,h⟩:=h
 have SW:=hi
 obtain⟨hn,c,Lo,lam,rfl,f,e⟩:=hi
 rw [FA f hb]
 cases b with
 | true=>
  simp only [if_true] at h ⊢
  rw [←MQ] at h
  exact MP hcf hb0 hd h a c.w K Q SW hK
 | false=>
  simp only [aaS,if_false,aaD] at h ⊢
  subst h
  exact hK _ _ ⟨(ij _ _ _).trans hn,c,Lo,lam,rfl,f.set (SR.of (by simp [VR,undef,VRs])) (fun t ht=>by rw [hn]; exact hd t ht),e⟩
def xK (n:Nat)(ops:List Oper):Bool:=ops.all fun o=>match o.dst with | some t=>Nat.blt t n | none=>true
theorem Az {ops:List Oper}(h:xK n ops=true){o:Oper}(ho:o∈ops):gN n (ops.filterMap (·.dst)) o:=by
 intro t ht
 unfold xK at h
 rw [abd] at h
 have:=h o ho
 rw [ht] at this
 exact⟨Nat.blt_eq.mp this,List.mem_filterMap.2 ⟨o,ho,ht⟩⟩
theorem DU {cf:CallF}(hcf:CallOK P cf)(hb0:c0.base≤c0.w.heap.size){ops:Array Oper}(MQ:ds=ops.toList.filterMap (·.dst))(An:xK n ops.toList=true){aN:List Nat}{Q:Exit→Act→World→Prop}{s':RS}(hQ:∀a' w',Inv L0 c0 n ds s' a' w'→Q .normal a' w') :
  ∀(l:List Oper) (s:RS),(∀o∈l,o∈ops.toList)→tA P cf aN ops.toList s l=some s'→∀a w,Inv L0 c0 n ds s a w→wpList P ops Q l a w
 | [],s,_,h,a,w,hi=>by
  simp only [tA,aaD] at h
  subst h
  exact wpList_nil (hQ a w hi)
 | o::l,s,hl,h,a,w,hi=>by
  simp only [tA,aaB] at h
  obtain⟨s1,h1,h2⟩:=h
  refine wpList_step fun K hK=>?_
  exact Ay hcf hb0 MQ (by rw [MQ]; exact Az An (hl o (by simp))) h1 hi fun a' w' mQ=>hK a' w' (DU hcf hb0 MQ An hQ l s1 (fun o ho=>hl o (by simp [ho])) h2 a' w' mQ)
theorem jt {α:Type}(d:α):∀(ks:List Nat) (g:Nat→α) (t:Nat),look d ks (ks.map g) t=if t∈ks then g t else d
 | [],g,t=>rfl
 | k::ks,g,t=>by
  simp only [aa6,look,beq_nat,jt d ks g t,abb]
  by_cases h:t=k
  ·subst h; simp
  ·simp [h]
theorem Fr.forget {c:Cx}{Lo:Nat→Prop}{lam:Nat→Nat}{a:Act}(f:Fr L0 c Lo lam ds s a){s2:RS}(hh:s2.h=s.h)(hb:∀k cs,s2.bx k=some cs→s.bx k=some cs)
  (hr:∀t,s2.ρ t = .any∨s2.ρ t=s.ρ t∧∀k off,s.ρ t = .lp k off→k=t∧((s.bx k).isSome=true→(s2.bx k).isSome=true)):Fr L0 c Lo lam [] s2 a:=by
 refine⟨f.h.trans hh.symm,f.rel,fun t=>?_,fun k cs h=>f.box k cs (hb k cs h),fun k k' h h'=>f.inj k k' ?_ ?_,fun t k off _ he=>?_,f.defers,f.GS⟩
 ·rcases hr t with h | ⟨h,h2⟩
  ·rw [h]; exact SR.of (by simp [VR])
  ·rw [h]
   have hs:=f.slot t
   cases hx:s.ρ t<;>rw [hx] at hs<;>try exact hs
   rename_i k off
   simp only [SR] at hs ⊢
   exact⟨hs.1,(h2 k off hx).2 hs.2⟩
 ·obtain⟨cs,hcs⟩:=abh.1 h; rw [hb k cs hcs]; rfl
 ·obtain⟨cs,hcs⟩:=abh.1 h'; rw [hb k' cs hcs]; rfl
 ·rcases hr t with h | ⟨h,h2⟩
  ·rw [h] at he; cases he
  ·exact (h2 k off (h ▸ he)).1
theorem Inv.shut {a:Act}{w:World}(A:b9)(h:Inv L0 c0 n ds s a w):Inv L0 c0 n [] ((s.shut A).open A) a w:=by
 obtain⟨hn,c,Lo,lam,rfl,f,e⟩:=h
 refine⟨hn,c,Lo,lam,rfl,f.forget rfl (fun k cs hk=>?_) (fun t=>?_),e⟩
 ·simp only [RS.shut,St.open,jt] at hk
  split at hk
  ·exact hk
  ·cases hk
 ·simp only [RS.shut,St.open,jt]
  split
  ·unfold Ac
   cases hx:s.ρ t<;>simp only<;>try (right; exact⟨trivial,fun k off he=>by cases he⟩)
   rename_i k off
   cases hc:(abp k t&&abp off 0&&A.aN.contains k) with
   | false=>left; rfl
   | true=>
    right
    simp only [aaF,beq_nat,decide_eq_true_eq,List.contains_iff_mem] at hc
    refine⟨rfl,fun k' Yh he=>?_⟩
    cases he
    refine⟨hc.1.1,fun hs=>?_⟩
    rw [if_pos hc.2]
    exact hs
  ·left; rfl
theorem Inv.oP {a:Act}{w:World}(A:b9)(r:Nat)(h:Inv L0 c0 n ds s a w):Inv L0 c0 n [] ((s.oP A r).open A) a w:=by
 unfold RS.oP
 split
 ·exact h.shut A
 rename_i dl _
 have h2:=h.shut A
 obtain⟨hn,c,Lo,lam,hw,f,e⟩:=h2
 have Pr:∀k,(St.open A {vars:=A.keep.map (fun t=>bif (ig r A.dead).contains t then .any else Ac A.aN s.ρ t),OI:=A.aN.map (fun k=>bif (ig r A.dead).contains k then none else s.bx k),h:=s.h}).bx k=bif (ig r A.dead).contains k then none else (St.open A (s.shut A)).bx k:=by
  intro k
  simp only [RS.shut,St.open,jt]
  cases (ig r A.dead).contains k<;>simp
 refine⟨hn,c,Lo,lam,hw,f.forget rfl (fun k cs hk=>?_) (fun t=>?_),e⟩
 ·rw [Pr] at hk
  cases hc:(ig r A.dead).contains k with
  | true=>rw [hc] at hk; cases hk
  | false=>rw [hc] at hk; exact hk
 ·have hv:(St.open A {vars:=A.keep.map (fun t=>bif (ig r A.dead).contains t then .any else Ac A.aN s.ρ t),OI:=A.aN.map (fun k=>bif (ig r A.dead).contains k then none else s.bx k),h:=s.h}).ρ t=bif (ig r A.dead).contains t then .any else (St.open A (s.shut A)).ρ t:=by
   simp only [RS.shut,St.open,jt]
   cases (ig r A.dead).contains t<;>simp
  rw [hv]
  cases hc:(ig r A.dead).contains t with
  | true=>left; rfl
  | false=>
   right
   refine⟨rfl,fun k off he=>?_⟩
   have Kp:k=t:=f.tidy t k off (by simp) he
   refine⟨Kp,fun hs=>?_⟩
   rw [Pr,Kp,hc]
   rw [Kp] at hs
   exact hs
theorem Inv.wide {a:Act}{w:World}(h:Inv L0 c0 n [] s a w)(ds:List Nat):Inv L0 c0 n ds s a w:=by
 obtain⟨hn,c,Lo,lam,rfl,f,e⟩:=h
 exact⟨hn,c,Lo,lam,rfl,⟨f.h,f.rel,f.slot,f.box,f.inj,fun t k off _ he=>f.tidy t k off (by simp) he,f.defers,f.GS⟩,e⟩
theorem Inv.drew {a:Act}{w:World}(h:Inv L0 c0 n ds s a w):Inv L0 c0 n ds s a {w with drawn:=w.drawn+1}:=by
 obtain⟨hn,c,Lo,lam,rfl,f,e⟩:=h
 obtain⟨e',f'⟩:=f.world (w':={c.w with drawn:=c.w.drawn+1}) (fun b _=>.inl rfl) (fun _ _=>rfl) (fun b _=>rfl) (aaE _) rfl rfl rfl
 exact⟨hn,_,Lo,lam,rfl,f',e.trans e'⟩
def nv (P:Program)(c:Code)(Q:Exit→Act→World→Prop)(a:Act)(w:World):Prop:=
 ∀(b:Frame) (k:List Item) (cs:List Frame),∃e a' w',Q e a' w'∧Arrives P (lone (b.at a (.code c :: .inLoop c::k)) cs w) b k cs e a' w'
theorem nv.step {c:Code}{Q:Exit→Act→World→Prop}{a:Act}{w:World}(h:c.wp P (Exit.then (nv P c Q) Q) a w):nv P c Q a w:=by
 intro b k cs
 obtain⟨e,a₁,w₁,hq,AA⟩:=h b (.inLoop c::k) cs
 cases e with
 | normal=>
  obtain⟨e₂,a₂,w₂,Yi,PJ⟩:=hq b k cs
  exact⟨e₂,a₂,w₂,Yi,.of_steps (Steps.trans AA (.one step_inLoop)) PJ⟩
 | exit id=>exact⟨_,a₁,w₁,hq,.pass (x:=.inLoop c) rfl (fun _ _=>.inl (by simp)) AA⟩
 | goto l=>exact⟨_,a₁,w₁,hq,.pass (x:=.inLoop c) rfl (fun _ _=>.inl (by simp)) AA⟩
 | ret=>exact⟨_,a₁,w₁,hq,.pass (x:=.inLoop c) rfl (fun _ _=>.inl (by simp)) AA⟩
 | panic ch=>exact⟨_,a₁,w₁,hq,.pass (x:=.inLoop c) rfl (fun _ _=>.inl (by simp)) AA⟩
 | outgrown=>exact⟨_,a₁,w₁,hq,.pass (x:=.inLoop c) rfl (fun _ _=>.inl (by simp)) AA⟩
theorem nv.loop {c:Code}{Q:Exit→Act→World→Prop}{a:Act}{w:World}(h:nv P c Q a w):(Code.loop c).wp P Q a w:=by
 intro b k cs
 obtain⟨e,a',w',hq,AA⟩:=h b k cs
 exact⟨e,a',w',hq,.of_steps (.one step_loop) AA⟩
def Ex.LO:Ex→Exit
 | .norm=>.normal
 | .exit id=>.exit id
 | .ret=>.ret
def la (n:Nat):Code→Bool
 | .region _ ops _=>xK n ops.toList
 | .seq a b=>la n a&&la n b
 | .cond _ x y=>la n x&&la n y
 | .block _ c=>la n c
 | .loop c=>la n c
 | _=>true
def CJ (P:Program)(cf:CallF):Prop:=
 ∀(L0:Nat→Prop) (c0:Cx) (n:Nat) (aN:List Nat) (id:Nat) (ops:Array Oper) (s s':RS),mr P cf aN ops s=some s'→c0.base≤c0.w.heap.size→xK n ops.toList=true→
  ∀a w Q,Inv L0 c0 n (ops.toList.filterMap (·.dst)) s a w→(∀a' w',Inv L0 c0 n (ops.toList.filterMap (·.dst)) s' a' w'→Q .normal a' w')→(Code.region id ops true).wp P Q a w
theorem kJ {cf:CallF}(hcf:CallOK P cf)(FC:CJ P cf)(hb0:c0.base≤c0.w.heap.size){A:b9}{m:Nat}:∀(c:Code),la n c=true→∀(st kx:St) (ex:Ex),b4 P cf A m c st=some (ex,kx)→
  ∀a w Q,Inv L0 c0 n [] (st.open A) a w→(∀a' w',Inv L0 c0 n [] (kx.open A) a' w'→Q ex.LO a' w')→c.wp P Q a w
 | .skip,_,st,kx,ex,h,a,w,Q,hi,hQ=>by
  simp only [b4,aaD,aaJ] at h
  obtain⟨rfl,rfl⟩:=h
  exact wp_skip (hQ a w hi)
 | .label _,_,st,kx,ex,h,a,w,Q,hi,hQ=>by
  simp only [b4,aaD,aaJ] at h
  obtain⟨rfl,rfl⟩:=h
  exact wp_label (hQ a w hi)
 | .ret,_,st,kx,ex,h,a,w,Q,hi,hQ=>by
  simp only [b4,aaD,aaJ] at h
  obtain⟨rfl,rfl⟩:=h
  exact wp_ret (hQ a w hi)
 | .exit id,_,st,kx,ex,h,a,w,Q,hi,hQ=>by
  simp only [b4,aaD,aaJ] at h
  obtain⟨rfl,rfl⟩:=h
  exact wp_exit (hQ a w hi)
 | .seq x y,hB,st,kx,ex,h,a,w,Q,hi,hQ=>by
  simp only [la,aaF] at hB
  simp only [b4,aaB] at h
  obtain⟨⟨LP,w5⟩,h1,h2⟩:=h
  refine wp_seq (kJ hcf FC hb0 x hB.1 st w5 LP h1 a w _ hi fun a' w' mQ=>?_)
  cases LP with
  | norm=>exact kJ hcf FC hb0 y hB.2 w5 kx ex h2 a' w' Q mQ hQ
  | exit id=>
   simp only [aaD,aaJ] at h2
   obtain⟨rfl,rfl⟩:=h2
   exact hQ a' w' mQ
  | ret=>
   simp only [aaD,aaJ] at h2
   obtain⟨rfl,rfl⟩:=h2
   exact hQ a' w' mQ
 | .cond k x y,hB,st,kx,ex,h,a,w,Q,hi,hQ=>by
  simp only [la,aaF] at hB
  simp only [b4,aaB] at h
  obtain⟨t,ht,h⟩:=h
  have hk:a.eval k = .bool t:=by
   obtain⟨hn,c,Lo,lam,rfl,f,e⟩:=hi
   have hk:=bT f k
   unfold uN at ht
   split at ht
   ·rename_i b hb
    cases ht
    rw [hb] at hk
    simpa [SR,VR] using hk
   ·cases ht
  refine wp_cond hk ?_
  cases t with
  | true=>exact kJ hcf FC hb0 x hB.1 st kx ex (by simpa using h) a w Q hi hQ
  | false=>exact kJ hcf FC hb0 y hB.2 st kx ex (by simpa using h) a w Q hi hQ
 | .block id x,hB,st,kx,ex,h,a,w,Q,hi,hQ=>by
  simp only [la] at hB
  simp only [b4,aaC] at h
  obtain⟨⟨LP,w5⟩,h1,h2⟩:=h
  refine wp_block (kJ hcf FC hb0 x hB st w5 LP h1 a w _ hi fun a' w' mQ=>?_)
  cases LP with
  | norm=>
   simp only [aaJ] at h2
   obtain⟨rfl,rfl⟩:=h2
   exact hQ a' w' mQ
  | exit pU=>
   simp only [aaJ] at h2
   obtain⟨rfl,rfl⟩:=h2
   have:=hQ a' w' mQ
   simp only [Ex.LO,Exit.inBlock]
   split
   ·rename_i he; rw [if_pos he] at this; exact this
   ·rename_i he; rw [if_neg he] at this; exact this
  | ret=>
   simp only [aaJ] at h2
   obtain⟨rfl,rfl⟩:=h2
   exact hQ a' w' mQ
 | .loop x,hB,st,kx,ex,h,a,w,Q,hi,hQ=>by
  simp only [la] at hB
  simp only [b4] at h
  have key:∀(j:Nat) (st:St),lK (b4 P cf A m x) j st=some (ex,kx)→∀a w,Inv L0 c0 n [] (st.open A) a w→nv P x Q a w:=by
   intro j
   induction j with
   | zero=>intro st h; simp [lK] at h
   | succ j ih=>
    intro st h a w hi
    simp only [lK,aaB] at h
    obtain⟨⟨LP,w5⟩,h1,h2⟩:=h
    refine nv.step (kJ hcf FC hb0 x hB st w5 LP h1 a w _ hi fun a' w' mQ=>?_)
    cases LP with
    | norm=>exact ih w5 h2 a' w' mQ
    | exit id=>
     simp only [aaD,aaJ] at h2
     obtain⟨rfl,rfl⟩:=h2
     exact hQ a' w' mQ
    | ret=>
     simp only [aaD,aaJ] at h2
     obtain⟨rfl,rfl⟩:=h2
     exact hQ a' w' mQ
  exact nv.loop (key m st h a w hi)
 | .region id ops draw,hB,st,kx,ex,h,a,w,Q,hi,hQ=>by
  simp only [la] at hB
  simp only [b4,aaB,aaC,aaJ] at h
  obtain⟨s0,h0,s',h1,s2,h2,rfl,rfl⟩:=h
  replace hi:=hi.mw h0
  cases draw with
  | true=>
   simp only [if_true] at h1
   exact FC L0 c0 n A.aN id ops _ s' h1 hb0 hB a w Q (hi.wide _) fun a' w' mQ=>hQ a' w' ((mQ.mw h2).oP A id)
  | false=>
   simp only [aaS,if_false] at h1
   exact wp_region_list (DU hcf hb0 rfl hB (fun a' w' mQ=>hQ a' w' ((mQ.mw h2).oP A id)) ops.toList _ (fun _ h=>h) h1 a w (hi.wide _))
 | .rangeFunc ..,_,st,kx,ex,h,_,_,_,_,_=>by simp [b4] at h
 | .scope ..,_,st,kx,ex,h,_,_,_,_,_=>by simp [b4] at h
 | .goto ..,_,st,kx,ex,h,_,_,_,_,_=>by simp [b4] at h
 | .refuse ..,_,st,kx,ex,h,_,_,_,_,_=>by simp [b4] at h
theorem yQ {c:Cx}{Lo:Nat→Prop}{lam:Nat→Nat}{a:Act}(f:Fr L0 c Lo lam ds s a):∀(rs:List ResultVar) (l:List AV),Cq P s rs=some l→l.all AV.mO=true→
  ∃vs:List Value,(rs.mapM (m:=Sem) fun | .tmp t=>pure (a.tmps.getD t undef) | .cell x t=>do loadVar t (←asAddr (a.tmps.getD x undef))).run P c.w = .ok vs c.w∧VRs c (un L0 Lo) l vs
 | [],l,h,_=>by
  simp only [Cq,aaD] at h
  subst h
  exact⟨[],rfl,trivial⟩
 | .tmp t::rs,l,h,hl=>by
  simp only [Cq,aaC] at h
  obtain⟨l',h1,rfl⟩:=h
  simp only [abA,aaF] at hl
  obtain⟨vs,h2,h3⟩:=yQ f rs l' h1 hl.2
  refine⟨a.tmps.getD t undef::vs,?_,(f.slot t).vr (u6 hl.1),h3⟩
  simp only [List.mapM_cons,Sem.run_bind,Sem.run_pure,Result.andThen_ok,h2]
 | .cell x t::rs,l,h,hl=>by
  simp only [Cq,aaB,aaC] at h
  obtain⟨y,hy,l',h1,rfl⟩:=h
  simp only [abA,aaF] at hl
  obtain⟨vs,h2,h3⟩:=yQ f rs l' h1 hl.2
  have hx:=f.slot x
  obtain⟨u,hr,hu⟩:=uS (P:=P) f (t:=t) hx hy
  have hp:∃ad,a.tmps.getD x undef = .pointer (some ad):=by
   unfold jV at hy
   cases hq:s.ρ x<;>rw [hq] at hy hx<;>simp only at hy<;>try (cases hy; done)
   ·simp only [SR,VR] at hx; obtain⟨_,ad,h,_⟩:=hx; exact⟨ad,h⟩
   ·simp only [SR] at hx; exact⟨_,hx.1⟩
   ·simp only [SR,VR] at hx; obtain⟨_,_,h,_⟩:=hx; exact⟨_,h⟩
  obtain⟨ad,hp⟩:=hp
  rw [hp] at hr
  have AB:(loadVar t ad).run P c.w = .ok u c.w:=by simpa [Instr.loadAt,Instr.sureAddr] using hr
  refine⟨u::vs,?_,hu,h3⟩
  have ha:(asAddr (a.tmps.getD x undef)).run P c.w = .ok ad c.w:=by rw [hp]; rfl
  simp only [List.mapM_cons,Sem.run_bind,Sem.run_pure,Result.andThen_ok,h2,ha,AB]
theorem lU:un L0 none0=L0:=by funext b; simp [un,none0]
theorem Ext.close {c c':Cx}{kq:Nat→Prop}(e:Ext c none0 c' kq):Ext c none0 c' none0:=
 ⟨e.next,e.live,e.size,e.keep,e.exact,e.base,e.LI,fun _ h=>h,fun _ h=>h.elim,e.os,e.tape,e.output⟩
theorem HRel.lz {c:Cx}{L L':Nat→Prop}(hL:∀b,L' b→L b)(h:HRel c L):HRel c L':=
 ⟨h.lt,fun id o ho=>by
  have:=h.obj id o ho
  cases o with
  | cells cs=>obtain⟨m,h1,h2,h3⟩:=this; exact⟨m,h1,h2,Cells.lz hL _ _ _ h3⟩
  | row t cs=>obtain⟨h0,C,h1,h2,h4,h3⟩:=this; exact⟨h0,C,h1,h2,h4,Cells.lz hL _ _ _ h3⟩
  | map es=>
   obtain⟨lM,clock,h1,h2⟩:=this
   refine⟨lM,clock,h1,?_⟩
   clear h1
   have:∀(es:List (AV × AV)) (ms:List MapEntry),lL c L es ms→lL c L' es ms:=by
    intro es
    induction es with
    | nil=>intro ms h; cases ms with | nil=>trivial | cons m ms=>exact h.elim
    | cons e es ih=>intro ms h; cases ms with
     | nil=>exact h.elim
     | cons m ms=>obtain⟨h1,h2,h3⟩:=h; exact⟨⟨VR.lz hL _ _ h1.1,h1.2⟩,VR.lz hL _ _ h2,ih _ h3⟩
   exact this _ _ h2,h.inj,fun id hl hb=>h.out id hl (hL _ hb),fun b hb=>h.bd b (hL b hb),h.low,h.ver⟩
structure Fit (P:Program):Prop where
 mixed:P.follows .mixedOrders=true
 PK : ∀ (f : FuncId) fn c, P.funcs[f]? = some fn → fn.body = some c → la fn.ntmps c = true ∧ fn.name ≠ "runtime.NumGoroutine"
def IntrOK (P:Program)(intr:FuncId→Option (List AV→AHeap→Option (AV × AHeap))):Prop:=
 ∀f g,intr f=some g→(CallOK P fun f' args h=>if f'=f then g args h else none)∧∀args h r h',g args h=some (r,h')→Steady h h'
theorem ik {f : FuncId} {fn : Func} {c : Code} (hf : P.funcs[f]? = some fn) (hc : fn.body = some c) (hn : fn.name ≠ "runtime.NumGoroutine") (vs : Array Value) (w : World) : (callFunc f vs).run P w = .ok (.enter f vs) w := by
 have V8 : (fn.name == "runtime.NumGoroutine") = false := by simpa using hn
 simp [callFunc,program,Sem.run,hf,hn,hc]
theorem Hc (hP:Fit P){aV:FuncId→b9}{cf:CallF}(ih:CallOK P cf)(FC:CJ P cf)(m:Nat):CallOK P (bg P aV cf m):=by
 intro f args h r h' hc
 unfold bg at hc
 rw [aaB] at hc
 obtain⟨fn,hf,hc⟩:=hc
 rw [aaB] at hc
 obtain⟨c,hb,hc⟩:=hc
 obtain⟨hB,PL⟩:=hP.PK f fn c hf hb
 refine⟨ik hf hb PL,fun L0 c0 vs hh hb0 hrel hargs=>?_⟩
 split at hc
 rotate_left
 ·cases hc
 rename_i hlen
 rw [aaB] at hc
 obtain⟨⟨ex,st⟩,hex,hc⟩:=hc
 have hl:=hargs.length
 refine calls_of_wp hf hb ?_
 refine kJ (L0:=L0) (c0:=c0) (n:=fn.ntmps) ih FC hb0 c hB _ _ _ hex _ _ _ ?_ ?_
 ·refine⟨by simp; omega,c0,none0,fun _=>0,rfl,⟨hh,by rw [lU]; exact hrel,fun t=>?_,fun k cs hk=>?_,fun k k' hk=>?_,fun t k off _ he=>?_,rfl,fun b hb=>hb.elim⟩,Ext.refl _ _⟩
  ·simp only [St.open,nk,jt]
   split
   ·by_cases ht:t<args.length
    ·obtain⟨v,hv,hr⟩:=hargs.get t args[t] (by simp [ht])
     have:args.getD t AV.any=args[t]:=by simp [ht]
     rw [this,Array.getD_eq_getD_getElem?,Array.getElem?_append_left (by simp; omega)]
     have SS:vs.toArray[t]? = some v:=by simpa using hv
     rw [SS]
     exact SR.of (by rw [lU]; exact hr)
    ·have:args.getD t AV.any = .any:=by simp [aa1 (Nat.not_lt.1 ht)]
     rw [this]
     exact SR.of (by simp [VR])
   ·exact SR.of (by simp [VR])
  ·simp only [St.open,jt] at hk
   split at hk<;>cases hk
  ·simp only [St.open,jt] at hk
   split at hk<;>cases hk
  ·simp only [St.open,nk,jt] at he
   split at he
   ·by_cases ht:t<args.length
    ·obtain⟨v,hv,hr⟩:=hargs.get t args[t] (by simp [ht])
     have h1:args.getD t AV.any=args[t]:=by simp [ht]
     rw [h1] at he
     rw [he] at hr
     exact hr.elim
    ·have:args.getD t AV.any = .any:=by simp [aa1 (Nat.not_lt.1 ht)]
     rw [this] at he
     cases he
   ·cases he
 ·intro a' w' mQ
  have hfin:(aH P (st.open (aV f)) fn.results.toList).map (fun r=>(r,st.h))=some (r,h')→a'.defers=[]∧∃v,(results fn a'.tmps).run P w' = .ok v w'∧(∃c' v',Ending.returned v = .returned v'∧c'.w=w'∧c'.h=h'∧VR c' L0 r v'∧HRel c' L0∧Ext c0 none0 c' none0):=by
   intro hc
   rw [aaC] at hc
   obtain⟨r',AB,he⟩:=hc
   cases he
   obtain⟨hn,c',Lo,lam,rfl,f',e'⟩:=mQ
   refine⟨f'.defers,?_⟩
   unfold aH at AB
   rw [aaB] at AB
   obtain⟨l,hl,AB⟩:=AB
   split at AB
   rotate_left
   ·cases AB
   rename_i lT
   obtain⟨us,Yj,DM⟩:=yQ f' _ _ hl lT
   have Hd:VRs c' L0 l us:=VRs.lz (fun b hb=>.inl hb) _ _ DM
   have CA:(results fn a'.tmps).run P c'.w = .ok (if h:us.toArray.size=1 then us.toArray[0] else .tuple us.toArray) c'.w:=by
    unfold results
    rw [←Array.toArray_toList (xs:=fn.results)]
    rw [List.mapM_toArray]
    simp only [Sem.run_bind,Sem.run_map,Result.andThen_ok,Sem.run_pure]
    exact (congrArg (fun z=>(Result.andThen z (fun (a:List Value) w'=>Result.ok a.toArray w')).andThen (fun (a:Array Value) w'=>Result.ok (if h:a.size=1 then a[0] else Value.tuple a) w')) Yj).trans rfl
   refine⟨_,CA,c',_,rfl,rfl,f'.h,?_,HRel.lz (fun b hb=>.inl hb) f'.rel,e'.close⟩
   split at AB
   ·rename_i x
    cases AB
    cases us with
    | nil=>exact Hd.elim
    | cons u us=>cases us with
     | nil=>exact Hd.1
     | cons u2 us=>exact Hd.2.elim
   ·rename_i hne
    cases AB
    have SX:us.length≠1:=by
     intro h1
     rw [←Hd.length] at h1
     cases l with
     | nil=>simp at h1
     | cons x l=>cases l with
      | nil=>exact hne x rfl
      | cons y l=>simp at h1
    have:¬us.toArray.size=1:=by simpa using SX
    rw [dif_neg this]
    simp only [VR]
    exact⟨us.toArray,rfl,Hd⟩
  cases ex with
  | norm=>exact hfin hc
  | ret=>exact hfin hc
  | exit id=>cases hc
end
end Go.R
