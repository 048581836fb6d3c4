/- Part of the proof: ROps5, ROps6, ROps7, ROpAll, RFrz, RCode, RLocal. -/
import Derived.Test.YtmekcfdllhphlaaDoorK1
import Derived.MapKept
import Derived.Laws.CopyRow
import Derived.Laws.BytesArg
import Derived.Laws.IdiomStrings
import Derived.Tactics
set_option linter.unusedVariables false
set_option linter.unusedSimpArgs false
set_option maxRecDepth 100000
open Array renaming getElem?_eq_some_iff → WA, getElem?_setIfInBounds → W5, getElem?_modify → Xx, ext' → XE
open Bool renaming and_eq_true → V8, false_eq_true → Wj, true_and → Xl, not_eq_true' → Xq
open List renaming getElem?_eq_some_iff → Wb, length_set → Wd, getElem?_eq_none → Wl, map_cons → Wo, all_eq_true → Ws, mem_map → Wv, mem_cons → WG, eq_nil_of_length_eq_zero → WS, ext_getElem? → WV, all_cons → W2, getElem?_set → Xs
open Nat renaming le_refl → V7, zero_add → Wr, beq → WM, le_succ → Xk, lt_succ_of_lt → Xr, min_eq_left → XF
open Ne renaming symm → Xn
open Option renaming bind_some → V3, bind_eq_some_iff → V4, map_eq_some_iff → V5, map_some → Wa, isSome_iff_exists → WE, getD_some → W4
open Option.some renaming injEq → V6
open Prod.mk renaming injEq → Wc
namespace Go.R
open Go
section
variable {P:Program}{L0:Nat→Prop}{c0:Cx}{n:Nat}{ds:List Nat}{o:Oper}{s:RS}
theorem Fr.vV {c:Cx}{Lo:Nat→Prop}{lam:Nat→Nat}{a:Act}(f:Fr L0 c Lo lam ds s a)(hbs:c.base≤c.w.heap.size){id:Nat}{es qB:List (AV × AV)}(ho:c.h.get id=some (.map es)){km qH:Array MapEntry}{clock nv:Nat}
  (hb:c.w.heap[(c.β id).1]? = some (.map km clock)) (he:kl c (un L0 Lo) qB qH.toList) :
  Ext c Lo ⟨c.β,s.h.put id (.map qB),{c.w with heap:=c.w.heap.setIfInBounds (c.β id).1 (.map qH nv)},c.base⟩ Lo∧
   Fr L0 ⟨c.β,s.h.put id (.map qB),{c.w with heap:=c.w.heap.setIfInBounds (c.β id).1 (.map qH nv)},c.base⟩ Lo lam ds {s with h:=s.h.put id (.map qB)} a:=by
 have hl:Live c.h id:=⟨f.rel.lt _ _ ho,by simp [ho]⟩
 have hlt:(c.β id).1<c.w.heap.size:=(WA.1 hb).1
 have hne:∀b,b≠(c.β id).1→({c.w with heap:=c.w.heap.setIfInBounds (c.β id).1 (.map qH nv)}:World).heap[b]? = c.w.heap[b]?:=by
  intro b hb
  simp only [W5]
  rw [if_neg (Xn hb)]
 rw [←f.h]
 refine f.upd (β':=c.β) (h':=c.h.put id (.map qB)) id (.map qB) (Steady.put _ _ _) (Xr hl.1) (by simp [AHeap.put,beq_nat])
  (fun nV h1=>.inr ⟨by simp [AHeap.put,beq_nat,h1],rfl⟩) (fun _=>⟨hl,rfl⟩) (.inr ⟨id,hl,rfl,.inl rfl⟩) (fun _=>?_)
  (fun b _ h1=>hne b h1) (fun b _ h1=>hne b h1) (by simp) hbs rfl rfl rfl (fun e=>⟨qH,nv,by simp [hlt],he.ext e⟩)
 simp only [Cx.len,World.shape?,hb,W5,hlt,if_true]
theorem vW {x y:AV}(hs:sameShape x y=true)(hq:fL x y=true):x=y:=by
 cases x<;>cases y<;>simp only [sameShape] at hs<;>try (cases hs; done)
 ·simp only [fL,iM,V8,beq_iff_eq] at hq
  obtain⟨rfl,rfl⟩:=hq
  rfl
 ·rename_i a b
  simp only [fL,iM,beq_iff_eq] at hq
  congr 1
  cases a; cases b
  congr 1
  exact Array.toList_inj.1 hq
 ·rename_i xs ys
  simp only [V8,beq_iff_eq] at hs
  obtain⟨⟨_,hx⟩,hy⟩:=hs
  obtain⟨ns,rfl⟩:=gS hx
  obtain⟨ms,rfl⟩:=gS hy
  simp only [fL,jT,decide_eq_true_eq] at hq
  rw [hq]
theorem mS:∀ns:List Int,iK (ns.map fun n=>AV.int .i64 n)=some (ns.map fun n=>Value.int .i64 n)
 | []=>rfl
 | n::ns=>by simp [iK,AV.fm,mS ns]
theorem zP {t:TypeId}{k:AV}(h:fM P t k=true):∃u,k.zy=some u∧Instr.sameBits 10000 u u=true:=by
 unfold fM at h
 have LO:∀cs:List AV,cs.all jR=true→∃u,(AV.agg cs).zy=some u∧Instr.sameBits 10000 u u=true:=by
  intro cs hcs
  obtain⟨ns,rfl⟩:=gS hcs
  refine⟨.agg (ns.map fun n=>Value.int .i64 n).toArray,by simp [AV.zy,mS],?_⟩
  simp only [Instr.sameBits,beq_self_eq_true,Xl,Ws]
  intro p hp
  have:∀(l:List Value),(∀v∈l,∃m,v=Value.int .i64 m)→∀p∈l.zip l,Instr.sameBits 9999 p.1 p.2=true:=by
   clear hp p
   intro l hl p hp
   have h1:p.1=p.2∧p.1∈l:=by
    clear hl
    induction l with
    | nil=>cases hp
    | cons v l ih=>
     simp only [List.zip_cons_cons,WG] at hp
     rcases hp with rfl | hp
     ·exact⟨rfl,by simp⟩
     ·obtain⟨h1,h2⟩:=ih hp; exact⟨h1,by simp [h2]⟩
   obtain⟨h1,h2⟩:=h1
   obtain⟨m,hm⟩:=hl _ h2
   rw [←h1,hm]
   simp [Instr.sameBits]
  exact this (ns.map fun n=>Value.int .i64 n) (fun v hv=>by obtain⟨m,_,rfl⟩:=Wv.1 hv; exact⟨m,rfl⟩) p (by simpa using hp)
 split at h
 ·exact⟨_,rfl,by simp [Instr.sameBits]⟩
 ·exact⟨_,rfl,by simp [Instr.sameBits,uS]⟩
 ·simp only [V8] at h; exact LO _ h.1.1.2
 ·simp only [V8] at h; exact LO _ h.1.1.2
 ·cases h
theorem sB {c:Cx}{L:Nat→Prop}{k v:AV}{kv vv:Value}(hc:k.zy.isSome=true)(hk:VR c L k kv)(hv:VR c L v vv) :
  ∀(es qB:List (AV × AV)) (ms:List MapEntry) (i:Nat),kl c L es ms→vL k v es=some qB→
   ir k es≠none∧(place k es ms i=none∧(∀b,kl c L qB (ms++[{key:=kv,val:=vv,born:=b}]))∨
    ∃j u m,place k es ms i=some (i+j,u)∧ms[j]? = some m∧m.key=kv∧kl c L qB (ms.modify j fun e=>{e with key:=kv,val:=vv}))
 | [],qB,[],i,_,h=>by
  simp only [vL,V6] at h
  subst h
  exact⟨by simp [ir],.inl ⟨rfl,fun b=>⟨⟨hk,hc⟩,hv,trivial⟩⟩⟩
 | (k',v')::es,qB,m::ms,i,he,h=>by
  obtain⟨⟨DU,Ry⟩,A7,ud⟩:=he
  simp only [vL] at h
  split at h
  rotate_left
  ·cases h
  rename_i hs
  split at h
  ·rename_i hq
   cases h
   have xH:k=k':=vW hs hq
   obtain⟨u,hu⟩:=WE.1 hc
   refine⟨by simp [ir,hs,hq],.inr ⟨0,m.val,m,by simp [place,hq],rfl,?_,?_⟩⟩
   ·subst xH
    rw [vQ hu hk,vQ hu DU]
   ·exact⟨⟨hk,hc⟩,hv,ud⟩
  ·rename_i hq
   rw [V5] at h
   obtain⟨TQ,h1,rfl⟩:=h
   obtain⟨h2,h3⟩:=sB hc hk hv es TQ ms (i+1) ud h1
   refine⟨by simp [ir,hs,hq,h2],?_⟩
   have xO:fL k k'=false:=by simpa using hq
   rcases h3 with⟨h3,h4⟩| ⟨j,u,m',h3,h4,h5,h6⟩
   ·exact .inl ⟨by simp [place,xO,h3],fun b=>⟨⟨DU,Ry⟩,A7,h4 b⟩⟩
   ·exact .inr ⟨j+1,u,m',by simp [place,xO,h3]; omega,by simpa using h4,h5,⟨⟨DU,Ry⟩,A7,h6⟩⟩
 | [],_,_::_,_,h,_=>h.elim
 | _::_,_,[],_,h,_=>h.elim
theorem sC {x:AV}(h:x.k7=true):∀k off,x≠.lp k off:=by rintro k off rfl; simp [AV.k7] at h
theorem uj {c:Cx}{Lo:Nat→Prop}{lam:Nat→Nat}{a:Act}(f:Fr L0 c Lo lam ds s a)(hbs:c.base≤c.w.heap.size){t:TypeId}{m k x:AV}{mv kv xv:Value}(hm:SR c L0 Lo lam s.bx m mv)(hk:SR c L0 Lo lam s.bx k kv)(hx:SR c L0 Lo lam s.bx x xv){h':AHeap}
  (h:iu P s.h t m k x=some h'):∃c',(Instr.mapUpdate t mv kv xv).run P c.w = .ok () c'.w∧Ext c Lo c' Lo∧Fr L0 c' Lo lam ds {s with h:=h'} a:=by
 unfold iu at h
 rw [V4] at h
 obtain⟨d,hd,h⟩:=h
 cases d<;>simp only at h<;>try (cases h; done)
 rename_i kt et
 split at h
 ·cases h
 rename_i jF
 obtain⟨uh,hargs⟩:fM P kt k=true∧x.k7=true:=by
  cases h1:fM P kt k<;>cases h2:x.k7<;>simp [h1,h2] at jF ⊢
 have xI:VR c (un L0 Lo) k kv:=hk.vr (by rintro k0 off rfl; simp [fM] at uh)
 have TR:=hx.vr (sC hargs)
 cases m<;>simp only at h<;>try (cases h; done)
 rename_i id
 rw [V4] at h
 obtain⟨ob,ho,h⟩:=h
 cases ob with
 | cells cs=>cases h
 | row t cs=>cases h
 | map es=>
 rw [V5] at h
 obtain⟨qB,hu,rfl⟩:=h
 simp only [SR,VR] at hm
 obtain⟨hi,r,rfl,hr⟩:=hm
 rw [←f.h] at ho
 have hl:Live c.h id:=⟨f.rel.lt _ _ ho,by simp [ho]⟩
 have OB:=hr hl
 subst OB
 obtain⟨km,clock,h1,h2⟩:=f.rel.obj _ _ ho
 obtain⟨u0,Is,TS⟩:=zP uh
 obtain⟨hf,hp⟩:=sB (by simp [Is]) xI TR es qB km.toList 0 h2 hu
 have DV:=uT uh xI c.w h2 hf
 have I7:=mP (P:=P) false 9998 uh xI c.w
 have hget:(getObj (c.β id).1).run P c.w = .ok (.map km clock) c.w:=MapKept.run_getObj_map h1
 rcases hp with⟨hp,sk⟩| ⟨j,u,m,hp,hj,hmk,sk⟩
 ·obtain⟨e',f'⟩:=f.vV hbs ho h1 (qH:=km.push {key:=kv,val:=xv,born:=clock}) (nv:=clock+1) (qB:=qB) (by simpa using sk clock)
  refine⟨_,?_,e',f'⟩
  unfold Instr.mapUpdate
  rw [hp] at DV
  simp only [Sem.run_bind,bn hd,Result.andThen_ok,hget,I7,DV]
  exact MapKept.run_setObj_map _ h1
 ·obtain⟨e',f'⟩:=f.vV hbs ho h1 (qH:=km.modify j fun e=>{e with key:=kv,val:=xv}) (nv:=clock) (qB:=qB) (by simpa using sk)
  refine⟨_,?_,e',f'⟩
  unfold Instr.mapUpdate
  rw [hp,Wr] at DV
  have Jf:km[j]? = some m:=by simpa using hj
  have Hg:(Instr.keyThatStays m.key kv).run P c.w = .ok kv c.w:=by
   rw [hmk]
   unfold Instr.keyThatStays
   rw [vQ Is xI,TS]
   rfl
  simp only [Sem.run_bind,bn hd,Result.andThen_ok,hget,I7,DV,Jf,Wa,W4,Hg]
  exact MapKept.run_setObj_map _ h1
theorem oa (hb0:c0.base≤c0.w.heap.size){t:TypeId}{m k x:Operand}(ho:o.op = .mapUpdate t m k x∨o.op = .insert t m k x)(re:o.dst=none){h':AHeap}
  (h:iu P s.h t (bL s.ρ m) (bL s.ρ k) (bL s.ρ x)=some h'):iY P L0 c0 n ds o s {s with h:=h'}:=by
 rintro a w K Q ⟨hn,c,Lo,lam,rfl,f,e⟩ hK
 obtain⟨c',hr,e',f'⟩:=uj f (jo e hb0) (bz f m) (bz f k) (bz f x) h
 unfold Oper.wp
 have:(execOp a.eval o).run P c.w = .ok .skip c'.w:=by rcases ho with ho | ho<;>simp [execOp,ho,hr]
 rw [this,Oper.upon_skip]
 have Ja:a.put o.dst undef=a:=by rw [re]; rfl
 rw [Ja]
 exact hK _ _ ⟨hn,c',Lo,lam,rfl,f',e.trans e'⟩
theorem D7 (hb0:c0.base≤c0.w.heap.size)(hd:fN n ds o){t:TypeId}{x:Operand}(ho:o.op = .call {callee:=.builtin .clear,args:=#[x],argTypes:=#[t]}){h':AHeap}
  (h:sa P s.h t (bL s.ρ x)=some h'):iY P L0 c0 n ds o s ({s with h:=h'}.set o.dst (.tup [])):=by
 rintro a w K Q ⟨hn,c,Lo,lam,rfl,f,e⟩ hK
 unfold sa at h
 rw [V4] at h
 obtain⟨d,CB,h⟩:=h
 have hx:=bz f x
 have fin:∀c',(Builtin.clear_ #[t] o.type #[a.eval x]).run P c.w = .ok (.tuple #[]) c'.w→Ext c Lo c' Lo→Fr L0 c' Lo lam ds {s with h:=h'} a→o.wp P a c.w K Q:=by
  intro c' hr e' f'
  unfold Oper.wp
  have:(execOp a.eval o).run P c.w = .ok (.value (.tuple #[])) c'.w:=by
   simp [execOp,ho,resolve,invoke,builtin,hr]
  rw [this,Oper.upon_value]
  exact hK _ _ ⟨(gg _ _ _).trans hn,c',Lo,lam,rfl,f'.set (SR.of (by simp [VR,VRs])) (fun t ht=>by rw [hn]; exact hd t ht),e.trans e'⟩
 cases Cu:bL s.ρ x<;>rw [Cu] at h hx<;>simp only at h<;>try (cases h; done)
 ·cases h
  simp only [SR,VR] at hx
  refine fin c ?_ (Ext.refl _ _) f
  simp [Builtin.clear_,bn CB,hx]
 ·rename_i id
  rw [V4] at h
  obtain⟨ob,ho,h⟩:=h
  cases ob with
  | cells cs=>cases h
  | row t cs=>cases h
  | map es=>
  cases h
  simp only [SR,VR] at hx
  obtain⟨hi,r,rN,hr⟩:=hx
  rw [←f.h] at ho
  have hl:Live c.h id:=⟨f.rel.lt _ _ ho,by simp [ho]⟩
  have OB:=hr hl
  subst OB
  obtain⟨km,clock,h1,h2⟩:=f.rel.obj _ _ ho
  obtain⟨e',f'⟩:=f.vV (jo e hb0) ho h1 (qH:=#[]) (nv:=clock) (qB:=[]) trivial
  refine fin _ ?_ e' f'
  have hget:(getObj (c.β id).1).run P c.w = .ok (.map km clock) c.w:=MapKept.run_getObj_map h1
  have zQ:=MapKept.run_setObj_map (P:=P) (.map #[] clock) h1
  simp [Builtin.clear_,bn CB,rN,hget,zQ]
end
end Go.R
namespace Go.R
open Go
section
variable {P:Program}{L0:Nat→Prop}{c0:Cx}{n:Nat}{ds:List Nat}{o:Oper}{s:RS}
theorem lM {w:World}{t t2 ty e:TypeId}{i:TypeInfo}(ht:P.underlying t=some (.slice e))(hi:P.info? e=some i){base:Option Addr}{len cap:Nat}{x:Value}{news:List Value}{m:Nat}(hs:Src P i.size t2 x m news w)(hm:m≤len) :
  (Builtin.copy_ #[t,t2] ty #[.slice base len cap,x]).run P w=match base with | none=>.ok (goInt m) w | some a=>((storeCells a news).run P w).andThen fun _ w'=>.ok (goInt m) w':=by
 have LP:Nat.min m len=m:=XF hm
 have hlen:=hs.len w
 have hc:=hs.cells
 have hsz:(sizeOf e).run P w = .ok i.size w:=by simp [sizeOf,typeInfo,hi]
 unfold Builtin.copy_
 cases base with
 | none=>simp [bn ht,hlen,LP,hsz,hc]
 | some a=>simp [bn ht,hlen,LP,hsz,hc,Sem.run_bind]
theorem Hh (hb0:c0.base≤c0.w.heap.size)(hd:fN n ds o){t t2:TypeId}{dx sx:Operand}(ho:o.op = .call {callee:=.builtin .copy,args:=#[dx,sx],argTypes:=#[t,t2]}){y:AV}{h':AHeap}
  (h:uN P s.h t t2 (bL s.ρ dx) (bL s.ρ sx)=some (y,h')):iY P L0 c0 n ds o s ({s with h:=h'}.set o.dst y):=by
 rintro a w K Q ⟨hn,c,Lo,lam,rfl,f,e0⟩ hK
 have hbs:=jo e0 hb0
 unfold uN at h
 rw [V4] at h
 obtain⟨d,CB,h⟩:=h
 cases d<;>simp only at h<;>try (cases h; done)
 rename_i e
 rw [V4] at h
 obtain⟨i,hi,h⟩:=h
 rw [V4] at h
 obtain⟨⟨new,m⟩,hcs,h⟩:=h
 simp only at h
 split at h
 ·cases h
 rename_i hH
 have hH:jQ P t2 (bL s.ρ sx)=true:=by simpa using hH
 have Rz:∀st,bL s.ρ sx = .str st→P.underlying t2=some .string:=by
  intro st hst
  rw [hst] at hH
  unfold jQ at hH
  simp only at hH
  split at hH
  ·assumption
  ·cases hH
 have pJ:(∀st,bL s.ρ sx≠.str st)→∃e',P.underlying t2=some (.slice e'):=by
  intro hne
  unfold jQ at hH
  split at hH
  ·rename_i st hst; exact absurd hst (hne st)
  ·split at hH
   ·rename_i e' he; exact⟨e',he⟩
   ·cases hH
 have hk:(∃e',P.underlying t2=some (.slice e'))∨P.underlying t2=some .string:=by
  by_cases hst:∃st,bL s.ρ sx = .str st
  ·obtain⟨st,hst⟩:=hst; exact .inr (Rz st hst)
  ·exact .inl (pJ fun st OC=>hst ⟨st,OC⟩)
 obtain⟨news,hS,hv⟩:=pI f (bz f sx) hk Rz pJ hcs
 have xt:=bz f dx
 have fin:∀c',(Builtin.copy_ #[t,t2] o.type #[a.eval dx,a.eval sx]).run P c.w = .ok (goInt m) c'.w→Ext c Lo c' Lo→Fr L0 c' Lo lam ds {s with h:=h'} a→y = .int .i64 m→o.wp P a c.w K Q:=by
  intro c' hr e' f' hy
  unfold Oper.wp
  have:(execOp a.eval o).run P c.w = .ok (.value (goInt m)) c'.w:=by
   simp [execOp,ho,resolve,invoke,builtin,hr]
  rw [this,Oper.upon_value]
  exact hK _ _ ⟨(gg _ _ _).trans hn,c',Lo,lam,rfl,f'.set (SR.of (by subst hy; simp [VR,goInt])) (fun t ht=>by rw [hn]; exact hd t ht),e0.trans e'⟩
 cases Cu:bL s.ρ dx<;>rw [Cu] at h xt<;>simp only at h<;>try (cases h; done)
 ·split at h
  rotate_left
  ·cases h
  rename_i sj
  cases h
  simp only [SR,VR] at xt
  obtain⟨ad,xt⟩:∃ad:Option Addr,a.eval dx = .slice ad 0 0:=⟨none,xt⟩
  refine fin c ?_ (Ext.refl _ _) f (by rw [sj]; rfl)
  rw [xt,lM CB hi hS (by omega)]
  cases ad with
  | none=>rfl
  | some ad=>
   have:news=[]:=WS (by rw [hS.newsLen,sj]; simp)
   subst this
   rfl
 ·rename_i id off len jh
  split at h
  ·rename_i hid
   split at h
   rotate_left
   ·cases h
   rename_i sj
   cases h
   simp only [SR,VR] at xt
   rcases xt with⟨_,_,_,ad,xt⟩| xt
   rotate_left
   ·exact absurd hid xt.1
   refine fin c ?_ (Ext.refl _ _) f (by rw [sj]; rfl)
   rw [xt,lM CB hi hS (by omega)]
   cases ad with
   | none=>rfl
   | some ad=>
    have:news=[]:=WS (by rw [hS.newsLen,sj]; simp)
    subst this
    rfl
  rename_i ls
  rw [V4] at h
  obtain⟨ob,hob,h⟩:=h
  cases ob with
  | map es=>cases h
  | row t cs=>cases h
  | cells cs=>
  simp only at h
  split at h
  rotate_left
  ·cases h
  rename_i hh
  obtain⟨TT,LQ,hoff⟩:=hh
  cases h
  simp only [SR,VR] at xt
  rcases xt with xt | ⟨_,hid,ad,cap,xt,hlc,DX,hlive⟩
  ·exact absurd xt.1 ls
  rw [←f.h] at hob
  have hl:Live c.h id:=⟨f.rel.lt _ _ hob,by simp [hob]⟩
  obtain⟨q,hp,hq,hc⟩:=f.rel.obj _ _ hob
  have hnl:=hS.newsLen
  have hvl:=hv.length
  have hr:=lM (ty:=o.type) CB hi hS LQ (base:=ad) (cap:=cap)
  by_cases ha:ad=some ⟨(c.β id).1,(c.β id).2+off,none⟩
  ·subst ha
   simp only at hr
   have hst:=lK (P:=P) hp.mj (base:=(c.β id).2) (off:=off) (vs:=news) (by omega) hS.one
   rw [hst] at hr
   simp only [Result.andThen_ok] at hr
   obtain⟨q1,q2,q3,q4⟩:=gT news (c.β id).1 ((c.β id).2+off) c.w
   have zJ:iw c (c.β id).1 q:=hp
   obtain⟨C,LN,hb,zK⟩:=hp
   obtain⟨C',g1,g2,g3⟩:=fB news (c.β id).1 ((c.β id).2+off) c.w C LN (0,0) hb (by omega)
   obtain⟨e',f'⟩:=f.upd (w':=c.w.setCells (c.β id).1 ((c.β id).2+off) news) (β':=c.β) (h':=s.h.put id (.cells (dw cs off new))) id (.cells (dw cs off new))
    (by rw [f.h]; exact Steady.put _ _ _) (by rw [←f.h]; exact Xr hl.1) (by simp [AHeap.put,beq_nat]) (fun nV h1=>.inr ⟨by rw [f.h]; simp [AHeap.put,beq_nat,h1],rfl⟩) (fun _=>⟨hl,rfl⟩) (.inr ⟨id,hl,rfl,.inl rfl⟩)
    (fun _=>by simp only [Cx.len,World.shape?,g1,hb,Wa,W4,g2])
    (fun b _ hne=>dQ _ _ _ _ _ hne) (fun b _ hne=>dQ _ _ _ _ _ hne) (by rw [q1]; exact V7 _) hbs q2 q3 q4
    (fun ee=>⟨q,zJ.setCells (by omega) _ _ _,by rw [iU]; exact hq,jE zJ.mj hc hv hS.one (by omega) (by omega) ee rfl⟩)
   refine fin _ ?_ e' f' rfl
   rw [xt]
   exact hr
  ·have hz:new=[]∧m=0∧news=[]:=by
    rcases hlive hl with⟨h1,_⟩| h1
    ·exact absurd h1 ha
    ·have h0:m=0:=by omega
     have h2:news=[]:=WS (by rw [hnl,h0]; simp)
     subst h2
     exact⟨WS (by simpa using hvl),h0,rfl⟩
   obtain⟨rfl,rfl,rfl⟩:=hz
   have mR:dw cs off []=cs:=by simp [dw]
   rw [mR] at *
   obtain⟨e',f'⟩:=f.upd (w':=c.w) (β':=c.β) (h':=s.h.put id (.cells cs)) id (.cells cs)
    (by rw [f.h]; exact Steady.put _ _ _) (by rw [←f.h]; exact Xr hl.1) (by simp [AHeap.put,beq_nat]) (fun nV h1=>.inr ⟨by rw [f.h]; simp [AHeap.put,beq_nat,h1],rfl⟩) (fun _=>⟨hl,rfl⟩) (.inr ⟨id,hl,rfl,.inl rfl⟩)
    (fun _=>rfl) (fun b _ hne=>rfl) (fun b _ hne=>rfl) (V7 _) hbs rfl rfl rfl
    (fun ee=>q8.ext ee ⟨q,hp,hq,hc⟩ rfl)
   refine fin _ ?_ e' f' rfl
   rw [xt,hr]
   cases ad<;>rfl
end
end Go.R
namespace Go.R
open Go
section
variable {P:Program}{L0:Nat→Prop}{c0:Cx}{n:Nat}{ds:List Nat}{o:Oper}{s:RS}
theorem pK {e:TypeId}(h:Cl P e=true):P.underlying e=some (.int .u8)∧dY P e=some 1:=by
 unfold Cl at h
 simp only [V8,beq_iff_eq] at h
 obtain⟨h1,h2⟩:=h
 refine⟨?_,h2⟩
 split at h1
 ·assumption
 ·cases h1
theorem Bb {c:Cx}{L:Nat→Prop}:∀{cs:List AV} {l:List UInt8} {vs:List Value},GP cs=some l→VRs c L cs vs→∃xs:List Int,vs=xs.map (Value.int .u8)∧l=xs.map fun n=>UInt8.ofNat n.toNat
 | [],l,[],h,_=>by simp only [GP,V6] at h; subst h; exact⟨[],rfl,rfl⟩
 | x::cs,l,v::vs,h,hv=>by
  unfold GP at h
  split at h
  ·rename_i heq; cases heq
  ·rename_i n xs heq
   cases heq
   rw [V5] at h
   obtain⟨l',h1,rfl⟩:=h
   obtain⟨ys,rfl,rfl⟩:=Bb h1 hv.2
   have h2:=hv.1
   simp only [VR] at h2
   subst h2
   exact⟨n::ys,rfl,rfl⟩
  ·cases h
 | [],_,_::_,_,h=>h.elim
 | _::_,_,[],_,h=>h.elim
theorem vX (xs:List Int):strOfNums xs=⟨(xs.map fun n=>UInt8.ofNat n.toNat).toArray⟩:=rfl
theorem xP {w:World}{src dst e:TypeId}{v:Value}{m:Nat}{xs:List Int}(hs:P.underlying src=some (.slice e))(he:P.underlying e=some (.int .u8))(hd:P.underlying dst=some .string)
  (hS:Src P 1 src v m (xs.map (Value.int .u8)) w) (hv:∃a cap,v = .slice a m cap):(convert src dst v).run P w = .ok (.string (strOfNums xs)) w:=by
 obtain⟨a,cap,rfl⟩:=hv
 have hc:=hS.cells
 have hl:=hS.newsLen
 cases a with
 | none=>
  have:xs=[]:=by
   simp [Builtin.firstCells] at hc
   cases xs with
   | nil=>rfl
   | cons x xs=>simp at hc
  subst this
  exact run_convert_bytes_nil w src e hs he m cap dst hd
 | some a=>
  rw [run_convert_bytes_string w src dst e (some a) m cap hs he hd]
  have h1:(loadCells a m).run P w = .ok (xs.map (Value.int .u8)).toArray w:=by simpa [Builtin.firstCells] using hc
  rw [run_bytesToString w a m cap xs h1,foldl_push_bytes]
  simp [strOfNums,ByteArray.empty,ByteArray.emptyWithCapacity]
  rfl
theorem uk {c:Cx}{Lo:Nat→Prop}{lam:Nat→Nat}{x:AV}{v:Value}{h:AHeap}{size m:Nat}{new:List AV}(hx:SR c L0 Lo lam s.bx x v)(hc:dE h size x=some (new,m))(hne:∀st,x≠.str st):∃a cap,v = .slice a m cap:=by
 unfold dE at hc
 cases x<;>simp only at hc<;>try (cases hc; done)
 ·exact absurd rfl (hne _)
 ·cases hc
  simp only [SR,VR] at hx
  subst hx
  exact⟨none,0,rfl⟩
 ·split at hc
  ·cases hc
   simp only [SR,VR] at hx
   obtain⟨a,cap,rfl,_⟩:=hx
   exact⟨a,cap,rfl⟩
  ·cases hc
 ·split at hc
  ·split at hc
   ·cases hc
    simp only [SR,VR] at hx
    rename_i hid _
    rcases hx with⟨_,_,_,a,rfl⟩| hx
    ·exact⟨a,0,rfl⟩
    ·exact absurd hid hx.1
   ·cases hc
  rename_i ls
  rw [V4] at hc
  obtain⟨ob,_,hc⟩:=hc
  cases ob with
  | map es=>cases hc
  | row t cs=>cases hc
  | cells cs=>
   simp only at hc
   split at hc
   ·cases hc
    simp only [SR,VR] at hx
    rcases hx with hx | ⟨_,_,a,cap,rfl,_⟩
    ·exact absurd hx.1 ls
    exact⟨a,cap,rfl⟩
   ·cases hc
theorem bytes_VRs {c:Cx}{L:Nat→Prop}:∀l:List UInt8,VRs c L (l.map fun b=>AV.int .u8 b.toNat) (l.map fun b=>Value.int .u8 b.toNat)
 | []=>trivial
 | b::l=>⟨by simp [VR],bytes_VRs l⟩
theorem vY {w:World}{b o k:Nat}{C:Array Value}{e:TypeId}{fr:Nat × Nat}(hb:w.heap[b]? = some (.cells C e fr))(ho:C.size≤o)(hk:k≠0) :
  (∀b',iv w (w.freeze ⟨b,o,none⟩ k) b')∧(∀b',b'≠b→(w.freeze ⟨b,o,none⟩ k).heap[b']? = w.heap[b']?)∧(w.freeze ⟨b,o,none⟩ k).heap.size=w.heap.size∧(w.freeze ⟨b,o,none⟩ k).os=w.os∧(w.freeze ⟨b,o,none⟩ k).tape=w.tape∧(w.freeze ⟨b,o,none⟩ k).output=w.output:=by
 unfold World.freeze
 rw [if_neg hk]
 have hlt:=(WA.1 hb).1
 refine⟨fun b'=>?_,fun b' hne=>by simp [Xx,Xn hne],by simp,rfl,rfl,rfl⟩
 by_cases hne:b'=b
 ·subst hne
  obtain⟨lo,hi⟩:=fr
  refine .inr ⟨C,e,lo,hi,(if lo==hi then (o,o+k) else (min lo o,max hi (o+k))).1,(if lo==hi then (o,o+k) else (min lo o,max hi (o+k))).2,hb,?_,?_⟩
  ·simp [Xx,hb]
  ·intro h
   by_cases OD:lo=hi
   ·subst OD; right; simpa using ho
   ·have:(lo==hi)=false:=by simpa using OD
    right
    simp only [this,Wj,if_false]
    rcases h with h | h
    ·exact absurd h OD
    ·exact Nat.le_min.2 ⟨h,ho⟩
 ·exact .inl (by simp [Xx,Xn hne])
theorem zR (hb0:c0.base≤c0.w.heap.size)(hd:fN n ds o){src dst:TypeId}{x:Operand}(ho:o.op = .convert src dst x){y:AV}(h:gR P s.h src dst (bL s.ρ x)=some y):iY P L0 c0 n ds o s (s.set o.dst y):=by
 have hex:∀(a:Act) (w w':World) v,(convert src dst (a.eval x)).run P w = .ok v w'→(execOp a.eval o).run P w = .ok (.value v) w':=by
  intro a w w' v hr; simp [execOp,ho,hr]
 unfold gR at h
 split at h
 ·rename_i e hs zr
  split at h
  rotate_left
  ·cases h
  rename_i hu
  obtain⟨he,hsz⟩:=pK hu
  rw [V4] at h
  obtain⟨⟨cs,m⟩,hcs,h⟩:=h
  rw [V5] at h
  obtain⟨l,hl,rfl⟩:=h
  by_cases hst:∃st,bL s.ρ x = .str st
  ·
   obtain⟨st,hst⟩:=hst
   refine ff hd fun a c Lo lam f hn=>?_
   have hx:=bz f x
   rw [hst] at hx hcs
   simp only [SR,VR] at hx
   simp only [dE,if_true,V6,Wc] at hcs
   obtain⟨rfl,rfl⟩:=hcs
   refine⟨_,hex _ _ _ (.string st) ?_,?_⟩
   ·simp [convert,run_underlying hs,run_underlying zr,hx]
   ·have:∀(l0 l1:List UInt8),GP (l0.map fun b=>AV.int .u8 b.toNat)=some l1→l1=l0:=by
     intro l0
     induction l0 with
     | nil=>intro l1 h; simp [GP] at h; exact h
     | cons b l0 ih=>
      intro l1 h
      simp only [Wo,GP,V5] at h
      obtain⟨l2,h2,rfl⟩:=h
      rw [ih l2 h2]
      simp
    rw [this _ _ hl]
    simp [SR,VR]
  ·refine ff hd fun a c Lo lam f hn=>?_
   have hne:∀st,bL s.ρ x≠.str st:=fun st h=>hst ⟨st,h⟩
   have hx:=bz f x
   obtain⟨news,hS,hv⟩:=pI f hx (.inl ⟨e,hs⟩) (fun st h=>absurd h (hne st)) (fun _=>⟨e,hs⟩) hcs
   obtain⟨xs,rfl,rfl⟩:=Bb hl hv
   exact⟨_,hex _ _ _ _ (xP hs he zr hS (uk hx hcs hne)),by simp [SR,VR,vX]⟩
 ·rename_i e hs zr
  cases Cu:bL s.ρ x<;>rw [Cu] at h<;>simp only at h<;>try (cases h; done)
  rename_i st
  split at h
  rotate_left
  ·cases h
  rename_i hu
  obtain⟨he,hsz⟩:=pK hu
  cases h
  refine su hb0 hd (fun a c Lo lam f hn hbs=>?_) (by rintro k off h; cases h)
  have hx:=bz f x
  rw [Cu] at hx
  simp only [SR,VR] at hx
  have hr:=run_bytes_of_string c.w src dst e st hs zr he
  rw [←hx] at hr
  refine⟨_,_,hex _ _ _ _ hr,fun b hb=>.inl (alloc_old c.w.drew _ (show b<c.w.heap.size from hb)),fun id hl=>alloc_old c.w.drew _ (show (c.β id).1<c.w.heap.size from f.rel.block hl),fun b hb=>alloc_old c.w.drew _ (show b<c.w.heap.size by omega),by show c.w.heap.size≤(c.w.heap.push _).size; simp,rfl,rfl,rfl,fun e'=>?_⟩
  simp only [VR]
  refine⟨_,_,rfl,grownCap_ge c.w,by simp,.inl rfl,?_⟩
  refine .inr ⟨c.w.heap.size,0,rfl,D4 f.rel rfl rfl,by simp,?_⟩
  refine Cells.of_vals (bytes_VRs st.data.toList) (fun i hi=>?_) (fun v hv=>by obtain⟨b,_,rfl⟩:=Wv.1 hv; rfl)
  have k9:i<st.data.size:=by simpa using hi
  have:(World.alloc c.w.drew (.cells (bytesRow st (grownCap c.w st.size 0 e)) e ((bytesRow st (grownCap c.w st.size 0 e)).size,(bytesRow st (grownCap c.w st.size 0 e)).size+1))).heap[c.w.heap.size]? = some (.cells (bytesRow st (grownCap c.w st.size 0 e)) e ((bytesRow st (grownCap c.w st.size 0 e)).size,(bytesRow st (grownCap c.w st.size 0 e)).size+1)):=hZ c.w.drew _
  rw [cell_of_block this]
  simp [bytesRow,Array.getElem?_append,k9]
  intro hge
  have:st.size=st.data.size:=rfl
  omega
 ·rename_i e0 e hs zr
  cases Cu:bL s.ρ x<;>rw [Cu] at h<;>try (cases h; done)
  rename_i cs m ex
  cases ex
  ·cases h
  simp only at h
  split at h
  rotate_left
  ·cases h
  rename_i hu
  simp only [V8,beq_iff_eq,decide_eq_true_eq] at hu
  obtain⟨⟨TU,hu⟩,ja⟩:=hu
  subst TU
  obtain⟨he,hsz⟩:=pK hu
  cases h
  refine su hb0 hd (fun a c Lo lam f hn hbs=>?_) (by rintro k off h; cases h)
  have hx:=bz f x
  rw [Cu] at hx
  have Hi:=hx.vr (by rintro k off h; cases h)
  simp only [SR,VR] at hx
  obtain⟨ad,cap,rN,h1,h2,_,h3⟩:=hx
  rcases h3 with rfl | ⟨b,off,rfl,Lu,hbb,hc⟩
  ·simp at ja
  have hlt:b<c.w.heap.size:=by
   cases cs with
   | nil=>simp at ja
   | cons x cs=>exact jB hc
  have mR:∃C e' fr,c.w.heap[b]? = some (.cells C e' fr):=by
   cases cs with
   | nil=>simp at ja
   | cons x cs=>
    obtain⟨⟨v,hv,_⟩,_⟩:=hc
    unfold World.cell? at hv
    split at hv
    ·exact⟨_,_,_,by assumption⟩
    ·cases hv
  obtain⟨C,e',fr,hb⟩:=mR
  obtain⟨k1,k2,k3,k4,k5,k6⟩:=vY (k:=1) hb (V7 C.size) (by decide)
  refine⟨c.w.freeze ⟨b,C.size,none⟩ 1,a.eval x,hex _ _ _ _ ?_,fun b' _=>k1 b',fun id hl=>k2 _ (Lu.1 id hl),fun b' DG=>k2 b' (by have:=hbb trivial; omega),by rw [k3]; exact V7 _,k4,k5,k6,fun LN=>VR.ext LN _ _ Hi⟩
  rw [rN]
  have TV:c.w.shape? b=some (e',C.size):=by simp [World.shape?,hb]
  simp [convert,run_underlying zr,run_underlying he,markStringish,TV]
 ·rw [V4] at h
  obtain⟨v,hv,h⟩:=h
  rw [V4] at h
  obtain⟨r,hr,h⟩:=h
  refine ff hd fun a c Lo lam f hn=>?_
  have hx:=kn hv ((bz f x).vr (ko hv))
  exact⟨r,hex _ _ _ _ (by rw [hx]; exact jS _ hr),SR.of (ml h)⟩
theorem dC {op:BinOp}{t:TypeId}{x y:Operand}{u v:Value}(h:(∀a b,u≠.agg a∨v≠.agg b)∧u≠.nilIface)(w:World):(eqGuard op t x y u v).run P w = .ok () w:=by
 obtain⟨h1,h2⟩:=h
 unfold eqGuard
 cases op<;>first | rfl | skip
 all_goals
  simp only [Bool.not_true,Wj,if_false]
  split
  ·exact absurd rfl h2
  ·rename_i a b; rcases h1 a b with h3 | h3<;>exact absurd rfl h3
  ·rfl
theorem zS {x:AV}{u:Value}(h:x.fm=some u):(∀a,u≠.agg a)∧u≠.nilIface:=by
 unfold AV.fm at h
 split at h<;>first | (cases h; done) | (cases h; exact⟨fun _=>(by simp),(by simp)⟩)
theorem CC {op:BinOp}{a b:ByteArray}{y:AV}(h:zB op a b=some y)(w:World):∃r,(Op.stringOp op a b).run P w = .ok r w∧∀(c:Cx) (L:Nat→Prop),VR c L y r:=by
 have hl:∀z:ByteArray,z.toList=z.data.toList:=fun z=>ByteArray.toList_eq z
 unfold zB at h
 unfold Op.stringOp
 simp only [hl]
 cases op<;>simp only at h<;>try (cases h; done)
 ·split at h
  rotate_left
  ·cases h
  rename_i hsz
  cases h
  refine⟨.string (a++b),?_,fun c L=>by simp only [VR]⟩
  have h1:¬(((a.size+b.size:Nat):Int) > IntKind.i64.max):=by
   have:IntKind.i64.max=9223372036854775807:=by decide
   rw [this]; omega
  simp only [h1,if_false]
  rfl
 all_goals (cases h; exact⟨_,rfl,fun c L=>by simp only [VR]⟩)
theorem mo {op:BinOp}{px:Bool}(h:zC op=some px):(op = .eql∧px=true)∨(op = .neq∧px=false):=by
 unfold zC at h
 split at h<;>cases h
 ·exact .inl ⟨rfl,rfl⟩
 ·exact .inr ⟨rfl,rfl⟩
theorem nw {t:TypeId}(ht:∃q,P.underlying t=some (.pointer q)){a:Addr}{op:BinOp}{px:Bool}(h:zC op=some px)(w:World) :
  (binOp op t (.pointer (some a)) (.pointer none)).run P w = .ok (.bool (!px)) w∧(binOp op t (.pointer none) (.pointer (some a))).run P w = .ok (.bool (!px)) w:=by
 obtain⟨q,hq⟩:=ht
 have e1:(Op.equal t (.pointer (some a)) (.pointer none)).run P w = .ok false w:=by
  unfold Op.equal Op.maxDepth
  unfold Op.equalIn
  simp [bn hq]
 have e2:(Op.equal t (.pointer none) (.pointer (some a))).run P w = .ok false w:=by
  unfold Op.equal Op.maxDepth
  unfold Op.equalIn
  simp [bn hq]
 rcases mo h with⟨rfl,rfl⟩| ⟨rfl,rfl⟩
 ·constructor
  ·show ((do pure (.bool (←Op.equal t (.pointer (some a)) (.pointer none)))):Sem Value).run P w=_
   simp [e1]
  ·show ((do pure (.bool (←Op.equal t (.pointer none) (.pointer (some a))))):Sem Value).run P w=_
   simp [e2]
 ·constructor
  ·show ((do pure (.bool (!(←Op.equal t (.pointer (some a)) (.pointer none))))):Sem Value).run P w=_
   simp [e1]
  ·show ((do pure (.bool (!(←Op.equal t (.pointer none) (.pointer (some a)))))):Sem Value).run P w=_
   simp [e2]
theorem oc {t:TypeId}(ht:∃q,P.underlying t=some (.slice q)){ad:Option Addr}(hs:ad.isSome=true){m cap:Nat}{op:BinOp}{px:Bool}(h:zC op=some px)(w:World) :
  (binOp op t (.slice ad m cap) (.slice none 0 0)).run P w = .ok (.bool (!px)) w:=by
 obtain⟨q,hq⟩:=ht
 obtain⟨a,rfl⟩:=WE.1 hs
 have e1:(Op.equal t (.slice (some a) m cap) (.slice none 0 0)).run P w = .ok false w:=by
  unfold Op.equal Op.maxDepth
  unfold Op.equalIn
  simp [bn hq]
 rcases mo h with⟨rfl,rfl⟩| ⟨rfl,rfl⟩
 ·show ((do pure (.bool (←Op.equal t (.slice (some a) m cap) (.slice none 0 0)))):Sem Value).run P w=_
  simp [e1]
 ·show ((do pure (.bool (!(←Op.equal t (.slice (some a) m cap) (.slice none 0 0))))):Sem Value).run P w=_
  simp [e1]
theorem D8 (hd:fN n ds o){op:BinOp}{t t2:TypeId}{x y:Operand}(ho:o.op = .binOp op t x y t2){z:AV}(h:lF P op t (bL s.ρ x) (bL s.ρ y)=some z):iY P L0 c0 n ds o s (s.set o.dst z):=by
 refine ff hd fun a c Lo lam f hn=>?_
 have hx:=bz f x
 have hy:=bz f y
 have hex:∀v,(eqGuard op t x y (a.eval x) (a.eval y)).run P c.w = .ok () c.w→(binOp op t (a.eval x) (a.eval y)).run P c.w = .ok v c.w→(execOp a.eval o).run P c.w = .ok (.value v) c.w:=by
  intro v h1 h2; simp [execOp,ho,h1,h2]
 unfold lF at h
 split at h
 ·rename_i p q hp hq
  rw [hp] at hx; rw [hq] at hy
  simp only [SR,VR] at hx hy
  obtain⟨r,hr,hv⟩:=CC (P:=P) h c.w
  refine⟨r,hex _ (dC ⟨fun _ _=>.inl (by rw [hx]; simp),by rw [hx]; simp⟩ _) ?_,SR.of (hv _ _)⟩
  rw [hx,hy]
  unfold binOp
  simpa using hr
 ·rename_i p q hp hq
  rw [hp] at hx; rw [hq] at hy
  simp only [SR,VR] at hx hy
  obtain⟨_,ad,rN,_⟩:=hx
  rw [V4] at h
  obtain⟨px,rf,h⟩:=h
  split at h
  rotate_left
  ·cases h
  rename_i ht
  cases h
  refine⟨.bool (!px),hex _ (dC ⟨fun _ _=>.inl (by rw [rN]; simp),by rw [rN]; simp⟩ _) ?_,SR.of (by simp [VR])⟩
  rw [rN,hy]
  exact (nw ⟨_,ht⟩ rf _).1
 ·rename_i p q hp hq
  rw [hp] at hx; rw [hq] at hy
  simp only [SR,VR] at hx hy
  obtain⟨_,ad,NR,_⟩:=hy
  rw [V4] at h
  obtain⟨px,rf,h⟩:=h
  split at h
  rotate_left
  ·cases h
  rename_i ht
  cases h
  refine⟨.bool (!px),hex _ (dC ⟨fun _ _=>.inl (by rw [hx]; simp),by rw [hx]; simp⟩ _) ?_,SR.of (by simp [VR])⟩
  rw [hx,NR]
  exact (nw ⟨_,ht⟩ rf _).2
 ·rename_i p q hp hq
  rw [hp] at hx; rw [hq] at hy
  simp only [SR,VR] at hx hy
  obtain⟨b,off,rN,_⟩:=hx
  rw [V4] at h
  obtain⟨px,rf,h⟩:=h
  split at h
  rotate_left
  ·cases h
  rename_i ht
  cases h
  refine⟨.bool (!px),hex _ (dC ⟨fun _ _=>.inl (by rw [rN]; simp),by rw [rN]; simp⟩ _) ?_,SR.of (by simp [VR])⟩
  rw [rN,hy]
  exact (nw ⟨_,ht⟩ rf _).1
 ·rename_i hp hq
  rw [hp] at hx; rw [hq] at hy
  simp only [SR,VR] at hx hy
  obtain⟨ad,cap,rN,_,_,hs,_⟩:=hx
  replace hs:ad.isSome=true:=hs.elim id fun h=>by cases h.1
  rw [V4] at h
  obtain⟨px,rf,h⟩:=h
  split at h
  rotate_left
  ·cases h
  rename_i ht
  cases h
  refine⟨.bool (!px),hex _ (dC ⟨fun _ _=>.inl (by rw [rN]; simp),by rw [rN]; simp⟩ _) ?_,SR.of (by simp [VR])⟩
  rw [rN,hy]
  exact oc ⟨_,ht⟩ hs rf _
 ·rename_i hp hq
  rw [hp] at hx; rw [hq] at hy
  simp only [SR,VR] at hx hy
  rcases hx with⟨hx,_⟩| ⟨_,_,ad,cap,rN,_,hs,_⟩
  ·omega
  rw [V4] at h
  obtain⟨px,rf,h⟩:=h
  split at h
  rotate_left
  ·cases h
  rename_i ht
  cases h
  refine⟨.bool (!px),hex _ (dC ⟨fun _ _=>.inl (by rw [rN]; simp),by rw [rN]; simp⟩ _) ?_,SR.of (by simp [VR])⟩
  rw [rN,hy]
  exact oc ⟨_,ht⟩ hs rf _
 ·rename_i p q hp hq
  rw [hp,hq] at h
  rw [hp] at hx; rw [hq] at hy
  have Hi:=hx.vr (by rintro k off h; cases h)
  have OE:=hy.vr (by rintro k off h; cases h)
  rw [V4] at h
  obtain⟨px,rf,h⟩:=h
  split at h
  rotate_left
  ·cases h
  rename_i jF
  simp only [V8,Xq] at jF
  obtain⟨⟨⟨h1,h2⟩,h3⟩,h4⟩:=jF
  cases h
  have hk:=uR (P:=P) 9998 h1 h3 Hi OE c.w
  simp only [VR] at Hi OE
  obtain⟨vx,rN,_⟩:=Hi
  obtain⟨vy,NR,_⟩:=OE
  refine⟨.bool (fL (.agg p) (.agg q)==px),hex _ ?_ ?_,SR.of (by simp only [VR])⟩
  ·rw [rN,NR]
   rcases mo rf with⟨rfl,rfl⟩| ⟨rfl,rfl⟩<;>simp [eqGuard,h4,program,Sem.run]
  ·rw [rN,NR] at hk ⊢
   rcases mo rf with⟨rfl,rfl⟩| ⟨rfl,rfl⟩
   ·show ((do pure (.bool (←Op.equal t (.agg vx) (.agg vy)))):Sem Value).run P c.w=_
    have Lz:(Op.equal t (.agg vx) (.agg vy)).run P c.w=_:=hk
    simp [Lz]
   ·show ((do pure (.bool (!(←Op.equal t (.agg vx) (.agg vy))))):Sem Value).run P c.w=_
    have Lz:(Op.equal t (.agg vx) (.agg vy)).run P c.w=_:=hk
    simp [Lz]
 ·rw [V4] at h
  obtain⟨u,hu,h⟩:=h
  rw [V4] at h
  obtain⟨v,hv,h⟩:=h
  rw [V4] at h
  obtain⟨r,hr,h⟩:=h
  have h1:=kn hu (hx.vr (ko hu))
  have h2:=kn hv (hy.vr (ko hv))
  have h3:=zS hu
  exact⟨r,hex _ (dC ⟨fun p _=>.inl (by rw [h1]; exact h3.1 p),by rw [h1]; exact h3.2⟩ _) (by rw [h1,h2]; exact jS _ hr),SR.of (ml h)⟩
theorem Hj (hd:fN n ds o){op:UnOp}{t:TypeId}{x:Operand}(ho:o.op = .unOp op t x){z:AV}(h:((bL s.ρ x).fm.bind fun a=>(il P (Op.unary op a)).bind nS)=some z):iY P L0 c0 n ds o s (s.set o.dst z):=by
 refine ff hd fun a c Lo lam f hn=>?_
 rw [V4] at h
 obtain⟨u,hu,h⟩:=h
 rw [V4] at h
 obtain⟨r,hr,h⟩:=h
 have h1:=kn hu ((bz f x).vr (ko hu))
 refine⟨r,?_,SR.of (ml h)⟩
 have:=jS (P:=P) c.w hr
 rw [←h1] at this
 simp [execOp,ho,this]
theorem Bc (hd:fN n ds o){x:Operand}(ho:o.op = .move x∨o.op = .assign x):iY P L0 c0 n ds o s (s.set o.dst (bL s.ρ x)):=
 ff hd fun a c Lo lam f hn=>⟨a.eval x,by rcases ho with ho | ho<;>simp [execOp,ho],bz f x⟩
theorem Hk (hd:fN n ds o){k x y:Operand}(ho:o.op = .pick k x y){t:Bool}(h:sc (bL s.ρ k)=some t):iY P L0 c0 n ds o s (s.set o.dst (if t then bL s.ρ x else bL s.ρ y)):=by
 refine ff hd fun a c Lo lam f hn=>?_
 have hk:=bz f k
 unfold sc at h
 split at h
 ·rename_i b hb
  cases h
  rw [hb] at hk
  simp only [SR,VR] at hk
  refine⟨if t then a.eval x else a.eval y,by simp [execOp,ho,hk,asBool],?_⟩
  cases t
  ·exact bz f y
  ·exact bz f x
 ·cases h
theorem xQ (hd:fN n ds o){x:Operand}(ho:o.op = .nilCheck x){z:AV}(h:pA (bL s.ρ x)=some z):iY P L0 c0 n ds o s (s.set o.dst z):=by
 refine ff hd fun a c Lo lam f hn=>?_
 have hx:=bz f x
 have hp:(∃ad,a.eval x = .pointer (some ad))∧z=bL s.ρ x:=by
  unfold pA at h
  split at h
  ·rename_i id off heq
   cases h
   rw [heq] at hx
   simp only [SR,VR] at hx
   obtain⟨_,ad,h1,_⟩:=hx
   exact⟨⟨ad,h1⟩,heq.symm⟩
  ·rename_i k off heq
   cases h
   rw [heq] at hx
   simp only [SR] at hx
   exact⟨⟨_,hx.1⟩,heq.symm⟩
  ·rename_i cs off heq
   cases h
   rw [heq] at hx
   simp only [SR,VR] at hx
   obtain⟨b,o',h1,_⟩:=hx
   exact⟨⟨_,h1⟩,heq.symm⟩
  ·cases h
 obtain⟨⟨ad,hp⟩,rfl⟩:=hp
 exact⟨a.eval x,by simp [execOp,ho,hp],hx⟩
theorem mr {c:Cx}{Lo:Nat→Prop}{lam:Nat→Nat}{a:Act}(f:Fr L0 c Lo lam ds s a):∀xs:List Operand,(∀x∈xs,∀k off,bL s.ρ x≠.lp k off)→VRs c (un L0 Lo) (xs.map (bL s.ρ)) (xs.map a.eval)
 | [],_=>trivial
 | x::xs,h=>⟨(bz f x).vr (h x (by simp)),mr f xs fun y hy=>h y (by simp [hy])⟩
theorem CD {x:AV}(h:x.cC=true):∀k off,x≠.lp k off:=by rintro k off rfl; simp [AV.cC] at h
theorem xR (hd:fN n ds o){zT:FuncId}{first cap:Array Operand}(ho:o.op = .makeFunc (.func zT) first cap)(hf:first.isEmpty=true)(hc:(cap.toList.map (bL s.ρ)).all AV.cC=true):iY P L0 c0 n ds o s (s.set o.dst (.fn zT (cap.toList.map (bL s.ρ)))):=by
 refine ff hd fun a c Lo lam f hn=>?_
 have LR:first = #[]:=by simpa using hf
 subst LR
 refine⟨.func (.func zT) #[] (cap.map a.eval),by simp [execOp,ho,Instr.makeFunc],SR.of ?_⟩
 simp only [VR]
 refine⟨_,rfl,?_⟩
 rw [Array.toList_map]
 refine mr f _ fun x hx=>CD ?_
 rw [Ws] at hc
 exact hc _ (Wv.2 ⟨x,hx,rfl⟩)
theorem zU (hd:fN n ds o){x:Operand}{i:Nat}(ho:o.op = .extract x i){z:AV}(h:sd (bL s.ρ x) i=some z):iY P L0 c0 n ds o s (s.set o.dst z):=by
 refine ff hd fun a c Lo lam f hn=>?_
 have hx:=bz f x
 cases heq:bL s.ρ x<;>rw [heq] at h hx<;>simp only [sd] at h<;>try (cases h; done)
 rename_i vs
 simp only [SR,VR] at hx
 obtain⟨us,rN,DH⟩:=hx
 obtain⟨v,hv,hr⟩:=DH.get i z h
 have OF:us[i]? = some v:=by simpa using hv
 exact⟨v,by simp [execOp,ho,rN,Instr.extract,OF],SR.of hr⟩
theorem qI {op:Value→Value→Sem Value}:∀(vs:List Value) (v r:Value) (w:World),kK P op v vs=some r→(vs.foldlM op v).run P w = .ok r w
 | [],v,r,w,h=>by simp only [kK,V6] at h; subst h; rfl
 | x::xs,v,r,w,h=>by
  simp only [kK,V4] at h
  obtain⟨u,h1,h2⟩:=h
  simp only [List.foldlM_cons,Sem.run_bind,jS w h1,Result.andThen_ok]
  exact qI xs u r w h2
theorem uY (hd:fN n ds o){b:Builtin}{Bd:Array TypeId}{args:Array Operand}(ho:o.op = .call {callee:=.builtin b,args:=args,argTypes:=Bd}){op:Value→Value→Sem Value}(hb:(b = .min∧op=Builtin.min2)∨(b = .max∧op=Builtin.max2))
  {x:AV} {xs:List AV} (he:args.toList.map (bL s.ρ)=x::xs) {v u:Value} {vs:List Value} (hx:x.fm=some v) (hxs:iK xs=some vs) (hf:kK P op v vs=some u) {z:AV} (hz:nS u=some z):iY P L0 c0 n ds o s (s.set o.dst z):=by
 refine ff hd fun a c Lo lam f hn=>?_
 refine⟨u,?_,SR.of (ml hz)⟩
 have hne:∀q:Operand,∀k off,bL s.ρ q = .lp k off→q∉args.toList:=by
  intro q k off hq hm
  have uZ:AV.lp k off∈x::xs:=by rw [←he,←hq]; exact Wv.2 ⟨q,hm,rfl⟩
  rcases WG.1 uZ with h1 | h1
  ·exact ko hx k off h1.symm
  ·have:∀(ys:List AV) (us:List Value),iK ys=some us→AV.lp k off∉ys:=by
    intro ys
    induction ys with
    | nil=>intro us _ h; cases h
    | cons y ys ih=>
     intro us hu hm
     simp only [iK,V4] at hu
     obtain⟨u1,h2,VJ,h3,_⟩:=hu
     rcases WG.1 hm with h4 | h4
     ·exact ko h2 k off h4.symm
     ·exact ih _ h3 h4
   exact this _ _ hxs h1
 have A7:=mr f args.toList (fun q hq k off h=>hne q k off h hq)
 rw [he] at A7
 have ku:args.toList.map a.eval=v::vs:=pG (xs:=x::xs) (us:=v::vs) (by simp [iK,hx,hxs]) A7
 have hr:=qI vs v u c.w hf
 have hargs:args.map a.eval=(v::vs).toArray:=by rw [←ku]; apply XE; simp
 rcases hb with⟨rfl,rfl⟩| ⟨rfl,rfl⟩
 ·simp [execOp,ho,resolve,invoke,builtin,Builtin.min_,hargs,hr]
 ·simp [execOp,ho,resolve,invoke,builtin,Builtin.max_,hargs,hr]
end
end Go.R
namespace Go.R
open Go
def CallOK (P:Program)(cf:CallF):Prop:=
 ∀f args h r h',cf f args h=some (r,h')→
  (∀(vs:Array Value) (w:World),(callFunc f vs).run P w = .ok (.enter f vs) w)∧
  ∀(L0:Nat→Prop) (c:Cx) (vs:List Value),c.h=h→c.base≤c.w.heap.size→HRel c L0→VRs c L0 args vs→
   Calls P f vs.toArray c.w fun e w'=>∃c' v,e = .returned v∧c'.w=w'∧c'.h=h'∧VR c' L0 r v∧HRel c' L0∧Ext c none0 c' none0
section
variable {P:Program}{L0:Nat→Prop}{c0:Cx}{n:Nat}{ds:List Nat}{o:Oper}{s:RS}
theorem Fr.call {c c':Cx}{Lo:Nat→Prop}{lam:Nat→Nat}{a:Act}(f:Fr L0 c Lo lam ds s a)(hr:HRel c' (un L0 Lo))(e:Ext c none0 c' none0) :
  Ext c Lo c' Lo∧Fr L0 c' Lo lam ds {s with h:=c'.h} a:=by
 have zp:∀b,Lo b→b<c.w.heap.size:=fun b hb=>f.rel.bd b (.inr hb)
 have e':Ext c Lo c' Lo:=
  ⟨e.next,e.live,e.size,fun b h1 _ h3=>e.fU b h1 (fun h=>h.elim) h3,e.exact,e.base,e.Im,fun _ h=>h,fun _ h=>.inl h,e.os,e.tape,e.output⟩
 refine⟨e',rfl,hr,fun t=>(f.slot t).ext e' (fun _ _ _=>⟨rfl,fun h=>h⟩),fun k cs hb=>?_,f.inj,f.tidy,f.defers,fun b hb=>by rw [e.base]; exact f.DR b hb⟩
 have ob:=f.box k cs hb
 exact ob.ext e' (e.fU _ ob.plain.lt (fun h=>h.elim) fun id hl he=>f.rel.out id hl (he ▸ .inr ob.own))
theorem Hl {cf:CallF}(hcf:CallOK P cf)(hb0:c0.base≤c0.w.heap.size)(hd:fN n ds o){fx:Operand}{args:Array Operand}{Bd:Array TypeId}(ho:o.op = .call {callee:=.value fx,args:=args,argTypes:=Bd}){zT:FuncId}{cap:List AV}
  (hf:bL s.ρ fx = .fn zT cap) (ha:(args.toList.map (bL s.ρ)).all AV.k7=true) {r:AV} {h':AHeap} (h:cf zT (args.toList.map (bL s.ρ)++cap) s.h=some (r,h')) :
  iY P L0 c0 n ds o s ({s with h:=h'}.set o.dst r):=by
 rintro a w K Q ⟨hn,c,Lo,lam,rfl,f,e0⟩ hK
 obtain⟨hin,hcall⟩:=hcf _ _ _ _ _ h
 have OG:=bz f fx
 rw [hf] at OG
 simp only [SR,VR] at OG
 obtain⟨cv,TW,LC⟩:=OG
 have hargs:VRs c (un L0 Lo) (args.toList.map (bL s.ρ)) (args.toList.map a.eval):=by
  refine mr f _ fun x hx=>sC ?_
  rw [Ws] at ha
  exact ha _ (Wv.2 ⟨x,hx,rfl⟩)
 have ku:=VRs.append hargs LC
 unfold Oper.wp
 have:(execOp a.eval o).run P c.w = .ok (.enter zT (args.map a.eval++cv)) c.w:=by
  simp [execOp,ho,resolve,TW,Deferred.ofValue,invoke,hin]
 rw [this,Oper.upon_enter]
 have hc:=hcall (un L0 Lo) c _ f.h (jo e0 hb0) f.rel ku
 have he:(args.toList.map a.eval++cv.toList).toArray=args.map a.eval++cv:=by
  apply XE; simp
 rw [he] at hc
 refine Calls.mono hc ?_
 rintro e w' ⟨c',v,rfl,rfl,hh,hv,hrel,Jg⟩
 obtain⟨e',f'⟩:=f.call hrel Jg
 rw [hh] at f'
 exact hK _ _ ⟨(gg _ _ _).trans hn,c',Lo,lam,rfl,f'.set (SR.of hv) (fun t ht=>by rw [hn]; exact hd t ht),e0.trans e'⟩
theorem Option.map_some' {α β:Type}{x:Option α}{g:α→β}{y:β}(h:x.map g=some y):∃z,x=some z∧g z=y:=V5.1 h
theorem u3 {aD:List Nat}{cs:List AV}{s':RS}(h:gZ s aD ds o cs=some s'):cs.all AV.cC=true:=by
 unfold gZ at h
 split at h
 ·assumption
 ·cases h
theorem Jh {cf:CallF}(hcf:CallOK P cf)(hb0:c0.base≤c0.w.heap.size)(hd:fN n ds o){aD:List Nat}{s':RS}(h:vM P cf aD ds s o=some s'):iY P L0 c0 n ds o s s':=by
 have dy:∀{x:Option AV},(x.map fun x=>s.set o.dst x)=some s'→(∀z,x=some z→iY P L0 c0 n ds o s (s.set o.dst z))→iY P L0 c0 n ds o s s':=by
  intro x hx hz
  obtain⟨z,rfl,rfl⟩:=Option.map_some' hx
  exact hz z rfl
 unfold vM zD at h
 dsimp only at h
 split at h
 ·rename_i x ho; cases h; exact Bc hd (.inl ho)
 ·rename_i x ho; cases h; exact Bc hd (.inr ho)
 ·rename_i k x y ho
  obtain⟨t,ht,rfl⟩:=Option.map_some' h
  exact Hk hd ho ht
 ·
  rename_i t ho
  rw [V4] at h
  obtain⟨z,hz,h⟩:=h
  refine uU hb0 hd t h fun a c Lo lam f hn=>?_
  have nW:=u3 h
  obtain⟨v,h1,h2,h3⟩:=Cw (P:=P) (c:=c) hz (He nW) (un L0 Lo)
  exact⟨v,by simp [execOp,ho,h1],Hd h2,h3⟩
 ·
  rename_i t x ho
  refine uU hb0 hd t h fun a c Lo lam f hn=>?_
  have nW:(bL s.ρ x).cells.all AV.cC=true:=u3 h
  obtain⟨h1,h2⟩:=iZ nW ((bz f x).rM nW)
  exact⟨a.eval x,by simp [execOp,ho,Instr.box,newVar,newRow],h1,h2⟩
 ·rename_i t ps ho
  refine dy h fun z hz=>ff hd fun a c Lo lam f hn=>?_
  obtain⟨v,hr,hv⟩:=run_build (P:=P) (nY f ps.toList) hz
  refine⟨v,?_,SR.of hv⟩
  have he:ps.map (fun (i,x)=>(i,a.eval x))=(ps.toList.map fun (i,x)=>(i,a.eval x)).toArray:=by
   apply XE; simp
  simp only [execOp,ho,Sem.run_bind]
  rw [he,hr]
  rfl
 ·rename_i t k ps ho
  rw [V5] at h
  obtain⟨z,hz,rfl⟩:=h
  exact sv hb0 hd ho aD hz
 ·
  rename_i t x ho
  refine dy h fun z hz=>ff hd fun a c Lo lam f hn=>?_
  obtain⟨r,hr,hv⟩:=si (P:=P) f (t:=t) (bz f x) hz
  exact⟨r,by simp [execOp,ho,hr],SR.of hv⟩
 ·
  rename_i t x y ho
  split at h
  ·cases h
  rename_i re
  exact D0 hb0 hd ho (by simpa using re) h
 ·rename_i ho; exact dy h fun z hz=>xQ hd ho hz
 ·rename_i ho; exact dy h fun z hz=>D8 hd ho hz
 ·rename_i ho; exact dy h fun z hz=>Hj hd ho hz
 ·rename_i ho; exact dy h fun z hz=>zR hb0 hd ho hz
 ·rename_i zT first cap ho
  split at h
  ·rename_i hh
   refine dy h fun z hz=>?_
   cases hz
   exact xR hd ho hh.1 hh.2
  ·cases h
 ·rename_i ho; cases h; exact zL hb0 hd ho
 ·rename_i ho; exact vT hb0 hd ho h
 ·
  rename_i t x lo hi mx ho
  refine dy h fun z hz=>ff hd fun a c Lo lam f hn=>?_
  have hs:∀(q:Option Operand) (y:AV),q.map (bL s.ρ)=some y→∃v,q.map a.eval=some v∧SR c L0 Lo lam s.bx y v:=by
   intro q y hq
   obtain⟨u,rfl,rfl⟩:=Option.map_some' hq
   exact⟨_,rfl,bz f u⟩
  have KW:∀(q:Option Operand),q.map (bL s.ρ)=none→q.map a.eval=none:=by
   intro q hq
   simpa using hq
  obtain⟨r,hr,hv⟩:=zI (P:=P) (bz f x) (hs lo) (KW lo) (hs hi) (KW hi) (hs mx) (KW mx) hz
  exact⟨r,by simp [execOp,ho,hr],SR.of hv⟩
 ·rename_i t x i ho
  refine dy h fun z hz=>ff hd fun a c Lo lam f hn=>?_
  obtain⟨r,hr,hv⟩:=xE (P:=P) (bz f x) hz
  exact⟨r,by simp [execOp,ho,hr],hv⟩
 ·rename_i t x i ho
  refine dy h fun z hz=>ff hd fun a c Lo lam f hn=>?_
  obtain⟨r,hr,hv⟩:=zG (P:=P) (bz f x) hz
  exact⟨r,by simp [execOp,ho,hr],SR.of hv⟩
 ·rename_i t x i ho
  refine dy h fun z hz=>ff hd fun a c Lo lam f hn=>?_
  obtain⟨r,hr,hv⟩:=xD (P:=P) (bz f x) (bz f i) hz
  exact⟨r,by simp [execOp,ho,hr],hv⟩
 ·rename_i t x i ho
  refine dy h fun z hz=>ff hd fun a c Lo lam f hn=>?_
  obtain⟨r,hr,hv⟩:=zH (P:=P) (bz f x) (bz f i) hz
  exact⟨r,by simp [execOp,ho,hr],SR.of hv⟩
 ·rename_i t m k ok ho
  refine dy h fun z hz=>ff hd fun a c Lo lam f hn=>?_
  obtain⟨r,hr,hv⟩:=xJ (P:=P) f (bz f m) (bz f k) hz
  exact⟨r,by simp [execOp,ho,hr],SR.of hv⟩
 ·rename_i t m k x ho
  split at h
  ·cases h
  rename_i re
  obtain⟨h',hh,rfl⟩:=Option.map_some' h
  exact oa hb0 (.inl ho) (by simpa using re) hh
 ·rename_i t m k x ho
  split at h
  ·cases h
  rename_i re
  obtain⟨h',hh,rfl⟩:=Option.map_some' h
  exact oa hb0 (.inr ho) (by simpa using re) hh
 ·rename_i ho; exact dy h fun z hz=>zU hd ho hz
 ·
  rename_i b args Bd ho
  unfold gd at h
  split at h
  ·rename_i t x hts hargs
   have zV:Bd = #[t]:=by apply XE; simpa using hts
   obtain⟨q,hq,rfl⟩:∃q,args = #[q]∧bL s.ρ q=x:=by
    cases args with | mk l=>
    rcases l with _ | ⟨q,_ | ⟨q2,l⟩⟩<;>simp at hargs
    exact⟨q,rfl,hargs⟩
   subst zV hq
   refine dy h fun z hz=>ff hd fun a c Lo lam f hn=>?_
   obtain⟨r,hr,hv⟩:=DW (P:=P) f #[t] rfl (bz f q) hz o.type
   exact⟨r,by simp [execOp,ho,resolve,invoke,builtin,hr],SR.of hv⟩
  ·rename_i t t2 x y hts hargs
   have zV:Bd = #[t,t2]:=by apply XE; simpa using hts
   obtain⟨q,q2,hq,rfl,rfl⟩:∃q q2,args = #[q,q2]∧bL s.ρ q=x∧bL s.ρ q2=y:=by
    cases args with | mk l=>
    rcases l with _ | ⟨q,_ | ⟨q2,_ | ⟨q3,l⟩⟩⟩<;>simp at hargs
    exact⟨q,q2,rfl,hargs.1,hargs.2⟩
   subst zV hq
   exact CA hb0 hd ho h
  ·rename_i t t2 x y hts hargs
   have zV:Bd = #[t,t2]:=by apply XE; simpa using hts
   obtain⟨q,q2,hq,rfl,rfl⟩:∃q q2,args = #[q,q2]∧bL s.ρ q=x∧bL s.ρ q2=y:=by
    cases args with | mk l=>
    rcases l with _ | ⟨q,_ | ⟨q2,_ | ⟨q3,l⟩⟩⟩<;>simp at hargs
    exact⟨q,q2,rfl,hargs.1,hargs.2⟩
   subst zV hq
   obtain⟨⟨z,h'⟩,hh,rfl⟩:=Option.map_some' h
   exact Hh hb0 hd ho hh
  ·rename_i t x hts hargs
   have zV:Bd = #[t]:=by apply XE; simpa using hts
   obtain⟨q,hq,rfl⟩:∃q,args = #[q]∧bL s.ρ q=x:=by
    cases args with | mk l=>
    rcases l with _ | ⟨q,_ | ⟨q2,l⟩⟩<;>simp at hargs
    exact⟨q,rfl,hargs⟩
   subst zV hq
   obtain⟨h',hh,rfl⟩:=Option.map_some' h
   exact D7 hb0 hd ho hh
  ·rename_i x xs hargs
   rw [V4] at h
   obtain⟨v,hv,h⟩:=h
   rw [V4] at h
   obtain⟨vs,DH,h⟩:=h
   rw [V4] at h
   obtain⟨u,hu,h⟩:=h
   exact dy h fun z hz=>uY hd ho (.inl ⟨rfl,rfl⟩) hargs hv DH hu hz
  ·rename_i x xs hargs
   rw [V4] at h
   obtain⟨v,hv,h⟩:=h
   rw [V4] at h
   obtain⟨vs,DH,h⟩:=h
   rw [V4] at h
   obtain⟨u,hu,h⟩:=h
   exact dy h fun z hz=>uY hd ho (.inr ⟨rfl,rfl⟩) hargs hv DH hu hz
  ·cases h
 ·
  rename_i fx args Bd ho
  split at h
  ·rename_i zT cap heq
   split at h
   ·rename_i ha
    obtain⟨⟨r,h'⟩,hh,rfl⟩:=Option.map_some' h
    exact Hl hcf hb0 hd ho heq ha hh
   ·cases h
  ·cases h
 ·cases h
end
end Go.R
namespace Go.R
open Go
section
variable {P:Program}{L0:Nat→Prop}{c0:Cx}{n:Nat}{ds:List Nat}{s:RS}
theorem Fr.Ji {c:Cx}{Lo:Nat→Prop}{lam:Nat→Nat}{a:Act}(f:Fr L0 c Lo lam ds s a)(id:Nat) :
  Ext c Lo ⟨c.β,c.h.kill id,c.w,c.base⟩ Lo∧Fr L0 ⟨c.β,c.h.kill id,c.w,c.base⟩ Lo lam ds {s with h:=s.h.kill id} a∧(Live c.h id→RO ⟨c.β,c.h.kill id,c.w,c.base⟩ (un L0 Lo) (c.β id).1):=by
 have hg:∀i,(c.h.kill id).get i=if i=id then none else c.h.get i:=fun i=>by
  simp only [AHeap.kill,beq_nat]
  by_cases h:i=id<;>simp [h]
 have nP:∀i,Live (c.h.kill id) i→i≠id∧Live c.h i:=fun i hl=>by
  have h2:=hl.2
  rw [hg] at h2
  by_cases h:i=id
  ·rw [if_pos h] at h2; cases h2
  ·rw [if_neg h] at h2
   obtain⟨o,ho⟩:=WE.1 h2
   exact⟨h,f.rel.lt _ _ ho,h2⟩
 have e:Ext c Lo ⟨c.β,c.h.kill id,c.w,c.base⟩ Lo:=
  ⟨Xk _,fun i hi hl=>⟨(nP i hl).2,rfl,rfl⟩,V7 _,fun _ _ _ _=>.inl rfl,fun _ _=>rfl,rfl,fun i hl=>.inr ⟨i,(nP i hl).2,rfl⟩,fun _ h=>h,fun _ h=>.inl h,rfl,rfl,rfl⟩
 refine⟨e,⟨by rw [←f.h],⟨fun i o ho=>?_,fun i o ho=>?_,fun i j hi hj he=>?_,fun i hi=>?_,f.rel.bd,fun i hi=>?_,(Steady.kill c.h id).wf f.rel.ver⟩,fun t=>?_,fun k cs hb=>?_,f.inj,f.tidy,f.defers,f.DR⟩,fun hl=>⟨fun i hi he=>?_,f.rel.out id hl⟩⟩
 ·replace ho:(c.h.kill id).get i=some o:=ho
  rw [hg] at ho
  by_cases h:i=id
  ·rw [if_pos h] at ho; cases ho
  ·rw [if_neg h] at ho; exact Xr (f.rel.lt _ _ ho)
 ·replace ho:(c.h.kill id).get i=some o:=ho
  rw [hg] at ho
  by_cases h:i=id
  ·rw [if_pos h] at ho; cases ho
  ·rw [if_neg h] at ho
   exact (f.rel.obj i o ho).ext e rfl
 ·exact f.rel.inj i j (nP i hi).2 (nP j hj).2 he
 ·exact f.rel.out i (nP i hi).2
 ·exact f.rel.low i (nP i hi).2
 ·exact (f.slot t).ext e (fun _ _ _=>⟨rfl,fun h=>h⟩)
 ·have hb2:=f.box k cs hb
  exact hb2.ext e (.inl rfl)
 ·obtain⟨h1,h2⟩:=nP i hi
  exact h1 (f.rel.inj i id h2 hl he)
theorem Be {c:Cx}{Lo:Nat→Prop}{lam:Nat→Nat}{a:Act}(f:Fr L0 c Lo lam ds s a){k:Nat}{x y:AV}{h':AHeap}(h:ki k s.h x=some (y,h')) :
  (∀k off,x≠.lp k off)∧(∀k off,y≠.lp k off)∧∃c',c'.w=c.w∧Ext c Lo c' Lo∧Fr L0 c' Lo lam ds {s with h:=h'} a∧∀v,VR c (un L0 Lo) x v→VR c' (un L0 Lo) y v:=by
 cases k with
 | zero=>
  cases x with
  | nils=>
   simp only [ki,V6,Wc] at h
   obtain⟨rfl,rfl⟩:=h
   refine⟨by simp,by simp,c,rfl,Ext.refl _ _,f,fun v hv=>?_⟩
   simp only [VR] at hv ⊢
   exact⟨none,0,hv,V7 _,fun _=>rfl,.inr ⟨trivial,rfl⟩,.inl trivial⟩
  | fz cs m ex=>
   simp only [ki,V6,Wc] at h
   obtain⟨rfl,rfl⟩:=h
   refine⟨by simp,by simp,c,rfl,Ext.refl _ _,f,fun v hv=>?_⟩
   simp only [VR] at hv ⊢
   obtain⟨a,cap,rfl,h1,h2,hs,hc⟩:=hv
   exact⟨a,cap,rfl,h1,by simp,hs,hc.imp id fun ⟨b,o,ha,hr,hex,hc⟩=>⟨b,o,ha,hr,by simp,hc⟩⟩
  | rs id off len jh=>
   simp only [ki] at h
   split at h
   ·rename_i hid
    split at h
    rotate_left
    ·cases h
    rename_i hl0
    simp only [V6,Wc] at h
    obtain⟨rfl,rfl⟩:=h
    refine⟨by simp,by simp,c,rfl,Ext.refl _ _,f,fun v hv=>?_⟩
    simp only [VR] at hv ⊢
    rcases hv with⟨_,_,_,a,rfl⟩| hv
    ·exact⟨a,0,rfl,V7 _,fun _=>rfl,.inr ⟨trivial,rfl⟩,.inl trivial⟩
    ·exact absurd hid hv.1
   rename_i ls
   rw [V4] at h
   obtain⟨ob,ho,h⟩:=h
   cases ob with
   | map es=>cases h
   | row t cs=>cases h
   | cells cs=>
   simp only at h
   split at h
   rotate_left
   ·cases h
   rename_i hle
   simp only [V6,Wc] at h
   obtain⟨rfl,rfl⟩:=h
   rw [←f.h] at ho
   have hl:Live c.h id:=⟨f.rel.lt _ _ ho,by simp [ho]⟩
   obtain⟨e,f',Lu⟩:=f.Ji id
   refine⟨by simp,by simp,⟨c.β,c.h.kill id,c.w,c.base⟩,rfl,e,f',fun v hv=>?_⟩
   simp only [VR] at hv ⊢
   rcases hv with hv | ⟨_,_,a,cap,rfl,h1,h2,h3⟩
   ·exact absurd hv.1 ls
   obtain⟨m,_,_,hc⟩:=f.rel.obj _ _ ho
   refine⟨a,cap,rfl,h1,by simp,.inl h2,?_⟩
   rcases h3 hl with⟨h4,_⟩| h4
   ·exact .inr ⟨_,_,h4,Lu hl,by simp,Cells.move e _ _ _ _ _ (fun i hi=>rfl) ((hc.drop off).take (len*jh))⟩
   ·left
    have hz:len=0:=by omega
    subst hz
    simp
  | _=>simp [ki] at h
 | succ k=>
  have key:(x = .nils∨x = .fz [] 0 true)→y = .rs 0 0 0 (k+1)→h'=s.h→(∀k off,x≠.lp k off)∧(∀k off,y≠.lp k off)∧∃c',c'.w=c.w∧Ext c Lo c' Lo∧Fr L0 c' Lo lam ds {s with h:=h'} a∧∀v,VR c (un L0 Lo) x v→VR c' (un L0 Lo) y v:=by
   rintro hx rfl rfl
   refine⟨by rcases hx with rfl | rfl<;>simp,by simp,c,rfl,Ext.refl _ _,f,fun v hv=>?_⟩
   rcases hx with rfl | rfl
   ·simp only [VR] at hv ⊢
    exact .inl ⟨trivial,trivial,trivial,none,hv⟩
   ·simp only [VR] at hv ⊢
    obtain⟨a,cap,rfl,h1,h2,hs,hc⟩:=hv
    have:=h2 trivial
    subst this
    exact .inl ⟨trivial,trivial,trivial,a,rfl⟩
  unfold ki at h
  simp only at h
  split at h
  ·simp only [V6,Wc] at h
   exact key (.inl rfl) h.1.symm h.2.symm
  ·simp only [V6,Wc] at h
   exact key (.inr rfl) h.1.symm h.2.symm
  ·simp only [V6,Wc] at h
   obtain⟨rfl,rfl⟩:=h
   exact⟨by simp,by simp,c,rfl,Ext.refl _ _,f,fun v hv=>hv⟩
  ·cases h
theorem Inv.vP {a:Act}{w:World}{p:Nat × Option Nat × Nat}{s':RS}(hi:Inv L0 c0 n ds s a w)(h:vP s p=some s'):Inv L0 c0 n ds s' a w:=by
 obtain⟨hn,c,Lo,lam,rfl,f,e⟩:=hi
 unfold Go.R.vP at h
 split at h
 ·rw [V5] at h
  obtain⟨⟨y,h'⟩,hz,rfl⟩:=h
  obtain⟨hx,hy,c',hw,e',f',hv⟩:=Be f hz
  refine⟨hn,c',Lo,lam,hw,⟨f'.h,f'.rel,fun t=>?_,f'.box,f'.inj,fun t k off ht he=>?_,f'.defers,f'.DR⟩,e.trans e'⟩
  ·simp only [beq_nat]
   by_cases ht:t=p.1
   ·subst ht
    simp only [decide_true,cond_true]
    exact SR.of (hv _ ((f.slot _).vr hx))
   ·simp only [ht,decide_false,cond_false]
    exact f'.slot t
  ·simp only [beq_nat] at he
   by_cases RA:t=p.1
   ·simp only [RA,decide_true,cond_true] at he
    exact absurd he (hy _ _)
   ·simp only [RA,decide_false,cond_false] at he
    exact f'.tidy t k off ht he
 ·rename_i i hp
  split at h
  rotate_left
  ·cases h
  rename_i cs hcs
  simp only [V4,V5] at h
  obtain⟨x,hx,⟨y,h'⟩,hz,rfl⟩:=h
  obtain⟨hx1,hy,c',hw,e',f',hv⟩:=Be f hz
  have zO:∀k,(bif WM k p.1 then some (cs.set i y) else s.bx k).isSome=(s.bx k).isSome:=fun k=>by
   simp only [beq_nat]
   by_cases hk:k=p.1
   ·subst hk; simp [hcs]
   ·simp [hk]
  refine⟨hn,c',Lo,lam,hw,⟨f'.h,f'.rel,fun t=>?_,fun k fA hb=>?_,fun k k' h1 h2=>f'.inj k k' (by rw [←zO]; exact h1) (by rw [←zO]; exact h2),f'.tidy,f'.defers,f'.DR⟩,e.trans e'⟩
  ·have:=f'.slot t
   unfold SR at this ⊢
   split
   ·rename_i k off he
    rw [he] at this
    simp only at this
    exact⟨this.1,by rw [zO]; exact this.2⟩
   ·rename_i x' Hi
    split at this
    ·rename_i he; exact absurd he (Hi _ _)
    ·exact this
  ·simp only [beq_nat] at hb
   by_cases hk:k=p.1
   ·subst hk
    simp only [decide_true,cond_true,V6] at hb
    subst hb
    have ob:=f.box _ cs hcs
    have OH:=f'.box _ cs hcs
    refine⟨OH.own,by rw [Wd]; exact OH.plain,?_⟩
    obtain⟨vs,q1,q2,q3⟩:=ob.cells.vals
    obtain⟨TX,r1,r2,r3⟩:=OH.cells.vals
    have hlen:vs=TX:=by
     apply WV
     intro j
     by_cases hj:j<cs.length
     ·rw [←q2 j hj,←r2 j hj,hw]
     ·rw [Wl (by rw [←q1.length]; omega),Wl (by rw [←r1.length]; omega)]
    subst hlen
    obtain⟨u,hu,hr⟩:=VRs.get q1 i x hx
    have zQ:VRs c' (un L0 Lo) (cs.set i y) vs:=by
     have:=VRs.set (hv u hr) i r1
     have Io:vs.set i u=vs:=by
      apply WV
      intro j
      rw [Xs]
      by_cases hji:i=j
      ·subst hji
       rw [if_pos rfl,hu]
       have:=(Wb.1 hu).1
       simp [this]
      ·rw [if_neg hji]
     rwa [Io] at this
    exact Cells.of_vals zQ (fun j hj=>by rw [r2 j (by rw [r1.length]; exact hj)]) r3
   ·simp only [hk,decide_false,cond_false] at hb
    exact f'.box k fA hb
theorem Inv.kM {a:Act}{w:World}:∀{l:List (Nat × Option Nat × Nat)} {s s':RS},Inv L0 c0 n ds s a w→kM s l=some s'→Inv L0 c0 n ds s' a w
 | [],s,s',hi,h=>by cases h; exact hi
 | p::ps,s,s',hi,h=>by
  simp only [Go.R.kM,V4] at h
  obtain⟨s1,h1,h2⟩:=h
  exact Inv.kM (hi.vP h1) h2
theorem Hm {A:cb}{r:Nat}{s:RS}:(s.mO A r).h=s.h:=by
 unfold RS.mO
 split<;>rfl
theorem qJ {k:Nat}{h h':AHeap}{x y:AV}(hz:ki k h x=some (y,h')):Steady h h':=by
 unfold ki at hz
 split at hz
 ·split at hz
  ·cases hz; exact Steady.refl _
  ·split at hz
   ·split at hz
    ·cases hz; exact Steady.refl _
    ·cases hz
   rw [V4] at hz
   obtain⟨o,_,hz⟩:=hz
   split at hz
   ·split at hz
    ·cases hz; exact Steady.kill _ _
    ·cases hz
   ·cases hz
  ·cases hz; exact Steady.refl _
  ·cases hz
 ·split at hz<;>cases hz<;>exact Steady.refl _
theorem xS {s s':RS}{p:Nat × Option Nat × Nat}(hz:vP s p=some s'):Steady s.h s'.h:=by
 unfold vP at hz
 split at hz
 ·rw [V5] at hz
  obtain⟨⟨y,h'⟩,hz,rfl⟩:=hz
  exact qJ hz
 ·split at hz
  ·simp only [V4,V5] at hz
   obtain⟨x,hx,⟨y,h'⟩,hz,rfl⟩:=hz
   exact qJ hz
  ·cases hz
theorem lN:∀{l:List (Nat × Option Nat × Nat)} {s s':RS},kM s l=some s'→Steady s.h s'.h
 | [],s,s',h=>by cases h; exact Steady.refl _
 | p::ps,s,s',h=>by
  simp only [kM,V4] at h
  obtain⟨s1,h1,h2⟩:=h
  exact (xS h1).trans (lN h2)
end
end Go.R
namespace Go.R
open Go
section
variable {P:Program}{L0:Nat→Prop}{c0:Cx}{n:Nat}{ds:List Nat}{o:Oper}{s:RS}
theorem CE {ops:Array Oper}{c:Cx}{Lo:Nat→Prop}{lam:Nat→Nat}{a:Act}(f:Fr L0 c Lo lam ds s a){b:Bool}(h:gA ops.toList s.ρ o=some b):Region.wanted o (yielded ops a.tmps)=b:=by
 unfold gA at h
 unfold Region.wanted
 split at h
 ·rename_i hg; rw [hg]; cases h; rfl
 ·rename_i j want hg
  rw [hg]
  rw [V4] at h
  obtain⟨d,hd,h⟩:=h
  have GR:(ops[j]?).bind (·.dst)=some d:=by simpa using hd
  have hs:=f.slot d
  simp only [yielded,GR,V3]
  rw [Array.getD_eq_getD_getElem?] at hs
  split at h
  ·rename_i b' hb
   cases h
   rw [hb] at hs
   simp only [SR,VR] at hs
   cases hq:a.tmps[d]? with
   | none=>rw [hq] at hs; simp [undef] at hs
   | some v=>
    rw [hq] at hs
    simp only [W4] at hs
    subst hs
    cases b'<;>cases want<;>rfl
  ·rename_i hb
   cases h
   rw [hb] at hs
   simp only [SR,VR] at hs
   obtain⟨vs,hv,_⟩:=hs
   cases hq:a.tmps[d]? with
   | none=>rfl
   | some v=>
    rw [hq] at hv
    simp only [W4] at hv
    subst hv
    rfl
  ·cases h
theorem xT {cf:CallF}(hcf:CallOK P cf)(hb0:c0.base≤c0.w.heap.size){ops:Array Oper}(Jj:ds=ops.toList.filterMap (·.dst))(hd:fN n ds o){aD:List Nat}{s':RS}(h:lG P cf aD ops.toList s o=some s')
  {a:Act} {w:World} {K:Act→World→Prop} {Q:Exit→Act→World→Prop} (hi:Inv L0 c0 n ds s a w) (hK:∀a' w',Inv L0 c0 n ds s' a' w'→K a' w') :
  if Region.wanted o (yielded ops a.tmps) then o.wp P a w K Q else K (a.put o.dst undef) w:=by
 unfold lG at h
 rw [V4] at h
 obtain⟨b,hb,h⟩:=h
 have TY:=hi
 obtain⟨hn,c,Lo,lam,rfl,f,e⟩:=hi
 rw [CE f hb]
 cases b with
 | true=>
  simp only [if_true] at h ⊢
  rw [←Jj] at h
  exact Jh hcf hb0 hd h a c.w K Q TY hK
 | false=>
  simp only [Wj,if_false,V6] at h ⊢
  subst h
  exact hK _ _ ⟨(gg _ _ _).trans hn,c,Lo,lam,rfl,f.set (SR.of (by simp [VR,undef,VRs])) (fun t ht=>by rw [hn]; exact hd t ht),e⟩
def u4 (n:Nat)(ops:List Oper):Bool:=ops.all fun o=>match o.dst with | some t=>Nat.blt t n | none=>true
theorem xU {ops:List Oper}(h:u4 n ops=true){o:Oper}(ho:o∈ops):fN n (ops.filterMap (·.dst)) o:=by
 intro t ht
 unfold u4 at h
 rw [Ws] at h
 have:=h o ho
 rw [ht] at this
 exact⟨Nat.blt_eq.mp this,List.mem_filterMap.2 ⟨o,ho,ht⟩⟩
theorem Bf {cf:CallF}(hcf:CallOK P cf)(hb0:c0.base≤c0.w.heap.size){ops:Array Oper}(Jj:ds=ops.toList.filterMap (·.dst))(xL:u4 n ops.toList=true){aD:List Nat}{Q:Exit→Act→World→Prop}{s':RS}(hQ:∀a' w',Inv L0 c0 n ds s' a' w'→Q .normal a' w') :
  ∀(l:List Oper) (s:RS),(∀o∈l,o∈ops.toList)→q7 P cf aD ops.toList s l=some s'→∀a w,Inv L0 c0 n ds s a w→wpList P ops Q l a w
 | [],s,_,h,a,w,hi=>by
  simp only [q7,V6] at h
  subst h
  exact wpList_nil (hQ a w hi)
 | o::l,s,hl,h,a,w,hi=>by
  simp only [q7,V4] at h
  obtain⟨s1,h1,h2⟩:=h
  refine wpList_step fun K hK=>?_
  exact xT hcf hb0 Jj (by rw [Jj]; exact xU xL (hl o (by simp))) h1 hi fun a' w' k9=>hK a' w' (Bf hcf hb0 Jj xL hQ l s1 (fun o ho=>hl o (by simp [ho])) h2 a' w' k9)
theorem iy {α:Type}(d:α):∀(ks:List Nat) (g:Nat→α) (t:Nat),look d ks (ks.map g) t=if t∈ks then g t else d
 | [],g,t=>rfl
 | k::ks,g,t=>by
  simp only [Wo,look,beq_nat,iy d ks g t,WG]
  by_cases h:t=k
  ·subst h; simp
  ·simp [h]
theorem Fr.forget {c:Cx}{Lo:Nat→Prop}{lam:Nat→Nat}{a:Act}(f:Fr L0 c Lo lam ds s a){s2:RS}(hh:s2.h=s.h)(hb:∀k cs,s2.bx k=some cs→s.bx k=some cs)
  (hr:∀t,s2.ρ t = .any∨s2.ρ t=s.ρ t∧∀k off,s.ρ t = .lp k off→k=t∧((s.bx k).isSome=true→(s2.bx k).isSome=true)):Fr L0 c Lo lam [] s2 a:=by
 refine⟨f.h.trans hh.symm,f.rel,fun t=>?_,fun k cs h=>f.box k cs (hb k cs h),fun k k' h h'=>f.inj k k' ?_ ?_,fun t k off _ he=>?_,f.defers,f.DR⟩
 ·rcases hr t with h | ⟨h,h2⟩
  ·rw [h]; exact SR.of (by simp [VR])
  ·rw [h]
   have hs:=f.slot t
   cases hx:s.ρ t<;>rw [hx] at hs<;>try exact hs
   rename_i k off
   simp only [SR] at hs ⊢
   exact⟨hs.1,(h2 k off hx).2 hs.2⟩
 ·obtain⟨cs,hcs⟩:=WE.1 h; rw [hb k cs hcs]; rfl
 ·obtain⟨cs,hcs⟩:=WE.1 h'; rw [hb k' cs hcs]; rfl
 ·rcases hr t with h | ⟨h,h2⟩
  ·rw [h] at he; cases he
  ·exact (h2 k off (h ▸ he)).1
theorem Inv.shut {a:Act}{w:World}(A:cb)(h:Inv L0 c0 n ds s a w):Inv L0 c0 n [] ((s.shut A).open A) a w:=by
 obtain⟨hn,c,Lo,lam,rfl,f,e⟩:=h
 refine⟨hn,c,Lo,lam,rfl,f.forget rfl (fun k cs hk=>?_) (fun t=>?_),e⟩
 ·simp only [RS.shut,St.open,iy] at hk
  split at hk
  ·exact hk
  ·cases hk
 ·simp only [RS.shut,St.open,iy]
  split
  ·unfold xA
   cases hx:s.ρ t<;>simp only<;>try (right; exact⟨trivial,fun k off he=>by cases he⟩)
   rename_i k off
   cases hc:(WM k t&&WM off 0&&A.aD.contains k) with
   | false=>left; rfl
   | true=>
    right
    simp only [V8,beq_nat,decide_eq_true_eq,List.contains_iff_mem] at hc
    refine⟨rfl,fun k' TZ he=>?_⟩
    cases he
    refine⟨hc.1.1,fun hs=>?_⟩
    rw [if_pos hc.2]
    exact hs
  ·left; rfl
theorem Inv.mO {a:Act}{w:World}(A:cb)(r:Nat)(h:Inv L0 c0 n ds s a w):Inv L0 c0 n [] ((s.mO A r).open A) a w:=by
 unfold RS.mO
 split
 ·exact h.shut A
 rename_i dl _
 have h2:=h.shut A
 obtain⟨hn,c,Lo,lam,hw,f,e⟩:=h2
 have LB:∀k,(St.open A {vars:=A.fU.map (fun t=>bif (gf r A.dead).contains t then .any else xA A.aD s.ρ t),KR:=A.aD.map (fun k=>bif (gf r A.dead).contains k then none else s.bx k),h:=s.h}).bx k=bif (gf r A.dead).contains k then none else (St.open A (s.shut A)).bx k:=by
  intro k
  simp only [RS.shut,St.open,iy]
  cases (gf r A.dead).contains k<;>simp
 refine⟨hn,c,Lo,lam,hw,f.forget rfl (fun k cs hk=>?_) (fun t=>?_),e⟩
 ·rw [LB] at hk
  cases hc:(gf r A.dead).contains k with
  | true=>rw [hc] at hk; cases hk
  | false=>rw [hc] at hk; exact hk
 ·have hv:(St.open A {vars:=A.fU.map (fun t=>bif (gf r A.dead).contains t then .any else xA A.aD s.ρ t),KR:=A.aD.map (fun k=>bif (gf r A.dead).contains k then none else s.bx k),h:=s.h}).ρ t=bif (gf r A.dead).contains t then .any else (St.open A (s.shut A)).ρ t:=by
   simp only [RS.shut,St.open,iy]
   cases (gf r A.dead).contains t<;>simp
  rw [hv]
  cases hc:(gf r A.dead).contains t with
  | true=>left; rfl
  | false=>
   right
   refine⟨rfl,fun k off he=>?_⟩
   have Hg:k=t:=f.tidy t k off (by simp) he
   refine⟨Hg,fun hs=>?_⟩
   rw [LB,Hg,hc]
   rw [Hg] at hs
   exact hs
theorem Inv.wide {a:Act}{w:World}(h:Inv L0 c0 n [] s a w)(ds:List Nat):Inv L0 c0 n ds s a w:=by
 obtain⟨hn,c,Lo,lam,rfl,f,e⟩:=h
 exact⟨hn,c,Lo,lam,rfl,⟨f.h,f.rel,f.slot,f.box,f.inj,fun t k off _ he=>f.tidy t k off (by simp) he,f.defers,f.DR⟩,e⟩
theorem Inv.drew {a:Act}{w:World}(h:Inv L0 c0 n ds s a w):Inv L0 c0 n ds s a {w with drawn:=w.drawn+1}:=by
 obtain⟨hn,c,Lo,lam,rfl,f,e⟩:=h
 obtain⟨e',f'⟩:=f.world (w':={c.w with drawn:=c.w.drawn+1}) (fun b _=>.inl rfl) (fun _ _=>rfl) (fun b _=>rfl) (V7 _) rfl rfl rfl
 exact⟨hn,_,Lo,lam,rfl,f',e.trans e'⟩
def lO (P:Program)(c:Code)(Q:Exit→Act→World→Prop)(a:Act)(w:World):Prop:=
 ∀(b:Frame) (k:List Item) (cs:List Frame),∃e a' w',Q e a' w'∧Arrives P (lone (b.at a (.code c :: .inLoop c::k)) cs w) b k cs e a' w'
theorem lO.step {c:Code}{Q:Exit→Act→World→Prop}{a:Act}{w:World}(h:c.wp P (Exit.then (lO P c Q) Q) a w):lO P c Q a w:=by
 intro b k cs
 obtain⟨e,a₁,w₁,hq,xV⟩:=h b (.inLoop c::k) cs
 cases e with
 | normal=>
  obtain⟨e₂,a₂,w₂,T0,LS⟩:=hq b k cs
  exact⟨e₂,a₂,w₂,T0,.of_steps (Steps.trans xV (.one step_inLoop)) LS⟩
 | exit id=>exact⟨_,a₁,w₁,hq,.pass (x:=.inLoop c) rfl (fun _ _=>.inl (by simp)) xV⟩
 | goto l=>exact⟨_,a₁,w₁,hq,.pass (x:=.inLoop c) rfl (fun _ _=>.inl (by simp)) xV⟩
 | ret=>exact⟨_,a₁,w₁,hq,.pass (x:=.inLoop c) rfl (fun _ _=>.inl (by simp)) xV⟩
 | panic ch=>exact⟨_,a₁,w₁,hq,.pass (x:=.inLoop c) rfl (fun _ _=>.inl (by simp)) xV⟩
 | outgrown=>exact⟨_,a₁,w₁,hq,.pass (x:=.inLoop c) rfl (fun _ _=>.inl (by simp)) xV⟩
theorem lO.loop {c:Code}{Q:Exit→Act→World→Prop}{a:Act}{w:World}(h:lO P c Q a w):(Code.loop c).wp P Q a w:=by
 intro b k cs
 obtain⟨e,a',w',hq,xV⟩:=h b k cs
 exact⟨e,a',w',hq,.of_steps (.one step_loop) xV⟩
def Ex.It:Ex→Exit
 | .norm=>.normal
 | .exit id=>.exit id
 | .ret=>.ret
def jV (n:Nat):Code→Bool
 | .region _ ops _=>u4 n ops.toList
 | .seq a b=>jV n a&&jV n b
 | .cond _ x y=>jV n x&&jV n y
 | .block _ c=>jV n c
 | .loop c=>jV n c
 | _=>true
def zW (P:Program)(cf:CallF):Prop:=
 ∀(L0:Nat→Prop) (c0:Cx) (n:Nat) (aD:List Nat) (id:Nat) (ops:Array Oper) (s s':RS),kL P cf aD ops s=some s'→c0.base≤c0.w.heap.size→u4 n ops.toList=true→
  ∀a w Q,Inv L0 c0 n (ops.toList.filterMap (·.dst)) s a w→(∀a' w',Inv L0 c0 n (ops.toList.filterMap (·.dst)) s' a' w'→Q .normal a' w')→(Code.region id ops true).wp P Q a w
theorem jG {cf:CallF}(hcf:CallOK P cf)(CF:zW P cf)(hb0:c0.base≤c0.w.heap.size){A:cb}{m:Nat}:∀(c:Code),jV n c=true→∀(st jr:St) (ex:Ex),bG P cf A m c st=some (ex,jr)→
  ∀a w Q,Inv L0 c0 n [] (st.open A) a w→(∀a' w',Inv L0 c0 n [] (jr.open A) a' w'→Q ex.It a' w')→c.wp P Q a w
 | .skip,_,st,jr,ex,h,a,w,Q,hi,hQ=>by
  simp only [bG,V6,Wc] at h
  obtain⟨rfl,rfl⟩:=h
  exact wp_skip (hQ a w hi)
 | .label _,_,st,jr,ex,h,a,w,Q,hi,hQ=>by
  simp only [bG,V6,Wc] at h
  obtain⟨rfl,rfl⟩:=h
  exact wp_label (hQ a w hi)
 | .ret,_,st,jr,ex,h,a,w,Q,hi,hQ=>by
  simp only [bG,V6,Wc] at h
  obtain⟨rfl,rfl⟩:=h
  exact wp_ret (hQ a w hi)
 | .exit id,_,st,jr,ex,h,a,w,Q,hi,hQ=>by
  simp only [bG,V6,Wc] at h
  obtain⟨rfl,rfl⟩:=h
  exact wp_exit (hQ a w hi)
 | .seq x y,hB,st,jr,ex,h,a,w,Q,hi,hQ=>by
  simp only [jV,V8] at hB
  simp only [bG,V4] at h
  obtain⟨⟨Iu,um⟩,h1,h2⟩:=h
  refine wp_seq (jG hcf CF hb0 x hB.1 st um Iu h1 a w _ hi fun a' w' k9=>?_)
  cases Iu with
  | norm=>exact jG hcf CF hb0 y hB.2 um jr ex h2 a' w' Q k9 hQ
  | exit id=>
   simp only [V6,Wc] at h2
   obtain⟨rfl,rfl⟩:=h2
   exact hQ a' w' k9
  | ret=>
   simp only [V6,Wc] at h2
   obtain⟨rfl,rfl⟩:=h2
   exact hQ a' w' k9
 | .cond k x y,hB,st,jr,ex,h,a,w,Q,hi,hQ=>by
  simp only [jV,V8] at hB
  simp only [bG,V4] at h
  obtain⟨t,ht,h⟩:=h
  have hk:a.eval k = .bool t:=by
   obtain⟨hn,c,Lo,lam,rfl,f,e⟩:=hi
   have hk:=bz f k
   unfold sc at ht
   split at ht
   ·rename_i b hb
    cases ht
    rw [hb] at hk
    simpa [SR,VR] using hk
   ·cases ht
  refine wp_cond hk ?_
  cases t with
  | true=>exact jG hcf CF hb0 x hB.1 st jr ex (by simpa using h) a w Q hi hQ
  | false=>exact jG hcf CF hb0 y hB.2 st jr ex (by simpa using h) a w Q hi hQ
 | .block id x,hB,st,jr,ex,h,a,w,Q,hi,hQ=>by
  simp only [jV] at hB
  simp only [bG,V5] at h
  obtain⟨⟨Iu,um⟩,h1,h2⟩:=h
  refine wp_block (jG hcf CF hb0 x hB st um Iu h1 a w _ hi fun a' w' k9=>?_)
  cases Iu with
  | norm=>
   simp only [Wc] at h2
   obtain⟨rfl,rfl⟩:=h2
   exact hQ a' w' k9
  | exit nV=>
   simp only [Wc] at h2
   obtain⟨rfl,rfl⟩:=h2
   have:=hQ a' w' k9
   simp only [Ex.It,Exit.inBlock]
   split
   ·rename_i he; rw [if_pos he] at this; exact this
   ·rename_i he; rw [if_neg he] at this; exact this
  | ret=>
   simp only [Wc] at h2
   obtain⟨rfl,rfl⟩:=h2
   exact hQ a' w' k9
 | .loop x,hB,st,jr,ex,h,a,w,Q,hi,hQ=>by
  simp only [jV] at hB
  simp only [bG] at h
  have key:∀(j:Nat) (st:St),kj (bG P cf A m x) j st=some (ex,jr)→∀a w,Inv L0 c0 n [] (st.open A) a w→lO P x Q a w:=by
   intro j
   induction j with
   | zero=>intro st h; simp [kj] at h
   | succ j ih=>
    intro st h a w hi
    simp only [kj,V4] at h
    obtain⟨⟨Iu,um⟩,h1,h2⟩:=h
    refine lO.step (jG hcf CF hb0 x hB st um Iu h1 a w _ hi fun a' w' k9=>?_)
    cases Iu with
    | norm=>exact ih um h2 a' w' k9
    | exit id=>
     simp only [V6,Wc] at h2
     obtain⟨rfl,rfl⟩:=h2
     exact hQ a' w' k9
    | ret=>
     simp only [V6,Wc] at h2
     obtain⟨rfl,rfl⟩:=h2
     exact hQ a' w' k9
  exact lO.loop (key m st h a w hi)
 | .region id ops draw,hB,st,jr,ex,h,a,w,Q,hi,hQ=>by
  simp only [jV] at hB
  simp only [bG,V4,V5,Wc] at h
  obtain⟨s0,h0,s',h1,s2,h2,rfl,rfl⟩:=h
  replace hi:=hi.kM h0
  cases draw with
  | true=>
   simp only [if_true] at h1
   exact CF L0 c0 n A.aD id ops _ s' h1 hb0 hB a w Q (hi.wide _) fun a' w' k9=>hQ a' w' ((k9.kM h2).mO A id)
  | false=>
   simp only [Wj,if_false] at h1
   exact wp_region_list (Bf hcf hb0 rfl hB (fun a' w' k9=>hQ a' w' ((k9.kM h2).mO A id)) ops.toList _ (fun _ h=>h) h1 a w (hi.wide _))
 | .rangeFunc ..,_,st,jr,ex,h,_,_,_,_,_=>by simp [bG] at h
 | .scope ..,_,st,jr,ex,h,_,_,_,_,_=>by simp [bG] at h
 | .goto ..,_,st,jr,ex,h,_,_,_,_,_=>by simp [bG] at h
 | .refuse ..,_,st,jr,ex,h,_,_,_,_,_=>by simp [bG] at h
theorem vZ {c:Cx}{Lo:Nat→Prop}{lam:Nat→Nat}{a:Act}(f:Fr L0 c Lo lam ds s a):∀(rs:List ResultVar) (l:List AV),zE P s rs=some l→l.all AV.k7=true→
  ∃vs:List Value,(rs.mapM (m:=Sem) fun | .tmp t=>pure (a.tmps.getD t undef) | .cell x t=>do loadVar t (←asAddr (a.tmps.getD x undef))).run P c.w = .ok vs c.w∧VRs c (un L0 Lo) l vs
 | [],l,h,_=>by
  simp only [zE,V6] at h
  subst h
  exact⟨[],rfl,trivial⟩
 | .tmp t::rs,l,h,hl=>by
  simp only [zE,V5] at h
  obtain⟨l',h1,rfl⟩:=h
  simp only [W2,V8] at hl
  obtain⟨vs,h2,h3⟩:=vZ f rs l' h1 hl.2
  refine⟨a.tmps.getD t undef::vs,?_,(f.slot t).vr (sC hl.1),h3⟩
  simp only [List.mapM_cons,Sem.run_bind,Sem.run_pure,Result.andThen_ok,h2]
 | .cell x t::rs,l,h,hl=>by
  simp only [zE,V4,V5] at h
  obtain⟨y,hy,l',h1,rfl⟩:=h
  simp only [W2,V8] at hl
  obtain⟨vs,h2,h3⟩:=vZ f rs l' h1 hl.2
  have hx:=f.slot x
  obtain⟨u,hr,hu⟩:=si (P:=P) f (t:=t) hx hy
  have hp:∃ad,a.tmps.getD x undef = .pointer (some ad):=by
   unfold iX at hy
   cases hq:s.ρ x<;>rw [hq] at hy hx<;>simp only at hy<;>try (cases hy; done)
   ·simp only [SR,VR] at hx; obtain⟨_,ad,h,_⟩:=hx; exact⟨ad,h⟩
   ·simp only [SR] at hx; exact⟨_,hx.1⟩
   ·simp only [SR,VR] at hx; obtain⟨_,_,h,_⟩:=hx; exact⟨_,h⟩
  obtain⟨ad,hp⟩:=hp
  rw [hp] at hr
  have zX:(loadVar t ad).run P c.w = .ok u c.w:=by simpa [Instr.loadAt,Instr.sureAddr] using hr
  refine⟨u::vs,?_,hu,h3⟩
  have ha:(asAddr (a.tmps.getD x undef)).run P c.w = .ok ad c.w:=by rw [hp]; rfl
  simp only [List.mapM_cons,Sem.run_bind,Sem.run_pure,Result.andThen_ok,h2,ha,zX]
theorem kx:un L0 none0=L0:=by funext b; simp [un,none0]
theorem Ext.close {c c':Cx}{jm:Nat→Prop}(e:Ext c none0 c' jm):Ext c none0 c' none0:=
 ⟨e.next,e.live,e.size,e.fU,e.exact,e.base,e.Im,fun _ h=>h,fun _ h=>h.elim,e.os,e.tape,e.output⟩
theorem HRel.j7 {c:Cx}{L L':Nat→Prop}(hL:∀b,L' b→L b)(h:HRel c L):HRel c L':=
 ⟨h.lt,fun id o ho=>by
  have:=h.obj id o ho
  cases o with
  | cells cs=>obtain⟨m,h1,h2,h3⟩:=this; exact⟨m,h1,h2,Cells.j7 hL _ _ _ h3⟩
  | row t cs=>obtain⟨h0,C,h1,h2,h4,h3⟩:=this; exact⟨h0,C,h1,h2,h4,Cells.j7 hL _ _ _ h3⟩
  | map es=>
   obtain⟨km,clock,h1,h2⟩:=this
   refine⟨km,clock,h1,?_⟩
   clear h1
   have:∀(es:List (AV × AV)) (ms:List MapEntry),kl c L es ms→kl c L' es ms:=by
    intro es
    induction es with
    | nil=>intro ms h; cases ms with | nil=>trivial | cons m ms=>exact h.elim
    | cons e es ih=>intro ms h; cases ms with
     | nil=>exact h.elim
     | cons m ms=>obtain⟨h1,h2,h3⟩:=h; exact⟨⟨VR.j7 hL _ _ h1.1,h1.2⟩,VR.j7 hL _ _ h2,ih _ h3⟩
   exact this _ _ h2,h.inj,fun id hl hb=>h.out id hl (hL _ hb),fun b hb=>h.bd b (hL b hb),h.low,h.ver⟩
structure Fit (P:Program):Prop where
 mixed:P.follows .mixedOrders=true
 LU : ∀ (f : FuncId) fn c, P.funcs[f]? = some fn → fn.body = some c → jV fn.ntmps c = true ∧ fn.name ≠ "runtime.NumGoroutine"
def IntrOK (P:Program)(intr:FuncId→Option (List AV→AHeap→Option (AV × AHeap))):Prop:=
 ∀f g,intr f=some g→(CallOK P fun f' args h=>if f'=f then g args h else none)∧∀args h r h',g args h=some (r,h')→Steady h h'
theorem jH {f : FuncId} {fn : Func} {c : Code} (hf : P.funcs[f]? = some fn) (hc : fn.body = some c) (hn : fn.name ≠ "runtime.NumGoroutine") (vs : Array Value) (w : World) : (callFunc f vs).run P w = .ok (.enter f vs) w := by
 have VK : (fn.name == "runtime.NumGoroutine") = false := by simpa using hn
 simp [callFunc,program,Sem.run,hf,hn,hc]
theorem D9 (hP:Fit P){aV:FuncId→cb}{cf:CallF}(ih:CallOK P cf)(CF:zW P cf)(m:Nat):CallOK P (be P aV cf m):=by
 intro f args h r h' hc
 unfold be at hc
 rw [V4] at hc
 obtain⟨fn,hf,hc⟩:=hc
 rw [V4] at hc
 obtain⟨c,hb,hc⟩:=hc
 obtain⟨hB,LV⟩:=hP.LU f fn c hf hb
 refine⟨jH hf hb LV,fun L0 c0 vs hh hb0 hrel hargs=>?_⟩
 split at hc
 rotate_left
 ·cases hc
 rename_i hlen
 rw [V4] at hc
 obtain⟨⟨ex,st⟩,hex,hc⟩:=hc
 have hl:=hargs.length
 refine calls_of_wp hf hb ?_
 refine jG (L0:=L0) (c0:=c0) (n:=fn.ntmps) ih CF hb0 c hB _ _ _ hex _ _ _ ?_ ?_
 ·refine⟨by simp; omega,c0,none0,fun _=>0,rfl,⟨hh,by rw [kx]; exact hrel,fun t=>?_,fun k cs hk=>?_,fun k k' hk=>?_,fun t k off _ he=>?_,rfl,fun b hb=>hb.elim⟩,Ext.refl _ _⟩
  ·simp only [St.open,lH,iy]
   split
   ·by_cases ht:t<args.length
    ·obtain⟨v,hv,hr⟩:=hargs.get t args[t] (by simp [ht])
     have:args.getD t AV.any=args[t]:=by simp [ht]
     rw [this,Array.getD_eq_getD_getElem?,Array.getElem?_append_left (by simp; omega)]
     have OF:vs.toArray[t]? = some v:=by simpa using hv
     rw [OF]
     exact SR.of (by rw [kx]; exact hr)
    ·have:args.getD t AV.any = .any:=by simp [Wl (Nat.not_lt.1 ht)]
     rw [this]
     exact SR.of (by simp [VR])
   ·exact SR.of (by simp [VR])
  ·simp only [St.open,iy] at hk
   split at hk<;>cases hk
  ·simp only [St.open,iy] at hk
   split at hk<;>cases hk
  ·simp only [St.open,lH,iy] at he
   split at he
   ·by_cases ht:t<args.length
    ·obtain⟨v,hv,hr⟩:=hargs.get t args[t] (by simp [ht])
     have h1:args.getD t AV.any=args[t]:=by simp [ht]
     rw [h1] at he
     rw [he] at hr
     exact hr.elim
    ·have:args.getD t AV.any = .any:=by simp [Wl (Nat.not_lt.1 ht)]
     rw [this] at he
     cases he
   ·cases he
 ·intro a' w' k9
  have hfin:(aI P (st.open (aV f)) fn.results.toList).map (fun r=>(r,st.h))=some (r,h')→a'.defers=[]∧∃v,(results fn a'.tmps).run P w' = .ok v w'∧(∃c' v',Ending.returned v = .returned v'∧c'.w=w'∧c'.h=h'∧VR c' L0 r v'∧HRel c' L0∧Ext c0 none0 c' none0):=by
   intro hc
   rw [V5] at hc
   obtain⟨r',zX,he⟩:=hc
   cases he
   obtain⟨hn,c',Lo,lam,rfl,f',e'⟩:=k9
   refine⟨f'.defers,?_⟩
   unfold aI at zX
   rw [V4] at zX
   obtain⟨l,hl,zX⟩:=zX
   split at zX
   rotate_left
   ·cases zX
   rename_i ku
   obtain⟨us,T1,A7⟩:=vZ f' _ _ hl ku
   have Ea:VRs c' L0 l us:=VRs.j7 (fun b hb=>.inl hb) _ _ A7
   have zM:(results fn a'.tmps).run P c'.w = .ok (if h:us.toArray.size=1 then us.toArray[0] else .tuple us.toArray) c'.w:=by
    unfold results
    rw [←Array.toArray_toList (xs:=fn.results)]
    rw [List.mapM_toArray]
    simp only [Sem.run_bind,Sem.run_map,Result.andThen_ok,Sem.run_pure]
    exact (congrArg (fun z=>(Result.andThen z (fun (a:List Value) w'=>Result.ok a.toArray w')).andThen (fun (a:Array Value) w'=>Result.ok (if h:a.size=1 then a[0] else Value.tuple a) w')) T1).trans rfl
   refine⟨_,zM,c',_,rfl,rfl,f'.h,?_,HRel.j7 (fun b hb=>.inl hb) f'.rel,e'.close⟩
   split at zX
   ·rename_i x
    cases zX
    cases us with
    | nil=>exact Ea.elim
    | cons u us=>cases us with
     | nil=>exact Ea.1
     | cons u2 us=>exact Ea.2.elim
   ·rename_i hne
    cases zX
    have OI:us.length≠1:=by
     intro h1
     rw [←Ea.length] at h1
     cases l with
     | nil=>simp at h1
     | cons x l=>cases l with
      | nil=>exact hne x rfl
      | cons y l=>simp at h1
    have:¬us.toArray.size=1:=by simpa using OI
    rw [dif_neg this]
    simp only [VR]
    exact⟨us.toArray,rfl,Ea⟩
  cases ex with
  | norm=>exact hfin hc
  | ret=>exact hfin hc
  | exit id=>cases hc
end
end Go.R
namespace Go.R
open Go
def RS.shift (s2:RS)(f:kh)(d:Option Nat)(s':RS):RS:=
 {ρ:=match d with | none=>s2.ρ | some d=>fun t=>if t=d then s'.ρ d else s2.ρ t
  bx:=match f.wb with | none=>s2.bx | some k=>fun t=>if t=k then s'.bx k else s2.bx t
  h:=if f.wh then s'.h else s2.h}
theorem RS.ext' {s t:RS}(h1:∀i,s.ρ i=t.ρ i)(h2:∀i,s.bx i=t.bx i)(h3:s.h=t.h):s=t:=by
 cases s; cases t
 congr
 ·exact funext h1
 ·exact funext h2
theorem ia (s s2:RS)(f:kh)(d:Option Nat)(z:AV)(hw:f.wb=none)(hh:f.wh=false):s2.set d z=s2.shift f d (s.set d z):=by
 refine RS.ext' (fun i=>?_) (fun i=>?_) ?_
 ·cases d with
  | none=>rfl
  | some d=>simp only [uO,RS.shift,if_true]
 ·simp only [RS.shift,hw]; cases d<;>rfl
 ·simp only [RS.shift,hh]; cases d<;>rfl
theorem jb (s:RS)(d:Option Nat)(z:AV):(s.set d z).h=s.h:=by cases d<;>rfl
theorem Jk (s:RS)(d:Option Nat)(z:AV):(s.set d z).bx=s.bx:=by cases d<;>rfl
theorem Eb (s:RS)(k i:Nat)(cs:List AV):(s.box k cs).bx i=if i=k then some cs else s.bx i:=by
 simp only [RS.box,beq_nat]
 by_cases h:i=k<;>simp [h]
theorem gh (s s2:RS)(f:kh)(d:Option Nat)(z:AV)(h':AHeap)(hw:f.wb=none)(hh:f.wh=true):({s2 with h:=h'}:RS).set d z=s2.shift f d (({s with h:=h'}:RS).set d z):=by
 refine RS.ext' (fun i=>?_) (fun i=>?_) ?_
 ·cases d with
  | none=>rfl
  | some d=>simp only [uO,RS.shift,if_true]
 ·simp only [RS.shift,hw]; cases d<;>rfl
 ·simp only [RS.shift,hh]; cases d<;>rfl
theorem CG (s s2:RS)(f:kh)(k:Nat)(cs:List AV)(hw:f.wb=some k)(hh:f.wh=false):s2.box k cs=s2.shift f none (s.box k cs):=by
 refine RS.ext' (fun i=>rfl) (fun i=>?_) ?_
 ·simp only [Eb,RS.shift,hw,if_true]
 ·simp only [RS.shift,hh]; rfl
section
variable {P:Program}{cf:CallF}{aD ds:List Nat}{o:Oper}{s s' s2:RS}
theorem oe {cs:List AV}{f:kh}(h:gZ s aD ds o cs=some s')(hf:f=(match o.dst with
  | some d=>if aD.contains d then {wb:=some d,al:=true} else {wh:=true}
  | none=>{})) (hh:f.wh=true→s2.h=s.h) (nR:f.al=true→∀d,o.dst=some d→sb d s2.ρ (ds.filter fun t=>!Nat.beq t d)=true) :
  gZ s2 aD ds o cs=some (s2.shift f o.dst s'):=by
 unfold gZ at h ⊢
 split at h
 rotate_left
 ·cases h
 rename_i nW
 rw [if_pos nW]
 cases hd:o.dst with
 | none=>rw [hd] at h; cases h
 | some d=>
  rw [hd] at h hf
  simp only at h hf ⊢
  by_cases hl:aD.contains d=true
  ·rw [if_pos hl] at h hf ⊢
   subst hf
   split at h
   rotate_left
   ·cases h
   cases h
   rw [if_pos (nR rfl d hd)]
   congr 1
   refine RS.ext' (fun i=>?_) (fun i=>?_) ?_
   ·simp only [uO,RS.shift,if_true]; rfl
   ·simp only [Jk,Eb,RS.shift,if_true]
   ·simp only [jb,RS.shift]; rfl
  ·rw [if_neg hl] at h hf ⊢
   subst hf
   cases h
   rw [hh rfl]
   congr 1
   exact gh s s2 {wh:=true} (some d) _ _ rfl rfl
theorem u5 {e:Operand→AV}(h:zD P cf aD ds e s o=some s')(hb:∀k∈(a6 aD e o).rb,s2.bx k=s.bx k)(hr:∀id∈(a6 aD e o).rh,s2.h.get id=s.h.get id)
  (hh:(a6 aD e o).wh=true→s2.h=s.h) (nR:(a6 aD e o).al=true→∀d,o.dst=some d→sb d s2.ρ (ds.filter fun t=>!Nat.beq t d)=true) :
  zD P cf aD ds e s2 o=some (s2.shift (a6 aD e o) o.dst s'):=by
 have dy:∀{x x2:Option AV} (f:kh),(x.map fun x=>s.set o.dst x)=some s'→(x2=x)→f.wb=none→f.wh=false→(x2.map fun x=>s2.set o.dst x)=some (s2.shift f o.dst s'):=by
  intro x x2 f hx h2 h3 h4
  obtain⟨z,rfl,rfl⟩:=Option.map_some' hx
  subst h2
  simp only [Wa]
  rw [←ia s s2 f o.dst z h3 h4]
 have xW:∀{α:Type} {x x2:Option α} (f:kh) (g:α→AV) (k:α→AHeap),(x.map fun y=>({s with h:=k y}:RS).set o.dst (g y))=some s'→(x2=x)→f.wb=none→f.wh=true→
   (x2.map fun y=>({s2 with h:=k y}:RS).set o.dst (g y))=some (s2.shift f o.dst s'):=by
  intro α x x2 f g k hx h2 h3 h4
  obtain⟨z,rfl,rfl⟩:=Option.map_some' hx
  subst h2
  simp only [Wa]
  rw [←gh s s2 f o.dst (g z) (k z) h3 h4]
 unfold zD at h ⊢
 dsimp only at h ⊢
 split at h
 ·rename_i x ho; cases h; simp only [V6]; exact ia s s2 _ _ _ (by simp [a6,ho]) (by simp [a6,ho])
 ·rename_i x ho; cases h; simp only [V6]; exact ia s s2 _ _ _ (by simp [a6,ho]) (by simp [a6,ho])
 ·rename_i k x y ho
  obtain⟨t,ht,rfl⟩:=Option.map_some' h
  simp only [ht,Wa,V6]
  exact ia s s2 _ _ _ (by simp [a6,ho]) (by simp [a6,ho])
 ·rename_i t ho
  rw [V4] at h
  obtain⟨z,hz,h⟩:=h
  simp only [hz,V3]
  exact oe h (by simp only [a6,ho]; rfl) hh nR
 ·rename_i t x ho
  exact oe h (by simp only [a6,ho]; rfl) hh nR
 ·rename_i t ps ho; exact dy _ h rfl (by simp [a6,ho]) (by simp [a6,ho])
 ·rename_i t k ps ho
  obtain⟨z,hz,rfl⟩:=Option.map_some' h
  simp only [hz,Wa,V6]
  have hf:a6 aD e o=(match o.dst with | some d=>if aD.contains d then {wh:=true} else {} | none=>{}):=by simp only [a6,ho]; rfl
  unfold pB
  cases Jc:np P aD o t z with
  | none=>
   simp only
   cases hd:o.dst with
   | none=>rw [hd] at hf; rw [hf]; exact ia s s2 _ none _ rfl rfl
   | some d=>
    rw [hd] at hf
    simp only at hf
    by_cases hl:aD.contains d=true
    ·rw [if_pos hl] at hf
     have h2:=hh (by rw [hf])
     rw [hf]
     have h3:=gh s s2 {wh:=true} (some d) z s2.h rfl rfl
     refine h3.trans ?_
     rw [h2]
    ·rw [if_neg hl] at hf
     rw [hf]; exact ia s s2 _ _ _ rfl rfl
  | some q=>
   obtain⟨d,hd,hl⟩:∃d,o.dst=some d∧aD.contains d=true:=by
    unfold np at Jc
    split at Jc
    ·rename_i d _ _ _ hd
     refine⟨d,hd,?_⟩
     cases hc:aD.contains d with
     | false=>rw [hc] at Jc; cases Jc
     | true=>rfl
    ·cases Jc
   rw [hd] at hf
   simp only [hl,if_true] at hf
   rw [hf] at hh ⊢
   simp only [hh rfl]
   exact gh s s2 _ _ _ _ rfl rfl
 ·
  rename_i t x ho
  have hf:a6 aD e o=(match e x with | .lp k _=>{rb:=[k]} | .ptr id _=>{rh:=[id]} | _=>{}):=by simp only [a6,ho]; rfl
  refine dy _ h ?_ ?_ ?_
  ·rw [hf] at hb hr
   unfold iX
   cases hx:e x<;>rw [hx] at hb hr<;>try rfl
   ·simp only; rw [hr _ (by simp)]
   ·simp only; rw [hb _ (by simp)]
  ·rw [hf]; cases e x<;>rfl
  ·rw [hf]; cases e x<;>rfl
 ·
  rename_i t x y ho
  have hf:a6 aD e o=(match e x with | .lp k _=>{rb:=[k],wb:=some k} | _=>{wh:=true}):=by simp only [a6,ho]; rfl
  try simp only at h ⊢
  split at h
  ·cases h
  rename_i hd
  rw [if_neg hd]
  have GR:o.dst=none:=by simpa using hd
  cases hx:e x<;>rw [hx] at h hf<;>simp only at h hf ⊢<;>try (cases h; done)
  ·rename_i id off
   rw [hf] at hh ⊢
   rw [V4] at h
   obtain⟨ob,hob,h⟩:=h
   rw [hh rfl,hob]
   cases ob with
   | map es=>cases h
   | row t cs=>cases h
   | cells cs=>
    obtain⟨fA,hcs,rfl⟩:=Option.map_some' h
    simp only [V3,hcs,Wa,GR,V6]
    exact gh s s2 {wh:=true} none .any _ rfl rfl
  ·rename_i k off
   rw [hf] at hb ⊢
   rw [V4] at h
   obtain⟨cs,hcs,h⟩:=h
   rw [hb k (by simp),hcs]
   obtain⟨fA,OJ,rfl⟩:=Option.map_some' h
   simp only [V3,OJ,Wa,GR,V6]
   exact CG s s2 _ k fA rfl rfl
 ·rename_i ho; exact dy _ h rfl (by simp [a6,ho]) (by simp [a6,ho])
 ·rename_i ho; exact dy _ h rfl (by simp [a6,ho]) (by simp [a6,ho])
 ·rename_i ho; exact dy _ h rfl (by simp [a6,ho]) (by simp [a6,ho])
 ·
  rename_i a b x ho
  have hf:a6 aD e o=(match e x with | .rs id _ _ _=>{rh:=[id]} | _=>{}):=by simp only [a6,ho]; rfl
  refine dy _ h ?_ ?_ ?_
  ·have hc:dE s2.h 1 (e x)=dE s.h 1 (e x):=by
    rw [hf] at hr
    unfold dE
    cases hx:e x<;>rw [hx] at hr<;>try rfl
    simp only; rw [hr _ (by simp)]
   unfold gR
   rw [hc]
  ·rw [hf]; cases e x<;>rfl
  ·rw [hf]; cases e x<;>rfl
 ·rename_i zT first cap ho
  try simp only
  split at h
  ·rename_i hc
   rw [if_pos hc]
   exact dy _ h rfl (by simp [a6,ho]) (by simp [a6,ho])
  ·cases h
 ·rename_i ho
  have hf:(a6 aD e o).wh=true:=by simp [a6,ho]
  cases h
  simp only [hh hf,V6]
  exact gh s s2 _ _ _ _ (by simp [a6,ho]) hf
 ·rename_i t l c ho
  have hf:(a6 aD e o).wh=true:=by simp [a6,ho]
  exact xW _ (fun y:AV × AHeap=>y.1) (fun y=>y.2) h (by simp only [hh hf]) (by simp [a6,ho]) hf
 ·rename_i ho; exact dy _ h rfl (by simp [a6,ho]) (by simp [a6,ho])
 ·rename_i ho; exact dy _ h rfl (by simp [a6,ho]) (by simp [a6,ho])
 ·rename_i ho; exact dy _ h rfl (by simp [a6,ho]) (by simp [a6,ho])
 ·rename_i ho; exact dy _ h rfl (by simp [a6,ho]) (by simp [a6,ho])
 ·rename_i ho; exact dy _ h rfl (by simp [a6,ho]) (by simp [a6,ho])
 ·
  rename_i t m k ok ho
  have hf:a6 aD e o=(match e m with | .mp id=>{rh:=[id]} | _=>{}):=by simp only [a6,ho]; rfl
  refine dy _ h ?_ ?_ ?_
  ·rw [hf] at hr
   unfold fy
   cases hx:e m<;>rw [hx] at hr<;>try rfl
   simp only; rw [hr _ (by simp)]
  ·rw [hf]; cases e m<;>rfl
  ·rw [hf]; cases e m<;>rfl
 ·rename_i t m k x ho
  have hf:(a6 aD e o).wh=true:=by simp [a6,ho]
  try simp only at h ⊢
  split at h
  ·cases h
  rename_i hd
  rw [if_neg hd]
  have GR:o.dst=none:=by simpa using hd
  obtain⟨h',hm,rfl⟩:=Option.map_some' h
  simp only [hh hf,hm,Wa,GR,V6]
  exact gh s s2 _ none .any _ (by simp [a6,ho]) hf
 ·rename_i t m k x ho
  have hf:(a6 aD e o).wh=true:=by simp [a6,ho]
  try simp only at h ⊢
  split at h
  ·cases h
  rename_i hd
  rw [if_neg hd]
  have GR:o.dst=none:=by simpa using hd
  obtain⟨h',hm,rfl⟩:=Option.map_some' h
  simp only [hh hf,hm,Wa,GR,V6]
  exact gh s s2 _ none .any _ (by simp [a6,ho]) hf
 ·rename_i ho; exact dy _ h rfl (by simp [a6,ho]) (by simp [a6,ho])
 ·
  rename_i b args Bd ho
  try simp only
  unfold gd at h ⊢
  generalize hargs:args.toList.map e=as at h ⊢
  generalize Bd.toList=ts at h ⊢
  split at h
  ·rename_i t x
   try simp only
   have hf:a6 aD e o=(match x with | .mp id=>{rh:=[id]} | _=>{}):=by
    simp only [a6,ho,hargs]
    cases x<;>rfl
   refine dy _ h ?_ ?_ ?_
   ·rw [hf] at hr
    unfold r9
    cases x<;>try rfl
    simp only; rw [hr _ (by simp)]
   ·rw [hf]; cases x<;>rfl
   ·rw [hf]; cases x<;>rfl
  ·try simp only
   have hf:(a6 aD e o).wh=true∧(a6 aD e o).wb=none:=by simp only [a6,ho,hargs]; simp
   exact xW _ (fun y:AV × AHeap=>y.1) (fun y=>y.2) h (by simp only [hh hf.1]) hf.2 hf.1
  ·try simp only
   have hf:(a6 aD e o).wh=true∧(a6 aD e o).wb=none:=by simp only [a6,ho,hargs]; simp
   exact xW _ (fun y:AV × AHeap=>y.1) (fun y=>y.2) h (by simp only [hh hf.1]) hf.2 hf.1
  ·try simp only
   have hf:(a6 aD e o).wh=true∧(a6 aD e o).wb=none:=by simp only [a6,ho,hargs]; simp
   exact xW _ (fun _:AHeap=>.tup []) (fun y=>y) h (by simp only [hh hf.1]) hf.2 hf.1
  ·try simp only
   rw [V4] at h
   obtain⟨v,hv,h⟩:=h
   rw [V4] at h
   obtain⟨vs,DH,h⟩:=h
   rw [V4] at h
   obtain⟨u,hu,h⟩:=h
   simp only [hv,DH,hu,V3]
   exact dy _ h rfl (by simp [a6,ho]) (by simp [a6,ho])
  ·try simp only
   rw [V4] at h
   obtain⟨v,hv,h⟩:=h
   rw [V4] at h
   obtain⟨vs,DH,h⟩:=h
   rw [V4] at h
   obtain⟨u,hu,h⟩:=h
   simp only [hv,DH,hu,V3]
   exact dy _ h rfl (by simp [a6,ho]) (by simp [a6,ho])
  ·cases h
 ·
  rename_i fx args Bd ho
  have hf:(a6 aD e o).wh=true∧(a6 aD e o).wb=none:=by simp [a6,ho]
  try simp only
  cases hx:e fx<;>rw [hx] at h<;>simp only at h ⊢<;>try (cases h; done)
  rename_i zT cap
  split at h
  ·rename_i ha
   rw [if_pos ha]
   exact xW _ (fun y:AV × AHeap=>y.1) (fun y=>y.2) h (by simp only [hh hf.1]) hf.2 hf.1
  ·cases h
 ·cases h
end
end Go.R
