/- Part of the proof: ROps5, ROps6, ROps7, RFrzV, ROpAll, RFrz, RCode. -/
import Derived.Test.YtifafejidnjckaaK1
import Derived.MapKept
import Derived.Laws.CopyRow
import Derived.Laws.BytesArg
import Derived.Laws.IdiomStrings
import Derived.Tactics
set_option linter.unusedVariables false
set_option linter.unusedSimpArgs false
set_option maxRecDepth 100000
open Array renaming getElem?_eq_some_iff → UH, getElem?_setIfInBounds → U7, length_toList → Va, getElem?_modify → Vc, ext' → VJ
open Bool renaming and_eq_true → Ud, false_eq_true → Um, not_eq_true' → Vf, not_true → Vo, true_and → VI
open List renaming getElem?_eq_some_iff → Uh, length_set → Ul, all_eq_true → Uv, mem_cons → UA, map_cons → UC, getElem?_eq_none → UJ, mem_map → UO, take_of_length_le → UP, eq_nil_of_length_eq_zero → UQ, all_cons → UZ, ext_getElem? → VC, getElem?_set → VD
open Nat renaming le_refl → Ue, zero_add → Uy, beq → UL, le_succ → Vi, lt_succ_of_lt → Vn, min_eq_left → Vw
open Option renaming bind_eq_some_iff → T9, bind_some → Ua, map_eq_some_iff → Ub, map_some → Ug, isSome_iff_exists → UI, getD_some → U4
open Option.some renaming injEq → Uc
open Prod.mk renaming injEq → Ui
namespace Go.R
open Go
section
variable {P:Program}{L0:Nat→Prop}{c0:Cx}{n:Nat}{ds:List Nat}{o:Oper}{s:RS}
theorem Fr.uu {c:Cx}{Lo:Nat→Prop}{lam:Nat→Nat}{a:Act}(f:Fr L0 c Lo lam ds s a)(hbs:c.base≤c.w.heap.size){id:Nat}{es pH:List (AV × AV)}(ho:c.h.get id=some (.map es)){kn pO:Array MapEntry}{clock nv:Nat}
  (hb:c.w.heap[(c.β id).1]? = some (.map kn clock)) (he:km c (un L0 Lo) pH pO.toList) :
  Ext c Lo ⟨c.β,s.h.put id (.map pH),{c.w with heap:=c.w.heap.setIfInBounds (c.β id).1 (.map pO nv)},c.base⟩ Lo∧
   Fr L0 ⟨c.β,s.h.put id (.map pH),{c.w with heap:=c.w.heap.setIfInBounds (c.β id).1 (.map pO nv)},c.base⟩ Lo lam ds {s with h:=s.h.put id (.map pH)} a:=by
 have hl:Live c.h id:=⟨f.rel.lt _ _ ho,by simp [ho]⟩
 have hlt:(c.β id).1<c.w.heap.size:=(UH.1 hb).1
 have hne:∀b,b≠(c.β id).1→({c.w with heap:=c.w.heap.setIfInBounds (c.β id).1 (.map pO nv)}:World).heap[b]? = c.w.heap[b]?:=by
  intro b hb
  simp only [U7]
  rw [if_neg (Ne.symm hb)]
 rw [←f.h]
 refine f.upd (β':=c.β) (h':=c.h.put id (.map pH)) id (.map pH) (Steady.put _ _ _) (Vn hl.1) (by simp [AHeap.put,beq_nat])
  (fun jV h1=>.inr ⟨by simp [AHeap.put,beq_nat,h1],rfl⟩) (fun _=>⟨hl,rfl⟩) (.inr ⟨id,hl,rfl,.inl rfl⟩) (fun _=>?_)
  (fun b _ h1=>hne b h1) (fun b _ h1=>hne b h1) (by simp) hbs rfl rfl rfl (fun e=>⟨pO,nv,by simp [hlt],he.ext e⟩)
 simp only [Cx.len,World.shape?,hb,U7,hlt,if_true]
theorem uv {x y:AV}(hs:sameShape x y=true)(hq:eY x y=true):x=y:=by
 cases x<;>cases y<;>simp only [sameShape] at hs<;>try (cases hs; done)
 ·simp only [eY,iD,Ud,beq_iff_eq] at hq
  obtain⟨rfl,rfl⟩:=hq
  rfl
 ·rename_i a b
  simp only [eY,iD,beq_iff_eq] at hq
  congr 1
  cases a; cases b
  congr 1
  exact Array.toList_inj.1 hq
 ·rename_i xs ys
  simp only [Ud,beq_iff_eq] at hs
  obtain⟨⟨_,hx⟩,hy⟩:=hs
  obtain⟨ns,rfl⟩:=gO hx
  obtain⟨ms,rfl⟩:=gO hy
  simp only [eY,jO,decide_eq_true_eq] at hq
  rw [hq]
theorem mZ:∀ns:List Int,iB (ns.map fun n=>AV.int .i64 n)=some (ns.map fun n=>Value.int .i64 n)
 | []=>rfl
 | n::ns=>by simp [iB,AV.fN,mZ ns]
theorem yh {t:TypeId}{k:AV}(h:fO P t k=true):∃u,k.xO=some u∧Instr.sameBits 10000 u u=true:=by
 unfold fO at h
 have JX:∀cs:List AV,cs.all jL=true→∃u,(AV.agg cs).xO=some u∧Instr.sameBits 10000 u u=true:=by
  intro cs hcs
  obtain⟨ns,rfl⟩:=gO hcs
  refine⟨.agg (ns.map fun n=>Value.int .i64 n).toArray,by simp [AV.xO,mZ],?_⟩
  simp only [Instr.sameBits,beq_self_eq_true,VI,Uv]
  intro p hp
  have:∀(l:List Value),(∀v∈l,∃m,v=Value.int .i64 m)→∀p∈l.zip l,Instr.sameBits 9999 p.1 p.2=true:=by
   clear hp p
   intro l hl p hp
   have h1:p.1=p.2∧p.1∈l:=by
    clear hl
    induction l with
    | nil=>cases hp
    | cons v l ih=>
     simp only [List.zip_cons_cons,UA] at hp
     rcases hp with rfl | hp
     ·exact⟨rfl,by simp⟩
     ·obtain⟨h1,h2⟩:=ih hp; exact⟨h1,by simp [h2]⟩
   obtain⟨h1,h2⟩:=h1
   obtain⟨m,hm⟩:=hl _ h2
   rw [←h1,hm]
   simp [Instr.sameBits]
  exact this (ns.map fun n=>Value.int .i64 n) (fun v hv=>by obtain⟨m,_,rfl⟩:=UO.1 hv; exact⟨m,rfl⟩) p (by simpa using hp)
 split at h
 ·exact⟨_,rfl,by simp [Instr.sameBits]⟩
 ·exact⟨_,rfl,by simp [Instr.sameBits,tg]⟩
 ·simp only [Ud] at h; exact JX _ h.1.1.2
 ·simp only [Ud] at h; exact JX _ h.1.1.2
 ·cases h
theorem rA {c:Cx}{L:Nat→Prop}{k v:AV}{kv vv:Value}(hc:k.xO.isSome=true)(hk:VR c L k kv)(hv:VR c L v vv) :
  ∀(es pH:List (AV × AV)) (ms:List MapEntry) (i:Nat),km c L es ms→uc k v es=some pH→
   ig k es≠none∧(place k es ms i=none∧(∀b,km c L pH (ms++[{key:=kv,val:=vv,born:=b}]))∨
    ∃j u m,place k es ms i=some (i+j,u)∧ms[j]? = some m∧m.key=kv∧km c L pH (ms.modify j fun e=>{e with key:=kv,val:=vv}))
 | [],pH,[],i,_,h=>by
  simp only [uc,Uc] at h
  subst h
  exact⟨by simp [ig],.inl ⟨rfl,fun b=>⟨⟨hk,hc⟩,hv,trivial⟩⟩⟩
 | (k',v')::es,pH,m::ms,i,he,h=>by
  obtain⟨⟨CG,Pk⟩,zf,sD⟩:=he
  simp only [uc] at h
  split at h
  rotate_left
  ·cases h
  rename_i hs
  split at h
  ·rename_i hq
   cases h
   have vO:k=k':=uv hs hq
   obtain⟨u,hu⟩:=UI.1 hc
   refine⟨by simp [ig,hs,hq],.inr ⟨0,m.val,m,by simp [place,hq],rfl,?_,?_⟩⟩
   ·subst vO
    rw [uk hu hk,uk hu CG]
   ·exact⟨⟨hk,hc⟩,hv,sD⟩
  ·rename_i hq
   rw [Ub] at h
   obtain⟨Ri,h1,rfl⟩:=h
   obtain⟨h2,h3⟩:=rA hc hk hv es Ri ms (i+1) sD h1
   refine⟨by simp [ig,hs,hq,h2],?_⟩
   have uw:eY k k'=false:=by simpa using hq
   rcases h3 with⟨h3,h4⟩| ⟨j,u,m',h3,h4,h5,h6⟩
   ·exact .inl ⟨by simp [place,uw,h3],fun b=>⟨⟨CG,Pk⟩,zf,h4 b⟩⟩
   ·exact .inr ⟨j+1,u,m',by simp [place,uw,h3]; omega,by simpa using h4,h5,⟨⟨CG,Pk⟩,zf,h6⟩⟩
 | [],_,_::_,_,h,_=>h.elim
 | _::_,_,[],_,h,_=>h.elim
theorem rB {x:AV}(h:x.kh=true):∀k off,x≠.lp k off:=by rintro k off rfl; simp [AV.kh] at h
theorem sK {c:Cx}{Lo:Nat→Prop}{lam:Nat→Nat}{a:Act}(f:Fr L0 c Lo lam ds s a)(hbs:c.base≤c.w.heap.size){t:TypeId}{m k x:AV}{mv kv xv:Value}(hm:SR c L0 Lo lam s.bx m mv)(hk:SR c L0 Lo lam s.bx k kv)(hx:SR c L0 Lo lam s.bx x xv){h':AHeap}
  (h:ij P s.h t m k x=some h'):∃c',(Instr.mapUpdate t mv kv xv).run P c.w = .ok () c'.w∧Ext c Lo c' Lo∧Fr L0 c' Lo lam ds {s with h:=h'} a:=by
 unfold ij at h
 rw [T9] at h
 obtain⟨d,hd,h⟩:=h
 cases d<;>simp only at h<;>try (cases h; done)
 rename_i kt et
 split at h
 ·cases h
 rename_i jt
 obtain⟨sI,hargs⟩:fO P kt k=true∧x.kh=true:=by
  cases h1:fO P kt k<;>cases h2:x.kh<;>simp [h1,h2] at jt ⊢
 have vP:VR c (un L0 Lo) k kv:=hk.vr (by rintro k0 off rfl; simp [fO] at sI)
 have Rj:=hx.vr (rB hargs)
 cases m<;>simp only at h<;>try (cases h; done)
 rename_i id
 rw [T9] at h
 obtain⟨ob,ho,h⟩:=h
 cases ob with
 | cells cs=>cases h
 | row t cs=>cases h
 | map es=>
 rw [Ub] at h
 obtain⟨pH,hu,rfl⟩:=h
 simp only [SR,VR] at hm
 obtain⟨hi,r,rfl,hr⟩:=hm
 rw [←f.h] at ho
 have hl:Live c.h id:=⟨f.rel.lt _ _ ho,by simp [ho]⟩
 have Mi:=hr hl
 subst Mi
 obtain⟨kn,clock,h1,h2⟩:=f.rel.obj _ _ ho
 obtain⟨u0,GQ,Rk⟩:=yh sI
 obtain⟨hf,hp⟩:=rA (by simp [GQ]) vP Rj es pH kn.toList 0 h2 hu
 have CH:=th sI vP c.w h2 hf
 have Hs:=mW (P:=P) false 9998 sI vP c.w
 have hget:(getObj (c.β id).1).run P c.w = .ok (.map kn clock) c.w:=MapKept.run_getObj_map h1
 rcases hp with⟨hp,rj⟩| ⟨j,u,m,hp,hj,hmk,rj⟩
 ·obtain⟨e',f'⟩:=f.uu hbs ho h1 (pO:=kn.push {key:=kv,val:=xv,born:=clock}) (nv:=clock+1) (pH:=pH) (by simpa using rj clock)
  refine⟨_,?_,e',f'⟩
  unfold Instr.mapUpdate
  rw [hp] at CH
  simp only [Sem.run_bind,bo hd,Result.andThen_ok,hget,Hs,CH]
  exact MapKept.run_setObj_map _ h1
 ·obtain⟨e',f'⟩:=f.uu hbs ho h1 (pO:=kn.modify j fun e=>{e with key:=kv,val:=xv}) (nv:=clock) (pH:=pH) (by simpa using rj)
  refine⟨_,?_,e',f'⟩
  unfold Instr.mapUpdate
  rw [hp,Uy] at CH
  have xJ:kn[j]? = some m:=by simpa using hj
  have Fw:(Instr.keyThatStays m.key kv).run P c.w = .ok kv c.w:=by
   rw [hmk]
   unfold Instr.keyThatStays
   rw [uk GQ vP,Rk]
   rfl
  simp only [Sem.run_bind,bo hd,Result.andThen_ok,hget,Hs,CH,xJ,Ug,U4,Fw]
  exact MapKept.run_setObj_map _ h1
theorem nU (hb0:c0.base≤c0.w.heap.size){t:TypeId}{m k x:Operand}(ho:o.op = .mapUpdate t m k x∨o.op = .insert t m k x)(qd:o.dst=none){h':AHeap}
  (h:ij P s.h t (bG s.ρ m) (bG s.ρ k) (bG s.ρ x)=some h'):iM P L0 c0 n ds o s {s with h:=h'}:=by
 rintro a w K Q ⟨hn,c,Lo,lam,rfl,f,e⟩ hK
 obtain⟨c',hr,e',f'⟩:=sK f (iK e hb0) (bB f m) (bB f k) (bB f x) h
 unfold Oper.wp
 have:(execOp a.eval o).run P c.w = .ok .skip c'.w:=by rcases ho with ho | ho<;>simp [execOp,ho,hr]
 rw [this,Oper.upon_skip]
 have Hw:a.put o.dst undef=a:=by rw [qd]; rfl
 rw [Hw]
 exact hK _ _ ⟨hn,c',Lo,lam,rfl,f',e.trans e'⟩
theorem CS (hb0:c0.base≤c0.w.heap.size)(hd:fQ n ds o){t:TypeId}{x:Operand}(ho:o.op = .call {callee:=.builtin .clear,args:=#[x],argTypes:=#[t]}){h':AHeap}
  (h:kQ P s.h t (bG s.ρ x)=some h'):iM P L0 c0 n ds o s ({s with h:=h'}.set o.dst (.tup [])):=by
 rintro a w K Q ⟨hn,c,Lo,lam,rfl,f,e⟩ hK
 unfold kQ at h
 rw [T9] at h
 obtain⟨d,vU,h⟩:=h
 have hx:=bB f x
 have fin:∀c',(Builtin.clear_ #[t] o.type #[a.eval x]).run P c.w = .ok (.tuple #[]) c'.w→Ext c Lo c' Lo→Fr L0 c' Lo lam ds {s with h:=h'} a→o.wp P a c.w K Q:=by
  intro c' hr e' f'
  unfold Oper.wp
  have:(execOp a.eval o).run P c.w = .ok (.value (.tuple #[])) c'.w:=by
   simp [execOp,ho,resolve,invoke,builtin,hr]
  rw [this,Oper.upon_value]
  exact hK _ _ ⟨(fP _ _ _).trans hn,c',Lo,lam,rfl,f'.set (SR.of (by simp [VR,VRs])) (fun t ht=>by rw [hn]; exact hd t ht),e.trans e'⟩
 cases Bk:bG s.ρ x<;>rw [Bk] at h hx<;>simp only at h<;>try (cases h; done)
 ·rename_i id off len gZ
  simp only [SR,VR] at hx
  split at h
  ·rename_i hl0
   cases h
   obtain⟨ad,cap,pP⟩:∃ad cap,a.eval x = .slice ad 0 cap:=by
    rcases hx with⟨_,_,_,ad,hx⟩| ⟨_,_,ad,cap,hx,_⟩
    ·exact⟨ad,0,hx⟩
    ·exact⟨ad,cap,by rw [hx,hl0]⟩
   refine fin c ?_ (Ext.refl _ _) f
   cases ad<;>cases d<;>simp [Builtin.clear_,bo vU,pP]
  rename_i hl0
  split at h
  ·cases h
  rename_i jH
  cases d<;>simp only at h<;>try (cases h; done)
  rename_i et
  simp only [T9] at h
  obtain⟨i,hi,z,hz,ob,hob,h⟩:=h
  cases ob with
  | map es=>cases h
  | row t cs=>cases h
  | cells cs=>
  simp only at h
  split at h
  rotate_left
  ·cases h
  rename_i hh
  obtain⟨CT,Cr,hz0,Mj,hoff⟩:=hh
  cases h
  rcases hx with hx | ⟨_,hid,ad,cap,hx,hlc,zg,hlive⟩
  ·exact absurd hx.1 jH
  rw [←f.h] at hob
  have hl:Live c.h id:=⟨f.rel.lt _ _ hob,by simp [hob]⟩
  obtain⟨q,hp,hq,hc⟩:=f.rel.obj _ _ hob
  have ha:ad=some ⟨(c.β id).1,(c.β id).2+off,none⟩:=by
   rcases hlive hl with⟨h1,_⟩| h1
   ·exact h1
   ·exact absurd h1 (by omega)
  subst ha
  obtain⟨zv,CI,ye⟩:=je hz c.w
  obtain⟨xI,hz1⟩:=ik Mj (kS (c:=c) (L:=un L0 Lo) ye)
  have Mk:=xI.length
  have Cs:zv.cells.size=i.size:=by rw [←Va,←Mk,Cr]
  have hnl:(Builtin.zeroCells zv.cells len).toList.length=len*i.size:=by simp [Builtin.zeroCells,Cs]
  have hv:VRs c (un L0 Lo) (hH z.cells len) (Builtin.zeroCells zv.cells len).toList:=by
   have:=oX xI len (len*zv.cells.size) (by rw [Cs,Cr]; exact Ue _) (by omega)
   rw [UP (by simp [Cs,Cr])] at this
   exact this
  have hone:∀v∈(Builtin.zeroCells zv.cells len).toList,v.oneCell'=true:=by
   intro v hv
   simp only [Builtin.zeroCells,Array.toList_map,UO] at hv
   obtain⟨j,hj,rfl⟩:=hv
   have qe:j % zv.cells.size<zv.cells.size:=Nat.mod_lt _ (by omega)
   rw [getElem!_pos zv.cells _ qe]
   exact hz1 _ (by simp)
  have Pl:(hH z.cells len).length=len*i.size:=by rw [iq,Cr]
  have hst:=js (P:=P) hp.jM (base:=(c.β id).2) (off:=off) (vs:=(Builtin.zeroCells zv.cells len).toList) (by rw [hnl]; rw [CT] at hoff; omega) hone
  obtain⟨q1,q2,q3,q4⟩:=fZ (Builtin.zeroCells zv.cells len).toList (c.β id).1 ((c.β id).2+off) c.w
  have zh:gY c (c.β id).1 q:=hp
  obtain⟨C,HA,hb,qa⟩:=hp
  obtain⟨C',g1,g2,g3⟩:=eP (Builtin.zeroCells zv.cells len).toList (c.β id).1 ((c.β id).2+off) c.w C HA (0,0) hb (by rw [hnl]; rw [CT] at hoff; omega)
  obtain⟨e',f'⟩:=f.upd (w':=c.w.setCells (c.β id).1 ((c.β id).2+off) (Builtin.zeroCells zv.cells len).toList) (β':=c.β) (h':=s.h.put id (.cells (cX cs off (hH z.cells len)))) id (.cells (cX cs off (hH z.cells len)))
   (by rw [f.h]; exact Steady.put _ _ _) (by rw [←f.h]; exact Vn hl.1) (by simp [AHeap.put,beq_nat]) (fun jV h1=>.inr ⟨by rw [f.h]; simp [AHeap.put,beq_nat,h1],rfl⟩) (fun _=>⟨hl,rfl⟩) (.inr ⟨id,hl,rfl,.inl rfl⟩)
   (fun _=>by simp only [Cx.len,World.shape?,g1,hb,Ug,U4,g2])
   (fun b _ hne=>dy _ _ _ _ _ hne) (fun b _ hne=>dy _ _ _ _ _ hne) (by rw [q1]; exact Ue _) (iK e hb0) q2 q3 q4
   (fun ee=>⟨q,zh.setCells (by rw [hnl]; rw [CT] at hoff; omega) _ _ _,by rw [gP]; exact hq,il zh.jM hc hv hone (by rw [Pl]; rw [CT] at hoff; omega) (by omega) ee rfl⟩)
  refine fin _ ?_ e' f'
  cases len with
  | zero=>exact absurd rfl hl0
  | succ len=>simp [Builtin.clear_,bo vU,hx,CI,hst]
 ·cases h
  simp only [SR,VR] at hx
  refine fin c ?_ (Ext.refl _ _) f
  simp [Builtin.clear_,bo vU,hx]
 ·rename_i id
  rw [T9] at h
  obtain⟨ob,ho,h⟩:=h
  cases ob with
  | cells cs=>cases h
  | row t cs=>cases h
  | map es=>
  cases h
  simp only [SR,VR] at hx
  obtain⟨hi,r,pP,hr⟩:=hx
  rw [←f.h] at ho
  have hl:Live c.h id:=⟨f.rel.lt _ _ ho,by simp [ho]⟩
  have Mi:=hr hl
  subst Mi
  obtain⟨kn,clock,h1,h2⟩:=f.rel.obj _ _ ho
  obtain⟨e',f'⟩:=f.uu (iK e hb0) ho h1 (pO:=#[]) (nv:=clock) (pH:=[]) trivial
  refine fin _ ?_ e' f'
  have hget:(getObj (c.β id).1).run P c.w = .ok (.map kn clock) c.w:=MapKept.run_getObj_map h1
  have CU:=MapKept.run_setObj_map (P:=P) (.map #[] clock) h1
  simp [Builtin.clear_,bo vU,pP,hget,CU]
end
end Go.R
namespace Go.R
open Go
section
variable {P:Program}{L0:Nat→Prop}{c0:Cx}{n:Nat}{ds:List Nat}{o:Oper}{s:RS}
theorem lT {w:World}{t t2 ty e:TypeId}{i:TypeInfo}(ht:P.underlying t=some (.slice e))(hi:P.info? e=some i){base:Option Addr}{len cap:Nat}{x:Value}{news:List Value}{m:Nat}(hs:Src P i.size t2 x m news w)(hm:m≤len) :
  (Builtin.copy_ #[t,t2] ty #[.slice base len cap,x]).run P w=match base with | none=>.ok (goInt m) w | some a=>((storeCells a news).run P w).andThen fun _ w'=>.ok (goInt m) w':=by
 have JY:Nat.min m len=m:=Vw hm
 have hlen:=hs.len w
 have hc:=hs.cells
 have hsz:(sizeOf e).run P w = .ok i.size w:=by simp [sizeOf,typeInfo,hi]
 unfold Builtin.copy_
 cases base with
 | none=>simp [bo ht,hlen,JY,hsz,hc]
 | some a=>simp [bo ht,hlen,JY,hsz,hc,Sem.run_bind]
theorem Fx (hb0:c0.base≤c0.w.heap.size)(hd:fQ n ds o){t t2:TypeId}{dx sx:Operand}(ho:o.op = .call {callee:=.builtin .copy,args:=#[dx,sx],argTypes:=#[t,t2]}){y:AV}{h':AHeap}
  (h:pI P s.h t t2 (bG s.ρ dx) (bG s.ρ sx)=some (y,h')):iM P L0 c0 n ds o s ({s with h:=h'}.set o.dst y):=by
 rintro a w K Q ⟨hn,c,Lo,lam,rfl,f,e0⟩ hK
 have hbs:=iK e0 hb0
 unfold pI at h
 rw [T9] at h
 obtain⟨d,vU,h⟩:=h
 cases d<;>simp only at h<;>try (cases h; done)
 rename_i e
 rw [T9] at h
 obtain⟨i,hi,h⟩:=h
 rw [T9] at h
 obtain⟨⟨new,m⟩,hcs,h⟩:=h
 simp only at h
 split at h
 ·cases h
 rename_i gk
 have gk:ie P t2 (bG s.ρ sx)=true:=by simpa using gk
 have Pm:∀st,bG s.ρ sx = .str st→P.underlying t2=some .string:=by
  intro st hst
  rw [hst] at gk
  unfold ie at gk
  simp only at gk
  split at gk
  ·assumption
  ·cases gk
 have rC:(∀st,bG s.ρ sx≠.str st)→∃e',P.underlying t2=some (.slice e'):=by
  intro hne
  unfold ie at gk
  split at gk
  ·rename_i st hst; exact absurd hst (hne st)
  ·split at gk
   ·rename_i e' he; exact⟨e',he⟩
   ·cases gk
 have hk:(∃e',P.underlying t2=some (.slice e'))∨P.underlying t2=some .string:=by
  by_cases hst:∃st,bG s.ρ sx = .str st
  ·obtain⟨st,hst⟩:=hst; exact .inr (Pm st hst)
  ·exact .inl (rC fun st Ml=>hst ⟨st,Ml⟩)
 obtain⟨news,hS,hv⟩:=oY f (bB f sx) hk Pm rC hcs
 have vC:=bB f dx
 have fin:∀c',(Builtin.copy_ #[t,t2] o.type #[a.eval dx,a.eval sx]).run P c.w = .ok (goInt m) c'.w→Ext c Lo c' Lo→Fr L0 c' Lo lam ds {s with h:=h'} a→y = .int .i64 m→o.wp P a c.w K Q:=by
  intro c' hr e' f' hy
  unfold Oper.wp
  have:(execOp a.eval o).run P c.w = .ok (.value (goInt m)) c'.w:=by
   simp [execOp,ho,resolve,invoke,builtin,hr]
  rw [this,Oper.upon_value]
  exact hK _ _ ⟨(fP _ _ _).trans hn,c',Lo,lam,rfl,f'.set (SR.of (by subst hy; simp [VR,goInt])) (fun t ht=>by rw [hn]; exact hd t ht),e0.trans e'⟩
 cases Bk:bG s.ρ dx<;>rw [Bk] at h vC<;>simp only at h<;>try (cases h; done)
 ·split at h
  rotate_left
  ·cases h
  rename_i ri
  cases h
  simp only [SR,VR] at vC
  obtain⟨ad,vC⟩:∃ad:Option Addr,a.eval dx = .slice ad 0 0:=⟨none,vC⟩
  refine fin c ?_ (Ext.refl _ _) f (by rw [ri]; rfl)
  rw [vC,lT vU hi hS (by omega)]
  cases ad with
  | none=>rfl
  | some ad=>
   have:news=[]:=UQ (by rw [hS.newsLen,ri]; simp)
   subst this
   rfl
 ·rename_i id off len gZ
  split at h
  ·rename_i hid
   split at h
   rotate_left
   ·cases h
   rename_i ri
   cases h
   simp only [SR,VR] at vC
   rcases vC with⟨_,_,_,ad,vC⟩| vC
   rotate_left
   ·exact absurd hid vC.1
   refine fin c ?_ (Ext.refl _ _) f (by rw [ri]; rfl)
   rw [vC,lT vU hi hS (by omega)]
   cases ad with
   | none=>rfl
   | some ad=>
    have:news=[]:=UQ (by rw [hS.newsLen,ri]; simp)
    subst this
    rfl
  rename_i jH
  rw [T9] at h
  obtain⟨ob,hob,h⟩:=h
  cases ob with
  | map es=>cases h
  | row t cs=>cases h
  | cells cs=>
  simp only at h
  split at h
  rotate_left
  ·cases h
  rename_i hh
  obtain⟨CT,Rl,hoff⟩:=hh
  cases h
  simp only [SR,VR] at vC
  rcases vC with vC | ⟨_,hid,ad,cap,vC,hlc,zg,hlive⟩
  ·exact absurd vC.1 jH
  rw [←f.h] at hob
  have hl:Live c.h id:=⟨f.rel.lt _ _ hob,by simp [hob]⟩
  obtain⟨q,hp,hq,hc⟩:=f.rel.obj _ _ hob
  have hnl:=hS.newsLen
  have hvl:=hv.length
  have hr:=lT (ty:=o.type) vU hi hS Rl (base:=ad) (cap:=cap)
  by_cases ha:ad=some ⟨(c.β id).1,(c.β id).2+off,none⟩
  ·subst ha
   simp only at hr
   have hst:=js (P:=P) hp.jM (base:=(c.β id).2) (off:=off) (vs:=news) (by omega) hS.one
   rw [hst] at hr
   simp only [Result.andThen_ok] at hr
   obtain⟨q1,q2,q3,q4⟩:=fZ news (c.β id).1 ((c.β id).2+off) c.w
   have zh:gY c (c.β id).1 q:=hp
   obtain⟨C,HA,hb,qa⟩:=hp
   obtain⟨C',g1,g2,g3⟩:=eP news (c.β id).1 ((c.β id).2+off) c.w C HA (0,0) hb (by omega)
   obtain⟨e',f'⟩:=f.upd (w':=c.w.setCells (c.β id).1 ((c.β id).2+off) news) (β':=c.β) (h':=s.h.put id (.cells (cX cs off new))) id (.cells (cX cs off new))
    (by rw [f.h]; exact Steady.put _ _ _) (by rw [←f.h]; exact Vn hl.1) (by simp [AHeap.put,beq_nat]) (fun jV h1=>.inr ⟨by rw [f.h]; simp [AHeap.put,beq_nat,h1],rfl⟩) (fun _=>⟨hl,rfl⟩) (.inr ⟨id,hl,rfl,.inl rfl⟩)
    (fun _=>by simp only [Cx.len,World.shape?,g1,hb,Ug,U4,g2])
    (fun b _ hne=>dy _ _ _ _ _ hne) (fun b _ hne=>dy _ _ _ _ _ hne) (by rw [q1]; exact Ue _) hbs q2 q3 q4
    (fun ee=>⟨q,zh.setCells (by omega) _ _ _,by rw [gP]; exact hq,il zh.jM hc hv hS.one (by omega) (by omega) ee rfl⟩)
   refine fin _ ?_ e' f' rfl
   rw [vC]
   exact hr
  ·have hz:new=[]∧m=0∧news=[]:=by
    rcases hlive hl with⟨h1,_⟩| h1
    ·exact absurd h1 ha
    ·have h0:m=0:=by omega
     have h2:news=[]:=UQ (by rw [hnl,h0]; simp)
     subst h2
     exact⟨UQ (by simpa using hvl),h0,rfl⟩
   obtain⟨rfl,rfl,rfl⟩:=hz
   have mY:cX cs off []=cs:=by simp [cX]
   rw [mY] at *
   obtain⟨e',f'⟩:=f.upd (w':=c.w) (β':=c.β) (h':=s.h.put id (.cells cs)) id (.cells cs)
    (by rw [f.h]; exact Steady.put _ _ _) (by rw [←f.h]; exact Vn hl.1) (by simp [AHeap.put,beq_nat]) (fun jV h1=>.inr ⟨by rw [f.h]; simp [AHeap.put,beq_nat,h1],rfl⟩) (fun _=>⟨hl,rfl⟩) (.inr ⟨id,hl,rfl,.inl rfl⟩)
    (fun _=>rfl) (fun b _ hne=>rfl) (fun b _ hne=>rfl) (Ue _) hbs rfl rfl rfl
    (fun ee=>nP.ext ee ⟨q,hp,hq,hc⟩ rfl)
   refine fin _ ?_ e' f' rfl
   rw [vC,hr]
   cases ad<;>rfl
end
end Go.R
namespace Go.R
open Go
section
variable {P:Program}{L0:Nat→Prop}{c0:Cx}{n:Nat}{ds:List Nat}{o:Oper}{s:RS}
theorem oZ {e:TypeId}(h:CB P e=true):P.underlying e=some (.int .u8)∧eL P e=some 1:=by
 unfold CB at h
 simp only [Ud,beq_iff_eq] at h
 obtain⟨h1,h2⟩:=h
 refine⟨?_,h2⟩
 split at h1
 ·assumption
 ·cases h1
theorem zt {c:Cx}{L:Nat→Prop}:∀{cs:List AV} {l:List UInt8} {vs:List Value},GL cs=some l→VRs c L cs vs→∃xs:List Int,vs=xs.map (Value.int .u8)∧l=xs.map fun n=>UInt8.ofNat n.toNat
 | [],l,[],h,_=>by simp only [GL,Uc] at h; subst h; exact⟨[],rfl,rfl⟩
 | x::cs,l,v::vs,h,hv=>by
  unfold GL at h
  split at h
  ·rename_i heq; cases heq
  ·rename_i n xs heq
   cases heq
   rw [Ub] at h
   obtain⟨l',h1,rfl⟩:=h
   obtain⟨ys,rfl,rfl⟩:=zt h1 hv.2
   have h2:=hv.1
   simp only [VR] at h2
   subst h2
   exact⟨n::ys,rfl,rfl⟩
  ·cases h
 | [],_,_::_,_,h=>h.elim
 | _::_,_,[],_,h=>h.elim
theorem ux (xs:List Int):strOfNums xs=⟨(xs.map fun n=>UInt8.ofNat n.toNat).toArray⟩:=rfl
theorem vV {w:World}{src dst e:TypeId}{v:Value}{m:Nat}{xs:List Int}(hs:P.underlying src=some (.slice e))(he:P.underlying e=some (.int .u8))(hd:P.underlying dst=some .string)
  (hS:Src P 1 src v m (xs.map (Value.int .u8)) w) (hv:∃a cap,v = .slice a m cap):(convert src dst v).run P w = .ok (.string (strOfNums xs)) w:=by
 obtain⟨a,cap,rfl⟩:=hv
 have hc:=hS.cells
 have hl:=hS.newsLen
 cases a with
 | none=>
  have:xs=[]:=by
   simp [Builtin.firstCells] at hc
   cases xs with
   | nil=>rfl
   | cons x xs=>simp at hc
  subst this
  exact run_convert_bytes_nil w src e hs he m cap dst hd
 | some a=>
  rw [run_convert_bytes_string w src dst e (some a) m cap hs he hd]
  have h1:(loadCells a m).run P w = .ok (xs.map (Value.int .u8)).toArray w:=by simpa [Builtin.firstCells] using hc
  rw [run_bytesToString w a m cap xs h1,foldl_push_bytes]
  simp [strOfNums,ByteArray.empty,ByteArray.emptyWithCapacity]
  rfl
theorem sL {c:Cx}{Lo:Nat→Prop}{lam:Nat→Nat}{x:AV}{v:Value}{h:AHeap}{size m:Nat}{new:List AV}(hx:SR c L0 Lo lam s.bx x v)(hc:dS h size x=some (new,m))(hne:∀st,x≠.str st):∃a cap,v = .slice a m cap:=by
 unfold dS at hc
 cases x<;>simp only at hc<;>try (cases hc; done)
 ·exact absurd rfl (hne _)
 ·cases hc
  simp only [SR,VR] at hx
  subst hx
  exact⟨none,0,rfl⟩
 ·split at hc
  ·cases hc
   simp only [SR,VR] at hx
   obtain⟨a,cap,rfl,_⟩:=hx
   exact⟨a,cap,rfl⟩
  ·cases hc
 ·split at hc
  ·split at hc
   ·cases hc
    simp only [SR,VR] at hx
    rename_i hid hl0
    rcases hx with⟨_,_,_,a,rfl⟩| ⟨_,_,a,cap,rfl,_⟩
    ·exact⟨a,0,rfl⟩
    ·exact⟨a,cap,by rw [hl0]⟩
   ·cases hc
  rename_i jH
  rw [T9] at hc
  obtain⟨ob,_,hc⟩:=hc
  cases ob with
  | map es=>cases hc
  | row t cs=>cases hc
  | cells cs=>
   simp only at hc
   split at hc
   ·cases hc
    simp only [SR,VR] at hx
    rcases hx with hx | ⟨_,_,a,cap,rfl,_⟩
    ·exact absurd (.inl hx.1) jH
    exact⟨a,cap,rfl⟩
   ·cases hc
theorem bytes_VRs {c:Cx}{L:Nat→Prop}:∀l:List UInt8,VRs c L (l.map fun b=>AV.int .u8 b.toNat) (l.map fun b=>Value.int .u8 b.toNat)
 | []=>trivial
 | b::l=>⟨by simp [VR],bytes_VRs l⟩
theorem uy {w:World}{b o k:Nat}{C:Array Value}{e:TypeId}{fr:Nat × Nat}(hb:w.heap[b]? = some (.cells C e fr))(ho:C.size≤o)(hk:k≠0) :
  (∀b',gN w (w.freeze ⟨b,o,none⟩ k) b')∧(∀b',b'≠b→(w.freeze ⟨b,o,none⟩ k).heap[b']? = w.heap[b']?)∧(w.freeze ⟨b,o,none⟩ k).heap.size=w.heap.size∧(w.freeze ⟨b,o,none⟩ k).os=w.os∧(w.freeze ⟨b,o,none⟩ k).tape=w.tape∧(w.freeze ⟨b,o,none⟩ k).output=w.output:=by
 unfold World.freeze
 rw [if_neg hk]
 have hlt:=(UH.1 hb).1
 refine⟨fun b'=>?_,fun b' hne=>by simp [Vc,Ne.symm hne],by simp,rfl,rfl,rfl⟩
 by_cases hne:b'=b
 ·subst hne
  obtain⟨lo,hi⟩:=fr
  refine .inr ⟨C,e,lo,hi,(if lo==hi then (o,o+k) else (min lo o,max hi (o+k))).1,(if lo==hi then (o,o+k) else (min lo o,max hi (o+k))).2,hb,?_,?_⟩
  ·simp [Vc,hb]
  ·intro h
   by_cases Mm:lo=hi
   ·subst Mm; right; simpa using ho
   ·have:(lo==hi)=false:=by simpa using Mm
    right
    simp only [this,Um,if_false]
    rcases h with h | h
    ·exact absurd h Mm
    ·exact Nat.le_min.2 ⟨h,ho⟩
 ·exact .inl (by simp [Vc,Ne.symm hne])
theorem yi (hb0:c0.base≤c0.w.heap.size)(hd:fQ n ds o){src dst:TypeId}{x:Operand}(ho:o.op = .convert src dst x){y:AV}(h:lM P s.h src dst (bG s.ρ x)=some y):iM P L0 c0 n ds o s (s.set o.dst y):=by
 have hex:∀(a:Act) (w w':World) v,(convert src dst (a.eval x)).run P w = .ok v w'→(execOp a.eval o).run P w = .ok (.value v) w':=by
  intro a w w' v hr; simp [execOp,ho,hr]
 unfold lM at h
 split at h
 ·rename_i e hs xH
  split at h
  rotate_left
  ·cases h
  rename_i hu
  obtain⟨he,hsz⟩:=oZ hu
  rw [T9] at h
  obtain⟨⟨cs,m⟩,hcs,h⟩:=h
  rw [Ub] at h
  obtain⟨l,hl,rfl⟩:=h
  by_cases hst:∃st,bG s.ρ x = .str st
  ·
   obtain⟨st,hst⟩:=hst
   refine fe hd fun a c Lo lam f hn=>?_
   have hx:=bB f x
   rw [hst] at hx hcs
   simp only [SR,VR] at hx
   simp only [dS,if_true,Uc,Ui] at hcs
   obtain⟨rfl,rfl⟩:=hcs
   refine⟨_,hex _ _ _ (.string st) ?_,?_⟩
   ·simp [convert,run_underlying hs,run_underlying xH,hx]
   ·have:∀(l0 l1:List UInt8),GL (l0.map fun b=>AV.int .u8 b.toNat)=some l1→l1=l0:=by
     intro l0
     induction l0 with
     | nil=>intro l1 h; simp [GL] at h; exact h
     | cons b l0 ih=>
      intro l1 h
      simp only [UC,GL,Ub] at h
      obtain⟨l2,h2,rfl⟩:=h
      rw [ih l2 h2]
      simp
    rw [this _ _ hl]
    simp [SR,VR]
  ·refine fe hd fun a c Lo lam f hn=>?_
   have hne:∀st,bG s.ρ x≠.str st:=fun st h=>hst ⟨st,h⟩
   have hx:=bB f x
   obtain⟨news,hS,hv⟩:=oY f hx (.inl ⟨e,hs⟩) (fun st h=>absurd h (hne st)) (fun _=>⟨e,hs⟩) hcs
   obtain⟨xs,rfl,rfl⟩:=zt hl hv
   exact⟨_,hex _ _ _ _ (vV hs he xH hS (sL hx hcs hne)),by simp [SR,VR,ux]⟩
 ·rename_i e hs xH
  cases Bk:bG s.ρ x<;>rw [Bk] at h<;>simp only at h<;>try (cases h; done)
  rename_i st
  split at h
  rotate_left
  ·cases h
  rename_i hu
  obtain⟨he,hsz⟩:=oZ hu
  cases h
  refine ru hb0 hd (fun a c Lo lam f hn hbs=>?_) (by rintro k off h; cases h)
  have hx:=bB f x
  rw [Bk] at hx
  simp only [SR,VR] at hx
  have hr:=run_bytes_of_string c.w src dst e st hs xH he
  rw [←hx] at hr
  refine⟨_,_,hex _ _ _ _ hr,fun b hb=>.inl (alloc_old c.w.drew _ (show b<c.w.heap.size from hb)),fun id hl=>alloc_old c.w.drew _ (show (c.β id).1<c.w.heap.size from f.rel.block hl),fun b hb=>alloc_old c.w.drew _ (show b<c.w.heap.size by omega),by show c.w.heap.size≤(c.w.heap.push _).size; simp,rfl,rfl,rfl,fun e'=>?_⟩
  simp only [VR]
  refine⟨_,_,rfl,grownCap_ge c.w,by simp,.inl rfl,?_⟩
  refine .inr ⟨c.w.heap.size,0,rfl,CQ f.rel rfl rfl,by simp,?_⟩
  refine Cells.of_vals (bytes_VRs st.data.toList) (fun i hi=>?_) (fun v hv=>by obtain⟨b,_,rfl⟩:=UO.1 hv; rfl)
  have jl:i<st.data.size:=by simpa using hi
  have:(World.alloc c.w.drew (.cells (bytesRow st (grownCap c.w st.size 0 e)) e ((bytesRow st (grownCap c.w st.size 0 e)).size,(bytesRow st (grownCap c.w st.size 0 e)).size+1))).heap[c.w.heap.size]? = some (.cells (bytesRow st (grownCap c.w st.size 0 e)) e ((bytesRow st (grownCap c.w st.size 0 e)).size,(bytesRow st (grownCap c.w st.size 0 e)).size+1)):=hJ c.w.drew _
  rw [cell_of_block this]
  simp [bytesRow,Array.getElem?_append,jl]
  intro hge
  have:st.size=st.data.size:=rfl
  omega
 ·rename_i e0 e hs xH
  cases Bk:bG s.ρ x<;>rw [Bk] at h<;>try (cases h; done)
  rename_i cs m ex
  cases ex
  ·cases h
  simp only at h
  split at h
  rotate_left
  ·cases h
  rename_i hu
  simp only [Ud,beq_iff_eq,decide_eq_true_eq] at hu
  obtain⟨⟨Rm,hu⟩,nV⟩:=hu
  subst Rm
  obtain⟨he,hsz⟩:=oZ hu
  cases h
  refine ru hb0 hd (fun a c Lo lam f hn hbs=>?_) (by rintro k off h; cases h)
  have hx:=bB f x
  rw [Bk] at hx
  have Fy:=hx.vr (by rintro k off h; cases h)
  simp only [SR,VR] at hx
  obtain⟨ad,cap,pP,h1,h2,_,h3⟩:=hx
  rcases h3 with rfl | ⟨b,off,rfl,GM,hbb,hc⟩
  ·simp at nV
  have hlt:b<c.w.heap.size:=by
   cases cs with
   | nil=>simp at nV
   | cons x cs=>exact jm hc
  have mY:∃C e' fr,c.w.heap[b]? = some (.cells C e' fr):=by
   cases cs with
   | nil=>simp at nV
   | cons x cs=>
    obtain⟨⟨v,hv,_⟩,_⟩:=hc
    unfold World.cell? at hv
    split at hv
    ·exact⟨_,_,_,by assumption⟩
    ·cases hv
  obtain⟨C,e',fr,hb⟩:=mY
  obtain⟨k1,k2,k3,k4,k5,k6⟩:=uy (k:=1) hb (Ue C.size) (by decide)
  refine⟨c.w.freeze ⟨b,C.size,none⟩ 1,a.eval x,hex _ _ _ _ ?_,fun b' _=>k1 b',fun id hl=>k2 _ (GM.1 id hl),fun b' sE=>k2 b' (by have:=hbb trivial; omega),by rw [k3]; exact Ue _,k4,k5,k6,fun HA=>VR.ext HA _ _ Fy⟩
  rw [pP]
  have Fa:c.w.shape? b=some (e',C.size):=by simp [World.shape?,hb]
  simp [convert,run_underlying xH,run_underlying he,markStringish,Fa]
 ·rw [T9] at h
  obtain⟨v,hv,h⟩:=h
  rw [T9] at h
  obtain⟨r,hr,h⟩:=h
  refine fe hd fun a c Lo lam f hn=>?_
  have hx:=ko hv ((bB f x).vr (kq hv))
  exact⟨r,hex _ _ _ _ (by rw [hx]; exact jN _ hr),SR.of (mE h)⟩
theorem dN {op:BinOp}{t:TypeId}{x y:Operand}{u v:Value}(h:(∀a b,u≠.agg a∨v≠.agg b)∧u≠.nilIface)(w:World):(eqGuard op t x y u v).run P w = .ok () w:=by
 obtain⟨h1,h2⟩:=h
 unfold eqGuard
 cases op<;>first | rfl | skip
 all_goals
  simp only [Vo,Um,if_false]
  split
  ·exact absurd rfl h2
  ·rename_i a b; rcases h1 a b with h3 | h3<;>exact absurd rfl h3
  ·rfl
theorem yj {x:AV}{u:Value}(h:x.fN=some u):(∀a,u≠.agg a)∧u≠.nilIface:=by
 unfold AV.fN at h
 split at h<;>first | (cases h; done) | (cases h; exact⟨fun _=>(by simp),(by simp)⟩)
theorem Bo {op:BinOp}{a b:ByteArray}{y:AV}(h:xS op a b=some y)(w:World):∃r,(Op.stringOp op a b).run P w = .ok r w∧∀(c:Cx) (L:Nat→Prop),VR c L y r:=by
 have hl:∀z:ByteArray,z.toList=z.data.toList:=fun z=>ByteArray.toList_eq z
 unfold xS at h
 unfold Op.stringOp
 simp only [hl]
 cases op<;>simp only at h<;>try (cases h; done)
 ·split at h
  rotate_left
  ·cases h
  rename_i hsz
  cases h
  refine⟨.string (a++b),?_,fun c L=>by simp only [VR]⟩
  have h1:¬(((a.size+b.size:Nat):Int) > IntKind.i64.max):=by
   have:IntKind.i64.max=9223372036854775807:=by decide
   rw [this]; omega
  simp only [h1,if_false]
  rfl
 all_goals (cases h; exact⟨_,rfl,fun c L=>by simp only [VR]⟩)
theorem mF {op:BinOp}{oQ:Bool}(h:xT op=some oQ):(op = .eql∧oQ=true)∨(op = .neq∧oQ=false):=by
 unfold xT at h
 split at h<;>cases h
 ·exact .inl ⟨rfl,rfl⟩
 ·exact .inr ⟨rfl,rfl⟩
theorem nw {t:TypeId}(ht:∃q,P.underlying t=some (.pointer q)){a:Addr}{op:BinOp}{oQ:Bool}(h:xT op=some oQ)(w:World) :
  (binOp op t (.pointer (some a)) (.pointer none)).run P w = .ok (.bool (!oQ)) w∧(binOp op t (.pointer none) (.pointer (some a))).run P w = .ok (.bool (!oQ)) w:=by
 obtain⟨q,hq⟩:=ht
 have e1:(Op.equal t (.pointer (some a)) (.pointer none)).run P w = .ok false w:=by
  unfold Op.equal Op.maxDepth
  unfold Op.equalIn
  simp [bo hq]
 have e2:(Op.equal t (.pointer none) (.pointer (some a))).run P w = .ok false w:=by
  unfold Op.equal Op.maxDepth
  unfold Op.equalIn
  simp [bo hq]
 rcases mF h with⟨rfl,rfl⟩| ⟨rfl,rfl⟩
 ·constructor
  ·show ((do pure (.bool (←Op.equal t (.pointer (some a)) (.pointer none)))):Sem Value).run P w=_
   simp [e1]
  ·show ((do pure (.bool (←Op.equal t (.pointer none) (.pointer (some a))))):Sem Value).run P w=_
   simp [e2]
 ·constructor
  ·show ((do pure (.bool (!(←Op.equal t (.pointer (some a)) (.pointer none))))):Sem Value).run P w=_
   simp [e1]
  ·show ((do pure (.bool (!(←Op.equal t (.pointer none) (.pointer (some a)))))):Sem Value).run P w=_
   simp [e2]
theorem nW {t:TypeId}(ht:∃q,P.underlying t=some (.slice q)){ad:Option Addr}(hs:ad.isSome=true){m cap:Nat}{op:BinOp}{oQ:Bool}(h:xT op=some oQ)(w:World) :
  (binOp op t (.slice ad m cap) (.slice none 0 0)).run P w = .ok (.bool (!oQ)) w:=by
 obtain⟨q,hq⟩:=ht
 obtain⟨a,rfl⟩:=UI.1 hs
 have e1:(Op.equal t (.slice (some a) m cap) (.slice none 0 0)).run P w = .ok false w:=by
  unfold Op.equal Op.maxDepth
  unfold Op.equalIn
  simp [bo hq]
 rcases mF h with⟨rfl,rfl⟩| ⟨rfl,rfl⟩
 ·show ((do pure (.bool (←Op.equal t (.slice (some a) m cap) (.slice none 0 0)))):Sem Value).run P w=_
  simp [e1]
 ·show ((do pure (.bool (!(←Op.equal t (.slice (some a) m cap) (.slice none 0 0))))):Sem Value).run P w=_
  simp [e1]
theorem CV (hd:fQ n ds o){op:BinOp}{t t2:TypeId}{x y:Operand}(ho:o.op = .binOp op t x y t2){z:AV}(h:lN P op t (bG s.ρ x) (bG s.ρ y)=some z):iM P L0 c0 n ds o s (s.set o.dst z):=by
 refine fe hd fun a c Lo lam f hn=>?_
 have hx:=bB f x
 have hy:=bB f y
 have hex:∀v,(eqGuard op t x y (a.eval x) (a.eval y)).run P c.w = .ok () c.w→(binOp op t (a.eval x) (a.eval y)).run P c.w = .ok v c.w→(execOp a.eval o).run P c.w = .ok (.value v) c.w:=by
  intro v h1 h2; simp [execOp,ho,h1,h2]
 unfold lN at h
 split at h
 ·rename_i p q hp hq
  rw [hp] at hx; rw [hq] at hy
  simp only [SR,VR] at hx hy
  obtain⟨r,hr,hv⟩:=Bo (P:=P) h c.w
  refine⟨r,hex _ (dN ⟨fun _ _=>.inl (by rw [hx]; simp),by rw [hx]; simp⟩ _) ?_,SR.of (hv _ _)⟩
  rw [hx,hy]
  unfold binOp
  simpa using hr
 ·rename_i p q hp hq
  rw [hp] at hx; rw [hq] at hy
  simp only [SR,VR] at hx hy
  obtain⟨_,ad,pP,_⟩:=hx
  rw [T9] at h
  obtain⟨oQ,qg,h⟩:=h
  split at h
  rotate_left
  ·cases h
  rename_i ht
  cases h
  refine⟨.bool (!oQ),hex _ (dN ⟨fun _ _=>.inl (by rw [pP]; simp),by rw [pP]; simp⟩ _) ?_,SR.of (by simp [VR])⟩
  rw [pP,hy]
  exact (nw ⟨_,ht⟩ qg _).1
 ·rename_i p q hp hq
  rw [hp] at hx; rw [hq] at hy
  simp only [SR,VR] at hx hy
  obtain⟨_,ad,LC,_⟩:=hy
  rw [T9] at h
  obtain⟨oQ,qg,h⟩:=h
  split at h
  rotate_left
  ·cases h
  rename_i ht
  cases h
  refine⟨.bool (!oQ),hex _ (dN ⟨fun _ _=>.inl (by rw [hx]; simp),by rw [hx]; simp⟩ _) ?_,SR.of (by simp [VR])⟩
  rw [hx,LC]
  exact (nw ⟨_,ht⟩ qg _).2
 ·rename_i p q hp hq
  rw [hp] at hx; rw [hq] at hy
  simp only [SR,VR] at hx hy
  obtain⟨b,off,pP,_⟩:=hx
  rw [T9] at h
  obtain⟨oQ,qg,h⟩:=h
  split at h
  rotate_left
  ·cases h
  rename_i ht
  cases h
  refine⟨.bool (!oQ),hex _ (dN ⟨fun _ _=>.inl (by rw [pP]; simp),by rw [pP]; simp⟩ _) ?_,SR.of (by simp [VR])⟩
  rw [pP,hy]
  exact (nw ⟨_,ht⟩ qg _).1
 ·rename_i hp hq
  rw [hp] at hx; rw [hq] at hy
  simp only [SR,VR] at hx hy
  obtain⟨ad,cap,pP,_,_,hs,_⟩:=hx
  replace hs:ad.isSome=true:=hs.elim id fun h=>by cases h.1
  rw [T9] at h
  obtain⟨oQ,qg,h⟩:=h
  split at h
  rotate_left
  ·cases h
  rename_i ht
  cases h
  refine⟨.bool (!oQ),hex _ (dN ⟨fun _ _=>.inl (by rw [pP]; simp),by rw [pP]; simp⟩ _) ?_,SR.of (by simp [VR])⟩
  rw [pP,hy]
  exact nW ⟨_,ht⟩ hs qg _
 ·rename_i hp hq
  rw [hp] at hx; rw [hq] at hy
  simp only [SR,VR] at hx hy
  rcases hx with⟨hx,_⟩| ⟨_,_,ad,cap,pP,_,hs,_⟩
  ·omega
  rw [T9] at h
  obtain⟨oQ,qg,h⟩:=h
  split at h
  rotate_left
  ·cases h
  rename_i ht
  cases h
  refine⟨.bool (!oQ),hex _ (dN ⟨fun _ _=>.inl (by rw [pP]; simp),by rw [pP]; simp⟩ _) ?_,SR.of (by simp [VR])⟩
  rw [pP,hy]
  exact nW ⟨_,ht⟩ hs qg _
 ·rename_i p q hp hq
  rw [hp,hq] at h
  rw [hp] at hx; rw [hq] at hy
  have Fy:=hx.vr (by rintro k off h; cases h)
  have Mn:=hy.vr (by rintro k off h; cases h)
  rw [T9] at h
  obtain⟨oQ,qg,h⟩:=h
  split at h
  rotate_left
  ·cases h
  rename_i jt
  simp only [Ud,Vf] at jt
  obtain⟨⟨⟨h1,h2⟩,h3⟩,h4⟩:=jt
  cases h
  have hk:=te (P:=P) 9998 h1 h3 Fy Mn c.w
  simp only [VR] at Fy Mn
  obtain⟨vx,pP,_⟩:=Fy
  obtain⟨vy,LC,_⟩:=Mn
  refine⟨.bool (eY (.agg p) (.agg q)==oQ),hex _ ?_ ?_,SR.of (by simp only [VR])⟩
  ·rw [pP,LC]
   rcases mF qg with⟨rfl,rfl⟩| ⟨rfl,rfl⟩<;>simp [eqGuard,h4,program,Sem.run]
  ·rw [pP,LC] at hk ⊢
   rcases mF qg with⟨rfl,rfl⟩| ⟨rfl,rfl⟩
   ·show ((do pure (.bool (←Op.equal t (.agg vx) (.agg vy)))):Sem Value).run P c.w=_
    have JJ:(Op.equal t (.agg vx) (.agg vy)).run P c.w=_:=hk
    simp [JJ]
   ·show ((do pure (.bool (!(←Op.equal t (.agg vx) (.agg vy))))):Sem Value).run P c.w=_
    have JJ:(Op.equal t (.agg vx) (.agg vy)).run P c.w=_:=hk
    simp [JJ]
 ·rw [T9] at h
  obtain⟨u,hu,h⟩:=h
  rw [T9] at h
  obtain⟨v,hv,h⟩:=h
  rw [T9] at h
  obtain⟨r,hr,h⟩:=h
  have h1:=ko hu (hx.vr (kq hu))
  have h2:=ko hv (hy.vr (kq hv))
  have h3:=yj hu
  exact⟨r,hex _ (dN ⟨fun p _=>.inl (by rw [h1]; exact h3.1 p),by rw [h1]; exact h3.2⟩ _) (by rw [h1,h2]; exact jN _ hr),SR.of (mE h)⟩
theorem Fz (hd:fQ n ds o){op:UnOp}{t:TypeId}{x:Operand}(ho:o.op = .unOp op t x){z:AV}(h:((bG s.ρ x).fN.bind fun a=>(ib P (Op.unary op a)).bind nM)=some z):iM P L0 c0 n ds o s (s.set o.dst z):=by
 refine fe hd fun a c Lo lam f hn=>?_
 rw [T9] at h
 obtain⟨u,hu,h⟩:=h
 rw [T9] at h
 obtain⟨r,hr,h⟩:=h
 have h1:=ko hu ((bB f x).vr (kq hu))
 refine⟨r,?_,SR.of (mE h)⟩
 have:=jN (P:=P) c.w hr
 rw [←h1] at this
 simp [execOp,ho,this]
theorem zu (hd:fQ n ds o){x:Operand}(ho:o.op = .move x∨o.op = .assign x):iM P L0 c0 n ds o s (s.set o.dst (bG s.ρ x)):=
 fe hd fun a c Lo lam f hn=>⟨a.eval x,by rcases ho with ho | ho<;>simp [execOp,ho],bB f x⟩
theorem FA (hd:fQ n ds o){k x y:Operand}(ho:o.op = .pick k x y){t:Bool}(h:q6 (bG s.ρ k)=some t):iM P L0 c0 n ds o s (s.set o.dst (if t then bG s.ρ x else bG s.ρ y)):=by
 refine fe hd fun a c Lo lam f hn=>?_
 have hk:=bB f k
 unfold q6 at h
 split at h
 ·rename_i b hb
  cases h
  rw [hb] at hk
  simp only [SR,VR] at hk
  refine⟨if t then a.eval x else a.eval y,by simp [execOp,ho,hk,asBool],?_⟩
  cases t
  ·exact bB f y
  ·exact bB f x
 ·cases h
theorem vW (hd:fQ n ds o){x:Operand}(ho:o.op = .nilCheck x){z:AV}(h:oT (bG s.ρ x)=some z):iM P L0 c0 n ds o s (s.set o.dst z):=by
 refine fe hd fun a c Lo lam f hn=>?_
 have hx:=bB f x
 have hp:(∃ad,a.eval x = .pointer (some ad))∧z=bG s.ρ x:=by
  unfold oT at h
  split at h
  ·rename_i id off heq
   cases h
   rw [heq] at hx
   simp only [SR,VR] at hx
   obtain⟨_,ad,h1,_⟩:=hx
   exact⟨⟨ad,h1⟩,heq.symm⟩
  ·rename_i k off heq
   cases h
   rw [heq] at hx
   simp only [SR] at hx
   exact⟨⟨_,hx.1⟩,heq.symm⟩
  ·rename_i cs off heq
   cases h
   rw [heq] at hx
   simp only [SR,VR] at hx
   obtain⟨b,o',h1,_⟩:=hx
   exact⟨⟨_,h1⟩,heq.symm⟩
  ·cases h
 obtain⟨⟨ad,hp⟩,rfl⟩:=hp
 exact⟨a.eval x,by simp [execOp,ho,hp],hx⟩
theorem mG {c:Cx}{Lo:Nat→Prop}{lam:Nat→Nat}{a:Act}(f:Fr L0 c Lo lam ds s a):∀xs:List Operand,(∀x∈xs,∀k off,bG s.ρ x≠.lp k off)→VRs c (un L0 Lo) (xs.map (bG s.ρ)) (xs.map a.eval)
 | [],_=>trivial
 | x::xs,h=>⟨(bB f x).vr (h x (by simp)),mG f xs fun y hy=>h y (by simp [hy])⟩
theorem Bp {x:AV}(h:x.bP=true):∀k off,x≠.lp k off:=by rintro k off rfl; simp [AV.bP] at h
theorem vX (hd:fQ n ds o){yk:FuncId}{first cap:Array Operand}(ho:o.op = .makeFunc (.func yk) first cap)(hf:first.isEmpty=true)(hc:(cap.toList.map (bG s.ρ)).all AV.bP=true):iM P L0 c0 n ds o s (s.set o.dst (.fn yk (cap.toList.map (bG s.ρ)))):=by
 refine fe hd fun a c Lo lam f hn=>?_
 have Mo:first = #[]:=by simpa using hf
 subst Mo
 refine⟨.func (.func yk) #[] (cap.map a.eval),by simp [execOp,ho,Instr.makeFunc],SR.of ?_⟩
 simp only [VR]
 refine⟨_,rfl,?_⟩
 rw [Array.toList_map]
 refine mG f _ fun x hx=>Bp ?_
 rw [Uv] at hc
 exact hc _ (UO.2 ⟨x,hx,rfl⟩)
theorem yl (hd:fQ n ds o){x:Operand}{i:Nat}(ho:o.op = .extract x i){z:AV}(h:q7 (bG s.ρ x) i=some z):iM P L0 c0 n ds o s (s.set o.dst z):=by
 refine fe hd fun a c Lo lam f hn=>?_
 have hx:=bB f x
 cases heq:bG s.ρ x<;>rw [heq] at h hx<;>simp only [q7] at h<;>try (cases h; done)
 rename_i vs
 simp only [SR,VR] at hx
 obtain⟨us,pP,Cq⟩:=hx
 obtain⟨v,hv,hr⟩:=Cq.get i z h
 have Mp:us[i]? = some v:=by simpa using hv
 exact⟨v,by simp [execOp,ho,pP,Instr.extract,Mp],SR.of hr⟩
theorem pQ {op:Value→Value→Sem Value}:∀(vs:List Value) (v r:Value) (w:World),kR P op v vs=some r→(vs.foldlM op v).run P w = .ok r w
 | [],v,r,w,h=>by simp only [kR,Uc] at h; subst h; rfl
 | x::xs,v,r,w,h=>by
  simp only [kR,T9] at h
  obtain⟨u,h1,h2⟩:=h
  simp only [List.foldlM_cons,Sem.run_bind,jN w h1,Result.andThen_ok]
  exact pQ xs u r w h2
theorem tl (hd:fQ n ds o){b:Builtin}{zw:Array TypeId}{args:Array Operand}(ho:o.op = .call {callee:=.builtin b,args:=args,argTypes:=zw}){op:Value→Value→Sem Value}(hb:(b = .min∧op=Builtin.min2)∨(b = .max∧op=Builtin.max2))
  {x:AV} {xs:List AV} (he:args.toList.map (bG s.ρ)=x::xs) {v u:Value} {vs:List Value} (hx:x.fN=some v) (hxs:iB xs=some vs) (hf:kR P op v vs=some u) {z:AV} (hz:nM u=some z):iM P L0 c0 n ds o s (s.set o.dst z):=by
 refine fe hd fun a c Lo lam f hn=>?_
 refine⟨u,?_,SR.of (mE hz)⟩
 have hne:∀q:Operand,∀k off,bG s.ρ q = .lp k off→q∉args.toList:=by
  intro q k off hq hm
  have Fb:AV.lp k off∈x::xs:=by rw [←he,←hq]; exact UO.2 ⟨q,hm,rfl⟩
  rcases UA.1 Fb with h1 | h1
  ·exact kq hx k off h1.symm
  ·have:∀(ys:List AV) (us:List Value),iB ys=some us→AV.lp k off∉ys:=by
    intro ys
    induction ys with
    | nil=>intro us _ h; cases h
    | cons y ys ih=>
     intro us hu hm
     simp only [iB,T9] at hu
     obtain⟨u1,h2,TT,h3,_⟩:=hu
     rcases UA.1 hm with h4 | h4
     ·exact kq h2 k off h4.symm
     ·exact ih _ h3 h4
   exact this _ _ hxs h1
 have zf:=mG f args.toList (fun q hq k off h=>hne q k off h hq)
 rw [he] at zf
 have kx:args.toList.map a.eval=v::vs:=oV (xs:=x::xs) (us:=v::vs) (by simp [iB,hx,hxs]) zf
 have hr:=pQ vs v u c.w hf
 have hargs:args.map a.eval=(v::vs).toArray:=by rw [←kx]; apply VJ; simp
 rcases hb with⟨rfl,rfl⟩| ⟨rfl,rfl⟩
 ·simp [execOp,ho,resolve,invoke,builtin,Builtin.min_,hargs,hr]
 ·simp [execOp,ho,resolve,invoke,builtin,Builtin.max_,hargs,hr]
end
end Go.R
namespace Go.R
open Go
section
variable {P:Program}{L0:Nat→Prop}{c0:Cx}{n:Nat}{ds:List Nat}{s:RS}
theorem Fr.CW {c:Cx}{Lo:Nat→Prop}{lam:Nat→Nat}{a:Act}(f:Fr L0 c Lo lam ds s a)(id:Nat) :
  Ext c Lo ⟨c.β,c.h.kill id,c.w,c.base⟩ Lo∧Fr L0 ⟨c.β,c.h.kill id,c.w,c.base⟩ Lo lam ds {s with h:=s.h.kill id} a∧(Live c.h id→RO ⟨c.β,c.h.kill id,c.w,c.base⟩ (un L0 Lo) (c.β id).1):=by
 have hg:∀i,(c.h.kill id).get i=if i=id then none else c.h.get i:=fun i=>by
  simp only [AHeap.kill,beq_nat]
  by_cases h:i=id<;>simp [h]
 have ly:∀i,Live (c.h.kill id) i→i≠id∧Live c.h i:=fun i hl=>by
  have h2:=hl.2
  rw [hg] at h2
  by_cases h:i=id
  ·rw [if_pos h] at h2; cases h2
  ·rw [if_neg h] at h2
   obtain⟨o,ho⟩:=UI.1 h2
   exact⟨h,f.rel.lt _ _ ho,h2⟩
 have e:Ext c Lo ⟨c.β,c.h.kill id,c.w,c.base⟩ Lo:=
  ⟨Vi _,fun i hi hl=>⟨(ly i hl).2,rfl,rfl⟩,Ue _,fun _ _ _ _=>.inl rfl,fun _ _=>rfl,rfl,fun i hl=>.inr ⟨i,(ly i hl).2,rfl⟩,fun _ h=>h,fun _ h=>.inl h,rfl,rfl,rfl⟩
 refine⟨e,⟨by rw [←f.h],⟨fun i o ho=>?_,fun i o ho=>?_,fun i j hi hj he=>?_,fun i hi=>?_,f.rel.bd,fun i hi=>?_,(Steady.kill c.h id).wf f.rel.ver⟩,fun t=>?_,fun k cs hb=>?_,f.inj,f.tidy,f.defers,f.CD⟩,fun hl=>⟨fun i hi he=>?_,f.rel.out id hl⟩⟩
 ·replace ho:(c.h.kill id).get i=some o:=ho
  rw [hg] at ho
  by_cases h:i=id
  ·rw [if_pos h] at ho; cases ho
  ·rw [if_neg h] at ho; exact Vn (f.rel.lt _ _ ho)
 ·replace ho:(c.h.kill id).get i=some o:=ho
  rw [hg] at ho
  by_cases h:i=id
  ·rw [if_pos h] at ho; cases ho
  ·rw [if_neg h] at ho
   exact (f.rel.obj i o ho).ext e rfl
 ·exact f.rel.inj i j (ly i hi).2 (ly j hj).2 he
 ·exact f.rel.out i (ly i hi).2
 ·exact f.rel.low i (ly i hi).2
 ·exact (f.slot t).ext e (fun _ _ _=>⟨rfl,fun h=>h⟩)
 ·have hb2:=f.box k cs hb
  exact hb2.ext e (.inl rfl)
 ·obtain⟨h1,h2⟩:=ly i hi
  exact h1 (f.rel.inj i id h2 hl he)
theorem FB {c:Cx}{Lo:Nat→Prop}{lam:Nat→Nat}{a:Act}(f:Fr L0 c Lo lam ds s a){x y:AV}{h':AHeap}(h:Bf s.h x=some (y,h')) :
  Ext c Lo ⟨c.β,h',c.w,c.base⟩ Lo∧Fr L0 ⟨c.β,h',c.w,c.base⟩ Lo lam ds {s with h:=h'} a∧(∀v,VR c (un L0 Lo) x v→VR ⟨c.β,h',c.w,c.base⟩ (un L0 Lo) y v)∧∀i,Live h' i→Live c.h i:=by
 have same:Ext c Lo ⟨c.β,s.h,c.w,c.base⟩ Lo∧Fr L0 ⟨c.β,s.h,c.w,c.base⟩ Lo lam ds {s with h:=s.h} a∧(⟨c.β,s.h,c.w,c.base⟩:Cx)=c:=by
  have e:(⟨c.β,s.h,c.w,c.base⟩:Cx)=c:=by rw [←f.h]
  rw [e]; exact⟨Ext.refl _ _,f,rfl⟩
 unfold Bf at h
 split at h
 ·simp only [Uc,Ui] at h
  obtain⟨rfl,rfl⟩:=h
  obtain⟨h1,h2,h3⟩:=same
  exact⟨h1,h2,fun v hv=>by rw [h3]; exact hv,fun i hi=>by rw [f.h]; exact hi⟩
 cases x with
 | rs id off len gZ=>
  simp only at h
  split at h
  ·rename_i hid
   split at h
   rotate_left
   ·cases h
   rename_i hl0
   simp only [Uc,Ui] at h
   obtain⟨rfl,rfl⟩:=h
   obtain⟨h1,h2,h3⟩:=same
   refine⟨h1,h2,fun v hv=>?_,fun i hi=>by rw [f.h]; exact hi⟩
   simp only [VR] at hv ⊢
   rcases hv with⟨_,_,_,a,rfl⟩| hv
   ·exact⟨a,0,rfl,Ue _,fun _=>rfl,.inr ⟨trivial,rfl⟩,.inl trivial⟩
   ·exact absurd hid hv.1
  rename_i jH
  rw [T9] at h
  obtain⟨ob,ho,h⟩:=h
  cases ob with
  | map es=>cases h
  | row t cs=>cases h
  | cells cs=>
  simp only at h
  split at h
  rotate_left
  ·cases h
  rename_i hle
  simp only [Uc,Ui] at h
  obtain⟨rfl,rfl⟩:=h
  rw [←f.h] at ho
  have hl:Live c.h id:=⟨f.rel.lt _ _ ho,by simp [ho]⟩
  obtain⟨e,f',GM⟩:=f.CW id
  have hb:(⟨c.β,s.h.kill id,c.w,c.base⟩:Cx)=⟨c.β,c.h.kill id,c.w,c.base⟩:=by rw [f.h]
  rw [hb]
  refine⟨e,f',fun v hv=>?_,fun i hi=>?_⟩
  ·simp only [VR] at hv ⊢
   rcases hv with hv | ⟨_,_,a,cap,rfl,h1,h2,h3⟩
   ·exact absurd hv.1 jH
   obtain⟨m,_,_,hc⟩:=f.rel.obj _ _ ho
   refine⟨a,cap,rfl,h1,by simp,.inl h2,?_⟩
   rcases h3 hl with⟨h4,_⟩| h4
   ·exact .inr ⟨_,_,h4,GM hl,by simp,Cells.move e _ _ _ _ _ (fun i hi=>rfl) ((hc.drop off).take (len*gZ))⟩
   ·left
    have hz:len=0:=by omega
    subst hz
    simp
  ·have ze:=hi.2
   simp only [AHeap.kill,beq_nat] at ze
   by_cases h:i=id
   ·simp [h] at ze
   ·simp only [h,decide_false,cond_false] at ze
    rw [f.h]
    obtain⟨o,Jm⟩:=UI.1 ze
    have:=f.rel.lt i o (by rw [f.h]; exact Jm)
    rw [f.h] at this
    exact⟨this,ze⟩
 | _=>cases h
theorem zx:∀{cs:List AV} {c:Cx} {Lo:Nat→Prop} {lam:Nat→Nat} {a:Act} {s:RS} {ys:List AV} {h':AHeap},Fr L0 c Lo lam ds s a→ud s.h cs=some (ys,h')→
  Ext c Lo ⟨c.β,h',c.w,c.base⟩ Lo∧Fr L0 ⟨c.β,h',c.w,c.base⟩ Lo lam ds {s with h:=h'} a∧(∀b o,Cells c (un L0 Lo) cs b o→Cells ⟨c.β,h',c.w,c.base⟩ (un L0 Lo) ys b o)∧∀i,Live h' i→Live c.h i
 | [],c,Lo,lam,a,s,ys,h',f,h=>by
  cases h
  have e:(⟨c.β,s.h,c.w,c.base⟩:Cx)=c:=by rw [←f.h]
  rw [e]
  exact⟨Ext.refl _ _,f,fun _ _ h=>h,fun i hi=>by rw [f.h]; exact hi⟩
 | x::cs,c,Lo,lam,a,s,ys,h',f,h=>by
  simp only [ud,T9,Ub] at h
  obtain⟨⟨y,h1⟩,hx,⟨zs,h2⟩,hz,he⟩:=h
  simp only [Ui] at he
  obtain⟨rfl,rfl⟩:=he
  obtain⟨e1,f1,v1,l1⟩:=FB f hx
  obtain⟨e2,f2,v2,l2⟩:=zx f1 hz
  refine⟨e1.trans e2,f2,fun b o hc=>?_,fun i hi=>l1 i (l2 i hi)⟩
  obtain⟨⟨v,q1,q2,q3⟩,hc⟩:=hc
  exact⟨⟨v,q1,q2,VR.ext e2 _ _ (v1 v q3)⟩,v2 _ _ (Cells.move e1 _ _ _ _ _ (fun i hi=>rfl) hc)⟩
theorem uz {c:Cx}{Lo:Nat→Prop}{lam:Nat→Nat}{a:Act}(f:Fr L0 c Lo lam ds s a){k:Nat}{x y:AV}{h':AHeap}(h:iL k s.h x=some (y,h')) :
  (∀k off,x≠.lp k off)∧(∀k off,y≠.lp k off)∧∃c',c'.w=c.w∧Ext c Lo c' Lo∧Fr L0 c' Lo lam ds {s with h:=h'} a∧∀v,VR c (un L0 Lo) x v→VR c' (un L0 Lo) y v:=by
 cases k with
 | zero=>
  cases x with
  | nils=>
   simp only [iL,Uc,Ui] at h
   obtain⟨rfl,rfl⟩:=h
   refine⟨by simp,by simp,c,rfl,Ext.refl _ _,f,fun v hv=>?_⟩
   simp only [VR] at hv ⊢
   exact⟨none,0,hv,Ue _,fun _=>rfl,.inr ⟨trivial,rfl⟩,.inl trivial⟩
  | fz cs m ex=>
   simp only [iL,Uc,Ui] at h
   obtain⟨rfl,rfl⟩:=h
   refine⟨by simp,by simp,c,rfl,Ext.refl _ _,f,fun v hv=>?_⟩
   simp only [VR] at hv ⊢
   obtain⟨a,cap,rfl,h1,h2,hs,hc⟩:=hv
   exact⟨a,cap,rfl,h1,by simp,hs,hc.imp id fun ⟨b,o,ha,hr,hex,hc⟩=>⟨b,o,ha,hr,by simp,hc⟩⟩
  | rs id off len gZ=>
   simp only [iL] at h
   split at h
   ·rename_i hid
    split at h
    rotate_left
    ·cases h
    rename_i hl0
    simp only [Uc,Ui] at h
    obtain⟨rfl,rfl⟩:=h
    refine⟨by simp,by simp,c,rfl,Ext.refl _ _,f,fun v hv=>?_⟩
    simp only [VR] at hv ⊢
    rcases hv with⟨_,_,_,a,rfl⟩| hv
    ·exact⟨a,0,rfl,Ue _,fun _=>rfl,.inr ⟨trivial,rfl⟩,.inl trivial⟩
    ·exact absurd hid hv.1
   rename_i jH
   rw [T9] at h
   obtain⟨ob,ho,h⟩:=h
   cases ob with
   | map es=>cases h
   | row t cs=>cases h
   | cells cs=>
   simp only at h
   split at h
   rotate_left
   ·cases h
   rename_i hle
   rw [Ub] at h
   obtain⟨⟨eO,h2⟩,hz,he⟩:=h
   simp only [Ui] at he
   obtain⟨rfl,rfl⟩:=he
   rw [←f.h] at ho
   have hl:Live c.h id:=⟨f.rel.lt _ _ ho,by simp [ho]⟩
   obtain⟨e,f',GM⟩:=f.CW id
   obtain⟨e2,f2,hcs,ly⟩:=zx f' hz
   refine⟨by simp,by simp,⟨c.β,h2,c.w,c.base⟩,rfl,e.trans e2,f2,fun v hv=>?_⟩
   simp only [VR] at hv ⊢
   rcases hv with hv | ⟨_,_,a,cap,rfl,h1,h2,h3⟩
   ·exact absurd hv.1 jH
   obtain⟨m,_,_,hc⟩:=f.rel.obj _ _ ho
   refine⟨a,cap,rfl,h1,by simp,.inl h2,?_⟩
   rcases h3 hl with⟨h4,_⟩| h4
   ·exact .inr ⟨_,_,h4,⟨fun i hi=>(GM hl).1 i (ly i hi),(GM hl).2⟩,by simp,hcs _ _ (Cells.move e _ _ _ _ _ (fun i hi=>rfl) ((hc.drop off).take (len*gZ)))⟩
   ·left
    have hz0:len=0:=by omega
    subst hz0
    simp [ud] at hz
    exact hz.1
  | _=>simp [iL] at h
 | succ k=>
  have key:(x = .nils∨x = .fz [] 0 true)→y = .rs 0 0 0 (k+1)→h'=s.h→(∀k off,x≠.lp k off)∧(∀k off,y≠.lp k off)∧∃c',c'.w=c.w∧Ext c Lo c' Lo∧Fr L0 c' Lo lam ds {s with h:=h'} a∧∀v,VR c (un L0 Lo) x v→VR c' (un L0 Lo) y v:=by
   rintro hx rfl rfl
   refine⟨by rcases hx with rfl | rfl<;>simp,by simp,c,rfl,Ext.refl _ _,f,fun v hv=>?_⟩
   rcases hx with rfl | rfl
   ·simp only [VR] at hv ⊢
    exact .inl ⟨trivial,trivial,trivial,none,hv⟩
   ·simp only [VR] at hv ⊢
    obtain⟨a,cap,rfl,h1,h2,hs,hc⟩:=hv
    have:=h2 trivial
    subst this
    exact .inl ⟨trivial,trivial,trivial,a,rfl⟩
  unfold iL at h
  simp only at h
  split at h
  ·simp only [Uc,Ui] at h
   exact key (.inl rfl) h.1.symm h.2.symm
  ·simp only [Uc,Ui] at h
   exact key (.inr rfl) h.1.symm h.2.symm
  ·simp only [Uc,Ui] at h
   obtain⟨rfl,rfl⟩:=h
   exact⟨by simp,by simp,c,rfl,Ext.refl _ _,f,fun v hv=>hv⟩
  ·cases h
end
end Go.R
namespace Go.R
open Go
def CallOK (P:Program)(cf:CallF):Prop:=
 ∀f args h r h',cf f args h=some (r,h')→
  (∀(vs:Array Value) (w:World),(callFunc f vs).run P w = .ok (.enter f vs) w)∧
  ∀(L0:Nat→Prop) (c:Cx) (vs:List Value),c.h=h→c.base≤c.w.heap.size→HRel c L0→VRs c L0 args vs→
   Calls P f vs.toArray c.w fun e w'=>∃c' v,e = .returned v∧c'.w=w'∧c'.h=h'∧VR c' L0 r v∧HRel c' L0∧Ext c none0 c' none0
section
variable {P:Program}{L0:Nat→Prop}{c0:Cx}{n:Nat}{ds:List Nat}{o:Oper}{s:RS}
theorem Fr.call {c c':Cx}{Lo:Nat→Prop}{lam:Nat→Nat}{a:Act}(f:Fr L0 c Lo lam ds s a)(hr:HRel c' (un L0 Lo))(e:Ext c none0 c' none0) :
  Ext c Lo c' Lo∧Fr L0 c' Lo lam ds {s with h:=c'.h} a:=by
 have pJ:∀b,Lo b→b<c.w.heap.size:=fun b hb=>f.rel.bd b (.inr hb)
 have e':Ext c Lo c' Lo:=
  ⟨e.next,e.live,e.size,fun b h1 _ h3=>e.keep b h1 (fun h=>h.elim) h3,e.exact,e.base,e.Fl,fun _ h=>h,fun _ h=>.inl h,e.os,e.tape,e.output⟩
 refine⟨e',rfl,hr,fun t=>(f.slot t).ext e' (fun _ _ _=>⟨rfl,fun h=>h⟩),fun k cs hb=>?_,f.inj,f.tidy,f.defers,fun b hb=>by rw [e.base]; exact f.CD b hb⟩
 have ob:=f.box k cs hb
 exact ob.ext e' (e.keep _ ob.plain.lt (fun h=>h.elim) fun id hl he=>f.rel.out id hl (he ▸ .inr ob.own))
theorem FC {cf:CallF}(hcf:CallOK P cf)(hb0:c0.base≤c0.w.heap.size)(hd:fQ n ds o){fx:Operand}{args:Array Operand}{zw:Array TypeId}(ho:o.op = .call {callee:=.value fx,args:=args,argTypes:=zw}){yk:FuncId}{cap:List AV}
  (hf:bG s.ρ fx = .fn yk cap) (ha:(args.toList.map (bG s.ρ)).all AV.kh=true) {r:AV} {h':AHeap} (h:cf yk (args.toList.map (bG s.ρ)++cap) s.h=some (r,h')) {aE:List Nat} {y:AV} {h2:AHeap} (hy:uf aE o.dst (r,h')=some (y,h2)) :
  iM P L0 c0 n ds o s ({s with h:=h2}.set o.dst y):=by
 rintro a w K Q ⟨hn,c,Lo,lam,rfl,f,e0⟩ hK
 obtain⟨hin,hcall⟩:=hcf _ _ _ _ _ h
 have Mq:=bB f fx
 rw [hf] at Mq
 simp only [SR,VR] at Mq
 obtain⟨cv,Rn,JN⟩:=Mq
 have hargs:VRs c (un L0 Lo) (args.toList.map (bG s.ρ)) (args.toList.map a.eval):=by
  refine mG f _ fun x hx=>rB ?_
  rw [Uv] at ha
  exact ha _ (UO.2 ⟨x,hx,rfl⟩)
 have kx:=VRs.append hargs JN
 unfold Oper.wp
 have:(execOp a.eval o).run P c.w = .ok (.enter yk (args.map a.eval++cv)) c.w:=by
  simp [execOp,ho,resolve,Rn,Deferred.ofValue,invoke,hin]
 rw [this,Oper.upon_enter]
 have hc:=hcall (un L0 Lo) c _ f.h (iK e0 hb0) f.rel kx
 have he:(args.toList.map a.eval++cv.toList).toArray=args.map a.eval++cv:=by
  apply VJ; simp
 rw [he] at hc
 refine Calls.mono hc ?_
 rintro e w' ⟨c',v,rfl,rfl,hh,hv,hrel,HB⟩
 obtain⟨e',f'⟩:=f.call hrel HB
 rw [hh] at f'
 have fin:y=r→h2=h'→K (a.put o.dst v) c'.w:=by
  rintro rfl rfl
  exact hK _ _ ⟨(fP _ _ _).trans hn,c',Lo,lam,rfl,f'.set (SR.of hv) (fun t ht=>by rw [hn]; exact hd t ht),e0.trans e'⟩
 unfold uf at hy
 cases hm:JC aE o.dst with
 | false=>rw [hm,cond_false] at hy; cases hy; exact fin rfl rfl
 | true=>
  rw [hm,cond_true] at hy
  obtain⟨_,_,c2,hw,e2,f2,Hq⟩:=uz (s:={s with h:=h'}) f' hy
  have L2:=Hq v hv
  refine hK _ _ ⟨(fP _ _ _).trans hn,c2,Lo,lam,hw,f2.set (SR.of L2) (fun t ht=>by rw [hn]; exact hd t ht),(e0.trans e').trans e2⟩
theorem Option.map_some' {α β:Type}{x:Option α}{g:α→β}{y:β}(h:x.map g=some y):∃z,x=some z∧g z=y:=Ub.1 h
theorem tm {aE:List Nat}{cs:List AV}{s':RS}(h:gX s aE ds o cs=some s'):cs.all AV.bP=true:=by
 unfold gX at h
 split at h
 ·assumption
 ·cases h
theorem HC {cf:CallF}(hcf:CallOK P cf)(hb0:c0.base≤c0.w.heap.size)(hd:fQ n ds o){aE:List Nat}{s':RS}(h:ug P cf aE ds s o=some s'):iM P L0 c0 n ds o s s':=by
 have dJ:∀{x:Option AV},(x.map fun x=>s.set o.dst x)=some s'→(∀z,x=some z→iM P L0 c0 n ds o s (s.set o.dst z))→iM P L0 c0 n ds o s s':=by
  intro x hx hz
  obtain⟨z,rfl,rfl⟩:=Option.map_some' hx
  exact hz z rfl
 unfold ug xW at h
 dsimp only at h
 split at h
 ·rename_i x ho; cases h; exact zu hd (.inl ho)
 ·rename_i x ho; cases h; exact zu hd (.inr ho)
 ·rename_i k x y ho
  obtain⟨t,ht,rfl⟩:=Option.map_some' h
  exact FA hd ho ht
 ·
  rename_i t ho
  rw [T9] at h
  obtain⟨z,hz,h⟩:=h
  refine ti hb0 hd t h fun a c Lo lam f hn=>?_
  have nI:=tm h
  obtain⟨v,h1,h2,h3⟩:=Bm (P:=P) (c:=c) hz (Fu nI) (un L0 Lo)
  exact⟨v,by simp [execOp,ho,h1],zl h2,h3⟩
 ·
  rename_i t x ho
  refine ti hb0 hd t h fun a c Lo lam f hn=>?_
  have nI:(bG s.ρ x).cells.all AV.bP=true:=tm h
  obtain⟨h1,h2⟩:=ik nI ((bB f x).qN nI)
  exact⟨a.eval x,by simp [execOp,ho,Instr.box,newVar,newRow],h1,h2⟩
 ·rename_i t ps ho
  refine dJ h fun z hz=>fe hd fun a c Lo lam f hn=>?_
  obtain⟨z0,hz0,rfl⟩:=Ub.1 hz
  obtain⟨v,hr,hv⟩:=run_build (P:=P) (nS f ps.toList) hz0
  refine⟨v,?_,SR.of (Ft hv)⟩
  have he:ps.map (fun (i,x)=>(i,a.eval x))=(ps.toList.map fun (i,x)=>(i,a.eval x)).toArray:=by
   apply VJ; simp
  simp only [execOp,ho,Sem.run_bind]
  rw [he,hr]
  rfl
 ·rename_i t k ps ho
  rw [Ub] at h
  obtain⟨z,hz,rfl⟩:=h
  exact rv hb0 hd ho aE hz
 ·
  rename_i t x ho
  refine dJ h fun z hz=>fe hd fun a c Lo lam f hn=>?_
  obtain⟨r,hr,hv⟩:=rf (P:=P) f (t:=t) (bB f x) hz
  exact⟨r,by simp [execOp,ho,hr],SR.of hv⟩
 ·
  rename_i t x y ho
  split at h
  ·cases h
  rename_i qd
  exact CM hb0 hd ho (by simpa using qd) h
 ·rename_i ho; exact dJ h fun z hz=>vW hd ho hz
 ·rename_i ho; exact dJ h fun z hz=>CV hd ho hz
 ·rename_i ho; exact dJ h fun z hz=>Fz hd ho hz
 ·rename_i ho; exact dJ h fun z hz=>yi hb0 hd ho hz
 ·rename_i yk first cap ho
  split at h
  ·rename_i hh
   refine dJ h fun z hz=>?_
   cases hz
   exact vX hd ho hh.1 hh.2
  ·cases h
 ·rename_i ho; cases h; exact yf hb0 hd ho
 ·rename_i ho; exact uq hb0 hd ho h
 ·
  rename_i t x lo hi mx ho
  refine dJ h fun z hz=>fe hd fun a c Lo lam f hn=>?_
  have hs:∀(q:Option Operand) (y:AV),q.map (bG s.ρ)=some y→∃v,q.map a.eval=some v∧SR c L0 Lo lam s.bx y v:=by
   intro q y hq
   obtain⟨u,rfl,rfl⟩:=Option.map_some' hq
   exact⟨_,rfl,bB f u⟩
  have Jn:∀(q:Option Operand),q.map (bG s.ρ)=none→q.map a.eval=none:=by
   intro q hq
   simpa using hq
  obtain⟨r,hr,hv⟩:=yd (P:=P) (bB f x) (hs lo) (Jn lo) (hs hi) (Jn hi) (hs mx) (Jn mx) hz
  exact⟨r,by simp [execOp,ho,hr],SR.of hv⟩
 ·rename_i t x i ho
  refine dJ h fun z hz=>fe hd fun a c Lo lam f hn=>?_
  obtain⟨r,hr,hv⟩:=vL (P:=P) (bB f x) hz
  exact⟨r,by simp [execOp,ho,hr],hv⟩
 ·rename_i t x i ho
  refine dJ h fun z hz=>fe hd fun a c Lo lam f hn=>?_
  obtain⟨r,hr,hv⟩:=yb (P:=P) (bB f x) hz
  exact⟨r,by simp [execOp,ho,hr],SR.of hv⟩
 ·rename_i t x i ho
  refine dJ h fun z hz=>fe hd fun a c Lo lam f hn=>?_
  obtain⟨r,hr,hv⟩:=vK (P:=P) (bB f x) (bB f i) hz
  exact⟨r,by simp [execOp,ho,hr],hv⟩
 ·rename_i t x i ho
  refine dJ h fun z hz=>fe hd fun a c Lo lam f hn=>?_
  obtain⟨r,hr,hv⟩:=yc (P:=P) (bB f x) (bB f i) hz
  exact⟨r,by simp [execOp,ho,hr],SR.of hv⟩
 ·rename_i t m k ok ho
  refine dJ h fun z hz=>fe hd fun a c Lo lam f hn=>?_
  obtain⟨r,hr,hv⟩:=vQ (P:=P) f (bB f m) (bB f k) hz
  exact⟨r,by simp [execOp,ho,hr],SR.of hv⟩
 ·rename_i t m k x ho
  split at h
  ·cases h
  rename_i qd
  obtain⟨h',hh,rfl⟩:=Option.map_some' h
  exact nU hb0 (.inl ho) (by simpa using qd) hh
 ·rename_i t m k x ho
  split at h
  ·cases h
  rename_i qd
  obtain⟨h',hh,rfl⟩:=Option.map_some' h
  exact nU hb0 (.inr ho) (by simpa using qd) hh
 ·rename_i ho; exact dJ h fun z hz=>yl hd ho hz
 ·
  rename_i b args zw ho
  unfold fw at h
  split at h
  ·rename_i t x hts hargs
   have ym:zw = #[t]:=by apply VJ; simpa using hts
   obtain⟨q,hq,rfl⟩:∃q,args = #[q]∧bG s.ρ q=x:=by
    cases args with | mk l=>
    rcases l with _ | ⟨q,_ | ⟨q2,l⟩⟩<;>simp at hargs
    exact⟨q,rfl,hargs⟩
   subst ym hq
   refine dJ h fun z hz=>fe hd fun a c Lo lam f hn=>?_
   obtain⟨r,hr,hv⟩:=CJ (P:=P) f #[t] rfl (bB f q) hz o.type
   exact⟨r,by simp [execOp,ho,resolve,invoke,builtin,hr],SR.of hv⟩
  ·rename_i t t2 x y hts hargs
   have ym:zw = #[t,t2]:=by apply VJ; simpa using hts
   obtain⟨q,q2,hq,rfl,rfl⟩:∃q q2,args = #[q,q2]∧bG s.ρ q=x∧bG s.ρ q2=y:=by
    cases args with | mk l=>
    rcases l with _ | ⟨q,_ | ⟨q2,_ | ⟨q3,l⟩⟩⟩<;>simp at hargs
    exact⟨q,q2,rfl,hargs.1,hargs.2⟩
   subst ym hq
   exact Bn hb0 hd ho h
  ·rename_i t t2 x y hts hargs
   have ym:zw = #[t,t2]:=by apply VJ; simpa using hts
   obtain⟨q,q2,hq,rfl,rfl⟩:∃q q2,args = #[q,q2]∧bG s.ρ q=x∧bG s.ρ q2=y:=by
    cases args with | mk l=>
    rcases l with _ | ⟨q,_ | ⟨q2,_ | ⟨q3,l⟩⟩⟩<;>simp at hargs
    exact⟨q,q2,rfl,hargs.1,hargs.2⟩
   subst ym hq
   obtain⟨⟨z,h'⟩,hh,rfl⟩:=Option.map_some' h
   exact Fx hb0 hd ho hh
  ·rename_i t x hts hargs
   have ym:zw = #[t]:=by apply VJ; simpa using hts
   obtain⟨q,hq,rfl⟩:∃q,args = #[q]∧bG s.ρ q=x:=by
    cases args with | mk l=>
    rcases l with _ | ⟨q,_ | ⟨q2,l⟩⟩<;>simp at hargs
    exact⟨q,rfl,hargs⟩
   subst ym hq
   obtain⟨h',hh,rfl⟩:=Option.map_some' h
   exact CS hb0 hd ho hh
  ·rename_i x xs hargs
   rw [T9] at h
   obtain⟨v,hv,h⟩:=h
   rw [T9] at h
   obtain⟨vs,Cq,h⟩:=h
   rw [T9] at h
   obtain⟨u,hu,h⟩:=h
   exact dJ h fun z hz=>tl hd ho (.inl ⟨rfl,rfl⟩) hargs hv Cq hu hz
  ·rename_i x xs hargs
   rw [T9] at h
   obtain⟨v,hv,h⟩:=h
   rw [T9] at h
   obtain⟨vs,Cq,h⟩:=h
   rw [T9] at h
   obtain⟨u,hu,h⟩:=h
   exact dJ h fun z hz=>tl hd ho (.inr ⟨rfl,rfl⟩) hargs hv Cq hu hz
  ·cases h
 ·
  rename_i fx args zw ho
  split at h
  ·rename_i yk cap heq
   split at h
   ·rename_i ha
    obtain⟨⟨r,h'⟩,hh,rfl⟩:=Option.map_some' h
    rw [T9] at hh
    obtain⟨⟨r0,h0⟩,hh,hm⟩:=hh
    exact FC hcf hb0 hd ho heq ha hh hm
   ·cases h
  ·cases h
 ·cases h
end
end Go.R
namespace Go.R
open Go
section
variable {P:Program}{L0:Nat→Prop}{c0:Cx}{n:Nat}{ds:List Nat}{s:RS}
theorem pa {h:AHeap}:∀{cs:List AV},cw cs=true→ud h cs=some (cs,h)
 | [],_=>rfl
 | x::cs,hn=>by
  simp only [cw,Ud] at hn
  simp only [ud,Bf,hn.1,if_true,Ua,pa hn.2,Ug]
theorem vY {h h':AHeap}{x y:AV}(hz:Bf h x=some (y,h')):Steady h h':=by
 unfold Bf at hz
 split at hz
 ·cases hz; exact Steady.refl _
 split at hz
 ·split at hz
  ·split at hz
   ·cases hz; exact Steady.refl _
   ·cases hz
  rw [T9] at hz
  obtain⟨o,_,hz⟩:=hz
  split at hz
  ·split at hz
   ·cases hz; exact Steady.kill _ _
   ·cases hz
  ·cases hz
 ·cases hz
theorem pR:∀{cs ys:List AV} {h h':AHeap},ud h cs=some (ys,h')→Steady h h'
 | [],ys,h,h',hz=>by cases hz; exact Steady.refl _
 | x::cs,ys,h,h',hz=>by
  simp only [ud,T9,Ub] at hz
  obtain⟨⟨y,h1⟩,hx,⟨zs,h2⟩,hz,he⟩:=hz
  simp only [Ui] at he
  obtain⟨rfl,rfl⟩:=he
  exact (vY hx).trans (pR hz)
theorem Inv.uj {a:Act}{w:World}{p:Nat × Option Nat × Nat}{s':RS}(hi:Inv L0 c0 n ds s a w)(h:uj s p=some s'):Inv L0 c0 n ds s' a w:=by
 obtain⟨hn,c,Lo,lam,rfl,f,e⟩:=hi
 unfold Go.R.uj at h
 split at h
 ·rw [Ub] at h
  obtain⟨⟨y,h'⟩,hz,rfl⟩:=h
  obtain⟨hx,hy,c',hw,e',f',hv⟩:=uz f hz
  refine⟨hn,c',Lo,lam,hw,⟨f'.h,f'.rel,fun t=>?_,f'.box,f'.inj,fun t k off ht he=>?_,f'.defers,f'.CD⟩,e.trans e'⟩
  ·simp only [beq_nat]
   by_cases ht:t=p.1
   ·subst ht
    simp only [decide_true,cond_true]
    exact SR.of (hv _ ((f.slot _).vr hx))
   ·simp only [ht,decide_false,cond_false]
    exact f'.slot t
  ·simp only [beq_nat] at he
   by_cases Pn:t=p.1
   ·simp only [Pn,decide_true,cond_true] at he
    exact absurd he (hy _ _)
   ·simp only [Pn,decide_false,cond_false] at he
    exact f'.tidy t k off ht he
 ·rename_i i hp
  split at h
  rotate_left
  ·cases h
  rename_i cs hcs
  simp only [T9,Ub] at h
  obtain⟨x,hx,⟨y,h'⟩,hz,rfl⟩:=h
  obtain⟨hx1,hy,c',hw,e',f',hv⟩:=uz f hz
  have qf:∀k,(bif UL k p.1 then some (cs.set i y) else s.bx k).isSome=(s.bx k).isSome:=fun k=>by
   simp only [beq_nat]
   by_cases hk:k=p.1
   ·subst hk; simp [hcs]
   ·simp [hk]
  refine⟨hn,c',Lo,lam,hw,⟨f'.h,f'.rel,fun t=>?_,fun k eO hb=>?_,fun k k' h1 h2=>f'.inj k k' (by rw [←qf]; exact h1) (by rw [←qf]; exact h2),f'.tidy,f'.defers,f'.CD⟩,e.trans e'⟩
  ·have:=f'.slot t
   unfold SR at this ⊢
   split
   ·rename_i k off he
    rw [he] at this
    simp only at this
    exact⟨this.1,by rw [qf]; exact this.2⟩
   ·rename_i x' Fy
    split at this
    ·rename_i he; exact absurd he (Fy _ _)
    ·exact this
  ·simp only [beq_nat] at hb
   by_cases hk:k=p.1
   ·subst hk
    simp only [decide_true,cond_true,Uc] at hb
    subst hb
    have ob:=f.box _ cs hcs
    have Mr:=f'.box _ cs hcs
    refine⟨Mr.own,by rw [Ul]; exact Mr.plain,?_⟩
    obtain⟨vs,q1,q2,q3⟩:=ob.cells.vals
    obtain⟨Ro,r1,r2,r3⟩:=Mr.cells.vals
    have hlen:vs=Ro:=by
     apply VC
     intro j
     by_cases hj:j<cs.length
     ·rw [←q2 j hj,←r2 j hj,hw]
     ·rw [UJ (by rw [←q1.length]; omega),UJ (by rw [←r1.length]; omega)]
    subst hlen
    obtain⟨u,hu,hr⟩:=VRs.get q1 i x hx
    have CU:VRs c' (un L0 Lo) (cs.set i y) vs:=by
     have:=VRs.set (hv u hr) i r1
     have Jj:vs.set i u=vs:=by
      apply VC
      intro j
      rw [VD]
      by_cases hji:i=j
      ·subst hji
       rw [if_pos rfl,hu]
       have:=(Uh.1 hu).1
       simp [this]
      ·rw [if_neg hji]
     rwa [Jj] at this
    exact Cells.of_vals CU (fun j hj=>by rw [r2 j (by rw [r1.length]; exact hj)]) r3
   ·simp only [hk,decide_false,cond_false] at hb
    exact f'.box k eO hb
theorem Inv.kj {a:Act}{w:World}:∀{l:List (Nat × Option Nat × Nat)} {s s':RS},Inv L0 c0 n ds s a w→kj s l=some s'→Inv L0 c0 n ds s' a w
 | [],s,s',hi,h=>by cases h; exact hi
 | p::ps,s,s',hi,h=>by
  simp only [Go.R.kj,T9] at h
  obtain⟨s1,h1,h2⟩:=h
  exact Inv.kj (hi.uj h1) h2
theorem FD {A:b4}{r:Nat}{s:RS}:(s.lP A r).h=s.h:=by
 unfold RS.lP
 split<;>rfl
theorem lU {k:Nat}{h h':AHeap}{x y:AV}(hz:iL k h x=some (y,h')):Steady h h':=by
 unfold iL at hz
 split at hz
 ·split at hz
  ·cases hz; exact Steady.refl _
  ·split at hz
   ·split at hz
    ·cases hz; exact Steady.refl _
    ·cases hz
   rw [T9] at hz
   obtain⟨o,_,hz⟩:=hz
   split at hz
   ·split at hz
    ·rw [Ub] at hz
     obtain⟨⟨eO,h2⟩,hz,he⟩:=hz
     simp only [Ui] at he
     obtain⟨rfl,rfl⟩:=he
     exact (Steady.kill _ _).trans (pR hz)
    ·cases hz
   ·cases hz
  ·cases hz; exact Steady.refl _
  ·cases hz
 ·split at hz<;>cases hz<;>exact Steady.refl _
theorem vZ {s s':RS}{p:Nat × Option Nat × Nat}(hz:uj s p=some s'):Steady s.h s'.h:=by
 unfold uj at hz
 split at hz
 ·rw [Ub] at hz
  obtain⟨⟨y,h'⟩,hz,rfl⟩:=hz
  exact lU hz
 ·split at hz
  ·simp only [T9,Ub] at hz
   obtain⟨x,hx,⟨y,h'⟩,hz,rfl⟩:=hz
   exact lU hz
  ·cases hz
theorem lV:∀{l:List (Nat × Option Nat × Nat)} {s s':RS},kj s l=some s'→Steady s.h s'.h
 | [],s,s',h=>by cases h; exact Steady.refl _
 | p::ps,s,s',h=>by
  simp only [kj,T9] at h
  obtain⟨s1,h1,h2⟩:=h
  exact (vZ h1).trans (lV h2)
end
end Go.R
namespace Go.R
open Go
section
variable {P:Program}{L0:Nat→Prop}{c0:Cx}{n:Nat}{ds:List Nat}{o:Oper}{s:RS}
theorem Bq {ops:Array Oper}{c:Cx}{Lo:Nat→Prop}{lam:Nat→Nat}{a:Act}(f:Fr L0 c Lo lam ds s a){b:Bool}(h:gE ops.toList s.ρ o=some b):Region.wanted o (yielded ops a.tmps)=b:=by
 unfold gE at h
 unfold Region.wanted
 split at h
 ·rename_i hg; rw [hg]; cases h; rfl
 ·rename_i j want hg
  rw [hg]
  rw [T9] at h
  obtain⟨d,hd,h⟩:=h
  have Fc:(ops[j]?).bind (·.dst)=some d:=by simpa using hd
  have hs:=f.slot d
  simp only [yielded,Fc,Ua]
  rw [Array.getD_eq_getD_getElem?] at hs
  split at h
  ·rename_i b' hb
   cases h
   rw [hb] at hs
   simp only [SR,VR] at hs
   cases hq:a.tmps[d]? with
   | none=>rw [hq] at hs; simp [undef] at hs
   | some v=>
    rw [hq] at hs
    simp only [U4] at hs
    subst hs
    cases b'<;>cases want<;>rfl
  ·rename_i hb
   cases h
   rw [hb] at hs
   simp only [SR,VR] at hs
   obtain⟨vs,hv,_⟩:=hs
   cases hq:a.tmps[d]? with
   | none=>rfl
   | some v=>
    rw [hq] at hv
    simp only [U4] at hv
    subst hv
    rfl
  ·cases h
theorem wa {cf:CallF}(hcf:CallOK P cf)(hb0:c0.base≤c0.w.heap.size){ops:Array Oper}(HD:ds=ops.toList.filterMap (·.dst))(hd:fQ n ds o){aE:List Nat}{s':RS}(h:lO P cf aE ops.toList s o=some s')
  {a:Act} {w:World} {K:Act→World→Prop} {Q:Exit→Act→World→Prop} (hi:Inv L0 c0 n ds s a w) (hK:∀a' w',Inv L0 c0 n ds s' a' w'→K a' w') :
  if Region.wanted o (yielded ops a.tmps) then o.wp P a w K Q else K (a.put o.dst undef) w:=by
 unfold lO at h
 rw [T9] at h
 obtain⟨b,hb,h⟩:=h
 have Rp:=hi
 obtain⟨hn,c,Lo,lam,rfl,f,e⟩:=hi
 rw [Bq f hb]
 cases b with
 | true=>
  simp only [if_true] at h ⊢
  rw [←HD] at h
  exact HC hcf hb0 hd h a c.w K Q Rp hK
 | false=>
  simp only [Um,if_false,Uc] at h ⊢
  subst h
  exact hK _ _ ⟨(fP _ _ _).trans hn,c,Lo,lam,rfl,f.set (SR.of (by simp [VR,undef,VRs])) (fun t ht=>by rw [hn]; exact hd t ht),e⟩
def tq (n:Nat)(ops:List Oper):Bool:=ops.all fun o=>match o.dst with | some t=>Nat.blt t n | none=>true
theorem wc {ops:List Oper}(h:tq n ops=true){o:Oper}(ho:o∈ops):fQ n (ops.filterMap (·.dst)) o:=by
 intro t ht
 unfold tq at h
 rw [Uv] at h
 have:=h o ho
 rw [ht] at this
 exact⟨Nat.blt_eq.mp this,List.mem_filterMap.2 ⟨o,ho,ht⟩⟩
theorem zy {cf:CallF}(hcf:CallOK P cf)(hb0:c0.base≤c0.w.heap.size){ops:Array Oper}(HD:ds=ops.toList.filterMap (·.dst))(E9:tq n ops.toList=true){aE:List Nat}{Q:Exit→Act→World→Prop}{s':RS}(hQ:∀a' w',Inv L0 c0 n ds s' a' w'→Q .normal a' w') :
  ∀(l:List Oper) (s:RS),(∀o∈l,o∈ops.toList)→p8 P cf aE ops.toList s l=some s'→∀a w,Inv L0 c0 n ds s a w→wpList P ops Q l a w
 | [],s,_,h,a,w,hi=>by
  simp only [p8,Uc] at h
  subst h
  exact wpList_nil (hQ a w hi)
 | o::l,s,hl,h,a,w,hi=>by
  simp only [p8,T9] at h
  obtain⟨s1,h1,h2⟩:=h
  refine wpList_step fun K hK=>?_
  exact wa hcf hb0 HD (by rw [HD]; exact wc E9 (hl o (by simp))) h1 hi fun a' w' jl=>hK a' w' (zy hcf hb0 HD E9 hQ l s1 (fun o ho=>hl o (by simp [ho])) h2 a' w' jl)
theorem ir {α:Type}(d:α):∀(ks:List Nat) (g:Nat→α) (t:Nat),look d ks (ks.map g) t=if t∈ks then g t else d
 | [],g,t=>rfl
 | k::ks,g,t=>by
  simp only [UC,look,beq_nat,ir d ks g t,UA]
  by_cases h:t=k
  ·subst h; simp
  ·simp [h]
theorem Fr.forget {c:Cx}{Lo:Nat→Prop}{lam:Nat→Nat}{a:Act}(f:Fr L0 c Lo lam ds s a){s2:RS}(hh:s2.h=s.h)(hb:∀k cs,s2.bx k=some cs→s.bx k=some cs)
  (hr:∀t,s2.ρ t = .any∨s2.ρ t=s.ρ t∧∀k off,s.ρ t = .lp k off→k=t∧((s.bx k).isSome=true→(s2.bx k).isSome=true)):Fr L0 c Lo lam [] s2 a:=by
 refine⟨f.h.trans hh.symm,f.rel,fun t=>?_,fun k cs h=>f.box k cs (hb k cs h),fun k k' h h'=>f.inj k k' ?_ ?_,fun t k off _ he=>?_,f.defers,f.CD⟩
 ·rcases hr t with h | ⟨h,h2⟩
  ·rw [h]; exact SR.of (by simp [VR])
  ·rw [h]
   have hs:=f.slot t
   cases hx:s.ρ t<;>rw [hx] at hs<;>try exact hs
   rename_i k off
   simp only [SR] at hs ⊢
   exact⟨hs.1,(h2 k off hx).2 hs.2⟩
 ·obtain⟨cs,hcs⟩:=UI.1 h; rw [hb k cs hcs]; rfl
 ·obtain⟨cs,hcs⟩:=UI.1 h'; rw [hb k' cs hcs]; rfl
 ·rcases hr t with h | ⟨h,h2⟩
  ·rw [h] at he; cases he
  ·exact (h2 k off (h ▸ he)).1
theorem Inv.shut {a:Act}{w:World}(A:b4)(h:Inv L0 c0 n ds s a w):Inv L0 c0 n [] ((s.shut A).open A) a w:=by
 obtain⟨hn,c,Lo,lam,rfl,f,e⟩:=h
 refine⟨hn,c,Lo,lam,rfl,f.forget rfl (fun k cs hk=>?_) (fun t=>?_),e⟩
 ·simp only [RS.shut,St.open,ir] at hk
  split at hk
  ·exact hk
  ·cases hk
 ·simp only [RS.shut,St.open,ir]
  split
  ·unfold vH
   cases hx:s.ρ t<;>simp only<;>try (right; exact⟨trivial,fun k off he=>by cases he⟩)
   rename_i k off
   cases hc:(UL k t&&UL off 0&&A.aE.contains k) with
   | false=>left; rfl
   | true=>
    right
    simp only [Ud,beq_nat,decide_eq_true_eq,List.contains_iff_mem] at hc
    refine⟨rfl,fun k' Rq he=>?_⟩
    cases he
    refine⟨hc.1.1,fun hs=>?_⟩
    rw [if_pos hc.2]
    exact hs
  ·left; rfl
theorem Inv.lP {a:Act}{w:World}(A:b4)(r:Nat)(h:Inv L0 c0 n ds s a w):Inv L0 c0 n [] ((s.lP A r).open A) a w:=by
 unfold RS.lP
 split
 ·exact h.shut A
 rename_i dl _
 have h2:=h.shut A
 obtain⟨hn,c,Lo,lam,hw,f,e⟩:=h2
 have JM:∀k,(St.open A {vars:=A.keep.map (fun t=>bif (fE r A.dead).contains t then .any else vH A.aE s.ρ t),Jh:=A.aE.map (fun k=>bif (fE r A.dead).contains k then none else s.bx k),h:=s.h}).bx k=bif (fE r A.dead).contains k then none else (St.open A (s.shut A)).bx k:=by
  intro k
  simp only [RS.shut,St.open,ir]
  cases (fE r A.dead).contains k<;>simp
 refine⟨hn,c,Lo,lam,hw,f.forget rfl (fun k cs hk=>?_) (fun t=>?_),e⟩
 ·rw [JM] at hk
  cases hc:(fE r A.dead).contains k with
  | true=>rw [hc] at hk; cases hk
  | false=>rw [hc] at hk; exact hk
 ·have hv:(St.open A {vars:=A.keep.map (fun t=>bif (fE r A.dead).contains t then .any else vH A.aE s.ρ t),Jh:=A.aE.map (fun k=>bif (fE r A.dead).contains k then none else s.bx k),h:=s.h}).ρ t=bif (fE r A.dead).contains t then .any else (St.open A (s.shut A)).ρ t:=by
   simp only [RS.shut,St.open,ir]
   cases (fE r A.dead).contains t<;>simp
  rw [hv]
  cases hc:(fE r A.dead).contains t with
  | true=>left; rfl
  | false=>
   right
   refine⟨rfl,fun k off he=>?_⟩
   have Fw:k=t:=f.tidy t k off (by simp) he
   refine⟨Fw,fun hs=>?_⟩
   rw [JM,Fw,hc]
   rw [Fw] at hs
   exact hs
theorem Inv.wide {a:Act}{w:World}(h:Inv L0 c0 n [] s a w)(ds:List Nat):Inv L0 c0 n ds s a w:=by
 obtain⟨hn,c,Lo,lam,rfl,f,e⟩:=h
 exact⟨hn,c,Lo,lam,rfl,⟨f.h,f.rel,f.slot,f.box,f.inj,fun t k off _ he=>f.tidy t k off (by simp) he,f.defers,f.CD⟩,e⟩
theorem Inv.drew {a:Act}{w:World}(h:Inv L0 c0 n ds s a w):Inv L0 c0 n ds s a {w with drawn:=w.drawn+1}:=by
 obtain⟨hn,c,Lo,lam,rfl,f,e⟩:=h
 obtain⟨e',f'⟩:=f.world (w':={c.w with drawn:=c.w.drawn+1}) (fun b _=>.inl rfl) (fun _ _=>rfl) (fun b _=>rfl) (Ue _) rfl rfl rfl
 exact⟨hn,_,Lo,lam,rfl,f',e.trans e'⟩
def lW (P:Program)(c:Code)(Q:Exit→Act→World→Prop)(a:Act)(w:World):Prop:=
 ∀(b:Frame) (k:List Item) (cs:List Frame),∃e a' w',Q e a' w'∧Arrives P (lone (b.at a (.code c :: .inLoop c::k)) cs w) b k cs e a' w'
theorem lW.step {c:Code}{Q:Exit→Act→World→Prop}{a:Act}{w:World}(h:c.wp P (Exit.then (lW P c Q) Q) a w):lW P c Q a w:=by
 intro b k cs
 obtain⟨e,a₁,w₁,hq,we⟩:=h b (.inLoop c::k) cs
 cases e with
 | normal=>
  obtain⟨e₂,a₂,w₂,Rr,JZ⟩:=hq b k cs
  exact⟨e₂,a₂,w₂,Rr,.of_steps (Steps.trans we (.one step_inLoop)) JZ⟩
 | exit id=>exact⟨_,a₁,w₁,hq,.pass (x:=.inLoop c) rfl (fun _ _=>.inl (by simp)) we⟩
 | goto l=>exact⟨_,a₁,w₁,hq,.pass (x:=.inLoop c) rfl (fun _ _=>.inl (by simp)) we⟩
 | ret=>exact⟨_,a₁,w₁,hq,.pass (x:=.inLoop c) rfl (fun _ _=>.inl (by simp)) we⟩
 | panic ch=>exact⟨_,a₁,w₁,hq,.pass (x:=.inLoop c) rfl (fun _ _=>.inl (by simp)) we⟩
 | outgrown=>exact⟨_,a₁,w₁,hq,.pass (x:=.inLoop c) rfl (fun _ _=>.inl (by simp)) we⟩
theorem lW.loop {c:Code}{Q:Exit→Act→World→Prop}{a:Act}{w:World}(h:lW P c Q a w):(Code.loop c).wp P Q a w:=by
 intro b k cs
 obtain⟨e,a',w',hq,we⟩:=h b k cs
 exact⟨e,a',w',hq,.of_steps (.one step_loop) we⟩
def Ex.GR:Ex→Exit
 | .norm=>.normal
 | .exit id=>.exit id
 | .ret=>.ret
def jQ (n:Nat):Code→Bool
 | .region _ ops _=>tq n ops.toList
 | .seq a b=>jQ n a&&jQ n b
 | .cond _ x y=>jQ n x&&jQ n y
 | .block _ c=>jQ n c
 | .loop c=>jQ n c
 | _=>true
def yn (P:Program)(cf:CallF):Prop:=
 ∀(L0:Nat→Prop) (c0:Cx) (n:Nat) (aE:List Nat) (id:Nat) (ops:Array Oper) (s s':RS),jk P cf aE ops s=some s'→c0.base≤c0.w.heap.size→tq n ops.toList=true→
  ∀a w Q,Inv L0 c0 n (ops.toList.filterMap (·.dst)) s a w→(∀a' w',Inv L0 c0 n (ops.toList.filterMap (·.dst)) s' a' w'→Q .normal a' w')→(Code.region id ops true).wp P Q a w
theorem ju {cf:CallF}(hcf:CallOK P cf)(Br:yn P cf)(hb0:c0.base≤c0.w.heap.size){A:b4}{m:Nat}:∀(c:Code),jQ n c=true→∀(st iX:St) (ex:Ex),bF P cf A m c st=some (ex,iX)→
  ∀a w Q,Inv L0 c0 n [] (st.open A) a w→(∀a' w',Inv L0 c0 n [] (iX.open A) a' w'→Q ex.GR a' w')→c.wp P Q a w
 | .skip,_,st,iX,ex,h,a,w,Q,hi,hQ=>by
  simp only [bF,Uc,Ui] at h
  obtain⟨rfl,rfl⟩:=h
  exact wp_skip (hQ a w hi)
 | .label _,_,st,iX,ex,h,a,w,Q,hi,hQ=>by
  simp only [bF,Uc,Ui] at h
  obtain⟨rfl,rfl⟩:=h
  exact wp_label (hQ a w hi)
 | .ret,_,st,iX,ex,h,a,w,Q,hi,hQ=>by
  simp only [bF,Uc,Ui] at h
  obtain⟨rfl,rfl⟩:=h
  exact wp_ret (hQ a w hi)
 | .exit id,_,st,iX,ex,h,a,w,Q,hi,hQ=>by
  simp only [bF,Uc,Ui] at h
  obtain⟨rfl,rfl⟩:=h
  exact wp_exit (hQ a w hi)
 | .seq x y,hB,st,iX,ex,h,a,w,Q,hi,hQ=>by
  simp only [jQ,Ud] at hB
  simp only [bF,T9] at h
  obtain⟨⟨GS,pb⟩,h1,h2⟩:=h
  refine wp_seq (ju hcf Br hb0 x hB.1 st pb GS h1 a w _ hi fun a' w' jl=>?_)
  cases GS with
  | norm=>exact ju hcf Br hb0 y hB.2 pb iX ex h2 a' w' Q jl hQ
  | exit id=>
   simp only [Uc,Ui] at h2
   obtain⟨rfl,rfl⟩:=h2
   exact hQ a' w' jl
  | ret=>
   simp only [Uc,Ui] at h2
   obtain⟨rfl,rfl⟩:=h2
   exact hQ a' w' jl
 | .cond k x y,hB,st,iX,ex,h,a,w,Q,hi,hQ=>by
  simp only [jQ,Ud] at hB
  simp only [bF,T9] at h
  obtain⟨t,ht,h⟩:=h
  have hk:a.eval k = .bool t:=by
   obtain⟨hn,c,Lo,lam,rfl,f,e⟩:=hi
   have hk:=bB f k
   unfold q6 at ht
   split at ht
   ·rename_i b hb
    cases ht
    rw [hb] at hk
    simpa [SR,VR] using hk
   ·cases ht
  refine wp_cond hk ?_
  cases t with
  | true=>exact ju hcf Br hb0 x hB.1 st iX ex (by simpa using h) a w Q hi hQ
  | false=>exact ju hcf Br hb0 y hB.2 st iX ex (by simpa using h) a w Q hi hQ
 | .block id x,hB,st,iX,ex,h,a,w,Q,hi,hQ=>by
  simp only [jQ] at hB
  simp only [bF,Ub] at h
  obtain⟨⟨GS,pb⟩,h1,h2⟩:=h
  refine wp_block (ju hcf Br hb0 x hB st pb GS h1 a w _ hi fun a' w' jl=>?_)
  cases GS with
  | norm=>
   simp only [Ui] at h2
   obtain⟨rfl,rfl⟩:=h2
   exact hQ a' w' jl
  | exit jV=>
   simp only [Ui] at h2
   obtain⟨rfl,rfl⟩:=h2
   have:=hQ a' w' jl
   simp only [Ex.GR,Exit.inBlock]
   split
   ·rename_i he; rw [if_pos he] at this; exact this
   ·rename_i he; rw [if_neg he] at this; exact this
  | ret=>
   simp only [Ui] at h2
   obtain⟨rfl,rfl⟩:=h2
   exact hQ a' w' jl
 | .loop x,hB,st,iX,ex,h,a,w,Q,hi,hQ=>by
  simp only [jQ] at hB
  simp only [bF] at h
  have key:∀(j:Nat) (st:St),kl (bF P cf A m x) j st=some (ex,iX)→∀a w,Inv L0 c0 n [] (st.open A) a w→lW P x Q a w:=by
   intro j
   induction j with
   | zero=>intro st h; simp [kl] at h
   | succ j ih=>
    intro st h a w hi
    simp only [kl,T9] at h
    obtain⟨⟨GS,pb⟩,h1,h2⟩:=h
    refine lW.step (ju hcf Br hb0 x hB st pb GS h1 a w _ hi fun a' w' jl=>?_)
    cases GS with
    | norm=>exact ih pb h2 a' w' jl
    | exit id=>
     simp only [Uc,Ui] at h2
     obtain⟨rfl,rfl⟩:=h2
     exact hQ a' w' jl
    | ret=>
     simp only [Uc,Ui] at h2
     obtain⟨rfl,rfl⟩:=h2
     exact hQ a' w' jl
  exact lW.loop (key m st h a w hi)
 | .region id ops draw,hB,st,iX,ex,h,a,w,Q,hi,hQ=>by
  simp only [jQ] at hB
  simp only [bF,T9,Ub,Ui] at h
  obtain⟨s0,h0,s',h1,s2,h2,rfl,rfl⟩:=h
  replace hi:=hi.kj h0
  cases draw with
  | true=>
   simp only [if_true] at h1
   exact Br L0 c0 n A.aE id ops _ s' h1 hb0 hB a w Q (hi.wide _) fun a' w' jl=>hQ a' w' ((jl.kj h2).lP A id)
  | false=>
   simp only [Um,if_false] at h1
   exact wp_region_list (zy hcf hb0 rfl hB (fun a' w' jl=>hQ a' w' ((jl.kj h2).lP A id)) ops.toList _ (fun _ h=>h) h1 a w (hi.wide _))
 | .rangeFunc ..,_,st,iX,ex,h,_,_,_,_,_=>by simp [bF] at h
 | .scope ..,_,st,iX,ex,h,_,_,_,_,_=>by simp [bF] at h
 | .goto ..,_,st,iX,ex,h,_,_,_,_,_=>by simp [bF] at h
 | .refuse ..,_,st,iX,ex,h,_,_,_,_,_=>by simp [bF] at h
theorem uA {c:Cx}{Lo:Nat→Prop}{lam:Nat→Nat}{a:Act}(f:Fr L0 c Lo lam ds s a):∀(rs:List ResultVar) (l:List AV),xY P s rs=some l→l.all AV.kh=true→
  ∃vs:List Value,(rs.mapM (m:=Sem) fun | .tmp t=>pure (a.tmps.getD t undef) | .cell x t=>do loadVar t (←asAddr (a.tmps.getD x undef))).run P c.w = .ok vs c.w∧VRs c (un L0 Lo) l vs
 | [],l,h,_=>by
  simp only [xY,Uc] at h
  subst h
  exact⟨[],rfl,trivial⟩
 | .tmp t::rs,l,h,hl=>by
  simp only [xY,Ub] at h
  obtain⟨l',h1,rfl⟩:=h
  simp only [UZ,Ud] at hl
  obtain⟨vs,h2,h3⟩:=uA f rs l' h1 hl.2
  refine⟨a.tmps.getD t undef::vs,?_,(f.slot t).vr (rB hl.1),h3⟩
  simp only [List.mapM_cons,Sem.run_bind,Sem.run_pure,Result.andThen_ok,h2]
 | .cell x t::rs,l,h,hl=>by
  simp only [xY,T9,Ub] at h
  obtain⟨y,hy,l',h1,rfl⟩:=h
  simp only [UZ,Ud] at hl
  obtain⟨vs,h2,h3⟩:=uA f rs l' h1 hl.2
  have hx:=f.slot x
  obtain⟨u,hr,hu⟩:=rf (P:=P) f (t:=t) hx hy
  have hp:∃ad,a.tmps.getD x undef = .pointer (some ad):=by
   unfold jj at hy
   cases hq:s.ρ x<;>rw [hq] at hy hx<;>simp only at hy<;>try (cases hy; done)
   ·simp only [SR,VR] at hx; obtain⟨_,ad,h,_⟩:=hx; exact⟨ad,h⟩
   ·simp only [SR] at hx; exact⟨_,hx.1⟩
   ·simp only [SR,VR] at hx; obtain⟨_,_,h,_⟩:=hx; exact⟨_,h⟩
  obtain⟨ad,hp⟩:=hp
  rw [hp] at hr
  have yo:(loadVar t ad).run P c.w = .ok u c.w:=by simpa [Instr.loadAt,Instr.sureAddr] using hr
  refine⟨u::vs,?_,hu,h3⟩
  have ha:(asAddr (a.tmps.getD x undef)).run P c.w = .ok ad c.w:=by rw [hp]; rfl
  simp only [List.mapM_cons,Sem.run_bind,Sem.run_pure,Result.andThen_ok,h2,ha,yo]
theorem gQ:un L0 none0=L0:=by funext b; simp [un,none0]
theorem Ext.close {c c':Cx}{iZ:Nat→Prop}(e:Ext c none0 c' iZ):Ext c none0 c' none0:=
 ⟨e.next,e.live,e.size,e.keep,e.exact,e.base,e.Fl,fun _ h=>h,fun _ h=>h.elim,e.os,e.tape,e.output⟩
theorem HRel.jU {c:Cx}{L L':Nat→Prop}(hL:∀b,L' b→L b)(h:HRel c L):HRel c L':=
 ⟨h.lt,fun id o ho=>by
  have:=h.obj id o ho
  cases o with
  | cells cs=>obtain⟨m,h1,h2,h3⟩:=this; exact⟨m,h1,h2,Cells.jU hL _ _ _ h3⟩
  | row t cs=>obtain⟨h0,C,h1,h2,h4,h3⟩:=this; exact⟨h0,C,h1,h2,h4,Cells.jU hL _ _ _ h3⟩
  | map es=>
   obtain⟨kn,clock,h1,h2⟩:=this
   refine⟨kn,clock,h1,?_⟩
   clear h1
   have:∀(es:List (AV × AV)) (ms:List MapEntry),km c L es ms→km c L' es ms:=by
    intro es
    induction es with
    | nil=>intro ms h; cases ms with | nil=>trivial | cons m ms=>exact h.elim
    | cons e es ih=>intro ms h; cases ms with
     | nil=>exact h.elim
     | cons m ms=>obtain⟨h1,h2,h3⟩:=h; exact⟨⟨VR.jU hL _ _ h1.1,h1.2⟩,VR.jU hL _ _ h2,ih _ h3⟩
   exact this _ _ h2,h.inj,fun id hl hb=>h.out id hl (hL _ hb),fun b hb=>h.bd b (hL b hb),h.low,h.ver⟩
structure Fit (P:Program):Prop where
 mixed:P.follows .mixedOrders=true
 J0 : ∀ (f : FuncId) fn c, P.funcs[f]? = some fn → fn.body = some c → jQ fn.ntmps c = true ∧ fn.name ≠ "runtime.NumGoroutine"
def IntrOK (P:Program)(intr:FuncId→Option (List AV→AHeap→Option (AV × AHeap))):Prop:=
 ∀f g,intr f=some g→(CallOK P fun f' args h=>if f'=f then g args h else none)∧∀args h r h',g args h=some (r,h')→Steady h h'
theorem lX {f : FuncId} {fn : Func} {c : Code} (hf : P.funcs[f]? = some fn) (hc : fn.body = some c) (hn : fn.name ≠ "runtime.NumGoroutine") (vs : Array Value) (w : World) : (callFunc f vs).run P w = .ok (.enter f vs) w := by
 have J1 : (fn.name == "runtime.NumGoroutine") = false := by simpa using hn
 simp [callFunc,program,Sem.run,hf,hn,hc]
theorem wg (hP:Fit P){aV:FuncId→b4}{cf:CallF}(ih:CallOK P cf)(Br:yn P cf)(m:Nat):CallOK P (ba P aV cf m):=by
 intro f args h r h' hc
 unfold ba at hc
 rw [T9] at hc
 obtain⟨fn,hf,hc⟩:=hc
 rw [T9] at hc
 obtain⟨c,hb,hc⟩:=hc
 obtain⟨hB,J2⟩:=hP.J0 f fn c hf hb
 refine⟨lX hf hb J2,fun L0 c0 vs hh hb0 hrel hargs=>?_⟩
 split at hc
 rotate_left
 ·cases hc
 rename_i hlen
 rw [T9] at hc
 obtain⟨⟨ex,st⟩,hex,hc⟩:=hc
 have hl:=hargs.length
 refine calls_of_wp hf hb ?_
 refine ju (L0:=L0) (c0:=c0) (n:=fn.ntmps) ih Br hb0 c hB _ _ _ hex _ _ _ ?_ ?_
 ·refine⟨by simp; omega,c0,none0,fun _=>0,rfl,⟨hh,by rw [gQ]; exact hrel,fun t=>?_,fun k cs hk=>?_,fun k k' hk=>?_,fun t k off _ he=>?_,rfl,fun b hb=>hb.elim⟩,Ext.refl _ _⟩
  ·simp only [St.open,lQ,ir]
   split
   ·by_cases ht:t<args.length
    ·obtain⟨v,hv,hr⟩:=hargs.get t args[t] (by simp [ht])
     have:args.getD t AV.any=args[t]:=by simp [ht]
     rw [this,Array.getD_eq_getD_getElem?,Array.getElem?_append_left (by simp; omega)]
     have Mp:vs.toArray[t]? = some v:=by simpa using hv
     rw [Mp]
     exact SR.of (by rw [gQ]; exact hr)
    ·have:args.getD t AV.any = .any:=by simp [UJ (Nat.not_lt.1 ht)]
     rw [this]
     exact SR.of (by simp [VR])
   ·exact SR.of (by simp [VR])
  ·simp only [St.open,ir] at hk
   split at hk<;>cases hk
  ·simp only [St.open,ir] at hk
   split at hk<;>cases hk
  ·simp only [St.open,lQ,ir] at he
   split at he
   ·by_cases ht:t<args.length
    ·obtain⟨v,hv,hr⟩:=hargs.get t args[t] (by simp [ht])
     have h1:args.getD t AV.any=args[t]:=by simp [ht]
     rw [h1] at he
     rw [he] at hr
     exact hr.elim
    ·have:args.getD t AV.any = .any:=by simp [UJ (Nat.not_lt.1 ht)]
     rw [this] at he
     cases he
   ·cases he
 ·intro a' w' jl
  have hfin:(aM P (st.open (aV f)) fn.results.toList).map (fun r=>(r,st.h))=some (r,h')→a'.defers=[]∧∃v,(results fn a'.tmps).run P w' = .ok v w'∧(∃c' v',Ending.returned v = .returned v'∧c'.w=w'∧c'.h=h'∧VR c' L0 r v'∧HRel c' L0∧Ext c0 none0 c' none0):=by
   intro hc
   rw [Ub] at hc
   obtain⟨r',yo,he⟩:=hc
   cases he
   obtain⟨hn,c',Lo,lam,rfl,f',e'⟩:=jl
   refine⟨f'.defers,?_⟩
   unfold aM at yo
   rw [T9] at yo
   obtain⟨l,hl,yo⟩:=yo
   split at yo
   rotate_left
   ·cases yo
   rename_i kx
   obtain⟨us,Rs,zf⟩:=uA f' _ _ hl kx
   have CX:VRs c' L0 l us:=VRs.jU (fun b hb=>.inl hb) _ _ zf
   have yg:(results fn a'.tmps).run P c'.w = .ok (if h:us.toArray.size=1 then us.toArray[0] else .tuple us.toArray) c'.w:=by
    unfold results
    rw [←Array.toArray_toList (xs:=fn.results)]
    rw [List.mapM_toArray]
    simp only [Sem.run_bind,Sem.run_map,Result.andThen_ok,Sem.run_pure]
    exact (congrArg (fun z=>(Result.andThen z (fun (a:List Value) w'=>Result.ok a.toArray w')).andThen (fun (a:Array Value) w'=>Result.ok (if h:a.size=1 then a[0] else Value.tuple a) w')) Rs).trans rfl
   refine⟨_,yg,c',_,rfl,rfl,f'.h,?_,HRel.jU (fun b hb=>.inl hb) f'.rel,e'.close⟩
   split at yo
   ·rename_i x
    cases yo
    cases us with
    | nil=>exact CX.elim
    | cons u us=>cases us with
     | nil=>exact CX.1
     | cons u2 us=>exact CX.2.elim
   ·rename_i hne
    cases yo
    have Ms:us.length≠1:=by
     intro h1
     rw [←CX.length] at h1
     cases l with
     | nil=>simp at h1
     | cons x l=>cases l with
      | nil=>exact hne x rfl
      | cons y l=>simp at h1
    have:¬us.toArray.size=1:=by simpa using Ms
    rw [dif_neg this]
    simp only [VR]
    exact⟨us.toArray,rfl,CX⟩
  cases ex with
  | norm=>exact hfin hc
  | ret=>exact hfin hc
  | exit id=>cases hc
end
end Go.R
