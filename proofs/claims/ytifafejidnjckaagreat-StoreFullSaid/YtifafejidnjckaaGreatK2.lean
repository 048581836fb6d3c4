/- Part of the proof: ROps5, ROps6, ROps7, RFrzV, ROpAll, RFrz, RCode. -/
import Derived.Test.YtifafejidnjckaaGreatK1
import Derived.MapKept
import Derived.Laws.CopyRow
import Derived.Laws.BytesArg
import Derived.Laws.IdiomStrings
import Derived.Tactics
set_option linter.unusedVariables false
set_option linter.unusedSimpArgs false
set_option maxRecDepth 100000
open Array renaming getElem?_eq_some_iff → afH, getElem?_setIfInBounds → af9, length_toList → agc, getElem?_modify → age, ext' → agH
open Bool renaming and_eq_true → ae3, false_eq_true → afa, true_and → afP, not_true → afT, not_eq_true' → agk
open List renaming getElem?_eq_some_iff → ae5, getElem?_eq_none → afp, mem_cons → afq, all_eq_true → afr, map_cons → afs, mem_map → afu, take_of_length_le → afA, eq_nil_of_length_eq_zero → afG, length_set → afJ, all_cons → afQ, ext_getElem? → af0, getElem?_set → agl
open Nat renaming le_refl → ae4, zero_add → aft, beq → afN, le_succ → agb, lt_succ_of_lt → agx, min_eq_left → agC
open Option renaming bind_some → aeZ, bind_eq_some_iff → ae0, map_eq_some_iff → ae1, map_some → ae6, isSome_iff_exists → afI, getD_some → af6
open Option.some renaming injEq → ae2
open Prod.mk renaming injEq → ae9
namespace Go.R
open Go
section
variable {P:Program}{L0:Nat→Prop}{c0:Cx}{n:Nat}{ds:List Nat}{o:Oper}{s:RS}
theorem Fr.Bg {c:Cx}{Lo:Nat→Prop}{lam:Nat→Nat}{a:Act}(f:Fr L0 c Lo lam ds s a)(hbs:c.base≤c.w.heap.size){id:Nat}{es vt:List (AV × AV)}(ho:c.h.get id=some (.map es)){nN vD:Array MapEntry}{clock sh:Nat}
  (hb:c.w.heap[(c.β id).1]? = some (.map nN clock)) (he:nM c (un L0 Lo) vt vD.toList) :
  Ext c Lo ⟨c.β,s.h.put id (.map vt),{c.w with heap:=c.w.heap.setIfInBounds (c.β id).1 (.map vD sh)},c.base⟩ Lo∧
   Fr L0 ⟨c.β,s.h.put id (.map vt),{c.w with heap:=c.w.heap.setIfInBounds (c.β id).1 (.map vD sh)},c.base⟩ Lo lam ds {s with h:=s.h.put id (.map vt)} a:=by
 have hl:Live c.h id:=⟨f.rel.lt _ _ ho,by simp [ho]⟩
 have hlt:(c.β id).1<c.w.heap.size:=(afH.1 hb).1
 have hne:∀b,b≠(c.β id).1→({c.w with heap:=c.w.heap.setIfInBounds (c.β id).1 (.map vD sh)}:World).heap[b]? = c.w.heap[b]?:=by
  intro b hb
  simp only [af9]
  rw [if_neg (Ne.symm hb)]
 rw [←f.h]
 refine f.upd (β':=c.β) (h':=c.h.put id (.map vt)) id (.map vt) (Steady.put _ _ _) (agx hl.1) (by simp [AHeap.put,beq_nat])
  (fun nu h1=>.inr ⟨by simp [AHeap.put,beq_nat,h1],rfl⟩) (fun _=>⟨hl,rfl⟩) (.inr ⟨id,hl,rfl,.inl rfl⟩) (fun _=>?_)
  (fun b _ h1=>hne b h1) (fun b _ h1=>hne b h1) (by simp) hbs rfl rfl rfl (fun e=>⟨vD,sh,by simp [hlt],he.ext e⟩)
 simp only [Cx.len,World.shape?,hb,af9,hlt,if_true]
theorem Bh {x y:AV}(hs:sameShape x y=true)(hq:iw x y=true):x=y:=by
 cases x<;>cases y<;>simp only [sameShape] at hs<;>try (cases hs; done)
 ·simp only [iw,lu,ae3,beq_iff_eq] at hq
  obtain⟨rfl,rfl⟩:=hq
  rfl
 ·rename_i a b
  simp only [iw,lu,beq_iff_eq] at hq
  congr 1
  cases a; cases b
  congr 1
  exact Array.toList_inj.1 hq
 ·rename_i xs ys
  simp only [ae3,beq_iff_eq] at hs
  obtain⟨⟨_,hx⟩,hy⟩:=hs
  obtain⟨ns,rfl⟩:=jZ hx
  obtain⟨ms,rfl⟩:=jZ hy
  simp only [iw,ng,decide_eq_true_eq] at hq
  rw [hq]
theorem rR:∀ns:List Int,lq (ns.map fun n=>AV.int .i64 n)=some (ns.map fun n=>Value.int .i64 n)
 | []=>rfl
 | n::ns=>by simp [lq,AV.jh,rR ns]
theorem Fl {t:TypeId}{k:AV}(h:ji P t k=true):∃u,k.E1=some u∧Instr.sameBits 10000 u u=true:=by
 unfold ji at h
 have TR:∀cs:List AV,cs.all mZ=true→∃u,(AV.agg cs).E1=some u∧Instr.sameBits 10000 u u=true:=by
  intro cs hcs
  obtain⟨ns,rfl⟩:=jZ hcs
  refine⟨.agg (ns.map fun n=>Value.int .i64 n).toArray,by simp [AV.E1,rR],?_⟩
  simp only [Instr.sameBits,beq_self_eq_true,afP,afr]
  intro p hp
  have:∀(l:List Value),(∀v∈l,∃m,v=Value.int .i64 m)→∀p∈l.zip l,Instr.sameBits 9999 p.1 p.2=true:=by
   clear hp p
   intro l hl p hp
   have h1:p.1=p.2∧p.1∈l:=by
    clear hl
    induction l with
    | nil=>cases hp
    | cons v l ih=>
     simp only [List.zip_cons_cons,afq] at hp
     rcases hp with rfl | hp
     ·exact⟨rfl,by simp⟩
     ·obtain⟨h1,h2⟩:=ih hp; exact⟨h1,by simp [h2]⟩
   obtain⟨h1,h2⟩:=h1
   obtain⟨m,hm⟩:=hl _ h2
   rw [←h1,hm]
   simp [Instr.sameBits]
  exact this (ns.map fun n=>Value.int .i64 n) (fun v hv=>by obtain⟨m,_,rfl⟩:=afu.1 hv; exact⟨m,rfl⟩) p (by simpa using hp)
 split at h
 ·exact⟨_,rfl,by simp [Instr.sameBits]⟩
 ·exact⟨_,rfl,by simp [Instr.sameBits,zW]⟩
 ·simp only [ae3] at h; exact TR _ h.1.1.2
 ·simp only [ae3] at h; exact TR _ h.1.1.2
 ·cases h
theorem xM {c:Cx}{L:Nat→Prop}{k v:AV}{kv vv:Value}(hc:k.E1.isSome=true)(hk:VR c L k kv)(hv:VR c L v vv) :
  ∀(es vt:List (AV × AV)) (ms:List MapEntry) (i:Nat),nM c L es ms→A0 k v es=some vt→
   kN k es≠none∧(place k es ms i=none∧(∀b,nM c L vt (ms++[{key:=kv,val:=vv,born:=b}]))∨
    ∃j u m,place k es ms i=some (i+j,u)∧ms[j]? = some m∧m.key=kv∧nM c L vt (ms.modify j fun e=>{e with key:=kv,val:=vv}))
 | [],vt,[],i,_,h=>by
  simp only [A0,ae2] at h
  subst h
  exact⟨by simp [kN],.inl ⟨rfl,fun b=>⟨⟨hk,hc⟩,hv,trivial⟩⟩⟩
 | (k',v')::es,vt,m::ms,i,he,h=>by
  obtain⟨⟨J9,hkc⟩,GB,zh⟩:=he
  simp only [A0] at h
  split at h
  rotate_left
  ·cases h
  rename_i hs
  split at h
  ·rename_i hq
   cases h
   have C1:k=k':=Bh hs hq
   obtain⟨u,hu⟩:=afI.1 hc
   refine⟨by simp [kN,hs,hq],.inr ⟨0,m.val,m,by simp [place,hq],rfl,?_,?_⟩⟩
   ·subst C1
    rw [Bb hu hk,Bb hu J9]
   ·exact⟨⟨hk,hc⟩,hv,zh⟩
  ·rename_i hq
   rw [ae1] at h
   obtain⟨es1,h1,rfl⟩:=h
   obtain⟨h2,h3⟩:=xM hc hk hv es es1 ms (i+1) zh h1
   refine⟨by simp [kN,hs,hq,h2],?_⟩
   have Bi:iw k k'=false:=by simpa using hq
   rcases h3 with⟨h3,h4⟩| ⟨j,u,m',h3,h4,h5,h6⟩
   ·exact .inl ⟨by simp [place,Bi,h3],fun b=>⟨⟨J9,hkc⟩,GB,h4 b⟩⟩
   ·exact .inr ⟨j+1,u,m',by simp [place,Bi,h3]; omega,by simpa using h4,h5,⟨⟨J9,hkc⟩,GB,h6⟩⟩
 | [],_,_::_,_,h,_=>h.elim
 | _::_,_,[],_,h,_=>h.elim
theorem xN {x:AV}(h:x.nI=true):∀k off,x≠.lp k off:=by rintro k off rfl; simp [AV.nI] at h
theorem zu {c:Cx}{Lo:Nat→Prop}{lam:Nat→Nat}{a:Act}(f:Fr L0 c Lo lam ds s a)(hbs:c.base≤c.w.heap.size){t:TypeId}{m k x:AV}{mv kv xv:Value}(hm:SR c L0 Lo lam s.bx m mv)(hk:SR c L0 Lo lam s.bx k kv)(hx:SR c L0 Lo lam s.bx x xv){h':AHeap}
  (h:kO P s.h t m k x=some h'):∃c',(Instr.mapUpdate t mv kv xv).run P c.w = .ok () c'.w∧Ext c Lo c' Lo∧Fr L0 c' Lo lam ds {s with h:=h'} a:=by
 unfold kO at h
 rw [ae0] at h
 obtain⟨d,hd,h⟩:=h
 cases d<;>simp only at h<;>try (cases h; done)
 rename_i kt et
 split at h
 ·cases h
 rename_i lJ
 obtain⟨zr,hargs⟩:ji P kt k=true∧x.nI=true:=by
  cases h1:ji P kt k<;>cases h2:x.nI<;>simp [h1,h2] at lJ ⊢
 have C2:VR c (un L0 Lo) k kv:=hk.vr (by rintro k0 off rfl; simp [ji] at zr)
 have hxv:=hx.vr (xN hargs)
 cases m<;>simp only at h<;>try (cases h; done)
 rename_i id
 rw [ae0] at h
 obtain⟨ob,ho,h⟩:=h
 cases ob with
 | cells cs=>cases h
 | row t cs=>cases h
 | map es=>
 rw [ae1] at h
 obtain⟨vt,hu,rfl⟩:=h
 simp only [SR,VR] at hm
 obtain⟨hi,r,rfl,hr⟩:=hm
 rw [←f.h] at ho
 have hl:Live c.h id:=⟨f.rel.lt _ _ ho,by simp [ho]⟩
 have WN:=hr hl
 subst WN
 obtain⟨nN,clock,h1,h2⟩:=f.rel.obj _ _ ho
 obtain⟨u0,PB,hsb⟩:=Fl zr
 obtain⟨hf,hp⟩:=xM (by simp [PB]) C2 hxv es vt nN.toList 0 h2 hu
 have Ka:=zX zr C2 c.w h2 hf
 have Qn:=rO (P:=P) false 9998 zr C2 c.w
 have hget:(getObj (c.β id).1).run P c.w = .ok (.map nN clock) c.w:=MapKept.run_getObj_map h1
 rcases hp with⟨hp,xD⟩| ⟨j,u,m,hp,hj,hmk,xD⟩
 ·obtain⟨e',f'⟩:=f.Bg hbs ho h1 (vD:=nN.push {key:=kv,val:=xv,born:=clock}) (sh:=clock+1) (vt:=vt) (by simpa using xD clock)
  refine⟨_,?_,e',f'⟩
  unfold Instr.mapUpdate
  rw [hp] at Ka
  simp only [Sem.run_bind,bS hd,Result.andThen_ok,hget,Qn,Ka]
  exact MapKept.run_setObj_map _ h1
 ·obtain⟨e',f'⟩:=f.Bg hbs ho h1 (vD:=nN.modify j fun e=>{e with key:=kv,val:=xv}) (sh:=clock) (vt:=vt) (by simpa using xD)
  refine⟨_,?_,e',f'⟩
  unfold Instr.mapUpdate
  rw [hp,aft] at Ka
  have EX:nN[j]? = some m:=by simpa using hj
  have NZ:(Instr.keyThatStays m.key kv).run P c.w = .ok kv c.w:=by
   rw [hmk]
   unfold Instr.keyThatStays
   rw [Bb PB C2,hsb]
   rfl
  simp only [Sem.run_bind,bS hd,Result.andThen_ok,hget,Qn,Ka,EX,ae6,af6,NZ]
  exact MapKept.run_setObj_map _ h1
theorem sZ (hb0:c0.base≤c0.w.heap.size){t:TypeId}{m k x:Operand}(ho:o.op = .mapUpdate t m k x∨o.op = .insert t m k x)(wk:o.dst=none){h':AHeap}
  (h:kO P s.h t (ck s.ρ m) (ck s.ρ k) (ck s.ρ x)=some h'):lI P L0 c0 n ds o s {s with h:=h'}:=by
 rintro a w K Q ⟨hn,c,Lo,lam,rfl,f,e⟩ hK
 obtain⟨c',hr,e',f'⟩:=zu f (lE e hb0) (b6 f m) (b6 f k) (b6 f x) h
 unfold Oper.wp
 have:(execOp a.eval o).run P c.w = .ok .skip c'.w:=by rcases ho with ho | ho<;>simp [execOp,ho,hr]
 rw [this,Oper.upon_skip]
 have Qs:a.put o.dst undef=a:=by rw [wk]; rfl
 rw [Qs]
 exact hK _ _ ⟨hn,c',Lo,lam,rfl,f',e.trans e'⟩
theorem Km (hb0:c0.base≤c0.w.heap.size)(hd:jk n ds o){t:TypeId}{x:Operand}(ho:o.op = .call {callee:=.builtin .clear,args:=#[x],argTypes:=#[t]}){h':AHeap}
  (h:oB P s.h t (ck s.ρ x)=some h'):lI P L0 c0 n ds o s ({s with h:=h'}.set o.dst (.tup [])):=by
 rintro a w K Q ⟨hn,c,Lo,lam,rfl,f,e⟩ hK
 unfold oB at h
 rw [ae0] at h
 obtain⟨d,C8,h⟩:=h
 have hx:=b6 f x
 have fin:∀c',(Builtin.clear_ #[t] o.type #[a.eval x]).run P c.w = .ok (.tuple #[]) c'.w→Ext c Lo c' Lo→Fr L0 c' Lo lam ds {s with h:=h'} a→o.wp P a c.w K Q:=by
  intro c' hr e' f'
  unfold Oper.wp
  have:(execOp a.eval o).run P c.w = .ok (.value (.tuple #[])) c'.w:=by
   simp [execOp,ho,resolve,invoke,builtin,hr]
  rw [this,Oper.upon_value]
  exact hK _ _ ⟨(jj _ _ _).trans hn,c',Lo,lam,rfl,f'.set (SR.of (by simp [VR,VRs])) (fun t ht=>by rw [hn]; exact hd t ht),e.trans e'⟩
 cases IG:ck s.ρ x<;>rw [IG] at h hx<;>simp only at h<;>try (cases h; done)
 ·rename_i id off len kA
  simp only [SR,VR] at hx
  split at h
  ·rename_i hl0
   cases h
   obtain⟨ad,cap,vE⟩:∃ad cap,a.eval x = .slice ad 0 cap:=by
    rcases hx with⟨_,_,_,ad,hx⟩| ⟨_,_,ad,cap,hx,_⟩
    ·exact⟨ad,0,hx⟩
    ·exact⟨ad,cap,by rw [hx,hl0]⟩
   refine fin c ?_ (Ext.refl _ _) f
   cases ad<;>cases d<;>simp [Builtin.clear_,bS C8,vE]
  rename_i hl0
  split at h
  ·cases h
  rename_i mT
  cases d<;>simp only at h<;>try (cases h; done)
  rename_i et
  simp only [ae0] at h
  obtain⟨i,hi,z,hz,ob,hob,h⟩:=h
  cases ob with
  | map es=>cases h
  | row t cs=>cases h
  | cells cs=>
  simp only at h
  split at h
  rotate_left
  ·cases h
  rename_i hh
  obtain⟨Kn,JR,hz0,WO,hoff⟩:=hh
  cases h
  rcases hx with hx | ⟨_,hid,ad,cap,hx,hlc,GC,hlive⟩
  ·exact absurd hx.1 mT
  rw [←f.h] at hob
  have hl:Live c.h id:=⟨f.rel.lt _ _ hob,by simp [hob]⟩
  obtain⟨q,hp,hq,hc⟩:=f.rel.obj _ _ hob
  have ha:ad=some ⟨(c.β id).1,(c.β id).2+off,none⟩:=by
   rcases hlive hl with⟨h1,_⟩| h1
   ·exact h1
   ·exact absurd h1 (by omega)
  subst ha
  obtain⟨zv,Kb,Fi⟩:=mh hz c.w
  obtain⟨EW,hz1⟩:=kQ WO (oD (c:=c) (L:=un L0 Lo) Fi)
  have WQ:=EW.length
  have JS:zv.cells.size=i.size:=by rw [←agc,←WQ,JR]
  have hnl:(Builtin.zeroCells zv.cells len).toList.length=len*i.size:=by simp [Builtin.zeroCells,JS]
  have hv:VRs c (un L0 Lo) (jU z.cells len) (Builtin.zeroCells zv.cells len).toList:=by
   have:=uq EW len (len*zv.cells.size) (by rw [JS,JR]; exact ae4 _) (by omega)
   rw [afA (by simp [JS,JR])] at this
   exact this
  have hone:∀v∈(Builtin.zeroCells zv.cells len).toList,v.oneCell'=true:=by
   intro v hv
   simp only [Builtin.zeroCells,Array.toList_map,afu] at hv
   obtain⟨j,hj,rfl⟩:=hv
   have wo:j % zv.cells.size<zv.cells.size:=Nat.mod_lt _ (by omega)
   rw [getElem!_pos zv.cells _ wo]
   exact hz1 _ (by simp)
  have Qx:(jU z.cells len).length=len*i.size:=by rw [kS,JR]
  have hst:=mB (P:=P) hp.nb (base:=(c.β id).2) (off:=off) (vs:=(Builtin.zeroCells zv.cells len).toList) (by rw [hnl]; rw [Kn] at hoff; omega) hone
  obtain⟨q1,q2,q3,q4⟩:=jo (Builtin.zeroCells zv.cells len).toList (c.β id).1 ((c.β id).2+off) c.w
  have CL:kq c (c.β id).1 q:=hp
  obtain⟨C,Qw,hb,zj⟩:=hp
  obtain⟨C',g1,g2,g3⟩:=ib (Builtin.zeroCells zv.cells len).toList (c.β id).1 ((c.β id).2+off) c.w C Qw (0,0) hb (by rw [hnl]; rw [Kn] at hoff; omega)
  obtain⟨e',f'⟩:=f.upd (w':=c.w.setCells (c.β id).1 ((c.β id).2+off) (Builtin.zeroCells zv.cells len).toList) (β':=c.β) (h':=s.h.put id (.cells (eO cs off (jU z.cells len)))) id (.cells (eO cs off (jU z.cells len)))
   (by rw [f.h]; exact Steady.put _ _ _) (by rw [←f.h]; exact agx hl.1) (by simp [AHeap.put,beq_nat]) (fun nu h1=>.inr ⟨by rw [f.h]; simp [AHeap.put,beq_nat,h1],rfl⟩) (fun _=>⟨hl,rfl⟩) (.inr ⟨id,hl,rfl,.inl rfl⟩)
   (fun _=>by simp only [Cx.len,World.shape?,g1,hb,ae6,af6,g2])
   (fun b _ hne=>fk _ _ _ _ _ hne) (fun b _ hne=>fk _ _ _ _ _ hne) (by rw [q1]; exact ae4 _) (lE e hb0) q2 q3 q4
   (fun ee=>⟨q,CL.setCells (by rw [hnl]; rw [Kn] at hoff; omega) _ _ _,by rw [j5]; exact hq,kR CL.nb hc hv hone (by rw [Qx]; rw [Kn] at hoff; omega) (by omega) ee rfl⟩)
  refine fin _ ?_ e' f'
  cases len with
  | zero=>exact absurd rfl hl0
  | succ len=>simp [Builtin.clear_,bS C8,hx,Kb,hst]
 ·cases h
  simp only [SR,VR] at hx
  refine fin c ?_ (Ext.refl _ _) f
  simp [Builtin.clear_,bS C8,hx]
 ·rename_i id
  rw [ae0] at h
  obtain⟨ob,ho,h⟩:=h
  cases ob with
  | cells cs=>cases h
  | row t cs=>cases h
  | map es=>
  cases h
  simp only [SR,VR] at hx
  obtain⟨hi,r,vE,hr⟩:=hx
  rw [←f.h] at ho
  have hl:Live c.h id:=⟨f.rel.lt _ _ ho,by simp [ho]⟩
  have WN:=hr hl
  subst WN
  obtain⟨nN,clock,h1,h2⟩:=f.rel.obj _ _ ho
  obtain⟨e',f'⟩:=f.Bg (lE e hb0) ho h1 (vD:=#[]) (sh:=clock) (vt:=[]) trivial
  refine fin _ ?_ e' f'
  have hget:(getObj (c.β id).1).run P c.w = .ok (.map nN clock) c.w:=MapKept.run_getObj_map h1
  have Fm:=MapKept.run_setObj_map (P:=P) (.map #[] clock) h1
  simp [Builtin.clear_,bS C8,vE,hget,Fm]
end
end Go.R
namespace Go.R
open Go
section
variable {P:Program}{L0:Nat→Prop}{c0:Cx}{n:Nat}{ds:List Nat}{o:Oper}{s:RS}
theorem qf {w:World}{t t2 ty e:TypeId}{i:TypeInfo}(ht:P.underlying t=some (.slice e))(hi:P.info? e=some i){base:Option Addr}{len cap:Nat}{x:Value}{news:List Value}{m:Nat}(hs:Src P i.size t2 x m news w)(hm:m≤len) :
  (Builtin.copy_ #[t,t2] ty #[.slice base len cap,x]).run P w=match base with | none=>.ok (goInt m) w | some a=>((storeCells a news).run P w).andThen fun _ w'=>.ok (goInt m) w':=by
 have TS:Nat.min m len=m:=agC hm
 have hlen:=hs.len w
 have hc:=hs.cells
 have hsz:(sizeOf e).run P w = .ok i.size w:=by simp [sizeOf,typeInfo,hi]
 unfold Builtin.copy_
 cases base with
 | none=>simp [bS ht,hlen,TS,hsz,hc]
 | some a=>simp [bS ht,hlen,TS,hsz,hc,Sem.run_bind]
theorem N0 (hb0:c0.base≤c0.w.heap.size)(hd:jk n ds o){t t2:TypeId}{dx sx:Operand}(ho:o.op = .call {callee:=.builtin .copy,args:=#[dx,sx],argTypes:=#[t,t2]}){y:AV}{h':AHeap}
  (h:vu P s.h t t2 (ck s.ρ dx) (ck s.ρ sx)=some (y,h')):lI P L0 c0 n ds o s ({s with h:=h'}.set o.dst y):=by
 rintro a w K Q ⟨hn,c,Lo,lam,rfl,f,e0⟩ hK
 have hbs:=lE e0 hb0
 unfold vu at h
 rw [ae0] at h
 obtain⟨d,C8,h⟩:=h
 cases d<;>simp only at h<;>try (cases h; done)
 rename_i e
 rw [ae0] at h
 obtain⟨i,hi,h⟩:=h
 rw [ae0] at h
 obtain⟨⟨new,m⟩,hcs,h⟩:=h
 simp only at h
 split at h
 ·cases h
 rename_i iD
 have iD:kB P t2 (ck s.ρ sx)=true:=by simpa using iD
 have hk1:∀st,ck s.ρ sx = .str st→P.underlying t2=some .string:=by
  intro st hst
  rw [hst] at iD
  unfold kB at iD
  simp only at iD
  split at iD
  ·assumption
  ·cases iD
 have uu:(∀st,ck s.ρ sx≠.str st)→∃e',P.underlying t2=some (.slice e'):=by
  intro hne
  unfold kB at iD
  split at iD
  ·rename_i st hst; exact absurd hst (hne st)
  ·split at iD
   ·rename_i e' he; exact⟨e',he⟩
   ·cases iD
 have hk:(∃e',P.underlying t2=some (.slice e'))∨P.underlying t2=some .string:=by
  by_cases hst:∃st,ck s.ρ sx = .str st
  ·obtain⟨st,hst⟩:=hst; exact .inr (hk1 st hst)
  ·exact .inl (uu fun st WR=>hst ⟨st,WR⟩)
 obtain⟨news,hS,hv⟩:=ur f (b6 f sx) hk hk1 uu hcs
 have CM:=b6 f dx
 have fin:∀c',(Builtin.copy_ #[t,t2] o.type #[a.eval dx,a.eval sx]).run P c.w = .ok (goInt m) c'.w→Ext c Lo c' Lo→Fr L0 c' Lo lam ds {s with h:=h'} a→y = .int .i64 m→o.wp P a c.w K Q:=by
  intro c' hr e' f' hy
  unfold Oper.wp
  have:(execOp a.eval o).run P c.w = .ok (.value (goInt m)) c'.w:=by
   simp [execOp,ho,resolve,invoke,builtin,hr]
  rw [this,Oper.upon_value]
  exact hK _ _ ⟨(jj _ _ _).trans hn,c',Lo,lam,rfl,f'.set (SR.of (by subst hy; simp [VR,goInt])) (fun t ht=>by rw [hn]; exact hd t ht),e0.trans e'⟩
 cases IG:ck s.ρ dx<;>rw [IG] at h CM<;>simp only at h<;>try (cases h; done)
 ·split at h
  rotate_left
  ·cases h
  rename_i xC
  cases h
  simp only [SR,VR] at CM
  obtain⟨ad,CM⟩:∃ad:Option Addr,a.eval dx = .slice ad 0 0:=⟨none,CM⟩
  refine fin c ?_ (Ext.refl _ _) f (by rw [xC]; rfl)
  rw [CM,qf C8 hi hS (by omega)]
  cases ad with
  | none=>rfl
  | some ad=>
   have:news=[]:=afG (by rw [hS.newsLen,xC]; simp)
   subst this
   rfl
 ·rename_i id off len kA
  split at h
  ·rename_i hid
   split at h
   rotate_left
   ·cases h
   rename_i xC
   cases h
   simp only [SR,VR] at CM
   rcases CM with⟨_,_,_,ad,CM⟩| CM
   rotate_left
   ·exact absurd hid CM.1
   refine fin c ?_ (Ext.refl _ _) f (by rw [xC]; rfl)
   rw [CM,qf C8 hi hS (by omega)]
   cases ad with
   | none=>rfl
   | some ad=>
    have:news=[]:=afG (by rw [hS.newsLen,xC]; simp)
    subst this
    rfl
  rename_i mT
  rw [ae0] at h
  obtain⟨ob,hob,h⟩:=h
  cases ob with
  | map es=>cases h
  | row t cs=>cases h
  | cells cs=>
  simp only at h
  split at h
  rotate_left
  ·cases h
  rename_i hh
  obtain⟨Kn,TT,hoff⟩:=hh
  cases h
  simp only [SR,VR] at CM
  rcases CM with CM | ⟨_,hid,ad,cap,CM,hlc,GC,hlive⟩
  ·exact absurd CM.1 mT
  rw [←f.h] at hob
  have hl:Live c.h id:=⟨f.rel.lt _ _ hob,by simp [hob]⟩
  obtain⟨q,hp,hq,hc⟩:=f.rel.obj _ _ hob
  have hnl:=hS.newsLen
  have hvl:=hv.length
  have hr:=qf (ty:=o.type) C8 hi hS TT (base:=ad) (cap:=cap)
  by_cases ha:ad=some ⟨(c.β id).1,(c.β id).2+off,none⟩
  ·subst ha
   simp only at hr
   have hst:=mB (P:=P) hp.nb (base:=(c.β id).2) (off:=off) (vs:=news) (by omega) hS.one
   rw [hst] at hr
   simp only [Result.andThen_ok] at hr
   obtain⟨q1,q2,q3,q4⟩:=jo news (c.β id).1 ((c.β id).2+off) c.w
   have CL:kq c (c.β id).1 q:=hp
   obtain⟨C,Qw,hb,zj⟩:=hp
   obtain⟨C',g1,g2,g3⟩:=ib news (c.β id).1 ((c.β id).2+off) c.w C Qw (0,0) hb (by omega)
   obtain⟨e',f'⟩:=f.upd (w':=c.w.setCells (c.β id).1 ((c.β id).2+off) news) (β':=c.β) (h':=s.h.put id (.cells (eO cs off new))) id (.cells (eO cs off new))
    (by rw [f.h]; exact Steady.put _ _ _) (by rw [←f.h]; exact agx hl.1) (by simp [AHeap.put,beq_nat]) (fun nu h1=>.inr ⟨by rw [f.h]; simp [AHeap.put,beq_nat,h1],rfl⟩) (fun _=>⟨hl,rfl⟩) (.inr ⟨id,hl,rfl,.inl rfl⟩)
    (fun _=>by simp only [Cx.len,World.shape?,g1,hb,ae6,af6,g2])
    (fun b _ hne=>fk _ _ _ _ _ hne) (fun b _ hne=>fk _ _ _ _ _ hne) (by rw [q1]; exact ae4 _) hbs q2 q3 q4
    (fun ee=>⟨q,CL.setCells (by omega) _ _ _,by rw [j5]; exact hq,kR CL.nb hc hv hS.one (by omega) (by omega) ee rfl⟩)
   refine fin _ ?_ e' f' rfl
   rw [CM]
   exact hr
  ·have hz:new=[]∧m=0∧news=[]:=by
    rcases hlive hl with⟨h1,_⟩| h1
    ·exact absurd h1 ha
    ·have h0:m=0:=by omega
     have h2:news=[]:=afG (by rw [hnl,h0]; simp)
     subst h2
     exact⟨afG (by simpa using hvl),h0,rfl⟩
   obtain⟨rfl,rfl,rfl⟩:=hz
   have rQ:eO cs off []=cs:=by simp [eO]
   rw [rQ] at *
   obtain⟨e',f'⟩:=f.upd (w':=c.w) (β':=c.β) (h':=s.h.put id (.cells cs)) id (.cells cs)
    (by rw [f.h]; exact Steady.put _ _ _) (by rw [←f.h]; exact agx hl.1) (by simp [AHeap.put,beq_nat]) (fun nu h1=>.inr ⟨by rw [f.h]; simp [AHeap.put,beq_nat,h1],rfl⟩) (fun _=>⟨hl,rfl⟩) (.inr ⟨id,hl,rfl,.inl rfl⟩)
    (fun _=>rfl) (fun b _ hne=>rfl) (fun b _ hne=>rfl) (ae4 _) hbs rfl rfl rfl
    (fun ee=>sV.ext ee ⟨q,hp,hq,hc⟩ rfl)
   refine fin _ ?_ e' f' rfl
   rw [CM,hr]
   cases ad<;>rfl
end
end Go.R
namespace Go.R
open Go
section
variable {P:Program}{L0:Nat→Prop}{c0:Cx}{n:Nat}{ds:List Nat}{o:Oper}{s:RS}
theorem uv {e:TypeId}(h:J4 P e=true):P.underlying e=some (.int .u8)∧hH P e=some 1:=by
 unfold J4 at h
 simp only [ae3,beq_iff_eq] at h
 obtain⟨h1,h2⟩:=h
 refine⟨?_,h2⟩
 split at h1
 ·assumption
 ·cases h1
theorem GO {c:Cx}{L:Nat→Prop}:∀{cs:List AV} {l:List UInt8} {vs:List Value},Pw cs=some l→VRs c L cs vs→∃xs:List Int,vs=xs.map (Value.int .u8)∧l=xs.map fun n=>UInt8.ofNat n.toNat
 | [],l,[],h,_=>by simp only [Pw,ae2] at h; subst h; exact⟨[],rfl,rfl⟩
 | x::cs,l,v::vs,h,hv=>by
  unfold Pw at h
  split at h
  ·rename_i heq; cases heq
  ·rename_i n xs heq
   cases heq
   rw [ae1] at h
   obtain⟨l',h1,rfl⟩:=h
   obtain⟨ys,rfl,rfl⟩:=GO h1 hv.2
   have h2:=hv.1
   simp only [VR] at h2
   subst h2
   exact⟨n::ys,rfl,rfl⟩
  ·cases h
 | [],_,_::_,_,h=>h.elim
 | _::_,_,[],_,h=>h.elim
theorem Bj (xs:List Int):strOfNums xs=⟨(xs.map fun n=>UInt8.ofNat n.toNat).toArray⟩:=rfl
theorem C9 {w:World}{src dst e:TypeId}{v:Value}{m:Nat}{xs:List Int}(hs:P.underlying src=some (.slice e))(he:P.underlying e=some (.int .u8))(hd:P.underlying dst=some .string)
  (hS:Src P 1 src v m (xs.map (Value.int .u8)) w) (hv:∃a cap,v = .slice a m cap):(convert src dst v).run P w = .ok (.string (strOfNums xs)) w:=by
 obtain⟨a,cap,rfl⟩:=hv
 have hc:=hS.cells
 have hl:=hS.newsLen
 cases a with
 | none=>
  have:xs=[]:=by
   simp [Builtin.firstCells] at hc
   cases xs with
   | nil=>rfl
   | cons x xs=>simp at hc
  subst this
  exact run_convert_bytes_nil w src e hs he m cap dst hd
 | some a=>
  rw [run_convert_bytes_string w src dst e (some a) m cap hs he hd]
  have h1:(loadCells a m).run P w = .ok (xs.map (Value.int .u8)).toArray w:=by simpa [Builtin.firstCells] using hc
  rw [run_bytesToString w a m cap xs h1,foldl_push_bytes]
  simp [strOfNums,ByteArray.empty,ByteArray.emptyWithCapacity]
  rfl
theorem zw {c:Cx}{Lo:Nat→Prop}{lam:Nat→Nat}{x:AV}{v:Value}{h:AHeap}{size m:Nat}{new:List AV}(hx:SR c L0 Lo lam s.bx x v)(hc:fi h size x=some (new,m))(hne:∀st,x≠.str st):∃a cap,v = .slice a m cap:=by
 unfold fi at hc
 cases x<;>simp only at hc<;>try (cases hc; done)
 ·exact absurd rfl (hne _)
 ·cases hc
  simp only [SR,VR] at hx
  subst hx
  exact⟨none,0,rfl⟩
 ·split at hc
  ·cases hc
   simp only [SR,VR] at hx
   obtain⟨a,cap,rfl,_⟩:=hx
   exact⟨a,cap,rfl⟩
  ·cases hc
 ·split at hc
  ·split at hc
   ·cases hc
    simp only [SR,VR] at hx
    rename_i hid hl0
    rcases hx with⟨_,_,_,a,rfl⟩| ⟨_,_,a,cap,rfl,_⟩
    ·exact⟨a,0,rfl⟩
    ·exact⟨a,cap,by rw [hl0]⟩
   ·cases hc
  rename_i mT
  rw [ae0] at hc
  obtain⟨ob,_,hc⟩:=hc
  cases ob with
  | map es=>cases hc
  | row t cs=>cases hc
  | cells cs=>
   simp only at hc
   split at hc
   ·cases hc
    simp only [SR,VR] at hx
    rcases hx with hx | ⟨_,_,a,cap,rfl,_⟩
    ·exact absurd (.inl hx.1) mT
    exact⟨a,cap,rfl⟩
   ·cases hc
theorem bytes_VRs {c:Cx}{L:Nat→Prop}:∀l:List UInt8,VRs c L (l.map fun b=>AV.int .u8 b.toNat) (l.map fun b=>Value.int .u8 b.toNat)
 | []=>trivial
 | b::l=>⟨by simp [VR],bytes_VRs l⟩
theorem Bk {w:World}{b o k:Nat}{C:Array Value}{e:TypeId}{fr:Nat × Nat}(hb:w.heap[b]? = some (.cells C e fr))(ho:C.size≤o)(hk:k≠0) :
  (∀b',jY w (w.freeze ⟨b,o,none⟩ k) b')∧(∀b',b'≠b→(w.freeze ⟨b,o,none⟩ k).heap[b']? = w.heap[b']?)∧(w.freeze ⟨b,o,none⟩ k).heap.size=w.heap.size∧(w.freeze ⟨b,o,none⟩ k).os=w.os∧(w.freeze ⟨b,o,none⟩ k).tape=w.tape∧(w.freeze ⟨b,o,none⟩ k).output=w.output:=by
 unfold World.freeze
 rw [if_neg hk]
 have hlt:=(afH.1 hb).1
 refine⟨fun b'=>?_,fun b' hne=>by simp [age,Ne.symm hne],by simp,rfl,rfl,rfl⟩
 by_cases hne:b'=b
 ·subst hne
  obtain⟨lo,hi⟩:=fr
  refine .inr ⟨C,e,lo,hi,(if lo==hi then (o,o+k) else (min lo o,max hi (o+k))).1,(if lo==hi then (o,o+k) else (min lo o,max hi (o+k))).2,hb,?_,?_⟩
  ·simp [age,hb]
  ·intro h
   by_cases WS:lo=hi
   ·subst WS; right; simpa using ho
   ·have:(lo==hi)=false:=by simpa using WS
    right
    simp only [this,afa,if_false]
    rcases h with h | h
    ·exact absurd h WS
    ·exact Nat.le_min.2 ⟨h,ho⟩
 ·exact .inl (by simp [age,Ne.symm hne])
theorem Fo (hb0:c0.base≤c0.w.heap.size)(hd:jk n ds o){src dst:TypeId}{x:Operand}(ho:o.op = .convert src dst x){y:AV}(h:pW P s.h src dst (ck s.ρ x)=some y):lI P L0 c0 n ds o s (s.set o.dst y):=by
 have hex:∀(a:Act) (w w':World) v,(convert src dst (a.eval x)).run P w = .ok v w'→(execOp a.eval o).run P w = .ok (.value v) w':=by
  intro a w w' v hr; simp [execOp,ho,hr]
 unfold pW at h
 split at h
 ·rename_i e hs EV
  split at h
  rotate_left
  ·cases h
  rename_i hu
  obtain⟨he,hsz⟩:=uv hu
  rw [ae0] at h
  obtain⟨⟨cs,m⟩,hcs,h⟩:=h
  rw [ae1] at h
  obtain⟨l,hl,rfl⟩:=h
  by_cases hst:∃st,ck s.ρ x = .str st
  ·
   obtain⟨st,hst⟩:=hst
   refine iC hd fun a c Lo lam f hn=>?_
   have hx:=b6 f x
   rw [hst] at hx hcs
   simp only [SR,VR] at hx
   simp only [fi,if_true,ae2,ae9] at hcs
   obtain⟨rfl,rfl⟩:=hcs
   refine⟨_,hex _ _ _ (.string st) ?_,?_⟩
   ·simp [convert,run_underlying hs,run_underlying EV,hx]
   ·have:∀(l0 l1:List UInt8),Pw (l0.map fun b=>AV.int .u8 b.toNat)=some l1→l1=l0:=by
     intro l0
     induction l0 with
     | nil=>intro l1 h; simp [Pw] at h; exact h
     | cons b l0 ih=>
      intro l1 h
      simp only [afs,Pw,ae1] at h
      obtain⟨l2,h2,rfl⟩:=h
      rw [ih l2 h2]
      simp
    rw [this _ _ hl]
    simp [SR,VR]
  ·refine iC hd fun a c Lo lam f hn=>?_
   have hne:∀st,ck s.ρ x≠.str st:=fun st h=>hst ⟨st,h⟩
   have hx:=b6 f x
   obtain⟨news,hS,hv⟩:=ur f hx (.inl ⟨e,hs⟩) (fun st h=>absurd h (hne st)) (fun _=>⟨e,hs⟩) hcs
   obtain⟨xs,rfl,rfl⟩:=GO hl hv
   exact⟨_,hex _ _ _ _ (C9 hs he EV hS (zw hx hcs hne)),by simp [SR,VR,Bj]⟩
 ·rename_i e hs EV
  cases IG:ck s.ρ x<;>rw [IG] at h<;>simp only at h<;>try (cases h; done)
  rename_i st
  split at h
  rotate_left
  ·cases h
  rename_i hu
  obtain⟨he,hsz⟩:=uv hu
  cases h
  refine xI hb0 hd (fun a c Lo lam f hn hbs=>?_) (by rintro k off h; cases h)
  have hx:=b6 f x
  rw [IG] at hx
  simp only [SR,VR] at hx
  have hr:=run_bytes_of_string c.w src dst e st hs EV he
  rw [←hx] at hr
  refine⟨_,_,hex _ _ _ _ hr,fun b hb=>.inl (alloc_old c.w.drew _ (show b<c.w.heap.size from hb)),fun id hl=>alloc_old c.w.drew _ (show (c.β id).1<c.w.heap.size from f.rel.block hl),fun b hb=>alloc_old c.w.drew _ (show b<c.w.heap.size by omega),by show c.w.heap.size≤(c.w.heap.push _).size; simp,rfl,rfl,rfl,fun e'=>?_⟩
  simp only [VR]
  refine⟨_,_,rfl,grownCap_ge c.w,by simp,.inl rfl,?_⟩
  refine .inr ⟨c.w.heap.size,0,rfl,Kj f.rel rfl rfl,by simp,?_⟩
  refine Cells.of_vals (bytes_VRs st.data.toList) (fun i hi=>?_) (fun v hv=>by obtain⟨b,_,rfl⟩:=afu.1 hv; rfl)
  have mw:i<st.data.size:=by simpa using hi
  have:(World.alloc c.w.drew (.cells (bytesRow st (grownCap c.w st.size 0 e)) e ((bytesRow st (grownCap c.w st.size 0 e)).size,(bytesRow st (grownCap c.w st.size 0 e)).size+1))).heap[c.w.heap.size]? = some (.cells (bytesRow st (grownCap c.w st.size 0 e)) e ((bytesRow st (grownCap c.w st.size 0 e)).size,(bytesRow st (grownCap c.w st.size 0 e)).size+1)):=kC c.w.drew _
  rw [cell_of_block this]
  simp [bytesRow,Array.getElem?_append,mw]
  intro hge
  have:st.size=st.data.size:=rfl
  omega
 ·rename_i e0 e hs EV
  cases IG:ck s.ρ x<;>rw [IG] at h<;>try (cases h; done)
  rename_i cs m ex
  cases ex
  ·cases h
  simp only at h
  split at h
  rotate_left
  ·cases h
  rename_i hu
  simp only [ae3,beq_iff_eq,decide_eq_true_eq] at hu
  obtain⟨⟨hsd,hu⟩,oI⟩:=hu
  subst hsd
  obtain⟨he,hsz⟩:=uv hu
  cases h
  refine xI hb0 hd (fun a c Lo lam f hn hbs=>?_) (by rintro k off h; cases h)
  have hx:=b6 f x
  rw [IG] at hx
  have N1:=hx.vr (by rintro k off h; cases h)
  simp only [SR,VR] at hx
  obtain⟨ad,cap,vE,h1,h2,_,h3⟩:=hx
  rcases h3 with rfl | ⟨b,off,rfl,Px,hbb,hc⟩
  ·simp at oI
  have hlt:b<c.w.heap.size:=by
   cases cs with
   | nil=>simp at oI
   | cons x cs=>exact my hc
  have rQ:∃C e' fr,c.w.heap[b]? = some (.cells C e' fr):=by
   cases cs with
   | nil=>simp at oI
   | cons x cs=>
    obtain⟨⟨v,hv,_⟩,_⟩:=hc
    unfold World.cell? at hv
    split at hv
    ·exact⟨_,_,_,by assumption⟩
    ·cases hv
  obtain⟨C,e',fr,hb⟩:=rQ
  obtain⟨k1,k2,k3,k4,k5,k6⟩:=Bk (k:=1) hb (ae4 C.size) (by decide)
  refine⟨c.w.freeze ⟨b,C.size,none⟩ 1,a.eval x,hex _ _ _ _ ?_,fun b' _=>k1 b',fun id hl=>k2 _ (Px.1 id hl),fun b' zi=>k2 b' (by have:=hbb trivial; omega),by rw [k3]; exact ae4 _,k4,k5,k6,fun Qw=>VR.ext Qw _ _ N1⟩
  rw [vE]
  have Nz:c.w.shape? b=some (e',C.size):=by simp [World.shape?,hb]
  simp [convert,run_underlying EV,run_underlying he,markStringish,Nz]
 ·rw [ae0] at h
  obtain⟨v,hv,h⟩:=h
  rw [ae0] at h
  obtain⟨r,hr,h⟩:=h
  refine iC hd fun a c Lo lam f hn=>?_
  have hx:=nO hv ((b6 f x).vr (nP hv))
  exact⟨r,hex _ _ _ _ (by rw [hx]; exact nc _ hr),SR.of (ri h)⟩
theorem fT {op:BinOp}{t:TypeId}{x y:Operand}{u v:Value}(h:(∀a b,u≠.agg a∨v≠.agg b)∧u≠.nilIface)(w:World):(eqGuard op t x y u v).run P w = .ok () w:=by
 obtain⟨h1,h2⟩:=h
 unfold eqGuard
 cases op<;>first | rfl | skip
 all_goals
  simp only [afT,afa,if_false]
  split
  ·exact absurd rfl h2
  ·rename_i a b; rcases h1 a b with h3 | h3<;>exact absurd rfl h3
  ·rfl
theorem Fp {x:AV}{u:Value}(h:x.jh=some u):(∀a,u≠.agg a)∧u≠.nilIface:=by
 unfold AV.jh at h
 split at h<;>first | (cases h; done) | (cases h; exact⟨fun _=>(by simp),(by simp)⟩)
theorem IL {op:BinOp}{a b:ByteArray}{y:AV}(h:E5 op a b=some y)(w:World):∃r,(Op.stringOp op a b).run P w = .ok r w∧∀(c:Cx) (L:Nat→Prop),VR c L y r:=by
 have hl:∀z:ByteArray,z.toList=z.data.toList:=fun z=>ByteArray.toList_eq z
 unfold E5 at h
 unfold Op.stringOp
 simp only [hl]
 cases op<;>simp only at h<;>try (cases h; done)
 ·split at h
  rotate_left
  ·cases h
  rename_i hsz
  cases h
  refine⟨.string (a++b),?_,fun c L=>by simp only [VR]⟩
  have h1:¬(((a.size+b.size:Nat):Int) > IntKind.i64.max):=by
   have:IntKind.i64.max=9223372036854775807:=by decide
   rw [this]; omega
  simp only [h1,if_false]
  rfl
 all_goals (cases h; exact⟨_,rfl,fun c L=>by simp only [VR]⟩)
theorem rj {op:BinOp}{uc:Bool}(h:E6 op=some uc):(op = .eql∧uc=true)∨(op = .neq∧uc=false):=by
 unfold E6 at h
 split at h<;>cases h
 ·exact .inl ⟨rfl,rfl⟩
 ·exact .inr ⟨rfl,rfl⟩
theorem si {t:TypeId}(ht:∃q,P.underlying t=some (.pointer q)){a:Addr}{op:BinOp}{uc:Bool}(h:E6 op=some uc)(w:World) :
  (binOp op t (.pointer (some a)) (.pointer none)).run P w = .ok (.bool (!uc)) w∧(binOp op t (.pointer none) (.pointer (some a))).run P w = .ok (.bool (!uc)) w:=by
 obtain⟨q,hq⟩:=ht
 have e1:(Op.equal t (.pointer (some a)) (.pointer none)).run P w = .ok false w:=by
  unfold Op.equal Op.maxDepth
  unfold Op.equalIn
  simp [bS hq]
 have e2:(Op.equal t (.pointer none) (.pointer (some a))).run P w = .ok false w:=by
  unfold Op.equal Op.maxDepth
  unfold Op.equalIn
  simp [bS hq]
 rcases rj h with⟨rfl,rfl⟩| ⟨rfl,rfl⟩
 ·constructor
  ·show ((do pure (.bool (←Op.equal t (.pointer (some a)) (.pointer none)))):Sem Value).run P w=_
   simp [e1]
  ·show ((do pure (.bool (←Op.equal t (.pointer none) (.pointer (some a))))):Sem Value).run P w=_
   simp [e2]
 ·constructor
  ·show ((do pure (.bool (!(←Op.equal t (.pointer (some a)) (.pointer none))))):Sem Value).run P w=_
   simp [e1]
  ·show ((do pure (.bool (!(←Op.equal t (.pointer none) (.pointer (some a)))))):Sem Value).run P w=_
   simp [e2]
theorem s7 {t:TypeId}(ht:∃q,P.underlying t=some (.slice q)){ad:Option Addr}(hs:ad.isSome=true){m cap:Nat}{op:BinOp}{uc:Bool}(h:E6 op=some uc)(w:World) :
  (binOp op t (.slice ad m cap) (.slice none 0 0)).run P w = .ok (.bool (!uc)) w:=by
 obtain⟨q,hq⟩:=ht
 obtain⟨a,rfl⟩:=afI.1 hs
 have e1:(Op.equal t (.slice (some a) m cap) (.slice none 0 0)).run P w = .ok false w:=by
  unfold Op.equal Op.maxDepth
  unfold Op.equalIn
  simp [bS hq]
 rcases rj h with⟨rfl,rfl⟩| ⟨rfl,rfl⟩
 ·show ((do pure (.bool (←Op.equal t (.slice (some a) m cap) (.slice none 0 0)))):Sem Value).run P w=_
  simp [e1]
 ·show ((do pure (.bool (!(←Op.equal t (.slice (some a) m cap) (.slice none 0 0))))):Sem Value).run P w=_
  simp [e1]
theorem Ko (hd:jk n ds o){op:BinOp}{t t2:TypeId}{x y:Operand}(ho:o.op = .binOp op t x y t2){z:AV}(h:pX P op t (ck s.ρ x) (ck s.ρ y)=some z):lI P L0 c0 n ds o s (s.set o.dst z):=by
 refine iC hd fun a c Lo lam f hn=>?_
 have hx:=b6 f x
 have hy:=b6 f y
 have hex:∀v,(eqGuard op t x y (a.eval x) (a.eval y)).run P c.w = .ok () c.w→(binOp op t (a.eval x) (a.eval y)).run P c.w = .ok v c.w→(execOp a.eval o).run P c.w = .ok (.value v) c.w:=by
  intro v h1 h2; simp [execOp,ho,h1,h2]
 unfold pX at h
 split at h
 ·rename_i p q hp hq
  rw [hp] at hx; rw [hq] at hy
  simp only [SR,VR] at hx hy
  obtain⟨r,hr,hv⟩:=IL (P:=P) h c.w
  refine⟨r,hex _ (fT ⟨fun _ _=>.inl (by rw [hx]; simp),by rw [hx]; simp⟩ _) ?_,SR.of (hv _ _)⟩
  rw [hx,hy]
  unfold binOp
  simpa using hr
 ·rename_i p q hp hq
  rw [hp] at hx; rw [hq] at hy
  simp only [SR,VR] at hx hy
  obtain⟨_,ad,vE,_⟩:=hx
  rw [ae0] at h
  obtain⟨uc,wq,h⟩:=h
  split at h
  rotate_left
  ·cases h
  rename_i ht
  cases h
  refine⟨.bool (!uc),hex _ (fT ⟨fun _ _=>.inl (by rw [vE]; simp),by rw [vE]; simp⟩ _) ?_,SR.of (by simp [VR])⟩
  rw [vE,hy]
  exact (si ⟨_,ht⟩ wq _).1
 ·rename_i p q hp hq
  rw [hp] at hx; rw [hq] at hy
  simp only [SR,VR] at hx hy
  obtain⟨_,ad,Wc,_⟩:=hy
  rw [ae0] at h
  obtain⟨uc,wq,h⟩:=h
  split at h
  rotate_left
  ·cases h
  rename_i ht
  cases h
  refine⟨.bool (!uc),hex _ (fT ⟨fun _ _=>.inl (by rw [hx]; simp),by rw [hx]; simp⟩ _) ?_,SR.of (by simp [VR])⟩
  rw [hx,Wc]
  exact (si ⟨_,ht⟩ wq _).2
 ·rename_i p q hp hq
  rw [hp] at hx; rw [hq] at hy
  simp only [SR,VR] at hx hy
  obtain⟨b,off,vE,_⟩:=hx
  rw [ae0] at h
  obtain⟨uc,wq,h⟩:=h
  split at h
  rotate_left
  ·cases h
  rename_i ht
  cases h
  refine⟨.bool (!uc),hex _ (fT ⟨fun _ _=>.inl (by rw [vE]; simp),by rw [vE]; simp⟩ _) ?_,SR.of (by simp [VR])⟩
  rw [vE,hy]
  exact (si ⟨_,ht⟩ wq _).1
 ·rename_i hp hq
  rw [hp] at hx; rw [hq] at hy
  simp only [SR,VR] at hx hy
  obtain⟨ad,cap,vE,_,_,hs,_⟩:=hx
  replace hs:ad.isSome=true:=hs.elim id fun h=>by cases h.1
  rw [ae0] at h
  obtain⟨uc,wq,h⟩:=h
  split at h
  rotate_left
  ·cases h
  rename_i ht
  cases h
  refine⟨.bool (!uc),hex _ (fT ⟨fun _ _=>.inl (by rw [vE]; simp),by rw [vE]; simp⟩ _) ?_,SR.of (by simp [VR])⟩
  rw [vE,hy]
  exact s7 ⟨_,ht⟩ hs wq _
 ·rename_i hp hq
  rw [hp] at hx; rw [hq] at hy
  simp only [SR,VR] at hx hy
  rcases hx with⟨hx,_⟩| ⟨_,_,ad,cap,vE,_,hs,_⟩
  ·omega
  rw [ae0] at h
  obtain⟨uc,wq,h⟩:=h
  split at h
  rotate_left
  ·cases h
  rename_i ht
  cases h
  refine⟨.bool (!uc),hex _ (fT ⟨fun _ _=>.inl (by rw [vE]; simp),by rw [vE]; simp⟩ _) ?_,SR.of (by simp [VR])⟩
  rw [vE,hy]
  exact s7 ⟨_,ht⟩ hs wq _
 ·rename_i p q hp hq
  rw [hp,hq] at h
  rw [hp] at hx; rw [hq] at hy
  have N1:=hx.vr (by rintro k off h; cases h)
  have WT:=hy.vr (by rintro k off h; cases h)
  rw [ae0] at h
  obtain⟨uc,wq,h⟩:=h
  split at h
  rotate_left
  ·cases h
  rename_i lJ
  simp only [ae3,agk] at lJ
  obtain⟨⟨⟨h1,h2⟩,h3⟩,h4⟩:=lJ
  cases h
  have hk:=zV (P:=P) 9998 h1 h3 N1 WT c.w
  simp only [VR] at N1 WT
  obtain⟨vx,vE,_⟩:=N1
  obtain⟨vy,Wc,_⟩:=WT
  refine⟨.bool (iw (.agg p) (.agg q)==uc),hex _ ?_ ?_,SR.of (by simp only [VR])⟩
  ·rw [vE,Wc]
   rcases rj wq with⟨rfl,rfl⟩| ⟨rfl,rfl⟩<;>simp [eqGuard,h4,program,Sem.run]
  ·rw [vE,Wc] at hk ⊢
   rcases rj wq with⟨rfl,rfl⟩| ⟨rfl,rfl⟩
   ·show ((do pure (.bool (←Op.equal t (.agg vx) (.agg vy)))):Sem Value).run P c.w=_
    have TD:(Op.equal t (.agg vx) (.agg vy)).run P c.w=_:=hk
    simp [TD]
   ·show ((do pure (.bool (!(←Op.equal t (.agg vx) (.agg vy))))):Sem Value).run P c.w=_
    have TD:(Op.equal t (.agg vx) (.agg vy)).run P c.w=_:=hk
    simp [TD]
 ·rw [ae0] at h
  obtain⟨u,hu,h⟩:=h
  rw [ae0] at h
  obtain⟨v,hv,h⟩:=h
  rw [ae0] at h
  obtain⟨r,hr,h⟩:=h
  have h1:=nO hu (hx.vr (nP hu))
  have h2:=nO hv (hy.vr (nP hv))
  have h3:=Fp hu
  exact⟨r,hex _ (fT ⟨fun p _=>.inl (by rw [h1]; exact h3.1 p),by rw [h1]; exact h3.2⟩ _) (by rw [h1,h2]; exact nc _ hr),SR.of (ri h)⟩
theorem N2 (hd:jk n ds o){op:UnOp}{t:TypeId}{x:Operand}(ho:o.op = .unOp op t x){z:AV}(h:((ck s.ρ x).jh.bind fun a=>(kM P (Op.unary op a)).bind sR)=some z):lI P L0 c0 n ds o s (s.set o.dst z):=by
 refine iC hd fun a c Lo lam f hn=>?_
 rw [ae0] at h
 obtain⟨u,hu,h⟩:=h
 rw [ae0] at h
 obtain⟨r,hr,h⟩:=h
 have h1:=nO hu ((b6 f x).vr (nP hu))
 refine⟨r,?_,SR.of (ri h)⟩
 have:=nc (P:=P) c.w hr
 rw [←h1] at this
 simp [execOp,ho,this]
theorem GP (hd:jk n ds o){x:Operand}(ho:o.op = .move x∨o.op = .assign x):lI P L0 c0 n ds o s (s.set o.dst (ck s.ρ x)):=
 iC hd fun a c Lo lam f hn=>⟨a.eval x,by rcases ho with ho | ho<;>simp [execOp,ho],b6 f x⟩
theorem N3 (hd:jk n ds o){k x y:Operand}(ho:o.op = .pick k x y){t:Bool}(h:xu (ck s.ρ k)=some t):lI P L0 c0 n ds o s (s.set o.dst (if t then ck s.ρ x else ck s.ρ y)):=by
 refine iC hd fun a c Lo lam f hn=>?_
 have hk:=b6 f k
 unfold xu at h
 split at h
 ·rename_i b hb
  cases h
  rw [hb] at hk
  simp only [SR,VR] at hk
  refine⟨if t then a.eval x else a.eval y,by simp [execOp,ho,hk,asBool],?_⟩
  cases t
  ·exact b6 f y
  ·exact b6 f x
 ·cases h
theorem Da (hd:jk n ds o){x:Operand}(ho:o.op = .nilCheck x){z:AV}(h:uj (ck s.ρ x)=some z):lI P L0 c0 n ds o s (s.set o.dst z):=by
 refine iC hd fun a c Lo lam f hn=>?_
 have hx:=b6 f x
 have hp:(∃ad,a.eval x = .pointer (some ad))∧z=ck s.ρ x:=by
  unfold uj at h
  split at h
  ·rename_i id off heq
   cases h
   rw [heq] at hx
   simp only [SR,VR] at hx
   obtain⟨_,ad,h1,_⟩:=hx
   exact⟨⟨ad,h1⟩,heq.symm⟩
  ·rename_i k off heq
   cases h
   rw [heq] at hx
   simp only [SR] at hx
   exact⟨⟨_,hx.1⟩,heq.symm⟩
  ·rename_i cs off heq
   cases h
   rw [heq] at hx
   simp only [SR,VR] at hx
   obtain⟨b,o',h1,_⟩:=hx
   exact⟨⟨_,h1⟩,heq.symm⟩
  ·cases h
 obtain⟨⟨ad,hp⟩,rfl⟩:=hp
 exact⟨a.eval x,by simp [execOp,ho,hp],hx⟩
theorem rl {c:Cx}{Lo:Nat→Prop}{lam:Nat→Nat}{a:Act}(f:Fr L0 c Lo lam ds s a):∀xs:List Operand,(∀x∈xs,∀k off,ck s.ρ x≠.lp k off)→VRs c (un L0 Lo) (xs.map (ck s.ρ)) (xs.map a.eval)
 | [],_=>trivial
 | x::xs,h=>⟨(b6 f x).vr (h x (by simp)),rl f xs fun y hy=>h y (by simp [hy])⟩
theorem IM {x:AV}(h:x.cL=true):∀k off,x≠.lp k off:=by rintro k off rfl; simp [AV.cL] at h
theorem Db (hd:jk n ds o){Fq:FuncId}{first cap:Array Operand}(ho:o.op = .makeFunc (.func Fq) first cap)(hf:first.isEmpty=true)(hc:(cap.toList.map (ck s.ρ)).all AV.cL=true):lI P L0 c0 n ds o s (s.set o.dst (.fn Fq (cap.toList.map (ck s.ρ)))):=by
 refine iC hd fun a c Lo lam f hn=>?_
 have TU:first = #[]:=by simpa using hf
 subst TU
 refine⟨.func (.func Fq) #[] (cap.map a.eval),by simp [execOp,ho,Instr.makeFunc],SR.of ?_⟩
 simp only [VR]
 refine⟨_,rfl,?_⟩
 rw [Array.toList_map]
 refine rl f _ fun x hx=>IM ?_
 rw [afr] at hc
 exact hc _ (afu.2 ⟨x,hx,rfl⟩)
theorem Fs (hd:jk n ds o){x:Operand}{i:Nat}(ho:o.op = .extract x i){z:AV}(h:xw (ck s.ρ x) i=some z):lI P L0 c0 n ds o s (s.set o.dst z):=by
 refine iC hd fun a c Lo lam f hn=>?_
 have hx:=b6 f x
 cases heq:ck s.ρ x<;>rw [heq] at h hx<;>simp only [xw] at h<;>try (cases h; done)
 rename_i vs
 simp only [SR,VR] at hx
 obtain⟨us,vE,JQ⟩:=hx
 obtain⟨v,hv,hr⟩:=JQ.get i z h
 have WU:us[i]? = some v:=by simpa using hv
 exact⟨v,by simp [execOp,ho,vE,Instr.extract,WU],SR.of hr⟩
theorem vF {op:Value→Value→Sem Value}:∀(vs:List Value) (v r:Value) (w:World),oC P op v vs=some r→(vs.foldlM op v).run P w = .ok r w
 | [],v,r,w,h=>by simp only [oC,ae2] at h; subst h; rfl
 | x::xs,v,r,w,h=>by
  simp only [oC,ae0] at h
  obtain⟨u,h1,h2⟩:=h
  simp only [List.foldlM_cons,Sem.run_bind,nc w h1,Result.andThen_ok]
  exact vF xs u r w h2
theorem z7 (hd:jk n ds o){b:Builtin}{GQ:Array TypeId}{args:Array Operand}(ho:o.op = .call {callee:=.builtin b,args:=args,argTypes:=GQ}){op:Value→Value→Sem Value}(hb:(b = .min∧op=Builtin.min2)∨(b = .max∧op=Builtin.max2))
  {x:AV} {xs:List AV} (he:args.toList.map (ck s.ρ)=x::xs) {v u:Value} {vs:List Value} (hx:x.jh=some v) (hxs:lq xs=some vs) (hf:oC P op v vs=some u) {z:AV} (hz:sR u=some z):lI P L0 c0 n ds o s (s.set o.dst z):=by
 refine iC hd fun a c Lo lam f hn=>?_
 refine⟨u,?_,SR.of (ri hz)⟩
 have hne:∀q:Operand,∀k off,ck s.ρ q = .lp k off→q∉args.toList:=by
  intro q k off hq hm
  have GR:AV.lp k off∈x::xs:=by rw [←he,←hq]; exact afu.2 ⟨q,hm,rfl⟩
  rcases afq.1 GR with h1 | h1
  ·exact nP hx k off h1.symm
  ·have:∀(ys:List AV) (us:List Value),lq ys=some us→AV.lp k off∉ys:=by
    intro ys
    induction ys with
    | nil=>intro us _ h; cases h
    | cons y ys ih=>
     intro us hu hm
     simp only [lq,ae0] at hu
     obtain⟨u1,h2,us1,h3,_⟩:=hu
     rcases afq.1 hm with h4 | h4
     ·exact nP h2 k off h4.symm
     ·exact ih _ h3 h4
   exact this _ _ hxs h1
 have GB:=rl f args.toList (fun q hq k off h=>hne q k off h hq)
 rw [he] at GB
 have mC:args.toList.map a.eval=v::vs:=um (xs:=x::xs) (us:=v::vs) (by simp [lq,hx,hxs]) GB
 have hr:=vF vs v u c.w hf
 have hargs:args.map a.eval=(v::vs).toArray:=by rw [←mC]; apply agH; simp
 rcases hb with⟨rfl,rfl⟩| ⟨rfl,rfl⟩
 ·simp [execOp,ho,resolve,invoke,builtin,Builtin.min_,hargs,hr]
 ·simp [execOp,ho,resolve,invoke,builtin,Builtin.max_,hargs,hr]
end
end Go.R
namespace Go.R
open Go
section
variable {P:Program}{L0:Nat→Prop}{c0:Cx}{n:Nat}{ds:List Nat}{s:RS}
theorem Fr.Kp {c:Cx}{Lo:Nat→Prop}{lam:Nat→Nat}{a:Act}(f:Fr L0 c Lo lam ds s a)(id:Nat) :
  Ext c Lo ⟨c.β,c.h.kill id,c.w,c.base⟩ Lo∧Fr L0 ⟨c.β,c.h.kill id,c.w,c.base⟩ Lo lam ds {s with h:=s.h.kill id} a∧(Live c.h id→RO ⟨c.β,c.h.kill id,c.w,c.base⟩ (un L0 Lo) (c.β id).1):=by
 have hg:∀i,(c.h.kill id).get i=if i=id then none else c.h.get i:=fun i=>by
  simp only [AHeap.kill,beq_nat]
  by_cases h:i=id<;>simp [h]
 have nf:∀i,Live (c.h.kill id) i→i≠id∧Live c.h i:=fun i hl=>by
  have h2:=hl.2
  rw [hg] at h2
  by_cases h:i=id
  ·rw [if_pos h] at h2; cases h2
  ·rw [if_neg h] at h2
   obtain⟨o,ho⟩:=afI.1 h2
   exact⟨h,f.rel.lt _ _ ho,h2⟩
 have e:Ext c Lo ⟨c.β,c.h.kill id,c.w,c.base⟩ Lo:=
  ⟨agb _,fun i hi hl=>⟨(nf i hl).2,rfl,rfl⟩,ae4 _,fun _ _ _ _=>.inl rfl,fun _ _=>rfl,rfl,fun i hl=>.inr ⟨i,(nf i hl).2,rfl⟩,fun _ h=>h,fun _ h=>.inl h,rfl,rfl,rfl⟩
 refine⟨e,⟨by rw [←f.h],⟨fun i o ho=>?_,fun i o ho=>?_,fun i j hi hj he=>?_,fun i hi=>?_,f.rel.bd,fun i hi=>?_,(Steady.kill c.h id).wf f.rel.ver⟩,fun t=>?_,fun k cs hb=>?_,f.inj,f.tidy,f.defers,f.J6⟩,fun hl=>⟨fun i hi he=>?_,f.rel.out id hl⟩⟩
 ·replace ho:(c.h.kill id).get i=some o:=ho
  rw [hg] at ho
  by_cases h:i=id
  ·rw [if_pos h] at ho; cases ho
  ·rw [if_neg h] at ho; exact agx (f.rel.lt _ _ ho)
 ·replace ho:(c.h.kill id).get i=some o:=ho
  rw [hg] at ho
  by_cases h:i=id
  ·rw [if_pos h] at ho; cases ho
  ·rw [if_neg h] at ho
   exact (f.rel.obj i o ho).ext e rfl
 ·exact f.rel.inj i j (nf i hi).2 (nf j hj).2 he
 ·exact f.rel.out i (nf i hi).2
 ·exact f.rel.low i (nf i hi).2
 ·exact (f.slot t).ext e (fun _ _ _=>⟨rfl,fun h=>h⟩)
 ·have hb2:=f.box k cs hb
  exact hb2.ext e (.inl rfl)
 ·obtain⟨h1,h2⟩:=nf i hi
  exact h1 (f.rel.inj i id h2 hl he)
theorem N4 {c:Cx}{Lo:Nat→Prop}{lam:Nat→Nat}{a:Act}(f:Fr L0 c Lo lam ds s a){x y:AV}{h':AHeap}(h:IC s.h x=some (y,h')) :
  Ext c Lo ⟨c.β,h',c.w,c.base⟩ Lo∧Fr L0 ⟨c.β,h',c.w,c.base⟩ Lo lam ds {s with h:=h'} a∧(∀v,VR c (un L0 Lo) x v→VR ⟨c.β,h',c.w,c.base⟩ (un L0 Lo) y v)∧∀i,Live h' i→Live c.h i:=by
 have same:Ext c Lo ⟨c.β,s.h,c.w,c.base⟩ Lo∧Fr L0 ⟨c.β,s.h,c.w,c.base⟩ Lo lam ds {s with h:=s.h} a∧(⟨c.β,s.h,c.w,c.base⟩:Cx)=c:=by
  have e:(⟨c.β,s.h,c.w,c.base⟩:Cx)=c:=by rw [←f.h]
  rw [e]; exact⟨Ext.refl _ _,f,rfl⟩
 unfold IC at h
 split at h
 ·simp only [ae2,ae9] at h
  obtain⟨rfl,rfl⟩:=h
  obtain⟨h1,h2,h3⟩:=same
  exact⟨h1,h2,fun v hv=>by rw [h3]; exact hv,fun i hi=>by rw [f.h]; exact hi⟩
 cases x with
 | rs id off len kA=>
  simp only at h
  split at h
  ·rename_i hid
   split at h
   rotate_left
   ·cases h
   rename_i hl0
   simp only [ae2,ae9] at h
   obtain⟨rfl,rfl⟩:=h
   obtain⟨h1,h2,h3⟩:=same
   refine⟨h1,h2,fun v hv=>?_,fun i hi=>by rw [f.h]; exact hi⟩
   simp only [VR] at hv ⊢
   rcases hv with⟨_,_,_,a,rfl⟩| hv
   ·exact⟨a,0,rfl,ae4 _,fun _=>rfl,.inr ⟨trivial,rfl⟩,.inl trivial⟩
   ·exact absurd hid hv.1
  rename_i mT
  rw [ae0] at h
  obtain⟨ob,ho,h⟩:=h
  cases ob with
  | map es=>cases h
  | row t cs=>cases h
  | cells cs=>
  simp only at h
  split at h
  rotate_left
  ·cases h
  rename_i hle
  simp only [ae2,ae9] at h
  obtain⟨rfl,rfl⟩:=h
  rw [←f.h] at ho
  have hl:Live c.h id:=⟨f.rel.lt _ _ ho,by simp [ho]⟩
  obtain⟨e,f',Px⟩:=f.Kp id
  have hb:(⟨c.β,s.h.kill id,c.w,c.base⟩:Cx)=⟨c.β,c.h.kill id,c.w,c.base⟩:=by rw [f.h]
  rw [hb]
  refine⟨e,f',fun v hv=>?_,fun i hi=>?_⟩
  ·simp only [VR] at hv ⊢
   rcases hv with hv | ⟨_,_,a,cap,rfl,h1,h2,h3⟩
   ·exact absurd hv.1 mT
   obtain⟨m,_,_,hc⟩:=f.rel.obj _ _ ho
   refine⟨a,cap,rfl,h1,by simp,.inl h2,?_⟩
   rcases h3 hl with⟨h4,_⟩| h4
   ·exact .inr ⟨_,_,h4,Px hl,by simp,Cells.move e _ _ _ _ _ (fun i hi=>rfl) ((hc.drop off).take (len*kA))⟩
   ·left
    have hz:len=0:=by omega
    subst hz
    simp
  ·have Gz:=hi.2
   simp only [AHeap.kill,beq_nat] at Gz
   by_cases h:i=id
   ·simp [h] at Gz
   ·simp only [h,decide_false,cond_false] at Gz
    rw [f.h]
    obtain⟨o,SQ⟩:=afI.1 Gz
    have:=f.rel.lt i o (by rw [f.h]; exact SQ)
    rw [f.h] at this
    exact⟨this,Gz⟩
 | _=>cases h
theorem GS:∀{cs:List AV} {c:Cx} {Lo:Nat→Prop} {lam:Nat→Nat} {a:Act} {s:RS} {ys:List AV} {h':AHeap},Fr L0 c Lo lam ds s a→A5 s.h cs=some (ys,h')→
  Ext c Lo ⟨c.β,h',c.w,c.base⟩ Lo∧Fr L0 ⟨c.β,h',c.w,c.base⟩ Lo lam ds {s with h:=h'} a∧(∀b o,Cells c (un L0 Lo) cs b o→Cells ⟨c.β,h',c.w,c.base⟩ (un L0 Lo) ys b o)∧∀i,Live h' i→Live c.h i
 | [],c,Lo,lam,a,s,ys,h',f,h=>by
  cases h
  have e:(⟨c.β,s.h,c.w,c.base⟩:Cx)=c:=by rw [←f.h]
  rw [e]
  exact⟨Ext.refl _ _,f,fun _ _ h=>h,fun i hi=>by rw [f.h]; exact hi⟩
 | x::cs,c,Lo,lam,a,s,ys,h',f,h=>by
  simp only [A5,ae0,ae1] at h
  obtain⟨⟨y,h1⟩,hx,⟨zs,h2⟩,hz,he⟩:=h
  simp only [ae9] at he
  obtain⟨rfl,rfl⟩:=he
  obtain⟨e1,f1,v1,l1⟩:=N4 f hx
  obtain⟨e2,f2,v2,l2⟩:=GS f1 hz
  refine⟨e1.trans e2,f2,fun b o hc=>?_,fun i hi=>l1 i (l2 i hi)⟩
  obtain⟨⟨v,q1,q2,q3⟩,hc⟩:=hc
  exact⟨⟨v,q1,q2,VR.ext e2 _ _ (v1 v q3)⟩,v2 _ _ (Cells.move e1 _ _ _ _ _ (fun i hi=>rfl) hc)⟩
theorem Bl {c:Cx}{Lo:Nat→Prop}{lam:Nat→Nat}{a:Act}(f:Fr L0 c Lo lam ds s a){k:Nat}{x y:AV}{h':AHeap}(h:kP k s.h x=some (y,h')) :
  (∀k off,x≠.lp k off)∧(∀k off,y≠.lp k off)∧∃c',c'.w=c.w∧Ext c Lo c' Lo∧Fr L0 c' Lo lam ds {s with h:=h'} a∧∀v,VR c (un L0 Lo) x v→VR c' (un L0 Lo) y v:=by
 cases k with
 | zero=>
  cases x with
  | nils=>
   simp only [kP,ae2,ae9] at h
   obtain⟨rfl,rfl⟩:=h
   refine⟨by simp,by simp,c,rfl,Ext.refl _ _,f,fun v hv=>?_⟩
   simp only [VR] at hv ⊢
   exact⟨none,0,hv,ae4 _,fun _=>rfl,.inr ⟨trivial,rfl⟩,.inl trivial⟩
  | fz cs m ex=>
   simp only [kP,ae2,ae9] at h
   obtain⟨rfl,rfl⟩:=h
   refine⟨by simp,by simp,c,rfl,Ext.refl _ _,f,fun v hv=>?_⟩
   simp only [VR] at hv ⊢
   obtain⟨a,cap,rfl,h1,h2,hs,hc⟩:=hv
   exact⟨a,cap,rfl,h1,by simp,hs,hc.imp id fun ⟨b,o,ha,hr,hex,hc⟩=>⟨b,o,ha,hr,by simp,hc⟩⟩
  | rs id off len kA=>
   simp only [kP] at h
   split at h
   ·rename_i hid
    split at h
    rotate_left
    ·cases h
    rename_i hl0
    simp only [ae2,ae9] at h
    obtain⟨rfl,rfl⟩:=h
    refine⟨by simp,by simp,c,rfl,Ext.refl _ _,f,fun v hv=>?_⟩
    simp only [VR] at hv ⊢
    rcases hv with⟨_,_,_,a,rfl⟩| hv
    ·exact⟨a,0,rfl,ae4 _,fun _=>rfl,.inr ⟨trivial,rfl⟩,.inl trivial⟩
    ·exact absurd hid hv.1
   rename_i mT
   rw [ae0] at h
   obtain⟨ob,ho,h⟩:=h
   cases ob with
   | map es=>cases h
   | row t cs=>cases h
   | cells cs=>
   simp only at h
   split at h
   rotate_left
   ·cases h
   rename_i hle
   rw [ae1] at h
   obtain⟨⟨gF,h2⟩,hz,he⟩:=h
   simp only [ae9] at he
   obtain⟨rfl,rfl⟩:=he
   rw [←f.h] at ho
   have hl:Live c.h id:=⟨f.rel.lt _ _ ho,by simp [ho]⟩
   obtain⟨e,f',Px⟩:=f.Kp id
   obtain⟨e2,f2,hcs,nf⟩:=GS f' hz
   refine⟨by simp,by simp,⟨c.β,h2,c.w,c.base⟩,rfl,e.trans e2,f2,fun v hv=>?_⟩
   simp only [VR] at hv ⊢
   rcases hv with hv | ⟨_,_,a,cap,rfl,h1,h2,h3⟩
   ·exact absurd hv.1 mT
   obtain⟨m,_,_,hc⟩:=f.rel.obj _ _ ho
   refine⟨a,cap,rfl,h1,by simp,.inl h2,?_⟩
   rcases h3 hl with⟨h4,_⟩| h4
   ·exact .inr ⟨_,_,h4,⟨fun i hi=>(Px hl).1 i (nf i hi),(Px hl).2⟩,by simp,hcs _ _ (Cells.move e _ _ _ _ _ (fun i hi=>rfl) ((hc.drop off).take (len*kA)))⟩
   ·left
    have hz0:len=0:=by omega
    subst hz0
    simp [A5] at hz
    exact hz.1
  | _=>simp [kP] at h
 | succ k=>
  have key:(x = .nils∨x = .fz [] 0 true)→y = .rs 0 0 0 (k+1)→h'=s.h→(∀k off,x≠.lp k off)∧(∀k off,y≠.lp k off)∧∃c',c'.w=c.w∧Ext c Lo c' Lo∧Fr L0 c' Lo lam ds {s with h:=h'} a∧∀v,VR c (un L0 Lo) x v→VR c' (un L0 Lo) y v:=by
   rintro hx rfl rfl
   refine⟨by rcases hx with rfl | rfl<;>simp,by simp,c,rfl,Ext.refl _ _,f,fun v hv=>?_⟩
   rcases hx with rfl | rfl
   ·simp only [VR] at hv ⊢
    exact .inl ⟨trivial,trivial,trivial,none,hv⟩
   ·simp only [VR] at hv ⊢
    obtain⟨a,cap,rfl,h1,h2,hs,hc⟩:=hv
    have:=h2 trivial
    subst this
    exact .inl ⟨trivial,trivial,trivial,a,rfl⟩
  unfold kP at h
  simp only at h
  split at h
  ·simp only [ae2,ae9] at h
   exact key (.inl rfl) h.1.symm h.2.symm
  ·simp only [ae2,ae9] at h
   exact key (.inr rfl) h.1.symm h.2.symm
  ·simp only [ae2,ae9] at h
   obtain⟨rfl,rfl⟩:=h
   exact⟨by simp,by simp,c,rfl,Ext.refl _ _,f,fun v hv=>hv⟩
  ·cases h
end
end Go.R
namespace Go.R
open Go
def CallOK (P:Program)(cf:CallF):Prop:=
 ∀f args h r h',cf f args h=some (r,h')→
  (∀(vs:Array Value) (w:World),(callFunc f vs).run P w = .ok (.enter f vs) w)∧
  ∀(L0:Nat→Prop) (c:Cx) (vs:List Value),c.h=h→c.base≤c.w.heap.size→HRel c L0→VRs c L0 args vs→
   Calls P f vs.toArray c.w fun e w'=>∃c' v,e = .returned v∧c'.w=w'∧c'.h=h'∧VR c' L0 r v∧HRel c' L0∧Ext c none0 c' none0
section
variable {P:Program}{L0:Nat→Prop}{c0:Cx}{n:Nat}{ds:List Nat}{o:Oper}{s:RS}
theorem Fr.call {c c':Cx}{Lo:Nat→Prop}{lam:Nat→Nat}{a:Act}(f:Fr L0 c Lo lam ds s a)(hr:HRel c' (un L0 Lo))(e:Ext c none0 c' none0) :
  Ext c Lo c' Lo∧Fr L0 c' Lo lam ds {s with h:=c'.h} a:=by
 have vw:∀b,Lo b→b<c.w.heap.size:=fun b hb=>f.rel.bd b (.inr hb)
 have e':Ext c Lo c' Lo:=
  ⟨e.next,e.live,e.size,fun b h1 _ h3=>e.keep b h1 (fun h=>h.elim) h3,e.exact,e.base,e.NP,fun _ h=>h,fun _ h=>.inl h,e.os,e.tape,e.output⟩
 refine⟨e',rfl,hr,fun t=>(f.slot t).ext e' (fun _ _ _=>⟨rfl,fun h=>h⟩),fun k cs hb=>?_,f.inj,f.tidy,f.defers,fun b hb=>by rw [e.base]; exact f.J6 b hb⟩
 have ob:=f.box k cs hb
 exact ob.ext e' (e.keep _ ob.plain.lt (fun h=>h.elim) fun id hl he=>f.rel.out id hl (he ▸ .inr ob.own))
theorem N6 {cf:CallF}(hcf:CallOK P cf)(hb0:c0.base≤c0.w.heap.size)(hd:jk n ds o){fx:Operand}{args:Array Operand}{GQ:Array TypeId}(ho:o.op = .call {callee:=.value fx,args:=args,argTypes:=GQ}){Fq:FuncId}{cap:List AV}
  (hf:ck s.ρ fx = .fn Fq cap) (ha:(args.toList.map (ck s.ρ)).all AV.nI=true) {r:AV} {h':AHeap} (h:cf Fq (args.toList.map (ck s.ρ)++cap) s.h=some (r,h')) {aS:List Nat} {y:AV} {h2:AHeap} (hy:A6 aS o.dst (r,h')=some (y,h2)) :
  lI P L0 c0 n ds o s ({s with h:=h2}.set o.dst y):=by
 rintro a w K Q ⟨hn,c,Lo,lam,rfl,f,e0⟩ hK
 obtain⟨hin,hcall⟩:=hcf _ _ _ _ _ h
 have WV:=b6 f fx
 rw [hf] at WV
 simp only [SR,VR] at WV
 obtain⟨cv,hfe,TG⟩:=WV
 have hargs:VRs c (un L0 Lo) (args.toList.map (ck s.ρ)) (args.toList.map a.eval):=by
  refine rl f _ fun x hx=>xN ?_
  rw [afr] at ha
  exact ha _ (afu.2 ⟨x,hx,rfl⟩)
 have mC:=VRs.append hargs TG
 unfold Oper.wp
 have:(execOp a.eval o).run P c.w = .ok (.enter Fq (args.map a.eval++cv)) c.w:=by
  simp [execOp,ho,resolve,hfe,Deferred.ofValue,invoke,hin]
 rw [this,Oper.upon_enter]
 have hc:=hcall (un L0 Lo) c _ f.h (lE e0 hb0) f.rel mC
 have he:(args.toList.map a.eval++cv.toList).toArray=args.map a.eval++cv:=by
  apply agH; simp
 rw [he] at hc
 refine Calls.mono hc ?_
 rintro e w' ⟨c',v,rfl,rfl,hh,hv,hrel,Qy⟩
 obtain⟨e',f'⟩:=f.call hrel Qy
 rw [hh] at f'
 have fin:y=r→h2=h'→K (a.put o.dst v) c'.w:=by
  rintro rfl rfl
  exact hK _ _ ⟨(jj _ _ _).trans hn,c',Lo,lam,rfl,f'.set (SR.of hv) (fun t ht=>by rw [hn]; exact hd t ht),e0.trans e'⟩
 unfold A6 at hy
 cases hm:Tw aS o.dst with
 | false=>rw [hm,cond_false] at hy; cases hy; exact fin rfl rfl
 | true=>
  rw [hm,cond_true] at hy
  obtain⟨_,_,c2,hw,e2,f2,Qm⟩:=Bl (s:={s with h:=h'}) f' hy
  have Wz:=Qm v hv
  refine hK _ _ ⟨(jj _ _ _).trans hn,c2,Lo,lam,hw,f2.set (SR.of Wz) (fun t ht=>by rw [hn]; exact hd t ht),(e0.trans e').trans e2⟩
theorem Option.map_some' {α β:Type}{x:Option α}{g:α→β}{y:β}(h:x.map g=some y):∃z,x=some z∧g z=y:=ae1.1 h
theorem z8 {aS:List Nat}{cs:List AV}{s':RS}(h:kp s aS ds o cs=some s'):cs.all AV.cL=true:=by
 unfold kp at h
 split at h
 ·assumption
 ·cases h
theorem Qz {cf:CallF}(hcf:CallOK P cf)(hb0:c0.base≤c0.w.heap.size)(hd:jk n ds o){aS:List Nat}{s':RS}(h:A7 P cf aS ds s o=some s'):lI P L0 c0 n ds o s s':=by
 have fL:∀{x:Option AV},(x.map fun x=>s.set o.dst x)=some s'→(∀z,x=some z→lI P L0 c0 n ds o s (s.set o.dst z))→lI P L0 c0 n ds o s s':=by
  intro x hx hz
  obtain⟨z,rfl,rfl⟩:=Option.map_some' hx
  exact hz z rfl
 unfold A7 E9 at h
 dsimp only at h
 split at h
 ·rename_i x ho; cases h; exact GP hd (.inl ho)
 ·rename_i x ho; cases h; exact GP hd (.inr ho)
 ·rename_i k x y ho
  obtain⟨t,ht,rfl⟩:=Option.map_some' h
  exact N3 hd ho ht
 ·
  rename_i t ho
  rw [ae0] at h
  obtain⟨z,hz,h⟩:=h
  refine zY hb0 hd t h fun a c Lo lam f hn=>?_
  have sK:=z8 h
  obtain⟨v,h1,h2,h3⟩:=IJ (P:=P) (c:=c) hz (NX sK) (un L0 Lo)
  exact⟨v,by simp [execOp,ho,h1],GH h2,h3⟩
 ·
  rename_i t x ho
  refine zY hb0 hd t h fun a c Lo lam f hn=>?_
  have sK:(ck s.ρ x).cells.all AV.cL=true:=z8 h
  obtain⟨h1,h2⟩:=kQ sK ((b6 f x).w6 sK)
  exact⟨a.eval x,by simp [execOp,ho,Instr.box,newVar,newRow],h1,h2⟩
 ·rename_i t ps ho
  refine fL h fun z hz=>iC hd fun a c Lo lam f hn=>?_
  obtain⟨z0,hz0,rfl⟩:=ae1.1 hz
  obtain⟨v,hr,hv⟩:=run_build (P:=P) (sX f ps.toList) hz0
  refine⟨v,?_,SR.of (NW hv)⟩
  have he:ps.map (fun (i,x)=>(i,a.eval x))=(ps.toList.map fun (i,x)=>(i,a.eval x)).toArray:=by
   apply agH; simp
  simp only [execOp,ho,Sem.run_bind]
  rw [he,hr]
  rfl
 ·rename_i t k ps ho
  rw [ae1] at h
  obtain⟨z,hz,rfl⟩:=h
  exact xJ hb0 hd ho aS hz
 ·
  rename_i t x ho
  refine fL h fun z hz=>iC hd fun a c Lo lam f hn=>?_
  obtain⟨r,hr,hv⟩:=xB (P:=P) f (t:=t) (b6 f x) hz
  exact⟨r,by simp [execOp,ho,hr],SR.of hv⟩
 ·
  rename_i t x y ho
  split at h
  ·cases h
  rename_i wk
  exact Kf hb0 hd ho (by simpa using wk) h
 ·rename_i ho; exact fL h fun z hz=>Da hd ho hz
 ·rename_i ho; exact fL h fun z hz=>Ko hd ho hz
 ·rename_i ho; exact fL h fun z hz=>N2 hd ho hz
 ·rename_i ho; exact fL h fun z hz=>Fo hb0 hd ho hz
 ·rename_i Fq first cap ho
  split at h
  ·rename_i hh
   refine fL h fun z hz=>?_
   cases hz
   exact Db hd ho hh.1 hh.2
  ·cases h
 ·rename_i ho; cases h; exact Fj hb0 hd ho
 ·rename_i ho; exact Be hb0 hd ho h
 ·
  rename_i t x lo hi mx ho
  refine fL h fun z hz=>iC hd fun a c Lo lam f hn=>?_
  have hs:∀(q:Option Operand) (y:AV),q.map (ck s.ρ)=some y→∃v,q.map a.eval=some v∧SR c L0 Lo lam s.bx y v:=by
   intro q y hq
   obtain⟨u,rfl,rfl⟩:=Option.map_some' hq
   exact⟨_,rfl,b6 f u⟩
  have SS:∀(q:Option Operand),q.map (ck s.ρ)=none→q.map a.eval=none:=by
   intro q hq
   simpa using hq
  obtain⟨r,hr,hv⟩:=Fh (P:=P) (b6 f x) (hs lo) (SS lo) (hs hi) (SS hi) (hs mx) (SS mx) hz
  exact⟨r,by simp [execOp,ho,hr],SR.of hv⟩
 ·rename_i t x i ho
  refine fL h fun z hz=>iC hd fun a c Lo lam f hn=>?_
  obtain⟨r,hr,hv⟩:=CY (P:=P) (b6 f x) hz
  exact⟨r,by simp [execOp,ho,hr],hv⟩
 ·rename_i t x i ho
  refine fL h fun z hz=>iC hd fun a c Lo lam f hn=>?_
  obtain⟨r,hr,hv⟩:=Ff (P:=P) (b6 f x) hz
  exact⟨r,by simp [execOp,ho,hr],SR.of hv⟩
 ·rename_i t x i ho
  refine fL h fun z hz=>iC hd fun a c Lo lam f hn=>?_
  obtain⟨r,hr,hv⟩:=CX (P:=P) (b6 f x) (b6 f i) hz
  exact⟨r,by simp [execOp,ho,hr],hv⟩
 ·rename_i t x i ho
  refine fL h fun z hz=>iC hd fun a c Lo lam f hn=>?_
  obtain⟨r,hr,hv⟩:=Fg (P:=P) (b6 f x) (b6 f i) hz
  exact⟨r,by simp [execOp,ho,hr],SR.of hv⟩
 ·rename_i t m k ok ho
  refine fL h fun z hz=>iC hd fun a c Lo lam f hn=>?_
  obtain⟨r,hr,hv⟩:=C3 (P:=P) f (b6 f m) (b6 f k) hz
  exact⟨r,by simp [execOp,ho,hr],SR.of hv⟩
 ·rename_i t m k x ho
  split at h
  ·cases h
  rename_i wk
  obtain⟨h',hh,rfl⟩:=Option.map_some' h
  exact sZ hb0 (.inl ho) (by simpa using wk) hh
 ·rename_i t m k x ho
  split at h
  ·cases h
  rename_i wk
  obtain⟨h',hh,rfl⟩:=Option.map_some' h
  exact sZ hb0 (.inr ho) (by simpa using wk) hh
 ·rename_i ho; exact fL h fun z hz=>Fs hd ho hz
 ·
  rename_i b args GQ ho
  unfold iL at h
  split at h
  ·rename_i t x hts hargs
   have Ft:GQ = #[t]:=by apply agH; simpa using hts
   obtain⟨q,hq,rfl⟩:∃q,args = #[q]∧ck s.ρ q=x:=by
    cases args with | mk l=>
    rcases l with _ | ⟨q,_ | ⟨q2,l⟩⟩<;>simp at hargs
    exact⟨q,rfl,hargs⟩
   subst Ft hq
   refine fL h fun z hz=>iC hd fun a c Lo lam f hn=>?_
   obtain⟨r,hr,hv⟩:=Kc (P:=P) f #[t] rfl (b6 f q) hz o.type
   exact⟨r,by simp [execOp,ho,resolve,invoke,builtin,hr],SR.of hv⟩
  ·rename_i t t2 x y hts hargs
   have Ft:GQ = #[t,t2]:=by apply agH; simpa using hts
   obtain⟨q,q2,hq,rfl,rfl⟩:∃q q2,args = #[q,q2]∧ck s.ρ q=x∧ck s.ρ q2=y:=by
    cases args with | mk l=>
    rcases l with _ | ⟨q,_ | ⟨q2,_ | ⟨q3,l⟩⟩⟩<;>simp at hargs
    exact⟨q,q2,rfl,hargs.1,hargs.2⟩
   subst Ft hq
   exact IK hb0 hd ho h
  ·rename_i t t2 x y hts hargs
   have Ft:GQ = #[t,t2]:=by apply agH; simpa using hts
   obtain⟨q,q2,hq,rfl,rfl⟩:∃q q2,args = #[q,q2]∧ck s.ρ q=x∧ck s.ρ q2=y:=by
    cases args with | mk l=>
    rcases l with _ | ⟨q,_ | ⟨q2,_ | ⟨q3,l⟩⟩⟩<;>simp at hargs
    exact⟨q,q2,rfl,hargs.1,hargs.2⟩
   subst Ft hq
   obtain⟨⟨z,h'⟩,hh,rfl⟩:=Option.map_some' h
   exact N0 hb0 hd ho hh
  ·rename_i t x hts hargs
   have Ft:GQ = #[t]:=by apply agH; simpa using hts
   obtain⟨q,hq,rfl⟩:∃q,args = #[q]∧ck s.ρ q=x:=by
    cases args with | mk l=>
    rcases l with _ | ⟨q,_ | ⟨q2,l⟩⟩<;>simp at hargs
    exact⟨q,rfl,hargs⟩
   subst Ft hq
   obtain⟨h',hh,rfl⟩:=Option.map_some' h
   exact Km hb0 hd ho hh
  ·rename_i x xs hargs
   rw [ae0] at h
   obtain⟨v,hv,h⟩:=h
   rw [ae0] at h
   obtain⟨vs,JQ,h⟩:=h
   rw [ae0] at h
   obtain⟨u,hu,h⟩:=h
   exact fL h fun z hz=>z7 hd ho (.inl ⟨rfl,rfl⟩) hargs hv JQ hu hz
  ·rename_i x xs hargs
   rw [ae0] at h
   obtain⟨v,hv,h⟩:=h
   rw [ae0] at h
   obtain⟨vs,JQ,h⟩:=h
   rw [ae0] at h
   obtain⟨u,hu,h⟩:=h
   exact fL h fun z hz=>z7 hd ho (.inr ⟨rfl,rfl⟩) hargs hv JQ hu hz
  ·cases h
 ·
  rename_i fx args GQ ho
  split at h
  ·rename_i Fq cap heq
   split at h
   ·rename_i ha
    obtain⟨⟨r,h'⟩,hh,rfl⟩:=Option.map_some' h
    rw [ae0] at hh
    obtain⟨⟨r0,h0⟩,hh,hm⟩:=hh
    exact N6 hcf hb0 hd ho heq ha hh hm
   ·cases h
  ·cases h
 ·cases h
end
end Go.R
namespace Go.R
open Go
section
variable {P:Program}{L0:Nat→Prop}{c0:Cx}{n:Nat}{ds:List Nat}{s:RS}
theorem rm {h:AHeap}:∀{cs:List AV},dH cs=true→A5 h cs=some (cs,h)
 | [],_=>rfl
 | x::cs,hn=>by
  simp only [dH,ae3] at hn
  simp only [A5,IC,hn.1,if_true,aeZ,rm hn.2,ae6]
theorem Dc {h h':AHeap}{x y:AV}(hz:IC h x=some (y,h')):Steady h h':=by
 unfold IC at hz
 split at hz
 ·cases hz; exact Steady.refl _
 split at hz
 ·split at hz
  ·split at hz
   ·cases hz; exact Steady.refl _
   ·cases hz
  rw [ae0] at hz
  obtain⟨o,_,hz⟩:=hz
  split at hz
  ·split at hz
   ·cases hz; exact Steady.kill _ _
   ·cases hz
  ·cases hz
 ·cases hz
theorem vG:∀{cs ys:List AV} {h h':AHeap},A5 h cs=some (ys,h')→Steady h h'
 | [],ys,h,h',hz=>by cases hz; exact Steady.refl _
 | x::cs,ys,h,h',hz=>by
  simp only [A5,ae0,ae1] at hz
  obtain⟨⟨y,h1⟩,hx,⟨zs,h2⟩,hz,he⟩:=hz
  simp only [ae9] at he
  obtain⟨rfl,rfl⟩:=he
  exact (Dc hx).trans (vG hz)
theorem Inv.Ba {a:Act}{w:World}{p:Nat × Option Nat × Nat}{s':RS}(hi:Inv L0 c0 n ds s a w)(h:Ba s p=some s'):Inv L0 c0 n ds s' a w:=by
 obtain⟨hn,c,Lo,lam,rfl,f,e⟩:=hi
 unfold Go.R.Ba at h
 split at h
 ·rw [ae1] at h
  obtain⟨⟨y,h'⟩,hz,rfl⟩:=h
  obtain⟨hx,hy,c',hw,e',f',hv⟩:=Bl f hz
  refine⟨hn,c',Lo,lam,hw,⟨f'.h,f'.rel,fun t=>?_,f'.box,f'.inj,fun t k off ht he=>?_,f'.defers,f'.J6⟩,e.trans e'⟩
  ·simp only [beq_nat]
   by_cases ht:t=p.1
   ·subst ht
    simp only [decide_true,cond_true]
    exact SR.of (hv _ ((f.slot _).vr hx))
   ·simp only [ht,decide_false,cond_false]
    exact f'.slot t
  ·simp only [beq_nat] at he
   by_cases htp:t=p.1
   ·simp only [htp,decide_true,cond_true] at he
    exact absurd he (hy _ _)
   ·simp only [htp,decide_false,cond_false] at he
    exact f'.tidy t k off ht he
 ·rename_i i hp
  split at h
  rotate_left
  ·cases h
  rename_i cs hcs
  simp only [ae0,ae1] at h
  obtain⟨x,hx,⟨y,h'⟩,hz,rfl⟩:=h
  obtain⟨hx1,hy,c',hw,e',f',hv⟩:=Bl f hz
  have uf:∀k,(bif afN k p.1 then some (cs.set i y) else s.bx k).isSome=(s.bx k).isSome:=fun k=>by
   simp only [beq_nat]
   by_cases hk:k=p.1
   ·subst hk; simp [hcs]
   ·simp [hk]
  refine⟨hn,c',Lo,lam,hw,⟨f'.h,f'.rel,fun t=>?_,fun k gF hb=>?_,fun k k' h1 h2=>f'.inj k k' (by rw [←uf]; exact h1) (by rw [←uf]; exact h2),f'.tidy,f'.defers,f'.J6⟩,e.trans e'⟩
  ·have:=f'.slot t
   unfold SR at this ⊢
   split
   ·rename_i k off he
    rw [he] at this
    simp only at this
    exact⟨this.1,by rw [uf]; exact this.2⟩
   ·rename_i x' N1
    split at this
    ·rename_i he; exact absurd he (N1 _ _)
    ·exact this
  ·simp only [beq_nat] at hb
   by_cases hk:k=p.1
   ·subst hk
    simp only [decide_true,cond_true,ae2] at hb
    subst hb
    have ob:=f.box _ cs hcs
    have WW:=f'.box _ cs hcs
    refine⟨WW.own,by rw [afJ]; exact WW.plain,?_⟩
    obtain⟨vs,q1,q2,q3⟩:=ob.cells.vals
    obtain⟨vs',r1,r2,r3⟩:=WW.cells.vals
    have hlen:vs=vs':=by
     apply af0
     intro j
     by_cases hj:j<cs.length
     ·rw [←q2 j hj,←r2 j hj,hw]
     ·rw [afp (by rw [←q1.length]; omega),afp (by rw [←r1.length]; omega)]
    subst hlen
    obtain⟨u,hu,hr⟩:=VRs.get q1 i x hx
    have Fm:VRs c' (un L0 Lo) (cs.set i y) vs:=by
     have:=VRs.set (hv u hr) i r1
     have SM:vs.set i u=vs:=by
      apply af0
      intro j
      rw [agl]
      by_cases hji:i=j
      ·subst hji
       rw [if_pos rfl,hu]
       have:=(ae5.1 hu).1
       simp [this]
      ·rw [if_neg hji]
     rwa [SM] at this
    exact Cells.of_vals Fm (fun j hj=>by rw [r2 j (by rw [r1.length]; exact hj)]) r3
   ·simp only [hk,decide_false,cond_false] at hb
    exact f'.box k gF hb
theorem Inv.nK {a:Act}{w:World}:∀{l:List (Nat × Option Nat × Nat)} {s s':RS},Inv L0 c0 n ds s a w→nK s l=some s'→Inv L0 c0 n ds s' a w
 | [],s,s',hi,h=>by cases h; exact hi
 | p::ps,s,s',hi,h=>by
  simp only [Go.R.nK,ae0] at h
  obtain⟨s1,h1,h2⟩:=h
  exact Inv.nK (hi.Ba h1) h2
theorem N7 {A:bX}{r:Nat}{s:RS}:(s.pZ A r).h=s.h:=by
 unfold RS.pZ
 split<;>rfl
theorem qg {k:Nat}{h h':AHeap}{x y:AV}(hz:kP k h x=some (y,h')):Steady h h':=by
 unfold kP at hz
 split at hz
 ·split at hz
  ·cases hz; exact Steady.refl _
  ·split at hz
   ·split at hz
    ·cases hz; exact Steady.refl _
    ·cases hz
   rw [ae0] at hz
   obtain⟨o,_,hz⟩:=hz
   split at hz
   ·split at hz
    ·rw [ae1] at hz
     obtain⟨⟨gF,h2⟩,hz,he⟩:=hz
     simp only [ae9] at he
     obtain⟨rfl,rfl⟩:=he
     exact (Steady.kill _ _).trans (vG hz)
    ·cases hz
   ·cases hz
  ·cases hz; exact Steady.refl _
  ·cases hz
 ·split at hz<;>cases hz<;>exact Steady.refl _
theorem Dd {s s':RS}{p:Nat × Option Nat × Nat}(hz:Ba s p=some s'):Steady s.h s'.h:=by
 unfold Ba at hz
 split at hz
 ·rw [ae1] at hz
  obtain⟨⟨y,h'⟩,hz,rfl⟩:=hz
  exact qg hz
 ·split at hz
  ·simp only [ae0,ae1] at hz
   obtain⟨x,hx,⟨y,h'⟩,hz,rfl⟩:=hz
   exact qg hz
  ·cases hz
theorem qh:∀{l:List (Nat × Option Nat × Nat)} {s s':RS},nK s l=some s'→Steady s.h s'.h
 | [],s,s',h=>by cases h; exact Steady.refl _
 | p::ps,s,s',h=>by
  simp only [nK,ae0] at h
  obtain⟨s1,h1,h2⟩:=h
  exact (Dd h1).trans (qh h2)
end
end Go.R
namespace Go.R
open Go
section
variable {P:Program}{L0:Nat→Prop}{c0:Cx}{n:Nat}{ds:List Nat}{o:Oper}{s:RS}
theorem IN {ops:Array Oper}{c:Cx}{Lo:Nat→Prop}{lam:Nat→Nat}{a:Act}(f:Fr L0 c Lo lam ds s a){b:Bool}(h:jN ops.toList s.ρ o=some b):Region.wanted o (yielded ops a.tmps)=b:=by
 unfold jN at h
 unfold Region.wanted
 split at h
 ·rename_i hg; rw [hg]; cases h; rfl
 ·rename_i j want hg
  rw [hg]
  rw [ae0] at h
  obtain⟨d,hd,h⟩:=h
  have NA:(ops[j]?).bind (·.dst)=some d:=by simpa using hd
  have hs:=f.slot d
  simp only [yielded,NA,aeZ]
  rw [Array.getD_eq_getD_getElem?] at hs
  split at h
  ·rename_i b' hb
   cases h
   rw [hb] at hs
   simp only [SR,VR] at hs
   cases hq:a.tmps[d]? with
   | none=>rw [hq] at hs; simp [undef] at hs
   | some v=>
    rw [hq] at hs
    simp only [af6] at hs
    subst hs
    cases b'<;>cases want<;>rfl
  ·rename_i hb
   cases h
   rw [hb] at hs
   simp only [SR,VR] at hs
   obtain⟨vs,hv,_⟩:=hs
   cases hq:a.tmps[d]? with
   | none=>rfl
   | some v=>
    rw [hq] at hv
    simp only [af6] at hv
    subst hv
    rfl
  ·cases h
theorem De {cf:CallF}(hcf:CallOK P cf)(hb0:c0.base≤c0.w.heap.size){ops:Array Oper}(QB:ds=ops.toList.filterMap (·.dst))(hd:jk n ds o){aS:List Nat}{s':RS}(h:pY P cf aS ops.toList s o=some s')
  {a:Act} {w:World} {K:Act→World→Prop} {Q:Exit→Act→World→Prop} (hi:Inv L0 c0 n ds s a w) (hK:∀a' w',Inv L0 c0 n ds s' a' w'→K a' w') :
  if Region.wanted o (yielded ops a.tmps) then o.wp P a w K Q else K (a.put o.dst undef) w:=by
 unfold pY at h
 rw [ae0] at h
 obtain⟨b,hb,h⟩:=h
 have hi0:=hi
 obtain⟨hn,c,Lo,lam,rfl,f,e⟩:=hi
 rw [IN f hb]
 cases b with
 | true=>
  simp only [if_true] at h ⊢
  rw [←QB] at h
  exact Qz hcf hb0 hd h a c.w K Q hi0 hK
 | false=>
  simp only [afa,if_false,ae2] at h ⊢
  subst h
  exact hK _ _ ⟨(jj _ _ _).trans hn,c,Lo,lam,rfl,f.set (SR.of (by simp [VR,undef,VRs])) (fun t ht=>by rw [hn]; exact hd t ht),e⟩
def Aa (n:Nat)(ops:List Oper):Bool:=ops.all fun o=>match o.dst with | some t=>Nat.blt t n | none=>true
theorem Df {ops:List Oper}(h:Aa n ops=true){o:Oper}(ho:o∈ops):jk n (ops.filterMap (·.dst)) o:=by
 intro t ht
 unfold Aa at h
 rw [afr] at h
 have:=h o ho
 rw [ht] at this
 exact⟨Nat.blt_eq.mp this,List.mem_filterMap.2 ⟨o,ho,ht⟩⟩
theorem GU {cf:CallF}(hcf:CallOK P cf)(hb0:c0.base≤c0.w.heap.size){ops:Array Oper}(QB:ds=ops.toList.filterMap (·.dst))(C5:Aa n ops.toList=true){aS:List Nat}{Q:Exit→Act→World→Prop}{s':RS}(hQ:∀a' w',Inv L0 c0 n ds s' a' w'→Q .normal a' w') :
  ∀(l:List Oper) (s:RS),(∀o∈l,o∈ops.toList)→wi P cf aS ops.toList s l=some s'→∀a w,Inv L0 c0 n ds s a w→wpList P ops Q l a w
 | [],s,_,h,a,w,hi=>by
  simp only [wi,ae2] at h
  subst h
  exact wpList_nil (hQ a w hi)
 | o::l,s,hl,h,a,w,hi=>by
  simp only [wi,ae0] at h
  obtain⟨s1,h1,h2⟩:=h
  refine wpList_step fun K hK=>?_
  exact De hcf hb0 QB (by rw [QB]; exact Df C5 (hl o (by simp))) h1 hi fun a' w' mw=>hK a' w' (GU hcf hb0 QB C5 hQ l s1 (fun o ho=>hl o (by simp [ho])) h2 a' w' mw)
theorem kT {α:Type}(d:α):∀(ks:List Nat) (g:Nat→α) (t:Nat),look d ks (ks.map g) t=if t∈ks then g t else d
 | [],g,t=>rfl
 | k::ks,g,t=>by
  simp only [afs,look,beq_nat,kT d ks g t,afq]
  by_cases h:t=k
  ·subst h; simp
  ·simp [h]
theorem Fr.forget {c:Cx}{Lo:Nat→Prop}{lam:Nat→Nat}{a:Act}(f:Fr L0 c Lo lam ds s a){s2:RS}(hh:s2.h=s.h)(hb:∀k cs,s2.bx k=some cs→s.bx k=some cs)
  (hr:∀t,s2.ρ t = .any∨s2.ρ t=s.ρ t∧∀k off,s.ρ t = .lp k off→k=t∧((s.bx k).isSome=true→(s2.bx k).isSome=true)):Fr L0 c Lo lam [] s2 a:=by
 refine⟨f.h.trans hh.symm,f.rel,fun t=>?_,fun k cs h=>f.box k cs (hb k cs h),fun k k' h h'=>f.inj k k' ?_ ?_,fun t k off _ he=>?_,f.defers,f.J6⟩
 ·rcases hr t with h | ⟨h,h2⟩
  ·rw [h]; exact SR.of (by simp [VR])
  ·rw [h]
   have hs:=f.slot t
   cases hx:s.ρ t<;>rw [hx] at hs<;>try exact hs
   rename_i k off
   simp only [SR] at hs ⊢
   exact⟨hs.1,(h2 k off hx).2 hs.2⟩
 ·obtain⟨cs,hcs⟩:=afI.1 h; rw [hb k cs hcs]; rfl
 ·obtain⟨cs,hcs⟩:=afI.1 h'; rw [hb k' cs hcs]; rfl
 ·rcases hr t with h | ⟨h,h2⟩
  ·rw [h] at he; cases he
  ·exact (h2 k off (h ▸ he)).1
theorem Inv.shut {a:Act}{w:World}(A:bX)(h:Inv L0 c0 n ds s a w):Inv L0 c0 n [] ((s.shut A).open A) a w:=by
 obtain⟨hn,c,Lo,lam,rfl,f,e⟩:=h
 refine⟨hn,c,Lo,lam,rfl,f.forget rfl (fun k cs hk=>?_) (fun t=>?_),e⟩
 ·simp only [RS.shut,St.open,kT] at hk
  split at hk
  ·exact hk
  ·cases hk
 ·simp only [RS.shut,St.open,kT]
  split
  ·unfold CU
   cases hx:s.ρ t<;>simp only<;>try (right; exact⟨trivial,fun k off he=>by cases he⟩)
   rename_i k off
   cases hc:(afN k t&&afN off 0&&A.aS.contains k) with
   | false=>left; rfl
   | true=>
    right
    simp only [ae3,beq_nat,decide_eq_true_eq,List.contains_iff_mem] at hc
    refine⟨rfl,fun k' acz he=>?_⟩
    cases he
    refine⟨hc.1.1,fun hs=>?_⟩
    rw [if_pos hc.2]
    exact hs
  ·left; rfl
theorem Inv.pZ {a:Act}{w:World}(A:bX)(r:Nat)(h:Inv L0 c0 n ds s a w):Inv L0 c0 n [] ((s.pZ A r).open A) a w:=by
 unfold RS.pZ
 split
 ·exact h.shut A
 rename_i dl _
 have h2:=h.shut A
 obtain⟨hn,c,Lo,lam,hw,f,e⟩:=h2
 have TF:∀k,(St.open A {vars:=A.keep.map (fun t=>bif (iS r A.dead).contains t then .any else CU A.aS s.ρ t),SK:=A.aS.map (fun k=>bif (iS r A.dead).contains k then none else s.bx k),h:=s.h}).bx k=bif (iS r A.dead).contains k then none else (St.open A (s.shut A)).bx k:=by
  intro k
  simp only [RS.shut,St.open,kT]
  cases (iS r A.dead).contains k<;>simp
 refine⟨hn,c,Lo,lam,hw,f.forget rfl (fun k cs hk=>?_) (fun t=>?_),e⟩
 ·rw [TF] at hk
  cases hc:(iS r A.dead).contains k with
  | true=>rw [hc] at hk; cases hk
  | false=>rw [hc] at hk; exact hk
 ·have hv:(St.open A {vars:=A.keep.map (fun t=>bif (iS r A.dead).contains t then .any else CU A.aS s.ρ t),SK:=A.aS.map (fun k=>bif (iS r A.dead).contains k then none else s.bx k),h:=s.h}).ρ t=bif (iS r A.dead).contains t then .any else (St.open A (s.shut A)).ρ t:=by
   simp only [RS.shut,St.open,kT]
   cases (iS r A.dead).contains t<;>simp
  rw [hv]
  cases hc:(iS r A.dead).contains t with
  | true=>left; rfl
  | false=>
   right
   refine⟨rfl,fun k off he=>?_⟩
   have NZ:k=t:=f.tidy t k off (by simp) he
   refine⟨NZ,fun hs=>?_⟩
   rw [TF,NZ,hc]
   rw [NZ] at hs
   exact hs
theorem Inv.wide {a:Act}{w:World}(h:Inv L0 c0 n [] s a w)(ds:List Nat):Inv L0 c0 n ds s a w:=by
 obtain⟨hn,c,Lo,lam,rfl,f,e⟩:=h
 exact⟨hn,c,Lo,lam,rfl,⟨f.h,f.rel,f.slot,f.box,f.inj,fun t k off _ he=>f.tidy t k off (by simp) he,f.defers,f.J6⟩,e⟩
theorem Inv.drew {a:Act}{w:World}(h:Inv L0 c0 n ds s a w):Inv L0 c0 n ds s a {w with drawn:=w.drawn+1}:=by
 obtain⟨hn,c,Lo,lam,rfl,f,e⟩:=h
 obtain⟨e',f'⟩:=f.world (w':={c.w with drawn:=c.w.drawn+1}) (fun b _=>.inl rfl) (fun _ _=>rfl) (fun b _=>rfl) (ae4 _) rfl rfl rfl
 exact⟨hn,_,Lo,lam,rfl,f',e.trans e'⟩
def qi (P:Program)(c:Code)(Q:Exit→Act→World→Prop)(a:Act)(w:World):Prop:=
 ∀(b:Frame) (k:List Item) (cs:List Frame),∃e a' w',Q e a' w'∧Arrives P (lone (b.at a (.code c :: .inLoop c::k)) cs w) b k cs e a' w'
theorem qi.step {c:Code}{Q:Exit→Act→World→Prop}{a:Act}{w:World}(h:c.wp P (Exit.then (qi P c Q) Q) a w):qi P c Q a w:=by
 intro b k cs
 obtain⟨e,a₁,w₁,hq,Dg⟩:=h b (.inLoop c::k) cs
 cases e with
 | normal=>
  obtain⟨e₂,a₂,w₂,hq₂,TV⟩:=hq b k cs
  exact⟨e₂,a₂,w₂,hq₂,.of_steps (Steps.trans Dg (.one step_inLoop)) TV⟩
 | exit id=>exact⟨_,a₁,w₁,hq,.pass (x:=.inLoop c) rfl (fun _ _=>.inl (by simp)) Dg⟩
 | goto l=>exact⟨_,a₁,w₁,hq,.pass (x:=.inLoop c) rfl (fun _ _=>.inl (by simp)) Dg⟩
 | ret=>exact⟨_,a₁,w₁,hq,.pass (x:=.inLoop c) rfl (fun _ _=>.inl (by simp)) Dg⟩
 | panic ch=>exact⟨_,a₁,w₁,hq,.pass (x:=.inLoop c) rfl (fun _ _=>.inl (by simp)) Dg⟩
 | outgrown=>exact⟨_,a₁,w₁,hq,.pass (x:=.inLoop c) rfl (fun _ _=>.inl (by simp)) Dg⟩
theorem qi.loop {c:Code}{Q:Exit→Act→World→Prop}{a:Act}{w:World}(h:qi P c Q a w):(Code.loop c).wp P Q a w:=by
 intro b k cs
 obtain⟨e,a',w',hq,Dg⟩:=h b k cs
 exact⟨e,a',w',hq,.of_steps (.one step_loop) Dg⟩
def Ex.PC:Ex→Exit
 | .norm=>.normal
 | .exit id=>.exit id
 | .ret=>.ret
def ni (n:Nat):Code→Bool
 | .region _ ops _=>Aa n ops.toList
 | .seq a b=>ni n a&&ni n b
 | .cond _ x y=>ni n x&&ni n y
 | .block _ c=>ni n c
 | .loop c=>ni n c
 | _=>true
def Fu (P:Program)(cf:CallF):Prop:=
 ∀(L0:Nat→Prop) (c0:Cx) (n:Nat) (aS:List Nat) (id:Nat) (ops:Array Oper) (s s':RS),mu P cf aS ops s=some s'→c0.base≤c0.w.heap.size→Aa n ops.toList=true→
  ∀a w Q,Inv L0 c0 n (ops.toList.filterMap (·.dst)) s a w→(∀a' w',Inv L0 c0 n (ops.toList.filterMap (·.dst)) s' a' w'→Q .normal a' w')→(Code.region id ops true).wp P Q a w
theorem mD {cf:CallF}(hcf:CallOK P cf)(IP:Fu P cf)(hb0:c0.base≤c0.w.heap.size){A:bX}{m:Nat}:∀(c:Code),ni n c=true→∀(st lK:St) (ex:Ex),cb P cf A m c st=some (ex,lK)→
  ∀a w Q,Inv L0 c0 n [] (st.open A) a w→(∀a' w',Inv L0 c0 n [] (lK.open A) a' w'→Q ex.PC a' w')→c.wp P Q a w
 | .skip,_,st,lK,ex,h,a,w,Q,hi,hQ=>by
  simp only [cb,ae2,ae9] at h
  obtain⟨rfl,rfl⟩:=h
  exact wp_skip (hQ a w hi)
 | .label _,_,st,lK,ex,h,a,w,Q,hi,hQ=>by
  simp only [cb,ae2,ae9] at h
  obtain⟨rfl,rfl⟩:=h
  exact wp_label (hQ a w hi)
 | .ret,_,st,lK,ex,h,a,w,Q,hi,hQ=>by
  simp only [cb,ae2,ae9] at h
  obtain⟨rfl,rfl⟩:=h
  exact wp_ret (hQ a w hi)
 | .exit id,_,st,lK,ex,h,a,w,Q,hi,hQ=>by
  simp only [cb,ae2,ae9] at h
  obtain⟨rfl,rfl⟩:=h
  exact wp_exit (hQ a w hi)
 | .seq x y,hB,st,lK,ex,h,a,w,Q,hi,hQ=>by
  simp only [ni,ae3] at hB
  simp only [cb,ae0] at h
  obtain⟨⟨PD,rS⟩,h1,h2⟩:=h
  refine wp_seq (mD hcf IP hb0 x hB.1 st rS PD h1 a w _ hi fun a' w' mw=>?_)
  cases PD with
  | norm=>exact mD hcf IP hb0 y hB.2 rS lK ex h2 a' w' Q mw hQ
  | exit id=>
   simp only [ae2,ae9] at h2
   obtain⟨rfl,rfl⟩:=h2
   exact hQ a' w' mw
  | ret=>
   simp only [ae2,ae9] at h2
   obtain⟨rfl,rfl⟩:=h2
   exact hQ a' w' mw
 | .cond k x y,hB,st,lK,ex,h,a,w,Q,hi,hQ=>by
  simp only [ni,ae3] at hB
  simp only [cb,ae0] at h
  obtain⟨t,ht,h⟩:=h
  have hk:a.eval k = .bool t:=by
   obtain⟨hn,c,Lo,lam,rfl,f,e⟩:=hi
   have hk:=b6 f k
   unfold xu at ht
   split at ht
   ·rename_i b hb
    cases ht
    rw [hb] at hk
    simpa [SR,VR] using hk
   ·cases ht
  refine wp_cond hk ?_
  cases t with
  | true=>exact mD hcf IP hb0 x hB.1 st lK ex (by simpa using h) a w Q hi hQ
  | false=>exact mD hcf IP hb0 y hB.2 st lK ex (by simpa using h) a w Q hi hQ
 | .block id x,hB,st,lK,ex,h,a,w,Q,hi,hQ=>by
  simp only [ni] at hB
  simp only [cb,ae1] at h
  obtain⟨⟨PD,rS⟩,h1,h2⟩:=h
  refine wp_block (mD hcf IP hb0 x hB st rS PD h1 a w _ hi fun a' w' mw=>?_)
  cases PD with
  | norm=>
   simp only [ae9] at h2
   obtain⟨rfl,rfl⟩:=h2
   exact hQ a' w' mw
  | exit nu=>
   simp only [ae9] at h2
   obtain⟨rfl,rfl⟩:=h2
   have:=hQ a' w' mw
   simp only [Ex.PC,Exit.inBlock]
   split
   ·rename_i he; rw [if_pos he] at this; exact this
   ·rename_i he; rw [if_neg he] at this; exact this
  | ret=>
   simp only [ae9] at h2
   obtain⟨rfl,rfl⟩:=h2
   exact hQ a' w' mw
 | .loop x,hB,st,lK,ex,h,a,w,Q,hi,hQ=>by
  simp only [ni] at hB
  simp only [cb] at h
  have key:∀(j:Nat) (st:St),nL (cb P cf A m x) j st=some (ex,lK)→∀a w,Inv L0 c0 n [] (st.open A) a w→qi P x Q a w:=by
   intro j
   induction j with
   | zero=>intro st h; simp [nL] at h
   | succ j ih=>
    intro st h a w hi
    simp only [nL,ae0] at h
    obtain⟨⟨PD,rS⟩,h1,h2⟩:=h
    refine qi.step (mD hcf IP hb0 x hB st rS PD h1 a w _ hi fun a' w' mw=>?_)
    cases PD with
    | norm=>exact ih rS h2 a' w' mw
    | exit id=>
     simp only [ae2,ae9] at h2
     obtain⟨rfl,rfl⟩:=h2
     exact hQ a' w' mw
    | ret=>
     simp only [ae2,ae9] at h2
     obtain⟨rfl,rfl⟩:=h2
     exact hQ a' w' mw
  exact qi.loop (key m st h a w hi)
 | .region id ops draw,hB,st,lK,ex,h,a,w,Q,hi,hQ=>by
  simp only [ni] at hB
  simp only [cb,ae0,ae1,ae9] at h
  obtain⟨s0,h0,s',h1,s2,h2,rfl,rfl⟩:=h
  replace hi:=hi.nK h0
  cases draw with
  | true=>
   simp only [if_true] at h1
   exact IP L0 c0 n A.aS id ops _ s' h1 hb0 hB a w Q (hi.wide _) fun a' w' mw=>hQ a' w' ((mw.nK h2).pZ A id)
  | false=>
   simp only [afa,if_false] at h1
   exact wp_region_list (GU hcf hb0 rfl hB (fun a' w' mw=>hQ a' w' ((mw.nK h2).pZ A id)) ops.toList _ (fun _ h=>h) h1 a w (hi.wide _))
 | .rangeFunc ..,_,st,lK,ex,h,_,_,_,_,_=>by simp [cb] at h
 | .scope ..,_,st,lK,ex,h,_,_,_,_,_=>by simp [cb] at h
 | .goto ..,_,st,lK,ex,h,_,_,_,_,_=>by simp [cb] at h
 | .refuse ..,_,st,lK,ex,h,_,_,_,_,_=>by simp [cb] at h
theorem Bm {c:Cx}{Lo:Nat→Prop}{lam:Nat→Nat}{a:Act}(f:Fr L0 c Lo lam ds s a):∀(rs:List ResultVar) (l:List AV),Fb P s rs=some l→l.all AV.nI=true→
  ∃vs:List Value,(rs.mapM (m:=Sem) fun | .tmp t=>pure (a.tmps.getD t undef) | .cell x t=>do loadVar t (←asAddr (a.tmps.getD x undef))).run P c.w = .ok vs c.w∧VRs c (un L0 Lo) l vs
 | [],l,h,_=>by
  simp only [Fb,ae2] at h
  subst h
  exact⟨[],rfl,trivial⟩
 | .tmp t::rs,l,h,hl=>by
  simp only [Fb,ae1] at h
  obtain⟨l',h1,rfl⟩:=h
  simp only [afQ,ae3] at hl
  obtain⟨vs,h2,h3⟩:=Bm f rs l' h1 hl.2
  refine⟨a.tmps.getD t undef::vs,?_,(f.slot t).vr (xN hl.1),h3⟩
  simp only [List.mapM_cons,Sem.run_bind,Sem.run_pure,Result.andThen_ok,h2]
 | .cell x t::rs,l,h,hl=>by
  simp only [Fb,ae0,ae1] at h
  obtain⟨y,hy,l',h1,rfl⟩:=h
  simp only [afQ,ae3] at hl
  obtain⟨vs,h2,h3⟩:=Bm f rs l' h1 hl.2
  have hx:=f.slot x
  obtain⟨u,hr,hu⟩:=xB (P:=P) f (t:=t) hx hy
  have hp:∃ad,a.tmps.getD x undef = .pointer (some ad):=by
   unfold mr at hy
   cases hq:s.ρ x<;>rw [hq] at hy hx<;>simp only at hy<;>try (cases hy; done)
   ·simp only [SR,VR] at hx; obtain⟨_,ad,h,_⟩:=hx; exact⟨ad,h⟩
   ·simp only [SR] at hx; exact⟨_,hx.1⟩
   ·simp only [SR,VR] at hx; obtain⟨_,_,h,_⟩:=hx; exact⟨_,h⟩
  obtain⟨ad,hp⟩:=hp
  rw [hp] at hr
  have Dh:(loadVar t ad).run P c.w = .ok u c.w:=by simpa [Instr.loadAt,Instr.sureAddr] using hr
  refine⟨u::vs,?_,hu,h3⟩
  have ha:(asAddr (a.tmps.getD x undef)).run P c.w = .ok ad c.w:=by rw [hp]; rfl
  simp only [List.mapM_cons,Sem.run_bind,Sem.run_pure,Result.andThen_ok,h2,ha,Dh]
theorem j6:un L0 none0=L0:=by funext b; simp [un,none0]
theorem Ext.close {c c':Cx}{ma:Nat→Prop}(e:Ext c none0 c' ma):Ext c none0 c' none0:=
 ⟨e.next,e.live,e.size,e.keep,e.exact,e.base,e.NP,fun _ h=>h,fun _ h=>h.elim,e.os,e.tape,e.output⟩
theorem HRel.nt {c:Cx}{L L':Nat→Prop}(hL:∀b,L' b→L b)(h:HRel c L):HRel c L':=
 ⟨h.lt,fun id o ho=>by
  have:=h.obj id o ho
  cases o with
  | cells cs=>obtain⟨m,h1,h2,h3⟩:=this; exact⟨m,h1,h2,Cells.nt hL _ _ _ h3⟩
  | row t cs=>obtain⟨h0,C,h1,h2,h4,h3⟩:=this; exact⟨h0,C,h1,h2,h4,Cells.nt hL _ _ _ h3⟩
  | map es=>
   obtain⟨nN,clock,h1,h2⟩:=this
   refine⟨nN,clock,h1,?_⟩
   clear h1
   have:∀(es:List (AV × AV)) (ms:List MapEntry),nM c L es ms→nM c L' es ms:=by
    intro es
    induction es with
    | nil=>intro ms h; cases ms with | nil=>trivial | cons m ms=>exact h.elim
    | cons e es ih=>intro ms h; cases ms with
     | nil=>exact h.elim
     | cons m ms=>obtain⟨h1,h2,h3⟩:=h; exact⟨⟨VR.nt hL _ _ h1.1,h1.2⟩,VR.nt hL _ _ h2,ih _ h3⟩
   exact this _ _ h2,h.inj,fun id hl hb=>h.out id hl (hL _ hb),fun b hb=>h.bd b (hL b hb),h.low,h.ver⟩
structure Fit (P:Program):Prop where
 mixed:P.follows .mixedOrders=true
 TW : ∀ (f : FuncId) fn c, P.funcs[f]? = some fn → fn.body = some c → ni fn.ntmps c = true ∧ fn.name ≠ "runtime.NumGoroutine"
def IntrOK (P:Program)(intr:FuncId→Option (List AV→AHeap→Option (AV × AHeap))):Prop:=
 ∀f g,intr f=some g→(CallOK P fun f' args h=>if f'=f then g args h else none)∧∀args h r h',g args h=some (r,h')→Steady h h'
theorem qm {f : FuncId} {fn : Func} {c : Code} (hf : P.funcs[f]? = some fn) (hc : fn.body = some c) (hn : fn.name ≠ "runtime.NumGoroutine") (vs : Array Value) (w : World) : (callFunc f vs).run P w = .ok (.enter f vs) w := by
 have WX : (fn.name == "runtime.NumGoroutine") = false := by simpa using hn
 simp [callFunc,program,Sem.run,hf,hn,hc]
theorem Di (hP:Fit P){aX:FuncId→bX}{cf:CallF}(ih:CallOK P cf)(IP:Fu P cf)(m:Nat):CallOK P (ba P aX cf m):=by
 intro f args h r h' hc
 unfold ba at hc
 rw [ae0] at hc
 obtain⟨fn,hf,hc⟩:=hc
 rw [ae0] at hc
 obtain⟨c,hb,hc⟩:=hc
 obtain⟨hB,TX⟩:=hP.TW f fn c hf hb
 refine⟨qm hf hb TX,fun L0 c0 vs hh hb0 hrel hargs=>?_⟩
 split at hc
 rotate_left
 ·cases hc
 rename_i hlen
 rw [ae0] at hc
 obtain⟨⟨ex,st⟩,hex,hc⟩:=hc
 have hl:=hargs.length
 refine calls_of_wp hf hb ?_
 refine mD (L0:=L0) (c0:=c0) (n:=fn.ntmps) ih IP hb0 c hB _ _ _ hex _ _ _ ?_ ?_
 ·refine⟨by simp; omega,c0,none0,fun _=>0,rfl,⟨hh,by rw [j6]; exact hrel,fun t=>?_,fun k cs hk=>?_,fun k k' hk=>?_,fun t k off _ he=>?_,rfl,fun b hb=>hb.elim⟩,Ext.refl _ _⟩
  ·simp only [St.open,qa,kT]
   split
   ·by_cases ht:t<args.length
    ·obtain⟨v,hv,hr⟩:=hargs.get t args[t] (by simp [ht])
     have:args.getD t AV.any=args[t]:=by simp [ht]
     rw [this,Array.getD_eq_getD_getElem?,Array.getElem?_append_left (by simp; omega)]
     have WU:vs.toArray[t]? = some v:=by simpa using hv
     rw [WU]
     exact SR.of (by rw [j6]; exact hr)
    ·have:args.getD t AV.any = .any:=by simp [afp (Nat.not_lt.1 ht)]
     rw [this]
     exact SR.of (by simp [VR])
   ·exact SR.of (by simp [VR])
  ·simp only [St.open,kT] at hk
   split at hk<;>cases hk
  ·simp only [St.open,kT] at hk
   split at hk<;>cases hk
  ·simp only [St.open,qa,kT] at he
   split at he
   ·by_cases ht:t<args.length
    ·obtain⟨v,hv,hr⟩:=hargs.get t args[t] (by simp [ht])
     have h1:args.getD t AV.any=args[t]:=by simp [ht]
     rw [h1] at he
     rw [he] at hr
     exact hr.elim
    ·have:args.getD t AV.any = .any:=by simp [afp (Nat.not_lt.1 ht)]
     rw [this] at he
     cases he
   ·cases he
 ·intro a' w' mw
  have hfin:(aM P (st.open (aX f)) fn.results.toList).map (fun r=>(r,st.h))=some (r,h')→a'.defers=[]∧∃v,(results fn a'.tmps).run P w' = .ok v w'∧(∃c' v',Ending.returned v = .returned v'∧c'.w=w'∧c'.h=h'∧VR c' L0 r v'∧HRel c' L0∧Ext c0 none0 c' none0):=by
   intro hc
   rw [ae1] at hc
   obtain⟨r',Dh,he⟩:=hc
   cases he
   obtain⟨hn,c',Lo,lam,rfl,f',e'⟩:=mw
   refine⟨f'.defers,?_⟩
   unfold aM at Dh
   rw [ae0] at Dh
   obtain⟨l,hl,Dh⟩:=Dh
   split at Dh
   rotate_left
   ·cases Dh
   rename_i mC
   obtain⟨us,hus,GB⟩:=Bm f' _ _ hl mC
   have Kq:VRs c' L0 l us:=VRs.nt (fun b hb=>.inl hb) _ _ GB
   have Fk:(results fn a'.tmps).run P c'.w = .ok (if h:us.toArray.size=1 then us.toArray[0] else .tuple us.toArray) c'.w:=by
    unfold results
    rw [←Array.toArray_toList (xs:=fn.results)]
    rw [List.mapM_toArray]
    simp only [Sem.run_bind,Sem.run_map,Result.andThen_ok,Sem.run_pure]
    exact (congrArg (fun z=>(Result.andThen z (fun (a:List Value) w'=>Result.ok a.toArray w')).andThen (fun (a:Array Value) w'=>Result.ok (if h:a.size=1 then a[0] else Value.tuple a) w')) hus).trans rfl
   refine⟨_,Fk,c',_,rfl,rfl,f'.h,?_,HRel.nt (fun b hb=>.inl hb) f'.rel,e'.close⟩
   split at Dh
   ·rename_i x
    cases Dh
    cases us with
    | nil=>exact Kq.elim
    | cons u us=>cases us with
     | nil=>exact Kq.1
     | cons u2 us=>exact Kq.2.elim
   ·rename_i hne
    cases Dh
    have WY:us.length≠1:=by
     intro h1
     rw [←Kq.length] at h1
     cases l with
     | nil=>simp at h1
     | cons x l=>cases l with
      | nil=>exact hne x rfl
      | cons y l=>simp at h1
    have:¬us.toArray.size=1:=by simpa using WY
    rw [dif_neg this]
    simp only [VR]
    exact⟨us.toArray,rfl,Kq⟩
  cases ex with
  | norm=>exact hfin hc
  | ret=>exact hfin hc
  | exit id=>cases hc
end
end Go.R
