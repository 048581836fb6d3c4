/- Part of the proof: ROps3, RMem, ROps4, RNew, RApp, RApp2, RApp3. -/
import Derived.Test.YtifafejidnjckaaK0
import Derived.MapKept
import Derived.Laws.Slices
import Derived.Laws.IdiomCopy
import Derived.Deep.AppendSrc
import Derived.IntWalk
set_option linter.unusedVariables false
set_option linter.unusedSimpArgs false
set_option maxRecDepth 100000
open Array renaming getElem?_eq_some_iff → U1, getElem?_setIfInBounds → Vr, length_toList → Vw, getElem?_modify → Vy, ext' → V6
open Bool renaming and_eq_true → Ux, false_eq_true → UE, or_eq_true → Ve
open List renaming getElem?_eq_some_iff → UA, length_append → UD, length_cons → UI, getElem?_append_left → UJ, mem_of_getElem? → UM, all_eq_true → UN, getElem?_append_right → UO, mem_cons → UT, map_cons → UX, mem_append → UZ, nil_append → U7, mem_map → U8, take_of_length_le → Va, eq_nil_of_length_eq_zero → Vb, all_cons → Vi, getElem?_map → Vv, map_nil → V0
open Nat renaming le_refl → Uy, zero_add → UR, lt_of_lt_of_le → US, beq → U5, lt_succ_self → Vh, le_trans → Vj, mul_le_mul_right → Vm, add_assoc → Vq, eq_of_beq_eq_true → Vx, add_mul → VE, add_right_comm → VM, ble → VP, add_comm → VZ, add_zero → V1
open Option renaming bind_eq_some_iff → Ut, map_eq_some_iff → Uv, map_some → Uz, isSome_iff_exists → U2, getD_some → Vp
open Option.some renaming injEq → Uw
open Prod.mk renaming injEq → UB
namespace Go.R
open Go
section
variable {P:Program}{L0:Nat→Prop}{c0:Cx}{n:Nat}{ds:List Nat}{o:Oper}{s:RS}
theorem tl (a b:ByteArray):(a==b)=(a.data.toList==b.data.toList):=by
 cases a with | mk x=>cases b with | mk y=>
 show (x==y)=(x.toList==y.toList)
 rw [Bool.eq_iff_iff]
 simp [Array.toList_inj]
def place (k:AV):List (AV × AV)→List MapEntry→Nat→Option (Nat × Value)
 | (k',_)::es,m::ms,i=>if fe k k' then some (i,m.val) else place k es ms (i+1)
 | _,_,_=>none
theorem j6 {c:Cx}{L:Nat→Prop}{d:TypeDesc}{k:AV}{kv:Value}(hd:(∃q,d = .int q)∨d = .string)(hk:k.fV=some kv)(vR:(∃q a,k = .int q a)∨∃b,k = .str b) :
  ∀(es:List (AV × AV)) (ms:List MapEntry) (i:Nat),ko c L es ms→iv k es≠none→(∀q a,k = .int q a→∃q',d = .int q')→(∀b,k = .str b→d = .string)→Instr.findNow d kv ms i=some (place k es ms i)
 | [],[],i,_,_,_,_=>rfl
 | (k',v)::es,m::ms,i,he,hf,h1,h2=>by
  simp only [iv] at hf
  have hs:sameShape k k'=true:=by
   by_cases hs:sameShape k k'=true
   ·exact hs
   ·simp [hs] at hf
  simp only [hs,if_true] at hf
  obtain⟨⟨CR,_⟩,zn,sH⟩:=he
  have Mx:Instr.sameNow d kv m.key=some (fe k k'):=by
   rcases vR with⟨q,a,rfl⟩| ⟨b,rfl⟩
   ·obtain⟨q',rfl⟩:=h1 q a rfl
    cases k'<;>simp only [sameShape] at hs<;>try (cases hs; done)
    rename_i q2 a2
    simp only [beq_iff_eq] at hs
    subst hs
    simp only [VR] at CR
    simp only [AV.fV,Uw] at hk
    subst hk
    rw [CR]
    simp [Instr.sameNow,fe,iM]
   ·have:=h2 b rfl
    subst this
    cases k' with
    | str b2=>
     simp only [VR] at CR
     simp only [AV.fV,Uw] at hk
     subst hk
     rw [CR]
     simp only [Instr.sameNow,fe,iM,Uw]
     exact tl b b2
    | _=>cases hs
  simp only [Instr.findNow,Mx]
  cases hq:fe k k' with
  | true=>simp [place,hq]
  | false=>
   simp only [hq,UE,if_false] at hf
   simp only [place,hq,UE,if_false]
   exact j6 hd hk vR es ms (i+1) sH hf h1 h2
 | [],_::_,_,h,_,_,_=>h.elim
 | _::_,[],_,h,_,_,_=>h.elim
theorem iN {c:Cx}{L:Nat→Prop}{kt:TypeId}{k:AV}{kv:Value}(hk:fW P kt k=true)(vS:VR c L k kv)(w:World) :
  ∀(es:List (AV × AV)) (ms:List MapEntry) (i:Nat),ko c L es ms→iv k es≠none→(Instr.findAsking kt kv ms i).run P w = .ok (place k es ms i) w
 | [],[],i,_,_=>rfl
 | (k',v)::es,m::ms,i,he,hf=>by
  simp only [iv] at hf
  have hs:sameShape k k'=true:=by
   by_cases hs:sameShape k k'=true
   ·exact hs
   ·simp [hs] at hf
  simp only [hs,if_true] at hf
  obtain⟨⟨CR,_⟩,zn,sH⟩:=he
  have hq:=tk (P:=P) 9998 hk hs vS CR w
  simp only [Instr.findAsking,Op.equal,Op.maxDepth,Sem.run_bind,hq,Result.andThen_ok]
  cases h:fe k k' with
  | true=>simp [place,h]
  | false=>
   simp only [h,UE,if_false] at hf
   simp only [place,h,UE,if_false]
   exact iN hk vS w es ms (i+1) sH hf
 | [],_::_,_,h,_=>h.elim
 | _::_,[],_,h,_=>h.elim
theorem tm {c:Cx}{L:Nat→Prop}{kt:TypeId}{k:AV}{kv:Value}(hk:fW P kt k=true)(vS:VR c L k kv)(w:World){es:List (AV × AV)}{ms:List MapEntry}(he:ko c L es ms)(hf:iv k es≠none) :
  (Instr.findKey kt kv ms).run P w = .ok (place k es ms 0) w:=by
 have LS:=hk
 cases hd:P.underlying kt with
 | none=>simp [fW,hd] at hk
 | some d=>
 cases d<;>simp only [fW,hd] at hk<;>try (cases hk; done)
 ·rename_i q
  cases k<;>simp only at hk<;>try (cases hk; done)
  rename_i q2 a
  have hc:(AV.int q2 a).fV=some kv:=by simp only [VR] at vS; simp [AV.fV,vS]
  exact MapKept.run_findKey hd (j6 (.inl ⟨q,rfl⟩) hc (.inl ⟨_,_,rfl⟩) es ms 0 he hf (fun _ _ _=>⟨q,rfl⟩) (fun b hb=>by cases hb))
 ·cases k<;>simp only at hk<;>try (cases hk; done)
  rename_i b
  have hc:(AV.str b).fV=some kv:=by simp only [VR] at vS; simp [AV.fV,vS]
  exact MapKept.run_findKey hd (j6 (.inr rfl) hc (.inr ⟨_,rfl⟩) es ms 0 he hf (fun _ _ h=>by cases h) (fun b hb=>rfl))
 ·rw [run_findKey_eq w (by simp [hd])]
  exact iN LS vS w es ms 0 he hf
 ·rw [run_findKey_eq w (by simp [hd])]
  exact iN LS vS w es ms 0 he hf
theorem pM {c:Cx}{L:Nat→Prop}{k:AV}:∀(es:List (AV × AV)) (ms:List MapEntry) (i:Nat),ko c L es ms→(iv k es=some none→place k es ms i=none)∧(∀v,iv k es=some (some v)→∃j u,place k es ms i=some (j,u)∧VR c L v u)
 | [],[],i,_=>⟨fun _=>rfl,fun v h=>by simp [iv] at h⟩
 | (k',v)::es,m::ms,i,he=>by
  obtain⟨⟨CR,_⟩,zn,sH⟩:=he
  obtain⟨h1,h2⟩:=pM es ms (i+1) sH
  simp only [iv,place]
  by_cases hs:sameShape k k'=true
  ·simp only [hs,if_true]
   by_cases hq:fe k k'=true
   ·simp only [hq,if_true]
    exact⟨fun h=>(by cases h),fun u hu=>(by cases hu; exact⟨i,m.val,rfl,zn⟩)⟩
   ·simp only [hq,if_false,UE]
    exact⟨h1,h2⟩
  ·simp [hs]
 | [],_::_,_,h=>h.elim
 | _::_,[],_,h=>h.elim
theorem jm {t:TypeId}{z:AV}(h:ir P t=some z)(w:World):∃v,(zeroValue t).run P w = .ok v w∧CL v=some z:=by
 unfold ir at h
 simp only [Ut] at h
 obtain⟨i,hi,v,hv,hz⟩:=h
 exact⟨v,by simp [zeroValue,typeInfo,hi,hv],hz⟩
theorem vT {c:Cx}{Lo:Nat→Prop}{lam:Nat→Nat}{a:Act}(f:Fr L0 c Lo lam ds s a){t:TypeId}{m k y:AV}{mv kv:Value}{ok:Bool}(hm:SR c L0 Lo lam s.bx m mv)(hk:SR c L0 Lo lam s.bx k kv)
  (h:fK P s.h t m k ok=some y):∃r,(Instr.lookup t mv kv ok).run P c.w = .ok r c.w∧VR c (un L0 Lo) y r:=by
 unfold fK at h
 rw [Ut] at h
 obtain⟨d,hd,h⟩:=h
 cases d<;>simp only at h<;>try (cases h; done)
 rename_i kt et
 split at h
 ·cases h
 rename_i sM
 have sM:fW P kt k=true:=by simpa using sM
 rw [Ut] at h
 obtain⟨es,sH,h⟩:=h
 have vS:VR c (un L0 Lo) k kv:=hk.vr (by rintro k0 off rfl; simp [fW] at sM)
 obtain⟨ms,JZ,rr⟩:∃ms:Array MapEntry,((mv = .map none∧ms = #[])∨∃r clock,mv = .map (some r)∧c.w.heap[r]? = some (.map ms clock))∧ko c (un L0 Lo) es ms.toList:=by
  cases m<;>simp only at sH<;>try (cases sH; done)
  ·simp only [SR,VR] at hm
   cases sH
   exact⟨#[],.inl ⟨hm,rfl⟩,trivial⟩
  ·rename_i id
   rw [Ut] at sH
   obtain⟨ob,ho,sH⟩:=sH
   cases ob with
   | cells cs=>cases sH
   | row t cs=>cases sH
   | map pJ=>
   cases sH
   simp only [SR,VR] at hm
   obtain⟨hi,r,Mr,hr⟩:=hm
   rw [←f.h] at ho
   have hl:Live c.h id:=⟨f.rel.lt _ _ ho,by simp [ho]⟩
   obtain⟨kp,clock,h1,h2⟩:=f.rel.obj _ _ ho
   exact⟨kp,.inr ⟨r,clock,Mr,by rw [hr hl]; exact h1⟩,h2⟩
 rw [Ut] at h
 obtain⟨fr,My,h⟩:=h
 have CS:=tm sM vS c.w rr (by rw [My]; simp)
 have HL:=mX (P:=P) ms.isEmpty 9998 sM vS c.w
 obtain⟨p1,p2⟩:=pM (k:=k) es ms.toList 0 rr
 have hget:∀r clock,c.w.heap[r]? = some (.map ms clock)→(getObj r).run P c.w = .ok (.map ms clock) c.w:=fun r clock h1=>by simp [getObj,Sem.run,h1]
 cases fr with
 | none=>
  rw [Uv] at h
  obtain⟨z,hz,rfl⟩:=h
  obtain⟨zv,CT,yl⟩:=jm hz c.w
  rw [p1 My] at CS
  refine⟨if ok then .tuple #[zv,.bool false] else zv,?_,?_⟩
  ·unfold Instr.lookup
   rcases JZ with⟨rfl,rfl⟩| ⟨r,clock,rfl,h1⟩
   ·simp only [pure_bind,Sem.run_bind,bn hd,Result.andThen_ok,HL,CS,CT,Sem.run_pure]
   ·simp only [Sem.run_bind,bn hd,Result.andThen_ok,hget r clock h1,HL,CS,CT,Sem.run_pure]
  ·cases ok with
   | true=>simp only [if_true,VR]; exact⟨#[zv,.bool false],rfl,kQ yl,by simp [VR],trivial⟩
   | false=>simpa using kQ yl
 | some v=>
  obtain⟨j,u,hp,hv⟩:=p2 v My
  rw [hp] at CS
  cases h
  refine⟨if ok then .tuple #[u,.bool true] else u,?_,?_⟩
  ·unfold Instr.lookup
   rcases JZ with⟨rfl,rfl⟩| ⟨r,clock,rfl,h1⟩
   ·simp only [pure_bind,Sem.run_bind,bn hd,Result.andThen_ok,HL,CS,Sem.run_pure]
   ·simp only [Sem.run_bind,bn hd,Result.andThen_ok,hget r clock h1,HL,CS,Sem.run_pure]
  ·cases ok with
   | true=>simp only [if_true,VR]; exact⟨#[u,.bool true],rfl,hv,by simp [VR],trivial⟩
   | false=>simpa using hv
theorem ko.length {c:Cx}{L:Nat→Prop}:∀{es:List (AV × AV)} {ms:List MapEntry},ko c L es ms→es.length=ms.length
 | [],[],_=>rfl
 | _::_,_::_,h=>by simp [ko.length h.2.2]
 | [],_::_,h=>h.elim
 | _::_,[],h=>h.elim
theorem CU {c:Cx}{Lo:Nat→Prop}{lam:Nat→Nat}{a:Act}(f:Fr L0 c Lo lam ds s a){x y:AV}{v:Value}{t:TypeId}(ts:Array TypeId)(ht:ts[0]? = some t)(hx:SR c L0 Lo lam s.bx x v)(h:q8 P s.h t x=some y)(ty:TypeId) :
  ∃r,(Builtin.len_ ts ty #[v]).run P c.w = .ok r c.w∧VR c (un L0 Lo) y r:=by
 unfold q8 at h
 rw [Ut] at h
 obtain⟨d,hd,h⟩:=h
 unfold Builtin.len_
 cases d<;>simp only at h<;>try (cases h; done)
 ·cases x<;>simp only at h<;>try (cases h; done)
  cases h
  simp only [SR,VR] at hx
  subst hx
  exact⟨.int .i64 _,by simp [ht,bn hd,goInt]; rfl,by simp only [VR]⟩
 ·cases x with
  | nils=>
   cases h
   simp only [SR,VR] at hx
   obtain⟨a,rfl⟩:=hx
   exact⟨.int .i64 _,by simp [ht,bn hd,goInt]; rfl,by simp only [VR]⟩
  | fz cs m ex=>
   cases h
   simp only [SR,VR] at hx
   obtain⟨a,cap,rfl,_⟩:=hx
   exact⟨.int .i64 _,by simp [ht,bn hd,goInt]; rfl,by simp only [VR]⟩
  | rs id off m ib=>
   cases h
   simp only [SR,VR] at hx
   rcases hx with⟨_,_,rfl,a,rfl⟩| ⟨_,_,a,cap,rfl,_⟩
   ·exact⟨.int .i64 _,by simp [ht,bn hd,goInt]; rfl,by simp only [VR]; rfl⟩
   ·exact⟨.int .i64 _,by simp [ht,bn hd,goInt]; rfl,by simp only [VR]⟩
  | _=>cases h
 ·cases x with
  | lB=>
   cases h
   simp only [SR,VR] at hx
   subst hx
   exact⟨.int .i64 _,by simp [ht,bn hd,goInt]; rfl,by simp only [VR]⟩
  | mp id=>
   simp only [Ut] at h
   obtain⟨ob,ho,h⟩:=h
   cases ob with
   | cells cs=>cases h
   | row t cs=>cases h
   | map es=>
   cases h
   simp only [SR,VR] at hx
   obtain⟨hi,r,rfl,hr⟩:=hx
   rw [←f.h] at ho
   have hl:Live c.h id:=⟨f.rel.lt _ _ ho,by simp [ho]⟩
   obtain⟨kp,clock,h1,h2⟩:=f.rel.obj _ _ ho
   rw [hr hl]
   refine⟨.int .i64 es.length,?_,by simp [VR]⟩
   have h3:=h2.length
   simp [ht,bn hd,getObj,Sem.run,h1,goInt,h3]
  | _=>cases h
end
end Go.R
namespace Go.R
open Go
theorem gS.len {c c':Cx}{b:Nat}(h:gS c.w c'.w b):c'.len b=c.len b:=by
 unfold Cx.len World.shape?
 rcases h with h | ⟨C,e,lo,hi,Fp,jw,h1,h2,_⟩
 ·rw [h]
 ·rw [h1,h2]
theorem HRel.block {c:Cx}{L:Nat→Prop}(r:HRel c L){id:Nat}(hl:Live c.h id):(c.β id).1<c.w.heap.size:=by
 obtain⟨o,ho⟩:=U2.1 hl.2
 have h:=r.obj id o ho
 cases o with
 | cells cs=>obtain⟨n,h1,_⟩:=h; exact h1.lt
 | map es=>obtain⟨kp,clock,h1,_⟩:=h; exact (U1.1 h1).1
 | row t cs=>obtain⟨_,C,h1,_⟩:=h; exact (U1.1 h1).1
section
variable {L0:Nat→Prop}{c:Cx}{Lo:Nat→Prop}{lam:Nat→Nat}{ds:List Nat}{s:RS}{a:Act}
theorem Fr.world (f:Fr L0 c Lo lam ds s a){w':World}(hk:∀b,b<c.w.heap.size→gS c.w w' b)(Mz:∀id,Live c.h id→w'.heap[(c.β id).1]? = c.w.heap[(c.β id).1]?)(hx:∀b,b<c.base→w'.heap[b]? = c.w.heap[b]?)(hs:c.w.heap.size≤w'.heap.size)
  (h1:w'.os=c.w.os) (h2:w'.tape=c.w.tape) (h3:w'.output=c.w.output):Ext c Lo {c with w:=w'} Lo∧Fr L0 {c with w:=w'} Lo lam ds s a:=by
 have e:Ext c Lo {c with w:=w'} Lo:=by
  refine⟨Uy _,fun id hi hl=>⟨hl,rfl,?_⟩,hs,fun b hb _ _=>hk b hb,hx,rfl,fun id hl=>.inr ⟨id,hl,rfl⟩,fun _ h=>h,fun _ h=>.inl h,h1,h2,h3⟩
  exact gS.len (c':={c with w:=w'}) (hk _ (f.rel.block hl))
 refine⟨e,f.h,⟨f.rel.lt,fun id o ho=>?_,f.rel.inj,f.rel.out,fun b hb=>US (f.rel.bd b hb) hs,f.rel.low,f.rel.ver⟩,fun t=>?_,fun k cs hb=>?_,f.inj,f.tidy,f.defers,f.CO⟩
 ·have hl:Live c.h id:=⟨f.rel.lt _ _ ho,by rw [ho]; rfl⟩
  exact (f.rel.obj id o ho).ext e (Mz id hl)
 ·exact (f.slot t).ext e (fun _ _ _=>⟨rfl,fun h=>h⟩)
 ·have ob:=f.box k cs hb
  exact ob.ext e (hk _ ob.plain.lt)
theorem Fr.upd (f:Fr L0 c Lo lam ds s a){w':World}{β':Nat→Nat × Nat}{h':AHeap}(nI:Nat)(ob:AObj)
  (hst:Steady c.h h') (Rs:nI<h'.next) (hget:h'.get nI=some ob)
  (hcl:∀id,id≠nI→h'.get id=none∨(h'.get id=c.h.get id∧β' id=c.β id))
  (J0:nI<c.h.next→Live c.h nI∧β' nI=c.β nI)
  (J1:c.w.heap.size≤(β' nI).1∨∃oT,Live c.h oT∧(c.β oT).1=(β' nI).1∧(oT=nI∨h'.get oT=none))
  (hlen:(β' nI).1<c.w.heap.size→((w'.shape? (β' nI).1).map (·.2)).getD 0=c.len (β' nI).1)
  (hk:∀b,b<c.w.heap.size→b≠(β' nI).1→w'.heap[b]? = c.w.heap[b]?) (hx:∀b,b<c.base→b≠(β' nI).1→w'.heap[b]? = c.w.heap[b]?) (hs:c.w.heap.size≤w'.heap.size) (hbs:c.base≤c.w.heap.size)
  (h1:w'.os=c.w.os) (h2:w'.tape=c.w.tape) (h3:w'.output=c.w.output)
  (hob:∀(e:Ext c Lo ⟨β',h',w',c.base⟩ Lo),nQ ⟨β',h',w',c.base⟩ (un L0 Lo) (β' nI).1 (β' nI).2 ob) :
  Ext c Lo ⟨β',h',w',c.base⟩ Lo∧Fr L0 ⟨β',h',w',c.base⟩ Lo lam ds {s with h:=h'} a:=by
 have hn:=hst.next
 have hold:∀id,id≠nI→Live h' id→Live c.h id∧β' id=c.β id:=by
  intro id hne hl
  rcases hcl id hne with h | ⟨h,hb⟩
  ·have:=hl.2; rw [h] at this; cases this
  ·have zo:(c.h.get id).isSome=true:=by rw [←h]; exact hl.2
   obtain⟨o,ho⟩:=U2.1 zo
   exact⟨⟨f.rel.lt _ _ ho,zo⟩,hb⟩
 have FI:∀id,id≠nI→Live h' id→(c.β id).1≠(β' nI).1:=by
  intro id hne hl he
  obtain⟨hl0,hb⟩:=hold id hne hl
  rcases J1 with h | ⟨oT,h4,h5,h6⟩
  ·have:=f.rel.block hl0; omega
  ·have:id=oT:=f.rel.inj id oT hl0 h4 (he.trans h5.symm)
   subst this
   rcases h6 with h6 | h6
   ·exact hne h6
   ·have:=hl.2; rw [h6] at this; cases this
 have hL:¬un L0 Lo (β' nI).1:=by
  intro hL
  rcases J1 with h | ⟨oT,h4,h5,_⟩
  ·have:=f.rel.bd _ hL; omega
  ·exact f.rel.out oT h4 (h5 ▸ hL)
 have HM:c.base≤(β' nI).1:=by
  rcases J1 with h | ⟨oT,h4,h5,_⟩
  ·omega
  ·rw [←h5]; exact f.rel.low oT h4
 have e:Ext c Lo ⟨β',h',w',c.base⟩ Lo:=by
  refine⟨hn,fun id hi hl=>?_,hs,fun b hb _ hi=>.inl (hk b hb ?_),fun b hb=>hx b hb (by omega),rfl,fun id hl=>?_,fun _ h=>h,fun _ h=>.inl h,h1,h2,h3⟩
  ·by_cases hid:id=nI
   ·subst hid
    obtain⟨h4,h5⟩:=J0 hi
    refine⟨h4,h5,?_⟩
    have:=hlen (by rw [h5]; exact f.rel.block h4)
    rw [h5] at this
    exact this
   ·obtain⟨h4,h5⟩:=hold id hid hl
    exact⟨h4,h5,gS.len (c':=⟨β',h',w',c.base⟩) (.inl (hk _ (f.rel.block h4) (FI id hid hl)))⟩
  ·rintro rfl
   rcases J1 with h | ⟨oT,h4,h5,_⟩
   ·omega
   ·exact hi oT h4 h5
  ·by_cases hid:id=nI
   ·subst hid
    rcases J1 with h | ⟨oT,h4,h5,_⟩
    ·exact .inl h
    ·exact .inr ⟨oT,h4,h5⟩
   ·obtain⟨h4,h5⟩:=hold id hid hl
    exact .inr ⟨id,h4,by rw [←h5]⟩
 refine⟨e,rfl,⟨fun id o ho=>?_,fun id o ho=>?_,fun id j5 hl nH he=>?_,fun id hl=>?_,fun b hb=>US (f.rel.bd b hb) hs,fun id hl=>?_,hst.wf f.rel.ver⟩,fun t=>?_,fun k cs hb=>?_,f.inj,f.tidy,f.defers,f.CO⟩
 ·by_cases hid:id=nI
  ·subst hid; exact Rs
  ·rcases hcl id hid with h | ⟨h,_⟩
   ·rw [h] at ho; cases ho
   ·rw [h] at ho; exact US (f.rel.lt _ _ ho) hn
 ·by_cases hid:id=nI
  ·subst hid
   rw [hget] at ho
   cases ho
   exact hob e
  ·rcases hcl id hid with h | ⟨h,hb⟩
   ·rw [h] at ho; cases ho
   ·have hl:Live h' id:=⟨by rw [h] at ho; exact US (f.rel.lt _ _ ho) hn,by rw [ho]; rfl⟩
    rw [h] at ho
    have:=(f.rel.obj id o ho).ext e (hk _ (f.rel.block (hold id hid hl).1) (FI id hid hl))
    rw [←hb] at this
    exact this
 ·by_cases hid:id=nI<;>by_cases CV:j5=nI
  ·rw [hid,CV]
  ·subst hid
   obtain⟨h4,h5⟩:=hold j5 CV nH
   exact absurd (by rw [←h5]; exact he.symm) (FI j5 CV nH)
  ·subst CV
   obtain⟨h4,h5⟩:=hold id hid hl
   exact absurd (by rw [←h5]; exact he) (FI id hid hl)
  ·obtain⟨h4,h5⟩:=hold id hid hl
   obtain⟨h6,h7⟩:=hold j5 CV nH
   exact f.rel.inj id j5 h4 h6 (by rw [←h5,←h7]; exact he)
 ·by_cases hid:id=nI
  ·subst hid; exact hL
  ·obtain⟨h4,h5⟩:=hold id hid hl
   show ¬un L0 Lo (β' id).1
   rw [h5]; exact f.rel.out id h4
 ·by_cases hid:id=nI
  ·subst hid; exact HM
  ·obtain⟨h4,h5⟩:=hold id hid hl
   show c.base≤(β' id).1
   rw [h5]; exact f.rel.low id h4
 ·exact (f.slot t).ext e (fun _ _ _=>⟨rfl,fun h=>h⟩)
 ·have hb2:=f.box k cs hb
  refine hb2.ext e (.inl (hk _ hb2.plain.lt ?_))
  rintro he
  exact hL (he ▸ .inr hb2.own)
theorem Fr.CW (f:Fr L0 c Lo lam ds s a){w':World}(k:Nat)(cs:List AV)(b:Nat)
  (hb:c.w.heap.size≤b∨(b=lam k∧(s.bx k).isSome=true))
  (hp:∀t off,s.ρ t = .lp k off→b=lam k)
  (hk:∀b',b'<c.w.heap.size→b'≠b→w'.heap[b']? = c.w.heap[b']?) (hx:∀b',b'<c.base→b'≠b→w'.heap[b']? = c.w.heap[b']?) (hs:c.w.heap.size≤w'.heap.size) (Rt:b<w'.heap.size) (hbs:c.base≤c.w.heap.size)
  (h1:w'.os=c.w.os) (h2:w'.tape=c.w.tape) (h3:w'.output=c.w.output)
  (zp:Plain {c with w:=w'} b cs.length)
  (Mw:∀(e:Ext c Lo {c with w:=w'} (fun x=>Lo x∨x=b)),Cells {c with w:=w'} (un L0 (fun x=>Lo x∨x=b)) cs b 0) :
  ∃ji qd,Ext c Lo {c with w:=w'} ji∧Fr L0 {c with w:=w'} ji qd ds (s.box k cs) a∧qd k=b:=by
 have HN:∀id,Live c.h id→(c.β id).1≠b:=by
  intro id hl he
  rcases hb with h | ⟨h,hb2⟩
  ·have:=f.rel.block hl; omega
  ·obtain⟨J2,h0⟩:=U2.1 hb2
   exact f.rel.out id hl (by rw [he,h]; exact .inr (f.box k J2 h0).own)
 have PC:∀x,(Lo x∨x=b)→Lo x∨c.w.heap.size≤x:=by
  rintro x (h | rfl)
  ·exact .inl h
  ·rcases hb with h | ⟨h,hb2⟩
   ·exact .inr h
   ·obtain⟨J2,h0⟩:=U2.1 hb2
    exact .inl (h ▸ (f.box k J2 h0).own)
 have HM:c.base≤b:=by
  rcases hb with h | ⟨h,hb2⟩
  ·omega
  ·obtain⟨J2,h0⟩:=U2.1 hb2
   rw [h]; exact f.CO _ (f.box k J2 h0).own
 have Ru:∀b',b'<c.w.heap.size→¬Lo b'→b'≠b:=by
  rintro b' sI hn rfl
  rcases PC b' (.inr rfl) with h | h
  ·exact hn h
  ·omega
 have e:Ext c Lo {c with w:=w'} (fun x=>Lo x∨x=b):=by
  refine⟨Uy _,fun id hi hl=>⟨hl,rfl,?_⟩,hs,fun b' sI hn _=>.inl (hk b' sI (Ru b' sI hn)),fun b' sI=>hx b' sI (by omega),rfl,fun id hl=>.inr ⟨id,hl,rfl⟩,fun _ h=>.inl h,PC,h1,h2,h3⟩
  exact gS.len (c':={c with w:=w'}) (.inl (hk _ (f.rel.block hl) (HN id hl)))
 refine⟨fun x=>Lo x∨x=b,fun t=>if t=k then b else lam t,e,⟨f.h,⟨f.rel.lt,fun id o ho=>?_,f.rel.inj,fun id hl hL=>?_,fun x HO=>?_,f.rel.low,f.rel.ver⟩,fun t=>?_,fun k' eQ sI=>?_,fun k1 k2 PD JC he=>?_,f.tidy,f.defers,fun x HO=>?_⟩,by simp⟩
 ·have hl:Live c.h id:=⟨f.rel.lt _ _ ho,by rw [ho]; rfl⟩
  exact (f.rel.obj id o ho).ext e (hk _ (f.rel.block hl) (HN id hl))
 ·rcases hL with h | h | h
  ·exact f.rel.out id hl (.inl h)
  ·exact f.rel.out id hl (.inr h)
  ·exact HN id hl h
 ·rcases HO with h | h | h
  ·exact US (f.rel.bd x (.inl h)) hs
  ·exact US (f.rel.bd x (.inr h)) hs
  ·subst h; exact Rt
 ·refine (f.slot t).ext e (fun k' off J3=>?_)
  by_cases vR:k'=k
  ·subst vR
   refine⟨by simp [hp t off J3],fun _=>by simp [RS.box]⟩
  ·exact⟨by simp [vR],fun h=>by simpa [RS.box,beq_nat,vR] using h⟩
 ·by_cases vR:k'=k
  ·subst vR
   simp only [RS.box,beq_nat,decide_true,cond_true,Uw] at sI
   subst sI
   exact⟨by simp,by simpa using zp,by simpa using Mw e⟩
  ·simp only [RS.box,beq_nat,vR,decide_false,cond_false] at sI
   have ob:=f.box k' eQ sI
   have hne:lam k'≠b:=by
    rintro he
    rcases hb with h | ⟨h,hb2⟩
    ·have:=ob.plain.lt; omega
    ·exact vR (f.inj k' k (by rw [sI]; rfl) hb2 (he.trans h))
   have:=ob.ext e (.inl (hk _ ob.plain.lt hne))
   exact⟨by simp [vR]; exact .inl ob.own,by simpa [vR] using this.plain,by simpa [vR] using this.cells⟩
 ·have old:∀k',k'≠k→((s.box k cs).bx k').isSome=true→(s.bx k').isSome=true:=by
   intro k' hne h
   simpa [RS.box,beq_nat,hne] using h
  have sep:∀k',k'≠k→(s.bx k').isSome=true→lam k'≠b:=by
   intro k' hne h5 Rv
   obtain⟨LU,h6⟩:=U2.1 h5
   rcases hb with h | ⟨h,hb2⟩
   ·have:=(f.box k' LU h6).plain.lt; omega
   ·exact hne (f.inj k' k h5 hb2 (Rv.trans h))
  by_cases h4:k1=k<;>by_cases h5:k2=k
  ·rw [h4,h5]
  ·simp only [h4,h5,if_true,if_false] at he
   exact absurd he.symm (sep k2 h5 (old k2 h5 JC))
  ·simp only [h4,h5,if_true,if_false] at he
   exact absurd he (sep k1 h4 (old k1 h4 PD))
  ·simp only [h4,h5,if_false] at he
   exact f.inj k1 k2 (old k1 h4 PD) (old k2 h5 JC) he
 ·rcases HO with h | h
  ·exact f.CO x h
  ·subst h; exact HM
end
end Go.R
namespace Go.R
open Go
theorem Cells.iff {c:Cx}{L:Nat→Prop}:∀{xs:List AV} {b o:Nat},Cells c L xs b o↔∀(i:Nat) (x:AV),xs[i]? = some x→∃v,c.w.cell? ⟨b,o+i,none⟩=some v∧v.oneCell'=true∧VR c L x v
 | [],b,o=>by simp [Cells]
 | x::xs,b,o=>by
  refine⟨fun h i y hy=>h.get' i y hy,fun h=>⟨?_,(Cells.iff (xs:=xs)).2 fun i y hy=>?_⟩⟩
  ·exact h 0 x rfl
  ·have:=h (i+1) y (by simpa using hy)
   rwa [VM,Vq]
theorem gU:∀(vs cs:List AV) (i:Nat),(da cs i vs).length=cs.length
 | [],cs,i=>by cases cs<;>rfl
 | v::vs,cs,i=>by
  rw [da,gU vs]
  simp
theorem ru:∀(vs cs:List AV) (i j:Nat),i+vs.length≤cs.length→(da cs i vs)[j]? = if i≤j∧j<i+vs.length then vs[j - i]? else cs[j]?
 | [],cs,i,j,_=>by
  have:da cs i []=cs:=by cases cs<;>rfl
  rw [this,if_neg (by simp)]
 | v::vs,cs,i,j,h=>by
  simp only [UI] at h
  rw [da,ru vs _ (i+1) j (by simp; omega)]
  by_cases h1:i+1≤j∧j<i+1+vs.length
  ·rw [if_pos h1,if_pos (by simp; omega),show j - i=(j - (i+1))+1 by omega]
   simp
  ·rw [if_neg h1]
   by_cases h2:j=i
   ·subst h2
    rw [if_pos (by simp),List.getElem?_set_self (by omega)]
    simp
   ·rw [List.getElem?_set_ne (by omega),if_neg (by simp; omega)]
theorem uw (w:World)(b o:Nat)(v:Value){C:Array Value}{e:TypeId}{fr:Nat × Nat}(hb:w.heap[b]? = some (.cells C e fr)):(w.setCell ⟨b,o,none⟩ v).heap[b]? = some (.cells (C.setIfInBounds o v) e fr):=by
 have hlt:b<w.heap.size:=(U1.1 hb).1
 simp [World.setCell,Vy,hb]
theorem vU (w:World)(b o b':Nat)(v:Value)(hne:b'≠b):(w.setCell ⟨b,o,none⟩ v).heap[b']? = w.heap[b']?:=by
 simp [World.setCell,Vy,Ne.symm hne]
theorem dA:∀(vs:List Value) (b o b':Nat) (w:World),b'≠b→(w.setCells b o vs).heap[b']? = w.heap[b']?
 | [],_,_,_,_,_=>rfl
 | v::vs,b,o,b',w,h=>by rw [World.setCells,dA vs b (o+1) b' _ h,vU _ _ _ _ _ h]
theorem gj:∀(vs:List Value) (b o:Nat) (w:World),(w.setCells b o vs).heap.size=w.heap.size∧(w.setCells b o vs).os=w.os∧(w.setCells b o vs).tape=w.tape∧(w.setCells b o vs).output=w.output
 | [],_,_,_=>⟨rfl,rfl,rfl,rfl⟩
 | v::vs,b,o,w=>by
  obtain⟨h1,h2,h3,h4⟩:=gj vs b (o+1) (w.setCell ⟨b,o,none⟩ v)
  rw [World.setCells]
  exact⟨h1.trans (by simp),h2.trans rfl,h3.trans rfl,h4.trans rfl⟩
theorem eT:∀(vs:List Value) (b o:Nat) (w:World) (C:Array Value) (e:TypeId) (fr:Nat × Nat),w.heap[b]? = some (.cells C e fr)→o+vs.length≤C.size→
  ∃C',(w.setCells b o vs).heap[b]? = some (.cells C' e fr)∧C'.size=C.size∧∀j,C'[j]? = if o≤j∧j<o+vs.length then vs[j - o]? else C[j]?
 | [],b,o,w,C,e,fr,hb,_=>⟨C,hb,rfl,fun j=>by rw [if_neg (by simp)]⟩
 | v::vs,b,o,w,C,e,fr,hb,hl=>by
  simp only [UI] at hl
  obtain⟨C',h1,h2,h3⟩:=eT vs b (o+1) (w.setCell ⟨b,o,none⟩ v) (C.setIfInBounds o v) e fr (uw w b o v hb) (by simp; omega)
  refine⟨C',h1,by simpa using h2,fun j=>?_⟩
  rw [h3 j]
  by_cases h4:o+1≤j∧j<o+1+vs.length
  ·rw [if_pos h4,if_pos (by simp; omega),show j - o=(j - (o+1))+1 by omega]
   simp
  ·rw [if_neg h4]
   by_cases h5:j=o
   ·subst h5
    rw [if_pos (by simp)]
    simp [Vr,show j<C.size by omega]
   ·rw [if_neg (by simp; omega)]
    simp [Vr,Ne.symm h5]
theorem cell_of_block {w:World}{b:Nat}{C:Array Value}{e:TypeId}{fr:Nat × Nat}(h:w.heap[b]? = some (.cells C e fr))(i:Nat):w.cell? ⟨b,i,none⟩=C[i]?:=by
 simp [World.cell?,h]
section
variable {P:Program}{L0:Nat→Prop}{c0:Cx}{n:Nat}{ds:List Nat}{o:Oper}{s:RS}
theorem rv {c:Cx}{L:Nat→Prop}{x:AV}{v:Value}(h:x.bP=true)(hv:VR c L x v):v.oneCell'=true∧v.cells = #[v]:=by
 cases x<;>simp only [AV.bP] at h<;>first | (cases h; done) | skip
 all_goals simp only [VR] at hv
 ·subst hv; exact⟨rfl,rfl⟩
 ·subst hv; exact⟨rfl,rfl⟩
 ·subst hv; exact⟨rfl,rfl⟩
 ·subst hv; exact⟨rfl,rfl⟩
 ·obtain⟨_,a,rfl,_⟩:=hv; exact⟨rfl,rfl⟩
 ·obtain⟨b,o,rfl,_⟩:=hv; exact⟨rfl,rfl⟩
 ·obtain⟨a,rfl⟩:=hv; exact⟨rfl,rfl⟩
 ·obtain⟨a,cap,rfl,_⟩:=hv; exact⟨rfl,rfl⟩
 ·rcases hv with⟨_,_,_,a,rfl⟩| ⟨_,_,a,cap,rfl,_⟩<;>exact⟨rfl,rfl⟩
 ·subst hv; exact⟨rfl,rfl⟩
 ·obtain⟨_,r,rfl,_⟩:=hv; exact⟨rfl,rfl⟩
 ·obtain⟨vs,rfl,_⟩:=hv; exact⟨rfl,rfl⟩
 ·subst hv; exact⟨rfl,rfl⟩
theorem pN {c:Cx}{L:Nat→Prop}:∀{xs:List AV} {vs:List Value},xs.all AV.bP=true→VRs c L xs vs→∀v∈vs,v.oneCell'=true
 | [],[],_,_,v,hv=>by simp at hv
 | x::xs,u::us,h,hr,v,hv=>by
  simp only [Vi,Ux] at h
  rcases UT.1 hv with rfl | hv
  ·exact (rv h.1 hr.1).1
  ·exact pN h.2 hr.2 v hv
 | [],_::_,_,h,_,_=>h.elim
 | _::_,[],_,h,_,_=>h.elim
theorem iy {c:Cx}{L:Nat→Prop}{x:AV}{v:Value}(h:x.cells.all AV.bP=true)(hv:VR c L x v):VRs c L x.cells v.cells.toList∧∀u∈v.cells.toList,u.oneCell'=true:=by
 cases x with
 | agg cs=>
  simp only [VR] at hv
  obtain⟨vs,rfl,Cw⟩:=hv
  exact⟨Cw,pN h Cw⟩
 | _=>
  simp only [AV.cells,Vi,List.all_nil,Bool.and_true] at h
  obtain⟨h1,h2⟩:=rv h hv
  rw [h2]
  exact⟨⟨hv,trivial⟩,by simpa using h1⟩
theorem SR.qO {c:Cx}{Lo:Nat→Prop}{lam:Nat→Nat}{bx:Nat→Option (List AV)}{x:AV}{v:Value}(hx:SR c L0 Lo lam bx x v)(h:x.cells.all AV.bP=true):VR c (un L0 Lo) x v:=
 hx.vr (by rintro k off rfl; simp [AV.cells,AV.bP] at h)
theorem jA {c:Cx}{b m base off:Nat}{vs:List Value}(hp:Plain c b m)(hl:base+off+vs.length≤m)(h1:∀v∈vs,v.oneCell'=true) :
  (storeCells ⟨b,base+off,none⟩ vs).run P c.w = .ok () (c.w.setCells b (base+off) vs):=by
 obtain⟨C,e,lo,hi,hb,hf,hm⟩:=hp
 have:=run_storeCells_cells (P:=P) b (base+off) vs 0 c.w (fun j hj=>by
  rw [cell_of_block hb]
  have:base+off+0+j<C.size:=by omega
  simpa using this) (fun j hj=>by
  simp only [World.frozen?,hb]
  rcases hf with hf | hf
  ·subst hf; simp
  ·simp; omega) h1
 simpa using this
theorem Plain.setCells {c:Cx}{b m o:Nat}{vs:List Value}(hp:Plain c b m)(hl:o+vs.length≤m)(β':Nat→Nat × Nat)(h':AHeap)(bs:Nat):Plain ⟨β',h',c.w.setCells b o vs,bs⟩ b m:=by
 obtain⟨C,e,lo,hi,hb,hf,hm⟩:=hp
 obtain⟨C',h1,h2,_⟩:=eT vs b o c.w C e (lo,hi) hb (by omega)
 exact⟨C',e,lo,hi,h1,by rw [h2]; exact hf,by rw [h2]; exact hm⟩
theorem hZ.setCells {c:Cx}{b m o:Nat}{vs:List Value}(hp:hZ c b m)(hl:o+vs.length≤m)(β':Nat→Nat × Nat)(h':AHeap)(bs:Nat):hZ ⟨β',h',c.w.setCells b o vs,bs⟩ b m:=by
 obtain⟨C,e,hb,hm⟩:=hp
 obtain⟨C',h1,h2,_⟩:=eT vs b o c.w C e (0,0) hb (by omega)
 exact⟨C',e,h1,by rw [h2]; exact hm⟩
theorem iz {c c':Cx}{L0 Lo ji:Nat→Prop}{b m base off:Nat}{cs xs:List AV}{vs:List Value}(hp:Plain c b m)(hc:Cells c (un L0 Lo) cs b base)(hv:VRs c (un L0 Lo) xs vs)(J4:∀v∈vs,v.oneCell'=true)(hl:off+xs.length≤cs.length)(hm:base+cs.length≤m)
  (e:Ext c Lo c' ji) (hw:c'.w=c.w.setCells b (base+off) vs):Cells c' (un L0 ji) (da cs off xs) b base:=by
 obtain⟨C,e',lo,hi,hb,hf,qP⟩:=hp
 have hlen:=hv.length
 obtain⟨C',h1,h2,h3⟩:=eT vs b (base+off) c.w C e' (lo,hi) hb (by omega)
 rw [Cells.iff]
 intro i x hx
 rw [hw,cell_of_block h1,h3]
 rw [ru xs cs off i hl] at hx
 by_cases h4:off≤i∧i<off+xs.length
 ·rw [if_pos h4] at hx
  obtain⟨v,LV,HJ⟩:=hv.get _ x hx
  refine⟨v,?_,J4 v (UM LV),VR.ext e x v HJ⟩
  rw [if_pos (by omega),show base+i - (base+off)=i - off by omega]
  exact LV
 ·rw [if_neg h4] at hx
  obtain⟨v,LV,HP,HJ⟩:=hc.get' i x hx
  refine⟨v,?_,HP,VR.ext e x v HJ⟩
  rw [if_neg (by omega),←cell_of_block hb]
  exact LV
theorem mY {c:Cx}{L:Nat→Prop}{t:TypeId}{cs eQ:List AV}{b m base off:Nat}{x:AV}{v:Value}(hp:Plain c b m)(hm:base+cs.length≤m)(hv:VR c L x v)(h:gI P t cs off x=some eQ) :
  (storeVar t ⟨b,base+off,none⟩ v).run P c.w = .ok () (c.w.setCells b (base+off) v.cells.toList)∧VRs c L x.cells v.cells.toList∧off+x.cells.length≤cs.length∧eQ=da cs off x.cells∧(∀u∈v.cells.toList,u.oneCell'=true):=by
 unfold gI at h
 rw [Ut] at h
 obtain⟨k,hk,h⟩:=h
 split at h
 ·rename_i hh
  obtain⟨h1,h2,h3⟩:=hh
  cases h
  obtain⟨h4,h5⟩:=iy h2 hv
  have h6:=h4.length
  refine⟨?_,h4,by omega,rfl,h5⟩
  have h7:v.cells.size=k:=by rw [←Vw,←h6]; exact h1
  simp only [storeVar,Sem.run_bind,dz hk,Result.andThen_ok,h7]
  simp only [ne_eq,not_true_eq_false,if_false]
  rw [←jA (P:=P) hp (vs:=v.cells.toList) (base:=base) (off:=off) (by omega) h5]
 ·cases h
theorem iT {c c0:Cx}{Lo:Nat→Prop}(e:Ext c0 none0 c Lo)(h:c0.base≤c0.w.heap.size):c.base≤c.w.heap.size:=by
 rw [e.base]; exact Vj h e.size
theorem CX (hb0:c0.base≤c0.w.heap.size)(hd:fY n ds o){t:TypeId}{x y:Operand}(ho:o.op = .store t x y)(qe:o.dst=none){s':RS}
  (h:(match bJ s.ρ x with
   | .lp k off=>(s.bx k).bind fun cs=>(gI P t cs off (bJ s.ρ y)).map fun eQ=>s.box k eQ
   | .ptr id off=>(s.h.get id).bind fun | .cells cs=>(gI P t cs off (bJ s.ρ y)).map fun eQ=>{s with h:=s.h.put id (.cells eQ)} | _=>none
   | _=>none)=some s'):iV P L0 c0 n ds o s s':=by
 rintro a w K Q ⟨hn,c,Lo,lam,rfl,f,e⟩ hK
 have hbs:=iT e hb0
 have hx:=bA f x
 have hy:=bA f y
 unfold Oper.wp
 have HQ:a.put o.dst undef=a:=by rw [qe]; rfl
 have fin:∀c' ji qd,((Instr.storeAt t (a.eval x) (a.eval y)).run P c.w = .ok () c'.w)→Fr L0 c' ji qd ds s' a→Ext c Lo c' ji→Oper.upon P o a K Q ((execOp a.eval o).run P c.w):=by
  intro c' ji qd hr f' e'
  have:(execOp a.eval o).run P c.w = .ok .skip c'.w:=by simp [execOp,ho,hr]
  rw [this,Oper.upon_skip,HQ]
  exact hK _ _ ⟨hn,c',ji,qd,rfl,f',e.trans e'⟩
 cases Br:bJ s.ρ x<;>rw [Br] at h<;>simp only at h<;>try (cases h; done)
 ·rename_i id off
  rw [Ut] at h
  obtain⟨ob,hob,h⟩:=h
  cases ob with
  | map es=>cases h
  | row t cs=>cases h
  | cells cs=>
  rw [Uv] at h
  obtain⟨eQ,hw,rfl⟩:=h
  rw [Br] at hx
  simp only [SR,VR] at hx
  obtain⟨hi,ad,xM,ha⟩:=hx
  rw [←f.h] at hob
  have hl:Live c.h id:=⟨f.rel.lt _ _ hob,by simp [hob]⟩
  obtain⟨m,hp,hm,hc⟩:=f.rel.obj _ _ hob
  have mZ:(bJ s.ρ y).cells.all AV.bP=true:=by
   unfold gI at hw
   rw [Ut] at hw
   obtain⟨k,_,hw⟩:=hw
   split at hw
   ·rename_i hh; exact hh.2.1
   ·cases hw
  have MA:=hy.qO mZ
  obtain⟨hr,hv,hle,rfl,J4⟩:=mY (P:=P) hp.jR hm MA hw
  have hvl:=hv.length
  obtain⟨q1,q2,q3,q4⟩:=gj (a.eval y).cells.toList (c.β id).1 ((c.β id).2+off) c.w
  have:=f.upd (w':=c.w.setCells (c.β id).1 ((c.β id).2+off) (a.eval y).cells.toList) (β':=c.β) (h':=c.h.put id (.cells (da cs off (bJ s.ρ y).cells))) id (.cells (da cs off (bJ s.ρ y).cells))
   (Steady.put _ _ _) (by simp only [AHeap.put]; omega) (by simp [AHeap.put,beq_nat]) (fun j5 hne=>.inr ⟨by simp [AHeap.put,beq_nat,hne],rfl⟩) (fun _=>⟨hl,rfl⟩) (.inr ⟨id,hl,rfl,.inl rfl⟩)
   (fun _=>by
    obtain⟨C,e',lo,jw,hb,hf,qP⟩:=hp.jR
    obtain⟨C',h1,h2,_⟩:=eT (a.eval y).cells.toList (c.β id).1 ((c.β id).2+off) c.w C e' (lo,jw) hb (by omega)
    simp [World.shape?,h1,Cx.len,hb,h2])
   (fun b _ hne=>dA _ _ _ _ _ hne) (fun b _ hne=>dA _ _ _ _ _ hne) (by rw [q1]; exact Uy _) hbs q2 q3 q4
   (fun e'=>⟨m,hp.setCells (by omega) _ _ _,by rw [gU]; exact hm,iz hp.jR hc hv J4 hle hm e' rfl⟩)
  rw [f.h] at this
  obtain⟨e',f'⟩:=this
  refine fin _ _ _ ?_ f' e'
  rw [xM,ha hl]
  simp [Instr.storeAt,Instr.sureAddr,hr]
 ·rename_i k off
  rw [Ut] at h
  obtain⟨cs,J5,h⟩:=h
  rw [Uv] at h
  obtain⟨eQ,hw,rfl⟩:=h
  rw [Br] at hx
  simp only [SR] at hx
  obtain⟨xM,_⟩:=hx
  have ob:=f.box k cs J5
  have mZ:(bJ s.ρ y).cells.all AV.bP=true:=by
   unfold gI at hw
   rw [Ut] at hw
   obtain⟨k,_,hw⟩:=hw
   split at hw
   ·rename_i hh; exact hh.2.1
   ·cases hw
  have MA:=hy.qO mZ
  obtain⟨hr,hv,hle,rfl,J4⟩:=mY (P:=P) (base:=0) ob.plain (by omega) MA hw
  have hvl:=hv.length
  obtain⟨q1,q2,q3,q4⟩:=gj (a.eval y).cells.toList (lam k) (0+off) c.w
  obtain⟨ji,qd,e',f',_⟩:=f.CW (w':=c.w.setCells (lam k) (0+off) (a.eval y).cells.toList) k (da cs off (bJ s.ρ y).cells) (lam k) (.inr ⟨rfl,by rw [J5]; rfl⟩)
   (fun _ _ _=>rfl) (fun b _ hne=>dA _ _ _ _ _ hne) (fun b _ hne=>dA _ _ _ _ _ hne) (by rw [q1]; exact Uy _) (by rw [q1]; exact ob.plain.lt) hbs q2 q3 q4
   (by rw [gU]; exact ob.plain.setCells (by omega) _ _ _) (fun e'=>iz ob.plain ob.cells hv J4 hle (by omega) e' rfl)
  refine fin _ _ _ ?_ f' e'
  rw [xM]
  rw [UR] at hr
  simp [Instr.storeAt,Instr.sureAddr,hr]
end
end Go.R
namespace Go.R
open Go
theorem ie (w:World)(o:Obj):(w.alloc o).heap[w.heap.size]? = some o:=by
 show (w.heap.push o)[w.heap.size]? = some o
 simp
theorem alloc_old (w:World)(o:Obj){b:Nat}(h:b<w.heap.size):(w.alloc o).heap[b]? = w.heap[b]?:=by
 show (w.heap.push o)[b]? = w.heap[b]?
 simp [Array.getElem?_push,show b≠w.heap.size by omega]
theorem RS.set_set (s:RS)(d:Option Nat)(x y:AV):(s.set d x).set d y=s.set d y:=by
 cases d with
 | none=>rfl
 | some d=>
  simp only [RS.set]
  congr 1
  funext t
  cases U5 t d<;>rfl
theorem FJ (a:Act)(d:Option Nat)(x y:Value):(a.put d x).put d y=a.put d y:=by
 cases d with
 | none=>rfl
 | some d=>
  simp only [Act.put]
  congr 1
  apply Array.ext_getElem?
  intro i
  simp only [Vr,Array.size_setIfInBounds]
  by_cases h:d=i<;>by_cases h2:d<a.tmps.size<;>simp [h,h2]
section
variable {P:Program}{L0:Nat→Prop}{c0:Cx}{n:Nat}{ds:List Nat}{o:Oper}{s:RS}
theorem oZ {k:Nat}{ρ:Nat→AV}:∀{l:List Nat},q9 k ρ l=true→∀t∈l,∀off,ρ t≠.lp k off
 | [],_,t,ht=>by simp at ht
 | x::xs,h,t,ht=>by
  simp only [q9,Ux] at h
  intro off he
  rcases UT.1 ht with rfl | ht
  ·rw [he] at h; simp at h
  ·exact oZ h.2 t ht off he
theorem Fr.CY {c:Cx}{Lo:Nat→Prop}{lam:Nat→Nat}{a:Act}(f:Fr L0 c Lo lam ds s a)(hbs:c.base≤c.w.heap.size)(w1:World)(MB:w1.heap=c.w.heap∧w1.os=c.w.os∧w1.tape=c.w.tape∧w1.output=c.w.output)(ob:AObj)(obj:Obj)
  (h':AHeap) (hg:h'.get c.h.next=some ob) (hst:Steady c.h h') (hn:c.h.next<h'.next) (ho:∀id,id≠c.h.next→h'.get id=none∨h'.get id=c.h.get id)
  (hob:∀(c':Cx) (e:Ext c Lo c' Lo),c'.w=w1.alloc obj→nQ c' (un L0 Lo) c.w.heap.size 0 ob) :
  ∃β',Ext c Lo ⟨β',h',w1.alloc obj,c.base⟩ Lo∧Fr L0 ⟨β',h',w1.alloc obj,c.base⟩ Lo lam ds {s with h:=h'} a∧β' c.h.next=(c.w.heap.size,0)∧Live h' c.h.next:=by
 obtain⟨q0,q1,q2,q3⟩:=MB
 have hsz:w1.heap.size=c.w.heap.size:=by rw [q0]
 refine⟨fun i=>if i=c.h.next then (c.w.heap.size,0) else c.β i,?_⟩
 have:=f.upd (w':=w1.alloc obj) (β':=fun i=>if i=c.h.next then (c.w.heap.size,0) else c.β i) (h':=h') c.h.next ob
  hst hn hg (fun id hne=>(ho id hne).imp (fun x=>x) fun h=>⟨h,by simp [hne]⟩)
  (fun h=>absurd h (Nat.lt_irrefl _)) (.inl (by simp)) (fun h=>by simp at h)
  (fun b hb _=>by rw [alloc_old _ _ (by omega),q0]) (fun b hb _=>by rw [alloc_old _ _ (by omega),q0]) (by simp [hsz]) hbs q1 q2 q3
  (fun e=>by simpa using hob _ e rfl)
 exact⟨this.1,this.2,by simp,⟨hn,by rw [hg]; rfl⟩⟩
theorem Fr.fresh {c:Cx}{Lo:Nat→Prop}{lam:Nat→Nat}{a:Act}(f:Fr L0 c Lo lam ds s a)(hbs:c.base≤c.w.heap.size)(w1:World)(MB:w1.heap=c.w.heap∧w1.os=c.w.os∧w1.tape=c.w.tape∧w1.output=c.w.output)(ob:AObj)(obj:Obj)
  (hob:∀(c':Cx) (e:Ext c Lo c' Lo),c'.w=w1.alloc obj→nQ c' (un L0 Lo) c.w.heap.size 0 ob) :
  ∃β',Ext c Lo ⟨β',c.h.alloc ob,w1.alloc obj,c.base⟩ Lo∧Fr L0 ⟨β',c.h.alloc ob,w1.alloc obj,c.base⟩ Lo lam ds {s with h:=c.h.alloc ob} a∧β' c.h.next=(c.w.heap.size,0)∧Live (c.h.alloc ob) c.h.next:=
 f.CY hbs w1 MB ob obj (c.h.alloc ob) (by simp [AHeap.alloc,AHeap.put,beq_nat]) (Steady.put _ _ _) (Vh _) (fun id hne=>.inr (by simp [AHeap.alloc,AHeap.put,beq_nat,hne])) hob
theorem kR {c':Cx}{w1:World}{C:Array Value}{e:TypeId}(hw:c'.w=w1.alloc (.cells C e)):hZ c' w1.heap.size C.size:=
 ⟨C,e,by rw [hw]; exact ie _ _,rfl⟩
theorem Bs {c':Cx}{w1:World}{C:Array Value}{e:TypeId}(hw:c'.w=w1.alloc (.cells C e)):Plain c' w1.heap.size C.size:=
 ⟨C,e,0,0,by rw [hw]; exact ie _ _,.inl rfl,rfl⟩
theorem jo {c':Cx}{L:Nat→Prop}{w1:World}{C:Array Value}{e:TypeId}{xs:List AV}{vs:List Value}(hw:c'.w=w1.alloc (.cells C e))(hv:VRs c' L xs vs)(hp:∀i,i<vs.length→C[i]? = vs[i]?)(h1:∀v∈vs,v.oneCell'=true):Cells c' L xs w1.heap.size 0:=
 Cells.of_vals hv (fun i hi=>by rw [hw,cell_of_block (ie _ _),UR]; exact hp i hi) h1
theorem tq (hb0:c0.base≤c0.w.heap.size)(hd:fY n ds o){aE:List Nat}{cs:List AV}{s':RS}(t:TypeId)(h:hY s aE ds o cs=some s')
  (hx:∀a c Lo lam,Fr L0 c Lo lam ds s a→a.tmps.size=n→∃v:Value,(execOp a.eval o).run P c.w = .ok (.value (.pointer (some ⟨c.w.heap.size,0,none⟩))) (c.w.alloc (.cells v.cells t))∧VRs c (un L0 Lo) cs v.cells.toList∧∀u∈v.cells.toList,u.oneCell'=true) :
  iV P L0 c0 n ds o s s':=by
 unfold hY at h
 split at h
 rotate_left
 ·cases h
 rename_i nJ
 cases LW:o.dst with
 | none=>rw [LW] at h; cases h
 | some d=>
 obtain⟨Fq,xN⟩:=hd d LW
 rw [LW] at h
 simp only at h
 rintro a w K Q ⟨hn,c,Lo,lam,rfl,f,e⟩ hK
 have hbs:=iT e hb0
 obtain⟨v,hr,hv,h1⟩:=hx a c Lo lam f hn
 unfold Oper.wp
 rw [hr,Oper.upon_value,LW]
 split at h
 ·split at h
  rotate_left
  ·cases h
  rename_i vE
  cases h
  have f1:=f.set (d:=some d) (x:=.any) (v:=undef) (SR.of (by simp [VR])) (fun t ht=>by cases ht; exact⟨hn ▸ Fq,xN⟩)
  have CZ:∀t off,(s.set (some d) .any).ρ t≠.lp d off:=by
   intro t off he
   rw [ti] at he
   by_cases G7:t=d
   ·rw [if_pos G7] at he; cases he
   ·rw [if_neg G7] at he
    by_cases hm:t∈ds
    ·exact oZ vE t (by simp [hm,beq_nat,G7]) off he
    ·exact G7 (f.tidy t d off hm he).symm
  obtain⟨ji,qd,e',f',MC⟩:=f1.CW (w':=c.w.alloc (.cells v.cells t)) d cs c.w.heap.size (.inl (Uy _)) (fun t off he=>absurd he (CZ t off))
   (fun b hb _=>alloc_old _ _ hb) (fun b hb _=>alloc_old _ _ (by omega)) (by simp) (by simp) hbs rfl rfl rfl
   (by
     have:=Bs (c':={c with w:=c.w.alloc (.cells v.cells t)}) (w1:=c.w) (C:=v.cells) (e:=t) rfl
     rwa [show v.cells.size=cs.length by rw [←Vw,hv.length]] at this)
   (fun e'=>jo (w1:=c.w) (C:=v.cells) (e:=t) rfl (VRs.ext e' _ _ hv) (fun i _=>by simp) h1)
  have f2:=f'.set (d:=some d) (x:=.lp d 0) (v:=.pointer (some ⟨c.w.heap.size,0,none⟩)) (by simp only [SR,MC,RS.box,beq_nat]; simp) (fun t ht=>by cases ht; rw [fX]; exact⟨hn ▸ Fq,xN⟩)
  rw [FJ] at f2
  have hs:(((s.set (some d) .any).box d cs).set (some d) (.lp d 0))=(s.box d cs).set (some d) (.lp d 0):=by
   rw [←RS.set_set (s.box d cs) (some d) .any]
   rfl
  rw [hs] at f2
  exact hK _ _ ⟨(fX _ _ _).trans hn,_,ji,qd,rfl,f2,e.trans e'⟩
 ·cases h
  obtain⟨β',e',f',hβ,hl⟩:=f.fresh hbs c.w ⟨rfl,rfl,rfl,rfl⟩ (.cells cs) (.cells v.cells t) (fun c' e' hw=>⟨_,kR hw,by rw [UR,hv.length]; simp,
   jo (w1:=c.w) hw (VRs.ext e' _ _ hv) (fun i _=>by simp) h1⟩)
  rw [f.h] at f' e' hβ hl
  have f2:=f'.set (d:=some d) (x:=.ptr s.h.next 0) (v:=.pointer (some ⟨c.w.heap.size,0,none⟩)) (by
   simp only [SR,VR]
   exact⟨hl.1,_,rfl,fun _=>by rw [hβ]⟩) (fun t ht=>by cases ht; exact⟨hn ▸ Fq,xN⟩)
  exact hK _ _ ⟨(fX _ _ _).trans hn,_,Lo,lam,rfl,f2,e.trans e'⟩
theorem zq {c:Cx}{L:Nat→Prop}{n:Nat}{x:AV}{v:Value}(h:VR c L x v):VR c L (sL n x) v:=by
 unfold sL
 split
 ·simp only [VR] at h ⊢
  exact .inl ⟨trivial,trivial,trivial,none,h⟩
 ·exact h
theorem zr {c:Cx}{L:Nat→Prop}{n:Nat}:∀{cs:List AV} {vs:List Value} (j:Nat),VRs c L cs vs→VRs c L (yb n j cs) vs
 | [],vs,j,h=>h
 | x::cs,[],j,h=>h.elim
 | x::cs,v::vs,j,h=>by
  refine⟨?_,zr (j+1) h.2⟩
  split
  ·exact h.1
  ·exact zq h.1
theorem zt {c:Cx}{L:Nat→Prop}{n:Nat}:∀{cs:List AV} {vs:List Value},VRs c L cs vs→VRs c L (cs.map (sL n)) vs
 | [],vs,h=>h
 | x::cs,[],h=>h.elim
 | x::cs,v::vs,h=>⟨zq h.1,zt h.2⟩
theorem FK {c:Cx}{L:Nat→Prop}{cs:List AV}{vs:List Value}(h:VRs c L cs vs):∀n,VRs c L (FE cs n) vs
 | 0=>h
 | n+1=>by
  have e:FE cs (n+1)=bif VP 100 (n+1) then yb (n+1) 0 cs else cs.map (sL (n+1)):=rfl
  rw [e]
  cases VP 100 (n+1)
  ·exact zt h
  ·exact zr 0 h
theorem zu {c:Cx}{L:Nat→Prop}{aE:List Nat}{d:Option Nat}{cs:List AV}{vs:List Value}(h:VRs c L cs vs):VRs c L (yc aE d cs) vs:=by
 unfold yc
 split
 ·exact h
 ·exact FK h _
theorem FL {c:Cx}{L:Nat→Prop}{aE:List Nat}{d:Option Nat}{x:AV}{v:Value}(h:VR c L x v):VR c L (HH aE d x) v:=by
 unfold HH
 split
 ·simp only [VR] at h ⊢
  obtain⟨vs,h1,h2⟩:=h
  exact⟨vs,h1,zu h2⟩
 ·exact h
theorem zw {n:Nat}{x:AV}(h:(sL n x).bP=true):x.bP=true:=by
 unfold sL at h
 split at h
 ·rfl
 ·exact h
theorem zx {n:Nat}:∀{cs:List AV} (j:Nat),(yb n j cs).all AV.bP=true→cs.all AV.bP=true
 | [],j,h=>rfl
 | x::cs,j,h=>by
  rw [yb,Vi,Ux] at h
  rw [Vi,Ux]
  refine⟨?_,zx (j+1) h.2⟩
  have h1:=h.1
  split at h1
  ·exact h1
  ·exact zw h1
theorem zy {n:Nat}:∀{cs:List AV},(cs.map (sL n)).all AV.bP=true→cs.all AV.bP=true
 | [],h=>rfl
 | x::cs,h=>by
  rw [UX,Vi,Ux] at h
  rw [Vi,Ux]
  exact⟨zw h.1,zy h.2⟩
theorem FM {aE:List Nat}{d:Option Nat}{cs:List AV}(h:(yc aE d cs).all AV.bP=true):cs.all AV.bP=true:=by
 unfold yc at h
 split at h
 ·exact h
 ·rename_i d'
  generalize CN aE d'=n at h
  cases n with
  | zero=>exact h
  | succ n=>
   have e:FE cs (n+1)=bif VP 100 (n+1) then yb (n+1) 0 cs else cs.map (sL (n+1)):=rfl
   rw [e] at h
   cases hb:VP 100 (n+1)
   ·rw [hb,cond_false] at h; exact zy h
   ·rw [hb,cond_true] at h; exact zx 0 h
theorem Bu {c:Cx}{t:TypeId}{z:AV}(hz:ir P t=some z)(nJ:z.cells.all AV.bP=true)(L:Nat→Prop):∃v:Value,(Instr.alloc t true (.tuple #[])).run P c.w = .ok (.pointer (some ⟨c.w.heap.size,0,none⟩)) (c.w.alloc (.cells v.cells t))∧VRs c L z.cells v.cells.toList∧∀u∈v.cells.toList,u.oneCell'=true:=by
 obtain⟨v,hr,hv⟩:=jm hz c.w
 obtain⟨h1,h2⟩:=iy nJ (kQ (c:=c) (L:=L) hv)
 exact⟨v,by simp [Instr.alloc,hr,newVar,newRow],h1,h2⟩
theorem iA (z:List AV):∀k,(ic z k).length=k*z.length
 | 0=>by simp [ic]
 | k+1=>by simp [ic,iA z k,VE,VZ]
theorem tu (z:List AV):∀(k i:Nat),i<k*z.length→(ic z k)[i]? = z[i % z.length]?
 | 0,i,h=>by simp at h
 | k+1,i,h=>by
  rw [VE,Nat.one_mul] at h
  rw [ic]
  by_cases h1:i<z.length
  ·rw [UJ h1,Nat.mod_eq_of_lt h1]
  ·rw [UO (by omega),tu z k _ (by omega),←Nat.mod_eq_sub_mod (show z.length≤i by omega)]
theorem pa {c:Cx}{L:Nat→Prop}{z:List AV}{zv:Array Value}(hz:VRs c L z zv.toList)(k m:Nat)(hm:k*z.length≤m)(Cy:z.length≠0) :
  VRs c L (ic z k) (((Array.range m).map (zv[· % zv.size]!)).toList.take (k*z.length)):=by
 have hl:=hz.length
 have key:∀(xs:List AV) (vs:List Value),xs.length=vs.length→(∀(i:Nat) x v,xs[i]? = some x→vs[i]? = some v→VR c L x v)→VRs c L xs vs:=by
  intro xs
  induction xs with
  | nil=>intro vs h _; cases vs with | nil=>trivial | cons _ _=>simp at h
  | cons x xs ih=>
   intro vs h ky
   cases vs with
   | nil=>simp at h
   | cons v vs=>
    refine⟨ky 0 x v rfl rfl,ih vs (by simpa using h) fun i y u hy hu=>ky (i+1) y u (by simpa using hy) (by simpa using hu)⟩
 refine key _ _ (by rw [iA]; simp; omega) fun i x v hx hv=>?_
 have hi:i<k*z.length:=by
  have:=(UA.1 hx).1
  rwa [iA] at this
 rw [tu z k i hi] at hx
 obtain⟨u,hu,hr⟩:=hz.get _ x hx
 rw [List.getElem?_take,if_pos hi] at hv
 have zm:i<m:=by omega
 have qf:i % zv.size<zv.size:=Nat.mod_lt _ (by rw [←Vw,←hl]; omega)
 have:v=zv[i % zv.size]!:=by
  simp [zm] at hv
  exact hv.symm
 rw [show zv.toList.length=zv.size by simp] at hl
 rw [hl,Array.getElem?_toList,Array.getElem?_eq_getElem qf] at hu
 rw [this,getElem!_pos zv _ qf]
 cases hu
 exact hr
theorem kS (hb0:c0.base≤c0.w.heap.size)(hd:fY n ds o){ob:AObj}{x:AV}
  (h:∀a c Lo lam,Fr L0 c Lo lam ds s a→a.tmps.size=n→∃(obj:Obj) (v:Value),(execOp a.eval o).run P c.w = .ok (.value v) (c.w.alloc obj)∧
   (∀(c':Cx) (e:Ext c Lo c' Lo),c'.w=c.w.alloc obj→nQ c' (un L0 Lo) c.w.heap.size 0 ob)∧
   (∀(c':Cx),c'.h=s.h.alloc ob→c'.w=c.w.alloc obj→c'.β s.h.next=(c.w.heap.size,0)→VR c' (un L0 Lo) x v)) (hx:∀k off,x≠.lp k off) :
  iV P L0 c0 n ds o s ({s with h:=s.h.alloc ob}.set o.dst x):=by
 rintro a w K Q ⟨hn,c,Lo,lam,rfl,f,e⟩ hK
 have hbs:=iT e hb0
 obtain⟨obj,v,hr,hob,hv⟩:=h a c Lo lam f hn
 unfold Oper.wp
 rw [hr,Oper.upon_value]
 obtain⟨β',e',f',hβ,hl⟩:=f.fresh hbs c.w ⟨rfl,rfl,rfl,rfl⟩ ob obj hob
 rw [f.h] at f' e' hβ hl
 have f2:=f'.set (d:=o.dst) (x:=x) (v:=v) (SR.of (hv _ rfl rfl hβ)) (fun t ht=>by rw [hn]; exact hd t ht)
 exact hK _ _ ⟨(fX _ _ _).trans hn,_,Lo,lam,rfl,f2,e.trans e'⟩
theorem ym (hb0:c0.base≤c0.w.heap.size)(hd:fY n ds o){t:TypeId}(ho:o.op = .makeMap t none):iV P L0 c0 n ds o s ({s with h:=s.h.alloc (.map [])}.set o.dst (.mp s.h.next)):=by
 refine kS hb0 hd (fun a c Lo lam f hn=>⟨.map #[] 0,.map (some c.w.heap.size),by simp [execOp,ho,Instr.makeMap],fun c' e hw=>⟨#[],0,by rw [hw]; exact ie _ _,trivial⟩,fun c' hh hw hβ=>?_⟩) (by rintro k off hh; cases hh)
 simp only [VR]
 exact⟨by rw [hh]; exact Vh _,_,rfl,fun _=>by rw [hβ]⟩
theorem tv {i:Int}(h0:0≤i)(h1:i≤1099511627776):IntKind.i64.wrap i=i:=IntWalk.i64_in _ (by omega)
theorem ux (hb0:c0.base≤c0.w.heap.size)(hd:fY n ds o){t:TypeId}{lx cx:Operand}(ho:o.op = .makeSlice t lx cx){s':RS}
  (h:((gy P s.h t (bJ s.ρ lx) (bJ s.ρ cx)).map fun (x,h)=>{s with h}.set o.dst x)=some s'):iV P L0 c0 n ds o s s':=by
 rw [Uv] at h
 obtain⟨⟨x,h'⟩,hm,rfl⟩:=h
 unfold gy at hm
 split at hm<;>try (cases hm; done)
 rename_i l cc hl hc
 rw [Ut] at hm
 obtain⟨d,C0,hm⟩:=hm
 cases d<;>simp only at hm<;>try (cases hm; done)
 rename_i e
 simp only [Ut] at hm
 obtain⟨i,hi,z,hz,hm⟩:=hm
 split at hm
 rotate_left
 ·cases hm
 rename_i jB
 obtain⟨h0,h1,h2,h3,h4,h5,h6⟩:=jB
 simp only [Uw,UB] at hm
 obtain⟨rfl,rfl⟩:=hm
 refine kS hb0 hd (fun a c Lo lam f hn=>?_) (by rintro k off hh; cases hh)
 have Rw:s.h.next≠0:=by have:=f.rel.ver 0; rw [f.h] at this; omega
 have ls:=(bA f lx)
 have J6:=(bA f cx)
 rw [hl] at ls
 rw [hc] at J6
 simp only [SR,VR] at ls J6
 obtain⟨zv,CT,yl⟩:=jm hz c.w
 have Cz:(typeInfo e).run P c.w = .ok i c.w:=by simp [typeInfo,hi]
 have hsz:(sizeOf e).run P c.w = .ok i.size c.w:=dz (by simp [eO,hi]) c.w
 obtain⟨xO,hz1⟩:=iy h6 (kQ (c:=c) (L:=un L0 Lo) yl)
 have Cy:=xO.length
 have hl0:IntKind.i64.wrap l=l:=tv h0 (by omega)
 have Rx:IntKind.i64.wrap cc=cc:=tv (by omega) h5
 have hroom:¬((i.bytes:Int)*cc > 2 ^ 48):=by
  rw [Int.mul_comm]; simp only [gm] at h2; omega
 have hn0:cc.toNat*i.size=0∨cc.toNat*i.size≠0:=by omega
 have yn:(Instr.makeSlice t (.int .i64 l) (.int .i64 cc)).run P c.w = .ok (.slice (some ⟨c.w.heap.size,0,none⟩) l.toNat cc.toNat)
   (c.w.alloc (.cells ((Array.range (cc.toNat*i.size)).map (zv.cells[· % zv.cells.size]!)) e)):=by
  unfold Instr.makeSlice
  simp only [Sem.run_bind,bn C0,Result.andThen_ok,asInt,asIntOf,Sem.run_pure,Cz,hl0,Rx,hsz]
  rw [if_neg (by simp only [Ve,decide_eq_true_eq,not_or]; exact⟨⟨⟨by omega,hroom⟩,by omega⟩,by omega⟩)]
  simp only [Sem.run_bind,run_askRoom,Result.andThen_ok,hsz,Sem.run_pure]
  by_cases hz0:cc.toNat*i.size=0
  ·have MD:∀f:Nat→Value,Array.map f (Array.range 0) = #[]:=fun f=>by simp
   simp only [hz0,if_true,Sem.run_pure,Sem.run_bind,Result.andThen_ok,newRow,run_newObj,World.alloc_eq,MD]
  ·simp only [hz0,if_false,Sem.run_bind,CT,Result.andThen_ok,Sem.run_pure,newRow,run_newObj,World.alloc_eq]
 have hle:l.toNat*z.cells.length≤cc.toNat*i.size:=by rw [h3]; exact Vm _ (by omega)
 have hrow:∀(c':Cx) (e':Ext c Lo c' Lo),c'.w=c.w.alloc (.cells ((Array.range (cc.toNat*i.size)).map (zv.cells[· % zv.cells.size]!)) e)→
   nQ c' (un L0 Lo) c.w.heap.size 0 (.cells (ic z.cells l.toNat)):=by
  intro c' e' hw
  refine⟨_,kR hw,by rw [iA]; simp; omega,?_⟩
  have hv:=pa xO l.toNat (cc.toNat*i.size) hle (by omega)
  refine jo (w1:=c.w) hw (VRs.ext e' _ _ hv) (fun j hj=>?_) (fun u hu=>?_)
  ·rw [List.getElem?_take,if_pos (by simp at hj; omega),Array.getElem?_toList]
  ·have PE:=List.mem_of_mem_take hu
   simp only [Array.toList_map,U8] at PE
   obtain⟨j,hj,rfl⟩:=PE
   have qf:j % zv.cells.size<zv.cells.size:=Nat.mod_lt _ (by rw [←Vw,←Cy]; omega)
   rw [getElem!_pos zv.cells _ qf]
   exact hz1 _ (by simp)
 have hex:(execOp a.eval o).run P c.w = .ok (.value (.slice (some ⟨c.w.heap.size,0,none⟩) l.toNat cc.toNat)) (c.w.alloc (.cells ((Array.range (cc.toNat*i.size)).map (zv.cells[· % zv.cells.size]!)) e)):=by
  simp only [execOp,ho,ls,J6,Sem.run_bind,yn,Result.andThen_ok,Sem.run_pure]
 refine⟨_,_,hex,hrow,fun c' hh hw hβ=>?_⟩
 simp only [VR]
 refine .inr ⟨Rw,by rw [hh]; exact Vh _,_,_,rfl,by omega,rfl,fun _=>.inl ?_⟩
 rw [hβ]
 refine⟨rfl,?_⟩
 simp only [Cx.len,World.shape?,hw,ie]
 simp
end
end Go.R
namespace Go.R
open Go
def kT:List Value→Nat→List Value→List Value
 | cs,_,[]=>cs
 | cs,i,v::vs=>kT (cs.set i v) (i+1) vs
theorem VRs.da {c:Cx}{L:Nat→Prop}:∀{xs:List AV} {us:List Value} (i:Nat) {cs:List AV} {vs:List Value},VRs c L xs us→VRs c L cs vs→VRs c L (da cs i xs) (kT vs i us)
 | [],[],i,cs,vs,_,h=>by
  have:R.da cs i []=cs:=by cases cs<;>rfl
  rw [this]; cases vs<;>exact h
 | x::xs,u::us,i,cs,vs,h,k=>VRs.da (i+1) h.2 (VRs.set h.1 i k)
 | [],_::_,_,_,_,h,_=>h.elim
 | _::_,[],_,_,_,h,_=>h.elim
theorem pO:∀(us:List Value) (i:Nat) (vs:List Value),(∀v∈vs,v.oneCell'=true)→(∀u∈us,u.oneCell'=true)→∀v∈kT vs i us,v.oneCell'=true
 | [],i,vs,h,_,v,hv=>h v (by cases vs<;>exact hv)
 | u::us,i,vs,h,k,v,hv=>pO us (i+1) (vs.set i u) (fun w hw=>by
   rcases List.mem_or_eq_of_mem_set hw with h1 | h1
   ·exact h w h1
   ·subst h1; exact k _ (by simp)) (fun w hw=>k w (by simp [hw])) v hv
theorem nS (off:Nat):∀(us:List Value) (j:Nat) (cells:Array Value),((us.zipIdx j).foldl (fun cs (p:Value × Nat)=>cs.setIfInBounds (off+p.2) p.1) cells).toList=kT cells.toList (off+j) us
 | [],j,cells=>by simp [kT]
 | u::us,j,cells=>by
  simp only [List.zipIdx_cons,List.foldl_cons]
  rw [nS off us (j+1)]
  simp [kT,Vq]
section
variable {P:Program}{L0:Nat→Prop}{c0:Cx}{n:Nat}{ds:List Nat}{o:Oper}{s:RS}
def ry (c:Cx)(L:Nat→Prop):List (Nat × AV)→List (Nat × Value)→Prop
 | [],[]=>True
 | (i,x)::xs,(j,v)::vs=>(i=j∧(x.cells.all AV.bP=true→VR c L x v))∧ry c L xs vs
 | _,_=>False
theorem kU {c:Cx}{L:Nat→Prop}(pl:Nat→Option (Nat × Nat)):∀{ps:List (Nat × AV)} {vs:List (Nat × Value)} {cs eQ:List AV} {C:Array Value},ry c L ps vs→VRs c L cs C.toList→(∀v∈C.toList,v.oneCell'=true)→q7 pl cs ps=some eQ→
  ∃C':Array Value,Instr.fill pl C vs=some C'∧VRs c L eQ C'.toList∧∀v∈C'.toList,v.oneCell'=true
 | [],[],cs,eQ,C,_,hc,h1,h=>by
  simp only [q7,Uw] at h
  subst h
  exact⟨C,rfl,hc,h1⟩
 | (i,x)::ps,(j,v)::vs,cs,eQ,C,hp,hc,h1,h=>by
  obtain⟨⟨rfl,hx⟩,ME⟩:=hp
  simp only [q7,Ut] at h
  obtain⟨⟨off,size⟩,zp,h⟩:=h
  simp only at h
  split at h
  ·rename_i jB
   obtain⟨h2,h3,h4⟩:=jB
   obtain⟨h5,h6⟩:=iy h3 (hx h3)
   have h7:v.cells.size=size:=by rw [←Vw,←h5.length]; exact h2
   have h8:cs.length=C.size:=by rw [hc.length]; simp
   have hf:(v.cells.zipIdx.foldl (fun cs (p:Value × Nat)=>cs.setIfInBounds (off+p.2) p.1) C).toList=kT C.toList off v.cells.toList:=by
    rw [←Array.foldl_toList,Array.toList_zipIdx]
    exact nS off v.cells.toList 0 C
   obtain⟨C',h9,h10,h11⟩:=kU pl (C:=v.cells.zipIdx.foldl (fun cs (p:Value × Nat)=>cs.setIfInBounds (off+p.2) p.1) C) ME (by rw [hf]; exact VRs.da off h5 hc) (by rw [hf]; exact pO _ _ _ h1 h6) h
   refine⟨C',?_,h10,h11⟩
   simp only [Instr.fill,zp]
   rw [if_neg (by simp only [Ve,decide_eq_true_eq,not_or,ne_eq,Decidable.not_not]; exact⟨h7,by omega⟩)]
   exact h9
  ·cases h
 | [],_::_,_,_,_,h,_,_,_=>h.elim
 | _::_,[],_,_,_,h,_,_,_=>h.elim
theorem nT {c:Cx}{Lo:Nat→Prop}{lam:Nat→Nat}{a:Act}(f:Fr L0 c Lo lam ds s a):∀ps:List (Nat × Operand),ry c (un L0 Lo) (ps.map fun (i,x)=>(i,bJ s.ρ x)) (ps.map fun (i,x)=>(i,a.eval x))
 | []=>trivial
 | (i,x)::ps=>⟨⟨rfl,fun h=>(bA f x).qO h⟩,nT f ps⟩
theorem pP {v:Value}{x:AV}(h:nN v=some x):x.bP=true:=by
 unfold nN at h
 split at h<;>first | (cases h; done) | (cases h; rfl)
theorem nU:∀{vs:List Value} {xs:List AV},pI vs=some xs→xs.all AV.bP=true
 | [],xs,h=>by simp [pI] at h; subst h; rfl
 | v::vs,xs,h=>by
  simp only [pI,Ut] at h
  obtain⟨x,hx,ys,hy,he⟩:=h
  cases he
  simp [pP hx,nU hy]
theorem nt {v:Value}{x:AV}(h:CL v=some x):x.cells.all AV.bP=true:=by
 unfold CL at h
 split at h
 ·rw [Uv] at h
  obtain⟨xs,hx,rfl⟩:=h
  exact nU hx
 ·have h1:=pP h
  cases x<;>simp_all [AV.cells,AV.bP]
theorem rz {c:Cx}(w:World):∀fs:List Field,(∀f∈fs,∃m,eO P f.type=some m)→(fs.mapM (m:=Sem) fun f=>do pure (f.offset,←sizeOf f.type)).run P w = .ok (fs.map fun f=>(f.offset,(eO P f.type).getD 0)) w
 | [],_=>by simp
 | f::fs,h=>by
  obtain⟨m,hm⟩:=h f (by simp)
  have ih:=rz (c:=c) w fs (fun g hg=>h g (by simp [hg]))
  simp only [List.mapM_cons,Sem.run_bind,dz hm,ih,hm,Sem.run_pure,Result.andThen_ok,UX,Vp]
theorem run_build {c:Cx}{L:Nat→Prop}{t:TypeId}{ps:List (Nat × AV)}{vs:List (Nat × Value)}{y:AV}(hp:ry c L ps vs)(h:xX P t ps=some y) :
  ∃v,(Instr.build t vs.toArray).run P c.w = .ok v c.w∧VR c L y v:=by
 unfold xX at h
 simp only [Ut] at h
 obtain⟨z,hz,d,hd,h⟩:=h
 obtain⟨zv,CT,yl⟩:=jm hz c.w
 obtain⟨xO,hz1⟩:=iy (nt yl) (kQ (c:=c) (L:=L) yl)
 cases d<;>simp only at h<;>try (cases h; done)
 ·rename_i len e
  simp only [Ut,Uv] at h
  obtain⟨m,hm,cs,hf,rfl⟩:=h
  obtain⟨C',h1,h2,_⟩:=kU _ hp xO hz1 hf
  refine⟨.agg C',?_,by simp only [VR]; exact⟨C',rfl,h2⟩⟩
  unfold Instr.build
  simp [CT,bn hd,dz hm,h1]
 ·rename_i fs
  split at h
  rotate_left
  ·cases h
  rename_i J7
  have ky:∀f∈fs.toList,∃m,eO P f.type=some m:=fun f hf=>U2.1 (UN.1 J7 f hf)
  rw [Uv] at h
  obtain⟨cs,hf,rfl⟩:=h
  obtain⟨C',h1,h2,_⟩:=kU _ hp xO hz1 hf
  refine⟨.agg C',?_,by simp only [VR]; exact⟨C',rfl,h2⟩⟩
  have Ry:=rz (P:=P) (c:=c) c.w fs.toList ky
  have zp:(fun i=>(fs.toList.map fun f=>(f.offset,(eO P f.type).getD 0)).toArray[i]?)=xW P fs.toList:=by
   funext i
   simp only [xW,List.getElem?_toArray,Vv]
   cases hi:fs.toList[i]? with
   | none=>rfl
   | some f=>
    obtain⟨m,hm⟩:=ky f (UM hi)
    simp [hm]
  unfold Instr.build
  simp only [Sem.run_bind,CT,bn hd,Result.andThen_ok]
  rw [←Array.toArray_toList (xs:=fs),List.mapM_toArray]
  simp only [Sem.run_map,Ry,Result.andThen_ok]
  rw [zp,h1]
  rfl
end
end Go.R
namespace Go.R
open Go
section
variable {P:Program}{L0:Nat→Prop}{c0:Cx}{n:Nat}{ds:List Nat}{o:Oper}{s:RS}
theorem rA (hb0:c0.base≤c0.w.heap.size)(hd:fY n ds o){x:AV}
  (h:∀a c Lo lam,Fr L0 c Lo lam ds s a→a.tmps.size=n→c.base≤c.w.heap.size→∃(w':World) (v:Value),(execOp a.eval o).run P c.w = .ok (.value v) w'∧(∀b,b<c.w.heap.size→gS c.w w' b)∧(∀id,Live c.h id→w'.heap[(c.β id).1]? = c.w.heap[(c.β id).1]?)∧(∀b,b<c.base→w'.heap[b]? = c.w.heap[b]?)∧c.w.heap.size≤w'.heap.size∧
   w'.os=c.w.os∧w'.tape=c.w.tape∧w'.output=c.w.output∧(Ext c Lo {c with w:=w'} Lo→VR {c with w:=w'} (un L0 Lo) x v)) (hx:∀k off,x≠.lp k off) :
  iV P L0 c0 n ds o s (s.set o.dst x):=by
 rintro a w K Q ⟨hn,c,Lo,lam,rfl,f,e⟩ hK
 obtain⟨w',v,hr,h1,Rz,h2,h3,h4,h5,h6,hv⟩:=h a c Lo lam f hn (iT e hb0)
 obtain⟨e',f'⟩:=f.world h1 Rz h2 h3 h4 h5 h6
 unfold Oper.wp
 rw [hr,Oper.upon_value]
 exact hK _ _ ⟨(fX _ _ _).trans hn,_,Lo,lam,rfl,f'.set (SR.of (hv e')) (fun t ht=>by rw [hn]; exact hd t ht),e.trans e'⟩
theorem C1 {c c':Cx}{Lo:Nat→Prop}(r:HRel c (un L0 Lo))(hβ:c'.β=c.β)(hh:c'.h=c.h):RO c' (un L0 Lo) c.w.heap.size:=by
 refine⟨fun id hl he=>?_,fun hL=>?_⟩
 ·rw [hh] at hl
  rw [hβ] at he
  have:=r.block hl; omega
 ·have:=r.bd _ hL; omega
theorem lT {c:Cx}{L:Nat→Prop}{t:TypeId}{len:Nat}{ps:List (Nat × AV)}{vs:List (Nat × Value)}{y:AV}(hp:ry c L ps vs)(h:gx P t len ps=some y) :
  (y = .fz [] 0 true∧∃e,(Instr.buildSlice t len vs.toArray).run P c.w = .ok (.slice (some ⟨c.w.heap.size,0,none⟩) 0 0) (c.w.alloc (.cells #[] e)))∨
  ∃cs C e,y = .fz cs len true∧(Instr.buildSlice t len vs.toArray).run P c.w = .ok (.slice (some ⟨c.w.heap.size,0,none⟩) len len) (c.w.alloc (.cells C e))∧VRs c L cs C.toList∧∀v∈C.toList,v.oneCell'=true:=by
 unfold gx at h
 rw [Ut] at h
 obtain⟨d,hd,h⟩:=h
 cases d<;>simp only at h<;>try (cases h; done)
 rename_i e
 rw [Ut] at h
 obtain⟨m,hm,h⟩:=h
 split at h
 ·cases h
 rename_i J8
 have rq:m≠0:=fun h=>J8 (.inl h)
 have J9:¬(len*m > 2 ^ 24):=fun h=>J8 (.inr (by omega))
 split at h
 ·rename_i hl0
  subst hl0
  split at h
  ·rename_i MF
   cases h
   have ME:ps=[]:=by simpa using MF
   subst ME
   cases vs with
   | cons _ _=>exact hp.elim
   | nil=>
   refine .inl ⟨rfl,e,?_⟩
   unfold Instr.buildSlice
   simp only [Sem.run_bind,bn hd,dz hm,Result.andThen_ok,Nat.zero_mul,if_true,Sem.run_pure]
   have MD:∀f:Nat→Value,Array.map f (Array.range 0) = #[]:=fun f=>by simp
   simp only [Instr.fill,newRow,MD,Sem.run_bind,run_newObj,Result.andThen_ok,Sem.run_pure,World.alloc_eq]
   rfl
  ·cases h
 ·rename_i hl0
  rw [Ut] at h
  obtain⟨z,hz,h⟩:=h
  split at h
  rotate_left
  ·cases h
  rename_i Cy
  rw [Uv] at h
  obtain⟨cs,hf,rfl⟩:=h
  obtain⟨zv,CT,yl⟩:=jm hz c.w
  obtain⟨xO,hz1⟩:=iy (nt yl) (kQ (c:=c) (L:=L) yl)
  have hz0:=pa xO len (len*m) (by rw [Cy]; exact Uy _) (by omega)
  rw [Va (by simp [Cy])] at hz0
  have hz2:∀u∈((Array.range (len*m)).map (zv.cells[· % zv.cells.size]!)).toList,u.oneCell'=true:=by
   intro u hu
   simp only [Array.toList_map,U8] at hu
   obtain⟨j,hj,rfl⟩:=hu
   have qf:j % zv.cells.size<zv.cells.size:=Nat.mod_lt _ (by rw [←Vw,←xO.length]; omega)
   rw [getElem!_pos zv.cells _ qf]
   exact hz1 _ (by simp)
  obtain⟨C',h1,h2,h3⟩:=kU _ hp hz0 hz2 hf
  refine .inr ⟨cs,C',e,rfl,?_,h2,h3⟩
  have hne:len*m≠0:=Nat.mul_ne_zero hl0 rq
  unfold Instr.buildSlice
  simp only [Sem.run_bind,bn hd,dz hm,Result.andThen_ok,J9,hne,if_false,Sem.run_pure,CT]
  rw [h1]
  simp [newRow]
theorem sN (hb0:c0.base≤c0.w.heap.size)(hd:fY n ds o){t:TypeId}{len:Nat}{ps:Array (Nat × Operand)}(ho:o.op = .buildSlice t len ps){y:AV}
  (h:gx P t len (ps.toList.map fun (i,x)=>(i,bJ s.ρ x))=some y):iV P L0 c0 n ds o s (s.set o.dst y):=by
 refine rA hb0 hd (fun a c Lo lam f hn hbs=>?_) ?_
 ·have hp:=nT f ps.toList
  have hex:∀v w',(Instr.buildSlice t len (ps.toList.map fun (i,x)=>(i,a.eval x)).toArray).run P c.w = .ok v w'→(execOp a.eval o).run P c.w = .ok (.value v) w':=by
   intro v w' hr
   have he:ps.map (fun (i,x)=>(i,a.eval x))=(ps.toList.map fun (i,x)=>(i,a.eval x)).toArray:=by
    apply V6; simp
   simp only [execOp,ho,Sem.run_bind]
   rw [he,hr]
   rfl
  rcases lT hp h with⟨rfl,e,hr⟩| ⟨cs,C,e,rfl,hr,hv,h1⟩
  ·refine⟨_,_,hex _ _ hr,fun b hb=>.inl (alloc_old _ _ hb),fun id hl=>alloc_old _ _ (f.rel.block hl),fun b hb=>alloc_old _ _ (by omega),by simp,rfl,rfl,rfl,fun _=>by simp only [VR]; exact⟨_,_,rfl,Uy _,fun _=>rfl,.inl rfl,.inl trivial⟩⟩
  ·refine⟨_,_,hex _ _ hr,fun b hb=>.inl (alloc_old _ _ hb),fun id hl=>alloc_old _ _ (f.rel.block hl),fun b hb=>alloc_old _ _ (by omega),by simp,rfl,rfl,rfl,fun e'=>?_⟩
   simp only [VR]
   exact⟨_,_,rfl,Uy _,fun _=>rfl,.inl rfl,.inr ⟨c.w.heap.size,0,rfl,C1 f.rel rfl rfl,fun _=>hbs,jo (w1:=c.w) rfl (VRs.ext e' _ _ hv) (fun i _=>by simp) h1⟩⟩
 ·rintro k off rfl
  unfold gx at h
  rw [Ut] at h
  obtain⟨d,_,h⟩:=h
  cases d<;>simp only at h<;>try (cases h; done)
  rw [Ut] at h
  obtain⟨m,_,h⟩:=h
  split at h
  ·cases h
  ·split at h
   ·split at h<;>cases h
   ·rw [Ut] at h
    obtain⟨z,_,h⟩:=h
    split at h
    ·rw [Uv] at h
     obtain⟨_,_,h⟩:=h
     cases h
    ·cases h
theorem vV {aE:List Nat}{t:TypeId}{y:AV}{cs:List AV}{k z:Nat}(h:np P aE o t y=some (cs,k,z)):y = .fz cs k true∧cs.length=k*z∧cs≠[]:=by
 unfold np at h
 split at h
 ·rename_i d c eQ k' hd
  cases hc:aE.contains d with
  | false=>rw [hc] at h; cases h
  | true=>
   rw [hc] at h
   simp only [cond_true] at h
   split at h
   ·split at h
    ·rename_i z' hz
     cases hb:U5 (c::eQ).length (k'*z') with
     | false=>rw [hb] at h; cases h
     | true=>
      rw [hb] at h
      simp only [cond_true,Uw,UB] at h
      obtain⟨rfl,rfl,rfl⟩:=h
      exact⟨rfl,Vx hb,by simp⟩
    ·cases h
   ·cases h
 ·cases h
theorem rB (hb0:c0.base≤c0.w.heap.size)(hd:fY n ds o){t:TypeId}{len:Nat}{ps:Array (Nat × Operand)}(ho:o.op = .buildSlice t len ps){y:AV}(aE:List Nat)
  (h:gx P t len (ps.toList.map fun (i,x)=>(i,bJ s.ρ x))=some y):iV P L0 c0 n ds o s (oX P aE s o t y):=by
 have key:=sN (L0:=L0) hb0 hd ho h
 unfold oX
 cases HR:np P aE o t y with
 | none=>exact key
 | some q=>
 obtain⟨LU,n1,z⟩:=q
 obtain⟨rfl,hlen,hne⟩:=vV HR
 have fin:=kS (P:=P) (L0:=L0) (c0:=c0) (o:=o) (s:=s) hb0 hd (ob:=.cells LU) (x:=.rs s.h.next 0 n1 z) (fun a c Lo lam f hn=>by
  have hp:=nT f ps.toList
  have hex:∀v w',(Instr.buildSlice t len (ps.toList.map fun (i,x)=>(i,a.eval x)).toArray).run P c.w = .ok v w'→(execOp a.eval o).run P c.w = .ok (.value v) w':=by
   intro v w' hr
   have he:ps.map (fun (i,x)=>(i,a.eval x))=(ps.toList.map fun (i,x)=>(i,a.eval x)).toArray:=by
    apply V6; simp
   simp only [execOp,ho,Sem.run_bind]
   rw [he,hr]
   rfl
  rcases lT hp h with⟨he,_⟩| ⟨cs,C,e,he,hr,hv,h1⟩
  ·cases he; exact absurd rfl hne
  ·cases he
   have Ka:C.size=LU.length:=by rw [←Vw,←hv.length]
   refine⟨_,_,hex _ _ hr,fun c' e' hw=>⟨_,kR (w1:=c.w) hw,by rw [Ka,UR]; exact Uy _,jo (w1:=c.w) hw (VRs.ext e' _ _ hv) (fun i _=>by simp) h1⟩,fun c' hh hw hβ=>?_⟩
   simp only [VR]
   refine .inr ⟨(by have:=f.rel.ver 0; rw [f.h] at this; omega),by rw [hh]; exact Vh _,_,_,rfl,Uy _,rfl,fun _=>.inl ?_⟩
   rw [hβ]
   refine⟨rfl,?_⟩
   simp only [Cx.len,World.shape?,hw,ie]
   simp only [Uz,Vp,Ka,hlen,UR]) (by rintro k off hh; cases hh)
 exact fin
theorem pb {c:Cx}{Lo:Nat→Prop}{lam:Nat→Nat}{a:Act}(f:Fr L0 c Lo lam ds s a){tx:TypeId}{size m:Nat}{x:AV}{v:Value}{new:List AV}(hx:SR c L0 Lo lam s.bx x v)
  (hk:(∃e',P.underlying tx=some (.slice e'))∨P.underlying tx=some .string) (zz:∀st,x = .str st→P.underlying tx=some .string) (JD:(∀st,x≠.str st)→∃e',P.underlying tx=some (.slice e')) (h:dU s.h size x=some (new,m)) :
  ∃news,Src P size tx v m news c.w∧VRs c (un L0 Lo) new news:=by
 unfold dU at h
 cases x<;>simp only at h<;>try (cases h; done)
 ·rename_i st
  split at h
  ·rename_i h1
   subst h1
   cases h
   simp only [SR,VR] at hx
   subst hx
   refine⟨_,Src.ofString c.w (zz st rfl) st,?_⟩
   unfold byteCells
   generalize st.data.toList=l
   induction l with
   | nil=>trivial
   | cons b l ih=>exact⟨by simp [VR],ih⟩
  ·cases h
 ·cases h
  obtain⟨e',he⟩:=JD (by rintro st h; cases h)
  simp only [SR,VR] at hx
  subst hx
  exact⟨[],Src.ofNil c.w he 0,trivial⟩
 ·rename_i cs k ex
  split at h
  ·rename_i hl
   cases h
   obtain⟨e',he⟩:=JD (by rintro st h; cases h)
   simp only [SR,VR] at hx
   obtain⟨ad,cap,rfl,h1,h2,_,hc⟩:=hx
   rcases hc with rfl | ⟨b,o',rfl,hr,hex,hc⟩
   ·have hl0:m*size=0:=by simpa using hl.symm
    cases ad with
    | none=>
     refine⟨[],⟨.inl ⟨e',he⟩,fun _=>rfl,run_firstCells_none c.w size m m cap,run_firstCells_none c.w.drew size m m cap,by simpa using hl,fun _ h=>by cases h⟩,trivial⟩
    | some ad=>exact⟨[],Src.ofSlice c.w he ad m cap [] (by simpa using hl) (fun j u hu=>by simp at hu) (fun u hu=>by cases hu),trivial⟩
   ·obtain⟨vs,q1,q2,q3⟩:=hc.vals
    refine⟨vs,Src.ofSlice c.w he _ m cap vs (by rw [←q1.length]; exact hl) (fun j u hu=>?_) q3,q1⟩
    rw [addr_add,q2 j (by rw [q1.length]; exact (UA.1 hu).1)]
    exact hu
  ·cases h
 ·rename_i id off k ib
  split at h
  ·rename_i hid
   split at h
   rotate_left
   ·cases h
   rename_i LS
   cases h
   obtain⟨e',he⟩:=JD (by rintro st h; cases h)
   simp only [SR,VR] at hx
   rcases hx with⟨_,_,_,a,rfl⟩| ⟨_,_,a,cap,rfl,_,h2,_⟩
   rotate_left
   ·cases a with
    | none=>cases h2
    | some ad=>subst LS; exact⟨[],Src.ofSlice c.w he ad 0 cap [] (by simp) (fun j u hu=>by simp at hu) (fun u hu=>by cases hu),trivial⟩
   cases a with
   | none=>exact⟨[],Src.ofNil c.w he 0,trivial⟩
   | some ad=>exact⟨[],Src.ofSlice c.w he ad 0 0 [] (by simp) (fun j u hu=>by simp at hu) (fun u hu=>by cases hu),trivial⟩
  rename_i jL
  rw [Ut] at h
  obtain⟨ob,hob,h⟩:=h
  cases ob with
  | map es=>cases h
  | row t cs=>cases h
  | cells cs=>
  simp only at h
  split at h
  ·rename_i hh
   obtain⟨rfl,hle⟩:=hh
   cases h
   obtain⟨e',he⟩:=JD (by rintro st h; cases h)
   simp only [SR,VR] at hx
   rcases hx with hx | ⟨_,hid,ad,cap,rfl,h1,h2,h3⟩
   ·exact absurd (.inl hx.1) jL
   rw [←f.h] at hob
   have hl:Live c.h id:=⟨f.rel.lt _ _ hob,by simp [hob]⟩
   obtain⟨q,hp,hm,hc⟩:=f.rel.obj _ _ hob
   have hc2:=(hc.drop off).take (m*ib)
   have hlen:((cs.drop off).take (m*ib)).length=m*ib:=by simp; omega
   obtain⟨vs,q1,q2,q3⟩:=hc2.vals
   rcases h3 hl with⟨h5,h4⟩| hcap
   ·subst h5
    refine⟨vs,Src.ofSlice c.w he _ m cap vs (by rw [←q1.length]; exact hlen) (fun j u hu=>?_) q3,q1⟩
    rw [addr_add,q2 j (by rw [q1.length]; exact (UA.1 hu).1)]
    exact hu
   ·have rq:m=0:=by omega
    subst rq
    simp only [Nat.zero_mul,List.take_zero] at q1 ⊢
    cases ad with
    | none=>simp at h2
    | some ad=>exact⟨[],Src.ofSlice c.w he ad 0 cap [] (by simp) (fun j u hu=>by simp at hu) (fun u hu=>by cases hu),trivial⟩
  ·cases h
end
end Go.R
namespace Go.R
open Go
section
variable {P:Program}{L0:Nat→Prop}{c0:Cx}{n:Nat}{ds:List Nat}{o:Oper}{s:RS}
theorem grownCap_ge (w:World){need old:Nat}{e:TypeId}:need≤grownCap w need old e:=by
 unfold grownCap
 simp only [Question.cut]
 omega
theorem rC (z:Array Value)(k:Nat):(Builtin.zeroCells z k).size=k*z.size:=by simp [Builtin.zeroCells]
theorem hH (w:World){t tx ty e:TypeId}{i:TypeInfo}(ht:P.underlying t=some (.slice e))(hi:P.info? e=some i){base:Option Addr}{len cap:Nat}(hlc:len≤cap){x:Value}{news:List Value}(hs:Src P i.size tx x 0 news w) :
  (Builtin.append_ #[t,tx] ty #[.slice base len cap,x]).run P w = .ok (.slice base len cap) w:=by
 have Kb:news=[]:=Vb (by rw [hs.newsLen]; simp)
 have hc:=hs.cells
 rw [Kb] at hc
 rcases hs.kind with⟨e',hk⟩| hk<;>cases base<;>simp [Builtin.append_,run_underlying ht,run_underlying hk,sizeOf,typeInfo,hi,hs.len,hlc,hc,storeCells]
theorem uy {c:Cx}{b m:Nat}(hp:Plain c b m){j:Nat}(hj:j<m):c.w.frozen? ⟨b,j,none⟩=false:=by
 obtain⟨C,e,lo,hi,hb,hf,rfl⟩:=hp
 simp only [World.frozen?,hb]
 rcases hf with hf | hf
 ·subst hf; simp
 ·simp; omega
theorem Fr.grown {c:Cx}{Lo:Nat→Prop}{lam:Nat→Nat}{a:Act}(f:Fr L0 c Lo lam ds s a)(hbs:c.base≤c.w.heap.size){e:TypeId}{z:Value}{size need cap:Nat}(Cz:z.cells.size=size)(hcap:need≤cap){xs:List AV}{vs:List Value}(hv:VRs c (un L0 Lo) xs vs)(h1:∀v∈vs,v.oneCell'=true)
  (hl:vs.length=need*size) (h':AHeap) (hg:h'.get c.h.next=some (.cells xs)) (hst:Steady c.h h') (hn:c.h.next<h'.next) (ho:∀id,id≠c.h.next→h'.get id=none∨h'.get id=c.h.get id) :
  ∃c':Cx,c'.w=c.w.drew.alloc (.cells (vs.toArray++Builtin.zeroCells z.cells (cap - need)) e)∧c'.h=h'∧Ext c Lo c' Lo∧Fr L0 c' Lo lam ds {s with h:=h'} a∧VR c' (un L0 Lo) (.rs c.h.next 0 need size) (.slice (some ⟨c.w.heap.size,0,none⟩) need cap):=by
 have Ka:(vs.toArray++Builtin.zeroCells z.cells (cap - need)).size=cap*size:=by
  rw [Array.size_append,rC,Cz,List.size_toArray,hl,←VE]
  congr 1; omega
 have RA:=hv.length
 obtain⟨β',e',f',hβ,hlive⟩:=f.CY hbs c.w.drew ⟨rfl,rfl,rfl,rfl⟩ (.cells xs) (.cells (vs.toArray++Builtin.zeroCells z.cells (cap - need)) e) h' hg hst hn ho (fun c' e' hw=>by
  refine⟨_,kR (w1:=c.w.drew) hw,?_,jo (w1:=c.w.drew) hw (VRs.ext e' _ _ hv) (fun i hi=>?_) h1⟩
  ·rw [Ka,UR,RA,hl]; exact Vm _ hcap
  ·rw [Array.getElem?_append_left (by simpa using hi)]; simp)
 refine⟨_,rfl,rfl,e',f',?_⟩
 simp only [VR]
 refine .inr ⟨(by have:=f.rel.ver 0; omega),hlive.1,_,_,rfl,hcap,rfl,fun _=>.inl ?_⟩
 rw [hβ]
 refine⟨rfl,?_⟩
 have:(c.w.drew.alloc (.cells (vs.toArray++Builtin.zeroCells z.cells (cap - need)) e)).heap[c.w.heap.size]? = some (.cells (vs.toArray++Builtin.zeroCells z.cells (cap - need)) e):=ie c.w.drew _
 simp only [Cx.len,World.shape?,this,Uz,Vp,Ka]
 omega
theorem Bv (hb0:c0.base≤c0.w.heap.size)(hd:fY n ds o){t t2:TypeId}{sx xx:Operand}(ho:o.op = .call {callee:=.builtin .append,args:=#[sx,xx],argTypes:=#[t,t2]}){s':RS}
  (h:((dv P s.h t t2 (bJ s.ρ sx) (bJ s.ρ xx)).map fun (v,h)=>{s with h}.set o.dst v)=some s'):iV P L0 c0 n ds o s s':=by
 rw [Uv] at h
 obtain⟨⟨y,h'⟩,ha,rfl⟩:=h
 unfold dv at ha
 rw [Ut] at ha
 obtain⟨d,C0,ha⟩:=ha
 cases d<;>simp only at ha<;>try (cases ha; done)
 rename_i e
 rw [Ut] at ha
 obtain⟨i,hi,ha⟩:=ha
 rw [Ut] at ha
 obtain⟨⟨new,m⟩,HS,ha⟩:=ha
 simp only at ha
 obtain⟨HT,hcs,hnew⟩:∃HT,dU s.h i.size (bJ s.ρ xx)=some (HT,m)∧new=HT.map js:=by
  unfold fo at HS
  rw [Uv] at HS
  obtain⟨⟨p,q⟩,h1,h2⟩:=HS
  simp only [UB] at h2
  obtain⟨rfl,rfl⟩:=h2
  exact⟨p,h1,rfl⟩
 split at ha
 ·cases ha
 rename_i jB
 have hsz0:i.size≠0:=fun h=>jB (.inl h)
 have gu:iu P t2 (bJ s.ρ xx)=true:=by
  cases hq:iu P t2 (bJ s.ρ xx) with
  | true=>rfl
  | false=>exact absurd (.inr (.inl hq)) jB
 obtain⟨zv,z,xO,yl,Cy⟩:∃zv z,i.zero=some zv∧CL zv=some z∧z.cells.length=i.size:=by
  have hz:G4 i=true:=by
   cases hq:G4 i with
   | true=>rfl
   | false=>exact absurd (.inr (.inr hq)) jB
  unfold G4 at hz
  cases hq:i.zero.bind CL with
  | none=>rw [hq] at hz; cases hz
  | some z=>
   rw [hq] at hz
   obtain⟨zv,h1,h2⟩:=Ut.1 hq
   exact⟨zv,z,h1,h2,by simpa using hz⟩
 have Cz:∀c L,zv.cells.size=i.size:=fun (c:Cx) (L:Nat→Prop)=>by
  have:=(iy (nt yl) (kQ (c:=c) (L:=L) yl)).1.length
  rw [Cy] at this
  simpa using this.symm
 have vR:(∃e',P.underlying t2=some (.slice e'))∨P.underlying t2=some .string:=by
  unfold iu at gu
  split at gu
  ·right; revert gu; split<;>simp_all
  ·left; revert gu; split<;>simp_all
 have zz:∀st,bJ s.ρ xx = .str st→P.underlying t2=some .string:=by
  intro st he
  rw [he] at gu
  simp only [iu] at gu
  revert gu; split<;>simp_all
 have JD:(∀st,bJ s.ρ xx≠.str st)→∃e',P.underlying t2=some (.slice e'):=by
  intro hne
  unfold iu at gu
  split at gu
  ·rename_i st he; exact absurd he (hne st)
  ·revert gu; split<;>simp_all
 rintro a w K Q ⟨hn,c,Lo,lam,rfl,f,e0⟩ hK
 have hbs:=iT e0 hb0
 obtain⟨news,hS,G8⟩:=pb (P:=P) f (bA f xx) vR zz JD hcs
 replace G8:VRs c (un L0 Lo) new news:=hnew ▸ rl G8
 have hex:∀v w',(Builtin.append_ #[t,t2] o.type #[a.eval sx,a.eval xx]).run P c.w = .ok v w'→(execOp a.eval o).run P c.w = .ok (.value v) w':=by
  intro v w' hr
  unfold execOp
  simp only [ho,resolve,invoke,builtin,Sem.run_bind,Sem.run_pure,Result.andThen_ok,List.map_toArray,UX,V0,hr]
 have fin:∀c' v,(Builtin.append_ #[t,t2] o.type #[a.eval sx,a.eval xx]).run P c.w = .ok v c'.w→Ext c Lo c' Lo→Fr L0 c' Lo lam ds {s with h:=h'} a→VR c' (un L0 Lo) y v→o.wp P a c.w K Q:=by
  intro c' v hr e' f' hv
  unfold Oper.wp
  rw [hex v _ hr,Oper.upon_value]
  exact hK _ _ ⟨(fX _ _ _).trans hn,c',Lo,lam,rfl,f'.set (SR.of hv) (fun t ht=>by rw [hn]; exact hd t ht),e0.trans e'⟩
 have zA:=bA f sx
 have h63:∀k:Nat,k≤gm→(k:Int)≤9223372036854775807:=fun k hk=>by simp only [gm] at hk; omega
 have hfit:∀need old,old<need→need*i.bytes≤gm→Builtin.nextslicecap need old*i.bytes≤281474976710656:=fun need old h1 h2=>growslice_fits h1 (by simp only [gm] at h2; omega)
 have hnl:=G8.length
 have hone:=hS.one
 have vW:=hS.newsLen
 cases hq:bJ s.ρ sx with
 | nils=>
  rw [hq] at ha zA
  simp only [SR,VR] at zA
  obtain⟨ad,xM,RB⟩:∃ad:Option Addr,a.eval sx = .slice ad 0 0∧ad=none:=⟨none,zA,rfl⟩
  simp only at ha
  split at ha
  ·cases ha
  rename_i hroom
  split at ha
  ·rename_i rq
   subst rq
   cases ha
   refine fin c (.slice ad 0 0) ?_ (Ext.refl _ _) f (by simp only [VR]; exact .inl ⟨trivial,trivial,trivial,ad,rfl⟩)
   rw [xM]
   exact hH c.w C0 hi (Uy _) hS
  ·rename_i rq
   cases ha
   have hold:(Builtin.firstCells i.size 0 (.slice ad 0 0)).run P c.w.drew = .ok ([]:List Value).toArray c.w.drew:=by
    cases ad with
    | none=>exact run_firstCells_none _ _ _ _ _
    | some ad=>exact run_firstCells_some _ _ _ _ _ _ [] (by simp) (fun j v hj=>by simp at hj)
   have hr:=run_append_grow_src c.w t t2 o.type e i zv C0 hi xO ad 0 0 [] hold (a.eval xx) m news hS (by omega) (by rw [UR]; exact h63 _ (by omega)) (hfit _ _ (by omega) (by rw [UR]; omega))
   simp only [UR,U7] at hr
   obtain⟨c',hw,hh,e',f',hv⟩:=f.grown hbs (e:=e) (Cz c L0) (grownCap_ge c.w (need:=m) (old:=0) (e:=e)) G8 hone vW (s.h.alloc (.cells new)) (by rw [f.h]; simp [AHeap.alloc,AHeap.put,beq_nat]) (by rw [f.h]; exact Steady.put _ _ _) (by rw [f.h]; exact Vh _) (fun id hne=>.inr (by rw [f.h] at hne ⊢; simp [AHeap.alloc,AHeap.put,beq_nat,hne]))
   refine fin c' _ ?_ e' f' (by rw [←f.h]; exact hv)
   rw [xM,hw]
   exact hr
 | fz cs len ex=>
  rw [hq] at ha zA
  cases ex with
  | false=>simp only at ha; cases ha
  | true=>
  simp only [SR,VR] at zA
  obtain⟨ad,cap,xM,h1,h2,qg,hc⟩:=zA
  have hcap:=h2 trivial
  subst hcap
  simp only at ha
  split at ha
  ·cases ha
  rename_i hroom
  split at ha
  ·rename_i rq
   subst rq
   refine fin c (.slice ad cap cap) ?_ (Ext.refl _ _) (by split at ha<;>cases ha<;>exact f) ?_
   ·rw [xM]
    exact hH c.w C0 hi (Uy _) hS
   ·split at ha
    ·rename_i hz
     cases ha
     subst hz
     simp only [VR]
     exact .inl ⟨trivial,trivial,trivial,ad,rfl⟩
    ·cases ha
     simp only [VR]
     exact⟨ad,cap,rfl,h1,h2,qg,hc⟩
  ·rename_i rq
   cases ha
   have hcl:cs.length=cap*i.size:=by
    by_cases h3:cs.length=cap*i.size
    ·exact h3
    ·exact absurd (.inr (.inr h3)) hroom
   obtain⟨rD,JE,MG,G9⟩:∃rD:List Value,VRs c (un L0 Lo) cs rD∧(Builtin.firstCells i.size cap (.slice ad cap cap)).run P c.w.drew = .ok rD.toArray c.w.drew∧∀v∈rD,v.oneCell'=true:=by
    rcases hc with rfl | ⟨b,o',rfl,hr,RC,hc⟩
    ·refine⟨[],trivial,?_,fun _ h=>by cases h⟩
     cases ad with
     | none=>exact run_firstCells_none _ _ _ _ _
     | some ad=>exact run_firstCells_some _ _ _ _ _ _ [] (by simpa using hcl) (fun j v hj=>by simp at hj)
    ·obtain⟨vs,q1,q2,q3⟩:=hc.vals
     refine⟨vs,q1,run_firstCells_some _ _ _ _ _ _ vs (by rw [←q1.length]; exact hcl) (fun j v hj=>?_),q3⟩
     rw [World.cell?_drew,addr_add,q2 j (by rw [q1.length]; exact (UA.1 hj).1)]
     exact hj
   have FN:=JE.length
   have hr:=run_append_grow_src c.w t t2 o.type e i zv C0 hi xO ad cap cap rD MG (a.eval xx) m news hS (by omega) (h63 _ (by omega)) (hfit _ _ (by omega) (by omega))
   obtain⟨c',hw,hh,e',f',hv⟩:=f.grown hbs (e:=e) (Cz c L0) (grownCap_ge c.w (need:=cap+m) (old:=cap) (e:=e)) (VRs.append JE G8) (fun v hv=>(UZ.1 hv).elim (G9 v) (hone v)) (by rw [UD,vW,←FN,hcl,VE]) (s.h.alloc (.cells (cs++new))) (by rw [f.h]; simp [AHeap.alloc,AHeap.put,beq_nat]) (by rw [f.h]; exact Steady.put _ _ _) (by rw [f.h]; exact Vh _) (fun id hne=>.inr (by rw [f.h] at hne ⊢; simp [AHeap.alloc,AHeap.put,beq_nat,hne]))
   refine fin c' _ ?_ e' f' (by rw [←f.h]; exact hv)
   rw [xM,hw]
   exact hr
 | rs id off len ib=>
  rw [hq] at ha zA
  simp only [SR,VR] at zA
  simp only at ha
  split at ha
  ·rename_i hid
   rcases zA with⟨_,hoff,Kc,ad,xM⟩| zA
   rotate_left
   ·exact absurd hid zA.1
   split at ha
   ·cases ha
   rename_i hroom
   split at ha
   ·rename_i rq
    subst rq
    cases ha
    refine fin c (.slice ad 0 0) ?_ (Ext.refl _ _) f (by simp only [VR]; exact .inl ⟨hid,hoff,Kc,ad,rfl⟩)
    rw [xM]
    exact hH c.w C0 hi (Uy _) hS
   ·rename_i rq
    cases ha
    have hold:(Builtin.firstCells i.size 0 (.slice ad 0 0)).run P c.w.drew = .ok ([]:List Value).toArray c.w.drew:=by
     cases ad with
     | none=>exact run_firstCells_none _ _ _ _ _
     | some ad=>exact run_firstCells_some _ _ _ _ _ _ [] (by simp) (fun j v hj=>by simp at hj)
    have hr:=run_append_grow_src c.w t t2 o.type e i zv C0 hi xO ad 0 0 [] hold (a.eval xx) m news hS (by omega) (by rw [UR]; exact h63 _ (by omega)) (hfit _ _ (by omega) (by rw [UR]; omega))
    simp only [UR,U7] at hr
    obtain⟨c',hw,hh,e',f',hv⟩:=f.grown hbs (e:=e) (Cz c L0) (grownCap_ge c.w (need:=m) (old:=0) (e:=e)) G8 hone vW (s.h.alloc (.cells new)) (by rw [f.h]; simp [AHeap.alloc,AHeap.put,beq_nat]) (by rw [f.h]; exact Steady.put _ _ _) (by rw [f.h]; exact Vh _) (fun id hne=>.inr (by rw [f.h] at hne ⊢; simp [AHeap.alloc,AHeap.put,beq_nat,hne]))
    refine fin c' _ ?_ e' f' (by rw [←f.h]; exact hv)
    rw [xM,hw]
    exact hr
  rename_i jL
  rcases zA with zA | ⟨_,hid,ad,cap,xM,h1,h2,h3⟩
  ·exact absurd zA.1 jL
  simp only [Ut] at ha
  obtain⟨ob,hob,ha⟩:=ha
  cases ob with
  | map es=>cases ha
  | row t cs=>cases ha
  | cells cs=>
  simp only at ha
  split at ha
  ·cases ha
  rename_i hroom
  have sH:ib=i.size:=Decidable.byContradiction fun h=>hroom (.inl h)
  subst sH
  have hle:off+len*i.size≤cs.length:=Decidable.byContradiction fun h=>hroom (.inr (.inl (by omega)))
  rw [←f.h] at hob
  have hl:Live c.h id:=⟨f.rel.lt _ _ hob,by simp [hob]⟩
  obtain⟨q,hp,hm,hc⟩:=f.rel.obj _ _ hob
  split at ha
  ·rename_i rq
   subst rq
   cases ha
   refine fin c (.slice ad len cap) ?_ (Ext.refl _ _) f ?_
   ·rw [xM]
    exact hH c.w C0 hi h1 hS
   ·simp only [VR]
    exact .inr ⟨jL,hid,ad,cap,rfl,h1,h2,h3⟩
  ·rename_i rq
   cases ha
   have hc2:=(hc.drop off).take (len*i.size)
   have zB:((cs.drop off).take (len*i.size)).length=len*i.size:=by simp; omega
   obtain⟨rD,JE,PF,G9⟩:=hc2.vals
   have FN:=JE.length
   have hget:((s.h.kill id).put s.h.next (.cells ((cs.drop off).take (len*i.size)++new))).get c.h.next=some (.cells ((cs.drop off).take (len*i.size)++new)):=by rw [f.h]; simp [AHeap.put,beq_nat]
   have hnx:c.h.next<((s.h.kill id).put s.h.next (.cells ((cs.drop off).take (len*i.size)++new))).next:=by rw [f.h]; simp only [AHeap.put,AHeap.kill]; omega
   have hoth:∀j5,j5≠c.h.next→((s.h.kill id).put s.h.next (.cells ((cs.drop off).take (len*i.size)++new))).get j5=none∨((s.h.kill id).put s.h.next (.cells ((cs.drop off).take (len*i.size)++new))).get j5=c.h.get j5:=by
    intro j5 hne
    rw [f.h] at hne ⊢
    by_cases h4:j5=id
    ·left; simp [AHeap.put,AHeap.kill,beq_nat,hne,h4]; rw [←h4]; simp [hne]
    ·right; simp [AHeap.put,AHeap.kill,beq_nat,hne,h4]
   by_cases C2:len+m≤cap
   ·
    rcases h3 hl with⟨h4,h5⟩| h4
    rotate_left
    ·omega
    subst h4
    have Kd:c.len (c.β id).1=q:=by
     obtain⟨C,e',hb,qP⟩:=hp
     simp [Cx.len,World.shape?,hb,qP]
    rw [Kd] at h5
    have Ke:(len+m)*i.size≤cap*i.size:=Vm _ C2
    rw [VE] at Ke
    have Kf:=hp
    obtain⟨C,e',hb,qP⟩:=hp
    have hr:=run_append_room_src c.w t t2 o.type e i C0 hi (c.β id).1 ((c.β id).2+off) len cap (a.eval xx) m news hS C2
     (fun j hj=>by
      rw [cell_of_block hb]
      have:(c.β id).2+off+len*i.size+j<C.size:=by omega
      simp [this])
     (fun j hj=>uy Kf.jR (by omega))
    have zp:hZ c (c.β id).1 q:=Kf
    obtain⟨q1,q2,q3,q4⟩:=gj news (c.β id).1 ((c.β id).2+off+len*i.size) c.w
    obtain⟨C',g1,g2,g3⟩:=eT news (c.β id).1 ((c.β id).2+off+len*i.size) c.w C e' (0,0) hb (by omega)
    have:=f.upd (w':=c.w.setCells (c.β id).1 ((c.β id).2+off+len*i.size) news) (β':=fun k=>if k=c.h.next then ((c.β id).1,(c.β id).2+off) else c.β k) (h':=(s.h.kill id).put s.h.next (.cells ((cs.drop off).take (len*i.size)++new))) c.h.next (.cells ((cs.drop off).take (len*i.size)++new))
     (by rw [f.h]; exact (Steady.kill _ _).trans (Steady.put _ _ _)) hnx hget (fun j5 hne=>(hoth j5 hne).imp (fun h=>h) (fun h=>⟨h,by simp [hne]⟩)) (fun h=>absurd h (Nat.lt_irrefl _))
     (.inr ⟨id,hl,by simp,.inr (by
      have:id≠s.h.next:=by rw [←f.h]; have:=hl.1; omega
      simp [AHeap.put,AHeap.kill,beq_nat,this])⟩)
     (fun _=>by simp [World.shape?,g1,Cx.len,hb,g2])
     (fun b _ hne=>dA _ _ _ _ _ (by simpa using hne)) (fun b _ hne=>dA _ _ _ _ _ (by simpa using hne)) (by rw [q1]; exact Uy _) hbs q2 q3 q4
     (fun ee=>by
      simp only [if_true]
      refine⟨q,zp.setCells (by omega) _ _ _,?_,?_⟩
      ·rw [UD,zB,hnl,vW]; omega
      ·refine Cells.of_vals (VRs.append (VRs.ext ee _ _ JE) (VRs.ext ee _ _ G8)) (fun j hj=>?_) (fun v hv=>(UZ.1 hv).elim (G9 v) (hone v))
       rw [cell_of_block g1,g3]
       rw [UD] at hj
       by_cases h6:j<rD.length
       ·rw [if_neg (by omega),←cell_of_block hb,UJ h6]
        exact PF j (by omega)
       ·rw [if_pos (by omega),UO (by omega)]
        congr 1
        omega)
    obtain⟨HU,RD⟩:=this
    refine fin _ (.slice (some ⟨(c.β id).1,(c.β id).2+off,none⟩) (len+m) cap) ?_ HU RD ?_
    ·rw [xM]; exact hr
    ·simp only [VR,←f.h]
     refine .inr ⟨(by have:=f.rel.ver 0; omega),by rw [←f.h] at hnx; exact hnx,_,_,rfl,C2,rfl,fun _=>.inl ?_⟩
     simp only [if_true,V1,true_and]
     simp only [Cx.len,World.shape?,g1,Uz,Vp,g2]
     omega
   ·
    obtain⟨MG⟩:Nonempty ((Builtin.firstCells i.size len (.slice ad len cap)).run P c.w.drew = .ok rD.toArray c.w.drew):=by
     rcases h3 hl with⟨h4,h5⟩| h4
     ·subst h4
      refine⟨run_firstCells_some _ _ _ _ _ _ rD (by rw [←FN,zB]) (fun j v hj=>?_)⟩
      rw [World.cell?_drew,addr_add,PF j (by rw [FN]; exact (UA.1 hj).1)]
      exact hj
     ·have hz:len=0:=by omega
      subst hz
      have:rD=[]:=Vb (by rw [←FN,zB]; simp)
      subst this
      cases ad with
      | none=>exact⟨run_firstCells_none _ _ _ _ _⟩
      | some ad=>exact⟨run_firstCells_some _ _ _ _ _ _ [] (by simp) (fun j v hj=>by simp at hj)⟩
    have hr:=run_append_grow_src c.w t t2 o.type e i zv C0 hi xO ad len cap rD MG (a.eval xx) m news hS (by omega) (h63 _ (by omega)) (hfit _ _ (by omega) (by omega))
    obtain⟨c',hw,hh,e',f',hv⟩:=f.grown hbs (e:=e) (Cz c L0) (grownCap_ge c.w (need:=len+m) (old:=cap) (e:=e)) (VRs.append JE G8) (fun v hv=>(UZ.1 hv).elim (G9 v) (hone v)) (by rw [UD,vW,←FN,zB,VE]) _ hget (by rw [f.h]; exact (Steady.kill _ _).trans (Steady.put _ _ _)) hnx hoth
    refine fin c' _ ?_ e' f' (by rw [←f.h]; exact hv)
    rw [xM,hw]
    exact hr
 | _=>rw [hq] at ha; simp only at ha; cases ha
end
end Go.R
