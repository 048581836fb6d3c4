/- Part of the proof: ROps3, RMem, ROps4, RNew, RApp, RApp2, RApp3. -/
import Derived.Test.YtifafejidnjckaaK0
import Derived.MapKept
import Derived.Laws.Slices
import Derived.Laws.IdiomCopy
import Derived.Deep.AppendSrc
import Derived.IntWalk
set_option linter.unusedVariables false
set_option linter.unusedSimpArgs false
set_option maxRecDepth 100000
open Array renaming getElem?_eq_some_iff → UH, getElem?_setIfInBounds → U7, length_toList → Va, getElem?_modify → Vc, ext' → VJ
open Bool renaming and_eq_true → Ud, false_eq_true → Um, or_eq_true → UW
open List renaming getElem?_eq_some_iff → Uh, length_append → Uk, length_cons → Up, getElem?_append_left → Ur, getElem?_append_right → Us, mem_of_getElem? → Ut, all_eq_true → Uv, mem_cons → UA, map_cons → UC, mem_append → UF, nil_append → UN, mem_map → UO, take_of_length_le → UP, eq_nil_of_length_eq_zero → UQ, all_cons → UZ, getElem?_map → Vh, map_nil → VF
open Nat renaming le_refl → Ue, zero_add → Uy, lt_of_lt_of_le → Uz, beq → UL, le_trans → UT, lt_succ_self → UY, mul_le_mul_right → U1, add_assoc → U6, eq_of_beq_eq_true → Vb, add_mul → Vj, add_right_comm → Vr, ble → Vv, add_comm → VE, add_zero → VG
open Option renaming bind_eq_some_iff → T9, map_eq_some_iff → Ub, map_some → Ug, isSome_iff_exists → UI, getD_some → U4
open Option.some renaming injEq → Uc
open Prod.mk renaming injEq → Ui
namespace Go.R
open Go
section
variable {P:Program}{L0:Nat→Prop}{c0:Cx}{n:Nat}{ds:List Nat}{o:Oper}{s:RS}
theorem tg (a b:ByteArray):(a==b)=(a.data.toList==b.data.toList):=by
 cases a with | mk x=>cases b with | mk y=>
 show (x==y)=(x.toList==y.toList)
 rw [Bool.eq_iff_iff]
 simp [Array.toList_inj]
def place (k:AV):List (AV × AV)→List MapEntry→Nat→Option (Nat × Value)
 | (k',_)::es,m::ms,i=>if eY k k' then some (i,m.val) else place k es ms (i+1)
 | _,_,_=>none
theorem jW {c:Cx}{L:Nat→Prop}{d:TypeDesc}{k:AV}{kv:Value}(hd:(∃q,d = .int q)∨d = .string)(hk:k.fN=some kv)(vO:(∃q a,k = .int q a)∨∃b,k = .str b) :
  ∀(es:List (AV × AV)) (ms:List MapEntry) (i:Nat),km c L es ms→ig k es≠none→(∀q a,k = .int q a→∃q',d = .int q')→(∀b,k = .str b→d = .string)→Instr.findNow d kv ms i=some (place k es ms i)
 | [],[],i,_,_,_,_=>rfl
 | (k',v)::es,m::ms,i,he,hf,h1,h2=>by
  simp only [ig] at hf
  have hs:sameShape k k'=true:=by
   by_cases hs:sameShape k k'=true
   ·exact hs
   ·simp [hs] at hf
  simp only [hs,if_true] at hf
  obtain⟨⟨CG,_⟩,zf,sD⟩:=he
  have L8:Instr.sameNow d kv m.key=some (eY k k'):=by
   rcases vO with⟨q,a,rfl⟩| ⟨b,rfl⟩
   ·obtain⟨q',rfl⟩:=h1 q a rfl
    cases k'<;>simp only [sameShape] at hs<;>try (cases hs; done)
    rename_i q2 a2
    simp only [beq_iff_eq] at hs
    subst hs
    simp only [VR] at CG
    simp only [AV.fN,Uc] at hk
    subst hk
    rw [CG]
    simp [Instr.sameNow,eY,iD]
   ·have:=h2 b rfl
    subst this
    cases k' with
    | str b2=>
     simp only [VR] at CG
     simp only [AV.fN,Uc] at hk
     subst hk
     rw [CG]
     simp only [Instr.sameNow,eY,iD,Uc]
     exact tg b b2
    | _=>cases hs
  simp only [Instr.findNow,L8]
  cases hq:eY k k' with
  | true=>simp [place,hq]
  | false=>
   simp only [hq,Um,if_false] at hf
   simp only [place,hq,Um,if_false]
   exact jW hd hk vO es ms (i+1) sD hf h1 h2
 | [],_::_,_,h,_,_,_=>h.elim
 | _::_,[],_,h,_,_,_=>h.elim
theorem iE {c:Cx}{L:Nat→Prop}{kt:TypeId}{k:AV}{kv:Value}(hk:fO P kt k=true)(vP:VR c L k kv)(w:World) :
  ∀(es:List (AV × AV)) (ms:List MapEntry) (i:Nat),km c L es ms→ig k es≠none→(Instr.findAsking kt kv ms i).run P w = .ok (place k es ms i) w
 | [],[],i,_,_=>rfl
 | (k',v)::es,m::ms,i,he,hf=>by
  simp only [ig] at hf
  have hs:sameShape k k'=true:=by
   by_cases hs:sameShape k k'=true
   ·exact hs
   ·simp [hs] at hf
  simp only [hs,if_true] at hf
  obtain⟨⟨CG,_⟩,zf,sD⟩:=he
  have hq:=te (P:=P) 9998 hk hs vP CG w
  simp only [Instr.findAsking,Op.equal,Op.maxDepth,Sem.run_bind,hq,Result.andThen_ok]
  cases h:eY k k' with
  | true=>simp [place,h]
  | false=>
   simp only [h,Um,if_false] at hf
   simp only [place,h,Um,if_false]
   exact iE hk vP w es ms (i+1) sD hf
 | [],_::_,_,h,_=>h.elim
 | _::_,[],_,h,_=>h.elim
theorem th {c:Cx}{L:Nat→Prop}{kt:TypeId}{k:AV}{kv:Value}(hk:fO P kt k=true)(vP:VR c L k kv)(w:World){es:List (AV × AV)}{ms:List MapEntry}(he:km c L es ms)(hf:ig k es≠none) :
  (Instr.findKey kt kv ms).run P w = .ok (place k es ms 0) w:=by
 have Lz:=hk
 cases hd:P.underlying kt with
 | none=>simp [fO,hd] at hk
 | some d=>
 cases d<;>simp only [fO,hd] at hk<;>try (cases hk; done)
 ·rename_i q
  cases k<;>simp only at hk<;>try (cases hk; done)
  rename_i q2 a
  have hc:(AV.int q2 a).fN=some kv:=by simp only [VR] at vP; simp [AV.fN,vP]
  exact MapKept.run_findKey hd (jW (.inl ⟨q,rfl⟩) hc (.inl ⟨_,_,rfl⟩) es ms 0 he hf (fun _ _ _=>⟨q,rfl⟩) (fun b hb=>by cases hb))
 ·cases k<;>simp only at hk<;>try (cases hk; done)
  rename_i b
  have hc:(AV.str b).fN=some kv:=by simp only [VR] at vP; simp [AV.fN,vP]
  exact MapKept.run_findKey hd (jW (.inr rfl) hc (.inr ⟨_,rfl⟩) es ms 0 he hf (fun _ _ h=>by cases h) (fun b hb=>rfl))
 ·rw [run_findKey_eq w (by simp [hd])]
  exact iE Lz vP w es ms 0 he hf
 ·rw [run_findKey_eq w (by simp [hd])]
  exact iE Lz vP w es ms 0 he hf
theorem pK {c:Cx}{L:Nat→Prop}{k:AV}:∀(es:List (AV × AV)) (ms:List MapEntry) (i:Nat),km c L es ms→(ig k es=some none→place k es ms i=none)∧(∀v,ig k es=some (some v)→∃j u,place k es ms i=some (j,u)∧VR c L v u)
 | [],[],i,_=>⟨fun _=>rfl,fun v h=>by simp [ig] at h⟩
 | (k',v)::es,m::ms,i,he=>by
  obtain⟨⟨CG,_⟩,zf,sD⟩:=he
  obtain⟨h1,h2⟩:=pK es ms (i+1) sD
  simp only [ig,place]
  by_cases hs:sameShape k k'=true
  ·simp only [hs,if_true]
   by_cases hq:eY k k'=true
   ·simp only [hq,if_true]
    exact⟨fun h=>(by cases h),fun u hu=>(by cases hu; exact⟨i,m.val,rfl,zf⟩)⟩
   ·simp only [hq,if_false,Um]
    exact⟨h1,h2⟩
  ·simp [hs]
 | [],_::_,_,h=>h.elim
 | _::_,[],_,h=>h.elim
theorem je {t:TypeId}{z:AV}(h:ic P t=some z)(w:World):∃v,(zeroValue t).run P w = .ok v w∧CA v=some z:=by
 unfold ic at h
 simp only [T9] at h
 obtain⟨i,hi,v,hv,hz⟩:=h
 exact⟨v,by simp [zeroValue,typeInfo,hi,hv],hz⟩
theorem vQ {c:Cx}{Lo:Nat→Prop}{lam:Nat→Nat}{a:Act}(f:Fr L0 c Lo lam ds s a){t:TypeId}{m k y:AV}{mv kv:Value}{ok:Bool}(hm:SR c L0 Lo lam s.bx m mv)(hk:SR c L0 Lo lam s.bx k kv)
  (h:fD P s.h t m k ok=some y):∃r,(Instr.lookup t mv kv ok).run P c.w = .ok r c.w∧VR c (un L0 Lo) y r:=by
 unfold fD at h
 rw [T9] at h
 obtain⟨d,hd,h⟩:=h
 cases d<;>simp only at h<;>try (cases h; done)
 rename_i kt et
 split at h
 ·cases h
 rename_i sI
 have sI:fO P kt k=true:=by simpa using sI
 rw [T9] at h
 obtain⟨es,sD,h⟩:=h
 have vP:VR c (un L0 Lo) k kv:=hk.vr (by rintro k0 off rfl; simp [fO] at sI)
 obtain⟨ms,JF,rj⟩:∃ms:Array MapEntry,((mv = .map none∧ms = #[])∨∃r clock,mv = .map (some r)∧c.w.heap[r]? = some (.map ms clock))∧km c (un L0 Lo) es ms.toList:=by
  cases m<;>simp only at sD<;>try (cases sD; done)
  ·simp only [SR,VR] at hm
   cases sD
   exact⟨#[],.inl ⟨hm,rfl⟩,trivial⟩
  ·rename_i id
   rw [T9] at sD
   obtain⟨ob,ho,sD⟩:=sD
   cases ob with
   | cells cs=>cases sD
   | row t cs=>cases sD
   | map pH=>
   cases sD
   simp only [SR,VR] at hm
   obtain⟨hi,r,L3,hr⟩:=hm
   rw [←f.h] at ho
   have hl:Live c.h id:=⟨f.rel.lt _ _ ho,by simp [ho]⟩
   obtain⟨kn,clock,h1,h2⟩:=f.rel.obj _ _ ho
   exact⟨kn,.inr ⟨r,clock,L3,by rw [hr hl]; exact h1⟩,h2⟩
 rw [T9] at h
 obtain⟨fr,L9,h⟩:=h
 have CH:=th sI vP c.w rj (by rw [L9]; simp)
 have Hs:=mW (P:=P) ms.isEmpty 9998 sI vP c.w
 obtain⟨p1,p2⟩:=pK (k:=k) es ms.toList 0 rj
 have hget:∀r clock,c.w.heap[r]? = some (.map ms clock)→(getObj r).run P c.w = .ok (.map ms clock) c.w:=fun r clock h1=>by simp [getObj,Sem.run,h1]
 cases fr with
 | none=>
  rw [Ub] at h
  obtain⟨z,hz,rfl⟩:=h
  obtain⟨zv,CI,ye⟩:=je hz c.w
  rw [p1 L9] at CH
  refine⟨if ok then .tuple #[zv,.bool false] else zv,?_,?_⟩
  ·unfold Instr.lookup
   rcases JF with⟨rfl,rfl⟩| ⟨r,clock,rfl,h1⟩
   ·simp only [pure_bind,Sem.run_bind,bo hd,Result.andThen_ok,Hs,CH,CI,Sem.run_pure]
   ·simp only [Sem.run_bind,bo hd,Result.andThen_ok,hget r clock h1,Hs,CH,CI,Sem.run_pure]
  ·cases ok with
   | true=>simp only [if_true,VR]; exact⟨#[zv,.bool false],rfl,kS ye,by simp [VR],trivial⟩
   | false=>simpa using kS ye
 | some v=>
  obtain⟨j,u,hp,hv⟩:=p2 v L9
  rw [hp] at CH
  cases h
  refine⟨if ok then .tuple #[u,.bool true] else u,?_,?_⟩
  ·unfold Instr.lookup
   rcases JF with⟨rfl,rfl⟩| ⟨r,clock,rfl,h1⟩
   ·simp only [pure_bind,Sem.run_bind,bo hd,Result.andThen_ok,Hs,CH,Sem.run_pure]
   ·simp only [Sem.run_bind,bo hd,Result.andThen_ok,hget r clock h1,Hs,CH,Sem.run_pure]
  ·cases ok with
   | true=>simp only [if_true,VR]; exact⟨#[u,.bool true],rfl,hv,by simp [VR],trivial⟩
   | false=>simpa using hv
theorem km.length {c:Cx}{L:Nat→Prop}:∀{es:List (AV × AV)} {ms:List MapEntry},km c L es ms→es.length=ms.length
 | [],[],_=>rfl
 | _::_,_::_,h=>by simp [km.length h.2.2]
 | [],_::_,h=>h.elim
 | _::_,[],h=>h.elim
theorem CJ {c:Cx}{Lo:Nat→Prop}{lam:Nat→Nat}{a:Act}(f:Fr L0 c Lo lam ds s a){x y:AV}{v:Value}{t:TypeId}(ts:Array TypeId)(ht:ts[0]? = some t)(hx:SR c L0 Lo lam s.bx x v)(h:qY P s.h t x=some y)(ty:TypeId) :
  ∃r,(Builtin.len_ ts ty #[v]).run P c.w = .ok r c.w∧VR c (un L0 Lo) y r:=by
 unfold qY at h
 rw [T9] at h
 obtain⟨d,hd,h⟩:=h
 unfold Builtin.len_
 cases d<;>simp only at h<;>try (cases h; done)
 ·cases x<;>simp only at h<;>try (cases h; done)
  cases h
  simp only [SR,VR] at hx
  subst hx
  exact⟨.int .i64 _,by simp [ht,bo hd,goInt]; rfl,by simp only [VR]⟩
 ·cases x with
  | nils=>
   cases h
   simp only [SR,VR] at hx
   obtain⟨a,rfl⟩:=hx
   exact⟨.int .i64 _,by simp [ht,bo hd,goInt]; rfl,by simp only [VR]⟩
  | fz cs m ex=>
   cases h
   simp only [SR,VR] at hx
   obtain⟨a,cap,rfl,_⟩:=hx
   exact⟨.int .i64 _,by simp [ht,bo hd,goInt]; rfl,by simp only [VR]⟩
  | rs id off m gZ=>
   cases h
   simp only [SR,VR] at hx
   rcases hx with⟨_,_,rfl,a,rfl⟩| ⟨_,_,a,cap,rfl,_⟩
   ·exact⟨.int .i64 _,by simp [ht,bo hd,goInt]; rfl,by simp only [VR]; rfl⟩
   ·exact⟨.int .i64 _,by simp [ht,bo hd,goInt]; rfl,by simp only [VR]⟩
  | _=>cases h
 ·cases x with
  | lC=>
   cases h
   simp only [SR,VR] at hx
   subst hx
   exact⟨.int .i64 _,by simp [ht,bo hd,goInt]; rfl,by simp only [VR]⟩
  | mp id=>
   simp only [T9] at h
   obtain⟨ob,ho,h⟩:=h
   cases ob with
   | cells cs=>cases h
   | row t cs=>cases h
   | map es=>
   cases h
   simp only [SR,VR] at hx
   obtain⟨hi,r,rfl,hr⟩:=hx
   rw [←f.h] at ho
   have hl:Live c.h id:=⟨f.rel.lt _ _ ho,by simp [ho]⟩
   obtain⟨kn,clock,h1,h2⟩:=f.rel.obj _ _ ho
   rw [hr hl]
   refine⟨.int .i64 es.length,?_,by simp [VR]⟩
   have h3:=h2.length
   simp [ht,bo hd,getObj,Sem.run,h1,goInt,h3]
  | _=>cases h
end
end Go.R
namespace Go.R
open Go
theorem gN.len {c c':Cx}{b:Nat}(h:gN c.w c'.w b):c'.len b=c.len b:=by
 unfold Cx.len World.shape?
 rcases h with h | ⟨C,e,lo,hi,E8,jl,h1,h2,_⟩
 ·rw [h]
 ·rw [h1,h2]
theorem HRel.block {c:Cx}{L:Nat→Prop}(r:HRel c L){id:Nat}(hl:Live c.h id):(c.β id).1<c.w.heap.size:=by
 obtain⟨o,ho⟩:=UI.1 hl.2
 have h:=r.obj id o ho
 cases o with
 | cells cs=>obtain⟨n,h1,_⟩:=h; exact h1.lt
 | map es=>obtain⟨kn,clock,h1,_⟩:=h; exact (UH.1 h1).1
 | row t cs=>obtain⟨_,C,h1,_⟩:=h; exact (UH.1 h1).1
section
variable {L0:Nat→Prop}{c:Cx}{Lo:Nat→Prop}{lam:Nat→Nat}{ds:List Nat}{s:RS}{a:Act}
theorem Fr.world (f:Fr L0 c Lo lam ds s a){w':World}(hk:∀b,b<c.w.heap.size→gN c.w w' b)(Ma:∀id,Live c.h id→w'.heap[(c.β id).1]? = c.w.heap[(c.β id).1]?)(hx:∀b,b<c.base→w'.heap[b]? = c.w.heap[b]?)(hs:c.w.heap.size≤w'.heap.size)
  (h1:w'.os=c.w.os) (h2:w'.tape=c.w.tape) (h3:w'.output=c.w.output):Ext c Lo {c with w:=w'} Lo∧Fr L0 {c with w:=w'} Lo lam ds s a:=by
 have e:Ext c Lo {c with w:=w'} Lo:=by
  refine⟨Ue _,fun id hi hl=>⟨hl,rfl,?_⟩,hs,fun b hb _ _=>hk b hb,hx,rfl,fun id hl=>.inr ⟨id,hl,rfl⟩,fun _ h=>h,fun _ h=>.inl h,h1,h2,h3⟩
  exact gN.len (c':={c with w:=w'}) (hk _ (f.rel.block hl))
 refine⟨e,f.h,⟨f.rel.lt,fun id o ho=>?_,f.rel.inj,f.rel.out,fun b hb=>Uz (f.rel.bd b hb) hs,f.rel.low,f.rel.ver⟩,fun t=>?_,fun k cs hb=>?_,f.inj,f.tidy,f.defers,f.CD⟩
 ·have hl:Live c.h id:=⟨f.rel.lt _ _ ho,by rw [ho]; rfl⟩
  exact (f.rel.obj id o ho).ext e (Ma id hl)
 ·exact (f.slot t).ext e (fun _ _ _=>⟨rfl,fun h=>h⟩)
 ·have ob:=f.box k cs hb
  exact ob.ext e (hk _ ob.plain.lt)
theorem Fr.upd (f:Fr L0 c Lo lam ds s a){w':World}{β':Nat→Nat × Nat}{h':AHeap}(nH:Nat)(ob:AObj)
  (hst:Steady c.h h') (QZ:nH<h'.next) (hget:h'.get nH=some ob)
  (hcl:∀id,id≠nH→h'.get id=none∨(h'.get id=c.h.get id∧β' id=c.β id))
  (JG:nH<c.h.next→Live c.h nH∧β' nH=c.β nH)
  (JH:c.w.heap.size≤(β' nH).1∨∃oR,Live c.h oR∧(c.β oR).1=(β' nH).1∧(oR=nH∨h'.get oR=none))
  (hlen:(β' nH).1<c.w.heap.size→((w'.shape? (β' nH).1).map (·.2)).getD 0=c.len (β' nH).1)
  (hk:∀b,b<c.w.heap.size→b≠(β' nH).1→w'.heap[b]? = c.w.heap[b]?) (hx:∀b,b<c.base→b≠(β' nH).1→w'.heap[b]? = c.w.heap[b]?) (hs:c.w.heap.size≤w'.heap.size) (hbs:c.base≤c.w.heap.size)
  (h1:w'.os=c.w.os) (h2:w'.tape=c.w.tape) (h3:w'.output=c.w.output)
  (hob:∀(e:Ext c Lo ⟨β',h',w',c.base⟩ Lo),nP ⟨β',h',w',c.base⟩ (un L0 Lo) (β' nH).1 (β' nH).2 ob) :
  Ext c Lo ⟨β',h',w',c.base⟩ Lo∧Fr L0 ⟨β',h',w',c.base⟩ Lo lam ds {s with h:=h'} a:=by
 have hn:=hst.next
 have hold:∀id,id≠nH→Live h' id→Live c.h id∧β' id=c.β id:=by
  intro id hne hl
  rcases hcl id hne with h | ⟨h,hb⟩
  ·have:=hl.2; rw [h] at this; cases this
  ·have zg:(c.h.get id).isSome=true:=by rw [←h]; exact hl.2
   obtain⟨o,ho⟩:=UI.1 zg
   exact⟨⟨f.rel.lt _ _ ho,zg⟩,hb⟩
 have Fo:∀id,id≠nH→Live h' id→(c.β id).1≠(β' nH).1:=by
  intro id hne hl he
  obtain⟨hl0,hb⟩:=hold id hne hl
  rcases JH with h | ⟨oR,h4,h5,h6⟩
  ·have:=f.rel.block hl0; omega
  ·have:id=oR:=f.rel.inj id oR hl0 h4 (he.trans h5.symm)
   subst this
   rcases h6 with h6 | h6
   ·exact hne h6
   ·have:=hl.2; rw [h6] at this; cases this
 have hL:¬un L0 Lo (β' nH).1:=by
  intro hL
  rcases JH with h | ⟨oR,h4,h5,_⟩
  ·have:=f.rel.bd _ hL; omega
  ·exact f.rel.out oR h4 (h5 ▸ hL)
 have Ht:c.base≤(β' nH).1:=by
  rcases JH with h | ⟨oR,h4,h5,_⟩
  ·omega
  ·rw [←h5]; exact f.rel.low oR h4
 have e:Ext c Lo ⟨β',h',w',c.base⟩ Lo:=by
  refine⟨hn,fun id hi hl=>?_,hs,fun b hb _ hi=>.inl (hk b hb ?_),fun b hb=>hx b hb (by omega),rfl,fun id hl=>?_,fun _ h=>h,fun _ h=>.inl h,h1,h2,h3⟩
  ·by_cases hid:id=nH
   ·subst hid
    obtain⟨h4,h5⟩:=JG hi
    refine⟨h4,h5,?_⟩
    have:=hlen (by rw [h5]; exact f.rel.block h4)
    rw [h5] at this
    exact this
   ·obtain⟨h4,h5⟩:=hold id hid hl
    exact⟨h4,h5,gN.len (c':=⟨β',h',w',c.base⟩) (.inl (hk _ (f.rel.block h4) (Fo id hid hl)))⟩
  ·rintro rfl
   rcases JH with h | ⟨oR,h4,h5,_⟩
   ·omega
   ·exact hi oR h4 h5
  ·by_cases hid:id=nH
   ·subst hid
    rcases JH with h | ⟨oR,h4,h5,_⟩
    ·exact .inl h
    ·exact .inr ⟨oR,h4,h5⟩
   ·obtain⟨h4,h5⟩:=hold id hid hl
    exact .inr ⟨id,h4,by rw [←h5]⟩
 refine⟨e,rfl,⟨fun id o ho=>?_,fun id o ho=>?_,fun id jV hl nG he=>?_,fun id hl=>?_,fun b hb=>Uz (f.rel.bd b hb) hs,fun id hl=>?_,hst.wf f.rel.ver⟩,fun t=>?_,fun k cs hb=>?_,f.inj,f.tidy,f.defers,f.CD⟩
 ·by_cases hid:id=nH
  ·subst hid; exact QZ
  ·rcases hcl id hid with h | ⟨h,_⟩
   ·rw [h] at ho; cases ho
   ·rw [h] at ho; exact Uz (f.rel.lt _ _ ho) hn
 ·by_cases hid:id=nH
  ·subst hid
   rw [hget] at ho
   cases ho
   exact hob e
  ·rcases hcl id hid with h | ⟨h,hb⟩
   ·rw [h] at ho; cases ho
   ·have hl:Live h' id:=⟨by rw [h] at ho; exact Uz (f.rel.lt _ _ ho) hn,by rw [ho]; rfl⟩
    rw [h] at ho
    have:=(f.rel.obj id o ho).ext e (hk _ (f.rel.block (hold id hid hl).1) (Fo id hid hl))
    rw [←hb] at this
    exact this
 ·by_cases hid:id=nH<;>by_cases CK:jV=nH
  ·rw [hid,CK]
  ·subst hid
   obtain⟨h4,h5⟩:=hold jV CK nG
   exact absurd (by rw [←h5]; exact he.symm) (Fo jV CK nG)
  ·subst CK
   obtain⟨h4,h5⟩:=hold id hid hl
   exact absurd (by rw [←h5]; exact he) (Fo id hid hl)
  ·obtain⟨h4,h5⟩:=hold id hid hl
   obtain⟨h6,h7⟩:=hold jV CK nG
   exact f.rel.inj id jV h4 h6 (by rw [←h5,←h7]; exact he)
 ·by_cases hid:id=nH
  ·subst hid; exact hL
  ·obtain⟨h4,h5⟩:=hold id hid hl
   show ¬un L0 Lo (β' id).1
   rw [h5]; exact f.rel.out id h4
 ·by_cases hid:id=nH
  ·subst hid; exact Ht
  ·obtain⟨h4,h5⟩:=hold id hid hl
   show c.base≤(β' id).1
   rw [h5]; exact f.rel.low id h4
 ·exact (f.slot t).ext e (fun _ _ _=>⟨rfl,fun h=>h⟩)
 ·have hb2:=f.box k cs hb
  refine hb2.ext e (.inl (hk _ hb2.plain.lt ?_))
  rintro he
  exact hL (he ▸ .inr hb2.own)
theorem Fr.CL (f:Fr L0 c Lo lam ds s a){w':World}(k:Nat)(cs:List AV)(b:Nat)
  (hb:c.w.heap.size≤b∨(b=lam k∧(s.bx k).isSome=true))
  (hp:∀t off,s.ρ t = .lp k off→b=lam k)
  (hk:∀b',b'<c.w.heap.size→b'≠b→w'.heap[b']? = c.w.heap[b']?) (hx:∀b',b'<c.base→b'≠b→w'.heap[b']? = c.w.heap[b']?) (hs:c.w.heap.size≤w'.heap.size) (Q0:b<w'.heap.size) (hbs:c.base≤c.w.heap.size)
  (h1:w'.os=c.w.os) (h2:w'.tape=c.w.tape) (h3:w'.output=c.w.output)
  (zh:Plain {c with w:=w'} b cs.length)
  (L7:∀(e:Ext c Lo {c with w:=w'} (fun x=>Lo x∨x=b)),Cells {c with w:=w'} (un L0 (fun x=>Lo x∨x=b)) cs b 0) :
  ∃iZ p9,Ext c Lo {c with w:=w'} iZ∧Fr L0 {c with w:=w'} iZ p9 ds (s.box k cs) a∧p9 k=b:=by
 have Hu:∀id,Live c.h id→(c.β id).1≠b:=by
  intro id hl he
  rcases hb with h | ⟨h,hb2⟩
  ·have:=f.rel.block hl; omega
  ·obtain⟨JI,h0⟩:=UI.1 hb2
   exact f.rel.out id hl (by rw [he,h]; exact .inr (f.box k JI h0).own)
 have Pf:∀x,(Lo x∨x=b)→Lo x∨c.w.heap.size≤x:=by
  rintro x (h | rfl)
  ·exact .inl h
  ·rcases hb with h | ⟨h,hb2⟩
   ·exact .inr h
   ·obtain⟨JI,h0⟩:=UI.1 hb2
    exact .inl (h ▸ (f.box k JI h0).own)
 have Ht:c.base≤b:=by
  rcases hb with h | ⟨h,hb2⟩
  ·omega
  ·obtain⟨JI,h0⟩:=UI.1 hb2
   rw [h]; exact f.CD _ (f.box k JI h0).own
 have Q1:∀b',b'<c.w.heap.size→¬Lo b'→b'≠b:=by
  rintro b' sE hn rfl
  rcases Pf b' (.inr rfl) with h | h
  ·exact hn h
  ·omega
 have e:Ext c Lo {c with w:=w'} (fun x=>Lo x∨x=b):=by
  refine⟨Ue _,fun id hi hl=>⟨hl,rfl,?_⟩,hs,fun b' sE hn _=>.inl (hk b' sE (Q1 b' sE hn)),fun b' sE=>hx b' sE (by omega),rfl,fun id hl=>.inr ⟨id,hl,rfl⟩,fun _ h=>.inl h,Pf,h1,h2,h3⟩
  exact gN.len (c':={c with w:=w'}) (.inl (hk _ (f.rel.block hl) (Hu id hl)))
 refine⟨fun x=>Lo x∨x=b,fun t=>if t=k then b else lam t,e,⟨f.h,⟨f.rel.lt,fun id o ho=>?_,f.rel.inj,fun id hl hL=>?_,fun x Hv=>?_,f.rel.low,f.rel.ver⟩,fun t=>?_,fun k' eO sE=>?_,fun k1 k2 Pg Jj he=>?_,f.tidy,f.defers,fun x Hv=>?_⟩,by simp⟩
 ·have hl:Live c.h id:=⟨f.rel.lt _ _ ho,by rw [ho]; rfl⟩
  exact (f.rel.obj id o ho).ext e (hk _ (f.rel.block hl) (Hu id hl))
 ·rcases hL with h | h | h
  ·exact f.rel.out id hl (.inl h)
  ·exact f.rel.out id hl (.inr h)
  ·exact Hu id hl h
 ·rcases Hv with h | h | h
  ·exact Uz (f.rel.bd x (.inl h)) hs
  ·exact Uz (f.rel.bd x (.inr h)) hs
  ·subst h; exact Q0
 ·refine (f.slot t).ext e (fun k' off JJ=>?_)
  by_cases vO:k'=k
  ·subst vO
   refine⟨by simp [hp t off JJ],fun _=>by simp [RS.box]⟩
  ·exact⟨by simp [vO],fun h=>by simpa [RS.box,beq_nat,vO] using h⟩
 ·by_cases vO:k'=k
  ·subst vO
   simp only [RS.box,beq_nat,decide_true,cond_true,Uc] at sE
   subst sE
   exact⟨by simp,by simpa using zh,by simpa using L7 e⟩
  ·simp only [RS.box,beq_nat,vO,decide_false,cond_false] at sE
   have ob:=f.box k' eO sE
   have hne:lam k'≠b:=by
    rintro he
    rcases hb with h | ⟨h,hb2⟩
    ·have:=ob.plain.lt; omega
    ·exact vO (f.inj k' k (by rw [sE]; rfl) hb2 (he.trans h))
   have:=ob.ext e (.inl (hk _ ob.plain.lt hne))
   exact⟨by simp [vO]; exact .inl ob.own,by simpa [vO] using this.plain,by simpa [vO] using this.cells⟩
 ·have old:∀k',k'≠k→((s.box k cs).bx k').isSome=true→(s.bx k').isSome=true:=by
   intro k' hne h
   simpa [RS.box,beq_nat,hne] using h
  have sep:∀k',k'≠k→(s.bx k').isSome=true→lam k'≠b:=by
   intro k' hne h5 Q2
   obtain⟨LA,h6⟩:=UI.1 h5
   rcases hb with h | ⟨h,hb2⟩
   ·have:=(f.box k' LA h6).plain.lt; omega
   ·exact hne (f.inj k' k h5 hb2 (Q2.trans h))
  by_cases h4:k1=k<;>by_cases h5:k2=k
  ·rw [h4,h5]
  ·simp only [h4,h5,if_true,if_false] at he
   exact absurd he.symm (sep k2 h5 (old k2 h5 Jj))
  ·simp only [h4,h5,if_true,if_false] at he
   exact absurd he (sep k1 h4 (old k1 h4 Pg))
  ·simp only [h4,h5,if_false] at he
   exact f.inj k1 k2 (old k1 h4 Pg) (old k2 h5 Jj) he
 ·rcases Hv with h | h
  ·exact f.CD x h
  ·subst h; exact Ht
end
end Go.R
namespace Go.R
open Go
theorem Cells.iff {c:Cx}{L:Nat→Prop}:∀{xs:List AV} {b o:Nat},Cells c L xs b o↔∀(i:Nat) (x:AV),xs[i]? = some x→∃v,c.w.cell? ⟨b,o+i,none⟩=some v∧v.oneCell'=true∧VR c L x v
 | [],b,o=>by simp [Cells]
 | x::xs,b,o=>by
  refine⟨fun h i y hy=>h.get' i y hy,fun h=>⟨?_,(Cells.iff (xs:=xs)).2 fun i y hy=>?_⟩⟩
  ·exact h 0 x rfl
  ·have:=h (i+1) y (by simpa using hy)
   rwa [Vr,U6]
theorem gP:∀(vs cs:List AV) (i:Nat),(cX cs i vs).length=cs.length
 | [],cs,i=>by cases cs<;>rfl
 | v::vs,cs,i=>by
  rw [cX,gP vs]
  simp
theorem rl:∀(vs cs:List AV) (i j:Nat),i+vs.length≤cs.length→(cX cs i vs)[j]? = if i≤j∧j<i+vs.length then vs[j - i]? else cs[j]?
 | [],cs,i,j,_=>by
  have:cX cs i []=cs:=by cases cs<;>rfl
  rw [this,if_neg (by simp)]
 | v::vs,cs,i,j,h=>by
  simp only [Up] at h
  rw [cX,rl vs _ (i+1) j (by simp; omega)]
  by_cases h1:i+1≤j∧j<i+1+vs.length
  ·rw [if_pos h1,if_pos (by simp; omega),show j - i=(j - (i+1))+1 by omega]
   simp
  ·rw [if_neg h1]
   by_cases h2:j=i
   ·subst h2
    rw [if_pos (by simp),List.getElem?_set_self (by omega)]
    simp
   ·rw [List.getElem?_set_ne (by omega),if_neg (by simp; omega)]
theorem uo (w:World)(b o:Nat)(v:Value){C:Array Value}{e:TypeId}{fr:Nat × Nat}(hb:w.heap[b]? = some (.cells C e fr)):(w.setCell ⟨b,o,none⟩ v).heap[b]? = some (.cells (C.setIfInBounds o v) e fr):=by
 have hlt:b<w.heap.size:=(UH.1 hb).1
 simp [World.setCell,Vc,hb]
theorem vR (w:World)(b o b':Nat)(v:Value)(hne:b'≠b):(w.setCell ⟨b,o,none⟩ v).heap[b']? = w.heap[b']?:=by
 simp [World.setCell,Vc,Ne.symm hne]
theorem dy:∀(vs:List Value) (b o b':Nat) (w:World),b'≠b→(w.setCells b o vs).heap[b']? = w.heap[b']?
 | [],_,_,_,_,_=>rfl
 | v::vs,b,o,b',w,h=>by rw [World.setCells,dy vs b (o+1) b' _ h,vR _ _ _ _ _ h]
theorem fZ:∀(vs:List Value) (b o:Nat) (w:World),(w.setCells b o vs).heap.size=w.heap.size∧(w.setCells b o vs).os=w.os∧(w.setCells b o vs).tape=w.tape∧(w.setCells b o vs).output=w.output
 | [],_,_,_=>⟨rfl,rfl,rfl,rfl⟩
 | v::vs,b,o,w=>by
  obtain⟨h1,h2,h3,h4⟩:=fZ vs b (o+1) (w.setCell ⟨b,o,none⟩ v)
  rw [World.setCells]
  exact⟨h1.trans (by simp),h2.trans rfl,h3.trans rfl,h4.trans rfl⟩
theorem eP:∀(vs:List Value) (b o:Nat) (w:World) (C:Array Value) (e:TypeId) (fr:Nat × Nat),w.heap[b]? = some (.cells C e fr)→o+vs.length≤C.size→
  ∃C',(w.setCells b o vs).heap[b]? = some (.cells C' e fr)∧C'.size=C.size∧∀j,C'[j]? = if o≤j∧j<o+vs.length then vs[j - o]? else C[j]?
 | [],b,o,w,C,e,fr,hb,_=>⟨C,hb,rfl,fun j=>by rw [if_neg (by simp)]⟩
 | v::vs,b,o,w,C,e,fr,hb,hl=>by
  simp only [Up] at hl
  obtain⟨C',h1,h2,h3⟩:=eP vs b (o+1) (w.setCell ⟨b,o,none⟩ v) (C.setIfInBounds o v) e fr (uo w b o v hb) (by simp; omega)
  refine⟨C',h1,by simpa using h2,fun j=>?_⟩
  rw [h3 j]
  by_cases h4:o+1≤j∧j<o+1+vs.length
  ·rw [if_pos h4,if_pos (by simp; omega),show j - o=(j - (o+1))+1 by omega]
   simp
  ·rw [if_neg h4]
   by_cases h5:j=o
   ·subst h5
    rw [if_pos (by simp)]
    simp [U7,show j<C.size by omega]
   ·rw [if_neg (by simp; omega)]
    simp [U7,Ne.symm h5]
theorem cell_of_block {w:World}{b:Nat}{C:Array Value}{e:TypeId}{fr:Nat × Nat}(h:w.heap[b]? = some (.cells C e fr))(i:Nat):w.cell? ⟨b,i,none⟩=C[i]?:=by
 simp [World.cell?,h]
section
variable {P:Program}{L0:Nat→Prop}{c0:Cx}{n:Nat}{ds:List Nat}{o:Oper}{s:RS}
theorem rm {c:Cx}{L:Nat→Prop}{x:AV}{v:Value}(h:x.bP=true)(hv:VR c L x v):v.oneCell'=true∧v.cells = #[v]:=by
 cases x<;>simp only [AV.bP] at h<;>first | (cases h; done) | skip
 all_goals simp only [VR] at hv
 ·subst hv; exact⟨rfl,rfl⟩
 ·subst hv; exact⟨rfl,rfl⟩
 ·subst hv; exact⟨rfl,rfl⟩
 ·subst hv; exact⟨rfl,rfl⟩
 ·obtain⟨_,a,rfl,_⟩:=hv; exact⟨rfl,rfl⟩
 ·obtain⟨b,o,rfl,_⟩:=hv; exact⟨rfl,rfl⟩
 ·obtain⟨a,rfl⟩:=hv; exact⟨rfl,rfl⟩
 ·obtain⟨a,cap,rfl,_⟩:=hv; exact⟨rfl,rfl⟩
 ·rcases hv with⟨_,_,_,a,rfl⟩| ⟨_,_,a,cap,rfl,_⟩<;>exact⟨rfl,rfl⟩
 ·subst hv; exact⟨rfl,rfl⟩
 ·obtain⟨_,r,rfl,_⟩:=hv; exact⟨rfl,rfl⟩
 ·obtain⟨vs,rfl,_⟩:=hv; exact⟨rfl,rfl⟩
 ·subst hv; exact⟨rfl,rfl⟩
theorem pL {c:Cx}{L:Nat→Prop}:∀{xs:List AV} {vs:List Value},xs.all AV.bP=true→VRs c L xs vs→∀v∈vs,v.oneCell'=true
 | [],[],_,_,v,hv=>by simp at hv
 | x::xs,u::us,h,hr,v,hv=>by
  simp only [UZ,Ud] at h
  rcases UA.1 hv with rfl | hv
  ·exact (rm h.1 hr.1).1
  ·exact pL h.2 hr.2 v hv
 | [],_::_,_,h,_,_=>h.elim
 | _::_,[],_,h,_,_=>h.elim
theorem ik {c:Cx}{L:Nat→Prop}{x:AV}{v:Value}(h:x.cells.all AV.bP=true)(hv:VR c L x v):VRs c L x.cells v.cells.toList∧∀u∈v.cells.toList,u.oneCell'=true:=by
 cases x with
 | agg cs=>
  simp only [VR] at hv
  obtain⟨vs,rfl,Cq⟩:=hv
  exact⟨Cq,pL h Cq⟩
 | _=>
  simp only [AV.cells,UZ,List.all_nil,Bool.and_true] at h
  obtain⟨h1,h2⟩:=rm h hv
  rw [h2]
  exact⟨⟨hv,trivial⟩,by simpa using h1⟩
theorem SR.qN {c:Cx}{Lo:Nat→Prop}{lam:Nat→Nat}{bx:Nat→Option (List AV)}{x:AV}{v:Value}(hx:SR c L0 Lo lam bx x v)(h:x.cells.all AV.bP=true):VR c (un L0 Lo) x v:=
 hx.vr (by rintro k off rfl; simp [AV.cells,AV.bP] at h)
theorem js {c:Cx}{b m base off:Nat}{vs:List Value}(hp:Plain c b m)(hl:base+off+vs.length≤m)(h1:∀v∈vs,v.oneCell'=true) :
  (storeCells ⟨b,base+off,none⟩ vs).run P c.w = .ok () (c.w.setCells b (base+off) vs):=by
 obtain⟨C,e,lo,hi,hb,hf,hm⟩:=hp
 have:=run_storeCells_cells (P:=P) b (base+off) vs 0 c.w (fun j hj=>by
  rw [cell_of_block hb]
  have:base+off+0+j<C.size:=by omega
  simpa using this) (fun j hj=>by
  simp only [World.frozen?,hb]
  rcases hf with hf | hf
  ·subst hf; simp
  ·simp; omega) h1
 simpa using this
theorem Plain.setCells {c:Cx}{b m o:Nat}{vs:List Value}(hp:Plain c b m)(hl:o+vs.length≤m)(β':Nat→Nat × Nat)(h':AHeap)(bs:Nat):Plain ⟨β',h',c.w.setCells b o vs,bs⟩ b m:=by
 obtain⟨C,e,lo,hi,hb,hf,hm⟩:=hp
 obtain⟨C',h1,h2,_⟩:=eP vs b o c.w C e (lo,hi) hb (by omega)
 exact⟨C',e,lo,hi,h1,by rw [h2]; exact hf,by rw [h2]; exact hm⟩
theorem gY.setCells {c:Cx}{b m o:Nat}{vs:List Value}(hp:gY c b m)(hl:o+vs.length≤m)(β':Nat→Nat × Nat)(h':AHeap)(bs:Nat):gY ⟨β',h',c.w.setCells b o vs,bs⟩ b m:=by
 obtain⟨C,e,hb,hm⟩:=hp
 obtain⟨C',h1,h2,_⟩:=eP vs b o c.w C e (0,0) hb (by omega)
 exact⟨C',e,h1,by rw [h2]; exact hm⟩
theorem il {c c':Cx}{L0 Lo iZ:Nat→Prop}{b m base off:Nat}{cs xs:List AV}{vs:List Value}(hp:Plain c b m)(hc:Cells c (un L0 Lo) cs b base)(hv:VRs c (un L0 Lo) xs vs)(JK:∀v∈vs,v.oneCell'=true)(hl:off+xs.length≤cs.length)(hm:base+cs.length≤m)
  (e:Ext c Lo c' iZ) (hw:c'.w=c.w.setCells b (base+off) vs):Cells c' (un L0 iZ) (cX cs off xs) b base:=by
 obtain⟨C,e',lo,hi,hb,hf,qa⟩:=hp
 have hlen:=hv.length
 obtain⟨C',h1,h2,h3⟩:=eP vs b (base+off) c.w C e' (lo,hi) hb (by omega)
 rw [Cells.iff]
 intro i x hx
 rw [hw,cell_of_block h1,h3]
 rw [rl xs cs off i hl] at hx
 by_cases h4:off≤i∧i<off+xs.length
 ·rw [if_pos h4] at hx
  obtain⟨v,JL,Hq⟩:=hv.get _ x hx
  refine⟨v,?_,JK v (Ut JL),VR.ext e x v Hq⟩
  rw [if_pos (by omega),show base+i - (base+off)=i - off by omega]
  exact JL
 ·rw [if_neg h4] at hx
  obtain⟨v,JL,Fp,Hq⟩:=hc.get' i x hx
  refine⟨v,?_,Fp,VR.ext e x v Hq⟩
  rw [if_neg (by omega),←cell_of_block hb]
  exact JL
theorem mX {c:Cx}{L:Nat→Prop}{t:TypeId}{cs eO:List AV}{b m base off:Nat}{x:AV}{v:Value}(hp:Plain c b m)(hm:base+cs.length≤m)(hv:VR c L x v)(h:gD P t cs off x=some eO) :
  (storeVar t ⟨b,base+off,none⟩ v).run P c.w = .ok () (c.w.setCells b (base+off) v.cells.toList)∧VRs c L x.cells v.cells.toList∧off+x.cells.length≤cs.length∧eO=cX cs off x.cells∧(∀u∈v.cells.toList,u.oneCell'=true):=by
 unfold gD at h
 rw [T9] at h
 obtain⟨k,hk,h⟩:=h
 split at h
 ·rename_i hh
  obtain⟨h1,h2,h3⟩:=hh
  cases h
  obtain⟨h4,h5⟩:=ik h2 hv
  have h6:=h4.length
  refine⟨?_,h4,by omega,rfl,h5⟩
  have h7:v.cells.size=k:=by rw [←Va,←h6]; exact h1
  simp only [storeVar,Sem.run_bind,dw hk,Result.andThen_ok,h7]
  simp only [ne_eq,not_true_eq_false,if_false]
  rw [←js (P:=P) hp (vs:=v.cells.toList) (base:=base) (off:=off) (by omega) h5]
 ·cases h
theorem iK {c c0:Cx}{Lo:Nat→Prop}(e:Ext c0 none0 c Lo)(h:c0.base≤c0.w.heap.size):c.base≤c.w.heap.size:=by
 rw [e.base]; exact UT h e.size
theorem CM (hb0:c0.base≤c0.w.heap.size)(hd:fQ n ds o){t:TypeId}{x y:Operand}(ho:o.op = .store t x y)(qd:o.dst=none){s':RS}
  (h:(match bG s.ρ x with
   | .lp k off=>(s.bx k).bind fun cs=>(gD P t cs off (bG s.ρ y)).map fun eO=>s.box k eO
   | .ptr id off=>(s.h.get id).bind fun | .cells cs=>(gD P t cs off (bG s.ρ y)).map fun eO=>{s with h:=s.h.put id (.cells eO)} | _=>none
   | _=>none)=some s'):iM P L0 c0 n ds o s s':=by
 rintro a w K Q ⟨hn,c,Lo,lam,rfl,f,e⟩ hK
 have hbs:=iK e hb0
 have hx:=bB f x
 have hy:=bB f y
 unfold Oper.wp
 have Hw:a.put o.dst undef=a:=by rw [qd]; rfl
 have fin:∀c' iZ p9,((Instr.storeAt t (a.eval x) (a.eval y)).run P c.w = .ok () c'.w)→Fr L0 c' iZ p9 ds s' a→Ext c Lo c' iZ→Oper.upon P o a K Q ((execOp a.eval o).run P c.w):=by
  intro c' iZ p9 hr f' e'
  have:(execOp a.eval o).run P c.w = .ok .skip c'.w:=by simp [execOp,ho,hr]
  rw [this,Oper.upon_skip,Hw]
  exact hK _ _ ⟨hn,c',iZ,p9,rfl,f',e.trans e'⟩
 cases Bk:bG s.ρ x<;>rw [Bk] at h<;>simp only at h<;>try (cases h; done)
 ·rename_i id off
  rw [T9] at h
  obtain⟨ob,hob,h⟩:=h
  cases ob with
  | map es=>cases h
  | row t cs=>cases h
  | cells cs=>
  rw [Ub] at h
  obtain⟨eO,hw,rfl⟩:=h
  rw [Bk] at hx
  simp only [SR,VR] at hx
  obtain⟨hi,ad,xG,ha⟩:=hx
  rw [←f.h] at hob
  have hl:Live c.h id:=⟨f.rel.lt _ _ hob,by simp [hob]⟩
  obtain⟨m,hp,hm,hc⟩:=f.rel.obj _ _ hob
  have mY:(bG s.ρ y).cells.all AV.bP=true:=by
   unfold gD at hw
   rw [T9] at hw
   obtain⟨k,_,hw⟩:=hw
   split at hw
   ·rename_i hh; exact hh.2.1
   ·cases hw
  have Mb:=hy.qN mY
  obtain⟨hr,hv,hle,rfl,JK⟩:=mX (P:=P) hp.jM hm Mb hw
  have hvl:=hv.length
  obtain⟨q1,q2,q3,q4⟩:=fZ (a.eval y).cells.toList (c.β id).1 ((c.β id).2+off) c.w
  have:=f.upd (w':=c.w.setCells (c.β id).1 ((c.β id).2+off) (a.eval y).cells.toList) (β':=c.β) (h':=c.h.put id (.cells (cX cs off (bG s.ρ y).cells))) id (.cells (cX cs off (bG s.ρ y).cells))
   (Steady.put _ _ _) (by simp only [AHeap.put]; omega) (by simp [AHeap.put,beq_nat]) (fun jV hne=>.inr ⟨by simp [AHeap.put,beq_nat,hne],rfl⟩) (fun _=>⟨hl,rfl⟩) (.inr ⟨id,hl,rfl,.inl rfl⟩)
   (fun _=>by
    obtain⟨C,e',lo,jl,hb,hf,qa⟩:=hp.jM
    obtain⟨C',h1,h2,_⟩:=eP (a.eval y).cells.toList (c.β id).1 ((c.β id).2+off) c.w C e' (lo,jl) hb (by omega)
    simp [World.shape?,h1,Cx.len,hb,h2])
   (fun b _ hne=>dy _ _ _ _ _ hne) (fun b _ hne=>dy _ _ _ _ _ hne) (by rw [q1]; exact Ue _) hbs q2 q3 q4
   (fun e'=>⟨m,hp.setCells (by omega) _ _ _,by rw [gP]; exact hm,il hp.jM hc hv JK hle hm e' rfl⟩)
  rw [f.h] at this
  obtain⟨e',f'⟩:=this
  refine fin _ _ _ ?_ f' e'
  rw [xG,ha hl]
  simp [Instr.storeAt,Instr.sureAddr,hr]
 ·rename_i k off
  rw [T9] at h
  obtain⟨cs,JM,h⟩:=h
  rw [Ub] at h
  obtain⟨eO,hw,rfl⟩:=h
  rw [Bk] at hx
  simp only [SR] at hx
  obtain⟨xG,_⟩:=hx
  have ob:=f.box k cs JM
  have mY:(bG s.ρ y).cells.all AV.bP=true:=by
   unfold gD at hw
   rw [T9] at hw
   obtain⟨k,_,hw⟩:=hw
   split at hw
   ·rename_i hh; exact hh.2.1
   ·cases hw
  have Mb:=hy.qN mY
  obtain⟨hr,hv,hle,rfl,JK⟩:=mX (P:=P) (base:=0) ob.plain (by omega) Mb hw
  have hvl:=hv.length
  obtain⟨q1,q2,q3,q4⟩:=fZ (a.eval y).cells.toList (lam k) (0+off) c.w
  obtain⟨iZ,p9,e',f',_⟩:=f.CL (w':=c.w.setCells (lam k) (0+off) (a.eval y).cells.toList) k (cX cs off (bG s.ρ y).cells) (lam k) (.inr ⟨rfl,by rw [JM]; rfl⟩)
   (fun _ _ _=>rfl) (fun b _ hne=>dy _ _ _ _ _ hne) (fun b _ hne=>dy _ _ _ _ _ hne) (by rw [q1]; exact Ue _) (by rw [q1]; exact ob.plain.lt) hbs q2 q3 q4
   (by rw [gP]; exact ob.plain.setCells (by omega) _ _ _) (fun e'=>il ob.plain ob.cells hv JK hle (by omega) e' rfl)
  refine fin _ _ _ ?_ f' e'
  rw [xG]
  rw [Uy] at hr
  simp [Instr.storeAt,Instr.sureAddr,hr]
end
end Go.R
namespace Go.R
open Go
theorem hJ (w:World)(o:Obj):(w.alloc o).heap[w.heap.size]? = some o:=by
 show (w.heap.push o)[w.heap.size]? = some o
 simp
theorem alloc_old (w:World)(o:Obj){b:Nat}(h:b<w.heap.size):(w.alloc o).heap[b]? = w.heap[b]?:=by
 show (w.heap.push o)[b]? = w.heap[b]?
 simp [Array.getElem?_push,show b≠w.heap.size by omega]
theorem RS.set_set (s:RS)(d:Option Nat)(x y:AV):(s.set d x).set d y=s.set d y:=by
 cases d with
 | none=>rfl
 | some d=>
  simp only [RS.set]
  congr 1
  funext t
  cases UL t d<;>rfl
theorem Fq (a:Act)(d:Option Nat)(x y:Value):(a.put d x).put d y=a.put d y:=by
 cases d with
 | none=>rfl
 | some d=>
  simp only [Act.put]
  congr 1
  apply Array.ext_getElem?
  intro i
  simp only [U7,Array.size_setIfInBounds]
  by_cases h:d=i<;>by_cases h2:d<a.tmps.size<;>simp [h,h2]
section
variable {P:Program}{L0:Nat→Prop}{c0:Cx}{n:Nat}{ds:List Nat}{o:Oper}{s:RS}
theorem oW {k:Nat}{ρ:Nat→AV}:∀{l:List Nat},qZ k ρ l=true→∀t∈l,∀off,ρ t≠.lp k off
 | [],_,t,ht=>by simp at ht
 | x::xs,h,t,ht=>by
  simp only [qZ,Ud] at h
  intro off he
  rcases UA.1 ht with rfl | ht
  ·rw [he] at h; simp at h
  ·exact oW h.2 t ht off he
theorem Fr.CN {c:Cx}{Lo:Nat→Prop}{lam:Nat→Nat}{a:Act}(f:Fr L0 c Lo lam ds s a)(hbs:c.base≤c.w.heap.size)(w1:World)(Mc:w1.heap=c.w.heap∧w1.os=c.w.os∧w1.tape=c.w.tape∧w1.output=c.w.output)(ob:AObj)(obj:Obj)
  (h':AHeap) (hg:h'.get c.h.next=some ob) (hst:Steady c.h h') (hn:c.h.next<h'.next) (ho:∀id,id≠c.h.next→h'.get id=none∨h'.get id=c.h.get id)
  (hob:∀(c':Cx) (e:Ext c Lo c' Lo),c'.w=w1.alloc obj→nP c' (un L0 Lo) c.w.heap.size 0 ob) :
  ∃β',Ext c Lo ⟨β',h',w1.alloc obj,c.base⟩ Lo∧Fr L0 ⟨β',h',w1.alloc obj,c.base⟩ Lo lam ds {s with h:=h'} a∧β' c.h.next=(c.w.heap.size,0)∧Live h' c.h.next:=by
 obtain⟨q0,q1,q2,q3⟩:=Mc
 have hsz:w1.heap.size=c.w.heap.size:=by rw [q0]
 refine⟨fun i=>if i=c.h.next then (c.w.heap.size,0) else c.β i,?_⟩
 have:=f.upd (w':=w1.alloc obj) (β':=fun i=>if i=c.h.next then (c.w.heap.size,0) else c.β i) (h':=h') c.h.next ob
  hst hn hg (fun id hne=>(ho id hne).imp (fun x=>x) fun h=>⟨h,by simp [hne]⟩)
  (fun h=>absurd h (Nat.lt_irrefl _)) (.inl (by simp)) (fun h=>by simp at h)
  (fun b hb _=>by rw [alloc_old _ _ (by omega),q0]) (fun b hb _=>by rw [alloc_old _ _ (by omega),q0]) (by simp [hsz]) hbs q1 q2 q3
  (fun e=>by simpa using hob _ e rfl)
 exact⟨this.1,this.2,by simp,⟨hn,by rw [hg]; rfl⟩⟩
theorem Fr.fresh {c:Cx}{Lo:Nat→Prop}{lam:Nat→Nat}{a:Act}(f:Fr L0 c Lo lam ds s a)(hbs:c.base≤c.w.heap.size)(w1:World)(Mc:w1.heap=c.w.heap∧w1.os=c.w.os∧w1.tape=c.w.tape∧w1.output=c.w.output)(ob:AObj)(obj:Obj)
  (hob:∀(c':Cx) (e:Ext c Lo c' Lo),c'.w=w1.alloc obj→nP c' (un L0 Lo) c.w.heap.size 0 ob) :
  ∃β',Ext c Lo ⟨β',c.h.alloc ob,w1.alloc obj,c.base⟩ Lo∧Fr L0 ⟨β',c.h.alloc ob,w1.alloc obj,c.base⟩ Lo lam ds {s with h:=c.h.alloc ob} a∧β' c.h.next=(c.w.heap.size,0)∧Live (c.h.alloc ob) c.h.next:=
 f.CN hbs w1 Mc ob obj (c.h.alloc ob) (by simp [AHeap.alloc,AHeap.put,beq_nat]) (Steady.put _ _ _) (UY _) (fun id hne=>.inr (by simp [AHeap.alloc,AHeap.put,beq_nat,hne])) hob
theorem kT {c':Cx}{w1:World}{C:Array Value}{e:TypeId}(hw:c'.w=w1.alloc (.cells C e)):gY c' w1.heap.size C.size:=
 ⟨C,e,by rw [hw]; exact hJ _ _,rfl⟩
theorem Bl {c':Cx}{w1:World}{C:Array Value}{e:TypeId}(hw:c'.w=w1.alloc (.cells C e)):Plain c' w1.heap.size C.size:=
 ⟨C,e,0,0,by rw [hw]; exact hJ _ _,.inl rfl,rfl⟩
theorem jf {c':Cx}{L:Nat→Prop}{w1:World}{C:Array Value}{e:TypeId}{xs:List AV}{vs:List Value}(hw:c'.w=w1.alloc (.cells C e))(hv:VRs c' L xs vs)(hp:∀i,i<vs.length→C[i]? = vs[i]?)(h1:∀v∈vs,v.oneCell'=true):Cells c' L xs w1.heap.size 0:=
 Cells.of_vals hv (fun i hi=>by rw [hw,cell_of_block (hJ _ _),Uy]; exact hp i hi) h1
theorem ti (hb0:c0.base≤c0.w.heap.size)(hd:fQ n ds o){aE:List Nat}{cs:List AV}{s':RS}(t:TypeId)(h:gX s aE ds o cs=some s')
  (hx:∀a c Lo lam,Fr L0 c Lo lam ds s a→a.tmps.size=n→∃v:Value,(execOp a.eval o).run P c.w = .ok (.value (.pointer (some ⟨c.w.heap.size,0,none⟩))) (c.w.alloc (.cells v.cells t))∧VRs c (un L0 Lo) cs v.cells.toList∧∀u∈v.cells.toList,u.oneCell'=true) :
  iM P L0 c0 n ds o s s':=by
 unfold gX at h
 split at h
 rotate_left
 ·cases h
 rename_i nI
 cases LB:o.dst with
 | none=>rw [LB] at h; cases h
 | some d=>
 obtain⟨E9,xH⟩:=hd d LB
 rw [LB] at h
 simp only at h
 rintro a w K Q ⟨hn,c,Lo,lam,rfl,f,e⟩ hK
 have hbs:=iK e hb0
 obtain⟨v,hr,hv,h1⟩:=hx a c Lo lam f hn
 unfold Oper.wp
 rw [hr,Oper.upon_value,LB]
 split at h
 ·split at h
  rotate_left
  ·cases h
  rename_i vB
  cases h
  have f1:=f.set (d:=some d) (x:=.any) (v:=undef) (SR.of (by simp [VR])) (fun t ht=>by cases ht; exact⟨hn ▸ E9,xH⟩)
  have CO:∀t off,(s.set (some d) .any).ρ t≠.lp d off:=by
   intro t off he
   rw [s9] at he
   by_cases GN:t=d
   ·rw [if_pos GN] at he; cases he
   ·rw [if_neg GN] at he
    by_cases hm:t∈ds
    ·exact oW vB t (by simp [hm,beq_nat,GN]) off he
    ·exact GN (f.tidy t d off hm he).symm
  obtain⟨iZ,p9,e',f',Md⟩:=f1.CL (w':=c.w.alloc (.cells v.cells t)) d cs c.w.heap.size (.inl (Ue _)) (fun t off he=>absurd he (CO t off))
   (fun b hb _=>alloc_old _ _ hb) (fun b hb _=>alloc_old _ _ (by omega)) (by simp) (by simp) hbs rfl rfl rfl
   (by
     have:=Bl (c':={c with w:=c.w.alloc (.cells v.cells t)}) (w1:=c.w) (C:=v.cells) (e:=t) rfl
     rwa [show v.cells.size=cs.length by rw [←Va,hv.length]] at this)
   (fun e'=>jf (w1:=c.w) (C:=v.cells) (e:=t) rfl (VRs.ext e' _ _ hv) (fun i _=>by simp) h1)
  have f2:=f'.set (d:=some d) (x:=.lp d 0) (v:=.pointer (some ⟨c.w.heap.size,0,none⟩)) (by simp only [SR,Md,RS.box,beq_nat]; simp) (fun t ht=>by cases ht; rw [fP]; exact⟨hn ▸ E9,xH⟩)
  rw [Fq] at f2
  have hs:(((s.set (some d) .any).box d cs).set (some d) (.lp d 0))=(s.box d cs).set (some d) (.lp d 0):=by
   rw [←RS.set_set (s.box d cs) (some d) .any]
   rfl
  rw [hs] at f2
  exact hK _ _ ⟨(fP _ _ _).trans hn,_,iZ,p9,rfl,f2,e.trans e'⟩
 ·cases h
  obtain⟨β',e',f',hβ,hl⟩:=f.fresh hbs c.w ⟨rfl,rfl,rfl,rfl⟩ (.cells cs) (.cells v.cells t) (fun c' e' hw=>⟨_,kT hw,by rw [Uy,hv.length]; simp,
   jf (w1:=c.w) hw (VRs.ext e' _ _ hv) (fun i _=>by simp) h1⟩)
  rw [f.h] at f' e' hβ hl
  have f2:=f'.set (d:=some d) (x:=.ptr s.h.next 0) (v:=.pointer (some ⟨c.w.heap.size,0,none⟩)) (by
   simp only [SR,VR]
   exact⟨hl.1,_,rfl,fun _=>by rw [hβ]⟩) (fun t ht=>by cases ht; exact⟨hn ▸ E9,xH⟩)
  exact hK _ _ ⟨(fP _ _ _).trans hn,_,Lo,lam,rfl,f2,e.trans e'⟩
theorem zi {c:Cx}{L:Nat→Prop}{n:Nat}{x:AV}{v:Value}(h:VR c L x v):VR c L (sH n x) v:=by
 unfold sH
 split
 ·simp only [VR] at h ⊢
  exact .inl ⟨trivial,trivial,trivial,none,h⟩
 ·exact h
theorem zj {c:Cx}{L:Nat→Prop}{n:Nat}:∀{cs:List AV} {vs:List Value} (j:Nat),VRs c L cs vs→VRs c L (xU n j cs) vs
 | [],vs,j,h=>h
 | x::cs,[],j,h=>h.elim
 | x::cs,v::vs,j,h=>by
  refine⟨?_,zj (j+1) h.2⟩
  split
  ·exact h.1
  ·exact zi h.1
theorem zk {c:Cx}{L:Nat→Prop}{n:Nat}:∀{cs:List AV} {vs:List Value},VRs c L cs vs→VRs c L (cs.map (sH n)) vs
 | [],vs,h=>h
 | x::cs,[],h=>h.elim
 | x::cs,v::vs,h=>⟨zi h.1,zk h.2⟩
theorem Fs {c:Cx}{L:Nat→Prop}{cs:List AV}{vs:List Value}(h:VRs c L cs vs):∀n,VRs c L (Fj cs n) vs
 | 0=>h
 | n+1=>by
  have e:Fj cs (n+1)=bif Vv 100 (n+1) then xU (n+1) 0 cs else cs.map (sH (n+1)):=rfl
  rw [e]
  cases Vv 100 (n+1)
  ·exact zk h
  ·exact zj 0 h
theorem zl {c:Cx}{L:Nat→Prop}{aE:List Nat}{d:Option Nat}{cs:List AV}{vs:List Value}(h:VRs c L cs vs):VRs c L (xV aE d cs) vs:=by
 unfold xV
 split
 ·exact h
 ·exact Fs h _
theorem Ft {c:Cx}{L:Nat→Prop}{aE:List Nat}{d:Option Nat}{x:AV}{v:Value}(h:VR c L x v):VR c L (Ho aE d x) v:=by
 unfold Ho
 split
 ·simp only [VR] at h ⊢
  obtain⟨vs,h1,h2⟩:=h
  exact⟨vs,h1,zl h2⟩
 ·exact h
theorem zm {n:Nat}{x:AV}(h:(sH n x).bP=true):x.bP=true:=by
 unfold sH at h
 split at h
 ·rfl
 ·exact h
theorem zn {n:Nat}:∀{cs:List AV} (j:Nat),(xU n j cs).all AV.bP=true→cs.all AV.bP=true
 | [],j,h=>rfl
 | x::cs,j,h=>by
  rw [xU,UZ,Ud] at h
  rw [UZ,Ud]
  refine⟨?_,zn (j+1) h.2⟩
  have h1:=h.1
  split at h1
  ·exact h1
  ·exact zm h1
theorem zo {n:Nat}:∀{cs:List AV},(cs.map (sH n)).all AV.bP=true→cs.all AV.bP=true
 | [],h=>rfl
 | x::cs,h=>by
  rw [UC,UZ,Ud] at h
  rw [UZ,Ud]
  exact⟨zm h.1,zo h.2⟩
theorem Fu {aE:List Nat}{d:Option Nat}{cs:List AV}(h:(xV aE d cs).all AV.bP=true):cs.all AV.bP=true:=by
 unfold xV at h
 split at h
 ·exact h
 ·rename_i d'
  generalize CC aE d'=n at h
  cases n with
  | zero=>exact h
  | succ n=>
   have e:Fj cs (n+1)=bif Vv 100 (n+1) then xU (n+1) 0 cs else cs.map (sH (n+1)):=rfl
   rw [e] at h
   cases hb:Vv 100 (n+1)
   ·rw [hb,cond_false] at h; exact zo h
   ·rw [hb,cond_true] at h; exact zn 0 h
theorem Bm {c:Cx}{t:TypeId}{z:AV}(hz:ic P t=some z)(nI:z.cells.all AV.bP=true)(L:Nat→Prop):∃v:Value,(Instr.alloc t true (.tuple #[])).run P c.w = .ok (.pointer (some ⟨c.w.heap.size,0,none⟩)) (c.w.alloc (.cells v.cells t))∧VRs c L z.cells v.cells.toList∧∀u∈v.cells.toList,u.oneCell'=true:=by
 obtain⟨v,hr,hv⟩:=je hz c.w
 obtain⟨h1,h2⟩:=ik nI (kS (c:=c) (L:=L) hv)
 exact⟨v,by simp [Instr.alloc,hr,newVar,newRow],h1,h2⟩
theorem iq (z:List AV):∀k,(hH z k).length=k*z.length
 | 0=>by simp [hH]
 | k+1=>by simp [hH,iq z k,Vj,VE]
theorem tj (z:List AV):∀(k i:Nat),i<k*z.length→(hH z k)[i]? = z[i % z.length]?
 | 0,i,h=>by simp at h
 | k+1,i,h=>by
  rw [Vj,Nat.one_mul] at h
  rw [hH]
  by_cases h1:i<z.length
  ·rw [Ur h1,Nat.mod_eq_of_lt h1]
  ·rw [Us (by omega),tj z k _ (by omega),←Nat.mod_eq_sub_mod (show z.length≤i by omega)]
theorem oX {c:Cx}{L:Nat→Prop}{z:List AV}{zv:Array Value}(hz:VRs c L z zv.toList)(k m:Nat)(hm:k*z.length≤m)(Cr:z.length≠0) :
  VRs c L (hH z k) (((Array.range m).map (zv[· % zv.size]!)).toList.take (k*z.length)):=by
 have hl:=hz.length
 have key:∀(xs:List AV) (vs:List Value),xs.length=vs.length→(∀(i:Nat) x v,xs[i]? = some x→vs[i]? = some v→VR c L x v)→VRs c L xs vs:=by
  intro xs
  induction xs with
  | nil=>intro vs h _; cases vs with | nil=>trivial | cons _ _=>simp at h
  | cons x xs ih=>
   intro vs h kx
   cases vs with
   | nil=>simp at h
   | cons v vs=>
    refine⟨kx 0 x v rfl rfl,ih vs (by simpa using h) fun i y u hy hu=>kx (i+1) y u (by simpa using hy) (by simpa using hu)⟩
 refine key _ _ (by rw [iq]; simp; omega) fun i x v hx hv=>?_
 have hi:i<k*z.length:=by
  have:=(Uh.1 hx).1
  rwa [iq] at this
 rw [tj z k i hi] at hx
 obtain⟨u,hu,hr⟩:=hz.get _ x hx
 rw [List.getElem?_take,if_pos hi] at hv
 have ze:i<m:=by omega
 have qe:i % zv.size<zv.size:=Nat.mod_lt _ (by rw [←Va,←hl]; omega)
 have:v=zv[i % zv.size]!:=by
  simp [ze] at hv
  exact hv.symm
 rw [show zv.toList.length=zv.size by simp] at hl
 rw [hl,Array.getElem?_toList,Array.getElem?_eq_getElem qe] at hu
 rw [this,getElem!_pos zv _ qe]
 cases hu
 exact hr
theorem kU (hb0:c0.base≤c0.w.heap.size)(hd:fQ n ds o){ob:AObj}{x:AV}
  (h:∀a c Lo lam,Fr L0 c Lo lam ds s a→a.tmps.size=n→∃(obj:Obj) (v:Value),(execOp a.eval o).run P c.w = .ok (.value v) (c.w.alloc obj)∧
   (∀(c':Cx) (e:Ext c Lo c' Lo),c'.w=c.w.alloc obj→nP c' (un L0 Lo) c.w.heap.size 0 ob)∧
   (∀(c':Cx),c'.h=s.h.alloc ob→c'.w=c.w.alloc obj→c'.β s.h.next=(c.w.heap.size,0)→VR c' (un L0 Lo) x v)) (hx:∀k off,x≠.lp k off) :
  iM P L0 c0 n ds o s ({s with h:=s.h.alloc ob}.set o.dst x):=by
 rintro a w K Q ⟨hn,c,Lo,lam,rfl,f,e⟩ hK
 have hbs:=iK e hb0
 obtain⟨obj,v,hr,hob,hv⟩:=h a c Lo lam f hn
 unfold Oper.wp
 rw [hr,Oper.upon_value]
 obtain⟨β',e',f',hβ,hl⟩:=f.fresh hbs c.w ⟨rfl,rfl,rfl,rfl⟩ ob obj hob
 rw [f.h] at f' e' hβ hl
 have f2:=f'.set (d:=o.dst) (x:=x) (v:=v) (SR.of (hv _ rfl rfl hβ)) (fun t ht=>by rw [hn]; exact hd t ht)
 exact hK _ _ ⟨(fP _ _ _).trans hn,_,Lo,lam,rfl,f2,e.trans e'⟩
theorem yf (hb0:c0.base≤c0.w.heap.size)(hd:fQ n ds o){t:TypeId}(ho:o.op = .makeMap t none):iM P L0 c0 n ds o s ({s with h:=s.h.alloc (.map [])}.set o.dst (.mp s.h.next)):=by
 refine kU hb0 hd (fun a c Lo lam f hn=>⟨.map #[] 0,.map (some c.w.heap.size),by simp [execOp,ho,Instr.makeMap],fun c' e hw=>⟨#[],0,by rw [hw]; exact hJ _ _,trivial⟩,fun c' hh hw hβ=>?_⟩) (by rintro k off hh; cases hh)
 simp only [VR]
 exact⟨by rw [hh]; exact UY _,_,rfl,fun _=>by rw [hβ]⟩
theorem tk {i:Int}(h0:0≤i)(h1:i≤1099511627776):IntKind.i64.wrap i=i:=IntWalk.i64_in _ (by omega)
theorem uq (hb0:c0.base≤c0.w.heap.size)(hd:fQ n ds o){t:TypeId}{lx cx:Operand}(ho:o.op = .makeSlice t lx cx){s':RS}
  (h:((gr P s.h t (bG s.ρ lx) (bG s.ρ cx)).map fun (x,h)=>{s with h}.set o.dst x)=some s'):iM P L0 c0 n ds o s s':=by
 rw [Ub] at h
 obtain⟨⟨x,h'⟩,hm,rfl⟩:=h
 unfold gr at hm
 split at hm<;>try (cases hm; done)
 rename_i l cc hl hc
 rw [T9] at hm
 obtain⟨d,CP,hm⟩:=hm
 cases d<;>simp only at hm<;>try (cases hm; done)
 rename_i e
 simp only [T9] at hm
 obtain⟨i,hi,z,hz,hm⟩:=hm
 split at hm
 rotate_left
 ·cases hm
 rename_i jt
 obtain⟨h0,h1,h2,h3,h4,h5,h6⟩:=jt
 simp only [Uc,Ui] at hm
 obtain⟨rfl,rfl⟩:=hm
 refine kU hb0 hd (fun a c Lo lam f hn=>?_) (by rintro k off hh; cases hh)
 have Q8:s.h.next≠0:=by have:=f.rel.ver 0; rw [f.h] at this; omega
 have ly:=(bB f lx)
 have JN:=(bB f cx)
 rw [hl] at ly
 rw [hc] at JN
 simp only [SR,VR] at ly JN
 obtain⟨zv,CI,ye⟩:=je hz c.w
 have Cs:(typeInfo e).run P c.w = .ok i c.w:=by simp [typeInfo,hi]
 have hsz:(sizeOf e).run P c.w = .ok i.size c.w:=dw (by simp [eL,hi]) c.w
 obtain⟨xI,hz1⟩:=ik h6 (kS (c:=c) (L:=un L0 Lo) ye)
 have Cr:=xI.length
 have hl0:IntKind.i64.wrap l=l:=tk h0 (by omega)
 have Q9:IntKind.i64.wrap cc=cc:=tk (by omega) h5
 have hroom:¬((i.bytes:Int)*cc > 2 ^ 48):=by
  rw [Int.mul_comm]; simp only [gg] at h2; omega
 have hn0:cc.toNat*i.size=0∨cc.toNat*i.size≠0:=by omega
 have yg:(Instr.makeSlice t (.int .i64 l) (.int .i64 cc)).run P c.w = .ok (.slice (some ⟨c.w.heap.size,0,none⟩) l.toNat cc.toNat)
   (c.w.alloc (.cells ((Array.range (cc.toNat*i.size)).map (zv.cells[· % zv.cells.size]!)) e)):=by
  unfold Instr.makeSlice
  simp only [Sem.run_bind,bo CP,Result.andThen_ok,asInt,asIntOf,Sem.run_pure,Cs,hl0,Q9,hsz]
  rw [if_neg (by simp only [UW,decide_eq_true_eq,not_or]; exact⟨⟨⟨by omega,hroom⟩,by omega⟩,by omega⟩)]
  simp only [Sem.run_bind,run_askRoom,Result.andThen_ok,hsz,Sem.run_pure]
  by_cases hz0:cc.toNat*i.size=0
  ·have Me:∀f:Nat→Value,Array.map f (Array.range 0) = #[]:=fun f=>by simp
   simp only [hz0,if_true,Sem.run_pure,Sem.run_bind,Result.andThen_ok,newRow,run_newObj,World.alloc_eq,Me]
  ·simp only [hz0,if_false,Sem.run_bind,CI,Result.andThen_ok,Sem.run_pure,newRow,run_newObj,World.alloc_eq]
 have hle:l.toNat*z.cells.length≤cc.toNat*i.size:=by rw [h3]; exact U1 _ (by omega)
 have hrow:∀(c':Cx) (e':Ext c Lo c' Lo),c'.w=c.w.alloc (.cells ((Array.range (cc.toNat*i.size)).map (zv.cells[· % zv.cells.size]!)) e)→
   nP c' (un L0 Lo) c.w.heap.size 0 (.cells (hH z.cells l.toNat)):=by
  intro c' e' hw
  refine⟨_,kT hw,by rw [iq]; simp; omega,?_⟩
  have hv:=oX xI l.toNat (cc.toNat*i.size) hle (by omega)
  refine jf (w1:=c.w) hw (VRs.ext e' _ _ hv) (fun j hj=>?_) (fun u hu=>?_)
  ·rw [List.getElem?_take,if_pos (by simp at hj; omega),Array.getElem?_toList]
  ·have Ph:=List.mem_of_mem_take hu
   simp only [Array.toList_map,UO] at Ph
   obtain⟨j,hj,rfl⟩:=Ph
   have qe:j % zv.cells.size<zv.cells.size:=Nat.mod_lt _ (by rw [←Va,←Cr]; omega)
   rw [getElem!_pos zv.cells _ qe]
   exact hz1 _ (by simp)
 have hex:(execOp a.eval o).run P c.w = .ok (.value (.slice (some ⟨c.w.heap.size,0,none⟩) l.toNat cc.toNat)) (c.w.alloc (.cells ((Array.range (cc.toNat*i.size)).map (zv.cells[· % zv.cells.size]!)) e)):=by
  simp only [execOp,ho,ly,JN,Sem.run_bind,yg,Result.andThen_ok,Sem.run_pure]
 refine⟨_,_,hex,hrow,fun c' hh hw hβ=>?_⟩
 simp only [VR]
 refine .inr ⟨Q8,by rw [hh]; exact UY _,_,_,rfl,by omega,rfl,fun _=>.inl ?_⟩
 rw [hβ]
 refine⟨rfl,?_⟩
 simp only [Cx.len,World.shape?,hw,hJ]
 simp
end
end Go.R
namespace Go.R
open Go
def kV:List Value→Nat→List Value→List Value
 | cs,_,[]=>cs
 | cs,i,v::vs=>kV (cs.set i v) (i+1) vs
theorem VRs.cX {c:Cx}{L:Nat→Prop}:∀{xs:List AV} {us:List Value} (i:Nat) {cs:List AV} {vs:List Value},VRs c L xs us→VRs c L cs vs→VRs c L (cX cs i xs) (kV vs i us)
 | [],[],i,cs,vs,_,h=>by
  have:R.cX cs i []=cs:=by cases cs<;>rfl
  rw [this]; cases vs<;>exact h
 | x::xs,u::us,i,cs,vs,h,k=>VRs.cX (i+1) h.2 (VRs.set h.1 i k)
 | [],_::_,_,_,_,h,_=>h.elim
 | _::_,[],_,_,_,h,_=>h.elim
theorem pM:∀(us:List Value) (i:Nat) (vs:List Value),(∀v∈vs,v.oneCell'=true)→(∀u∈us,u.oneCell'=true)→∀v∈kV vs i us,v.oneCell'=true
 | [],i,vs,h,_,v,hv=>h v (by cases vs<;>exact hv)
 | u::us,i,vs,h,k,v,hv=>pM us (i+1) (vs.set i u) (fun w hw=>by
   rcases List.mem_or_eq_of_mem_set hw with h1 | h1
   ·exact h w h1
   ·subst h1; exact k _ (by simp)) (fun w hw=>k w (by simp [hw])) v hv
theorem nQ (off:Nat):∀(us:List Value) (j:Nat) (cells:Array Value),((us.zipIdx j).foldl (fun cs (p:Value × Nat)=>cs.setIfInBounds (off+p.2) p.1) cells).toList=kV cells.toList (off+j) us
 | [],j,cells=>by simp [kV]
 | u::us,j,cells=>by
  simp only [List.zipIdx_cons,List.foldl_cons]
  rw [nQ off us (j+1)]
  simp [kV,U6]
section
variable {P:Program}{L0:Nat→Prop}{c0:Cx}{n:Nat}{ds:List Nat}{o:Oper}{s:RS}
def rq (c:Cx)(L:Nat→Prop):List (Nat × AV)→List (Nat × Value)→Prop
 | [],[]=>True
 | (i,x)::xs,(j,v)::vs=>(i=j∧(x.cells.all AV.bP=true→VR c L x v))∧rq c L xs vs
 | _,_=>False
theorem kW {c:Cx}{L:Nat→Prop}(pl:Nat→Option (Nat × Nat)):∀{ps:List (Nat × AV)} {vs:List (Nat × Value)} {cs eO:List AV} {C:Array Value},rq c L ps vs→VRs c L cs C.toList→(∀v∈C.toList,v.oneCell'=true)→qX pl cs ps=some eO→
  ∃C':Array Value,Instr.fill pl C vs=some C'∧VRs c L eO C'.toList∧∀v∈C'.toList,v.oneCell'=true
 | [],[],cs,eO,C,_,hc,h1,h=>by
  simp only [qX,Uc] at h
  subst h
  exact⟨C,rfl,hc,h1⟩
 | (i,x)::ps,(j,v)::vs,cs,eO,C,hp,hc,h1,h=>by
  obtain⟨⟨rfl,hx⟩,Mf⟩:=hp
  simp only [qX,T9] at h
  obtain⟨⟨off,size⟩,zh,h⟩:=h
  simp only at h
  split at h
  ·rename_i jt
   obtain⟨h2,h3,h4⟩:=jt
   obtain⟨h5,h6⟩:=ik h3 (hx h3)
   have h7:v.cells.size=size:=by rw [←Va,←h5.length]; exact h2
   have h8:cs.length=C.size:=by rw [hc.length]; simp
   have hf:(v.cells.zipIdx.foldl (fun cs (p:Value × Nat)=>cs.setIfInBounds (off+p.2) p.1) C).toList=kV C.toList off v.cells.toList:=by
    rw [←Array.foldl_toList,Array.toList_zipIdx]
    exact nQ off v.cells.toList 0 C
   obtain⟨C',h9,h10,h11⟩:=kW pl (C:=v.cells.zipIdx.foldl (fun cs (p:Value × Nat)=>cs.setIfInBounds (off+p.2) p.1) C) Mf (by rw [hf]; exact VRs.cX off h5 hc) (by rw [hf]; exact pM _ _ _ h1 h6) h
   refine⟨C',?_,h10,h11⟩
   simp only [Instr.fill,zh]
   rw [if_neg (by simp only [UW,decide_eq_true_eq,not_or,ne_eq,Decidable.not_not]; exact⟨h7,by omega⟩)]
   exact h9
  ·cases h
 | [],_::_,_,_,_,h,_,_,_=>h.elim
 | _::_,[],_,_,_,h,_,_,_=>h.elim
theorem nS {c:Cx}{Lo:Nat→Prop}{lam:Nat→Nat}{a:Act}(f:Fr L0 c Lo lam ds s a):∀ps:List (Nat × Operand),rq c (un L0 Lo) (ps.map fun (i,x)=>(i,bG s.ρ x)) (ps.map fun (i,x)=>(i,a.eval x))
 | []=>trivial
 | (i,x)::ps=>⟨⟨rfl,fun h=>(bB f x).qN h⟩,nS f ps⟩
theorem pN {v:Value}{x:AV}(h:nM v=some x):x.bP=true:=by
 unfold nM at h
 split at h<;>first | (cases h; done) | (cases h; rfl)
theorem nT:∀{vs:List Value} {xs:List AV},pG vs=some xs→xs.all AV.bP=true
 | [],xs,h=>by simp [pG] at h; subst h; rfl
 | v::vs,xs,h=>by
  simp only [pG,T9] at h
  obtain⟨x,hx,ys,hy,he⟩:=h
  cases he
  simp [pN hx,nT hy]
theorem nu {v:Value}{x:AV}(h:CA v=some x):x.cells.all AV.bP=true:=by
 unfold CA at h
 split at h
 ·rw [Ub] at h
  obtain⟨xs,hx,rfl⟩:=h
  exact nT hx
 ·have h1:=pN h
  cases x<;>simp_all [AV.cells,AV.bP]
theorem rr {c:Cx}(w:World):∀fs:List Field,(∀f∈fs,∃m,eL P f.type=some m)→(fs.mapM (m:=Sem) fun f=>do pure (f.offset,←sizeOf f.type)).run P w = .ok (fs.map fun f=>(f.offset,(eL P f.type).getD 0)) w
 | [],_=>by simp
 | f::fs,h=>by
  obtain⟨m,hm⟩:=h f (by simp)
  have ih:=rr (c:=c) w fs (fun g hg=>h g (by simp [hg]))
  simp only [List.mapM_cons,Sem.run_bind,dw hm,ih,hm,Sem.run_pure,Result.andThen_ok,UC,U4]
theorem run_build {c:Cx}{L:Nat→Prop}{t:TypeId}{ps:List (Nat × AV)}{vs:List (Nat × Value)}{y:AV}(hp:rq c L ps vs)(h:xQ P t ps=some y) :
  ∃v,(Instr.build t vs.toArray).run P c.w = .ok v c.w∧VR c L y v:=by
 unfold xQ at h
 simp only [T9] at h
 obtain⟨z,hz,d,hd,h⟩:=h
 obtain⟨zv,CI,ye⟩:=je hz c.w
 obtain⟨xI,hz1⟩:=ik (nu ye) (kS (c:=c) (L:=L) ye)
 cases d<;>simp only at h<;>try (cases h; done)
 ·rename_i len e
  simp only [T9,Ub] at h
  obtain⟨m,hm,cs,hf,rfl⟩:=h
  obtain⟨C',h1,h2,_⟩:=kW _ hp xI hz1 hf
  refine⟨.agg C',?_,by simp only [VR]; exact⟨C',rfl,h2⟩⟩
  unfold Instr.build
  simp [CI,bo hd,dw hm,h1]
 ·rename_i fs
  split at h
  rotate_left
  ·cases h
  rename_i JO
  have kx:∀f∈fs.toList,∃m,eL P f.type=some m:=fun f hf=>UI.1 (Uv.1 JO f hf)
  rw [Ub] at h
  obtain⟨cs,hf,rfl⟩:=h
  obtain⟨C',h1,h2,_⟩:=kW _ hp xI hz1 hf
  refine⟨.agg C',?_,by simp only [VR]; exact⟨C',rfl,h2⟩⟩
  have Ra:=rr (P:=P) (c:=c) c.w fs.toList kx
  have zh:(fun i=>(fs.toList.map fun f=>(f.offset,(eL P f.type).getD 0)).toArray[i]?)=xP P fs.toList:=by
   funext i
   simp only [xP,List.getElem?_toArray,Vh]
   cases hi:fs.toList[i]? with
   | none=>rfl
   | some f=>
    obtain⟨m,hm⟩:=kx f (Ut hi)
    simp [hm]
  unfold Instr.build
  simp only [Sem.run_bind,CI,bo hd,Result.andThen_ok]
  rw [←Array.toArray_toList (xs:=fs),List.mapM_toArray]
  simp only [Sem.run_map,Ra,Result.andThen_ok]
  rw [zh,h1]
  rfl
end
end Go.R
namespace Go.R
open Go
section
variable {P:Program}{L0:Nat→Prop}{c0:Cx}{n:Nat}{ds:List Nat}{o:Oper}{s:RS}
theorem ru (hb0:c0.base≤c0.w.heap.size)(hd:fQ n ds o){x:AV}
  (h:∀a c Lo lam,Fr L0 c Lo lam ds s a→a.tmps.size=n→c.base≤c.w.heap.size→∃(w':World) (v:Value),(execOp a.eval o).run P c.w = .ok (.value v) w'∧(∀b,b<c.w.heap.size→gN c.w w' b)∧(∀id,Live c.h id→w'.heap[(c.β id).1]? = c.w.heap[(c.β id).1]?)∧(∀b,b<c.base→w'.heap[b]? = c.w.heap[b]?)∧c.w.heap.size≤w'.heap.size∧
   w'.os=c.w.os∧w'.tape=c.w.tape∧w'.output=c.w.output∧(Ext c Lo {c with w:=w'} Lo→VR {c with w:=w'} (un L0 Lo) x v)) (hx:∀k off,x≠.lp k off) :
  iM P L0 c0 n ds o s (s.set o.dst x):=by
 rintro a w K Q ⟨hn,c,Lo,lam,rfl,f,e⟩ hK
 obtain⟨w',v,hr,h1,Rb,h2,h3,h4,h5,h6,hv⟩:=h a c Lo lam f hn (iK e hb0)
 obtain⟨e',f'⟩:=f.world h1 Rb h2 h3 h4 h5 h6
 unfold Oper.wp
 rw [hr,Oper.upon_value]
 exact hK _ _ ⟨(fP _ _ _).trans hn,_,Lo,lam,rfl,f'.set (SR.of (hv e')) (fun t ht=>by rw [hn]; exact hd t ht),e.trans e'⟩
theorem CQ {c c':Cx}{Lo:Nat→Prop}(r:HRel c (un L0 Lo))(hβ:c'.β=c.β)(hh:c'.h=c.h):RO c' (un L0 Lo) c.w.heap.size:=by
 refine⟨fun id hl he=>?_,fun hL=>?_⟩
 ·rw [hh] at hl
  rw [hβ] at he
  have:=r.block hl; omega
 ·have:=r.bd _ hL; omega
theorem lS {c:Cx}{L:Nat→Prop}{t:TypeId}{len:Nat}{ps:List (Nat × AV)}{vs:List (Nat × Value)}{y:AV}(hp:rq c L ps vs)(h:gp P t len ps=some y) :
  (y = .fz [] 0 true∧∃e,(Instr.buildSlice t len vs.toArray).run P c.w = .ok (.slice (some ⟨c.w.heap.size,0,none⟩) 0 0) (c.w.alloc (.cells #[] e)))∨
  ∃cs C e,y = .fz cs len true∧(Instr.buildSlice t len vs.toArray).run P c.w = .ok (.slice (some ⟨c.w.heap.size,0,none⟩) len len) (c.w.alloc (.cells C e))∧VRs c L cs C.toList∧∀v∈C.toList,v.oneCell'=true:=by
 unfold gp at h
 rw [T9] at h
 obtain⟨d,hd,h⟩:=h
 cases d<;>simp only at h<;>try (cases h; done)
 rename_i e
 rw [T9] at h
 obtain⟨m,hm,h⟩:=h
 split at h
 ·cases h
 rename_i JP
 have ri:m≠0:=fun h=>JP (.inl h)
 have JQ:¬(len*m > 2 ^ 24):=fun h=>JP (.inr (by omega))
 split at h
 ·rename_i hl0
  subst hl0
  split at h
  ·rename_i Mg
   cases h
   have Mf:ps=[]:=by simpa using Mg
   subst Mf
   cases vs with
   | cons _ _=>exact hp.elim
   | nil=>
   refine .inl ⟨rfl,e,?_⟩
   unfold Instr.buildSlice
   simp only [Sem.run_bind,bo hd,dw hm,Result.andThen_ok,Nat.zero_mul,if_true,Sem.run_pure]
   have Me:∀f:Nat→Value,Array.map f (Array.range 0) = #[]:=fun f=>by simp
   simp only [Instr.fill,newRow,Me,Sem.run_bind,run_newObj,Result.andThen_ok,Sem.run_pure,World.alloc_eq]
   rfl
  ·cases h
 ·rename_i hl0
  rw [T9] at h
  obtain⟨z,hz,h⟩:=h
  split at h
  rotate_left
  ·cases h
  rename_i Cr
  rw [Ub] at h
  obtain⟨cs,hf,rfl⟩:=h
  obtain⟨zv,CI,ye⟩:=je hz c.w
  obtain⟨xI,hz1⟩:=ik (nu ye) (kS (c:=c) (L:=L) ye)
  have hz0:=oX xI len (len*m) (by rw [Cr]; exact Ue _) (by omega)
  rw [UP (by simp [Cr])] at hz0
  have hz2:∀u∈((Array.range (len*m)).map (zv.cells[· % zv.cells.size]!)).toList,u.oneCell'=true:=by
   intro u hu
   simp only [Array.toList_map,UO] at hu
   obtain⟨j,hj,rfl⟩:=hu
   have qe:j % zv.cells.size<zv.cells.size:=Nat.mod_lt _ (by rw [←Va,←xI.length]; omega)
   rw [getElem!_pos zv.cells _ qe]
   exact hz1 _ (by simp)
  obtain⟨C',h1,h2,h3⟩:=kW _ hp hz0 hz2 hf
  refine .inr ⟨cs,C',e,rfl,?_,h2,h3⟩
  have hne:len*m≠0:=Nat.mul_ne_zero hl0 ri
  unfold Instr.buildSlice
  simp only [Sem.run_bind,bo hd,dw hm,Result.andThen_ok,JQ,hne,if_false,Sem.run_pure,CI]
  rw [h1]
  simp [newRow]
theorem sJ (hb0:c0.base≤c0.w.heap.size)(hd:fQ n ds o){t:TypeId}{len:Nat}{ps:Array (Nat × Operand)}(ho:o.op = .buildSlice t len ps){y:AV}
  (h:gp P t len (ps.toList.map fun (i,x)=>(i,bG s.ρ x))=some y):iM P L0 c0 n ds o s (s.set o.dst y):=by
 refine ru hb0 hd (fun a c Lo lam f hn hbs=>?_) ?_
 ·have hp:=nS f ps.toList
  have hex:∀v w',(Instr.buildSlice t len (ps.toList.map fun (i,x)=>(i,a.eval x)).toArray).run P c.w = .ok v w'→(execOp a.eval o).run P c.w = .ok (.value v) w':=by
   intro v w' hr
   have he:ps.map (fun (i,x)=>(i,a.eval x))=(ps.toList.map fun (i,x)=>(i,a.eval x)).toArray:=by
    apply VJ; simp
   simp only [execOp,ho,Sem.run_bind]
   rw [he,hr]
   rfl
  rcases lS hp h with⟨rfl,e,hr⟩| ⟨cs,C,e,rfl,hr,hv,h1⟩
  ·refine⟨_,_,hex _ _ hr,fun b hb=>.inl (alloc_old _ _ hb),fun id hl=>alloc_old _ _ (f.rel.block hl),fun b hb=>alloc_old _ _ (by omega),by simp,rfl,rfl,rfl,fun _=>by simp only [VR]; exact⟨_,_,rfl,Ue _,fun _=>rfl,.inl rfl,.inl trivial⟩⟩
  ·refine⟨_,_,hex _ _ hr,fun b hb=>.inl (alloc_old _ _ hb),fun id hl=>alloc_old _ _ (f.rel.block hl),fun b hb=>alloc_old _ _ (by omega),by simp,rfl,rfl,rfl,fun e'=>?_⟩
   simp only [VR]
   exact⟨_,_,rfl,Ue _,fun _=>rfl,.inl rfl,.inr ⟨c.w.heap.size,0,rfl,CQ f.rel rfl rfl,fun _=>hbs,jf (w1:=c.w) rfl (VRs.ext e' _ _ hv) (fun i _=>by simp) h1⟩⟩
 ·rintro k off rfl
  unfold gp at h
  rw [T9] at h
  obtain⟨d,_,h⟩:=h
  cases d<;>simp only at h<;>try (cases h; done)
  rw [T9] at h
  obtain⟨m,_,h⟩:=h
  split at h
  ·cases h
  ·split at h
   ·split at h<;>cases h
   ·rw [T9] at h
    obtain⟨z,_,h⟩:=h
    split at h
    ·rw [Ub] at h
     obtain⟨_,_,h⟩:=h
     cases h
    ·cases h
theorem vS {aE:List Nat}{t:TypeId}{y:AV}{cs:List AV}{k z:Nat}(h:nq P aE o t y=some (cs,k,z)):y = .fz cs k true∧cs.length=k*z∧cs≠[]:=by
 unfold nq at h
 split at h
 ·rename_i d c eO k' hd
  cases hc:aE.contains d with
  | false=>rw [hc] at h; cases h
  | true=>
   rw [hc] at h
   simp only [cond_true] at h
   split at h
   ·split at h
    ·rename_i z' hz
     cases hb:UL (c::eO).length (k'*z') with
     | false=>rw [hb] at h; cases h
     | true=>
      rw [hb] at h
      simp only [cond_true,Uc,Ui] at h
      obtain⟨rfl,rfl,rfl⟩:=h
      exact⟨rfl,Vb hb,by simp⟩
    ·cases h
   ·cases h
 ·cases h
theorem rv (hb0:c0.base≤c0.w.heap.size)(hd:fQ n ds o){t:TypeId}{len:Nat}{ps:Array (Nat × Operand)}(ho:o.op = .buildSlice t len ps){y:AV}(aE:List Nat)
  (h:gp P t len (ps.toList.map fun (i,x)=>(i,bG s.ρ x))=some y):iM P L0 c0 n ds o s (oU P aE s o t y):=by
 have key:=sJ (L0:=L0) hb0 hd ho h
 unfold oU
 cases Hx:nq P aE o t y with
 | none=>exact key
 | some q=>
 obtain⟨LA,n1,z⟩:=q
 obtain⟨rfl,hlen,hne⟩:=vS Hx
 have fin:=kU (P:=P) (L0:=L0) (c0:=c0) (o:=o) (s:=s) hb0 hd (ob:=.cells LA) (x:=.rs s.h.next 0 n1 z) (fun a c Lo lam f hn=>by
  have hp:=nS f ps.toList
  have hex:∀v w',(Instr.buildSlice t len (ps.toList.map fun (i,x)=>(i,a.eval x)).toArray).run P c.w = .ok v w'→(execOp a.eval o).run P c.w = .ok (.value v) w':=by
   intro v w' hr
   have he:ps.map (fun (i,x)=>(i,a.eval x))=(ps.toList.map fun (i,x)=>(i,a.eval x)).toArray:=by
    apply VJ; simp
   simp only [execOp,ho,Sem.run_bind]
   rw [he,hr]
   rfl
  rcases lS hp h with⟨he,_⟩| ⟨cs,C,e,he,hr,hv,h1⟩
  ·cases he; exact absurd rfl hne
  ·cases he
   have JR:C.size=LA.length:=by rw [←Va,←hv.length]
   refine⟨_,_,hex _ _ hr,fun c' e' hw=>⟨_,kT (w1:=c.w) hw,by rw [JR,Uy]; exact Ue _,jf (w1:=c.w) hw (VRs.ext e' _ _ hv) (fun i _=>by simp) h1⟩,fun c' hh hw hβ=>?_⟩
   simp only [VR]
   refine .inr ⟨(by have:=f.rel.ver 0; rw [f.h] at this; omega),by rw [hh]; exact UY _,_,_,rfl,Ue _,rfl,fun _=>.inl ?_⟩
   rw [hβ]
   refine⟨rfl,?_⟩
   simp only [Cx.len,World.shape?,hw,hJ]
   simp only [Ug,U4,JR,hlen,Uy]) (by rintro k off hh; cases hh)
 exact fin
theorem oY {c:Cx}{Lo:Nat→Prop}{lam:Nat→Nat}{a:Act}(f:Fr L0 c Lo lam ds s a){tx:TypeId}{size m:Nat}{x:AV}{v:Value}{new:List AV}(hx:SR c L0 Lo lam s.bx x v)
  (hk:(∃e',P.underlying tx=some (.slice e'))∨P.underlying tx=some .string) (zp:∀st,x = .str st→P.underlying tx=some .string) (Jk:(∀st,x≠.str st)→∃e',P.underlying tx=some (.slice e')) (h:dS s.h size x=some (new,m)) :
  ∃news,Src P size tx v m news c.w∧VRs c (un L0 Lo) new news:=by
 unfold dS at h
 cases x<;>simp only at h<;>try (cases h; done)
 ·rename_i st
  split at h
  ·rename_i h1
   subst h1
   cases h
   simp only [SR,VR] at hx
   subst hx
   refine⟨_,Src.ofString c.w (zp st rfl) st,?_⟩
   unfold byteCells
   generalize st.data.toList=l
   induction l with
   | nil=>trivial
   | cons b l ih=>exact⟨by simp [VR],ih⟩
  ·cases h
 ·cases h
  obtain⟨e',he⟩:=Jk (by rintro st h; cases h)
  simp only [SR,VR] at hx
  subst hx
  exact⟨[],Src.ofNil c.w he 0,trivial⟩
 ·rename_i cs k ex
  split at h
  ·rename_i hl
   cases h
   obtain⟨e',he⟩:=Jk (by rintro st h; cases h)
   simp only [SR,VR] at hx
   obtain⟨ad,cap,rfl,h1,h2,_,hc⟩:=hx
   rcases hc with rfl | ⟨b,o',rfl,hr,hex,hc⟩
   ·have hl0:m*size=0:=by simpa using hl.symm
    cases ad with
    | none=>
     refine⟨[],⟨.inl ⟨e',he⟩,fun _=>rfl,run_firstCells_none c.w size m m cap,run_firstCells_none c.w.drew size m m cap,by simpa using hl,fun _ h=>by cases h⟩,trivial⟩
    | some ad=>exact⟨[],Src.ofSlice c.w he ad m cap [] (by simpa using hl) (fun j u hu=>by simp at hu) (fun u hu=>by cases hu),trivial⟩
   ·obtain⟨vs,q1,q2,q3⟩:=hc.vals
    refine⟨vs,Src.ofSlice c.w he _ m cap vs (by rw [←q1.length]; exact hl) (fun j u hu=>?_) q3,q1⟩
    rw [addr_add,q2 j (by rw [q1.length]; exact (Uh.1 hu).1)]
    exact hu
  ·cases h
 ·rename_i id off k gZ
  split at h
  ·rename_i hid
   split at h
   rotate_left
   ·cases h
   rename_i Lz
   cases h
   obtain⟨e',he⟩:=Jk (by rintro st h; cases h)
   simp only [SR,VR] at hx
   rcases hx with⟨_,_,_,a,rfl⟩| ⟨_,_,a,cap,rfl,_,h2,_⟩
   rotate_left
   ·cases a with
    | none=>cases h2
    | some ad=>subst Lz; exact⟨[],Src.ofSlice c.w he ad 0 cap [] (by simp) (fun j u hu=>by simp at hu) (fun u hu=>by cases hu),trivial⟩
   cases a with
   | none=>exact⟨[],Src.ofNil c.w he 0,trivial⟩
   | some ad=>exact⟨[],Src.ofSlice c.w he ad 0 0 [] (by simp) (fun j u hu=>by simp at hu) (fun u hu=>by cases hu),trivial⟩
  rename_i jH
  rw [T9] at h
  obtain⟨ob,hob,h⟩:=h
  cases ob with
  | map es=>cases h
  | row t cs=>cases h
  | cells cs=>
  simp only at h
  split at h
  ·rename_i hh
   obtain⟨rfl,hle⟩:=hh
   cases h
   obtain⟨e',he⟩:=Jk (by rintro st h; cases h)
   simp only [SR,VR] at hx
   rcases hx with hx | ⟨_,hid,ad,cap,rfl,h1,h2,h3⟩
   ·exact absurd (.inl hx.1) jH
   rw [←f.h] at hob
   have hl:Live c.h id:=⟨f.rel.lt _ _ hob,by simp [hob]⟩
   obtain⟨q,hp,hm,hc⟩:=f.rel.obj _ _ hob
   have hc2:=(hc.drop off).take (m*gZ)
   have hlen:((cs.drop off).take (m*gZ)).length=m*gZ:=by simp; omega
   obtain⟨vs,q1,q2,q3⟩:=hc2.vals
   rcases h3 hl with⟨h5,h4⟩| hcap
   ·subst h5
    refine⟨vs,Src.ofSlice c.w he _ m cap vs (by rw [←q1.length]; exact hlen) (fun j u hu=>?_) q3,q1⟩
    rw [addr_add,q2 j (by rw [q1.length]; exact (Uh.1 hu).1)]
    exact hu
   ·have ri:m=0:=by omega
    subst ri
    simp only [Nat.zero_mul,List.take_zero] at q1 ⊢
    cases ad with
    | none=>simp at h2
    | some ad=>exact⟨[],Src.ofSlice c.w he ad 0 cap [] (by simp) (fun j u hu=>by simp at hu) (fun u hu=>by cases hu),trivial⟩
  ·cases h
end
end Go.R
namespace Go.R
open Go
section
variable {P:Program}{L0:Nat→Prop}{c0:Cx}{n:Nat}{ds:List Nat}{o:Oper}{s:RS}
theorem grownCap_ge (w:World){need old:Nat}{e:TypeId}:need≤grownCap w need old e:=by
 unfold grownCap
 simp only [Question.cut]
 omega
theorem ry (z:Array Value)(k:Nat):(Builtin.zeroCells z k).size=k*z.size:=by simp [Builtin.zeroCells]
theorem gV (w:World){t tx ty e:TypeId}{i:TypeInfo}(ht:P.underlying t=some (.slice e))(hi:P.info? e=some i){base:Option Addr}{len cap:Nat}(hlc:len≤cap){x:Value}{news:List Value}(hs:Src P i.size tx x 0 news w) :
  (Builtin.append_ #[t,tx] ty #[.slice base len cap,x]).run P w = .ok (.slice base len cap) w:=by
 have JS:news=[]:=UQ (by rw [hs.newsLen]; simp)
 have hc:=hs.cells
 rw [JS] at hc
 rcases hs.kind with⟨e',hk⟩| hk<;>cases base<;>simp [Builtin.append_,run_underlying ht,run_underlying hk,sizeOf,typeInfo,hi,hs.len,hlc,hc,storeCells]
theorem ur {c:Cx}{b m:Nat}(hp:Plain c b m){j:Nat}(hj:j<m):c.w.frozen? ⟨b,j,none⟩=false:=by
 obtain⟨C,e,lo,hi,hb,hf,rfl⟩:=hp
 simp only [World.frozen?,hb]
 rcases hf with hf | hf
 ·subst hf; simp
 ·simp; omega
theorem Fr.grown {c:Cx}{Lo:Nat→Prop}{lam:Nat→Nat}{a:Act}(f:Fr L0 c Lo lam ds s a)(hbs:c.base≤c.w.heap.size){e:TypeId}{z:Value}{size need cap:Nat}(Cs:z.cells.size=size)(hcap:need≤cap){xs:List AV}{vs:List Value}(hv:VRs c (un L0 Lo) xs vs)(h1:∀v∈vs,v.oneCell'=true)
  (hl:vs.length=need*size) (h':AHeap) (hg:h'.get c.h.next=some (.cells xs)) (hst:Steady c.h h') (hn:c.h.next<h'.next) (ho:∀id,id≠c.h.next→h'.get id=none∨h'.get id=c.h.get id) :
  ∃c':Cx,c'.w=c.w.drew.alloc (.cells (vs.toArray++Builtin.zeroCells z.cells (cap - need)) e)∧c'.h=h'∧Ext c Lo c' Lo∧Fr L0 c' Lo lam ds {s with h:=h'} a∧VR c' (un L0 Lo) (.rs c.h.next 0 need size) (.slice (some ⟨c.w.heap.size,0,none⟩) need cap):=by
 have JR:(vs.toArray++Builtin.zeroCells z.cells (cap - need)).size=cap*size:=by
  rw [Array.size_append,ry,Cs,List.size_toArray,hl,←Vj]
  congr 1; omega
 have Rc:=hv.length
 obtain⟨β',e',f',hβ,hlive⟩:=f.CN hbs c.w.drew ⟨rfl,rfl,rfl,rfl⟩ (.cells xs) (.cells (vs.toArray++Builtin.zeroCells z.cells (cap - need)) e) h' hg hst hn ho (fun c' e' hw=>by
  refine⟨_,kT (w1:=c.w.drew) hw,?_,jf (w1:=c.w.drew) hw (VRs.ext e' _ _ hv) (fun i hi=>?_) h1⟩
  ·rw [JR,Uy,Rc,hl]; exact U1 _ hcap
  ·rw [Array.getElem?_append_left (by simpa using hi)]; simp)
 refine⟨_,rfl,rfl,e',f',?_⟩
 simp only [VR]
 refine .inr ⟨(by have:=f.rel.ver 0; omega),hlive.1,_,_,rfl,hcap,rfl,fun _=>.inl ?_⟩
 rw [hβ]
 refine⟨rfl,?_⟩
 have:(c.w.drew.alloc (.cells (vs.toArray++Builtin.zeroCells z.cells (cap - need)) e)).heap[c.w.heap.size]? = some (.cells (vs.toArray++Builtin.zeroCells z.cells (cap - need)) e):=hJ c.w.drew _
 simp only [Cx.len,World.shape?,this,Ug,U4,JR]
 omega
theorem Bn (hb0:c0.base≤c0.w.heap.size)(hd:fQ n ds o){t t2:TypeId}{sx xx:Operand}(ho:o.op = .call {callee:=.builtin .append,args:=#[sx,xx],argTypes:=#[t,t2]}){s':RS}
  (h:((dq P s.h t t2 (bG s.ρ sx) (bG s.ρ xx)).map fun (v,h)=>{s with h}.set o.dst v)=some s'):iM P L0 c0 n ds o s s':=by
 rw [Ub] at h
 obtain⟨⟨y,h'⟩,ha,rfl⟩:=h
 unfold dq at ha
 rw [T9] at ha
 obtain⟨d,CP,ha⟩:=ha
 cases d<;>simp only at ha<;>try (cases ha; done)
 rename_i e
 rw [T9] at ha
 obtain⟨i,hi,ha⟩:=ha
 rw [T9] at ha
 obtain⟨⟨new,m⟩,Hy,ha⟩:=ha
 simp only at ha
 obtain⟨Hz,hcs,hnew⟩:∃Hz,dS s.h i.size (bG s.ρ xx)=some (Hz,m)∧new=Hz.map ji:=by
  unfold fc at Hy
  rw [Ub] at Hy
  obtain⟨⟨p,q⟩,h1,h2⟩:=Hy
  simp only [Ui] at h2
  obtain⟨rfl,rfl⟩:=h2
  exact⟨p,h1,rfl⟩
 split at ha
 ·cases ha
 rename_i jt
 have hsz0:i.size≠0:=fun h=>jt (.inl h)
 have gk:ie P t2 (bG s.ρ xx)=true:=by
  cases hq:ie P t2 (bG s.ρ xx) with
  | true=>rfl
  | false=>exact absurd (.inr (.inl hq)) jt
 obtain⟨zv,z,xI,ye,Cr⟩:∃zv z,i.zero=some zv∧CA zv=some z∧z.cells.length=i.size:=by
  have hz:GK i=true:=by
   cases hq:GK i with
   | true=>rfl
   | false=>exact absurd (.inr (.inr hq)) jt
  unfold GK at hz
  cases hq:i.zero.bind CA with
  | none=>rw [hq] at hz; cases hz
  | some z=>
   rw [hq] at hz
   obtain⟨zv,h1,h2⟩:=T9.1 hq
   exact⟨zv,z,h1,h2,by simpa using hz⟩
 have Cs:∀c L,zv.cells.size=i.size:=fun (c:Cx) (L:Nat→Prop)=>by
  have:=(ik (nu ye) (kS (c:=c) (L:=L) ye)).1.length
  rw [Cr] at this
  simpa using this.symm
 have vO:(∃e',P.underlying t2=some (.slice e'))∨P.underlying t2=some .string:=by
  unfold ie at gk
  split at gk
  ·right; revert gk; split<;>simp_all
  ·left; revert gk; split<;>simp_all
 have zp:∀st,bG s.ρ xx = .str st→P.underlying t2=some .string:=by
  intro st he
  rw [he] at gk
  simp only [ie] at gk
  revert gk; split<;>simp_all
 have Jk:(∀st,bG s.ρ xx≠.str st)→∃e',P.underlying t2=some (.slice e'):=by
  intro hne
  unfold ie at gk
  split at gk
  ·rename_i st he; exact absurd he (hne st)
  ·revert gk; split<;>simp_all
 rintro a w K Q ⟨hn,c,Lo,lam,rfl,f,e0⟩ hK
 have hbs:=iK e0 hb0
 obtain⟨news,hS,GO⟩:=oY (P:=P) f (bB f xx) vO zp Jk hcs
 replace GO:VRs c (un L0 Lo) new news:=hnew ▸ re GO
 have hex:∀v w',(Builtin.append_ #[t,t2] o.type #[a.eval sx,a.eval xx]).run P c.w = .ok v w'→(execOp a.eval o).run P c.w = .ok (.value v) w':=by
  intro v w' hr
  unfold execOp
  simp only [ho,resolve,invoke,builtin,Sem.run_bind,Sem.run_pure,Result.andThen_ok,List.map_toArray,UC,VF,hr]
 have fin:∀c' v,(Builtin.append_ #[t,t2] o.type #[a.eval sx,a.eval xx]).run P c.w = .ok v c'.w→Ext c Lo c' Lo→Fr L0 c' Lo lam ds {s with h:=h'} a→VR c' (un L0 Lo) y v→o.wp P a c.w K Q:=by
  intro c' v hr e' f' hv
  unfold Oper.wp
  rw [hex v _ hr,Oper.upon_value]
  exact hK _ _ ⟨(fP _ _ _).trans hn,c',Lo,lam,rfl,f'.set (SR.of hv) (fun t ht=>by rw [hn]; exact hd t ht),e0.trans e'⟩
 have zq:=bB f sx
 have h63:∀k:Nat,k≤gg→(k:Int)≤9223372036854775807:=fun k hk=>by simp only [gg] at hk; omega
 have hfit:∀need old,old<need→need*i.bytes≤gg→Builtin.nextslicecap need old*i.bytes≤281474976710656:=fun need old h1 h2=>growslice_fits h1 (by simp only [gg] at h2; omega)
 have hnl:=GO.length
 have hone:=hS.one
 have vT:=hS.newsLen
 cases hq:bG s.ρ sx with
 | nils=>
  rw [hq] at ha zq
  simp only [SR,VR] at zq
  obtain⟨ad,xG,Re⟩:∃ad:Option Addr,a.eval sx = .slice ad 0 0∧ad=none:=⟨none,zq,rfl⟩
  simp only at ha
  split at ha
  ·cases ha
  rename_i hroom
  split at ha
  ·rename_i ri
   subst ri
   cases ha
   refine fin c (.slice ad 0 0) ?_ (Ext.refl _ _) f (by simp only [VR]; exact .inl ⟨trivial,trivial,trivial,ad,rfl⟩)
   rw [xG]
   exact gV c.w CP hi (Ue _) hS
  ·rename_i ri
   cases ha
   have hold:(Builtin.firstCells i.size 0 (.slice ad 0 0)).run P c.w.drew = .ok ([]:List Value).toArray c.w.drew:=by
    cases ad with
    | none=>exact run_firstCells_none _ _ _ _ _
    | some ad=>exact run_firstCells_some _ _ _ _ _ _ [] (by simp) (fun j v hj=>by simp at hj)
   have hr:=run_append_grow_src c.w t t2 o.type e i zv CP hi xI ad 0 0 [] hold (a.eval xx) m news hS (by omega) (by rw [Uy]; exact h63 _ (by omega)) (hfit _ _ (by omega) (by rw [Uy]; omega))
   simp only [Uy,UN] at hr
   obtain⟨c',hw,hh,e',f',hv⟩:=f.grown hbs (e:=e) (Cs c L0) (grownCap_ge c.w (need:=m) (old:=0) (e:=e)) GO hone vT (s.h.alloc (.cells new)) (by rw [f.h]; simp [AHeap.alloc,AHeap.put,beq_nat]) (by rw [f.h]; exact Steady.put _ _ _) (by rw [f.h]; exact UY _) (fun id hne=>.inr (by rw [f.h] at hne ⊢; simp [AHeap.alloc,AHeap.put,beq_nat,hne]))
   refine fin c' _ ?_ e' f' (by rw [←f.h]; exact hv)
   rw [xG,hw]
   exact hr
 | fz cs len ex=>
  rw [hq] at ha zq
  cases ex with
  | false=>simp only at ha; cases ha
  | true=>
  simp only [SR,VR] at zq
  obtain⟨ad,cap,xG,h1,h2,qf,hc⟩:=zq
  have hcap:=h2 trivial
  subst hcap
  simp only at ha
  split at ha
  ·cases ha
  rename_i hroom
  split at ha
  ·rename_i ri
   subst ri
   refine fin c (.slice ad cap cap) ?_ (Ext.refl _ _) (by split at ha<;>cases ha<;>exact f) ?_
   ·rw [xG]
    exact gV c.w CP hi (Ue _) hS
   ·split at ha
    ·rename_i hz
     cases ha
     subst hz
     simp only [VR]
     exact .inl ⟨trivial,trivial,trivial,ad,rfl⟩
    ·cases ha
     simp only [VR]
     exact⟨ad,cap,rfl,h1,h2,qf,hc⟩
  ·rename_i ri
   cases ha
   have hcl:cs.length=cap*i.size:=by
    by_cases h3:cs.length=cap*i.size
    ·exact h3
    ·exact absurd (.inr (.inr h3)) hroom
   obtain⟨rz,Jl,Mh,GP⟩:∃rz:List Value,VRs c (un L0 Lo) cs rz∧(Builtin.firstCells i.size cap (.slice ad cap cap)).run P c.w.drew = .ok rz.toArray c.w.drew∧∀v∈rz,v.oneCell'=true:=by
    rcases hc with rfl | ⟨b,o',rfl,hr,Rf,hc⟩
    ·refine⟨[],trivial,?_,fun _ h=>by cases h⟩
     cases ad with
     | none=>exact run_firstCells_none _ _ _ _ _
     | some ad=>exact run_firstCells_some _ _ _ _ _ _ [] (by simpa using hcl) (fun j v hj=>by simp at hj)
    ·obtain⟨vs,q1,q2,q3⟩:=hc.vals
     refine⟨vs,q1,run_firstCells_some _ _ _ _ _ _ vs (by rw [←q1.length]; exact hcl) (fun j v hj=>?_),q3⟩
     rw [World.cell?_drew,addr_add,q2 j (by rw [q1.length]; exact (Uh.1 hj).1)]
     exact hj
   have Fv:=Jl.length
   have hr:=run_append_grow_src c.w t t2 o.type e i zv CP hi xI ad cap cap rz Mh (a.eval xx) m news hS (by omega) (h63 _ (by omega)) (hfit _ _ (by omega) (by omega))
   obtain⟨c',hw,hh,e',f',hv⟩:=f.grown hbs (e:=e) (Cs c L0) (grownCap_ge c.w (need:=cap+m) (old:=cap) (e:=e)) (VRs.append Jl GO) (fun v hv=>(UF.1 hv).elim (GP v) (hone v)) (by rw [Uk,vT,←Fv,hcl,Vj]) (s.h.alloc (.cells (cs++new))) (by rw [f.h]; simp [AHeap.alloc,AHeap.put,beq_nat]) (by rw [f.h]; exact Steady.put _ _ _) (by rw [f.h]; exact UY _) (fun id hne=>.inr (by rw [f.h] at hne ⊢; simp [AHeap.alloc,AHeap.put,beq_nat,hne]))
   refine fin c' _ ?_ e' f' (by rw [←f.h]; exact hv)
   rw [xG,hw]
   exact hr
 | rs id off len gZ=>
  rw [hq] at ha zq
  simp only [SR,VR] at zq
  simp only at ha
  split at ha
  ·rename_i hid
   rcases zq with⟨_,hoff,JT,ad,xG⟩| zq
   rotate_left
   ·exact absurd hid zq.1
   split at ha
   ·cases ha
   rename_i hroom
   split at ha
   ·rename_i ri
    subst ri
    cases ha
    refine fin c (.slice ad 0 0) ?_ (Ext.refl _ _) f (by simp only [VR]; exact .inl ⟨hid,hoff,JT,ad,rfl⟩)
    rw [xG]
    exact gV c.w CP hi (Ue _) hS
   ·rename_i ri
    cases ha
    have hold:(Builtin.firstCells i.size 0 (.slice ad 0 0)).run P c.w.drew = .ok ([]:List Value).toArray c.w.drew:=by
     cases ad with
     | none=>exact run_firstCells_none _ _ _ _ _
     | some ad=>exact run_firstCells_some _ _ _ _ _ _ [] (by simp) (fun j v hj=>by simp at hj)
    have hr:=run_append_grow_src c.w t t2 o.type e i zv CP hi xI ad 0 0 [] hold (a.eval xx) m news hS (by omega) (by rw [Uy]; exact h63 _ (by omega)) (hfit _ _ (by omega) (by rw [Uy]; omega))
    simp only [Uy,UN] at hr
    obtain⟨c',hw,hh,e',f',hv⟩:=f.grown hbs (e:=e) (Cs c L0) (grownCap_ge c.w (need:=m) (old:=0) (e:=e)) GO hone vT (s.h.alloc (.cells new)) (by rw [f.h]; simp [AHeap.alloc,AHeap.put,beq_nat]) (by rw [f.h]; exact Steady.put _ _ _) (by rw [f.h]; exact UY _) (fun id hne=>.inr (by rw [f.h] at hne ⊢; simp [AHeap.alloc,AHeap.put,beq_nat,hne]))
    refine fin c' _ ?_ e' f' (by rw [←f.h]; exact hv)
    rw [xG,hw]
    exact hr
  rename_i jH
  rcases zq with zq | ⟨_,hid,ad,cap,xG,h1,h2,h3⟩
  ·exact absurd zq.1 jH
  simp only [T9] at ha
  obtain⟨ob,hob,ha⟩:=ha
  cases ob with
  | map es=>cases ha
  | row t cs=>cases ha
  | cells cs=>
  simp only at ha
  split at ha
  ·cases ha
  rename_i hroom
  have sD:gZ=i.size:=Decidable.byContradiction fun h=>hroom (.inl h)
  subst sD
  have hle:off+len*i.size≤cs.length:=Decidable.byContradiction fun h=>hroom (.inr (.inl (by omega)))
  rw [←f.h] at hob
  have hl:Live c.h id:=⟨f.rel.lt _ _ hob,by simp [hob]⟩
  obtain⟨q,hp,hm,hc⟩:=f.rel.obj _ _ hob
  split at ha
  ·rename_i ri
   subst ri
   cases ha
   refine fin c (.slice ad len cap) ?_ (Ext.refl _ _) f ?_
   ·rw [xG]
    exact gV c.w CP hi h1 hS
   ·simp only [VR]
    exact .inr ⟨jH,hid,ad,cap,rfl,h1,h2,h3⟩
  ·rename_i ri
   cases ha
   have hc2:=(hc.drop off).take (len*i.size)
   have zr:((cs.drop off).take (len*i.size)).length=len*i.size:=by simp; omega
   obtain⟨rz,Jl,Pj,GP⟩:=hc2.vals
   have Fv:=Jl.length
   have hget:((s.h.kill id).put s.h.next (.cells ((cs.drop off).take (len*i.size)++new))).get c.h.next=some (.cells ((cs.drop off).take (len*i.size)++new)):=by rw [f.h]; simp [AHeap.put,beq_nat]
   have hnx:c.h.next<((s.h.kill id).put s.h.next (.cells ((cs.drop off).take (len*i.size)++new))).next:=by rw [f.h]; simp only [AHeap.put,AHeap.kill]; omega
   have hoth:∀jV,jV≠c.h.next→((s.h.kill id).put s.h.next (.cells ((cs.drop off).take (len*i.size)++new))).get jV=none∨((s.h.kill id).put s.h.next (.cells ((cs.drop off).take (len*i.size)++new))).get jV=c.h.get jV:=by
    intro jV hne
    rw [f.h] at hne ⊢
    by_cases h4:jV=id
    ·left; simp [AHeap.put,AHeap.kill,beq_nat,hne,h4]; rw [←h4]; simp [hne]
    ·right; simp [AHeap.put,AHeap.kill,beq_nat,hne,h4]
   by_cases CR:len+m≤cap
   ·
    rcases h3 hl with⟨h4,h5⟩| h4
    rotate_left
    ·omega
    subst h4
    have JU:c.len (c.β id).1=q:=by
     obtain⟨C,e',hb,qa⟩:=hp
     simp [Cx.len,World.shape?,hb,qa]
    rw [JU] at h5
    have JV:(len+m)*i.size≤cap*i.size:=U1 _ CR
    rw [Vj] at JV
    have JW:=hp
    obtain⟨C,e',hb,qa⟩:=hp
    have hr:=run_append_room_src c.w t t2 o.type e i CP hi (c.β id).1 ((c.β id).2+off) len cap (a.eval xx) m news hS CR
     (fun j hj=>by
      rw [cell_of_block hb]
      have:(c.β id).2+off+len*i.size+j<C.size:=by omega
      simp [this])
     (fun j hj=>ur JW.jM (by omega))
    have zh:gY c (c.β id).1 q:=JW
    obtain⟨q1,q2,q3,q4⟩:=fZ news (c.β id).1 ((c.β id).2+off+len*i.size) c.w
    obtain⟨C',g1,g2,g3⟩:=eP news (c.β id).1 ((c.β id).2+off+len*i.size) c.w C e' (0,0) hb (by omega)
    have:=f.upd (w':=c.w.setCells (c.β id).1 ((c.β id).2+off+len*i.size) news) (β':=fun k=>if k=c.h.next then ((c.β id).1,(c.β id).2+off) else c.β k) (h':=(s.h.kill id).put s.h.next (.cells ((cs.drop off).take (len*i.size)++new))) c.h.next (.cells ((cs.drop off).take (len*i.size)++new))
     (by rw [f.h]; exact (Steady.kill _ _).trans (Steady.put _ _ _)) hnx hget (fun jV hne=>(hoth jV hne).imp (fun h=>h) (fun h=>⟨h,by simp [hne]⟩)) (fun h=>absurd h (Nat.lt_irrefl _))
     (.inr ⟨id,hl,by simp,.inr (by
      have:id≠s.h.next:=by rw [←f.h]; have:=hl.1; omega
      simp [AHeap.put,AHeap.kill,beq_nat,this])⟩)
     (fun _=>by simp [World.shape?,g1,Cx.len,hb,g2])
     (fun b _ hne=>dy _ _ _ _ _ (by simpa using hne)) (fun b _ hne=>dy _ _ _ _ _ (by simpa using hne)) (by rw [q1]; exact Ue _) hbs q2 q3 q4
     (fun ee=>by
      simp only [if_true]
      refine⟨q,zh.setCells (by omega) _ _ _,?_,?_⟩
      ·rw [Uk,zr,hnl,vT]; omega
      ·refine Cells.of_vals (VRs.append (VRs.ext ee _ _ Jl) (VRs.ext ee _ _ GO)) (fun j hj=>?_) (fun v hv=>(UF.1 hv).elim (GP v) (hone v))
       rw [cell_of_block g1,g3]
       rw [Uk] at hj
       by_cases h6:j<rz.length
       ·rw [if_neg (by omega),←cell_of_block hb,Ur h6]
        exact Pj j (by omega)
       ·rw [if_pos (by omega),Us (by omega)]
        congr 1
        omega)
    obtain⟨HA,Rh⟩:=this
    refine fin _ (.slice (some ⟨(c.β id).1,(c.β id).2+off,none⟩) (len+m) cap) ?_ HA Rh ?_
    ·rw [xG]; exact hr
    ·simp only [VR,←f.h]
     refine .inr ⟨(by have:=f.rel.ver 0; omega),by rw [←f.h] at hnx; exact hnx,_,_,rfl,CR,rfl,fun _=>.inl ?_⟩
     simp only [if_true,VG,true_and]
     simp only [Cx.len,World.shape?,g1,Ug,U4,g2]
     omega
   ·
    obtain⟨Mh⟩:Nonempty ((Builtin.firstCells i.size len (.slice ad len cap)).run P c.w.drew = .ok rz.toArray c.w.drew):=by
     rcases h3 hl with⟨h4,h5⟩| h4
     ·subst h4
      refine⟨run_firstCells_some _ _ _ _ _ _ rz (by rw [←Fv,zr]) (fun j v hj=>?_)⟩
      rw [World.cell?_drew,addr_add,Pj j (by rw [Fv]; exact (Uh.1 hj).1)]
      exact hj
     ·have hz:len=0:=by omega
      subst hz
      have:rz=[]:=UQ (by rw [←Fv,zr]; simp)
      subst this
      cases ad with
      | none=>exact⟨run_firstCells_none _ _ _ _ _⟩
      | some ad=>exact⟨run_firstCells_some _ _ _ _ _ _ [] (by simp) (fun j v hj=>by simp at hj)⟩
    have hr:=run_append_grow_src c.w t t2 o.type e i zv CP hi xI ad len cap rz Mh (a.eval xx) m news hS (by omega) (h63 _ (by omega)) (hfit _ _ (by omega) (by omega))
    obtain⟨c',hw,hh,e',f',hv⟩:=f.grown hbs (e:=e) (Cs c L0) (grownCap_ge c.w (need:=len+m) (old:=cap) (e:=e)) (VRs.append Jl GO) (fun v hv=>(UF.1 hv).elim (GP v) (hone v)) (by rw [Uk,vT,←Fv,zr,Vj]) _ hget (by rw [f.h]; exact (Steady.kill _ _).trans (Steady.put _ _ _)) hnx hoth
    refine fin c' _ ?_ e' f' (by rw [←f.h]; exact hv)
    rw [xG,hw]
    exact hr
 | _=>rw [hq] at ha; simp only at ha; cases ha
end
end Go.R
