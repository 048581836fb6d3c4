/- Part of the proof: ROps3, RMem, ROps4, RNew, RApp, RApp2, RApp3. -/
import Derived.Test.YtifafejidnjckaaK0
import Derived.MapKept
import Derived.Laws.Slices
import Derived.Laws.IdiomCopy
import Derived.Deep.AppendSrc
import Derived.IntWalk
set_option linter.unusedVariables false
set_option linter.unusedSimpArgs false
set_option maxRecDepth 100000
open Array renaming getElem?_eq_some_iff → aac, getElem?_setIfInBounds → aaD, length_toList → aaG, getElem?_modify → aaI, ext' → abb
open Bool renaming and_eq_true → ZF, false_eq_true → ZN, or_eq_true → aar
open List renaming getElem?_eq_some_iff → ZH, mem_of_getElem? → ZK, length_append → ZM, getElem?_append_left → ZS, getElem?_append_right → ZT, length_cons → ZU, all_eq_true → ZX, mem_cons → ZZ, map_cons → Z0, eq_nil_of_length_eq_zero → Z6, mem_append → aaa, take_of_length_le → aae, mem_map → aah, nil_append → aal, all_cons → aao, getElem?_map → aau, map_nil → aa8
open Nat renaming le_refl → ZI, zero_add → Z2, lt_of_lt_of_le → Z4, beq → aaj, le_trans → aap, lt_succ_self → aas, mul_le_mul_right → aay, add_assoc → aaB, eq_of_beq_eq_true → aaH, add_mul → aaN, add_right_comm → aaV, add_zero → aaW, ble → aaZ, add_comm → aa7
open Option renaming bind_eq_some_iff → ZC, map_eq_some_iff → ZD, map_some → ZJ, isSome_iff_exists → aad, getD_some → aaA
open Option.some renaming injEq → ZE
open Prod.mk renaming injEq → ZL
namespace Go.R
open Go
section
variable {P:Program}{L0:Nat→Prop}{c0:Cx}{n:Nat}{ds:List Nat}{o:Oper}{s:RS}
theorem vj (a b:ByteArray):(a==b)=(a.data.toList==b.data.toList):=by
 cases a with | mk x=>cases b with | mk y=>
 show (x==y)=(x.toList==y.toList)
 rw [Bool.eq_iff_iff]
 simp [Array.toList_inj]
def place (k:AV):List (AV × AV)→List MapEntry→Nat→Option (Nat × Value)
 | (k',_)::es,m::ms,i=>if fQ k k' then some (i,m.val) else place k es ms (i+1)
 | _,_,_=>none
theorem kZ {c:Cx}{L:Nat→Prop}{d:TypeDesc}{k:AV}{kv:Value}(hd:(∃q,d = .int q)∨d = .string)(hk:k.gO=some kv)(yn:(∃q a,k = .int q a)∨∃b,k = .str b) :
  ∀(es:List (AV × AV)) (ms:List MapEntry) (i:Nat),lA c L es ms→iB k es≠none→(∀q a,k = .int q a→∃q',d = .int q')→(∀b,k = .str b→d = .string)→Instr.findNow d kv ms i=some (place k es ms i)
 | [],[],i,_,_,_,_=>rfl
 | (k',v)::es,m::ms,i,he,hf,h1,h2=>by
  simp only [iB] at hf
  have hs:sameShape k k'=true:=by
   by_cases hs:sameShape k k'=true
   ·exact hs
   ·simp [hs] at hf
  simp only [hs,if_true] at hf
  obtain⟨⟨Fm,_⟩,BN,uF⟩:=he
  have PD:Instr.sameNow d kv m.key=some (fQ k k'):=by
   rcases yn with⟨q,a,rfl⟩| ⟨b,rfl⟩
   ·obtain⟨q',rfl⟩:=h1 q a rfl
    cases k'<;>simp only [sameShape] at hs<;>try (cases hs; done)
    rename_i q2 a2
    simp only [beq_iff_eq] at hs
    subst hs
    simp only [VR] at Fm
    simp only [AV.gO,ZE] at hk
    subst hk
    rw [Fm]
    simp [Instr.sameNow,fQ,iN]
   ·have:=h2 b rfl
    subst this
    cases k' with
    | str b2=>
     simp only [VR] at Fm
     simp only [AV.gO,ZE] at hk
     subst hk
     rw [Fm]
     simp only [Instr.sameNow,fQ,iN,ZE]
     exact vj b b2
    | _=>cases hs
  simp only [Instr.findNow,PD]
  cases hq:fQ k k' with
  | true=>simp [place,hq]
  | false=>
   simp only [hq,ZN,if_false] at hf
   simp only [place,hq,ZN,if_false]
   exact kZ hd hk yn es ms (i+1) uF hf h1 h2
 | [],_::_,_,h,_,_,_=>h.elim
 | _::_,[],_,h,_,_,_=>h.elim
theorem jm {c:Cx}{L:Nat→Prop}{kt:TypeId}{k:AV}{kv:Value}(hk:gp P kt k=true)(yo:VR c L k kv)(w:World) :
  ∀(es:List (AV × AV)) (ms:List MapEntry) (i:Nat),lA c L es ms→iB k es≠none→(Instr.findAsking kt kv ms i).run P w = .ok (place k es ms i) w
 | [],[],i,_,_=>rfl
 | (k',v)::es,m::ms,i,he,hf=>by
  simp only [iB] at hf
  have hs:sameShape k k'=true:=by
   by_cases hs:sameShape k k'=true
   ·exact hs
   ·simp [hs] at hf
  simp only [hs,if_true] at hf
  obtain⟨⟨Fm,_⟩,BN,uF⟩:=he
  have hq:=vi (P:=P) 9998 hk hs yo Fm w
  simp only [Instr.findAsking,Op.equal,Op.maxDepth,Sem.run_bind,hq,Result.andThen_ok]
  cases h:fQ k k' with
  | true=>simp [place,h]
  | false=>
   simp only [h,ZN,if_false] at hf
   simp only [place,h,ZN,if_false]
   exact jm hk yo w es ms (i+1) uF hf
 | [],_::_,_,h,_=>h.elim
 | _::_,[],_,h,_=>h.elim
theorem vk {c:Cx}{L:Nat→Prop}{kt:TypeId}{k:AV}{kv:Value}(hk:gp P kt k=true)(yo:VR c L k kv)(w:World){es:List (AV × AV)}{ms:List MapEntry}(he:lA c L es ms)(hf:iB k es≠none) :
  (Instr.findKey kt kv ms).run P w = .ok (place k es ms 0) w:=by
 have OZ:=hk
 cases hd:P.underlying kt with
 | none=>simp [gp,hd] at hk
 | some d=>
 cases d<;>simp only [gp,hd] at hk<;>try (cases hk; done)
 ·rename_i q
  cases k<;>simp only at hk<;>try (cases hk; done)
  rename_i q2 a
  have hc:(AV.int q2 a).gO=some kv:=by simp only [VR] at yo; simp [AV.gO,yo]
  exact MapKept.run_findKey hd (kZ (.inl ⟨q,rfl⟩) hc (.inl ⟨_,_,rfl⟩) es ms 0 he hf (fun _ _ _=>⟨q,rfl⟩) (fun b hb=>by cases hb))
 ·cases k<;>simp only at hk<;>try (cases hk; done)
  rename_i b
  have hc:(AV.str b).gO=some kv:=by simp only [VR] at yo; simp [AV.gO,yo]
  exact MapKept.run_findKey hd (kZ (.inr rfl) hc (.inr ⟨_,rfl⟩) es ms 0 he hf (fun _ _ h=>by cases h) (fun b hb=>rfl))
 ·rw [run_findKey_eq w (by simp [hd])]
  exact jm OZ yo w es ms 0 he hf
 ·rw [run_findKey_eq w (by simp [hd])]
  exact jm OZ yo w es ms 0 he hf
theorem ri {c:Cx}{L:Nat→Prop}{k:AV}:∀(es:List (AV × AV)) (ms:List MapEntry) (i:Nat),lA c L es ms→(iB k es=some none→place k es ms i=none)∧(∀v,iB k es=some (some v)→∃j u,place k es ms i=some (j,u)∧VR c L v u)
 | [],[],i,_=>⟨fun _=>rfl,fun v h=>by simp [iB] at h⟩
 | (k',v)::es,m::ms,i,he=>by
  obtain⟨⟨Fm,_⟩,BN,uF⟩:=he
  obtain⟨h1,h2⟩:=ri es ms (i+1) uF
  simp only [iB,place]
  by_cases hs:sameShape k k'=true
  ·simp only [hs,if_true]
   by_cases hq:fQ k k'=true
   ·simp only [hq,if_true]
    exact⟨fun h=>(by cases h),fun u hu=>(by cases hu; exact⟨i,m.val,rfl,BN⟩)⟩
   ·simp only [hq,if_false,ZN]
    exact⟨h1,h2⟩
  ·simp [hs]
 | [],_::_,_,h=>h.elim
 | _::_,[],_,h=>h.elim
theorem j8 {t:TypeId}{z:AV}(h:iS P t=some z)(w:World):∃v,(zeroValue t).run P w = .ok v w∧Fg v=some z:=by
 unfold iS at h
 simp only [ZC] at h
 obtain⟨i,hi,v,hv,hz⟩:=h
 exact⟨v,by simp [zeroValue,typeInfo,hi,hv],hz⟩
theorem yp {c:Cx}{Lo:Nat→Prop}{lam:Nat→Nat}{a:Act}(f:Fr L0 c Lo lam ds s a){t:TypeId}{m k y:AV}{mv kv:Value}{ok:Bool}(hm:SR c L0 Lo lam s.bx m mv)(hk:SR c L0 Lo lam s.bx k kv)
  (h:fh P s.h t m k ok=some y):∃r,(Instr.lookup t mv kv ok).run P c.w = .ok r c.w∧VR c (un L0 Lo) y r:=by
 unfold fh at h
 rw [ZC] at h
 obtain⟨d,hd,h⟩:=h
 cases d<;>simp only at h<;>try (cases h; done)
 rename_i kt et
 split at h
 ·cases h
 rename_i uK
 have uK:gp P kt k=true:=by simpa using uK
 rw [ZC] at h
 obtain⟨es,uF,h⟩:=h
 have yo:VR c (un L0 Lo) k kv:=hk.vr (by rintro k0 off rfl; simp [gp] at uK)
 obtain⟨ms,MN,sV⟩:∃ms:Array MapEntry,((mv = .map none∧ms = #[])∨∃r clock,mv = .map (some r)∧c.w.heap[r]? = some (.map ms clock))∧lA c (un L0 Lo) es ms.toList:=by
  cases m<;>simp only at uF<;>try (cases uF; done)
  ·simp only [SR,VR] at hm
   cases uF
   exact⟨#[],.inl ⟨hm,rfl⟩,trivial⟩
  ·rename_i id
   rw [ZC] at uF
   obtain⟨ob,ho,uF⟩:=uF
   cases ob with
   | cells cs=>cases uF
   | row t cs=>cases uF
   | map q9=>
   cases uF
   simp only [SR,VR] at hm
   obtain⟨hi,r,Py,hr⟩:=hm
   rw [←f.h] at ho
   have hl:Live c.h id:=⟨f.rel.lt _ _ ho,by simp [ho]⟩
   obtain⟨lB,clock,h1,h2⟩:=f.rel.obj _ _ ho
   exact⟨lB,.inr ⟨r,clock,Py,by rw [hr hl]; exact h1⟩,h2⟩
 rw [ZC] at h
 obtain⟨fr,PE,h⟩:=h
 have Fo:=vk uK yo c.w sV (by rw [PE]; simp)
 have Kj:=oA (P:=P) ms.isEmpty 9998 uK yo c.w
 obtain⟨p1,p2⟩:=ri (k:=k) es ms.toList 0 sV
 have hget:∀r clock,c.w.heap[r]? = some (.map ms clock)→(getObj r).run P c.w = .ok (.map ms clock) c.w:=fun r clock h1=>by simp [getObj,Sem.run,h1]
 cases fr with
 | none=>
  rw [ZD] at h
  obtain⟨z,hz,rfl⟩:=h
  obtain⟨zv,Fp,AG⟩:=j8 hz c.w
  rw [p1 PE] at Fo
  refine⟨if ok then .tuple #[zv,.bool false] else zv,?_,?_⟩
  ·unfold Instr.lookup
   rcases MN with⟨rfl,rfl⟩| ⟨r,clock,rfl,h1⟩
   ·simp only [pure_bind,Sem.run_bind,bH hd,Result.andThen_ok,Kj,Fo,Fp,Sem.run_pure]
   ·simp only [Sem.run_bind,bH hd,Result.andThen_ok,hget r clock h1,Kj,Fo,Fp,Sem.run_pure]
  ·cases ok with
   | true=>simp only [if_true,VR]; exact⟨#[zv,.bool false],rfl,ma AG,by simp [VR],trivial⟩
   | false=>simpa using ma AG
 | some v=>
  obtain⟨j,u,hp,hv⟩:=p2 v PE
  rw [hp] at Fo
  cases h
  refine⟨if ok then .tuple #[u,.bool true] else u,?_,?_⟩
  ·unfold Instr.lookup
   rcases MN with⟨rfl,rfl⟩| ⟨r,clock,rfl,h1⟩
   ·simp only [pure_bind,Sem.run_bind,bH hd,Result.andThen_ok,Kj,Fo,Sem.run_pure]
   ·simp only [Sem.run_bind,bH hd,Result.andThen_ok,hget r clock h1,Kj,Fo,Sem.run_pure]
  ·cases ok with
   | true=>simp only [if_true,VR]; exact⟨#[u,.bool true],rfl,hv,by simp [VR],trivial⟩
   | false=>simpa using hv
theorem lA.length {c:Cx}{L:Nat→Prop}:∀{es:List (AV × AV)} {ms:List MapEntry},lA c L es ms→es.length=ms.length
 | [],[],_=>rfl
 | _::_,_::_,h=>by simp [lA.length h.2.2]
 | [],_::_,h=>h.elim
 | _::_,[],h=>h.elim
theorem Fq {c:Cx}{Lo:Nat→Prop}{lam:Nat→Nat}{a:Act}(f:Fr L0 c Lo lam ds s a){x y:AV}{v:Value}{t:TypeId}(ts:Array TypeId)(ht:ts[0]? = some t)(hx:SR c L0 Lo lam s.bx x v)(h:sL P s.h t x=some y)(ty:TypeId) :
  ∃r,(Builtin.len_ ts ty #[v]).run P c.w = .ok r c.w∧VR c (un L0 Lo) y r:=by
 unfold sL at h
 rw [ZC] at h
 obtain⟨d,hd,h⟩:=h
 unfold Builtin.len_
 cases d<;>simp only at h<;>try (cases h; done)
 ·cases x<;>simp only at h<;>try (cases h; done)
  cases h
  simp only [SR,VR] at hx
  subst hx
  exact⟨.int .i64 _,by simp [ht,bH hd,goInt]; rfl,by simp only [VR]⟩
 ·cases x with
  | nils=>
   cases h
   simp only [SR,VR] at hx
   obtain⟨a,rfl⟩:=hx
   exact⟨.int .i64 _,by simp [ht,bH hd,goInt]; rfl,by simp only [VR]⟩
  | fz cs m ex=>
   cases h
   simp only [SR,VR] at hx
   obtain⟨a,cap,rfl,_⟩:=hx
   exact⟨.int .i64 _,by simp [ht,bH hd,goInt]; rfl,by simp only [VR]⟩
  | rs id off m iR=>
   cases h
   simp only [SR,VR] at hx
   rcases hx with⟨_,_,rfl,a,rfl⟩| ⟨_,_,a,cap,rfl,_⟩
   ·exact⟨.int .i64 _,by simp [ht,bH hd,goInt]; rfl,by simp only [VR]; rfl⟩
   ·exact⟨.int .i64 _,by simp [ht,bH hd,goInt]; rfl,by simp only [VR]⟩
  | _=>cases h
 ·cases x with
  | mN=>
   cases h
   simp only [SR,VR] at hx
   subst hx
   exact⟨.int .i64 _,by simp [ht,bH hd,goInt]; rfl,by simp only [VR]⟩
  | mp id=>
   simp only [ZC] at h
   obtain⟨ob,ho,h⟩:=h
   cases ob with
   | cells cs=>cases h
   | row t cs=>cases h
   | map es=>
   cases h
   simp only [SR,VR] at hx
   obtain⟨hi,r,rfl,hr⟩:=hx
   rw [←f.h] at ho
   have hl:Live c.h id:=⟨f.rel.lt _ _ ho,by simp [ho]⟩
   obtain⟨lB,clock,h1,h2⟩:=f.rel.obj _ _ ho
   rw [hr hl]
   refine⟨.int .i64 es.length,?_,by simp [VR]⟩
   have h3:=h2.length
   simp [ht,bH hd,getObj,Sem.run,h1,goInt,h3]
  | _=>cases h
end
end Go.R
namespace Go.R
open Go
theorem iC.len {c c':Cx}{b:Nat}(h:iC c.w c'.w b):c'.len b=c.len b:=by
 unfold Cx.len World.shape?
 rcases h with h | ⟨C,e,lo,hi,HV,jY,h1,h2,_⟩
 ·rw [h]
 ·rw [h1,h2]
theorem HRel.block {c:Cx}{L:Nat→Prop}(r:HRel c L){id:Nat}(hl:Live c.h id):(c.β id).1<c.w.heap.size:=by
 obtain⟨o,ho⟩:=aad.1 hl.2
 have h:=r.obj id o ho
 cases o with
 | cells cs=>obtain⟨n,h1,_⟩:=h; exact h1.lt
 | map es=>obtain⟨lB,clock,h1,_⟩:=h; exact (aac.1 h1).1
 | row t cs=>obtain⟨_,C,h1,_⟩:=h; exact (aac.1 h1).1
section
variable {L0:Nat→Prop}{c:Cx}{Lo:Nat→Prop}{lam:Nat→Nat}{ds:List Nat}{s:RS}{a:Act}
theorem Fr.world (f:Fr L0 c Lo lam ds s a){w':World}(hk:∀b,b<c.w.heap.size→iC c.w w' b)(PF:∀id,Live c.h id→w'.heap[(c.β id).1]? = c.w.heap[(c.β id).1]?)(hx:∀b,b<c.base→w'.heap[b]? = c.w.heap[b]?)(hs:c.w.heap.size≤w'.heap.size)
  (h1:w'.os=c.w.os) (h2:w'.tape=c.w.tape) (h3:w'.output=c.w.output):Ext c Lo {c with w:=w'} Lo∧Fr L0 {c with w:=w'} Lo lam ds s a:=by
 have e:Ext c Lo {c with w:=w'} Lo:=by
  refine⟨ZI _,fun id hi hl=>⟨hl,rfl,?_⟩,hs,fun b hb _ _=>hk b hb,hx,rfl,fun id hl=>.inr ⟨id,hl,rfl⟩,fun _ h=>h,fun _ h=>.inl h,h1,h2,h3⟩
  exact iC.len (c':={c with w:=w'}) (hk _ (f.rel.block hl))
 refine⟨e,f.h,⟨f.rel.lt,fun id o ho=>?_,f.rel.inj,f.rel.out,fun b hb=>Z4 (f.rel.bd b hb) hs,f.rel.low,f.rel.ver⟩,fun t=>?_,fun k cs hb=>?_,f.inj,f.tidy,f.defers,f.Fj⟩
 ·have hl:Live c.h id:=⟨f.rel.lt _ _ ho,by rw [ho]; rfl⟩
  exact (f.rel.obj id o ho).ext e (PF id hl)
 ·exact (f.slot t).ext e (fun _ _ _=>⟨rfl,fun h=>h⟩)
 ·have ob:=f.box k cs hb
  exact ob.ext e (hk _ ob.plain.lt)
theorem Fr.upd (f:Fr L0 c Lo lam ds s a){w':World}{β':Nat→Nat × Nat}{h':AHeap}(po:Nat)(ob:AObj)
  (hst:Steady c.h h') (VH:po<h'.next) (hget:h'.get po=some ob)
  (hcl:∀id,id≠po→h'.get id=none∨(h'.get id=c.h.get id∧β' id=c.β id))
  (MO:po<c.h.next→Live c.h po∧β' po=c.β po)
  (MP:c.w.heap.size≤(β' po).1∨∃qn,Live c.h qn∧(c.β qn).1=(β' po).1∧(qn=po∨h'.get qn=none))
  (hlen:(β' po).1<c.w.heap.size→((w'.shape? (β' po).1).map (·.2)).getD 0=c.len (β' po).1)
  (hk:∀b,b<c.w.heap.size→b≠(β' po).1→w'.heap[b]? = c.w.heap[b]?) (hx:∀b,b<c.base→b≠(β' po).1→w'.heap[b]? = c.w.heap[b]?) (hs:c.w.heap.size≤w'.heap.size) (hbs:c.base≤c.w.heap.size)
  (h1:w'.os=c.w.os) (h2:w'.tape=c.w.tape) (h3:w'.output=c.w.output)
  (hob:∀(e:Ext c Lo ⟨β',h',w',c.base⟩ Lo),pz ⟨β',h',w',c.base⟩ (un L0 Lo) (β' po).1 (β' po).2 ob) :
  Ext c Lo ⟨β',h',w',c.base⟩ Lo∧Fr L0 ⟨β',h',w',c.base⟩ Lo lam ds {s with h:=h'} a:=by
 have hn:=hst.next
 have hold:∀id,id≠po→Live h' id→Live c.h id∧β' id=c.β id:=by
  intro id hne hl
  rcases hcl id hne with h | ⟨h,hb⟩
  ·have:=hl.2; rw [h] at this; cases this
  ·have BO:(c.h.get id).isSome=true:=by rw [←h]; exact hl.2
   obtain⟨o,ho⟩:=aad.1 BO
   exact⟨⟨f.rel.lt _ _ ho,BO⟩,hb⟩
 have Ii:∀id,id≠po→Live h' id→(c.β id).1≠(β' po).1:=by
  intro id hne hl he
  obtain⟨hl0,hb⟩:=hold id hne hl
  rcases MP with h | ⟨qn,h4,h5,h6⟩
  ·have:=f.rel.block hl0; omega
  ·have:id=qn:=f.rel.inj id qn hl0 h4 (he.trans h5.symm)
   subst this
   rcases h6 with h6 | h6
   ·exact hne h6
   ·have:=hl.2; rw [h6] at this; cases this
 have hL:¬un L0 Lo (β' po).1:=by
  intro hL
  rcases MP with h | ⟨qn,h4,h5,_⟩
  ·have:=f.rel.bd _ hL; omega
  ·exact f.rel.out qn h4 (h5 ▸ hL)
 have Kk:c.base≤(β' po).1:=by
  rcases MP with h | ⟨qn,h4,h5,_⟩
  ·omega
  ·rw [←h5]; exact f.rel.low qn h4
 have e:Ext c Lo ⟨β',h',w',c.base⟩ Lo:=by
  refine⟨hn,fun id hi hl=>?_,hs,fun b hb _ hi=>.inl (hk b hb ?_),fun b hb=>hx b hb (by omega),rfl,fun id hl=>?_,fun _ h=>h,fun _ h=>.inl h,h1,h2,h3⟩
  ·by_cases hid:id=po
   ·subst hid
    obtain⟨h4,h5⟩:=MO hi
    refine⟨h4,h5,?_⟩
    have:=hlen (by rw [h5]; exact f.rel.block h4)
    rw [h5] at this
    exact this
   ·obtain⟨h4,h5⟩:=hold id hid hl
    exact⟨h4,h5,iC.len (c':=⟨β',h',w',c.base⟩) (.inl (hk _ (f.rel.block h4) (Ii id hid hl)))⟩
  ·rintro rfl
   rcases MP with h | ⟨qn,h4,h5,_⟩
   ·omega
   ·exact hi qn h4 h5
  ·by_cases hid:id=po
   ·subst hid
    rcases MP with h | ⟨qn,h4,h5,_⟩
    ·exact .inl h
    ·exact .inr ⟨qn,h4,h5⟩
   ·obtain⟨h4,h5⟩:=hold id hid hl
    exact .inr ⟨id,h4,by rw [←h5]⟩
 refine⟨e,rfl,⟨fun id o ho=>?_,fun id o ho=>?_,fun id kY hl pn he=>?_,fun id hl=>?_,fun b hb=>Z4 (f.rel.bd b hb) hs,fun id hl=>?_,hst.wf f.rel.ver⟩,fun t=>?_,fun k cs hb=>?_,f.inj,f.tidy,f.defers,f.Fj⟩
 ·by_cases hid:id=po
  ·subst hid; exact VH
  ·rcases hcl id hid with h | ⟨h,_⟩
   ·rw [h] at ho; cases ho
   ·rw [h] at ho; exact Z4 (f.rel.lt _ _ ho) hn
 ·by_cases hid:id=po
  ·subst hid
   rw [hget] at ho
   cases ho
   exact hob e
  ·rcases hcl id hid with h | ⟨h,hb⟩
   ·rw [h] at ho; cases ho
   ·have hl:Live h' id:=⟨by rw [h] at ho; exact Z4 (f.rel.lt _ _ ho) hn,by rw [ho]; rfl⟩
    rw [h] at ho
    have:=(f.rel.obj id o ho).ext e (hk _ (f.rel.block (hold id hid hl).1) (Ii id hid hl))
    rw [←hb] at this
    exact this
 ·by_cases hid:id=po<;>by_cases Fs:kY=po
  ·rw [hid,Fs]
  ·subst hid
   obtain⟨h4,h5⟩:=hold kY Fs pn
   exact absurd (by rw [←h5]; exact he.symm) (Ii kY Fs pn)
  ·subst Fs
   obtain⟨h4,h5⟩:=hold id hid hl
   exact absurd (by rw [←h5]; exact he) (Ii id hid hl)
  ·obtain⟨h4,h5⟩:=hold id hid hl
   obtain⟨h6,h7⟩:=hold kY Fs pn
   exact f.rel.inj id kY h4 h6 (by rw [←h5,←h7]; exact he)
 ·by_cases hid:id=po
  ·subst hid; exact hL
  ·obtain⟨h4,h5⟩:=hold id hid hl
   show ¬un L0 Lo (β' id).1
   rw [h5]; exact f.rel.out id h4
 ·by_cases hid:id=po
  ·subst hid; exact Kk
  ·obtain⟨h4,h5⟩:=hold id hid hl
   show c.base≤(β' id).1
   rw [h5]; exact f.rel.low id h4
 ·exact (f.slot t).ext e (fun _ _ _=>⟨rfl,fun h=>h⟩)
 ·have hb2:=f.box k cs hb
  refine hb2.ext e (.inl (hk _ hb2.plain.lt ?_))
  rintro he
  exact hL (he ▸ .inr hb2.own)
theorem Fr.Ft (f:Fr L0 c Lo lam ds s a){w':World}(k:Nat)(cs:List AV)(b:Nat)
  (hb:c.w.heap.size≤b∨(b=lam k∧(s.bx k).isSome=true))
  (hp:∀t off,s.ρ t = .lp k off→b=lam k)
  (hk:∀b',b'<c.w.heap.size→b'≠b→w'.heap[b']? = c.w.heap[b']?) (hx:∀b',b'<c.base→b'≠b→w'.heap[b']? = c.w.heap[b']?) (hs:c.w.heap.size≤w'.heap.size) (VI:b<w'.heap.size) (hbs:c.base≤c.w.heap.size)
  (h1:w'.os=c.w.os) (h2:w'.tape=c.w.tape) (h3:w'.output=c.w.output)
  (BP:Plain {c with w:=w'} b cs.length)
  (PC:∀(e:Ext c Lo {c with w:=w'} (fun x=>Lo x∨x=b)),Cells {c with w:=w'} (un L0 (fun x=>Lo x∨x=b)) cs b 0) :
  ∃jZ rP,Ext c Lo {c with w:=w'} jZ∧Fr L0 {c with w:=w'} jZ rP ds (s.box k cs) a∧rP k=b:=by
 have Kl:∀id,Live c.h id→(c.β id).1≠b:=by
  intro id hl he
  rcases hb with h | ⟨h,hb2⟩
  ·have:=f.rel.block hl; omega
  ·obtain⟨MQ,h0⟩:=aad.1 hb2
   exact f.rel.out id hl (by rw [he,h]; exact .inr (f.box k MQ h0).own)
 have TK:∀x,(Lo x∨x=b)→Lo x∨c.w.heap.size≤x:=by
  rintro x (h | rfl)
  ·exact .inl h
  ·rcases hb with h | ⟨h,hb2⟩
   ·exact .inr h
   ·obtain⟨MQ,h0⟩:=aad.1 hb2
    exact .inl (h ▸ (f.box k MQ h0).own)
 have Kk:c.base≤b:=by
  rcases hb with h | ⟨h,hb2⟩
  ·omega
  ·obtain⟨MQ,h0⟩:=aad.1 hb2
   rw [h]; exact f.Fj _ (f.box k MQ h0).own
 have VJ:∀b',b'<c.w.heap.size→¬Lo b'→b'≠b:=by
  rintro b' uG hn rfl
  rcases TK b' (.inr rfl) with h | h
  ·exact hn h
  ·omega
 have e:Ext c Lo {c with w:=w'} (fun x=>Lo x∨x=b):=by
  refine⟨ZI _,fun id hi hl=>⟨hl,rfl,?_⟩,hs,fun b' uG hn _=>.inl (hk b' uG (VJ b' uG hn)),fun b' uG=>hx b' uG (by omega),rfl,fun id hl=>.inr ⟨id,hl,rfl⟩,fun _ h=>.inl h,TK,h1,h2,h3⟩
  exact iC.len (c':={c with w:=w'}) (.inl (hk _ (f.rel.block hl) (Kl id hl)))
 refine⟨fun x=>Lo x∨x=b,fun t=>if t=k then b else lam t,e,⟨f.h,⟨f.rel.lt,fun id o ho=>?_,f.rel.inj,fun id hl hL=>?_,fun x HW=>?_,f.rel.low,f.rel.ver⟩,fun t=>?_,fun k' fU uG=>?_,fun k1 k2 TL Mm he=>?_,f.tidy,f.defers,fun x HW=>?_⟩,by simp⟩
 ·have hl:Live c.h id:=⟨f.rel.lt _ _ ho,by rw [ho]; rfl⟩
  exact (f.rel.obj id o ho).ext e (hk _ (f.rel.block hl) (Kl id hl))
 ·rcases hL with h | h | h
  ·exact f.rel.out id hl (.inl h)
  ·exact f.rel.out id hl (.inr h)
  ·exact Kl id hl h
 ·rcases HW with h | h | h
  ·exact Z4 (f.rel.bd x (.inl h)) hs
  ·exact Z4 (f.rel.bd x (.inr h)) hs
  ·subst h; exact VI
 ·refine (f.slot t).ext e (fun k' off JI=>?_)
  by_cases yn:k'=k
  ·subst yn
   refine⟨by simp [hp t off JI],fun _=>by simp [RS.box]⟩
  ·exact⟨by simp [yn],fun h=>by simpa [RS.box,beq_nat,yn] using h⟩
 ·by_cases yn:k'=k
  ·subst yn
   simp only [RS.box,beq_nat,decide_true,cond_true,ZE] at uG
   subst uG
   exact⟨by simp,by simpa using BP,by simpa using PC e⟩
  ·simp only [RS.box,beq_nat,yn,decide_false,cond_false] at uG
   have ob:=f.box k' fU uG
   have hne:lam k'≠b:=by
    rintro he
    rcases hb with h | ⟨h,hb2⟩
    ·have:=ob.plain.lt; omega
    ·exact yn (f.inj k' k (by rw [uG]; rfl) hb2 (he.trans h))
   have:=ob.ext e (.inl (hk _ ob.plain.lt hne))
   exact⟨by simp [yn]; exact .inl ob.own,by simpa [yn] using this.plain,by simpa [yn] using this.cells⟩
 ·have old:∀k',k'≠k→((s.box k cs).bx k').isSome=true→(s.bx k').isSome=true:=by
   intro k' hne h
   simpa [RS.box,beq_nat,hne] using h
  have sep:∀k',k'≠k→(s.bx k').isSome=true→lam k'≠b:=by
   intro k' hne h5 VK
   obtain⟨O0,h6⟩:=aad.1 h5
   rcases hb with h | ⟨h,hb2⟩
   ·have:=(f.box k' O0 h6).plain.lt; omega
   ·exact hne (f.inj k' k h5 hb2 (VK.trans h))
  by_cases h4:k1=k<;>by_cases h5:k2=k
  ·rw [h4,h5]
  ·simp only [h4,h5,if_true,if_false] at he
   exact absurd he.symm (sep k2 h5 (old k2 h5 Mm))
  ·simp only [h4,h5,if_true,if_false] at he
   exact absurd he (sep k1 h4 (old k1 h4 TL))
  ·simp only [h4,h5,if_false] at he
   exact f.inj k1 k2 (old k1 h4 TL) (old k2 h5 Mm) he
 ·rcases HW with h | h
  ·exact f.Fj x h
  ·subst h; exact Kk
end
end Go.R
namespace Go.R
open Go
theorem Cells.iff {c:Cx}{L:Nat→Prop}:∀{xs:List AV} {b o:Nat},Cells c L xs b o↔∀(i:Nat) (x:AV),xs[i]? = some x→∃v,c.w.cell? ⟨b,o+i,none⟩=some v∧v.oneCell'=true∧VR c L x v
 | [],b,o=>by simp [Cells]
 | x::xs,b,o=>by
  refine⟨fun h i y hy=>h.get' i y hy,fun h=>⟨?_,(Cells.iff (xs:=xs)).2 fun i y hy=>?_⟩⟩
  ·exact h 0 x rfl
  ·have:=h (i+1) y (by simpa using hy)
   rwa [aaV,aaB]
theorem iE:∀(vs cs:List AV) (i:Nat),(dQ cs i vs).length=cs.length
 | [],cs,i=>by cases cs<;>rfl
 | v::vs,cs,i=>by
  rw [dQ,iE vs]
  simp
theorem sW:∀(vs cs:List AV) (i j:Nat),i+vs.length≤cs.length→(dQ cs i vs)[j]? = if i≤j∧j<i+vs.length then vs[j - i]? else cs[j]?
 | [],cs,i,j,_=>by
  have:dQ cs i []=cs:=by cases cs<;>rfl
  rw [this,if_neg (by simp)]
 | v::vs,cs,i,j,h=>by
  simp only [ZU] at h
  rw [dQ,sW vs _ (i+1) j (by simp; omega)]
  by_cases h1:i+1≤j∧j<i+1+vs.length
  ·rw [if_pos h1,if_pos (by simp; omega),show j - i=(j - (i+1))+1 by omega]
   simp
  ·rw [if_neg h1]
   by_cases h2:j=i
   ·subst h2
    rw [if_pos (by simp),List.getElem?_set_self (by omega)]
    simp
   ·rw [List.getElem?_set_ne (by omega),if_neg (by simp; omega)]
theorem wF (w:World)(b o:Nat)(v:Value){C:Array Value}{e:TypeId}{fr:Nat × Nat}(hb:w.heap[b]? = some (.cells C e fr)):(w.setCell ⟨b,o,none⟩ v).heap[b]? = some (.cells (C.setIfInBounds o v) e fr):=by
 have hlt:b<w.heap.size:=(aac.1 hb).1
 simp [World.setCell,aaI,hb]
theorem yq (w:World)(b o b':Nat)(v:Value)(hne:b'≠b):(w.setCell ⟨b,o,none⟩ v).heap[b']? = w.heap[b']?:=by
 simp [World.setCell,aaI,Ne.symm hne]
theorem er:∀(vs:List Value) (b o b':Nat) (w:World),b'≠b→(w.setCells b o vs).heap[b']? = w.heap[b']?
 | [],_,_,_,_,_=>rfl
 | v::vs,b,o,b',w,h=>by rw [World.setCells,er vs b (o+1) b' _ h,yq _ _ _ _ _ h]
theorem gV:∀(vs:List Value) (b o:Nat) (w:World),(w.setCells b o vs).heap.size=w.heap.size∧(w.setCells b o vs).os=w.os∧(w.setCells b o vs).tape=w.tape∧(w.setCells b o vs).output=w.output
 | [],_,_,_=>⟨rfl,rfl,rfl,rfl⟩
 | v::vs,b,o,w=>by
  obtain⟨h1,h2,h3,h4⟩:=gV vs b (o+1) (w.setCell ⟨b,o,none⟩ v)
  rw [World.setCells]
  exact⟨h1.trans (by simp),h2.trans rfl,h3.trans rfl,h4.trans rfl⟩
theorem fV:∀(vs:List Value) (b o:Nat) (w:World) (C:Array Value) (e:TypeId) (fr:Nat × Nat),w.heap[b]? = some (.cells C e fr)→o+vs.length≤C.size→
  ∃C',(w.setCells b o vs).heap[b]? = some (.cells C' e fr)∧C'.size=C.size∧∀j,C'[j]? = if o≤j∧j<o+vs.length then vs[j - o]? else C[j]?
 | [],b,o,w,C,e,fr,hb,_=>⟨C,hb,rfl,fun j=>by rw [if_neg (by simp)]⟩
 | v::vs,b,o,w,C,e,fr,hb,hl=>by
  simp only [ZU] at hl
  obtain⟨C',h1,h2,h3⟩:=fV vs b (o+1) (w.setCell ⟨b,o,none⟩ v) (C.setIfInBounds o v) e fr (wF w b o v hb) (by simp; omega)
  refine⟨C',h1,by simpa using h2,fun j=>?_⟩
  rw [h3 j]
  by_cases h4:o+1≤j∧j<o+1+vs.length
  ·rw [if_pos h4,if_pos (by simp; omega),show j - o=(j - (o+1))+1 by omega]
   simp
  ·rw [if_neg h4]
   by_cases h5:j=o
   ·subst h5
    rw [if_pos (by simp)]
    simp [aaD,show j<C.size by omega]
   ·rw [if_neg (by simp; omega)]
    simp [aaD,Ne.symm h5]
theorem cell_of_block {w:World}{b:Nat}{C:Array Value}{e:TypeId}{fr:Nat × Nat}(h:w.heap[b]? = some (.cells C e fr))(i:Nat):w.cell? ⟨b,i,none⟩=C[i]?:=by
 simp [World.cell?,h]
section
variable {P:Program}{L0:Nat→Prop}{c0:Cx}{n:Nat}{ds:List Nat}{o:Oper}{s:RS}
theorem sX {c:Cx}{L:Nat→Prop}{x:AV}{v:Value}(h:x.cg=true)(hv:VR c L x v):v.oneCell'=true∧v.cells = #[v]:=by
 cases x<;>simp only [AV.cg] at h<;>first | (cases h; done) | skip
 all_goals simp only [VR] at hv
 ·subst hv; exact⟨rfl,rfl⟩
 ·subst hv; exact⟨rfl,rfl⟩
 ·subst hv; exact⟨rfl,rfl⟩
 ·subst hv; exact⟨rfl,rfl⟩
 ·obtain⟨_,a,rfl,_⟩:=hv; exact⟨rfl,rfl⟩
 ·obtain⟨b,o,rfl,_⟩:=hv; exact⟨rfl,rfl⟩
 ·obtain⟨a,rfl⟩:=hv; exact⟨rfl,rfl⟩
 ·obtain⟨a,cap,rfl,_⟩:=hv; exact⟨rfl,rfl⟩
 ·rcases hv with⟨_,_,_,a,rfl⟩| ⟨_,_,a,cap,rfl,_⟩<;>exact⟨rfl,rfl⟩
 ·subst hv; exact⟨rfl,rfl⟩
 ·obtain⟨_,r,rfl,_⟩:=hv; exact⟨rfl,rfl⟩
 ·obtain⟨vs,rfl,_⟩:=hv; exact⟨rfl,rfl⟩
 ·subst hv; exact⟨rfl,rfl⟩
theorem rj {c:Cx}{L:Nat→Prop}:∀{xs:List AV} {vs:List Value},xs.all AV.cg=true→VRs c L xs vs→∀v∈vs,v.oneCell'=true
 | [],[],_,_,v,hv=>by simp at hv
 | x::xs,u::us,h,hr,v,hv=>by
  simp only [aao,ZF] at h
  rcases ZZ.1 hv with rfl | hv
  ·exact (sX h.1 hr.1).1
  ·exact rj h.2 hr.2 v hv
 | [],_::_,_,h,_,_=>h.elim
 | _::_,[],_,h,_,_=>h.elim
theorem jb {c:Cx}{L:Nat→Prop}{x:AV}{v:Value}(h:x.cells.all AV.cg=true)(hv:VR c L x v):VRs c L x.cells v.cells.toList∧∀u∈v.cells.toList,u.oneCell'=true:=by
 cases x with
 | agg cs=>
  simp only [VR] at hv
  obtain⟨vs,rfl,E3⟩:=hv
  exact⟨E3,rj h E3⟩
 | _=>
  simp only [AV.cells,aao,List.all_nil,Bool.and_true] at h
  obtain⟨h1,h2⟩:=sX h hv
  rw [h2]
  exact⟨⟨hv,trivial⟩,by simpa using h1⟩
theorem SR.so {c:Cx}{Lo:Nat→Prop}{lam:Nat→Nat}{bx:Nat→Option (List AV)}{x:AV}{v:Value}(hx:SR c L0 Lo lam bx x v)(h:x.cells.all AV.cg=true):VR c (un L0 Lo) x v:=
 hx.vr (by rintro k off rfl; simp [AV.cells,AV.cg] at h)
theorem ko {c:Cx}{b m base off:Nat}{vs:List Value}(hp:Plain c b m)(hl:base+off+vs.length≤m)(h1:∀v∈vs,v.oneCell'=true) :
  (storeCells ⟨b,base+off,none⟩ vs).run P c.w = .ok () (c.w.setCells b (base+off) vs):=by
 obtain⟨C,e,lo,hi,hb,hf,hm⟩:=hp
 have:=run_storeCells_cells (P:=P) b (base+off) vs 0 c.w (fun j hj=>by
  rw [cell_of_block hb]
  have:base+off+0+j<C.size:=by omega
  simpa using this) (fun j hj=>by
  simp only [World.frozen?,hb]
  rcases hf with hf | hf
  ·subst hf; simp
  ·simp; omega) h1
 simpa using this
theorem Plain.setCells {c:Cx}{b m o:Nat}{vs:List Value}(hp:Plain c b m)(hl:o+vs.length≤m)(β':Nat→Nat × Nat)(h':AHeap)(bs:Nat):Plain ⟨β',h',c.w.setCells b o vs,bs⟩ b m:=by
 obtain⟨C,e,lo,hi,hb,hf,hm⟩:=hp
 obtain⟨C',h1,h2,_⟩:=fV vs b o c.w C e (lo,hi) hb (by omega)
 exact⟨C',e,lo,hi,h1,by rw [h2]; exact hf,by rw [h2]; exact hm⟩
theorem iP.setCells {c:Cx}{b m o:Nat}{vs:List Value}(hp:iP c b m)(hl:o+vs.length≤m)(β':Nat→Nat × Nat)(h':AHeap)(bs:Nat):iP ⟨β',h',c.w.setCells b o vs,bs⟩ b m:=by
 obtain⟨C,e,hb,hm⟩:=hp
 obtain⟨C',h1,h2,_⟩:=fV vs b o c.w C e (0,0) hb (by omega)
 exact⟨C',e,h1,by rw [h2]; exact hm⟩
theorem jc {c c':Cx}{L0 Lo jZ:Nat→Prop}{b m base off:Nat}{cs xs:List AV}{vs:List Value}(hp:Plain c b m)(hc:Cells c (un L0 Lo) cs b base)(hv:VRs c (un L0 Lo) xs vs)(MR:∀v∈vs,v.oneCell'=true)(hl:off+xs.length≤cs.length)(hm:base+cs.length≤m)
  (e:Ext c Lo c' jZ) (hw:c'.w=c.w.setCells b (base+off) vs):Cells c' (un L0 jZ) (dQ cs off xs) b base:=by
 obtain⟨C,e',lo,hi,hb,hf,oR⟩:=hp
 have hlen:=hv.length
 obtain⟨C',h1,h2,h3⟩:=fV vs b (base+off) c.w C e' (lo,hi) hb (by omega)
 rw [Cells.iff]
 intro i x hx
 rw [hw,cell_of_block h1,h3]
 rw [sW xs cs off i hl] at hx
 by_cases h4:off≤i∧i<off+xs.length
 ·rw [if_pos h4] at hx
  obtain⟨v,Km,JG⟩:=hv.get _ x hx
  refine⟨v,?_,MR v (ZK Km),VR.ext e x v JG⟩
  rw [if_pos (by omega),show base+i - (base+off)=i - off by omega]
  exact Km
 ·rw [if_neg h4] at hx
  obtain⟨v,Km,HX,JG⟩:=hc.get' i x hx
  refine⟨v,?_,HX,VR.ext e x v JG⟩
  rw [if_neg (by omega),←cell_of_block hb]
  exact Km
theorem oB {c:Cx}{L:Nat→Prop}{t:TypeId}{cs fU:List AV}{b m base off:Nat}{x:AV}{v:Value}(hp:Plain c b m)(hm:base+cs.length≤m)(hv:VR c L x v)(h:ig P t cs off x=some fU) :
  (storeVar t ⟨b,base+off,none⟩ v).run P c.w = .ok () (c.w.setCells b (base+off) v.cells.toList)∧VRs c L x.cells v.cells.toList∧off+x.cells.length≤cs.length∧fU=dQ cs off x.cells∧(∀u∈v.cells.toList,u.oneCell'=true):=by
 unfold ig at h
 rw [ZC] at h
 obtain⟨k,hk,h⟩:=h
 split at h
 ·rename_i hh
  obtain⟨h1,h2,h3⟩:=hh
  cases h
  obtain⟨h4,h5⟩:=jb h2 hv
  have h6:=h4.length
  refine⟨?_,h4,by omega,rfl,h5⟩
  have h7:v.cells.size=k:=by rw [←aaG,←h6]; exact h1
  simp only [storeVar,Sem.run_bind,eo hk,Result.andThen_ok,h7]
  simp only [ne_eq,not_true_eq_false,if_false]
  rw [←ko (P:=P) hp (vs:=v.cells.toList) (base:=base) (off:=off) (by omega) h5]
 ·cases h
theorem jz {c c0:Cx}{Lo:Nat→Prop}(e:Ext c0 none0 c Lo)(h:c0.base≤c0.w.heap.size):c.base≤c.w.heap.size:=by
 rw [e.base]; exact aap h e.size
theorem Fu (hb0:c0.base≤c0.w.heap.size)(hd:gQ n ds o){t:TypeId}{x y:Operand}(ho:o.op = .store t x y)(rQ:o.dst=none){s':RS}
  (h:(match bX s.ρ x with
   | .lp k off=>(s.bx k).bind fun cs=>(ig P t cs off (bX s.ρ y)).map fun fU=>s.box k fU
   | .ptr id off=>(s.h.get id).bind fun | .cells cs=>(ig P t cs off (bX s.ρ y)).map fun fU=>{s with h:=s.h.put id (.cells fU)} | _=>none
   | _=>none)=some s'):jD P L0 c0 n ds o s s':=by
 rintro a w K Q ⟨hn,c,Lo,lam,rfl,f,e⟩ hK
 have hbs:=jz e hb0
 have hx:=bP f x
 have hy:=bP f y
 unfold Oper.wp
 have Kn:a.put o.dst undef=a:=by rw [rQ]; rfl
 have fin:∀c' jZ rP,((Instr.storeAt t (a.eval x) (a.eval y)).run P c.w = .ok () c'.w)→Fr L0 c' jZ rP ds s' a→Ext c Lo c' jZ→Oper.upon P o a K Q ((execOp a.eval o).run P c.w):=by
  intro c' jZ rP hr f' e'
  have:(execOp a.eval o).run P c.w = .ok .skip c'.w:=by simp [execOp,ho,hr]
  rw [this,Oper.upon_skip,Kn]
  exact hK _ _ ⟨hn,c',jZ,rP,rfl,f',e.trans e'⟩
 cases DY:bX s.ρ x<;>rw [DY] at h<;>simp only at h<;>try (cases h; done)
 ·rename_i id off
  rw [ZC] at h
  obtain⟨ob,hob,h⟩:=h
  cases ob with
  | map es=>cases h
  | row t cs=>cases h
  | cells cs=>
  rw [ZD] at h
  obtain⟨fU,hw,rfl⟩:=h
  rw [DY] at hx
  simp only [SR,VR] at hx
  obtain⟨hi,ad,Ad,ha⟩:=hx
  rw [←f.h] at hob
  have hl:Live c.h id:=⟨f.rel.lt _ _ hob,by simp [hob]⟩
  obtain⟨m,hp,hm,hc⟩:=f.rel.obj _ _ hob
  have oC:(bX s.ρ y).cells.all AV.cg=true:=by
   unfold ig at hw
   rw [ZC] at hw
   obtain⟨k,_,hw⟩:=hw
   split at hw
   ·rename_i hh; exact hh.2.1
   ·cases hw
  have PG:=hy.so oC
  obtain⟨hr,hv,hle,rfl,MR⟩:=oB (P:=P) hp.kP hm PG hw
  have hvl:=hv.length
  obtain⟨q1,q2,q3,q4⟩:=gV (a.eval y).cells.toList (c.β id).1 ((c.β id).2+off) c.w
  have:=f.upd (w':=c.w.setCells (c.β id).1 ((c.β id).2+off) (a.eval y).cells.toList) (β':=c.β) (h':=c.h.put id (.cells (dQ cs off (bX s.ρ y).cells))) id (.cells (dQ cs off (bX s.ρ y).cells))
   (Steady.put _ _ _) (by simp only [AHeap.put]; omega) (by simp [AHeap.put,beq_nat]) (fun kY hne=>.inr ⟨by simp [AHeap.put,beq_nat,hne],rfl⟩) (fun _=>⟨hl,rfl⟩) (.inr ⟨id,hl,rfl,.inl rfl⟩)
   (fun _=>by
    obtain⟨C,e',lo,jY,hb,hf,oR⟩:=hp.kP
    obtain⟨C',h1,h2,_⟩:=fV (a.eval y).cells.toList (c.β id).1 ((c.β id).2+off) c.w C e' (lo,jY) hb (by omega)
    simp [World.shape?,h1,Cx.len,hb,h2])
   (fun b _ hne=>er _ _ _ _ _ hne) (fun b _ hne=>er _ _ _ _ _ hne) (by rw [q1]; exact ZI _) hbs q2 q3 q4
   (fun e'=>⟨m,hp.setCells (by omega) _ _ _,by rw [iE]; exact hm,jc hp.kP hc hv MR hle hm e' rfl⟩)
  rw [f.h] at this
  obtain⟨e',f'⟩:=this
  refine fin _ _ _ ?_ f' e'
  rw [Ad,ha hl]
  simp [Instr.storeAt,Instr.sureAddr,hr]
 ·rename_i k off
  rw [ZC] at h
  obtain⟨cs,MS,h⟩:=h
  rw [ZD] at h
  obtain⟨fU,hw,rfl⟩:=h
  rw [DY] at hx
  simp only [SR] at hx
  obtain⟨Ad,_⟩:=hx
  have ob:=f.box k cs MS
  have oC:(bX s.ρ y).cells.all AV.cg=true:=by
   unfold ig at hw
   rw [ZC] at hw
   obtain⟨k,_,hw⟩:=hw
   split at hw
   ·rename_i hh; exact hh.2.1
   ·cases hw
  have PG:=hy.so oC
  obtain⟨hr,hv,hle,rfl,MR⟩:=oB (P:=P) (base:=0) ob.plain (by omega) PG hw
  have hvl:=hv.length
  obtain⟨q1,q2,q3,q4⟩:=gV (a.eval y).cells.toList (lam k) (0+off) c.w
  obtain⟨jZ,rP,e',f',_⟩:=f.Ft (w':=c.w.setCells (lam k) (0+off) (a.eval y).cells.toList) k (dQ cs off (bX s.ρ y).cells) (lam k) (.inr ⟨rfl,by rw [MS]; rfl⟩)
   (fun _ _ _=>rfl) (fun b _ hne=>er _ _ _ _ _ hne) (fun b _ hne=>er _ _ _ _ _ hne) (by rw [q1]; exact ZI _) (by rw [q1]; exact ob.plain.lt) hbs q2 q3 q4
   (by rw [iE]; exact ob.plain.setCells (by omega) _ _ _) (fun e'=>jc ob.plain ob.cells hv MR hle (by omega) e' rfl)
  refine fin _ _ _ ?_ f' e'
  rw [Ad]
  rw [Z2] at hr
  simp [Instr.storeAt,Instr.sureAddr,hr]
end
end Go.R
namespace Go.R
open Go
theorem iU (w:World)(o:Obj):(w.alloc o).heap[w.heap.size]? = some o:=by
 show (w.heap.push o)[w.heap.size]? = some o
 simp
theorem alloc_old (w:World)(o:Obj){b:Nat}(h:b<w.heap.size):(w.alloc o).heap[b]? = w.heap[b]?:=by
 show (w.heap.push o)[b]? = w.heap[b]?
 simp [Array.getElem?_push,show b≠w.heap.size by omega]
theorem RS.set_set (s:RS)(d:Option Nat)(x y:AV):(s.set d x).set d y=s.set d y:=by
 cases d with
 | none=>rfl
 | some d=>
  simp only [RS.set]
  congr 1
  funext t
  cases aaj t d<;>rfl
theorem Ij (a:Act)(d:Option Nat)(x y:Value):(a.put d x).put d y=a.put d y:=by
 cases d with
 | none=>rfl
 | some d=>
  simp only [Act.put]
  congr 1
  apply Array.ext_getElem?
  intro i
  simp only [aaD,Array.size_setIfInBounds]
  by_cases h:d=i<;>by_cases h2:d<a.tmps.size<;>simp [h,h2]
section
variable {P:Program}{L0:Nat→Prop}{c0:Cx}{n:Nat}{ds:List Nat}{o:Oper}{s:RS}
theorem qw {k:Nat}{ρ:Nat→AV}:∀{l:List Nat},sM k ρ l=true→∀t∈l,∀off,ρ t≠.lp k off
 | [],_,t,ht=>by simp at ht
 | x::xs,h,t,ht=>by
  simp only [sM,ZF] at h
  intro off he
  rcases ZZ.1 ht with rfl | ht
  ·rw [he] at h; simp at h
  ·exact qw h.2 t ht off he
theorem Fr.Fv {c:Cx}{Lo:Nat→Prop}{lam:Nat→Nat}{a:Act}(f:Fr L0 c Lo lam ds s a)(hbs:c.base≤c.w.heap.size)(w1:World)(PH:w1.heap=c.w.heap∧w1.os=c.w.os∧w1.tape=c.w.tape∧w1.output=c.w.output)(ob:AObj)(obj:Obj)
  (h':AHeap) (hg:h'.get c.h.next=some ob) (hst:Steady c.h h') (hn:c.h.next<h'.next) (ho:∀id,id≠c.h.next→h'.get id=none∨h'.get id=c.h.get id)
  (hob:∀(c':Cx) (e:Ext c Lo c' Lo),c'.w=w1.alloc obj→pz c' (un L0 Lo) c.w.heap.size 0 ob) :
  ∃β',Ext c Lo ⟨β',h',w1.alloc obj,c.base⟩ Lo∧Fr L0 ⟨β',h',w1.alloc obj,c.base⟩ Lo lam ds {s with h:=h'} a∧β' c.h.next=(c.w.heap.size,0)∧Live h' c.h.next:=by
 obtain⟨q0,q1,q2,q3⟩:=PH
 have hsz:w1.heap.size=c.w.heap.size:=by rw [q0]
 refine⟨fun i=>if i=c.h.next then (c.w.heap.size,0) else c.β i,?_⟩
 have:=f.upd (w':=w1.alloc obj) (β':=fun i=>if i=c.h.next then (c.w.heap.size,0) else c.β i) (h':=h') c.h.next ob
  hst hn hg (fun id hne=>(ho id hne).imp (fun x=>x) fun h=>⟨h,by simp [hne]⟩)
  (fun h=>absurd h (Nat.lt_irrefl _)) (.inl (by simp)) (fun h=>by simp at h)
  (fun b hb _=>by rw [alloc_old _ _ (by omega),q0]) (fun b hb _=>by rw [alloc_old _ _ (by omega),q0]) (by simp [hsz]) hbs q1 q2 q3
  (fun e=>by simpa using hob _ e rfl)
 exact⟨this.1,this.2,by simp,⟨hn,by rw [hg]; rfl⟩⟩
theorem Fr.fresh {c:Cx}{Lo:Nat→Prop}{lam:Nat→Nat}{a:Act}(f:Fr L0 c Lo lam ds s a)(hbs:c.base≤c.w.heap.size)(w1:World)(PH:w1.heap=c.w.heap∧w1.os=c.w.os∧w1.tape=c.w.tape∧w1.output=c.w.output)(ob:AObj)(obj:Obj)
  (hob:∀(c':Cx) (e:Ext c Lo c' Lo),c'.w=w1.alloc obj→pz c' (un L0 Lo) c.w.heap.size 0 ob) :
  ∃β',Ext c Lo ⟨β',c.h.alloc ob,w1.alloc obj,c.base⟩ Lo∧Fr L0 ⟨β',c.h.alloc ob,w1.alloc obj,c.base⟩ Lo lam ds {s with h:=c.h.alloc ob} a∧β' c.h.next=(c.w.heap.size,0)∧Live (c.h.alloc ob) c.h.next:=
 f.Fv hbs w1 PH ob obj (c.h.alloc ob) (by simp [AHeap.alloc,AHeap.put,beq_nat]) (Steady.put _ _ _) (aas _) (fun id hne=>.inr (by simp [AHeap.alloc,AHeap.put,beq_nat,hne])) hob
theorem mb {c':Cx}{w1:World}{C:Array Value}{e:TypeId}(hw:c'.w=w1.alloc (.cells C e)):iP c' w1.heap.size C.size:=
 ⟨C,e,by rw [hw]; exact iU _ _,rfl⟩
theorem DZ {c':Cx}{w1:World}{C:Array Value}{e:TypeId}(hw:c'.w=w1.alloc (.cells C e)):Plain c' w1.heap.size C.size:=
 ⟨C,e,0,0,by rw [hw]; exact iU _ _,.inl rfl,rfl⟩
theorem ka {c':Cx}{L:Nat→Prop}{w1:World}{C:Array Value}{e:TypeId}{xs:List AV}{vs:List Value}(hw:c'.w=w1.alloc (.cells C e))(hv:VRs c' L xs vs)(hp:∀i,i<vs.length→C[i]? = vs[i]?)(h1:∀v∈vs,v.oneCell'=true):Cells c' L xs w1.heap.size 0:=
 Cells.of_vals hv (fun i hi=>by rw [hw,cell_of_block (iU _ _),Z2]; exact hp i hi) h1
theorem vl (hb0:c0.base≤c0.w.heap.size)(hd:gQ n ds o){aI:List Nat}{cs:List AV}{s':RS}(t:TypeId)(h:iO s aI ds o cs=some s')
  (hx:∀a c Lo lam,Fr L0 c Lo lam ds s a→a.tmps.size=n→∃v:Value,(execOp a.eval o).run P c.w = .ok (.value (.pointer (some ⟨c.w.heap.size,0,none⟩))) (c.w.alloc (.cells v.cells t))∧VRs c (un L0 Lo) cs v.cells.toList∧∀u∈v.cells.toList,u.oneCell'=true) :
  jD P L0 c0 n ds o s s':=by
 unfold iO at h
 split at h
 rotate_left
 ·cases h
 rename_i pq
 cases O3:o.dst with
 | none=>rw [O3] at h; cases h
 | some d=>
 obtain⟨HY,Ae⟩:=hd d O3
 rw [O3] at h
 simp only at h
 rintro a w K Q ⟨hn,c,Lo,lam,rfl,f,e⟩ hK
 have hbs:=jz e hb0
 obtain⟨v,hr,hv,h1⟩:=hx a c Lo lam f hn
 unfold Oper.wp
 rw [hr,Oper.upon_value,O3]
 split at h
 ·split at h
  rotate_left
  ·cases h
  rename_i ya
  cases h
  have f1:=f.set (d:=some d) (x:=.any) (v:=undef) (SR.of (by simp [VR])) (fun t ht=>by cases ht; exact⟨hn ▸ HY,Ae⟩)
  have Fw:∀t off,(s.set (some d) .any).ρ t≠.lp d off:=by
   intro t off he
   rw [vg] at he
   by_cases JJ:t=d
   ·rw [if_pos JJ] at he; cases he
   ·rw [if_neg JJ] at he
    by_cases hm:t∈ds
    ·exact qw ya t (by simp [hm,beq_nat,JJ]) off he
    ·exact JJ (f.tidy t d off hm he).symm
  obtain⟨jZ,rP,e',f',PJ⟩:=f1.Ft (w':=c.w.alloc (.cells v.cells t)) d cs c.w.heap.size (.inl (ZI _)) (fun t off he=>absurd he (Fw t off))
   (fun b hb _=>alloc_old _ _ hb) (fun b hb _=>alloc_old _ _ (by omega)) (by simp) (by simp) hbs rfl rfl rfl
   (by
     have:=DZ (c':={c with w:=c.w.alloc (.cells v.cells t)}) (w1:=c.w) (C:=v.cells) (e:=t) rfl
     rwa [show v.cells.size=cs.length by rw [←aaG,hv.length]] at this)
   (fun e'=>ka (w1:=c.w) (C:=v.cells) (e:=t) rfl (VRs.ext e' _ _ hv) (fun i _=>by simp) h1)
  have f2:=f'.set (d:=some d) (x:=.lp d 0) (v:=.pointer (some ⟨c.w.heap.size,0,none⟩)) (by simp only [SR,PJ,RS.box,beq_nat]; simp) (fun t ht=>by cases ht; rw [gP]; exact⟨hn ▸ HY,Ae⟩)
  rw [Ij] at f2
  have hs:(((s.set (some d) .any).box d cs).set (some d) (.lp d 0))=(s.box d cs).set (some d) (.lp d 0):=by
   rw [←RS.set_set (s.box d cs) (some d) .any]
   rfl
  rw [hs] at f2
  exact hK _ _ ⟨(gP _ _ _).trans hn,_,jZ,rP,rfl,f2,e.trans e'⟩
 ·cases h
  obtain⟨β',e',f',hβ,hl⟩:=f.fresh hbs c.w ⟨rfl,rfl,rfl,rfl⟩ (.cells cs) (.cells v.cells t) (fun c' e' hw=>⟨_,mb hw,by rw [Z2,hv.length]; simp,
   ka (w1:=c.w) hw (VRs.ext e' _ _ hv) (fun i _=>by simp) h1⟩)
  rw [f.h] at f' e' hβ hl
  have f2:=f'.set (d:=some d) (x:=.ptr s.h.next 0) (v:=.pointer (some ⟨c.w.heap.size,0,none⟩)) (by
   simp only [SR,VR]
   exact⟨hl.1,_,rfl,fun _=>by rw [hβ]⟩) (fun t ht=>by cases ht; exact⟨hn ▸ HY,Ae⟩)
  exact hK _ _ ⟨(gP _ _ _).trans hn,_,Lo,lam,rfl,f2,e.trans e'⟩
theorem BQ {c:Cx}{L:Nat→Prop}{n:Nat}{x:AV}{v:Value}(h:VR c L x v):VR c L (uJ n x) v:=by
 unfold uJ
 split
 ·simp only [VR] at h ⊢
  exact .inl ⟨trivial,trivial,trivial,none,h⟩
 ·exact h
theorem BR {c:Cx}{L:Nat→Prop}{n:Nat}:∀{cs:List AV} {vs:List Value} (j:Nat),VRs c L cs vs→VRs c L (Au n j cs) vs
 | [],vs,j,h=>h
 | x::cs,[],j,h=>h.elim
 | x::cs,v::vs,j,h=>by
  refine⟨?_,BR (j+1) h.2⟩
  split
  ·exact h.1
  ·exact BQ h.1
theorem BS {c:Cx}{L:Nat→Prop}{n:Nat}:∀{cs:List AV} {vs:List Value},VRs c L cs vs→VRs c L (cs.map (uJ n)) vs
 | [],vs,h=>h
 | x::cs,[],h=>h.elim
 | x::cs,v::vs,h=>⟨BQ h.1,BS h.2⟩
theorem Ik {c:Cx}{L:Nat→Prop}{cs:List AV}{vs:List Value}(h:VRs c L cs vs):∀n,VRs c L (Ie cs n) vs
 | 0=>h
 | n+1=>by
  have e:Ie cs (n+1)=bif aaZ 100 (n+1) then Au (n+1) 0 cs else cs.map (uJ (n+1)):=rfl
  rw [e]
  cases aaZ 100 (n+1)
  ·exact BS h
  ·exact BR 0 h
theorem BT {c:Cx}{L:Nat→Prop}{aI:List Nat}{d:Option Nat}{cs:List AV}{vs:List Value}(h:VRs c L cs vs):VRs c L (Av aI d cs) vs:=by
 unfold Av
 split
 ·exact h
 ·exact Ik h _
theorem Il {c:Cx}{L:Nat→Prop}{aI:List Nat}{d:Option Nat}{x:AV}{v:Value}(h:VR c L x v):VR c L (Kg aI d x) v:=by
 unfold Kg
 split
 ·simp only [VR] at h ⊢
  obtain⟨vs,h1,h2⟩:=h
  exact⟨vs,h1,BT h2⟩
 ·exact h
theorem BU {n:Nat}{x:AV}(h:(uJ n x).cg=true):x.cg=true:=by
 unfold uJ at h
 split at h
 ·rfl
 ·exact h
theorem BV {n:Nat}:∀{cs:List AV} (j:Nat),(Au n j cs).all AV.cg=true→cs.all AV.cg=true
 | [],j,h=>rfl
 | x::cs,j,h=>by
  rw [Au,aao,ZF] at h
  rw [aao,ZF]
  refine⟨?_,BV (j+1) h.2⟩
  have h1:=h.1
  split at h1
  ·exact h1
  ·exact BU h1
theorem BW {n:Nat}:∀{cs:List AV},(cs.map (uJ n)).all AV.cg=true→cs.all AV.cg=true
 | [],h=>rfl
 | x::cs,h=>by
  rw [Z0,aao,ZF] at h
  rw [aao,ZF]
  exact⟨BU h.1,BW h.2⟩
theorem Im {aI:List Nat}{d:Option Nat}{cs:List AV}(h:(Av aI d cs).all AV.cg=true):cs.all AV.cg=true:=by
 unfold Av at h
 split at h
 ·exact h
 ·rename_i d'
  generalize Fi aI d'=n at h
  cases n with
  | zero=>exact h
  | succ n=>
   have e:Ie cs (n+1)=bif aaZ 100 (n+1) then Au (n+1) 0 cs else cs.map (uJ (n+1)):=rfl
   rw [e] at h
   cases hb:aaZ 100 (n+1)
   ·rw [hb,cond_false] at h; exact BW h
   ·rw [hb,cond_true] at h; exact BV 0 h
theorem D0 {c:Cx}{t:TypeId}{z:AV}(hz:iS P t=some z)(pq:z.cells.all AV.cg=true)(L:Nat→Prop):∃v:Value,(Instr.alloc t true (.tuple #[])).run P c.w = .ok (.pointer (some ⟨c.w.heap.size,0,none⟩)) (c.w.alloc (.cells v.cells t))∧VRs c L z.cells v.cells.toList∧∀u∈v.cells.toList,u.oneCell'=true:=by
 obtain⟨v,hr,hv⟩:=j8 hz c.w
 obtain⟨h1,h2⟩:=jb pq (ma (c:=c) (L:=L) hv)
 exact⟨v,by simp [Instr.alloc,hr,newVar,newRow],h1,h2⟩
theorem jd (z:List AV):∀k,(iT z k).length=k*z.length
 | 0=>by simp [iT]
 | k+1=>by simp [iT,jd z k,aaN,aa7]
theorem vm (z:List AV):∀(k i:Nat),i<k*z.length→(iT z k)[i]? = z[i % z.length]?
 | 0,i,h=>by simp at h
 | k+1,i,h=>by
  rw [aaN,Nat.one_mul] at h
  rw [iT]
  by_cases h1:i<z.length
  ·rw [ZS h1,Nat.mod_eq_of_lt h1]
  ·rw [ZT (by omega),vm z k _ (by omega),←Nat.mod_eq_sub_mod (show z.length≤i by omega)]
theorem qy {c:Cx}{L:Nat→Prop}{z:List AV}{zv:Array Value}(hz:VRs c L z zv.toList)(k m:Nat)(hm:k*z.length≤m)(E4:z.length≠0) :
  VRs c L (iT z k) (((Array.range m).map (zv[· % zv.size]!)).toList.take (k*z.length)):=by
 have hl:=hz.length
 have key:∀(xs:List AV) (vs:List Value),xs.length=vs.length→(∀(i:Nat) x v,xs[i]? = some x→vs[i]? = some v→VR c L x v)→VRs c L xs vs:=by
  intro xs
  induction xs with
  | nil=>intro vs h _; cases vs with | nil=>trivial | cons _ _=>simp at h
  | cons x xs ih=>
   intro vs h lG
   cases vs with
   | nil=>simp at h
   | cons v vs=>
    refine⟨lG 0 x v rfl rfl,ih vs (by simpa using h) fun i y u hy hu=>lG (i+1) y u (by simpa using hy) (by simpa using hu)⟩
 refine key _ _ (by rw [jd]; simp; omega) fun i x v hx hv=>?_
 have hi:i<k*z.length:=by
  have:=(ZH.1 hx).1
  rwa [jd] at this
 rw [vm z k i hi] at hx
 obtain⟨u,hu,hr⟩:=hz.get _ x hx
 rw [List.getElem?_take,if_pos hi] at hv
 have BM:i<m:=by omega
 have rR:i % zv.size<zv.size:=Nat.mod_lt _ (by rw [←aaG,←hl]; omega)
 have:v=zv[i % zv.size]!:=by
  simp [BM] at hv
  exact hv.symm
 rw [show zv.toList.length=zv.size by simp] at hl
 rw [hl,Array.getElem?_toList,Array.getElem?_eq_getElem rR] at hu
 rw [this,getElem!_pos zv _ rR]
 cases hu
 exact hr
theorem mc (hb0:c0.base≤c0.w.heap.size)(hd:gQ n ds o){ob:AObj}{x:AV}
  (h:∀a c Lo lam,Fr L0 c Lo lam ds s a→a.tmps.size=n→∃(obj:Obj) (v:Value),(execOp a.eval o).run P c.w = .ok (.value v) (c.w.alloc obj)∧
   (∀(c':Cx) (e:Ext c Lo c' Lo),c'.w=c.w.alloc obj→pz c' (un L0 Lo) c.w.heap.size 0 ob)∧
   (∀(c':Cx),c'.h=s.h.alloc ob→c'.w=c.w.alloc obj→c'.β s.h.next=(c.w.heap.size,0)→VR c' (un L0 Lo) x v)) (hx:∀k off,x≠.lp k off) :
  jD P L0 c0 n ds o s ({s with h:=s.h.alloc ob}.set o.dst x):=by
 rintro a w K Q ⟨hn,c,Lo,lam,rfl,f,e⟩ hK
 have hbs:=jz e hb0
 obtain⟨obj,v,hr,hob,hv⟩:=h a c Lo lam f hn
 unfold Oper.wp
 rw [hr,Oper.upon_value]
 obtain⟨β',e',f',hβ,hl⟩:=f.fresh hbs c.w ⟨rfl,rfl,rfl,rfl⟩ ob obj hob
 rw [f.h] at f' e' hβ hl
 have f2:=f'.set (d:=o.dst) (x:=x) (v:=v) (SR.of (hv _ rfl rfl hβ)) (fun t ht=>by rw [hn]; exact hd t ht)
 exact hK _ _ ⟨(gP _ _ _).trans hn,_,Lo,lam,rfl,f2,e.trans e'⟩
theorem AH (hb0:c0.base≤c0.w.heap.size)(hd:gQ n ds o){t:TypeId}(ho:o.op = .makeMap t none):jD P L0 c0 n ds o s ({s with h:=s.h.alloc (.map [])}.set o.dst (.mp s.h.next)):=by
 refine mc hb0 hd (fun a c Lo lam f hn=>⟨.map #[] 0,.map (some c.w.heap.size),by simp [execOp,ho,Instr.makeMap],fun c' e hw=>⟨#[],0,by rw [hw]; exact iU _ _,trivial⟩,fun c' hh hw hβ=>?_⟩) (by rintro k off hh; cases hh)
 simp only [VR]
 exact⟨by rw [hh]; exact aas _,_,rfl,fun _=>by rw [hβ]⟩
theorem vo {i:Int}(h0:0≤i)(h1:i≤1099511627776):IntKind.i64.wrap i=i:=IntWalk.i64_in _ (by omega)
theorem wG (hb0:c0.base≤c0.w.heap.size)(hd:gQ n ds o){t:TypeId}{lx cx:Operand}(ho:o.op = .makeSlice t lx cx){s':RS}
  (h:((hU P s.h t (bX s.ρ lx) (bX s.ρ cx)).map fun (x,h)=>{s with h}.set o.dst x)=some s'):jD P L0 c0 n ds o s s':=by
 rw [ZD] at h
 obtain⟨⟨x,h'⟩,hm,rfl⟩:=h
 unfold hU at hm
 split at hm<;>try (cases hm; done)
 rename_i l cc hl hc
 rw [ZC] at hm
 obtain⟨d,Fx,hm⟩:=hm
 cases d<;>simp only at hm<;>try (cases hm; done)
 rename_i e
 simp only [ZC] at hm
 obtain⟨i,hi,z,hz,hm⟩:=hm
 split at hm
 rotate_left
 ·cases hm
 rename_i kq
 obtain⟨h0,h1,h2,h3,h4,h5,h6⟩:=kq
 simp only [ZE,ZL] at hm
 obtain⟨rfl,rfl⟩:=hm
 refine mc hb0 hd (fun a c Lo lam f hn=>?_) (by rintro k off hh; cases hh)
 have VL:s.h.next≠0:=by have:=f.rel.ver 0; rw [f.h] at this; omega
 have lU:=(bP f lx)
 have MT:=(bP f cx)
 rw [hl] at lU
 rw [hc] at MT
 simp only [SR,VR] at lU MT
 obtain⟨zv,Fp,AG⟩:=j8 hz c.w
 have E5:(typeInfo e).run P c.w = .ok i c.w:=by simp [typeInfo,hi]
 have hsz:(sizeOf e).run P c.w = .ok i.size c.w:=eo (by simp [fR,hi]) c.w
 obtain⟨Af,hz1⟩:=jb h6 (ma (c:=c) (L:=un L0 Lo) AG)
 have E4:=Af.length
 have hl0:IntKind.i64.wrap l=l:=vo h0 (by omega)
 have VM:IntKind.i64.wrap cc=cc:=vo (by omega) h5
 have hroom:¬((i.bytes:Int)*cc > 2 ^ 48):=by
  rw [Int.mul_comm]; simp only [gX] at h2; omega
 have hn0:cc.toNat*i.size=0∨cc.toNat*i.size≠0:=by omega
 have AI:(Instr.makeSlice t (.int .i64 l) (.int .i64 cc)).run P c.w = .ok (.slice (some ⟨c.w.heap.size,0,none⟩) l.toNat cc.toNat)
   (c.w.alloc (.cells ((Array.range (cc.toNat*i.size)).map (zv.cells[· % zv.cells.size]!)) e)):=by
  unfold Instr.makeSlice
  simp only [Sem.run_bind,bH Fx,Result.andThen_ok,asInt,asIntOf,Sem.run_pure,E5,hl0,VM,hsz]
  rw [if_neg (by simp only [aar,decide_eq_true_eq,not_or]; exact⟨⟨⟨by omega,hroom⟩,by omega⟩,by omega⟩)]
  simp only [Sem.run_bind,run_askRoom,Result.andThen_ok,hsz,Sem.run_pure]
  by_cases hz0:cc.toNat*i.size=0
  ·have PK:∀f:Nat→Value,Array.map f (Array.range 0) = #[]:=fun f=>by simp
   simp only [hz0,if_true,Sem.run_pure,Sem.run_bind,Result.andThen_ok,newRow,run_newObj,World.alloc_eq,PK]
  ·simp only [hz0,if_false,Sem.run_bind,Fp,Result.andThen_ok,Sem.run_pure,newRow,run_newObj,World.alloc_eq]
 have hle:l.toNat*z.cells.length≤cc.toNat*i.size:=by rw [h3]; exact aay _ (by omega)
 have hrow:∀(c':Cx) (e':Ext c Lo c' Lo),c'.w=c.w.alloc (.cells ((Array.range (cc.toNat*i.size)).map (zv.cells[· % zv.cells.size]!)) e)→
   pz c' (un L0 Lo) c.w.heap.size 0 (.cells (iT z.cells l.toNat)):=by
  intro c' e' hw
  refine⟨_,mb hw,by rw [jd]; simp; omega,?_⟩
  have hv:=qy Af l.toNat (cc.toNat*i.size) hle (by omega)
  refine ka (w1:=c.w) hw (VRs.ext e' _ _ hv) (fun j hj=>?_) (fun u hu=>?_)
  ·rw [List.getElem?_take,if_pos (by simp at hj; omega),Array.getElem?_toList]
  ·have TM:=List.mem_of_mem_take hu
   simp only [Array.toList_map,aah] at TM
   obtain⟨j,hj,rfl⟩:=TM
   have rR:j % zv.cells.size<zv.cells.size:=Nat.mod_lt _ (by rw [←aaG,←E4]; omega)
   rw [getElem!_pos zv.cells _ rR]
   exact hz1 _ (by simp)
 have hex:(execOp a.eval o).run P c.w = .ok (.value (.slice (some ⟨c.w.heap.size,0,none⟩) l.toNat cc.toNat)) (c.w.alloc (.cells ((Array.range (cc.toNat*i.size)).map (zv.cells[· % zv.cells.size]!)) e)):=by
  simp only [execOp,ho,lU,MT,Sem.run_bind,AI,Result.andThen_ok,Sem.run_pure]
 refine⟨_,_,hex,hrow,fun c' hh hw hβ=>?_⟩
 simp only [VR]
 refine .inr ⟨VL,by rw [hh]; exact aas _,_,_,rfl,by omega,rfl,fun _=>.inl ?_⟩
 rw [hβ]
 refine⟨rfl,?_⟩
 simp only [Cx.len,World.shape?,hw,iU]
 simp
end
end Go.R
namespace Go.R
open Go
def me:List Value→Nat→List Value→List Value
 | cs,_,[]=>cs
 | cs,i,v::vs=>me (cs.set i v) (i+1) vs
theorem VRs.dQ {c:Cx}{L:Nat→Prop}:∀{xs:List AV} {us:List Value} (i:Nat) {cs:List AV} {vs:List Value},VRs c L xs us→VRs c L cs vs→VRs c L (dQ cs i xs) (me vs i us)
 | [],[],i,cs,vs,_,h=>by
  have:R.dQ cs i []=cs:=by cases cs<;>rfl
  rw [this]; cases vs<;>exact h
 | x::xs,u::us,i,cs,vs,h,k=>VRs.dQ (i+1) h.2 (VRs.set h.1 i k)
 | [],_::_,_,_,_,h,_=>h.elim
 | _::_,[],_,_,_,h,_=>h.elim
theorem rl:∀(us:List Value) (i:Nat) (vs:List Value),(∀v∈vs,v.oneCell'=true)→(∀u∈us,u.oneCell'=true)→∀v∈me vs i us,v.oneCell'=true
 | [],i,vs,h,_,v,hv=>h v (by cases vs<;>exact hv)
 | u::us,i,vs,h,k,v,hv=>rl us (i+1) (vs.set i u) (fun w hw=>by
   rcases List.mem_or_eq_of_mem_set hw with h1 | h1
   ·exact h w h1
   ·subst h1; exact k _ (by simp)) (fun w hw=>k w (by simp [hw])) v hv
theorem pA (off:Nat):∀(us:List Value) (j:Nat) (cells:Array Value),((us.zipIdx j).foldl (fun cs (p:Value × Nat)=>cs.setIfInBounds (off+p.2) p.1) cells).toList=me cells.toList (off+j) us
 | [],j,cells=>by simp [me]
 | u::us,j,cells=>by
  simp only [List.zipIdx_cons,List.foldl_cons]
  rw [pA off us (j+1)]
  simp [me,aaB]
section
variable {P:Program}{L0:Nat→Prop}{c0:Cx}{n:Nat}{ds:List Nat}{o:Oper}{s:RS}
def sY (c:Cx)(L:Nat→Prop):List (Nat × AV)→List (Nat × Value)→Prop
 | [],[]=>True
 | (i,x)::xs,(j,v)::vs=>(i=j∧(x.cells.all AV.cg=true→VR c L x v))∧sY c L xs vs
 | _,_=>False
theorem mf {c:Cx}{L:Nat→Prop}(pl:Nat→Option (Nat × Nat)):∀{ps:List (Nat × AV)} {vs:List (Nat × Value)} {cs fU:List AV} {C:Array Value},sY c L ps vs→VRs c L cs C.toList→(∀v∈C.toList,v.oneCell'=true)→sJ pl cs ps=some fU→
  ∃C':Array Value,Instr.fill pl C vs=some C'∧VRs c L fU C'.toList∧∀v∈C'.toList,v.oneCell'=true
 | [],[],cs,fU,C,_,hc,h1,h=>by
  simp only [sJ,ZE] at h
  subst h
  exact⟨C,rfl,hc,h1⟩
 | (i,x)::ps,(j,v)::vs,cs,fU,C,hp,hc,h1,h=>by
  obtain⟨⟨rfl,hx⟩,PL⟩:=hp
  simp only [sJ,ZC] at h
  obtain⟨⟨off,size⟩,BP,h⟩:=h
  simp only at h
  split at h
  ·rename_i kq
   obtain⟨h2,h3,h4⟩:=kq
   obtain⟨h5,h6⟩:=jb h3 (hx h3)
   have h7:v.cells.size=size:=by rw [←aaG,←h5.length]; exact h2
   have h8:cs.length=C.size:=by rw [hc.length]; simp
   have hf:(v.cells.zipIdx.foldl (fun cs (p:Value × Nat)=>cs.setIfInBounds (off+p.2) p.1) C).toList=me C.toList off v.cells.toList:=by
    rw [←Array.foldl_toList,Array.toList_zipIdx]
    exact pA off v.cells.toList 0 C
   obtain⟨C',h9,h10,h11⟩:=mf pl (C:=v.cells.zipIdx.foldl (fun cs (p:Value × Nat)=>cs.setIfInBounds (off+p.2) p.1) C) PL (by rw [hf]; exact VRs.dQ off h5 hc) (by rw [hf]; exact rl _ _ _ h1 h6) h
   refine⟨C',?_,h10,h11⟩
   simp only [Instr.fill,BP]
   rw [if_neg (by simp only [aar,decide_eq_true_eq,not_or,ne_eq,Decidable.not_not]; exact⟨h7,by omega⟩)]
   exact h9
  ·cases h
 | [],_::_,_,_,_,h,_,_,_=>h.elim
 | _::_,[],_,_,_,h,_,_,_=>h.elim
theorem pB {c:Cx}{Lo:Nat→Prop}{lam:Nat→Nat}{a:Act}(f:Fr L0 c Lo lam ds s a):∀ps:List (Nat × Operand),sY c (un L0 Lo) (ps.map fun (i,x)=>(i,bX s.ρ x)) (ps.map fun (i,x)=>(i,a.eval x))
 | []=>trivial
 | (i,x)::ps=>⟨⟨rfl,fun h=>(bP f x).so h⟩,pB f ps⟩
theorem rm {v:Value}{x:AV}(h:pw v=some x):x.cg=true:=by
 unfold pw at h
 split at h<;>first | (cases h; done) | (cases h; rfl)
theorem pC:∀{vs:List Value} {xs:List AV},q8 vs=some xs→xs.all AV.cg=true
 | [],xs,h=>by simp [q8] at h; subst h; rfl
 | v::vs,xs,h=>by
  simp only [q8,ZC] at h
  obtain⟨x,hx,ys,hy,he⟩:=h
  cases he
  simp [rm hx,pC hy]
theorem oS {v:Value}{x:AV}(h:Fg v=some x):x.cells.all AV.cg=true:=by
 unfold Fg at h
 split at h
 ·rw [ZD] at h
  obtain⟨xs,hx,rfl⟩:=h
  exact pC hx
 ·have h1:=rm h
  cases x<;>simp_all [AV.cells,AV.cg]
theorem sZ {c:Cx}(w:World):∀fs:List Field,(∀f∈fs,∃m,fR P f.type=some m)→(fs.mapM (m:=Sem) fun f=>do pure (f.offset,←sizeOf f.type)).run P w = .ok (fs.map fun f=>(f.offset,(fR P f.type).getD 0)) w
 | [],_=>by simp
 | f::fs,h=>by
  obtain⟨m,hm⟩:=h f (by simp)
  have ih:=sZ (c:=c) w fs (fun g hg=>h g (by simp [hg]))
  simp only [List.mapM_cons,Sem.run_bind,eo hm,ih,hm,Sem.run_pure,Result.andThen_ok,Z0,aaA]
theorem run_build {c:Cx}{L:Nat→Prop}{t:TypeId}{ps:List (Nat × AV)}{vs:List (Nat × Value)}{y:AV}(hp:sY c L ps vs)(h:Ap P t ps=some y) :
  ∃v,(Instr.build t vs.toArray).run P c.w = .ok v c.w∧VR c L y v:=by
 unfold Ap at h
 simp only [ZC] at h
 obtain⟨z,hz,d,hd,h⟩:=h
 obtain⟨zv,Fp,AG⟩:=j8 hz c.w
 obtain⟨Af,hz1⟩:=jb (oS AG) (ma (c:=c) (L:=L) AG)
 cases d<;>simp only at h<;>try (cases h; done)
 ·rename_i len e
  simp only [ZC,ZD] at h
  obtain⟨m,hm,cs,hf,rfl⟩:=h
  obtain⟨C',h1,h2,_⟩:=mf _ hp Af hz1 hf
  refine⟨.agg C',?_,by simp only [VR]; exact⟨C',rfl,h2⟩⟩
  unfold Instr.build
  simp [Fp,bH hd,eo hm,h1]
 ·rename_i fs
  split at h
  rotate_left
  ·cases h
  rename_i MU
  have lG:∀f∈fs.toList,∃m,fR P f.type=some m:=fun f hf=>aad.1 (ZX.1 MU f hf)
  rw [ZD] at h
  obtain⟨cs,hf,rfl⟩:=h
  obtain⟨C',h1,h2,_⟩:=mf _ hp Af hz1 hf
  refine⟨.agg C',?_,by simp only [VR]; exact⟨C',rfl,h2⟩⟩
  have VN:=sZ (P:=P) (c:=c) c.w fs.toList lG
  have BP:(fun i=>(fs.toList.map fun f=>(f.offset,(fR P f.type).getD 0)).toArray[i]?)=Ao P fs.toList:=by
   funext i
   simp only [Ao,List.getElem?_toArray,aau]
   cases hi:fs.toList[i]? with
   | none=>rfl
   | some f=>
    obtain⟨m,hm⟩:=lG f (ZK hi)
    simp [hm]
  unfold Instr.build
  simp only [Sem.run_bind,Fp,bH hd,Result.andThen_ok]
  rw [←Array.toArray_toList (xs:=fs),List.mapM_toArray]
  simp only [Sem.run_map,VN,Result.andThen_ok]
  rw [BP,h1]
  rfl
end
end Go.R
namespace Go.R
open Go
section
variable {P:Program}{L0:Nat→Prop}{c0:Cx}{n:Nat}{ds:List Nat}{o:Oper}{s:RS}
theorem s7 (hb0:c0.base≤c0.w.heap.size)(hd:gQ n ds o){x:AV}
  (h:∀a c Lo lam,Fr L0 c Lo lam ds s a→a.tmps.size=n→c.base≤c.w.heap.size→∃(w':World) (v:Value),(execOp a.eval o).run P c.w = .ok (.value v) w'∧(∀b,b<c.w.heap.size→iC c.w w' b)∧(∀id,Live c.h id→w'.heap[(c.β id).1]? = c.w.heap[(c.β id).1]?)∧(∀b,b<c.base→w'.heap[b]? = c.w.heap[b]?)∧c.w.heap.size≤w'.heap.size∧
   w'.os=c.w.os∧w'.tape=c.w.tape∧w'.output=c.w.output∧(Ext c Lo {c with w:=w'} Lo→VR {c with w:=w'} (un L0 Lo) x v)) (hx:∀k off,x≠.lp k off) :
  jD P L0 c0 n ds o s (s.set o.dst x):=by
 rintro a w K Q ⟨hn,c,Lo,lam,rfl,f,e⟩ hK
 obtain⟨w',v,hr,h1,VO,h2,h3,h4,h5,h6,hv⟩:=h a c Lo lam f hn (jz e hb0)
 obtain⟨e',f'⟩:=f.world h1 VO h2 h3 h4 h5 h6
 unfold Oper.wp
 rw [hr,Oper.upon_value]
 exact hK _ _ ⟨(gP _ _ _).trans hn,_,Lo,lam,rfl,f'.set (SR.of (hv e')) (fun t ht=>by rw [hn]; exact hd t ht),e.trans e'⟩
theorem Fy {c c':Cx}{Lo:Nat→Prop}(r:HRel c (un L0 Lo))(hβ:c'.β=c.β)(hh:c'.h=c.h):RO c' (un L0 Lo) c.w.heap.size:=by
 refine⟨fun id hl he=>?_,fun hL=>?_⟩
 ·rw [hh] at hl
  rw [hβ] at he
  have:=r.block hl; omega
 ·have:=r.bd _ hL; omega
theorem np {c:Cx}{L:Nat→Prop}{t:TypeId}{len:Nat}{ps:List (Nat × AV)}{vs:List (Nat × Value)}{y:AV}(hp:sY c L ps vs)(h:hJ P t len ps=some y) :
  (y = .fz [] 0 true∧∃e,(Instr.buildSlice t len vs.toArray).run P c.w = .ok (.slice (some ⟨c.w.heap.size,0,none⟩) 0 0) (c.w.alloc (.cells #[] e)))∨
  ∃cs C e,y = .fz cs len true∧(Instr.buildSlice t len vs.toArray).run P c.w = .ok (.slice (some ⟨c.w.heap.size,0,none⟩) len len) (c.w.alloc (.cells C e))∧VRs c L cs C.toList∧∀v∈C.toList,v.oneCell'=true:=by
 unfold hJ at h
 rw [ZC] at h
 obtain⟨d,hd,h⟩:=h
 cases d<;>simp only at h<;>try (cases h; done)
 rename_i e
 rw [ZC] at h
 obtain⟨m,hm,h⟩:=h
 split at h
 ·cases h
 rename_i MV
 have sU:m≠0:=fun h=>MV (.inl h)
 have MW:¬(len*m > 2 ^ 24):=fun h=>MV (.inr (by omega))
 split at h
 ·rename_i hl0
  subst hl0
  split at h
  ·rename_i PM
   cases h
   have PL:ps=[]:=by simpa using PM
   subst PL
   cases vs with
   | cons _ _=>exact hp.elim
   | nil=>
   refine .inl ⟨rfl,e,?_⟩
   unfold Instr.buildSlice
   simp only [Sem.run_bind,bH hd,eo hm,Result.andThen_ok,Nat.zero_mul,if_true,Sem.run_pure]
   have PK:∀f:Nat→Value,Array.map f (Array.range 0) = #[]:=fun f=>by simp
   simp only [Instr.fill,newRow,PK,Sem.run_bind,run_newObj,Result.andThen_ok,Sem.run_pure,World.alloc_eq]
   rfl
  ·cases h
 ·rename_i hl0
  rw [ZC] at h
  obtain⟨z,hz,h⟩:=h
  split at h
  rotate_left
  ·cases h
  rename_i E4
  rw [ZD] at h
  obtain⟨cs,hf,rfl⟩:=h
  obtain⟨zv,Fp,AG⟩:=j8 hz c.w
  obtain⟨Af,hz1⟩:=jb (oS AG) (ma (c:=c) (L:=L) AG)
  have hz0:=qy Af len (len*m) (by rw [E4]; exact ZI _) (by omega)
  rw [aae (by simp [E4])] at hz0
  have hz2:∀u∈((Array.range (len*m)).map (zv.cells[· % zv.cells.size]!)).toList,u.oneCell'=true:=by
   intro u hu
   simp only [Array.toList_map,aah] at hu
   obtain⟨j,hj,rfl⟩:=hu
   have rR:j % zv.cells.size<zv.cells.size:=Nat.mod_lt _ (by rw [←aaG,←Af.length]; omega)
   rw [getElem!_pos zv.cells _ rR]
   exact hz1 _ (by simp)
  obtain⟨C',h1,h2,h3⟩:=mf _ hp hz0 hz2 hf
  refine .inr ⟨cs,C',e,rfl,?_,h2,h3⟩
  have hne:len*m≠0:=Nat.mul_ne_zero hl0 sU
  unfold Instr.buildSlice
  simp only [Sem.run_bind,bH hd,eo hm,Result.andThen_ok,MW,hne,if_false,Sem.run_pure,Fp]
  rw [h1]
  simp [newRow]
theorem uL (hb0:c0.base≤c0.w.heap.size)(hd:gQ n ds o){t:TypeId}{len:Nat}{ps:Array (Nat × Operand)}(ho:o.op = .buildSlice t len ps){y:AV}
  (h:hJ P t len (ps.toList.map fun (i,x)=>(i,bX s.ρ x))=some y):jD P L0 c0 n ds o s (s.set o.dst y):=by
 refine s7 hb0 hd (fun a c Lo lam f hn hbs=>?_) ?_
 ·have hp:=pB f ps.toList
  have hex:∀v w',(Instr.buildSlice t len (ps.toList.map fun (i,x)=>(i,a.eval x)).toArray).run P c.w = .ok v w'→(execOp a.eval o).run P c.w = .ok (.value v) w':=by
   intro v w' hr
   have he:ps.map (fun (i,x)=>(i,a.eval x))=(ps.toList.map fun (i,x)=>(i,a.eval x)).toArray:=by
    apply abb; simp
   simp only [execOp,ho,Sem.run_bind]
   rw [he,hr]
   rfl
  rcases np hp h with⟨rfl,e,hr⟩| ⟨cs,C,e,rfl,hr,hv,h1⟩
  ·refine⟨_,_,hex _ _ hr,fun b hb=>.inl (alloc_old _ _ hb),fun id hl=>alloc_old _ _ (f.rel.block hl),fun b hb=>alloc_old _ _ (by omega),by simp,rfl,rfl,rfl,fun _=>by simp only [VR]; exact⟨_,_,rfl,ZI _,fun _=>rfl,.inl rfl,.inl trivial⟩⟩
  ·refine⟨_,_,hex _ _ hr,fun b hb=>.inl (alloc_old _ _ hb),fun id hl=>alloc_old _ _ (f.rel.block hl),fun b hb=>alloc_old _ _ (by omega),by simp,rfl,rfl,rfl,fun e'=>?_⟩
   simp only [VR]
   exact⟨_,_,rfl,ZI _,fun _=>rfl,.inl rfl,.inr ⟨c.w.heap.size,0,rfl,Fy f.rel rfl rfl,fun _=>hbs,ka (w1:=c.w) rfl (VRs.ext e' _ _ hv) (fun i _=>by simp) h1⟩⟩
 ·rintro k off rfl
  unfold hJ at h
  rw [ZC] at h
  obtain⟨d,_,h⟩:=h
  cases d<;>simp only at h<;>try (cases h; done)
  rw [ZC] at h
  obtain⟨m,_,h⟩:=h
  split at h
  ·cases h
  ·split at h
   ·split at h<;>cases h
   ·rw [ZC] at h
    obtain⟨z,_,h⟩:=h
    split at h
    ·rw [ZD] at h
     obtain⟨_,_,h⟩:=h
     cases h
    ·cases h
theorem yr {aI:List Nat}{t:TypeId}{y:AV}{cs:List AV}{k z:Nat}(h:oN P aI o t y=some (cs,k,z)):y = .fz cs k true∧cs.length=k*z∧cs≠[]:=by
 unfold oN at h
 split at h
 ·rename_i d c fU k' hd
  cases hc:aI.contains d with
  | false=>rw [hc] at h; cases h
  | true=>
   rw [hc] at h
   simp only [cond_true] at h
   split at h
   ·split at h
    ·rename_i z' hz
     cases hb:aaj (c::fU).length (k'*z') with
     | false=>rw [hb] at h; cases h
     | true=>
      rw [hb] at h
      simp only [cond_true,ZE,ZL] at h
      obtain⟨rfl,rfl,rfl⟩:=h
      exact⟨rfl,aaH hb,by simp⟩
    ·cases h
   ·cases h
 ·cases h
theorem s8 (hb0:c0.base≤c0.w.heap.size)(hd:gQ n ds o){t:TypeId}{len:Nat}{ps:Array (Nat × Operand)}(ho:o.op = .buildSlice t len ps){y:AV}(aI:List Nat)
  (h:hJ P t len (ps.toList.map fun (i,x)=>(i,bX s.ρ x))=some y):jD P L0 c0 n ds o s (qu P aI s o t y):=by
 have key:=uL (L0:=L0) hb0 hd ho h
 unfold qu
 cases Ko:oN P aI o t y with
 | none=>exact key
 | some q=>
 obtain⟨O0,n1,z⟩:=q
 obtain⟨rfl,hlen,hne⟩:=yr Ko
 have fin:=mc (P:=P) (L0:=L0) (c0:=c0) (o:=o) (s:=s) hb0 hd (ob:=.cells O0) (x:=.rs s.h.next 0 n1 z) (fun a c Lo lam f hn=>by
  have hp:=pB f ps.toList
  have hex:∀v w',(Instr.buildSlice t len (ps.toList.map fun (i,x)=>(i,a.eval x)).toArray).run P c.w = .ok v w'→(execOp a.eval o).run P c.w = .ok (.value v) w':=by
   intro v w' hr
   have he:ps.map (fun (i,x)=>(i,a.eval x))=(ps.toList.map fun (i,x)=>(i,a.eval x)).toArray:=by
    apply abb; simp
   simp only [execOp,ho,Sem.run_bind]
   rw [he,hr]
   rfl
  rcases np hp h with⟨he,_⟩| ⟨cs,C,e,he,hr,hv,h1⟩
  ·cases he; exact absurd rfl hne
  ·cases he
   have MX:C.size=O0.length:=by rw [←aaG,←hv.length]
   refine⟨_,_,hex _ _ hr,fun c' e' hw=>⟨_,mb (w1:=c.w) hw,by rw [MX,Z2]; exact ZI _,ka (w1:=c.w) hw (VRs.ext e' _ _ hv) (fun i _=>by simp) h1⟩,fun c' hh hw hβ=>?_⟩
   simp only [VR]
   refine .inr ⟨(by have:=f.rel.ver 0; rw [f.h] at this; omega),by rw [hh]; exact aas _,_,_,rfl,ZI _,rfl,fun _=>.inl ?_⟩
   rw [hβ]
   refine⟨rfl,?_⟩
   simp only [Cx.len,World.shape?,hw,iU]
   simp only [ZJ,aaA,MX,hlen,Z2]) (by rintro k off hh; cases hh)
 exact fin
theorem qz {c:Cx}{Lo:Nat→Prop}{lam:Nat→Nat}{a:Act}(f:Fr L0 c Lo lam ds s a){tx:TypeId}{size m:Nat}{x:AV}{v:Value}{new:List AV}(hx:SR c L0 Lo lam s.bx x v)
  (hk:(∃e',P.underlying tx=some (.slice e'))∨P.underlying tx=some .string) (BX:∀st,x = .str st→P.underlying tx=some .string) (Mn:(∀st,x≠.str st)→∃e',P.underlying tx=some (.slice e')) (h:fc s.h size x=some (new,m)) :
  ∃news,Src P size tx v m news c.w∧VRs c (un L0 Lo) new news:=by
 unfold fc at h
 cases x<;>simp only at h<;>try (cases h; done)
 ·rename_i st
  split at h
  ·rename_i h1
   subst h1
   cases h
   simp only [SR,VR] at hx
   subst hx
   refine⟨_,Src.ofString c.w (BX st rfl) st,?_⟩
   unfold byteCells
   generalize st.data.toList=l
   induction l with
   | nil=>trivial
   | cons b l ih=>exact⟨by simp [VR],ih⟩
  ·cases h
 ·cases h
  obtain⟨e',he⟩:=Mn (by rintro st h; cases h)
  simp only [SR,VR] at hx
  subst hx
  exact⟨[],Src.ofNil c.w he 0,trivial⟩
 ·rename_i cs k ex
  split at h
  ·rename_i hl
   cases h
   obtain⟨e',he⟩:=Mn (by rintro st h; cases h)
   simp only [SR,VR] at hx
   obtain⟨ad,cap,rfl,h1,h2,_,hc⟩:=hx
   rcases hc with rfl | ⟨b,o',rfl,hr,hex,hc⟩
   ·have hl0:m*size=0:=by simpa using hl.symm
    cases ad with
    | none=>
     refine⟨[],⟨.inl ⟨e',he⟩,fun _=>rfl,run_firstCells_none c.w size m m cap,run_firstCells_none c.w.drew size m m cap,by simpa using hl,fun _ h=>by cases h⟩,trivial⟩
    | some ad=>exact⟨[],Src.ofSlice c.w he ad m cap [] (by simpa using hl) (fun j u hu=>by simp at hu) (fun u hu=>by cases hu),trivial⟩
   ·obtain⟨vs,q1,q2,q3⟩:=hc.vals
    refine⟨vs,Src.ofSlice c.w he _ m cap vs (by rw [←q1.length]; exact hl) (fun j u hu=>?_) q3,q1⟩
    rw [addr_add,q2 j (by rw [q1.length]; exact (ZH.1 hu).1)]
    exact hu
  ·cases h
 ·rename_i id off k iR
  split at h
  ·rename_i hid
   split at h
   rotate_left
   ·cases h
   rename_i OZ
   cases h
   obtain⟨e',he⟩:=Mn (by rintro st h; cases h)
   simp only [SR,VR] at hx
   rcases hx with⟨_,_,_,a,rfl⟩| ⟨_,_,a,cap,rfl,_,h2,_⟩
   rotate_left
   ·cases a with
    | none=>cases h2
    | some ad=>subst OZ; exact⟨[],Src.ofSlice c.w he ad 0 cap [] (by simp) (fun j u hu=>by simp at hu) (fun u hu=>by cases hu),trivial⟩
   cases a with
   | none=>exact⟨[],Src.ofNil c.w he 0,trivial⟩
   | some ad=>exact⟨[],Src.ofSlice c.w he ad 0 0 [] (by simp) (fun j u hu=>by simp at hu) (fun u hu=>by cases hu),trivial⟩
  rename_i kI
  rw [ZC] at h
  obtain⟨ob,hob,h⟩:=h
  cases ob with
  | map es=>cases h
  | row t cs=>cases h
  | cells cs=>
  simp only at h
  split at h
  ·rename_i hh
   obtain⟨rfl,hle⟩:=hh
   cases h
   obtain⟨e',he⟩:=Mn (by rintro st h; cases h)
   simp only [SR,VR] at hx
   rcases hx with hx | ⟨_,hid,ad,cap,rfl,h1,h2,h3⟩
   ·exact absurd (.inl hx.1) kI
   rw [←f.h] at hob
   have hl:Live c.h id:=⟨f.rel.lt _ _ hob,by simp [hob]⟩
   obtain⟨q,hp,hm,hc⟩:=f.rel.obj _ _ hob
   have hc2:=(hc.drop off).take (m*iR)
   have hlen:((cs.drop off).take (m*iR)).length=m*iR:=by simp; omega
   obtain⟨vs,q1,q2,q3⟩:=hc2.vals
   rcases h3 hl with⟨h5,h4⟩| hcap
   ·subst h5
    refine⟨vs,Src.ofSlice c.w he _ m cap vs (by rw [←q1.length]; exact hlen) (fun j u hu=>?_) q3,q1⟩
    rw [addr_add,q2 j (by rw [q1.length]; exact (ZH.1 hu).1)]
    exact hu
   ·have sU:m=0:=by omega
    subst sU
    simp only [Nat.zero_mul,List.take_zero] at q1 ⊢
    cases ad with
    | none=>simp at h2
    | some ad=>exact⟨[],Src.ofSlice c.w he ad 0 cap [] (by simp) (fun j u hu=>by simp at hu) (fun u hu=>by cases hu),trivial⟩
  ·cases h
end
end Go.R
namespace Go.R
open Go
section
variable {P:Program}{L0:Nat→Prop}{c0:Cx}{n:Nat}{ds:List Nat}{o:Oper}{s:RS}
theorem grownCap_ge (w:World){need old:Nat}{e:TypeId}:need≤grownCap w need old e:=by
 unfold grownCap
 simp only [Question.cut]
 omega
theorem s9 (z:Array Value)(k:Nat):(Builtin.zeroCells z k).size=k*z.size:=by simp [Builtin.zeroCells]
theorem iK (w:World){t tx ty e:TypeId}{i:TypeInfo}(ht:P.underlying t=some (.slice e))(hi:P.info? e=some i){base:Option Addr}{len cap:Nat}(hlc:len≤cap){x:Value}{news:List Value}(hs:Src P i.size tx x 0 news w) :
  (Builtin.append_ #[t,tx] ty #[.slice base len cap,x]).run P w = .ok (.slice base len cap) w:=by
 have MY:news=[]:=Z6 (by rw [hs.newsLen]; simp)
 have hc:=hs.cells
 rw [MY] at hc
 rcases hs.kind with⟨e',hk⟩| hk<;>cases base<;>simp [Builtin.append_,run_underlying ht,run_underlying hk,sizeOf,typeInfo,hi,hs.len,hlc,hc,storeCells]
theorem wH {c:Cx}{b m:Nat}(hp:Plain c b m){j:Nat}(hj:j<m):c.w.frozen? ⟨b,j,none⟩=false:=by
 obtain⟨C,e,lo,hi,hb,hf,rfl⟩:=hp
 simp only [World.frozen?,hb]
 rcases hf with hf | hf
 ·subst hf; simp
 ·simp; omega
theorem Fr.grown {c:Cx}{Lo:Nat→Prop}{lam:Nat→Nat}{a:Act}(f:Fr L0 c Lo lam ds s a)(hbs:c.base≤c.w.heap.size){e:TypeId}{z:Value}{size need cap:Nat}(E5:z.cells.size=size)(hcap:need≤cap){xs:List AV}{vs:List Value}(hv:VRs c (un L0 Lo) xs vs)(h1:∀v∈vs,v.oneCell'=true)
  (hl:vs.length=need*size) (h':AHeap) (hg:h'.get c.h.next=some (.cells xs)) (hst:Steady c.h h') (hn:c.h.next<h'.next) (ho:∀id,id≠c.h.next→h'.get id=none∨h'.get id=c.h.get id) :
  ∃c':Cx,c'.w=c.w.drew.alloc (.cells (vs.toArray++Builtin.zeroCells z.cells (cap - need)) e)∧c'.h=h'∧Ext c Lo c' Lo∧Fr L0 c' Lo lam ds {s with h:=h'} a∧VR c' (un L0 Lo) (.rs c.h.next 0 need size) (.slice (some ⟨c.w.heap.size,0,none⟩) need cap):=by
 have MX:(vs.toArray++Builtin.zeroCells z.cells (cap - need)).size=cap*size:=by
  rw [Array.size_append,s9,E5,List.size_toArray,hl,←aaN]
  congr 1; omega
 have VP:=hv.length
 obtain⟨β',e',f',hβ,hlive⟩:=f.Fv hbs c.w.drew ⟨rfl,rfl,rfl,rfl⟩ (.cells xs) (.cells (vs.toArray++Builtin.zeroCells z.cells (cap - need)) e) h' hg hst hn ho (fun c' e' hw=>by
  refine⟨_,mb (w1:=c.w.drew) hw,?_,ka (w1:=c.w.drew) hw (VRs.ext e' _ _ hv) (fun i hi=>?_) h1⟩
  ·rw [MX,Z2,VP,hl]; exact aay _ hcap
  ·rw [Array.getElem?_append_left (by simpa using hi)]; simp)
 refine⟨_,rfl,rfl,e',f',?_⟩
 simp only [VR]
 refine .inr ⟨(by have:=f.rel.ver 0; omega),hlive.1,_,_,rfl,hcap,rfl,fun _=>.inl ?_⟩
 rw [hβ]
 refine⟨rfl,?_⟩
 have:(c.w.drew.alloc (.cells (vs.toArray++Builtin.zeroCells z.cells (cap - need)) e)).heap[c.w.heap.size]? = some (.cells (vs.toArray++Builtin.zeroCells z.cells (cap - need)) e):=iU c.w.drew _
 simp only [Cx.len,World.shape?,this,ZJ,aaA,MX]
 omega
theorem D1 (hb0:c0.base≤c0.w.heap.size)(hd:gQ n ds o){t t2:TypeId}{sx xx:Operand}(ho:o.op = .call {callee:=.builtin .append,args:=#[sx,xx],argTypes:=#[t,t2]}){s':RS}
  (h:((ei P s.h t t2 (bX s.ρ sx) (bX s.ρ xx)).map fun (v,h)=>{s with h}.set o.dst v)=some s'):jD P L0 c0 n ds o s s':=by
 rw [ZD] at h
 obtain⟨⟨y,h'⟩,ha,rfl⟩:=h
 unfold ei at ha
 rw [ZC] at ha
 obtain⟨d,Fx,ha⟩:=ha
 cases d<;>simp only at ha<;>try (cases ha; done)
 rename_i e
 rw [ZC] at ha
 obtain⟨i,hi,ha⟩:=ha
 rw [ZC] at ha
 obtain⟨⟨new,m⟩,Kp,ha⟩:=ha
 simp only at ha
 obtain⟨Kq,hcs,hnew⟩:∃Kq,fc s.h i.size (bX s.ρ xx)=some (Kq,m)∧new=Kq.map kg:=by
  unfold gm at Kp
  rw [ZD] at Kp
  obtain⟨⟨p,q⟩,h1,h2⟩:=Kp
  simp only [ZL] at h2
  obtain⟨rfl,rfl⟩:=h2
  exact⟨p,h1,rfl⟩
 split at ha
 ·cases ha
 rename_i kq
 have hsz0:i.size≠0:=fun h=>kq (.inl h)
 have gZ:ja P t2 (bX s.ρ xx)=true:=by
  cases hq:ja P t2 (bX s.ρ xx) with
  | true=>rfl
  | false=>exact absurd (.inr (.inl hq)) kq
 obtain⟨zv,z,Af,AG,E4⟩:∃zv z,i.zero=some zv∧Fg zv=some z∧z.cells.length=i.size:=by
  have hz:JE i=true:=by
   cases hq:JE i with
   | true=>rfl
   | false=>exact absurd (.inr (.inr hq)) kq
  unfold JE at hz
  cases hq:i.zero.bind Fg with
  | none=>rw [hq] at hz; cases hz
  | some z=>
   rw [hq] at hz
   obtain⟨zv,h1,h2⟩:=ZC.1 hq
   exact⟨zv,z,h1,h2,by simpa using hz⟩
 have E5:∀c L,zv.cells.size=i.size:=fun (c:Cx) (L:Nat→Prop)=>by
  have:=(jb (oS AG) (ma (c:=c) (L:=L) AG)).1.length
  rw [E4] at this
  simpa using this.symm
 have yn:(∃e',P.underlying t2=some (.slice e'))∨P.underlying t2=some .string:=by
  unfold ja at gZ
  split at gZ
  ·right; revert gZ; split<;>simp_all
  ·left; revert gZ; split<;>simp_all
 have BX:∀st,bX s.ρ xx = .str st→P.underlying t2=some .string:=by
  intro st he
  rw [he] at gZ
  simp only [ja] at gZ
  revert gZ; split<;>simp_all
 have Mn:(∀st,bX s.ρ xx≠.str st)→∃e',P.underlying t2=some (.slice e'):=by
  intro hne
  unfold ja at gZ
  split at gZ
  ·rename_i st he; exact absurd he (hne st)
  ·revert gZ; split<;>simp_all
 rintro a w K Q ⟨hn,c,Lo,lam,rfl,f,e0⟩ hK
 have hbs:=jz e0 hb0
 obtain⟨news,hS,JK⟩:=qz (P:=P) f (bP f xx) yn BX Mn hcs
 replace JK:VRs c (un L0 Lo) new news:=hnew ▸ sR JK
 have hex:∀v w',(Builtin.append_ #[t,t2] o.type #[a.eval sx,a.eval xx]).run P c.w = .ok v w'→(execOp a.eval o).run P c.w = .ok (.value v) w':=by
  intro v w' hr
  unfold execOp
  simp only [ho,resolve,invoke,builtin,Sem.run_bind,Sem.run_pure,Result.andThen_ok,List.map_toArray,Z0,aa8,hr]
 have fin:∀c' v,(Builtin.append_ #[t,t2] o.type #[a.eval sx,a.eval xx]).run P c.w = .ok v c'.w→Ext c Lo c' Lo→Fr L0 c' Lo lam ds {s with h:=h'} a→VR c' (un L0 Lo) y v→o.wp P a c.w K Q:=by
  intro c' v hr e' f' hv
  unfold Oper.wp
  rw [hex v _ hr,Oper.upon_value]
  exact hK _ _ ⟨(gP _ _ _).trans hn,c',Lo,lam,rfl,f'.set (SR.of hv) (fun t ht=>by rw [hn]; exact hd t ht),e0.trans e'⟩
 have BY:=bP f sx
 have h63:∀k:Nat,k≤gX→(k:Int)≤9223372036854775807:=fun k hk=>by simp only [gX] at hk; omega
 have hfit:∀need old,old<need→need*i.bytes≤gX→Builtin.nextslicecap need old*i.bytes≤281474976710656:=fun need old h1 h2=>growslice_fits h1 (by simp only [gX] at h2; omega)
 have hnl:=JK.length
 have hone:=hS.one
 have yt:=hS.newsLen
 cases hq:bX s.ρ sx with
 | nils=>
  rw [hq] at ha BY
  simp only [SR,VR] at BY
  obtain⟨ad,Ad,VQ⟩:∃ad:Option Addr,a.eval sx = .slice ad 0 0∧ad=none:=⟨none,BY,rfl⟩
  simp only at ha
  split at ha
  ·cases ha
  rename_i hroom
  split at ha
  ·rename_i sU
   subst sU
   cases ha
   refine fin c (.slice ad 0 0) ?_ (Ext.refl _ _) f (by simp only [VR]; exact .inl ⟨trivial,trivial,trivial,ad,rfl⟩)
   rw [Ad]
   exact iK c.w Fx hi (ZI _) hS
  ·rename_i sU
   cases ha
   have hold:(Builtin.firstCells i.size 0 (.slice ad 0 0)).run P c.w.drew = .ok ([]:List Value).toArray c.w.drew:=by
    cases ad with
    | none=>exact run_firstCells_none _ _ _ _ _
    | some ad=>exact run_firstCells_some _ _ _ _ _ _ [] (by simp) (fun j v hj=>by simp at hj)
   have hr:=run_append_grow_src c.w t t2 o.type e i zv Fx hi Af ad 0 0 [] hold (a.eval xx) m news hS (by omega) (by rw [Z2]; exact h63 _ (by omega)) (hfit _ _ (by omega) (by rw [Z2]; omega))
   simp only [Z2,aal] at hr
   obtain⟨c',hw,hh,e',f',hv⟩:=f.grown hbs (e:=e) (E5 c L0) (grownCap_ge c.w (need:=m) (old:=0) (e:=e)) JK hone yt (s.h.alloc (.cells new)) (by rw [f.h]; simp [AHeap.alloc,AHeap.put,beq_nat]) (by rw [f.h]; exact Steady.put _ _ _) (by rw [f.h]; exact aas _) (fun id hne=>.inr (by rw [f.h] at hne ⊢; simp [AHeap.alloc,AHeap.put,beq_nat,hne]))
   refine fin c' _ ?_ e' f' (by rw [←f.h]; exact hv)
   rw [Ad,hw]
   exact hr
 | fz cs len ex=>
  rw [hq] at ha BY
  cases ex with
  | false=>simp only at ha; cases ha
  | true=>
  simp only [SR,VR] at BY
  obtain⟨ad,cap,Ad,h1,h2,rq,hc⟩:=BY
  have hcap:=h2 trivial
  subst hcap
  simp only at ha
  split at ha
  ·cases ha
  rename_i hroom
  split at ha
  ·rename_i sU
   subst sU
   refine fin c (.slice ad cap cap) ?_ (Ext.refl _ _) (by split at ha<;>cases ha<;>exact f) ?_
   ·rw [Ad]
    exact iK c.w Fx hi (ZI _) hS
   ·split at ha
    ·rename_i hz
     cases ha
     subst hz
     simp only [VR]
     exact .inl ⟨trivial,trivial,trivial,ad,rfl⟩
    ·cases ha
     simp only [VR]
     exact⟨ad,cap,rfl,h1,h2,rq,hc⟩
  ·rename_i sU
   cases ha
   have hcl:cs.length=cap*i.size:=by
    by_cases h3:cs.length=cap*i.size
    ·exact h3
    ·exact absurd (.inr (.inr h3)) hroom
   obtain⟨tc,Mo,PN,JL⟩:∃tc:List Value,VRs c (un L0 Lo) cs tc∧(Builtin.firstCells i.size cap (.slice ad cap cap)).run P c.w.drew = .ok tc.toArray c.w.drew∧∀v∈tc,v.oneCell'=true:=by
    rcases hc with rfl | ⟨b,o',rfl,hr,VS,hc⟩
    ·refine⟨[],trivial,?_,fun _ h=>by cases h⟩
     cases ad with
     | none=>exact run_firstCells_none _ _ _ _ _
     | some ad=>exact run_firstCells_some _ _ _ _ _ _ [] (by simpa using hcl) (fun j v hj=>by simp at hj)
    ·obtain⟨vs,q1,q2,q3⟩:=hc.vals
     refine⟨vs,q1,run_firstCells_some _ _ _ _ _ _ vs (by rw [←q1.length]; exact hcl) (fun j v hj=>?_),q3⟩
     rw [World.cell?_drew,addr_add,q2 j (by rw [q1.length]; exact (ZH.1 hj).1)]
     exact hj
   have Io:=Mo.length
   have hr:=run_append_grow_src c.w t t2 o.type e i zv Fx hi Af ad cap cap tc PN (a.eval xx) m news hS (by omega) (h63 _ (by omega)) (hfit _ _ (by omega) (by omega))
   obtain⟨c',hw,hh,e',f',hv⟩:=f.grown hbs (e:=e) (E5 c L0) (grownCap_ge c.w (need:=cap+m) (old:=cap) (e:=e)) (VRs.append Mo JK) (fun v hv=>(aaa.1 hv).elim (JL v) (hone v)) (by rw [ZM,yt,←Io,hcl,aaN]) (s.h.alloc (.cells (cs++new))) (by rw [f.h]; simp [AHeap.alloc,AHeap.put,beq_nat]) (by rw [f.h]; exact Steady.put _ _ _) (by rw [f.h]; exact aas _) (fun id hne=>.inr (by rw [f.h] at hne ⊢; simp [AHeap.alloc,AHeap.put,beq_nat,hne]))
   refine fin c' _ ?_ e' f' (by rw [←f.h]; exact hv)
   rw [Ad,hw]
   exact hr
 | rs id off len iR=>
  rw [hq] at ha BY
  simp only [SR,VR] at BY
  simp only at ha
  split at ha
  ·rename_i hid
   rcases BY with⟨_,hoff,MZ,ad,Ad⟩| BY
   rotate_left
   ·exact absurd hid BY.1
   split at ha
   ·cases ha
   rename_i hroom
   split at ha
   ·rename_i sU
    subst sU
    cases ha
    refine fin c (.slice ad 0 0) ?_ (Ext.refl _ _) f (by simp only [VR]; exact .inl ⟨hid,hoff,MZ,ad,rfl⟩)
    rw [Ad]
    exact iK c.w Fx hi (ZI _) hS
   ·rename_i sU
    cases ha
    have hold:(Builtin.firstCells i.size 0 (.slice ad 0 0)).run P c.w.drew = .ok ([]:List Value).toArray c.w.drew:=by
     cases ad with
     | none=>exact run_firstCells_none _ _ _ _ _
     | some ad=>exact run_firstCells_some _ _ _ _ _ _ [] (by simp) (fun j v hj=>by simp at hj)
    have hr:=run_append_grow_src c.w t t2 o.type e i zv Fx hi Af ad 0 0 [] hold (a.eval xx) m news hS (by omega) (by rw [Z2]; exact h63 _ (by omega)) (hfit _ _ (by omega) (by rw [Z2]; omega))
    simp only [Z2,aal] at hr
    obtain⟨c',hw,hh,e',f',hv⟩:=f.grown hbs (e:=e) (E5 c L0) (grownCap_ge c.w (need:=m) (old:=0) (e:=e)) JK hone yt (s.h.alloc (.cells new)) (by rw [f.h]; simp [AHeap.alloc,AHeap.put,beq_nat]) (by rw [f.h]; exact Steady.put _ _ _) (by rw [f.h]; exact aas _) (fun id hne=>.inr (by rw [f.h] at hne ⊢; simp [AHeap.alloc,AHeap.put,beq_nat,hne]))
    refine fin c' _ ?_ e' f' (by rw [←f.h]; exact hv)
    rw [Ad,hw]
    exact hr
  rename_i kI
  rcases BY with BY | ⟨_,hid,ad,cap,Ad,h1,h2,h3⟩
  ·exact absurd BY.1 kI
  simp only [ZC] at ha
  obtain⟨ob,hob,ha⟩:=ha
  cases ob with
  | map es=>cases ha
  | row t cs=>cases ha
  | cells cs=>
  simp only at ha
  split at ha
  ·cases ha
  rename_i hroom
  have uF:iR=i.size:=Decidable.byContradiction fun h=>hroom (.inl h)
  subst uF
  have hle:off+len*i.size≤cs.length:=Decidable.byContradiction fun h=>hroom (.inr (.inl (by omega)))
  rw [←f.h] at hob
  have hl:Live c.h id:=⟨f.rel.lt _ _ hob,by simp [hob]⟩
  obtain⟨q,hp,hm,hc⟩:=f.rel.obj _ _ hob
  split at ha
  ·rename_i sU
   subst sU
   cases ha
   refine fin c (.slice ad len cap) ?_ (Ext.refl _ _) f ?_
   ·rw [Ad]
    exact iK c.w Fx hi h1 hS
   ·simp only [VR]
    exact .inr ⟨kI,hid,ad,cap,rfl,h1,h2,h3⟩
  ·rename_i sU
   cases ha
   have hc2:=(hc.drop off).take (len*i.size)
   have BZ:((cs.drop off).take (len*i.size)).length=len*i.size:=by simp; omega
   obtain⟨tc,Mo,TO,JL⟩:=hc2.vals
   have Io:=Mo.length
   have hget:((s.h.kill id).put s.h.next (.cells ((cs.drop off).take (len*i.size)++new))).get c.h.next=some (.cells ((cs.drop off).take (len*i.size)++new)):=by rw [f.h]; simp [AHeap.put,beq_nat]
   have hnx:c.h.next<((s.h.kill id).put s.h.next (.cells ((cs.drop off).take (len*i.size)++new))).next:=by rw [f.h]; simp only [AHeap.put,AHeap.kill]; omega
   have hoth:∀kY,kY≠c.h.next→((s.h.kill id).put s.h.next (.cells ((cs.drop off).take (len*i.size)++new))).get kY=none∨((s.h.kill id).put s.h.next (.cells ((cs.drop off).take (len*i.size)++new))).get kY=c.h.get kY:=by
    intro kY hne
    rw [f.h] at hne ⊢
    by_cases h4:kY=id
    ·left; simp [AHeap.put,AHeap.kill,beq_nat,hne,h4]; rw [←h4]; simp [hne]
    ·right; simp [AHeap.put,AHeap.kill,beq_nat,hne,h4]
   by_cases Fz:len+m≤cap
   ·
    rcases h3 hl with⟨h4,h5⟩| h4
    rotate_left
    ·omega
    subst h4
    have M0:c.len (c.β id).1=q:=by
     obtain⟨C,e',hb,oR⟩:=hp
     simp [Cx.len,World.shape?,hb,oR]
    rw [M0] at h5
    have M3:(len+m)*i.size≤cap*i.size:=aay _ Fz
    rw [aaN] at M3
    have M4:=hp
    obtain⟨C,e',hb,oR⟩:=hp
    have hr:=run_append_room_src c.w t t2 o.type e i Fx hi (c.β id).1 ((c.β id).2+off) len cap (a.eval xx) m news hS Fz
     (fun j hj=>by
      rw [cell_of_block hb]
      have:(c.β id).2+off+len*i.size+j<C.size:=by omega
      simp [this])
     (fun j hj=>wH M4.kP (by omega))
    have BP:iP c (c.β id).1 q:=M4
    obtain⟨q1,q2,q3,q4⟩:=gV news (c.β id).1 ((c.β id).2+off+len*i.size) c.w
    obtain⟨C',g1,g2,g3⟩:=fV news (c.β id).1 ((c.β id).2+off+len*i.size) c.w C e' (0,0) hb (by omega)
    have:=f.upd (w':=c.w.setCells (c.β id).1 ((c.β id).2+off+len*i.size) news) (β':=fun k=>if k=c.h.next then ((c.β id).1,(c.β id).2+off) else c.β k) (h':=(s.h.kill id).put s.h.next (.cells ((cs.drop off).take (len*i.size)++new))) c.h.next (.cells ((cs.drop off).take (len*i.size)++new))
     (by rw [f.h]; exact (Steady.kill _ _).trans (Steady.put _ _ _)) hnx hget (fun kY hne=>(hoth kY hne).imp (fun h=>h) (fun h=>⟨h,by simp [hne]⟩)) (fun h=>absurd h (Nat.lt_irrefl _))
     (.inr ⟨id,hl,by simp,.inr (by
      have:id≠s.h.next:=by rw [←f.h]; have:=hl.1; omega
      simp [AHeap.put,AHeap.kill,beq_nat,this])⟩)
     (fun _=>by simp [World.shape?,g1,Cx.len,hb,g2])
     (fun b _ hne=>er _ _ _ _ _ (by simpa using hne)) (fun b _ hne=>er _ _ _ _ _ (by simpa using hne)) (by rw [q1]; exact ZI _) hbs q2 q3 q4
     (fun ee=>by
      simp only [if_true]
      refine⟨q,BP.setCells (by omega) _ _ _,?_,?_⟩
      ·rw [ZM,BZ,hnl,yt]; omega
      ·refine Cells.of_vals (VRs.append (VRs.ext ee _ _ Mo) (VRs.ext ee _ _ JK)) (fun j hj=>?_) (fun v hv=>(aaa.1 hv).elim (JL v) (hone v))
       rw [cell_of_block g1,g3]
       rw [ZM] at hj
       by_cases h6:j<tc.length
       ·rw [if_neg (by omega),←cell_of_block hb,ZS h6]
        exact TO j (by omega)
       ·rw [if_pos (by omega),ZT (by omega)]
        congr 1
        omega)
    obtain⟨Kr,VT⟩:=this
    refine fin _ (.slice (some ⟨(c.β id).1,(c.β id).2+off,none⟩) (len+m) cap) ?_ Kr VT ?_
    ·rw [Ad]; exact hr
    ·simp only [VR,←f.h]
     refine .inr ⟨(by have:=f.rel.ver 0; omega),by rw [←f.h] at hnx; exact hnx,_,_,rfl,Fz,rfl,fun _=>.inl ?_⟩
     simp only [if_true,aaW,true_and]
     simp only [Cx.len,World.shape?,g1,ZJ,aaA,g2]
     omega
   ·
    obtain⟨PN⟩:Nonempty ((Builtin.firstCells i.size len (.slice ad len cap)).run P c.w.drew = .ok tc.toArray c.w.drew):=by
     rcases h3 hl with⟨h4,h5⟩| h4
     ·subst h4
      refine⟨run_firstCells_some _ _ _ _ _ _ tc (by rw [←Io,BZ]) (fun j v hj=>?_)⟩
      rw [World.cell?_drew,addr_add,TO j (by rw [Io]; exact (ZH.1 hj).1)]
      exact hj
     ·have hz:len=0:=by omega
      subst hz
      have:tc=[]:=Z6 (by rw [←Io,BZ]; simp)
      subst this
      cases ad with
      | none=>exact⟨run_firstCells_none _ _ _ _ _⟩
      | some ad=>exact⟨run_firstCells_some _ _ _ _ _ _ [] (by simp) (fun j v hj=>by simp at hj)⟩
    have hr:=run_append_grow_src c.w t t2 o.type e i zv Fx hi Af ad len cap tc PN (a.eval xx) m news hS (by omega) (h63 _ (by omega)) (hfit _ _ (by omega) (by omega))
    obtain⟨c',hw,hh,e',f',hv⟩:=f.grown hbs (e:=e) (E5 c L0) (grownCap_ge c.w (need:=len+m) (old:=cap) (e:=e)) (VRs.append Mo JK) (fun v hv=>(aaa.1 hv).elim (JL v) (hone v)) (by rw [ZM,yt,←Io,BZ,aaN]) _ hget (by rw [f.h]; exact (Steady.kill _ _).trans (Steady.put _ _ _)) hnx hoth
    refine fin c' _ ?_ e' f' (by rw [←f.h]; exact hv)
    rw [Ad,hw]
    exact hr
 | _=>rw [hq] at ha; simp only at ha; cases ha
end
end Go.R
