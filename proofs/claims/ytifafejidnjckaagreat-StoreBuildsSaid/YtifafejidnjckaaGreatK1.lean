/- Part of the proof: ROps3, RMem, ROps4, RNew, RApp, RApp2, RApp3. -/
import Derived.Test.YtifafejidnjckaaGreatK0
import Derived.MapKept
import Derived.Laws.Slices
import Derived.Laws.IdiomCopy
import Derived.Deep.AppendSrc
import Derived.IntWalk
set_option linter.unusedVariables false
set_option linter.unusedSimpArgs false
set_option maxRecDepth 100000
open Array renaming getElem?_eq_some_iff → acb, getElem?_setIfInBounds → acD, length_toList → acJ, getElem?_modify → acL, ext' → ac9
open Bool renaming and_eq_true → abA, false_eq_true → abK, or_eq_true → acu
open List renaming getElem?_eq_some_iff → abG, mem_of_getElem? → abJ, getElem?_append_right → abN, mem_append → abP, length_append → abQ, length_cons → abR, getElem?_append_left → abS, all_eq_true → abW, mem_map → abZ, mem_cons → ab0, getElem?_map → ab1, map_cons → ab5, eq_nil_of_length_eq_zero → acf, take_of_length_le → ach, nil_append → aci, all_cons → acr
open Nat renaming le_refl → abB, zero_add → abY, lt_of_lt_of_le → ab3, beq → acj, lt_succ_self → ack, le_trans → acv, add_assoc → acC, mul_le_mul_right → acF, eq_of_beq_eq_true → acK, add_mul → acT, add_right_comm → ac1, ble → ac4, add_comm → ac8
open Option renaming bind_eq_some_iff → abx, map_eq_some_iff → aby, map_some → abE, isSome_iff_exists → acd, getD_some → acz
open Option.some renaming injEq → abz
open Prod.mk renaming injEq → abH
namespace Go.R
open Go
section
variable {P:Program}{L0:Nat→Prop}{c0:Cx}{n:Nat}{ds:List Nat}{o:Oper}{s:RS}
theorem xf (a b:ByteArray):(a==b)=(a.data.toList==b.data.toList):=by
 cases a with | mk x=>cases b with | mk y=>
 show (x==y)=(x.toList==y.toList)
 rw [Bool.eq_iff_iff]
 simp [Array.toList_inj]
def place (k:AV):List (AV × AV)→List MapEntry→Nat→Option (Nat × Value)
 | (k',_)::es,m::ms,i=>if gK k k' then some (i,m.val) else place k es ms (i+1)
 | _,_,_=>none
theorem lI {c:Cx}{L:Nat→Prop}{d:TypeDesc}{k:AV}{kv:Value}(hd:(∃q,d = .int q)∨d = .string)(hk:k.ie=some kv)(Ad:(∃q a,k = .int q a)∨∃b,k = .str b) :
  ∀(es:List (AV × AV)) (ms:List MapEntry) (i:Nat),lX c L es ms→iQ k es≠none→(∀q a,k = .int q a→∃q',d = .int q')→(∀b,k = .str b→d = .string)→Instr.findNow d kv ms i=some (place k es ms i)
 | [],[],i,_,_,_,_=>rfl
 | (k',v)::es,m::ms,i,he,hf,h1,h2=>by
  simp only [iQ] at hf
  have hs:sameShape k k'=true:=by
   by_cases hs:sameShape k k'=true
   ·exact hs
   ·simp [hs] at hf
  simp only [hs,if_true] at hf
  obtain⟨⟨G7,_⟩,DJ,wC⟩:=he
  have Tw:Instr.sameNow d kv m.key=some (gK k k'):=by
   rcases Ad with⟨q,a,rfl⟩| ⟨b,rfl⟩
   ·obtain⟨q',rfl⟩:=h1 q a rfl
    cases k'<;>simp only [sameShape] at hs<;>try (cases hs; done)
    rename_i q2 a2
    simp only [beq_iff_eq] at hs
    subst hs
    simp only [VR] at G7
    simp only [AV.ie,abz] at hk
    subst hk
    rw [G7]
    simp [Instr.sameNow,gK,jd]
   ·have:=h2 b rfl
    subst this
    cases k' with
    | str b2=>
     simp only [VR] at G7
     simp only [AV.ie,abz] at hk
     subst hk
     rw [G7]
     simp only [Instr.sameNow,gK,jd,abz]
     exact xf b b2
    | _=>cases hs
  simp only [Instr.findNow,Tw]
  cases hq:gK k k' with
  | true=>simp [place,hq]
  | false=>
   simp only [hq,abK,if_false] at hf
   simp only [place,hq,abK,if_false]
   exact lI hd hk Ad es ms (i+1) wC hf h1 h2
 | [],_::_,_,h,_,_,_=>h.elim
 | _::_,[],_,h,_,_,_=>h.elim
theorem jQ {c:Cx}{L:Nat→Prop}{kt:TypeId}{k:AV}{kv:Value}(hk:gL P kt k=true)(Ae:VR c L k kv)(w:World) :
  ∀(es:List (AV × AV)) (ms:List MapEntry) (i:Nat),lX c L es ms→iQ k es≠none→(Instr.findAsking kt kv ms i).run P w = .ok (place k es ms i) w
 | [],[],i,_,_=>rfl
 | (k',v)::es,m::ms,i,he,hf=>by
  simp only [iQ] at hf
  have hs:sameShape k k'=true:=by
   by_cases hs:sameShape k k'=true
   ·exact hs
   ·simp [hs] at hf
  simp only [hs,if_true] at hf
  obtain⟨⟨G7,_⟩,DJ,wC⟩:=he
  have hq:=xe (P:=P) 9998 hk hs Ae G7 w
  simp only [Instr.findAsking,Op.equal,Op.maxDepth,Sem.run_bind,hq,Result.andThen_ok]
  cases h:gK k k' with
  | true=>simp [place,h]
  | false=>
   simp only [h,abK,if_false] at hf
   simp only [place,h,abK,if_false]
   exact jQ hk Ae w es ms (i+1) wC hf
 | [],_::_,_,h,_=>h.elim
 | _::_,[],_,h,_=>h.elim
theorem xg {c:Cx}{L:Nat→Prop}{kt:TypeId}{k:AV}{kv:Value}(hk:gL P kt k=true)(Ae:VR c L k kv)(w:World){es:List (AV × AV)}{ms:List MapEntry}(he:lX c L es ms)(hf:iQ k es≠none) :
  (Instr.findKey kt kv ms).run P w = .ok (place k es ms 0) w:=by
 have SH:=hk
 cases hd:P.underlying kt with
 | none=>simp [gL,hd] at hk
 | some d=>
 cases d<;>simp only [gL,hd] at hk<;>try (cases hk; done)
 ·rename_i q
  cases k<;>simp only at hk<;>try (cases hk; done)
  rename_i q2 a
  have hc:(AV.int q2 a).ie=some kv:=by simp only [VR] at Ae; simp [AV.ie,Ae]
  exact MapKept.run_findKey hd (lI (.inl ⟨q,rfl⟩) hc (.inl ⟨_,_,rfl⟩) es ms 0 he hf (fun _ _ _=>⟨q,rfl⟩) (fun b hb=>by cases hb))
 ·cases k<;>simp only at hk<;>try (cases hk; done)
  rename_i b
  have hc:(AV.str b).ie=some kv:=by simp only [VR] at Ae; simp [AV.ie,Ae]
  exact MapKept.run_findKey hd (lI (.inr rfl) hc (.inr ⟨_,rfl⟩) es ms 0 he hf (fun _ _ h=>by cases h) (fun b hb=>rfl))
 ·rw [run_findKey_eq w (by simp [hd])]
  exact jQ SH Ae w es ms 0 he hf
 ·rw [run_findKey_eq w (by simp [hd])]
  exact jQ SH Ae w es ms 0 he hf
theorem sK {c:Cx}{L:Nat→Prop}{k:AV}:∀(es:List (AV × AV)) (ms:List MapEntry) (i:Nat),lX c L es ms→(iQ k es=some none→place k es ms i=none)∧(∀v,iQ k es=some (some v)→∃j u,place k es ms i=some (j,u)∧VR c L v u)
 | [],[],i,_=>⟨fun _=>rfl,fun v h=>by simp [iQ] at h⟩
 | (k',v)::es,m::ms,i,he=>by
  obtain⟨⟨G7,_⟩,DJ,wC⟩:=he
  obtain⟨h1,h2⟩:=sK es ms (i+1) wC
  simp only [iQ,place]
  by_cases hs:sameShape k k'=true
  ·simp only [hs,if_true]
   by_cases hq:gK k k'=true
   ·simp only [hq,if_true]
    exact⟨fun h=>(by cases h),fun u hu=>(by cases hu; exact⟨i,m.val,rfl,DJ⟩)⟩
   ·simp only [hq,if_false,abK]
    exact⟨h1,h2⟩
  ·simp [hs]
 | [],_::_,_,h=>h.elim
 | _::_,[],_,h=>h.elim
theorem kE {t:TypeId}{z:AV}(h:jk P t=some z)(w:World):∃v,(zeroValue t).run P w = .ok v w∧G1 v=some z:=by
 unfold jk at h
 simp only [abx] at h
 obtain⟨i,hi,v,hv,hz⟩:=h
 exact⟨v,by simp [zeroValue,typeInfo,hi,hv],hz⟩
theorem Af {c:Cx}{Lo:Nat→Prop}{lam:Nat→Nat}{a:Act}(f:Fr L0 c Lo lam ds s a){t:TypeId}{m k y:AV}{mv kv:Value}{ok:Bool}(hm:SR c L0 Lo lam s.bx m mv)(hk:SR c L0 Lo lam s.bx k kv)
  (h:fD P s.h t m k ok=some y):∃r,(Instr.lookup t mv kv ok).run P c.w = .ok r c.w∧VR c (un L0 Lo) y r:=by
 unfold fD at h
 rw [abx] at h
 obtain⟨d,hd,h⟩:=h
 cases d<;>simp only at h<;>try (cases h; done)
 rename_i kt et
 split at h
 ·cases h
 rename_i wI
 have wI:gL P kt k=true:=by simpa using wI
 rw [abx] at h
 obtain⟨es,wC,h⟩:=h
 have Ae:VR c (un L0 Lo) k kv:=hk.vr (by rintro k0 off rfl; simp [gL] at wI)
 obtain⟨ms,PF,uB⟩:∃ms:Array MapEntry,((mv = .map none∧ms = #[])∨∃r clock,mv = .map (some r)∧c.w.heap[r]? = some (.map ms clock))∧lX c (un L0 Lo) es ms.toList:=by
  cases m<;>simp only at wC<;>try (cases wC; done)
  ·simp only [SR,VR] at hm
   cases wC
   exact⟨#[],.inl ⟨hm,rfl⟩,trivial⟩
  ·rename_i id
   rw [abx] at wC
   obtain⟨ob,ho,wC⟩:=wC
   cases ob with
   | cells cs=>cases wC
   | row t cs=>cases wC
   | map sI=>
   cases wC
   simp only [SR,VR] at hm
   obtain⟨hi,r,Tq,hr⟩:=hm
   rw [←f.h] at ho
   have hl:Live c.h id:=⟨f.rel.lt _ _ ho,by simp [ho]⟩
   obtain⟨lY,clock,h1,h2⟩:=f.rel.obj _ _ ho
   exact⟨lY,.inr ⟨r,clock,Tq,by rw [hr hl]; exact h1⟩,h2⟩
 rw [abx] at h
 obtain⟨fr,Tx,h⟩:=h
 have G8:=xg wI Ae c.w uB (by rw [Tx]; simp)
 have MW:=pa (P:=P) ms.isEmpty 9998 wI Ae c.w
 obtain⟨p1,p2⟩:=sK (k:=k) es ms.toList 0 uB
 have hget:∀r clock,c.w.heap[r]? = some (.map ms clock)→(getObj r).run P c.w = .ok (.map ms clock) c.w:=fun r clock h1=>by simp [getObj,Sem.run,h1]
 cases fr with
 | none=>
  rw [aby] at h
  obtain⟨z,hz,rfl⟩:=h
  obtain⟨zv,G9,Cz⟩:=kE hz c.w
  rw [p1 Tx] at G8
  refine⟨if ok then .tuple #[zv,.bool false] else zv,?_,?_⟩
  ·unfold Instr.lookup
   rcases PF with⟨rfl,rfl⟩| ⟨r,clock,rfl,h1⟩
   ·simp only [pure_bind,Sem.run_bind,bM hd,Result.andThen_ok,MW,G8,G9,Sem.run_pure]
   ·simp only [Sem.run_bind,bM hd,Result.andThen_ok,hget r clock h1,MW,G8,G9,Sem.run_pure]
  ·cases ok with
   | true=>simp only [if_true,VR]; exact⟨#[zv,.bool false],rfl,mE Cz,by simp [VR],trivial⟩
   | false=>simpa using mE Cz
 | some v=>
  obtain⟨j,u,hp,hv⟩:=p2 v Tx
  rw [hp] at G8
  cases h
  refine⟨if ok then .tuple #[u,.bool true] else u,?_,?_⟩
  ·unfold Instr.lookup
   rcases PF with⟨rfl,rfl⟩| ⟨r,clock,rfl,h1⟩
   ·simp only [pure_bind,Sem.run_bind,bM hd,Result.andThen_ok,MW,G8,Sem.run_pure]
   ·simp only [Sem.run_bind,bM hd,Result.andThen_ok,hget r clock h1,MW,G8,Sem.run_pure]
  ·cases ok with
   | true=>simp only [if_true,VR]; exact⟨#[u,.bool true],rfl,hv,by simp [VR],trivial⟩
   | false=>simpa using hv
theorem lX.length {c:Cx}{L:Nat→Prop}:∀{es:List (AV × AV)} {ms:List MapEntry},lX c L es ms→es.length=ms.length
 | [],[],_=>rfl
 | _::_,_::_,h=>by simp [lX.length h.2.2]
 | [],_::_,h=>h.elim
 | _::_,[],h=>h.elim
theorem Ha {c:Cx}{Lo:Nat→Prop}{lam:Nat→Nat}{a:Act}(f:Fr L0 c Lo lam ds s a){x y:AV}{v:Value}{t:TypeId}(ts:Array TypeId)(ht:ts[0]? = some t)(hx:SR c L0 Lo lam s.bx x v)(h:uq P s.h t x=some y)(ty:TypeId) :
  ∃r,(Builtin.len_ ts ty #[v]).run P c.w = .ok r c.w∧VR c (un L0 Lo) y r:=by
 unfold uq at h
 rw [abx] at h
 obtain⟨d,hd,h⟩:=h
 unfold Builtin.len_
 cases d<;>simp only at h<;>try (cases h; done)
 ·cases x<;>simp only at h<;>try (cases h; done)
  cases h
  simp only [SR,VR] at hx
  subst hx
  exact⟨.int .i64 _,by simp [ht,bM hd,goInt]; rfl,by simp only [VR]⟩
 ·cases x with
  | nils=>
   cases h
   simp only [SR,VR] at hx
   obtain⟨a,rfl⟩:=hx
   exact⟨.int .i64 _,by simp [ht,bM hd,goInt]; rfl,by simp only [VR]⟩
  | fz cs m ex=>
   cases h
   simp only [SR,VR] at hx
   obtain⟨a,cap,rfl,_⟩:=hx
   exact⟨.int .i64 _,by simp [ht,bM hd,goInt]; rfl,by simp only [VR]⟩
  | rs id off m jj=>
   cases h
   simp only [SR,VR] at hx
   rcases hx with⟨_,_,rfl,a,rfl⟩| ⟨_,_,a,cap,rfl,_⟩
   ·exact⟨.int .i64 _,by simp [ht,bM hd,goInt]; rfl,by simp only [VR]; rfl⟩
   ·exact⟨.int .i64 _,by simp [ht,bM hd,goInt]; rfl,by simp only [VR]⟩
  | _=>cases h
 ·cases x with
  | nu=>
   cases h
   simp only [SR,VR] at hx
   subst hx
   exact⟨.int .i64 _,by simp [ht,bM hd,goInt]; rfl,by simp only [VR]⟩
  | mp id=>
   simp only [abx] at h
   obtain⟨ob,ho,h⟩:=h
   cases ob with
   | cells cs=>cases h
   | row t cs=>cases h
   | map es=>
   cases h
   simp only [SR,VR] at hx
   obtain⟨hi,r,rfl,hr⟩:=hx
   rw [←f.h] at ho
   have hl:Live c.h id:=⟨f.rel.lt _ _ ho,by simp [ho]⟩
   obtain⟨lY,clock,h1,h2⟩:=f.rel.obj _ _ ho
   rw [hr hl]
   refine⟨.int .i64 es.length,?_,by simp [VR]⟩
   have h3:=h2.length
   simp [ht,bM hd,getObj,Sem.run,h1,goInt,h3]
  | _=>cases h
end
end Go.R
namespace Go.R
open Go
theorem iR.len {c c':Cx}{b:Nat}(h:iR c.w c'.w b):c'.len b=c.len b:=by
 unfold Cx.len World.shape?
 rcases h with h | ⟨C,e,lo,hi,J0,ku,h1,h2,_⟩
 ·rw [h]
 ·rw [h1,h2]
theorem HRel.block {c:Cx}{L:Nat→Prop}(r:HRel c L){id:Nat}(hl:Live c.h id):(c.β id).1<c.w.heap.size:=by
 obtain⟨o,ho⟩:=acd.1 hl.2
 have h:=r.obj id o ho
 cases o with
 | cells cs=>obtain⟨n,h1,_⟩:=h; exact h1.lt
 | map es=>obtain⟨lY,clock,h1,_⟩:=h; exact (acb.1 h1).1
 | row t cs=>obtain⟨_,C,h1,_⟩:=h; exact (acb.1 h1).1
section
variable {L0:Nat→Prop}{c:Cx}{Lo:Nat→Prop}{lam:Nat→Nat}{ds:List Nat}{s:RS}{a:Act}
theorem Fr.world (f:Fr L0 c Lo lam ds s a){w':World}(hk:∀b,b<c.w.heap.size→iR c.w w' b)(Kj:∀id,Live c.h id→w'.heap[(c.β id).1]? = c.w.heap[(c.β id).1]?)(hx:∀b,b<c.base→w'.heap[b]? = c.w.heap[b]?)(hs:c.w.heap.size≤w'.heap.size)
  (h1:w'.os=c.w.os) (h2:w'.tape=c.w.tape) (h3:w'.output=c.w.output):Ext c Lo {c with w:=w'} Lo∧Fr L0 {c with w:=w'} Lo lam ds s a:=by
 have e:Ext c Lo {c with w:=w'} Lo:=by
  refine⟨abB _,fun id hi hl=>⟨hl,rfl,?_⟩,hs,fun b hb _ _=>hk b hb,hx,rfl,fun id hl=>.inr ⟨id,hl,rfl⟩,fun _ h=>h,fun _ h=>.inl h,h1,h2,h3⟩
  exact iR.len (c':={c with w:=w'}) (hk _ (f.rel.block hl))
 refine⟨e,f.h,⟨f.rel.lt,fun id o ho=>?_,f.rel.inj,f.rel.out,fun b hb=>ab3 (f.rel.bd b hb) hs,f.rel.low,f.rel.ver⟩,fun t=>?_,fun k cs hb=>?_,f.inj,f.tidy,f.defers,f.G4⟩
 ·have hl:Live c.h id:=⟨f.rel.lt _ _ ho,by rw [ho]; rfl⟩
  exact (f.rel.obj id o ho).ext e (Kj id hl)
 ·exact (f.slot t).ext e (fun _ _ _=>⟨rfl,fun h=>h⟩)
 ·have ob:=f.box k cs hb
  exact ob.ext e (hk _ ob.plain.lt)
theorem Fr.upd (f:Fr L0 c Lo lam ds s a){w':World}{β':Nat→Nat × Nat}{h':AHeap}(pV:Nat)(ob:AObj)
  (hst:Steady c.h h') (Yq:pV<h'.next) (hget:h'.get pV=some ob)
  (hcl:∀id,id≠pV→h'.get id=none∨(h'.get id=c.h.get id∧β' id=c.β id))
  (PG:pV<c.h.next→Live c.h pV∧β' pV=c.β pV)
  (PH:c.w.heap.size≤(β' pV).1∨∃rz,Live c.h rz∧(c.β rz).1=(β' pV).1∧(rz=pV∨h'.get rz=none))
  (hlen:(β' pV).1<c.w.heap.size→((w'.shape? (β' pV).1).map (·.2)).getD 0=c.len (β' pV).1)
  (hk:∀b,b<c.w.heap.size→b≠(β' pV).1→w'.heap[b]? = c.w.heap[b]?) (hx:∀b,b<c.base→b≠(β' pV).1→w'.heap[b]? = c.w.heap[b]?) (hs:c.w.heap.size≤w'.heap.size) (hbs:c.base≤c.w.heap.size)
  (h1:w'.os=c.w.os) (h2:w'.tape=c.w.tape) (h3:w'.output=c.w.output)
  (hob:∀(e:Ext c Lo ⟨β',h',w',c.base⟩ Lo),qe ⟨β',h',w',c.base⟩ (un L0 Lo) (β' pV).1 (β' pV).2 ob) :
  Ext c Lo ⟨β',h',w',c.base⟩ Lo∧Fr L0 ⟨β',h',w',c.base⟩ Lo lam ds {s with h:=h'} a:=by
 have hn:=hst.next
 have hold:∀id,id≠pV→Live h' id→Live c.h id∧β' id=c.β id:=by
  intro id hne hl
  rcases hcl id hne with h | ⟨h,hb⟩
  ·have:=hl.2; rw [h] at this; cases this
  ·have DK:(c.h.get id).isSome=true:=by rw [←h]; exact hl.2
   obtain⟨o,ho⟩:=acd.1 DK
   exact⟨⟨f.rel.lt _ _ ho,DK⟩,hb⟩
 have Kk:∀id,id≠pV→Live h' id→(c.β id).1≠(β' pV).1:=by
  intro id hne hl he
  obtain⟨hl0,hb⟩:=hold id hne hl
  rcases PH with h | ⟨rz,h4,h5,h6⟩
  ·have:=f.rel.block hl0; omega
  ·have:id=rz:=f.rel.inj id rz hl0 h4 (he.trans h5.symm)
   subst this
   rcases h6 with h6 | h6
   ·exact hne h6
   ·have:=hl.2; rw [h6] at this; cases this
 have hL:¬un L0 Lo (β' pV).1:=by
  intro hL
  rcases PH with h | ⟨rz,h4,h5,_⟩
  ·have:=f.rel.bd _ hL; omega
  ·exact f.rel.out rz h4 (h5 ▸ hL)
 have MX:c.base≤(β' pV).1:=by
  rcases PH with h | ⟨rz,h4,h5,_⟩
  ·omega
  ·rw [←h5]; exact f.rel.low rz h4
 have e:Ext c Lo ⟨β',h',w',c.base⟩ Lo:=by
  refine⟨hn,fun id hi hl=>?_,hs,fun b hb _ hi=>.inl (hk b hb ?_),fun b hb=>hx b hb (by omega),rfl,fun id hl=>?_,fun _ h=>h,fun _ h=>.inl h,h1,h2,h3⟩
  ·by_cases hid:id=pV
   ·subst hid
    obtain⟨h4,h5⟩:=PG hi
    refine⟨h4,h5,?_⟩
    have:=hlen (by rw [h5]; exact f.rel.block h4)
    rw [h5] at this
    exact this
   ·obtain⟨h4,h5⟩:=hold id hid hl
    exact⟨h4,h5,iR.len (c':=⟨β',h',w',c.base⟩) (.inl (hk _ (f.rel.block h4) (Kk id hid hl)))⟩
  ·rintro rfl
   rcases PH with h | ⟨rz,h4,h5,_⟩
   ·omega
   ·exact hi rz h4 h5
  ·by_cases hid:id=pV
   ·subst hid
    rcases PH with h | ⟨rz,h4,h5,_⟩
    ·exact .inl h
    ·exact .inr ⟨rz,h4,h5⟩
   ·obtain⟨h4,h5⟩:=hold id hid hl
    exact .inr ⟨id,h4,by rw [←h5]⟩
 refine⟨e,rfl,⟨fun id o ho=>?_,fun id o ho=>?_,fun id lH hl pU he=>?_,fun id hl=>?_,fun b hb=>ab3 (f.rel.bd b hb) hs,fun id hl=>?_,hst.wf f.rel.ver⟩,fun t=>?_,fun k cs hb=>?_,f.inj,f.tidy,f.defers,f.G4⟩
 ·by_cases hid:id=pV
  ·subst hid; exact Yq
  ·rcases hcl id hid with h | ⟨h,_⟩
   ·rw [h] at ho; cases ho
   ·rw [h] at ho; exact ab3 (f.rel.lt _ _ ho) hn
 ·by_cases hid:id=pV
  ·subst hid
   rw [hget] at ho
   cases ho
   exact hob e
  ·rcases hcl id hid with h | ⟨h,hb⟩
   ·rw [h] at ho; cases ho
   ·have hl:Live h' id:=⟨by rw [h] at ho; exact ab3 (f.rel.lt _ _ ho) hn,by rw [ho]; rfl⟩
    rw [h] at ho
    have:=(f.rel.obj id o ho).ext e (hk _ (f.rel.block (hold id hid hl).1) (Kk id hid hl))
    rw [←hb] at this
    exact this
 ·by_cases hid:id=pV<;>by_cases Hb:lH=pV
  ·rw [hid,Hb]
  ·subst hid
   obtain⟨h4,h5⟩:=hold lH Hb pU
   exact absurd (by rw [←h5]; exact he.symm) (Kk lH Hb pU)
  ·subst Hb
   obtain⟨h4,h5⟩:=hold id hid hl
   exact absurd (by rw [←h5]; exact he) (Kk id hid hl)
  ·obtain⟨h4,h5⟩:=hold id hid hl
   obtain⟨h6,h7⟩:=hold lH Hb pU
   exact f.rel.inj id lH h4 h6 (by rw [←h5,←h7]; exact he)
 ·by_cases hid:id=pV
  ·subst hid; exact hL
  ·obtain⟨h4,h5⟩:=hold id hid hl
   show ¬un L0 Lo (β' id).1
   rw [h5]; exact f.rel.out id h4
 ·by_cases hid:id=pV
  ·subst hid; exact MX
  ·obtain⟨h4,h5⟩:=hold id hid hl
   show c.base≤(β' id).1
   rw [h5]; exact f.rel.low id h4
 ·exact (f.slot t).ext e (fun _ _ _=>⟨rfl,fun h=>h⟩)
 ·have hb2:=f.box k cs hb
  refine hb2.ext e (.inl (hk _ hb2.plain.lt ?_))
  rintro he
  exact hL (he ▸ .inr hb2.own)
theorem Fr.Hc (f:Fr L0 c Lo lam ds s a){w':World}(k:Nat)(cs:List AV)(b:Nat)
  (hb:c.w.heap.size≤b∨(b=lam k∧(s.bx k).isSome=true))
  (hp:∀t off,s.ρ t = .lp k off→b=lam k)
  (hk:∀b',b'<c.w.heap.size→b'≠b→w'.heap[b']? = c.w.heap[b']?) (hx:∀b',b'<c.base→b'≠b→w'.heap[b']? = c.w.heap[b']?) (hs:c.w.heap.size≤w'.heap.size) (Yr:b<w'.heap.size) (hbs:c.base≤c.w.heap.size)
  (h1:w'.os=c.w.os) (h2:w'.tape=c.w.tape) (h3:w'.output=c.w.output)
  (zQ:Plain {c with w:=w'} b cs.length)
  (Tv:∀(e:Ext c Lo {c with w:=w'} (fun x=>Lo x∨x=b)),Cells {c with w:=w'} (un L0 (fun x=>Lo x∨x=b)) cs b 0) :
  ∃kx tk,Ext c Lo {c with w:=w'} kx∧Fr L0 {c with w:=w'} kx tk ds (s.box k cs) a∧tk k=b:=by
 have MY:∀id,Live c.h id→(c.β id).1≠b:=by
  intro id hl he
  rcases hb with h | ⟨h,hb2⟩
  ·have:=f.rel.block hl; omega
  ·obtain⟨PK,h0⟩:=acd.1 hb2
   exact f.rel.out id hl (by rw [he,h]; exact .inr (f.box k PK h0).own)
 have WG:∀x,(Lo x∨x=b)→Lo x∨c.w.heap.size≤x:=by
  rintro x (h | rfl)
  ·exact .inl h
  ·rcases hb with h | ⟨h,hb2⟩
   ·exact .inr h
   ·obtain⟨PK,h0⟩:=acd.1 hb2
    exact .inl (h ▸ (f.box k PK h0).own)
 have MX:c.base≤b:=by
  rcases hb with h | ⟨h,hb2⟩
  ·omega
  ·obtain⟨PK,h0⟩:=acd.1 hb2
   rw [h]; exact f.G4 _ (f.box k PK h0).own
 have Ys:∀b',b'<c.w.heap.size→¬Lo b'→b'≠b:=by
  rintro b' B5 hn rfl
  rcases WG b' (.inr rfl) with h | h
  ·exact hn h
  ·omega
 have e:Ext c Lo {c with w:=w'} (fun x=>Lo x∨x=b):=by
  refine⟨abB _,fun id hi hl=>⟨hl,rfl,?_⟩,hs,fun b' B5 hn _=>.inl (hk b' B5 (Ys b' B5 hn)),fun b' B5=>hx b' B5 (by omega),rfl,fun id hl=>.inr ⟨id,hl,rfl⟩,fun _ h=>.inl h,WG,h1,h2,h3⟩
  exact iR.len (c':={c with w:=w'}) (.inl (hk _ (f.rel.block hl) (MY id hl)))
 refine⟨fun x=>Lo x∨x=b,fun t=>if t=k then b else lam t,e,⟨f.h,⟨f.rel.lt,fun id o ho=>?_,f.rel.inj,fun id hl hL=>?_,fun x MZ=>?_,f.rel.low,f.rel.ver⟩,fun t=>?_,fun k' gp B5=>?_,fun k1 k2 WH O9 he=>?_,f.tidy,f.defers,fun x MZ=>?_⟩,by simp⟩
 ·have hl:Live c.h id:=⟨f.rel.lt _ _ ho,by rw [ho]; rfl⟩
  exact (f.rel.obj id o ho).ext e (hk _ (f.rel.block hl) (MY id hl))
 ·rcases hL with h | h | h
  ·exact f.rel.out id hl (.inl h)
  ·exact f.rel.out id hl (.inr h)
  ·exact MY id hl h
 ·rcases MZ with h | h | h
  ·exact ab3 (f.rel.bd x (.inl h)) hs
  ·exact ab3 (f.rel.bd x (.inr h)) hs
  ·subst h; exact Yr
 ·refine (f.slot t).ext e (fun k' off PL=>?_)
  by_cases Ad:k'=k
  ·subst Ad
   refine⟨by simp [hp t off PL],fun _=>by simp [RS.box]⟩
  ·exact⟨by simp [Ad],fun h=>by simpa [RS.box,beq_nat,Ad] using h⟩
 ·by_cases Ad:k'=k
  ·subst Ad
   simp only [RS.box,beq_nat,decide_true,cond_true,abz] at B5
   subst B5
   exact⟨by simp,by simpa using zQ,by simpa using Tv e⟩
  ·simp only [RS.box,beq_nat,Ad,decide_false,cond_false] at B5
   have ob:=f.box k' gp B5
   have hne:lam k'≠b:=by
    rintro he
    rcases hb with h | ⟨h,hb2⟩
    ·have:=ob.plain.lt; omega
    ·exact Ad (f.inj k' k (by rw [B5]; rfl) hb2 (he.trans h))
   have:=ob.ext e (.inl (hk _ ob.plain.lt hne))
   exact⟨by simp [Ad]; exact .inl ob.own,by simpa [Ad] using this.plain,by simpa [Ad] using this.cells⟩
 ·have old:∀k',k'≠k→((s.box k cs).bx k').isSome=true→(s.bx k').isSome=true:=by
   intro k' hne h
   simpa [RS.box,beq_nat,hne] using h
  have sep:∀k',k'≠k→(s.bx k').isSome=true→lam k'≠b:=by
   intro k' hne h5 Yt
   obtain⟨SJ,h6⟩:=acd.1 h5
   rcases hb with h | ⟨h,hb2⟩
   ·have:=(f.box k' SJ h6).plain.lt; omega
   ·exact hne (f.inj k' k h5 hb2 (Yt.trans h))
  by_cases h4:k1=k<;>by_cases h5:k2=k
  ·rw [h4,h5]
  ·simp only [h4,h5,if_true,if_false] at he
   exact absurd he.symm (sep k2 h5 (old k2 h5 O9))
  ·simp only [h4,h5,if_true,if_false] at he
   exact absurd he (sep k1 h4 (old k1 h4 WH))
  ·simp only [h4,h5,if_false] at he
   exact f.inj k1 k2 (old k1 h4 WH) (old k2 h5 O9) he
 ·rcases MZ with h | h
  ·exact f.G4 x h
  ·subst h; exact MX
end
end Go.R
namespace Go.R
open Go
theorem Cells.iff {c:Cx}{L:Nat→Prop}:∀{xs:List AV} {b o:Nat},Cells c L xs b o↔∀(i:Nat) (x:AV),xs[i]? = some x→∃v,c.w.cell? ⟨b,o+i,none⟩=some v∧v.oneCell'=true∧VR c L x v
 | [],b,o=>by simp [Cells]
 | x::xs,b,o=>by
  refine⟨fun h i y hy=>h.get' i y hy,fun h=>⟨?_,(Cells.iff (xs:=xs)).2 fun i y hy=>?_⟩⟩
  ·exact h 0 x rfl
  ·have:=h (i+1) y (by simpa using hy)
   rwa [ac1,acC]
theorem iT:∀(vs cs:List AV) (i:Nat),(eh cs i vs).length=cs.length
 | [],cs,i=>by cases cs<;>rfl
 | v::vs,cs,i=>by
  rw [eh,iT vs]
  simp
theorem uC:∀(vs cs:List AV) (i j:Nat),i+vs.length≤cs.length→(eh cs i vs)[j]? = if i≤j∧j<i+vs.length then vs[j - i]? else cs[j]?
 | [],cs,i,j,_=>by
  have:eh cs i []=cs:=by cases cs<;>rfl
  rw [this,if_neg (by simp)]
 | v::vs,cs,i,j,h=>by
  simp only [abR] at h
  rw [eh,uC vs _ (i+1) j (by simp; omega)]
  by_cases h1:i+1≤j∧j<i+1+vs.length
  ·rw [if_pos h1,if_pos (by simp; omega),show j - i=(j - (i+1))+1 by omega]
   simp
  ·rw [if_neg h1]
   by_cases h2:j=i
   ·subst h2
    rw [if_pos (by simp),List.getElem?_set_self (by omega)]
    simp
   ·rw [List.getElem?_set_ne (by omega),if_neg (by simp; omega)]
theorem yv (w:World)(b o:Nat)(v:Value){C:Array Value}{e:TypeId}{fr:Nat × Nat}(hb:w.heap[b]? = some (.cells C e fr)):(w.setCell ⟨b,o,none⟩ v).heap[b]? = some (.cells (C.setIfInBounds o v) e fr):=by
 have hlt:b<w.heap.size:=(acb.1 hb).1
 simp [World.setCell,acL,hb]
theorem Ag (w:World)(b o b':Nat)(v:Value)(hne:b'≠b):(w.setCell ⟨b,o,none⟩ v).heap[b']? = w.heap[b']?:=by
 simp [World.setCell,acL,Ne.symm hne]
theorem eT:∀(vs:List Value) (b o b':Nat) (w:World),b'≠b→(w.setCells b o vs).heap[b']? = w.heap[b']?
 | [],_,_,_,_,_=>rfl
 | v::vs,b,o,b',w,h=>by rw [World.setCells,eT vs b (o+1) b' _ h,Ag _ _ _ _ _ h]
theorem il:∀(vs:List Value) (b o:Nat) (w:World),(w.setCells b o vs).heap.size=w.heap.size∧(w.setCells b o vs).os=w.os∧(w.setCells b o vs).tape=w.tape∧(w.setCells b o vs).output=w.output
 | [],_,_,_=>⟨rfl,rfl,rfl,rfl⟩
 | v::vs,b,o,w=>by
  obtain⟨h1,h2,h3,h4⟩:=il vs b (o+1) (w.setCell ⟨b,o,none⟩ v)
  rw [World.setCells]
  exact⟨h1.trans (by simp),h2.trans rfl,h3.trans rfl,h4.trans rfl⟩
theorem gr:∀(vs:List Value) (b o:Nat) (w:World) (C:Array Value) (e:TypeId) (fr:Nat × Nat),w.heap[b]? = some (.cells C e fr)→o+vs.length≤C.size→
  ∃C',(w.setCells b o vs).heap[b]? = some (.cells C' e fr)∧C'.size=C.size∧∀j,C'[j]? = if o≤j∧j<o+vs.length then vs[j - o]? else C[j]?
 | [],b,o,w,C,e,fr,hb,_=>⟨C,hb,rfl,fun j=>by rw [if_neg (by simp)]⟩
 | v::vs,b,o,w,C,e,fr,hb,hl=>by
  simp only [abR] at hl
  obtain⟨C',h1,h2,h3⟩:=gr vs b (o+1) (w.setCell ⟨b,o,none⟩ v) (C.setIfInBounds o v) e fr (yv w b o v hb) (by simp; omega)
  refine⟨C',h1,by simpa using h2,fun j=>?_⟩
  rw [h3 j]
  by_cases h4:o+1≤j∧j<o+1+vs.length
  ·rw [if_pos h4,if_pos (by simp; omega),show j - o=(j - (o+1))+1 by omega]
   simp
  ·rw [if_neg h4]
   by_cases h5:j=o
   ·subst h5
    rw [if_pos (by simp)]
    simp [acD,show j<C.size by omega]
   ·rw [if_neg (by simp; omega)]
    simp [acD,Ne.symm h5]
theorem cell_of_block {w:World}{b:Nat}{C:Array Value}{e:TypeId}{fr:Nat × Nat}(h:w.heap[b]? = some (.cells C e fr))(i:Nat):w.cell? ⟨b,i,none⟩=C[i]?:=by
 simp [World.cell?,h]
section
variable {P:Program}{L0:Nat→Prop}{c0:Cx}{n:Nat}{ds:List Nat}{o:Oper}{s:RS}
theorem uD {c:Cx}{L:Nat→Prop}{x:AV}{v:Value}(h:x.cK=true)(hv:VR c L x v):v.oneCell'=true∧v.cells = #[v]:=by
 cases x<;>simp only [AV.cK] at h<;>first | (cases h; done) | skip
 all_goals simp only [VR] at hv
 ·subst hv; exact⟨rfl,rfl⟩
 ·subst hv; exact⟨rfl,rfl⟩
 ·subst hv; exact⟨rfl,rfl⟩
 ·subst hv; exact⟨rfl,rfl⟩
 ·obtain⟨_,a,rfl,_⟩:=hv; exact⟨rfl,rfl⟩
 ·obtain⟨b,o,rfl,_⟩:=hv; exact⟨rfl,rfl⟩
 ·obtain⟨a,rfl⟩:=hv; exact⟨rfl,rfl⟩
 ·obtain⟨a,cap,rfl,_⟩:=hv; exact⟨rfl,rfl⟩
 ·rcases hv with⟨_,_,_,a,rfl⟩| ⟨_,_,a,cap,rfl,_⟩<;>exact⟨rfl,rfl⟩
 ·subst hv; exact⟨rfl,rfl⟩
 ·obtain⟨_,r,rfl,_⟩:=hv; exact⟨rfl,rfl⟩
 ·obtain⟨vs,rfl,_⟩:=hv; exact⟨rfl,rfl⟩
 ·subst hv; exact⟨rfl,rfl⟩
theorem sL {c:Cx}{L:Nat→Prop}:∀{xs:List AV} {vs:List Value},xs.all AV.cK=true→VRs c L xs vs→∀v∈vs,v.oneCell'=true
 | [],[],_,_,v,hv=>by simp at hv
 | x::xs,u::us,h,hr,v,hv=>by
  simp only [acr,abA] at h
  rcases ab0.1 hv with rfl | hv
  ·exact (uD h.1 hr.1).1
  ·exact sL h.2 hr.2 v hv
 | [],_::_,_,h,_,_=>h.elim
 | _::_,[],_,h,_,_=>h.elim
theorem jA {c:Cx}{L:Nat→Prop}{x:AV}{v:Value}(h:x.cells.all AV.cK=true)(hv:VR c L x v):VRs c L x.cells v.cells.toList∧∀u∈v.cells.toList,u.oneCell'=true:=by
 cases x with
 | agg cs=>
  simp only [VR] at hv
  obtain⟨vs,rfl,GN⟩:=hv
  exact⟨GN,sL h GN⟩
 | _=>
  simp only [AV.cells,acr,List.all_nil,Bool.and_true] at h
  obtain⟨h1,h2⟩:=uD h hv
  rw [h2]
  exact⟨⟨hv,trivial⟩,by simpa using h1⟩
theorem SR.tS {c:Cx}{Lo:Nat→Prop}{lam:Nat→Nat}{bx:Nat→Option (List AV)}{x:AV}{v:Value}(hx:SR c L0 Lo lam bx x v)(h:x.cells.all AV.cK=true):VR c (un L0 Lo) x v:=
 hx.vr (by rintro k off rfl; simp [AV.cells,AV.cK] at h)
theorem kP {c:Cx}{b m base off:Nat}{vs:List Value}(hp:Plain c b m)(hl:base+off+vs.length≤m)(h1:∀v∈vs,v.oneCell'=true) :
  (storeCells ⟨b,base+off,none⟩ vs).run P c.w = .ok () (c.w.setCells b (base+off) vs):=by
 obtain⟨C,e,lo,hi,hb,hf,hm⟩:=hp
 have:=run_storeCells_cells (P:=P) b (base+off) vs 0 c.w (fun j hj=>by
  rw [cell_of_block hb]
  have:base+off+0+j<C.size:=by omega
  simpa using this) (fun j hj=>by
  simp only [World.frozen?,hb]
  rcases hf with hf | hf
  ·subst hf; simp
  ·simp; omega) h1
 simpa using this
theorem Plain.setCells {c:Cx}{b m o:Nat}{vs:List Value}(hp:Plain c b m)(hl:o+vs.length≤m)(β':Nat→Nat × Nat)(h':AHeap)(bs:Nat):Plain ⟨β',h',c.w.setCells b o vs,bs⟩ b m:=by
 obtain⟨C,e,lo,hi,hb,hf,hm⟩:=hp
 obtain⟨C',h1,h2,_⟩:=gr vs b o c.w C e (lo,hi) hb (by omega)
 exact⟨C',e,lo,hi,h1,by rw [h2]; exact hf,by rw [h2]; exact hm⟩
theorem jf.setCells {c:Cx}{b m o:Nat}{vs:List Value}(hp:jf c b m)(hl:o+vs.length≤m)(β':Nat→Nat × Nat)(h':AHeap)(bs:Nat):jf ⟨β',h',c.w.setCells b o vs,bs⟩ b m:=by
 obtain⟨C,e,hb,hm⟩:=hp
 obtain⟨C',h1,h2,_⟩:=gr vs b o c.w C e (0,0) hb (by omega)
 exact⟨C',e,h1,by rw [h2]; exact hm⟩
theorem jB {c c':Cx}{L0 Lo kx:Nat→Prop}{b m base off:Nat}{cs xs:List AV}{vs:List Value}(hp:Plain c b m)(hc:Cells c (un L0 Lo) cs b base)(hv:VRs c (un L0 Lo) xs vs)(PM:∀v∈vs,v.oneCell'=true)(hl:off+xs.length≤cs.length)(hm:base+cs.length≤m)
  (e:Ext c Lo c' kx) (hw:c'.w=c.w.setCells b (base+off) vs):Cells c' (un L0 kx) (eh cs off xs) b base:=by
 obtain⟨C,e',lo,hi,hb,hf,xh⟩:=hp
 have hlen:=hv.length
 obtain⟨C',h1,h2,h3⟩:=gr vs b (base+off) c.w C e' (lo,hi) hb (by omega)
 rw [Cells.iff]
 intro i x hx
 rw [hw,cell_of_block h1,h3]
 rw [uC xs cs off i hl] at hx
 by_cases h4:off≤i∧i<off+xs.length
 ·rw [if_pos h4] at hx
  obtain⟨v,Pa,L6⟩:=hv.get _ x hx
  refine⟨v,?_,PM v (abJ Pa),VR.ext e x v L6⟩
  rw [if_pos (by omega),show base+i - (base+off)=i - off by omega]
  exact Pa
 ·rw [if_neg h4] at hx
  obtain⟨v,Pa,L8,L6⟩:=hc.get' i x hx
  refine⟨v,?_,L8,VR.ext e x v L6⟩
  rw [if_neg (by omega),←cell_of_block hb]
  exact Pa
theorem pb {c:Cx}{L:Nat→Prop}{t:TypeId}{cs gp:List AV}{b m base off:Nat}{x:AV}{v:Value}(hp:Plain c b m)(hm:base+cs.length≤m)(hv:VR c L x v)(h:iH P t cs off x=some gp) :
  (storeVar t ⟨b,base+off,none⟩ v).run P c.w = .ok () (c.w.setCells b (base+off) v.cells.toList)∧VRs c L x.cells v.cells.toList∧off+x.cells.length≤cs.length∧gp=eh cs off x.cells∧(∀u∈v.cells.toList,u.oneCell'=true):=by
 unfold iH at h
 rw [abx] at h
 obtain⟨k,hk,h⟩:=h
 split at h
 ·rename_i hh
  obtain⟨h1,h2,h3⟩:=hh
  cases h
  obtain⟨h4,h5⟩:=jA h2 hv
  have h6:=h4.length
  refine⟨?_,h4,by omega,rfl,h5⟩
  have h7:v.cells.size=k:=by rw [←acJ,←h6]; exact h1
  simp only [storeVar,Sem.run_bind,eS hk,Result.andThen_ok,h7]
  simp only [ne_eq,not_true_eq_false,if_false]
  rw [←kP (P:=P) hp (vs:=v.cells.toList) (base:=base) (off:=off) (by omega) h5]
 ·cases h
theorem jY {c c0:Cx}{Lo:Nat→Prop}(e:Ext c0 none0 c Lo)(h:c0.base≤c0.w.heap.size):c.base≤c.w.heap.size:=by
 rw [e.base]; exact acv h e.size
theorem Hd (hb0:c0.base≤c0.w.heap.size)(hd:ij n ds o){t:TypeId}{x y:Operand}(ho:o.op = .store t x y)(tl:o.dst=none){s':RS}
  (h:(match ck s.ρ x with
   | .lp k off=>(s.bx k).bind fun cs=>(iH P t cs off (ck s.ρ y)).map fun gp=>s.box k gp
   | .ptr id off=>(s.h.get id).bind fun | .cells cs=>(iH P t cs off (ck s.ρ y)).map fun gp=>{s with h:=s.h.put id (.cells gp)} | _=>none
   | _=>none)=some s'):j7 P L0 c0 n ds o s s':=by
 rintro a w K Q ⟨hn,c,Lo,lam,rfl,f,e⟩ hK
 have hbs:=jY e hb0
 have hx:=bY f x
 have hy:=bY f y
 unfold Oper.wp
 have M0:a.put o.dst undef=a:=by rw [tl]; rfl
 have fin:∀c' kx tk,((Instr.storeAt t (a.eval x) (a.eval y)).run P c.w = .ok () c'.w)→Fr L0 c' kx tk ds s' a→Ext c Lo c' kx→Oper.upon P o a K Q ((execOp a.eval o).run P c.w):=by
  intro c' kx tk hr f' e'
  have:(execOp a.eval o).run P c.w = .ok .skip c'.w:=by simp [execOp,ho,hr]
  rw [this,Oper.upon_skip,M0]
  exact hK _ _ ⟨hn,c',kx,tk,rfl,f',e.trans e'⟩
 cases Fy:ck s.ρ x<;>rw [Fy] at h<;>simp only at h<;>try (cases h; done)
 ·rename_i id off
  rw [abx] at h
  obtain⟨ob,hob,h⟩:=h
  cases ob with
  | map es=>cases h
  | row t cs=>cases h
  | cells cs=>
  rw [aby] at h
  obtain⟨gp,hw,rfl⟩:=h
  rw [Fy] at hx
  simp only [SR,VR] at hx
  obtain⟨hi,ad,B6,ha⟩:=hx
  rw [←f.h] at hob
  have hl:Live c.h id:=⟨f.rel.lt _ _ hob,by simp [hob]⟩
  obtain⟨m,hp,hm,hc⟩:=f.rel.obj _ _ hob
  have pc:(ck s.ρ y).cells.all AV.cK=true:=by
   unfold iH at hw
   rw [abx] at hw
   obtain⟨k,_,hw⟩:=hw
   split at hw
   ·rename_i hh; exact hh.2.1
   ·cases hw
  have Ty:=hy.tS pc
  obtain⟨hr,hv,hle,rfl,PM⟩:=pb (P:=P) hp.ls hm Ty hw
  have hvl:=hv.length
  obtain⟨q1,q2,q3,q4⟩:=il (a.eval y).cells.toList (c.β id).1 ((c.β id).2+off) c.w
  have:=f.upd (w':=c.w.setCells (c.β id).1 ((c.β id).2+off) (a.eval y).cells.toList) (β':=c.β) (h':=c.h.put id (.cells (eh cs off (ck s.ρ y).cells))) id (.cells (eh cs off (ck s.ρ y).cells))
   (Steady.put _ _ _) (by simp only [AHeap.put]; omega) (by simp [AHeap.put,beq_nat]) (fun lH hne=>.inr ⟨by simp [AHeap.put,beq_nat,hne],rfl⟩) (fun _=>⟨hl,rfl⟩) (.inr ⟨id,hl,rfl,.inl rfl⟩)
   (fun _=>by
    obtain⟨C,e',lo,ku,hb,hf,xh⟩:=hp.ls
    obtain⟨C',h1,h2,_⟩:=gr (a.eval y).cells.toList (c.β id).1 ((c.β id).2+off) c.w C e' (lo,ku) hb (by omega)
    simp [World.shape?,h1,Cx.len,hb,h2])
   (fun b _ hne=>eT _ _ _ _ _ hne) (fun b _ hne=>eT _ _ _ _ _ hne) (by rw [q1]; exact abB _) hbs q2 q3 q4
   (fun e'=>⟨m,hp.setCells (by omega) _ _ _,by rw [iT]; exact hm,jB hp.ls hc hv PM hle hm e' rfl⟩)
  rw [f.h] at this
  obtain⟨e',f'⟩:=this
  refine fin _ _ _ ?_ f' e'
  rw [B6,ha hl]
  simp [Instr.storeAt,Instr.sureAddr,hr]
 ·rename_i k off
  rw [abx] at h
  obtain⟨cs,PN,h⟩:=h
  rw [aby] at h
  obtain⟨gp,hw,rfl⟩:=h
  rw [Fy] at hx
  simp only [SR] at hx
  obtain⟨B6,_⟩:=hx
  have ob:=f.box k cs PN
  have pc:(ck s.ρ y).cells.all AV.cK=true:=by
   unfold iH at hw
   rw [abx] at hw
   obtain⟨k,_,hw⟩:=hw
   split at hw
   ·rename_i hh; exact hh.2.1
   ·cases hw
  have Ty:=hy.tS pc
  obtain⟨hr,hv,hle,rfl,PM⟩:=pb (P:=P) (base:=0) ob.plain (by omega) Ty hw
  have hvl:=hv.length
  obtain⟨q1,q2,q3,q4⟩:=il (a.eval y).cells.toList (lam k) (0+off) c.w
  obtain⟨kx,tk,e',f',_⟩:=f.Hc (w':=c.w.setCells (lam k) (0+off) (a.eval y).cells.toList) k (eh cs off (ck s.ρ y).cells) (lam k) (.inr ⟨rfl,by rw [PN]; rfl⟩)
   (fun _ _ _=>rfl) (fun b _ hne=>eT _ _ _ _ _ hne) (fun b _ hne=>eT _ _ _ _ _ hne) (by rw [q1]; exact abB _) (by rw [q1]; exact ob.plain.lt) hbs q2 q3 q4
   (by rw [iT]; exact ob.plain.setCells (by omega) _ _ _) (fun e'=>jB ob.plain ob.cells hv PM hle (by omega) e' rfl)
  refine fin _ _ _ ?_ f' e'
  rw [B6]
  rw [abY] at hr
  simp [Instr.storeAt,Instr.sureAddr,hr]
end
end Go.R
namespace Go.R
open Go
theorem jm (w:World)(o:Obj):(w.alloc o).heap[w.heap.size]? = some o:=by
 show (w.heap.push o)[w.heap.size]? = some o
 simp
theorem alloc_old (w:World)(o:Obj){b:Nat}(h:b<w.heap.size):(w.alloc o).heap[b]? = w.heap[b]?:=by
 show (w.heap.push o)[b]? = w.heap[b]?
 simp [Array.getElem?_push,show b≠w.heap.size by omega]
theorem RS.set_set (s:RS)(d:Option Nat)(x y:AV):(s.set d x).set d y=s.set d y:=by
 cases d with
 | none=>rfl
 | some d=>
  simp only [RS.set]
  congr 1
  funext t
  cases acj t d<;>rfl
theorem Kl (a:Act)(d:Option Nat)(x y:Value):(a.put d x).put d y=a.put d y:=by
 cases d with
 | none=>rfl
 | some d=>
  simp only [Act.put]
  congr 1
  apply Array.ext_getElem?
  intro i
  simp only [acD,Array.size_setIfInBounds]
  by_cases h:d=i<;>by_cases h2:d<a.tmps.size<;>simp [h,h2]
section
variable {P:Program}{L0:Nat→Prop}{c0:Cx}{n:Nat}{ds:List Nat}{o:Oper}{s:RS}
theorem rH {k:Nat}{ρ:Nat→AV}:∀{l:List Nat},ur k ρ l=true→∀t∈l,∀off,ρ t≠.lp k off
 | [],_,t,ht=>by simp at ht
 | x::xs,h,t,ht=>by
  simp only [ur,abA] at h
  intro off he
  rcases ab0.1 ht with rfl | ht
  ·rw [he] at h; simp at h
  ·exact rH h.2 t ht off he
theorem Fr.He {c:Cx}{Lo:Nat→Prop}{lam:Nat→Nat}{a:Act}(f:Fr L0 c Lo lam ds s a)(hbs:c.base≤c.w.heap.size)(w1:World)(Tz:w1.heap=c.w.heap∧w1.os=c.w.os∧w1.tape=c.w.tape∧w1.output=c.w.output)(ob:AObj)(obj:Obj)
  (h':AHeap) (hg:h'.get c.h.next=some ob) (hst:Steady c.h h') (hn:c.h.next<h'.next) (ho:∀id,id≠c.h.next→h'.get id=none∨h'.get id=c.h.get id)
  (hob:∀(c':Cx) (e:Ext c Lo c' Lo),c'.w=w1.alloc obj→qe c' (un L0 Lo) c.w.heap.size 0 ob) :
  ∃β',Ext c Lo ⟨β',h',w1.alloc obj,c.base⟩ Lo∧Fr L0 ⟨β',h',w1.alloc obj,c.base⟩ Lo lam ds {s with h:=h'} a∧β' c.h.next=(c.w.heap.size,0)∧Live h' c.h.next:=by
 obtain⟨q0,q1,q2,q3⟩:=Tz
 have hsz:w1.heap.size=c.w.heap.size:=by rw [q0]
 refine⟨fun i=>if i=c.h.next then (c.w.heap.size,0) else c.β i,?_⟩
 have:=f.upd (w':=w1.alloc obj) (β':=fun i=>if i=c.h.next then (c.w.heap.size,0) else c.β i) (h':=h') c.h.next ob
  hst hn hg (fun id hne=>(ho id hne).imp (fun x=>x) fun h=>⟨h,by simp [hne]⟩)
  (fun h=>absurd h (Nat.lt_irrefl _)) (.inl (by simp)) (fun h=>by simp at h)
  (fun b hb _=>by rw [alloc_old _ _ (by omega),q0]) (fun b hb _=>by rw [alloc_old _ _ (by omega),q0]) (by simp [hsz]) hbs q1 q2 q3
  (fun e=>by simpa using hob _ e rfl)
 exact⟨this.1,this.2,by simp,⟨hn,by rw [hg]; rfl⟩⟩
theorem Fr.fresh {c:Cx}{Lo:Nat→Prop}{lam:Nat→Nat}{a:Act}(f:Fr L0 c Lo lam ds s a)(hbs:c.base≤c.w.heap.size)(w1:World)(Tz:w1.heap=c.w.heap∧w1.os=c.w.os∧w1.tape=c.w.tape∧w1.output=c.w.output)(ob:AObj)(obj:Obj)
  (hob:∀(c':Cx) (e:Ext c Lo c' Lo),c'.w=w1.alloc obj→qe c' (un L0 Lo) c.w.heap.size 0 ob) :
  ∃β',Ext c Lo ⟨β',c.h.alloc ob,w1.alloc obj,c.base⟩ Lo∧Fr L0 ⟨β',c.h.alloc ob,w1.alloc obj,c.base⟩ Lo lam ds {s with h:=c.h.alloc ob} a∧β' c.h.next=(c.w.heap.size,0)∧Live (c.h.alloc ob) c.h.next:=
 f.He hbs w1 Tz ob obj (c.h.alloc ob) (by simp [AHeap.alloc,AHeap.put,beq_nat]) (Steady.put _ _ _) (ack _) (fun id hne=>.inr (by simp [AHeap.alloc,AHeap.put,beq_nat,hne])) hob
theorem mF {c':Cx}{w1:World}{C:Array Value}{e:TypeId}(hw:c'.w=w1.alloc (.cells C e)):jf c' w1.heap.size C.size:=
 ⟨C,e,by rw [hw]; exact jm _ _,rfl⟩
theorem Fz {c':Cx}{w1:World}{C:Array Value}{e:TypeId}(hw:c'.w=w1.alloc (.cells C e)):Plain c' w1.heap.size C.size:=
 ⟨C,e,0,0,by rw [hw]; exact jm _ _,.inl rfl,rfl⟩
theorem kF {c':Cx}{L:Nat→Prop}{w1:World}{C:Array Value}{e:TypeId}{xs:List AV}{vs:List Value}(hw:c'.w=w1.alloc (.cells C e))(hv:VRs c' L xs vs)(hp:∀i,i<vs.length→C[i]? = vs[i]?)(h1:∀v∈vs,v.oneCell'=true):Cells c' L xs w1.heap.size 0:=
 Cells.of_vals hv (fun i hi=>by rw [hw,cell_of_block (jm _ _),abY]; exact hp i hi) h1
theorem xi (hb0:c0.base≤c0.w.heap.size)(hd:ij n ds o){aN:List Nat}{cs:List AV}{s':RS}(t:TypeId)(h:je s aN ds o cs=some s')
  (hx:∀a c Lo lam,Fr L0 c Lo lam ds s a→a.tmps.size=n→∃v:Value,(execOp a.eval o).run P c.w = .ok (.value (.pointer (some ⟨c.w.heap.size,0,none⟩))) (c.w.alloc (.cells v.cells t))∧VRs c (un L0 Lo) cs v.cells.toList∧∀u∈v.cells.toList,u.oneCell'=true) :
  j7 P L0 c0 n ds o s s':=by
 unfold je at h
 split at h
 rotate_left
 ·cases h
 rename_i qf
 cases SK:o.dst with
 | none=>rw [SK] at h; cases h
 | some d=>
 obtain⟨Ah,B7⟩:=hd d SK
 rw [SK] at h
 simp only at h
 rintro a w K Q ⟨hn,c,Lo,lam,rfl,f,e⟩ hK
 have hbs:=jY e hb0
 obtain⟨v,hr,hv,h1⟩:=hx a c Lo lam f hn
 unfold Oper.wp
 rw [hr,Oper.upon_value,SK]
 split at h
 ·split at h
  rotate_left
  ·cases h
  rename_i tT
  cases h
  have f1:=f.set (d:=some d) (x:=.any) (v:=undef) (SR.of (by simp [VR])) (fun t ht=>by cases ht; exact⟨hn ▸ Ah,B7⟩)
  have Hf:∀t off,(s.set (some d) .any).ρ t≠.lp d off:=by
   intro t off he
   rw [xc] at he
   by_cases L9:t=d
   ·rw [if_pos L9] at he; cases he
   ·rw [if_neg L9] at he
    by_cases hm:t∈ds
    ·exact rH tT t (by simp [hm,beq_nat,L9]) off he
    ·exact L9 (f.tidy t d off hm he).symm
  obtain⟨kx,tk,e',f',TA⟩:=f1.Hc (w':=c.w.alloc (.cells v.cells t)) d cs c.w.heap.size (.inl (abB _)) (fun t off he=>absurd he (Hf t off))
   (fun b hb _=>alloc_old _ _ hb) (fun b hb _=>alloc_old _ _ (by omega)) (by simp) (by simp) hbs rfl rfl rfl
   (by
     have:=Fz (c':={c with w:=c.w.alloc (.cells v.cells t)}) (w1:=c.w) (C:=v.cells) (e:=t) rfl
     rwa [show v.cells.size=cs.length by rw [←acJ,hv.length]] at this)
   (fun e'=>kF (w1:=c.w) (C:=v.cells) (e:=t) rfl (VRs.ext e' _ _ hv) (fun i _=>by simp) h1)
  have f2:=f'.set (d:=some d) (x:=.lp d 0) (v:=.pointer (some ⟨c.w.heap.size,0,none⟩)) (by simp only [SR,TA,RS.box,beq_nat]; simp) (fun t ht=>by cases ht; rw [ig]; exact⟨hn ▸ Ah,B7⟩)
  rw [Kl] at f2
  have hs:(((s.set (some d) .any).box d cs).set (some d) (.lp d 0))=(s.box d cs).set (some d) (.lp d 0):=by
   rw [←RS.set_set (s.box d cs) (some d) .any]
   rfl
  rw [hs] at f2
  exact hK _ _ ⟨(ig _ _ _).trans hn,_,kx,tk,rfl,f2,e.trans e'⟩
 ·cases h
  obtain⟨β',e',f',hβ,hl⟩:=f.fresh hbs c.w ⟨rfl,rfl,rfl,rfl⟩ (.cells cs) (.cells v.cells t) (fun c' e' hw=>⟨_,mF hw,by rw [abY,hv.length]; simp,
   kF (w1:=c.w) hw (VRs.ext e' _ _ hv) (fun i _=>by simp) h1⟩)
  rw [f.h] at f' e' hβ hl
  have f2:=f'.set (d:=some d) (x:=.ptr s.h.next 0) (v:=.pointer (some ⟨c.w.heap.size,0,none⟩)) (by
   simp only [SR,VR]
   exact⟨hl.1,_,rfl,fun _=>by rw [hβ]⟩) (fun t ht=>by cases ht; exact⟨hn ▸ Ah,B7⟩)
  exact hK _ _ ⟨(ig _ _ _).trans hn,_,Lo,lam,rfl,f2,e.trans e'⟩
theorem DL {c:Cx}{L:Nat→Prop}{n:Nat}{x:AV}{v:Value}(h:VR c L x v):VR c L (wH n x) v:=by
 unfold wH
 split
 ·simp only [VR] at h ⊢
  exact .inl ⟨trivial,trivial,trivial,none,h⟩
 ·exact h
theorem DM {c:Cx}{L:Nat→Prop}{n:Nat}:∀{cs:List AV} {vs:List Value} (j:Nat),VRs c L cs vs→VRs c L (Ck n j cs) vs
 | [],vs,j,h=>h
 | x::cs,[],j,h=>h.elim
 | x::cs,v::vs,j,h=>by
  refine⟨?_,DM (j+1) h.2⟩
  split
  ·exact h.1
  ·exact DL h.1
theorem DN {c:Cx}{L:Nat→Prop}{n:Nat}:∀{cs:List AV} {vs:List Value},VRs c L cs vs→VRs c L (cs.map (wH n)) vs
 | [],vs,h=>h
 | x::cs,[],h=>h.elim
 | x::cs,v::vs,h=>⟨DL h.1,DN h.2⟩
theorem Km {c:Cx}{L:Nat→Prop}{cs:List AV}{vs:List Value}(h:VRs c L cs vs):∀n,VRs c L (Kg cs n) vs
 | 0=>h
 | n+1=>by
  have e:Kg cs (n+1)=bif ac4 100 (n+1) then Ck (n+1) 0 cs else cs.map (wH (n+1)):=rfl
  rw [e]
  cases ac4 100 (n+1)
  ·exact DN h
  ·exact DM 0 h
theorem DO {c:Cx}{L:Nat→Prop}{aN:List Nat}{d:Option Nat}{cs:List AV}{vs:List Value}(h:VRs c L cs vs):VRs c L (Co aN d cs) vs:=by
 unfold Co
 split
 ·exact h
 ·exact Km h _
theorem Kn {c:Cx}{L:Nat→Prop}{aN:List Nat}{d:Option Nat}{x:AV}{v:Value}(h:VR c L x v):VR c L (MU aN d x) v:=by
 unfold MU
 split
 ·simp only [VR] at h ⊢
  obtain⟨vs,h1,h2⟩:=h
  exact⟨vs,h1,DO h2⟩
 ·exact h
theorem DP {n:Nat}{x:AV}(h:(wH n x).cK=true):x.cK=true:=by
 unfold wH at h
 split at h
 ·rfl
 ·exact h
theorem DQ {n:Nat}:∀{cs:List AV} (j:Nat),(Ck n j cs).all AV.cK=true→cs.all AV.cK=true
 | [],j,h=>rfl
 | x::cs,j,h=>by
  rw [Ck,acr,abA] at h
  rw [acr,abA]
  refine⟨?_,DQ (j+1) h.2⟩
  have h1:=h.1
  split at h1
  ·exact h1
  ·exact DP h1
theorem DR {n:Nat}:∀{cs:List AV},(cs.map (wH n)).all AV.cK=true→cs.all AV.cK=true
 | [],h=>rfl
 | x::cs,h=>by
  rw [ab5,acr,abA] at h
  rw [acr,abA]
  exact⟨DP h.1,DR h.2⟩
theorem Ko {aN:List Nat}{d:Option Nat}{cs:List AV}(h:(Co aN d cs).all AV.cK=true):cs.all AV.cK=true:=by
 unfold Co at h
 split at h
 ·exact h
 ·rename_i d'
  generalize G3 aN d'=n at h
  cases n with
  | zero=>exact h
  | succ n=>
   have e:Kg cs (n+1)=bif ac4 100 (n+1) then Ck (n+1) 0 cs else cs.map (wH (n+1)):=rfl
   rw [e] at h
   cases hb:ac4 100 (n+1)
   ·rw [hb,cond_false] at h; exact DR h
   ·rw [hb,cond_true] at h; exact DQ 0 h
theorem FA {c:Cx}{t:TypeId}{z:AV}(hz:jk P t=some z)(qf:z.cells.all AV.cK=true)(L:Nat→Prop):∃v:Value,(Instr.alloc t true (.tuple #[])).run P c.w = .ok (.pointer (some ⟨c.w.heap.size,0,none⟩)) (c.w.alloc (.cells v.cells t))∧VRs c L z.cells v.cells.toList∧∀u∈v.cells.toList,u.oneCell'=true:=by
 obtain⟨v,hr,hv⟩:=kE hz c.w
 obtain⟨h1,h2⟩:=jA qf (mE (c:=c) (L:=L) hv)
 exact⟨v,by simp [Instr.alloc,hr,newVar,newRow],h1,h2⟩
theorem jC (z:List AV):∀k,(jl z k).length=k*z.length
 | 0=>by simp [jl]
 | k+1=>by simp [jl,jC z k,acT,ac8]
theorem xj (z:List AV):∀(k i:Nat),i<k*z.length→(jl z k)[i]? = z[i % z.length]?
 | 0,i,h=>by simp at h
 | k+1,i,h=>by
  rw [acT,Nat.one_mul] at h
  rw [jl]
  by_cases h1:i<z.length
  ·rw [abS h1,Nat.mod_eq_of_lt h1]
  ·rw [abN (by omega),xj z k _ (by omega),←Nat.mod_eq_sub_mod (show z.length≤i by omega)]
theorem rI {c:Cx}{L:Nat→Prop}{z:List AV}{zv:Array Value}(hz:VRs c L z zv.toList)(k m:Nat)(hm:k*z.length≤m)(GO:z.length≠0) :
  VRs c L (jl z k) (((Array.range m).map (zv[· % zv.size]!)).toList.take (k*z.length)):=by
 have hl:=hz.length
 have key:∀(xs:List AV) (vs:List Value),xs.length=vs.length→(∀(i:Nat) x v,xs[i]? = some x→vs[i]? = some v→VR c L x v)→VRs c L xs vs:=by
  intro xs
  induction xs with
  | nil=>intro vs h _; cases vs with | nil=>trivial | cons _ _=>simp at h
  | cons x xs ih=>
   intro vs h kQ
   cases vs with
   | nil=>simp at h
   | cons v vs=>
    refine⟨kQ 0 x v rfl rfl,ih vs (by simpa using h) fun i y u hy hu=>kQ (i+1) y u (by simpa using hy) (by simpa using hu)⟩
 refine key _ _ (by rw [jC]; simp; omega) fun i x v hx hv=>?_
 have hi:i<k*z.length:=by
  have:=(abG.1 hx).1
  rwa [jC] at this
 rw [xj z k i hi] at hx
 obtain⟨u,hu,hr⟩:=hz.get _ x hx
 rw [List.getElem?_take,if_pos hi] at hv
 have DI:i<m:=by omega
 have tm:i % zv.size<zv.size:=Nat.mod_lt _ (by rw [←acJ,←hl]; omega)
 have:v=zv[i % zv.size]!:=by
  simp [DI] at hv
  exact hv.symm
 rw [show zv.toList.length=zv.size by simp] at hl
 rw [hl,Array.getElem?_toList,Array.getElem?_eq_getElem tm] at hu
 rw [this,getElem!_pos zv _ tm]
 cases hu
 exact hr
theorem mG (hb0:c0.base≤c0.w.heap.size)(hd:ij n ds o){ob:AObj}{x:AV}
  (h:∀a c Lo lam,Fr L0 c Lo lam ds s a→a.tmps.size=n→∃(obj:Obj) (v:Value),(execOp a.eval o).run P c.w = .ok (.value v) (c.w.alloc obj)∧
   (∀(c':Cx) (e:Ext c Lo c' Lo),c'.w=c.w.alloc obj→qe c' (un L0 Lo) c.w.heap.size 0 ob)∧
   (∀(c':Cx),c'.h=s.h.alloc ob→c'.w=c.w.alloc obj→c'.β s.h.next=(c.w.heap.size,0)→VR c' (un L0 Lo) x v)) (hx:∀k off,x≠.lp k off) :
  j7 P L0 c0 n ds o s ({s with h:=s.h.alloc ob}.set o.dst x):=by
 rintro a w K Q ⟨hn,c,Lo,lam,rfl,f,e⟩ hK
 have hbs:=jY e hb0
 obtain⟨obj,v,hr,hob,hv⟩:=h a c Lo lam f hn
 unfold Oper.wp
 rw [hr,Oper.upon_value]
 obtain⟨β',e',f',hβ,hl⟩:=f.fresh hbs c.w ⟨rfl,rfl,rfl,rfl⟩ ob obj hob
 rw [f.h] at f' e' hβ hl
 have f2:=f'.set (d:=o.dst) (x:=x) (v:=v) (SR.of (hv _ rfl rfl hβ)) (fun t ht=>by rw [hn]; exact hd t ht)
 exact hK _ _ ⟨(ig _ _ _).trans hn,_,Lo,lam,rfl,f2,e.trans e'⟩
theorem CA (hb0:c0.base≤c0.w.heap.size)(hd:ij n ds o){t:TypeId}(ho:o.op = .makeMap t none):j7 P L0 c0 n ds o s ({s with h:=s.h.alloc (.map [])}.set o.dst (.mp s.h.next)):=by
 refine mG hb0 hd (fun a c Lo lam f hn=>⟨.map #[] 0,.map (some c.w.heap.size),by simp [execOp,ho,Instr.makeMap],fun c' e hw=>⟨#[],0,by rw [hw]; exact jm _ _,trivial⟩,fun c' hh hw hβ=>?_⟩) (by rintro k off hh; cases hh)
 simp only [VR]
 exact⟨by rw [hh]; exact ack _,_,rfl,fun _=>by rw [hβ]⟩
theorem xk {i:Int}(h0:0≤i)(h1:i≤1099511627776):IntKind.i64.wrap i=i:=IntWalk.i64_in _ (by omega)
theorem yw (hb0:c0.base≤c0.w.heap.size)(hd:ij n ds o){t:TypeId}{lx cx:Operand}(ho:o.op = .makeSlice t lx cx){s':RS}
  (h:((iy P s.h t (ck s.ρ lx) (ck s.ρ cx)).map fun (x,h)=>{s with h}.set o.dst x)=some s'):j7 P L0 c0 n ds o s s':=by
 rw [aby] at h
 obtain⟨⟨x,h'⟩,hm,rfl⟩:=h
 unfold iy at hm
 split at hm<;>try (cases hm; done)
 rename_i l cc hl hc
 rw [abx] at hm
 obtain⟨d,Hg,hm⟩:=hm
 cases d<;>simp only at hm<;>try (cases hm; done)
 rename_i e
 simp only [abx] at hm
 obtain⟨i,hi,z,hz,hm⟩:=hm
 split at hm
 rotate_left
 ·cases hm
 rename_i kR
 obtain⟨h0,h1,h2,h3,h4,h5,h6⟩:=kR
 simp only [abz,abH] at hm
 obtain⟨rfl,rfl⟩:=hm
 refine mG hb0 hd (fun a c Lo lam f hn=>?_) (by rintro k off hh; cases hh)
 have Yu:s.h.next≠0:=by have:=f.rel.ver 0; rw [f.h] at this; omega
 have nk:=(bY f lx)
 have PO:=(bY f cx)
 rw [hl] at nk
 rw [hc] at PO
 simp only [SR,VR] at nk PO
 obtain⟨zv,G9,Cz⟩:=kE hz c.w
 have GP:(typeInfo e).run P c.w = .ok i c.w:=by simp [typeInfo,hi]
 have hsz:(sizeOf e).run P c.w = .ok i.size c.w:=eS (by simp [gh,hi]) c.w
 obtain⟨B8,hz1⟩:=jA h6 (mE (c:=c) (L:=un L0 Lo) Cz)
 have GO:=B8.length
 have hl0:IntKind.i64.wrap l=l:=xk h0 (by omega)
 have Pb:IntKind.i64.wrap cc=cc:=xk (by omega) h5
 have hroom:¬((i.bytes:Int)*cc > 2 ^ 48):=by
  rw [Int.mul_comm]; simp only [gJ] at h2; omega
 have hn0:cc.toNat*i.size=0∨cc.toNat*i.size≠0:=by omega
 have CB:(Instr.makeSlice t (.int .i64 l) (.int .i64 cc)).run P c.w = .ok (.slice (some ⟨c.w.heap.size,0,none⟩) l.toNat cc.toNat)
   (c.w.alloc (.cells ((Array.range (cc.toNat*i.size)).map (zv.cells[· % zv.cells.size]!)) e)):=by
  unfold Instr.makeSlice
  simp only [Sem.run_bind,bM Hg,Result.andThen_ok,asInt,asIntOf,Sem.run_pure,GP,hl0,Pb,hsz]
  rw [if_neg (by simp only [acu,decide_eq_true_eq,not_or]; exact⟨⟨⟨by omega,hroom⟩,by omega⟩,by omega⟩)]
  simp only [Sem.run_bind,run_askRoom,Result.andThen_ok,hsz,Sem.run_pure]
  by_cases hz0:cc.toNat*i.size=0
  ·have TB:∀f:Nat→Value,Array.map f (Array.range 0) = #[]:=fun f=>by simp
   simp only [hz0,if_true,Sem.run_pure,Sem.run_bind,Result.andThen_ok,newRow,run_newObj,World.alloc_eq,TB]
  ·simp only [hz0,if_false,Sem.run_bind,G9,Result.andThen_ok,Sem.run_pure,newRow,run_newObj,World.alloc_eq]
 have hle:l.toNat*z.cells.length≤cc.toNat*i.size:=by rw [h3]; exact acF _ (by omega)
 have hrow:∀(c':Cx) (e':Ext c Lo c' Lo),c'.w=c.w.alloc (.cells ((Array.range (cc.toNat*i.size)).map (zv.cells[· % zv.cells.size]!)) e)→
   qe c' (un L0 Lo) c.w.heap.size 0 (.cells (jl z.cells l.toNat)):=by
  intro c' e' hw
  refine⟨_,mF hw,by rw [jC]; simp; omega,?_⟩
  have hv:=rI B8 l.toNat (cc.toNat*i.size) hle (by omega)
  refine kF (w1:=c.w) hw (VRs.ext e' _ _ hv) (fun j hj=>?_) (fun u hu=>?_)
  ·rw [List.getElem?_take,if_pos (by simp at hj; omega),Array.getElem?_toList]
  ·have WI:=List.mem_of_mem_take hu
   simp only [Array.toList_map,abZ] at WI
   obtain⟨j,hj,rfl⟩:=WI
   have tm:j % zv.cells.size<zv.cells.size:=Nat.mod_lt _ (by rw [←acJ,←GO]; omega)
   rw [getElem!_pos zv.cells _ tm]
   exact hz1 _ (by simp)
 have hex:(execOp a.eval o).run P c.w = .ok (.value (.slice (some ⟨c.w.heap.size,0,none⟩) l.toNat cc.toNat)) (c.w.alloc (.cells ((Array.range (cc.toNat*i.size)).map (zv.cells[· % zv.cells.size]!)) e)):=by
  simp only [execOp,ho,nk,PO,Sem.run_bind,CB,Result.andThen_ok,Sem.run_pure]
 refine⟨_,_,hex,hrow,fun c' hh hw hβ=>?_⟩
 simp only [VR]
 refine .inr ⟨Yu,by rw [hh]; exact ack _,_,_,rfl,by omega,rfl,fun _=>.inl ?_⟩
 rw [hβ]
 refine⟨rfl,?_⟩
 simp only [Cx.len,World.shape?,hw,jm]
 simp
end
end Go.R
namespace Go.R
open Go
def mH:List Value→Nat→List Value→List Value
 | cs,_,[]=>cs
 | cs,i,v::vs=>mH (cs.set i v) (i+1) vs
theorem VRs.eh {c:Cx}{L:Nat→Prop}:∀{xs:List AV} {us:List Value} (i:Nat) {cs:List AV} {vs:List Value},VRs c L xs us→VRs c L cs vs→VRs c L (eh cs i xs) (mH vs i us)
 | [],[],i,cs,vs,_,h=>by
  have:R.eh cs i []=cs:=by cases cs<;>rfl
  rw [this]; cases vs<;>exact h
 | x::xs,u::us,i,cs,vs,h,k=>VRs.eh (i+1) h.2 (VRs.set h.1 i k)
 | [],_::_,_,_,_,h,_=>h.elim
 | _::_,[],_,_,_,h,_=>h.elim
theorem sM:∀(us:List Value) (i:Nat) (vs:List Value),(∀v∈vs,v.oneCell'=true)→(∀u∈us,u.oneCell'=true)→∀v∈mH vs i us,v.oneCell'=true
 | [],i,vs,h,_,v,hv=>h v (by cases vs<;>exact hv)
 | u::us,i,vs,h,k,v,hv=>sM us (i+1) (vs.set i u) (fun w hw=>by
   rcases List.mem_or_eq_of_mem_set hw with h1 | h1
   ·exact h w h1
   ·subst h1; exact k _ (by simp)) (fun w hw=>k w (by simp [hw])) v hv
theorem qg (off:Nat):∀(us:List Value) (j:Nat) (cells:Array Value),((us.zipIdx j).foldl (fun cs (p:Value × Nat)=>cs.setIfInBounds (off+p.2) p.1) cells).toList=mH cells.toList (off+j) us
 | [],j,cells=>by simp [mH]
 | u::us,j,cells=>by
  simp only [List.zipIdx_cons,List.foldl_cons]
  rw [qg off us (j+1)]
  simp [mH,acC]
section
variable {P:Program}{L0:Nat→Prop}{c0:Cx}{n:Nat}{ds:List Nat}{o:Oper}{s:RS}
def uE (c:Cx)(L:Nat→Prop):List (Nat × AV)→List (Nat × Value)→Prop
 | [],[]=>True
 | (i,x)::xs,(j,v)::vs=>(i=j∧(x.cells.all AV.cK=true→VR c L x v))∧uE c L xs vs
 | _,_=>False
theorem mI {c:Cx}{L:Nat→Prop}(pl:Nat→Option (Nat × Nat)):∀{ps:List (Nat × AV)} {vs:List (Nat × Value)} {cs gp:List AV} {C:Array Value},uE c L ps vs→VRs c L cs C.toList→(∀v∈C.toList,v.oneCell'=true)→um pl cs ps=some gp→
  ∃C':Array Value,Instr.fill pl C vs=some C'∧VRs c L gp C'.toList∧∀v∈C'.toList,v.oneCell'=true
 | [],[],cs,gp,C,_,hc,h1,h=>by
  simp only [um,abz] at h
  subst h
  exact⟨C,rfl,hc,h1⟩
 | (i,x)::ps,(j,v)::vs,cs,gp,C,hp,hc,h1,h=>by
  obtain⟨⟨rfl,hx⟩,TC⟩:=hp
  simp only [um,abx] at h
  obtain⟨⟨off,size⟩,zQ,h⟩:=h
  simp only at h
  split at h
  ·rename_i kR
   obtain⟨h2,h3,h4⟩:=kR
   obtain⟨h5,h6⟩:=jA h3 (hx h3)
   have h7:v.cells.size=size:=by rw [←acJ,←h5.length]; exact h2
   have h8:cs.length=C.size:=by rw [hc.length]; simp
   have hf:(v.cells.zipIdx.foldl (fun cs (p:Value × Nat)=>cs.setIfInBounds (off+p.2) p.1) C).toList=mH C.toList off v.cells.toList:=by
    rw [←Array.foldl_toList,Array.toList_zipIdx]
    exact qg off v.cells.toList 0 C
   obtain⟨C',h9,h10,h11⟩:=mI pl (C:=v.cells.zipIdx.foldl (fun cs (p:Value × Nat)=>cs.setIfInBounds (off+p.2) p.1) C) TC (by rw [hf]; exact VRs.eh off h5 hc) (by rw [hf]; exact sM _ _ _ h1 h6) h
   refine⟨C',?_,h10,h11⟩
   simp only [Instr.fill,zQ]
   rw [if_neg (by simp only [acu,decide_eq_true_eq,not_or,ne_eq,Decidable.not_not]; exact⟨h7,by omega⟩)]
   exact h9
  ·cases h
 | [],_::_,_,_,_,h,_,_,_=>h.elim
 | _::_,[],_,_,_,h,_,_,_=>h.elim
theorem qh {c:Cx}{Lo:Nat→Prop}{lam:Nat→Nat}{a:Act}(f:Fr L0 c Lo lam ds s a):∀ps:List (Nat × Operand),uE c (un L0 Lo) (ps.map fun (i,x)=>(i,ck s.ρ x)) (ps.map fun (i,x)=>(i,a.eval x))
 | []=>trivial
 | (i,x)::ps=>⟨⟨rfl,fun h=>(bY f x).tS h⟩,qh f ps⟩
theorem sN {v:Value}{x:AV}(h:pZ v=some x):x.cK=true:=by
 unfold pZ at h
 split at h<;>first | (cases h; done) | (cases h; rfl)
theorem qi:∀{vs:List Value} {xs:List AV},sH vs=some xs→xs.all AV.cK=true
 | [],xs,h=>by simp [sH] at h; subst h; rfl
 | v::vs,xs,h=>by
  simp only [sH,abx] at h
  obtain⟨x,hx,ys,hy,he⟩:=h
  cases he
  simp [sN hx,qi hy]
theorem pA {v:Value}{x:AV}(h:G1 v=some x):x.cells.all AV.cK=true:=by
 unfold G1 at h
 split at h
 ·rw [aby] at h
  obtain⟨xs,hx,rfl⟩:=h
  exact qi hx
 ·have h1:=sN h
  cases x<;>simp_all [AV.cells,AV.cK]
theorem uF {c:Cx}(w:World):∀fs:List Field,(∀f∈fs,∃m,gh P f.type=some m)→(fs.mapM (m:=Sem) fun f=>do pure (f.offset,←sizeOf f.type)).run P w = .ok (fs.map fun f=>(f.offset,(gh P f.type).getD 0)) w
 | [],_=>by simp
 | f::fs,h=>by
  obtain⟨m,hm⟩:=h f (by simp)
  have ih:=uF (c:=c) w fs (fun g hg=>h g (by simp [hg]))
  simp only [List.mapM_cons,Sem.run_bind,eS hm,ih,hm,Sem.run_pure,Result.andThen_ok,ab5,acz]
theorem run_build {c:Cx}{L:Nat→Prop}{t:TypeId}{ps:List (Nat × AV)}{vs:List (Nat × Value)}{y:AV}(hp:uE c L ps vs)(h:Cg P t ps=some y) :
  ∃v,(Instr.build t vs.toArray).run P c.w = .ok v c.w∧VR c L y v:=by
 unfold Cg at h
 simp only [abx] at h
 obtain⟨z,hz,d,hd,h⟩:=h
 obtain⟨zv,G9,Cz⟩:=kE hz c.w
 obtain⟨B8,hz1⟩:=jA (pA Cz) (mE (c:=c) (L:=L) Cz)
 cases d<;>simp only at h<;>try (cases h; done)
 ·rename_i len e
  simp only [abx,aby] at h
  obtain⟨m,hm,cs,hf,rfl⟩:=h
  obtain⟨C',h1,h2,_⟩:=mI _ hp B8 hz1 hf
  refine⟨.agg C',?_,by simp only [VR]; exact⟨C',rfl,h2⟩⟩
  unfold Instr.build
  simp [G9,bM hd,eS hm,h1]
 ·rename_i fs
  split at h
  rotate_left
  ·cases h
  rename_i PQ
  have kQ:∀f∈fs.toList,∃m,gh P f.type=some m:=fun f hf=>acd.1 (abW.1 PQ f hf)
  rw [aby] at h
  obtain⟨cs,hf,rfl⟩:=h
  obtain⟨C',h1,h2,_⟩:=mI _ hp B8 hz1 hf
  refine⟨.agg C',?_,by simp only [VR]; exact⟨C',rfl,h2⟩⟩
  have Yv:=uF (P:=P) (c:=c) c.w fs.toList kQ
  have zQ:(fun i=>(fs.toList.map fun f=>(f.offset,(gh P f.type).getD 0)).toArray[i]?)=Cf P fs.toList:=by
   funext i
   simp only [Cf,List.getElem?_toArray,ab1]
   cases hi:fs.toList[i]? with
   | none=>rfl
   | some f=>
    obtain⟨m,hm⟩:=kQ f (abJ hi)
    simp [hm]
  unfold Instr.build
  simp only [Sem.run_bind,G9,bM hd,Result.andThen_ok]
  rw [←Array.toArray_toList (xs:=fs),List.mapM_toArray]
  simp only [Sem.run_map,Yv,Result.andThen_ok]
  rw [zQ,h1]
  rfl
end
end Go.R
namespace Go.R
open Go
section
variable {P:Program}{L0:Nat→Prop}{c0:Cx}{n:Nat}{ds:List Nat}{o:Oper}{s:RS}
theorem uG (hb0:c0.base≤c0.w.heap.size)(hd:ij n ds o){x:AV}
  (h:∀a c Lo lam,Fr L0 c Lo lam ds s a→a.tmps.size=n→c.base≤c.w.heap.size→∃(w':World) (v:Value),(execOp a.eval o).run P c.w = .ok (.value v) w'∧(∀b,b<c.w.heap.size→iR c.w w' b)∧(∀id,Live c.h id→w'.heap[(c.β id).1]? = c.w.heap[(c.β id).1]?)∧(∀b,b<c.base→w'.heap[b]? = c.w.heap[b]?)∧c.w.heap.size≤w'.heap.size∧
   w'.os=c.w.os∧w'.tape=c.w.tape∧w'.output=c.w.output∧(Ext c Lo {c with w:=w'} Lo→VR {c with w:=w'} (un L0 Lo) x v)) (hx:∀k off,x≠.lp k off) :
  j7 P L0 c0 n ds o s (s.set o.dst x):=by
 rintro a w K Q ⟨hn,c,Lo,lam,rfl,f,e⟩ hK
 obtain⟨w',v,hr,h1,Yw,h2,h3,h4,h5,h6,hv⟩:=h a c Lo lam f hn (jY e hb0)
 obtain⟨e',f'⟩:=f.world h1 Yw h2 h3 h4 h5 h6
 unfold Oper.wp
 rw [hr,Oper.upon_value]
 exact hK _ _ ⟨(ig _ _ _).trans hn,_,Lo,lam,rfl,f'.set (SR.of (hv e')) (fun t ht=>by rw [hn]; exact hd t ht),e.trans e'⟩
theorem Hh {c c':Cx}{Lo:Nat→Prop}(r:HRel c (un L0 Lo))(hβ:c'.β=c.β)(hh:c'.h=c.h):RO c' (un L0 Lo) c.w.heap.size:=by
 refine⟨fun id hl he=>?_,fun hL=>?_⟩
 ·rw [hh] at hl
  rw [hβ] at he
  have:=r.block hl; omega
 ·have:=r.bd _ hL; omega
theorem nQ {c:Cx}{L:Nat→Prop}{t:TypeId}{len:Nat}{ps:List (Nat × AV)}{vs:List (Nat × Value)}{y:AV}(hp:uE c L ps vs)(h:iw P t len ps=some y) :
  (y = .fz [] 0 true∧∃e,(Instr.buildSlice t len vs.toArray).run P c.w = .ok (.slice (some ⟨c.w.heap.size,0,none⟩) 0 0) (c.w.alloc (.cells #[] e)))∨
  ∃cs C e,y = .fz cs len true∧(Instr.buildSlice t len vs.toArray).run P c.w = .ok (.slice (some ⟨c.w.heap.size,0,none⟩) len len) (c.w.alloc (.cells C e))∧VRs c L cs C.toList∧∀v∈C.toList,v.oneCell'=true:=by
 unfold iw at h
 rw [abx] at h
 obtain⟨d,hd,h⟩:=h
 cases d<;>simp only at h<;>try (cases h; done)
 rename_i e
 rw [abx] at h
 obtain⟨m,hm,h⟩:=h
 split at h
 ·cases h
 rename_i PR
 have uA:m≠0:=fun h=>PR (.inl h)
 have PS:¬(len*m > 2 ^ 24):=fun h=>PR (.inr (by omega))
 split at h
 ·rename_i hl0
  subst hl0
  split at h
  ·rename_i Yx
   cases h
   have TC:ps=[]:=by simpa using Yx
   subst TC
   cases vs with
   | cons _ _=>exact hp.elim
   | nil=>
   refine .inl ⟨rfl,e,?_⟩
   unfold Instr.buildSlice
   simp only [Sem.run_bind,bM hd,eS hm,Result.andThen_ok,Nat.zero_mul,if_true,Sem.run_pure]
   have TB:∀f:Nat→Value,Array.map f (Array.range 0) = #[]:=fun f=>by simp
   simp only [Instr.fill,newRow,TB,Sem.run_bind,run_newObj,Result.andThen_ok,Sem.run_pure,World.alloc_eq]
   rfl
  ·cases h
 ·rename_i hl0
  rw [abx] at h
  obtain⟨z,hz,h⟩:=h
  split at h
  rotate_left
  ·cases h
  rename_i GO
  rw [aby] at h
  obtain⟨cs,hf,rfl⟩:=h
  obtain⟨zv,G9,Cz⟩:=kE hz c.w
  obtain⟨B8,hz1⟩:=jA (pA Cz) (mE (c:=c) (L:=L) Cz)
  have hz0:=rI B8 len (len*m) (by rw [GO]; exact abB _) (by omega)
  rw [ach (by simp [GO])] at hz0
  have hz2:∀u∈((Array.range (len*m)).map (zv.cells[· % zv.cells.size]!)).toList,u.oneCell'=true:=by
   intro u hu
   simp only [Array.toList_map,abZ] at hu
   obtain⟨j,hj,rfl⟩:=hu
   have tm:j % zv.cells.size<zv.cells.size:=Nat.mod_lt _ (by rw [←acJ,←B8.length]; omega)
   rw [getElem!_pos zv.cells _ tm]
   exact hz1 _ (by simp)
  obtain⟨C',h1,h2,h3⟩:=mI _ hp hz0 hz2 hf
  refine .inr ⟨cs,C',e,rfl,?_,h2,h3⟩
  have hne:len*m≠0:=Nat.mul_ne_zero hl0 uA
  unfold Instr.buildSlice
  simp only [Sem.run_bind,bM hd,eS hm,Result.andThen_ok,PS,hne,if_false,Sem.run_pure,G9]
  rw [h1]
  simp [newRow]
theorem wJ (hb0:c0.base≤c0.w.heap.size)(hd:ij n ds o){t:TypeId}{len:Nat}{ps:Array (Nat × Operand)}(ho:o.op = .buildSlice t len ps){y:AV}
  (h:iw P t len (ps.toList.map fun (i,x)=>(i,ck s.ρ x))=some y):j7 P L0 c0 n ds o s (s.set o.dst y):=by
 refine uG hb0 hd (fun a c Lo lam f hn hbs=>?_) ?_
 ·have hp:=qh f ps.toList
  have hex:∀v w',(Instr.buildSlice t len (ps.toList.map fun (i,x)=>(i,a.eval x)).toArray).run P c.w = .ok v w'→(execOp a.eval o).run P c.w = .ok (.value v) w':=by
   intro v w' hr
   have he:ps.map (fun (i,x)=>(i,a.eval x))=(ps.toList.map fun (i,x)=>(i,a.eval x)).toArray:=by
    apply ac9; simp
   simp only [execOp,ho,Sem.run_bind]
   rw [he,hr]
   rfl
  rcases nQ hp h with⟨rfl,e,hr⟩| ⟨cs,C,e,rfl,hr,hv,h1⟩
  ·refine⟨_,_,hex _ _ hr,fun b hb=>.inl (alloc_old _ _ hb),fun id hl=>alloc_old _ _ (f.rel.block hl),fun b hb=>alloc_old _ _ (by omega),by simp,rfl,rfl,rfl,fun _=>by simp only [VR]; exact⟨_,_,rfl,abB _,fun _=>rfl,.inl rfl,.inl trivial⟩⟩
  ·refine⟨_,_,hex _ _ hr,fun b hb=>.inl (alloc_old _ _ hb),fun id hl=>alloc_old _ _ (f.rel.block hl),fun b hb=>alloc_old _ _ (by omega),by simp,rfl,rfl,rfl,fun e'=>?_⟩
   simp only [VR]
   exact⟨_,_,rfl,abB _,fun _=>rfl,.inl rfl,.inr ⟨c.w.heap.size,0,rfl,Hh f.rel rfl rfl,fun _=>hbs,kF (w1:=c.w) rfl (VRs.ext e' _ _ hv) (fun i _=>by simp) h1⟩⟩
 ·rintro k off rfl
  unfold iw at h
  rw [abx] at h
  obtain⟨d,_,h⟩:=h
  cases d<;>simp only at h<;>try (cases h; done)
  rw [abx] at h
  obtain⟨m,_,h⟩:=h
  split at h
  ·cases h
  ·split at h
   ·split at h<;>cases h
   ·rw [abx] at h
    obtain⟨z,_,h⟩:=h
    split at h
    ·rw [aby] at h
     obtain⟨_,_,h⟩:=h
     cases h
    ·cases h
theorem Ai {aN:List Nat}{t:TypeId}{y:AV}{cs:List AV}{k z:Nat}(h:px P aN o t y=some (cs,k,z)):y = .fz cs k true∧cs.length=k*z∧cs≠[]:=by
 unfold px at h
 split at h
 ·rename_i d c gp k' hd
  cases hc:aN.contains d with
  | false=>rw [hc] at h; cases h
  | true=>
   rw [hc] at h
   simp only [cond_true] at h
   split at h
   ·split at h
    ·rename_i z' hz
     cases hb:acj (c::gp).length (k'*z') with
     | false=>rw [hb] at h; cases h
     | true=>
      rw [hb] at h
      simp only [cond_true,abz,abH] at h
      obtain⟨rfl,rfl,rfl⟩:=h
      exact⟨rfl,acK hb,by simp⟩
    ·cases h
   ·cases h
 ·cases h
theorem uH (hb0:c0.base≤c0.w.heap.size)(hd:ij n ds o){t:TypeId}{len:Nat}{ps:Array (Nat × Operand)}(ho:o.op = .buildSlice t len ps){y:AV}(aN:List Nat)
  (h:iw P t len (ps.toList.map fun (i,x)=>(i,ck s.ρ x))=some y):j7 P L0 c0 n ds o s (rF P aN s o t y):=by
 have key:=wJ (L0:=L0) hb0 hd ho h
 unfold rF
 cases M3:px P aN o t y with
 | none=>exact key
 | some q=>
 obtain⟨SJ,n1,z⟩:=q
 obtain⟨rfl,hlen,hne⟩:=Ai M3
 have fin:=mG (P:=P) (L0:=L0) (c0:=c0) (o:=o) (s:=s) hb0 hd (ob:=.cells SJ) (x:=.rs s.h.next 0 n1 z) (fun a c Lo lam f hn=>by
  have hp:=qh f ps.toList
  have hex:∀v w',(Instr.buildSlice t len (ps.toList.map fun (i,x)=>(i,a.eval x)).toArray).run P c.w = .ok v w'→(execOp a.eval o).run P c.w = .ok (.value v) w':=by
   intro v w' hr
   have he:ps.map (fun (i,x)=>(i,a.eval x))=(ps.toList.map fun (i,x)=>(i,a.eval x)).toArray:=by
    apply ac9; simp
   simp only [execOp,ho,Sem.run_bind]
   rw [he,hr]
   rfl
  rcases nQ hp h with⟨he,_⟩| ⟨cs,C,e,he,hr,hv,h1⟩
  ·cases he; exact absurd rfl hne
  ·cases he
   have PT:C.size=SJ.length:=by rw [←acJ,←hv.length]
   refine⟨_,_,hex _ _ hr,fun c' e' hw=>⟨_,mF (w1:=c.w) hw,by rw [PT,abY]; exact abB _,kF (w1:=c.w) hw (VRs.ext e' _ _ hv) (fun i _=>by simp) h1⟩,fun c' hh hw hβ=>?_⟩
   simp only [VR]
   refine .inr ⟨(by have:=f.rel.ver 0; rw [f.h] at this; omega),by rw [hh]; exact ack _,_,_,rfl,abB _,rfl,fun _=>.inl ?_⟩
   rw [hβ]
   refine⟨rfl,?_⟩
   simp only [Cx.len,World.shape?,hw,jm]
   simp only [abE,acz,PT,hlen,abY]) (by rintro k off hh; cases hh)
 exact fin
theorem rJ {c:Cx}{Lo:Nat→Prop}{lam:Nat→Nat}{a:Act}(f:Fr L0 c Lo lam ds s a){tx:TypeId}{size m:Nat}{x:AV}{v:Value}{new:List AV}(hx:SR c L0 Lo lam s.bx x v)
  (hk:(∃e',P.underlying tx=some (.slice e'))∨P.underlying tx=some .string) (CC:∀st,x = .str st→P.underlying tx=some .string) (Hi:(∀st,x≠.str st)→∃e',P.underlying tx=some (.slice e')) (h:fI s.h size x=some (new,m)) :
  ∃news,Src P size tx v m news c.w∧VRs c (un L0 Lo) new news:=by
 unfold fI at h
 cases x<;>simp only at h<;>try (cases h; done)
 ·rename_i st
  split at h
  ·rename_i h1
   subst h1
   cases h
   simp only [SR,VR] at hx
   subst hx
   refine⟨_,Src.ofString c.w (CC st rfl) st,?_⟩
   unfold byteCells
   generalize st.data.toList=l
   induction l with
   | nil=>trivial
   | cons b l ih=>exact⟨by simp [VR],ih⟩
  ·cases h
 ·cases h
  obtain⟨e',he⟩:=Hi (by rintro st h; cases h)
  simp only [SR,VR] at hx
  subst hx
  exact⟨[],Src.ofNil c.w he 0,trivial⟩
 ·rename_i cs k ex
  split at h
  ·rename_i hl
   cases h
   obtain⟨e',he⟩:=Hi (by rintro st h; cases h)
   simp only [SR,VR] at hx
   obtain⟨ad,cap,rfl,h1,h2,_,hc⟩:=hx
   rcases hc with rfl | ⟨b,o',rfl,hr,hex,hc⟩
   ·have hl0:m*size=0:=by simpa using hl.symm
    cases ad with
    | none=>
     refine⟨[],⟨.inl ⟨e',he⟩,fun _=>rfl,run_firstCells_none c.w size m m cap,run_firstCells_none c.w.drew size m m cap,by simpa using hl,fun _ h=>by cases h⟩,trivial⟩
    | some ad=>exact⟨[],Src.ofSlice c.w he ad m cap [] (by simpa using hl) (fun j u hu=>by simp at hu) (fun u hu=>by cases hu),trivial⟩
   ·obtain⟨vs,q1,q2,q3⟩:=hc.vals
    refine⟨vs,Src.ofSlice c.w he _ m cap vs (by rw [←q1.length]; exact hl) (fun j u hu=>?_) q3,q1⟩
    rw [addr_add,q2 j (by rw [q1.length]; exact (abG.1 hu).1)]
    exact hu
  ·cases h
 ·rename_i id off k jj
  split at h
  ·rename_i hid
   split at h
   rotate_left
   ·cases h
   rename_i SH
   cases h
   obtain⟨e',he⟩:=Hi (by rintro st h; cases h)
   simp only [SR,VR] at hx
   rcases hx with⟨_,_,_,a,rfl⟩| ⟨_,_,a,cap,rfl,_,h2,_⟩
   rotate_left
   ·cases a with
    | none=>cases h2
    | some ad=>subst SH; exact⟨[],Src.ofSlice c.w he ad 0 cap [] (by simp) (fun j u hu=>by simp at hu) (fun u hu=>by cases hu),trivial⟩
   cases a with
   | none=>exact⟨[],Src.ofNil c.w he 0,trivial⟩
   | some ad=>exact⟨[],Src.ofSlice c.w he ad 0 0 [] (by simp) (fun j u hu=>by simp at hu) (fun u hu=>by cases hu),trivial⟩
  rename_i lf
  rw [abx] at h
  obtain⟨ob,hob,h⟩:=h
  cases ob with
  | map es=>cases h
  | row t cs=>cases h
  | cells cs=>
  simp only at h
  split at h
  ·rename_i hh
   obtain⟨rfl,hle⟩:=hh
   cases h
   obtain⟨e',he⟩:=Hi (by rintro st h; cases h)
   simp only [SR,VR] at hx
   rcases hx with hx | ⟨_,hid,ad,cap,rfl,h1,h2,h3⟩
   ·exact absurd (.inl hx.1) lf
   rw [←f.h] at hob
   have hl:Live c.h id:=⟨f.rel.lt _ _ hob,by simp [hob]⟩
   obtain⟨q,hp,hm,hc⟩:=f.rel.obj _ _ hob
   have hc2:=(hc.drop off).take (m*jj)
   have hlen:((cs.drop off).take (m*jj)).length=m*jj:=by simp; omega
   obtain⟨vs,q1,q2,q3⟩:=hc2.vals
   rcases h3 hl with⟨h5,h4⟩| hcap
   ·subst h5
    refine⟨vs,Src.ofSlice c.w he _ m cap vs (by rw [←q1.length]; exact hlen) (fun j u hu=>?_) q3,q1⟩
    rw [addr_add,q2 j (by rw [q1.length]; exact (abG.1 hu).1)]
    exact hu
   ·have uA:m=0:=by omega
    subst uA
    simp only [Nat.zero_mul,List.take_zero] at q1 ⊢
    cases ad with
    | none=>simp at h2
    | some ad=>exact⟨[],Src.ofSlice c.w he ad 0 cap [] (by simp) (fun j u hu=>by simp at hu) (fun u hu=>by cases hu),trivial⟩
  ·cases h
end
end Go.R
namespace Go.R
open Go
section
variable {P:Program}{L0:Nat→Prop}{c0:Cx}{n:Nat}{ds:List Nat}{o:Oper}{s:RS}
theorem grownCap_ge (w:World){need old:Nat}{e:TypeId}:need≤grownCap w need old e:=by
 unfold grownCap
 simp only [Question.cut]
 omega
theorem uI (z:Array Value)(k:Nat):(Builtin.zeroCells z k).size=k*z.size:=by simp [Builtin.zeroCells]
theorem ja (w:World){t tx ty e:TypeId}{i:TypeInfo}(ht:P.underlying t=some (.slice e))(hi:P.info? e=some i){base:Option Addr}{len cap:Nat}(hlc:len≤cap){x:Value}{news:List Value}(hs:Src P i.size tx x 0 news w) :
  (Builtin.append_ #[t,tx] ty #[.slice base len cap,x]).run P w = .ok (.slice base len cap) w:=by
 have PU:news=[]:=acf (by rw [hs.newsLen]; simp)
 have hc:=hs.cells
 rw [PU] at hc
 rcases hs.kind with⟨e',hk⟩| hk<;>cases base<;>simp [Builtin.append_,run_underlying ht,run_underlying hk,sizeOf,typeInfo,hi,hs.len,hlc,hc,storeCells]
theorem yx {c:Cx}{b m:Nat}(hp:Plain c b m){j:Nat}(hj:j<m):c.w.frozen? ⟨b,j,none⟩=false:=by
 obtain⟨C,e,lo,hi,hb,hf,rfl⟩:=hp
 simp only [World.frozen?,hb]
 rcases hf with hf | hf
 ·subst hf; simp
 ·simp; omega
theorem Fr.grown {c:Cx}{Lo:Nat→Prop}{lam:Nat→Nat}{a:Act}(f:Fr L0 c Lo lam ds s a)(hbs:c.base≤c.w.heap.size){e:TypeId}{z:Value}{size need cap:Nat}(GP:z.cells.size=size)(hcap:need≤cap){xs:List AV}{vs:List Value}(hv:VRs c (un L0 Lo) xs vs)(h1:∀v∈vs,v.oneCell'=true)
  (hl:vs.length=need*size) (h':AHeap) (hg:h'.get c.h.next=some (.cells xs)) (hst:Steady c.h h') (hn:c.h.next<h'.next) (ho:∀id,id≠c.h.next→h'.get id=none∨h'.get id=c.h.get id) :
  ∃c':Cx,c'.w=c.w.drew.alloc (.cells (vs.toArray++Builtin.zeroCells z.cells (cap - need)) e)∧c'.h=h'∧Ext c Lo c' Lo∧Fr L0 c' Lo lam ds {s with h:=h'} a∧VR c' (un L0 Lo) (.rs c.h.next 0 need size) (.slice (some ⟨c.w.heap.size,0,none⟩) need cap):=by
 have PT:(vs.toArray++Builtin.zeroCells z.cells (cap - need)).size=cap*size:=by
  rw [Array.size_append,uI,GP,List.size_toArray,hl,←acT]
  congr 1; omega
 have WJ:=hv.length
 obtain⟨β',e',f',hβ,hlive⟩:=f.He hbs c.w.drew ⟨rfl,rfl,rfl,rfl⟩ (.cells xs) (.cells (vs.toArray++Builtin.zeroCells z.cells (cap - need)) e) h' hg hst hn ho (fun c' e' hw=>by
  refine⟨_,mF (w1:=c.w.drew) hw,?_,kF (w1:=c.w.drew) hw (VRs.ext e' _ _ hv) (fun i hi=>?_) h1⟩
  ·rw [PT,abY,WJ,hl]; exact acF _ hcap
  ·rw [Array.getElem?_append_left (by simpa using hi)]; simp)
 refine⟨_,rfl,rfl,e',f',?_⟩
 simp only [VR]
 refine .inr ⟨(by have:=f.rel.ver 0; omega),hlive.1,_,_,rfl,hcap,rfl,fun _=>.inl ?_⟩
 rw [hβ]
 refine⟨rfl,?_⟩
 have:(c.w.drew.alloc (.cells (vs.toArray++Builtin.zeroCells z.cells (cap - need)) e)).heap[c.w.heap.size]? = some (.cells (vs.toArray++Builtin.zeroCells z.cells (cap - need)) e):=jm c.w.drew _
 simp only [Cx.len,World.shape?,this,abE,acz,PT]
 omega
theorem FB (hb0:c0.base≤c0.w.heap.size)(hd:ij n ds o){t t2:TypeId}{sx xx:Operand}(ho:o.op = .call {callee:=.builtin .append,args:=#[sx,xx],argTypes:=#[t,t2]}){s':RS}
  (h:((dy P s.h t t2 (ck s.ρ sx) (ck s.ρ xx)).map fun (v,h)=>{s with h}.set o.dst v)=some s'):j7 P L0 c0 n ds o s s':=by
 rw [aby] at h
 obtain⟨⟨y,h'⟩,ha,rfl⟩:=h
 unfold dy at ha
 rw [abx] at ha
 obtain⟨d,Hg,ha⟩:=ha
 cases d<;>simp only at ha<;>try (cases ha; done)
 rename_i e
 rw [abx] at ha
 obtain⟨i,hi,ha⟩:=ha
 rw [abx] at ha
 obtain⟨⟨new,m⟩,M4,ha⟩:=ha
 simp only at ha
 obtain⟨M8,hcs,hnew⟩:∃M8,fI s.h i.size (ck s.ρ xx)=some (M8,m)∧new=M8.map kJ:=by
  unfold eG at M4
  rw [aby] at M4
  obtain⟨⟨p,q⟩,h1,h2⟩:=M4
  simp only [abH] at h2
  obtain⟨rfl,rfl⟩:=h2
  exact⟨p,h1,rfl⟩
 split at ha
 ·cases ha
 rename_i kR
 have hsz0:i.size≠0:=fun h=>kR (.inl h)
 have hH:jz P t2 (ck s.ρ xx)=true:=by
  cases hq:jz P t2 (ck s.ρ xx) with
  | true=>rfl
  | false=>exact absurd (.inr (.inl hq)) kR
 obtain⟨zv,z,B8,Cz,GO⟩:∃zv z,i.zero=some zv∧G1 zv=some z∧z.cells.length=i.size:=by
  have hz:L4 i=true:=by
   cases hq:L4 i with
   | true=>rfl
   | false=>exact absurd (.inr (.inr hq)) kR
  unfold L4 at hz
  cases hq:i.zero.bind G1 with
  | none=>rw [hq] at hz; cases hz
  | some z=>
   rw [hq] at hz
   obtain⟨zv,h1,h2⟩:=abx.1 hq
   exact⟨zv,z,h1,h2,by simpa using hz⟩
 have GP:∀c L,zv.cells.size=i.size:=fun (c:Cx) (L:Nat→Prop)=>by
  have:=(jA (pA Cz) (mE (c:=c) (L:=L) Cz)).1.length
  rw [GO] at this
  simpa using this.symm
 have Ad:(∃e',P.underlying t2=some (.slice e'))∨P.underlying t2=some .string:=by
  unfold jz at hH
  split at hH
  ·right; revert hH; split<;>simp_all
  ·left; revert hH; split<;>simp_all
 have CC:∀st,ck s.ρ xx = .str st→P.underlying t2=some .string:=by
  intro st he
  rw [he] at hH
  simp only [jz] at hH
  revert hH; split<;>simp_all
 have Hi:(∀st,ck s.ρ xx≠.str st)→∃e',P.underlying t2=some (.slice e'):=by
  intro hne
  unfold jz at hH
  split at hH
  ·rename_i st he; exact absurd he (hne st)
  ·revert hH; split<;>simp_all
 rintro a w K Q ⟨hn,c,Lo,lam,rfl,f,e0⟩ hK
 have hbs:=jY e0 hb0
 obtain⟨news,hS,Ma⟩:=rJ (P:=P) f (bY f xx) Ad CC Hi hcs
 replace Ma:VRs c (un L0 Lo) new news:=hnew ▸ uy Ma
 have hex:∀v w',(Builtin.append_ #[t,t2] o.type #[a.eval sx,a.eval xx]).run P c.w = .ok v w'→(execOp a.eval o).run P c.w = .ok (.value v) w':=by
  intro v w' hr
  unfold execOp
  simp only [ho,resolve,invoke,builtin,Sem.run_bind,Sem.run_pure,Result.andThen_ok,List.map_toArray,ab5,List.map_nil,hr]
 have fin:∀c' v,(Builtin.append_ #[t,t2] o.type #[a.eval sx,a.eval xx]).run P c.w = .ok v c'.w→Ext c Lo c' Lo→Fr L0 c' Lo lam ds {s with h:=h'} a→VR c' (un L0 Lo) y v→o.wp P a c.w K Q:=by
  intro c' v hr e' f' hv
  unfold Oper.wp
  rw [hex v _ hr,Oper.upon_value]
  exact hK _ _ ⟨(ig _ _ _).trans hn,c',Lo,lam,rfl,f'.set (SR.of hv) (fun t ht=>by rw [hn]; exact hd t ht),e0.trans e'⟩
 have DS:=bY f sx
 have h63:∀k:Nat,k≤gJ→(k:Int)≤9223372036854775807:=fun k hk=>by simp only [gJ] at hk; omega
 have hfit:∀need old,old<need→need*i.bytes≤gJ→Builtin.nextslicecap need old*i.bytes≤281474976710656:=fun need old h1 h2=>growslice_fits h1 (by simp only [gJ] at h2; omega)
 have hnl:=Ma.length
 have hone:=hS.one
 have Aj:=hS.newsLen
 cases hq:ck s.ρ sx with
 | nils=>
  rw [hq] at ha DS
  simp only [SR,VR] at DS
  obtain⟨ad,B6,Yy⟩:∃ad:Option Addr,a.eval sx = .slice ad 0 0∧ad=none:=⟨none,DS,rfl⟩
  simp only at ha
  split at ha
  ·cases ha
  rename_i hroom
  split at ha
  ·rename_i uA
   subst uA
   cases ha
   refine fin c (.slice ad 0 0) ?_ (Ext.refl _ _) f (by simp only [VR]; exact .inl ⟨trivial,trivial,trivial,ad,rfl⟩)
   rw [B6]
   exact ja c.w Hg hi (abB _) hS
  ·rename_i uA
   cases ha
   have hold:(Builtin.firstCells i.size 0 (.slice ad 0 0)).run P c.w.drew = .ok ([]:List Value).toArray c.w.drew:=by
    cases ad with
    | none=>exact run_firstCells_none _ _ _ _ _
    | some ad=>exact run_firstCells_some _ _ _ _ _ _ [] (by simp) (fun j v hj=>by simp at hj)
   have hr:=run_append_grow_src c.w t t2 o.type e i zv Hg hi B8 ad 0 0 [] hold (a.eval xx) m news hS (by omega) (by rw [abY]; exact h63 _ (by omega)) (hfit _ _ (by omega) (by rw [abY]; omega))
   simp only [abY,aci] at hr
   obtain⟨c',hw,hh,e',f',hv⟩:=f.grown hbs (e:=e) (GP c L0) (grownCap_ge c.w (need:=m) (old:=0) (e:=e)) Ma hone Aj (s.h.alloc (.cells new)) (by rw [f.h]; simp [AHeap.alloc,AHeap.put,beq_nat]) (by rw [f.h]; exact Steady.put _ _ _) (by rw [f.h]; exact ack _) (fun id hne=>.inr (by rw [f.h] at hne ⊢; simp [AHeap.alloc,AHeap.put,beq_nat,hne]))
   refine fin c' _ ?_ e' f' (by rw [←f.h]; exact hv)
   rw [B6,hw]
   exact hr
 | fz cs len ex=>
  rw [hq] at ha DS
  cases ex with
  | false=>simp only at ha; cases ha
  | true=>
  simp only [SR,VR] at DS
  obtain⟨ad,cap,B6,h1,h2,zR,hc⟩:=DS
  have hcap:=h2 trivial
  subst hcap
  simp only at ha
  split at ha
  ·cases ha
  rename_i hroom
  split at ha
  ·rename_i uA
   subst uA
   refine fin c (.slice ad cap cap) ?_ (Ext.refl _ _) (by split at ha<;>cases ha<;>exact f) ?_
   ·rw [B6]
    exact ja c.w Hg hi (abB _) hS
   ·split at ha
    ·rename_i hz
     cases ha
     subst hz
     simp only [VR]
     exact .inl ⟨trivial,trivial,trivial,ad,rfl⟩
    ·cases ha
     simp only [VR]
     exact⟨ad,cap,rfl,h1,h2,zR,hc⟩
  ·rename_i uA
   cases ha
   have hcl:cs.length=cap*i.size:=by
    by_cases h3:cs.length=cap*i.size
    ·exact h3
    ·exact absurd (.inr (.inr h3)) hroom
   obtain⟨uJ,Pc,TD,Mb⟩:∃uJ:List Value,VRs c (un L0 Lo) cs uJ∧(Builtin.firstCells i.size cap (.slice ad cap cap)).run P c.w.drew = .ok uJ.toArray c.w.drew∧∀v∈uJ,v.oneCell'=true:=by
    rcases hc with rfl | ⟨b,o',rfl,hr,Yz,hc⟩
    ·refine⟨[],trivial,?_,fun _ h=>by cases h⟩
     cases ad with
     | none=>exact run_firstCells_none _ _ _ _ _
     | some ad=>exact run_firstCells_some _ _ _ _ _ _ [] (by simpa using hcl) (fun j v hj=>by simp at hj)
    ·obtain⟨vs,q1,q2,q3⟩:=hc.vals
     refine⟨vs,q1,run_firstCells_some _ _ _ _ _ _ vs (by rw [←q1.length]; exact hcl) (fun j v hj=>?_),q3⟩
     rw [World.cell?_drew,addr_add,q2 j (by rw [q1.length]; exact (abG.1 hj).1)]
     exact hj
   have Kp:=Pc.length
   have hr:=run_append_grow_src c.w t t2 o.type e i zv Hg hi B8 ad cap cap uJ TD (a.eval xx) m news hS (by omega) (h63 _ (by omega)) (hfit _ _ (by omega) (by omega))
   obtain⟨c',hw,hh,e',f',hv⟩:=f.grown hbs (e:=e) (GP c L0) (grownCap_ge c.w (need:=cap+m) (old:=cap) (e:=e)) (VRs.append Pc Ma) (fun v hv=>(abP.1 hv).elim (Mb v) (hone v)) (by rw [abQ,Aj,←Kp,hcl,acT]) (s.h.alloc (.cells (cs++new))) (by rw [f.h]; simp [AHeap.alloc,AHeap.put,beq_nat]) (by rw [f.h]; exact Steady.put _ _ _) (by rw [f.h]; exact ack _) (fun id hne=>.inr (by rw [f.h] at hne ⊢; simp [AHeap.alloc,AHeap.put,beq_nat,hne]))
   refine fin c' _ ?_ e' f' (by rw [←f.h]; exact hv)
   rw [B6,hw]
   exact hr
 | rs id off len jj=>
  rw [hq] at ha DS
  simp only [SR,VR] at DS
  simp only at ha
  split at ha
  ·rename_i hid
   rcases DS with⟨_,hoff,PV,ad,B6⟩| DS
   rotate_left
   ·exact absurd hid DS.1
   split at ha
   ·cases ha
   rename_i hroom
   split at ha
   ·rename_i uA
    subst uA
    cases ha
    refine fin c (.slice ad 0 0) ?_ (Ext.refl _ _) f (by simp only [VR]; exact .inl ⟨hid,hoff,PV,ad,rfl⟩)
    rw [B6]
    exact ja c.w Hg hi (abB _) hS
   ·rename_i uA
    cases ha
    have hold:(Builtin.firstCells i.size 0 (.slice ad 0 0)).run P c.w.drew = .ok ([]:List Value).toArray c.w.drew:=by
     cases ad with
     | none=>exact run_firstCells_none _ _ _ _ _
     | some ad=>exact run_firstCells_some _ _ _ _ _ _ [] (by simp) (fun j v hj=>by simp at hj)
    have hr:=run_append_grow_src c.w t t2 o.type e i zv Hg hi B8 ad 0 0 [] hold (a.eval xx) m news hS (by omega) (by rw [abY]; exact h63 _ (by omega)) (hfit _ _ (by omega) (by rw [abY]; omega))
    simp only [abY,aci] at hr
    obtain⟨c',hw,hh,e',f',hv⟩:=f.grown hbs (e:=e) (GP c L0) (grownCap_ge c.w (need:=m) (old:=0) (e:=e)) Ma hone Aj (s.h.alloc (.cells new)) (by rw [f.h]; simp [AHeap.alloc,AHeap.put,beq_nat]) (by rw [f.h]; exact Steady.put _ _ _) (by rw [f.h]; exact ack _) (fun id hne=>.inr (by rw [f.h] at hne ⊢; simp [AHeap.alloc,AHeap.put,beq_nat,hne]))
    refine fin c' _ ?_ e' f' (by rw [←f.h]; exact hv)
    rw [B6,hw]
    exact hr
  rename_i lf
  rcases DS with DS | ⟨_,hid,ad,cap,B6,h1,h2,h3⟩
  ·exact absurd DS.1 lf
  simp only [abx] at ha
  obtain⟨ob,hob,ha⟩:=ha
  cases ob with
  | map es=>cases ha
  | row t cs=>cases ha
  | cells cs=>
  simp only at ha
  split at ha
  ·cases ha
  rename_i hroom
  have wC:jj=i.size:=Decidable.byContradiction fun h=>hroom (.inl h)
  subst wC
  have hle:off+len*i.size≤cs.length:=Decidable.byContradiction fun h=>hroom (.inr (.inl (by omega)))
  rw [←f.h] at hob
  have hl:Live c.h id:=⟨f.rel.lt _ _ hob,by simp [hob]⟩
  obtain⟨q,hp,hm,hc⟩:=f.rel.obj _ _ hob
  split at ha
  ·rename_i uA
   subst uA
   cases ha
   refine fin c (.slice ad len cap) ?_ (Ext.refl _ _) f ?_
   ·rw [B6]
    exact ja c.w Hg hi h1 hS
   ·simp only [VR]
    exact .inr ⟨lf,hid,ad,cap,rfl,h1,h2,h3⟩
  ·rename_i uA
   cases ha
   have hc2:=(hc.drop off).take (len*i.size)
   have DT:((cs.drop off).take (len*i.size)).length=len*i.size:=by simp; omega
   obtain⟨uJ,Pc,WK,Mb⟩:=hc2.vals
   have Kp:=Pc.length
   have hget:((s.h.kill id).put s.h.next (.cells ((cs.drop off).take (len*i.size)++new))).get c.h.next=some (.cells ((cs.drop off).take (len*i.size)++new)):=by rw [f.h]; simp [AHeap.put,beq_nat]
   have hnx:c.h.next<((s.h.kill id).put s.h.next (.cells ((cs.drop off).take (len*i.size)++new))).next:=by rw [f.h]; simp only [AHeap.put,AHeap.kill]; omega
   have hoth:∀lH,lH≠c.h.next→((s.h.kill id).put s.h.next (.cells ((cs.drop off).take (len*i.size)++new))).get lH=none∨((s.h.kill id).put s.h.next (.cells ((cs.drop off).take (len*i.size)++new))).get lH=c.h.get lH:=by
    intro lH hne
    rw [f.h] at hne ⊢
    by_cases h4:lH=id
    ·left; simp [AHeap.put,AHeap.kill,beq_nat,hne,h4]; rw [←h4]; simp [hne]
    ·right; simp [AHeap.put,AHeap.kill,beq_nat,hne,h4]
   by_cases Hj:len+m≤cap
   ·
    rcases h3 hl with⟨h4,h5⟩| h4
    rotate_left
    ·omega
    subst h4
    have PW:c.len (c.β id).1=q:=by
     obtain⟨C,e',hb,xh⟩:=hp
     simp [Cx.len,World.shape?,hb,xh]
    rw [PW] at h5
    have PX:(len+m)*i.size≤cap*i.size:=acF _ Hj
    rw [acT] at PX
    have PY:=hp
    obtain⟨C,e',hb,xh⟩:=hp
    have hr:=run_append_room_src c.w t t2 o.type e i Hg hi (c.β id).1 ((c.β id).2+off) len cap (a.eval xx) m news hS Hj
     (fun j hj=>by
      rw [cell_of_block hb]
      have:(c.β id).2+off+len*i.size+j<C.size:=by omega
      simp [this])
     (fun j hj=>yx PY.ls (by omega))
    have zQ:jf c (c.β id).1 q:=PY
    obtain⟨q1,q2,q3,q4⟩:=il news (c.β id).1 ((c.β id).2+off+len*i.size) c.w
    obtain⟨C',g1,g2,g3⟩:=gr news (c.β id).1 ((c.β id).2+off+len*i.size) c.w C e' (0,0) hb (by omega)
    have:=f.upd (w':=c.w.setCells (c.β id).1 ((c.β id).2+off+len*i.size) news) (β':=fun k=>if k=c.h.next then ((c.β id).1,(c.β id).2+off) else c.β k) (h':=(s.h.kill id).put s.h.next (.cells ((cs.drop off).take (len*i.size)++new))) c.h.next (.cells ((cs.drop off).take (len*i.size)++new))
     (by rw [f.h]; exact (Steady.kill _ _).trans (Steady.put _ _ _)) hnx hget (fun lH hne=>(hoth lH hne).imp (fun h=>h) (fun h=>⟨h,by simp [hne]⟩)) (fun h=>absurd h (Nat.lt_irrefl _))
     (.inr ⟨id,hl,by simp,.inr (by
      have:id≠s.h.next:=by rw [←f.h]; have:=hl.1; omega
      simp [AHeap.put,AHeap.kill,beq_nat,this])⟩)
     (fun _=>by simp [World.shape?,g1,Cx.len,hb,g2])
     (fun b _ hne=>eT _ _ _ _ _ (by simpa using hne)) (fun b _ hne=>eT _ _ _ _ _ (by simpa using hne)) (by rw [q1]; exact abB _) hbs q2 q3 q4
     (fun ee=>by
      simp only [if_true]
      refine⟨q,zQ.setCells (by omega) _ _ _,?_,?_⟩
      ·rw [abQ,DT,hnl,Aj]; omega
      ·refine Cells.of_vals (VRs.append (VRs.ext ee _ _ Pc) (VRs.ext ee _ _ Ma)) (fun j hj=>?_) (fun v hv=>(abP.1 hv).elim (Mb v) (hone v))
       rw [cell_of_block g1,g3]
       rw [abQ] at hj
       by_cases h6:j<uJ.length
       ·rw [if_neg (by omega),←cell_of_block hb,abS h6]
        exact WK j (by omega)
       ·rw [if_pos (by omega),abN (by omega)]
        congr 1
        omega)
    obtain⟨M9,YA⟩:=this
    refine fin _ (.slice (some ⟨(c.β id).1,(c.β id).2+off,none⟩) (len+m) cap) ?_ M9 YA ?_
    ·rw [B6]; exact hr
    ·simp only [VR,←f.h]
     refine .inr ⟨(by have:=f.rel.ver 0; omega),by rw [←f.h] at hnx; exact hnx,_,_,rfl,Hj,rfl,fun _=>.inl ?_⟩
     simp only [if_true,Nat.add_zero,true_and]
     simp only [Cx.len,World.shape?,g1,abE,acz,g2]
     omega
   ·
    obtain⟨TD⟩:Nonempty ((Builtin.firstCells i.size len (.slice ad len cap)).run P c.w.drew = .ok uJ.toArray c.w.drew):=by
     rcases h3 hl with⟨h4,h5⟩| h4
     ·subst h4
      refine⟨run_firstCells_some _ _ _ _ _ _ uJ (by rw [←Kp,DT]) (fun j v hj=>?_)⟩
      rw [World.cell?_drew,addr_add,WK j (by rw [Kp]; exact (abG.1 hj).1)]
      exact hj
     ·have hz:len=0:=by omega
      subst hz
      have:uJ=[]:=acf (by rw [←Kp,DT]; simp)
      subst this
      cases ad with
      | none=>exact⟨run_firstCells_none _ _ _ _ _⟩
      | some ad=>exact⟨run_firstCells_some _ _ _ _ _ _ [] (by simp) (fun j v hj=>by simp at hj)⟩
    have hr:=run_append_grow_src c.w t t2 o.type e i zv Hg hi B8 ad len cap uJ TD (a.eval xx) m news hS (by omega) (h63 _ (by omega)) (hfit _ _ (by omega) (by omega))
    obtain⟨c',hw,hh,e',f',hv⟩:=f.grown hbs (e:=e) (GP c L0) (grownCap_ge c.w (need:=len+m) (old:=cap) (e:=e)) (VRs.append Pc Ma) (fun v hv=>(abP.1 hv).elim (Mb v) (hone v)) (by rw [abQ,Aj,←Kp,DT,acT]) _ hget (by rw [f.h]; exact (Steady.kill _ _).trans (Steady.put _ _ _)) hnx hoth
    refine fin c' _ ?_ e' f' (by rw [←f.h]; exact hv)
    rw [B6,hw]
    exact hr
 | _=>rw [hq] at ha; simp only at ha; cases ha
end
end Go.R
