/- Part of the proof: ROps3, RMem, ROps4, RNew, RApp, RApp2, RApp3. -/
import Derived.Test.YtifafejidnjckaaGreatK0
import Derived.MapKept
import Derived.Laws.Slices
import Derived.Laws.IdiomCopy
import Derived.Deep.AppendSrc
import Derived.IntWalk
set_option linter.unusedVariables false
set_option linter.unusedSimpArgs false
set_option maxRecDepth 100000
open Array renaming getElem?_eq_some_iff → afH, getElem?_setIfInBounds → af9, length_toList → agc, getElem?_modify → age, ext' → agH
open Bool renaming and_eq_true → ae3, false_eq_true → afa, or_eq_true → afR
open List renaming getElem?_eq_some_iff → ae5, length_append → afb, length_cons → afc, getElem?_append_right → afg, mem_of_getElem? → afj, mem_append → afk, getElem?_append_left → afm, mem_cons → afq, all_eq_true → afr, map_cons → afs, mem_map → afu, getElem?_map → afv, nil_append → afz, take_of_length_le → afA, eq_nil_of_length_eq_zero → afG, all_cons → afQ, map_nil → agt
open Nat renaming le_refl → ae4, zero_add → aft, lt_of_lt_of_le → afx, lt_succ_self → afL, beq → afN, le_trans → afV, mul_le_mul_right → af2, add_assoc → af8, eq_of_beq_eq_true → agd, add_mul → ags, add_right_comm → agy, add_zero → agz, ble → agB, add_comm → agF
open Option renaming bind_eq_some_iff → ae0, map_eq_some_iff → ae1, map_some → ae6, isSome_iff_exists → afI, getD_some → af6
open Option.some renaming injEq → ae2
open Prod.mk renaming injEq → ae9
namespace Go.R
open Go
section
variable {P:Program}{L0:Nat→Prop}{c0:Cx}{n:Nat}{ds:List Nat}{o:Oper}{s:RS}
theorem zW (a b:ByteArray):(a==b)=(a.data.toList==b.data.toList):=by
 cases a with | mk x=>cases b with | mk y=>
 show (x==y)=(x.toList==y.toList)
 rw [Bool.eq_iff_iff]
 simp [Array.toList_inj]
def place (k:AV):List (AV × AV)→List MapEntry→Nat→Option (Nat × Value)
 | (k',_)::es,m::ms,i=>if iw k k' then some (i,m.val) else place k es ms (i+1)
 | _,_,_=>none
theorem nv {c:Cx}{L:Nat→Prop}{d:TypeDesc}{k:AV}{kv:Value}(hd:(∃q,d = .int q)∨d = .string)(hk:k.jh=some kv)(C1:(∃q a,k = .int q a)∨∃b,k = .str b) :
  ∀(es:List (AV × AV)) (ms:List MapEntry) (i:Nat),nM c L es ms→kN k es≠none→(∀q a,k = .int q a→∃q',d = .int q')→(∀b,k = .str b→d = .string)→Instr.findNow d kv ms i=some (place k es ms i)
 | [],[],i,_,_,_,_=>rfl
 | (k',v)::es,m::ms,i,he,hf,h1,h2=>by
  simp only [kN] at hf
  have hs:sameShape k k'=true:=by
   by_cases hs:sameShape k k'=true
   ·exact hs
   ·simp [hs] at hf
  simp only [hs,if_true] at hf
  obtain⟨⟨J9,_⟩,GB,zh⟩:=he
  have WG:Instr.sameNow d kv m.key=some (iw k k'):=by
   rcases C1 with⟨q,a,rfl⟩| ⟨b,rfl⟩
   ·obtain⟨q',rfl⟩:=h1 q a rfl
    cases k'<;>simp only [sameShape] at hs<;>try (cases hs; done)
    rename_i q2 a2
    simp only [beq_iff_eq] at hs
    subst hs
    simp only [VR] at J9
    simp only [AV.jh,ae2] at hk
    subst hk
    rw [J9]
    simp [Instr.sameNow,iw,lu]
   ·have:=h2 b rfl
    subst this
    cases k' with
    | str b2=>
     simp only [VR] at J9
     simp only [AV.jh,ae2] at hk
     subst hk
     rw [J9]
     simp only [Instr.sameNow,iw,lu,ae2]
     exact zW b b2
    | _=>cases hs
  simp only [Instr.findNow,WG]
  cases hq:iw k k' with
  | true=>simp [place,hq]
  | false=>
   simp only [hq,afa,if_false] at hf
   simp only [place,hq,afa,if_false]
   exact nv hd hk C1 es ms (i+1) zh hf h1 h2
 | [],_::_,_,h,_,_,_=>h.elim
 | _::_,[],_,h,_,_,_=>h.elim
theorem ly {c:Cx}{L:Nat→Prop}{kt:TypeId}{k:AV}{kv:Value}(hk:ji P kt k=true)(C2:VR c L k kv)(w:World) :
  ∀(es:List (AV × AV)) (ms:List MapEntry) (i:Nat),nM c L es ms→kN k es≠none→(Instr.findAsking kt kv ms i).run P w = .ok (place k es ms i) w
 | [],[],i,_,_=>rfl
 | (k',v)::es,m::ms,i,he,hf=>by
  simp only [kN] at hf
  have hs:sameShape k k'=true:=by
   by_cases hs:sameShape k k'=true
   ·exact hs
   ·simp [hs] at hf
  simp only [hs,if_true] at hf
  obtain⟨⟨J9,_⟩,GB,zh⟩:=he
  have hq:=zV (P:=P) 9998 hk hs C2 J9 w
  simp only [Instr.findAsking,Op.equal,Op.maxDepth,Sem.run_bind,hq,Result.andThen_ok]
  cases h:iw k k' with
  | true=>simp [place,h]
  | false=>
   simp only [h,afa,if_false] at hf
   simp only [place,h,afa,if_false]
   exact ly hk C2 w es ms (i+1) zh hf
 | [],_::_,_,h,_=>h.elim
 | _::_,[],_,h,_=>h.elim
theorem zX {c:Cx}{L:Nat→Prop}{kt:TypeId}{k:AV}{kv:Value}(hk:ji P kt k=true)(C2:VR c L k kv)(w:World){es:List (AV × AV)}{ms:List MapEntry}(he:nM c L es ms)(hf:kN k es≠none) :
  (Instr.findKey kt kv ms).run P w = .ok (place k es ms 0) w:=by
 have V9:=hk
 cases hd:P.underlying kt with
 | none=>simp [ji,hd] at hk
 | some d=>
 cases d<;>simp only [ji,hd] at hk<;>try (cases hk; done)
 ·rename_i q
  cases k<;>simp only at hk<;>try (cases hk; done)
  rename_i q2 a
  have hc:(AV.int q2 a).jh=some kv:=by simp only [VR] at C2; simp [AV.jh,C2]
  exact MapKept.run_findKey hd (nv (.inl ⟨q,rfl⟩) hc (.inl ⟨_,_,rfl⟩) es ms 0 he hf (fun _ _ _=>⟨q,rfl⟩) (fun b hb=>by cases hb))
 ·cases k<;>simp only at hk<;>try (cases hk; done)
  rename_i b
  have hc:(AV.str b).jh=some kv:=by simp only [VR] at C2; simp [AV.jh,C2]
  exact MapKept.run_findKey hd (nv (.inr rfl) hc (.inr ⟨_,rfl⟩) es ms 0 he hf (fun _ _ h=>by cases h) (fun b hb=>rfl))
 ·rw [run_findKey_eq w (by simp [hd])]
  exact ly V9 C2 w es ms 0 he hf
 ·rw [run_findKey_eq w (by simp [hd])]
  exact ly V9 C2 w es ms 0 he hf
theorem vz {c:Cx}{L:Nat→Prop}{k:AV}:∀(es:List (AV × AV)) (ms:List MapEntry) (i:Nat),nM c L es ms→(kN k es=some none→place k es ms i=none)∧(∀v,kN k es=some (some v)→∃j u,place k es ms i=some (j,u)∧VR c L v u)
 | [],[],i,_=>⟨fun _=>rfl,fun v h=>by simp [kN] at h⟩
 | (k',v)::es,m::ms,i,he=>by
  obtain⟨⟨J9,_⟩,GB,zh⟩:=he
  obtain⟨h1,h2⟩:=vz es ms (i+1) zh
  simp only [kN,place]
  by_cases hs:sameShape k k'=true
  ·simp only [hs,if_true]
   by_cases hq:iw k k'=true
   ·simp only [hq,if_true]
    exact⟨fun h=>(by cases h),fun u hu=>(by cases hu; exact⟨i,m.val,rfl,GB⟩)⟩
   ·simp only [hq,if_false,afa]
    exact⟨h1,h2⟩
  ·simp [hs]
 | [],_::_,_,h=>h.elim
 | _::_,[],_,h=>h.elim
theorem mh {t:TypeId}{z:AV}(h:jX P t=some z)(w:World):∃v,(zeroValue t).run P w = .ok v w∧J3 v=some z:=by
 unfold jX at h
 simp only [ae0] at h
 obtain⟨i,hi,v,hv,hz⟩:=h
 exact⟨v,by simp [zeroValue,typeInfo,hi,hv],hz⟩
theorem C3 {c:Cx}{Lo:Nat→Prop}{lam:Nat→Nat}{a:Act}(f:Fr L0 c Lo lam ds s a){t:TypeId}{m k y:AV}{mv kv:Value}{ok:Bool}(hm:SR c L0 Lo lam s.bx m mv)(hk:SR c L0 Lo lam s.bx k kv)
  (h:iR P s.h t m k ok=some y):∃r,(Instr.lookup t mv kv ok).run P c.w = .ok r c.w∧VR c (un L0 Lo) y r:=by
 unfold iR at h
 rw [ae0] at h
 obtain⟨d,hd,h⟩:=h
 cases d<;>simp only at h<;>try (cases h; done)
 rename_i kt et
 split at h
 ·cases h
 rename_i zr
 have zr:ji P kt k=true:=by simpa using zr
 rw [ae0] at h
 obtain⟨es,zh,h⟩:=h
 have C2:VR c (un L0 Lo) k kv:=hk.vr (by rintro k0 off rfl; simp [ji] at zr)
 obtain⟨ms,Tz,xD⟩:∃ms:Array MapEntry,((mv = .map none∧ms = #[])∨∃r clock,mv = .map (some r)∧c.w.heap[r]? = some (.map ms clock))∧nM c (un L0 Lo) es ms.toList:=by
  cases m<;>simp only at zh<;>try (cases zh; done)
  ·simp only [SR,VR] at hm
   cases zh
   exact⟨#[],.inl ⟨hm,rfl⟩,trivial⟩
  ·rename_i id
   rw [ae0] at zh
   obtain⟨ob,ho,zh⟩:=zh
   cases ob with
   | cells cs=>cases zh
   | row t cs=>cases zh
   | map vt=>
   cases zh
   simp only [SR,VR] at hm
   obtain⟨hi,r,WA,hr⟩:=hm
   rw [←f.h] at ho
   have hl:Live c.h id:=⟨f.rel.lt _ _ ho,by simp [ho]⟩
   obtain⟨nN,clock,h1,h2⟩:=f.rel.obj _ _ ho
   exact⟨nN,.inr ⟨r,clock,WA,by rw [hr hl]; exact h1⟩,h2⟩
 rw [ae0] at h
 obtain⟨fr,bN,h⟩:=h
 have Ka:=zX zr C2 c.w xD (by rw [bN]; simp)
 have Qn:=rO (P:=P) ms.isEmpty 9998 zr C2 c.w
 obtain⟨p1,p2⟩:=vz (k:=k) es ms.toList 0 xD
 have hget:∀r clock,c.w.heap[r]? = some (.map ms clock)→(getObj r).run P c.w = .ok (.map ms clock) c.w:=fun r clock h1=>by simp [getObj,Sem.run,h1]
 cases fr with
 | none=>
  rw [ae1] at h
  obtain⟨z,hz,rfl⟩:=h
  obtain⟨zv,Kb,Fi⟩:=mh hz c.w
  rw [p1 bN] at Ka
  refine⟨if ok then .tuple #[zv,.bool false] else zv,?_,?_⟩
  ·unfold Instr.lookup
   rcases Tz with⟨rfl,rfl⟩| ⟨r,clock,rfl,h1⟩
   ·simp only [pure_bind,Sem.run_bind,bS hd,Result.andThen_ok,Qn,Ka,Kb,Sem.run_pure]
   ·simp only [Sem.run_bind,bS hd,Result.andThen_ok,hget r clock h1,Qn,Ka,Kb,Sem.run_pure]
  ·cases ok with
   | true=>simp only [if_true,VR]; exact⟨#[zv,.bool false],rfl,oD Fi,by simp [VR],trivial⟩
   | false=>simpa using oD Fi
 | some v=>
  obtain⟨j,u,hp,hv⟩:=p2 v bN
  rw [hp] at Ka
  cases h
  refine⟨if ok then .tuple #[u,.bool true] else u,?_,?_⟩
  ·unfold Instr.lookup
   rcases Tz with⟨rfl,rfl⟩| ⟨r,clock,rfl,h1⟩
   ·simp only [pure_bind,Sem.run_bind,bS hd,Result.andThen_ok,Qn,Ka,Sem.run_pure]
   ·simp only [Sem.run_bind,bS hd,Result.andThen_ok,hget r clock h1,Qn,Ka,Sem.run_pure]
  ·cases ok with
   | true=>simp only [if_true,VR]; exact⟨#[u,.bool true],rfl,hv,by simp [VR],trivial⟩
   | false=>simpa using hv
theorem nM.length {c:Cx}{L:Nat→Prop}:∀{es:List (AV × AV)} {ms:List MapEntry},nM c L es ms→es.length=ms.length
 | [],[],_=>rfl
 | _::_,_::_,h=>by simp [nM.length h.2.2]
 | [],_::_,h=>h.elim
 | _::_,[],h=>h.elim
theorem Kc {c:Cx}{Lo:Nat→Prop}{lam:Nat→Nat}{a:Act}(f:Fr L0 c Lo lam ds s a){x y:AV}{v:Value}{t:TypeId}(ts:Array TypeId)(ht:ts[0]? = some t)(hx:SR c L0 Lo lam s.bx x v)(h:xq P s.h t x=some y)(ty:TypeId) :
  ∃r,(Builtin.len_ ts ty #[v]).run P c.w = .ok r c.w∧VR c (un L0 Lo) y r:=by
 unfold xq at h
 rw [ae0] at h
 obtain⟨d,hd,h⟩:=h
 unfold Builtin.len_
 cases d<;>simp only at h<;>try (cases h; done)
 ·cases x<;>simp only at h<;>try (cases h; done)
  cases h
  simp only [SR,VR] at hx
  subst hx
  exact⟨.int .i64 _,by simp [ht,bS hd,goInt]; rfl,by simp only [VR]⟩
 ·cases x with
  | nils=>
   cases h
   simp only [SR,VR] at hx
   obtain⟨a,rfl⟩:=hx
   exact⟨.int .i64 _,by simp [ht,bS hd,goInt]; rfl,by simp only [VR]⟩
  | fz cs m ex=>
   cases h
   simp only [SR,VR] at hx
   obtain⟨a,cap,rfl,_⟩:=hx
   exact⟨.int .i64 _,by simp [ht,bS hd,goInt]; rfl,by simp only [VR]⟩
  | rs id off m kA=>
   cases h
   simp only [SR,VR] at hx
   rcases hx with⟨_,_,rfl,a,rfl⟩| ⟨_,_,a,cap,rfl,_⟩
   ·exact⟨.int .i64 _,by simp [ht,bS hd,goInt]; rfl,by simp only [VR]; rfl⟩
   ·exact⟨.int .i64 _,by simp [ht,bS hd,goInt]; rfl,by simp only [VR]⟩
  | _=>cases h
 ·cases x with
  | pC=>
   cases h
   simp only [SR,VR] at hx
   subst hx
   exact⟨.int .i64 _,by simp [ht,bS hd,goInt]; rfl,by simp only [VR]⟩
  | mp id=>
   simp only [ae0] at h
   obtain⟨ob,ho,h⟩:=h
   cases ob with
   | cells cs=>cases h
   | row t cs=>cases h
   | map es=>
   cases h
   simp only [SR,VR] at hx
   obtain⟨hi,r,rfl,hr⟩:=hx
   rw [←f.h] at ho
   have hl:Live c.h id:=⟨f.rel.lt _ _ ho,by simp [ho]⟩
   obtain⟨nN,clock,h1,h2⟩:=f.rel.obj _ _ ho
   rw [hr hl]
   refine⟨.int .i64 es.length,?_,by simp [VR]⟩
   have h3:=h2.length
   simp [ht,bS hd,getObj,Sem.run,h1,goInt,h3]
  | _=>cases h
end
end Go.R
namespace Go.R
open Go
theorem jY.len {c c':Cx}{b:Nat}(h:jY c.w c'.w b):c'.len b=c.len b:=by
 unfold Cx.len World.shape?
 rcases h with h | ⟨C,e,lo,hi,Ny,mw,h1,h2,_⟩
 ·rw [h]
 ·rw [h1,h2]
theorem HRel.block {c:Cx}{L:Nat→Prop}(r:HRel c L){id:Nat}(hl:Live c.h id):(c.β id).1<c.w.heap.size:=by
 obtain⟨o,ho⟩:=afI.1 hl.2
 have h:=r.obj id o ho
 cases o with
 | cells cs=>obtain⟨n,h1,_⟩:=h; exact h1.lt
 | map es=>obtain⟨nN,clock,h1,_⟩:=h; exact (afH.1 h1).1
 | row t cs=>obtain⟨_,C,h1,_⟩:=h; exact (afH.1 h1).1
section
variable {L0:Nat→Prop}{c:Cx}{Lo:Nat→Prop}{lam:Nat→Nat}{ds:List Nat}{s:RS}{a:Act}
theorem Fr.world (f:Fr L0 c Lo lam ds s a){w':World}(hk:∀b,b<c.w.heap.size→jY c.w w' b)(NR:∀id,Live c.h id→w'.heap[(c.β id).1]? = c.w.heap[(c.β id).1]?)(hx:∀b,b<c.base→w'.heap[b]? = c.w.heap[b]?)(hs:c.w.heap.size≤w'.heap.size)
  (h1:w'.os=c.w.os) (h2:w'.tape=c.w.tape) (h3:w'.output=c.w.output):Ext c Lo {c with w:=w'} Lo∧Fr L0 {c with w:=w'} Lo lam ds s a:=by
 have e:Ext c Lo {c with w:=w'} Lo:=by
  refine⟨ae4 _,fun id hi hl=>⟨hl,rfl,?_⟩,hs,fun b hb _ _=>hk b hb,hx,rfl,fun id hl=>.inr ⟨id,hl,rfl⟩,fun _ h=>h,fun _ h=>.inl h,h1,h2,h3⟩
  exact jY.len (c':={c with w:=w'}) (hk _ (f.rel.block hl))
 refine⟨e,f.h,⟨f.rel.lt,fun id o ho=>?_,f.rel.inj,f.rel.out,fun b hb=>afx (f.rel.bd b hb) hs,f.rel.low,f.rel.ver⟩,fun t=>?_,fun k cs hb=>?_,f.inj,f.tidy,f.defers,f.J6⟩
 ·have hl:Live c.h id:=⟨f.rel.lt _ _ ho,by rw [ho]; rfl⟩
  exact (f.rel.obj id o ho).ext e (NR id hl)
 ·exact (f.slot t).ext e (fun _ _ _=>⟨rfl,fun h=>h⟩)
 ·have ob:=f.box k cs hb
  exact ob.ext e (hk _ ob.plain.lt)
theorem Fr.upd (f:Fr L0 c Lo lam ds s a){w':World}{β':Nat→Nat × Nat}{h':AHeap}(sJ:Nat)(ob:AObj)
  (hst:Steady c.h h') (htn:sJ<h'.next) (hget:h'.get sJ=some ob)
  (hcl:∀id,id≠sJ→h'.get id=none∨(h'.get id=c.h.get id∧β' id=c.β id))
  (TA:sJ<c.h.next→Live c.h sJ∧β' sJ=c.β sJ)
  (TB:c.w.heap.size≤(β' sJ).1∨∃ud,Live c.h ud∧(c.β ud).1=(β' sJ).1∧(ud=sJ∨h'.get ud=none))
  (hlen:(β' sJ).1<c.w.heap.size→((w'.shape? (β' sJ).1).map (·.2)).getD 0=c.len (β' sJ).1)
  (hk:∀b,b<c.w.heap.size→b≠(β' sJ).1→w'.heap[b]? = c.w.heap[b]?) (hx:∀b,b<c.base→b≠(β' sJ).1→w'.heap[b]? = c.w.heap[b]?) (hs:c.w.heap.size≤w'.heap.size) (hbs:c.base≤c.w.heap.size)
  (h1:w'.os=c.w.os) (h2:w'.tape=c.w.tape) (h3:w'.output=c.w.output)
  (hob:∀(e:Ext c Lo ⟨β',h',w',c.base⟩ Lo),sV ⟨β',h',w',c.base⟩ (un L0 Lo) (β' sJ).1 (β' sJ).2 ob) :
  Ext c Lo ⟨β',h',w',c.base⟩ Lo∧Fr L0 ⟨β',h',w',c.base⟩ Lo lam ds {s with h:=h'} a:=by
 have hn:=hst.next
 have hold:∀id,id≠sJ→Live h' id→Live c.h id∧β' id=c.β id:=by
  intro id hne hl
  rcases hcl id hne with h | ⟨h,hb⟩
  ·have:=hl.2; rw [h] at this; cases this
  ·have GC:(c.h.get id).isSome=true:=by rw [←h]; exact hl.2
   obtain⟨o,ho⟩:=afI.1 GC
   exact⟨⟨f.rel.lt _ _ ho,GC⟩,hb⟩
 have NS:∀id,id≠sJ→Live h' id→(c.β id).1≠(β' sJ).1:=by
  intro id hne hl he
  obtain⟨hl0,hb⟩:=hold id hne hl
  rcases TB with h | ⟨ud,h4,h5,h6⟩
  ·have:=f.rel.block hl0; omega
  ·have:id=ud:=f.rel.inj id ud hl0 h4 (he.trans h5.symm)
   subst this
   rcases h6 with h6 | h6
   ·exact hne h6
   ·have:=hl.2; rw [h6] at this; cases this
 have hL:¬un L0 Lo (β' sJ).1:=by
  intro hL
  rcases TB with h | ⟨ud,h4,h5,_⟩
  ·have:=f.rel.bd _ hL; omega
  ·exact f.rel.out ud h4 (h5 ▸ hL)
 have Qo:c.base≤(β' sJ).1:=by
  rcases TB with h | ⟨ud,h4,h5,_⟩
  ·omega
  ·rw [←h5]; exact f.rel.low ud h4
 have e:Ext c Lo ⟨β',h',w',c.base⟩ Lo:=by
  refine⟨hn,fun id hi hl=>?_,hs,fun b hb _ hi=>.inl (hk b hb ?_),fun b hb=>hx b hb (by omega),rfl,fun id hl=>?_,fun _ h=>h,fun _ h=>.inl h,h1,h2,h3⟩
  ·by_cases hid:id=sJ
   ·subst hid
    obtain⟨h4,h5⟩:=TA hi
    refine⟨h4,h5,?_⟩
    have:=hlen (by rw [h5]; exact f.rel.block h4)
    rw [h5] at this
    exact this
   ·obtain⟨h4,h5⟩:=hold id hid hl
    exact⟨h4,h5,jY.len (c':=⟨β',h',w',c.base⟩) (.inl (hk _ (f.rel.block h4) (NS id hid hl)))⟩
  ·rintro rfl
   rcases TB with h | ⟨ud,h4,h5,_⟩
   ·omega
   ·exact hi ud h4 h5
  ·by_cases hid:id=sJ
   ·subst hid
    rcases TB with h | ⟨ud,h4,h5,_⟩
    ·exact .inl h
    ·exact .inr ⟨ud,h4,h5⟩
   ·obtain⟨h4,h5⟩:=hold id hid hl
    exact .inr ⟨id,h4,by rw [←h5]⟩
 refine⟨e,rfl,⟨fun id o ho=>?_,fun id o ho=>?_,fun id nu hl rN he=>?_,fun id hl=>?_,fun b hb=>afx (f.rel.bd b hb) hs,fun id hl=>?_,hst.wf f.rel.ver⟩,fun t=>?_,fun k cs hb=>?_,f.inj,f.tidy,f.defers,f.J6⟩
 ·by_cases hid:id=sJ
  ·subst hid; exact htn
  ·rcases hcl id hid with h | ⟨h,_⟩
   ·rw [h] at ho; cases ho
   ·rw [h] at ho; exact afx (f.rel.lt _ _ ho) hn
 ·by_cases hid:id=sJ
  ·subst hid
   rw [hget] at ho
   cases ho
   exact hob e
  ·rcases hcl id hid with h | ⟨h,hb⟩
   ·rw [h] at ho; cases ho
   ·have hl:Live h' id:=⟨by rw [h] at ho; exact afx (f.rel.lt _ _ ho) hn,by rw [ho]; rfl⟩
    rw [h] at ho
    have:=(f.rel.obj id o ho).ext e (hk _ (f.rel.block (hold id hid hl).1) (NS id hid hl))
    rw [←hb] at this
    exact this
 ·by_cases hid:id=sJ<;>by_cases Kd:nu=sJ
  ·rw [hid,Kd]
  ·subst hid
   obtain⟨h4,h5⟩:=hold nu Kd rN
   exact absurd (by rw [←h5]; exact he.symm) (NS nu Kd rN)
  ·subst Kd
   obtain⟨h4,h5⟩:=hold id hid hl
   exact absurd (by rw [←h5]; exact he) (NS id hid hl)
  ·obtain⟨h4,h5⟩:=hold id hid hl
   obtain⟨h6,h7⟩:=hold nu Kd rN
   exact f.rel.inj id nu h4 h6 (by rw [←h5,←h7]; exact he)
 ·by_cases hid:id=sJ
  ·subst hid; exact hL
  ·obtain⟨h4,h5⟩:=hold id hid hl
   show ¬un L0 Lo (β' id).1
   rw [h5]; exact f.rel.out id h4
 ·by_cases hid:id=sJ
  ·subst hid; exact Qo
  ·obtain⟨h4,h5⟩:=hold id hid hl
   show c.base≤(β' id).1
   rw [h5]; exact f.rel.low id h4
 ·exact (f.slot t).ext e (fun _ _ _=>⟨rfl,fun h=>h⟩)
 ·have hb2:=f.box k cs hb
  refine hb2.ext e (.inl (hk _ hb2.plain.lt ?_))
  rintro he
  exact hL (he ▸ .inr hb2.own)
theorem Fr.Ke (f:Fr L0 c Lo lam ds s a){w':World}(k:Nat)(cs:List AV)(b:Nat)
  (hb:c.w.heap.size≤b∨(b=lam k∧(s.bx k).isSome=true))
  (hp:∀t off,s.ρ t = .lp k off→b=lam k)
  (hk:∀b',b'<c.w.heap.size→b'≠b→w'.heap[b']? = c.w.heap[b']?) (hx:∀b',b'<c.base→b'≠b→w'.heap[b']? = c.w.heap[b']?) (hs:c.w.heap.size≤w'.heap.size) (hbw:b<w'.heap.size) (hbs:c.base≤c.w.heap.size)
  (h1:w'.os=c.w.os) (h2:w'.tape=c.w.tape) (h3:w'.output=c.w.output)
  (CL:Plain {c with w:=w'} b cs.length)
  (WE:∀(e:Ext c Lo {c with w:=w'} (fun x=>Lo x∨x=b)),Cells {c with w:=w'} (un L0 (fun x=>Lo x∨x=b)) cs b 0) :
  ∃ma wj,Ext c Lo {c with w:=w'} ma∧Fr L0 {c with w:=w'} ma wj ds (s.box k cs) a∧wj k=b:=by
 have Qp:∀id,Live c.h id→(c.β id).1≠b:=by
  intro id hl he
  rcases hb with h | ⟨h,hb2⟩
  ·have:=f.rel.block hl; omega
  ·obtain⟨TC,h0⟩:=afI.1 hb2
   exact f.rel.out id hl (by rw [he,h]; exact .inr (f.box k TC h0).own)
 have hLo:∀x,(Lo x∨x=b)→Lo x∨c.w.heap.size≤x:=by
  rintro x (h | rfl)
  ·exact .inl h
  ·rcases hb with h | ⟨h,hb2⟩
   ·exact .inr h
   ·obtain⟨TC,h0⟩:=afI.1 hb2
    exact .inl (h ▸ (f.box k TC h0).own)
 have Qo:c.base≤b:=by
  rcases hb with h | ⟨h,hb2⟩
  ·omega
  ·obtain⟨TC,h0⟩:=afI.1 hb2
   rw [h]; exact f.J6 _ (f.box k TC h0).own
 have hbL:∀b',b'<c.w.heap.size→¬Lo b'→b'≠b:=by
  rintro b' zi hn rfl
  rcases hLo b' (.inr rfl) with h | h
  ·exact hn h
  ·omega
 have e:Ext c Lo {c with w:=w'} (fun x=>Lo x∨x=b):=by
  refine⟨ae4 _,fun id hi hl=>⟨hl,rfl,?_⟩,hs,fun b' zi hn _=>.inl (hk b' zi (hbL b' zi hn)),fun b' zi=>hx b' zi (by omega),rfl,fun id hl=>.inr ⟨id,hl,rfl⟩,fun _ h=>.inl h,hLo,h1,h2,h3⟩
  exact jY.len (c':={c with w:=w'}) (.inl (hk _ (f.rel.block hl) (Qp id hl)))
 refine⟨fun x=>Lo x∨x=b,fun t=>if t=k then b else lam t,e,⟨f.h,⟨f.rel.lt,fun id o ho=>?_,f.rel.inj,fun id hl hL=>?_,fun x Qq=>?_,f.rel.low,f.rel.ver⟩,fun t=>?_,fun k' gF zi=>?_,fun k1 k2 hs1 SM he=>?_,f.tidy,f.defers,fun x Qq=>?_⟩,by simp⟩
 ·have hl:Live c.h id:=⟨f.rel.lt _ _ ho,by rw [ho]; rfl⟩
  exact (f.rel.obj id o ho).ext e (hk _ (f.rel.block hl) (Qp id hl))
 ·rcases hL with h | h | h
  ·exact f.rel.out id hl (.inl h)
  ·exact f.rel.out id hl (.inr h)
  ·exact Qp id hl h
 ·rcases Qq with h | h | h
  ·exact afx (f.rel.bd x (.inl h)) hs
  ·exact afx (f.rel.bd x (.inr h)) hs
  ·subst h; exact hbw
 ·refine (f.slot t).ext e (fun k' off TD=>?_)
  by_cases C1:k'=k
  ·subst C1
   refine⟨by simp [hp t off TD],fun _=>by simp [RS.box]⟩
  ·exact⟨by simp [C1],fun h=>by simpa [RS.box,beq_nat,C1] using h⟩
 ·by_cases C1:k'=k
  ·subst C1
   simp only [RS.box,beq_nat,decide_true,cond_true,ae2] at zi
   subst zi
   exact⟨by simp,by simpa using CL,by simpa using WE e⟩
  ·simp only [RS.box,beq_nat,C1,decide_false,cond_false] at zi
   have ob:=f.box k' gF zi
   have hne:lam k'≠b:=by
    rintro he
    rcases hb with h | ⟨h,hb2⟩
    ·have:=ob.plain.lt; omega
    ·exact C1 (f.inj k' k (by rw [zi]; rfl) hb2 (he.trans h))
   have:=ob.ext e (.inl (hk _ ob.plain.lt hne))
   exact⟨by simp [C1]; exact .inl ob.own,by simpa [C1] using this.plain,by simpa [C1] using this.cells⟩
 ·have old:∀k',k'≠k→((s.box k cs).bx k').isSome=true→(s.bx k').isSome=true:=by
   intro k' hne h
   simpa [RS.box,beq_nat,hne] using h
  have sep:∀k',k'≠k→(s.bx k').isSome=true→lam k'≠b:=by
   intro k' hne h5 he2
   obtain⟨Wa,h6⟩:=afI.1 h5
   rcases hb with h | ⟨h,hb2⟩
   ·have:=(f.box k' Wa h6).plain.lt; omega
   ·exact hne (f.inj k' k h5 hb2 (he2.trans h))
  by_cases h4:k1=k<;>by_cases h5:k2=k
  ·rw [h4,h5]
  ·simp only [h4,h5,if_true,if_false] at he
   exact absurd he.symm (sep k2 h5 (old k2 h5 SM))
  ·simp only [h4,h5,if_true,if_false] at he
   exact absurd he (sep k1 h4 (old k1 h4 hs1))
  ·simp only [h4,h5,if_false] at he
   exact f.inj k1 k2 (old k1 h4 hs1) (old k2 h5 SM) he
 ·rcases Qq with h | h
  ·exact f.J6 x h
  ·subst h; exact Qo
end
end Go.R
namespace Go.R
open Go
theorem Cells.iff {c:Cx}{L:Nat→Prop}:∀{xs:List AV} {b o:Nat},Cells c L xs b o↔∀(i:Nat) (x:AV),xs[i]? = some x→∃v,c.w.cell? ⟨b,o+i,none⟩=some v∧v.oneCell'=true∧VR c L x v
 | [],b,o=>by simp [Cells]
 | x::xs,b,o=>by
  refine⟨fun h i y hy=>h.get' i y hy,fun h=>⟨?_,(Cells.iff (xs:=xs)).2 fun i y hy=>?_⟩⟩
  ·exact h 0 x rfl
  ·have:=h (i+1) y (by simpa using hy)
   rwa [agy,af8]
theorem j5:∀(vs cs:List AV) (i:Nat),(eO cs i vs).length=cs.length
 | [],cs,i=>by cases cs<;>rfl
 | v::vs,cs,i=>by
  rw [eO,j5 vs]
  simp
theorem xE:∀(vs cs:List AV) (i j:Nat),i+vs.length≤cs.length→(eO cs i vs)[j]? = if i≤j∧j<i+vs.length then vs[j - i]? else cs[j]?
 | [],cs,i,j,_=>by
  have:eO cs i []=cs:=by cases cs<;>rfl
  rw [this,if_neg (by simp)]
 | v::vs,cs,i,j,h=>by
  simp only [afc] at h
  rw [eO,xE vs _ (i+1) j (by simp; omega)]
  by_cases h1:i+1≤j∧j<i+1+vs.length
  ·rw [if_pos h1,if_pos (by simp; omega),show j - i=(j - (i+1))+1 by omega]
   simp
  ·rw [if_neg h1]
   by_cases h2:j=i
   ·subst h2
    rw [if_pos (by simp),List.getElem?_set_self (by omega)]
    simp
   ·rw [List.getElem?_set_ne (by omega),if_neg (by simp; omega)]
theorem Bd (w:World)(b o:Nat)(v:Value){C:Array Value}{e:TypeId}{fr:Nat × Nat}(hb:w.heap[b]? = some (.cells C e fr)):(w.setCell ⟨b,o,none⟩ v).heap[b]? = some (.cells (C.setIfInBounds o v) e fr):=by
 have hlt:b<w.heap.size:=(afH.1 hb).1
 simp [World.setCell,age,hb]
theorem C4 (w:World)(b o b':Nat)(v:Value)(hne:b'≠b):(w.setCell ⟨b,o,none⟩ v).heap[b']? = w.heap[b']?:=by
 simp [World.setCell,age,Ne.symm hne]
theorem fk:∀(vs:List Value) (b o b':Nat) (w:World),b'≠b→(w.setCells b o vs).heap[b']? = w.heap[b']?
 | [],_,_,_,_,_=>rfl
 | v::vs,b,o,b',w,h=>by rw [World.setCells,fk vs b (o+1) b' _ h,C4 _ _ _ _ _ h]
theorem jo:∀(vs:List Value) (b o:Nat) (w:World),(w.setCells b o vs).heap.size=w.heap.size∧(w.setCells b o vs).os=w.os∧(w.setCells b o vs).tape=w.tape∧(w.setCells b o vs).output=w.output
 | [],_,_,_=>⟨rfl,rfl,rfl,rfl⟩
 | v::vs,b,o,w=>by
  obtain⟨h1,h2,h3,h4⟩:=jo vs b (o+1) (w.setCell ⟨b,o,none⟩ v)
  rw [World.setCells]
  exact⟨h1.trans (by simp),h2.trans rfl,h3.trans rfl,h4.trans rfl⟩
theorem ib:∀(vs:List Value) (b o:Nat) (w:World) (C:Array Value) (e:TypeId) (fr:Nat × Nat),w.heap[b]? = some (.cells C e fr)→o+vs.length≤C.size→
  ∃C',(w.setCells b o vs).heap[b]? = some (.cells C' e fr)∧C'.size=C.size∧∀j,C'[j]? = if o≤j∧j<o+vs.length then vs[j - o]? else C[j]?
 | [],b,o,w,C,e,fr,hb,_=>⟨C,hb,rfl,fun j=>by rw [if_neg (by simp)]⟩
 | v::vs,b,o,w,C,e,fr,hb,hl=>by
  simp only [afc] at hl
  obtain⟨C',h1,h2,h3⟩:=ib vs b (o+1) (w.setCell ⟨b,o,none⟩ v) (C.setIfInBounds o v) e fr (Bd w b o v hb) (by simp; omega)
  refine⟨C',h1,by simpa using h2,fun j=>?_⟩
  rw [h3 j]
  by_cases h4:o+1≤j∧j<o+1+vs.length
  ·rw [if_pos h4,if_pos (by simp; omega),show j - o=(j - (o+1))+1 by omega]
   simp
  ·rw [if_neg h4]
   by_cases h5:j=o
   ·subst h5
    rw [if_pos (by simp)]
    simp [af9,show j<C.size by omega]
   ·rw [if_neg (by simp; omega)]
    simp [af9,Ne.symm h5]
theorem cell_of_block {w:World}{b:Nat}{C:Array Value}{e:TypeId}{fr:Nat × Nat}(h:w.heap[b]? = some (.cells C e fr))(i:Nat):w.cell? ⟨b,i,none⟩=C[i]?:=by
 simp [World.cell?,h]
section
variable {P:Program}{L0:Nat→Prop}{c0:Cx}{n:Nat}{ds:List Nat}{o:Oper}{s:RS}
theorem xF {c:Cx}{L:Nat→Prop}{x:AV}{v:Value}(h:x.cL=true)(hv:VR c L x v):v.oneCell'=true∧v.cells = #[v]:=by
 cases x<;>simp only [AV.cL] at h<;>first | (cases h; done) | skip
 all_goals simp only [VR] at hv
 ·subst hv; exact⟨rfl,rfl⟩
 ·subst hv; exact⟨rfl,rfl⟩
 ·subst hv; exact⟨rfl,rfl⟩
 ·subst hv; exact⟨rfl,rfl⟩
 ·obtain⟨_,a,rfl,_⟩:=hv; exact⟨rfl,rfl⟩
 ·obtain⟨b,o,rfl,_⟩:=hv; exact⟨rfl,rfl⟩
 ·obtain⟨a,rfl⟩:=hv; exact⟨rfl,rfl⟩
 ·obtain⟨a,cap,rfl,_⟩:=hv; exact⟨rfl,rfl⟩
 ·rcases hv with⟨_,_,_,a,rfl⟩| ⟨_,_,a,cap,rfl,_⟩<;>exact⟨rfl,rfl⟩
 ·subst hv; exact⟨rfl,rfl⟩
 ·obtain⟨_,r,rfl,_⟩:=hv; exact⟨rfl,rfl⟩
 ·obtain⟨vs,rfl,_⟩:=hv; exact⟨rfl,rfl⟩
 ·subst hv; exact⟨rfl,rfl⟩
theorem vA {c:Cx}{L:Nat→Prop}:∀{xs:List AV} {vs:List Value},xs.all AV.cL=true→VRs c L xs vs→∀v∈vs,v.oneCell'=true
 | [],[],_,_,v,hv=>by simp at hv
 | x::xs,u::us,h,hr,v,hv=>by
  simp only [afQ,ae3] at h
  rcases afq.1 hv with rfl | hv
  ·exact (xF h.1 hr.1).1
  ·exact vA h.2 hr.2 v hv
 | [],_::_,_,h,_,_=>h.elim
 | _::_,[],_,h,_,_=>h.elim
theorem kQ {c:Cx}{L:Nat→Prop}{x:AV}{v:Value}(h:x.cells.all AV.cL=true)(hv:VR c L x v):VRs c L x.cells v.cells.toList∧∀u∈v.cells.toList,u.oneCell'=true:=by
 cases x with
 | agg cs=>
  simp only [VR] at hv
  obtain⟨vs,rfl,JQ⟩:=hv
  exact⟨JQ,vA h JQ⟩
 | _=>
  simp only [AV.cells,afQ,List.all_nil,Bool.and_true] at h
  obtain⟨h1,h2⟩:=xF h hv
  rw [h2]
  exact⟨⟨hv,trivial⟩,by simpa using h1⟩
theorem SR.w6 {c:Cx}{Lo:Nat→Prop}{lam:Nat→Nat}{bx:Nat→Option (List AV)}{x:AV}{v:Value}(hx:SR c L0 Lo lam bx x v)(h:x.cells.all AV.cL=true):VR c (un L0 Lo) x v:=
 hx.vr (by rintro k off rfl; simp [AV.cells,AV.cL] at h)
theorem mB {c:Cx}{b m base off:Nat}{vs:List Value}(hp:Plain c b m)(hl:base+off+vs.length≤m)(h1:∀v∈vs,v.oneCell'=true) :
  (storeCells ⟨b,base+off,none⟩ vs).run P c.w = .ok () (c.w.setCells b (base+off) vs):=by
 obtain⟨C,e,lo,hi,hb,hf,hm⟩:=hp
 have:=run_storeCells_cells (P:=P) b (base+off) vs 0 c.w (fun j hj=>by
  rw [cell_of_block hb]
  have:base+off+0+j<C.size:=by omega
  simpa using this) (fun j hj=>by
  simp only [World.frozen?,hb]
  rcases hf with hf | hf
  ·subst hf; simp
  ·simp; omega) h1
 simpa using this
theorem Plain.setCells {c:Cx}{b m o:Nat}{vs:List Value}(hp:Plain c b m)(hl:o+vs.length≤m)(β':Nat→Nat × Nat)(h':AHeap)(bs:Nat):Plain ⟨β',h',c.w.setCells b o vs,bs⟩ b m:=by
 obtain⟨C,e,lo,hi,hb,hf,hm⟩:=hp
 obtain⟨C',h1,h2,_⟩:=ib vs b o c.w C e (lo,hi) hb (by omega)
 exact⟨C',e,lo,hi,h1,by rw [h2]; exact hf,by rw [h2]; exact hm⟩
theorem kq.setCells {c:Cx}{b m o:Nat}{vs:List Value}(hp:kq c b m)(hl:o+vs.length≤m)(β':Nat→Nat × Nat)(h':AHeap)(bs:Nat):kq ⟨β',h',c.w.setCells b o vs,bs⟩ b m:=by
 obtain⟨C,e,hb,hm⟩:=hp
 obtain⟨C',h1,h2,_⟩:=ib vs b o c.w C e (0,0) hb (by omega)
 exact⟨C',e,h1,by rw [h2]; exact hm⟩
theorem kR {c c':Cx}{L0 Lo ma:Nat→Prop}{b m base off:Nat}{cs xs:List AV}{vs:List Value}(hp:Plain c b m)(hc:Cells c (un L0 Lo) cs b base)(hv:VRs c (un L0 Lo) xs vs)(TE:∀v∈vs,v.oneCell'=true)(hl:off+xs.length≤cs.length)(hm:base+cs.length≤m)
  (e:Ext c Lo c' ma) (hw:c'.w=c.w.setCells b (base+off) vs):Cells c' (un L0 ma) (eO cs off xs) b base:=by
 obtain⟨C,e',lo,hi,hb,hf,zj⟩:=hp
 have hlen:=hv.length
 obtain⟨C',h1,h2,h3⟩:=ib vs b (base+off) c.w C e' (lo,hi) hb (by omega)
 rw [Cells.iff]
 intro i x hx
 rw [hw,cell_of_block h1,h3]
 rw [xE xs cs off i hl] at hx
 by_cases h4:off≤i∧i<off+xs.length
 ·rw [if_pos h4] at hx
  obtain⟨v,SN,Qm⟩:=hv.get _ x hx
  refine⟨v,?_,TE v (afj SN),VR.ext e x v Qm⟩
  rw [if_pos (by omega),show base+i - (base+off)=i - off by omega]
  exact SN
 ·rw [if_neg h4] at hx
  obtain⟨v,SN,NT,Qm⟩:=hc.get' i x hx
  refine⟨v,?_,NT,VR.ext e x v Qm⟩
  rw [if_neg (by omega),←cell_of_block hb]
  exact SN
theorem rP {c:Cx}{L:Nat→Prop}{t:TypeId}{cs gF:List AV}{b m base off:Nat}{x:AV}{v:Value}(hp:Plain c b m)(hm:base+cs.length≤m)(hv:VR c L x v)(h:jM P t cs off x=some gF) :
  (storeVar t ⟨b,base+off,none⟩ v).run P c.w = .ok () (c.w.setCells b (base+off) v.cells.toList)∧VRs c L x.cells v.cells.toList∧off+x.cells.length≤cs.length∧gF=eO cs off x.cells∧(∀u∈v.cells.toList,u.oneCell'=true):=by
 unfold jM at h
 rw [ae0] at h
 obtain⟨k,hk,h⟩:=h
 split at h
 ·rename_i hh
  obtain⟨h1,h2,h3⟩:=hh
  cases h
  obtain⟨h4,h5⟩:=kQ h2 hv
  have h6:=h4.length
  refine⟨?_,h4,by omega,rfl,h5⟩
  have h7:v.cells.size=k:=by rw [←agc,←h6]; exact h1
  simp only [storeVar,Sem.run_bind,fj hk,Result.andThen_ok,h7]
  simp only [ne_eq,not_true_eq_false,if_false]
  rw [←mB (P:=P) hp (vs:=v.cells.toList) (base:=base) (off:=off) (by omega) h5]
 ·cases h
theorem lE {c c0:Cx}{Lo:Nat→Prop}(e:Ext c0 none0 c Lo)(h:c0.base≤c0.w.heap.size):c.base≤c.w.heap.size:=by
 rw [e.base]; exact afV h e.size
theorem Kf (hb0:c0.base≤c0.w.heap.size)(hd:jk n ds o){t:TypeId}{x y:Operand}(ho:o.op = .store t x y)(wk:o.dst=none){s':RS}
  (h:(match ck s.ρ x with
   | .lp k off=>(s.bx k).bind fun cs=>(jM P t cs off (ck s.ρ y)).map fun gF=>s.box k gF
   | .ptr id off=>(s.h.get id).bind fun | .cells cs=>(jM P t cs off (ck s.ρ y)).map fun gF=>{s with h:=s.h.put id (.cells gF)} | _=>none
   | _=>none)=some s'):lI P L0 c0 n ds o s s':=by
 rintro a w K Q ⟨hn,c,Lo,lam,rfl,f,e⟩ hK
 have hbs:=lE e hb0
 have hx:=b6 f x
 have hy:=b6 f y
 unfold Oper.wp
 have Qs:a.put o.dst undef=a:=by rw [wk]; rfl
 have fin:∀c' ma wj,((Instr.storeAt t (a.eval x) (a.eval y)).run P c.w = .ok () c'.w)→Fr L0 c' ma wj ds s' a→Ext c Lo c' ma→Oper.upon P o a K Q ((execOp a.eval o).run P c.w):=by
  intro c' ma wj hr f' e'
  have:(execOp a.eval o).run P c.w = .ok .skip c'.w:=by simp [execOp,ho,hr]
  rw [this,Oper.upon_skip,Qs]
  exact hK _ _ ⟨hn,c',ma,wj,rfl,f',e.trans e'⟩
 cases IG:ck s.ρ x<;>rw [IG] at h<;>simp only at h<;>try (cases h; done)
 ·rename_i id off
  rw [ae0] at h
  obtain⟨ob,hob,h⟩:=h
  cases ob with
  | map es=>cases h
  | row t cs=>cases h
  | cells cs=>
  rw [ae1] at h
  obtain⟨gF,hw,rfl⟩:=h
  rw [IG] at hx
  simp only [SR,VR] at hx
  obtain⟨hi,ad,EU,ha⟩:=hx
  rw [←f.h] at hob
  have hl:Live c.h id:=⟨f.rel.lt _ _ hob,by simp [hob]⟩
  obtain⟨m,hp,hm,hc⟩:=f.rel.obj _ _ hob
  have rQ:(ck s.ρ y).cells.all AV.cL=true:=by
   unfold jM at hw
   rw [ae0] at hw
   obtain⟨k,_,hw⟩:=hw
   split at hw
   ·rename_i hh; exact hh.2.1
   ·cases hw
  have WH:=hy.w6 rQ
  obtain⟨hr,hv,hle,rfl,TE⟩:=rP (P:=P) hp.nb hm WH hw
  have hvl:=hv.length
  obtain⟨q1,q2,q3,q4⟩:=jo (a.eval y).cells.toList (c.β id).1 ((c.β id).2+off) c.w
  have:=f.upd (w':=c.w.setCells (c.β id).1 ((c.β id).2+off) (a.eval y).cells.toList) (β':=c.β) (h':=c.h.put id (.cells (eO cs off (ck s.ρ y).cells))) id (.cells (eO cs off (ck s.ρ y).cells))
   (Steady.put _ _ _) (by simp only [AHeap.put]; omega) (by simp [AHeap.put,beq_nat]) (fun nu hne=>.inr ⟨by simp [AHeap.put,beq_nat,hne],rfl⟩) (fun _=>⟨hl,rfl⟩) (.inr ⟨id,hl,rfl,.inl rfl⟩)
   (fun _=>by
    obtain⟨C,e',lo,mw,hb,hf,zj⟩:=hp.nb
    obtain⟨C',h1,h2,_⟩:=ib (a.eval y).cells.toList (c.β id).1 ((c.β id).2+off) c.w C e' (lo,mw) hb (by omega)
    simp [World.shape?,h1,Cx.len,hb,h2])
   (fun b _ hne=>fk _ _ _ _ _ hne) (fun b _ hne=>fk _ _ _ _ _ hne) (by rw [q1]; exact ae4 _) hbs q2 q3 q4
   (fun e'=>⟨m,hp.setCells (by omega) _ _ _,by rw [j5]; exact hm,kR hp.nb hc hv TE hle hm e' rfl⟩)
  rw [f.h] at this
  obtain⟨e',f'⟩:=this
  refine fin _ _ _ ?_ f' e'
  rw [EU,ha hl]
  simp [Instr.storeAt,Instr.sureAddr,hr]
 ·rename_i k off
  rw [ae0] at h
  obtain⟨cs,TF,h⟩:=h
  rw [ae1] at h
  obtain⟨gF,hw,rfl⟩:=h
  rw [IG] at hx
  simp only [SR] at hx
  obtain⟨EU,_⟩:=hx
  have ob:=f.box k cs TF
  have rQ:(ck s.ρ y).cells.all AV.cL=true:=by
   unfold jM at hw
   rw [ae0] at hw
   obtain⟨k,_,hw⟩:=hw
   split at hw
   ·rename_i hh; exact hh.2.1
   ·cases hw
  have WH:=hy.w6 rQ
  obtain⟨hr,hv,hle,rfl,TE⟩:=rP (P:=P) (base:=0) ob.plain (by omega) WH hw
  have hvl:=hv.length
  obtain⟨q1,q2,q3,q4⟩:=jo (a.eval y).cells.toList (lam k) (0+off) c.w
  obtain⟨ma,wj,e',f',_⟩:=f.Ke (w':=c.w.setCells (lam k) (0+off) (a.eval y).cells.toList) k (eO cs off (ck s.ρ y).cells) (lam k) (.inr ⟨rfl,by rw [TF]; rfl⟩)
   (fun _ _ _=>rfl) (fun b _ hne=>fk _ _ _ _ _ hne) (fun b _ hne=>fk _ _ _ _ _ hne) (by rw [q1]; exact ae4 _) (by rw [q1]; exact ob.plain.lt) hbs q2 q3 q4
   (by rw [j5]; exact ob.plain.setCells (by omega) _ _ _) (fun e'=>kR ob.plain ob.cells hv TE hle (by omega) e' rfl)
  refine fin _ _ _ ?_ f' e'
  rw [EU]
  rw [aft] at hr
  simp [Instr.storeAt,Instr.sureAddr,hr]
end
end Go.R
namespace Go.R
open Go
theorem kC (w:World)(o:Obj):(w.alloc o).heap[w.heap.size]? = some o:=by
 show (w.heap.push o)[w.heap.size]? = some o
 simp
theorem alloc_old (w:World)(o:Obj){b:Nat}(h:b<w.heap.size):(w.alloc o).heap[b]? = w.heap[b]?:=by
 show (w.heap.push o)[b]? = w.heap[b]?
 simp [Array.getElem?_push,show b≠w.heap.size by omega]
theorem RS.set_set (s:RS)(d:Option Nat)(x y:AV):(s.set d x).set d y=s.set d y:=by
 cases d with
 | none=>rfl
 | some d=>
  simp only [RS.set]
  congr 1
  funext t
  cases afN t d<;>rfl
theorem NU (a:Act)(d:Option Nat)(x y:Value):(a.put d x).put d y=a.put d y:=by
 cases d with
 | none=>rfl
 | some d=>
  simp only [Act.put]
  congr 1
  apply Array.ext_getElem?
  intro i
  simp only [af9,Array.size_setIfInBounds]
  by_cases h:d=i<;>by_cases h2:d<a.tmps.size<;>simp [h,h2]
section
variable {P:Program}{L0:Nat→Prop}{c0:Cx}{n:Nat}{ds:List Nat}{o:Oper}{s:RS}
theorem uo {k:Nat}{ρ:Nat→AV}:∀{l:List Nat},xt k ρ l=true→∀t∈l,∀off,ρ t≠.lp k off
 | [],_,t,ht=>by simp at ht
 | x::xs,h,t,ht=>by
  simp only [xt,ae3] at h
  intro off he
  rcases afq.1 ht with rfl | ht
  ·rw [he] at h; simp at h
  ·exact uo h.2 t ht off he
theorem Fr.Kg {c:Cx}{Lo:Nat→Prop}{lam:Nat→Nat}{a:Act}(f:Fr L0 c Lo lam ds s a)(hbs:c.base≤c.w.heap.size)(w1:World)(WI:w1.heap=c.w.heap∧w1.os=c.w.os∧w1.tape=c.w.tape∧w1.output=c.w.output)(ob:AObj)(obj:Obj)
  (h':AHeap) (hg:h'.get c.h.next=some ob) (hst:Steady c.h h') (hn:c.h.next<h'.next) (ho:∀id,id≠c.h.next→h'.get id=none∨h'.get id=c.h.get id)
  (hob:∀(c':Cx) (e:Ext c Lo c' Lo),c'.w=w1.alloc obj→sV c' (un L0 Lo) c.w.heap.size 0 ob) :
  ∃β',Ext c Lo ⟨β',h',w1.alloc obj,c.base⟩ Lo∧Fr L0 ⟨β',h',w1.alloc obj,c.base⟩ Lo lam ds {s with h:=h'} a∧β' c.h.next=(c.w.heap.size,0)∧Live h' c.h.next:=by
 obtain⟨q0,q1,q2,q3⟩:=WI
 have hsz:w1.heap.size=c.w.heap.size:=by rw [q0]
 refine⟨fun i=>if i=c.h.next then (c.w.heap.size,0) else c.β i,?_⟩
 have:=f.upd (w':=w1.alloc obj) (β':=fun i=>if i=c.h.next then (c.w.heap.size,0) else c.β i) (h':=h') c.h.next ob
  hst hn hg (fun id hne=>(ho id hne).imp (fun x=>x) fun h=>⟨h,by simp [hne]⟩)
  (fun h=>absurd h (Nat.lt_irrefl _)) (.inl (by simp)) (fun h=>by simp at h)
  (fun b hb _=>by rw [alloc_old _ _ (by omega),q0]) (fun b hb _=>by rw [alloc_old _ _ (by omega),q0]) (by simp [hsz]) hbs q1 q2 q3
  (fun e=>by simpa using hob _ e rfl)
 exact⟨this.1,this.2,by simp,⟨hn,by rw [hg]; rfl⟩⟩
theorem Fr.fresh {c:Cx}{Lo:Nat→Prop}{lam:Nat→Nat}{a:Act}(f:Fr L0 c Lo lam ds s a)(hbs:c.base≤c.w.heap.size)(w1:World)(WI:w1.heap=c.w.heap∧w1.os=c.w.os∧w1.tape=c.w.tape∧w1.output=c.w.output)(ob:AObj)(obj:Obj)
  (hob:∀(c':Cx) (e:Ext c Lo c' Lo),c'.w=w1.alloc obj→sV c' (un L0 Lo) c.w.heap.size 0 ob) :
  ∃β',Ext c Lo ⟨β',c.h.alloc ob,w1.alloc obj,c.base⟩ Lo∧Fr L0 ⟨β',c.h.alloc ob,w1.alloc obj,c.base⟩ Lo lam ds {s with h:=c.h.alloc ob} a∧β' c.h.next=(c.w.heap.size,0)∧Live (c.h.alloc ob) c.h.next:=
 f.Kg hbs w1 WI ob obj (c.h.alloc ob) (by simp [AHeap.alloc,AHeap.put,beq_nat]) (Steady.put _ _ _) (afL _) (fun id hne=>.inr (by simp [AHeap.alloc,AHeap.put,beq_nat,hne])) hob
theorem oE {c':Cx}{w1:World}{C:Array Value}{e:TypeId}(hw:c'.w=w1.alloc (.cells C e)):kq c' w1.heap.size C.size:=
 ⟨C,e,by rw [hw]; exact kC _ _,rfl⟩
theorem II {c':Cx}{w1:World}{C:Array Value}{e:TypeId}(hw:c'.w=w1.alloc (.cells C e)):Plain c' w1.heap.size C.size:=
 ⟨C,e,0,0,by rw [hw]; exact kC _ _,.inl rfl,rfl⟩
theorem mi {c':Cx}{L:Nat→Prop}{w1:World}{C:Array Value}{e:TypeId}{xs:List AV}{vs:List Value}(hw:c'.w=w1.alloc (.cells C e))(hv:VRs c' L xs vs)(hp:∀i,i<vs.length→C[i]? = vs[i]?)(h1:∀v∈vs,v.oneCell'=true):Cells c' L xs w1.heap.size 0:=
 Cells.of_vals hv (fun i hi=>by rw [hw,cell_of_block (kC _ _),aft]; exact hp i hi) h1
theorem zY (hb0:c0.base≤c0.w.heap.size)(hd:jk n ds o){aS:List Nat}{cs:List AV}{s':RS}(t:TypeId)(h:kp s aS ds o cs=some s')
  (hx:∀a c Lo lam,Fr L0 c Lo lam ds s a→a.tmps.size=n→∃v:Value,(execOp a.eval o).run P c.w = .ok (.value (.pointer (some ⟨c.w.heap.size,0,none⟩))) (c.w.alloc (.cells v.cells t))∧VRs c (un L0 Lo) cs v.cells.toList∧∀u∈v.cells.toList,u.oneCell'=true) :
  lI P L0 c0 n ds o s s':=by
 unfold kp at h
 split at h
 rotate_left
 ·cases h
 rename_i sK
 cases Wb:o.dst with
 | none=>rw [Wb] at h; cases h
 | some d=>
 obtain⟨C5,EV⟩:=hd d Wb
 rw [Wb] at h
 simp only at h
 rintro a w K Q ⟨hn,c,Lo,lam,rfl,f,e⟩ hK
 have hbs:=lE e hb0
 obtain⟨v,hr,hv,h1⟩:=hx a c Lo lam f hn
 unfold Oper.wp
 rw [hr,Oper.upon_value,Wb]
 split at h
 ·split at h
  rotate_left
  ·cases h
  rename_i w7
  cases h
  have f1:=f.set (d:=some d) (x:=.any) (v:=undef) (SR.of (by simp [VR])) (fun t ht=>by cases ht; exact⟨hn ▸ C5,EV⟩)
  have Kh:∀t off,(s.set (some d) .any).ρ t≠.lp d off:=by
   intro t off he
   rw [zT] at he
   by_cases Py:t=d
   ·rw [if_pos Py] at he; cases he
   ·rw [if_neg Py] at he
    by_cases hm:t∈ds
    ·exact uo w7 t (by simp [hm,beq_nat,Py]) off he
    ·exact Py (f.tidy t d off hm he).symm
  obtain⟨ma,wj,e',f',WJ⟩:=f1.Ke (w':=c.w.alloc (.cells v.cells t)) d cs c.w.heap.size (.inl (ae4 _)) (fun t off he=>absurd he (Kh t off))
   (fun b hb _=>alloc_old _ _ hb) (fun b hb _=>alloc_old _ _ (by omega)) (by simp) (by simp) hbs rfl rfl rfl
   (by
     have:=II (c':={c with w:=c.w.alloc (.cells v.cells t)}) (w1:=c.w) (C:=v.cells) (e:=t) rfl
     rwa [show v.cells.size=cs.length by rw [←agc,hv.length]] at this)
   (fun e'=>mi (w1:=c.w) (C:=v.cells) (e:=t) rfl (VRs.ext e' _ _ hv) (fun i _=>by simp) h1)
  have f2:=f'.set (d:=some d) (x:=.lp d 0) (v:=.pointer (some ⟨c.w.heap.size,0,none⟩)) (by simp only [SR,WJ,RS.box,beq_nat]; simp) (fun t ht=>by cases ht; rw [jj]; exact⟨hn ▸ C5,EV⟩)
  rw [NU] at f2
  have hs:(((s.set (some d) .any).box d cs).set (some d) (.lp d 0))=(s.box d cs).set (some d) (.lp d 0):=by
   rw [←RS.set_set (s.box d cs) (some d) .any]
   rfl
  rw [hs] at f2
  exact hK _ _ ⟨(jj _ _ _).trans hn,_,ma,wj,rfl,f2,e.trans e'⟩
 ·cases h
  obtain⟨β',e',f',hβ,hl⟩:=f.fresh hbs c.w ⟨rfl,rfl,rfl,rfl⟩ (.cells cs) (.cells v.cells t) (fun c' e' hw=>⟨_,oE hw,by rw [aft,hv.length]; simp,
   mi (w1:=c.w) hw (VRs.ext e' _ _ hv) (fun i _=>by simp) h1⟩)
  rw [f.h] at f' e' hβ hl
  have f2:=f'.set (d:=some d) (x:=.ptr s.h.next 0) (v:=.pointer (some ⟨c.w.heap.size,0,none⟩)) (by
   simp only [SR,VR]
   exact⟨hl.1,_,rfl,fun _=>by rw [hβ]⟩) (fun t ht=>by cases ht; exact⟨hn ▸ C5,EV⟩)
  exact hK _ _ ⟨(jj _ _ _).trans hn,_,Lo,lam,rfl,f2,e.trans e'⟩
theorem GD {c:Cx}{L:Nat→Prop}{n:Nat}{x:AV}{v:Value}(h:VR c L x v):VR c L (zq n x) v:=by
 unfold zq
 split
 ·simp only [VR] at h ⊢
  exact .inl ⟨trivial,trivial,trivial,none,h⟩
 ·exact h
theorem GF {c:Cx}{L:Nat→Prop}{n:Nat}:∀{cs:List AV} {vs:List Value} (j:Nat),VRs c L cs vs→VRs c L (E7 n j cs) vs
 | [],vs,j,h=>h
 | x::cs,[],j,h=>h.elim
 | x::cs,v::vs,j,h=>by
  refine⟨?_,GF (j+1) h.2⟩
  split
  ·exact h.1
  ·exact GD h.1
theorem GG {c:Cx}{L:Nat→Prop}{n:Nat}:∀{cs:List AV} {vs:List Value},VRs c L cs vs→VRs c L (cs.map (zq n)) vs
 | [],vs,h=>h
 | x::cs,[],h=>h.elim
 | x::cs,v::vs,h=>⟨GD h.1,GG h.2⟩
theorem NV {c:Cx}{L:Nat→Prop}{cs:List AV}{vs:List Value}(h:VRs c L cs vs):∀n,VRs c L (NO cs n) vs
 | 0=>h
 | n+1=>by
  have e:NO cs (n+1)=bif agB 100 (n+1) then E7 (n+1) 0 cs else cs.map (zq (n+1)):=rfl
  rw [e]
  cases agB 100 (n+1)
  ·exact GG h
  ·exact GF 0 h
theorem GH {c:Cx}{L:Nat→Prop}{aS:List Nat}{d:Option Nat}{cs:List AV}{vs:List Value}(h:VRs c L cs vs):VRs c L (E8 aS d cs) vs:=by
 unfold E8
 split
 ·exact h
 ·exact NV h _
theorem NW {c:Cx}{L:Nat→Prop}{aS:List Nat}{d:Option Nat}{x:AV}{v:Value}(h:VR c L x v):VR c L (Qk aS d x) v:=by
 unfold Qk
 split
 ·simp only [VR] at h ⊢
  obtain⟨vs,h1,h2⟩:=h
  exact⟨vs,h1,GH h2⟩
 ·exact h
theorem GI {n:Nat}{x:AV}(h:(zq n x).cL=true):x.cL=true:=by
 unfold zq at h
 split at h
 ·rfl
 ·exact h
theorem GJ {n:Nat}:∀{cs:List AV} (j:Nat),(E7 n j cs).all AV.cL=true→cs.all AV.cL=true
 | [],j,h=>rfl
 | x::cs,j,h=>by
  rw [E7,afQ,ae3] at h
  rw [afQ,ae3]
  refine⟨?_,GJ (j+1) h.2⟩
  have h1:=h.1
  split at h1
  ·exact h1
  ·exact GI h1
theorem GK {n:Nat}:∀{cs:List AV},(cs.map (zq n)).all AV.cL=true→cs.all AV.cL=true
 | [],h=>rfl
 | x::cs,h=>by
  rw [afs,afQ,ae3] at h
  rw [afQ,ae3]
  exact⟨GI h.1,GK h.2⟩
theorem NX {aS:List Nat}{d:Option Nat}{cs:List AV}(h:(E8 aS d cs).all AV.cL=true):cs.all AV.cL=true:=by
 unfold E8 at h
 split at h
 ·exact h
 ·rename_i d'
  generalize J5 aS d'=n at h
  cases n with
  | zero=>exact h
  | succ n=>
   have e:NO cs (n+1)=bif agB 100 (n+1) then E7 (n+1) 0 cs else cs.map (zq (n+1)):=rfl
   rw [e] at h
   cases hb:agB 100 (n+1)
   ·rw [hb,cond_false] at h; exact GK h
   ·rw [hb,cond_true] at h; exact GJ 0 h
theorem IJ {c:Cx}{t:TypeId}{z:AV}(hz:jX P t=some z)(sK:z.cells.all AV.cL=true)(L:Nat→Prop):∃v:Value,(Instr.alloc t true (.tuple #[])).run P c.w = .ok (.pointer (some ⟨c.w.heap.size,0,none⟩)) (c.w.alloc (.cells v.cells t))∧VRs c L z.cells v.cells.toList∧∀u∈v.cells.toList,u.oneCell'=true:=by
 obtain⟨v,hr,hv⟩:=mh hz c.w
 obtain⟨h1,h2⟩:=kQ sK (oD (c:=c) (L:=L) hv)
 exact⟨v,by simp [Instr.alloc,hr,newVar,newRow],h1,h2⟩
theorem kS (z:List AV):∀k,(jU z k).length=k*z.length
 | 0=>by simp [jU]
 | k+1=>by simp [jU,kS z k,ags,agF]
theorem zZ (z:List AV):∀(k i:Nat),i<k*z.length→(jU z k)[i]? = z[i % z.length]?
 | 0,i,h=>by simp at h
 | k+1,i,h=>by
  rw [ags,Nat.one_mul] at h
  rw [jU]
  by_cases h1:i<z.length
  ·rw [afm h1,Nat.mod_eq_of_lt h1]
  ·rw [afg (by omega),zZ z k _ (by omega),←Nat.mod_eq_sub_mod (show z.length≤i by omega)]
theorem uq {c:Cx}{L:Nat→Prop}{z:List AV}{zv:Array Value}(hz:VRs c L z zv.toList)(k m:Nat)(hm:k*z.length≤m)(JR:z.length≠0) :
  VRs c L (jU z k) (((Array.range m).map (zv[· % zv.size]!)).toList.take (k*z.length)):=by
 have hl:=hz.length
 have key:∀(xs:List AV) (vs:List Value),xs.length=vs.length→(∀(i:Nat) x v,xs[i]? = some x→vs[i]? = some v→VR c L x v)→VRs c L xs vs:=by
  intro xs
  induction xs with
  | nil=>intro vs h _; cases vs with | nil=>trivial | cons _ _=>simp at h
  | cons x xs ih=>
   intro vs h mC
   cases vs with
   | nil=>simp at h
   | cons v vs=>
    refine⟨mC 0 x v rfl rfl,ih vs (by simpa using h) fun i y u hy hu=>mC (i+1) y u (by simpa using hy) (by simpa using hu)⟩
 refine key _ _ (by rw [kS]; simp; omega) fun i x v hx hv=>?_
 have hi:i<k*z.length:=by
  have:=(ae5.1 hx).1
  rwa [kS] at this
 rw [zZ z k i hi] at hx
 obtain⟨u,hu,hr⟩:=hz.get _ x hx
 rw [List.getElem?_take,if_pos hi] at hv
 have Gz:i<m:=by omega
 have wo:i % zv.size<zv.size:=Nat.mod_lt _ (by rw [←agc,←hl]; omega)
 have:v=zv[i % zv.size]!:=by
  simp [Gz] at hv
  exact hv.symm
 rw [show zv.toList.length=zv.size by simp] at hl
 rw [hl,Array.getElem?_toList,Array.getElem?_eq_getElem wo] at hu
 rw [this,getElem!_pos zv _ wo]
 cases hu
 exact hr
theorem oF (hb0:c0.base≤c0.w.heap.size)(hd:jk n ds o){ob:AObj}{x:AV}
  (h:∀a c Lo lam,Fr L0 c Lo lam ds s a→a.tmps.size=n→∃(obj:Obj) (v:Value),(execOp a.eval o).run P c.w = .ok (.value v) (c.w.alloc obj)∧
   (∀(c':Cx) (e:Ext c Lo c' Lo),c'.w=c.w.alloc obj→sV c' (un L0 Lo) c.w.heap.size 0 ob)∧
   (∀(c':Cx),c'.h=s.h.alloc ob→c'.w=c.w.alloc obj→c'.β s.h.next=(c.w.heap.size,0)→VR c' (un L0 Lo) x v)) (hx:∀k off,x≠.lp k off) :
  lI P L0 c0 n ds o s ({s with h:=s.h.alloc ob}.set o.dst x):=by
 rintro a w K Q ⟨hn,c,Lo,lam,rfl,f,e⟩ hK
 have hbs:=lE e hb0
 obtain⟨obj,v,hr,hob,hv⟩:=h a c Lo lam f hn
 unfold Oper.wp
 rw [hr,Oper.upon_value]
 obtain⟨β',e',f',hβ,hl⟩:=f.fresh hbs c.w ⟨rfl,rfl,rfl,rfl⟩ ob obj hob
 rw [f.h] at f' e' hβ hl
 have f2:=f'.set (d:=o.dst) (x:=x) (v:=v) (SR.of (hv _ rfl rfl hβ)) (fun t ht=>by rw [hn]; exact hd t ht)
 exact hK _ _ ⟨(jj _ _ _).trans hn,_,Lo,lam,rfl,f2,e.trans e'⟩
theorem Fj (hb0:c0.base≤c0.w.heap.size)(hd:jk n ds o){t:TypeId}(ho:o.op = .makeMap t none):lI P L0 c0 n ds o s ({s with h:=s.h.alloc (.map [])}.set o.dst (.mp s.h.next)):=by
 refine oF hb0 hd (fun a c Lo lam f hn=>⟨.map #[] 0,.map (some c.w.heap.size),by simp [execOp,ho,Instr.makeMap],fun c' e hw=>⟨#[],0,by rw [hw]; exact kC _ _,trivial⟩,fun c' hh hw hβ=>?_⟩) (by rintro k off hh; cases hh)
 simp only [VR]
 exact⟨by rw [hh]; exact afL _,_,rfl,fun _=>by rw [hβ]⟩
theorem z6 {i:Int}(h0:0≤i)(h1:i≤1099511627776):IntKind.i64.wrap i=i:=IntWalk.i64_in _ (by omega)
theorem Be (hb0:c0.base≤c0.w.heap.size)(hd:jk n ds o){t:TypeId}{lx cx:Operand}(ho:o.op = .makeSlice t lx cx){s':RS}
  (h:((iq P s.h t (ck s.ρ lx) (ck s.ρ cx)).map fun (x,h)=>{s with h}.set o.dst x)=some s'):lI P L0 c0 n ds o s s':=by
 rw [ae1] at h
 obtain⟨⟨x,h'⟩,hm,rfl⟩:=h
 unfold iq at hm
 split at hm<;>try (cases hm; done)
 rename_i l cc hl hc
 rw [ae0] at hm
 obtain⟨d,Ki,hm⟩:=hm
 cases d<;>simp only at hm<;>try (cases hm; done)
 rename_i e
 simp only [ae0] at hm
 obtain⟨i,hi,z,hz,hm⟩:=hm
 split at hm
 rotate_left
 ·cases hm
 rename_i lJ
 obtain⟨h0,h1,h2,h3,h4,h5,h6⟩:=lJ
 simp only [ae2,ae9] at hm
 obtain⟨rfl,rfl⟩:=hm
 refine oF hb0 hd (fun a c Lo lam f hn=>?_) (by rintro k off hh; cases hh)
 have hnz:s.h.next≠0:=by have:=f.rel.ver 0; rw [f.h] at this; omega
 have nf:=(b6 f lx)
 have TG:=(b6 f cx)
 rw [hl] at nf
 rw [hc] at TG
 simp only [SR,VR] at nf TG
 obtain⟨zv,Kb,Fi⟩:=mh hz c.w
 have JS:(typeInfo e).run P c.w = .ok i c.w:=by simp [typeInfo,hi]
 have hsz:(sizeOf e).run P c.w = .ok i.size c.w:=fj (by simp [hH,hi]) c.w
 obtain⟨EW,hz1⟩:=kQ h6 (oD (c:=c) (L:=un L0 Lo) Fi)
 have JR:=EW.length
 have hl0:IntKind.i64.wrap l=l:=z6 h0 (by omega)
 have SO:IntKind.i64.wrap cc=cc:=z6 (by omega) h5
 have hroom:¬((i.bytes:Int)*cc > 2 ^ 48):=by
  rw [Int.mul_comm]; simp only [ia] at h2; omega
 have hn0:cc.toNat*i.size=0∨cc.toNat*i.size≠0:=by omega
 have Fk:(Instr.makeSlice t (.int .i64 l) (.int .i64 cc)).run P c.w = .ok (.slice (some ⟨c.w.heap.size,0,none⟩) l.toNat cc.toNat)
   (c.w.alloc (.cells ((Array.range (cc.toNat*i.size)).map (zv.cells[· % zv.cells.size]!)) e)):=by
  unfold Instr.makeSlice
  simp only [Sem.run_bind,bS Ki,Result.andThen_ok,asInt,asIntOf,Sem.run_pure,JS,hl0,SO,hsz]
  rw [if_neg (by simp only [afR,decide_eq_true_eq,not_or]; exact⟨⟨⟨by omega,hroom⟩,by omega⟩,by omega⟩)]
  simp only [Sem.run_bind,run_askRoom,Result.andThen_ok,hsz,Sem.run_pure]
  by_cases hz0:cc.toNat*i.size=0
  ·have WK:∀f:Nat→Value,Array.map f (Array.range 0) = #[]:=fun f=>by simp
   simp only [hz0,if_true,Sem.run_pure,Sem.run_bind,Result.andThen_ok,newRow,run_newObj,World.alloc_eq,WK]
  ·simp only [hz0,if_false,Sem.run_bind,Kb,Result.andThen_ok,Sem.run_pure,newRow,run_newObj,World.alloc_eq]
 have hle:l.toNat*z.cells.length≤cc.toNat*i.size:=by rw [h3]; exact af2 _ (by omega)
 have hrow:∀(c':Cx) (e':Ext c Lo c' Lo),c'.w=c.w.alloc (.cells ((Array.range (cc.toNat*i.size)).map (zv.cells[· % zv.cells.size]!)) e)→
   sV c' (un L0 Lo) c.w.heap.size 0 (.cells (jU z.cells l.toNat)):=by
  intro c' e' hw
  refine⟨_,oE hw,by rw [kS]; simp; omega,?_⟩
  have hv:=uq EW l.toNat (cc.toNat*i.size) hle (by omega)
  refine mi (w1:=c.w) hw (VRs.ext e' _ _ hv) (fun j hj=>?_) (fun u hu=>?_)
  ·rw [List.getElem?_take,if_pos (by simp at hj; omega),Array.getElem?_toList]
  ·have hu2:=List.mem_of_mem_take hu
   simp only [Array.toList_map,afu] at hu2
   obtain⟨j,hj,rfl⟩:=hu2
   have wo:j % zv.cells.size<zv.cells.size:=Nat.mod_lt _ (by rw [←agc,←JR]; omega)
   rw [getElem!_pos zv.cells _ wo]
   exact hz1 _ (by simp)
 have hex:(execOp a.eval o).run P c.w = .ok (.value (.slice (some ⟨c.w.heap.size,0,none⟩) l.toNat cc.toNat)) (c.w.alloc (.cells ((Array.range (cc.toNat*i.size)).map (zv.cells[· % zv.cells.size]!)) e)):=by
  simp only [execOp,ho,nf,TG,Sem.run_bind,Fk,Result.andThen_ok,Sem.run_pure]
 refine⟨_,_,hex,hrow,fun c' hh hw hβ=>?_⟩
 simp only [VR]
 refine .inr ⟨hnz,by rw [hh]; exact afL _,_,_,rfl,by omega,rfl,fun _=>.inl ?_⟩
 rw [hβ]
 refine⟨rfl,?_⟩
 simp only [Cx.len,World.shape?,hw,kC]
 simp
end
end Go.R
namespace Go.R
open Go
def oG:List Value→Nat→List Value→List Value
 | cs,_,[]=>cs
 | cs,i,v::vs=>oG (cs.set i v) (i+1) vs
theorem VRs.eO {c:Cx}{L:Nat→Prop}:∀{xs:List AV} {us:List Value} (i:Nat) {cs:List AV} {vs:List Value},VRs c L xs us→VRs c L cs vs→VRs c L (eO cs i xs) (oG vs i us)
 | [],[],i,cs,vs,_,h=>by
  have:R.eO cs i []=cs:=by cases cs<;>rfl
  rw [this]; cases vs<;>exact h
 | x::xs,u::us,i,cs,vs,h,k=>VRs.eO (i+1) h.2 (VRs.set h.1 i k)
 | [],_::_,_,_,_,h,_=>h.elim
 | _::_,[],_,_,_,h,_=>h.elim
theorem vB:∀(us:List Value) (i:Nat) (vs:List Value),(∀v∈vs,v.oneCell'=true)→(∀u∈us,u.oneCell'=true)→∀v∈oG vs i us,v.oneCell'=true
 | [],i,vs,h,_,v,hv=>h v (by cases vs<;>exact hv)
 | u::us,i,vs,h,k,v,hv=>vB us (i+1) (vs.set i u) (fun w hw=>by
   rcases List.mem_or_eq_of_mem_set hw with h1 | h1
   ·exact h w h1
   ·subst h1; exact k _ (by simp)) (fun w hw=>k w (by simp [hw])) v hv
theorem sW (off:Nat):∀(us:List Value) (j:Nat) (cells:Array Value),((us.zipIdx j).foldl (fun cs (p:Value × Nat)=>cs.setIfInBounds (off+p.2) p.1) cells).toList=oG cells.toList (off+j) us
 | [],j,cells=>by simp [oG]
 | u::us,j,cells=>by
  simp only [List.zipIdx_cons,List.foldl_cons]
  rw [sW off us (j+1)]
  simp [oG,af8]
section
variable {P:Program}{L0:Nat→Prop}{c0:Cx}{n:Nat}{ds:List Nat}{o:Oper}{s:RS}
def xG (c:Cx)(L:Nat→Prop):List (Nat × AV)→List (Nat × Value)→Prop
 | [],[]=>True
 | (i,x)::xs,(j,v)::vs=>(i=j∧(x.cells.all AV.cL=true→VR c L x v))∧xG c L xs vs
 | _,_=>False
theorem oH {c:Cx}{L:Nat→Prop}(pl:Nat→Option (Nat × Nat)):∀{ps:List (Nat × AV)} {vs:List (Nat × Value)} {cs gF:List AV} {C:Array Value},xG c L ps vs→VRs c L cs C.toList→(∀v∈C.toList,v.oneCell'=true)→xp pl cs ps=some gF→
  ∃C':Array Value,Instr.fill pl C vs=some C'∧VRs c L gF C'.toList∧∀v∈C'.toList,v.oneCell'=true
 | [],[],cs,gF,C,_,hc,h1,h=>by
  simp only [xp,ae2] at h
  subst h
  exact⟨C,rfl,hc,h1⟩
 | (i,x)::ps,(j,v)::vs,cs,gF,C,hp,hc,h1,h=>by
  obtain⟨⟨rfl,hx⟩,WL⟩:=hp
  simp only [xp,ae0] at h
  obtain⟨⟨off,size⟩,CL,h⟩:=h
  simp only at h
  split at h
  ·rename_i lJ
   obtain⟨h2,h3,h4⟩:=lJ
   obtain⟨h5,h6⟩:=kQ h3 (hx h3)
   have h7:v.cells.size=size:=by rw [←agc,←h5.length]; exact h2
   have h8:cs.length=C.size:=by rw [hc.length]; simp
   have hf:(v.cells.zipIdx.foldl (fun cs (p:Value × Nat)=>cs.setIfInBounds (off+p.2) p.1) C).toList=oG C.toList off v.cells.toList:=by
    rw [←Array.foldl_toList,Array.toList_zipIdx]
    exact sW off v.cells.toList 0 C
   obtain⟨C',h9,h10,h11⟩:=oH pl (C:=v.cells.zipIdx.foldl (fun cs (p:Value × Nat)=>cs.setIfInBounds (off+p.2) p.1) C) WL (by rw [hf]; exact VRs.eO off h5 hc) (by rw [hf]; exact vB _ _ _ h1 h6) h
   refine⟨C',?_,h10,h11⟩
   simp only [Instr.fill,CL]
   rw [if_neg (by simp only [afR,decide_eq_true_eq,not_or,ne_eq,Decidable.not_not]; exact⟨h7,by omega⟩)]
   exact h9
  ·cases h
 | [],_::_,_,_,_,h,_,_,_=>h.elim
 | _::_,[],_,_,_,h,_,_,_=>h.elim
theorem sX {c:Cx}{Lo:Nat→Prop}{lam:Nat→Nat}{a:Act}(f:Fr L0 c Lo lam ds s a):∀ps:List (Nat × Operand),xG c (un L0 Lo) (ps.map fun (i,x)=>(i,ck s.ρ x)) (ps.map fun (i,x)=>(i,a.eval x))
 | []=>trivial
 | (i,x)::ps=>⟨⟨rfl,fun h=>(b6 f x).w6 h⟩,sX f ps⟩
theorem vC {v:Value}{x:AV}(h:sR v=some x):x.cL=true:=by
 unfold sR at h
 split at h<;>first | (cases h; done) | (cases h; rfl)
theorem sY:∀{vs:List Value} {xs:List AV},vq vs=some xs→xs.all AV.cL=true
 | [],xs,h=>by simp [vq] at h; subst h; rfl
 | v::vs,xs,h=>by
  simp only [vq,ae0] at h
  obtain⟨x,hx,ys,hy,he⟩:=h
  cases he
  simp [vC hx,sY hy]
theorem sg {v:Value}{x:AV}(h:J3 v=some x):x.cells.all AV.cL=true:=by
 unfold J3 at h
 split at h
 ·rw [ae1] at h
  obtain⟨xs,hx,rfl⟩:=h
  exact sY hx
 ·have h1:=vC h
  cases x<;>simp_all [AV.cells,AV.cL]
theorem xH {c:Cx}(w:World):∀fs:List Field,(∀f∈fs,∃m,hH P f.type=some m)→(fs.mapM (m:=Sem) fun f=>do pure (f.offset,←sizeOf f.type)).run P w = .ok (fs.map fun f=>(f.offset,(hH P f.type).getD 0)) w
 | [],_=>by simp
 | f::fs,h=>by
  obtain⟨m,hm⟩:=h f (by simp)
  have ih:=xH (c:=c) w fs (fun g hg=>h g (by simp [hg]))
  simp only [List.mapM_cons,Sem.run_bind,fj hm,ih,hm,Sem.run_pure,Result.andThen_ok,afs,af6]
theorem run_build {c:Cx}{L:Nat→Prop}{t:TypeId}{ps:List (Nat × AV)}{vs:List (Nat × Value)}{y:AV}(hp:xG c L ps vs)(h:E3 P t ps=some y) :
  ∃v,(Instr.build t vs.toArray).run P c.w = .ok v c.w∧VR c L y v:=by
 unfold E3 at h
 simp only [ae0] at h
 obtain⟨z,hz,d,hd,h⟩:=h
 obtain⟨zv,Kb,Fi⟩:=mh hz c.w
 obtain⟨EW,hz1⟩:=kQ (sg Fi) (oD (c:=c) (L:=L) Fi)
 cases d<;>simp only at h<;>try (cases h; done)
 ·rename_i len e
  simp only [ae0,ae1] at h
  obtain⟨m,hm,cs,hf,rfl⟩:=h
  obtain⟨C',h1,h2,_⟩:=oH _ hp EW hz1 hf
  refine⟨.agg C',?_,by simp only [VR]; exact⟨C',rfl,h2⟩⟩
  unfold Instr.build
  simp [Kb,bS hd,fj hm,h1]
 ·rename_i fs
  split at h
  rotate_left
  ·cases h
  rename_i TH
  have mC:∀f∈fs.toList,∃m,hH P f.type=some m:=fun f hf=>afI.1 (afr.1 TH f hf)
  rw [ae1] at h
  obtain⟨cs,hf,rfl⟩:=h
  obtain⟨C',h1,h2,_⟩:=oH _ hp EW hz1 hf
  refine⟨.agg C',?_,by simp only [VR]; exact⟨C',rfl,h2⟩⟩
  have hpr:=xH (P:=P) (c:=c) c.w fs.toList mC
  have CL:(fun i=>(fs.toList.map fun f=>(f.offset,(hH P f.type).getD 0)).toArray[i]?)=E2 P fs.toList:=by
   funext i
   simp only [E2,List.getElem?_toArray,afv]
   cases hi:fs.toList[i]? with
   | none=>rfl
   | some f=>
    obtain⟨m,hm⟩:=mC f (afj hi)
    simp [hm]
  unfold Instr.build
  simp only [Sem.run_bind,Kb,bS hd,Result.andThen_ok]
  rw [←Array.toArray_toList (xs:=fs),List.mapM_toArray]
  simp only [Sem.run_map,hpr,Result.andThen_ok]
  rw [CL,h1]
  rfl
end
end Go.R
namespace Go.R
open Go
section
variable {P:Program}{L0:Nat→Prop}{c0:Cx}{n:Nat}{ds:List Nat}{o:Oper}{s:RS}
theorem xI (hb0:c0.base≤c0.w.heap.size)(hd:jk n ds o){x:AV}
  (h:∀a c Lo lam,Fr L0 c Lo lam ds s a→a.tmps.size=n→c.base≤c.w.heap.size→∃(w':World) (v:Value),(execOp a.eval o).run P c.w = .ok (.value v) w'∧(∀b,b<c.w.heap.size→jY c.w w' b)∧(∀id,Live c.h id→w'.heap[(c.β id).1]? = c.w.heap[(c.β id).1]?)∧(∀b,b<c.base→w'.heap[b]? = c.w.heap[b]?)∧c.w.heap.size≤w'.heap.size∧
   w'.os=c.w.os∧w'.tape=c.w.tape∧w'.output=c.w.output∧(Ext c Lo {c with w:=w'} Lo→VR {c with w:=w'} (un L0 Lo) x v)) (hx:∀k off,x≠.lp k off) :
  lI P L0 c0 n ds o s (s.set o.dst x):=by
 rintro a w K Q ⟨hn,c,Lo,lam,rfl,f,e⟩ hK
 obtain⟨w',v,hr,h1,h1l,h2,h3,h4,h5,h6,hv⟩:=h a c Lo lam f hn (lE e hb0)
 obtain⟨e',f'⟩:=f.world h1 h1l h2 h3 h4 h5 h6
 unfold Oper.wp
 rw [hr,Oper.upon_value]
 exact hK _ _ ⟨(jj _ _ _).trans hn,_,Lo,lam,rfl,f'.set (SR.of (hv e')) (fun t ht=>by rw [hn]; exact hd t ht),e.trans e'⟩
theorem Kj {c c':Cx}{Lo:Nat→Prop}(r:HRel c (un L0 Lo))(hβ:c'.β=c.β)(hh:c'.h=c.h):RO c' (un L0 Lo) c.w.heap.size:=by
 refine⟨fun id hl he=>?_,fun hL=>?_⟩
 ·rw [hh] at hl
  rw [hβ] at he
  have:=r.block hl; omega
 ·have:=r.bd _ hL; omega
theorem qe {c:Cx}{L:Nat→Prop}{t:TypeId}{len:Nat}{ps:List (Nat × AV)}{vs:List (Nat × Value)}{y:AV}(hp:xG c L ps vs)(h:jz P t len ps=some y) :
  (y = .fz [] 0 true∧∃e,(Instr.buildSlice t len vs.toArray).run P c.w = .ok (.slice (some ⟨c.w.heap.size,0,none⟩) 0 0) (c.w.alloc (.cells #[] e)))∨
  ∃cs C e,y = .fz cs len true∧(Instr.buildSlice t len vs.toArray).run P c.w = .ok (.slice (some ⟨c.w.heap.size,0,none⟩) len len) (c.w.alloc (.cells C e))∧VRs c L cs C.toList∧∀v∈C.toList,v.oneCell'=true:=by
 unfold jz at h
 rw [ae0] at h
 obtain⟨d,hd,h⟩:=h
 cases d<;>simp only at h<;>try (cases h; done)
 rename_i e
 rw [ae0] at h
 obtain⟨m,hm,h⟩:=h
 split at h
 ·cases h
 rename_i TI
 have xC:m≠0:=fun h=>TI (.inl h)
 have TJ:¬(len*m > 2 ^ 24):=fun h=>TI (.inr (by omega))
 split at h
 ·rename_i hl0
  subst hl0
  split at h
  ·rename_i TK
   cases h
   have WL:ps=[]:=by simpa using TK
   subst WL
   cases vs with
   | cons _ _=>exact hp.elim
   | nil=>
   refine .inl ⟨rfl,e,?_⟩
   unfold Instr.buildSlice
   simp only [Sem.run_bind,bS hd,fj hm,Result.andThen_ok,Nat.zero_mul,if_true,Sem.run_pure]
   have WK:∀f:Nat→Value,Array.map f (Array.range 0) = #[]:=fun f=>by simp
   simp only [Instr.fill,newRow,WK,Sem.run_bind,run_newObj,Result.andThen_ok,Sem.run_pure,World.alloc_eq]
   rfl
  ·cases h
 ·rename_i hl0
  rw [ae0] at h
  obtain⟨z,hz,h⟩:=h
  split at h
  rotate_left
  ·cases h
  rename_i JR
  rw [ae1] at h
  obtain⟨cs,hf,rfl⟩:=h
  obtain⟨zv,Kb,Fi⟩:=mh hz c.w
  obtain⟨EW,hz1⟩:=kQ (sg Fi) (oD (c:=c) (L:=L) Fi)
  have hz0:=uq EW len (len*m) (by rw [JR]; exact ae4 _) (by omega)
  rw [afA (by simp [JR])] at hz0
  have hz2:∀u∈((Array.range (len*m)).map (zv.cells[· % zv.cells.size]!)).toList,u.oneCell'=true:=by
   intro u hu
   simp only [Array.toList_map,afu] at hu
   obtain⟨j,hj,rfl⟩:=hu
   have wo:j % zv.cells.size<zv.cells.size:=Nat.mod_lt _ (by rw [←agc,←EW.length]; omega)
   rw [getElem!_pos zv.cells _ wo]
   exact hz1 _ (by simp)
  obtain⟨C',h1,h2,h3⟩:=oH _ hp hz0 hz2 hf
  refine .inr ⟨cs,C',e,rfl,?_,h2,h3⟩
  have hne:len*m≠0:=Nat.mul_ne_zero hl0 xC
  unfold Instr.buildSlice
  simp only [Sem.run_bind,bS hd,fj hm,Result.andThen_ok,TJ,hne,if_false,Sem.run_pure,Kb]
  rw [h1]
  simp [newRow]
theorem zt (hb0:c0.base≤c0.w.heap.size)(hd:jk n ds o){t:TypeId}{len:Nat}{ps:Array (Nat × Operand)}(ho:o.op = .buildSlice t len ps){y:AV}
  (h:jz P t len (ps.toList.map fun (i,x)=>(i,ck s.ρ x))=some y):lI P L0 c0 n ds o s (s.set o.dst y):=by
 refine xI hb0 hd (fun a c Lo lam f hn hbs=>?_) ?_
 ·have hp:=sX f ps.toList
  have hex:∀v w',(Instr.buildSlice t len (ps.toList.map fun (i,x)=>(i,a.eval x)).toArray).run P c.w = .ok v w'→(execOp a.eval o).run P c.w = .ok (.value v) w':=by
   intro v w' hr
   have he:ps.map (fun (i,x)=>(i,a.eval x))=(ps.toList.map fun (i,x)=>(i,a.eval x)).toArray:=by
    apply agH; simp
   simp only [execOp,ho,Sem.run_bind]
   rw [he,hr]
   rfl
  rcases qe hp h with⟨rfl,e,hr⟩| ⟨cs,C,e,rfl,hr,hv,h1⟩
  ·refine⟨_,_,hex _ _ hr,fun b hb=>.inl (alloc_old _ _ hb),fun id hl=>alloc_old _ _ (f.rel.block hl),fun b hb=>alloc_old _ _ (by omega),by simp,rfl,rfl,rfl,fun _=>by simp only [VR]; exact⟨_,_,rfl,ae4 _,fun _=>rfl,.inl rfl,.inl trivial⟩⟩
  ·refine⟨_,_,hex _ _ hr,fun b hb=>.inl (alloc_old _ _ hb),fun id hl=>alloc_old _ _ (f.rel.block hl),fun b hb=>alloc_old _ _ (by omega),by simp,rfl,rfl,rfl,fun e'=>?_⟩
   simp only [VR]
   exact⟨_,_,rfl,ae4 _,fun _=>rfl,.inl rfl,.inr ⟨c.w.heap.size,0,rfl,Kj f.rel rfl rfl,fun _=>hbs,mi (w1:=c.w) rfl (VRs.ext e' _ _ hv) (fun i _=>by simp) h1⟩⟩
 ·rintro k off rfl
  unfold jz at h
  rw [ae0] at h
  obtain⟨d,_,h⟩:=h
  cases d<;>simp only at h<;>try (cases h; done)
  rw [ae0] at h
  obtain⟨m,_,h⟩:=h
  split at h
  ·cases h
  ·split at h
   ·split at h<;>cases h
   ·rw [ae0] at h
    obtain⟨z,_,h⟩:=h
    split at h
    ·rw [ae1] at h
     obtain⟨_,_,h⟩:=h
     cases h
    ·cases h
theorem C6 {aS:List Nat}{t:TypeId}{y:AV}{cs:List AV}{k z:Nat}(h:sd P aS o t y=some (cs,k,z)):y = .fz cs k true∧cs.length=k*z∧cs≠[]:=by
 unfold sd at h
 split at h
 ·rename_i d c gF k' hd
  cases hc:aS.contains d with
  | false=>rw [hc] at h; cases h
  | true=>
   rw [hc] at h
   simp only [cond_true] at h
   split at h
   ·split at h
    ·rename_i z' hz
     cases hb:afN (c::gF).length (k'*z') with
     | false=>rw [hb] at h; cases h
     | true=>
      rw [hb] at h
      simp only [cond_true,ae2,ae9] at h
      obtain⟨rfl,rfl,rfl⟩:=h
      exact⟨rfl,agd hb,by simp⟩
    ·cases h
   ·cases h
 ·cases h
theorem xJ (hb0:c0.base≤c0.w.heap.size)(hd:jk n ds o){t:TypeId}{len:Nat}{ps:Array (Nat × Operand)}(ho:o.op = .buildSlice t len ps){y:AV}(aS:List Nat)
  (h:jz P t len (ps.toList.map fun (i,x)=>(i,ck s.ρ x))=some y):lI P L0 c0 n ds o s (uk P aS s o t y):=by
 have key:=zt (L0:=L0) hb0 hd ho h
 unfold uk
 cases Qt:sd P aS o t y with
 | none=>exact key
 | some q=>
 obtain⟨Wa,n1,z⟩:=q
 obtain⟨rfl,hlen,hne⟩:=C6 Qt
 have fin:=oF (P:=P) (L0:=L0) (c0:=c0) (o:=o) (s:=s) hb0 hd (ob:=.cells Wa) (x:=.rs s.h.next 0 n1 z) (fun a c Lo lam f hn=>by
  have hp:=sX f ps.toList
  have hex:∀v w',(Instr.buildSlice t len (ps.toList.map fun (i,x)=>(i,a.eval x)).toArray).run P c.w = .ok v w'→(execOp a.eval o).run P c.w = .ok (.value v) w':=by
   intro v w' hr
   have he:ps.map (fun (i,x)=>(i,a.eval x))=(ps.toList.map fun (i,x)=>(i,a.eval x)).toArray:=by
    apply agH; simp
   simp only [execOp,ho,Sem.run_bind]
   rw [he,hr]
   rfl
  rcases qe hp h with⟨he,_⟩| ⟨cs,C,e,he,hr,hv,h1⟩
  ·cases he; exact absurd rfl hne
  ·cases he
   have TL:C.size=Wa.length:=by rw [←agc,←hv.length]
   refine⟨_,_,hex _ _ hr,fun c' e' hw=>⟨_,oE (w1:=c.w) hw,by rw [TL,aft]; exact ae4 _,mi (w1:=c.w) hw (VRs.ext e' _ _ hv) (fun i _=>by simp) h1⟩,fun c' hh hw hβ=>?_⟩
   simp only [VR]
   refine .inr ⟨(by have:=f.rel.ver 0; rw [f.h] at this; omega),by rw [hh]; exact afL _,_,_,rfl,ae4 _,rfl,fun _=>.inl ?_⟩
   rw [hβ]
   refine⟨rfl,?_⟩
   simp only [Cx.len,World.shape?,hw,kC]
   simp only [ae6,af6,TL,hlen,aft]) (by rintro k off hh; cases hh)
 exact fin
theorem ur {c:Cx}{Lo:Nat→Prop}{lam:Nat→Nat}{a:Act}(f:Fr L0 c Lo lam ds s a){tx:TypeId}{size m:Nat}{x:AV}{v:Value}{new:List AV}(hx:SR c L0 Lo lam s.bx x v)
  (hk:(∃e',P.underlying tx=some (.slice e'))∨P.underlying tx=some .string) (GL:∀st,x = .str st→P.underlying tx=some .string) (Kk:(∀st,x≠.str st)→∃e',P.underlying tx=some (.slice e')) (h:fi s.h size x=some (new,m)) :
  ∃news,Src P size tx v m news c.w∧VRs c (un L0 Lo) new news:=by
 unfold fi at h
 cases x<;>simp only at h<;>try (cases h; done)
 ·rename_i st
  split at h
  ·rename_i h1
   subst h1
   cases h
   simp only [SR,VR] at hx
   subst hx
   refine⟨_,Src.ofString c.w (GL st rfl) st,?_⟩
   unfold byteCells
   generalize st.data.toList=l
   induction l with
   | nil=>trivial
   | cons b l ih=>exact⟨by simp [VR],ih⟩
  ·cases h
 ·cases h
  obtain⟨e',he⟩:=Kk (by rintro st h; cases h)
  simp only [SR,VR] at hx
  subst hx
  exact⟨[],Src.ofNil c.w he 0,trivial⟩
 ·rename_i cs k ex
  split at h
  ·rename_i hl
   cases h
   obtain⟨e',he⟩:=Kk (by rintro st h; cases h)
   simp only [SR,VR] at hx
   obtain⟨ad,cap,rfl,h1,h2,_,hc⟩:=hx
   rcases hc with rfl | ⟨b,o',rfl,hr,hex,hc⟩
   ·have hl0:m*size=0:=by simpa using hl.symm
    cases ad with
    | none=>
     refine⟨[],⟨.inl ⟨e',he⟩,fun _=>rfl,run_firstCells_none c.w size m m cap,run_firstCells_none c.w.drew size m m cap,by simpa using hl,fun _ h=>by cases h⟩,trivial⟩
    | some ad=>exact⟨[],Src.ofSlice c.w he ad m cap [] (by simpa using hl) (fun j u hu=>by simp at hu) (fun u hu=>by cases hu),trivial⟩
   ·obtain⟨vs,q1,q2,q3⟩:=hc.vals
    refine⟨vs,Src.ofSlice c.w he _ m cap vs (by rw [←q1.length]; exact hl) (fun j u hu=>?_) q3,q1⟩
    rw [addr_add,q2 j (by rw [q1.length]; exact (ae5.1 hu).1)]
    exact hu
  ·cases h
 ·rename_i id off k kA
  split at h
  ·rename_i hid
   split at h
   rotate_left
   ·cases h
   rename_i V9
   cases h
   obtain⟨e',he⟩:=Kk (by rintro st h; cases h)
   simp only [SR,VR] at hx
   rcases hx with⟨_,_,_,a,rfl⟩| ⟨_,_,a,cap,rfl,_,h2,_⟩
   rotate_left
   ·cases a with
    | none=>cases h2
    | some ad=>subst V9; exact⟨[],Src.ofSlice c.w he ad 0 cap [] (by simp) (fun j u hu=>by simp at hu) (fun u hu=>by cases hu),trivial⟩
   cases a with
   | none=>exact⟨[],Src.ofNil c.w he 0,trivial⟩
   | some ad=>exact⟨[],Src.ofSlice c.w he ad 0 0 [] (by simp) (fun j u hu=>by simp at hu) (fun u hu=>by cases hu),trivial⟩
  rename_i mT
  rw [ae0] at h
  obtain⟨ob,hob,h⟩:=h
  cases ob with
  | map es=>cases h
  | row t cs=>cases h
  | cells cs=>
  simp only at h
  split at h
  ·rename_i hh
   obtain⟨rfl,hle⟩:=hh
   cases h
   obtain⟨e',he⟩:=Kk (by rintro st h; cases h)
   simp only [SR,VR] at hx
   rcases hx with hx | ⟨_,hid,ad,cap,rfl,h1,h2,h3⟩
   ·exact absurd (.inl hx.1) mT
   rw [←f.h] at hob
   have hl:Live c.h id:=⟨f.rel.lt _ _ hob,by simp [hob]⟩
   obtain⟨q,hp,hm,hc⟩:=f.rel.obj _ _ hob
   have hc2:=(hc.drop off).take (m*kA)
   have hlen:((cs.drop off).take (m*kA)).length=m*kA:=by simp; omega
   obtain⟨vs,q1,q2,q3⟩:=hc2.vals
   rcases h3 hl with⟨h5,h4⟩| hcap
   ·subst h5
    refine⟨vs,Src.ofSlice c.w he _ m cap vs (by rw [←q1.length]; exact hlen) (fun j u hu=>?_) q3,q1⟩
    rw [addr_add,q2 j (by rw [q1.length]; exact (ae5.1 hu).1)]
    exact hu
   ·have xC:m=0:=by omega
    subst xC
    simp only [Nat.zero_mul,List.take_zero] at q1 ⊢
    cases ad with
    | none=>simp at h2
    | some ad=>exact⟨[],Src.ofSlice c.w he ad 0 cap [] (by simp) (fun j u hu=>by simp at hu) (fun u hu=>by cases hu),trivial⟩
  ·cases h
end
end Go.R
namespace Go.R
open Go
section
variable {P:Program}{L0:Nat→Prop}{c0:Cx}{n:Nat}{ds:List Nat}{o:Oper}{s:RS}
theorem grownCap_ge (w:World){need old:Nat}{e:TypeId}:need≤grownCap w need old e:=by
 unfold grownCap
 simp only [Question.cut]
 omega
theorem xK (z:Array Value)(k:Nat):(Builtin.zeroCells z k).size=k*z.size:=by simp [Builtin.zeroCells]
theorem kj (w:World){t tx ty e:TypeId}{i:TypeInfo}(ht:P.underlying t=some (.slice e))(hi:P.info? e=some i){base:Option Addr}{len cap:Nat}(hlc:len≤cap){x:Value}{news:List Value}(hs:Src P i.size tx x 0 news w) :
  (Builtin.append_ #[t,tx] ty #[.slice base len cap,x]).run P w = .ok (.slice base len cap) w:=by
 have TM:news=[]:=afG (by rw [hs.newsLen]; simp)
 have hc:=hs.cells
 rw [TM] at hc
 rcases hs.kind with⟨e',hk⟩| hk<;>cases base<;>simp [Builtin.append_,run_underlying ht,run_underlying hk,sizeOf,typeInfo,hi,hs.len,hlc,hc,storeCells]
theorem Bf {c:Cx}{b m:Nat}(hp:Plain c b m){j:Nat}(hj:j<m):c.w.frozen? ⟨b,j,none⟩=false:=by
 obtain⟨C,e,lo,hi,hb,hf,rfl⟩:=hp
 simp only [World.frozen?,hb]
 rcases hf with hf | hf
 ·subst hf; simp
 ·simp; omega
theorem Fr.grown {c:Cx}{Lo:Nat→Prop}{lam:Nat→Nat}{a:Act}(f:Fr L0 c Lo lam ds s a)(hbs:c.base≤c.w.heap.size){e:TypeId}{z:Value}{size need cap:Nat}(JS:z.cells.size=size)(hcap:need≤cap){xs:List AV}{vs:List Value}(hv:VRs c (un L0 Lo) xs vs)(h1:∀v∈vs,v.oneCell'=true)
  (hl:vs.length=need*size) (h':AHeap) (hg:h'.get c.h.next=some (.cells xs)) (hst:Steady c.h h') (hn:c.h.next<h'.next) (ho:∀id,id≠c.h.next→h'.get id=none∨h'.get id=c.h.get id) :
  ∃c':Cx,c'.w=c.w.drew.alloc (.cells (vs.toArray++Builtin.zeroCells z.cells (cap - need)) e)∧c'.h=h'∧Ext c Lo c' Lo∧Fr L0 c' Lo lam ds {s with h:=h'} a∧VR c' (un L0 Lo) (.rs c.h.next 0 need size) (.slice (some ⟨c.w.heap.size,0,none⟩) need cap):=by
 have TL:(vs.toArray++Builtin.zeroCells z.cells (cap - need)).size=cap*size:=by
  rw [Array.size_append,xK,JS,List.size_toArray,hl,←ags]
  congr 1; omega
 have hxl:=hv.length
 obtain⟨β',e',f',hβ,hlive⟩:=f.Kg hbs c.w.drew ⟨rfl,rfl,rfl,rfl⟩ (.cells xs) (.cells (vs.toArray++Builtin.zeroCells z.cells (cap - need)) e) h' hg hst hn ho (fun c' e' hw=>by
  refine⟨_,oE (w1:=c.w.drew) hw,?_,mi (w1:=c.w.drew) hw (VRs.ext e' _ _ hv) (fun i hi=>?_) h1⟩
  ·rw [TL,aft,hxl,hl]; exact af2 _ hcap
  ·rw [Array.getElem?_append_left (by simpa using hi)]; simp)
 refine⟨_,rfl,rfl,e',f',?_⟩
 simp only [VR]
 refine .inr ⟨(by have:=f.rel.ver 0; omega),hlive.1,_,_,rfl,hcap,rfl,fun _=>.inl ?_⟩
 rw [hβ]
 refine⟨rfl,?_⟩
 have:(c.w.drew.alloc (.cells (vs.toArray++Builtin.zeroCells z.cells (cap - need)) e)).heap[c.w.heap.size]? = some (.cells (vs.toArray++Builtin.zeroCells z.cells (cap - need)) e):=kC c.w.drew _
 simp only [Cx.len,World.shape?,this,ae6,af6,TL]
 omega
theorem IK (hb0:c0.base≤c0.w.heap.size)(hd:jk n ds o){t t2:TypeId}{sx xx:Operand}(ho:o.op = .call {callee:=.builtin .append,args:=#[sx,xx],argTypes:=#[t,t2]}){s':RS}
  (h:((dM P s.h t t2 (ck s.ρ sx) (ck s.ρ xx)).map fun (v,h)=>{s with h}.set o.dst v)=some s'):lI P L0 c0 n ds o s s':=by
 rw [ae1] at h
 obtain⟨⟨y,h'⟩,ha,rfl⟩:=h
 unfold dM at ha
 rw [ae0] at ha
 obtain⟨d,Ki,ha⟩:=ha
 cases d<;>simp only at ha<;>try (cases ha; done)
 rename_i e
 rw [ae0] at ha
 obtain⟨i,hi,ha⟩:=ha
 rw [ae0] at ha
 obtain⟨⟨new,m⟩,Qu,ha⟩:=ha
 simp only at ha
 obtain⟨Qv,hcs,hnew⟩:∃Qv,fi s.h i.size (ck s.ρ xx)=some (Qv,m)∧new=Qv.map mo:=by
  unfold eY at Qu
  rw [ae1] at Qu
  obtain⟨⟨p,q⟩,h1,h2⟩:=Qu
  simp only [ae9] at h2
  obtain⟨rfl,rfl⟩:=h2
  exact⟨p,h1,rfl⟩
 split at ha
 ·cases ha
 rename_i lJ
 have hsz0:i.size≠0:=fun h=>lJ (.inl h)
 have iD:kB P t2 (ck s.ρ xx)=true:=by
  cases hq:kB P t2 (ck s.ρ xx) with
  | true=>rfl
  | false=>exact absurd (.inr (.inl hq)) lJ
 obtain⟨zv,z,EW,Fi,JR⟩:∃zv z,i.zero=some zv∧J3 zv=some z∧z.cells.length=i.size:=by
  have hz:Pv i=true:=by
   cases hq:Pv i with
   | true=>rfl
   | false=>exact absurd (.inr (.inr hq)) lJ
  unfold Pv at hz
  cases hq:i.zero.bind J3 with
  | none=>rw [hq] at hz; cases hz
  | some z=>
   rw [hq] at hz
   obtain⟨zv,h1,h2⟩:=ae0.1 hq
   exact⟨zv,z,h1,h2,by simpa using hz⟩
 have JS:∀c L,zv.cells.size=i.size:=fun (c:Cx) (L:Nat→Prop)=>by
  have:=(kQ (sg Fi) (oD (c:=c) (L:=L) Fi)).1.length
  rw [JR] at this
  simpa using this.symm
 have C1:(∃e',P.underlying t2=some (.slice e'))∨P.underlying t2=some .string:=by
  unfold kB at iD
  split at iD
  ·right; revert iD; split<;>simp_all
  ·left; revert iD; split<;>simp_all
 have GL:∀st,ck s.ρ xx = .str st→P.underlying t2=some .string:=by
  intro st he
  rw [he] at iD
  simp only [kB] at iD
  revert iD; split<;>simp_all
 have Kk:(∀st,ck s.ρ xx≠.str st)→∃e',P.underlying t2=some (.slice e'):=by
  intro hne
  unfold kB at iD
  split at iD
  ·rename_i st he; exact absurd he (hne st)
  ·revert iD; split<;>simp_all
 rintro a w K Q ⟨hn,c,Lo,lam,rfl,f,e0⟩ hK
 have hbs:=lE e0 hb0
 obtain⟨news,hS,Pz⟩:=ur (P:=P) f (b6 f xx) C1 GL Kk hcs
 replace Pz:VRs c (un L0 Lo) new news:=hnew ▸ xA Pz
 have hex:∀v w',(Builtin.append_ #[t,t2] o.type #[a.eval sx,a.eval xx]).run P c.w = .ok v w'→(execOp a.eval o).run P c.w = .ok (.value v) w':=by
  intro v w' hr
  unfold execOp
  simp only [ho,resolve,invoke,builtin,Sem.run_bind,Sem.run_pure,Result.andThen_ok,List.map_toArray,afs,agt,hr]
 have fin:∀c' v,(Builtin.append_ #[t,t2] o.type #[a.eval sx,a.eval xx]).run P c.w = .ok v c'.w→Ext c Lo c' Lo→Fr L0 c' Lo lam ds {s with h:=h'} a→VR c' (un L0 Lo) y v→o.wp P a c.w K Q:=by
  intro c' v hr e' f' hv
  unfold Oper.wp
  rw [hex v _ hr,Oper.upon_value]
  exact hK _ _ ⟨(jj _ _ _).trans hn,c',Lo,lam,rfl,f'.set (SR.of hv) (fun t ht=>by rw [hn]; exact hd t ht),e0.trans e'⟩
 have GM:=b6 f sx
 have h63:∀k:Nat,k≤ia→(k:Int)≤9223372036854775807:=fun k hk=>by simp only [ia] at hk; omega
 have hfit:∀need old,old<need→need*i.bytes≤ia→Builtin.nextslicecap need old*i.bytes≤281474976710656:=fun need old h1 h2=>growslice_fits h1 (by simp only [ia] at h2; omega)
 have hnl:=Pz.length
 have hone:=hS.one
 have C7:=hS.newsLen
 cases hq:ck s.ρ sx with
 | nils=>
  rw [hq] at ha GM
  simp only [SR,VR] at GM
  obtain⟨ad,EU,aco⟩:∃ad:Option Addr,a.eval sx = .slice ad 0 0∧ad=none:=⟨none,GM,rfl⟩
  simp only at ha
  split at ha
  ·cases ha
  rename_i hroom
  split at ha
  ·rename_i xC
   subst xC
   cases ha
   refine fin c (.slice ad 0 0) ?_ (Ext.refl _ _) f (by simp only [VR]; exact .inl ⟨trivial,trivial,trivial,ad,rfl⟩)
   rw [EU]
   exact kj c.w Ki hi (ae4 _) hS
  ·rename_i xC
   cases ha
   have hold:(Builtin.firstCells i.size 0 (.slice ad 0 0)).run P c.w.drew = .ok ([]:List Value).toArray c.w.drew:=by
    cases ad with
    | none=>exact run_firstCells_none _ _ _ _ _
    | some ad=>exact run_firstCells_some _ _ _ _ _ _ [] (by simp) (fun j v hj=>by simp at hj)
   have hr:=run_append_grow_src c.w t t2 o.type e i zv Ki hi EW ad 0 0 [] hold (a.eval xx) m news hS (by omega) (by rw [aft]; exact h63 _ (by omega)) (hfit _ _ (by omega) (by rw [aft]; omega))
   simp only [aft,afz] at hr
   obtain⟨c',hw,hh,e',f',hv⟩:=f.grown hbs (e:=e) (JS c L0) (grownCap_ge c.w (need:=m) (old:=0) (e:=e)) Pz hone C7 (s.h.alloc (.cells new)) (by rw [f.h]; simp [AHeap.alloc,AHeap.put,beq_nat]) (by rw [f.h]; exact Steady.put _ _ _) (by rw [f.h]; exact afL _) (fun id hne=>.inr (by rw [f.h] at hne ⊢; simp [AHeap.alloc,AHeap.put,beq_nat,hne]))
   refine fin c' _ ?_ e' f' (by rw [←f.h]; exact hv)
   rw [EU,hw]
   exact hr
 | fz cs len ex=>
  rw [hq] at ha GM
  cases ex with
  | false=>simp only at ha; cases ha
  | true=>
  simp only [SR,VR] at GM
  obtain⟨ad,cap,EU,h1,h2,uf,hc⟩:=GM
  have hcap:=h2 trivial
  subst hcap
  simp only at ha
  split at ha
  ·cases ha
  rename_i hroom
  split at ha
  ·rename_i xC
   subst xC
   refine fin c (.slice ad cap cap) ?_ (Ext.refl _ _) (by split at ha<;>cases ha<;>exact f) ?_
   ·rw [EU]
    exact kj c.w Ki hi (ae4 _) hS
   ·split at ha
    ·rename_i hz
     cases ha
     subst hz
     simp only [VR]
     exact .inl ⟨trivial,trivial,trivial,ad,rfl⟩
    ·cases ha
     simp only [VR]
     exact⟨ad,cap,rfl,h1,h2,uf,hc⟩
  ·rename_i xC
   cases ha
   have hcl:cs.length=cap*i.size:=by
    by_cases h3:cs.length=cap*i.size
    ·exact h3
    ·exact absurd (.inr (.inr h3)) hroom
   obtain⟨xL,SP,WM,PA⟩:∃xL:List Value,VRs c (un L0 Lo) cs xL∧(Builtin.firstCells i.size cap (.slice ad cap cap)).run P c.w.drew = .ok xL.toArray c.w.drew∧∀v∈xL,v.oneCell'=true:=by
    rcases hc with rfl | ⟨b,o',rfl,hr,acp,hc⟩
    ·refine⟨[],trivial,?_,fun _ h=>by cases h⟩
     cases ad with
     | none=>exact run_firstCells_none _ _ _ _ _
     | some ad=>exact run_firstCells_some _ _ _ _ _ _ [] (by simpa using hcl) (fun j v hj=>by simp at hj)
    ·obtain⟨vs,q1,q2,q3⟩:=hc.vals
     refine⟨vs,q1,run_firstCells_some _ _ _ _ _ _ vs (by rw [←q1.length]; exact hcl) (fun j v hj=>?_),q3⟩
     rw [World.cell?_drew,addr_add,q2 j (by rw [q1.length]; exact (ae5.1 hj).1)]
     exact hj
   have NY:=SP.length
   have hr:=run_append_grow_src c.w t t2 o.type e i zv Ki hi EW ad cap cap xL WM (a.eval xx) m news hS (by omega) (h63 _ (by omega)) (hfit _ _ (by omega) (by omega))
   obtain⟨c',hw,hh,e',f',hv⟩:=f.grown hbs (e:=e) (JS c L0) (grownCap_ge c.w (need:=cap+m) (old:=cap) (e:=e)) (VRs.append SP Pz) (fun v hv=>(afk.1 hv).elim (PA v) (hone v)) (by rw [afb,C7,←NY,hcl,ags]) (s.h.alloc (.cells (cs++new))) (by rw [f.h]; simp [AHeap.alloc,AHeap.put,beq_nat]) (by rw [f.h]; exact Steady.put _ _ _) (by rw [f.h]; exact afL _) (fun id hne=>.inr (by rw [f.h] at hne ⊢; simp [AHeap.alloc,AHeap.put,beq_nat,hne]))
   refine fin c' _ ?_ e' f' (by rw [←f.h]; exact hv)
   rw [EU,hw]
   exact hr
 | rs id off len kA=>
  rw [hq] at ha GM
  simp only [SR,VR] at GM
  simp only at ha
  split at ha
  ·rename_i hid
   rcases GM with⟨_,hoff,TN,ad,EU⟩| GM
   rotate_left
   ·exact absurd hid GM.1
   split at ha
   ·cases ha
   rename_i hroom
   split at ha
   ·rename_i xC
    subst xC
    cases ha
    refine fin c (.slice ad 0 0) ?_ (Ext.refl _ _) f (by simp only [VR]; exact .inl ⟨hid,hoff,TN,ad,rfl⟩)
    rw [EU]
    exact kj c.w Ki hi (ae4 _) hS
   ·rename_i xC
    cases ha
    have hold:(Builtin.firstCells i.size 0 (.slice ad 0 0)).run P c.w.drew = .ok ([]:List Value).toArray c.w.drew:=by
     cases ad with
     | none=>exact run_firstCells_none _ _ _ _ _
     | some ad=>exact run_firstCells_some _ _ _ _ _ _ [] (by simp) (fun j v hj=>by simp at hj)
    have hr:=run_append_grow_src c.w t t2 o.type e i zv Ki hi EW ad 0 0 [] hold (a.eval xx) m news hS (by omega) (by rw [aft]; exact h63 _ (by omega)) (hfit _ _ (by omega) (by rw [aft]; omega))
    simp only [aft,afz] at hr
    obtain⟨c',hw,hh,e',f',hv⟩:=f.grown hbs (e:=e) (JS c L0) (grownCap_ge c.w (need:=m) (old:=0) (e:=e)) Pz hone C7 (s.h.alloc (.cells new)) (by rw [f.h]; simp [AHeap.alloc,AHeap.put,beq_nat]) (by rw [f.h]; exact Steady.put _ _ _) (by rw [f.h]; exact afL _) (fun id hne=>.inr (by rw [f.h] at hne ⊢; simp [AHeap.alloc,AHeap.put,beq_nat,hne]))
    refine fin c' _ ?_ e' f' (by rw [←f.h]; exact hv)
    rw [EU,hw]
    exact hr
  rename_i mT
  rcases GM with GM | ⟨_,hid,ad,cap,EU,h1,h2,h3⟩
  ·exact absurd GM.1 mT
  simp only [ae0] at ha
  obtain⟨ob,hob,ha⟩:=ha
  cases ob with
  | map es=>cases ha
  | row t cs=>cases ha
  | cells cs=>
  simp only at ha
  split at ha
  ·cases ha
  rename_i hroom
  have zh:kA=i.size:=Decidable.byContradiction fun h=>hroom (.inl h)
  subst zh
  have hle:off+len*i.size≤cs.length:=Decidable.byContradiction fun h=>hroom (.inr (.inl (by omega)))
  rw [←f.h] at hob
  have hl:Live c.h id:=⟨f.rel.lt _ _ hob,by simp [hob]⟩
  obtain⟨q,hp,hm,hc⟩:=f.rel.obj _ _ hob
  split at ha
  ·rename_i xC
   subst xC
   cases ha
   refine fin c (.slice ad len cap) ?_ (Ext.refl _ _) f ?_
   ·rw [EU]
    exact kj c.w Ki hi h1 hS
   ·simp only [VR]
    exact .inr ⟨mT,hid,ad,cap,rfl,h1,h2,h3⟩
  ·rename_i xC
   cases ha
   have hc2:=(hc.drop off).take (len*i.size)
   have GN:((cs.drop off).take (len*i.size)).length=len*i.size:=by simp; omega
   obtain⟨xL,SP,hoc,PA⟩:=hc2.vals
   have NY:=SP.length
   have hget:((s.h.kill id).put s.h.next (.cells ((cs.drop off).take (len*i.size)++new))).get c.h.next=some (.cells ((cs.drop off).take (len*i.size)++new)):=by rw [f.h]; simp [AHeap.put,beq_nat]
   have hnx:c.h.next<((s.h.kill id).put s.h.next (.cells ((cs.drop off).take (len*i.size)++new))).next:=by rw [f.h]; simp only [AHeap.put,AHeap.kill]; omega
   have hoth:∀nu,nu≠c.h.next→((s.h.kill id).put s.h.next (.cells ((cs.drop off).take (len*i.size)++new))).get nu=none∨((s.h.kill id).put s.h.next (.cells ((cs.drop off).take (len*i.size)++new))).get nu=c.h.get nu:=by
    intro nu hne
    rw [f.h] at hne ⊢
    by_cases h4:nu=id
    ·left; simp [AHeap.put,AHeap.kill,beq_nat,hne,h4]; rw [←h4]; simp [hne]
    ·right; simp [AHeap.put,AHeap.kill,beq_nat,hne,h4]
   by_cases Kl:len+m≤cap
   ·
    rcases h3 hl with⟨h4,h5⟩| h4
    rotate_left
    ·omega
    subst h4
    have TO:c.len (c.β id).1=q:=by
     obtain⟨C,e',hb,zj⟩:=hp
     simp [Cx.len,World.shape?,hb,zj]
    rw [TO] at h5
    have TP:(len+m)*i.size≤cap*i.size:=af2 _ Kl
    rw [ags] at TP
    have TQ:=hp
    obtain⟨C,e',hb,zj⟩:=hp
    have hr:=run_append_room_src c.w t t2 o.type e i Ki hi (c.β id).1 ((c.β id).2+off) len cap (a.eval xx) m news hS Kl
     (fun j hj=>by
      rw [cell_of_block hb]
      have:(c.β id).2+off+len*i.size+j<C.size:=by omega
      simp [this])
     (fun j hj=>Bf TQ.nb (by omega))
    have CL:kq c (c.β id).1 q:=TQ
    obtain⟨q1,q2,q3,q4⟩:=jo news (c.β id).1 ((c.β id).2+off+len*i.size) c.w
    obtain⟨C',g1,g2,g3⟩:=ib news (c.β id).1 ((c.β id).2+off+len*i.size) c.w C e' (0,0) hb (by omega)
    have:=f.upd (w':=c.w.setCells (c.β id).1 ((c.β id).2+off+len*i.size) news) (β':=fun k=>if k=c.h.next then ((c.β id).1,(c.β id).2+off) else c.β k) (h':=(s.h.kill id).put s.h.next (.cells ((cs.drop off).take (len*i.size)++new))) c.h.next (.cells ((cs.drop off).take (len*i.size)++new))
     (by rw [f.h]; exact (Steady.kill _ _).trans (Steady.put _ _ _)) hnx hget (fun nu hne=>(hoth nu hne).imp (fun h=>h) (fun h=>⟨h,by simp [hne]⟩)) (fun h=>absurd h (Nat.lt_irrefl _))
     (.inr ⟨id,hl,by simp,.inr (by
      have:id≠s.h.next:=by rw [←f.h]; have:=hl.1; omega
      simp [AHeap.put,AHeap.kill,beq_nat,this])⟩)
     (fun _=>by simp [World.shape?,g1,Cx.len,hb,g2])
     (fun b _ hne=>fk _ _ _ _ _ (by simpa using hne)) (fun b _ hne=>fk _ _ _ _ _ (by simpa using hne)) (by rw [q1]; exact ae4 _) hbs q2 q3 q4
     (fun ee=>by
      simp only [if_true]
      refine⟨q,CL.setCells (by omega) _ _ _,?_,?_⟩
      ·rw [afb,GN,hnl,C7]; omega
      ·refine Cells.of_vals (VRs.append (VRs.ext ee _ _ SP) (VRs.ext ee _ _ Pz)) (fun j hj=>?_) (fun v hv=>(afk.1 hv).elim (PA v) (hone v))
       rw [cell_of_block g1,g3]
       rw [afb] at hj
       by_cases h6:j<xL.length
       ·rw [if_neg (by omega),←cell_of_block hb,afm h6]
        exact hoc j (by omega)
       ·rw [if_pos (by omega),afg (by omega)]
        congr 1
        omega)
    obtain⟨Qw,f''⟩:=this
    refine fin _ (.slice (some ⟨(c.β id).1,(c.β id).2+off,none⟩) (len+m) cap) ?_ Qw f'' ?_
    ·rw [EU]; exact hr
    ·simp only [VR,←f.h]
     refine .inr ⟨(by have:=f.rel.ver 0; omega),by rw [←f.h] at hnx; exact hnx,_,_,rfl,Kl,rfl,fun _=>.inl ?_⟩
     simp only [if_true,agz,true_and]
     simp only [Cx.len,World.shape?,g1,ae6,af6,g2]
     omega
   ·
    obtain⟨WM⟩:Nonempty ((Builtin.firstCells i.size len (.slice ad len cap)).run P c.w.drew = .ok xL.toArray c.w.drew):=by
     rcases h3 hl with⟨h4,h5⟩| h4
     ·subst h4
      refine⟨run_firstCells_some _ _ _ _ _ _ xL (by rw [←NY,GN]) (fun j v hj=>?_)⟩
      rw [World.cell?_drew,addr_add,hoc j (by rw [NY]; exact (ae5.1 hj).1)]
      exact hj
     ·have hz:len=0:=by omega
      subst hz
      have:xL=[]:=afG (by rw [←NY,GN]; simp)
      subst this
      cases ad with
      | none=>exact⟨run_firstCells_none _ _ _ _ _⟩
      | some ad=>exact⟨run_firstCells_some _ _ _ _ _ _ [] (by simp) (fun j v hj=>by simp at hj)⟩
    have hr:=run_append_grow_src c.w t t2 o.type e i zv Ki hi EW ad len cap xL WM (a.eval xx) m news hS (by omega) (h63 _ (by omega)) (hfit _ _ (by omega) (by omega))
    obtain⟨c',hw,hh,e',f',hv⟩:=f.grown hbs (e:=e) (JS c L0) (grownCap_ge c.w (need:=len+m) (old:=cap) (e:=e)) (VRs.append SP Pz) (fun v hv=>(afk.1 hv).elim (PA v) (hone v)) (by rw [afb,C7,←NY,GN,ags]) _ hget (by rw [f.h]; exact (Steady.kill _ _).trans (Steady.put _ _ _)) hnx hoth
    refine fin c' _ ?_ e' f' (by rw [←f.h]; exact hv)
    rw [EU,hw]
    exact hr
 | _=>rw [hq] at ha; simp only at ha; cases ha
end
end Go.R
