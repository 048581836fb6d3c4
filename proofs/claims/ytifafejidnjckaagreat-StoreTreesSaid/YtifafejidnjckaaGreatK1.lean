/- Part of the proof: ROps3, RMem, ROps4, RNew, RApp, RApp2, RApp3. -/
import Derived.Test.YtifafejidnjckaaGreatK0
import Derived.MapKept
import Derived.Laws.Slices
import Derived.Laws.IdiomCopy
import Derived.Deep.AppendSrc
import Derived.IntWalk
set_option linter.unusedVariables false
set_option linter.unusedSimpArgs false
set_option maxRecDepth 100000
open Array renaming getElem?_eq_some_iff → abj, getElem?_setIfInBounds → abJ, length_toList → abP, getElem?_modify → abS, ext' → acg
open Bool renaming and_eq_true → aaK, false_eq_true → aaU, or_eq_true → abw
open List renaming getElem?_eq_some_iff → aaM, mem_of_getElem? → aaP, length_append → aaR, length_cons → aaW, getElem?_append_left → aaX, getElem?_append_right → aaZ, all_eq_true → aa1, map_cons → aa3, mem_cons → aa6, mem_append → abb, getElem?_map → abd, mem_map → abf, take_of_length_le → abo, nil_append → abr, eq_nil_of_length_eq_zero → abt, all_cons → abu, map_nil → acf
open Nat renaming le_refl → aaN, zero_add → aa7, lt_of_lt_of_le → aa9, beq → abq, lt_succ_self → aby, le_trans → abB, mul_le_mul_right → abE, add_assoc → abI, eq_of_beq_eq_true → abR, add_mul → abW, add_right_comm → ab4, add_zero → ab5, ble → ab7, add_comm → ace
open Option renaming bind_eq_some_iff → aaH, map_eq_some_iff → aaI, map_some → aaO, isSome_iff_exists → abk, getD_some → abG
open Option.some renaming injEq → aaJ
open Prod.mk renaming injEq → aaQ
namespace Go.R
open Go
section
variable {P:Program}{L0:Nat→Prop}{c0:Cx}{n:Nat}{ds:List Nat}{o:Oper}{s:RS}
theorem wW (a b:ByteArray):(a==b)=(a.data.toList==b.data.toList):=by
 cases a with | mk x=>cases b with | mk y=>
 show (x==y)=(x.toList==y.toList)
 rw [Bool.eq_iff_iff]
 simp [Array.toList_inj]
def place (k:AV):List (AV × AV)→List MapEntry→Nat→Option (Nat × Value)
 | (k',_)::es,m::ms,i=>if fL k k' then some (i,m.val) else place k es ms (i+1)
 | _,_,_=>none
theorem lQ {c:Cx}{L:Nat→Prop}{d:TypeDesc}{k:AV}{kv:Value}(hd:(∃q,d = .int q)∨d = .string)(hk:k.gT=some kv)(zN:(∃q a,k = .int q a)∨∃b,k = .str b) :
  ∀(es:List (AV × AV)) (ms:List MapEntry) (i:Nat),ma c L es ms→iK k es≠none→(∀q a,k = .int q a→∃q',d = .int q')→(∀b,k = .str b→d = .string)→Instr.findNow d kv ms i=some (place k es ms i)
 | [],[],i,_,_,_,_=>rfl
 | (k',v)::es,m::ms,i,he,hf,h1,h2=>by
  simp only [iK] at hf
  have hs:sameShape k k'=true:=by
   by_cases hs:sameShape k k'=true
   ·exact hs
   ·simp [hs] at hf
  simp only [hs,if_true] at hf
  obtain⟨⟨GQ,_⟩,Dr,wj⟩:=he
  have Sf:Instr.sameNow d kv m.key=some (fL k k'):=by
   rcases zN with⟨q,a,rfl⟩| ⟨b,rfl⟩
   ·obtain⟨q',rfl⟩:=h1 q a rfl
    cases k'<;>simp only [sameShape] at hs<;>try (cases hs; done)
    rename_i q2 a2
    simp only [beq_iff_eq] at hs
    subst hs
    simp only [VR] at GQ
    simp only [AV.gT,aaJ] at hk
    subst hk
    rw [GQ]
    simp [Instr.sameNow,fL,iY]
   ·have:=h2 b rfl
    subst this
    cases k' with
    | str b2=>
     simp only [VR] at GQ
     simp only [AV.gT,aaJ] at hk
     subst hk
     rw [GQ]
     simp only [Instr.sameNow,fL,iY,aaJ]
     exact wW b b2
    | _=>cases hs
  simp only [Instr.findNow,Sf]
  cases hq:fL k k' with
  | true=>simp [place,hq]
  | false=>
   simp only [hq,aaU,if_false] at hf
   simp only [place,hq,aaU,if_false]
   exact lQ hd hk zN es ms (i+1) wj hf h1 h2
 | [],_::_,_,h,_,_,_=>h.elim
 | _::_,[],_,h,_,_,_=>h.elim
theorem jE {c:Cx}{L:Nat→Prop}{kt:TypeId}{k:AV}{kv:Value}(hk:gu P kt k=true)(zO:VR c L k kv)(w:World) :
  ∀(es:List (AV × AV)) (ms:List MapEntry) (i:Nat),ma c L es ms→iK k es≠none→(Instr.findAsking kt kv ms i).run P w = .ok (place k es ms i) w
 | [],[],i,_,_=>rfl
 | (k',v)::es,m::ms,i,he,hf=>by
  simp only [iK] at hf
  have hs:sameShape k k'=true:=by
   by_cases hs:sameShape k k'=true
   ·exact hs
   ·simp [hs] at hf
  simp only [hs,if_true] at hf
  obtain⟨⟨GQ,_⟩,Dr,wj⟩:=he
  have hq:=wV (P:=P) 9998 hk hs zO GQ w
  simp only [Instr.findAsking,Op.equal,Op.maxDepth,Sem.run_bind,hq,Result.andThen_ok]
  cases h:fL k k' with
  | true=>simp [place,h]
  | false=>
   simp only [h,aaU,if_false] at hf
   simp only [place,h,aaU,if_false]
   exact jE hk zO w es ms (i+1) wj hf
 | [],_::_,_,h,_=>h.elim
 | _::_,[],_,h,_=>h.elim
theorem wX {c:Cx}{L:Nat→Prop}{kt:TypeId}{k:AV}{kv:Value}(hk:gu P kt k=true)(zO:VR c L k kv)(w:World){es:List (AV × AV)}{ms:List MapEntry}(he:ma c L es ms)(hf:iK k es≠none) :
  (Instr.findKey kt kv ms).run P w = .ok (place k es ms 0) w:=by
 have Rx:=hk
 cases hd:P.underlying kt with
 | none=>simp [gu,hd] at hk
 | some d=>
 cases d<;>simp only [gu,hd] at hk<;>try (cases hk; done)
 ·rename_i q
  cases k<;>simp only at hk<;>try (cases hk; done)
  rename_i q2 a
  have hc:(AV.int q2 a).gT=some kv:=by simp only [VR] at zO; simp [AV.gT,zO]
  exact MapKept.run_findKey hd (lQ (.inl ⟨q,rfl⟩) hc (.inl ⟨_,_,rfl⟩) es ms 0 he hf (fun _ _ _=>⟨q,rfl⟩) (fun b hb=>by cases hb))
 ·cases k<;>simp only at hk<;>try (cases hk; done)
  rename_i b
  have hc:(AV.str b).gT=some kv:=by simp only [VR] at zO; simp [AV.gT,zO]
  exact MapKept.run_findKey hd (lQ (.inr rfl) hc (.inr ⟨_,rfl⟩) es ms 0 he hf (fun _ _ h=>by cases h) (fun b hb=>rfl))
 ·rw [run_findKey_eq w (by simp [hd])]
  exact jE Rx zO w es ms 0 he hf
 ·rw [run_findKey_eq w (by simp [hd])]
  exact jE Rx zO w es ms 0 he hf
theorem sk {c:Cx}{L:Nat→Prop}{k:AV}:∀(es:List (AV × AV)) (ms:List MapEntry) (i:Nat),ma c L es ms→(iK k es=some none→place k es ms i=none)∧(∀v,iK k es=some (some v)→∃j u,place k es ms i=some (j,u)∧VR c L v u)
 | [],[],i,_=>⟨fun _=>rfl,fun v h=>by simp [iK] at h⟩
 | (k',v)::es,m::ms,i,he=>by
  obtain⟨⟨GQ,_⟩,Dr,wj⟩:=he
  obtain⟨h1,h2⟩:=sk es ms (i+1) wj
  simp only [iK,place]
  by_cases hs:sameShape k k'=true
  ·simp only [hs,if_true]
   by_cases hq:fL k k'=true
   ·simp only [hq,if_true]
    exact⟨fun h=>(by cases h),fun u hu=>(by cases hu; exact⟨i,m.val,rfl,Dr⟩)⟩
   ·simp only [hq,if_false,aaU]
    exact⟨h1,h2⟩
  ·simp [hs]
 | [],_::_,_,h=>h.elim
 | _::_,[],_,h=>h.elim
theorem kC {t:TypeId}{z:AV}(h:jc P t=some z)(w:World):∃v,(zeroValue t).run P w = .ok v w∧GK v=some z:=by
 unfold jc at h
 simp only [aaH] at h
 obtain⟨i,hi,v,hv,hz⟩:=h
 exact⟨v,by simp [zeroValue,typeInfo,hi,hv],hz⟩
theorem zP {c:Cx}{Lo:Nat→Prop}{lam:Nat→Nat}{a:Act}(f:Fr L0 c Lo lam ds s a){t:TypeId}{m k y:AV}{mv kv:Value}{ok:Bool}(hm:SR c L0 Lo lam s.bx m mv)(hk:SR c L0 Lo lam s.bx k kv)
  (h:eZ P s.h t m k ok=some y):∃r,(Instr.lookup t mv kv ok).run P c.w = .ok r c.w∧VR c (un L0 Lo) y r:=by
 unfold eZ at h
 rw [aaH] at h
 obtain⟨d,hd,h⟩:=h
 cases d<;>simp only at h<;>try (cases h; done)
 rename_i kt et
 split at h
 ·cases h
 rename_i wz
 have wz:gu P kt k=true:=by simpa using wz
 rw [aaH] at h
 obtain⟨es,wj,h⟩:=h
 have zO:VR c (un L0 Lo) k kv:=hk.vr (by rintro k0 off rfl; simp [gu] at wz)
 obtain⟨ms,OQ,um⟩:∃ms:Array MapEntry,((mv = .map none∧ms = #[])∨∃r clock,mv = .map (some r)∧c.w.heap[r]? = some (.map ms clock))∧ma c (un L0 Lo) es ms.toList:=by
  cases m<;>simp only at wj<;>try (cases wj; done)
  ·simp only [SR,VR] at hm
   cases wj
   exact⟨#[],.inl ⟨hm,rfl⟩,trivial⟩
  ·rename_i id
   rw [aaH] at wj
   obtain⟨ob,ho,wj⟩:=wj
   cases ob with
   | cells cs=>cases wj
   | row t cs=>cases wj
   | map sh=>
   cases wj
   simp only [SR,VR] at hm
   obtain⟨hi,r,R9,hr⟩:=hm
   rw [←f.h] at ho
   have hl:Live c.h id:=⟨f.rel.lt _ _ ho,by simp [ho]⟩
   obtain⟨mb,clock,h1,h2⟩:=f.rel.obj _ _ ho
   exact⟨mb,.inr ⟨r,clock,R9,by rw [hr hl]; exact h1⟩,h2⟩
 rw [aaH] at h
 obtain⟨fr,fe,h⟩:=h
 have GR:=wX wz zO c.w um (by rw [fe]; simp)
 have Mh:=pk (P:=P) ms.isEmpty 9998 wz zO c.w
 obtain⟨p1,p2⟩:=sk (k:=k) es ms.toList 0 um
 have hget:∀r clock,c.w.heap[r]? = some (.map ms clock)→(getObj r).run P c.w = .ok (.map ms clock) c.w:=fun r clock h1=>by simp [getObj,Sem.run,h1]
 cases fr with
 | none=>
  rw [aaI] at h
  obtain⟨z,hz,rfl⟩:=h
  obtain⟨zv,GS,Cb⟩:=kC hz c.w
  rw [p1 fe] at GR
  refine⟨if ok then .tuple #[zv,.bool false] else zv,?_,?_⟩
  ·unfold Instr.lookup
   rcases OQ with⟨rfl,rfl⟩| ⟨r,clock,rfl,h1⟩
   ·simp only [pure_bind,Sem.run_bind,bB hd,Result.andThen_ok,Mh,GR,GS,Sem.run_pure]
   ·simp only [Sem.run_bind,bB hd,Result.andThen_ok,hget r clock h1,Mh,GR,GS,Sem.run_pure]
  ·cases ok with
   | true=>simp only [if_true,VR]; exact⟨#[zv,.bool false],rfl,mM Cb,by simp [VR],trivial⟩
   | false=>simpa using mM Cb
 | some v=>
  obtain⟨j,u,hp,hv⟩:=p2 v fe
  rw [hp] at GR
  cases h
  refine⟨if ok then .tuple #[u,.bool true] else u,?_,?_⟩
  ·unfold Instr.lookup
   rcases OQ with⟨rfl,rfl⟩| ⟨r,clock,rfl,h1⟩
   ·simp only [pure_bind,Sem.run_bind,bB hd,Result.andThen_ok,Mh,GR,Sem.run_pure]
   ·simp only [Sem.run_bind,bB hd,Result.andThen_ok,hget r clock h1,Mh,GR,Sem.run_pure]
  ·cases ok with
   | true=>simp only [if_true,VR]; exact⟨#[u,.bool true],rfl,hv,by simp [VR],trivial⟩
   | false=>simpa using hv
theorem ma.length {c:Cx}{L:Nat→Prop}:∀{es:List (AV × AV)} {ms:List MapEntry},ma c L es ms→es.length=ms.length
 | [],[],_=>rfl
 | _::_,_::_,h=>by simp [ma.length h.2.2]
 | [],_::_,h=>h.elim
 | _::_,[],h=>h.elim
theorem GU {c:Cx}{Lo:Nat→Prop}{lam:Nat→Nat}{a:Act}(f:Fr L0 c Lo lam ds s a){x y:AV}{v:Value}{t:TypeId}(ts:Array TypeId)(ht:ts[0]? = some t)(hx:SR c L0 Lo lam s.bx x v)(h:ub P s.h t x=some y)(ty:TypeId) :
  ∃r,(Builtin.len_ ts ty #[v]).run P c.w = .ok r c.w∧VR c (un L0 Lo) y r:=by
 unfold ub at h
 rw [aaH] at h
 obtain⟨d,hd,h⟩:=h
 unfold Builtin.len_
 cases d<;>simp only at h<;>try (cases h; done)
 ·cases x<;>simp only at h<;>try (cases h; done)
  cases h
  simp only [SR,VR] at hx
  subst hx
  exact⟨.int .i64 _,by simp [ht,bB hd,goInt]; rfl,by simp only [VR]⟩
 ·cases x with
  | nils=>
   cases h
   simp only [SR,VR] at hx
   obtain⟨a,rfl⟩:=hx
   exact⟨.int .i64 _,by simp [ht,bB hd,goInt]; rfl,by simp only [VR]⟩
  | fz cs m ex=>
   cases h
   simp only [SR,VR] at hx
   obtain⟨a,cap,rfl,_⟩:=hx
   exact⟨.int .i64 _,by simp [ht,bB hd,goInt]; rfl,by simp only [VR]⟩
  | rs id off m jb=>
   cases h
   simp only [SR,VR] at hx
   rcases hx with⟨_,_,rfl,a,rfl⟩| ⟨_,_,a,cap,rfl,_⟩
   ·exact⟨.int .i64 _,by simp [ht,bB hd,goInt]; rfl,by simp only [VR]; rfl⟩
   ·exact⟨.int .i64 _,by simp [ht,bB hd,goInt]; rfl,by simp only [VR]⟩
  | _=>cases h
 ·cases x with
  | nw=>
   cases h
   simp only [SR,VR] at hx
   subst hx
   exact⟨.int .i64 _,by simp [ht,bB hd,goInt]; rfl,by simp only [VR]⟩
  | mp id=>
   simp only [aaH] at h
   obtain⟨ob,ho,h⟩:=h
   cases ob with
   | cells cs=>cases h
   | row t cs=>cases h
   | map es=>
   cases h
   simp only [SR,VR] at hx
   obtain⟨hi,r,rfl,hr⟩:=hx
   rw [←f.h] at ho
   have hl:Live c.h id:=⟨f.rel.lt _ _ ho,by simp [ho]⟩
   obtain⟨mb,clock,h1,h2⟩:=f.rel.obj _ _ ho
   rw [hr hl]
   refine⟨.int .i64 es.length,?_,by simp [VR]⟩
   have h3:=h2.length
   simp [ht,bB hd,getObj,Sem.run,h1,goInt,h3]
  | _=>cases h
end
end Go.R
namespace Go.R
open Go
theorem iL.len {c c':Cx}{b:Nat}(h:iL c.w c'.w b):c'.len b=c.len b:=by
 unfold Cx.len World.shape?
 rcases h with h | ⟨C,e,lo,hi,JC,kp,h1,h2,_⟩
 ·rw [h]
 ·rw [h1,h2]
theorem HRel.block {c:Cx}{L:Nat→Prop}(r:HRel c L){id:Nat}(hl:Live c.h id):(c.β id).1<c.w.heap.size:=by
 obtain⟨o,ho⟩:=abk.1 hl.2
 have h:=r.obj id o ho
 cases o with
 | cells cs=>obtain⟨n,h1,_⟩:=h; exact h1.lt
 | map es=>obtain⟨mb,clock,h1,_⟩:=h; exact (abj.1 h1).1
 | row t cs=>obtain⟨_,C,h1,_⟩:=h; exact (abj.1 h1).1
section
variable {L0:Nat→Prop}{c:Cx}{Lo:Nat→Prop}{lam:Nat→Nat}{ds:List Nat}{s:RS}{a:Act}
theorem Fr.world (f:Fr L0 c Lo lam ds s a){w':World}(hk:∀b,b<c.w.heap.size→iL c.w w' b)(Sh:∀id,Live c.h id→w'.heap[(c.β id).1]? = c.w.heap[(c.β id).1]?)(hx:∀b,b<c.base→w'.heap[b]? = c.w.heap[b]?)(hs:c.w.heap.size≤w'.heap.size)
  (h1:w'.os=c.w.os) (h2:w'.tape=c.w.tape) (h3:w'.output=c.w.output):Ext c Lo {c with w:=w'} Lo∧Fr L0 {c with w:=w'} Lo lam ds s a:=by
 have e:Ext c Lo {c with w:=w'} Lo:=by
  refine⟨aaN _,fun id hi hl=>⟨hl,rfl,?_⟩,hs,fun b hb _ _=>hk b hb,hx,rfl,fun id hl=>.inr ⟨id,hl,rfl⟩,fun _ h=>h,fun _ h=>.inl h,h1,h2,h3⟩
  exact iL.len (c':={c with w:=w'}) (hk _ (f.rel.block hl))
 refine⟨e,f.h,⟨f.rel.lt,fun id o ho=>?_,f.rel.inj,f.rel.out,fun b hb=>aa9 (f.rel.bd b hb) hs,f.rel.low,f.rel.ver⟩,fun t=>?_,fun k cs hb=>?_,f.inj,f.tidy,f.defers,f.GN⟩
 ·have hl:Live c.h id:=⟨f.rel.lt _ _ ho,by rw [ho]; rfl⟩
  exact (f.rel.obj id o ho).ext e (Sh id hl)
 ·exact (f.slot t).ext e (fun _ _ _=>⟨rfl,fun h=>h⟩)
 ·have ob:=f.box k cs hb
  exact ob.ext e (hk _ ob.plain.lt)
theorem Fr.upd (f:Fr L0 c Lo lam ds s a){w':World}{β':Nat→Nat × Nat}{h':AHeap}(pZ:Nat)(ob:AObj)
  (hst:Steady c.h h') (XK:pZ<h'.next) (hget:h'.get pZ=some ob)
  (hcl:∀id,id≠pZ→h'.get id=none∨(h'.get id=c.h.get id∧β' id=c.β id))
  (OR:pZ<c.h.next→Live c.h pZ∧β' pZ=c.β pZ)
  (OS:c.w.heap.size≤(β' pZ).1∨∃rl,Live c.h rl∧(c.β rl).1=(β' pZ).1∧(rl=pZ∨h'.get rl=none))
  (hlen:(β' pZ).1<c.w.heap.size→((w'.shape? (β' pZ).1).map (·.2)).getD 0=c.len (β' pZ).1)
  (hk:∀b,b<c.w.heap.size→b≠(β' pZ).1→w'.heap[b]? = c.w.heap[b]?) (hx:∀b,b<c.base→b≠(β' pZ).1→w'.heap[b]? = c.w.heap[b]?) (hs:c.w.heap.size≤w'.heap.size) (hbs:c.base≤c.w.heap.size)
  (h1:w'.os=c.w.os) (h2:w'.tape=c.w.tape) (h3:w'.output=c.w.output)
  (hob:∀(e:Ext c Lo ⟨β',h',w',c.base⟩ Lo),qa ⟨β',h',w',c.base⟩ (un L0 Lo) (β' pZ).1 (β' pZ).2 ob) :
  Ext c Lo ⟨β',h',w',c.base⟩ Lo∧Fr L0 ⟨β',h',w',c.base⟩ Lo lam ds {s with h:=h'} a:=by
 have hn:=hst.next
 have hold:∀id,id≠pZ→Live h' id→Live c.h id∧β' id=c.β id:=by
  intro id hne hl
  rcases hcl id hne with h | ⟨h,hb⟩
  ·have:=hl.2; rw [h] at this; cases this
  ·have Ds:(c.h.get id).isSome=true:=by rw [←h]; exact hl.2
   obtain⟨o,ho⟩:=abk.1 Ds
   exact⟨⟨f.rel.lt _ _ ho,Ds⟩,hb⟩
 have JW:∀id,id≠pZ→Live h' id→(c.β id).1≠(β' pZ).1:=by
  intro id hne hl he
  obtain⟨hl0,hb⟩:=hold id hne hl
  rcases OS with h | ⟨rl,h4,h5,h6⟩
  ·have:=f.rel.block hl0; omega
  ·have:id=rl:=f.rel.inj id rl hl0 h4 (he.trans h5.symm)
   subst this
   rcases h6 with h6 | h6
   ·exact hne h6
   ·have:=hl.2; rw [h6] at this; cases this
 have hL:¬un L0 Lo (β' pZ).1:=by
  intro hL
  rcases OS with h | ⟨rl,h4,h5,_⟩
  ·have:=f.rel.bd _ hL; omega
  ·exact f.rel.out rl h4 (h5 ▸ hL)
 have Mi:c.base≤(β' pZ).1:=by
  rcases OS with h | ⟨rl,h4,h5,_⟩
  ·omega
  ·rw [←h5]; exact f.rel.low rl h4
 have e:Ext c Lo ⟨β',h',w',c.base⟩ Lo:=by
  refine⟨hn,fun id hi hl=>?_,hs,fun b hb _ hi=>.inl (hk b hb ?_),fun b hb=>hx b hb (by omega),rfl,fun id hl=>?_,fun _ h=>h,fun _ h=>.inl h,h1,h2,h3⟩
  ·by_cases hid:id=pZ
   ·subst hid
    obtain⟨h4,h5⟩:=OR hi
    refine⟨h4,h5,?_⟩
    have:=hlen (by rw [h5]; exact f.rel.block h4)
    rw [h5] at this
    exact this
   ·obtain⟨h4,h5⟩:=hold id hid hl
    exact⟨h4,h5,iL.len (c':=⟨β',h',w',c.base⟩) (.inl (hk _ (f.rel.block h4) (JW id hid hl)))⟩
  ·rintro rfl
   rcases OS with h | ⟨rl,h4,h5,_⟩
   ·omega
   ·exact hi rl h4 h5
  ·by_cases hid:id=pZ
   ·subst hid
    rcases OS with h | ⟨rl,h4,h5,_⟩
    ·exact .inl h
    ·exact .inr ⟨rl,h4,h5⟩
   ·obtain⟨h4,h5⟩:=hold id hid hl
    exact .inr ⟨id,h4,by rw [←h5]⟩
 refine⟨e,rfl,⟨fun id o ho=>?_,fun id o ho=>?_,fun id lP hl pY he=>?_,fun id hl=>?_,fun b hb=>aa9 (f.rel.bd b hb) hs,fun id hl=>?_,hst.wf f.rel.ver⟩,fun t=>?_,fun k cs hb=>?_,f.inj,f.tidy,f.defers,f.GN⟩
 ·by_cases hid:id=pZ
  ·subst hid; exact XK
  ·rcases hcl id hid with h | ⟨h,_⟩
   ·rw [h] at ho; cases ho
   ·rw [h] at ho; exact aa9 (f.rel.lt _ _ ho) hn
 ·by_cases hid:id=pZ
  ·subst hid
   rw [hget] at ho
   cases ho
   exact hob e
  ·rcases hcl id hid with h | ⟨h,hb⟩
   ·rw [h] at ho; cases ho
   ·have hl:Live h' id:=⟨by rw [h] at ho; exact aa9 (f.rel.lt _ _ ho) hn,by rw [ho]; rfl⟩
    rw [h] at ho
    have:=(f.rel.obj id o ho).ext e (hk _ (f.rel.block (hold id hid hl).1) (JW id hid hl))
    rw [←hb] at this
    exact this
 ·by_cases hid:id=pZ<;>by_cases GV:lP=pZ
  ·rw [hid,GV]
  ·subst hid
   obtain⟨h4,h5⟩:=hold lP GV pY
   exact absurd (by rw [←h5]; exact he.symm) (JW lP GV pY)
  ·subst GV
   obtain⟨h4,h5⟩:=hold id hid hl
   exact absurd (by rw [←h5]; exact he) (JW id hid hl)
  ·obtain⟨h4,h5⟩:=hold id hid hl
   obtain⟨h6,h7⟩:=hold lP GV pY
   exact f.rel.inj id lP h4 h6 (by rw [←h5,←h7]; exact he)
 ·by_cases hid:id=pZ
  ·subst hid; exact hL
  ·obtain⟨h4,h5⟩:=hold id hid hl
   show ¬un L0 Lo (β' id).1
   rw [h5]; exact f.rel.out id h4
 ·by_cases hid:id=pZ
  ·subst hid; exact Mi
  ·obtain⟨h4,h5⟩:=hold id hid hl
   show c.base≤(β' id).1
   rw [h5]; exact f.rel.low id h4
 ·exact (f.slot t).ext e (fun _ _ _=>⟨rfl,fun h=>h⟩)
 ·have hb2:=f.box k cs hb
  refine hb2.ext e (.inl (hk _ hb2.plain.lt ?_))
  rintro he
  exact hL (he ▸ .inr hb2.own)
theorem Fr.GW (f:Fr L0 c Lo lam ds s a){w':World}(k:Nat)(cs:List AV)(b:Nat)
  (hb:c.w.heap.size≤b∨(b=lam k∧(s.bx k).isSome=true))
  (hp:∀t off,s.ρ t = .lp k off→b=lam k)
  (hk:∀b',b'<c.w.heap.size→b'≠b→w'.heap[b']? = c.w.heap[b']?) (hx:∀b',b'<c.base→b'≠b→w'.heap[b']? = c.w.heap[b']?) (hs:c.w.heap.size≤w'.heap.size) (XL:b<w'.heap.size) (hbs:c.base≤c.w.heap.size)
  (h1:w'.os=c.w.os) (h2:w'.tape=c.w.tape) (h3:w'.output=c.w.output)
  (Dt:Plain {c with w:=w'} b cs.length)
  (Se:∀(e:Ext c Lo {c with w:=w'} (fun x=>Lo x∨x=b)),Cells {c with w:=w'} (un L0 (fun x=>Lo x∨x=b)) cs b 0) :
  ∃kq sW,Ext c Lo {c with w:=w'} kq∧Fr L0 {c with w:=w'} kq sW ds (s.box k cs) a∧sW k=b:=by
 have Mj:∀id,Live c.h id→(c.β id).1≠b:=by
  intro id hl he
  rcases hb with h | ⟨h,hb2⟩
  ·have:=f.rel.block hl; omega
  ·obtain⟨OT,h0⟩:=abk.1 hb2
   exact f.rel.out id hl (by rw [he,h]; exact .inr (f.box k OT h0).own)
 have VU:∀x,(Lo x∨x=b)→Lo x∨c.w.heap.size≤x:=by
  rintro x (h | rfl)
  ·exact .inl h
  ·rcases hb with h | ⟨h,hb2⟩
   ·exact .inr h
   ·obtain⟨OT,h0⟩:=abk.1 hb2
    exact .inl (h ▸ (f.box k OT h0).own)
 have Mi:c.base≤b:=by
  rcases hb with h | ⟨h,hb2⟩
  ·omega
  ·obtain⟨OT,h0⟩:=abk.1 hb2
   rw [h]; exact f.GN _ (f.box k OT h0).own
 have XM:∀b',b'<c.w.heap.size→¬Lo b'→b'≠b:=by
  rintro b' wk hn rfl
  rcases VU b' (.inr rfl) with h | h
  ·exact hn h
  ·omega
 have e:Ext c Lo {c with w:=w'} (fun x=>Lo x∨x=b):=by
  refine⟨aaN _,fun id hi hl=>⟨hl,rfl,?_⟩,hs,fun b' wk hn _=>.inl (hk b' wk (XM b' wk hn)),fun b' wk=>hx b' wk (by omega),rfl,fun id hl=>.inr ⟨id,hl,rfl⟩,fun _ h=>.inl h,VU,h1,h2,h3⟩
  exact iL.len (c':={c with w:=w'}) (.inl (hk _ (f.rel.block hl) (Mj id hl)))
 refine⟨fun x=>Lo x∨x=b,fun t=>if t=k then b else lam t,e,⟨f.h,⟨f.rel.lt,fun id o ho=>?_,f.rel.inj,fun id hl hL=>?_,fun x Mk=>?_,f.rel.low,f.rel.ver⟩,fun t=>?_,fun k' fQ wk=>?_,fun k1 k2 VV Om he=>?_,f.tidy,f.defers,fun x Mk=>?_⟩,by simp⟩
 ·have hl:Live c.h id:=⟨f.rel.lt _ _ ho,by rw [ho]; rfl⟩
  exact (f.rel.obj id o ho).ext e (hk _ (f.rel.block hl) (Mj id hl))
 ·rcases hL with h | h | h
  ·exact f.rel.out id hl (.inl h)
  ·exact f.rel.out id hl (.inr h)
  ·exact Mj id hl h
 ·rcases Mk with h | h | h
  ·exact aa9 (f.rel.bd x (.inl h)) hs
  ·exact aa9 (f.rel.bd x (.inr h)) hs
  ·subst h; exact XL
 ·refine (f.slot t).ext e (fun k' off OU=>?_)
  by_cases zN:k'=k
  ·subst zN
   refine⟨by simp [hp t off OU],fun _=>by simp [RS.box]⟩
  ·exact⟨by simp [zN],fun h=>by simpa [RS.box,beq_nat,zN] using h⟩
 ·by_cases zN:k'=k
  ·subst zN
   simp only [RS.box,beq_nat,decide_true,cond_true,aaJ] at wk
   subst wk
   exact⟨by simp,by simpa using Dt,by simpa using Se e⟩
  ·simp only [RS.box,beq_nat,zN,decide_false,cond_false] at wk
   have ob:=f.box k' fQ wk
   have hne:lam k'≠b:=by
    rintro he
    rcases hb with h | ⟨h,hb2⟩
    ·have:=ob.plain.lt; omega
    ·exact zN (f.inj k' k (by rw [wk]; rfl) hb2 (he.trans h))
   have:=ob.ext e (.inl (hk _ ob.plain.lt hne))
   exact⟨by simp [zN]; exact .inl ob.own,by simpa [zN] using this.plain,by simpa [zN] using this.cells⟩
 ·have old:∀k',k'≠k→((s.box k cs).bx k').isSome=true→(s.bx k').isSome=true:=by
   intro k' hne h
   simpa [RS.box,beq_nat,hne] using h
  have sep:∀k',k'≠k→(s.bx k').isSome=true→lam k'≠b:=by
   intro k' hne h5 XN
   obtain⟨Ry,h6⟩:=abk.1 h5
   rcases hb with h | ⟨h,hb2⟩
   ·have:=(f.box k' Ry h6).plain.lt; omega
   ·exact hne (f.inj k' k h5 hb2 (XN.trans h))
  by_cases h4:k1=k<;>by_cases h5:k2=k
  ·rw [h4,h5]
  ·simp only [h4,h5,if_true,if_false] at he
   exact absurd he.symm (sep k2 h5 (old k2 h5 Om))
  ·simp only [h4,h5,if_true,if_false] at he
   exact absurd he (sep k1 h4 (old k1 h4 VV))
  ·simp only [h4,h5,if_false] at he
   exact f.inj k1 k2 (old k1 h4 VV) (old k2 h5 Om) he
 ·rcases Mk with h | h
  ·exact f.GN x h
  ·subst h; exact Mi
end
end Go.R
namespace Go.R
open Go
theorem Cells.iff {c:Cx}{L:Nat→Prop}:∀{xs:List AV} {b o:Nat},Cells c L xs b o↔∀(i:Nat) (x:AV),xs[i]? = some x→∃v,c.w.cell? ⟨b,o+i,none⟩=some v∧v.oneCell'=true∧VR c L x v
 | [],b,o=>by simp [Cells]
 | x::xs,b,o=>by
  refine⟨fun h i y hy=>h.get' i y hy,fun h=>⟨?_,(Cells.iff (xs:=xs)).2 fun i y hy=>?_⟩⟩
  ·exact h 0 x rfl
  ·have:=h (i+1) y (by simpa using hy)
   rwa [ab4,abI]
theorem iN:∀(vs cs:List AV) (i:Nat),(dv cs i vs).length=cs.length
 | [],cs,i=>by cases cs<;>rfl
 | v::vs,cs,i=>by
  rw [dv,iN vs]
  simp
theorem uo:∀(vs cs:List AV) (i j:Nat),i+vs.length≤cs.length→(dv cs i vs)[j]? = if i≤j∧j<i+vs.length then vs[j - i]? else cs[j]?
 | [],cs,i,j,_=>by
  have:dv cs i []=cs:=by cases cs<;>rfl
  rw [this,if_neg (by simp)]
 | v::vs,cs,i,j,h=>by
  simp only [aaW] at h
  rw [dv,uo vs _ (i+1) j (by simp; omega)]
  by_cases h1:i+1≤j∧j<i+1+vs.length
  ·rw [if_pos h1,if_pos (by simp; omega),show j - i=(j - (i+1))+1 by omega]
   simp
  ·rw [if_neg h1]
   by_cases h2:j=i
   ·subst h2
    rw [if_pos (by simp),List.getElem?_set_self (by omega)]
    simp
   ·rw [List.getElem?_set_ne (by omega),if_neg (by simp; omega)]
theorem xZ (w:World)(b o:Nat)(v:Value){C:Array Value}{e:TypeId}{fr:Nat × Nat}(hb:w.heap[b]? = some (.cells C e fr)):(w.setCell ⟨b,o,none⟩ v).heap[b]? = some (.cells (C.setIfInBounds o v) e fr):=by
 have hlt:b<w.heap.size:=(abj.1 hb).1
 simp [World.setCell,abS,hb]
theorem zQ (w:World)(b o b':Nat)(v:Value)(hne:b'≠b):(w.setCell ⟨b,o,none⟩ v).heap[b']? = w.heap[b']?:=by
 simp [World.setCell,abS,Ne.symm hne]
theorem dQ:∀(vs:List Value) (b o b':Nat) (w:World),b'≠b→(w.setCells b o vs).heap[b']? = w.heap[b']?
 | [],_,_,_,_,_=>rfl
 | v::vs,b,o,b',w,h=>by rw [World.setCells,dQ vs b (o+1) b' _ h,zQ _ _ _ _ _ h]
theorem hX:∀(vs:List Value) (b o:Nat) (w:World),(w.setCells b o vs).heap.size=w.heap.size∧(w.setCells b o vs).os=w.os∧(w.setCells b o vs).tape=w.tape∧(w.setCells b o vs).output=w.output
 | [],_,_,_=>⟨rfl,rfl,rfl,rfl⟩
 | v::vs,b,o,w=>by
  obtain⟨h1,h2,h3,h4⟩:=hX vs b (o+1) (w.setCell ⟨b,o,none⟩ v)
  rw [World.setCells]
  exact⟨h1.trans (by simp),h2.trans rfl,h3.trans rfl,h4.trans rfl⟩
theorem fT:∀(vs:List Value) (b o:Nat) (w:World) (C:Array Value) (e:TypeId) (fr:Nat × Nat),w.heap[b]? = some (.cells C e fr)→o+vs.length≤C.size→
  ∃C',(w.setCells b o vs).heap[b]? = some (.cells C' e fr)∧C'.size=C.size∧∀j,C'[j]? = if o≤j∧j<o+vs.length then vs[j - o]? else C[j]?
 | [],b,o,w,C,e,fr,hb,_=>⟨C,hb,rfl,fun j=>by rw [if_neg (by simp)]⟩
 | v::vs,b,o,w,C,e,fr,hb,hl=>by
  simp only [aaW] at hl
  obtain⟨C',h1,h2,h3⟩:=fT vs b (o+1) (w.setCell ⟨b,o,none⟩ v) (C.setIfInBounds o v) e fr (xZ w b o v hb) (by simp; omega)
  refine⟨C',h1,by simpa using h2,fun j=>?_⟩
  rw [h3 j]
  by_cases h4:o+1≤j∧j<o+1+vs.length
  ·rw [if_pos h4,if_pos (by simp; omega),show j - o=(j - (o+1))+1 by omega]
   simp
  ·rw [if_neg h4]
   by_cases h5:j=o
   ·subst h5
    rw [if_pos (by simp)]
    simp [abJ,show j<C.size by omega]
   ·rw [if_neg (by simp; omega)]
    simp [abJ,Ne.symm h5]
theorem cell_of_block {w:World}{b:Nat}{C:Array Value}{e:TypeId}{fr:Nat × Nat}(h:w.heap[b]? = some (.cells C e fr))(i:Nat):w.cell? ⟨b,i,none⟩=C[i]?:=by
 simp [World.cell?,h]
section
variable {P:Program}{L0:Nat→Prop}{c0:Cx}{n:Nat}{ds:List Nat}{o:Oper}{s:RS}
theorem uq {c:Cx}{L:Nat→Prop}{x:AV}{v:Value}(h:x.bY=true)(hv:VR c L x v):v.oneCell'=true∧v.cells = #[v]:=by
 cases x<;>simp only [AV.bY] at h<;>first | (cases h; done) | skip
 all_goals simp only [VR] at hv
 ·subst hv; exact⟨rfl,rfl⟩
 ·subst hv; exact⟨rfl,rfl⟩
 ·subst hv; exact⟨rfl,rfl⟩
 ·subst hv; exact⟨rfl,rfl⟩
 ·obtain⟨_,a,rfl,_⟩:=hv; exact⟨rfl,rfl⟩
 ·obtain⟨b,o,rfl,_⟩:=hv; exact⟨rfl,rfl⟩
 ·obtain⟨a,rfl⟩:=hv; exact⟨rfl,rfl⟩
 ·obtain⟨a,cap,rfl,_⟩:=hv; exact⟨rfl,rfl⟩
 ·rcases hv with⟨_,_,_,a,rfl⟩| ⟨_,_,a,cap,rfl,_⟩<;>exact⟨rfl,rfl⟩
 ·subst hv; exact⟨rfl,rfl⟩
 ·obtain⟨_,r,rfl,_⟩:=hv; exact⟨rfl,rfl⟩
 ·obtain⟨vs,rfl,_⟩:=hv; exact⟨rfl,rfl⟩
 ·subst hv; exact⟨rfl,rfl⟩
theorem sm {c:Cx}{L:Nat→Prop}:∀{xs:List AV} {vs:List Value},xs.all AV.bY=true→VRs c L xs vs→∀v∈vs,v.oneCell'=true
 | [],[],_,_,v,hv=>by simp at hv
 | x::xs,u::us,h,hr,v,hv=>by
  simp only [abu,aaK] at h
  rcases aa6.1 hv with rfl | hv
  ·exact (uq h.1 hr.1).1
  ·exact sm h.2 hr.2 v hv
 | [],_::_,_,h,_,_=>h.elim
 | _::_,[],_,h,_,_=>h.elim
theorem jo {c:Cx}{L:Nat→Prop}{x:AV}{v:Value}(h:x.cells.all AV.bY=true)(hv:VR c L x v):VRs c L x.cells v.cells.toList∧∀u∈v.cells.toList,u.oneCell'=true:=by
 cases x with
 | agg cs=>
  simp only [VR] at hv
  obtain⟨vs,rfl,Gv⟩:=hv
  exact⟨Gv,sm h Gv⟩
 | _=>
  simp only [AV.cells,abu,List.all_nil,Bool.and_true] at h
  obtain⟨h1,h2⟩:=uq h hv
  rw [h2]
  exact⟨⟨hv,trivial⟩,by simpa using h1⟩
theorem SR.tJ {c:Cx}{Lo:Nat→Prop}{lam:Nat→Nat}{bx:Nat→Option (List AV)}{x:AV}{v:Value}(hx:SR c L0 Lo lam bx x v)(h:x.cells.all AV.bY=true):VR c (un L0 Lo) x v:=
 hx.vr (by rintro k off rfl; simp [AV.cells,AV.bY] at h)
theorem kQ {c:Cx}{b m base off:Nat}{vs:List Value}(hp:Plain c b m)(hl:base+off+vs.length≤m)(h1:∀v∈vs,v.oneCell'=true) :
  (storeCells ⟨b,base+off,none⟩ vs).run P c.w = .ok () (c.w.setCells b (base+off) vs):=by
 obtain⟨C,e,lo,hi,hb,hf,hm⟩:=hp
 have:=run_storeCells_cells (P:=P) b (base+off) vs 0 c.w (fun j hj=>by
  rw [cell_of_block hb]
  have:base+off+0+j<C.size:=by omega
  simpa using this) (fun j hj=>by
  simp only [World.frozen?,hb]
  rcases hf with hf | hf
  ·subst hf; simp
  ·simp; omega) h1
 simpa using this
theorem Plain.setCells {c:Cx}{b m o:Nat}{vs:List Value}(hp:Plain c b m)(hl:o+vs.length≤m)(β':Nat→Nat × Nat)(h':AHeap)(bs:Nat):Plain ⟨β',h',c.w.setCells b o vs,bs⟩ b m:=by
 obtain⟨C,e,lo,hi,hb,hf,hm⟩:=hp
 obtain⟨C',h1,h2,_⟩:=fT vs b o c.w C e (lo,hi) hb (by omega)
 exact⟨C',e,lo,hi,h1,by rw [h2]; exact hf,by rw [h2]; exact hm⟩
theorem ja.setCells {c:Cx}{b m o:Nat}{vs:List Value}(hp:ja c b m)(hl:o+vs.length≤m)(β':Nat→Nat × Nat)(h':AHeap)(bs:Nat):ja ⟨β',h',c.w.setCells b o vs,bs⟩ b m:=by
 obtain⟨C,e,hb,hm⟩:=hp
 obtain⟨C',h1,h2,_⟩:=fT vs b o c.w C e (0,0) hb (by omega)
 exact⟨C',e,h1,by rw [h2]; exact hm⟩
theorem jq {c c':Cx}{L0 Lo kq:Nat→Prop}{b m base off:Nat}{cs xs:List AV}{vs:List Value}(hp:Plain c b m)(hc:Cells c (un L0 Lo) cs b base)(hv:VRs c (un L0 Lo) xs vs)(OV:∀v∈vs,v.oneCell'=true)(hl:off+xs.length≤cs.length)(hm:base+cs.length≤m)
  (e:Ext c Lo c' kq) (hw:c'.w=c.w.setCells b (base+off) vs):Cells c' (un L0 kq) (dv cs off xs) b base:=by
 obtain⟨C,e',lo,hi,hb,hf,mF⟩:=hp
 have hlen:=hv.length
 obtain⟨C',h1,h2,h3⟩:=fT vs b (base+off) c.w C e' (lo,hi) hb (by omega)
 rw [Cells.iff]
 intro i x hx
 rw [hw,cell_of_block h1,h3]
 rw [uo xs cs off i hl] at hx
 by_cases h4:off≤i∧i<off+xs.length
 ·rw [if_pos h4] at hx
  obtain⟨v,Ml,Gu⟩:=hv.get _ x hx
  refine⟨v,?_,OV v (aaP Ml),VR.ext e x v Gu⟩
  rw [if_pos (by omega),show base+i - (base+off)=i - off by omega]
  exact Ml
 ·rw [if_neg h4] at hx
  obtain⟨v,Ml,GX,Gu⟩:=hc.get' i x hx
  refine⟨v,?_,GX,VR.ext e x v Gu⟩
  rw [if_neg (by omega),←cell_of_block hb]
  exact Ml
theorem pn {c:Cx}{L:Nat→Prop}{t:TypeId}{cs fQ:List AV}{b m base off:Nat}{x:AV}{v:Value}(hp:Plain c b m)(hm:base+cs.length≤m)(hv:VR c L x v)(h:iB P t cs off x=some fQ) :
  (storeVar t ⟨b,base+off,none⟩ v).run P c.w = .ok () (c.w.setCells b (base+off) v.cells.toList)∧VRs c L x.cells v.cells.toList∧off+x.cells.length≤cs.length∧fQ=dv cs off x.cells∧(∀u∈v.cells.toList,u.oneCell'=true):=by
 unfold iB at h
 rw [aaH] at h
 obtain⟨k,hk,h⟩:=h
 split at h
 ·rename_i hh
  obtain⟨h1,h2,h3⟩:=hh
  cases h
  obtain⟨h4,h5⟩:=jo h2 hv
  have h6:=h4.length
  refine⟨?_,h4,by omega,rfl,h5⟩
  have h7:v.cells.size=k:=by rw [←abP,←h6]; exact h1
  simp only [storeVar,Sem.run_bind,dP hk,Result.andThen_ok,h7]
  simp only [ne_eq,not_true_eq_false,if_false]
  rw [←kQ (P:=P) hp (vs:=v.cells.toList) (base:=base) (off:=off) (by omega) h5]
 ·cases h
theorem jO {c c0:Cx}{Lo:Nat→Prop}(e:Ext c0 none0 c Lo)(h:c0.base≤c0.w.heap.size):c.base≤c.w.heap.size:=by
 rw [e.base]; exact abB h e.size
theorem GY (hb0:c0.base≤c0.w.heap.size)(hd:gV n ds o){t:TypeId}{x y:Operand}(ho:o.op = .store t x y)(sX:o.dst=none){s':RS}
  (h:(match bQ s.ρ x with
   | .lp k off=>(s.bx k).bind fun cs=>(iB P t cs off (bQ s.ρ y)).map fun fQ=>s.box k fQ
   | .ptr id off=>(s.h.get id).bind fun | .cells cs=>(iB P t cs off (bQ s.ρ y)).map fun fQ=>{s with h:=s.h.put id (.cells fQ)} | _=>none
   | _=>none)=some s'):jS P L0 c0 n ds o s s':=by
 rintro a w K Q ⟨hn,c,Lo,lam,rfl,f,e⟩ hK
 have hbs:=jO e hb0
 have hx:=bI f x
 have hy:=bI f y
 unfold Oper.wp
 have Mm:a.put o.dst undef=a:=by rw [sX]; rfl
 have fin:∀c' kq sW,((Instr.storeAt t (a.eval x) (a.eval y)).run P c.w = .ok () c'.w)→Fr L0 c' kq sW ds s' a→Ext c Lo c' kq→Oper.upon P o a K Q ((execOp a.eval o).run P c.w):=by
  intro c' kq sW hr f' e'
  have:(execOp a.eval o).run P c.w = .ok .skip c'.w:=by simp [execOp,ho,hr]
  rw [this,Oper.upon_skip,Mm]
  exact hK _ _ ⟨hn,c',kq,sW,rfl,f',e.trans e'⟩
 cases Fl:bQ s.ρ x<;>rw [Fl] at h<;>simp only at h<;>try (cases h; done)
 ·rename_i id off
  rw [aaH] at h
  obtain⟨ob,hob,h⟩:=h
  cases ob with
  | map es=>cases h
  | row t cs=>cases h
  | cells cs=>
  rw [aaI] at h
  obtain⟨fQ,hw,rfl⟩:=h
  rw [Fl] at hx
  simp only [SR,VR] at hx
  obtain⟨hi,ad,BF,ha⟩:=hx
  rw [←f.h] at hob
  have hl:Live c.h id:=⟨f.rel.lt _ _ hob,by simp [hob]⟩
  obtain⟨m,hp,hm,hc⟩:=f.rel.obj _ _ hob
  have po:(bQ s.ρ y).cells.all AV.bY=true:=by
   unfold iB at hw
   rw [aaH] at hw
   obtain⟨k,_,hw⟩:=hw
   split at hw
   ·rename_i hh; exact hh.2.1
   ·cases hw
  have Si:=hy.tJ po
  obtain⟨hr,hv,hle,rfl,OV⟩:=pn (P:=P) hp.lC hm Si hw
  have hvl:=hv.length
  obtain⟨q1,q2,q3,q4⟩:=hX (a.eval y).cells.toList (c.β id).1 ((c.β id).2+off) c.w
  have:=f.upd (w':=c.w.setCells (c.β id).1 ((c.β id).2+off) (a.eval y).cells.toList) (β':=c.β) (h':=c.h.put id (.cells (dv cs off (bQ s.ρ y).cells))) id (.cells (dv cs off (bQ s.ρ y).cells))
   (Steady.put _ _ _) (by simp only [AHeap.put]; omega) (by simp [AHeap.put,beq_nat]) (fun lP hne=>.inr ⟨by simp [AHeap.put,beq_nat,hne],rfl⟩) (fun _=>⟨hl,rfl⟩) (.inr ⟨id,hl,rfl,.inl rfl⟩)
   (fun _=>by
    obtain⟨C,e',lo,kp,hb,hf,mF⟩:=hp.lC
    obtain⟨C',h1,h2,_⟩:=fT (a.eval y).cells.toList (c.β id).1 ((c.β id).2+off) c.w C e' (lo,kp) hb (by omega)
    simp [World.shape?,h1,Cx.len,hb,h2])
   (fun b _ hne=>dQ _ _ _ _ _ hne) (fun b _ hne=>dQ _ _ _ _ _ hne) (by rw [q1]; exact aaN _) hbs q2 q3 q4
   (fun e'=>⟨m,hp.setCells (by omega) _ _ _,by rw [iN]; exact hm,jq hp.lC hc hv OV hle hm e' rfl⟩)
  rw [f.h] at this
  obtain⟨e',f'⟩:=this
  refine fin _ _ _ ?_ f' e'
  rw [BF,ha hl]
  simp [Instr.storeAt,Instr.sureAddr,hr]
 ·rename_i k off
  rw [aaH] at h
  obtain⟨cs,OW,h⟩:=h
  rw [aaI] at h
  obtain⟨fQ,hw,rfl⟩:=h
  rw [Fl] at hx
  simp only [SR] at hx
  obtain⟨BF,_⟩:=hx
  have ob:=f.box k cs OW
  have po:(bQ s.ρ y).cells.all AV.bY=true:=by
   unfold iB at hw
   rw [aaH] at hw
   obtain⟨k,_,hw⟩:=hw
   split at hw
   ·rename_i hh; exact hh.2.1
   ·cases hw
  have Si:=hy.tJ po
  obtain⟨hr,hv,hle,rfl,OV⟩:=pn (P:=P) (base:=0) ob.plain (by omega) Si hw
  have hvl:=hv.length
  obtain⟨q1,q2,q3,q4⟩:=hX (a.eval y).cells.toList (lam k) (0+off) c.w
  obtain⟨kq,sW,e',f',_⟩:=f.GW (w':=c.w.setCells (lam k) (0+off) (a.eval y).cells.toList) k (dv cs off (bQ s.ρ y).cells) (lam k) (.inr ⟨rfl,by rw [OW]; rfl⟩)
   (fun _ _ _=>rfl) (fun b _ hne=>dQ _ _ _ _ _ hne) (fun b _ hne=>dQ _ _ _ _ _ hne) (by rw [q1]; exact aaN _) (by rw [q1]; exact ob.plain.lt) hbs q2 q3 q4
   (by rw [iN]; exact ob.plain.setCells (by omega) _ _ _) (fun e'=>jq ob.plain ob.cells hv OV hle (by omega) e' rfl)
  refine fin _ _ _ ?_ f' e'
  rw [BF]
  rw [aa7] at hr
  simp [Instr.storeAt,Instr.sureAddr,hr]
end
end Go.R
namespace Go.R
open Go
theorem je (w:World)(o:Obj):(w.alloc o).heap[w.heap.size]? = some o:=by
 show (w.heap.push o)[w.heap.size]? = some o
 simp
theorem alloc_old (w:World)(o:Obj){b:Nat}(h:b<w.heap.size):(w.alloc o).heap[b]? = w.heap[b]?:=by
 show (w.heap.push o)[b]? = w.heap[b]?
 simp [Array.getElem?_push,show b≠w.heap.size by omega]
theorem RS.set_set (s:RS)(d:Option Nat)(x y:AV):(s.set d x).set d y=s.set d y:=by
 cases d with
 | none=>rfl
 | some d=>
  simp only [RS.set]
  congr 1
  funext t
  cases abq t d<;>rfl
theorem JX (a:Act)(d:Option Nat)(x y:Value):(a.put d x).put d y=a.put d y:=by
 cases d with
 | none=>rfl
 | some d=>
  simp only [Act.put]
  congr 1
  apply Array.ext_getElem?
  intro i
  simp only [abJ,Array.size_setIfInBounds]
  by_cases h:d=i<;>by_cases h2:d<a.tmps.size<;>simp [h,h2]
section
variable {P:Program}{L0:Nat→Prop}{c0:Cx}{n:Nat}{ds:List Nat}{o:Oper}{s:RS}
theorem ry {k:Nat}{ρ:Nat→AV}:∀{l:List Nat},uc k ρ l=true→∀t∈l,∀off,ρ t≠.lp k off
 | [],_,t,ht=>by simp at ht
 | x::xs,h,t,ht=>by
  simp only [uc,aaK] at h
  intro off he
  rcases aa6.1 ht with rfl | ht
  ·rw [he] at h; simp at h
  ·exact ry h.2 t ht off he
theorem Fr.GZ {c:Cx}{Lo:Nat→Prop}{lam:Nat→Nat}{a:Act}(f:Fr L0 c Lo lam ds s a)(hbs:c.base≤c.w.heap.size)(w1:World)(Sj:w1.heap=c.w.heap∧w1.os=c.w.os∧w1.tape=c.w.tape∧w1.output=c.w.output)(ob:AObj)(obj:Obj)
  (h':AHeap) (hg:h'.get c.h.next=some ob) (hst:Steady c.h h') (hn:c.h.next<h'.next) (ho:∀id,id≠c.h.next→h'.get id=none∨h'.get id=c.h.get id)
  (hob:∀(c':Cx) (e:Ext c Lo c' Lo),c'.w=w1.alloc obj→qa c' (un L0 Lo) c.w.heap.size 0 ob) :
  ∃β',Ext c Lo ⟨β',h',w1.alloc obj,c.base⟩ Lo∧Fr L0 ⟨β',h',w1.alloc obj,c.base⟩ Lo lam ds {s with h:=h'} a∧β' c.h.next=(c.w.heap.size,0)∧Live h' c.h.next:=by
 obtain⟨q0,q1,q2,q3⟩:=Sj
 have hsz:w1.heap.size=c.w.heap.size:=by rw [q0]
 refine⟨fun i=>if i=c.h.next then (c.w.heap.size,0) else c.β i,?_⟩
 have:=f.upd (w':=w1.alloc obj) (β':=fun i=>if i=c.h.next then (c.w.heap.size,0) else c.β i) (h':=h') c.h.next ob
  hst hn hg (fun id hne=>(ho id hne).imp (fun x=>x) fun h=>⟨h,by simp [hne]⟩)
  (fun h=>absurd h (Nat.lt_irrefl _)) (.inl (by simp)) (fun h=>by simp at h)
  (fun b hb _=>by rw [alloc_old _ _ (by omega),q0]) (fun b hb _=>by rw [alloc_old _ _ (by omega),q0]) (by simp [hsz]) hbs q1 q2 q3
  (fun e=>by simpa using hob _ e rfl)
 exact⟨this.1,this.2,by simp,⟨hn,by rw [hg]; rfl⟩⟩
theorem Fr.fresh {c:Cx}{Lo:Nat→Prop}{lam:Nat→Nat}{a:Act}(f:Fr L0 c Lo lam ds s a)(hbs:c.base≤c.w.heap.size)(w1:World)(Sj:w1.heap=c.w.heap∧w1.os=c.w.os∧w1.tape=c.w.tape∧w1.output=c.w.output)(ob:AObj)(obj:Obj)
  (hob:∀(c':Cx) (e:Ext c Lo c' Lo),c'.w=w1.alloc obj→qa c' (un L0 Lo) c.w.heap.size 0 ob) :
  ∃β',Ext c Lo ⟨β',c.h.alloc ob,w1.alloc obj,c.base⟩ Lo∧Fr L0 ⟨β',c.h.alloc ob,w1.alloc obj,c.base⟩ Lo lam ds {s with h:=c.h.alloc ob} a∧β' c.h.next=(c.w.heap.size,0)∧Live (c.h.alloc ob) c.h.next:=
 f.GZ hbs w1 Sj ob obj (c.h.alloc ob) (by simp [AHeap.alloc,AHeap.put,beq_nat]) (Steady.put _ _ _) (aby _) (fun id hne=>.inr (by simp [AHeap.alloc,AHeap.put,beq_nat,hne])) hob
theorem mN {c':Cx}{w1:World}{C:Array Value}{e:TypeId}(hw:c'.w=w1.alloc (.cells C e)):ja c' w1.heap.size C.size:=
 ⟨C,e,by rw [hw]; exact je _ _,rfl⟩
theorem Fm {c':Cx}{w1:World}{C:Array Value}{e:TypeId}(hw:c'.w=w1.alloc (.cells C e)):Plain c' w1.heap.size C.size:=
 ⟨C,e,0,0,by rw [hw]; exact je _ _,.inl rfl,rfl⟩
theorem kD {c':Cx}{L:Nat→Prop}{w1:World}{C:Array Value}{e:TypeId}{xs:List AV}{vs:List Value}(hw:c'.w=w1.alloc (.cells C e))(hv:VRs c' L xs vs)(hp:∀i,i<vs.length→C[i]? = vs[i]?)(h1:∀v∈vs,v.oneCell'=true):Cells c' L xs w1.heap.size 0:=
 Cells.of_vals hv (fun i hi=>by rw [hw,cell_of_block (je _ _),aa7]; exact hp i hi) h1
theorem wY (hb0:c0.base≤c0.w.heap.size)(hd:gV n ds o){aH:List Nat}{cs:List AV}{s':RS}(t:TypeId)(h:iZ s aH ds o cs=some s')
  (hx:∀a c Lo lam,Fr L0 c Lo lam ds s a→a.tmps.size=n→∃v:Value,(execOp a.eval o).run P c.w = .ok (.value (.pointer (some ⟨c.w.heap.size,0,none⟩))) (c.w.alloc (.cells v.cells t))∧VRs c (un L0 Lo) cs v.cells.toList∧∀u∈v.cells.toList,u.oneCell'=true) :
  jS P L0 c0 n ds o s s':=by
 unfold iZ at h
 split at h
 rotate_left
 ·cases h
 rename_i p4
 cases Rz:o.dst with
 | none=>rw [Rz] at h; cases h
 | some d=>
 obtain⟨JD,BG⟩:=hd d Rz
 rw [Rz] at h
 simp only at h
 rintro a w K Q ⟨hn,c,Lo,lam,rfl,f,e⟩ hK
 have hbs:=jO e hb0
 obtain⟨v,hr,hv,h1⟩:=hx a c Lo lam f hn
 unfold Oper.wp
 rw [hr,Oper.upon_value,Rz]
 split at h
 ·split at h
  rotate_left
  ·cases h
  rename_i zx
  cases h
  have f1:=f.set (d:=some d) (x:=.any) (v:=undef) (SR.of (by simp [VR])) (fun t ht=>by cases ht; exact⟨hn ▸ JD,BG⟩)
  have G0:∀t off,(s.set (some d) .any).ρ t≠.lp d off:=by
   intro t off he
   rw [wT] at he
   by_cases Ly:t=d
   ·rw [if_pos Ly] at he; cases he
   ·rw [if_neg Ly] at he
    by_cases hm:t∈ds
    ·exact ry zx t (by simp [hm,beq_nat,Ly]) off he
    ·exact Ly (f.tidy t d off hm he).symm
  obtain⟨kq,sW,e',f',Sk⟩:=f1.GW (w':=c.w.alloc (.cells v.cells t)) d cs c.w.heap.size (.inl (aaN _)) (fun t off he=>absurd he (G0 t off))
   (fun b hb _=>alloc_old _ _ hb) (fun b hb _=>alloc_old _ _ (by omega)) (by simp) (by simp) hbs rfl rfl rfl
   (by
     have:=Fm (c':={c with w:=c.w.alloc (.cells v.cells t)}) (w1:=c.w) (C:=v.cells) (e:=t) rfl
     rwa [show v.cells.size=cs.length by rw [←abP,hv.length]] at this)
   (fun e'=>kD (w1:=c.w) (C:=v.cells) (e:=t) rfl (VRs.ext e' _ _ hv) (fun i _=>by simp) h1)
  have f2:=f'.set (d:=some d) (x:=.lp d 0) (v:=.pointer (some ⟨c.w.heap.size,0,none⟩)) (by simp only [SR,Sk,RS.box,beq_nat]; simp) (fun t ht=>by cases ht; rw [gU]; exact⟨hn ▸ JD,BG⟩)
  rw [JX] at f2
  have hs:(((s.set (some d) .any).box d cs).set (some d) (.lp d 0))=(s.box d cs).set (some d) (.lp d 0):=by
   rw [←RS.set_set (s.box d cs) (some d) .any]
   rfl
  rw [hs] at f2
  exact hK _ _ ⟨(gU _ _ _).trans hn,_,kq,sW,rfl,f2,e.trans e'⟩
 ·cases h
  obtain⟨β',e',f',hβ,hl⟩:=f.fresh hbs c.w ⟨rfl,rfl,rfl,rfl⟩ (.cells cs) (.cells v.cells t) (fun c' e' hw=>⟨_,mN hw,by rw [aa7,hv.length]; simp,
   kD (w1:=c.w) hw (VRs.ext e' _ _ hv) (fun i _=>by simp) h1⟩)
  rw [f.h] at f' e' hβ hl
  have f2:=f'.set (d:=some d) (x:=.ptr s.h.next 0) (v:=.pointer (some ⟨c.w.heap.size,0,none⟩)) (by
   simp only [SR,VR]
   exact⟨hl.1,_,rfl,fun _=>by rw [hβ]⟩) (fun t ht=>by cases ht; exact⟨hn ▸ JD,BG⟩)
  exact hK _ _ ⟨(gU _ _ _).trans hn,_,Lo,lam,rfl,f2,e.trans e'⟩
theorem Du {c:Cx}{L:Nat→Prop}{n:Nat}{x:AV}{v:Value}(h:VR c L x v):VR c L (wv n x) v:=by
 unfold wv
 split
 ·simp only [VR] at h ⊢
  exact .inl ⟨trivial,trivial,trivial,none,h⟩
 ·exact h
theorem Dv {c:Cx}{L:Nat→Prop}{n:Nat}:∀{cs:List AV} {vs:List Value} (j:Nat),VRs c L cs vs→VRs c L (BY n j cs) vs
 | [],vs,j,h=>h
 | x::cs,[],j,h=>h.elim
 | x::cs,v::vs,j,h=>by
  refine⟨?_,Dv (j+1) h.2⟩
  split
  ·exact h.1
  ·exact Du h.1
theorem Dw {c:Cx}{L:Nat→Prop}{n:Nat}:∀{cs:List AV} {vs:List Value},VRs c L cs vs→VRs c L (cs.map (wv n)) vs
 | [],vs,h=>h
 | x::cs,[],h=>h.elim
 | x::cs,v::vs,h=>⟨Du h.1,Dw h.2⟩
theorem JY {c:Cx}{L:Nat→Prop}{cs:List AV}{vs:List Value}(h:VRs c L cs vs):∀n,VRs c L (JS cs n) vs
 | 0=>h
 | n+1=>by
  have e:JS cs (n+1)=bif ab7 100 (n+1) then BY (n+1) 0 cs else cs.map (wv (n+1)):=rfl
  rw [e]
  cases ab7 100 (n+1)
  ·exact Dw h
  ·exact Dv 0 h
theorem Dx {c:Cx}{L:Nat→Prop}{aH:List Nat}{d:Option Nat}{cs:List AV}{vs:List Value}(h:VRs c L cs vs):VRs c L (BZ aH d cs) vs:=by
 unfold BZ
 split
 ·exact h
 ·exact JY h _
theorem JZ {c:Cx}{L:Nat→Prop}{aH:List Nat}{d:Option Nat}{x:AV}{v:Value}(h:VR c L x v):VR c L (Mf aH d x) v:=by
 unfold Mf
 split
 ·simp only [VR] at h ⊢
  obtain⟨vs,h1,h2⟩:=h
  exact⟨vs,h1,Dx h2⟩
 ·exact h
theorem Dy {n:Nat}{x:AV}(h:(wv n x).bY=true):x.bY=true:=by
 unfold wv at h
 split at h
 ·rfl
 ·exact h
theorem Dz {n:Nat}:∀{cs:List AV} (j:Nat),(BY n j cs).all AV.bY=true→cs.all AV.bY=true
 | [],j,h=>rfl
 | x::cs,j,h=>by
  rw [BY,abu,aaK] at h
  rw [abu,aaK]
  refine⟨?_,Dz (j+1) h.2⟩
  have h1:=h.1
  split at h1
  ·exact h1
  ·exact Dy h1
theorem DA {n:Nat}:∀{cs:List AV},(cs.map (wv n)).all AV.bY=true→cs.all AV.bY=true
 | [],h=>rfl
 | x::cs,h=>by
  rw [aa3,abu,aaK] at h
  rw [abu,aaK]
  exact⟨Dy h.1,DA h.2⟩
theorem J0 {aH:List Nat}{d:Option Nat}{cs:List AV}(h:(BZ aH d cs).all AV.bY=true):cs.all AV.bY=true:=by
 unfold BZ at h
 split at h
 ·exact h
 ·rename_i d'
  generalize GM aH d'=n at h
  cases n with
  | zero=>exact h
  | succ n=>
   have e:JS cs (n+1)=bif ab7 100 (n+1) then BY (n+1) 0 cs else cs.map (wv (n+1)):=rfl
   rw [e] at h
   cases hb:ab7 100 (n+1)
   ·rw [hb,cond_false] at h; exact DA h
   ·rw [hb,cond_true] at h; exact Dz 0 h
theorem Fo {c:Cx}{t:TypeId}{z:AV}(hz:jc P t=some z)(p4:z.cells.all AV.bY=true)(L:Nat→Prop):∃v:Value,(Instr.alloc t true (.tuple #[])).run P c.w = .ok (.pointer (some ⟨c.w.heap.size,0,none⟩)) (c.w.alloc (.cells v.cells t))∧VRs c L z.cells v.cells.toList∧∀u∈v.cells.toList,u.oneCell'=true:=by
 obtain⟨v,hr,hv⟩:=kC hz c.w
 obtain⟨h1,h2⟩:=jo p4 (mM (c:=c) (L:=L) hv)
 exact⟨v,by simp [Instr.alloc,hr,newVar,newRow],h1,h2⟩
theorem js (z:List AV):∀k,(jd z k).length=k*z.length
 | 0=>by simp [jd]
 | k+1=>by simp [jd,js z k,abW,ace]
theorem wZ (z:List AV):∀(k i:Nat),i<k*z.length→(jd z k)[i]? = z[i % z.length]?
 | 0,i,h=>by simp at h
 | k+1,i,h=>by
  rw [abW,Nat.one_mul] at h
  rw [jd]
  by_cases h1:i<z.length
  ·rw [aaX h1,Nat.mod_eq_of_lt h1]
  ·rw [aaZ (by omega),wZ z k _ (by omega),←Nat.mod_eq_sub_mod (show z.length≤i by omega)]
theorem rz {c:Cx}{L:Nat→Prop}{z:List AV}{zv:Array Value}(hz:VRs c L z zv.toList)(k m:Nat)(hm:k*z.length≤m)(Gw:z.length≠0) :
  VRs c L (jd z k) (((Array.range m).map (zv[· % zv.size]!)).toList.take (k*z.length)):=by
 have hl:=hz.length
 have key:∀(xs:List AV) (vs:List Value),xs.length=vs.length→(∀(i:Nat) x v,xs[i]? = some x→vs[i]? = some v→VR c L x v)→VRs c L xs vs:=by
  intro xs
  induction xs with
  | nil=>intro vs h _; cases vs with | nil=>trivial | cons _ _=>simp at h
  | cons x xs ih=>
   intro vs h mh
   cases vs with
   | nil=>simp at h
   | cons v vs=>
    refine⟨mh 0 x v rfl rfl,ih vs (by simpa using h) fun i y u hy hu=>mh (i+1) y u (by simpa using hy) (by simpa using hu)⟩
 refine key _ _ (by rw [js]; simp; omega) fun i x v hx hv=>?_
 have hi:i<k*z.length:=by
  have:=(aaM.1 hx).1
  rwa [js] at this
 rw [wZ z k i hi] at hx
 obtain⟨u,hu,hr⟩:=hz.get _ x hx
 rw [List.getElem?_take,if_pos hi] at hv
 have Dq:i<m:=by omega
 have sY:i % zv.size<zv.size:=Nat.mod_lt _ (by rw [←abP,←hl]; omega)
 have:v=zv[i % zv.size]!:=by
  simp [Dq] at hv
  exact hv.symm
 rw [show zv.toList.length=zv.size by simp] at hl
 rw [hl,Array.getElem?_toList,Array.getElem?_eq_getElem sY] at hu
 rw [this,getElem!_pos zv _ sY]
 cases hu
 exact hr
theorem mO (hb0:c0.base≤c0.w.heap.size)(hd:gV n ds o){ob:AObj}{x:AV}
  (h:∀a c Lo lam,Fr L0 c Lo lam ds s a→a.tmps.size=n→∃(obj:Obj) (v:Value),(execOp a.eval o).run P c.w = .ok (.value v) (c.w.alloc obj)∧
   (∀(c':Cx) (e:Ext c Lo c' Lo),c'.w=c.w.alloc obj→qa c' (un L0 Lo) c.w.heap.size 0 ob)∧
   (∀(c':Cx),c'.h=s.h.alloc ob→c'.w=c.w.alloc obj→c'.β s.h.next=(c.w.heap.size,0)→VR c' (un L0 Lo) x v)) (hx:∀k off,x≠.lp k off) :
  jS P L0 c0 n ds o s ({s with h:=s.h.alloc ob}.set o.dst x):=by
 rintro a w K Q ⟨hn,c,Lo,lam,rfl,f,e⟩ hK
 have hbs:=jO e hb0
 obtain⟨obj,v,hr,hob,hv⟩:=h a c Lo lam f hn
 unfold Oper.wp
 rw [hr,Oper.upon_value]
 obtain⟨β',e',f',hβ,hl⟩:=f.fresh hbs c.w ⟨rfl,rfl,rfl,rfl⟩ ob obj hob
 rw [f.h] at f' e' hβ hl
 have f2:=f'.set (d:=o.dst) (x:=x) (v:=v) (SR.of (hv _ rfl rfl hβ)) (fun t ht=>by rw [hn]; exact hd t ht)
 exact hK _ _ ⟨(gU _ _ _).trans hn,_,Lo,lam,rfl,f2,e.trans e'⟩
theorem Cc (hb0:c0.base≤c0.w.heap.size)(hd:gV n ds o){t:TypeId}(ho:o.op = .makeMap t none):jS P L0 c0 n ds o s ({s with h:=s.h.alloc (.map [])}.set o.dst (.mp s.h.next)):=by
 refine mO hb0 hd (fun a c Lo lam f hn=>⟨.map #[] 0,.map (some c.w.heap.size),by simp [execOp,ho,Instr.makeMap],fun c' e hw=>⟨#[],0,by rw [hw]; exact je _ _,trivial⟩,fun c' hh hw hβ=>?_⟩) (by rintro k off hh; cases hh)
 simp only [VR]
 exact⟨by rw [hh]; exact aby _,_,rfl,fun _=>by rw [hβ]⟩
theorem w0 {i:Int}(h0:0≤i)(h1:i≤1099511627776):IntKind.i64.wrap i=i:=IntWalk.i64_in _ (by omega)
theorem ya (hb0:c0.base≤c0.w.heap.size)(hd:gV n ds o){t:TypeId}{lx cx:Operand}(ho:o.op = .makeSlice t lx cx){s':RS}
  (h:((ij P s.h t (bQ s.ρ lx) (bQ s.ρ cx)).map fun (x,h)=>{s with h}.set o.dst x)=some s'):jS P L0 c0 n ds o s s':=by
 rw [aaI] at h
 obtain⟨⟨x,h'⟩,hm,rfl⟩:=h
 unfold ij at hm
 split at hm<;>try (cases hm; done)
 rename_i l cc hl hc
 rw [aaH] at hm
 obtain⟨d,G1,hm⟩:=hm
 cases d<;>simp only at hm<;>try (cases hm; done)
 rename_i e
 simp only [aaH] at hm
 obtain⟨i,hi,z,hz,hm⟩:=hm
 split at hm
 rotate_left
 ·cases hm
 rename_i kR
 obtain⟨h0,h1,h2,h3,h4,h5,h6⟩:=kR
 simp only [aaJ,aaQ] at hm
 obtain⟨rfl,rfl⟩:=hm
 refine mO hb0 hd (fun a c Lo lam f hn=>?_) (by rintro k off hh; cases hh)
 have XO:s.h.next≠0:=by have:=f.rel.ver 0; rw [f.h] at this; omega
 have mE:=(bI f lx)
 have OX:=(bI f cx)
 rw [hl] at mE
 rw [hc] at OX
 simp only [SR,VR] at mE OX
 obtain⟨zv,GS,Cb⟩:=kC hz c.w
 have Gx:(typeInfo e).run P c.w = .ok i c.w:=by simp [typeInfo,hi]
 have hsz:(sizeOf e).run P c.w = .ok i.size c.w:=dP (by simp [fM,hi]) c.w
 obtain⟨BH,hz1⟩:=jo h6 (mM (c:=c) (L:=un L0 Lo) Cb)
 have Gw:=BH.length
 have hl0:IntKind.i64.wrap l=l:=w0 h0 (by omega)
 have XP:IntKind.i64.wrap cc=cc:=w0 (by omega) h5
 have hroom:¬((i.bytes:Int)*cc > 2 ^ 48):=by
  rw [Int.mul_comm]; simp only [hZ] at h2; omega
 have hn0:cc.toNat*i.size=0∨cc.toNat*i.size≠0:=by omega
 have Cd:(Instr.makeSlice t (.int .i64 l) (.int .i64 cc)).run P c.w = .ok (.slice (some ⟨c.w.heap.size,0,none⟩) l.toNat cc.toNat)
   (c.w.alloc (.cells ((Array.range (cc.toNat*i.size)).map (zv.cells[· % zv.cells.size]!)) e)):=by
  unfold Instr.makeSlice
  simp only [Sem.run_bind,bB G1,Result.andThen_ok,asInt,asIntOf,Sem.run_pure,Gx,hl0,XP,hsz]
  rw [if_neg (by simp only [abw,decide_eq_true_eq,not_or]; exact⟨⟨⟨by omega,hroom⟩,by omega⟩,by omega⟩)]
  simp only [Sem.run_bind,run_askRoom,Result.andThen_ok,hsz,Sem.run_pure]
  by_cases hz0:cc.toNat*i.size=0
  ·have Sl:∀f:Nat→Value,Array.map f (Array.range 0) = #[]:=fun f=>by simp
   simp only [hz0,if_true,Sem.run_pure,Sem.run_bind,Result.andThen_ok,newRow,run_newObj,World.alloc_eq,Sl]
  ·simp only [hz0,if_false,Sem.run_bind,GS,Result.andThen_ok,Sem.run_pure,newRow,run_newObj,World.alloc_eq]
 have hle:l.toNat*z.cells.length≤cc.toNat*i.size:=by rw [h3]; exact abE _ (by omega)
 have hrow:∀(c':Cx) (e':Ext c Lo c' Lo),c'.w=c.w.alloc (.cells ((Array.range (cc.toNat*i.size)).map (zv.cells[· % zv.cells.size]!)) e)→
   qa c' (un L0 Lo) c.w.heap.size 0 (.cells (jd z.cells l.toNat)):=by
  intro c' e' hw
  refine⟨_,mN hw,by rw [js]; simp; omega,?_⟩
  have hv:=rz BH l.toNat (cc.toNat*i.size) hle (by omega)
  refine kD (w1:=c.w) hw (VRs.ext e' _ _ hv) (fun j hj=>?_) (fun u hu=>?_)
  ·rw [List.getElem?_take,if_pos (by simp at hj; omega),Array.getElem?_toList]
  ·have VW:=List.mem_of_mem_take hu
   simp only [Array.toList_map,abf] at VW
   obtain⟨j,hj,rfl⟩:=VW
   have sY:j % zv.cells.size<zv.cells.size:=Nat.mod_lt _ (by rw [←abP,←Gw]; omega)
   rw [getElem!_pos zv.cells _ sY]
   exact hz1 _ (by simp)
 have hex:(execOp a.eval o).run P c.w = .ok (.value (.slice (some ⟨c.w.heap.size,0,none⟩) l.toNat cc.toNat)) (c.w.alloc (.cells ((Array.range (cc.toNat*i.size)).map (zv.cells[· % zv.cells.size]!)) e)):=by
  simp only [execOp,ho,mE,OX,Sem.run_bind,Cd,Result.andThen_ok,Sem.run_pure]
 refine⟨_,_,hex,hrow,fun c' hh hw hβ=>?_⟩
 simp only [VR]
 refine .inr ⟨XO,by rw [hh]; exact aby _,_,_,rfl,by omega,rfl,fun _=>.inl ?_⟩
 rw [hβ]
 refine⟨rfl,?_⟩
 simp only [Cx.len,World.shape?,hw,je]
 simp
end
end Go.R
namespace Go.R
open Go
def mP:List Value→Nat→List Value→List Value
 | cs,_,[]=>cs
 | cs,i,v::vs=>mP (cs.set i v) (i+1) vs
theorem VRs.dv {c:Cx}{L:Nat→Prop}:∀{xs:List AV} {us:List Value} (i:Nat) {cs:List AV} {vs:List Value},VRs c L xs us→VRs c L cs vs→VRs c L (dv cs i xs) (mP vs i us)
 | [],[],i,cs,vs,_,h=>by
  have:R.dv cs i []=cs:=by cases cs<;>rfl
  rw [this]; cases vs<;>exact h
 | x::xs,u::us,i,cs,vs,h,k=>VRs.dv (i+1) h.2 (VRs.set h.1 i k)
 | [],_::_,_,_,_,h,_=>h.elim
 | _::_,[],_,_,_,h,_=>h.elim
theorem so:∀(us:List Value) (i:Nat) (vs:List Value),(∀v∈vs,v.oneCell'=true)→(∀u∈us,u.oneCell'=true)→∀v∈mP vs i us,v.oneCell'=true
 | [],i,vs,h,_,v,hv=>h v (by cases vs<;>exact hv)
 | u::us,i,vs,h,k,v,hv=>so us (i+1) (vs.set i u) (fun w hw=>by
   rcases List.mem_or_eq_of_mem_set hw with h1 | h1
   ·exact h w h1
   ·subst h1; exact k _ (by simp)) (fun w hw=>k w (by simp [hw])) v hv
theorem qd (off:Nat):∀(us:List Value) (j:Nat) (cells:Array Value),((us.zipIdx j).foldl (fun cs (p:Value × Nat)=>cs.setIfInBounds (off+p.2) p.1) cells).toList=mP cells.toList (off+j) us
 | [],j,cells=>by simp [mP]
 | u::us,j,cells=>by
  simp only [List.zipIdx_cons,List.foldl_cons]
  rw [qd off us (j+1)]
  simp [mP,abI]
section
variable {P:Program}{L0:Nat→Prop}{c0:Cx}{n:Nat}{ds:List Nat}{o:Oper}{s:RS}
def ur (c:Cx)(L:Nat→Prop):List (Nat × AV)→List (Nat × Value)→Prop
 | [],[]=>True
 | (i,x)::xs,(j,v)::vs=>(i=j∧(x.cells.all AV.bY=true→VR c L x v))∧ur c L xs vs
 | _,_=>False
theorem mQ {c:Cx}{L:Nat→Prop}(pl:Nat→Option (Nat × Nat)):∀{ps:List (Nat × AV)} {vs:List (Nat × Value)} {cs fQ:List AV} {C:Array Value},ur c L ps vs→VRs c L cs C.toList→(∀v∈C.toList,v.oneCell'=true)→tY pl cs ps=some fQ→
  ∃C':Array Value,Instr.fill pl C vs=some C'∧VRs c L fQ C'.toList∧∀v∈C'.toList,v.oneCell'=true
 | [],[],cs,fQ,C,_,hc,h1,h=>by
  simp only [tY,aaJ] at h
  subst h
  exact⟨C,rfl,hc,h1⟩
 | (i,x)::ps,(j,v)::vs,cs,fQ,C,hp,hc,h1,h=>by
  obtain⟨⟨rfl,hx⟩,Sm⟩:=hp
  simp only [tY,aaH] at h
  obtain⟨⟨off,size⟩,Dt,h⟩:=h
  simp only at h
  split at h
  ·rename_i kR
   obtain⟨h2,h3,h4⟩:=kR
   obtain⟨h5,h6⟩:=jo h3 (hx h3)
   have h7:v.cells.size=size:=by rw [←abP,←h5.length]; exact h2
   have h8:cs.length=C.size:=by rw [hc.length]; simp
   have hf:(v.cells.zipIdx.foldl (fun cs (p:Value × Nat)=>cs.setIfInBounds (off+p.2) p.1) C).toList=mP C.toList off v.cells.toList:=by
    rw [←Array.foldl_toList,Array.toList_zipIdx]
    exact qd off v.cells.toList 0 C
   obtain⟨C',h9,h10,h11⟩:=mQ pl (C:=v.cells.zipIdx.foldl (fun cs (p:Value × Nat)=>cs.setIfInBounds (off+p.2) p.1) C) Sm (by rw [hf]; exact VRs.dv off h5 hc) (by rw [hf]; exact so _ _ _ h1 h6) h
   refine⟨C',?_,h10,h11⟩
   simp only [Instr.fill,Dt]
   rw [if_neg (by simp only [abw,decide_eq_true_eq,not_or,ne_eq,Decidable.not_not]; exact⟨h7,by omega⟩)]
   exact h9
  ·cases h
 | [],_::_,_,_,_,h,_,_,_=>h.elim
 | _::_,[],_,_,_,h,_,_,_=>h.elim
theorem qe {c:Cx}{Lo:Nat→Prop}{lam:Nat→Nat}{a:Act}(f:Fr L0 c Lo lam ds s a):∀ps:List (Nat × Operand),ur c (un L0 Lo) (ps.map fun (i,x)=>(i,bQ s.ρ x)) (ps.map fun (i,x)=>(i,a.eval x))
 | []=>trivial
 | (i,x)::ps=>⟨⟨rfl,fun h=>(bI f x).tJ h⟩,qe f ps⟩
theorem sq {v:Value}{x:AV}(h:p7 v=some x):x.bY=true:=by
 unfold p7 at h
 split at h<;>first | (cases h; done) | (cases h; rfl)
theorem qf:∀{vs:List Value} {xs:List AV},sf vs=some xs→xs.all AV.bY=true
 | [],xs,h=>by simp [sf] at h; subst h; rfl
 | v::vs,xs,h=>by
  simp only [sf,aaH] at h
  obtain⟨x,hx,ys,hy,he⟩:=h
  cases he
  simp [sq hx,qf hy]
theorem pH {v:Value}{x:AV}(h:GK v=some x):x.cells.all AV.bY=true:=by
 unfold GK at h
 split at h
 ·rw [aaI] at h
  obtain⟨xs,hx,rfl⟩:=h
  exact qf hx
 ·have h1:=sq h
  cases x<;>simp_all [AV.cells,AV.bY]
theorem uu {c:Cx}(w:World):∀fs:List Field,(∀f∈fs,∃m,fM P f.type=some m)→(fs.mapM (m:=Sem) fun f=>do pure (f.offset,←sizeOf f.type)).run P w = .ok (fs.map fun f=>(f.offset,(fM P f.type).getD 0)) w
 | [],_=>by simp
 | f::fs,h=>by
  obtain⟨m,hm⟩:=h f (by simp)
  have ih:=uu (c:=c) w fs (fun g hg=>h g (by simp [hg]))
  simp only [List.mapM_cons,Sem.run_bind,dP hm,ih,hm,Sem.run_pure,Result.andThen_ok,aa3,abG]
theorem run_build {c:Cx}{L:Nat→Prop}{t:TypeId}{ps:List (Nat × AV)}{vs:List (Nat × Value)}{y:AV}(hp:ur c L ps vs)(h:BU P t ps=some y) :
  ∃v,(Instr.build t vs.toArray).run P c.w = .ok v c.w∧VR c L y v:=by
 unfold BU at h
 simp only [aaH] at h
 obtain⟨z,hz,d,hd,h⟩:=h
 obtain⟨zv,GS,Cb⟩:=kC hz c.w
 obtain⟨BH,hz1⟩:=jo (pH Cb) (mM (c:=c) (L:=L) Cb)
 cases d<;>simp only at h<;>try (cases h; done)
 ·rename_i len e
  simp only [aaH,aaI] at h
  obtain⟨m,hm,cs,hf,rfl⟩:=h
  obtain⟨C',h1,h2,_⟩:=mQ _ hp BH hz1 hf
  refine⟨.agg C',?_,by simp only [VR]; exact⟨C',rfl,h2⟩⟩
  unfold Instr.build
  simp [GS,bB hd,dP hm,h1]
 ·rename_i fs
  split at h
  rotate_left
  ·cases h
  rename_i OY
  have mh:∀f∈fs.toList,∃m,fM P f.type=some m:=fun f hf=>abk.1 (aa1.1 OY f hf)
  rw [aaI] at h
  obtain⟨cs,hf,rfl⟩:=h
  obtain⟨C',h1,h2,_⟩:=mQ _ hp BH hz1 hf
  refine⟨.agg C',?_,by simp only [VR]; exact⟨C',rfl,h2⟩⟩
  have XQ:=uu (P:=P) (c:=c) c.w fs.toList mh
  have Dt:(fun i=>(fs.toList.map fun f=>(f.offset,(fM P f.type).getD 0)).toArray[i]?)=BT P fs.toList:=by
   funext i
   simp only [BT,List.getElem?_toArray,abd]
   cases hi:fs.toList[i]? with
   | none=>rfl
   | some f=>
    obtain⟨m,hm⟩:=mh f (aaP hi)
    simp [hm]
  unfold Instr.build
  simp only [Sem.run_bind,GS,bB hd,Result.andThen_ok]
  rw [←Array.toArray_toList (xs:=fs),List.mapM_toArray]
  simp only [Sem.run_map,XQ,Result.andThen_ok]
  rw [Dt,h1]
  rfl
end
end Go.R
namespace Go.R
open Go
section
variable {P:Program}{L0:Nat→Prop}{c0:Cx}{n:Nat}{ds:List Nat}{o:Oper}{s:RS}
theorem uv (hb0:c0.base≤c0.w.heap.size)(hd:gV n ds o){x:AV}
  (h:∀a c Lo lam,Fr L0 c Lo lam ds s a→a.tmps.size=n→c.base≤c.w.heap.size→∃(w':World) (v:Value),(execOp a.eval o).run P c.w = .ok (.value v) w'∧(∀b,b<c.w.heap.size→iL c.w w' b)∧(∀id,Live c.h id→w'.heap[(c.β id).1]? = c.w.heap[(c.β id).1]?)∧(∀b,b<c.base→w'.heap[b]? = c.w.heap[b]?)∧c.w.heap.size≤w'.heap.size∧
   w'.os=c.w.os∧w'.tape=c.w.tape∧w'.output=c.w.output∧(Ext c Lo {c with w:=w'} Lo→VR {c with w:=w'} (un L0 Lo) x v)) (hx:∀k off,x≠.lp k off) :
  jS P L0 c0 n ds o s (s.set o.dst x):=by
 rintro a w K Q ⟨hn,c,Lo,lam,rfl,f,e⟩ hK
 obtain⟨w',v,hr,h1,XR,h2,h3,h4,h5,h6,hv⟩:=h a c Lo lam f hn (jO e hb0)
 obtain⟨e',f'⟩:=f.world h1 XR h2 h3 h4 h5 h6
 unfold Oper.wp
 rw [hr,Oper.upon_value]
 exact hK _ _ ⟨(gU _ _ _).trans hn,_,Lo,lam,rfl,f'.set (SR.of (hv e')) (fun t ht=>by rw [hn]; exact hd t ht),e.trans e'⟩
theorem G2 {c c':Cx}{Lo:Nat→Prop}(r:HRel c (un L0 Lo))(hβ:c'.β=c.β)(hh:c'.h=c.h):RO c' (un L0 Lo) c.w.heap.size:=by
 refine⟨fun id hl he=>?_,fun hL=>?_⟩
 ·rw [hh] at hl
  rw [hβ] at he
  have:=r.block hl; omega
 ·have:=r.bd _ hL; omega
theorem n6 {c:Cx}{L:Nat→Prop}{t:TypeId}{len:Nat}{ps:List (Nat × AV)}{vs:List (Nat × Value)}{y:AV}(hp:ur c L ps vs)(h:ig P t len ps=some y) :
  (y = .fz [] 0 true∧∃e,(Instr.buildSlice t len vs.toArray).run P c.w = .ok (.slice (some ⟨c.w.heap.size,0,none⟩) 0 0) (c.w.alloc (.cells #[] e)))∨
  ∃cs C e,y = .fz cs len true∧(Instr.buildSlice t len vs.toArray).run P c.w = .ok (.slice (some ⟨c.w.heap.size,0,none⟩) len len) (c.w.alloc (.cells C e))∧VRs c L cs C.toList∧∀v∈C.toList,v.oneCell'=true:=by
 unfold ig at h
 rw [aaH] at h
 obtain⟨d,hd,h⟩:=h
 cases d<;>simp only at h<;>try (cases h; done)
 rename_i e
 rw [aaH] at h
 obtain⟨m,hm,h⟩:=h
 split at h
 ·cases h
 rename_i OZ
 have uk:m≠0:=fun h=>OZ (.inl h)
 have O0:¬(len*m > 2 ^ 24):=fun h=>OZ (.inr (by omega))
 split at h
 ·rename_i hl0
  subst hl0
  split at h
  ·rename_i Sn
   cases h
   have Sm:ps=[]:=by simpa using Sn
   subst Sm
   cases vs with
   | cons _ _=>exact hp.elim
   | nil=>
   refine .inl ⟨rfl,e,?_⟩
   unfold Instr.buildSlice
   simp only [Sem.run_bind,bB hd,dP hm,Result.andThen_ok,Nat.zero_mul,if_true,Sem.run_pure]
   have Sl:∀f:Nat→Value,Array.map f (Array.range 0) = #[]:=fun f=>by simp
   simp only [Instr.fill,newRow,Sl,Sem.run_bind,run_newObj,Result.andThen_ok,Sem.run_pure,World.alloc_eq]
   rfl
  ·cases h
 ·rename_i hl0
  rw [aaH] at h
  obtain⟨z,hz,h⟩:=h
  split at h
  rotate_left
  ·cases h
  rename_i Gw
  rw [aaI] at h
  obtain⟨cs,hf,rfl⟩:=h
  obtain⟨zv,GS,Cb⟩:=kC hz c.w
  obtain⟨BH,hz1⟩:=jo (pH Cb) (mM (c:=c) (L:=L) Cb)
  have hz0:=rz BH len (len*m) (by rw [Gw]; exact aaN _) (by omega)
  rw [abo (by simp [Gw])] at hz0
  have hz2:∀u∈((Array.range (len*m)).map (zv.cells[· % zv.cells.size]!)).toList,u.oneCell'=true:=by
   intro u hu
   simp only [Array.toList_map,abf] at hu
   obtain⟨j,hj,rfl⟩:=hu
   have sY:j % zv.cells.size<zv.cells.size:=Nat.mod_lt _ (by rw [←abP,←BH.length]; omega)
   rw [getElem!_pos zv.cells _ sY]
   exact hz1 _ (by simp)
  obtain⟨C',h1,h2,h3⟩:=mQ _ hp hz0 hz2 hf
  refine .inr ⟨cs,C',e,rfl,?_,h2,h3⟩
  have hne:len*m≠0:=Nat.mul_ne_zero hl0 uk
  unfold Instr.buildSlice
  simp only [Sem.run_bind,bB hd,dP hm,Result.andThen_ok,O0,hne,if_false,Sem.run_pure,GS]
  rw [h1]
  simp [newRow]
theorem wA (hb0:c0.base≤c0.w.heap.size)(hd:gV n ds o){t:TypeId}{len:Nat}{ps:Array (Nat × Operand)}(ho:o.op = .buildSlice t len ps){y:AV}
  (h:ig P t len (ps.toList.map fun (i,x)=>(i,bQ s.ρ x))=some y):jS P L0 c0 n ds o s (s.set o.dst y):=by
 refine uv hb0 hd (fun a c Lo lam f hn hbs=>?_) ?_
 ·have hp:=qe f ps.toList
  have hex:∀v w',(Instr.buildSlice t len (ps.toList.map fun (i,x)=>(i,a.eval x)).toArray).run P c.w = .ok v w'→(execOp a.eval o).run P c.w = .ok (.value v) w':=by
   intro v w' hr
   have he:ps.map (fun (i,x)=>(i,a.eval x))=(ps.toList.map fun (i,x)=>(i,a.eval x)).toArray:=by
    apply acg; simp
   simp only [execOp,ho,Sem.run_bind]
   rw [he,hr]
   rfl
  rcases n6 hp h with⟨rfl,e,hr⟩| ⟨cs,C,e,rfl,hr,hv,h1⟩
  ·refine⟨_,_,hex _ _ hr,fun b hb=>.inl (alloc_old _ _ hb),fun id hl=>alloc_old _ _ (f.rel.block hl),fun b hb=>alloc_old _ _ (by omega),by simp,rfl,rfl,rfl,fun _=>by simp only [VR]; exact⟨_,_,rfl,aaN _,fun _=>rfl,.inl rfl,.inl trivial⟩⟩
  ·refine⟨_,_,hex _ _ hr,fun b hb=>.inl (alloc_old _ _ hb),fun id hl=>alloc_old _ _ (f.rel.block hl),fun b hb=>alloc_old _ _ (by omega),by simp,rfl,rfl,rfl,fun e'=>?_⟩
   simp only [VR]
   exact⟨_,_,rfl,aaN _,fun _=>rfl,.inl rfl,.inr ⟨c.w.heap.size,0,rfl,G2 f.rel rfl rfl,fun _=>hbs,kD (w1:=c.w) rfl (VRs.ext e' _ _ hv) (fun i _=>by simp) h1⟩⟩
 ·rintro k off rfl
  unfold ig at h
  rw [aaH] at h
  obtain⟨d,_,h⟩:=h
  cases d<;>simp only at h<;>try (cases h; done)
  rw [aaH] at h
  obtain⟨m,_,h⟩:=h
  split at h
  ·cases h
  ·split at h
   ·split at h<;>cases h
   ·rw [aaH] at h
    obtain⟨z,_,h⟩:=h
    split at h
    ·rw [aaI] at h
     obtain⟨_,_,h⟩:=h
     cases h
    ·cases h
theorem zR {aH:List Nat}{t:TypeId}{y:AV}{cs:List AV}{k z:Nat}(h:pE P aH o t y=some (cs,k,z)):y = .fz cs k true∧cs.length=k*z∧cs≠[]:=by
 unfold pE at h
 split at h
 ·rename_i d c fQ k' hd
  cases hc:aH.contains d with
  | false=>rw [hc] at h; cases h
  | true=>
   rw [hc] at h
   simp only [cond_true] at h
   split at h
   ·split at h
    ·rename_i z' hz
     cases hb:abq (c::fQ).length (k'*z') with
     | false=>rw [hb] at h; cases h
     | true=>
      rw [hb] at h
      simp only [cond_true,aaJ,aaQ] at h
      obtain⟨rfl,rfl,rfl⟩:=h
      exact⟨rfl,abR hb,by simp⟩
    ·cases h
   ·cases h
 ·cases h
theorem uw (hb0:c0.base≤c0.w.heap.size)(hd:gV n ds o){t:TypeId}{len:Nat}{ps:Array (Nat × Operand)}(ho:o.op = .buildSlice t len ps){y:AV}(aH:List Nat)
  (h:ig P t len (ps.toList.map fun (i,x)=>(i,bQ s.ρ x))=some y):jS P L0 c0 n ds o s (ru P aH s o t y):=by
 have key:=wA (L0:=L0) hb0 hd ho h
 unfold ru
 cases Mn:pE P aH o t y with
 | none=>exact key
 | some q=>
 obtain⟨Ry,n1,z⟩:=q
 obtain⟨rfl,hlen,hne⟩:=zR Mn
 have fin:=mO (P:=P) (L0:=L0) (c0:=c0) (o:=o) (s:=s) hb0 hd (ob:=.cells Ry) (x:=.rs s.h.next 0 n1 z) (fun a c Lo lam f hn=>by
  have hp:=qe f ps.toList
  have hex:∀v w',(Instr.buildSlice t len (ps.toList.map fun (i,x)=>(i,a.eval x)).toArray).run P c.w = .ok v w'→(execOp a.eval o).run P c.w = .ok (.value v) w':=by
   intro v w' hr
   have he:ps.map (fun (i,x)=>(i,a.eval x))=(ps.toList.map fun (i,x)=>(i,a.eval x)).toArray:=by
    apply acg; simp
   simp only [execOp,ho,Sem.run_bind]
   rw [he,hr]
   rfl
  rcases n6 hp h with⟨he,_⟩| ⟨cs,C,e,he,hr,hv,h1⟩
  ·cases he; exact absurd rfl hne
  ·cases he
   have O3:C.size=Ry.length:=by rw [←abP,←hv.length]
   refine⟨_,_,hex _ _ hr,fun c' e' hw=>⟨_,mN (w1:=c.w) hw,by rw [O3,aa7]; exact aaN _,kD (w1:=c.w) hw (VRs.ext e' _ _ hv) (fun i _=>by simp) h1⟩,fun c' hh hw hβ=>?_⟩
   simp only [VR]
   refine .inr ⟨(by have:=f.rel.ver 0; rw [f.h] at this; omega),by rw [hh]; exact aby _,_,_,rfl,aaN _,rfl,fun _=>.inl ?_⟩
   rw [hβ]
   refine⟨rfl,?_⟩
   simp only [Cx.len,World.shape?,hw,je]
   simp only [aaO,abG,O3,hlen,aa7]) (by rintro k off hh; cases hh)
 exact fin
theorem rA {c:Cx}{Lo:Nat→Prop}{lam:Nat→Nat}{a:Act}(f:Fr L0 c Lo lam ds s a){tx:TypeId}{size m:Nat}{x:AV}{v:Value}{new:List AV}(hx:SR c L0 Lo lam s.bx x v)
  (hk:(∃e',P.underlying tx=some (.slice e'))∨P.underlying tx=some .string) (DB:∀st,x = .str st→P.underlying tx=some .string) (On:(∀st,x≠.str st)→∃e',P.underlying tx=some (.slice e')) (h:eT s.h size x=some (new,m)) :
  ∃news,Src P size tx v m news c.w∧VRs c (un L0 Lo) new news:=by
 unfold eT at h
 cases x<;>simp only at h<;>try (cases h; done)
 ·rename_i st
  split at h
  ·rename_i h1
   subst h1
   cases h
   simp only [SR,VR] at hx
   subst hx
   refine⟨_,Src.ofString c.w (DB st rfl) st,?_⟩
   unfold byteCells
   generalize st.data.toList=l
   induction l with
   | nil=>trivial
   | cons b l ih=>exact⟨by simp [VR],ih⟩
  ·cases h
 ·cases h
  obtain⟨e',he⟩:=On (by rintro st h; cases h)
  simp only [SR,VR] at hx
  subst hx
  exact⟨[],Src.ofNil c.w he 0,trivial⟩
 ·rename_i cs k ex
  split at h
  ·rename_i hl
   cases h
   obtain⟨e',he⟩:=On (by rintro st h; cases h)
   simp only [SR,VR] at hx
   obtain⟨ad,cap,rfl,h1,h2,_,hc⟩:=hx
   rcases hc with rfl | ⟨b,o',rfl,hr,hex,hc⟩
   ·have hl0:m*size=0:=by simpa using hl.symm
    cases ad with
    | none=>
     refine⟨[],⟨.inl ⟨e',he⟩,fun _=>rfl,run_firstCells_none c.w size m m cap,run_firstCells_none c.w.drew size m m cap,by simpa using hl,fun _ h=>by cases h⟩,trivial⟩
    | some ad=>exact⟨[],Src.ofSlice c.w he ad m cap [] (by simpa using hl) (fun j u hu=>by simp at hu) (fun u hu=>by cases hu),trivial⟩
   ·obtain⟨vs,q1,q2,q3⟩:=hc.vals
    refine⟨vs,Src.ofSlice c.w he _ m cap vs (by rw [←q1.length]; exact hl) (fun j u hu=>?_) q3,q1⟩
    rw [addr_add,q2 j (by rw [q1.length]; exact (aaM.1 hu).1)]
    exact hu
  ·cases h
 ·rename_i id off k jb
  split at h
  ·rename_i hid
   split at h
   rotate_left
   ·cases h
   rename_i Rx
   cases h
   obtain⟨e',he⟩:=On (by rintro st h; cases h)
   simp only [SR,VR] at hx
   rcases hx with⟨_,_,_,a,rfl⟩| ⟨_,_,a,cap,rfl,_,h2,_⟩
   rotate_left
   ·cases a with
    | none=>cases h2
    | some ad=>subst Rx; exact⟨[],Src.ofSlice c.w he ad 0 cap [] (by simp) (fun j u hu=>by simp at hu) (fun u hu=>by cases hu),trivial⟩
   cases a with
   | none=>exact⟨[],Src.ofNil c.w he 0,trivial⟩
   | some ad=>exact⟨[],Src.ofSlice c.w he ad 0 0 [] (by simp) (fun j u hu=>by simp at hu) (fun u hu=>by cases hu),trivial⟩
  rename_i ll
  rw [aaH] at h
  obtain⟨ob,hob,h⟩:=h
  cases ob with
  | map es=>cases h
  | row t cs=>cases h
  | cells cs=>
  simp only at h
  split at h
  ·rename_i hh
   obtain⟨rfl,hle⟩:=hh
   cases h
   obtain⟨e',he⟩:=On (by rintro st h; cases h)
   simp only [SR,VR] at hx
   rcases hx with hx | ⟨_,hid,ad,cap,rfl,h1,h2,h3⟩
   ·exact absurd (.inl hx.1) ll
   rw [←f.h] at hob
   have hl:Live c.h id:=⟨f.rel.lt _ _ hob,by simp [hob]⟩
   obtain⟨q,hp,hm,hc⟩:=f.rel.obj _ _ hob
   have hc2:=(hc.drop off).take (m*jb)
   have hlen:((cs.drop off).take (m*jb)).length=m*jb:=by simp; omega
   obtain⟨vs,q1,q2,q3⟩:=hc2.vals
   rcases h3 hl with⟨h5,h4⟩| hcap
   ·subst h5
    refine⟨vs,Src.ofSlice c.w he _ m cap vs (by rw [←q1.length]; exact hlen) (fun j u hu=>?_) q3,q1⟩
    rw [addr_add,q2 j (by rw [q1.length]; exact (aaM.1 hu).1)]
    exact hu
   ·have uk:m=0:=by omega
    subst uk
    simp only [Nat.zero_mul,List.take_zero] at q1 ⊢
    cases ad with
    | none=>simp at h2
    | some ad=>exact⟨[],Src.ofSlice c.w he ad 0 cap [] (by simp) (fun j u hu=>by simp at hu) (fun u hu=>by cases hu),trivial⟩
  ·cases h
end
end Go.R
namespace Go.R
open Go
section
variable {P:Program}{L0:Nat→Prop}{c0:Cx}{n:Nat}{ds:List Nat}{o:Oper}{s:RS}
theorem grownCap_ge (w:World){need old:Nat}{e:TypeId}:need≤grownCap w need old e:=by
 unfold grownCap
 simp only [Question.cut]
 omega
theorem ux (z:Array Value)(k:Nat):(Builtin.zeroCells z k).size=k*z.size:=by simp [Builtin.zeroCells]
theorem iW (w:World){t tx ty e:TypeId}{i:TypeInfo}(ht:P.underlying t=some (.slice e))(hi:P.info? e=some i){base:Option Addr}{len cap:Nat}(hlc:len≤cap){x:Value}{news:List Value}(hs:Src P i.size tx x 0 news w) :
  (Builtin.append_ #[t,tx] ty #[.slice base len cap,x]).run P w = .ok (.slice base len cap) w:=by
 have O4:news=[]:=abt (by rw [hs.newsLen]; simp)
 have hc:=hs.cells
 rw [O4] at hc
 rcases hs.kind with⟨e',hk⟩| hk<;>cases base<;>simp [Builtin.append_,run_underlying ht,run_underlying hk,sizeOf,typeInfo,hi,hs.len,hlc,hc,storeCells]
theorem yb {c:Cx}{b m:Nat}(hp:Plain c b m){j:Nat}(hj:j<m):c.w.frozen? ⟨b,j,none⟩=false:=by
 obtain⟨C,e,lo,hi,hb,hf,rfl⟩:=hp
 simp only [World.frozen?,hb]
 rcases hf with hf | hf
 ·subst hf; simp
 ·simp; omega
theorem Fr.grown {c:Cx}{Lo:Nat→Prop}{lam:Nat→Nat}{a:Act}(f:Fr L0 c Lo lam ds s a)(hbs:c.base≤c.w.heap.size){e:TypeId}{z:Value}{size need cap:Nat}(Gx:z.cells.size=size)(hcap:need≤cap){xs:List AV}{vs:List Value}(hv:VRs c (un L0 Lo) xs vs)(h1:∀v∈vs,v.oneCell'=true)
  (hl:vs.length=need*size) (h':AHeap) (hg:h'.get c.h.next=some (.cells xs)) (hst:Steady c.h h') (hn:c.h.next<h'.next) (ho:∀id,id≠c.h.next→h'.get id=none∨h'.get id=c.h.get id) :
  ∃c':Cx,c'.w=c.w.drew.alloc (.cells (vs.toArray++Builtin.zeroCells z.cells (cap - need)) e)∧c'.h=h'∧Ext c Lo c' Lo∧Fr L0 c' Lo lam ds {s with h:=h'} a∧VR c' (un L0 Lo) (.rs c.h.next 0 need size) (.slice (some ⟨c.w.heap.size,0,none⟩) need cap):=by
 have O3:(vs.toArray++Builtin.zeroCells z.cells (cap - need)).size=cap*size:=by
  rw [Array.size_append,ux,Gx,List.size_toArray,hl,←abW]
  congr 1; omega
 have XS:=hv.length
 obtain⟨β',e',f',hβ,hlive⟩:=f.GZ hbs c.w.drew ⟨rfl,rfl,rfl,rfl⟩ (.cells xs) (.cells (vs.toArray++Builtin.zeroCells z.cells (cap - need)) e) h' hg hst hn ho (fun c' e' hw=>by
  refine⟨_,mN (w1:=c.w.drew) hw,?_,kD (w1:=c.w.drew) hw (VRs.ext e' _ _ hv) (fun i hi=>?_) h1⟩
  ·rw [O3,aa7,XS,hl]; exact abE _ hcap
  ·rw [Array.getElem?_append_left (by simpa using hi)]; simp)
 refine⟨_,rfl,rfl,e',f',?_⟩
 simp only [VR]
 refine .inr ⟨(by have:=f.rel.ver 0; omega),hlive.1,_,_,rfl,hcap,rfl,fun _=>.inl ?_⟩
 rw [hβ]
 refine⟨rfl,?_⟩
 have:(c.w.drew.alloc (.cells (vs.toArray++Builtin.zeroCells z.cells (cap - need)) e)).heap[c.w.heap.size]? = some (.cells (vs.toArray++Builtin.zeroCells z.cells (cap - need)) e):=je c.w.drew _
 simp only [Cx.len,World.shape?,this,aaO,abG,O3]
 omega
theorem Fp (hb0:c0.base≤c0.w.heap.size)(hd:gV n ds o){t t2:TypeId}{sx xx:Operand}(ho:o.op = .call {callee:=.builtin .append,args:=#[sx,xx],argTypes:=#[t,t2]}){s':RS}
  (h:((dN P s.h t t2 (bQ s.ρ sx) (bQ s.ρ xx)).map fun (v,h)=>{s with h}.set o.dst v)=some s'):jS P L0 c0 n ds o s s':=by
 rw [aaI] at h
 obtain⟨⟨y,h'⟩,ha,rfl⟩:=h
 unfold dN at ha
 rw [aaH] at ha
 obtain⟨d,G1,ha⟩:=ha
 cases d<;>simp only at ha<;>try (cases ha; done)
 rename_i e
 rw [aaH] at ha
 obtain⟨i,hi,ha⟩:=ha
 rw [aaH] at ha
 obtain⟨⟨new,m⟩,Mo,ha⟩:=ha
 simp only at ha
 obtain⟨Mp,hcs,hnew⟩:∃Mp,eT s.h i.size (bQ s.ρ xx)=some (Mp,m)∧new=Mp.map kK:=by
  unfold gp at Mo
  rw [aaI] at Mo
  obtain⟨⟨p,q⟩,h1,h2⟩:=Mo
  simp only [aaQ] at h2
  obtain⟨rfl,rfl⟩:=h2
  exact⟨p,h1,rfl⟩
 split at ha
 ·cases ha
 rename_i kR
 have hsz0:i.size≠0:=fun h=>kR (.inl h)
 have ic:jm P t2 (bQ s.ρ xx)=true:=by
  cases hq:jm P t2 (bQ s.ρ xx) with
  | true=>rfl
  | false=>exact absurd (.inr (.inl hq)) kR
 obtain⟨zv,z,BH,Cb,Gw⟩:∃zv z,i.zero=some zv∧GK zv=some z∧z.cells.length=i.size:=by
  have hz:Lu i=true:=by
   cases hq:Lu i with
   | true=>rfl
   | false=>exact absurd (.inr (.inr hq)) kR
  unfold Lu at hz
  cases hq:i.zero.bind GK with
  | none=>rw [hq] at hz; cases hz
  | some z=>
   rw [hq] at hz
   obtain⟨zv,h1,h2⟩:=aaH.1 hq
   exact⟨zv,z,h1,h2,by simpa using hz⟩
 have Gx:∀c L,zv.cells.size=i.size:=fun (c:Cx) (L:Nat→Prop)=>by
  have:=(jo (pH Cb) (mM (c:=c) (L:=L) Cb)).1.length
  rw [Gw] at this
  simpa using this.symm
 have zN:(∃e',P.underlying t2=some (.slice e'))∨P.underlying t2=some .string:=by
  unfold jm at ic
  split at ic
  ·right; revert ic; split<;>simp_all
  ·left; revert ic; split<;>simp_all
 have DB:∀st,bQ s.ρ xx = .str st→P.underlying t2=some .string:=by
  intro st he
  rw [he] at ic
  simp only [jm] at ic
  revert ic; split<;>simp_all
 have On:(∀st,bQ s.ρ xx≠.str st)→∃e',P.underlying t2=some (.slice e'):=by
  intro hne
  unfold jm at ic
  split at ic
  ·rename_i st he; exact absurd he (hne st)
  ·revert ic; split<;>simp_all
 rintro a w K Q ⟨hn,c,Lo,lam,rfl,f,e0⟩ hK
 have hbs:=jO e0 hb0
 obtain⟨news,hS,Lz⟩:=rA (P:=P) f (bI f xx) zN DB On hcs
 replace Lz:VRs c (un L0 Lo) new news:=hnew ▸ ui Lz
 have hex:∀v w',(Builtin.append_ #[t,t2] o.type #[a.eval sx,a.eval xx]).run P c.w = .ok v w'→(execOp a.eval o).run P c.w = .ok (.value v) w':=by
  intro v w' hr
  unfold execOp
  simp only [ho,resolve,invoke,builtin,Sem.run_bind,Sem.run_pure,Result.andThen_ok,List.map_toArray,aa3,acf,hr]
 have fin:∀c' v,(Builtin.append_ #[t,t2] o.type #[a.eval sx,a.eval xx]).run P c.w = .ok v c'.w→Ext c Lo c' Lo→Fr L0 c' Lo lam ds {s with h:=h'} a→VR c' (un L0 Lo) y v→o.wp P a c.w K Q:=by
  intro c' v hr e' f' hv
  unfold Oper.wp
  rw [hex v _ hr,Oper.upon_value]
  exact hK _ _ ⟨(gU _ _ _).trans hn,c',Lo,lam,rfl,f'.set (SR.of hv) (fun t ht=>by rw [hn]; exact hd t ht),e0.trans e'⟩
 have DC:=bI f sx
 have h63:∀k:Nat,k≤hZ→(k:Int)≤9223372036854775807:=fun k hk=>by simp only [hZ] at hk; omega
 have hfit:∀need old,old<need→need*i.bytes≤hZ→Builtin.nextslicecap need old*i.bytes≤281474976710656:=fun need old h1 h2=>growslice_fits h1 (by simp only [hZ] at h2; omega)
 have hnl:=Lz.length
 have hone:=hS.one
 have zS:=hS.newsLen
 cases hq:bQ s.ρ sx with
 | nils=>
  rw [hq] at ha DC
  simp only [SR,VR] at DC
  obtain⟨ad,BF,XT⟩:∃ad:Option Addr,a.eval sx = .slice ad 0 0∧ad=none:=⟨none,DC,rfl⟩
  simp only at ha
  split at ha
  ·cases ha
  rename_i hroom
  split at ha
  ·rename_i uk
   subst uk
   cases ha
   refine fin c (.slice ad 0 0) ?_ (Ext.refl _ _) f (by simp only [VR]; exact .inl ⟨trivial,trivial,trivial,ad,rfl⟩)
   rw [BF]
   exact iW c.w G1 hi (aaN _) hS
  ·rename_i uk
   cases ha
   have hold:(Builtin.firstCells i.size 0 (.slice ad 0 0)).run P c.w.drew = .ok ([]:List Value).toArray c.w.drew:=by
    cases ad with
    | none=>exact run_firstCells_none _ _ _ _ _
    | some ad=>exact run_firstCells_some _ _ _ _ _ _ [] (by simp) (fun j v hj=>by simp at hj)
   have hr:=run_append_grow_src c.w t t2 o.type e i zv G1 hi BH ad 0 0 [] hold (a.eval xx) m news hS (by omega) (by rw [aa7]; exact h63 _ (by omega)) (hfit _ _ (by omega) (by rw [aa7]; omega))
   simp only [aa7,abr] at hr
   obtain⟨c',hw,hh,e',f',hv⟩:=f.grown hbs (e:=e) (Gx c L0) (grownCap_ge c.w (need:=m) (old:=0) (e:=e)) Lz hone zS (s.h.alloc (.cells new)) (by rw [f.h]; simp [AHeap.alloc,AHeap.put,beq_nat]) (by rw [f.h]; exact Steady.put _ _ _) (by rw [f.h]; exact aby _) (fun id hne=>.inr (by rw [f.h] at hne ⊢; simp [AHeap.alloc,AHeap.put,beq_nat,hne]))
   refine fin c' _ ?_ e' f' (by rw [←f.h]; exact hv)
   rw [BF,hw]
   exact hr
 | fz cs len ex=>
  rw [hq] at ha DC
  cases ex with
  | false=>simp only at ha; cases ha
  | true=>
  simp only [SR,VR] at DC
  obtain⟨ad,cap,BF,h1,h2,sr,hc⟩:=DC
  have hcap:=h2 trivial
  subst hcap
  simp only at ha
  split at ha
  ·cases ha
  rename_i hroom
  split at ha
  ·rename_i uk
   subst uk
   refine fin c (.slice ad cap cap) ?_ (Ext.refl _ _) (by split at ha<;>cases ha<;>exact f) ?_
   ·rw [BF]
    exact iW c.w G1 hi (aaN _) hS
   ·split at ha
    ·rename_i hz
     cases ha
     subst hz
     simp only [VR]
     exact .inl ⟨trivial,trivial,trivial,ad,rfl⟩
    ·cases ha
     simp only [VR]
     exact⟨ad,cap,rfl,h1,h2,sr,hc⟩
  ·rename_i uk
   cases ha
   have hcl:cs.length=cap*i.size:=by
    by_cases h3:cs.length=cap*i.size
    ·exact h3
    ·exact absurd (.inr (.inr h3)) hroom
   obtain⟨uy,Oo,Sp,LA⟩:∃uy:List Value,VRs c (un L0 Lo) cs uy∧(Builtin.firstCells i.size cap (.slice ad cap cap)).run P c.w.drew = .ok uy.toArray c.w.drew∧∀v∈uy,v.oneCell'=true:=by
    rcases hc with rfl | ⟨b,o',rfl,hr,XU,hc⟩
    ·refine⟨[],trivial,?_,fun _ h=>by cases h⟩
     cases ad with
     | none=>exact run_firstCells_none _ _ _ _ _
     | some ad=>exact run_firstCells_some _ _ _ _ _ _ [] (by simpa using hcl) (fun j v hj=>by simp at hj)
    ·obtain⟨vs,q1,q2,q3⟩:=hc.vals
     refine⟨vs,q1,run_firstCells_some _ _ _ _ _ _ vs (by rw [←q1.length]; exact hcl) (fun j v hj=>?_),q3⟩
     rw [World.cell?_drew,addr_add,q2 j (by rw [q1.length]; exact (aaM.1 hj).1)]
     exact hj
   have J1:=Oo.length
   have hr:=run_append_grow_src c.w t t2 o.type e i zv G1 hi BH ad cap cap uy Sp (a.eval xx) m news hS (by omega) (h63 _ (by omega)) (hfit _ _ (by omega) (by omega))
   obtain⟨c',hw,hh,e',f',hv⟩:=f.grown hbs (e:=e) (Gx c L0) (grownCap_ge c.w (need:=cap+m) (old:=cap) (e:=e)) (VRs.append Oo Lz) (fun v hv=>(abb.1 hv).elim (LA v) (hone v)) (by rw [aaR,zS,←J1,hcl,abW]) (s.h.alloc (.cells (cs++new))) (by rw [f.h]; simp [AHeap.alloc,AHeap.put,beq_nat]) (by rw [f.h]; exact Steady.put _ _ _) (by rw [f.h]; exact aby _) (fun id hne=>.inr (by rw [f.h] at hne ⊢; simp [AHeap.alloc,AHeap.put,beq_nat,hne]))
   refine fin c' _ ?_ e' f' (by rw [←f.h]; exact hv)
   rw [BF,hw]
   exact hr
 | rs id off len jb=>
  rw [hq] at ha DC
  simp only [SR,VR] at DC
  simp only at ha
  split at ha
  ·rename_i hid
   rcases DC with⟨_,hoff,O5,ad,BF⟩| DC
   rotate_left
   ·exact absurd hid DC.1
   split at ha
   ·cases ha
   rename_i hroom
   split at ha
   ·rename_i uk
    subst uk
    cases ha
    refine fin c (.slice ad 0 0) ?_ (Ext.refl _ _) f (by simp only [VR]; exact .inl ⟨hid,hoff,O5,ad,rfl⟩)
    rw [BF]
    exact iW c.w G1 hi (aaN _) hS
   ·rename_i uk
    cases ha
    have hold:(Builtin.firstCells i.size 0 (.slice ad 0 0)).run P c.w.drew = .ok ([]:List Value).toArray c.w.drew:=by
     cases ad with
     | none=>exact run_firstCells_none _ _ _ _ _
     | some ad=>exact run_firstCells_some _ _ _ _ _ _ [] (by simp) (fun j v hj=>by simp at hj)
    have hr:=run_append_grow_src c.w t t2 o.type e i zv G1 hi BH ad 0 0 [] hold (a.eval xx) m news hS (by omega) (by rw [aa7]; exact h63 _ (by omega)) (hfit _ _ (by omega) (by rw [aa7]; omega))
    simp only [aa7,abr] at hr
    obtain⟨c',hw,hh,e',f',hv⟩:=f.grown hbs (e:=e) (Gx c L0) (grownCap_ge c.w (need:=m) (old:=0) (e:=e)) Lz hone zS (s.h.alloc (.cells new)) (by rw [f.h]; simp [AHeap.alloc,AHeap.put,beq_nat]) (by rw [f.h]; exact Steady.put _ _ _) (by rw [f.h]; exact aby _) (fun id hne=>.inr (by rw [f.h] at hne ⊢; simp [AHeap.alloc,AHeap.put,beq_nat,hne]))
    refine fin c' _ ?_ e' f' (by rw [←f.h]; exact hv)
    rw [BF,hw]
    exact hr
  rename_i ll
  rcases DC with DC | ⟨_,hid,ad,cap,BF,h1,h2,h3⟩
  ·exact absurd DC.1 ll
  simp only [aaH] at ha
  obtain⟨ob,hob,ha⟩:=ha
  cases ob with
  | map es=>cases ha
  | row t cs=>cases ha
  | cells cs=>
  simp only at ha
  split at ha
  ·cases ha
  rename_i hroom
  have wj:jb=i.size:=Decidable.byContradiction fun h=>hroom (.inl h)
  subst wj
  have hle:off+len*i.size≤cs.length:=Decidable.byContradiction fun h=>hroom (.inr (.inl (by omega)))
  rw [←f.h] at hob
  have hl:Live c.h id:=⟨f.rel.lt _ _ hob,by simp [hob]⟩
  obtain⟨q,hp,hm,hc⟩:=f.rel.obj _ _ hob
  split at ha
  ·rename_i uk
   subst uk
   cases ha
   refine fin c (.slice ad len cap) ?_ (Ext.refl _ _) f ?_
   ·rw [BF]
    exact iW c.w G1 hi h1 hS
   ·simp only [VR]
    exact .inr ⟨ll,hid,ad,cap,rfl,h1,h2,h3⟩
  ·rename_i uk
   cases ha
   have hc2:=(hc.drop off).take (len*i.size)
   have DD:((cs.drop off).take (len*i.size)).length=len*i.size:=by simp; omega
   obtain⟨uy,Oo,VX,LA⟩:=hc2.vals
   have J1:=Oo.length
   have hget:((s.h.kill id).put s.h.next (.cells ((cs.drop off).take (len*i.size)++new))).get c.h.next=some (.cells ((cs.drop off).take (len*i.size)++new)):=by rw [f.h]; simp [AHeap.put,beq_nat]
   have hnx:c.h.next<((s.h.kill id).put s.h.next (.cells ((cs.drop off).take (len*i.size)++new))).next:=by rw [f.h]; simp only [AHeap.put,AHeap.kill]; omega
   have hoth:∀lP,lP≠c.h.next→((s.h.kill id).put s.h.next (.cells ((cs.drop off).take (len*i.size)++new))).get lP=none∨((s.h.kill id).put s.h.next (.cells ((cs.drop off).take (len*i.size)++new))).get lP=c.h.get lP:=by
    intro lP hne
    rw [f.h] at hne ⊢
    by_cases h4:lP=id
    ·left; simp [AHeap.put,AHeap.kill,beq_nat,hne,h4]; rw [←h4]; simp [hne]
    ·right; simp [AHeap.put,AHeap.kill,beq_nat,hne,h4]
   by_cases G3:len+m≤cap
   ·
    rcases h3 hl with⟨h4,h5⟩| h4
    rotate_left
    ·omega
    subst h4
    have O6:c.len (c.β id).1=q:=by
     obtain⟨C,e',hb,mF⟩:=hp
     simp [Cx.len,World.shape?,hb,mF]
    rw [O6] at h5
    have O7:(len+m)*i.size≤cap*i.size:=abE _ G3
    rw [abW] at O7
    have O8:=hp
    obtain⟨C,e',hb,mF⟩:=hp
    have hr:=run_append_room_src c.w t t2 o.type e i G1 hi (c.β id).1 ((c.β id).2+off) len cap (a.eval xx) m news hS G3
     (fun j hj=>by
      rw [cell_of_block hb]
      have:(c.β id).2+off+len*i.size+j<C.size:=by omega
      simp [this])
     (fun j hj=>yb O8.lC (by omega))
    have Dt:ja c (c.β id).1 q:=O8
    obtain⟨q1,q2,q3,q4⟩:=hX news (c.β id).1 ((c.β id).2+off+len*i.size) c.w
    obtain⟨C',g1,g2,g3⟩:=fT news (c.β id).1 ((c.β id).2+off+len*i.size) c.w C e' (0,0) hb (by omega)
    have:=f.upd (w':=c.w.setCells (c.β id).1 ((c.β id).2+off+len*i.size) news) (β':=fun k=>if k=c.h.next then ((c.β id).1,(c.β id).2+off) else c.β k) (h':=(s.h.kill id).put s.h.next (.cells ((cs.drop off).take (len*i.size)++new))) c.h.next (.cells ((cs.drop off).take (len*i.size)++new))
     (by rw [f.h]; exact (Steady.kill _ _).trans (Steady.put _ _ _)) hnx hget (fun lP hne=>(hoth lP hne).imp (fun h=>h) (fun h=>⟨h,by simp [hne]⟩)) (fun h=>absurd h (Nat.lt_irrefl _))
     (.inr ⟨id,hl,by simp,.inr (by
      have:id≠s.h.next:=by rw [←f.h]; have:=hl.1; omega
      simp [AHeap.put,AHeap.kill,beq_nat,this])⟩)
     (fun _=>by simp [World.shape?,g1,Cx.len,hb,g2])
     (fun b _ hne=>dQ _ _ _ _ _ (by simpa using hne)) (fun b _ hne=>dQ _ _ _ _ _ (by simpa using hne)) (by rw [q1]; exact aaN _) hbs q2 q3 q4
     (fun ee=>by
      simp only [if_true]
      refine⟨q,Dt.setCells (by omega) _ _ _,?_,?_⟩
      ·rw [aaR,DD,hnl,zS]; omega
      ·refine Cells.of_vals (VRs.append (VRs.ext ee _ _ Oo) (VRs.ext ee _ _ Lz)) (fun j hj=>?_) (fun v hv=>(abb.1 hv).elim (LA v) (hone v))
       rw [cell_of_block g1,g3]
       rw [aaR] at hj
       by_cases h6:j<uy.length
       ·rw [if_neg (by omega),←cell_of_block hb,aaX h6]
        exact VX j (by omega)
       ·rw [if_pos (by omega),aaZ (by omega)]
        congr 1
        omega)
    obtain⟨Mq,XV⟩:=this
    refine fin _ (.slice (some ⟨(c.β id).1,(c.β id).2+off,none⟩) (len+m) cap) ?_ Mq XV ?_
    ·rw [BF]; exact hr
    ·simp only [VR,←f.h]
     refine .inr ⟨(by have:=f.rel.ver 0; omega),by rw [←f.h] at hnx; exact hnx,_,_,rfl,G3,rfl,fun _=>.inl ?_⟩
     simp only [if_true,ab5,true_and]
     simp only [Cx.len,World.shape?,g1,aaO,abG,g2]
     omega
   ·
    obtain⟨Sp⟩:Nonempty ((Builtin.firstCells i.size len (.slice ad len cap)).run P c.w.drew = .ok uy.toArray c.w.drew):=by
     rcases h3 hl with⟨h4,h5⟩| h4
     ·subst h4
      refine⟨run_firstCells_some _ _ _ _ _ _ uy (by rw [←J1,DD]) (fun j v hj=>?_)⟩
      rw [World.cell?_drew,addr_add,VX j (by rw [J1]; exact (aaM.1 hj).1)]
      exact hj
     ·have hz:len=0:=by omega
      subst hz
      have:uy=[]:=abt (by rw [←J1,DD]; simp)
      subst this
      cases ad with
      | none=>exact⟨run_firstCells_none _ _ _ _ _⟩
      | some ad=>exact⟨run_firstCells_some _ _ _ _ _ _ [] (by simp) (fun j v hj=>by simp at hj)⟩
    have hr:=run_append_grow_src c.w t t2 o.type e i zv G1 hi BH ad len cap uy Sp (a.eval xx) m news hS (by omega) (h63 _ (by omega)) (hfit _ _ (by omega) (by omega))
    obtain⟨c',hw,hh,e',f',hv⟩:=f.grown hbs (e:=e) (Gx c L0) (grownCap_ge c.w (need:=len+m) (old:=cap) (e:=e)) (VRs.append Oo Lz) (fun v hv=>(abb.1 hv).elim (LA v) (hone v)) (by rw [aaR,zS,←J1,DD,abW]) _ hget (by rw [f.h]; exact (Steady.kill _ _).trans (Steady.put _ _ _)) hnx hoth
    refine fin c' _ ?_ e' f' (by rw [←f.h]; exact hv)
    rw [BF,hw]
    exact hr
 | _=>rw [hq] at ha; simp only at ha; cases ha
end
end Go.R
