/- Part of the proof: ROps3, RMem, ROps4, RNew, RApp, RApp2, RApp3. -/
import Derived.Test.YtifafejidnjckaaGreatK0
import Derived.MapKept
import Derived.Laws.Slices
import Derived.Laws.IdiomCopy
import Derived.Deep.AppendSrc
import Derived.IntWalk
set_option linter.unusedVariables false
set_option linter.unusedSimpArgs false
set_option maxRecDepth 100000
open Array renaming getElem?_eq_some_iff → ajt, getElem?_setIfInBounds → ajU, length_toList → ajZ, getElem?_modify → aj3, ext' → akv
open Bool renaming and_eq_true → aiM, false_eq_true → aiW, or_eq_true → ajE
open List renaming getElem?_eq_some_iff → aiO, mem_of_getElem? → aiS, length_append → aiT, length_cons → aiX, getElem?_append_right → ai0, mem_append → ai3, getElem?_append_left → ai6, map_cons → ai9, mem_cons → aja, mem_map → ajc, all_eq_true → ajd, getElem?_map → aje, nil_append → ajj, take_of_length_le → ajp, eq_nil_of_length_eq_zero → ajs, all_cons → ajB, map_nil → akc
open Nat renaming le_refl → aiQ, zero_add → ajf, lt_of_lt_of_le → ajk, beq → ajy, lt_succ_self → ajz, le_trans → ajF, mul_le_mul_right → ajN, add_assoc → ajT, eq_of_beq_eq_true → aj2, add_mul → akb, add_right_comm → aki, add_zero → akj, ble → akn, add_comm → akt
open Option renaming bind_eq_some_iff → aiJ, map_eq_some_iff → aiK, map_some → aiR, isSome_iff_exists → aju, getD_some → ajR
open Option.some renaming injEq → aiL
open Prod.mk renaming injEq → aiV
namespace Go.R
open Go
section
variable {P:Program}{L0:Nat→Prop}{c0:Cx}{n:Nat}{ds:List Nat}{o:Oper}{s:RS}
theorem BI (a b:ByteArray):(a==b)=(a.data.toList==b.data.toList):=by
 cases a with | mk x=>cases b with | mk y=>
 show (x==y)=(x.toList==y.toList)
 rw [Bool.eq_iff_iff]
 simp [Array.toList_inj]
def place (k:AV):List (AV × AV)→List MapEntry→Nat→Option (Nat × Value)
 | (k',_)::es,m::ms,i=>if iY k k' then some (i,m.val) else place k es ms (i+1)
 | _,_,_=>none
theorem oD {c:Cx}{L:Nat→Prop}{d:TypeDesc}{k:AV}{kv:Value}(hd:(∃q,d = .int q)∨d = .string)(hk:k.jZ=some kv)(EF:(∃q a,k = .int q a)∨∃b,k = .str b) :
  ∀(es:List (AV × AV)) (ms:List MapEntry) (i:Nat),oW c L es ms→kQ k es≠none→(∀q a,k = .int q a→∃q',d = .int q')→(∀b,k = .str b→d = .string)→Instr.findNow d kv ms i=some (place k es ms i)
 | [],[],i,_,_,_,_=>rfl
 | (k',v)::es,m::ms,i,he,hf,h1,h2=>by
  simp only [kQ] at hf
  have hs:sameShape k k'=true:=by
   by_cases hs:sameShape k k'=true
   ·exact hs
   ·simp [hs] at hf
  simp only [hs,if_true] at hf
  obtain⟨⟨MK,_⟩,IG,A9⟩:=he
  have ZF:Instr.sameNow d kv m.key=some (iY k k'):=by
   rcases EF with⟨q,a,rfl⟩| ⟨b,rfl⟩
   ·obtain⟨q',rfl⟩:=h1 q a rfl
    cases k'<;>simp only [sameShape] at hs<;>try (cases hs; done)
    rename_i q2 a2
    simp only [beq_iff_eq] at hs
    subst hs
    simp only [VR] at MK
    simp only [AV.jZ,aiL] at hk
    subst hk
    rw [MK]
    simp [Instr.sameNow,iY,lg]
   ·have:=h2 b rfl
    subst this
    cases k' with
    | str b2=>
     simp only [VR] at MK
     simp only [AV.jZ,aiL] at hk
     subst hk
     rw [MK]
     simp only [Instr.sameNow,iY,lg,aiL]
     exact BI b b2
    | _=>cases hs
  simp only [Instr.findNow,ZF]
  cases hq:iY k k' with
  | true=>simp [place,hq]
  | false=>
   simp only [hq,aiW,if_false] at hf
   simp only [place,hq,aiW,if_false]
   exact oD hd hk EF es ms (i+1) A9 hf h1 h2
 | [],_::_,_,h,_,_,_=>h.elim
 | _::_,[],_,h,_,_,_=>h.elim
theorem mf {c:Cx}{L:Nat→Prop}{kt:TypeId}{k:AV}{kv:Value}(hk:jx P kt k=true)(EG:VR c L k kv)(w:World) :
  ∀(es:List (AV × AV)) (ms:List MapEntry) (i:Nat),oW c L es ms→kQ k es≠none→(Instr.findAsking kt kv ms i).run P w = .ok (place k es ms i) w
 | [],[],i,_,_=>rfl
 | (k',v)::es,m::ms,i,he,hf=>by
  simp only [kQ] at hf
  have hs:sameShape k k'=true:=by
   by_cases hs:sameShape k k'=true
   ·exact hs
   ·simp [hs] at hf
  simp only [hs,if_true] at hf
  obtain⟨⟨MK,_⟩,IG,A9⟩:=he
  have hq:=BH (P:=P) 9998 hk hs EG MK w
  simp only [Instr.findAsking,Op.equal,Op.maxDepth,Sem.run_bind,hq,Result.andThen_ok]
  cases h:iY k k' with
  | true=>simp [place,h]
  | false=>
   simp only [h,aiW,if_false] at hf
   simp only [place,h,aiW,if_false]
   exact mf hk EG w es ms (i+1) A9 hf
 | [],_::_,_,h,_=>h.elim
 | _::_,[],_,h,_=>h.elim
theorem BJ {c:Cx}{L:Nat→Prop}{kt:TypeId}{k:AV}{kv:Value}(hk:jx P kt k=true)(EG:VR c L k kv)(w:World){es:List (AV × AV)}{ms:List MapEntry}(he:oW c L es ms)(hf:kQ k es≠none) :
  (Instr.findKey kt kv ms).run P w = .ok (place k es ms 0) w:=by
 have Y4:=hk
 cases hd:P.underlying kt with
 | none=>simp [jx,hd] at hk
 | some d=>
 cases d<;>simp only [jx,hd] at hk<;>try (cases hk; done)
 ·rename_i q
  cases k<;>simp only at hk<;>try (cases hk; done)
  rename_i q2 a
  have hc:(AV.int q2 a).jZ=some kv:=by simp only [VR] at EG; simp [AV.jZ,EG]
  exact MapKept.run_findKey hd (oD (.inl ⟨q,rfl⟩) hc (.inl ⟨_,_,rfl⟩) es ms 0 he hf (fun _ _ _=>⟨q,rfl⟩) (fun b hb=>by cases hb))
 ·cases k<;>simp only at hk<;>try (cases hk; done)
  rename_i b
  have hc:(AV.str b).jZ=some kv:=by simp only [VR] at EG; simp [AV.jZ,EG]
  exact MapKept.run_findKey hd (oD (.inr rfl) hc (.inr ⟨_,rfl⟩) es ms 0 he hf (fun _ _ h=>by cases h) (fun b hb=>rfl))
 ·rw [run_findKey_eq w (by simp [hd])]
  exact mf Y4 EG w es ms 0 he hf
 ·rw [run_findKey_eq w (by simp [hd])]
  exact mf Y4 EG w es ms 0 he hf
theorem xt {c:Cx}{L:Nat→Prop}{k:AV}:∀(es:List (AV × AV)) (ms:List MapEntry) (i:Nat),oW c L es ms→(kQ k es=some none→place k es ms i=none)∧(∀v,kQ k es=some (some v)→∃j u,place k es ms i=some (j,u)∧VR c L v u)
 | [],[],i,_=>⟨fun _=>rfl,fun v h=>by simp [kQ] at h⟩
 | (k',v)::es,m::ms,i,he=>by
  obtain⟨⟨MK,_⟩,IG,A9⟩:=he
  obtain⟨h1,h2⟩:=xt es ms (i+1) A9
  simp only [kQ,place]
  by_cases hs:sameShape k k'=true
  ·simp only [hs,if_true]
   by_cases hq:iY k k'=true
   ·simp only [hq,if_true]
    exact⟨fun h=>(by cases h),fun u hu=>(by cases hu; exact⟨i,m.val,rfl,IG⟩)⟩
   ·simp only [hq,if_false,aiW]
    exact⟨h1,h2⟩
  ·simp [hs]
 | [],_::_,_,h=>h.elim
 | _::_,[],_,h=>h.elim
theorem nk {t:TypeId}{z:AV}(h:ls P t=some z)(w:World):∃v,(zeroValue t).run P w = .ok v w∧ME v=some z:=by
 unfold ls at h
 simp only [aiJ] at h
 obtain⟨i,hi,v,hv,hz⟩:=h
 exact⟨v,by simp [zeroValue,typeInfo,hi,hv],hz⟩
theorem EH {c:Cx}{Lo:Nat→Prop}{lam:Nat→Nat}{a:Act}(f:Fr L0 c Lo lam ds s a){t:TypeId}{m k y:AV}{mv kv:Value}{ok:Bool}(hm:SR c L0 Lo lam s.bx m mv)(hk:SR c L0 Lo lam s.bx k kv)
  (h:hZ P s.h t m k ok=some y):∃r,(Instr.lookup t mv kv ok).run P c.w = .ok r c.w∧VR c (un L0 Lo) y r:=by
 unfold hZ at h
 rw [aiJ] at h
 obtain⟨d,hd,h⟩:=h
 cases d<;>simp only at h<;>try (cases h; done)
 rename_i kt et
 split at h
 ·cases h
 rename_i Bi
 have Bi:jx P kt k=true:=by simpa using Bi
 rw [aiJ] at h
 obtain⟨es,A9,h⟩:=h
 have EG:VR c (un L0 Lo) k kv:=hk.vr (by rintro k0 off rfl; simp [jx] at Bi)
 obtain⟨ms,Wu,zj⟩:∃ms:Array MapEntry,((mv = .map none∧ms = #[])∨∃r clock,mv = .map (some r)∧c.w.heap[r]? = some (.map ms clock))∧oW c (un L0 Lo) es ms.toList:=by
  cases m<;>simp only at A9<;>try (cases A9; done)
  ·simp only [SR,VR] at hm
   cases A9
   exact⟨#[],.inl ⟨hm,rfl⟩,trivial⟩
  ·rename_i id
   rw [aiJ] at A9
   obtain⟨ob,ho,A9⟩:=A9
   cases ob with
   | cells cs=>cases A9
   | row t cs=>cases A9
   | map xo=>
   cases A9
   simp only [SR,VR] at hm
   obtain⟨hi,r,ZA,hr⟩:=hm
   rw [←f.h] at ho
   have hl:Live c.h id:=⟨f.rel.lt _ _ ho,by simp [ho]⟩
   obtain⟨oX,clock,h1,h2⟩:=f.rel.obj _ _ ho
   exact⟨oX,.inr ⟨r,clock,ZA,by rw [hr hl]; exact h1⟩,h2⟩
 rw [aiJ] at h
 obtain⟨fr,bI,h⟩:=h
 have ML:=BJ Bi EG c.w zj (by rw [bI]; simp)
 have TG:=tl (P:=P) ms.isEmpty 9998 Bi EG c.w
 obtain⟨p1,p2⟩:=xt (k:=k) es ms.toList 0 zj
 have hget:∀r clock,c.w.heap[r]? = some (.map ms clock)→(getObj r).run P c.w = .ok (.map ms clock) c.w:=fun r clock h1=>by simp [getObj,Sem.run,h1]
 cases fr with
 | none=>
  rw [aiK] at h
  obtain⟨z,hz,rfl⟩:=h
  obtain⟨zv,MM,Hg⟩:=nk hz c.w
  rw [p1 bI] at ML
  refine⟨if ok then .tuple #[zv,.bool false] else zv,?_,?_⟩
  ·unfold Instr.lookup
   rcases Wu with⟨rfl,rfl⟩| ⟨r,clock,rfl,h1⟩
   ·simp only [pure_bind,Sem.run_bind,cp hd,Result.andThen_ok,TG,ML,MM,Sem.run_pure]
   ·simp only [Sem.run_bind,cp hd,Result.andThen_ok,hget r clock h1,TG,ML,MM,Sem.run_pure]
  ·cases ok with
   | true=>simp only [if_true,VR]; exact⟨#[zv,.bool false],rfl,pJ Hg,by simp [VR],trivial⟩
   | false=>simpa using pJ Hg
 | some v=>
  obtain⟨j,u,hp,hv⟩:=p2 v bI
  rw [hp] at ML
  cases h
  refine⟨if ok then .tuple #[u,.bool true] else u,?_,?_⟩
  ·unfold Instr.lookup
   rcases Wu with⟨rfl,rfl⟩| ⟨r,clock,rfl,h1⟩
   ·simp only [pure_bind,Sem.run_bind,cp hd,Result.andThen_ok,TG,ML,Sem.run_pure]
   ·simp only [Sem.run_bind,cp hd,Result.andThen_ok,hget r clock h1,TG,ML,Sem.run_pure]
  ·cases ok with
   | true=>simp only [if_true,VR]; exact⟨#[u,.bool true],rfl,hv,by simp [VR],trivial⟩
   | false=>simpa using hv
theorem oW.length {c:Cx}{L:Nat→Prop}:∀{es:List (AV × AV)} {ms:List MapEntry},oW c L es ms→es.length=ms.length
 | [],[],_=>rfl
 | _::_,_::_,h=>by simp [oW.length h.2.2]
 | [],_::_,h=>h.elim
 | _::_,[],h=>h.elim
theorem MN {c:Cx}{Lo:Nat→Prop}{lam:Nat→Nat}{a:Act}(f:Fr L0 c Lo lam ds s a){x y:AV}{v:Value}{t:TypeId}(ts:Array TypeId)(ht:ts[0]? = some t)(hx:SR c L0 Lo lam s.bx x v)(h:za P s.h t x=some y)(ty:TypeId) :
  ∃r,(Builtin.len_ ts ty #[v]).run P c.w = .ok r c.w∧VR c (un L0 Lo) y r:=by
 unfold za at h
 rw [aiJ] at h
 obtain⟨d,hd,h⟩:=h
 unfold Builtin.len_
 cases d<;>simp only at h<;>try (cases h; done)
 ·cases x<;>simp only at h<;>try (cases h; done)
  cases h
  simp only [SR,VR] at hx
  subst hx
  exact⟨.int .i64 _,by simp [ht,cp hd,goInt]; rfl,by simp only [VR]⟩
 ·cases x with
  | nils=>
   cases h
   simp only [SR,VR] at hx
   obtain⟨a,rfl⟩:=hx
   exact⟨.int .i64 _,by simp [ht,cp hd,goInt]; rfl,by simp only [VR]⟩
  | fz cs m ex=>
   cases h
   simp only [SR,VR] at hx
   obtain⟨a,cap,rfl,_⟩:=hx
   exact⟨.int .i64 _,by simp [ht,cp hd,goInt]; rfl,by simp only [VR]⟩
  | rs id off m lq=>
   cases h
   simp only [SR,VR] at hx
   rcases hx with⟨_,_,rfl,a,rfl⟩| ⟨_,_,a,cap,rfl,_⟩
   ·exact⟨.int .i64 _,by simp [ht,cp hd,goInt]; rfl,by simp only [VR]; rfl⟩
   ·exact⟨.int .i64 _,by simp [ht,cp hd,goInt]; rfl,by simp only [VR]⟩
  | _=>cases h
 ·cases x with
  | qV=>
   cases h
   simp only [SR,VR] at hx
   subst hx
   exact⟨.int .i64 _,by simp [ht,cp hd,goInt]; rfl,by simp only [VR]⟩
  | mp id=>
   simp only [aiJ] at h
   obtain⟨ob,ho,h⟩:=h
   cases ob with
   | cells cs=>cases h
   | row t cs=>cases h
   | map es=>
   cases h
   simp only [SR,VR] at hx
   obtain⟨hi,r,rfl,hr⟩:=hx
   rw [←f.h] at ho
   have hl:Live c.h id:=⟨f.rel.lt _ _ ho,by simp [ho]⟩
   obtain⟨oX,clock,h1,h2⟩:=f.rel.obj _ _ ho
   rw [hr hl]
   refine⟨.int .i64 es.length,?_,by simp [VR]⟩
   have h3:=h2.length
   simp [ht,cp hd,getObj,Sem.run,h1,goInt,h3]
  | _=>cases h
end
end Go.R
namespace Go.R
open Go
theorem kR.len {c c':Cx}{b:Nat}(h:kR c.w c'.w b):c'.len b=c.len b:=by
 unfold Cx.len World.shape?
 rcases h with h | ⟨C,e,lo,hi,Qc,mZ,h1,h2,_⟩
 ·rw [h]
 ·rw [h1,h2]
theorem HRel.block {c:Cx}{L:Nat→Prop}(r:HRel c L){id:Nat}(hl:Live c.h id):(c.β id).1<c.w.heap.size:=by
 obtain⟨o,ho⟩:=aju.1 hl.2
 have h:=r.obj id o ho
 cases o with
 | cells cs=>obtain⟨n,h1,_⟩:=h; exact h1.lt
 | map es=>obtain⟨oX,clock,h1,_⟩:=h; exact (ajt.1 h1).1
 | row t cs=>obtain⟨_,C,h1,_⟩:=h; exact (ajt.1 h1).1
section
variable {L0:Nat→Prop}{c:Cx}{Lo:Nat→Prop}{lam:Nat→Nat}{ds:List Nat}{s:RS}{a:Act}
theorem Fr.world (f:Fr L0 c Lo lam ds s a){w':World}(hk:∀b,b<c.w.heap.size→kR c.w w' b)(Qv:∀id,Live c.h id→w'.heap[(c.β id).1]? = c.w.heap[(c.β id).1]?)(hx:∀b,b<c.base→w'.heap[b]? = c.w.heap[b]?)(hs:c.w.heap.size≤w'.heap.size)
  (h1:w'.os=c.w.os) (h2:w'.tape=c.w.tape) (h3:w'.output=c.w.output):Ext c Lo {c with w:=w'} Lo∧Fr L0 {c with w:=w'} Lo lam ds s a:=by
 have e:Ext c Lo {c with w:=w'} Lo:=by
  refine⟨aiQ _,fun id hi hl=>⟨hl,rfl,?_⟩,hs,fun b hb _ _=>hk b hb,hx,rfl,fun id hl=>.inr ⟨id,hl,rfl⟩,fun _ h=>h,fun _ h=>.inl h,h1,h2,h3⟩
  exact kR.len (c':={c with w:=w'}) (hk _ (f.rel.block hl))
 refine⟨e,f.h,⟨f.rel.lt,fun id o ho=>?_,f.rel.inj,f.rel.out,fun b hb=>ajk (f.rel.bd b hb) hs,f.rel.low,f.rel.ver⟩,fun t=>?_,fun k cs hb=>?_,f.inj,f.tidy,f.defers,f.MH⟩
 ·have hl:Live c.h id:=⟨f.rel.lt _ _ ho,by rw [ho]; rfl⟩
  exact (f.rel.obj id o ho).ext e (Qv id hl)
 ·exact (f.slot t).ext e (fun _ _ _=>⟨rfl,fun h=>h⟩)
 ·have ob:=f.box k cs hb
  exact ob.ext e (hk _ ob.plain.lt)
theorem Fr.upd (f:Fr L0 c Lo lam ds s a){w':World}{β':Nat→Nat × Nat}{h':AHeap}(uv:Nat)(ob:AObj)
  (hst:Steady c.h h') (htn:uv<h'.next) (hget:h'.get uv=some ob)
  (hcl:∀id,id≠uv→h'.get id=none∨(h'.get id=c.h.get id∧β' id=c.β id))
  (Wv:uv<c.h.next→Live c.h uv∧β' uv=c.β uv)
  (Ww:c.w.heap.size≤(β' uv).1∨∃vV,Live c.h vV∧(c.β vV).1=(β' uv).1∧(vV=uv∨h'.get vV=none))
  (hlen:(β' uv).1<c.w.heap.size→((w'.shape? (β' uv).1).map (·.2)).getD 0=c.len (β' uv).1)
  (hk:∀b,b<c.w.heap.size→b≠(β' uv).1→w'.heap[b]? = c.w.heap[b]?) (hx:∀b,b<c.base→b≠(β' uv).1→w'.heap[b]? = c.w.heap[b]?) (hs:c.w.heap.size≤w'.heap.size) (hbs:c.base≤c.w.heap.size)
  (h1:w'.os=c.w.os) (h2:w'.tape=c.w.tape) (h3:w'.output=c.w.output)
  (hob:∀(e:Ext c Lo ⟨β',h',w',c.base⟩ Lo),uE ⟨β',h',w',c.base⟩ (un L0 Lo) (β' uv).1 (β' uv).2 ob) :
  Ext c Lo ⟨β',h',w',c.base⟩ Lo∧Fr L0 ⟨β',h',w',c.base⟩ Lo lam ds {s with h:=h'} a:=by
 have hn:=hst.next
 have hold:∀id,id≠uv→Live h' id→Live c.h id∧β' id=c.β id:=by
  intro id hne hl
  rcases hcl id hne with h | ⟨h,hb⟩
  ·have:=hl.2; rw [h] at this; cases this
  ·have II:(c.h.get id).isSome=true:=by rw [←h]; exact hl.2
   obtain⟨o,ho⟩:=aju.1 II
   exact⟨⟨f.rel.lt _ _ ho,II⟩,hb⟩
 have Qw:∀id,id≠uv→Live h' id→(c.β id).1≠(β' uv).1:=by
  intro id hne hl he
  obtain⟨hl0,hb⟩:=hold id hne hl
  rcases Ww with h | ⟨vV,h4,h5,h6⟩
  ·have:=f.rel.block hl0; omega
  ·have:id=vV:=f.rel.inj id vV hl0 h4 (he.trans h5.symm)
   subst this
   rcases h6 with h6 | h6
   ·exact hne h6
   ·have:=hl.2; rw [h6] at this; cases this
 have hL:¬un L0 Lo (β' uv).1:=by
  intro hL
  rcases Ww with h | ⟨vV,h4,h5,_⟩
  ·have:=f.rel.bd _ hL; omega
  ·exact f.rel.out vV h4 (h5 ▸ hL)
 have TH:c.base≤(β' uv).1:=by
  rcases Ww with h | ⟨vV,h4,h5,_⟩
  ·omega
  ·rw [←h5]; exact f.rel.low vV h4
 have e:Ext c Lo ⟨β',h',w',c.base⟩ Lo:=by
  refine⟨hn,fun id hi hl=>?_,hs,fun b hb _ hi=>.inl (hk b hb ?_),fun b hb=>hx b hb (by omega),rfl,fun id hl=>?_,fun _ h=>h,fun _ h=>.inl h,h1,h2,h3⟩
  ·by_cases hid:id=uv
   ·subst hid
    obtain⟨h4,h5⟩:=Wv hi
    refine⟨h4,h5,?_⟩
    have:=hlen (by rw [h5]; exact f.rel.block h4)
    rw [h5] at this
    exact this
   ·obtain⟨h4,h5⟩:=hold id hid hl
    exact⟨h4,h5,kR.len (c':=⟨β',h',w',c.base⟩) (.inl (hk _ (f.rel.block h4) (Qw id hid hl)))⟩
  ·rintro rfl
   rcases Ww with h | ⟨vV,h4,h5,_⟩
   ·omega
   ·exact hi vV h4 h5
  ·by_cases hid:id=uv
   ·subst hid
    rcases Ww with h | ⟨vV,h4,h5,_⟩
    ·exact .inl h
    ·exact .inr ⟨vV,h4,h5⟩
   ·obtain⟨h4,h5⟩:=hold id hid hl
    exact .inr ⟨id,h4,by rw [←h5]⟩
 refine⟨e,rfl,⟨fun id o ho=>?_,fun id o ho=>?_,fun id oC hl tk he=>?_,fun id hl=>?_,fun b hb=>ajk (f.rel.bd b hb) hs,fun id hl=>?_,hst.wf f.rel.ver⟩,fun t=>?_,fun k cs hb=>?_,f.inj,f.tidy,f.defers,f.MH⟩
 ·by_cases hid:id=uv
  ·subst hid; exact htn
  ·rcases hcl id hid with h | ⟨h,_⟩
   ·rw [h] at ho; cases ho
   ·rw [h] at ho; exact ajk (f.rel.lt _ _ ho) hn
 ·by_cases hid:id=uv
  ·subst hid
   rw [hget] at ho
   cases ho
   exact hob e
  ·rcases hcl id hid with h | ⟨h,hb⟩
   ·rw [h] at ho; cases ho
   ·have hl:Live h' id:=⟨by rw [h] at ho; exact ajk (f.rel.lt _ _ ho) hn,by rw [ho]; rfl⟩
    rw [h] at ho
    have:=(f.rel.obj id o ho).ext e (hk _ (f.rel.block (hold id hid hl).1) (Qw id hid hl))
    rw [←hb] at this
    exact this
 ·by_cases hid:id=uv<;>by_cases MO:oC=uv
  ·rw [hid,MO]
  ·subst hid
   obtain⟨h4,h5⟩:=hold oC MO tk
   exact absurd (by rw [←h5]; exact he.symm) (Qw oC MO tk)
  ·subst MO
   obtain⟨h4,h5⟩:=hold id hid hl
   exact absurd (by rw [←h5]; exact he) (Qw id hid hl)
  ·obtain⟨h4,h5⟩:=hold id hid hl
   obtain⟨h6,h7⟩:=hold oC MO tk
   exact f.rel.inj id oC h4 h6 (by rw [←h5,←h7]; exact he)
 ·by_cases hid:id=uv
  ·subst hid; exact hL
  ·obtain⟨h4,h5⟩:=hold id hid hl
   show ¬un L0 Lo (β' id).1
   rw [h5]; exact f.rel.out id h4
 ·by_cases hid:id=uv
  ·subst hid; exact TH
  ·obtain⟨h4,h5⟩:=hold id hid hl
   show c.base≤(β' id).1
   rw [h5]; exact f.rel.low id h4
 ·exact (f.slot t).ext e (fun _ _ _=>⟨rfl,fun h=>h⟩)
 ·have hb2:=f.box k cs hb
  refine hb2.ext e (.inl (hk _ hb2.plain.lt ?_))
  rintro he
  exact hL (he ▸ .inr hb2.own)
theorem Fr.MP (f:Fr L0 c Lo lam ds s a){w':World}(k:Nat)(cs:List AV)(b:Nat)
  (hb:c.w.heap.size≤b∨(b=lam k∧(s.bx k).isSome=true))
  (hp:∀t off,s.ρ t = .lp k off→b=lam k)
  (hk:∀b',b'<c.w.heap.size→b'≠b→w'.heap[b']? = c.w.heap[b']?) (hx:∀b',b'<c.base→b'≠b→w'.heap[b']? = c.w.heap[b']?) (hs:c.w.heap.size≤w'.heap.size) (hbw:b<w'.heap.size) (hbs:c.base≤c.w.heap.size)
  (h1:w'.os=c.w.os) (h2:w'.tape=c.w.tape) (h3:w'.output=c.w.output)
  (Eo:Plain {c with w:=w'} b cs.length)
  (ZE:∀(e:Ext c Lo {c with w:=w'} (fun x=>Lo x∨x=b)),Cells {c with w:=w'} (un L0 (fun x=>Lo x∨x=b)) cs b 0) :
  ∃nb xZ,Ext c Lo {c with w:=w'} nb∧Fr L0 {c with w:=w'} nb xZ ds (s.box k cs) a∧xZ k=b:=by
 have TI:∀id,Live c.h id→(c.β id).1≠b:=by
  intro id hl he
  rcases hb with h | ⟨h,hb2⟩
  ·have:=f.rel.block hl; omega
  ·obtain⟨Wx,h0⟩:=aju.1 hb2
   exact f.rel.out id hl (by rw [he,h]; exact .inr (f.box k Wx h0).own)
 have hLo:∀x,(Lo x∨x=b)→Lo x∨c.w.heap.size≤x:=by
  rintro x (h | rfl)
  ·exact .inl h
  ·rcases hb with h | ⟨h,hb2⟩
   ·exact .inr h
   ·obtain⟨Wx,h0⟩:=aju.1 hb2
    exact .inl (h ▸ (f.box k Wx h0).own)
 have TH:c.base≤b:=by
  rcases hb with h | ⟨h,hb2⟩
  ·omega
  ·obtain⟨Wx,h0⟩:=aju.1 hb2
   rw [h]; exact f.MH _ (f.box k Wx h0).own
 have hbL:∀b',b'<c.w.heap.size→¬Lo b'→b'≠b:=by
  rintro b' Ba hn rfl
  rcases hLo b' (.inr rfl) with h | h
  ·exact hn h
  ·omega
 have e:Ext c Lo {c with w:=w'} (fun x=>Lo x∨x=b):=by
  refine⟨aiQ _,fun id hi hl=>⟨hl,rfl,?_⟩,hs,fun b' Ba hn _=>.inl (hk b' Ba (hbL b' Ba hn)),fun b' Ba=>hx b' Ba (by omega),rfl,fun id hl=>.inr ⟨id,hl,rfl⟩,fun _ h=>.inl h,hLo,h1,h2,h3⟩
  exact kR.len (c':={c with w:=w'}) (.inl (hk _ (f.rel.block hl) (TI id hl)))
 refine⟨fun x=>Lo x∨x=b,fun t=>if t=k then b else lam t,e,⟨f.h,⟨f.rel.lt,fun id o ho=>?_,f.rel.inj,fun id hl hL=>?_,fun x TJ=>?_,f.rel.low,f.rel.ver⟩,fun t=>?_,fun k' iO Ba=>?_,fun k1 k2 hs1 VV he=>?_,f.tidy,f.defers,fun x TJ=>?_⟩,by simp⟩
 ·have hl:Live c.h id:=⟨f.rel.lt _ _ ho,by rw [ho]; rfl⟩
  exact (f.rel.obj id o ho).ext e (hk _ (f.rel.block hl) (TI id hl))
 ·rcases hL with h | h | h
  ·exact f.rel.out id hl (.inl h)
  ·exact f.rel.out id hl (.inr h)
  ·exact TI id hl h
 ·rcases TJ with h | h | h
  ·exact ajk (f.rel.bd x (.inl h)) hs
  ·exact ajk (f.rel.bd x (.inr h)) hs
  ·subst h; exact hbw
 ·refine (f.slot t).ext e (fun k' off Wy=>?_)
  by_cases EF:k'=k
  ·subst EF
   refine⟨by simp [hp t off Wy],fun _=>by simp [RS.box]⟩
  ·exact⟨by simp [EF],fun h=>by simpa [RS.box,beq_nat,EF] using h⟩
 ·by_cases EF:k'=k
  ·subst EF
   simp only [RS.box,beq_nat,decide_true,cond_true,aiL] at Ba
   subst Ba
   exact⟨by simp,by simpa using Eo,by simpa using ZE e⟩
  ·simp only [RS.box,beq_nat,EF,decide_false,cond_false] at Ba
   have ob:=f.box k' iO Ba
   have hne:lam k'≠b:=by
    rintro he
    rcases hb with h | ⟨h,hb2⟩
    ·have:=ob.plain.lt; omega
    ·exact EF (f.inj k' k (by rw [Ba]; rfl) hb2 (he.trans h))
   have:=ob.ext e (.inl (hk _ ob.plain.lt hne))
   exact⟨by simp [EF]; exact .inl ob.own,by simpa [EF] using this.plain,by simpa [EF] using this.cells⟩
 ·have old:∀k',k'≠k→((s.box k cs).bx k').isSome=true→(s.bx k').isSome=true:=by
   intro k' hne h
   simpa [RS.box,beq_nat,hne] using h
  have sep:∀k',k'≠k→(s.bx k').isSome=true→lam k'≠b:=by
   intro k' hne h5 he2
   obtain⟨Y5,h6⟩:=aju.1 h5
   rcases hb with h | ⟨h,hb2⟩
   ·have:=(f.box k' Y5 h6).plain.lt; omega
   ·exact hne (f.inj k' k h5 hb2 (he2.trans h))
  by_cases h4:k1=k<;>by_cases h5:k2=k
  ·rw [h4,h5]
  ·simp only [h4,h5,if_true,if_false] at he
   exact absurd he.symm (sep k2 h5 (old k2 h5 VV))
  ·simp only [h4,h5,if_true,if_false] at he
   exact absurd he (sep k1 h4 (old k1 h4 hs1))
  ·simp only [h4,h5,if_false] at he
   exact f.inj k1 k2 (old k1 h4 hs1) (old k2 h5 VV) he
 ·rcases TJ with h | h
  ·exact f.MH x h
  ·subst h; exact TH
end
end Go.R
namespace Go.R
open Go
theorem Cells.iff {c:Cx}{L:Nat→Prop}:∀{xs:List AV} {b o:Nat},Cells c L xs b o↔∀(i:Nat) (x:AV),xs[i]? = some x→∃v,c.w.cell? ⟨b,o+i,none⟩=some v∧v.oneCell'=true∧VR c L x v
 | [],b,o=>by simp [Cells]
 | x::xs,b,o=>by
  refine⟨fun h i y hy=>h.get' i y hy,fun h=>⟨?_,(Cells.iff (xs:=xs)).2 fun i y hy=>?_⟩⟩
  ·exact h 0 x rfl
  ·have:=h (i+1) y (by simpa using hy)
   rwa [aki,ajT]
theorem kT:∀(vs cs:List AV) (i:Nat),(fm cs i vs).length=cs.length
 | [],cs,i=>by cases cs<;>rfl
 | v::vs,cs,i=>by
  rw [fm,kT vs]
  simp
theorem zk:∀(vs cs:List AV) (i j:Nat),i+vs.length≤cs.length→(fm cs i vs)[j]? = if i≤j∧j<i+vs.length then vs[j - i]? else cs[j]?
 | [],cs,i,j,_=>by
  have:fm cs i []=cs:=by cases cs<;>rfl
  rw [this,if_neg (by simp)]
 | v::vs,cs,i,j,h=>by
  simp only [aiX] at h
  rw [fm,zk vs _ (i+1) j (by simp; omega)]
  by_cases h1:i+1≤j∧j<i+1+vs.length
  ·rw [if_pos h1,if_pos (by simp; omega),show j - i=(j - (i+1))+1 by omega]
   simp
  ·rw [if_neg h1]
   by_cases h2:j=i
   ·subst h2
    rw [if_pos (by simp),List.getElem?_set_self (by omega)]
    simp
   ·rw [List.getElem?_set_ne (by omega),if_neg (by simp; omega)]
theorem CS (w:World)(b o:Nat)(v:Value){C:Array Value}{e:TypeId}{fr:Nat × Nat}(hb:w.heap[b]? = some (.cells C e fr)):(w.setCell ⟨b,o,none⟩ v).heap[b]? = some (.cells (C.setIfInBounds o v) e fr):=by
 have hlt:b<w.heap.size:=(ajt.1 hb).1
 simp [World.setCell,aj3,hb]
theorem EI (w:World)(b o b':Nat)(v:Value)(hne:b'≠b):(w.setCell ⟨b,o,none⟩ v).heap[b']? = w.heap[b']?:=by
 simp [World.setCell,aj3,Ne.symm hne]
theorem fY:∀(vs:List Value) (b o b':Nat) (w:World),b'≠b→(w.setCells b o vs).heap[b']? = w.heap[b']?
 | [],_,_,_,_,_=>rfl
 | v::vs,b,o,b',w,h=>by rw [World.setCells,fY vs b (o+1) b' _ h,EI _ _ _ _ _ h]
theorem kb:∀(vs:List Value) (b o:Nat) (w:World),(w.setCells b o vs).heap.size=w.heap.size∧(w.setCells b o vs).os=w.os∧(w.setCells b o vs).tape=w.tape∧(w.setCells b o vs).output=w.output
 | [],_,_,_=>⟨rfl,rfl,rfl,rfl⟩
 | v::vs,b,o,w=>by
  obtain⟨h1,h2,h3,h4⟩:=kb vs b (o+1) (w.setCell ⟨b,o,none⟩ v)
  rw [World.setCells]
  exact⟨h1.trans (by simp),h2.trans rfl,h3.trans rfl,h4.trans rfl⟩
theorem je:∀(vs:List Value) (b o:Nat) (w:World) (C:Array Value) (e:TypeId) (fr:Nat × Nat),w.heap[b]? = some (.cells C e fr)→o+vs.length≤C.size→
  ∃C',(w.setCells b o vs).heap[b]? = some (.cells C' e fr)∧C'.size=C.size∧∀j,C'[j]? = if o≤j∧j<o+vs.length then vs[j - o]? else C[j]?
 | [],b,o,w,C,e,fr,hb,_=>⟨C,hb,rfl,fun j=>by rw [if_neg (by simp)]⟩
 | v::vs,b,o,w,C,e,fr,hb,hl=>by
  simp only [aiX] at hl
  obtain⟨C',h1,h2,h3⟩:=je vs b (o+1) (w.setCell ⟨b,o,none⟩ v) (C.setIfInBounds o v) e fr (CS w b o v hb) (by simp; omega)
  refine⟨C',h1,by simpa using h2,fun j=>?_⟩
  rw [h3 j]
  by_cases h4:o+1≤j∧j<o+1+vs.length
  ·rw [if_pos h4,if_pos (by simp; omega),show j - o=(j - (o+1))+1 by omega]
   simp
  ·rw [if_neg h4]
   by_cases h5:j=o
   ·subst h5
    rw [if_pos (by simp)]
    simp [ajU,show j<C.size by omega]
   ·rw [if_neg (by simp; omega)]
    simp [ajU,Ne.symm h5]
theorem cell_of_block {w:World}{b:Nat}{C:Array Value}{e:TypeId}{fr:Nat × Nat}(h:w.heap[b]? = some (.cells C e fr))(i:Nat):w.cell? ⟨b,i,none⟩=C[i]?:=by
 simp [World.cell?,h]
section
variable {P:Program}{L0:Nat→Prop}{c0:Cx}{n:Nat}{ds:List Nat}{o:Oper}{s:RS}
theorem zl {c:Cx}{L:Nat→Prop}{x:AV}{v:Value}(h:x.dp=true)(hv:VR c L x v):v.oneCell'=true∧v.cells = #[v]:=by
 cases x<;>simp only [AV.dp] at h<;>first | (cases h; done) | skip
 all_goals simp only [VR] at hv
 ·subst hv; exact⟨rfl,rfl⟩
 ·subst hv; exact⟨rfl,rfl⟩
 ·subst hv; exact⟨rfl,rfl⟩
 ·subst hv; exact⟨rfl,rfl⟩
 ·obtain⟨_,a,rfl,_⟩:=hv; exact⟨rfl,rfl⟩
 ·obtain⟨b,o,rfl,_⟩:=hv; exact⟨rfl,rfl⟩
 ·obtain⟨a,rfl⟩:=hv; exact⟨rfl,rfl⟩
 ·obtain⟨a,cap,rfl,_⟩:=hv; exact⟨rfl,rfl⟩
 ·rcases hv with⟨_,_,_,a,rfl⟩| ⟨_,_,a,cap,rfl,_⟩<;>exact⟨rfl,rfl⟩
 ·subst hv; exact⟨rfl,rfl⟩
 ·obtain⟨_,r,rfl,_⟩:=hv; exact⟨rfl,rfl⟩
 ·obtain⟨vs,rfl,_⟩:=hv; exact⟨rfl,rfl⟩
 ·subst hv; exact⟨rfl,rfl⟩
theorem xu {c:Cx}{L:Nat→Prop}:∀{xs:List AV} {vs:List Value},xs.all AV.dp=true→VRs c L xs vs→∀v∈vs,v.oneCell'=true
 | [],[],_,_,v,hv=>by simp at hv
 | x::xs,u::us,h,hr,v,hv=>by
  simp only [ajB,aiM] at h
  rcases aja.1 hv with rfl | hv
  ·exact (zl h.1 hr.1).1
  ·exact xu h.2 hr.2 v hv
 | [],_::_,_,h,_,_=>h.elim
 | _::_,[],_,h,_,_=>h.elim
theorem lL {c:Cx}{L:Nat→Prop}{x:AV}{v:Value}(h:x.cells.all AV.dp=true)(hv:VR c L x v):VRs c L x.cells v.cells.toList∧∀u∈v.cells.toList,u.oneCell'=true:=by
 cases x with
 | agg cs=>
  simp only [VR] at hv
  obtain⟨vs,rfl,Mr⟩:=hv
  exact⟨Mr,xu h Mr⟩
 | _=>
  simp only [AV.cells,ajB,List.all_nil,Bool.and_true] at h
  obtain⟨h1,h2⟩:=zl h hv
  rw [h2]
  exact⟨⟨hv,trivial⟩,by simpa using h1⟩
theorem SR.yK {c:Cx}{Lo:Nat→Prop}{lam:Nat→Nat}{bx:Nat→Option (List AV)}{x:AV}{v:Value}(hx:SR c L0 Lo lam bx x v)(h:x.cells.all AV.dp=true):VR c (un L0 Lo) x v:=
 hx.vr (by rintro k off rfl; simp [AV.cells,AV.dp] at h)
theorem ny {c:Cx}{b m base off:Nat}{vs:List Value}(hp:Plain c b m)(hl:base+off+vs.length≤m)(h1:∀v∈vs,v.oneCell'=true) :
  (storeCells ⟨b,base+off,none⟩ vs).run P c.w = .ok () (c.w.setCells b (base+off) vs):=by
 obtain⟨C,e,lo,hi,hb,hf,hm⟩:=hp
 have:=run_storeCells_cells (P:=P) b (base+off) vs 0 c.w (fun j hj=>by
  rw [cell_of_block hb]
  have:base+off+0+j<C.size:=by omega
  simpa using this) (fun j hj=>by
  simp only [World.frozen?,hb]
  rcases hf with hf | hf
  ·subst hf; simp
  ·simp; omega) h1
 simpa using this
theorem Plain.setCells {c:Cx}{b m o:Nat}{vs:List Value}(hp:Plain c b m)(hl:o+vs.length≤m)(β':Nat→Nat × Nat)(h':AHeap)(bs:Nat):Plain ⟨β',h',c.w.setCells b o vs,bs⟩ b m:=by
 obtain⟨C,e,lo,hi,hb,hf,hm⟩:=hp
 obtain⟨C',h1,h2,_⟩:=je vs b o c.w C e (lo,hi) hb (by omega)
 exact⟨C',e,lo,hi,h1,by rw [h2]; exact hf,by rw [h2]; exact hm⟩
theorem lj.setCells {c:Cx}{b m o:Nat}{vs:List Value}(hp:lj c b m)(hl:o+vs.length≤m)(β':Nat→Nat × Nat)(h':AHeap)(bs:Nat):lj ⟨β',h',c.w.setCells b o vs,bs⟩ b m:=by
 obtain⟨C,e,hb,hm⟩:=hp
 obtain⟨C',h1,h2,_⟩:=je vs b o c.w C e (0,0) hb (by omega)
 exact⟨C',e,h1,by rw [h2]; exact hm⟩
theorem lM {c c':Cx}{L0 Lo nb:Nat→Prop}{b m base off:Nat}{cs xs:List AV}{vs:List Value}(hp:Plain c b m)(hc:Cells c (un L0 Lo) cs b base)(hv:VRs c (un L0 Lo) xs vs)(Wz:∀v∈vs,v.oneCell'=true)(hl:off+xs.length≤cs.length)(hm:base+cs.length≤m)
  (e:Ext c Lo c' nb) (hw:c'.w=c.w.setCells b (base+off) vs):Cells c' (un L0 nb) (fm cs off xs) b base:=by
 obtain⟨C,e',lo,hi,hb,hf,yL⟩:=hp
 have hlen:=hv.length
 obtain⟨C',h1,h2,h3⟩:=je vs b (base+off) c.w C e' (lo,hi) hb (by omega)
 rw [Cells.iff]
 intro i x hx
 rw [hw,cell_of_block h1,h3]
 rw [zk xs cs off i hl] at hx
 by_cases h4:off≤i∧i<off+xs.length
 ·rw [if_pos h4] at hx
  obtain⟨v,SD,SB⟩:=hv.get _ x hx
  refine⟨v,?_,Wz v (aiS SD),VR.ext e x v SB⟩
  rw [if_pos (by omega),show base+i - (base+off)=i - off by omega]
  exact SD
 ·rw [if_neg h4] at hx
  obtain⟨v,SD,Lc,SB⟩:=hc.get' i x hx
  refine⟨v,?_,Lc,VR.ext e x v SB⟩
  rw [if_neg (by omega),←cell_of_block hb]
  exact SD
theorem tm {c:Cx}{L:Nat→Prop}{t:TypeId}{cs iO:List AV}{b m base off:Nat}{x:AV}{v:Value}(hp:Plain c b m)(hm:base+cs.length≤m)(hv:VR c L x v)(h:kB P t cs off x=some iO) :
  (storeVar t ⟨b,base+off,none⟩ v).run P c.w = .ok () (c.w.setCells b (base+off) v.cells.toList)∧VRs c L x.cells v.cells.toList∧off+x.cells.length≤cs.length∧iO=fm cs off x.cells∧(∀u∈v.cells.toList,u.oneCell'=true):=by
 unfold kB at h
 rw [aiJ] at h
 obtain⟨k,hk,h⟩:=h
 split at h
 ·rename_i hh
  obtain⟨h1,h2,h3⟩:=hh
  cases h
  obtain⟨h4,h5⟩:=lL h2 hv
  have h6:=h4.length
  refine⟨?_,h4,by omega,rfl,h5⟩
  have h7:v.cells.size=k:=by rw [←ajZ,←h6]; exact h1
  simp only [storeVar,Sem.run_bind,fX hk,Result.andThen_ok,h7]
  simp only [ne_eq,not_true_eq_false,if_false]
  rw [←ny (P:=P) hp (vs:=v.cells.toList) (base:=base) (off:=off) (by omega) h5]
 ·cases h
theorem my {c c0:Cx}{Lo:Nat→Prop}(e:Ext c0 none0 c Lo)(h:c0.base≤c0.w.heap.size):c.base≤c.w.heap.size:=by
 rw [e.base]; exact ajF h e.size
theorem MQ (hb0:c0.base≤c0.w.heap.size)(hd:j7 n ds o){t:TypeId}{x y:Operand}(ho:o.op = .store t x y)(ya:o.dst=none){s':RS}
  (h:(match cZ s.ρ x with
   | .lp k off=>(s.bx k).bind fun cs=>(kB P t cs off (cZ s.ρ y)).map fun iO=>s.box k iO
   | .ptr id off=>(s.h.get id).bind fun | .cells cs=>(kB P t cs off (cZ s.ρ y)).map fun iO=>{s with h:=s.h.put id (.cells iO)} | _=>none
   | _=>none)=some s'):mD P L0 c0 n ds o s s':=by
 rintro a w K Q ⟨hn,c,Lo,lam,rfl,f,e⟩ hK
 have hbs:=my e hb0
 have hx:=cL f x
 have hy:=cL f y
 unfold Oper.wp
 have TK:a.put o.dst undef=a:=by rw [ya]; rfl
 have fin:∀c' nb xZ,((Instr.storeAt t (a.eval x) (a.eval y)).run P c.w = .ok () c'.w)→Fr L0 c' nb xZ ds s' a→Ext c Lo c' nb→Oper.upon P o a K Q ((execOp a.eval o).run P c.w):=by
  intro c' nb xZ hr f' e'
  have:(execOp a.eval o).run P c.w = .ok .skip c'.w:=by simp [execOp,ho,hr]
  rw [this,Oper.upon_skip,TK]
  exact hK _ _ ⟨hn,c',nb,xZ,rfl,f',e.trans e'⟩
 cases Le:cZ s.ρ x<;>rw [Le] at h<;>simp only at h<;>try (cases h; done)
 ·rename_i id off
  rw [aiJ] at h
  obtain⟨ob,hob,h⟩:=h
  cases ob with
  | map es=>cases h
  | row t cs=>cases h
  | cells cs=>
  rw [aiK] at h
  obtain⟨iO,hw,rfl⟩:=h
  rw [Le] at hx
  simp only [SR,VR] at hx
  obtain⟨hi,ad,GR,ha⟩:=hx
  rw [←f.h] at hob
  have hl:Live c.h id:=⟨f.rel.lt _ _ hob,by simp [hob]⟩
  obtain⟨m,hp,hm,hc⟩:=f.rel.obj _ _ hob
  have tq:(cZ s.ρ y).cells.all AV.dp=true:=by
   unfold kB at hw
   rw [aiJ] at hw
   obtain⟨k,_,hw⟩:=hw
   split at hw
   ·rename_i hh; exact hh.2.1
   ·cases hw
  have ZG:=hy.yK tq
  obtain⟨hr,hv,hle,rfl,Wz⟩:=tm (P:=P) hp.n7 hm ZG hw
  have hvl:=hv.length
  obtain⟨q1,q2,q3,q4⟩:=kb (a.eval y).cells.toList (c.β id).1 ((c.β id).2+off) c.w
  have:=f.upd (w':=c.w.setCells (c.β id).1 ((c.β id).2+off) (a.eval y).cells.toList) (β':=c.β) (h':=c.h.put id (.cells (fm cs off (cZ s.ρ y).cells))) id (.cells (fm cs off (cZ s.ρ y).cells))
   (Steady.put _ _ _) (by simp only [AHeap.put]; omega) (by simp [AHeap.put,beq_nat]) (fun oC hne=>.inr ⟨by simp [AHeap.put,beq_nat,hne],rfl⟩) (fun _=>⟨hl,rfl⟩) (.inr ⟨id,hl,rfl,.inl rfl⟩)
   (fun _=>by
    obtain⟨C,e',lo,mZ,hb,hf,yL⟩:=hp.n7
    obtain⟨C',h1,h2,_⟩:=je (a.eval y).cells.toList (c.β id).1 ((c.β id).2+off) c.w C e' (lo,mZ) hb (by omega)
    simp [World.shape?,h1,Cx.len,hb,h2])
   (fun b _ hne=>fY _ _ _ _ _ hne) (fun b _ hne=>fY _ _ _ _ _ hne) (by rw [q1]; exact aiQ _) hbs q2 q3 q4
   (fun e'=>⟨m,hp.setCells (by omega) _ _ _,by rw [kT]; exact hm,lM hp.n7 hc hv Wz hle hm e' rfl⟩)
  rw [f.h] at this
  obtain⟨e',f'⟩:=this
  refine fin _ _ _ ?_ f' e'
  rw [GR,ha hl]
  simp [Instr.storeAt,Instr.sureAddr,hr]
 ·rename_i k off
  rw [aiJ] at h
  obtain⟨cs,WA,h⟩:=h
  rw [aiK] at h
  obtain⟨iO,hw,rfl⟩:=h
  rw [Le] at hx
  simp only [SR] at hx
  obtain⟨GR,_⟩:=hx
  have ob:=f.box k cs WA
  have tq:(cZ s.ρ y).cells.all AV.dp=true:=by
   unfold kB at hw
   rw [aiJ] at hw
   obtain⟨k,_,hw⟩:=hw
   split at hw
   ·rename_i hh; exact hh.2.1
   ·cases hw
  have ZG:=hy.yK tq
  obtain⟨hr,hv,hle,rfl,Wz⟩:=tm (P:=P) (base:=0) ob.plain (by omega) ZG hw
  have hvl:=hv.length
  obtain⟨q1,q2,q3,q4⟩:=kb (a.eval y).cells.toList (lam k) (0+off) c.w
  obtain⟨nb,xZ,e',f',_⟩:=f.MP (w':=c.w.setCells (lam k) (0+off) (a.eval y).cells.toList) k (fm cs off (cZ s.ρ y).cells) (lam k) (.inr ⟨rfl,by rw [WA]; rfl⟩)
   (fun _ _ _=>rfl) (fun b _ hne=>fY _ _ _ _ _ hne) (fun b _ hne=>fY _ _ _ _ _ hne) (by rw [q1]; exact aiQ _) (by rw [q1]; exact ob.plain.lt) hbs q2 q3 q4
   (by rw [kT]; exact ob.plain.setCells (by omega) _ _ _) (fun e'=>lM ob.plain ob.cells hv Wz hle (by omega) e' rfl)
  refine fin _ _ _ ?_ f' e'
  rw [GR]
  rw [ajf] at hr
  simp [Instr.storeAt,Instr.sureAddr,hr]
end
end Go.R
namespace Go.R
open Go
theorem lz (w:World)(o:Obj):(w.alloc o).heap[w.heap.size]? = some o:=by
 show (w.heap.push o)[w.heap.size]? = some o
 simp
theorem alloc_old (w:World)(o:Obj){b:Nat}(h:b<w.heap.size):(w.alloc o).heap[b]? = w.heap[b]?:=by
 show (w.heap.push o)[b]? = w.heap[b]?
 simp [Array.getElem?_push,show b≠w.heap.size by omega]
theorem RS.set_set (s:RS)(d:Option Nat)(x y:AV):(s.set d x).set d y=s.set d y:=by
 cases d with
 | none=>rfl
 | some d=>
  simp only [RS.set]
  congr 1
  funext t
  cases ajy t d<;>rfl
theorem Qx (a:Act)(d:Option Nat)(x y:Value):(a.put d x).put d y=a.put d y:=by
 cases d with
 | none=>rfl
 | some d=>
  simp only [Act.put]
  congr 1
  apply Array.ext_getElem?
  intro i
  simp only [ajU,Array.size_setIfInBounds]
  by_cases h:d=i<;>by_cases h2:d<a.tmps.size<;>simp [h,h2]
section
variable {P:Program}{L0:Nat→Prop}{c0:Cx}{n:Nat}{ds:List Nat}{o:Oper}{s:RS}
theorem we {k:Nat}{ρ:Nat→AV}:∀{l:List Nat},zb k ρ l=true→∀t∈l,∀off,ρ t≠.lp k off
 | [],_,t,ht=>by simp at ht
 | x::xs,h,t,ht=>by
  simp only [zb,aiM] at h
  intro off he
  rcases aja.1 ht with rfl | ht
  ·rw [he] at h; simp at h
  ·exact we h.2 t ht off he
theorem Fr.MR {c:Cx}{Lo:Nat→Prop}{lam:Nat→Nat}{a:Act}(f:Fr L0 c Lo lam ds s a)(hbs:c.base≤c.w.heap.size)(w1:World)(ZH:w1.heap=c.w.heap∧w1.os=c.w.os∧w1.tape=c.w.tape∧w1.output=c.w.output)(ob:AObj)(obj:Obj)
  (h':AHeap) (hg:h'.get c.h.next=some ob) (hst:Steady c.h h') (hn:c.h.next<h'.next) (ho:∀id,id≠c.h.next→h'.get id=none∨h'.get id=c.h.get id)
  (hob:∀(c':Cx) (e:Ext c Lo c' Lo),c'.w=w1.alloc obj→uE c' (un L0 Lo) c.w.heap.size 0 ob) :
  ∃β',Ext c Lo ⟨β',h',w1.alloc obj,c.base⟩ Lo∧Fr L0 ⟨β',h',w1.alloc obj,c.base⟩ Lo lam ds {s with h:=h'} a∧β' c.h.next=(c.w.heap.size,0)∧Live h' c.h.next:=by
 obtain⟨q0,q1,q2,q3⟩:=ZH
 have hsz:w1.heap.size=c.w.heap.size:=by rw [q0]
 refine⟨fun i=>if i=c.h.next then (c.w.heap.size,0) else c.β i,?_⟩
 have:=f.upd (w':=w1.alloc obj) (β':=fun i=>if i=c.h.next then (c.w.heap.size,0) else c.β i) (h':=h') c.h.next ob
  hst hn hg (fun id hne=>(ho id hne).imp (fun x=>x) fun h=>⟨h,by simp [hne]⟩)
  (fun h=>absurd h (Nat.lt_irrefl _)) (.inl (by simp)) (fun h=>by simp at h)
  (fun b hb _=>by rw [alloc_old _ _ (by omega),q0]) (fun b hb _=>by rw [alloc_old _ _ (by omega),q0]) (by simp [hsz]) hbs q1 q2 q3
  (fun e=>by simpa using hob _ e rfl)
 exact⟨this.1,this.2,by simp,⟨hn,by rw [hg]; rfl⟩⟩
theorem Fr.fresh {c:Cx}{Lo:Nat→Prop}{lam:Nat→Nat}{a:Act}(f:Fr L0 c Lo lam ds s a)(hbs:c.base≤c.w.heap.size)(w1:World)(ZH:w1.heap=c.w.heap∧w1.os=c.w.os∧w1.tape=c.w.tape∧w1.output=c.w.output)(ob:AObj)(obj:Obj)
  (hob:∀(c':Cx) (e:Ext c Lo c' Lo),c'.w=w1.alloc obj→uE c' (un L0 Lo) c.w.heap.size 0 ob) :
  ∃β',Ext c Lo ⟨β',c.h.alloc ob,w1.alloc obj,c.base⟩ Lo∧Fr L0 ⟨β',c.h.alloc ob,w1.alloc obj,c.base⟩ Lo lam ds {s with h:=c.h.alloc ob} a∧β' c.h.next=(c.w.heap.size,0)∧Live (c.h.alloc ob) c.h.next:=
 f.MR hbs w1 ZH ob obj (c.h.alloc ob) (by simp [AHeap.alloc,AHeap.put,beq_nat]) (Steady.put _ _ _) (ajz _) (fun id hne=>.inr (by simp [AHeap.alloc,AHeap.put,beq_nat,hne])) hob
theorem pK {c':Cx}{w1:World}{C:Array Value}{e:TypeId}(hw:c'.w=w1.alloc (.cells C e)):lj c' w1.heap.size C.size:=
 ⟨C,e,by rw [hw]; exact lz _ _,rfl⟩
theorem Lf {c':Cx}{w1:World}{C:Array Value}{e:TypeId}(hw:c'.w=w1.alloc (.cells C e)):Plain c' w1.heap.size C.size:=
 ⟨C,e,0,0,by rw [hw]; exact lz _ _,.inl rfl,rfl⟩
theorem nl {c':Cx}{L:Nat→Prop}{w1:World}{C:Array Value}{e:TypeId}{xs:List AV}{vs:List Value}(hw:c'.w=w1.alloc (.cells C e))(hv:VRs c' L xs vs)(hp:∀i,i<vs.length→C[i]? = vs[i]?)(h1:∀v∈vs,v.oneCell'=true):Cells c' L xs w1.heap.size 0:=
 Cells.of_vals hv (fun i hi=>by rw [hw,cell_of_block (lz _ _),ajf]; exact hp i hi) h1
theorem BK (hb0:c0.base≤c0.w.heap.size)(hd:j7 n ds o){bb:List Nat}{cs:List AV}{s':RS}(t:TypeId)(h:lh s bb ds o cs=some s')
  (hx:∀a c Lo lam,Fr L0 c Lo lam ds s a→a.tmps.size=n→∃v:Value,(execOp a.eval o).run P c.w = .ok (.value (.pointer (some ⟨c.w.heap.size,0,none⟩))) (c.w.alloc (.cells v.cells t))∧VRs c (un L0 Lo) cs v.cells.toList∧∀u∈v.cells.toList,u.oneCell'=true) :
  mD P L0 c0 n ds o s s':=by
 unfold lh at h
 split at h
 rotate_left
 ·cases h
 rename_i uw
 cases Y6:o.dst with
 | none=>rw [Y6] at h; cases h
 | some d=>
 obtain⟨EJ,GS⟩:=hd d Y6
 rw [Y6] at h
 simp only at h
 rintro a w K Q ⟨hn,c,Lo,lam,rfl,f,e⟩ hK
 have hbs:=my e hb0
 obtain⟨v,hr,hv,h1⟩:=hx a c Lo lam f hn
 unfold Oper.wp
 rw [hr,Oper.upon_value,Y6]
 split at h
 ·split at h
  rotate_left
  ·cases h
  rename_i yM
  cases h
  have f1:=f.set (d:=some d) (x:=.any) (v:=undef) (SR.of (by simp [VR])) (fun t ht=>by cases ht; exact⟨hn ▸ EJ,GS⟩)
  have MS:∀t off,(s.set (some d) .any).ρ t≠.lp d off:=by
   intro t off he
   rw [BF] at he
   by_cases SE:t=d
   ·rw [if_pos SE] at he; cases he
   ·rw [if_neg SE] at he
    by_cases hm:t∈ds
    ·exact we yM t (by simp [hm,beq_nat,SE]) off he
    ·exact SE (f.tidy t d off hm he).symm
  obtain⟨nb,xZ,e',f',ZI⟩:=f1.MP (w':=c.w.alloc (.cells v.cells t)) d cs c.w.heap.size (.inl (aiQ _)) (fun t off he=>absurd he (MS t off))
   (fun b hb _=>alloc_old _ _ hb) (fun b hb _=>alloc_old _ _ (by omega)) (by simp) (by simp) hbs rfl rfl rfl
   (by
     have:=Lf (c':={c with w:=c.w.alloc (.cells v.cells t)}) (w1:=c.w) (C:=v.cells) (e:=t) rfl
     rwa [show v.cells.size=cs.length by rw [←ajZ,hv.length]] at this)
   (fun e'=>nl (w1:=c.w) (C:=v.cells) (e:=t) rfl (VRs.ext e' _ _ hv) (fun i _=>by simp) h1)
  have f2:=f'.set (d:=some d) (x:=.lp d 0) (v:=.pointer (some ⟨c.w.heap.size,0,none⟩)) (by simp only [SR,ZI,RS.box,beq_nat]; simp) (fun t ht=>by cases ht; rw [j6]; exact⟨hn ▸ EJ,GS⟩)
  rw [Qx] at f2
  have hs:(((s.set (some d) .any).box d cs).set (some d) (.lp d 0))=(s.box d cs).set (some d) (.lp d 0):=by
   rw [←RS.set_set (s.box d cs) (some d) .any]
   rfl
  rw [hs] at f2
  exact hK _ _ ⟨(j6 _ _ _).trans hn,_,nb,xZ,rfl,f2,e.trans e'⟩
 ·cases h
  obtain⟨β',e',f',hβ,hl⟩:=f.fresh hbs c.w ⟨rfl,rfl,rfl,rfl⟩ (.cells cs) (.cells v.cells t) (fun c' e' hw=>⟨_,pK hw,by rw [ajf,hv.length]; simp,
   nl (w1:=c.w) hw (VRs.ext e' _ _ hv) (fun i _=>by simp) h1⟩)
  rw [f.h] at f' e' hβ hl
  have f2:=f'.set (d:=some d) (x:=.ptr s.h.next 0) (v:=.pointer (some ⟨c.w.heap.size,0,none⟩)) (by
   simp only [SR,VR]
   exact⟨hl.1,_,rfl,fun _=>by rw [hβ]⟩) (fun t ht=>by cases ht; exact⟨hn ▸ EJ,GS⟩)
  exact hK _ _ ⟨(j6 _ _ _).trans hn,_,Lo,lam,rfl,f2,e.trans e'⟩
theorem IJ {c:Cx}{L:Nat→Prop}{n:Nat}{x:AV}{v:Value}(h:VR c L x v):VR c L (Bh n x) v:=by
 unfold Bh
 split
 ·simp only [VR] at h ⊢
  exact .inl ⟨trivial,trivial,trivial,none,h⟩
 ·exact h
theorem IK {c:Cx}{L:Nat→Prop}{n:Nat}:∀{cs:List AV} {vs:List Value} (j:Nat),VRs c L cs vs→VRs c L (G6 n j cs) vs
 | [],vs,j,h=>h
 | x::cs,[],j,h=>h.elim
 | x::cs,v::vs,j,h=>by
  refine⟨?_,IK (j+1) h.2⟩
  split
  ·exact h.1
  ·exact IJ h.1
theorem IL {c:Cx}{L:Nat→Prop}{n:Nat}:∀{cs:List AV} {vs:List Value},VRs c L cs vs→VRs c L (cs.map (Bh n)) vs
 | [],vs,h=>h
 | x::cs,[],h=>h.elim
 | x::cs,v::vs,h=>⟨IJ h.1,IL h.2⟩
theorem Qy {c:Cx}{L:Nat→Prop}{cs:List AV}{vs:List Value}(h:VRs c L cs vs):∀n,VRs c L (Qs cs n) vs
 | 0=>h
 | n+1=>by
  have e:Qs cs (n+1)=bif akn 100 (n+1) then G6 (n+1) 0 cs else cs.map (Bh (n+1)):=rfl
  rw [e]
  cases akn 100 (n+1)
  ·exact IL h
  ·exact IK 0 h
theorem IM {c:Cx}{L:Nat→Prop}{bb:List Nat}{d:Option Nat}{cs:List AV}{vs:List Value}(h:VRs c L cs vs):VRs c L (G7 bb d cs) vs:=by
 unfold G7
 split
 ·exact h
 ·exact Qy h _
theorem Qz {c:Cx}{L:Nat→Prop}{bb:List Nat}{d:Option Nat}{x:AV}{v:Value}(h:VR c L x v):VR c L (TE bb d x) v:=by
 unfold TE
 split
 ·simp only [VR] at h ⊢
  obtain⟨vs,h1,h2⟩:=h
  exact⟨vs,h1,IM h2⟩
 ·exact h
theorem IN {n:Nat}{x:AV}(h:(Bh n x).dp=true):x.dp=true:=by
 unfold Bh at h
 split at h
 ·rfl
 ·exact h
theorem IP {n:Nat}:∀{cs:List AV} (j:Nat),(G6 n j cs).all AV.dp=true→cs.all AV.dp=true
 | [],j,h=>rfl
 | x::cs,j,h=>by
  rw [G6,ajB,aiM] at h
  rw [ajB,aiM]
  refine⟨?_,IP (j+1) h.2⟩
  have h1:=h.1
  split at h1
  ·exact h1
  ·exact IN h1
theorem IQ {n:Nat}:∀{cs:List AV},(cs.map (Bh n)).all AV.dp=true→cs.all AV.dp=true
 | [],h=>rfl
 | x::cs,h=>by
  rw [ai9,ajB,aiM] at h
  rw [ajB,aiM]
  exact⟨IN h.1,IQ h.2⟩
theorem QB {bb:List Nat}{d:Option Nat}{cs:List AV}(h:(G7 bb d cs).all AV.dp=true):cs.all AV.dp=true:=by
 unfold G7 at h
 split at h
 ·exact h
 ·rename_i d'
  generalize MG bb d'=n at h
  cases n with
  | zero=>exact h
  | succ n=>
   have e:Qs cs (n+1)=bif akn 100 (n+1) then G6 (n+1) 0 cs else cs.map (Bh (n+1)):=rfl
   rw [e] at h
   cases hb:akn 100 (n+1)
   ·rw [hb,cond_false] at h; exact IQ h
   ·rw [hb,cond_true] at h; exact IP 0 h
theorem Lg {c:Cx}{t:TypeId}{z:AV}(hz:ls P t=some z)(uw:z.cells.all AV.dp=true)(L:Nat→Prop):∃v:Value,(Instr.alloc t true (.tuple #[])).run P c.w = .ok (.pointer (some ⟨c.w.heap.size,0,none⟩)) (c.w.alloc (.cells v.cells t))∧VRs c L z.cells v.cells.toList∧∀u∈v.cells.toList,u.oneCell'=true:=by
 obtain⟨v,hr,hv⟩:=nk hz c.w
 obtain⟨h1,h2⟩:=lL uw (pJ (c:=c) (L:=L) hv)
 exact⟨v,by simp [Instr.alloc,hr,newVar,newRow],h1,h2⟩
theorem lN (z:List AV):∀k,(lu z k).length=k*z.length
 | 0=>by simp [lu]
 | k+1=>by simp [lu,lN z k,akb,akt]
theorem BL (z:List AV):∀(k i:Nat),i<k*z.length→(lu z k)[i]? = z[i % z.length]?
 | 0,i,h=>by simp at h
 | k+1,i,h=>by
  rw [akb,Nat.one_mul] at h
  rw [lu]
  by_cases h1:i<z.length
  ·rw [ai6 h1,Nat.mod_eq_of_lt h1]
  ·rw [ai0 (by omega),BL z k _ (by omega),←Nat.mod_eq_sub_mod (show z.length≤i by omega)]
theorem wg {c:Cx}{L:Nat→Prop}{z:List AV}{zv:Array Value}(hz:VRs c L z zv.toList)(k m:Nat)(hm:k*z.length≤m)(Ms:z.length≠0) :
  VRs c L (lu z k) (((Array.range m).map (zv[· % zv.size]!)).toList.take (k*z.length)):=by
 have hl:=hz.length
 have key:∀(xs:List AV) (vs:List Value),xs.length=vs.length→(∀(i:Nat) x v,xs[i]? = some x→vs[i]? = some v→VR c L x v)→VRs c L xs vs:=by
  intro xs
  induction xs with
  | nil=>intro vs h _; cases vs with | nil=>trivial | cons _ _=>simp at h
  | cons x xs ih=>
   intro vs h pc
   cases vs with
   | nil=>simp at h
   | cons v vs=>
    refine⟨pc 0 x v rfl rfl,ih vs (by simpa using h) fun i y u hy hu=>pc (i+1) y u (by simpa using hy) (by simpa using hu)⟩
 refine key _ _ (by rw [lN]; simp; omega) fun i x v hx hv=>?_
 have hi:i<k*z.length:=by
  have:=(aiO.1 hx).1
  rwa [lN] at this
 rw [BL z k i hi] at hx
 obtain⟨u,hu,hr⟩:=hz.get _ x hx
 rw [List.getElem?_take,if_pos hi] at hv
 have IE:i<m:=by omega
 have yb:i % zv.size<zv.size:=Nat.mod_lt _ (by rw [←ajZ,←hl]; omega)
 have:v=zv[i % zv.size]!:=by
  simp [IE] at hv
  exact hv.symm
 rw [show zv.toList.length=zv.size by simp] at hl
 rw [hl,Array.getElem?_toList,Array.getElem?_eq_getElem yb] at hu
 rw [this,getElem!_pos zv _ yb]
 cases hu
 exact hr
theorem pL (hb0:c0.base≤c0.w.heap.size)(hd:j7 n ds o){ob:AObj}{x:AV}
  (h:∀a c Lo lam,Fr L0 c Lo lam ds s a→a.tmps.size=n→∃(obj:Obj) (v:Value),(execOp a.eval o).run P c.w = .ok (.value v) (c.w.alloc obj)∧
   (∀(c':Cx) (e:Ext c Lo c' Lo),c'.w=c.w.alloc obj→uE c' (un L0 Lo) c.w.heap.size 0 ob)∧
   (∀(c':Cx),c'.h=s.h.alloc ob→c'.w=c.w.alloc obj→c'.β s.h.next=(c.w.heap.size,0)→VR c' (un L0 Lo) x v)) (hx:∀k off,x≠.lp k off) :
  mD P L0 c0 n ds o s ({s with h:=s.h.alloc ob}.set o.dst x):=by
 rintro a w K Q ⟨hn,c,Lo,lam,rfl,f,e⟩ hK
 have hbs:=my e hb0
 obtain⟨obj,v,hr,hob,hv⟩:=h a c Lo lam f hn
 unfold Oper.wp
 rw [hr,Oper.upon_value]
 obtain⟨β',e',f',hβ,hl⟩:=f.fresh hbs c.w ⟨rfl,rfl,rfl,rfl⟩ ob obj hob
 rw [f.h] at f' e' hβ hl
 have f2:=f'.set (d:=o.dst) (x:=x) (v:=v) (SR.of (hv _ rfl rfl hβ)) (fun t ht=>by rw [hn]; exact hd t ht)
 exact hK _ _ ⟨(j6 _ _ _).trans hn,_,Lo,lam,rfl,f2,e.trans e'⟩
theorem Hh (hb0:c0.base≤c0.w.heap.size)(hd:j7 n ds o){t:TypeId}(ho:o.op = .makeMap t none):mD P L0 c0 n ds o s ({s with h:=s.h.alloc (.map [])}.set o.dst (.mp s.h.next)):=by
 refine pL hb0 hd (fun a c Lo lam f hn=>⟨.map #[] 0,.map (some c.w.heap.size),by simp [execOp,ho,Instr.makeMap],fun c' e hw=>⟨#[],0,by rw [hw]; exact lz _ _,trivial⟩,fun c' hh hw hβ=>?_⟩) (by rintro k off hh; cases hh)
 simp only [VR]
 exact⟨by rw [hh]; exact ajz _,_,rfl,fun _=>by rw [hβ]⟩
theorem BM {i:Int}(h0:0≤i)(h1:i≤1099511627776):IntKind.i64.wrap i=i:=IntWalk.i64_in _ (by omega)
theorem CT (hb0:c0.base≤c0.w.heap.size)(hd:j7 n ds o){t:TypeId}{lx cx:Operand}(ho:o.op = .makeSlice t lx cx){s':RS}
  (h:((kn P s.h t (cZ s.ρ lx) (cZ s.ρ cx)).map fun (x,h)=>{s with h}.set o.dst x)=some s'):mD P L0 c0 n ds o s s':=by
 rw [aiK] at h
 obtain⟨⟨x,h'⟩,hm,rfl⟩:=h
 unfold kn at hm
 split at hm<;>try (cases hm; done)
 rename_i l cc hl hc
 rw [aiJ] at hm
 obtain⟨d,MT,hm⟩:=hm
 cases d<;>simp only at hm<;>try (cases hm; done)
 rename_i e
 simp only [aiJ] at hm
 obtain⟨i,hi,z,hz,hm⟩:=hm
 split at hm
 rotate_left
 ·cases hm
 rename_i nz
 obtain⟨h0,h1,h2,h3,h4,h5,h6⟩:=nz
 simp only [aiL,aiV] at hm
 obtain⟨rfl,rfl⟩:=hm
 refine pL hb0 hd (fun a c Lo lam f hn=>?_) (by rintro k off hh; cases hh)
 have hnz:s.h.next≠0:=by have:=f.rel.ver 0; rw [f.h] at this; omega
 have oQ:=(cL f lx)
 have WB:=(cL f cx)
 rw [hl] at oQ
 rw [hc] at WB
 simp only [SR,VR] at oQ WB
 obtain⟨zv,MM,Hg⟩:=nk hz c.w
 have Mt:(typeInfo e).run P c.w = .ok i c.w:=by simp [typeInfo,hi]
 have hsz:(sizeOf e).run P c.w = .ok i.size c.w:=fX (by simp [iR,hi]) c.w
 obtain⟨GU,hz1⟩:=lL h6 (pJ (c:=c) (L:=un L0 Lo) Hg)
 have Ms:=GU.length
 have hl0:IntKind.i64.wrap l=l:=BM h0 (by omega)
 have VW:IntKind.i64.wrap cc=cc:=BM (by omega) h5
 have hroom:¬((i.bytes:Int)*cc > 2 ^ 48):=by
  rw [Int.mul_comm]; simp only [jw] at h2; omega
 have hn0:cc.toNat*i.size=0∨cc.toNat*i.size≠0:=by omega
 have Hi:(Instr.makeSlice t (.int .i64 l) (.int .i64 cc)).run P c.w = .ok (.slice (some ⟨c.w.heap.size,0,none⟩) l.toNat cc.toNat)
   (c.w.alloc (.cells ((Array.range (cc.toNat*i.size)).map (zv.cells[· % zv.cells.size]!)) e)):=by
  unfold Instr.makeSlice
  simp only [Sem.run_bind,cp MT,Result.andThen_ok,asInt,asIntOf,Sem.run_pure,Mt,hl0,VW,hsz]
  rw [if_neg (by simp only [ajE,decide_eq_true_eq,not_or]; exact⟨⟨⟨by omega,hroom⟩,by omega⟩,by omega⟩)]
  simp only [Sem.run_bind,run_askRoom,Result.andThen_ok,hsz,Sem.run_pure]
  by_cases hz0:cc.toNat*i.size=0
  ·have ZJ:∀f:Nat→Value,Array.map f (Array.range 0) = #[]:=fun f=>by simp
   simp only [hz0,if_true,Sem.run_pure,Sem.run_bind,Result.andThen_ok,newRow,run_newObj,World.alloc_eq,ZJ]
  ·simp only [hz0,if_false,Sem.run_bind,MM,Result.andThen_ok,Sem.run_pure,newRow,run_newObj,World.alloc_eq]
 have hle:l.toNat*z.cells.length≤cc.toNat*i.size:=by rw [h3]; exact ajN _ (by omega)
 have hrow:∀(c':Cx) (e':Ext c Lo c' Lo),c'.w=c.w.alloc (.cells ((Array.range (cc.toNat*i.size)).map (zv.cells[· % zv.cells.size]!)) e)→
   uE c' (un L0 Lo) c.w.heap.size 0 (.cells (lu z.cells l.toNat)):=by
  intro c' e' hw
  refine⟨_,pK hw,by rw [lN]; simp; omega,?_⟩
  have hv:=wg GU l.toNat (cc.toNat*i.size) hle (by omega)
  refine nl (w1:=c.w) hw (VRs.ext e' _ _ hv) (fun j hj=>?_) (fun u hu=>?_)
  ·rw [List.getElem?_take,if_pos (by simp at hj; omega),Array.getElem?_toList]
  ·have hu2:=List.mem_of_mem_take hu
   simp only [Array.toList_map,ajc] at hu2
   obtain⟨j,hj,rfl⟩:=hu2
   have yb:j % zv.cells.size<zv.cells.size:=Nat.mod_lt _ (by rw [←ajZ,←Ms]; omega)
   rw [getElem!_pos zv.cells _ yb]
   exact hz1 _ (by simp)
 have hex:(execOp a.eval o).run P c.w = .ok (.value (.slice (some ⟨c.w.heap.size,0,none⟩) l.toNat cc.toNat)) (c.w.alloc (.cells ((Array.range (cc.toNat*i.size)).map (zv.cells[· % zv.cells.size]!)) e)):=by
  simp only [execOp,ho,oQ,WB,Sem.run_bind,Hi,Result.andThen_ok,Sem.run_pure]
 refine⟨_,_,hex,hrow,fun c' hh hw hβ=>?_⟩
 simp only [VR]
 refine .inr ⟨hnz,by rw [hh]; exact ajz _,_,_,rfl,by omega,rfl,fun _=>.inl ?_⟩
 rw [hβ]
 refine⟨rfl,?_⟩
 simp only [Cx.len,World.shape?,hw,lz]
 simp
end
end Go.R
namespace Go.R
open Go
def pM:List Value→Nat→List Value→List Value
 | cs,_,[]=>cs
 | cs,i,v::vs=>pM (cs.set i v) (i+1) vs
theorem VRs.fm {c:Cx}{L:Nat→Prop}:∀{xs:List AV} {us:List Value} (i:Nat) {cs:List AV} {vs:List Value},VRs c L xs us→VRs c L cs vs→VRs c L (fm cs i xs) (pM vs i us)
 | [],[],i,cs,vs,_,h=>by
  have:R.fm cs i []=cs:=by cases cs<;>rfl
  rw [this]; cases vs<;>exact h
 | x::xs,u::us,i,cs,vs,h,k=>VRs.fm (i+1) h.2 (VRs.set h.1 i k)
 | [],_::_,_,_,_,h,_=>h.elim
 | _::_,[],_,_,_,h,_=>h.elim
theorem xw:∀(us:List Value) (i:Nat) (vs:List Value),(∀v∈vs,v.oneCell'=true)→(∀u∈us,u.oneCell'=true)→∀v∈pM vs i us,v.oneCell'=true
 | [],i,vs,h,_,v,hv=>h v (by cases vs<;>exact hv)
 | u::us,i,vs,h,k,v,hv=>xw us (i+1) (vs.set i u) (fun w hw=>by
   rcases List.mem_or_eq_of_mem_set hw with h1 | h1
   ·exact h w h1
   ·subst h1; exact k _ (by simp)) (fun w hw=>k w (by simp [hw])) v hv
theorem uF (off:Nat):∀(us:List Value) (j:Nat) (cells:Array Value),((us.zipIdx j).foldl (fun cs (p:Value × Nat)=>cs.setIfInBounds (off+p.2) p.1) cells).toList=pM cells.toList (off+j) us
 | [],j,cells=>by simp [pM]
 | u::us,j,cells=>by
  simp only [List.zipIdx_cons,List.foldl_cons]
  rw [uF off us (j+1)]
  simp [pM,ajT]
section
variable {P:Program}{L0:Nat→Prop}{c0:Cx}{n:Nat}{ds:List Nat}{o:Oper}{s:RS}
def zm (c:Cx)(L:Nat→Prop):List (Nat × AV)→List (Nat × Value)→Prop
 | [],[]=>True
 | (i,x)::xs,(j,v)::vs=>(i=j∧(x.cells.all AV.dp=true→VR c L x v))∧zm c L xs vs
 | _,_=>False
theorem pN {c:Cx}{L:Nat→Prop}(pl:Nat→Option (Nat × Nat)):∀{ps:List (Nat × AV)} {vs:List (Nat × Value)} {cs iO:List AV} {C:Array Value},zm c L ps vs→VRs c L cs C.toList→(∀v∈C.toList,v.oneCell'=true)→y8 pl cs ps=some iO→
  ∃C':Array Value,Instr.fill pl C vs=some C'∧VRs c L iO C'.toList∧∀v∈C'.toList,v.oneCell'=true
 | [],[],cs,iO,C,_,hc,h1,h=>by
  simp only [y8,aiL] at h
  subst h
  exact⟨C,rfl,hc,h1⟩
 | (i,x)::ps,(j,v)::vs,cs,iO,C,hp,hc,h1,h=>by
  obtain⟨⟨rfl,hx⟩,ZK⟩:=hp
  simp only [y8,aiJ] at h
  obtain⟨⟨off,size⟩,Eo,h⟩:=h
  simp only at h
  split at h
  ·rename_i nz
   obtain⟨h2,h3,h4⟩:=nz
   obtain⟨h5,h6⟩:=lL h3 (hx h3)
   have h7:v.cells.size=size:=by rw [←ajZ,←h5.length]; exact h2
   have h8:cs.length=C.size:=by rw [hc.length]; simp
   have hf:(v.cells.zipIdx.foldl (fun cs (p:Value × Nat)=>cs.setIfInBounds (off+p.2) p.1) C).toList=pM C.toList off v.cells.toList:=by
    rw [←Array.foldl_toList,Array.toList_zipIdx]
    exact uF off v.cells.toList 0 C
   obtain⟨C',h9,h10,h11⟩:=pN pl (C:=v.cells.zipIdx.foldl (fun cs (p:Value × Nat)=>cs.setIfInBounds (off+p.2) p.1) C) ZK (by rw [hf]; exact VRs.fm off h5 hc) (by rw [hf]; exact xw _ _ _ h1 h6) h
   refine⟨C',?_,h10,h11⟩
   simp only [Instr.fill,Eo]
   rw [if_neg (by simp only [ajE,decide_eq_true_eq,not_or,ne_eq,Decidable.not_not]; exact⟨h7,by omega⟩)]
   exact h9
  ·cases h
 | [],_::_,_,_,_,h,_,_,_=>h.elim
 | _::_,[],_,_,_,h,_,_,_=>h.elim
theorem uG {c:Cx}{Lo:Nat→Prop}{lam:Nat→Nat}{a:Act}(f:Fr L0 c Lo lam ds s a):∀ps:List (Nat × Operand),zm c (un L0 Lo) (ps.map fun (i,x)=>(i,cZ s.ρ x)) (ps.map fun (i,x)=>(i,a.eval x))
 | []=>trivial
 | (i,x)::ps=>⟨⟨rfl,fun h=>(cL f x).yK h⟩,uG f ps⟩
theorem xy {v:Value}{x:AV}(h:uB v=some x):x.dp=true:=by
 unfold uB at h
 split at h<;>first | (cases h; done) | (cases h; rfl)
theorem uH:∀{vs:List Value} {xs:List AV},xn vs=some xs→xs.all AV.dp=true
 | [],xs,h=>by simp [xn] at h; subst h; rfl
 | v::vs,xs,h=>by
  simp only [xn,aiJ] at h
  obtain⟨x,hx,ys,hy,he⟩:=h
  cases he
  simp [xy hx,uH hy]
theorem tP {v:Value}{x:AV}(h:ME v=some x):x.cells.all AV.dp=true:=by
 unfold ME at h
 split at h
 ·rw [aiK] at h
  obtain⟨xs,hx,rfl⟩:=h
  exact uH hx
 ·have h1:=xy h
  cases x<;>simp_all [AV.cells,AV.dp]
theorem zn {c:Cx}(w:World):∀fs:List Field,(∀f∈fs,∃m,iR P f.type=some m)→(fs.mapM (m:=Sem) fun f=>do pure (f.offset,←sizeOf f.type)).run P w = .ok (fs.map fun f=>(f.offset,(iR P f.type).getD 0)) w
 | [],_=>by simp
 | f::fs,h=>by
  obtain⟨m,hm⟩:=h f (by simp)
  have ih:=zn (c:=c) w fs (fun g hg=>h g (by simp [hg]))
  simp only [List.mapM_cons,Sem.run_bind,fX hm,ih,hm,Sem.run_pure,Result.andThen_ok,ai9,ajR]
theorem run_build {c:Cx}{L:Nat→Prop}{t:TypeId}{ps:List (Nat × AV)}{vs:List (Nat × Value)}{y:AV}(hp:zm c L ps vs)(h:G2 P t ps=some y) :
  ∃v,(Instr.build t vs.toArray).run P c.w = .ok v c.w∧VR c L y v:=by
 unfold G2 at h
 simp only [aiJ] at h
 obtain⟨z,hz,d,hd,h⟩:=h
 obtain⟨zv,MM,Hg⟩:=nk hz c.w
 obtain⟨GU,hz1⟩:=lL (tP Hg) (pJ (c:=c) (L:=L) Hg)
 cases d<;>simp only at h<;>try (cases h; done)
 ·rename_i len e
  simp only [aiJ,aiK] at h
  obtain⟨m,hm,cs,hf,rfl⟩:=h
  obtain⟨C',h1,h2,_⟩:=pN _ hp GU hz1 hf
  refine⟨.agg C',?_,by simp only [VR]; exact⟨C',rfl,h2⟩⟩
  unfold Instr.build
  simp [MM,cp hd,fX hm,h1]
 ·rename_i fs
  split at h
  rotate_left
  ·cases h
  rename_i WC
  have pc:∀f∈fs.toList,∃m,iR P f.type=some m:=fun f hf=>aju.1 (ajd.1 WC f hf)
  rw [aiK] at h
  obtain⟨cs,hf,rfl⟩:=h
  obtain⟨C',h1,h2,_⟩:=pN _ hp GU hz1 hf
  refine⟨.agg C',?_,by simp only [VR]; exact⟨C',rfl,h2⟩⟩
  have hpr:=zn (P:=P) (c:=c) c.w fs.toList pc
  have Eo:(fun i=>(fs.toList.map fun f=>(f.offset,(iR P f.type).getD 0)).toArray[i]?)=G1 P fs.toList:=by
   funext i
   simp only [G1,List.getElem?_toArray,aje]
   cases hi:fs.toList[i]? with
   | none=>rfl
   | some f=>
    obtain⟨m,hm⟩:=pc f (aiS hi)
    simp [hm]
  unfold Instr.build
  simp only [Sem.run_bind,MM,cp hd,Result.andThen_ok]
  rw [←Array.toArray_toList (xs:=fs),List.mapM_toArray]
  simp only [Sem.run_map,hpr,Result.andThen_ok]
  rw [Eo,h1]
  rfl
end
end Go.R
namespace Go.R
open Go
section
variable {P:Program}{L0:Nat→Prop}{c0:Cx}{n:Nat}{ds:List Nat}{o:Oper}{s:RS}
theorem zo (hb0:c0.base≤c0.w.heap.size)(hd:j7 n ds o){x:AV}
  (h:∀a c Lo lam,Fr L0 c Lo lam ds s a→a.tmps.size=n→c.base≤c.w.heap.size→∃(w':World) (v:Value),(execOp a.eval o).run P c.w = .ok (.value v) w'∧(∀b,b<c.w.heap.size→kR c.w w' b)∧(∀id,Live c.h id→w'.heap[(c.β id).1]? = c.w.heap[(c.β id).1]?)∧(∀b,b<c.base→w'.heap[b]? = c.w.heap[b]?)∧c.w.heap.size≤w'.heap.size∧
   w'.os=c.w.os∧w'.tape=c.w.tape∧w'.output=c.w.output∧(Ext c Lo {c with w:=w'} Lo→VR {c with w:=w'} (un L0 Lo) x v)) (hx:∀k off,x≠.lp k off) :
  mD P L0 c0 n ds o s (s.set o.dst x):=by
 rintro a w K Q ⟨hn,c,Lo,lam,rfl,f,e⟩ hK
 obtain⟨w',v,hr,h1,h1l,h2,h3,h4,h5,h6,hv⟩:=h a c Lo lam f hn (my e hb0)
 obtain⟨e',f'⟩:=f.world h1 h1l h2 h3 h4 h5 h6
 unfold Oper.wp
 rw [hr,Oper.upon_value]
 exact hK _ _ ⟨(j6 _ _ _).trans hn,_,Lo,lam,rfl,f'.set (SR.of (hv e')) (fun t ht=>by rw [hn]; exact hd t ht),e.trans e'⟩
theorem MU {c c':Cx}{Lo:Nat→Prop}(r:HRel c (un L0 Lo))(hβ:c'.β=c.β)(hh:c'.h=c.h):RO c' (un L0 Lo) c.w.heap.size:=by
 refine⟨fun id hl he=>?_,fun hL=>?_⟩
 ·rw [hh] at hl
  rw [hβ] at he
  have:=r.block hl; omega
 ·have:=r.bd _ hL; omega
theorem rM {c:Cx}{L:Nat→Prop}{t:TypeId}{len:Nat}{ps:List (Nat × AV)}{vs:List (Nat × Value)}{y:AV}(hp:zm c L ps vs)(h:km P t len ps=some y) :
  (y = .fz [] 0 true∧∃e,(Instr.buildSlice t len vs.toArray).run P c.w = .ok (.slice (some ⟨c.w.heap.size,0,none⟩) 0 0) (c.w.alloc (.cells #[] e)))∨
  ∃cs C e,y = .fz cs len true∧(Instr.buildSlice t len vs.toArray).run P c.w = .ok (.slice (some ⟨c.w.heap.size,0,none⟩) len len) (c.w.alloc (.cells C e))∧VRs c L cs C.toList∧∀v∈C.toList,v.oneCell'=true:=by
 unfold km at h
 rw [aiJ] at h
 obtain⟨d,hd,h⟩:=h
 cases d<;>simp only at h<;>try (cases h; done)
 rename_i e
 rw [aiJ] at h
 obtain⟨m,hm,h⟩:=h
 split at h
 ·cases h
 rename_i WD
 have zi:m≠0:=fun h=>WD (.inl h)
 have WE:¬(len*m > 2 ^ 24):=fun h=>WD (.inr (by omega))
 split at h
 ·rename_i hl0
  subst hl0
  split at h
  ·rename_i WG
   cases h
   have ZK:ps=[]:=by simpa using WG
   subst ZK
   cases vs with
   | cons _ _=>exact hp.elim
   | nil=>
   refine .inl ⟨rfl,e,?_⟩
   unfold Instr.buildSlice
   simp only [Sem.run_bind,cp hd,fX hm,Result.andThen_ok,Nat.zero_mul,if_true,Sem.run_pure]
   have ZJ:∀f:Nat→Value,Array.map f (Array.range 0) = #[]:=fun f=>by simp
   simp only [Instr.fill,newRow,ZJ,Sem.run_bind,run_newObj,Result.andThen_ok,Sem.run_pure,World.alloc_eq]
   rfl
  ·cases h
 ·rename_i hl0
  rw [aiJ] at h
  obtain⟨z,hz,h⟩:=h
  split at h
  rotate_left
  ·cases h
  rename_i Ms
  rw [aiK] at h
  obtain⟨cs,hf,rfl⟩:=h
  obtain⟨zv,MM,Hg⟩:=nk hz c.w
  obtain⟨GU,hz1⟩:=lL (tP Hg) (pJ (c:=c) (L:=L) Hg)
  have hz0:=wg GU len (len*m) (by rw [Ms]; exact aiQ _) (by omega)
  rw [ajp (by simp [Ms])] at hz0
  have hz2:∀u∈((Array.range (len*m)).map (zv.cells[· % zv.cells.size]!)).toList,u.oneCell'=true:=by
   intro u hu
   simp only [Array.toList_map,ajc] at hu
   obtain⟨j,hj,rfl⟩:=hu
   have yb:j % zv.cells.size<zv.cells.size:=Nat.mod_lt _ (by rw [←ajZ,←GU.length]; omega)
   rw [getElem!_pos zv.cells _ yb]
   exact hz1 _ (by simp)
  obtain⟨C',h1,h2,h3⟩:=pN _ hp hz0 hz2 hf
  refine .inr ⟨cs,C',e,rfl,?_,h2,h3⟩
  have hne:len*m≠0:=Nat.mul_ne_zero hl0 zi
  unfold Instr.buildSlice
  simp only [Sem.run_bind,cp hd,fX hm,Result.andThen_ok,WE,hne,if_false,Sem.run_pure,MM]
  rw [h1]
  simp [newRow]
theorem Bj (hb0:c0.base≤c0.w.heap.size)(hd:j7 n ds o){t:TypeId}{len:Nat}{ps:Array (Nat × Operand)}(ho:o.op = .buildSlice t len ps){y:AV}
  (h:km P t len (ps.toList.map fun (i,x)=>(i,cZ s.ρ x))=some y):mD P L0 c0 n ds o s (s.set o.dst y):=by
 refine zo hb0 hd (fun a c Lo lam f hn hbs=>?_) ?_
 ·have hp:=uG f ps.toList
  have hex:∀v w',(Instr.buildSlice t len (ps.toList.map fun (i,x)=>(i,a.eval x)).toArray).run P c.w = .ok v w'→(execOp a.eval o).run P c.w = .ok (.value v) w':=by
   intro v w' hr
   have he:ps.map (fun (i,x)=>(i,a.eval x))=(ps.toList.map fun (i,x)=>(i,a.eval x)).toArray:=by
    apply akv; simp
   simp only [execOp,ho,Sem.run_bind]
   rw [he,hr]
   rfl
  rcases rM hp h with⟨rfl,e,hr⟩| ⟨cs,C,e,rfl,hr,hv,h1⟩
  ·refine⟨_,_,hex _ _ hr,fun b hb=>.inl (alloc_old _ _ hb),fun id hl=>alloc_old _ _ (f.rel.block hl),fun b hb=>alloc_old _ _ (by omega),by simp,rfl,rfl,rfl,fun _=>by simp only [VR]; exact⟨_,_,rfl,aiQ _,fun _=>rfl,.inl rfl,.inl trivial⟩⟩
  ·refine⟨_,_,hex _ _ hr,fun b hb=>.inl (alloc_old _ _ hb),fun id hl=>alloc_old _ _ (f.rel.block hl),fun b hb=>alloc_old _ _ (by omega),by simp,rfl,rfl,rfl,fun e'=>?_⟩
   simp only [VR]
   exact⟨_,_,rfl,aiQ _,fun _=>rfl,.inl rfl,.inr ⟨c.w.heap.size,0,rfl,MU f.rel rfl rfl,fun _=>hbs,nl (w1:=c.w) rfl (VRs.ext e' _ _ hv) (fun i _=>by simp) h1⟩⟩
 ·rintro k off rfl
  unfold km at h
  rw [aiJ] at h
  obtain⟨d,_,h⟩:=h
  cases d<;>simp only at h<;>try (cases h; done)
  rw [aiJ] at h
  obtain⟨m,_,h⟩:=h
  split at h
  ·cases h
  ·split at h
   ·split at h<;>cases h
   ·rw [aiJ] at h
    obtain⟨z,_,h⟩:=h
    split at h
    ·rw [aiK] at h
     obtain⟨_,_,h⟩:=h
     cases h
    ·cases h
theorem EK {bb:List Nat}{t:TypeId}{y:AV}{cs:List AV}{k z:Nat}(h:tM P bb o t y=some (cs,k,z)):y = .fz cs k true∧cs.length=k*z∧cs≠[]:=by
 unfold tM at h
 split at h
 ·rename_i d c iO k' hd
  cases hc:bb.contains d with
  | false=>rw [hc] at h; cases h
  | true=>
   rw [hc] at h
   simp only [cond_true] at h
   split at h
   ·split at h
    ·rename_i z' hz
     cases hb:ajy (c::iO).length (k'*z') with
     | false=>rw [hb] at h; cases h
     | true=>
      rw [hb] at h
      simp only [cond_true,aiL,aiV] at h
      obtain⟨rfl,rfl,rfl⟩:=h
      exact⟨rfl,aj2 hb,by simp⟩
    ·cases h
   ·cases h
 ·cases h
theorem zp (hb0:c0.base≤c0.w.heap.size)(hd:j7 n ds o){t:TypeId}{len:Nat}{ps:Array (Nat × Operand)}(ho:o.op = .buildSlice t len ps){y:AV}(bb:List Nat)
  (h:km P t len (ps.toList.map fun (i,x)=>(i,cZ s.ρ x))=some y):mD P L0 c0 n ds o s (wa P bb s o t y):=by
 have key:=Bj (L0:=L0) hb0 hd ho h
 unfold wa
 cases TL:tM P bb o t y with
 | none=>exact key
 | some q=>
 obtain⟨Y5,n1,z⟩:=q
 obtain⟨rfl,hlen,hne⟩:=EK TL
 have fin:=pL (P:=P) (L0:=L0) (c0:=c0) (o:=o) (s:=s) hb0 hd (ob:=.cells Y5) (x:=.rs s.h.next 0 n1 z) (fun a c Lo lam f hn=>by
  have hp:=uG f ps.toList
  have hex:∀v w',(Instr.buildSlice t len (ps.toList.map fun (i,x)=>(i,a.eval x)).toArray).run P c.w = .ok v w'→(execOp a.eval o).run P c.w = .ok (.value v) w':=by
   intro v w' hr
   have he:ps.map (fun (i,x)=>(i,a.eval x))=(ps.toList.map fun (i,x)=>(i,a.eval x)).toArray:=by
    apply akv; simp
   simp only [execOp,ho,Sem.run_bind]
   rw [he,hr]
   rfl
  rcases rM hp h with⟨he,_⟩| ⟨cs,C,e,he,hr,hv,h1⟩
  ·cases he; exact absurd rfl hne
  ·cases he
   have WH:C.size=Y5.length:=by rw [←ajZ,←hv.length]
   refine⟨_,_,hex _ _ hr,fun c' e' hw=>⟨_,pK (w1:=c.w) hw,by rw [WH,ajf]; exact aiQ _,nl (w1:=c.w) hw (VRs.ext e' _ _ hv) (fun i _=>by simp) h1⟩,fun c' hh hw hβ=>?_⟩
   simp only [VR]
   refine .inr ⟨(by have:=f.rel.ver 0; rw [f.h] at this; omega),by rw [hh]; exact ajz _,_,_,rfl,aiQ _,rfl,fun _=>.inl ?_⟩
   rw [hβ]
   refine⟨rfl,?_⟩
   simp only [Cx.len,World.shape?,hw,lz]
   simp only [aiR,ajR,WH,hlen,ajf]) (by rintro k off hh; cases hh)
 exact fin
theorem wi {c:Cx}{Lo:Nat→Prop}{lam:Nat→Nat}{a:Act}(f:Fr L0 c Lo lam ds s a){tx:TypeId}{size m:Nat}{x:AV}{v:Value}{new:List AV}(hx:SR c L0 Lo lam s.bx x v)
  (hk:(∃e',P.underlying tx=some (.slice e'))∨P.underlying tx=some .string) (Hj:∀st,x = .str st→P.underlying tx=some .string) (MV:(∀st,x≠.str st)→∃e',P.underlying tx=some (.slice e')) (h:fW s.h size x=some (new,m)) :
  ∃news,Src P size tx v m news c.w∧VRs c (un L0 Lo) new news:=by
 unfold fW at h
 cases x<;>simp only at h<;>try (cases h; done)
 ·rename_i st
  split at h
  ·rename_i h1
   subst h1
   cases h
   simp only [SR,VR] at hx
   subst hx
   refine⟨_,Src.ofString c.w (Hj st rfl) st,?_⟩
   unfold byteCells
   generalize st.data.toList=l
   induction l with
   | nil=>trivial
   | cons b l ih=>exact⟨by simp [VR],ih⟩
  ·cases h
 ·cases h
  obtain⟨e',he⟩:=MV (by rintro st h; cases h)
  simp only [SR,VR] at hx
  subst hx
  exact⟨[],Src.ofNil c.w he 0,trivial⟩
 ·rename_i cs k ex
  split at h
  ·rename_i hl
   cases h
   obtain⟨e',he⟩:=MV (by rintro st h; cases h)
   simp only [SR,VR] at hx
   obtain⟨ad,cap,rfl,h1,h2,_,hc⟩:=hx
   rcases hc with rfl | ⟨b,o',rfl,hr,hex,hc⟩
   ·have hl0:m*size=0:=by simpa using hl.symm
    cases ad with
    | none=>
     refine⟨[],⟨.inl ⟨e',he⟩,fun _=>rfl,run_firstCells_none c.w size m m cap,run_firstCells_none c.w.drew size m m cap,by simpa using hl,fun _ h=>by cases h⟩,trivial⟩
    | some ad=>exact⟨[],Src.ofSlice c.w he ad m cap [] (by simpa using hl) (fun j u hu=>by simp at hu) (fun u hu=>by cases hu),trivial⟩
   ·obtain⟨vs,q1,q2,q3⟩:=hc.vals
    refine⟨vs,Src.ofSlice c.w he _ m cap vs (by rw [←q1.length]; exact hl) (fun j u hu=>?_) q3,q1⟩
    rw [addr_add,q2 j (by rw [q1.length]; exact (aiO.1 hu).1)]
    exact hu
  ·cases h
 ·rename_i id off k lq
  split at h
  ·rename_i hid
   split at h
   rotate_left
   ·cases h
   rename_i Y4
   cases h
   obtain⟨e',he⟩:=MV (by rintro st h; cases h)
   simp only [SR,VR] at hx
   rcases hx with⟨_,_,_,a,rfl⟩| ⟨_,_,a,cap,rfl,_,h2,_⟩
   rotate_left
   ·cases a with
    | none=>cases h2
    | some ad=>subst Y4; exact⟨[],Src.ofSlice c.w he ad 0 cap [] (by simp) (fun j u hu=>by simp at hu) (fun u hu=>by cases hu),trivial⟩
   cases a with
   | none=>exact⟨[],Src.ofNil c.w he 0,trivial⟩
   | some ad=>exact⟨[],Src.ofSlice c.w he ad 0 0 [] (by simp) (fun j u hu=>by simp at hu) (fun u hu=>by cases hu),trivial⟩
  rename_i nV
  rw [aiJ] at h
  obtain⟨ob,hob,h⟩:=h
  cases ob with
  | map es=>cases h
  | row t cs=>cases h
  | cells cs=>
  simp only at h
  split at h
  ·rename_i hh
   obtain⟨rfl,hle⟩:=hh
   cases h
   obtain⟨e',he⟩:=MV (by rintro st h; cases h)
   simp only [SR,VR] at hx
   rcases hx with hx | ⟨_,hid,ad,cap,rfl,h1,h2,h3⟩
   ·exact absurd (.inl hx.1) nV
   rw [←f.h] at hob
   have hl:Live c.h id:=⟨f.rel.lt _ _ hob,by simp [hob]⟩
   obtain⟨q,hp,hm,hc⟩:=f.rel.obj _ _ hob
   have hc2:=(hc.drop off).take (m*lq)
   have hlen:((cs.drop off).take (m*lq)).length=m*lq:=by simp; omega
   obtain⟨vs,q1,q2,q3⟩:=hc2.vals
   rcases h3 hl with⟨h5,h4⟩| hcap
   ·subst h5
    refine⟨vs,Src.ofSlice c.w he _ m cap vs (by rw [←q1.length]; exact hlen) (fun j u hu=>?_) q3,q1⟩
    rw [addr_add,q2 j (by rw [q1.length]; exact (aiO.1 hu).1)]
    exact hu
   ·have zi:m=0:=by omega
    subst zi
    simp only [Nat.zero_mul,List.take_zero] at q1 ⊢
    cases ad with
    | none=>simp at h2
    | some ad=>exact⟨[],Src.ofSlice c.w he ad 0 cap [] (by simp) (fun j u hu=>by simp at hu) (fun u hu=>by cases hu),trivial⟩
  ·cases h
end
end Go.R
namespace Go.R
open Go
section
variable {P:Program}{L0:Nat→Prop}{c0:Cx}{n:Nat}{ds:List Nat}{o:Oper}{s:RS}
theorem grownCap_ge (w:World){need old:Nat}{e:TypeId}:need≤grownCap w need old e:=by
 unfold grownCap
 simp only [Question.cut]
 omega
theorem zq (z:Array Value)(k:Nat):(Builtin.zeroCells z k).size=k*z.size:=by simp [Builtin.zeroCells]
theorem la (w:World){t tx ty e:TypeId}{i:TypeInfo}(ht:P.underlying t=some (.slice e))(hi:P.info? e=some i){base:Option Addr}{len cap:Nat}(hlc:len≤cap){x:Value}{news:List Value}(hs:Src P i.size tx x 0 news w) :
  (Builtin.append_ #[t,tx] ty #[.slice base len cap,x]).run P w = .ok (.slice base len cap) w:=by
 have WI:news=[]:=ajs (by rw [hs.newsLen]; simp)
 have hc:=hs.cells
 rw [WI] at hc
 rcases hs.kind with⟨e',hk⟩| hk<;>cases base<;>simp [Builtin.append_,run_underlying ht,run_underlying hk,sizeOf,typeInfo,hi,hs.len,hlc,hc,storeCells]
theorem CU {c:Cx}{b m:Nat}(hp:Plain c b m){j:Nat}(hj:j<m):c.w.frozen? ⟨b,j,none⟩=false:=by
 obtain⟨C,e,lo,hi,hb,hf,rfl⟩:=hp
 simp only [World.frozen?,hb]
 rcases hf with hf | hf
 ·subst hf; simp
 ·simp; omega
theorem Fr.grown {c:Cx}{Lo:Nat→Prop}{lam:Nat→Nat}{a:Act}(f:Fr L0 c Lo lam ds s a)(hbs:c.base≤c.w.heap.size){e:TypeId}{z:Value}{size need cap:Nat}(Mt:z.cells.size=size)(hcap:need≤cap){xs:List AV}{vs:List Value}(hv:VRs c (un L0 Lo) xs vs)(h1:∀v∈vs,v.oneCell'=true)
  (hl:vs.length=need*size) (h':AHeap) (hg:h'.get c.h.next=some (.cells xs)) (hst:Steady c.h h') (hn:c.h.next<h'.next) (ho:∀id,id≠c.h.next→h'.get id=none∨h'.get id=c.h.get id) :
  ∃c':Cx,c'.w=c.w.drew.alloc (.cells (vs.toArray++Builtin.zeroCells z.cells (cap - need)) e)∧c'.h=h'∧Ext c Lo c' Lo∧Fr L0 c' Lo lam ds {s with h:=h'} a∧VR c' (un L0 Lo) (.rs c.h.next 0 need size) (.slice (some ⟨c.w.heap.size,0,none⟩) need cap):=by
 have WH:(vs.toArray++Builtin.zeroCells z.cells (cap - need)).size=cap*size:=by
  rw [Array.size_append,zq,Mt,List.size_toArray,hl,←akb]
  congr 1; omega
 have hxl:=hv.length
 obtain⟨β',e',f',hβ,hlive⟩:=f.MR hbs c.w.drew ⟨rfl,rfl,rfl,rfl⟩ (.cells xs) (.cells (vs.toArray++Builtin.zeroCells z.cells (cap - need)) e) h' hg hst hn ho (fun c' e' hw=>by
  refine⟨_,pK (w1:=c.w.drew) hw,?_,nl (w1:=c.w.drew) hw (VRs.ext e' _ _ hv) (fun i hi=>?_) h1⟩
  ·rw [WH,ajf,hxl,hl]; exact ajN _ hcap
  ·rw [Array.getElem?_append_left (by simpa using hi)]; simp)
 refine⟨_,rfl,rfl,e',f',?_⟩
 simp only [VR]
 refine .inr ⟨(by have:=f.rel.ver 0; omega),hlive.1,_,_,rfl,hcap,rfl,fun _=>.inl ?_⟩
 rw [hβ]
 refine⟨rfl,?_⟩
 have:(c.w.drew.alloc (.cells (vs.toArray++Builtin.zeroCells z.cells (cap - need)) e)).heap[c.w.heap.size]? = some (.cells (vs.toArray++Builtin.zeroCells z.cells (cap - need)) e):=lz c.w.drew _
 simp only [Cx.len,World.shape?,this,aiR,ajR,WH]
 omega
theorem Lh (hb0:c0.base≤c0.w.heap.size)(hd:j7 n ds o){t t2:TypeId}{sx xx:Operand}(ho:o.op = .call {callee:=.builtin .append,args:=#[sx,xx],argTypes:=#[t,t2]}){s':RS}
  (h:((eC P s.h t t2 (cZ s.ρ sx) (cZ s.ρ xx)).map fun (v,h)=>{s with h}.set o.dst v)=some s'):mD P L0 c0 n ds o s s':=by
 rw [aiK] at h
 obtain⟨⟨y,h'⟩,ha,rfl⟩:=h
 unfold eC at ha
 rw [aiJ] at ha
 obtain⟨d,MT,ha⟩:=ha
 cases d<;>simp only at ha<;>try (cases ha; done)
 rename_i e
 rw [aiJ] at ha
 obtain⟨i,hi,ha⟩:=ha
 rw [aiJ] at ha
 obtain⟨⟨new,m⟩,TM,ha⟩:=ha
 simp only at ha
 obtain⟨TO,hcs,hnew⟩:∃TO,fW s.h i.size (cZ s.ρ xx)=some (TO,m)∧new=TO.map nq:=by
  unfold fN at TM
  rw [aiK] at TM
  obtain⟨⟨p,q⟩,h1,h2⟩:=TM
  simp only [aiV] at h2
  obtain⟨rfl,rfl⟩:=h2
  exact⟨p,h1,rfl⟩
 split at ha
 ·cases ha
 rename_i nz
 have hsz0:i.size≠0:=fun h=>nz (.inl h)
 have jz:ly P t2 (cZ s.ρ xx)=true:=by
  cases hq:ly P t2 (cZ s.ρ xx) with
  | true=>rfl
  | false=>exact absurd (.inr (.inl hq)) nz
 obtain⟨zv,z,GU,Hg,Ms⟩:∃zv z,i.zero=some zv∧ME zv=some z∧z.cells.length=i.size:=by
  have hz:Sy i=true:=by
   cases hq:Sy i with
   | true=>rfl
   | false=>exact absurd (.inr (.inr hq)) nz
  unfold Sy at hz
  cases hq:i.zero.bind ME with
  | none=>rw [hq] at hz; cases hz
  | some z=>
   rw [hq] at hz
   obtain⟨zv,h1,h2⟩:=aiJ.1 hq
   exact⟨zv,z,h1,h2,by simpa using hz⟩
 have Mt:∀c L,zv.cells.size=i.size:=fun (c:Cx) (L:Nat→Prop)=>by
  have:=(lL (tP Hg) (pJ (c:=c) (L:=L) Hg)).1.length
  rw [Ms] at this
  simpa using this.symm
 have EF:(∃e',P.underlying t2=some (.slice e'))∨P.underlying t2=some .string:=by
  unfold ly at jz
  split at jz
  ·right; revert jz; split<;>simp_all
  ·left; revert jz; split<;>simp_all
 have Hj:∀st,cZ s.ρ xx = .str st→P.underlying t2=some .string:=by
  intro st he
  rw [he] at jz
  simp only [ly] at jz
  revert jz; split<;>simp_all
 have MV:(∀st,cZ s.ρ xx≠.str st)→∃e',P.underlying t2=some (.slice e'):=by
  intro hne
  unfold ly at jz
  split at jz
  ·rename_i st he; exact absurd he (hne st)
  ·revert jz; split<;>simp_all
 rintro a w K Q ⟨hn,c,Lo,lam,rfl,f,e0⟩ hK
 have hbs:=my e0 hb0
 obtain⟨news,hS,SF⟩:=wi (P:=P) f (cL f xx) EF Hj MV hcs
 replace SF:VRs c (un L0 Lo) new news:=hnew ▸ zg SF
 have hex:∀v w',(Builtin.append_ #[t,t2] o.type #[a.eval sx,a.eval xx]).run P c.w = .ok v w'→(execOp a.eval o).run P c.w = .ok (.value v) w':=by
  intro v w' hr
  unfold execOp
  simp only [ho,resolve,invoke,builtin,Sem.run_bind,Sem.run_pure,Result.andThen_ok,List.map_toArray,ai9,akc,hr]
 have fin:∀c' v,(Builtin.append_ #[t,t2] o.type #[a.eval sx,a.eval xx]).run P c.w = .ok v c'.w→Ext c Lo c' Lo→Fr L0 c' Lo lam ds {s with h:=h'} a→VR c' (un L0 Lo) y v→o.wp P a c.w K Q:=by
  intro c' v hr e' f' hv
  unfold Oper.wp
  rw [hex v _ hr,Oper.upon_value]
  exact hK _ _ ⟨(j6 _ _ _).trans hn,c',Lo,lam,rfl,f'.set (SR.of hv) (fun t ht=>by rw [hn]; exact hd t ht),e0.trans e'⟩
 have IS:=cL f sx
 have h63:∀k:Nat,k≤jw→(k:Int)≤9223372036854775807:=fun k hk=>by simp only [jw] at hk; omega
 have hfit:∀need old,old<need→need*i.bytes≤jw→Builtin.nextslicecap need old*i.bytes≤281474976710656:=fun need old h1 h2=>growslice_fits h1 (by simp only [jw] at h2; omega)
 have hnl:=SF.length
 have hone:=hS.one
 have EL:=hS.newsLen
 cases hq:cZ s.ρ sx with
 | nils=>
  rw [hq] at ha IS
  simp only [SR,VR] at IS
  obtain⟨ad,GR,afY⟩:∃ad:Option Addr,a.eval sx = .slice ad 0 0∧ad=none:=⟨none,IS,rfl⟩
  simp only at ha
  split at ha
  ·cases ha
  rename_i hroom
  split at ha
  ·rename_i zi
   subst zi
   cases ha
   refine fin c (.slice ad 0 0) ?_ (Ext.refl _ _) f (by simp only [VR]; exact .inl ⟨trivial,trivial,trivial,ad,rfl⟩)
   rw [GR]
   exact la c.w MT hi (aiQ _) hS
  ·rename_i zi
   cases ha
   have hold:(Builtin.firstCells i.size 0 (.slice ad 0 0)).run P c.w.drew = .ok ([]:List Value).toArray c.w.drew:=by
    cases ad with
    | none=>exact run_firstCells_none _ _ _ _ _
    | some ad=>exact run_firstCells_some _ _ _ _ _ _ [] (by simp) (fun j v hj=>by simp at hj)
   have hr:=run_append_grow_src c.w t t2 o.type e i zv MT hi GU ad 0 0 [] hold (a.eval xx) m news hS (by omega) (by rw [ajf]; exact h63 _ (by omega)) (hfit _ _ (by omega) (by rw [ajf]; omega))
   simp only [ajf,ajj] at hr
   obtain⟨c',hw,hh,e',f',hv⟩:=f.grown hbs (e:=e) (Mt c L0) (grownCap_ge c.w (need:=m) (old:=0) (e:=e)) SF hone EL (s.h.alloc (.cells new)) (by rw [f.h]; simp [AHeap.alloc,AHeap.put,beq_nat]) (by rw [f.h]; exact Steady.put _ _ _) (by rw [f.h]; exact ajz _) (fun id hne=>.inr (by rw [f.h] at hne ⊢; simp [AHeap.alloc,AHeap.put,beq_nat,hne]))
   refine fin c' _ ?_ e' f' (by rw [←f.h]; exact hv)
   rw [GR,hw]
   exact hr
 | fz cs len ex=>
  rw [hq] at ha IS
  cases ex with
  | false=>simp only at ha; cases ha
  | true=>
  simp only [SR,VR] at IS
  obtain⟨ad,cap,GR,h1,h2,wj,hc⟩:=IS
  have hcap:=h2 trivial
  subst hcap
  simp only at ha
  split at ha
  ·cases ha
  rename_i hroom
  split at ha
  ·rename_i zi
   subst zi
   refine fin c (.slice ad cap cap) ?_ (Ext.refl _ _) (by split at ha<;>cases ha<;>exact f) ?_
   ·rw [GR]
    exact la c.w MT hi (aiQ _) hS
   ·split at ha
    ·rename_i hz
     cases ha
     subst hz
     simp only [VR]
     exact .inl ⟨trivial,trivial,trivial,ad,rfl⟩
    ·cases ha
     simp only [VR]
     exact⟨ad,cap,rfl,h1,h2,wj,hc⟩
  ·rename_i zi
   cases ha
   have hcl:cs.length=cap*i.size:=by
    by_cases h3:cs.length=cap*i.size
    ·exact h3
    ·exact absurd (.inr (.inr h3)) hroom
   obtain⟨zr,VX,ZL,SG⟩:∃zr:List Value,VRs c (un L0 Lo) cs zr∧(Builtin.firstCells i.size cap (.slice ad cap cap)).run P c.w.drew = .ok zr.toArray c.w.drew∧∀v∈zr,v.oneCell'=true:=by
    rcases hc with rfl | ⟨b,o',rfl,hr,afZ,hc⟩
    ·refine⟨[],trivial,?_,fun _ h=>by cases h⟩
     cases ad with
     | none=>exact run_firstCells_none _ _ _ _ _
     | some ad=>exact run_firstCells_some _ _ _ _ _ _ [] (by simpa using hcl) (fun j v hj=>by simp at hj)
    ·obtain⟨vs,q1,q2,q3⟩:=hc.vals
     refine⟨vs,q1,run_firstCells_some _ _ _ _ _ _ vs (by rw [←q1.length]; exact hcl) (fun j v hj=>?_),q3⟩
     rw [World.cell?_drew,addr_add,q2 j (by rw [q1.length]; exact (aiO.1 hj).1)]
     exact hj
   have QC:=VX.length
   have hr:=run_append_grow_src c.w t t2 o.type e i zv MT hi GU ad cap cap zr ZL (a.eval xx) m news hS (by omega) (h63 _ (by omega)) (hfit _ _ (by omega) (by omega))
   obtain⟨c',hw,hh,e',f',hv⟩:=f.grown hbs (e:=e) (Mt c L0) (grownCap_ge c.w (need:=cap+m) (old:=cap) (e:=e)) (VRs.append VX SF) (fun v hv=>(ai3.1 hv).elim (SG v) (hone v)) (by rw [aiT,EL,←QC,hcl,akb]) (s.h.alloc (.cells (cs++new))) (by rw [f.h]; simp [AHeap.alloc,AHeap.put,beq_nat]) (by rw [f.h]; exact Steady.put _ _ _) (by rw [f.h]; exact ajz _) (fun id hne=>.inr (by rw [f.h] at hne ⊢; simp [AHeap.alloc,AHeap.put,beq_nat,hne]))
   refine fin c' _ ?_ e' f' (by rw [←f.h]; exact hv)
   rw [GR,hw]
   exact hr
 | rs id off len lq=>
  rw [hq] at ha IS
  simp only [SR,VR] at IS
  simp only at ha
  split at ha
  ·rename_i hid
   rcases IS with⟨_,hoff,WJ,ad,GR⟩| IS
   rotate_left
   ·exact absurd hid IS.1
   split at ha
   ·cases ha
   rename_i hroom
   split at ha
   ·rename_i zi
    subst zi
    cases ha
    refine fin c (.slice ad 0 0) ?_ (Ext.refl _ _) f (by simp only [VR]; exact .inl ⟨hid,hoff,WJ,ad,rfl⟩)
    rw [GR]
    exact la c.w MT hi (aiQ _) hS
   ·rename_i zi
    cases ha
    have hold:(Builtin.firstCells i.size 0 (.slice ad 0 0)).run P c.w.drew = .ok ([]:List Value).toArray c.w.drew:=by
     cases ad with
     | none=>exact run_firstCells_none _ _ _ _ _
     | some ad=>exact run_firstCells_some _ _ _ _ _ _ [] (by simp) (fun j v hj=>by simp at hj)
    have hr:=run_append_grow_src c.w t t2 o.type e i zv MT hi GU ad 0 0 [] hold (a.eval xx) m news hS (by omega) (by rw [ajf]; exact h63 _ (by omega)) (hfit _ _ (by omega) (by rw [ajf]; omega))
    simp only [ajf,ajj] at hr
    obtain⟨c',hw,hh,e',f',hv⟩:=f.grown hbs (e:=e) (Mt c L0) (grownCap_ge c.w (need:=m) (old:=0) (e:=e)) SF hone EL (s.h.alloc (.cells new)) (by rw [f.h]; simp [AHeap.alloc,AHeap.put,beq_nat]) (by rw [f.h]; exact Steady.put _ _ _) (by rw [f.h]; exact ajz _) (fun id hne=>.inr (by rw [f.h] at hne ⊢; simp [AHeap.alloc,AHeap.put,beq_nat,hne]))
    refine fin c' _ ?_ e' f' (by rw [←f.h]; exact hv)
    rw [GR,hw]
    exact hr
  rename_i nV
  rcases IS with IS | ⟨_,hid,ad,cap,GR,h1,h2,h3⟩
  ·exact absurd IS.1 nV
  simp only [aiJ] at ha
  obtain⟨ob,hob,ha⟩:=ha
  cases ob with
  | map es=>cases ha
  | row t cs=>cases ha
  | cells cs=>
  simp only at ha
  split at ha
  ·cases ha
  rename_i hroom
  have A9:lq=i.size:=Decidable.byContradiction fun h=>hroom (.inl h)
  subst A9
  have hle:off+len*i.size≤cs.length:=Decidable.byContradiction fun h=>hroom (.inr (.inl (by omega)))
  rw [←f.h] at hob
  have hl:Live c.h id:=⟨f.rel.lt _ _ hob,by simp [hob]⟩
  obtain⟨q,hp,hm,hc⟩:=f.rel.obj _ _ hob
  split at ha
  ·rename_i zi
   subst zi
   cases ha
   refine fin c (.slice ad len cap) ?_ (Ext.refl _ _) f ?_
   ·rw [GR]
    exact la c.w MT hi h1 hS
   ·simp only [VR]
    exact .inr ⟨nV,hid,ad,cap,rfl,h1,h2,h3⟩
  ·rename_i zi
   cases ha
   have hc2:=(hc.drop off).take (len*i.size)
   have IT:((cs.drop off).take (len*i.size)).length=len*i.size:=by simp; omega
   obtain⟨zr,VX,hoc,SG⟩:=hc2.vals
   have QC:=VX.length
   have hget:((s.h.kill id).put s.h.next (.cells ((cs.drop off).take (len*i.size)++new))).get c.h.next=some (.cells ((cs.drop off).take (len*i.size)++new)):=by rw [f.h]; simp [AHeap.put,beq_nat]
   have hnx:c.h.next<((s.h.kill id).put s.h.next (.cells ((cs.drop off).take (len*i.size)++new))).next:=by rw [f.h]; simp only [AHeap.put,AHeap.kill]; omega
   have hoth:∀oC,oC≠c.h.next→((s.h.kill id).put s.h.next (.cells ((cs.drop off).take (len*i.size)++new))).get oC=none∨((s.h.kill id).put s.h.next (.cells ((cs.drop off).take (len*i.size)++new))).get oC=c.h.get oC:=by
    intro oC hne
    rw [f.h] at hne ⊢
    by_cases h4:oC=id
    ·left; simp [AHeap.put,AHeap.kill,beq_nat,hne,h4]; rw [←h4]; simp [hne]
    ·right; simp [AHeap.put,AHeap.kill,beq_nat,hne,h4]
   by_cases MW:len+m≤cap
   ·
    rcases h3 hl with⟨h4,h5⟩| h4
    rotate_left
    ·omega
    subst h4
    have WK:c.len (c.β id).1=q:=by
     obtain⟨C,e',hb,yL⟩:=hp
     simp [Cx.len,World.shape?,hb,yL]
    rw [WK] at h5
    have WL:(len+m)*i.size≤cap*i.size:=ajN _ MW
    rw [akb] at WL
    have WM:=hp
    obtain⟨C,e',hb,yL⟩:=hp
    have hr:=run_append_room_src c.w t t2 o.type e i MT hi (c.β id).1 ((c.β id).2+off) len cap (a.eval xx) m news hS MW
     (fun j hj=>by
      rw [cell_of_block hb]
      have:(c.β id).2+off+len*i.size+j<C.size:=by omega
      simp [this])
     (fun j hj=>CU WM.n7 (by omega))
    have Eo:lj c (c.β id).1 q:=WM
    obtain⟨q1,q2,q3,q4⟩:=kb news (c.β id).1 ((c.β id).2+off+len*i.size) c.w
    obtain⟨C',g1,g2,g3⟩:=je news (c.β id).1 ((c.β id).2+off+len*i.size) c.w C e' (0,0) hb (by omega)
    have:=f.upd (w':=c.w.setCells (c.β id).1 ((c.β id).2+off+len*i.size) news) (β':=fun k=>if k=c.h.next then ((c.β id).1,(c.β id).2+off) else c.β k) (h':=(s.h.kill id).put s.h.next (.cells ((cs.drop off).take (len*i.size)++new))) c.h.next (.cells ((cs.drop off).take (len*i.size)++new))
     (by rw [f.h]; exact (Steady.kill _ _).trans (Steady.put _ _ _)) hnx hget (fun oC hne=>(hoth oC hne).imp (fun h=>h) (fun h=>⟨h,by simp [hne]⟩)) (fun h=>absurd h (Nat.lt_irrefl _))
     (.inr ⟨id,hl,by simp,.inr (by
      have:id≠s.h.next:=by rw [←f.h]; have:=hl.1; omega
      simp [AHeap.put,AHeap.kill,beq_nat,this])⟩)
     (fun _=>by simp [World.shape?,g1,Cx.len,hb,g2])
     (fun b _ hne=>fY _ _ _ _ _ (by simpa using hne)) (fun b _ hne=>fY _ _ _ _ _ (by simpa using hne)) (by rw [q1]; exact aiQ _) hbs q2 q3 q4
     (fun ee=>by
      simp only [if_true]
      refine⟨q,Eo.setCells (by omega) _ _ _,?_,?_⟩
      ·rw [aiT,IT,hnl,EL]; omega
      ·refine Cells.of_vals (VRs.append (VRs.ext ee _ _ VX) (VRs.ext ee _ _ SF)) (fun j hj=>?_) (fun v hv=>(ai3.1 hv).elim (SG v) (hone v))
       rw [cell_of_block g1,g3]
       rw [aiT] at hj
       by_cases h6:j<zr.length
       ·rw [if_neg (by omega),←cell_of_block hb,ai6 h6]
        exact hoc j (by omega)
       ·rw [if_pos (by omega),ai0 (by omega)]
        congr 1
        omega)
    obtain⟨TP,f''⟩:=this
    refine fin _ (.slice (some ⟨(c.β id).1,(c.β id).2+off,none⟩) (len+m) cap) ?_ TP f'' ?_
    ·rw [GR]; exact hr
    ·simp only [VR,←f.h]
     refine .inr ⟨(by have:=f.rel.ver 0; omega),by rw [←f.h] at hnx; exact hnx,_,_,rfl,MW,rfl,fun _=>.inl ?_⟩
     simp only [if_true,akj,true_and]
     simp only [Cx.len,World.shape?,g1,aiR,ajR,g2]
     omega
   ·
    obtain⟨ZL⟩:Nonempty ((Builtin.firstCells i.size len (.slice ad len cap)).run P c.w.drew = .ok zr.toArray c.w.drew):=by
     rcases h3 hl with⟨h4,h5⟩| h4
     ·subst h4
      refine⟨run_firstCells_some _ _ _ _ _ _ zr (by rw [←QC,IT]) (fun j v hj=>?_)⟩
      rw [World.cell?_drew,addr_add,hoc j (by rw [QC]; exact (aiO.1 hj).1)]
      exact hj
     ·have hz:len=0:=by omega
      subst hz
      have:zr=[]:=ajs (by rw [←QC,IT]; simp)
      subst this
      cases ad with
      | none=>exact⟨run_firstCells_none _ _ _ _ _⟩
      | some ad=>exact⟨run_firstCells_some _ _ _ _ _ _ [] (by simp) (fun j v hj=>by simp at hj)⟩
    have hr:=run_append_grow_src c.w t t2 o.type e i zv MT hi GU ad len cap zr ZL (a.eval xx) m news hS (by omega) (h63 _ (by omega)) (hfit _ _ (by omega) (by omega))
    obtain⟨c',hw,hh,e',f',hv⟩:=f.grown hbs (e:=e) (Mt c L0) (grownCap_ge c.w (need:=len+m) (old:=cap) (e:=e)) (VRs.append VX SF) (fun v hv=>(ai3.1 hv).elim (SG v) (hone v)) (by rw [aiT,EL,←QC,IT,akb]) _ hget (by rw [f.h]; exact (Steady.kill _ _).trans (Steady.put _ _ _)) hnx hoth
    refine fin c' _ ?_ e' f' (by rw [←f.h]; exact hv)
    rw [GR,hw]
    exact hr
 | _=>rw [hq] at ha; simp only at ha; cases ha
end
end Go.R
