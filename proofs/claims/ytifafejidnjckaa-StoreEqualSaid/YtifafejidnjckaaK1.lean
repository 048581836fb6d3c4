/- Part of the proof: ROps3, RMem, ROps4, RNew, RApp, RApp2, RApp3. -/
import Derived.Test.YtifafejidnjckaaK0
import Derived.MapKept
import Derived.Laws.Slices
import Derived.Laws.IdiomCopy
import Derived.Deep.AppendSrc
import Derived.IntWalk
set_option linter.unusedVariables false
set_option linter.unusedSimpArgs false
set_option maxRecDepth 100000
open Array renaming getElem?_eq_some_iff → Yk, getElem?_setIfInBounds → YJ, length_toList → YM, getElem?_modify → YO, ext' → Zh
open Bool renaming and_eq_true → XN, false_eq_true → XX, or_eq_true → Yw
open List renaming getElem?_eq_some_iff → XQ, mem_of_getElem? → XT, length_append → XU, getElem?_append_left → XZ, getElem?_append_right → X1, length_cons → X2, all_eq_true → X5, mem_cons → X7, map_cons → X8, eq_nil_of_length_eq_zero → Yd, mem_append → Yg, take_of_length_le → Yn, mem_map → Yo, nil_append → Yr, all_cons → YA, getElem?_map → YB, map_nil → Ze
open Nat renaming le_refl → XP, zero_add → Ya, lt_of_lt_of_le → Yb, beq → Yp, lt_succ_self → Yx, le_trans → Yz, mul_le_mul_right → YF, add_assoc → YI, eq_of_beq_eq_true → YN, add_mul → YU, add_right_comm → Y2, add_zero → Y3, ble → Y6, add_comm → Zd
open Option renaming bind_eq_some_iff → XK, map_eq_some_iff → XL, map_some → XR, isSome_iff_exists → Yl, getD_some → YH
open Option.some renaming injEq → XM
open Prod.mk renaming injEq → XS
namespace Go.R
open Go
section
variable {P:Program}{L0:Nat→Prop}{c0:Cx}{n:Nat}{ds:List Nat}{o:Oper}{s:RS}
theorem uV (a b:ByteArray):(a==b)=(a.data.toList==b.data.toList):=by
 cases a with | mk x=>cases b with | mk y=>
 show (x==y)=(x.toList==y.toList)
 rw [Bool.eq_iff_iff]
 simp [Array.toList_inj]
def place (k:AV):List (AV × AV)→List MapEntry→Nat→Option (Nat × Value)
 | (k',_)::es,m::ms,i=>if fE k k' then some (i,m.val) else place k es ms (i+1)
 | _,_,_=>none
theorem kQ {c:Cx}{L:Nat→Prop}{d:TypeDesc}{k:AV}{kv:Value}(hd:(∃q,d = .int q)∨d = .string)(hk:k.gC=some kv)(xS:(∃q a,k = .int q a)∨∃b,k = .str b) :
  ∀(es:List (AV × AV)) (ms:List MapEntry) (i:Nat),lg c L es ms→ij k es≠none→(∀q a,k = .int q a→∃q',d = .int q')→(∀b,k = .str b→d = .string)→Instr.findNow d kv ms i=some (place k es ms i)
 | [],[],i,_,_,_,_=>rfl
 | (k',v)::es,m::ms,i,he,hf,h1,h2=>by
  simp only [ij] at hf
  have hs:sameShape k k'=true:=by
   by_cases hs:sameShape k k'=true
   ·exact hs
   ·simp [hs] at hf
  simp only [hs,if_true] at hf
  obtain⟨⟨EL,_⟩,Bi,ur⟩:=he
  have OV:Instr.sameNow d kv m.key=some (fE k k'):=by
   rcases xS with⟨q,a,rfl⟩| ⟨b,rfl⟩
   ·obtain⟨q',rfl⟩:=h1 q a rfl
    cases k'<;>simp only [sameShape] at hs<;>try (cases hs; done)
    rename_i q2 a2
    simp only [beq_iff_eq] at hs
    subst hs
    simp only [VR] at EL
    simp only [AV.gC,XM] at hk
    subst hk
    rw [EL]
    simp [Instr.sameNow,fE,iC]
   ·have:=h2 b rfl
    subst this
    cases k' with
    | str b2=>
     simp only [VR] at EL
     simp only [AV.gC,XM] at hk
     subst hk
     rw [EL]
     simp only [Instr.sameNow,fE,iC,XM]
     exact uV b b2
    | _=>cases hs
  simp only [Instr.findNow,OV]
  cases hq:fE k k' with
  | true=>simp [place,hq]
  | false=>
   simp only [hq,XX,if_false] at hf
   simp only [place,hq,XX,if_false]
   exact kQ hd hk xS es ms (i+1) ur hf h1 h2
 | [],_::_,_,h,_,_,_=>h.elim
 | _::_,[],_,h,_,_,_=>h.elim
theorem je {c:Cx}{L:Nat→Prop}{kt:TypeId}{k:AV}{kv:Value}(hk:fV P kt k=true)(xT:VR c L k kv)(w:World) :
  ∀(es:List (AV × AV)) (ms:List MapEntry) (i:Nat),lg c L es ms→ij k es≠none→(Instr.findAsking kt kv ms i).run P w = .ok (place k es ms i) w
 | [],[],i,_,_=>rfl
 | (k',v)::es,m::ms,i,he,hf=>by
  simp only [ij] at hf
  have hs:sameShape k k'=true:=by
   by_cases hs:sameShape k k'=true
   ·exact hs
   ·simp [hs] at hf
  simp only [hs,if_true] at hf
  obtain⟨⟨EL,_⟩,Bi,ur⟩:=he
  have hq:=uU (P:=P) 9998 hk hs xT EL w
  simp only [Instr.findAsking,Op.equal,Op.maxDepth,Sem.run_bind,hq,Result.andThen_ok]
  cases h:fE k k' with
  | true=>simp [place,h]
  | false=>
   simp only [h,XX,if_false] at hf
   simp only [place,h,XX,if_false]
   exact je hk xT w es ms (i+1) ur hf
 | [],_::_,_,h,_=>h.elim
 | _::_,[],_,h,_=>h.elim
theorem uW {c:Cx}{L:Nat→Prop}{kt:TypeId}{k:AV}{kv:Value}(hk:fV P kt k=true)(xT:VR c L k kv)(w:World){es:List (AV × AV)}{ms:List MapEntry}(he:lg c L es ms)(hf:ij k es≠none) :
  (Instr.findKey kt kv ms).run P w = .ok (place k es ms 0) w:=by
 have Oq:=hk
 cases hd:P.underlying kt with
 | none=>simp [fV,hd] at hk
 | some d=>
 cases d<;>simp only [fV,hd] at hk<;>try (cases hk; done)
 ·rename_i q
  cases k<;>simp only at hk<;>try (cases hk; done)
  rename_i q2 a
  have hc:(AV.int q2 a).gC=some kv:=by simp only [VR] at xT; simp [AV.gC,xT]
  exact MapKept.run_findKey hd (kQ (.inl ⟨q,rfl⟩) hc (.inl ⟨_,_,rfl⟩) es ms 0 he hf (fun _ _ _=>⟨q,rfl⟩) (fun b hb=>by cases hb))
 ·cases k<;>simp only at hk<;>try (cases hk; done)
  rename_i b
  have hc:(AV.str b).gC=some kv:=by simp only [VR] at xT; simp [AV.gC,xT]
  exact MapKept.run_findKey hd (kQ (.inr rfl) hc (.inr ⟨_,rfl⟩) es ms 0 he hf (fun _ _ h=>by cases h) (fun b hb=>rfl))
 ·rw [run_findKey_eq w (by simp [hd])]
  exact je Oq xT w es ms 0 he hf
 ·rw [run_findKey_eq w (by simp [hd])]
  exact je Oq xT w es ms 0 he hf
theorem qS {c:Cx}{L:Nat→Prop}{k:AV}:∀(es:List (AV × AV)) (ms:List MapEntry) (i:Nat),lg c L es ms→(ij k es=some none→place k es ms i=none)∧(∀v,ij k es=some (some v)→∃j u,place k es ms i=some (j,u)∧VR c L v u)
 | [],[],i,_=>⟨fun _=>rfl,fun v h=>by simp [ij] at h⟩
 | (k',v)::es,m::ms,i,he=>by
  obtain⟨⟨EL,_⟩,Bi,ur⟩:=he
  obtain⟨h1,h2⟩:=qS es ms (i+1) ur
  simp only [ij,place]
  by_cases hs:sameShape k k'=true
  ·simp only [hs,if_true]
   by_cases hq:fE k k'=true
   ·simp only [hq,if_true]
    exact⟨fun h=>(by cases h),fun u hu=>(by cases hu; exact⟨i,m.val,rfl,Bi⟩)⟩
   ·simp only [hq,if_false,XX]
    exact⟨h1,h2⟩
  ·simp [hs]
 | [],_::_,_,h=>h.elim
 | _::_,[],_,h=>h.elim
theorem jV {t:TypeId}{z:AV}(h:iI P t=some z)(w:World):∃v,(zeroValue t).run P w = .ok v w∧EF v=some z:=by
 unfold iI at h
 simp only [XK] at h
 obtain⟨i,hi,v,hv,hz⟩:=h
 exact⟨v,by simp [zeroValue,typeInfo,hi,hv],hz⟩
theorem xU {c:Cx}{Lo:Nat→Prop}{lam:Nat→Nat}{a:Act}(f:Fr L0 c Lo lam ds s a){t:TypeId}{m k y:AV}{mv kv:Value}{ok:Bool}(hm:SR c L0 Lo lam s.bx m mv)(hk:SR c L0 Lo lam s.bx k kv)
  (h:eR P s.h t m k ok=some y):∃r,(Instr.lookup t mv kv ok).run P c.w = .ok r c.w∧VR c (un L0 Lo) y r:=by
 unfold eR at h
 rw [XK] at h
 obtain⟨d,hd,h⟩:=h
 cases d<;>simp only at h<;>try (cases h; done)
 rename_i kt et
 split at h
 ·cases h
 rename_i uz
 have uz:fV P kt k=true:=by simpa using uz
 rw [XK] at h
 obtain⟨es,ur,h⟩:=h
 have xT:VR c (un L0 Lo) k kv:=hk.vr (by rintro k0 off rfl; simp [fV] at uz)
 obtain⟨ms,Ml,sH⟩:∃ms:Array MapEntry,((mv = .map none∧ms = #[])∨∃r clock,mv = .map (some r)∧c.w.heap[r]? = some (.map ms clock))∧lg c (un L0 Lo) es ms.toList:=by
  cases m<;>simp only at ur<;>try (cases ur; done)
  ·simp only [SR,VR] at hm
   cases ur
   exact⟨#[],.inl ⟨hm,rfl⟩,trivial⟩
  ·rename_i id
   rw [XK] at ur
   obtain⟨ob,ho,ur⟩:=ur
   cases ob with
   | cells cs=>cases ur
   | row t cs=>cases ur
   | map qP=>
   cases ur
   simp only [SR,VR] at hm
   obtain⟨hi,r,OQ,hr⟩:=hm
   rw [←f.h] at ho
   have hl:Live c.h id:=⟨f.rel.lt _ _ ho,by simp [ho]⟩
   obtain⟨lh,clock,h1,h2⟩:=f.rel.obj _ _ ho
   exact⟨lh,.inr ⟨r,clock,OQ,by rw [hr hl]; exact h1⟩,h2⟩
 rw [XK] at h
 obtain⟨fr,OW,h⟩:=h
 have EM:=uW uz xT c.w sH (by rw [OW]; simp)
 have JO:=oc (P:=P) ms.isEmpty 9998 uz xT c.w
 obtain⟨p1,p2⟩:=qS (k:=k) es ms.toList 0 sH
 have hget:∀r clock,c.w.heap[r]? = some (.map ms clock)→(getObj r).run P c.w = .ok (.map ms clock) c.w:=fun r clock h1=>by simp [getObj,Sem.run,h1]
 cases fr with
 | none=>
  rw [XL] at h
  obtain⟨z,hz,rfl⟩:=h
  obtain⟨zv,EN,Ae⟩:=jV hz c.w
  rw [p1 OW] at EM
  refine⟨if ok then .tuple #[zv,.bool false] else zv,?_,?_⟩
  ·unfold Instr.lookup
   rcases Ml with⟨rfl,rfl⟩| ⟨r,clock,rfl,h1⟩
   ·simp only [pure_bind,Sem.run_bind,bE hd,Result.andThen_ok,JO,EM,EN,Sem.run_pure]
   ·simp only [Sem.run_bind,bE hd,Result.andThen_ok,hget r clock h1,JO,EM,EN,Sem.run_pure]
  ·cases ok with
   | true=>simp only [if_true,VR]; exact⟨#[zv,.bool false],rfl,lR Ae,by simp [VR],trivial⟩
   | false=>simpa using lR Ae
 | some v=>
  obtain⟨j,u,hp,hv⟩:=p2 v OW
  rw [hp] at EM
  cases h
  refine⟨if ok then .tuple #[u,.bool true] else u,?_,?_⟩
  ·unfold Instr.lookup
   rcases Ml with⟨rfl,rfl⟩| ⟨r,clock,rfl,h1⟩
   ·simp only [pure_bind,Sem.run_bind,bE hd,Result.andThen_ok,JO,EM,Sem.run_pure]
   ·simp only [Sem.run_bind,bE hd,Result.andThen_ok,hget r clock h1,JO,EM,Sem.run_pure]
  ·cases ok with
   | true=>simp only [if_true,VR]; exact⟨#[u,.bool true],rfl,hv,by simp [VR],trivial⟩
   | false=>simpa using hv
theorem lg.length {c:Cx}{L:Nat→Prop}:∀{es:List (AV × AV)} {ms:List MapEntry},lg c L es ms→es.length=ms.length
 | [],[],_=>rfl
 | _::_,_::_,h=>by simp [lg.length h.2.2]
 | [],_::_,h=>h.elim
 | _::_,[],h=>h.elim
theorem EO {c:Cx}{Lo:Nat→Prop}{lam:Nat→Nat}{a:Act}(f:Fr L0 c Lo lam ds s a){x y:AV}{v:Value}{t:TypeId}(ts:Array TypeId)(ht:ts[0]? = some t)(hx:SR c L0 Lo lam s.bx x v)(h:sv P s.h t x=some y)(ty:TypeId) :
  ∃r,(Builtin.len_ ts ty #[v]).run P c.w = .ok r c.w∧VR c (un L0 Lo) y r:=by
 unfold sv at h
 rw [XK] at h
 obtain⟨d,hd,h⟩:=h
 unfold Builtin.len_
 cases d<;>simp only at h<;>try (cases h; done)
 ·cases x<;>simp only at h<;>try (cases h; done)
  cases h
  simp only [SR,VR] at hx
  subst hx
  exact⟨.int .i64 _,by simp [ht,bE hd,goInt]; rfl,by simp only [VR]⟩
 ·cases x with
  | nils=>
   cases h
   simp only [SR,VR] at hx
   obtain⟨a,rfl⟩:=hx
   exact⟨.int .i64 _,by simp [ht,bE hd,goInt]; rfl,by simp only [VR]⟩
  | fz cs m ex=>
   cases h
   simp only [SR,VR] at hx
   obtain⟨a,cap,rfl,_⟩:=hx
   exact⟨.int .i64 _,by simp [ht,bE hd,goInt]; rfl,by simp only [VR]⟩
  | rs id off m iH=>
   cases h
   simp only [SR,VR] at hx
   rcases hx with⟨_,_,rfl,a,rfl⟩| ⟨_,_,a,cap,rfl,_⟩
   ·exact⟨.int .i64 _,by simp [ht,bE hd,goInt]; rfl,by simp only [VR]; rfl⟩
   ·exact⟨.int .i64 _,by simp [ht,bE hd,goInt]; rfl,by simp only [VR]⟩
  | _=>cases h
 ·cases x with
  | mC=>
   cases h
   simp only [SR,VR] at hx
   subst hx
   exact⟨.int .i64 _,by simp [ht,bE hd,goInt]; rfl,by simp only [VR]⟩
  | mp id=>
   simp only [XK] at h
   obtain⟨ob,ho,h⟩:=h
   cases ob with
   | cells cs=>cases h
   | row t cs=>cases h
   | map es=>
   cases h
   simp only [SR,VR] at hx
   obtain⟨hi,r,rfl,hr⟩:=hx
   rw [←f.h] at ho
   have hl:Live c.h id:=⟨f.rel.lt _ _ ho,by simp [ho]⟩
   obtain⟨lh,clock,h1,h2⟩:=f.rel.obj _ _ ho
   rw [hr hl]
   refine⟨.int .i64 es.length,?_,by simp [VR]⟩
   have h3:=h2.length
   simp [ht,bE hd,getObj,Sem.run,h1,goInt,h3]
  | _=>cases h
end
end Go.R
namespace Go.R
open Go
theorem ik.len {c c':Cx}{b:Nat}(h:ik c.w c'.w b):c'.len b=c.len b:=by
 unfold Cx.len World.shape?
 rcases h with h | ⟨C,e,lo,hi,Hr,jP,h1,h2,_⟩
 ·rw [h]
 ·rw [h1,h2]
theorem HRel.block {c:Cx}{L:Nat→Prop}(r:HRel c L){id:Nat}(hl:Live c.h id):(c.β id).1<c.w.heap.size:=by
 obtain⟨o,ho⟩:=Yl.1 hl.2
 have h:=r.obj id o ho
 cases o with
 | cells cs=>obtain⟨n,h1,_⟩:=h; exact h1.lt
 | map es=>obtain⟨lh,clock,h1,_⟩:=h; exact (Yk.1 h1).1
 | row t cs=>obtain⟨_,C,h1,_⟩:=h; exact (Yk.1 h1).1
section
variable {L0:Nat→Prop}{c:Cx}{Lo:Nat→Prop}{lam:Nat→Nat}{ds:List Nat}{s:RS}{a:Act}
theorem Fr.world (f:Fr L0 c Lo lam ds s a){w':World}(hk:∀b,b<c.w.heap.size→ik c.w w' b)(OX:∀id,Live c.h id→w'.heap[(c.β id).1]? = c.w.heap[(c.β id).1]?)(hx:∀b,b<c.base→w'.heap[b]? = c.w.heap[b]?)(hs:c.w.heap.size≤w'.heap.size)
  (h1:w'.os=c.w.os) (h2:w'.tape=c.w.tape) (h3:w'.output=c.w.output):Ext c Lo {c with w:=w'} Lo∧Fr L0 {c with w:=w'} Lo lam ds s a:=by
 have e:Ext c Lo {c with w:=w'} Lo:=by
  refine⟨XP _,fun id hi hl=>⟨hl,rfl,?_⟩,hs,fun b hb _ _=>hk b hb,hx,rfl,fun id hl=>.inr ⟨id,hl,rfl⟩,fun _ h=>h,fun _ h=>.inl h,h1,h2,h3⟩
  exact ik.len (c':={c with w:=w'}) (hk _ (f.rel.block hl))
 refine⟨e,f.h,⟨f.rel.lt,fun id o ho=>?_,f.rel.inj,f.rel.out,fun b hb=>Yb (f.rel.bd b hb) hs,f.rel.low,f.rel.ver⟩,fun t=>?_,fun k cs hb=>?_,f.inj,f.tidy,f.defers,f.EI⟩
 ·have hl:Live c.h id:=⟨f.rel.lt _ _ ho,by rw [ho]; rfl⟩
  exact (f.rel.obj id o ho).ext e (OX id hl)
 ·exact (f.slot t).ext e (fun _ _ _=>⟨rfl,fun h=>h⟩)
 ·have ob:=f.box k cs hb
  exact ob.ext e (hk _ ob.plain.lt)
theorem Fr.upd (f:Fr L0 c Lo lam ds s a){w':World}{β':Nat→Nat × Nat}{h':AHeap}(oW:Nat)(ob:AObj)
  (hst:Steady c.h h') (UA:oW<h'.next) (hget:h'.get oW=some ob)
  (hcl:∀id,id≠oW→h'.get id=none∨(h'.get id=c.h.get id∧β' id=c.β id))
  (Mm:oW<c.h.next→Live c.h oW∧β' oW=c.β oW)
  (Mn:c.w.heap.size≤(β' oW).1∨∃p6,Live c.h p6∧(c.β p6).1=(β' oW).1∧(p6=oW∨h'.get p6=none))
  (hlen:(β' oW).1<c.w.heap.size→((w'.shape? (β' oW).1).map (·.2)).getD 0=c.len (β' oW).1)
  (hk:∀b,b<c.w.heap.size→b≠(β' oW).1→w'.heap[b]? = c.w.heap[b]?) (hx:∀b,b<c.base→b≠(β' oW).1→w'.heap[b]? = c.w.heap[b]?) (hs:c.w.heap.size≤w'.heap.size) (hbs:c.base≤c.w.heap.size)
  (h1:w'.os=c.w.os) (h2:w'.tape=c.w.tape) (h3:w'.output=c.w.output)
  (hob:∀(e:Ext c Lo ⟨β',h',w',c.base⟩ Lo),pd ⟨β',h',w',c.base⟩ (un L0 Lo) (β' oW).1 (β' oW).2 ob) :
  Ext c Lo ⟨β',h',w',c.base⟩ Lo∧Fr L0 ⟨β',h',w',c.base⟩ Lo lam ds {s with h:=h'} a:=by
 have hn:=hst.next
 have hold:∀id,id≠oW→Live h' id→Live c.h id∧β' id=c.β id:=by
  intro id hne hl
  rcases hcl id hne with h | ⟨h,hb⟩
  ·have:=hl.2; rw [h] at this; cases this
  ·have Bj:(c.h.get id).isSome=true:=by rw [←h]; exact hl.2
   obtain⟨o,ho⟩:=Yl.1 Bj
   exact⟨⟨f.rel.lt _ _ ho,Bj⟩,hb⟩
 have HK:∀id,id≠oW→Live h' id→(c.β id).1≠(β' oW).1:=by
  intro id hne hl he
  obtain⟨hl0,hb⟩:=hold id hne hl
  rcases Mn with h | ⟨p6,h4,h5,h6⟩
  ·have:=f.rel.block hl0; omega
  ·have:id=p6:=f.rel.inj id p6 hl0 h4 (he.trans h5.symm)
   subst this
   rcases h6 with h6 | h6
   ·exact hne h6
   ·have:=hl.2; rw [h6] at this; cases this
 have hL:¬un L0 Lo (β' oW).1:=by
  intro hL
  rcases Mn with h | ⟨p6,h4,h5,_⟩
  ·have:=f.rel.bd _ hL; omega
  ·exact f.rel.out p6 h4 (h5 ▸ hL)
 have JP:c.base≤(β' oW).1:=by
  rcases Mn with h | ⟨p6,h4,h5,_⟩
  ·omega
  ·rw [←h5]; exact f.rel.low p6 h4
 have e:Ext c Lo ⟨β',h',w',c.base⟩ Lo:=by
  refine⟨hn,fun id hi hl=>?_,hs,fun b hb _ hi=>.inl (hk b hb ?_),fun b hb=>hx b hb (by omega),rfl,fun id hl=>?_,fun _ h=>h,fun _ h=>.inl h,h1,h2,h3⟩
  ·by_cases hid:id=oW
   ·subst hid
    obtain⟨h4,h5⟩:=Mm hi
    refine⟨h4,h5,?_⟩
    have:=hlen (by rw [h5]; exact f.rel.block h4)
    rw [h5] at this
    exact this
   ·obtain⟨h4,h5⟩:=hold id hid hl
    exact⟨h4,h5,ik.len (c':=⟨β',h',w',c.base⟩) (.inl (hk _ (f.rel.block h4) (HK id hid hl)))⟩
  ·rintro rfl
   rcases Mn with h | ⟨p6,h4,h5,_⟩
   ·omega
   ·exact hi p6 h4 h5
  ·by_cases hid:id=oW
   ·subst hid
    rcases Mn with h | ⟨p6,h4,h5,_⟩
    ·exact .inl h
    ·exact .inr ⟨p6,h4,h5⟩
   ·obtain⟨h4,h5⟩:=hold id hid hl
    exact .inr ⟨id,h4,by rw [←h5]⟩
 refine⟨e,rfl,⟨fun id o ho=>?_,fun id o ho=>?_,fun id kP hl oV he=>?_,fun id hl=>?_,fun b hb=>Yb (f.rel.bd b hb) hs,fun id hl=>?_,hst.wf f.rel.ver⟩,fun t=>?_,fun k cs hb=>?_,f.inj,f.tidy,f.defers,f.EI⟩
 ·by_cases hid:id=oW
  ·subst hid; exact UA
  ·rcases hcl id hid with h | ⟨h,_⟩
   ·rw [h] at ho; cases ho
   ·rw [h] at ho; exact Yb (f.rel.lt _ _ ho) hn
 ·by_cases hid:id=oW
  ·subst hid
   rw [hget] at ho
   cases ho
   exact hob e
  ·rcases hcl id hid with h | ⟨h,hb⟩
   ·rw [h] at ho; cases ho
   ·have hl:Live h' id:=⟨by rw [h] at ho; exact Yb (f.rel.lt _ _ ho) hn,by rw [ho]; rfl⟩
    rw [h] at ho
    have:=(f.rel.obj id o ho).ext e (hk _ (f.rel.block (hold id hid hl).1) (HK id hid hl))
    rw [←hb] at this
    exact this
 ·by_cases hid:id=oW<;>by_cases EP:kP=oW
  ·rw [hid,EP]
  ·subst hid
   obtain⟨h4,h5⟩:=hold kP EP oV
   exact absurd (by rw [←h5]; exact he.symm) (HK kP EP oV)
  ·subst EP
   obtain⟨h4,h5⟩:=hold id hid hl
   exact absurd (by rw [←h5]; exact he) (HK id hid hl)
  ·obtain⟨h4,h5⟩:=hold id hid hl
   obtain⟨h6,h7⟩:=hold kP EP oV
   exact f.rel.inj id kP h4 h6 (by rw [←h5,←h7]; exact he)
 ·by_cases hid:id=oW
  ·subst hid; exact hL
  ·obtain⟨h4,h5⟩:=hold id hid hl
   show ¬un L0 Lo (β' id).1
   rw [h5]; exact f.rel.out id h4
 ·by_cases hid:id=oW
  ·subst hid; exact JP
  ·obtain⟨h4,h5⟩:=hold id hid hl
   show c.base≤(β' id).1
   rw [h5]; exact f.rel.low id h4
 ·exact (f.slot t).ext e (fun _ _ _=>⟨rfl,fun h=>h⟩)
 ·have hb2:=f.box k cs hb
  refine hb2.ext e (.inl (hk _ hb2.plain.lt ?_))
  rintro he
  exact hL (he ▸ .inr hb2.own)
theorem Fr.ER (f:Fr L0 c Lo lam ds s a){w':World}(k:Nat)(cs:List AV)(b:Nat)
  (hb:c.w.heap.size≤b∨(b=lam k∧(s.bx k).isSome=true))
  (hp:∀t off,s.ρ t = .lp k off→b=lam k)
  (hk:∀b',b'<c.w.heap.size→b'≠b→w'.heap[b']? = c.w.heap[b']?) (hx:∀b',b'<c.base→b'≠b→w'.heap[b']? = c.w.heap[b']?) (hs:c.w.heap.size≤w'.heap.size) (UB:b<w'.heap.size) (hbs:c.base≤c.w.heap.size)
  (h1:w'.os=c.w.os) (h2:w'.tape=c.w.tape) (h3:w'.output=c.w.output)
  (Bk:Plain {c with w:=w'} b cs.length)
  (OU:∀(e:Ext c Lo {c with w:=w'} (fun x=>Lo x∨x=b)),Cells {c with w:=w'} (un L0 (fun x=>Lo x∨x=b)) cs b 0) :
  ∃jQ rC,Ext c Lo {c with w:=w'} jQ∧Fr L0 {c with w:=w'} jQ rC ds (s.box k cs) a∧rC k=b:=by
 have JQ:∀id,Live c.h id→(c.β id).1≠b:=by
  intro id hl he
  rcases hb with h | ⟨h,hb2⟩
  ·have:=f.rel.block hl; omega
  ·obtain⟨Mo,h0⟩:=Yl.1 hb2
   exact f.rel.out id hl (by rw [he,h]; exact .inr (f.box k Mo h0).own)
 have Sz:∀x,(Lo x∨x=b)→Lo x∨c.w.heap.size≤x:=by
  rintro x (h | rfl)
  ·exact .inl h
  ·rcases hb with h | ⟨h,hb2⟩
   ·exact .inr h
   ·obtain⟨Mo,h0⟩:=Yl.1 hb2
    exact .inl (h ▸ (f.box k Mo h0).own)
 have JP:c.base≤b:=by
  rcases hb with h | ⟨h,hb2⟩
  ·omega
  ·obtain⟨Mo,h0⟩:=Yl.1 hb2
   rw [h]; exact f.EI _ (f.box k Mo h0).own
 have UC:∀b',b'<c.w.heap.size→¬Lo b'→b'≠b:=by
  rintro b' uu hn rfl
  rcases Sz b' (.inr rfl) with h | h
  ·exact hn h
  ·omega
 have e:Ext c Lo {c with w:=w'} (fun x=>Lo x∨x=b):=by
  refine⟨XP _,fun id hi hl=>⟨hl,rfl,?_⟩,hs,fun b' uu hn _=>.inl (hk b' uu (UC b' uu hn)),fun b' uu=>hx b' uu (by omega),rfl,fun id hl=>.inr ⟨id,hl,rfl⟩,fun _ h=>.inl h,Sz,h1,h2,h3⟩
  exact ik.len (c':={c with w:=w'}) (.inl (hk _ (f.rel.block hl) (JQ id hl)))
 refine⟨fun x=>Lo x∨x=b,fun t=>if t=k then b else lam t,e,⟨f.h,⟨f.rel.lt,fun id o ho=>?_,f.rel.inj,fun id hl hL=>?_,fun x JR=>?_,f.rel.low,f.rel.ver⟩,fun t=>?_,fun k' fI uu=>?_,fun k1 k2 SA LW he=>?_,f.tidy,f.defers,fun x JR=>?_⟩,by simp⟩
 ·have hl:Live c.h id:=⟨f.rel.lt _ _ ho,by rw [ho]; rfl⟩
  exact (f.rel.obj id o ho).ext e (hk _ (f.rel.block hl) (JQ id hl))
 ·rcases hL with h | h | h
  ·exact f.rel.out id hl (.inl h)
  ·exact f.rel.out id hl (.inr h)
  ·exact JQ id hl h
 ·rcases JR with h | h | h
  ·exact Yb (f.rel.bd x (.inl h)) hs
  ·exact Yb (f.rel.bd x (.inr h)) hs
  ·subst h; exact UB
 ·refine (f.slot t).ext e (fun k' off Mp=>?_)
  by_cases xS:k'=k
  ·subst xS
   refine⟨by simp [hp t off Mp],fun _=>by simp [RS.box]⟩
  ·exact⟨by simp [xS],fun h=>by simpa [RS.box,beq_nat,xS] using h⟩
 ·by_cases xS:k'=k
  ·subst xS
   simp only [RS.box,beq_nat,decide_true,cond_true,XM] at uu
   subst uu
   exact⟨by simp,by simpa using Bk,by simpa using OU e⟩
  ·simp only [RS.box,beq_nat,xS,decide_false,cond_false] at uu
   have ob:=f.box k' fI uu
   have hne:lam k'≠b:=by
    rintro he
    rcases hb with h | ⟨h,hb2⟩
    ·have:=ob.plain.lt; omega
    ·exact xS (f.inj k' k (by rw [uu]; rfl) hb2 (he.trans h))
   have:=ob.ext e (.inl (hk _ ob.plain.lt hne))
   exact⟨by simp [xS]; exact .inl ob.own,by simpa [xS] using this.plain,by simpa [xS] using this.cells⟩
 ·have old:∀k',k'≠k→((s.box k cs).bx k').isSome=true→(s.bx k').isSome=true:=by
   intro k' hne h
   simpa [RS.box,beq_nat,hne] using h
  have sep:∀k',k'≠k→(s.bx k').isSome=true→lam k'≠b:=by
   intro k' hne h5 UD
   obtain⟨Ot,h6⟩:=Yl.1 h5
   rcases hb with h | ⟨h,hb2⟩
   ·have:=(f.box k' Ot h6).plain.lt; omega
   ·exact hne (f.inj k' k h5 hb2 (UD.trans h))
  by_cases h4:k1=k<;>by_cases h5:k2=k
  ·rw [h4,h5]
  ·simp only [h4,h5,if_true,if_false] at he
   exact absurd he.symm (sep k2 h5 (old k2 h5 LW))
  ·simp only [h4,h5,if_true,if_false] at he
   exact absurd he (sep k1 h4 (old k1 h4 SA))
  ·simp only [h4,h5,if_false] at he
   exact f.inj k1 k2 (old k1 h4 SA) (old k2 h5 LW) he
 ·rcases JR with h | h
  ·exact f.EI x h
  ·subst h; exact JP
end
end Go.R
namespace Go.R
open Go
theorem Cells.iff {c:Cx}{L:Nat→Prop}:∀{xs:List AV} {b o:Nat},Cells c L xs b o↔∀(i:Nat) (x:AV),xs[i]? = some x→∃v,c.w.cell? ⟨b,o+i,none⟩=some v∧v.oneCell'=true∧VR c L x v
 | [],b,o=>by simp [Cells]
 | x::xs,b,o=>by
  refine⟨fun h i y hy=>h.get' i y hy,fun h=>⟨?_,(Cells.iff (xs:=xs)).2 fun i y hy=>?_⟩⟩
  ·exact h 0 x rfl
  ·have:=h (i+1) y (by simpa using hy)
   rwa [Y2,YI]
theorem iq:∀(vs cs:List AV) (i:Nat),(dD cs i vs).length=cs.length
 | [],cs,i=>by cases cs<;>rfl
 | v::vs,cs,i=>by
  rw [dD,iq vs]
  simp
theorem sI:∀(vs cs:List AV) (i j:Nat),i+vs.length≤cs.length→(dD cs i vs)[j]? = if i≤j∧j<i+vs.length then vs[j - i]? else cs[j]?
 | [],cs,i,j,_=>by
  have:dD cs i []=cs:=by cases cs<;>rfl
  rw [this,if_neg (by simp)]
 | v::vs,cs,i,j,h=>by
  simp only [X2] at h
  rw [dD,sI vs _ (i+1) j (by simp; omega)]
  by_cases h1:i+1≤j∧j<i+1+vs.length
  ·rw [if_pos h1,if_pos (by simp; omega),show j - i=(j - (i+1))+1 by omega]
   simp
  ·rw [if_neg h1]
   by_cases h2:j=i
   ·subst h2
    rw [if_pos (by simp),List.getElem?_set_self (by omega)]
    simp
   ·rw [List.getElem?_set_ne (by omega),if_neg (by simp; omega)]
theorem wc (w:World)(b o:Nat)(v:Value){C:Array Value}{e:TypeId}{fr:Nat × Nat}(hb:w.heap[b]? = some (.cells C e fr)):(w.setCell ⟨b,o,none⟩ v).heap[b]? = some (.cells (C.setIfInBounds o v) e fr):=by
 have hlt:b<w.heap.size:=(Yk.1 hb).1
 simp [World.setCell,YO,hb]
theorem xV (w:World)(b o b':Nat)(v:Value)(hne:b'≠b):(w.setCell ⟨b,o,none⟩ v).heap[b']? = w.heap[b']?:=by
 simp [World.setCell,YO,Ne.symm hne]
theorem ec:∀(vs:List Value) (b o b':Nat) (w:World),b'≠b→(w.setCells b o vs).heap[b']? = w.heap[b']?
 | [],_,_,_,_,_=>rfl
 | v::vs,b,o,b',w,h=>by rw [World.setCells,ec vs b (o+1) b' _ h,xV _ _ _ _ _ h]
theorem gJ:∀(vs:List Value) (b o:Nat) (w:World),(w.setCells b o vs).heap.size=w.heap.size∧(w.setCells b o vs).os=w.os∧(w.setCells b o vs).tape=w.tape∧(w.setCells b o vs).output=w.output
 | [],_,_,_=>⟨rfl,rfl,rfl,rfl⟩
 | v::vs,b,o,w=>by
  obtain⟨h1,h2,h3,h4⟩:=gJ vs b (o+1) (w.setCell ⟨b,o,none⟩ v)
  rw [World.setCells]
  exact⟨h1.trans (by simp),h2.trans rfl,h3.trans rfl,h4.trans rfl⟩
theorem fJ:∀(vs:List Value) (b o:Nat) (w:World) (C:Array Value) (e:TypeId) (fr:Nat × Nat),w.heap[b]? = some (.cells C e fr)→o+vs.length≤C.size→
  ∃C',(w.setCells b o vs).heap[b]? = some (.cells C' e fr)∧C'.size=C.size∧∀j,C'[j]? = if o≤j∧j<o+vs.length then vs[j - o]? else C[j]?
 | [],b,o,w,C,e,fr,hb,_=>⟨C,hb,rfl,fun j=>by rw [if_neg (by simp)]⟩
 | v::vs,b,o,w,C,e,fr,hb,hl=>by
  simp only [X2] at hl
  obtain⟨C',h1,h2,h3⟩:=fJ vs b (o+1) (w.setCell ⟨b,o,none⟩ v) (C.setIfInBounds o v) e fr (wc w b o v hb) (by simp; omega)
  refine⟨C',h1,by simpa using h2,fun j=>?_⟩
  rw [h3 j]
  by_cases h4:o+1≤j∧j<o+1+vs.length
  ·rw [if_pos h4,if_pos (by simp; omega),show j - o=(j - (o+1))+1 by omega]
   simp
  ·rw [if_neg h4]
   by_cases h5:j=o
   ·subst h5
    rw [if_pos (by simp)]
    simp [YJ,show j<C.size by omega]
   ·rw [if_neg (by simp; omega)]
    simp [YJ,Ne.symm h5]
theorem cell_of_block {w:World}{b:Nat}{C:Array Value}{e:TypeId}{fr:Nat × Nat}(h:w.heap[b]? = some (.cells C e fr))(i:Nat):w.cell? ⟨b,i,none⟩=C[i]?:=by
 simp [World.cell?,h]
section
variable {P:Program}{L0:Nat→Prop}{c0:Cx}{n:Nat}{ds:List Nat}{o:Oper}{s:RS}
theorem sJ {c:Cx}{L:Nat→Prop}{x:AV}{v:Value}(h:x.b4=true)(hv:VR c L x v):v.oneCell'=true∧v.cells = #[v]:=by
 cases x<;>simp only [AV.b4] at h<;>first | (cases h; done) | skip
 all_goals simp only [VR] at hv
 ·subst hv; exact⟨rfl,rfl⟩
 ·subst hv; exact⟨rfl,rfl⟩
 ·subst hv; exact⟨rfl,rfl⟩
 ·subst hv; exact⟨rfl,rfl⟩
 ·obtain⟨_,a,rfl,_⟩:=hv; exact⟨rfl,rfl⟩
 ·obtain⟨b,o,rfl,_⟩:=hv; exact⟨rfl,rfl⟩
 ·obtain⟨a,rfl⟩:=hv; exact⟨rfl,rfl⟩
 ·obtain⟨a,cap,rfl,_⟩:=hv; exact⟨rfl,rfl⟩
 ·rcases hv with⟨_,_,_,a,rfl⟩| ⟨_,_,a,cap,rfl,_⟩<;>exact⟨rfl,rfl⟩
 ·subst hv; exact⟨rfl,rfl⟩
 ·obtain⟨_,r,rfl,_⟩:=hv; exact⟨rfl,rfl⟩
 ·obtain⟨vs,rfl,_⟩:=hv; exact⟨rfl,rfl⟩
 ·subst hv; exact⟨rfl,rfl⟩
theorem qT {c:Cx}{L:Nat→Prop}:∀{xs:List AV} {vs:List Value},xs.all AV.b4=true→VRs c L xs vs→∀v∈vs,v.oneCell'=true
 | [],[],_,_,v,hv=>by simp at hv
 | x::xs,u::us,h,hr,v,hv=>by
  simp only [YA,XN] at h
  rcases X7.1 hv with rfl | hv
  ·exact (sJ h.1 hr.1).1
  ·exact qT h.2 hr.2 v hv
 | [],_::_,_,h,_,_=>h.elim
 | _::_,[],_,h,_,_=>h.elim
theorem iS {c:Cx}{L:Nat→Prop}{x:AV}{v:Value}(h:x.cells.all AV.b4=true)(hv:VR c L x v):VRs c L x.cells v.cells.toList∧∀u∈v.cells.toList,u.oneCell'=true:=by
 cases x with
 | agg cs=>
  simp only [VR] at hv
  obtain⟨vs,rfl,Eu⟩:=hv
  exact⟨Eu,qT h Eu⟩
 | _=>
  simp only [AV.cells,YA,List.all_nil,Bool.and_true] at h
  obtain⟨h1,h2⟩:=sJ h hv
  rw [h2]
  exact⟨⟨hv,trivial⟩,by simpa using h1⟩
theorem SR.sa {c:Cx}{Lo:Nat→Prop}{lam:Nat→Nat}{bx:Nat→Option (List AV)}{x:AV}{v:Value}(hx:SR c L0 Lo lam bx x v)(h:x.cells.all AV.b4=true):VR c (un L0 Lo) x v:=
 hx.vr (by rintro k off rfl; simp [AV.cells,AV.b4] at h)
theorem ka {c:Cx}{b m base off:Nat}{vs:List Value}(hp:Plain c b m)(hl:base+off+vs.length≤m)(h1:∀v∈vs,v.oneCell'=true) :
  (storeCells ⟨b,base+off,none⟩ vs).run P c.w = .ok () (c.w.setCells b (base+off) vs):=by
 obtain⟨C,e,lo,hi,hb,hf,hm⟩:=hp
 have:=run_storeCells_cells (P:=P) b (base+off) vs 0 c.w (fun j hj=>by
  rw [cell_of_block hb]
  have:base+off+0+j<C.size:=by omega
  simpa using this) (fun j hj=>by
  simp only [World.frozen?,hb]
  rcases hf with hf | hf
  ·subst hf; simp
  ·simp; omega) h1
 simpa using this
theorem Plain.setCells {c:Cx}{b m o:Nat}{vs:List Value}(hp:Plain c b m)(hl:o+vs.length≤m)(β':Nat→Nat × Nat)(h':AHeap)(bs:Nat):Plain ⟨β',h',c.w.setCells b o vs,bs⟩ b m:=by
 obtain⟨C,e,lo,hi,hb,hf,hm⟩:=hp
 obtain⟨C',h1,h2,_⟩:=fJ vs b o c.w C e (lo,hi) hb (by omega)
 exact⟨C',e,lo,hi,h1,by rw [h2]; exact hf,by rw [h2]; exact hm⟩
theorem iE.setCells {c:Cx}{b m o:Nat}{vs:List Value}(hp:iE c b m)(hl:o+vs.length≤m)(β':Nat→Nat × Nat)(h':AHeap)(bs:Nat):iE ⟨β',h',c.w.setCells b o vs,bs⟩ b m:=by
 obtain⟨C,e,hb,hm⟩:=hp
 obtain⟨C',h1,h2,_⟩:=fJ vs b o c.w C e (0,0) hb (by omega)
 exact⟨C',e,h1,by rw [h2]; exact hm⟩
theorem iT {c c':Cx}{L0 Lo jQ:Nat→Prop}{b m base off:Nat}{cs xs:List AV}{vs:List Value}(hp:Plain c b m)(hc:Cells c (un L0 Lo) cs b base)(hv:VRs c (un L0 Lo) xs vs)(Mq:∀v∈vs,v.oneCell'=true)(hl:off+xs.length≤cs.length)(hm:base+cs.length≤m)
  (e:Ext c Lo c' jQ) (hw:c'.w=c.w.setCells b (base+off) vs):Cells c' (un L0 jQ) (dD cs off xs) b base:=by
 obtain⟨C,e',lo,hi,hb,hf,rD⟩:=hp
 have hlen:=hv.length
 obtain⟨C',h1,h2,h3⟩:=fJ vs b (base+off) c.w C e' (lo,hi) hb (by omega)
 rw [Cells.iff]
 intro i x hx
 rw [hw,cell_of_block h1,h3]
 rw [sI xs cs off i hl] at hx
 by_cases h4:off≤i∧i<off+xs.length
 ·rw [if_pos h4] at hx
  obtain⟨v,JS,HI⟩:=hv.get _ x hx
  refine⟨v,?_,Mq v (XT JS),VR.ext e x v HI⟩
  rw [if_pos (by omega),show base+i - (base+off)=i - off by omega]
  exact JS
 ·rw [if_neg h4] at hx
  obtain⟨v,JS,ES,HI⟩:=hc.get' i x hx
  refine⟨v,?_,ES,VR.ext e x v HI⟩
  rw [if_neg (by omega),←cell_of_block hb]
  exact JS
theorem oe {c:Cx}{L:Nat→Prop}{t:TypeId}{cs fI:List AV}{b m base off:Nat}{x:AV}{v:Value}(hp:Plain c b m)(hm:base+cs.length≤m)(hv:VR c L x v)(h:hH P t cs off x=some fI) :
  (storeVar t ⟨b,base+off,none⟩ v).run P c.w = .ok () (c.w.setCells b (base+off) v.cells.toList)∧VRs c L x.cells v.cells.toList∧off+x.cells.length≤cs.length∧fI=dD cs off x.cells∧(∀u∈v.cells.toList,u.oneCell'=true):=by
 unfold hH at h
 rw [XK] at h
 obtain⟨k,hk,h⟩:=h
 split at h
 ·rename_i hh
  obtain⟨h1,h2,h3⟩:=hh
  cases h
  obtain⟨h4,h5⟩:=iS h2 hv
  have h6:=h4.length
  refine⟨?_,h4,by omega,rfl,h5⟩
  have h7:v.cells.size=k:=by rw [←YM,←h6]; exact h1
  simp only [storeVar,Sem.run_bind,dZ hk,Result.andThen_ok,h7]
  simp only [ne_eq,not_true_eq_false,if_false]
  rw [←ka (P:=P) hp (vs:=v.cells.toList) (base:=base) (off:=off) (by omega) h5]
 ·cases h
theorem jq {c c0:Cx}{Lo:Nat→Prop}(e:Ext c0 none0 c Lo)(h:c0.base≤c0.w.heap.size):c.base≤c.w.heap.size:=by
 rw [e.base]; exact Yz h e.size
theorem ET (hb0:c0.base≤c0.w.heap.size)(hd:gE n ds o){t:TypeId}{x y:Operand}(ho:o.op = .store t x y)(rE:o.dst=none){s':RS}
  (h:(match bP s.ρ x with
   | .lp k off=>(s.bx k).bind fun cs=>(hH P t cs off (bP s.ρ y)).map fun fI=>s.box k fI
   | .ptr id off=>(s.h.get id).bind fun | .cells cs=>(hH P t cs off (bP s.ρ y)).map fun fI=>{s with h:=s.h.put id (.cells fI)} | _=>none
   | _=>none)=some s'):jx P L0 c0 n ds o s s':=by
 rintro a w K Q ⟨hn,c,Lo,lam,rfl,f,e⟩ hK
 have hbs:=jq e hb0
 have hx:=bI f x
 have hy:=bI f y
 unfold Oper.wp
 have JT:a.put o.dst undef=a:=by rw [rE]; rfl
 have fin:∀c' jQ rC,((Instr.storeAt t (a.eval x) (a.eval y)).run P c.w = .ok () c'.w)→Fr L0 c' jQ rC ds s' a→Ext c Lo c' jQ→Oper.upon P o a K Q ((execOp a.eval o).run P c.w):=by
  intro c' jQ rC hr f' e'
  have:(execOp a.eval o).run P c.w = .ok .skip c'.w:=by simp [execOp,ho,hr]
  rw [this,Oper.upon_skip,JT]
  exact hK _ _ ⟨hn,c',jQ,rC,rfl,f',e.trans e'⟩
 cases Ds:bP s.ρ x<;>rw [Ds] at h<;>simp only at h<;>try (cases h; done)
 ·rename_i id off
  rw [XK] at h
  obtain⟨ob,hob,h⟩:=h
  cases ob with
  | map es=>cases h
  | row t cs=>cases h
  | cells cs=>
  rw [XL] at h
  obtain⟨fI,hw,rfl⟩:=h
  rw [Ds] at hx
  simp only [SR,VR] at hx
  obtain⟨hi,ad,zF,ha⟩:=hx
  rw [←f.h] at hob
  have hl:Live c.h id:=⟨f.rel.lt _ _ hob,by simp [hob]⟩
  obtain⟨m,hp,hm,hc⟩:=f.rel.obj _ _ hob
  have og:(bP s.ρ y).cells.all AV.b4=true:=by
   unfold hH at hw
   rw [XK] at hw
   obtain⟨k,_,hw⟩:=hw
   split at hw
   ·rename_i hh; exact hh.2.1
   ·cases hw
  have OY:=hy.sa og
  obtain⟨hr,hv,hle,rfl,Mq⟩:=oe (P:=P) hp.kH hm OY hw
  have hvl:=hv.length
  obtain⟨q1,q2,q3,q4⟩:=gJ (a.eval y).cells.toList (c.β id).1 ((c.β id).2+off) c.w
  have:=f.upd (w':=c.w.setCells (c.β id).1 ((c.β id).2+off) (a.eval y).cells.toList) (β':=c.β) (h':=c.h.put id (.cells (dD cs off (bP s.ρ y).cells))) id (.cells (dD cs off (bP s.ρ y).cells))
   (Steady.put _ _ _) (by simp only [AHeap.put]; omega) (by simp [AHeap.put,beq_nat]) (fun kP hne=>.inr ⟨by simp [AHeap.put,beq_nat,hne],rfl⟩) (fun _=>⟨hl,rfl⟩) (.inr ⟨id,hl,rfl,.inl rfl⟩)
   (fun _=>by
    obtain⟨C,e',lo,jP,hb,hf,rD⟩:=hp.kH
    obtain⟨C',h1,h2,_⟩:=fJ (a.eval y).cells.toList (c.β id).1 ((c.β id).2+off) c.w C e' (lo,jP) hb (by omega)
    simp [World.shape?,h1,Cx.len,hb,h2])
   (fun b _ hne=>ec _ _ _ _ _ hne) (fun b _ hne=>ec _ _ _ _ _ hne) (by rw [q1]; exact XP _) hbs q2 q3 q4
   (fun e'=>⟨m,hp.setCells (by omega) _ _ _,by rw [iq]; exact hm,iT hp.kH hc hv Mq hle hm e' rfl⟩)
  rw [f.h] at this
  obtain⟨e',f'⟩:=this
  refine fin _ _ _ ?_ f' e'
  rw [zF,ha hl]
  simp [Instr.storeAt,Instr.sureAddr,hr]
 ·rename_i k off
  rw [XK] at h
  obtain⟨cs,Mr,h⟩:=h
  rw [XL] at h
  obtain⟨fI,hw,rfl⟩:=h
  rw [Ds] at hx
  simp only [SR] at hx
  obtain⟨zF,_⟩:=hx
  have ob:=f.box k cs Mr
  have og:(bP s.ρ y).cells.all AV.b4=true:=by
   unfold hH at hw
   rw [XK] at hw
   obtain⟨k,_,hw⟩:=hw
   split at hw
   ·rename_i hh; exact hh.2.1
   ·cases hw
  have OY:=hy.sa og
  obtain⟨hr,hv,hle,rfl,Mq⟩:=oe (P:=P) (base:=0) ob.plain (by omega) OY hw
  have hvl:=hv.length
  obtain⟨q1,q2,q3,q4⟩:=gJ (a.eval y).cells.toList (lam k) (0+off) c.w
  obtain⟨jQ,rC,e',f',_⟩:=f.ER (w':=c.w.setCells (lam k) (0+off) (a.eval y).cells.toList) k (dD cs off (bP s.ρ y).cells) (lam k) (.inr ⟨rfl,by rw [Mr]; rfl⟩)
   (fun _ _ _=>rfl) (fun b _ hne=>ec _ _ _ _ _ hne) (fun b _ hne=>ec _ _ _ _ _ hne) (by rw [q1]; exact XP _) (by rw [q1]; exact ob.plain.lt) hbs q2 q3 q4
   (by rw [iq]; exact ob.plain.setCells (by omega) _ _ _) (fun e'=>iT ob.plain ob.cells hv Mq hle (by omega) e' rfl)
  refine fin _ _ _ ?_ f' e'
  rw [zF]
  rw [Ya] at hr
  simp [Instr.storeAt,Instr.sureAddr,hr]
end
end Go.R
namespace Go.R
open Go
theorem iK (w:World)(o:Obj):(w.alloc o).heap[w.heap.size]? = some o:=by
 show (w.heap.push o)[w.heap.size]? = some o
 simp
theorem alloc_old (w:World)(o:Obj){b:Nat}(h:b<w.heap.size):(w.alloc o).heap[b]? = w.heap[b]?:=by
 show (w.heap.push o)[b]? = w.heap[b]?
 simp [Array.getElem?_push,show b≠w.heap.size by omega]
theorem RS.set_set (s:RS)(d:Option Nat)(x y:AV):(s.set d x).set d y=s.set d y:=by
 cases d with
 | none=>rfl
 | some d=>
  simp only [RS.set]
  congr 1
  funext t
  cases Yp t d<;>rfl
theorem HL (a:Act)(d:Option Nat)(x y:Value):(a.put d x).put d y=a.put d y:=by
 cases d with
 | none=>rfl
 | some d=>
  simp only [Act.put]
  congr 1
  apply Array.ext_getElem?
  intro i
  simp only [YJ,Array.size_setIfInBounds]
  by_cases h:d=i<;>by_cases h2:d<a.tmps.size<;>simp [h,h2]
section
variable {P:Program}{L0:Nat→Prop}{c0:Cx}{n:Nat}{ds:List Nat}{o:Oper}{s:RS}
theorem qe {k:Nat}{ρ:Nat→AV}:∀{l:List Nat},sw k ρ l=true→∀t∈l,∀off,ρ t≠.lp k off
 | [],_,t,ht=>by simp at ht
 | x::xs,h,t,ht=>by
  simp only [sw,XN] at h
  intro off he
  rcases X7.1 ht with rfl | ht
  ·rw [he] at h; simp at h
  ·exact qe h.2 t ht off he
theorem Fr.EU {c:Cx}{Lo:Nat→Prop}{lam:Nat→Nat}{a:Act}(f:Fr L0 c Lo lam ds s a)(hbs:c.base≤c.w.heap.size)(w1:World)(OZ:w1.heap=c.w.heap∧w1.os=c.w.os∧w1.tape=c.w.tape∧w1.output=c.w.output)(ob:AObj)(obj:Obj)
  (h':AHeap) (hg:h'.get c.h.next=some ob) (hst:Steady c.h h') (hn:c.h.next<h'.next) (ho:∀id,id≠c.h.next→h'.get id=none∨h'.get id=c.h.get id)
  (hob:∀(c':Cx) (e:Ext c Lo c' Lo),c'.w=w1.alloc obj→pd c' (un L0 Lo) c.w.heap.size 0 ob) :
  ∃β',Ext c Lo ⟨β',h',w1.alloc obj,c.base⟩ Lo∧Fr L0 ⟨β',h',w1.alloc obj,c.base⟩ Lo lam ds {s with h:=h'} a∧β' c.h.next=(c.w.heap.size,0)∧Live h' c.h.next:=by
 obtain⟨q0,q1,q2,q3⟩:=OZ
 have hsz:w1.heap.size=c.w.heap.size:=by rw [q0]
 refine⟨fun i=>if i=c.h.next then (c.w.heap.size,0) else c.β i,?_⟩
 have:=f.upd (w':=w1.alloc obj) (β':=fun i=>if i=c.h.next then (c.w.heap.size,0) else c.β i) (h':=h') c.h.next ob
  hst hn hg (fun id hne=>(ho id hne).imp (fun x=>x) fun h=>⟨h,by simp [hne]⟩)
  (fun h=>absurd h (Nat.lt_irrefl _)) (.inl (by simp)) (fun h=>by simp at h)
  (fun b hb _=>by rw [alloc_old _ _ (by omega),q0]) (fun b hb _=>by rw [alloc_old _ _ (by omega),q0]) (by simp [hsz]) hbs q1 q2 q3
  (fun e=>by simpa using hob _ e rfl)
 exact⟨this.1,this.2,by simp,⟨hn,by rw [hg]; rfl⟩⟩
theorem Fr.fresh {c:Cx}{Lo:Nat→Prop}{lam:Nat→Nat}{a:Act}(f:Fr L0 c Lo lam ds s a)(hbs:c.base≤c.w.heap.size)(w1:World)(OZ:w1.heap=c.w.heap∧w1.os=c.w.os∧w1.tape=c.w.tape∧w1.output=c.w.output)(ob:AObj)(obj:Obj)
  (hob:∀(c':Cx) (e:Ext c Lo c' Lo),c'.w=w1.alloc obj→pd c' (un L0 Lo) c.w.heap.size 0 ob) :
  ∃β',Ext c Lo ⟨β',c.h.alloc ob,w1.alloc obj,c.base⟩ Lo∧Fr L0 ⟨β',c.h.alloc ob,w1.alloc obj,c.base⟩ Lo lam ds {s with h:=c.h.alloc ob} a∧β' c.h.next=(c.w.heap.size,0)∧Live (c.h.alloc ob) c.h.next:=
 f.EU hbs w1 OZ ob obj (c.h.alloc ob) (by simp [AHeap.alloc,AHeap.put,beq_nat]) (Steady.put _ _ _) (Yx _) (fun id hne=>.inr (by simp [AHeap.alloc,AHeap.put,beq_nat,hne])) hob
theorem lS {c':Cx}{w1:World}{C:Array Value}{e:TypeId}(hw:c'.w=w1.alloc (.cells C e)):iE c' w1.heap.size C.size:=
 ⟨C,e,by rw [hw]; exact iK _ _,rfl⟩
theorem Dt {c':Cx}{w1:World}{C:Array Value}{e:TypeId}(hw:c'.w=w1.alloc (.cells C e)):Plain c' w1.heap.size C.size:=
 ⟨C,e,0,0,by rw [hw]; exact iK _ _,.inl rfl,rfl⟩
theorem jW {c':Cx}{L:Nat→Prop}{w1:World}{C:Array Value}{e:TypeId}{xs:List AV}{vs:List Value}(hw:c'.w=w1.alloc (.cells C e))(hv:VRs c' L xs vs)(hp:∀i,i<vs.length→C[i]? = vs[i]?)(h1:∀v∈vs,v.oneCell'=true):Cells c' L xs w1.heap.size 0:=
 Cells.of_vals hv (fun i hi=>by rw [hw,cell_of_block (iK _ _),Ya]; exact hp i hi) h1
theorem uX (hb0:c0.base≤c0.w.heap.size)(hd:gE n ds o){aI:List Nat}{cs:List AV}{s':RS}(t:TypeId)(h:iD s aI ds o cs=some s')
  (hx:∀a c Lo lam,Fr L0 c Lo lam ds s a→a.tmps.size=n→∃v:Value,(execOp a.eval o).run P c.w = .ok (.value (.pointer (some ⟨c.w.heap.size,0,none⟩))) (c.w.alloc (.cells v.cells t))∧VRs c (un L0 Lo) cs v.cells.toList∧∀u∈v.cells.toList,u.oneCell'=true) :
  jx P L0 c0 n ds o s s':=by
 unfold iD at h
 split at h
 rotate_left
 ·cases h
 rename_i oX
 cases Ou:o.dst with
 | none=>rw [Ou] at h; cases h
 | some d=>
 obtain⟨Hs,zG⟩:=hd d Ou
 rw [Ou] at h
 simp only at h
 rintro a w K Q ⟨hn,c,Lo,lam,rfl,f,e⟩ hK
 have hbs:=jq e hb0
 obtain⟨v,hr,hv,h1⟩:=hx a c Lo lam f hn
 unfold Oper.wp
 rw [hr,Oper.upon_value,Ou]
 split at h
 ·split at h
  rotate_left
  ·cases h
  rename_i xD
  cases h
  have f1:=f.set (d:=some d) (x:=.any) (v:=undef) (SR.of (by simp [VR])) (fun t ht=>by cases ht; exact⟨hn ▸ Hs,zG⟩)
  have EV:∀t off,(s.set (some d) .any).ρ t≠.lp d off:=by
   intro t off he
   rw [uS] at he
   by_cases Jc:t=d
   ·rw [if_pos Jc] at he; cases he
   ·rw [if_neg Jc] at he
    by_cases hm:t∈ds
    ·exact qe xD t (by simp [hm,beq_nat,Jc]) off he
    ·exact Jc (f.tidy t d off hm he).symm
  obtain⟨jQ,rC,e',f',O0⟩:=f1.ER (w':=c.w.alloc (.cells v.cells t)) d cs c.w.heap.size (.inl (XP _)) (fun t off he=>absurd he (EV t off))
   (fun b hb _=>alloc_old _ _ hb) (fun b hb _=>alloc_old _ _ (by omega)) (by simp) (by simp) hbs rfl rfl rfl
   (by
     have:=Dt (c':={c with w:=c.w.alloc (.cells v.cells t)}) (w1:=c.w) (C:=v.cells) (e:=t) rfl
     rwa [show v.cells.size=cs.length by rw [←YM,hv.length]] at this)
   (fun e'=>jW (w1:=c.w) (C:=v.cells) (e:=t) rfl (VRs.ext e' _ _ hv) (fun i _=>by simp) h1)
  have f2:=f'.set (d:=some d) (x:=.lp d 0) (v:=.pointer (some ⟨c.w.heap.size,0,none⟩)) (by simp only [SR,O0,RS.box,beq_nat]; simp) (fun t ht=>by cases ht; rw [gD]; exact⟨hn ▸ Hs,zG⟩)
  rw [HL] at f2
  have hs:(((s.set (some d) .any).box d cs).set (some d) (.lp d 0))=(s.box d cs).set (some d) (.lp d 0):=by
   rw [←RS.set_set (s.box d cs) (some d) .any]
   rfl
  rw [hs] at f2
  exact hK _ _ ⟨(gD _ _ _).trans hn,_,jQ,rC,rfl,f2,e.trans e'⟩
 ·cases h
  obtain⟨β',e',f',hβ,hl⟩:=f.fresh hbs c.w ⟨rfl,rfl,rfl,rfl⟩ (.cells cs) (.cells v.cells t) (fun c' e' hw=>⟨_,lS hw,by rw [Ya,hv.length]; simp,
   jW (w1:=c.w) hw (VRs.ext e' _ _ hv) (fun i _=>by simp) h1⟩)
  rw [f.h] at f' e' hβ hl
  have f2:=f'.set (d:=some d) (x:=.ptr s.h.next 0) (v:=.pointer (some ⟨c.w.heap.size,0,none⟩)) (by
   simp only [SR,VR]
   exact⟨hl.1,_,rfl,fun _=>by rw [hβ]⟩) (fun t ht=>by cases ht; exact⟨hn ▸ Hs,zG⟩)
  exact hK _ _ ⟨(gD _ _ _).trans hn,_,Lo,lam,rfl,f2,e.trans e'⟩
theorem Bl {c:Cx}{L:Nat→Prop}{n:Nat}{x:AV}{v:Value}(h:VR c L x v):VR c L (uy n x) v:=by
 unfold uy
 split
 ·simp only [VR] at h ⊢
  exact .inl ⟨trivial,trivial,trivial,none,h⟩
 ·exact h
theorem Bm {c:Cx}{L:Nat→Prop}{n:Nat}:∀{cs:List AV} {vs:List Value} (j:Nat),VRs c L cs vs→VRs c L (zW n j cs) vs
 | [],vs,j,h=>h
 | x::cs,[],j,h=>h.elim
 | x::cs,v::vs,j,h=>by
  refine⟨?_,Bm (j+1) h.2⟩
  split
  ·exact h.1
  ·exact Bl h.1
theorem Bn {c:Cx}{L:Nat→Prop}{n:Nat}:∀{cs:List AV} {vs:List Value},VRs c L cs vs→VRs c L (cs.map (uy n)) vs
 | [],vs,h=>h
 | x::cs,[],h=>h.elim
 | x::cs,v::vs,h=>⟨Bl h.1,Bn h.2⟩
theorem HM {c:Cx}{L:Nat→Prop}{cs:List AV}{vs:List Value}(h:VRs c L cs vs):∀n,VRs c L (HF cs n) vs
 | 0=>h
 | n+1=>by
  have e:HF cs (n+1)=bif Y6 100 (n+1) then zW (n+1) 0 cs else cs.map (uy (n+1)):=rfl
  rw [e]
  cases Y6 100 (n+1)
  ·exact Bn h
  ·exact Bm 0 h
theorem Bo {c:Cx}{L:Nat→Prop}{aI:List Nat}{d:Option Nat}{cs:List AV}{vs:List Value}(h:VRs c L cs vs):VRs c L (zX aI d cs) vs:=by
 unfold zX
 split
 ·exact h
 ·exact HM h _
theorem HN {c:Cx}{L:Nat→Prop}{aI:List Nat}{d:Option Nat}{x:AV}{v:Value}(h:VR c L x v):VR c L (JL aI d x) v:=by
 unfold JL
 split
 ·simp only [VR] at h ⊢
  obtain⟨vs,h1,h2⟩:=h
  exact⟨vs,h1,Bo h2⟩
 ·exact h
theorem Bp {n:Nat}{x:AV}(h:(uy n x).b4=true):x.b4=true:=by
 unfold uy at h
 split at h
 ·rfl
 ·exact h
theorem Bq {n:Nat}:∀{cs:List AV} (j:Nat),(zW n j cs).all AV.b4=true→cs.all AV.b4=true
 | [],j,h=>rfl
 | x::cs,j,h=>by
  rw [zW,YA,XN] at h
  rw [YA,XN]
  refine⟨?_,Bq (j+1) h.2⟩
  have h1:=h.1
  split at h1
  ·exact h1
  ·exact Bp h1
theorem Br {n:Nat}:∀{cs:List AV},(cs.map (uy n)).all AV.b4=true→cs.all AV.b4=true
 | [],h=>rfl
 | x::cs,h=>by
  rw [X8,YA,XN] at h
  rw [YA,XN]
  exact⟨Bp h.1,Br h.2⟩
theorem HO {aI:List Nat}{d:Option Nat}{cs:List AV}(h:(zX aI d cs).all AV.b4=true):cs.all AV.b4=true:=by
 unfold zX at h
 split at h
 ·exact h
 ·rename_i d'
  generalize EH aI d'=n at h
  cases n with
  | zero=>exact h
  | succ n=>
   have e:HF cs (n+1)=bif Y6 100 (n+1) then zW (n+1) 0 cs else cs.map (uy (n+1)):=rfl
   rw [e] at h
   cases hb:Y6 100 (n+1)
   ·rw [hb,cond_false] at h; exact Br h
   ·rw [hb,cond_true] at h; exact Bq 0 h
theorem Du {c:Cx}{t:TypeId}{z:AV}(hz:iI P t=some z)(oX:z.cells.all AV.b4=true)(L:Nat→Prop):∃v:Value,(Instr.alloc t true (.tuple #[])).run P c.w = .ok (.pointer (some ⟨c.w.heap.size,0,none⟩)) (c.w.alloc (.cells v.cells t))∧VRs c L z.cells v.cells.toList∧∀u∈v.cells.toList,u.oneCell'=true:=by
 obtain⟨v,hr,hv⟩:=jV hz c.w
 obtain⟨h1,h2⟩:=iS oX (lR (c:=c) (L:=L) hv)
 exact⟨v,by simp [Instr.alloc,hr,newVar,newRow],h1,h2⟩
theorem iU (z:List AV):∀k,(iJ z k).length=k*z.length
 | 0=>by simp [iJ]
 | k+1=>by simp [iJ,iU z k,YU,Zd]
theorem uY (z:List AV):∀(k i:Nat),i<k*z.length→(iJ z k)[i]? = z[i % z.length]?
 | 0,i,h=>by simp at h
 | k+1,i,h=>by
  rw [YU,Nat.one_mul] at h
  rw [iJ]
  by_cases h1:i<z.length
  ·rw [XZ h1,Nat.mod_eq_of_lt h1]
  ·rw [X1 (by omega),uY z k _ (by omega),←Nat.mod_eq_sub_mod (show z.length≤i by omega)]
theorem qf {c:Cx}{L:Nat→Prop}{z:List AV}{zv:Array Value}(hz:VRs c L z zv.toList)(k m:Nat)(hm:k*z.length≤m)(Ev:z.length≠0) :
  VRs c L (iJ z k) (((Array.range m).map (zv[· % zv.size]!)).toList.take (k*z.length)):=by
 have hl:=hz.length
 have key:∀(xs:List AV) (vs:List Value),xs.length=vs.length→(∀(i:Nat) x v,xs[i]? = some x→vs[i]? = some v→VR c L x v)→VRs c L xs vs:=by
  intro xs
  induction xs with
  | nil=>intro vs h _; cases vs with | nil=>trivial | cons _ _=>simp at h
  | cons x xs ih=>
   intro vs h lq
   cases vs with
   | nil=>simp at h
   | cons v vs=>
    refine⟨lq 0 x v rfl rfl,ih vs (by simpa using h) fun i y u hy hu=>lq (i+1) y u (by simpa using hy) (by simpa using hu)⟩
 refine key _ _ (by rw [iU]; simp; omega) fun i x v hx hv=>?_
 have hi:i<k*z.length:=by
  have:=(XQ.1 hx).1
  rwa [iU] at this
 rw [uY z k i hi] at hx
 obtain⟨u,hu,hr⟩:=hz.get _ x hx
 rw [List.getElem?_take,if_pos hi] at hv
 have Bh:i<m:=by omega
 have rF:i % zv.size<zv.size:=Nat.mod_lt _ (by rw [←YM,←hl]; omega)
 have:v=zv[i % zv.size]!:=by
  simp [Bh] at hv
  exact hv.symm
 rw [show zv.toList.length=zv.size by simp] at hl
 rw [hl,Array.getElem?_toList,Array.getElem?_eq_getElem rF] at hu
 rw [this,getElem!_pos zv _ rF]
 cases hu
 exact hr
theorem lT (hb0:c0.base≤c0.w.heap.size)(hd:gE n ds o){ob:AObj}{x:AV}
  (h:∀a c Lo lam,Fr L0 c Lo lam ds s a→a.tmps.size=n→∃(obj:Obj) (v:Value),(execOp a.eval o).run P c.w = .ok (.value v) (c.w.alloc obj)∧
   (∀(c':Cx) (e:Ext c Lo c' Lo),c'.w=c.w.alloc obj→pd c' (un L0 Lo) c.w.heap.size 0 ob)∧
   (∀(c':Cx),c'.h=s.h.alloc ob→c'.w=c.w.alloc obj→c'.β s.h.next=(c.w.heap.size,0)→VR c' (un L0 Lo) x v)) (hx:∀k off,x≠.lp k off) :
  jx P L0 c0 n ds o s ({s with h:=s.h.alloc ob}.set o.dst x):=by
 rintro a w K Q ⟨hn,c,Lo,lam,rfl,f,e⟩ hK
 have hbs:=jq e hb0
 obtain⟨obj,v,hr,hob,hv⟩:=h a c Lo lam f hn
 unfold Oper.wp
 rw [hr,Oper.upon_value]
 obtain⟨β',e',f',hβ,hl⟩:=f.fresh hbs c.w ⟨rfl,rfl,rfl,rfl⟩ ob obj hob
 rw [f.h] at f' e' hβ hl
 have f2:=f'.set (d:=o.dst) (x:=x) (v:=v) (SR.of (hv _ rfl rfl hβ)) (fun t ht=>by rw [hn]; exact hd t ht)
 exact hK _ _ ⟨(gD _ _ _).trans hn,_,Lo,lam,rfl,f2,e.trans e'⟩
theorem Af (hb0:c0.base≤c0.w.heap.size)(hd:gE n ds o){t:TypeId}(ho:o.op = .makeMap t none):jx P L0 c0 n ds o s ({s with h:=s.h.alloc (.map [])}.set o.dst (.mp s.h.next)):=by
 refine lT hb0 hd (fun a c Lo lam f hn=>⟨.map #[] 0,.map (some c.w.heap.size),by simp [execOp,ho,Instr.makeMap],fun c' e hw=>⟨#[],0,by rw [hw]; exact iK _ _,trivial⟩,fun c' hh hw hβ=>?_⟩) (by rintro k off hh; cases hh)
 simp only [VR]
 exact⟨by rw [hh]; exact Yx _,_,rfl,fun _=>by rw [hβ]⟩
theorem uZ {i:Int}(h0:0≤i)(h1:i≤1099511627776):IntKind.i64.wrap i=i:=IntWalk.i64_in _ (by omega)
theorem we (hb0:c0.base≤c0.w.heap.size)(hd:gE n ds o){t:TypeId}{lx cx:Operand}(ho:o.op = .makeSlice t lx cx){s':RS}
  (h:((gQ P s.h t (bP s.ρ lx) (bP s.ρ cx)).map fun (x,h)=>{s with h}.set o.dst x)=some s'):jx P L0 c0 n ds o s s':=by
 rw [XL] at h
 obtain⟨⟨x,h'⟩,hm,rfl⟩:=h
 unfold gQ at hm
 split at hm<;>try (cases hm; done)
 rename_i l cc hl hc
 rw [XK] at hm
 obtain⟨d,EW,hm⟩:=hm
 cases d<;>simp only at hm<;>try (cases hm; done)
 rename_i e
 simp only [XK] at hm
 obtain⟨i,hi,z,hz,hm⟩:=hm
 split at hm
 rotate_left
 ·cases hm
 rename_i kb
 obtain⟨h0,h1,h2,h3,h4,h5,h6⟩:=kb
 simp only [XM,XS] at hm
 obtain⟨rfl,rfl⟩:=hm
 refine lT hb0 hd (fun a c Lo lam f hn=>?_) (by rintro k off hh; cases hh)
 have UE:s.h.next≠0:=by have:=f.rel.ver 0; rw [f.h] at this; omega
 have lJ:=(bI f lx)
 have Ms:=(bI f cx)
 rw [hl] at lJ
 rw [hc] at Ms
 simp only [SR,VR] at lJ Ms
 obtain⟨zv,EN,Ae⟩:=jV hz c.w
 have Ew:(typeInfo e).run P c.w = .ok i c.w:=by simp [typeInfo,hi]
 have hsz:(sizeOf e).run P c.w = .ok i.size c.w:=dZ (by simp [fF,hi]) c.w
 obtain⟨zH,hz1⟩:=iS h6 (lR (c:=c) (L:=un L0 Lo) Ae)
 have Ev:=zH.length
 have hl0:IntKind.i64.wrap l=l:=uZ h0 (by omega)
 have UF:IntKind.i64.wrap cc=cc:=uZ (by omega) h5
 have hroom:¬((i.bytes:Int)*cc > 2 ^ 48):=by
  rw [Int.mul_comm]; simp only [gM] at h2; omega
 have hn0:cc.toNat*i.size=0∨cc.toNat*i.size≠0:=by omega
 have Ag:(Instr.makeSlice t (.int .i64 l) (.int .i64 cc)).run P c.w = .ok (.slice (some ⟨c.w.heap.size,0,none⟩) l.toNat cc.toNat)
   (c.w.alloc (.cells ((Array.range (cc.toNat*i.size)).map (zv.cells[· % zv.cells.size]!)) e)):=by
  unfold Instr.makeSlice
  simp only [Sem.run_bind,bE EW,Result.andThen_ok,asInt,asIntOf,Sem.run_pure,Ew,hl0,UF,hsz]
  rw [if_neg (by simp only [Yw,decide_eq_true_eq,not_or]; exact⟨⟨⟨by omega,hroom⟩,by omega⟩,by omega⟩)]
  simp only [Sem.run_bind,run_askRoom,Result.andThen_ok,hsz,Sem.run_pure]
  by_cases hz0:cc.toNat*i.size=0
  ·have O3:∀f:Nat→Value,Array.map f (Array.range 0) = #[]:=fun f=>by simp
   simp only [hz0,if_true,Sem.run_pure,Sem.run_bind,Result.andThen_ok,newRow,run_newObj,World.alloc_eq,O3]
  ·simp only [hz0,if_false,Sem.run_bind,EN,Result.andThen_ok,Sem.run_pure,newRow,run_newObj,World.alloc_eq]
 have hle:l.toNat*z.cells.length≤cc.toNat*i.size:=by rw [h3]; exact YF _ (by omega)
 have hrow:∀(c':Cx) (e':Ext c Lo c' Lo),c'.w=c.w.alloc (.cells ((Array.range (cc.toNat*i.size)).map (zv.cells[· % zv.cells.size]!)) e)→
   pd c' (un L0 Lo) c.w.heap.size 0 (.cells (iJ z.cells l.toNat)):=by
  intro c' e' hw
  refine⟨_,lS hw,by rw [iU]; simp; omega,?_⟩
  have hv:=qf zH l.toNat (cc.toNat*i.size) hle (by omega)
  refine jW (w1:=c.w) hw (VRs.ext e' _ _ hv) (fun j hj=>?_) (fun u hu=>?_)
  ·rw [List.getElem?_take,if_pos (by simp at hj; omega),Array.getElem?_toList]
  ·have SB:=List.mem_of_mem_take hu
   simp only [Array.toList_map,Yo] at SB
   obtain⟨j,hj,rfl⟩:=SB
   have rF:j % zv.cells.size<zv.cells.size:=Nat.mod_lt _ (by rw [←YM,←Ev]; omega)
   rw [getElem!_pos zv.cells _ rF]
   exact hz1 _ (by simp)
 have hex:(execOp a.eval o).run P c.w = .ok (.value (.slice (some ⟨c.w.heap.size,0,none⟩) l.toNat cc.toNat)) (c.w.alloc (.cells ((Array.range (cc.toNat*i.size)).map (zv.cells[· % zv.cells.size]!)) e)):=by
  simp only [execOp,ho,lJ,Ms,Sem.run_bind,Ag,Result.andThen_ok,Sem.run_pure]
 refine⟨_,_,hex,hrow,fun c' hh hw hβ=>?_⟩
 simp only [VR]
 refine .inr ⟨UE,by rw [hh]; exact Yx _,_,_,rfl,by omega,rfl,fun _=>.inl ?_⟩
 rw [hβ]
 refine⟨rfl,?_⟩
 simp only [Cx.len,World.shape?,hw,iK]
 simp
end
end Go.R
namespace Go.R
open Go
def lU:List Value→Nat→List Value→List Value
 | cs,_,[]=>cs
 | cs,i,v::vs=>lU (cs.set i v) (i+1) vs
theorem VRs.dD {c:Cx}{L:Nat→Prop}:∀{xs:List AV} {us:List Value} (i:Nat) {cs:List AV} {vs:List Value},VRs c L xs us→VRs c L cs vs→VRs c L (dD cs i xs) (lU vs i us)
 | [],[],i,cs,vs,_,h=>by
  have:R.dD cs i []=cs:=by cases cs<;>rfl
  rw [this]; cases vs<;>exact h
 | x::xs,u::us,i,cs,vs,h,k=>VRs.dD (i+1) h.2 (VRs.set h.1 i k)
 | [],_::_,_,_,_,h,_=>h.elim
 | _::_,[],_,_,_,h,_=>h.elim
theorem qU:∀(us:List Value) (i:Nat) (vs:List Value),(∀v∈vs,v.oneCell'=true)→(∀u∈us,u.oneCell'=true)→∀v∈lU vs i us,v.oneCell'=true
 | [],i,vs,h,_,v,hv=>h v (by cases vs<;>exact hv)
 | u::us,i,vs,h,k,v,hv=>qU us (i+1) (vs.set i u) (fun w hw=>by
   rcases List.mem_or_eq_of_mem_set hw with h1 | h1
   ·exact h w h1
   ·subst h1; exact k _ (by simp)) (fun w hw=>k w (by simp [hw])) v hv
theorem pe (off:Nat):∀(us:List Value) (j:Nat) (cells:Array Value),((us.zipIdx j).foldl (fun cs (p:Value × Nat)=>cs.setIfInBounds (off+p.2) p.1) cells).toList=lU cells.toList (off+j) us
 | [],j,cells=>by simp [lU]
 | u::us,j,cells=>by
  simp only [List.zipIdx_cons,List.foldl_cons]
  rw [pe off us (j+1)]
  simp [lU,YI]
section
variable {P:Program}{L0:Nat→Prop}{c0:Cx}{n:Nat}{ds:List Nat}{o:Oper}{s:RS}
def sK (c:Cx)(L:Nat→Prop):List (Nat × AV)→List (Nat × Value)→Prop
 | [],[]=>True
 | (i,x)::xs,(j,v)::vs=>(i=j∧(x.cells.all AV.b4=true→VR c L x v))∧sK c L xs vs
 | _,_=>False
theorem lV {c:Cx}{L:Nat→Prop}(pl:Nat→Option (Nat × Nat)):∀{ps:List (Nat × AV)} {vs:List (Nat × Value)} {cs fI:List AV} {C:Array Value},sK c L ps vs→VRs c L cs C.toList→(∀v∈C.toList,v.oneCell'=true)→ss pl cs ps=some fI→
  ∃C':Array Value,Instr.fill pl C vs=some C'∧VRs c L fI C'.toList∧∀v∈C'.toList,v.oneCell'=true
 | [],[],cs,fI,C,_,hc,h1,h=>by
  simp only [ss,XM] at h
  subst h
  exact⟨C,rfl,hc,h1⟩
 | (i,x)::ps,(j,v)::vs,cs,fI,C,hp,hc,h1,h=>by
  obtain⟨⟨rfl,hx⟩,O4⟩:=hp
  simp only [ss,XK] at h
  obtain⟨⟨off,size⟩,Bk,h⟩:=h
  simp only at h
  split at h
  ·rename_i kb
   obtain⟨h2,h3,h4⟩:=kb
   obtain⟨h5,h6⟩:=iS h3 (hx h3)
   have h7:v.cells.size=size:=by rw [←YM,←h5.length]; exact h2
   have h8:cs.length=C.size:=by rw [hc.length]; simp
   have hf:(v.cells.zipIdx.foldl (fun cs (p:Value × Nat)=>cs.setIfInBounds (off+p.2) p.1) C).toList=lU C.toList off v.cells.toList:=by
    rw [←Array.foldl_toList,Array.toList_zipIdx]
    exact pe off v.cells.toList 0 C
   obtain⟨C',h9,h10,h11⟩:=lV pl (C:=v.cells.zipIdx.foldl (fun cs (p:Value × Nat)=>cs.setIfInBounds (off+p.2) p.1) C) O4 (by rw [hf]; exact VRs.dD off h5 hc) (by rw [hf]; exact qU _ _ _ h1 h6) h
   refine⟨C',?_,h10,h11⟩
   simp only [Instr.fill,Bk]
   rw [if_neg (by simp only [Yw,decide_eq_true_eq,not_or,ne_eq,Decidable.not_not]; exact⟨h7,by omega⟩)]
   exact h9
  ·cases h
 | [],_::_,_,_,_,h,_,_,_=>h.elim
 | _::_,[],_,_,_,h,_,_,_=>h.elim
theorem pf {c:Cx}{Lo:Nat→Prop}{lam:Nat→Nat}{a:Act}(f:Fr L0 c Lo lam ds s a):∀ps:List (Nat × Operand),sK c (un L0 Lo) (ps.map fun (i,x)=>(i,bP s.ρ x)) (ps.map fun (i,x)=>(i,a.eval x))
 | []=>trivial
 | (i,x)::ps=>⟨⟨rfl,fun h=>(bI f x).sa h⟩,pf f ps⟩
theorem qV {v:Value}{x:AV}(h:pa v=some x):x.b4=true:=by
 unfold pa at h
 split at h<;>first | (cases h; done) | (cases h; rfl)
theorem pg:∀{vs:List Value} {xs:List AV},qO vs=some xs→xs.all AV.b4=true
 | [],xs,h=>by simp [qO] at h; subst h; rfl
 | v::vs,xs,h=>by
  simp only [qO,XK] at h
  obtain⟨x,hx,ys,hy,he⟩:=h
  cases he
  simp [qV hx,pg hy]
theorem oE {v:Value}{x:AV}(h:EF v=some x):x.cells.all AV.b4=true:=by
 unfold EF at h
 split at h
 ·rw [XL] at h
  obtain⟨xs,hx,rfl⟩:=h
  exact pg hx
 ·have h1:=qV h
  cases x<;>simp_all [AV.cells,AV.b4]
theorem sL {c:Cx}(w:World):∀fs:List Field,(∀f∈fs,∃m,fF P f.type=some m)→(fs.mapM (m:=Sem) fun f=>do pure (f.offset,←sizeOf f.type)).run P w = .ok (fs.map fun f=>(f.offset,(fF P f.type).getD 0)) w
 | [],_=>by simp
 | f::fs,h=>by
  obtain⟨m,hm⟩:=h f (by simp)
  have ih:=sL (c:=c) w fs (fun g hg=>h g (by simp [hg]))
  simp only [List.mapM_cons,Sem.run_bind,dZ hm,ih,hm,Sem.run_pure,Result.andThen_ok,X8,YH]
theorem run_build {c:Cx}{L:Nat→Prop}{t:TypeId}{ps:List (Nat × AV)}{vs:List (Nat × Value)}{y:AV}(hp:sK c L ps vs)(h:zS P t ps=some y) :
  ∃v,(Instr.build t vs.toArray).run P c.w = .ok v c.w∧VR c L y v:=by
 unfold zS at h
 simp only [XK] at h
 obtain⟨z,hz,d,hd,h⟩:=h
 obtain⟨zv,EN,Ae⟩:=jV hz c.w
 obtain⟨zH,hz1⟩:=iS (oE Ae) (lR (c:=c) (L:=L) Ae)
 cases d<;>simp only at h<;>try (cases h; done)
 ·rename_i len e
  simp only [XK,XL] at h
  obtain⟨m,hm,cs,hf,rfl⟩:=h
  obtain⟨C',h1,h2,_⟩:=lV _ hp zH hz1 hf
  refine⟨.agg C',?_,by simp only [VR]; exact⟨C',rfl,h2⟩⟩
  unfold Instr.build
  simp [EN,bE hd,dZ hm,h1]
 ·rename_i fs
  split at h
  rotate_left
  ·cases h
  rename_i Mt
  have lq:∀f∈fs.toList,∃m,fF P f.type=some m:=fun f hf=>Yl.1 (X5.1 Mt f hf)
  rw [XL] at h
  obtain⟨cs,hf,rfl⟩:=h
  obtain⟨C',h1,h2,_⟩:=lV _ hp zH hz1 hf
  refine⟨.agg C',?_,by simp only [VR]; exact⟨C',rfl,h2⟩⟩
  have UG:=sL (P:=P) (c:=c) c.w fs.toList lq
  have Bk:(fun i=>(fs.toList.map fun f=>(f.offset,(fF P f.type).getD 0)).toArray[i]?)=zR P fs.toList:=by
   funext i
   simp only [zR,List.getElem?_toArray,YB]
   cases hi:fs.toList[i]? with
   | none=>rfl
   | some f=>
    obtain⟨m,hm⟩:=lq f (XT hi)
    simp [hm]
  unfold Instr.build
  simp only [Sem.run_bind,EN,bE hd,Result.andThen_ok]
  rw [←Array.toArray_toList (xs:=fs),List.mapM_toArray]
  simp only [Sem.run_map,UG,Result.andThen_ok]
  rw [Bk,h1]
  rfl
end
end Go.R
namespace Go.R
open Go
section
variable {P:Program}{L0:Nat→Prop}{c0:Cx}{n:Nat}{ds:List Nat}{o:Oper}{s:RS}
theorem sM (hb0:c0.base≤c0.w.heap.size)(hd:gE n ds o){x:AV}
  (h:∀a c Lo lam,Fr L0 c Lo lam ds s a→a.tmps.size=n→c.base≤c.w.heap.size→∃(w':World) (v:Value),(execOp a.eval o).run P c.w = .ok (.value v) w'∧(∀b,b<c.w.heap.size→ik c.w w' b)∧(∀id,Live c.h id→w'.heap[(c.β id).1]? = c.w.heap[(c.β id).1]?)∧(∀b,b<c.base→w'.heap[b]? = c.w.heap[b]?)∧c.w.heap.size≤w'.heap.size∧
   w'.os=c.w.os∧w'.tape=c.w.tape∧w'.output=c.w.output∧(Ext c Lo {c with w:=w'} Lo→VR {c with w:=w'} (un L0 Lo) x v)) (hx:∀k off,x≠.lp k off) :
  jx P L0 c0 n ds o s (s.set o.dst x):=by
 rintro a w K Q ⟨hn,c,Lo,lam,rfl,f,e⟩ hK
 obtain⟨w',v,hr,h1,UH,h2,h3,h4,h5,h6,hv⟩:=h a c Lo lam f hn (jq e hb0)
 obtain⟨e',f'⟩:=f.world h1 UH h2 h3 h4 h5 h6
 unfold Oper.wp
 rw [hr,Oper.upon_value]
 exact hK _ _ ⟨(gD _ _ _).trans hn,_,Lo,lam,rfl,f'.set (SR.of (hv e')) (fun t ht=>by rw [hn]; exact hd t ht),e.trans e'⟩
theorem EX {c c':Cx}{Lo:Nat→Prop}(r:HRel c (un L0 Lo))(hβ:c'.β=c.β)(hh:c'.h=c.h):RO c' (un L0 Lo) c.w.heap.size:=by
 refine⟨fun id hl he=>?_,fun hL=>?_⟩
 ·rw [hh] at hl
  rw [hβ] at he
  have:=r.block hl; omega
 ·have:=r.bd _ hL; omega
theorem mY {c:Cx}{L:Nat→Prop}{t:TypeId}{len:Nat}{ps:List (Nat × AV)}{vs:List (Nat × Value)}{y:AV}(hp:sK c L ps vs)(h:gP P t len ps=some y) :
  (y = .fz [] 0 true∧∃e,(Instr.buildSlice t len vs.toArray).run P c.w = .ok (.slice (some ⟨c.w.heap.size,0,none⟩) 0 0) (c.w.alloc (.cells #[] e)))∨
  ∃cs C e,y = .fz cs len true∧(Instr.buildSlice t len vs.toArray).run P c.w = .ok (.slice (some ⟨c.w.heap.size,0,none⟩) len len) (c.w.alloc (.cells C e))∧VRs c L cs C.toList∧∀v∈C.toList,v.oneCell'=true:=by
 unfold gP at h
 rw [XK] at h
 obtain⟨d,hd,h⟩:=h
 cases d<;>simp only at h<;>try (cases h; done)
 rename_i e
 rw [XK] at h
 obtain⟨m,hm,h⟩:=h
 split at h
 ·cases h
 rename_i Mu
 have sG:m≠0:=fun h=>Mu (.inl h)
 have Mw:¬(len*m > 2 ^ 24):=fun h=>Mu (.inr (by omega))
 split at h
 ·rename_i hl0
  subst hl0
  split at h
  ·rename_i O5
   cases h
   have O4:ps=[]:=by simpa using O5
   subst O4
   cases vs with
   | cons _ _=>exact hp.elim
   | nil=>
   refine .inl ⟨rfl,e,?_⟩
   unfold Instr.buildSlice
   simp only [Sem.run_bind,bE hd,dZ hm,Result.andThen_ok,Nat.zero_mul,if_true,Sem.run_pure]
   have O3:∀f:Nat→Value,Array.map f (Array.range 0) = #[]:=fun f=>by simp
   simp only [Instr.fill,newRow,O3,Sem.run_bind,run_newObj,Result.andThen_ok,Sem.run_pure,World.alloc_eq]
   rfl
  ·cases h
 ·rename_i hl0
  rw [XK] at h
  obtain⟨z,hz,h⟩:=h
  split at h
  rotate_left
  ·cases h
  rename_i Ev
  rw [XL] at h
  obtain⟨cs,hf,rfl⟩:=h
  obtain⟨zv,EN,Ae⟩:=jV hz c.w
  obtain⟨zH,hz1⟩:=iS (oE Ae) (lR (c:=c) (L:=L) Ae)
  have hz0:=qf zH len (len*m) (by rw [Ev]; exact XP _) (by omega)
  rw [Yn (by simp [Ev])] at hz0
  have hz2:∀u∈((Array.range (len*m)).map (zv.cells[· % zv.cells.size]!)).toList,u.oneCell'=true:=by
   intro u hu
   simp only [Array.toList_map,Yo] at hu
   obtain⟨j,hj,rfl⟩:=hu
   have rF:j % zv.cells.size<zv.cells.size:=Nat.mod_lt _ (by rw [←YM,←zH.length]; omega)
   rw [getElem!_pos zv.cells _ rF]
   exact hz1 _ (by simp)
  obtain⟨C',h1,h2,h3⟩:=lV _ hp hz0 hz2 hf
  refine .inr ⟨cs,C',e,rfl,?_,h2,h3⟩
  have hne:len*m≠0:=Nat.mul_ne_zero hl0 sG
  unfold Instr.buildSlice
  simp only [Sem.run_bind,bE hd,dZ hm,Result.andThen_ok,Mw,hne,if_false,Sem.run_pure,EN]
  rw [h1]
  simp [newRow]
theorem uA (hb0:c0.base≤c0.w.heap.size)(hd:gE n ds o){t:TypeId}{len:Nat}{ps:Array (Nat × Operand)}(ho:o.op = .buildSlice t len ps){y:AV}
  (h:gP P t len (ps.toList.map fun (i,x)=>(i,bP s.ρ x))=some y):jx P L0 c0 n ds o s (s.set o.dst y):=by
 refine sM hb0 hd (fun a c Lo lam f hn hbs=>?_) ?_
 ·have hp:=pf f ps.toList
  have hex:∀v w',(Instr.buildSlice t len (ps.toList.map fun (i,x)=>(i,a.eval x)).toArray).run P c.w = .ok v w'→(execOp a.eval o).run P c.w = .ok (.value v) w':=by
   intro v w' hr
   have he:ps.map (fun (i,x)=>(i,a.eval x))=(ps.toList.map fun (i,x)=>(i,a.eval x)).toArray:=by
    apply Zh; simp
   simp only [execOp,ho,Sem.run_bind]
   rw [he,hr]
   rfl
  rcases mY hp h with⟨rfl,e,hr⟩| ⟨cs,C,e,rfl,hr,hv,h1⟩
  ·refine⟨_,_,hex _ _ hr,fun b hb=>.inl (alloc_old _ _ hb),fun id hl=>alloc_old _ _ (f.rel.block hl),fun b hb=>alloc_old _ _ (by omega),by simp,rfl,rfl,rfl,fun _=>by simp only [VR]; exact⟨_,_,rfl,XP _,fun _=>rfl,.inl rfl,.inl trivial⟩⟩
  ·refine⟨_,_,hex _ _ hr,fun b hb=>.inl (alloc_old _ _ hb),fun id hl=>alloc_old _ _ (f.rel.block hl),fun b hb=>alloc_old _ _ (by omega),by simp,rfl,rfl,rfl,fun e'=>?_⟩
   simp only [VR]
   exact⟨_,_,rfl,XP _,fun _=>rfl,.inl rfl,.inr ⟨c.w.heap.size,0,rfl,EX f.rel rfl rfl,fun _=>hbs,jW (w1:=c.w) rfl (VRs.ext e' _ _ hv) (fun i _=>by simp) h1⟩⟩
 ·rintro k off rfl
  unfold gP at h
  rw [XK] at h
  obtain⟨d,_,h⟩:=h
  cases d<;>simp only at h<;>try (cases h; done)
  rw [XK] at h
  obtain⟨m,_,h⟩:=h
  split at h
  ·cases h
  ·split at h
   ·split at h<;>cases h
   ·rw [XK] at h
    obtain⟨z,_,h⟩:=h
    split at h
    ·rw [XL] at h
     obtain⟨_,_,h⟩:=h
     cases h
    ·cases h
theorem xW {aI:List Nat}{t:TypeId}{y:AV}{cs:List AV}{k z:Nat}(h:oB P aI o t y=some (cs,k,z)):y = .fz cs k true∧cs.length=k*z∧cs≠[]:=by
 unfold oB at h
 split at h
 ·rename_i d c fI k' hd
  cases hc:aI.contains d with
  | false=>rw [hc] at h; cases h
  | true=>
   rw [hc] at h
   simp only [cond_true] at h
   split at h
   ·split at h
    ·rename_i z' hz
     cases hb:Yp (c::fI).length (k'*z') with
     | false=>rw [hb] at h; cases h
     | true=>
      rw [hb] at h
      simp only [cond_true,XM,XS] at h
      obtain⟨rfl,rfl,rfl⟩:=h
      exact⟨rfl,YN hb,by simp⟩
    ·cases h
   ·cases h
 ·cases h
theorem sN (hb0:c0.base≤c0.w.heap.size)(hd:gE n ds o){t:TypeId}{len:Nat}{ps:Array (Nat × Operand)}(ho:o.op = .buildSlice t len ps){y:AV}(aI:List Nat)
  (h:gP P t len (ps.toList.map fun (i,x)=>(i,bP s.ρ x))=some y):jx P L0 c0 n ds o s (qa P aI s o t y):=by
 have key:=uA (L0:=L0) hb0 hd ho h
 unfold qa
 cases JU:oB P aI o t y with
 | none=>exact key
 | some q=>
 obtain⟨Ot,n1,z⟩:=q
 obtain⟨rfl,hlen,hne⟩:=xW JU
 have fin:=lT (P:=P) (L0:=L0) (c0:=c0) (o:=o) (s:=s) hb0 hd (ob:=.cells Ot) (x:=.rs s.h.next 0 n1 z) (fun a c Lo lam f hn=>by
  have hp:=pf f ps.toList
  have hex:∀v w',(Instr.buildSlice t len (ps.toList.map fun (i,x)=>(i,a.eval x)).toArray).run P c.w = .ok v w'→(execOp a.eval o).run P c.w = .ok (.value v) w':=by
   intro v w' hr
   have he:ps.map (fun (i,x)=>(i,a.eval x))=(ps.toList.map fun (i,x)=>(i,a.eval x)).toArray:=by
    apply Zh; simp
   simp only [execOp,ho,Sem.run_bind]
   rw [he,hr]
   rfl
  rcases mY hp h with⟨he,_⟩| ⟨cs,C,e,he,hr,hv,h1⟩
  ·cases he; exact absurd rfl hne
  ·cases he
   have Mx:C.size=Ot.length:=by rw [←YM,←hv.length]
   refine⟨_,_,hex _ _ hr,fun c' e' hw=>⟨_,lS (w1:=c.w) hw,by rw [Mx,Ya]; exact XP _,jW (w1:=c.w) hw (VRs.ext e' _ _ hv) (fun i _=>by simp) h1⟩,fun c' hh hw hβ=>?_⟩
   simp only [VR]
   refine .inr ⟨(by have:=f.rel.ver 0; rw [f.h] at this; omega),by rw [hh]; exact Yx _,_,_,rfl,XP _,rfl,fun _=>.inl ?_⟩
   rw [hβ]
   refine⟨rfl,?_⟩
   simp only [Cx.len,World.shape?,hw,iK]
   simp only [XR,YH,Mx,hlen,Ya]) (by rintro k off hh; cases hh)
 exact fin
theorem qg {c:Cx}{Lo:Nat→Prop}{lam:Nat→Nat}{a:Act}(f:Fr L0 c Lo lam ds s a){tx:TypeId}{size m:Nat}{x:AV}{v:Value}{new:List AV}(hx:SR c L0 Lo lam s.bx x v)
  (hk:(∃e',P.underlying tx=some (.slice e'))∨P.underlying tx=some .string) (Bs:∀st,x = .str st→P.underlying tx=some .string) (LX:(∀st,x≠.str st)→∃e',P.underlying tx=some (.slice e')) (h:eP s.h size x=some (new,m)) :
  ∃news,Src P size tx v m news c.w∧VRs c (un L0 Lo) new news:=by
 unfold eP at h
 cases x<;>simp only at h<;>try (cases h; done)
 ·rename_i st
  split at h
  ·rename_i h1
   subst h1
   cases h
   simp only [SR,VR] at hx
   subst hx
   refine⟨_,Src.ofString c.w (Bs st rfl) st,?_⟩
   unfold byteCells
   generalize st.data.toList=l
   induction l with
   | nil=>trivial
   | cons b l ih=>exact⟨by simp [VR],ih⟩
  ·cases h
 ·cases h
  obtain⟨e',he⟩:=LX (by rintro st h; cases h)
  simp only [SR,VR] at hx
  subst hx
  exact⟨[],Src.ofNil c.w he 0,trivial⟩
 ·rename_i cs k ex
  split at h
  ·rename_i hl
   cases h
   obtain⟨e',he⟩:=LX (by rintro st h; cases h)
   simp only [SR,VR] at hx
   obtain⟨ad,cap,rfl,h1,h2,_,hc⟩:=hx
   rcases hc with rfl | ⟨b,o',rfl,hr,hex,hc⟩
   ·have hl0:m*size=0:=by simpa using hl.symm
    cases ad with
    | none=>
     refine⟨[],⟨.inl ⟨e',he⟩,fun _=>rfl,run_firstCells_none c.w size m m cap,run_firstCells_none c.w.drew size m m cap,by simpa using hl,fun _ h=>by cases h⟩,trivial⟩
    | some ad=>exact⟨[],Src.ofSlice c.w he ad m cap [] (by simpa using hl) (fun j u hu=>by simp at hu) (fun u hu=>by cases hu),trivial⟩
   ·obtain⟨vs,q1,q2,q3⟩:=hc.vals
    refine⟨vs,Src.ofSlice c.w he _ m cap vs (by rw [←q1.length]; exact hl) (fun j u hu=>?_) q3,q1⟩
    rw [addr_add,q2 j (by rw [q1.length]; exact (XQ.1 hu).1)]
    exact hu
  ·cases h
 ·rename_i id off k iH
  split at h
  ·rename_i hid
   split at h
   rotate_left
   ·cases h
   rename_i Oq
   cases h
   obtain⟨e',he⟩:=LX (by rintro st h; cases h)
   simp only [SR,VR] at hx
   rcases hx with⟨_,_,_,a,rfl⟩| ⟨_,_,a,cap,rfl,_,h2,_⟩
   rotate_left
   ·cases a with
    | none=>cases h2
    | some ad=>subst Oq; exact⟨[],Src.ofSlice c.w he ad 0 cap [] (by simp) (fun j u hu=>by simp at hu) (fun u hu=>by cases hu),trivial⟩
   cases a with
   | none=>exact⟨[],Src.ofNil c.w he 0,trivial⟩
   | some ad=>exact⟨[],Src.ofSlice c.w he ad 0 0 [] (by simp) (fun j u hu=>by simp at hu) (fun u hu=>by cases hu),trivial⟩
  rename_i kA
  rw [XK] at h
  obtain⟨ob,hob,h⟩:=h
  cases ob with
  | map es=>cases h
  | row t cs=>cases h
  | cells cs=>
  simp only at h
  split at h
  ·rename_i hh
   obtain⟨rfl,hle⟩:=hh
   cases h
   obtain⟨e',he⟩:=LX (by rintro st h; cases h)
   simp only [SR,VR] at hx
   rcases hx with hx | ⟨_,hid,ad,cap,rfl,h1,h2,h3⟩
   ·exact absurd (.inl hx.1) kA
   rw [←f.h] at hob
   have hl:Live c.h id:=⟨f.rel.lt _ _ hob,by simp [hob]⟩
   obtain⟨q,hp,hm,hc⟩:=f.rel.obj _ _ hob
   have hc2:=(hc.drop off).take (m*iH)
   have hlen:((cs.drop off).take (m*iH)).length=m*iH:=by simp; omega
   obtain⟨vs,q1,q2,q3⟩:=hc2.vals
   rcases h3 hl with⟨h5,h4⟩| hcap
   ·subst h5
    refine⟨vs,Src.ofSlice c.w he _ m cap vs (by rw [←q1.length]; exact hlen) (fun j u hu=>?_) q3,q1⟩
    rw [addr_add,q2 j (by rw [q1.length]; exact (XQ.1 hu).1)]
    exact hu
   ·have sG:m=0:=by omega
    subst sG
    simp only [Nat.zero_mul,List.take_zero] at q1 ⊢
    cases ad with
    | none=>simp at h2
    | some ad=>exact⟨[],Src.ofSlice c.w he ad 0 cap [] (by simp) (fun j u hu=>by simp at hu) (fun u hu=>by cases hu),trivial⟩
  ·cases h
end
end Go.R
namespace Go.R
open Go
section
variable {P:Program}{L0:Nat→Prop}{c0:Cx}{n:Nat}{ds:List Nat}{o:Oper}{s:RS}
theorem grownCap_ge (w:World){need old:Nat}{e:TypeId}:need≤grownCap w need old e:=by
 unfold grownCap
 simp only [Question.cut]
 omega
theorem sO (z:Array Value)(k:Nat):(Builtin.zeroCells z k).size=k*z.size:=by simp [Builtin.zeroCells]
theorem iz (w:World){t tx ty e:TypeId}{i:TypeInfo}(ht:P.underlying t=some (.slice e))(hi:P.info? e=some i){base:Option Addr}{len cap:Nat}(hlc:len≤cap){x:Value}{news:List Value}(hs:Src P i.size tx x 0 news w) :
  (Builtin.append_ #[t,tx] ty #[.slice base len cap,x]).run P w = .ok (.slice base len cap) w:=by
 have My:news=[]:=Yd (by rw [hs.newsLen]; simp)
 have hc:=hs.cells
 rw [My] at hc
 rcases hs.kind with⟨e',hk⟩| hk<;>cases base<;>simp [Builtin.append_,run_underlying ht,run_underlying hk,sizeOf,typeInfo,hi,hs.len,hlc,hc,storeCells]
theorem wg {c:Cx}{b m:Nat}(hp:Plain c b m){j:Nat}(hj:j<m):c.w.frozen? ⟨b,j,none⟩=false:=by
 obtain⟨C,e,lo,hi,hb,hf,rfl⟩:=hp
 simp only [World.frozen?,hb]
 rcases hf with hf | hf
 ·subst hf; simp
 ·simp; omega
theorem Fr.grown {c:Cx}{Lo:Nat→Prop}{lam:Nat→Nat}{a:Act}(f:Fr L0 c Lo lam ds s a)(hbs:c.base≤c.w.heap.size){e:TypeId}{z:Value}{size need cap:Nat}(Ew:z.cells.size=size)(hcap:need≤cap){xs:List AV}{vs:List Value}(hv:VRs c (un L0 Lo) xs vs)(h1:∀v∈vs,v.oneCell'=true)
  (hl:vs.length=need*size) (h':AHeap) (hg:h'.get c.h.next=some (.cells xs)) (hst:Steady c.h h') (hn:c.h.next<h'.next) (ho:∀id,id≠c.h.next→h'.get id=none∨h'.get id=c.h.get id) :
  ∃c':Cx,c'.w=c.w.drew.alloc (.cells (vs.toArray++Builtin.zeroCells z.cells (cap - need)) e)∧c'.h=h'∧Ext c Lo c' Lo∧Fr L0 c' Lo lam ds {s with h:=h'} a∧VR c' (un L0 Lo) (.rs c.h.next 0 need size) (.slice (some ⟨c.w.heap.size,0,none⟩) need cap):=by
 have Mx:(vs.toArray++Builtin.zeroCells z.cells (cap - need)).size=cap*size:=by
  rw [Array.size_append,sO,Ew,List.size_toArray,hl,←YU]
  congr 1; omega
 have UI:=hv.length
 obtain⟨β',e',f',hβ,hlive⟩:=f.EU hbs c.w.drew ⟨rfl,rfl,rfl,rfl⟩ (.cells xs) (.cells (vs.toArray++Builtin.zeroCells z.cells (cap - need)) e) h' hg hst hn ho (fun c' e' hw=>by
  refine⟨_,lS (w1:=c.w.drew) hw,?_,jW (w1:=c.w.drew) hw (VRs.ext e' _ _ hv) (fun i hi=>?_) h1⟩
  ·rw [Mx,Ya,UI,hl]; exact YF _ hcap
  ·rw [Array.getElem?_append_left (by simpa using hi)]; simp)
 refine⟨_,rfl,rfl,e',f',?_⟩
 simp only [VR]
 refine .inr ⟨(by have:=f.rel.ver 0; omega),hlive.1,_,_,rfl,hcap,rfl,fun _=>.inl ?_⟩
 rw [hβ]
 refine⟨rfl,?_⟩
 have:(c.w.drew.alloc (.cells (vs.toArray++Builtin.zeroCells z.cells (cap - need)) e)).heap[c.w.heap.size]? = some (.cells (vs.toArray++Builtin.zeroCells z.cells (cap - need)) e):=iK c.w.drew _
 simp only [Cx.len,World.shape?,this,XR,YH,Mx]
 omega
theorem Dv (hb0:c0.base≤c0.w.heap.size)(hd:gE n ds o){t t2:TypeId}{sx xx:Operand}(ho:o.op = .call {callee:=.builtin .append,args:=#[sx,xx],argTypes:=#[t,t2]}){s':RS}
  (h:((dU P s.h t t2 (bP s.ρ sx) (bP s.ρ xx)).map fun (v,h)=>{s with h}.set o.dst v)=some s'):jx P L0 c0 n ds o s s':=by
 rw [XL] at h
 obtain⟨⟨y,h'⟩,ha,rfl⟩:=h
 unfold dU at ha
 rw [XK] at ha
 obtain⟨d,EW,ha⟩:=ha
 cases d<;>simp only at ha<;>try (cases ha; done)
 rename_i e
 rw [XK] at ha
 obtain⟨i,hi,ha⟩:=ha
 rw [XK] at ha
 obtain⟨⟨new,m⟩,JV,ha⟩:=ha
 simp only at ha
 obtain⟨JW,hcs,hnew⟩:∃JW,eP s.h i.size (bP s.ρ xx)=some (JW,m)∧new=JW.map jY:=by
  unfold fU at JV
  rw [XL] at JV
  obtain⟨⟨p,q⟩,h1,h2⟩:=JV
  simp only [XS] at h2
  obtain⟨rfl,rfl⟩:=h2
  exact⟨p,h1,rfl⟩
 split at ha
 ·cases ha
 rename_i kb
 have hsz0:i.size≠0:=fun h=>kb (.inl h)
 have gN:iR P t2 (bP s.ρ xx)=true:=by
  cases hq:iR P t2 (bP s.ρ xx) with
  | true=>rfl
  | false=>exact absurd (.inr (.inl hq)) kb
 obtain⟨zv,z,zH,Ae,Ev⟩:∃zv z,i.zero=some zv∧EF zv=some z∧z.cells.length=i.size:=by
  have hz:I9 i=true:=by
   cases hq:I9 i with
   | true=>rfl
   | false=>exact absurd (.inr (.inr hq)) kb
  unfold I9 at hz
  cases hq:i.zero.bind EF with
  | none=>rw [hq] at hz; cases hz
  | some z=>
   rw [hq] at hz
   obtain⟨zv,h1,h2⟩:=XK.1 hq
   exact⟨zv,z,h1,h2,by simpa using hz⟩
 have Ew:∀c L,zv.cells.size=i.size:=fun (c:Cx) (L:Nat→Prop)=>by
  have:=(iS (oE Ae) (lR (c:=c) (L:=L) Ae)).1.length
  rw [Ev] at this
  simpa using this.symm
 have xS:(∃e',P.underlying t2=some (.slice e'))∨P.underlying t2=some .string:=by
  unfold iR at gN
  split at gN
  ·right; revert gN; split<;>simp_all
  ·left; revert gN; split<;>simp_all
 have Bs:∀st,bP s.ρ xx = .str st→P.underlying t2=some .string:=by
  intro st he
  rw [he] at gN
  simp only [iR] at gN
  revert gN; split<;>simp_all
 have LX:(∀st,bP s.ρ xx≠.str st)→∃e',P.underlying t2=some (.slice e'):=by
  intro hne
  unfold iR at gN
  split at gN
  ·rename_i st he; exact absurd he (hne st)
  ·revert gN; split<;>simp_all
 rintro a w K Q ⟨hn,c,Lo,lam,rfl,f,e0⟩ hK
 have hbs:=jq e0 hb0
 obtain⟨news,hS,Jd⟩:=qg (P:=P) f (bI f xx) xS Bs LX hcs
 replace Jd:VRs c (un L0 Lo) new news:=hnew ▸ sE Jd
 have hex:∀v w',(Builtin.append_ #[t,t2] o.type #[a.eval sx,a.eval xx]).run P c.w = .ok v w'→(execOp a.eval o).run P c.w = .ok (.value v) w':=by
  intro v w' hr
  unfold execOp
  simp only [ho,resolve,invoke,builtin,Sem.run_bind,Sem.run_pure,Result.andThen_ok,List.map_toArray,X8,Ze,hr]
 have fin:∀c' v,(Builtin.append_ #[t,t2] o.type #[a.eval sx,a.eval xx]).run P c.w = .ok v c'.w→Ext c Lo c' Lo→Fr L0 c' Lo lam ds {s with h:=h'} a→VR c' (un L0 Lo) y v→o.wp P a c.w K Q:=by
  intro c' v hr e' f' hv
  unfold Oper.wp
  rw [hex v _ hr,Oper.upon_value]
  exact hK _ _ ⟨(gD _ _ _).trans hn,c',Lo,lam,rfl,f'.set (SR.of hv) (fun t ht=>by rw [hn]; exact hd t ht),e0.trans e'⟩
 have Bu:=bI f sx
 have h63:∀k:Nat,k≤gM→(k:Int)≤9223372036854775807:=fun k hk=>by simp only [gM] at hk; omega
 have hfit:∀need old,old<need→need*i.bytes≤gM→Builtin.nextslicecap need old*i.bytes≤281474976710656:=fun need old h1 h2=>growslice_fits h1 (by simp only [gM] at h2; omega)
 have hnl:=Jd.length
 have hone:=hS.one
 have xX:=hS.newsLen
 cases hq:bP s.ρ sx with
 | nils=>
  rw [hq] at ha Bu
  simp only [SR,VR] at Bu
  obtain⟨ad,zF,UJ⟩:∃ad:Option Addr,a.eval sx = .slice ad 0 0∧ad=none:=⟨none,Bu,rfl⟩
  simp only at ha
  split at ha
  ·cases ha
  rename_i hroom
  split at ha
  ·rename_i sG
   subst sG
   cases ha
   refine fin c (.slice ad 0 0) ?_ (Ext.refl _ _) f (by simp only [VR]; exact .inl ⟨trivial,trivial,trivial,ad,rfl⟩)
   rw [zF]
   exact iz c.w EW hi (XP _) hS
  ·rename_i sG
   cases ha
   have hold:(Builtin.firstCells i.size 0 (.slice ad 0 0)).run P c.w.drew = .ok ([]:List Value).toArray c.w.drew:=by
    cases ad with
    | none=>exact run_firstCells_none _ _ _ _ _
    | some ad=>exact run_firstCells_some _ _ _ _ _ _ [] (by simp) (fun j v hj=>by simp at hj)
   have hr:=run_append_grow_src c.w t t2 o.type e i zv EW hi zH ad 0 0 [] hold (a.eval xx) m news hS (by omega) (by rw [Ya]; exact h63 _ (by omega)) (hfit _ _ (by omega) (by rw [Ya]; omega))
   simp only [Ya,Yr] at hr
   obtain⟨c',hw,hh,e',f',hv⟩:=f.grown hbs (e:=e) (Ew c L0) (grownCap_ge c.w (need:=m) (old:=0) (e:=e)) Jd hone xX (s.h.alloc (.cells new)) (by rw [f.h]; simp [AHeap.alloc,AHeap.put,beq_nat]) (by rw [f.h]; exact Steady.put _ _ _) (by rw [f.h]; exact Yx _) (fun id hne=>.inr (by rw [f.h] at hne ⊢; simp [AHeap.alloc,AHeap.put,beq_nat,hne]))
   refine fin c' _ ?_ e' f' (by rw [←f.h]; exact hv)
   rw [zF,hw]
   exact hr
 | fz cs len ex=>
  rw [hq] at ha Bu
  cases ex with
  | false=>simp only at ha; cases ha
  | true=>
  simp only [SR,VR] at Bu
  obtain⟨ad,cap,zF,h1,h2,qW,hc⟩:=Bu
  have hcap:=h2 trivial
  subst hcap
  simp only at ha
  split at ha
  ·cases ha
  rename_i hroom
  split at ha
  ·rename_i sG
   subst sG
   refine fin c (.slice ad cap cap) ?_ (Ext.refl _ _) (by split at ha<;>cases ha<;>exact f) ?_
   ·rw [zF]
    exact iz c.w EW hi (XP _) hS
   ·split at ha
    ·rename_i hz
     cases ha
     subst hz
     simp only [VR]
     exact .inl ⟨trivial,trivial,trivial,ad,rfl⟩
    ·cases ha
     simp only [VR]
     exact⟨ad,cap,rfl,h1,h2,qW,hc⟩
  ·rename_i sG
   cases ha
   have hcl:cs.length=cap*i.size:=by
    by_cases h3:cs.length=cap*i.size
    ·exact h3
    ·exact absurd (.inr (.inr h3)) hroom
   obtain⟨sP,LY,O6,Je⟩:∃sP:List Value,VRs c (un L0 Lo) cs sP∧(Builtin.firstCells i.size cap (.slice ad cap cap)).run P c.w.drew = .ok sP.toArray c.w.drew∧∀v∈sP,v.oneCell'=true:=by
    rcases hc with rfl | ⟨b,o',rfl,hr,UK,hc⟩
    ·refine⟨[],trivial,?_,fun _ h=>by cases h⟩
     cases ad with
     | none=>exact run_firstCells_none _ _ _ _ _
     | some ad=>exact run_firstCells_some _ _ _ _ _ _ [] (by simpa using hcl) (fun j v hj=>by simp at hj)
    ·obtain⟨vs,q1,q2,q3⟩:=hc.vals
     refine⟨vs,q1,run_firstCells_some _ _ _ _ _ _ vs (by rw [←q1.length]; exact hcl) (fun j v hj=>?_),q3⟩
     rw [World.cell?_drew,addr_add,q2 j (by rw [q1.length]; exact (XQ.1 hj).1)]
     exact hj
   have HP:=LY.length
   have hr:=run_append_grow_src c.w t t2 o.type e i zv EW hi zH ad cap cap sP O6 (a.eval xx) m news hS (by omega) (h63 _ (by omega)) (hfit _ _ (by omega) (by omega))
   obtain⟨c',hw,hh,e',f',hv⟩:=f.grown hbs (e:=e) (Ew c L0) (grownCap_ge c.w (need:=cap+m) (old:=cap) (e:=e)) (VRs.append LY Jd) (fun v hv=>(Yg.1 hv).elim (Je v) (hone v)) (by rw [XU,xX,←HP,hcl,YU]) (s.h.alloc (.cells (cs++new))) (by rw [f.h]; simp [AHeap.alloc,AHeap.put,beq_nat]) (by rw [f.h]; exact Steady.put _ _ _) (by rw [f.h]; exact Yx _) (fun id hne=>.inr (by rw [f.h] at hne ⊢; simp [AHeap.alloc,AHeap.put,beq_nat,hne]))
   refine fin c' _ ?_ e' f' (by rw [←f.h]; exact hv)
   rw [zF,hw]
   exact hr
 | rs id off len iH=>
  rw [hq] at ha Bu
  simp only [SR,VR] at Bu
  simp only at ha
  split at ha
  ·rename_i hid
   rcases Bu with⟨_,hoff,Mz,ad,zF⟩| Bu
   rotate_left
   ·exact absurd hid Bu.1
   split at ha
   ·cases ha
   rename_i hroom
   split at ha
   ·rename_i sG
    subst sG
    cases ha
    refine fin c (.slice ad 0 0) ?_ (Ext.refl _ _) f (by simp only [VR]; exact .inl ⟨hid,hoff,Mz,ad,rfl⟩)
    rw [zF]
    exact iz c.w EW hi (XP _) hS
   ·rename_i sG
    cases ha
    have hold:(Builtin.firstCells i.size 0 (.slice ad 0 0)).run P c.w.drew = .ok ([]:List Value).toArray c.w.drew:=by
     cases ad with
     | none=>exact run_firstCells_none _ _ _ _ _
     | some ad=>exact run_firstCells_some _ _ _ _ _ _ [] (by simp) (fun j v hj=>by simp at hj)
    have hr:=run_append_grow_src c.w t t2 o.type e i zv EW hi zH ad 0 0 [] hold (a.eval xx) m news hS (by omega) (by rw [Ya]; exact h63 _ (by omega)) (hfit _ _ (by omega) (by rw [Ya]; omega))
    simp only [Ya,Yr] at hr
    obtain⟨c',hw,hh,e',f',hv⟩:=f.grown hbs (e:=e) (Ew c L0) (grownCap_ge c.w (need:=m) (old:=0) (e:=e)) Jd hone xX (s.h.alloc (.cells new)) (by rw [f.h]; simp [AHeap.alloc,AHeap.put,beq_nat]) (by rw [f.h]; exact Steady.put _ _ _) (by rw [f.h]; exact Yx _) (fun id hne=>.inr (by rw [f.h] at hne ⊢; simp [AHeap.alloc,AHeap.put,beq_nat,hne]))
    refine fin c' _ ?_ e' f' (by rw [←f.h]; exact hv)
    rw [zF,hw]
    exact hr
  rename_i kA
  rcases Bu with Bu | ⟨_,hid,ad,cap,zF,h1,h2,h3⟩
  ·exact absurd Bu.1 kA
  simp only [XK] at ha
  obtain⟨ob,hob,ha⟩:=ha
  cases ob with
  | map es=>cases ha
  | row t cs=>cases ha
  | cells cs=>
  simp only at ha
  split at ha
  ·cases ha
  rename_i hroom
  have ur:iH=i.size:=Decidable.byContradiction fun h=>hroom (.inl h)
  subst ur
  have hle:off+len*i.size≤cs.length:=Decidable.byContradiction fun h=>hroom (.inr (.inl (by omega)))
  rw [←f.h] at hob
  have hl:Live c.h id:=⟨f.rel.lt _ _ hob,by simp [hob]⟩
  obtain⟨q,hp,hm,hc⟩:=f.rel.obj _ _ hob
  split at ha
  ·rename_i sG
   subst sG
   cases ha
   refine fin c (.slice ad len cap) ?_ (Ext.refl _ _) f ?_
   ·rw [zF]
    exact iz c.w EW hi h1 hS
   ·simp only [VR]
    exact .inr ⟨kA,hid,ad,cap,rfl,h1,h2,h3⟩
  ·rename_i sG
   cases ha
   have hc2:=(hc.drop off).take (len*i.size)
   have Bv:((cs.drop off).take (len*i.size)).length=len*i.size:=by simp; omega
   obtain⟨sP,LY,SC,Je⟩:=hc2.vals
   have HP:=LY.length
   have hget:((s.h.kill id).put s.h.next (.cells ((cs.drop off).take (len*i.size)++new))).get c.h.next=some (.cells ((cs.drop off).take (len*i.size)++new)):=by rw [f.h]; simp [AHeap.put,beq_nat]
   have hnx:c.h.next<((s.h.kill id).put s.h.next (.cells ((cs.drop off).take (len*i.size)++new))).next:=by rw [f.h]; simp only [AHeap.put,AHeap.kill]; omega
   have hoth:∀kP,kP≠c.h.next→((s.h.kill id).put s.h.next (.cells ((cs.drop off).take (len*i.size)++new))).get kP=none∨((s.h.kill id).put s.h.next (.cells ((cs.drop off).take (len*i.size)++new))).get kP=c.h.get kP:=by
    intro kP hne
    rw [f.h] at hne ⊢
    by_cases h4:kP=id
    ·left; simp [AHeap.put,AHeap.kill,beq_nat,hne,h4]; rw [←h4]; simp [hne]
    ·right; simp [AHeap.put,AHeap.kill,beq_nat,hne,h4]
   by_cases EY:len+m≤cap
   ·
    rcases h3 hl with⟨h4,h5⟩| h4
    rotate_left
    ·omega
    subst h4
    have MA:c.len (c.β id).1=q:=by
     obtain⟨C,e',hb,rD⟩:=hp
     simp [Cx.len,World.shape?,hb,rD]
    rw [MA] at h5
    have MB:(len+m)*i.size≤cap*i.size:=YF _ EY
    rw [YU] at MB
    have MC:=hp
    obtain⟨C,e',hb,rD⟩:=hp
    have hr:=run_append_room_src c.w t t2 o.type e i EW hi (c.β id).1 ((c.β id).2+off) len cap (a.eval xx) m news hS EY
     (fun j hj=>by
      rw [cell_of_block hb]
      have:(c.β id).2+off+len*i.size+j<C.size:=by omega
      simp [this])
     (fun j hj=>wg MC.kH (by omega))
    have Bk:iE c (c.β id).1 q:=MC
    obtain⟨q1,q2,q3,q4⟩:=gJ news (c.β id).1 ((c.β id).2+off+len*i.size) c.w
    obtain⟨C',g1,g2,g3⟩:=fJ news (c.β id).1 ((c.β id).2+off+len*i.size) c.w C e' (0,0) hb (by omega)
    have:=f.upd (w':=c.w.setCells (c.β id).1 ((c.β id).2+off+len*i.size) news) (β':=fun k=>if k=c.h.next then ((c.β id).1,(c.β id).2+off) else c.β k) (h':=(s.h.kill id).put s.h.next (.cells ((cs.drop off).take (len*i.size)++new))) c.h.next (.cells ((cs.drop off).take (len*i.size)++new))
     (by rw [f.h]; exact (Steady.kill _ _).trans (Steady.put _ _ _)) hnx hget (fun kP hne=>(hoth kP hne).imp (fun h=>h) (fun h=>⟨h,by simp [hne]⟩)) (fun h=>absurd h (Nat.lt_irrefl _))
     (.inr ⟨id,hl,by simp,.inr (by
      have:id≠s.h.next:=by rw [←f.h]; have:=hl.1; omega
      simp [AHeap.put,AHeap.kill,beq_nat,this])⟩)
     (fun _=>by simp [World.shape?,g1,Cx.len,hb,g2])
     (fun b _ hne=>ec _ _ _ _ _ (by simpa using hne)) (fun b _ hne=>ec _ _ _ _ _ (by simpa using hne)) (by rw [q1]; exact XP _) hbs q2 q3 q4
     (fun ee=>by
      simp only [if_true]
      refine⟨q,Bk.setCells (by omega) _ _ _,?_,?_⟩
      ·rw [XU,Bv,hnl,xX]; omega
      ·refine Cells.of_vals (VRs.append (VRs.ext ee _ _ LY) (VRs.ext ee _ _ Jd)) (fun j hj=>?_) (fun v hv=>(Yg.1 hv).elim (Je v) (hone v))
       rw [cell_of_block g1,g3]
       rw [XU] at hj
       by_cases h6:j<sP.length
       ·rw [if_neg (by omega),←cell_of_block hb,XZ h6]
        exact SC j (by omega)
       ·rw [if_pos (by omega),X1 (by omega)]
        congr 1
        omega)
    obtain⟨JX,UL⟩:=this
    refine fin _ (.slice (some ⟨(c.β id).1,(c.β id).2+off,none⟩) (len+m) cap) ?_ JX UL ?_
    ·rw [zF]; exact hr
    ·simp only [VR,←f.h]
     refine .inr ⟨(by have:=f.rel.ver 0; omega),by rw [←f.h] at hnx; exact hnx,_,_,rfl,EY,rfl,fun _=>.inl ?_⟩
     simp only [if_true,Y3,true_and]
     simp only [Cx.len,World.shape?,g1,XR,YH,g2]
     omega
   ·
    obtain⟨O6⟩:Nonempty ((Builtin.firstCells i.size len (.slice ad len cap)).run P c.w.drew = .ok sP.toArray c.w.drew):=by
     rcases h3 hl with⟨h4,h5⟩| h4
     ·subst h4
      refine⟨run_firstCells_some _ _ _ _ _ _ sP (by rw [←HP,Bv]) (fun j v hj=>?_)⟩
      rw [World.cell?_drew,addr_add,SC j (by rw [HP]; exact (XQ.1 hj).1)]
      exact hj
     ·have hz:len=0:=by omega
      subst hz
      have:sP=[]:=Yd (by rw [←HP,Bv]; simp)
      subst this
      cases ad with
      | none=>exact⟨run_firstCells_none _ _ _ _ _⟩
      | some ad=>exact⟨run_firstCells_some _ _ _ _ _ _ [] (by simp) (fun j v hj=>by simp at hj)⟩
    have hr:=run_append_grow_src c.w t t2 o.type e i zv EW hi zH ad len cap sP O6 (a.eval xx) m news hS (by omega) (h63 _ (by omega)) (hfit _ _ (by omega) (by omega))
    obtain⟨c',hw,hh,e',f',hv⟩:=f.grown hbs (e:=e) (Ew c L0) (grownCap_ge c.w (need:=len+m) (old:=cap) (e:=e)) (VRs.append LY Jd) (fun v hv=>(Yg.1 hv).elim (Je v) (hone v)) (by rw [XU,xX,←HP,Bv,YU]) _ hget (by rw [f.h]; exact (Steady.kill _ _).trans (Steady.put _ _ _)) hnx hoth
    refine fin c' _ ?_ e' f' (by rw [←f.h]; exact hv)
    rw [zF,hw]
    exact hr
 | _=>rw [hq] at ha; simp only at ha; cases ha
end
end Go.R
