/- Part of the proof: ROps3, RMem, ROps4, RNew, RApp, RApp2, RApp3. -/
import Derived.Test.YtmekcfdllhphlaaGreatDoorK0
import Derived.MapKept
import Derived.Laws.Slices
import Derived.Laws.IdiomCopy
import Derived.Deep.AppendSrc
import Derived.IntWalk
set_option linter.unusedVariables false
set_option linter.unusedSimpArgs false
set_option maxRecDepth 100000
open Array renaming getElem?_eq_some_iff → abc, length_toList → abw, getElem?_setIfInBounds → abG, getElem?_modify → abN, getElem?_toList → ab0, getElem?_eq_getElem → ab2, ext' → acn
open Bool renaming and_eq_true → aaF, false_eq_true → aaS, or_eq_true → abt
open List renaming length_append → aaI, getElem?_eq_some_iff → aaK, mem_append → aaQ, length_cons → aaR, getElem?_append_right → aaY, take_of_length_le → aa4, nil_append → aa5, map_cons → aa6, mem_map → aba, mem_cons → abb, all_eq_true → abd, getElem?_append_left → abf, getElem?_map → abi, eq_nil_of_length_eq_zero → abn, all_cons → abA, mem_of_getElem? → abI, getElem?_set_self → ab8, getElem?_set_ne → aci
open Nat renaming le_refl → aaE, zero_add → aaZ, lt_of_lt_of_le → aa9, le_trans → abj, add_assoc → abl, lt_succ_self → abm, beq → abp, mul_le_mul_right → abq, add_mul → abJ, eq_of_beq_eq_true → abY, add_right_comm → aca
open Ne renaming symm → abZ
open Option renaming bind_eq_some_iff → aaB, map_eq_some_iff → aaC, map_some → aaG, isSome_iff_exists → abh, getD_some → aby
open Option.some renaming injEq → aaD
open Prod.mk renaming injEq → aaJ
namespace Go.R
open Go
section
variable {P:Program}{L0:Nat→Prop}{c0:Cx}{n:Nat}{ds:List Nat}{o:Oper}{s:RS}
theorem xA (a b:ByteArray):(a==b)=(a.data.toList==b.data.toList):=by
 cases a with | mk x=>cases b with | mk y=>
 show (x==y)=(x.toList==y.toList)
 rw [Bool.eq_iff_iff]
 simp [Array.toList_inj]
def place (k:AV):List (AV × AV)→List MapEntry→Nat→Option (Nat × Value)
 | (k',_)::es,m::ms,i=>if gL k k' then some (i,m.val) else place k es ms (i+1)
 | _,_,_=>none
theorem lA {c:Cx}{L:Nat→Prop}{d:TypeDesc}{k:AV}{kv:Value}(hd:(∃q,d = .int q)∨d = .string)(hk:k.gp=some kv)(Aj:(∃q a,k = .int q a)∨∃b,k = .str b) :
  ∀(es:List (AV × AV)) (ms:List MapEntry) (i:Nat),lL c L es ms→jo k es≠none→(∀q a,k = .int q a→∃q',d = .int q')→(∀b,k = .str b→d = .string)→Instr.findNow d kv ms i=some (place k es ms i)
 | [],[],i,_,_,_,_=>rfl
 | (k',v)::es,m::ms,i,he,hf,h1,h2=>by
  simp only [jo] at hf
  have hs:sameShape k k'=true:=by
   by_cases hs:sameShape k k'=true
   ·exact hs
   ·simp [hs] at hf
  simp only [hs,if_true] at hf
  obtain⟨⟨GW,_⟩,DM,wT⟩:=he
  have SF:Instr.sameNow d kv m.key=some (gL k k'):=by
   rcases Aj with⟨q,a,rfl⟩| ⟨b,rfl⟩
   ·obtain⟨q',rfl⟩:=h1 q a rfl
    cases k'<;>simp only [sameShape] at hs<;>try (cases hs; done)
    rename_i q2 a2
    simp only [beq_iff_eq] at hs
    subst hs
    simp only [VR] at GW
    simp only [AV.gp,aaD] at hk
    subst hk
    rw [GW]
    simp [Instr.sameNow,gL,jM]
   ·have:=h2 b rfl
    subst this
    cases k' with
    | str b2=>
     simp only [VR] at GW
     simp only [AV.gp,aaD] at hk
     subst hk
     rw [GW]
     simp only [Instr.sameNow,gL,jM,aaD]
     exact xA b b2
    | _=>cases hs
  simp only [Instr.findNow,SF]
  cases hq:gL k k' with
  | true=>simp [place,hq]
  | false=>
   simp only [hq,aaS,if_false] at hf
   simp only [place,hq,aaS,if_false]
   exact lA hd hk Aj es ms (i+1) wT hf h1 h2
 | [],_::_,_,h,_,_,_=>h.elim
 | _::_,[],_,h,_,_,_=>h.elim
theorem jN {c:Cx}{L:Nat→Prop}{kt:TypeId}{k:AV}{kv:Value}(hk:gM P kt k=true)(Ak:VR c L k kv)(w:World) :
  ∀(es:List (AV × AV)) (ms:List MapEntry) (i:Nat),lL c L es ms→jo k es≠none→(Instr.findAsking kt kv ms i).run P w = .ok (place k es ms i) w
 | [],[],i,_,_=>rfl
 | (k',v)::es,m::ms,i,he,hf=>by
  simp only [jo] at hf
  have hs:sameShape k k'=true:=by
   by_cases hs:sameShape k k'=true
   ·exact hs
   ·simp [hs] at hf
  simp only [hs,if_true] at hf
  obtain⟨⟨GW,_⟩,DM,wT⟩:=he
  have hq:=xz (P:=P) 9998 hk hs Ak GW w
  simp only [Instr.findAsking,Op.equal,Op.maxDepth,Sem.run_bind,hq,Result.andThen_ok]
  cases h:gL k k' with
  | true=>simp [place,h]
  | false=>
   simp only [h,aaS,if_false] at hf
   simp only [place,h,aaS,if_false]
   exact jN hk Ak w es ms (i+1) wT hf
 | [],_::_,_,h,_=>h.elim
 | _::_,[],_,h,_=>h.elim
theorem xB {c:Cx}{L:Nat→Prop}{kt:TypeId}{k:AV}{kv:Value}(hk:gM P kt k=true)(Ak:VR c L k kv)(w:World){es:List (AV × AV)}{ms:List MapEntry}(he:lL c L es ms)(hf:jo k es≠none) :
  (Instr.findKey kt kv ms).run P w = .ok (place k es ms 0) w:=by
 have Fp:=hk
 cases hd:P.underlying kt with
 | none=>simp [gM,hd] at hk
 | some d=>
 cases d<;>simp only [gM,hd] at hk<;>try (cases hk; done)
 ·rename_i q
  cases k<;>simp only at hk<;>try (cases hk; done)
  rename_i q2 a
  have hc:(AV.int q2 a).gp=some kv:=by simp only [VR] at Ak; simp [AV.gp,Ak]
  exact MapKept.run_findKey hd (lA (.inl ⟨q,rfl⟩) hc (.inl ⟨_,_,rfl⟩) es ms 0 he hf (fun _ _ _=>⟨q,rfl⟩) (fun b hb=>by cases hb))
 ·cases k<;>simp only at hk<;>try (cases hk; done)
  rename_i b
  have hc:(AV.str b).gp=some kv:=by simp only [VR] at Ak; simp [AV.gp,Ak]
  exact MapKept.run_findKey hd (lA (.inr rfl) hc (.inr ⟨_,rfl⟩) es ms 0 he hf (fun _ _ h=>by cases h) (fun b hb=>rfl))
 ·rw [run_findKey_eq w (by simp [hd])]
  exact jN Fp Ak w es ms 0 he hf
 ·rw [run_findKey_eq w (by simp [hd])]
  exact jN Fp Ak w es ms 0 he hf
theorem sT {c:Cx}{L:Nat→Prop}{k:AV}:∀(es:List (AV × AV)) (ms:List MapEntry) (i:Nat),lL c L es ms→(jo k es=some none→place k es ms i=none)∧(∀v,jo k es=some (some v)→∃j u,place k es ms i=some (j,u)∧VR c L v u)
 | [],[],i,_=>⟨fun _=>rfl,fun v h=>by simp [jo] at h⟩
 | (k',v)::es,m::ms,i,he=>by
  obtain⟨⟨GW,_⟩,DM,wT⟩:=he
  obtain⟨h1,h2⟩:=sT es ms (i+1) wT
  simp only [jo,place]
  by_cases hs:sameShape k k'=true
  ·simp only [hs,if_true]
   by_cases hq:gL k k'=true
   ·simp only [hq,if_true]
    exact⟨fun h=>(by cases h),fun u hu=>(by cases hu; exact⟨i,m.val,rfl,DM⟩)⟩
   ·simp only [hq,if_false,aaS]
    exact⟨h1,h2⟩
  ·simp [hs]
 | [],_::_,_,h=>h.elim
 | _::_,[],_,h=>h.elim
theorem lS {t:TypeId}{z:AV}(h:kB P t=some z)(w:World):∃v,(zeroValue t).run P w = .ok v w∧GQ v=some z:=by
 unfold kB at h
 simp only [aaB] at h
 obtain⟨i,hi,v,hv,hz⟩:=h
 exact⟨v,by simp [zeroValue,typeInfo,hi,hv],hz⟩
theorem Al {c:Cx}{Lo:Nat→Prop}{lam:Nat→Nat}{a:Act}(f:Fr L0 c Lo lam ds s a){t:TypeId}{m k y:AV}{mv kv:Value}{ok:Bool}(hm:SR c L0 Lo lam s.bx m mv)(hk:SR c L0 Lo lam s.bx k kv)
  (h:gz P s.h t m k ok=some y):∃r,(Instr.lookup t mv kv ok).run P c.w = .ok r c.w∧VR c (un L0 Lo) y r:=by
 unfold gz at h
 rw [aaB] at h
 obtain⟨d,hd,h⟩:=h
 cases d<;>simp only at h<;>try (cases h; done)
 rename_i kt et
 split at h
 ·cases h
 rename_i wV
 have wV:gM P kt k=true:=by simpa using wV
 rw [aaB] at h
 obtain⟨es,wT,h⟩:=h
 have Ak:VR c (un L0 Lo) k kv:=hk.vr (by rintro k0 off rfl; simp [gM] at wV)
 obtain⟨ms,Pl,uT⟩:∃ms:Array MapEntry,((mv = .map none∧ms = #[])∨∃r clock,mv = .map (some r)∧c.w.heap[r]? = some (.map ms clock))∧lL c (un L0 Lo) es ms.toList:=by
  cases m<;>simp only at wT<;>try (cases wT; done)
  ·simp only [SR,VR] at hm
   cases wT
   exact⟨#[],.inl ⟨hm,rfl⟩,trivial⟩
  ·rename_i id
   rw [aaB] at wT
   obtain⟨ob,ho,wT⟩:=wT
   cases ob with
   | cells cs=>cases wT
   | row t cs=>cases wT
   | map sR=>
   cases wT
   simp only [SR,VR] at hm
   obtain⟨hi,r,Sz,hr⟩:=hm
   rw [←f.h] at ho
   have hl:Live c.h id:=⟨f.rel.lt _ _ ho,by simp [ho]⟩
   obtain⟨lM,clock,h1,h2⟩:=f.rel.obj _ _ ho
   exact⟨lM,.inr ⟨r,clock,Sz,by rw [hr hl]; exact h1⟩,h2⟩
 rw [aaB] at h
 obtain⟨fr,SG,h⟩:=h
 have GX:=xB wV Ak c.w uT (by rw [SG]; simp)
 have MF:=oQ (P:=P) ms.isEmpty 9998 wV Ak c.w
 obtain⟨p1,p2⟩:=sT (k:=k) es ms.toList 0 uT
 have hget:∀r clock,c.w.heap[r]? = some (.map ms clock)→(getObj r).run P c.w = .ok (.map ms clock) c.w:=fun r clock h1=>by simp [getObj,Sem.run,h1]
 cases fr with
 | none=>
  rw [aaC] at h
  obtain⟨z,hz,rfl⟩:=h
  obtain⟨zv,Ki,Fq⟩:=lS hz c.w
  rw [p1 SG] at GX
  refine⟨if ok then .tuple #[zv,.bool false] else zv,?_,?_⟩
  ·unfold Instr.lookup
   rcases Pl with⟨rfl,rfl⟩| ⟨r,clock,rfl,h1⟩
   ·simp only [pure_bind,Sem.run_bind,bP hd,Result.andThen_ok,MF,GX,Ki,Sem.run_pure]
   ·simp only [Sem.run_bind,bP hd,Result.andThen_ok,hget r clock h1,MF,GX,Ki,Sem.run_pure]
  ·cases ok with
   | true=>simp only [if_true,VR]; exact⟨#[zv,.bool false],rfl,nl Fq,by simp [VR],trivial⟩
   | false=>simpa using nl Fq
 | some v=>
  obtain⟨j,u,hp,hv⟩:=p2 v SG
  rw [hp] at GX
  cases h
  refine⟨if ok then .tuple #[u,.bool true] else u,?_,?_⟩
  ·unfold Instr.lookup
   rcases Pl with⟨rfl,rfl⟩| ⟨r,clock,rfl,h1⟩
   ·simp only [pure_bind,Sem.run_bind,bP hd,Result.andThen_ok,MF,GX,Sem.run_pure]
   ·simp only [Sem.run_bind,bP hd,Result.andThen_ok,hget r clock h1,MF,GX,Sem.run_pure]
  ·cases ok with
   | true=>simp only [if_true,VR]; exact⟨#[u,.bool true],rfl,hv,by simp [VR],trivial⟩
   | false=>simpa using hv
theorem lL.length {c:Cx}{L:Nat→Prop}:∀{es:List (AV × AV)} {ms:List MapEntry},lL c L es ms→es.length=ms.length
 | [],[],_=>rfl
 | _::_,_::_,h=>by simp [lL.length h.2.2]
 | [],_::_,h=>h.elim
 | _::_,[],h=>h.elim
theorem GY {c:Cx}{Lo:Nat→Prop}{lam:Nat→Nat}{a:Act}(f:Fr L0 c Lo lam ds s a){x y:AV}{v:Value}{t:TypeId}(ts:Array TypeId)(ht:ts[0]? = some t)(hx:SR c L0 Lo lam s.bx x v)(h:uK P s.h t x=some y)(ty:TypeId) :
  ∃r,(Builtin.len_ ts ty #[v]).run P c.w = .ok r c.w∧VR c (un L0 Lo) y r:=by
 unfold uK at h
 rw [aaB] at h
 obtain⟨d,hd,h⟩:=h
 unfold Builtin.len_
 cases d<;>simp only at h<;>try (cases h; done)
 ·cases x<;>simp only at h<;>try (cases h; done)
  cases h
  simp only [SR,VR] at hx
  subst hx
  exact⟨.int .i64 _,by simp [ht,bP hd,goInt]; rfl,by simp only [VR]⟩
 ·cases x with
  | nils=>
   cases h
   simp only [SR,VR] at hx
   obtain⟨a,rfl⟩:=hx
   exact⟨.int .i64 _,by simp [ht,bP hd,goInt]; rfl,by simp only [VR]⟩
  | fz cs m ex=>
   cases h
   simp only [SR,VR] at hx
   obtain⟨a,cap,rfl,_⟩:=hx
   exact⟨.int .i64 _,by simp [ht,bP hd,goInt]; rfl,by simp only [VR]⟩
  | rs id off m jG=>
   cases h
   simp only [SR,VR] at hx
   rcases hx with⟨_,_,rfl,a,rfl⟩| ⟨_,_,a,cap,rfl,_⟩
   ·exact⟨.int .i64 _,by simp [ht,bP hd,goInt]; rfl,by simp only [VR]; rfl⟩
   ·exact⟨.int .i64 _,by simp [ht,bP hd,goInt]; rfl,by simp only [VR]⟩
  | _=>cases h
 ·cases x with
  | ph=>
   cases h
   simp only [SR,VR] at hx
   subst hx
   exact⟨.int .i64 _,by simp [ht,bP hd,goInt]; rfl,by simp only [VR]⟩
  | mp id=>
   simp only [aaB] at h
   obtain⟨ob,ho,h⟩:=h
   cases ob with
   | cells cs=>cases h
   | row t cs=>cases h
   | map es=>
   cases h
   simp only [SR,VR] at hx
   obtain⟨hi,r,rfl,hr⟩:=hx
   rw [←f.h] at ho
   have hl:Live c.h id:=⟨f.rel.lt _ _ ho,by simp [ho]⟩
   obtain⟨lM,clock,h1,h2⟩:=f.rel.obj _ _ ho
   rw [hr hl]
   refine⟨.int .i64 es.length,?_,by simp [VR]⟩
   have h3:=h2.length
   simp [ht,bP hd,getObj,Sem.run,h1,goInt,h3]
  | _=>cases h
end
end Go.R
namespace Go.R
open Go
theorem jr.len {c c':Cx}{b:Nat}(h:jr c.w c'.w b):c'.len b=c.len b:=by
 unfold Cx.len World.shape?
 rcases h with h | ⟨C,e,lo,hi,J2,mQ,h1,h2,_⟩
 ·rw [h]
 ·rw [h1,h2]
theorem HRel.block {c:Cx}{L:Nat→Prop}(r:HRel c L){id:Nat}(hl:Live c.h id):(c.β id).1<c.w.heap.size:=by
 obtain⟨o,ho⟩:=abh.1 hl.2
 have h:=r.obj id o ho
 cases o with
 | cells cs=>obtain⟨n,h1,_⟩:=h; exact h1.lt
 | map es=>obtain⟨lM,clock,h1,_⟩:=h; exact (abc.1 h1).1
 | row t cs=>obtain⟨_,C,h1,_⟩:=h; exact (abc.1 h1).1
section
variable {L0:Nat→Prop}{c:Cx}{Lo:Nat→Prop}{lam:Nat→Nat}{ds:List Nat}{s:RS}{a:Act}
theorem Fr.world (f:Fr L0 c Lo lam ds s a){w':World}(hk:∀b,b<c.w.heap.size→jr c.w w' b)(Kj:∀id,Live c.h id→w'.heap[(c.β id).1]? = c.w.heap[(c.β id).1]?)(hx:∀b,b<c.base→w'.heap[b]? = c.w.heap[b]?)(hs:c.w.heap.size≤w'.heap.size)
  (h1:w'.os=c.w.os) (h2:w'.tape=c.w.tape) (h3:w'.output=c.w.output):Ext c Lo {c with w:=w'} Lo∧Fr L0 {c with w:=w'} Lo lam ds s a:=by
 have e:Ext c Lo {c with w:=w'} Lo:=by
  refine⟨aaE _,fun id hi hl=>⟨hl,rfl,?_⟩,hs,fun b hb _ _=>hk b hb,hx,rfl,fun id hl=>.inr ⟨id,hl,rfl⟩,fun _ h=>h,fun _ h=>.inl h,h1,h2,h3⟩
  exact jr.len (c':={c with w:=w'}) (hk _ (f.rel.block hl))
 refine⟨e,f.h,⟨f.rel.lt,fun id o ho=>?_,f.rel.inj,f.rel.out,fun b hb=>aa9 (f.rel.bd b hb) hs,f.rel.low,f.rel.ver⟩,fun t=>?_,fun k cs hb=>?_,f.inj,f.tidy,f.defers,f.GS⟩
 ·have hl:Live c.h id:=⟨f.rel.lt _ _ ho,by rw [ho]; rfl⟩
  exact (f.rel.obj id o ho).ext e (Kj id hl)
 ·exact (f.slot t).ext e (fun _ _ _=>⟨rfl,fun h=>h⟩)
 ·have ob:=f.box k cs hb
  exact ob.ext e (hk _ ob.plain.lt)
theorem Fr.upd (f:Fr L0 c Lo lam ds s a){w':World}{β':Nat→Nat × Nat}{h':AHeap}(pN:Nat)(ob:AObj)
  (hst:Steady c.h h') (XY:pN<h'.next) (hget:h'.get pN=some ob)
  (hcl:∀id,id≠pN→h'.get id=none∨(h'.get id=c.h.get id∧β' id=c.β id))
  (Pm:pN<c.h.next→Live c.h pN∧β' pN=c.β pN)
  (Pn:c.w.heap.size≤(β' pN).1∨∃sS,Live c.h sS∧(c.β sS).1=(β' pN).1∧(sS=pN∨h'.get sS=none))
  (hlen:(β' pN).1<c.w.heap.size→((w'.shape? (β' pN).1).map (·.2)).getD 0=c.len (β' pN).1)
  (hk:∀b,b<c.w.heap.size→b≠(β' pN).1→w'.heap[b]? = c.w.heap[b]?) (hx:∀b,b<c.base→b≠(β' pN).1→w'.heap[b]? = c.w.heap[b]?) (hs:c.w.heap.size≤w'.heap.size) (hbs:c.base≤c.w.heap.size)
  (h1:w'.os=c.w.os) (h2:w'.tape=c.w.tape) (h3:w'.output=c.w.output)
  (hob:∀(e:Ext c Lo ⟨β',h',w',c.base⟩ Lo),tB ⟨β',h',w',c.base⟩ (un L0 Lo) (β' pN).1 (β' pN).2 ob) :
  Ext c Lo ⟨β',h',w',c.base⟩ Lo∧Fr L0 ⟨β',h',w',c.base⟩ Lo lam ds {s with h:=h'} a:=by
 have hn:=hst.next
 have hold:∀id,id≠pN→Live h' id→Live c.h id∧β' id=c.β id:=by
  intro id hne hl
  rcases hcl id hne with h | ⟨h,hb⟩
  ·have:=hl.2; rw [h] at this; cases this
  ·have GZ:(c.h.get id).isSome=true:=by rw [←h]; exact hl.2
   obtain⟨o,ho⟩:=abh.1 GZ
   exact⟨⟨f.rel.lt _ _ ho,GZ⟩,hb⟩
 have Kk:∀id,id≠pN→Live h' id→(c.β id).1≠(β' pN).1:=by
  intro id hne hl he
  obtain⟨hl0,hb⟩:=hold id hne hl
  rcases Pn with h | ⟨sS,h4,h5,h6⟩
  ·have:=f.rel.block hl0; omega
  ·have:id=sS:=f.rel.inj id sS hl0 h4 (he.trans h5.symm)
   subst this
   rcases h6 with h6 | h6
   ·exact hne h6
   ·have:=hl.2; rw [h6] at this; cases this
 have hL:¬un L0 Lo (β' pN).1:=by
  intro hL
  rcases Pn with h | ⟨sS,h4,h5,_⟩
  ·have:=f.rel.bd _ hL; omega
  ·exact f.rel.out sS h4 (h5 ▸ hL)
 have MG:c.base≤(β' pN).1:=by
  rcases Pn with h | ⟨sS,h4,h5,_⟩
  ·omega
  ·rw [←h5]; exact f.rel.low sS h4
 have e:Ext c Lo ⟨β',h',w',c.base⟩ Lo:=by
  refine⟨hn,fun id hi hl=>?_,hs,fun b hb _ hi=>.inl (hk b hb ?_),fun b hb=>hx b hb (by omega),rfl,fun id hl=>?_,fun _ h=>h,fun _ h=>.inl h,h1,h2,h3⟩
  ·by_cases hid:id=pN
   ·subst hid
    obtain⟨h4,h5⟩:=Pm hi
    refine⟨h4,h5,?_⟩
    have:=hlen (by rw [h5]; exact f.rel.block h4)
    rw [h5] at this
    exact this
   ·obtain⟨h4,h5⟩:=hold id hid hl
    exact⟨h4,h5,jr.len (c':=⟨β',h',w',c.base⟩) (.inl (hk _ (f.rel.block h4) (Kk id hid hl)))⟩
  ·rintro rfl
   rcases Pn with h | ⟨sS,h4,h5,_⟩
   ·omega
   ·exact hi sS h4 h5
  ·by_cases hid:id=pN
   ·subst hid
    rcases Pn with h | ⟨sS,h4,h5,_⟩
    ·exact .inl h
    ·exact .inr ⟨sS,h4,h5⟩
   ·obtain⟨h4,h5⟩:=hold id hid hl
    exact .inr ⟨id,h4,by rw [←h5]⟩
 refine⟨e,rfl,⟨fun id o ho=>?_,fun id o ho=>?_,fun id pU hl xy he=>?_,fun id hl=>?_,fun b hb=>aa9 (f.rel.bd b hb) hs,fun id hl=>?_,hst.wf f.rel.ver⟩,fun t=>?_,fun k cs hb=>?_,f.inj,f.tidy,f.defers,f.GS⟩
 ·by_cases hid:id=pN
  ·subst hid; exact XY
  ·rcases hcl id hid with h | ⟨h,_⟩
   ·rw [h] at ho; cases ho
   ·rw [h] at ho; exact aa9 (f.rel.lt _ _ ho) hn
 ·by_cases hid:id=pN
  ·subst hid
   rw [hget] at ho
   cases ho
   exact hob e
  ·rcases hcl id hid with h | ⟨h,hb⟩
   ·rw [h] at ho; cases ho
   ·have hl:Live h' id:=⟨by rw [h] at ho; exact aa9 (f.rel.lt _ _ ho) hn,by rw [ho]; rfl⟩
    rw [h] at ho
    have:=(f.rel.obj id o ho).ext e (hk _ (f.rel.block (hold id hid hl).1) (Kk id hid hl))
    rw [←hb] at this
    exact this
 ·by_cases hid:id=pN<;>by_cases G0:pU=pN
  ·rw [hid,G0]
  ·subst hid
   obtain⟨h4,h5⟩:=hold pU G0 xy
   exact absurd (by rw [←h5]; exact he.symm) (Kk pU G0 xy)
  ·subst G0
   obtain⟨h4,h5⟩:=hold id hid hl
   exact absurd (by rw [←h5]; exact he) (Kk id hid hl)
  ·obtain⟨h4,h5⟩:=hold id hid hl
   obtain⟨h6,h7⟩:=hold pU G0 xy
   exact f.rel.inj id pU h4 h6 (by rw [←h5,←h7]; exact he)
 ·by_cases hid:id=pN
  ·subst hid; exact hL
  ·obtain⟨h4,h5⟩:=hold id hid hl
   show ¬un L0 Lo (β' id).1
   rw [h5]; exact f.rel.out id h4
 ·by_cases hid:id=pN
  ·subst hid; exact MG
  ·obtain⟨h4,h5⟩:=hold id hid hl
   show c.base≤(β' id).1
   rw [h5]; exact f.rel.low id h4
 ·exact (f.slot t).ext e (fun _ _ _=>⟨rfl,fun h=>h⟩)
 ·have hb2:=f.box k cs hb
  refine hb2.ext e (.inl (hk _ hb2.plain.lt ?_))
  rintro he
  exact hL (he ▸ .inr hb2.own)
theorem Fr.G1 (f:Fr L0 c Lo lam ds s a){w':World}(k:Nat)(cs:List AV)(b:Nat)
  (hb:c.w.heap.size≤b∨(b=lam k∧(s.bx k).isSome=true))
  (hp:∀t off,s.ρ t = .lp k off→b=lam k)
  (hk:∀b',b'<c.w.heap.size→b'≠b→w'.heap[b']? = c.w.heap[b']?) (hx:∀b',b'<c.base→b'≠b→w'.heap[b']? = c.w.heap[b']?) (hs:c.w.heap.size≤w'.heap.size) (XZ:b<w'.heap.size) (hbs:c.base≤c.w.heap.size)
  (h1:w'.os=c.w.os) (h2:w'.tape=c.w.tape) (h3:w'.output=c.w.output)
  (Cw:Plain {c with w:=w'} b cs.length)
  (SE:∀(e:Ext c Lo {c with w:=w'} (fun x=>Lo x∨x=b)),Cells {c with w:=w'} (un L0 (fun x=>Lo x∨x=b)) cs b 0) :
  ∃kq tC,Ext c Lo {c with w:=w'} kq∧Fr L0 {c with w:=w'} kq tC ds (s.box k cs) a∧tC k=b:=by
 have MH:∀id,Live c.h id→(c.β id).1≠b:=by
  intro id hl he
  rcases hb with h | ⟨h,hb2⟩
  ·have:=f.rel.block hl; omega
  ·obtain⟨Po,h0⟩:=abh.1 hb2
   exact f.rel.out id hl (by rw [he,h]; exact .inr (f.box k Po h0).own)
 have V0:∀x,(Lo x∨x=b)→Lo x∨c.w.heap.size≤x:=by
  rintro x (h | rfl)
  ·exact .inl h
  ·rcases hb with h | ⟨h,hb2⟩
   ·exact .inr h
   ·obtain⟨Po,h0⟩:=abh.1 hb2
    exact .inl (h ▸ (f.box k Po h0).own)
 have MG:c.base≤b:=by
  rcases hb with h | ⟨h,hb2⟩
  ·omega
  ·obtain⟨Po,h0⟩:=abh.1 hb2
   rw [h]; exact f.GS _ (f.box k Po h0).own
 have X0:∀b',b'<c.w.heap.size→¬Lo b'→b'≠b:=by
  rintro b' xC hn rfl
  rcases V0 b' (.inr rfl) with h | h
  ·exact hn h
  ·omega
 have e:Ext c Lo {c with w:=w'} (fun x=>Lo x∨x=b):=by
  refine⟨aaE _,fun id hi hl=>⟨hl,rfl,?_⟩,hs,fun b' xC hn _=>.inl (hk b' xC (X0 b' xC hn)),fun b' xC=>hx b' xC (by omega),rfl,fun id hl=>.inr ⟨id,hl,rfl⟩,fun _ h=>.inl h,V0,h1,h2,h3⟩
  exact jr.len (c':={c with w:=w'}) (.inl (hk _ (f.rel.block hl) (MH id hl)))
 refine⟨fun x=>Lo x∨x=b,fun t=>if t=k then b else lam t,e,⟨f.h,⟨f.rel.lt,fun id o ho=>?_,f.rel.inj,fun id hl hL=>?_,fun x SH=>?_,f.rel.low,f.rel.ver⟩,fun t=>?_,fun k' fU xC=>?_,fun k1 k2 V1 OL he=>?_,f.tidy,f.defers,fun x SH=>?_⟩,by simp⟩
 ·have hl:Live c.h id:=⟨f.rel.lt _ _ ho,by rw [ho]; rfl⟩
  exact (f.rel.obj id o ho).ext e (hk _ (f.rel.block hl) (MH id hl))
 ·rcases hL with h | h | h
  ·exact f.rel.out id hl (.inl h)
  ·exact f.rel.out id hl (.inr h)
  ·exact MH id hl h
 ·rcases SH with h | h | h
  ·exact aa9 (f.rel.bd x (.inl h)) hs
  ·exact aa9 (f.rel.bd x (.inr h)) hs
  ·subst h; exact XZ
 ·refine (f.slot t).ext e (fun k' off Pp=>?_)
  by_cases Aj:k'=k
  ·subst Aj
   refine⟨by simp [hp t off Pp],fun _=>by simp [RS.box]⟩
  ·exact⟨by simp [Aj],fun h=>by simpa [RS.box,beq_nat,Aj] using h⟩
 ·by_cases Aj:k'=k
  ·subst Aj
   simp only [RS.box,beq_nat,decide_true,cond_true,aaD] at xC
   subst xC
   exact⟨by simp,by simpa using Cw,by simpa using SE e⟩
  ·simp only [RS.box,beq_nat,Aj,decide_false,cond_false] at xC
   have ob:=f.box k' fU xC
   have hne:lam k'≠b:=by
    rintro he
    rcases hb with h | ⟨h,hb2⟩
    ·have:=ob.plain.lt; omega
    ·exact Aj (f.inj k' k (by rw [xC]; rfl) hb2 (he.trans h))
   have:=ob.ext e (.inl (hk _ ob.plain.lt hne))
   exact⟨by simp [Aj]; exact .inl ob.own,by simpa [Aj] using this.plain,by simpa [Aj] using this.cells⟩
 ·have old:∀k',k'≠k→((s.box k cs).bx k').isSome=true→(s.bx k').isSome=true:=by
   intro k' hne h
   simpa [RS.box,beq_nat,hne] using h
  have sep:∀k',k'≠k→(s.bx k').isSome=true→lam k'≠b:=by
   intro k' hne h5 X1
   obtain⟨RI,h6⟩:=abh.1 h5
   rcases hb with h | ⟨h,hb2⟩
   ·have:=(f.box k' RI h6).plain.lt; omega
   ·exact hne (f.inj k' k h5 hb2 (X1.trans h))
  by_cases h4:k1=k<;>by_cases h5:k2=k
  ·rw [h4,h5]
  ·simp only [h4,h5,if_true,if_false] at he
   exact absurd he.symm (sep k2 h5 (old k2 h5 OL))
  ·simp only [h4,h5,if_true,if_false] at he
   exact absurd he (sep k1 h4 (old k1 h4 V1))
  ·simp only [h4,h5,if_false] at he
   exact f.inj k1 k2 (old k1 h4 V1) (old k2 h5 OL) he
 ·rcases SH with h | h
  ·exact f.GS x h
  ·subst h; exact MG
end
end Go.R
namespace Go.R
open Go
theorem Cells.iff {c:Cx}{L:Nat→Prop}:∀{xs:List AV} {b o:Nat},Cells c L xs b o↔∀(i:Nat) (x:AV),xs[i]? = some x→∃v,c.w.cell? ⟨b,o+i,none⟩=some v∧v.oneCell'=true∧VR c L x v
 | [],b,o=>by simp [Cells]
 | x::xs,b,o=>by
  refine⟨fun h i y hy=>h.get' i y hy,fun h=>⟨?_,(Cells.iff (xs:=xs)).2 fun i y hy=>?_⟩⟩
  ·exact h 0 x rfl
  ·have:=h (i+1) y (by simpa using hy)
   rwa [aca,abl]
theorem jT:∀(vs cs:List AV) (i:Nat),(en cs i vs).length=cs.length
 | [],cs,i=>by cases cs<;>rfl
 | v::vs,cs,i=>by
  rw [en,jT vs]
  simp
theorem uU:∀(vs cs:List AV) (i j:Nat),i+vs.length≤cs.length→(en cs i vs)[j]? = if i≤j∧j<i+vs.length then vs[j - i]? else cs[j]?
 | [],cs,i,j,_=>by
  have:en cs i []=cs:=by cases cs<;>rfl
  rw [this,if_neg (by simp)]
 | v::vs,cs,i,j,h=>by
  simp only [aaR] at h
  rw [en,uU vs _ (i+1) j (by simp; omega)]
  by_cases h1:i+1≤j∧j<i+1+vs.length
  ·rw [if_pos h1,if_pos (by simp; omega),show j - i=(j - (i+1))+1 by omega]
   simp
  ·rw [if_neg h1]
   by_cases h2:j=i
   ·subst h2
    rw [if_pos (by simp),ab8 (by omega)]
    simp
   ·rw [aci (by omega),if_neg (by simp; omega)]
theorem yJ (w:World)(b o:Nat)(v:Value){C:Array Value}{e:TypeId}{fr:Nat × Nat}(hb:w.heap[b]? = some (.cells C e fr)):(w.setCell ⟨b,o,none⟩ v).heap[b]? = some (.cells (C.setIfInBounds o v) e fr):=by
 have hlt:b<w.heap.size:=(abc.1 hb).1
 simp [World.setCell,abN,hb]
theorem Am (w:World)(b o b':Nat)(v:Value)(hne:b'≠b):(w.setCell ⟨b,o,none⟩ v).heap[b']? = w.heap[b']?:=by
 simp [World.setCell,abN,abZ hne]
theorem eQ:∀(vs:List Value) (b o b':Nat) (w:World),b'≠b→(w.setCells b o vs).heap[b']? = w.heap[b']?
 | [],_,_,_,_,_=>rfl
 | v::vs,b,o,b',w,h=>by rw [World.setCells,eQ vs b (o+1) b' _ h,Am _ _ _ _ _ h]
theorem iR:∀(vs:List Value) (b o:Nat) (w:World),(w.setCells b o vs).heap.size=w.heap.size∧(w.setCells b o vs).os=w.os∧(w.setCells b o vs).tape=w.tape∧(w.setCells b o vs).output=w.output
 | [],_,_,_=>⟨rfl,rfl,rfl,rfl⟩
 | v::vs,b,o,w=>by
  obtain⟨h1,h2,h3,h4⟩:=iR vs b (o+1) (w.setCell ⟨b,o,none⟩ v)
  rw [World.setCells]
  exact⟨h1.trans (by simp),h2.trans rfl,h3.trans rfl,h4.trans rfl⟩
theorem gB:∀(vs:List Value) (b o:Nat) (w:World) (C:Array Value) (e:TypeId) (fr:Nat × Nat),w.heap[b]? = some (.cells C e fr)→o+vs.length≤C.size→
  ∃C',(w.setCells b o vs).heap[b]? = some (.cells C' e fr)∧C'.size=C.size∧∀j,C'[j]? = if o≤j∧j<o+vs.length then vs[j - o]? else C[j]?
 | [],b,o,w,C,e,fr,hb,_=>⟨C,hb,rfl,fun j=>by rw [if_neg (by simp)]⟩
 | v::vs,b,o,w,C,e,fr,hb,hl=>by
  simp only [aaR] at hl
  obtain⟨C',h1,h2,h3⟩:=gB vs b (o+1) (w.setCell ⟨b,o,none⟩ v) (C.setIfInBounds o v) e fr (yJ w b o v hb) (by simp; omega)
  refine⟨C',h1,by simpa using h2,fun j=>?_⟩
  rw [h3 j]
  by_cases h4:o+1≤j∧j<o+1+vs.length
  ·rw [if_pos h4,if_pos (by simp; omega),show j - o=(j - (o+1))+1 by omega]
   simp
  ·rw [if_neg h4]
   by_cases h5:j=o
   ·subst h5
    rw [if_pos (by simp)]
    simp [abG,show j<C.size by omega]
   ·rw [if_neg (by simp; omega)]
    simp [abG,abZ h5]
theorem cell_of_block {w:World}{b:Nat}{C:Array Value}{e:TypeId}{fr:Nat × Nat}(h:w.heap[b]? = some (.cells C e fr))(i:Nat):w.cell? ⟨b,i,none⟩=C[i]?:=by
 simp [World.cell?,h]
section
variable {P:Program}{L0:Nat→Prop}{c0:Cx}{n:Nat}{ds:List Nat}{o:Oper}{s:RS}
theorem uV {c:Cx}{L:Nat→Prop}{x:AV}{v:Value}(h:x.dp=true)(hv:VR c L x v):v.oneCell'=true∧v.cells = #[v]:=by
 cases x<;>simp only [AV.dp] at h<;>first | (cases h; done) | skip
 all_goals simp only [VR] at hv
 ·subst hv; exact⟨rfl,rfl⟩
 ·subst hv; exact⟨rfl,rfl⟩
 ·subst hv; exact⟨rfl,rfl⟩
 ·subst hv; exact⟨rfl,rfl⟩
 ·obtain⟨_,a,rfl,_⟩:=hv; exact⟨rfl,rfl⟩
 ·obtain⟨b,o,rfl,_⟩:=hv; exact⟨rfl,rfl⟩
 ·obtain⟨a,rfl⟩:=hv; exact⟨rfl,rfl⟩
 ·obtain⟨a,cap,rfl,_⟩:=hv; exact⟨rfl,rfl⟩
 ·rcases hv with⟨_,_,_,a,rfl⟩| ⟨_,_,a,cap,rfl,_⟩<;>exact⟨rfl,rfl⟩
 ·subst hv; exact⟨rfl,rfl⟩
 ·obtain⟨_,r,rfl,_⟩:=hv; exact⟨rfl,rfl⟩
 ·obtain⟨vs,rfl,_⟩:=hv; exact⟨rfl,rfl⟩
 ·subst hv; exact⟨rfl,rfl⟩
theorem sU {c:Cx}{L:Nat→Prop}:∀{xs:List AV} {vs:List Value},xs.all AV.dp=true→VRs c L xs vs→∀v∈vs,v.oneCell'=true
 | [],[],_,_,v,hv=>by simp at hv
 | x::xs,u::us,h,hr,v,hv=>by
  simp only [abA,aaF] at h
  rcases abb.1 hv with rfl | hv
  ·exact (uV h.1 hr.1).1
  ·exact sU h.2 hr.2 v hv
 | [],_::_,_,h,_,_=>h.elim
 | _::_,[],_,h,_,_=>h.elim
theorem jX {c:Cx}{L:Nat→Prop}{x:AV}{v:Value}(h:x.cells.all AV.dp=true)(hv:VR c L x v):VRs c L x.cells v.cells.toList∧∀u∈v.cells.toList,u.oneCell'=true:=by
 cases x with
 | agg cs=>
  simp only [VR] at hv
  obtain⟨vs,rfl,GM⟩:=hv
  exact⟨GM,sU h GM⟩
 | _=>
  simp only [AV.cells,abA,List.all_nil,Bool.and_true] at h
  obtain⟨h1,h2⟩:=uV h hv
  rw [h2]
  exact⟨⟨hv,trivial⟩,by simpa using h1⟩
theorem SR.uo {c:Cx}{Lo:Nat→Prop}{lam:Nat→Nat}{bx:Nat→Option (List AV)}{x:AV}{v:Value}(hx:SR c L0 Lo lam bx x v)(h:x.cells.all AV.dp=true):VR c (un L0 Lo) x v:=
 hx.vr (by rintro k off rfl; simp [AV.cells,AV.dp] at h)
theorem np {c:Cx}{b m base off:Nat}{vs:List Value}(hp:Plain c b m)(hl:base+off+vs.length≤m)(h1:∀v∈vs,v.oneCell'=true) :
  (storeCells ⟨b,base+off,none⟩ vs).run P c.w = .ok () (c.w.setCells b (base+off) vs):=by
 obtain⟨C,e,lo,hi,hb,hf,hm⟩:=hp
 have:=run_storeCells_cells (P:=P) b (base+off) vs 0 c.w (fun j hj=>by
  rw [cell_of_block hb]
  have:base+off+0+j<C.size:=by omega
  simpa using this) (fun j hj=>by
  simp only [World.frozen?,hb]
  rcases hf with hf | hf
  ·subst hf; simp
  ·simp; omega) h1
 simpa using this
theorem Plain.setCells {c:Cx}{b m o:Nat}{vs:List Value}(hp:Plain c b m)(hl:o+vs.length≤m)(β':Nat→Nat × Nat)(h':AHeap)(bs:Nat):Plain ⟨β',h',c.w.setCells b o vs,bs⟩ b m:=by
 obtain⟨C,e,lo,hi,hb,hf,hm⟩:=hp
 obtain⟨C',h1,h2,_⟩:=gB vs b o c.w C e (lo,hi) hb (by omega)
 exact⟨C',e,lo,hi,h1,by rw [h2]; exact hf,by rw [h2]; exact hm⟩
theorem js.setCells {c:Cx}{b m o:Nat}{vs:List Value}(hp:js c b m)(hl:o+vs.length≤m)(β':Nat→Nat × Nat)(h':AHeap)(bs:Nat):js ⟨β',h',c.w.setCells b o vs,bs⟩ b m:=by
 obtain⟨C,e,hb,hm⟩:=hp
 obtain⟨C',h1,h2,_⟩:=gB vs b o c.w C e (0,0) hb (by omega)
 exact⟨C',e,h1,by rw [h2]; exact hm⟩
theorem kH {c c':Cx}{L0 Lo kq:Nat→Prop}{b m base off:Nat}{cs xs:List AV}{vs:List Value}(hp:Plain c b m)(hc:Cells c (un L0 Lo) cs b base)(hv:VRs c (un L0 Lo) xs vs)(Pq:∀v∈vs,v.oneCell'=true)(hl:off+xs.length≤cs.length)(hm:base+cs.length≤m)
  (e:Ext c Lo c' kq) (hw:c'.w=c.w.setCells b (base+off) vs):Cells c' (un L0 kq) (en cs off xs) b base:=by
 obtain⟨C,e',lo,hi,hb,hf,Cy⟩:=hp
 have hlen:=hv.length
 obtain⟨C',h1,h2,h3⟩:=gB vs b (base+off) c.w C e' (lo,hi) hb (by omega)
 rw [Cells.iff]
 intro i x hx
 rw [hw,cell_of_block h1,h3]
 rw [uU xs cs off i hl] at hx
 by_cases h4:off≤i∧i<off+xs.length
 ·rw [if_pos h4] at hx
  obtain⟨v,RJ,Ph⟩:=hv.get _ x hx
  refine⟨v,?_,Pq v (abI RJ),VR.ext e x v Ph⟩
  rw [if_pos (by omega),show base+i - (base+off)=i - off by omega]
  exact RJ
 ·rw [if_neg h4] at hx
  obtain⟨v,RJ,X2,Ph⟩:=hc.get' i x hx
  refine⟨v,?_,X2,VR.ext e x v Ph⟩
  rw [if_neg (by omega),←cell_of_block hb]
  exact RJ
theorem oR {c:Cx}{L:Nat→Prop}{t:TypeId}{cs fU:List AV}{b m base off:Nat}{x:AV}{v:Value}(hp:Plain c b m)(hm:base+cs.length≤m)(hv:VR c L x v)(h:iD P t cs off x=some fU) :
  (storeVar t ⟨b,base+off,none⟩ v).run P c.w = .ok () (c.w.setCells b (base+off) v.cells.toList)∧VRs c L x.cells v.cells.toList∧off+x.cells.length≤cs.length∧fU=en cs off x.cells∧(∀u∈v.cells.toList,u.oneCell'=true):=by
 unfold iD at h
 rw [aaB] at h
 obtain⟨k,hk,h⟩:=h
 split at h
 ·rename_i hh
  obtain⟨h1,h2,h3⟩:=hh
  cases h
  obtain⟨h4,h5⟩:=jX h2 hv
  have h6:=h4.length
  refine⟨?_,h4,by omega,rfl,h5⟩
  have h7:v.cells.size=k:=by rw [←abw,←h6]; exact h1
  simp only [storeVar,Sem.run_bind,dU hk,Result.andThen_ok,h7]
  simp only [ne_eq,not_true_eq_false,if_false]
  rw [←np (P:=P) hp (vs:=v.cells.toList) (base:=base) (off:=off) (by omega) h5]
 ·cases h
theorem kr {c c0:Cx}{Lo:Nat→Prop}(e:Ext c0 none0 c Lo)(h:c0.base≤c0.w.heap.size):c.base≤c.w.heap.size:=by
 rw [e.base]; exact abj h e.size
theorem G2 (hb0:c0.base≤c0.w.heap.size)(hd:gN n ds o){t:TypeId}{x y:Operand}(ho:o.op = .store t x y)(tD:o.dst=none){s':RS}
  (h:(match b8 s.ρ x with
   | .lp k off=>(s.bx k).bind fun cs=>(iD P t cs off (b8 s.ρ y)).map fun fU=>s.box k fU
   | .ptr id off=>(s.h.get id).bind fun | .cells cs=>(iD P t cs off (b8 s.ρ y)).map fun fU=>{s with h:=s.h.put id (.cells fU)} | _=>none
   | _=>none)=some s'):jW P L0 c0 n ds o s s':=by
 rintro a w K Q ⟨hn,c,Lo,lam,rfl,f,e⟩ hK
 have hbs:=kr e hb0
 have hx:=bT f x
 have hy:=bT f y
 unfold Oper.wp
 have MI:a.put o.dst undef=a:=by rw [tD]; rfl
 have fin:∀c' kq tC,((Instr.storeAt t (a.eval x) (a.eval y)).run P c.w = .ok () c'.w)→Fr L0 c' kq tC ds s' a→Ext c Lo c' kq→Oper.upon P o a K Q ((execOp a.eval o).run P c.w):=by
  intro c' kq tC hr f' e'
  have:(execOp a.eval o).run P c.w = .ok .skip c'.w:=by simp [execOp,ho,hr]
  rw [this,Oper.upon_skip,MI]
  exact hK _ _ ⟨hn,c',kq,tC,rfl,f',e.trans e'⟩
 cases Fs:b8 s.ρ x<;>rw [Fs] at h<;>simp only at h<;>try (cases h; done)
 ·rename_i id off
  rw [aaB] at h
  obtain⟨ob,hob,h⟩:=h
  cases ob with
  | map es=>cases h
  | row t cs=>cases h
  | cells cs=>
  rw [aaC] at h
  obtain⟨fU,hw,rfl⟩:=h
  rw [Fs] at hx
  simp only [SR,VR] at hx
  obtain⟨hi,ad,Cc,ha⟩:=hx
  rw [←f.h] at hob
  have hl:Live c.h id:=⟨f.rel.lt _ _ hob,by simp [hob]⟩
  obtain⟨m,hp,hm,hc⟩:=f.rel.obj _ _ hob
  have oS:(b8 s.ρ y).cells.all AV.dp=true:=by
   unfold iD at hw
   rw [aaB] at hw
   obtain⟨k,_,hw⟩:=hw
   split at hw
   ·rename_i hh; exact hh.2.1
   ·cases hw
  have SI:=hy.uo oS
  obtain⟨hr,hv,hle,rfl,Pq⟩:=oR (P:=P) hp.og hm SI hw
  have hvl:=hv.length
  obtain⟨q1,q2,q3,q4⟩:=iR (a.eval y).cells.toList (c.β id).1 ((c.β id).2+off) c.w
  have:=f.upd (w':=c.w.setCells (c.β id).1 ((c.β id).2+off) (a.eval y).cells.toList) (β':=c.β) (h':=c.h.put id (.cells (en cs off (b8 s.ρ y).cells))) id (.cells (en cs off (b8 s.ρ y).cells))
   (Steady.put _ _ _) (by simp only [AHeap.put]; omega) (by simp [AHeap.put,beq_nat]) (fun pU hne=>.inr ⟨by simp [AHeap.put,beq_nat,hne],rfl⟩) (fun _=>⟨hl,rfl⟩) (.inr ⟨id,hl,rfl,.inl rfl⟩)
   (fun _=>by
    obtain⟨C,e',lo,mQ,hb,hf,Cy⟩:=hp.og
    obtain⟨C',h1,h2,_⟩:=gB (a.eval y).cells.toList (c.β id).1 ((c.β id).2+off) c.w C e' (lo,mQ) hb (by omega)
    simp [World.shape?,h1,Cx.len,hb,h2])
   (fun b _ hne=>eQ _ _ _ _ _ hne) (fun b _ hne=>eQ _ _ _ _ _ hne) (by rw [q1]; exact aaE _) hbs q2 q3 q4
   (fun e'=>⟨m,hp.setCells (by omega) _ _ _,by rw [jT]; exact hm,kH hp.og hc hv Pq hle hm e' rfl⟩)
  rw [f.h] at this
  obtain⟨e',f'⟩:=this
  refine fin _ _ _ ?_ f' e'
  rw [Cc,ha hl]
  simp [Instr.storeAt,Instr.sureAddr,hr]
 ·rename_i k off
  rw [aaB] at h
  obtain⟨cs,Pr,h⟩:=h
  rw [aaC] at h
  obtain⟨fU,hw,rfl⟩:=h
  rw [Fs] at hx
  simp only [SR] at hx
  obtain⟨Cc,_⟩:=hx
  have ob:=f.box k cs Pr
  have oS:(b8 s.ρ y).cells.all AV.dp=true:=by
   unfold iD at hw
   rw [aaB] at hw
   obtain⟨k,_,hw⟩:=hw
   split at hw
   ·rename_i hh; exact hh.2.1
   ·cases hw
  have SI:=hy.uo oS
  obtain⟨hr,hv,hle,rfl,Pq⟩:=oR (P:=P) (base:=0) ob.plain (by omega) SI hw
  have hvl:=hv.length
  obtain⟨q1,q2,q3,q4⟩:=iR (a.eval y).cells.toList (lam k) (0+off) c.w
  obtain⟨kq,tC,e',f',_⟩:=f.G1 (w':=c.w.setCells (lam k) (0+off) (a.eval y).cells.toList) k (en cs off (b8 s.ρ y).cells) (lam k) (.inr ⟨rfl,by rw [Pr]; rfl⟩)
   (fun _ _ _=>rfl) (fun b _ hne=>eQ _ _ _ _ _ hne) (fun b _ hne=>eQ _ _ _ _ _ hne) (by rw [q1]; exact aaE _) (by rw [q1]; exact ob.plain.lt) hbs q2 q3 q4
   (by rw [jT]; exact ob.plain.setCells (by omega) _ _ _) (fun e'=>kH ob.plain ob.cells hv Pq hle (by omega) e' rfl)
  refine fin _ _ _ ?_ f' e'
  rw [Cc]
  rw [aaZ] at hr
  simp [Instr.storeAt,Instr.sureAddr,hr]
end
end Go.R
namespace Go.R
open Go
theorem jd (w:World)(o:Obj):(w.alloc o).heap[w.heap.size]? = some o:=by
 show (w.heap.push o)[w.heap.size]? = some o
 simp
theorem alloc_old (w:World)(o:Obj){b:Nat}(h:b<w.heap.size):(w.alloc o).heap[b]? = w.heap[b]?:=by
 show (w.heap.push o)[b]? = w.heap[b]?
 simp [Array.getElem?_push,show b≠w.heap.size by omega]
theorem RS.set_set (s:RS)(d:Option Nat)(x y:AV):(s.set d x).set d y=s.set d y:=by
 cases d with
 | none=>rfl
 | some d=>
  simp only [RS.set]
  congr 1
  funext t
  cases abp t d<;>rfl
theorem Kl (a:Act)(d:Option Nat)(x y:Value):(a.put d x).put d y=a.put d y:=by
 cases d with
 | none=>rfl
 | some d=>
  simp only [Act.put]
  congr 1
  apply Array.ext_getElem?
  intro i
  simp only [abG,Array.size_setIfInBounds]
  by_cases h:d=i<;>by_cases h2:d<a.tmps.size<;>simp [h,h2]
section
variable {P:Program}{L0:Nat→Prop}{c0:Cx}{n:Nat}{ds:List Nat}{o:Oper}{s:RS}
theorem rQ {k:Nat}{ρ:Nat→AV}:∀{l:List Nat},uM k ρ l=true→∀t∈l,∀off,ρ t≠.lp k off
 | [],_,t,ht=>by simp at ht
 | x::xs,h,t,ht=>by
  simp only [uM,aaF] at h
  intro off he
  rcases abb.1 ht with rfl | ht
  ·rw [he] at h; simp at h
  ·exact rQ h.2 t ht off he
theorem Fr.G3 {c:Cx}{Lo:Nat→Prop}{lam:Nat→Nat}{a:Act}(f:Fr L0 c Lo lam ds s a)(hbs:c.base≤c.w.heap.size)(w1:World)(SJ:w1.heap=c.w.heap∧w1.os=c.w.os∧w1.tape=c.w.tape∧w1.output=c.w.output)(ob:AObj)(obj:Obj)
  (h':AHeap) (hg:h'.get c.h.next=some ob) (hst:Steady c.h h') (hn:c.h.next<h'.next) (ho:∀id,id≠c.h.next→h'.get id=none∨h'.get id=c.h.get id)
  (hob:∀(c':Cx) (e:Ext c Lo c' Lo),c'.w=w1.alloc obj→tB c' (un L0 Lo) c.w.heap.size 0 ob) :
  ∃β',Ext c Lo ⟨β',h',w1.alloc obj,c.base⟩ Lo∧Fr L0 ⟨β',h',w1.alloc obj,c.base⟩ Lo lam ds {s with h:=h'} a∧β' c.h.next=(c.w.heap.size,0)∧Live h' c.h.next:=by
 obtain⟨q0,q1,q2,q3⟩:=SJ
 have hsz:w1.heap.size=c.w.heap.size:=by rw [q0]
 refine⟨fun i=>if i=c.h.next then (c.w.heap.size,0) else c.β i,?_⟩
 have:=f.upd (w':=w1.alloc obj) (β':=fun i=>if i=c.h.next then (c.w.heap.size,0) else c.β i) (h':=h') c.h.next ob
  hst hn hg (fun id hne=>(ho id hne).imp (fun x=>x) fun h=>⟨h,by simp [hne]⟩)
  (fun h=>absurd h (Nat.lt_irrefl _)) (.inl (by simp)) (fun h=>by simp at h)
  (fun b hb _=>by rw [alloc_old _ _ (by omega),q0]) (fun b hb _=>by rw [alloc_old _ _ (by omega),q0]) (by simp [hsz]) hbs q1 q2 q3
  (fun e=>by simpa using hob _ e rfl)
 exact⟨this.1,this.2,by simp,⟨hn,by rw [hg]; rfl⟩⟩
theorem Fr.fresh {c:Cx}{Lo:Nat→Prop}{lam:Nat→Nat}{a:Act}(f:Fr L0 c Lo lam ds s a)(hbs:c.base≤c.w.heap.size)(w1:World)(SJ:w1.heap=c.w.heap∧w1.os=c.w.os∧w1.tape=c.w.tape∧w1.output=c.w.output)(ob:AObj)(obj:Obj)
  (hob:∀(c':Cx) (e:Ext c Lo c' Lo),c'.w=w1.alloc obj→tB c' (un L0 Lo) c.w.heap.size 0 ob) :
  ∃β',Ext c Lo ⟨β',c.h.alloc ob,w1.alloc obj,c.base⟩ Lo∧Fr L0 ⟨β',c.h.alloc ob,w1.alloc obj,c.base⟩ Lo lam ds {s with h:=c.h.alloc ob} a∧β' c.h.next=(c.w.heap.size,0)∧Live (c.h.alloc ob) c.h.next:=
 f.G3 hbs w1 SJ ob obj (c.h.alloc ob) (by simp [AHeap.alloc,AHeap.put,beq_nat]) (Steady.put _ _ _) (abm _) (fun id hne=>.inr (by simp [AHeap.alloc,AHeap.put,beq_nat,hne])) hob
theorem my {c':Cx}{w1:World}{C:Array Value}{e:TypeId}(hw:c'.w=w1.alloc (.cells C e)):js c' w1.heap.size C.size:=
 ⟨C,e,by rw [hw]; exact jd _ _,rfl⟩
theorem Ft {c':Cx}{w1:World}{C:Array Value}{e:TypeId}(hw:c'.w=w1.alloc (.cells C e)):Plain c' w1.heap.size C.size:=
 ⟨C,e,0,0,by rw [hw]; exact jd _ _,.inl rfl,rfl⟩
theorem kA {c':Cx}{L:Nat→Prop}{w1:World}{C:Array Value}{e:TypeId}{xs:List AV}{vs:List Value}(hw:c'.w=w1.alloc (.cells C e))(hv:VRs c' L xs vs)(hp:∀i,i<vs.length→C[i]? = vs[i]?)(h1:∀v∈vs,v.oneCell'=true):Cells c' L xs w1.heap.size 0:=
 Cells.of_vals hv (fun i hi=>by rw [hw,cell_of_block (jd _ _),aaZ]; exact hp i hi) h1
theorem xD (hb0:c0.base≤c0.w.heap.size)(hd:gN n ds o){aN:List Nat}{cs:List AV}{s':RS}(t:TypeId)(h:iY s aN ds o cs=some s')
  (hx:∀a c Lo lam,Fr L0 c Lo lam ds s a→a.tmps.size=n→∃v:Value,(execOp a.eval o).run P c.w = .ok (.value (.pointer (some ⟨c.w.heap.size,0,none⟩))) (c.w.alloc (.cells v.cells t))∧VRs c (un L0 Lo) cs v.cells.toList∧∀u∈v.cells.toList,u.oneCell'=true) :
  jW P L0 c0 n ds o s s':=by
 unfold iY at h
 split at h
 rotate_left
 ·cases h
 rename_i pV
 cases RK:o.dst with
 | none=>rw [RK] at h; cases h
 | some d=>
 obtain⟨An,Cd⟩:=hd d RK
 rw [RK] at h
 simp only at h
 rintro a w K Q ⟨hn,c,Lo,lam,rfl,f,e⟩ hK
 have hbs:=kr e hb0
 obtain⟨v,hr,hv,h1⟩:=hx a c Lo lam f hn
 unfold Oper.wp
 rw [hr,Oper.upon_value,RK]
 split at h
 ·split at h
  rotate_left
  ·cases h
  rename_i tE
  cases h
  have f1:=f.set (d:=some d) (x:=.any) (v:=undef) (SR.of (by simp [VR])) (fun t ht=>by cases ht; exact⟨hn ▸ An,Cd⟩)
  have G4:∀t off,(s.set (some d) .any).ρ t≠.lp d off:=by
   intro t off he
   rw [xu] at he
   by_cases LK:t=d
   ·rw [if_pos LK] at he; cases he
   ·rw [if_neg LK] at he
    by_cases hm:t∈ds
    ·exact rQ tE t (by simp [hm,beq_nat,LK]) off he
    ·exact LK (f.tidy t d off hm he).symm
  obtain⟨kq,tC,e',f',SK⟩:=f1.G1 (w':=c.w.alloc (.cells v.cells t)) d cs c.w.heap.size (.inl (aaE _)) (fun t off he=>absurd he (G4 t off))
   (fun b hb _=>alloc_old _ _ hb) (fun b hb _=>alloc_old _ _ (by omega)) (by simp) (by simp) hbs rfl rfl rfl
   (by
     have:=Ft (c':={c with w:=c.w.alloc (.cells v.cells t)}) (w1:=c.w) (C:=v.cells) (e:=t) rfl
     rwa [show v.cells.size=cs.length by rw [←abw,hv.length]] at this)
   (fun e'=>kA (w1:=c.w) (C:=v.cells) (e:=t) rfl (VRs.ext e' _ _ hv) (fun i _=>by simp) h1)
  have f2:=f'.set (d:=some d) (x:=.lp d 0) (v:=.pointer (some ⟨c.w.heap.size,0,none⟩)) (by simp only [SR,SK,RS.box,beq_nat]; simp) (fun t ht=>by cases ht; rw [ij]; exact⟨hn ▸ An,Cd⟩)
  rw [Kl] at f2
  have hs:(((s.set (some d) .any).box d cs).set (some d) (.lp d 0))=(s.box d cs).set (some d) (.lp d 0):=by
   rw [←RS.set_set (s.box d cs) (some d) .any]
   rfl
  rw [hs] at f2
  exact hK _ _ ⟨(ij _ _ _).trans hn,_,kq,tC,rfl,f2,e.trans e'⟩
 ·cases h
  obtain⟨β',e',f',hβ,hl⟩:=f.fresh hbs c.w ⟨rfl,rfl,rfl,rfl⟩ (.cells cs) (.cells v.cells t) (fun c' e' hw=>⟨_,my hw,by rw [aaZ,hv.length]; simp,
   kA (w1:=c.w) hw (VRs.ext e' _ _ hv) (fun i _=>by simp) h1⟩)
  rw [f.h] at f' e' hβ hl
  have f2:=f'.set (d:=some d) (x:=.ptr s.h.next 0) (v:=.pointer (some ⟨c.w.heap.size,0,none⟩)) (by
   simp only [SR,VR]
   exact⟨hl.1,_,rfl,fun _=>by rw [hβ]⟩) (fun t ht=>by cases ht; exact⟨hn ▸ An,Cd⟩)
  exact hK _ _ ⟨(ij _ _ _).trans hn,_,Lo,lam,rfl,f2,e.trans e'⟩
theorem Km {c:Cx}{L:Nat→Prop}{n:Nat}{x:AV}{v:Value}(h:VR c L x v):VR c L (Kg n x) v:=by
 unfold Kg
 split
 ·simp only [VR] at h ⊢
  exact .inl ⟨trivial,trivial,trivial,none,h⟩
 ·exact h
theorem Kn {c:Cx}{L:Nat→Prop}{aN:List Nat}{d:Option Nat}{cs:List AV}{vs:List Value}(h:VRs c L cs vs):VRs c L (Fi aN d cs) vs:=by
 unfold Fi
 split
 ·exact h
 ·split
  ·exact h
  ·rename_i n _
   induction cs generalizing vs with
   | nil=>exact h
   | cons x cs ih=>
    cases vs with
    | nil=>exact h.elim
    | cons v vs=>exact⟨Km h.1,ih h.2⟩
theorem Ko {aN:List Nat}{d:Option Nat}{cs:List AV}(h:(Fi aN d cs).all AV.dp=true):cs.all AV.dp=true:=by
 unfold Fi at h
 split at h
 ·exact h
 ·split at h
  ·exact h
  ·rw [List.all_map] at h
   rw [abd] at h ⊢
   intro x hx
   have:=h x hx
   simp only [Function.comp,Kg] at this
   split at this
   ·rfl
   ·exact this
theorem Fu {c:Cx}{t:TypeId}{z:AV}(hz:kB P t=some z)(pV:z.cells.all AV.dp=true)(L:Nat→Prop):∃v:Value,(Instr.alloc t true (.tuple #[])).run P c.w = .ok (.pointer (some ⟨c.w.heap.size,0,none⟩)) (c.w.alloc (.cells v.cells t))∧VRs c L z.cells v.cells.toList∧∀u∈v.cells.toList,u.oneCell'=true:=by
 obtain⟨v,hr,hv⟩:=lS hz c.w
 obtain⟨h1,h2⟩:=jX pV (nl (c:=c) (L:=L) hv)
 exact⟨v,by simp [Instr.alloc,hr,newVar,newRow],h1,h2⟩
theorem ku (z:List AV):∀k,(mP z k).length=k*z.length
 | 0=>by simp [mP]
 | k+1=>by simp [mP,ku z k,abJ,Nat.add_comm]
theorem xE (z:List AV):∀(k i:Nat),i<k*z.length→(mP z k)[i]? = z[i % z.length]?
 | 0,i,h=>by simp at h
 | k+1,i,h=>by
  rw [abJ,Nat.one_mul] at h
  rw [mP]
  by_cases h1:i<z.length
  ·rw [abf h1,Nat.mod_eq_of_lt h1]
  ·rw [aaY (by omega),xE z k _ (by omega),←Nat.mod_eq_sub_mod (show z.length≤i by omega)]
theorem xF {c:Cx}{L:Nat→Prop}{z:List AV}{zv:Array Value}(hz:VRs c L z zv.toList)(k m:Nat)(hm:k*z.length≤m)(MJ:z.length≠0) :
  VRs c L (mP z k) (((Array.range m).map (zv[· % zv.size]!)).toList.take (k*z.length)):=by
 have hl:=hz.length
 have key:∀(xs:List AV) (vs:List Value),xs.length=vs.length→(∀(i:Nat) x v,xs[i]? = some x→vs[i]? = some v→VR c L x v)→VRs c L xs vs:=by
  intro xs
  induction xs with
  | nil=>intro vs h _; cases vs with | nil=>trivial | cons _ _=>simp at h
  | cons x xs ih=>
   intro vs h lT
   cases vs with
   | nil=>simp at h
   | cons v vs=>
    refine⟨lT 0 x v rfl rfl,ih vs (by simpa using h) fun i y u hy hu=>lT (i+1) y u (by simpa using hy) (by simpa using hu)⟩
 refine key _ _ (by rw [ku]; simp; omega) fun i x v hx hv=>?_
 have hi:i<k*z.length:=by
  have:=(aaK.1 hx).1
  rwa [ku] at this
 rw [xE z k i hi] at hx
 obtain⟨u,hu,hr⟩:=hz.get _ x hx
 rw [List.getElem?_take,if_pos hi] at hv
 have Cb:i<m:=by omega
 have wW:i % zv.size<zv.size:=Nat.mod_lt _ (by rw [←abw,←hl]; omega)
 have:v=zv[i % zv.size]!:=by
  simp [Cb] at hv
  exact hv.symm
 rw [show zv.toList.length=zv.size by simp] at hl
 rw [hl,ab0,ab2 wW] at hu
 rw [this,getElem!_pos zv _ wW]
 cases hu
 exact hr
theorem mz (hb0:c0.base≤c0.w.heap.size)(hd:gN n ds o){ob:AObj}{x:AV}
  (h:∀a c Lo lam,Fr L0 c Lo lam ds s a→a.tmps.size=n→∃(obj:Obj) (v:Value),(execOp a.eval o).run P c.w = .ok (.value v) (c.w.alloc obj)∧
   (∀(c':Cx) (e:Ext c Lo c' Lo),c'.w=c.w.alloc obj→tB c' (un L0 Lo) c.w.heap.size 0 ob)∧
   (∀(c':Cx),c'.h=s.h.alloc ob→c'.w=c.w.alloc obj→c'.β s.h.next=(c.w.heap.size,0)→VR c' (un L0 Lo) x v)) (hx:∀k off,x≠.lp k off) :
  jW P L0 c0 n ds o s ({s with h:=s.h.alloc ob}.set o.dst x):=by
 rintro a w K Q ⟨hn,c,Lo,lam,rfl,f,e⟩ hK
 have hbs:=kr e hb0
 obtain⟨obj,v,hr,hob,hv⟩:=h a c Lo lam f hn
 unfold Oper.wp
 rw [hr,Oper.upon_value]
 obtain⟨β',e',f',hβ,hl⟩:=f.fresh hbs c.w ⟨rfl,rfl,rfl,rfl⟩ ob obj hob
 rw [f.h] at f' e' hβ hl
 have f2:=f'.set (d:=o.dst) (x:=x) (v:=v) (SR.of (hv _ rfl rfl hβ)) (fun t ht=>by rw [hn]; exact hd t ht)
 exact hK _ _ ⟨(ij _ _ _).trans hn,_,Lo,lam,rfl,f2,e.trans e'⟩
theorem Cz (hb0:c0.base≤c0.w.heap.size)(hd:gN n ds o){t:TypeId}(ho:o.op = .makeMap t none):jW P L0 c0 n ds o s ({s with h:=s.h.alloc (.map [])}.set o.dst (.mp s.h.next)):=by
 refine mz hb0 hd (fun a c Lo lam f hn=>⟨.map #[] 0,.map (some c.w.heap.size),by simp [execOp,ho,Instr.makeMap],fun c' e hw=>⟨#[],0,by rw [hw]; exact jd _ _,trivial⟩,fun c' hh hw hβ=>?_⟩) (by rintro k off hh; cases hh)
 simp only [VR]
 exact⟨by rw [hh]; exact abm _,_,rfl,fun _=>by rw [hβ]⟩
theorem xG {i:Int}(h0:0≤i)(h1:i≤1099511627776):IntKind.i64.wrap i=i:=IntWalk.i64_in _ (by omega)
theorem yK (hb0:c0.base≤c0.w.heap.size)(hd:gN n ds o){t:TypeId}{lx cx:Operand}(ho:o.op = .makeSlice t lx cx){s':RS}
  (h:((ic P s.h t (b8 s.ρ lx) (b8 s.ρ cx)).map fun (x,h)=>{s with h}.set o.dst x)=some s'):jW P L0 c0 n ds o s s':=by
 rw [aaC] at h
 obtain⟨⟨x,h'⟩,hm,rfl⟩:=h
 unfold ic at hm
 split at hm<;>try (cases hm; done)
 rename_i l cc hl hc
 rw [aaB] at hm
 obtain⟨d,G5,hm⟩:=hm
 cases d<;>simp only at hm<;>try (cases hm; done)
 rename_i e
 simp only [aaB] at hm
 obtain⟨i,hi,z,hz,hm⟩:=hm
 split at hm
 rotate_left
 ·cases hm
 rename_i kI
 obtain⟨h0,h1,h2,h3,h4,h5,h6⟩:=kI
 simp only [aaD,aaJ] at hm
 obtain⟨rfl,rfl⟩:=hm
 refine mz hb0 hd (fun a c Lo lam f hn=>?_) (by rintro k off hh; cases hh)
 have X3:s.h.next≠0:=by have:=f.rel.ver 0; rw [f.h] at this; omega
 have oo:=(bT f lx)
 have Pt:=(bT f cx)
 rw [hl] at oo
 rw [hc] at Pt
 simp only [SR,VR] at oo Pt
 obtain⟨zv,Ki,Fq⟩:=lS hz c.w
 have LL:(typeInfo e).run P c.w = .ok i c.w:=by simp [typeInfo,hi]
 have hsz:(sizeOf e).run P c.w = .ok i.size c.w:=dU (by simp [fe,hi]) c.w
 obtain⟨Fv,hz1⟩:=jX h6 (nl (c:=c) (L:=un L0 Lo) Fq)
 have MJ:=Fv.length
 have hl0:IntKind.i64.wrap l=l:=xG h0 (by omega)
 have OM:IntKind.i64.wrap cc=cc:=xG (by omega) h5
 have hroom:¬((i.bytes:Int)*cc > 2 ^ 48):=by
  rw [Int.mul_comm]; simp only [gq] at h2; omega
 have hn0:cc.toNat*i.size=0∨cc.toNat*i.size≠0:=by omega
 have CA:(Instr.makeSlice t (.int .i64 l) (.int .i64 cc)).run P c.w = .ok (.slice (some ⟨c.w.heap.size,0,none⟩) l.toNat cc.toNat)
   (c.w.alloc (.cells ((Array.range (cc.toNat*i.size)).map (zv.cells[· % zv.cells.size]!)) e)):=by
  unfold Instr.makeSlice
  simp only [Sem.run_bind,bP G5,Result.andThen_ok,asInt,asIntOf,Sem.run_pure,LL,hl0,OM,hsz]
  rw [if_neg (by simp only [abt,decide_eq_true_eq,not_or]; exact⟨⟨⟨by omega,hroom⟩,by omega⟩,by omega⟩)]
  simp only [Sem.run_bind,run_askRoom,Result.andThen_ok,hsz,Sem.run_pure]
  by_cases hz0:cc.toNat*i.size=0
  ·have SL:∀f:Nat→Value,Array.map f (Array.range 0) = #[]:=fun f=>by simp
   simp only [hz0,if_true,Sem.run_pure,Sem.run_bind,Result.andThen_ok,newRow,run_newObj,World.alloc_eq,SL]
  ·simp only [hz0,if_false,Sem.run_bind,Ki,Result.andThen_ok,Sem.run_pure,newRow,run_newObj,World.alloc_eq]
 have hle:l.toNat*z.cells.length≤cc.toNat*i.size:=by rw [h3]; exact abq _ (by omega)
 have hrow:∀(c':Cx) (e':Ext c Lo c' Lo),c'.w=c.w.alloc (.cells ((Array.range (cc.toNat*i.size)).map (zv.cells[· % zv.cells.size]!)) e)→
   tB c' (un L0 Lo) c.w.heap.size 0 (.cells (mP z.cells l.toNat)):=by
  intro c' e' hw
  refine⟨_,my hw,by rw [ku]; simp; omega,?_⟩
  have hv:=xF Fv l.toNat (cc.toNat*i.size) hle (by omega)
  refine kA (w1:=c.w) hw (VRs.ext e' _ _ hv) (fun j hj=>?_) (fun u hu=>?_)
  ·rw [List.getElem?_take,if_pos (by simp at hj; omega),ab0]
  ·have V2:=List.mem_of_mem_take hu
   simp only [Array.toList_map,aba] at V2
   obtain⟨j,hj,rfl⟩:=V2
   have wW:j % zv.cells.size<zv.cells.size:=Nat.mod_lt _ (by rw [←abw,←MJ]; omega)
   rw [getElem!_pos zv.cells _ wW]
   exact hz1 _ (by simp)
 have hex:(execOp a.eval o).run P c.w = .ok (.value (.slice (some ⟨c.w.heap.size,0,none⟩) l.toNat cc.toNat)) (c.w.alloc (.cells ((Array.range (cc.toNat*i.size)).map (zv.cells[· % zv.cells.size]!)) e)):=by
  simp only [execOp,ho,oo,Pt,Sem.run_bind,CA,Result.andThen_ok,Sem.run_pure]
 refine⟨_,_,hex,hrow,fun c' hh hw hβ=>?_⟩
 simp only [VR]
 refine .inr ⟨X3,by rw [hh]; exact abm _,_,_,rfl,by omega,rfl,fun _=>.inl ?_⟩
 rw [hβ]
 refine⟨rfl,?_⟩
 simp only [Cx.len,World.shape?,hw,jd]
 simp
end
end Go.R
namespace Go.R
open Go
def mA:List Value→Nat→List Value→List Value
 | cs,_,[]=>cs
 | cs,i,v::vs=>mA (cs.set i v) (i+1) vs
theorem VRs.en {c:Cx}{L:Nat→Prop}:∀{xs:List AV} {us:List Value} (i:Nat) {cs:List AV} {vs:List Value},VRs c L xs us→VRs c L cs vs→VRs c L (en cs i xs) (mA vs i us)
 | [],[],i,cs,vs,_,h=>by
  have:R.en cs i []=cs:=by cases cs<;>rfl
  rw [this]; cases vs<;>exact h
 | x::xs,u::us,i,cs,vs,h,k=>VRs.en (i+1) h.2 (VRs.set h.1 i k)
 | [],_::_,_,_,_,h,_=>h.elim
 | _::_,[],_,_,_,h,_=>h.elim
theorem sV:∀(us:List Value) (i:Nat) (vs:List Value),(∀v∈vs,v.oneCell'=true)→(∀u∈us,u.oneCell'=true)→∀v∈mA vs i us,v.oneCell'=true
 | [],i,vs,h,_,v,hv=>h v (by cases vs<;>exact hv)
 | u::us,i,vs,h,k,v,hv=>sV us (i+1) (vs.set i u) (fun w hw=>by
   rcases List.mem_or_eq_of_mem_set hw with h1 | h1
   ·exact h w h1
   ·subst h1; exact k _ (by simp)) (fun w hw=>k w (by simp [hw])) v hv
theorem pW (off:Nat):∀(us:List Value) (j:Nat) (cells:Array Value),((us.zipIdx j).foldl (fun cs (p:Value × Nat)=>cs.setIfInBounds (off+p.2) p.1) cells).toList=mA cells.toList (off+j) us
 | [],j,cells=>by simp [mA]
 | u::us,j,cells=>by
  simp only [List.zipIdx_cons,List.foldl_cons]
  rw [pW off us (j+1)]
  simp [mA,abl]
section
variable {P:Program}{L0:Nat→Prop}{c0:Cx}{n:Nat}{ds:List Nat}{o:Oper}{s:RS}
def uW (c:Cx)(L:Nat→Prop):List (Nat × AV)→List (Nat × Value)→Prop
 | [],[]=>True
 | (i,x)::xs,(j,v)::vs=>(i=j∧(x.cells.all AV.dp=true→VR c L x v))∧uW c L xs vs
 | _,_=>False
theorem mB {c:Cx}{L:Nat→Prop}(pl:Nat→Option (Nat × Nat)):∀{ps:List (Nat × AV)} {vs:List (Nat × Value)} {cs fU:List AV} {C:Array Value},uW c L ps vs→VRs c L cs C.toList→(∀v∈C.toList,v.oneCell'=true)→uJ pl cs ps=some fU→
  ∃C':Array Value,Instr.fill pl C vs=some C'∧VRs c L fU C'.toList∧∀v∈C'.toList,v.oneCell'=true
 | [],[],cs,fU,C,_,hc,h1,h=>by
  simp only [uJ,aaD] at h
  subst h
  exact⟨C,rfl,hc,h1⟩
 | (i,x)::ps,(j,v)::vs,cs,fU,C,hp,hc,h1,h=>by
  obtain⟨⟨rfl,hx⟩,Pu⟩:=hp
  simp only [uJ,aaB] at h
  obtain⟨⟨off,size⟩,Cw,h⟩:=h
  simp only at h
  split at h
  ·rename_i kI
   obtain⟨h2,h3,h4⟩:=kI
   obtain⟨h5,h6⟩:=jX h3 (hx h3)
   have h7:v.cells.size=size:=by rw [←abw,←h5.length]; exact h2
   have h8:cs.length=C.size:=by rw [hc.length]; simp
   have hf:(v.cells.zipIdx.foldl (fun cs (p:Value × Nat)=>cs.setIfInBounds (off+p.2) p.1) C).toList=mA C.toList off v.cells.toList:=by
    rw [←Array.foldl_toList,Array.toList_zipIdx]
    exact pW off v.cells.toList 0 C
   obtain⟨C',h9,h10,h11⟩:=mB pl (C:=v.cells.zipIdx.foldl (fun cs (p:Value × Nat)=>cs.setIfInBounds (off+p.2) p.1) C) Pu (by rw [hf]; exact VRs.en off h5 hc) (by rw [hf]; exact sV _ _ _ h1 h6) h
   refine⟨C',?_,h10,h11⟩
   simp only [Instr.fill,Cw]
   rw [if_neg (by simp only [abt,decide_eq_true_eq,not_or,ne_eq,Decidable.not_not]; exact⟨h7,by omega⟩)]
   exact h9
  ·cases h
 | [],_::_,_,_,_,h,_,_,_=>h.elim
 | _::_,[],_,_,_,h,_,_,_=>h.elim
theorem pX {c:Cx}{Lo:Nat→Prop}{lam:Nat→Nat}{a:Act}(f:Fr L0 c Lo lam ds s a):∀ps:List (Nat × Operand),uW c (un L0 Lo) (ps.map fun (i,x)=>(i,b8 s.ρ x)) (ps.map fun (i,x)=>(i,a.eval x))
 | []=>trivial
 | (i,x)::ps=>⟨⟨rfl,fun h=>(bT f x).uo h⟩,pX f ps⟩
theorem sW {v:Value}{x:AV}(h:pR v=some x):x.dp=true:=by
 unfold pR at h
 split at h<;>first | (cases h; done) | (cases h; rfl)
theorem pY:∀{vs:List Value} {xs:List AV},sQ vs=some xs→xs.all AV.dp=true
 | [],xs,h=>by simp [sQ] at h; subst h; rfl
 | v::vs,xs,h=>by
  simp only [sQ,aaB] at h
  obtain⟨x,hx,ys,hy,he⟩:=h
  cases he
  simp [sW hx,pY hy]
theorem pt {v:Value}{x:AV}(h:GQ v=some x):x.cells.all AV.dp=true:=by
 unfold GQ at h
 split at h
 ·rw [aaC] at h
  obtain⟨xs,hx,rfl⟩:=h
  exact pY hx
 ·have h1:=sW h
  cases x<;>simp_all [AV.cells,AV.dp]
theorem uX {c:Cx}(w:World):∀fs:List Field,(∀f∈fs,∃m,fe P f.type=some m)→(fs.mapM (m:=Sem) fun f=>do pure (f.offset,←sizeOf f.type)).run P w = .ok (fs.map fun f=>(f.offset,(fe P f.type).getD 0)) w
 | [],_=>by simp
 | f::fs,h=>by
  obtain⟨m,hm⟩:=h f (by simp)
  have ih:=uX (c:=c) w fs (fun g hg=>h g (by simp [hg]))
  simp only [List.mapM_cons,Sem.run_bind,dU hm,ih,hm,Sem.run_pure,Result.andThen_ok,aa6,aby]
theorem run_build {c:Cx}{L:Nat→Prop}{t:TypeId}{ps:List (Nat × AV)}{vs:List (Nat × Value)}{y:AV}(hp:uW c L ps vs)(h:Cj P t ps=some y) :
  ∃v,(Instr.build t vs.toArray).run P c.w = .ok v c.w∧VR c L y v:=by
 unfold Cj at h
 simp only [aaB] at h
 obtain⟨z,hz,d,hd,h⟩:=h
 obtain⟨zv,Ki,Fq⟩:=lS hz c.w
 obtain⟨Fv,hz1⟩:=jX (pt Fq) (nl (c:=c) (L:=L) Fq)
 cases d<;>simp only at h<;>try (cases h; done)
 ·rename_i len e
  simp only [aaB,aaC] at h
  obtain⟨m,hm,cs,hf,rfl⟩:=h
  obtain⟨C',h1,h2,_⟩:=mB _ hp Fv hz1 hf
  refine⟨.agg C',?_,by simp only [VR]; exact⟨C',rfl,h2⟩⟩
  unfold Instr.build
  simp [Ki,bP hd,dU hm,h1]
 ·rename_i fs
  split at h
  rotate_left
  ·cases h
  rename_i Pv
  have lT:∀f∈fs.toList,∃m,fe P f.type=some m:=fun f hf=>abh.1 (abd.1 Pv f hf)
  rw [aaC] at h
  obtain⟨cs,hf,rfl⟩:=h
  obtain⟨C',h1,h2,_⟩:=mB _ hp Fv hz1 hf
  refine⟨.agg C',?_,by simp only [VR]; exact⟨C',rfl,h2⟩⟩
  have X4:=uX (P:=P) (c:=c) c.w fs.toList lT
  have Cw:(fun i=>(fs.toList.map fun f=>(f.offset,(fe P f.type).getD 0)).toArray[i]?)=places P fs.toList:=by
   funext i
   simp only [places,List.getElem?_toArray,abi]
   cases hi:fs.toList[i]? with
   | none=>rfl
   | some f=>
    obtain⟨m,hm⟩:=lT f (abI hi)
    simp [hm]
  unfold Instr.build
  simp only [Sem.run_bind,Ki,bP hd,Result.andThen_ok]
  rw [←Array.toArray_toList (xs:=fs),List.mapM_toArray]
  simp only [Sem.run_map,X4,Result.andThen_ok]
  rw [Cw,h1]
  rfl
end
end Go.R
namespace Go.R
open Go
section
variable {P:Program}{L0:Nat→Prop}{c0:Cx}{n:Nat}{ds:List Nat}{o:Oper}{s:RS}
theorem uY (hb0:c0.base≤c0.w.heap.size)(hd:gN n ds o){x:AV}
  (h:∀a c Lo lam,Fr L0 c Lo lam ds s a→a.tmps.size=n→c.base≤c.w.heap.size→∃(w':World) (v:Value),(execOp a.eval o).run P c.w = .ok (.value v) w'∧(∀b,b<c.w.heap.size→jr c.w w' b)∧(∀id,Live c.h id→w'.heap[(c.β id).1]? = c.w.heap[(c.β id).1]?)∧(∀b,b<c.base→w'.heap[b]? = c.w.heap[b]?)∧c.w.heap.size≤w'.heap.size∧
   w'.os=c.w.os∧w'.tape=c.w.tape∧w'.output=c.w.output∧(Ext c Lo {c with w:=w'} Lo→VR {c with w:=w'} (un L0 Lo) x v)) (hx:∀k off,x≠.lp k off) :
  jW P L0 c0 n ds o s (s.set o.dst x):=by
 rintro a w K Q ⟨hn,c,Lo,lam,rfl,f,e⟩ hK
 obtain⟨w',v,hr,h1,X5,h2,h3,h4,h5,h6,hv⟩:=h a c Lo lam f hn (kr e hb0)
 obtain⟨e',f'⟩:=f.world h1 X5 h2 h3 h4 h5 h6
 unfold Oper.wp
 rw [hr,Oper.upon_value]
 exact hK _ _ ⟨(ij _ _ _).trans hn,_,Lo,lam,rfl,f'.set (SR.of (hv e')) (fun t ht=>by rw [hn]; exact hd t ht),e.trans e'⟩
theorem G6 {c c':Cx}{Lo:Nat→Prop}(r:HRel c (un L0 Lo))(hβ:c'.β=c.β)(hh:c'.h=c.h):RO c' (un L0 Lo) c.w.heap.size:=by
 refine⟨fun id hl he=>?_,fun hL=>?_⟩
 ·rw [hh] at hl
  rw [hβ] at he
  have:=r.block hl; omega
 ·have:=r.bd _ hL; omega
theorem nq {c:Cx}{L:Nat→Prop}{t:TypeId}{len:Nat}{ps:List (Nat × AV)}{vs:List (Nat × Value)}{y:AV}(hp:uW c L ps vs)(h:ib P t len ps=some y) :
  (y = .fz [] 0 true∧∃e,(Instr.buildSlice t len vs.toArray).run P c.w = .ok (.slice (some ⟨c.w.heap.size,0,none⟩) 0 0) (c.w.alloc (.cells #[] e)))∨
  ∃cs C e,y = .fz cs len true∧(Instr.buildSlice t len vs.toArray).run P c.w = .ok (.slice (some ⟨c.w.heap.size,0,none⟩) len len) (c.w.alloc (.cells C e))∧VRs c L cs C.toList∧∀v∈C.toList,v.oneCell'=true:=by
 unfold ib at h
 rw [aaB] at h
 obtain⟨d,hd,h⟩:=h
 cases d<;>simp only at h<;>try (cases h; done)
 rename_i e
 rw [aaB] at h
 obtain⟨m,hm,h⟩:=h
 split at h
 ·cases h
 rename_i Pw
 have um:m≠0:=fun h=>Pw (.inl h)
 have Px:¬(len*m > 2 ^ 24):=fun h=>Pw (.inr (by omega))
 split at h
 ·rename_i hl0
  subst hl0
  split at h
  ·rename_i X6
   cases h
   have Pu:ps=[]:=by simpa using X6
   subst Pu
   cases vs with
   | cons _ _=>exact hp.elim
   | nil=>
   refine .inl ⟨rfl,e,?_⟩
   unfold Instr.buildSlice
   simp only [Sem.run_bind,bP hd,dU hm,Result.andThen_ok,Nat.zero_mul,if_true,Sem.run_pure]
   have SL:∀f:Nat→Value,Array.map f (Array.range 0) = #[]:=fun f=>by simp
   simp only [Instr.fill,newRow,SL,Sem.run_bind,run_newObj,Result.andThen_ok,Sem.run_pure,World.alloc_eq]
   rfl
  ·cases h
 ·rename_i hl0
  rw [aaB] at h
  obtain⟨z,hz,h⟩:=h
  split at h
  rotate_left
  ·cases h
  rename_i MJ
  rw [aaC] at h
  obtain⟨cs,hf,rfl⟩:=h
  obtain⟨zv,Ki,Fq⟩:=lS hz c.w
  obtain⟨Fv,hz1⟩:=jX (pt Fq) (nl (c:=c) (L:=L) Fq)
  have hz0:=xF Fv len (len*m) (by rw [MJ]; exact aaE _) (by omega)
  rw [aa4 (by simp [MJ])] at hz0
  have hz2:∀u∈((Array.range (len*m)).map (zv.cells[· % zv.cells.size]!)).toList,u.oneCell'=true:=by
   intro u hu
   simp only [Array.toList_map,aba] at hu
   obtain⟨j,hj,rfl⟩:=hu
   have wW:j % zv.cells.size<zv.cells.size:=Nat.mod_lt _ (by rw [←abw,←Fv.length]; omega)
   rw [getElem!_pos zv.cells _ wW]
   exact hz1 _ (by simp)
  obtain⟨C',h1,h2,h3⟩:=mB _ hp hz0 hz2 hf
  refine .inr ⟨cs,C',e,rfl,?_,h2,h3⟩
  have hne:len*m≠0:=Nat.mul_ne_zero hl0 um
  unfold Instr.buildSlice
  simp only [Sem.run_bind,bP hd,dU hm,Result.andThen_ok,Px,hne,if_false,Sem.run_pure,Ki]
  rw [h1]
  simp [newRow]
theorem wX (hb0:c0.base≤c0.w.heap.size)(hd:gN n ds o){t:TypeId}{len:Nat}{ps:Array (Nat × Operand)}(ho:o.op = .buildSlice t len ps){y:AV}
  (h:ib P t len (ps.toList.map fun (i,x)=>(i,b8 s.ρ x))=some y):jW P L0 c0 n ds o s (s.set o.dst y):=by
 refine uY hb0 hd (fun a c Lo lam f hn hbs=>?_) ?_
 ·have hp:=pX f ps.toList
  have hex:∀v w',(Instr.buildSlice t len (ps.toList.map fun (i,x)=>(i,a.eval x)).toArray).run P c.w = .ok v w'→(execOp a.eval o).run P c.w = .ok (.value v) w':=by
   intro v w' hr
   have he:ps.map (fun (i,x)=>(i,a.eval x))=(ps.toList.map fun (i,x)=>(i,a.eval x)).toArray:=by
    apply acn; simp
   simp only [execOp,ho,Sem.run_bind]
   rw [he,hr]
   rfl
  rcases nq hp h with⟨rfl,e,hr⟩| ⟨cs,C,e,rfl,hr,hv,h1⟩
  ·refine⟨_,_,hex _ _ hr,fun b hb=>.inl (alloc_old _ _ hb),fun id hl=>alloc_old _ _ (f.rel.block hl),fun b hb=>alloc_old _ _ (by omega),by simp,rfl,rfl,rfl,fun _=>by simp only [VR]; exact⟨_,_,rfl,aaE _,fun _=>rfl,.inl rfl,.inl trivial⟩⟩
  ·refine⟨_,_,hex _ _ hr,fun b hb=>.inl (alloc_old _ _ hb),fun id hl=>alloc_old _ _ (f.rel.block hl),fun b hb=>alloc_old _ _ (by omega),by simp,rfl,rfl,rfl,fun e'=>?_⟩
   simp only [VR]
   exact⟨_,_,rfl,aaE _,fun _=>rfl,.inl rfl,.inr ⟨c.w.heap.size,0,rfl,G6 f.rel rfl rfl,fun _=>hbs,kA (w1:=c.w) rfl (VRs.ext e' _ _ hv) (fun i _=>by simp) h1⟩⟩
 ·rintro k off rfl
  unfold ib at h
  rw [aaB] at h
  obtain⟨d,_,h⟩:=h
  cases d<;>simp only at h<;>try (cases h; done)
  rw [aaB] at h
  obtain⟨m,_,h⟩:=h
  split at h
  ·cases h
  ·split at h
   ·split at h<;>cases h
   ·rw [aaB] at h
    obtain⟨z,_,h⟩:=h
    split at h
    ·rw [aaC] at h
     obtain⟨_,_,h⟩:=h
     cases h
    ·cases h
theorem Ao {aN:List Nat}{t:TypeId}{y:AV}{cs:List AV}{k z:Nat}(h:pn P aN o t y=some (cs,k,z)):y = .fz cs k true∧cs.length=k*z∧cs≠[]:=by
 unfold pn at h
 split at h
 ·rename_i d c fU k' hd
  cases hc:aN.contains d with
  | false=>rw [hc] at h; cases h
  | true=>
   rw [hc] at h
   simp only [cond_true] at h
   split at h
   ·split at h
    ·rename_i z' hz
     cases hb:abp (c::fU).length (k'*z') with
     | false=>rw [hb] at h; cases h
     | true=>
      rw [hb] at h
      simp only [cond_true,aaD,aaJ] at h
      obtain⟨rfl,rfl,rfl⟩:=h
      exact⟨rfl,abY hb,by simp⟩
    ·cases h
   ·cases h
 ·cases h
theorem uZ (hb0:c0.base≤c0.w.heap.size)(hd:gN n ds o){t:TypeId}{len:Nat}{ps:Array (Nat × Operand)}(ho:o.op = .buildSlice t len ps){y:AV}(aN:List Nat)
  (h:ib P t len (ps.toList.map fun (i,x)=>(i,b8 s.ρ x))=some y):jW P L0 c0 n ds o s (rL P aN s o t y):=by
 have key:=wX (L0:=L0) hb0 hd ho h
 unfold rL
 cases MK:pn P aN o t y with
 | none=>exact key
 | some q=>
 obtain⟨RI,n1,z⟩:=q
 obtain⟨rfl,hlen,hne⟩:=Ao MK
 have fin:=mz (P:=P) (L0:=L0) (c0:=c0) (o:=o) (s:=s) hb0 hd (ob:=.cells RI) (x:=.rs s.h.next 0 n1 z) (fun a c Lo lam f hn=>by
  have hp:=pX f ps.toList
  have hex:∀v w',(Instr.buildSlice t len (ps.toList.map fun (i,x)=>(i,a.eval x)).toArray).run P c.w = .ok v w'→(execOp a.eval o).run P c.w = .ok (.value v) w':=by
   intro v w' hr
   have he:ps.map (fun (i,x)=>(i,a.eval x))=(ps.toList.map fun (i,x)=>(i,a.eval x)).toArray:=by
    apply acn; simp
   simp only [execOp,ho,Sem.run_bind]
   rw [he,hr]
   rfl
  rcases nq hp h with⟨he,_⟩| ⟨cs,C,e,he,hr,hv,h1⟩
  ·cases he; exact absurd rfl hne
  ·cases he
   have Py:C.size=RI.length:=by rw [←abw,←hv.length]
   refine⟨_,_,hex _ _ hr,fun c' e' hw=>⟨_,my (w1:=c.w) hw,by rw [Py,aaZ]; exact aaE _,kA (w1:=c.w) hw (VRs.ext e' _ _ hv) (fun i _=>by simp) h1⟩,fun c' hh hw hβ=>?_⟩
   simp only [VR]
   refine .inr ⟨(by have:=f.rel.ver 0; rw [f.h] at this; omega),by rw [hh]; exact abm _,_,_,rfl,aaE _,rfl,fun _=>.inl ?_⟩
   rw [hβ]
   refine⟨rfl,?_⟩
   simp only [Cx.len,World.shape?,hw,jd]
   simp only [aaG,aby,Py,hlen,aaZ]) (by rintro k off hh; cases hh)
 exact fin
theorem rR {c:Cx}{Lo:Nat→Prop}{lam:Nat→Nat}{a:Act}(f:Fr L0 c Lo lam ds s a){tx:TypeId}{size m:Nat}{x:AV}{v:Value}{new:List AV}(hx:SR c L0 Lo lam s.bx x v)
  (hk:(∃e',P.underlying tx=some (.slice e'))∨P.underlying tx=some .string) (CB:∀st,x = .str st→P.underlying tx=some .string) (G7:(∀st,x≠.str st)→∃e',P.underlying tx=some (.slice e')) (h:dT s.h size x=some (new,m)) :
  ∃news,Src P size tx v m news c.w∧VRs c (un L0 Lo) new news:=by
 unfold dT at h
 cases x<;>simp only at h<;>try (cases h; done)
 ·rename_i st
  split at h
  ·rename_i h1
   subst h1
   cases h
   simp only [SR,VR] at hx
   subst hx
   refine⟨_,Src.ofString c.w (CB st rfl) st,?_⟩
   unfold byteCells
   generalize st.data.toList=l
   induction l with
   | nil=>trivial
   | cons b l ih=>exact⟨by simp [VR],ih⟩
  ·cases h
 ·cases h
  obtain⟨e',he⟩:=G7 (by rintro st h; cases h)
  simp only [SR,VR] at hx
  subst hx
  exact⟨[],Src.ofNil c.w he 0,trivial⟩
 ·rename_i cs k ex
  split at h
  ·rename_i hl
   cases h
   obtain⟨e',he⟩:=G7 (by rintro st h; cases h)
   simp only [SR,VR] at hx
   obtain⟨ad,cap,rfl,h1,h2,_,hc⟩:=hx
   rcases hc with rfl | ⟨b,o',rfl,hr,hex,hc⟩
   ·have hl0:m*size=0:=by simpa using hl.symm
    cases ad with
    | none=>
     refine⟨[],⟨.inl ⟨e',he⟩,fun _=>rfl,run_firstCells_none c.w size m m cap,run_firstCells_none c.w.drew size m m cap,by simpa using hl,fun _ h=>by cases h⟩,trivial⟩
    | some ad=>exact⟨[],Src.ofSlice c.w he ad m cap [] (by simpa using hl) (fun j u hu=>by simp at hu) (fun u hu=>by cases hu),trivial⟩
   ·obtain⟨vs,q1,q2,q3⟩:=hc.vals
    refine⟨vs,Src.ofSlice c.w he _ m cap vs (by rw [←q1.length]; exact hl) (fun j u hu=>?_) q3,q1⟩
    rw [addr_add,q2 j (by rw [q1.length]; exact (aaK.1 hu).1)]
    exact hu
  ·cases h
 ·rename_i id off k jG
  split at h
  ·rename_i hid
   split at h
   rotate_left
   ·cases h
   rename_i Fp
   cases h
   obtain⟨e',he⟩:=G7 (by rintro st h; cases h)
   simp only [SR,VR] at hx
   rcases hx with⟨_,_,_,a,rfl⟩| hx
   rotate_left
   ·exact absurd hid hx.1
   cases a with
   | none=>exact⟨[],Src.ofNil c.w he 0,trivial⟩
   | some ad=>exact⟨[],Src.ofSlice c.w he ad 0 0 [] (by simp) (fun j u hu=>by simp at hu) (fun u hu=>by cases hu),trivial⟩
  rename_i lP
  rw [aaB] at h
  obtain⟨ob,hob,h⟩:=h
  cases ob with
  | map es=>cases h
  | row t cs=>cases h
  | cells cs=>
  simp only at h
  split at h
  ·rename_i hh
   obtain⟨rfl,hle⟩:=hh
   cases h
   obtain⟨e',he⟩:=G7 (by rintro st h; cases h)
   simp only [SR,VR] at hx
   rcases hx with hx | ⟨_,hid,ad,cap,rfl,h1,h2,h3⟩
   ·exact absurd hx.1 lP
   rw [←f.h] at hob
   have hl:Live c.h id:=⟨f.rel.lt _ _ hob,by simp [hob]⟩
   obtain⟨q,hp,hm,hc⟩:=f.rel.obj _ _ hob
   have hc2:=(hc.drop off).take (m*jG)
   have hlen:((cs.drop off).take (m*jG)).length=m*jG:=by simp; omega
   obtain⟨vs,q1,q2,q3⟩:=hc2.vals
   rcases h3 hl with⟨h5,h4⟩| hcap
   ·subst h5
    refine⟨vs,Src.ofSlice c.w he _ m cap vs (by rw [←q1.length]; exact hlen) (fun j u hu=>?_) q3,q1⟩
    rw [addr_add,q2 j (by rw [q1.length]; exact (aaK.1 hu).1)]
    exact hu
   ·have um:m=0:=by omega
    subst um
    simp only [Nat.zero_mul,List.take_zero] at q1 ⊢
    cases ad with
    | none=>simp at h2
    | some ad=>exact⟨[],Src.ofSlice c.w he ad 0 cap [] (by simp) (fun j u hu=>by simp at hu) (fun u hu=>by cases hu),trivial⟩
  ·cases h
end
end Go.R
namespace Go.R
open Go
section
variable {P:Program}{L0:Nat→Prop}{c0:Cx}{n:Nat}{ds:List Nat}{o:Oper}{s:RS}
theorem grownCap_ge (w:World){need old:Nat}{e:TypeId}:need≤grownCap w need old e:=by
 unfold grownCap
 simp only [Question.cut]
 omega
theorem u3 (z:Array Value)(k:Nat):(Builtin.zeroCells z k).size=k*z.size:=by simp [Builtin.zeroCells]
theorem iW (w:World){t tx ty e:TypeId}{i:TypeInfo}(ht:P.underlying t=some (.slice e))(hi:P.info? e=some i){base:Option Addr}{len cap:Nat}(hlc:len≤cap){x:Value}{news:List Value}(hs:Src P i.size tx x 0 news w) :
  (Builtin.append_ #[t,tx] ty #[.slice base len cap,x]).run P w = .ok (.slice base len cap) w:=by
 have Pz:news=[]:=abn (by rw [hs.newsLen]; simp)
 have hc:=hs.cells
 rw [Pz] at hc
 rcases hs.kind with⟨e',hk⟩| hk<;>cases base<;>simp [Builtin.append_,run_underlying ht,run_underlying hk,sizeOf,typeInfo,hi,hs.len,hlc,hc,storeCells]
theorem yL {c:Cx}{b m:Nat}(hp:Plain c b m){j:Nat}(hj:j<m):c.w.frozen? ⟨b,j,none⟩=false:=by
 obtain⟨C,e,lo,hi,hb,hf,rfl⟩:=hp
 simp only [World.frozen?,hb]
 rcases hf with hf | hf
 ·subst hf; simp
 ·simp; omega
theorem Fr.grown {c:Cx}{Lo:Nat→Prop}{lam:Nat→Nat}{a:Act}(f:Fr L0 c Lo lam ds s a)(hbs:c.base≤c.w.heap.size){e:TypeId}{z:Value}{size need cap:Nat}(LL:z.cells.size=size)(hcap:need≤cap){xs:List AV}{vs:List Value}(hv:VRs c (un L0 Lo) xs vs)(h1:∀v∈vs,v.oneCell'=true)
  (hl:vs.length=need*size) (h':AHeap) (hg:h'.get c.h.next=some (.cells xs)) (hst:Steady c.h h') (hn:c.h.next<h'.next) (ho:∀id,id≠c.h.next→h'.get id=none∨h'.get id=c.h.get id) :
  ∃c':Cx,c'.w=c.w.drew.alloc (.cells (vs.toArray++Builtin.zeroCells z.cells (cap - need)) e)∧c'.h=h'∧Ext c Lo c' Lo∧Fr L0 c' Lo lam ds {s with h:=h'} a∧VR c' (un L0 Lo) (.rs c.h.next 0 need size) (.slice (some ⟨c.w.heap.size,0,none⟩) need cap):=by
 have Py:(vs.toArray++Builtin.zeroCells z.cells (cap - need)).size=cap*size:=by
  rw [Array.size_append,u3,LL,List.size_toArray,hl,←abJ]
  congr 1; omega
 have V3:=hv.length
 obtain⟨β',e',f',hβ,hlive⟩:=f.G3 hbs c.w.drew ⟨rfl,rfl,rfl,rfl⟩ (.cells xs) (.cells (vs.toArray++Builtin.zeroCells z.cells (cap - need)) e) h' hg hst hn ho (fun c' e' hw=>by
  refine⟨_,my (w1:=c.w.drew) hw,?_,kA (w1:=c.w.drew) hw (VRs.ext e' _ _ hv) (fun i hi=>?_) h1⟩
  ·rw [Py,aaZ,V3,hl]; exact abq _ hcap
  ·rw [Array.getElem?_append_left (by simpa using hi)]; simp)
 refine⟨_,rfl,rfl,e',f',?_⟩
 simp only [VR]
 refine .inr ⟨(by have:=f.rel.ver 0; omega),hlive.1,_,_,rfl,hcap,rfl,fun _=>.inl ?_⟩
 rw [hβ]
 refine⟨rfl,?_⟩
 have:(c.w.drew.alloc (.cells (vs.toArray++Builtin.zeroCells z.cells (cap - need)) e)).heap[c.w.heap.size]? = some (.cells (vs.toArray++Builtin.zeroCells z.cells (cap - need)) e):=jd c.w.drew _
 simp only [Cx.len,World.shape?,this,aaG,aby,Py]
 omega
theorem Fw (hb0:c0.base≤c0.w.heap.size)(hd:gN n ds o){t t2:TypeId}{sx xx:Operand}(ho:o.op = .call {callee:=.builtin .append,args:=#[sx,xx],argTypes:=#[t,t2]}){s':RS}
  (h:((fu P s.h t t2 (b8 s.ρ sx) (b8 s.ρ xx)).map fun (v,h)=>{s with h}.set o.dst v)=some s'):jW P L0 c0 n ds o s s':=by
 rw [aaC] at h
 obtain⟨⟨y,h'⟩,ha,rfl⟩:=h
 unfold fu at ha
 rw [aaB] at ha
 obtain⟨d,G5,ha⟩:=ha
 cases d<;>simp only at ha<;>try (cases ha; done)
 rename_i e
 rw [aaB] at ha
 obtain⟨i,hi,ha⟩:=ha
 rw [aaB] at ha
 obtain⟨⟨new,m⟩,ML,ha⟩:=ha
 simp only at ha
 obtain⟨MM,hcs,hnew⟩:∃MM,dT s.h i.size (b8 s.ρ xx)=some (MM,m)∧new=MM.map pk:=by
  unfold fJ at ML
  rw [aaC] at ML
  obtain⟨⟨p,q⟩,h1,h2⟩:=ML
  simp only [aaJ] at h2
  obtain⟨rfl,rfl⟩:=h2
  exact⟨p,h1,rfl⟩
 split at ha
 ·cases ha
 rename_i kI
 have hsz0:i.size≠0:=fun h=>kI (.inl h)
 have hZ:kC P t2 (b8 s.ρ xx)=true:=by
  cases hq:kC P t2 (b8 s.ρ xx) with
  | true=>rfl
  | false=>exact absurd (.inr (.inl hq)) kI
 obtain⟨zv,z,Fv,Fq,MJ⟩:∃zv z,i.zero=some zv∧GQ zv=some z∧z.cells.length=i.size:=by
  have hz:MC i=true:=by
   cases hq:MC i with
   | true=>rfl
   | false=>exact absurd (.inr (.inr hq)) kI
  unfold MC at hz
  cases hq:i.zero.bind GQ with
  | none=>rw [hq] at hz; cases hz
  | some z=>
   rw [hq] at hz
   obtain⟨zv,h1,h2⟩:=aaB.1 hq
   exact⟨zv,z,h1,h2,by simpa using hz⟩
 have LL:∀c L,zv.cells.size=i.size:=fun (c:Cx) (L:Nat→Prop)=>by
  have:=(jX (pt Fq) (nl (c:=c) (L:=L) Fq)).1.length
  rw [MJ] at this
  simpa using this.symm
 have Aj:(∃e',P.underlying t2=some (.slice e'))∨P.underlying t2=some .string:=by
  unfold kC at hZ
  split at hZ
  ·right; revert hZ; split<;>simp_all
  ·left; revert hZ; split<;>simp_all
 have CB:∀st,b8 s.ρ xx = .str st→P.underlying t2=some .string:=by
  intro st he
  rw [he] at hZ
  simp only [kC] at hZ
  revert hZ; split<;>simp_all
 have G7:(∀st,b8 s.ρ xx≠.str st)→∃e',P.underlying t2=some (.slice e'):=by
  intro hne
  unfold kC at hZ
  split at hZ
  ·rename_i st he; exact absurd he (hne st)
  ·revert hZ; split<;>simp_all
 rintro a w K Q ⟨hn,c,Lo,lam,rfl,f,e0⟩ hK
 have hbs:=kr e0 hb0
 obtain⟨news,hS,LM⟩:=rR (P:=P) f (bT f xx) Aj CB G7 hcs
 replace LM:VRs c (un L0 Lo) new news:=hnew ▸ uR LM
 have hex:∀v w',(Builtin.append_ #[t,t2] o.type #[a.eval sx,a.eval xx]).run P c.w = .ok v w'→(execOp a.eval o).run P c.w = .ok (.value v) w':=by
  intro v w' hr
  unfold execOp
  simp only [ho,resolve,invoke,builtin,Sem.run_bind,Sem.run_pure,Result.andThen_ok,List.map_toArray,aa6,List.map_nil,hr]
 have fin:∀c' v,(Builtin.append_ #[t,t2] o.type #[a.eval sx,a.eval xx]).run P c.w = .ok v c'.w→Ext c Lo c' Lo→Fr L0 c' Lo lam ds {s with h:=h'} a→VR c' (un L0 Lo) y v→o.wp P a c.w K Q:=by
  intro c' v hr e' f' hv
  unfold Oper.wp
  rw [hex v _ hr,Oper.upon_value]
  exact hK _ _ ⟨(ij _ _ _).trans hn,c',Lo,lam,rfl,f'.set (SR.of hv) (fun t ht=>by rw [hn]; exact hd t ht),e0.trans e'⟩
 have DN:=bT f sx
 have h63:∀k:Nat,k≤gq→(k:Int)≤9223372036854775807:=fun k hk=>by simp only [gq] at hk; omega
 have hfit:∀need old,old<need→need*i.bytes≤gq→Builtin.nextslicecap need old*i.bytes≤281474976710656:=fun need old h1 h2=>growslice_fits h1 (by simp only [gq] at h2; omega)
 have hnl:=LM.length
 have hone:=hS.one
 have Ap:=hS.newsLen
 cases hq:b8 s.ρ sx with
 | nils=>
  rw [hq] at ha DN
  simp only [SR,VR] at DN
  obtain⟨ad,Cc,X7⟩:∃ad:Option Addr,a.eval sx = .slice ad 0 0∧ad=none:=⟨none,DN,rfl⟩
  simp only at ha
  split at ha
  ·cases ha
  rename_i hroom
  split at ha
  ·rename_i um
   subst um
   cases ha
   refine fin c (.slice ad 0 0) ?_ (Ext.refl _ _) f (by simp only [VR]; exact .inl ⟨trivial,trivial,trivial,ad,rfl⟩)
   rw [Cc]
   exact iW c.w G5 hi (aaE _) hS
  ·rename_i um
   cases ha
   have hold:(Builtin.firstCells i.size 0 (.slice ad 0 0)).run P c.w.drew = .ok ([]:List Value).toArray c.w.drew:=by
    cases ad with
    | none=>exact run_firstCells_none _ _ _ _ _
    | some ad=>exact run_firstCells_some _ _ _ _ _ _ [] (by simp) (fun j v hj=>by simp at hj)
   have hr:=run_append_grow_src c.w t t2 o.type e i zv G5 hi Fv ad 0 0 [] hold (a.eval xx) m news hS (by omega) (by rw [aaZ]; exact h63 _ (by omega)) (hfit _ _ (by omega) (by rw [aaZ]; omega))
   simp only [aaZ,aa5] at hr
   obtain⟨c',hw,hh,e',f',hv⟩:=f.grown hbs (e:=e) (LL c L0) (grownCap_ge c.w (need:=m) (old:=0) (e:=e)) LM hone Ap (s.h.alloc (.cells new)) (by rw [f.h]; simp [AHeap.alloc,AHeap.put,beq_nat]) (by rw [f.h]; exact Steady.put _ _ _) (by rw [f.h]; exact abm _) (fun id hne=>.inr (by rw [f.h] at hne ⊢; simp [AHeap.alloc,AHeap.put,beq_nat,hne]))
   refine fin c' _ ?_ e' f' (by rw [←f.h]; exact hv)
   rw [Cc,hw]
   exact hr
 | fz cs len ex=>
  rw [hq] at ha DN
  cases ex with
  | false=>simp only at ha; cases ha
  | true=>
  simp only [SR,VR] at DN
  obtain⟨ad,cap,Cc,h1,h2,Ce,hc⟩:=DN
  have hcap:=h2 trivial
  subst hcap
  simp only at ha
  split at ha
  ·cases ha
  rename_i hroom
  split at ha
  ·rename_i um
   subst um
   refine fin c (.slice ad cap cap) ?_ (Ext.refl _ _) (by split at ha<;>cases ha<;>exact f) ?_
   ·rw [Cc]
    exact iW c.w G5 hi (aaE _) hS
   ·split at ha
    ·rename_i hz
     cases ha
     subst hz
     simp only [VR]
     exact .inl ⟨trivial,trivial,trivial,ad,rfl⟩
    ·cases ha
     simp only [VR]
     exact⟨ad,cap,rfl,h1,h2,Ce,hc⟩
  ·rename_i um
   cases ha
   have hcl:cs.length=cap*i.size:=by
    by_cases h3:cs.length=cap*i.size
    ·exact h3
    ·exact absurd (.inr (.inr h3)) hroom
   obtain⟨u4,ON,SM,RL⟩:∃u4:List Value,VRs c (un L0 Lo) cs u4∧(Builtin.firstCells i.size cap (.slice ad cap cap)).run P c.w.drew = .ok u4.toArray c.w.drew∧∀v∈u4,v.oneCell'=true:=by
    rcases hc with rfl | ⟨b,o',rfl,hr,X8,hc⟩
    ·refine⟨[],trivial,?_,fun _ h=>by cases h⟩
     cases ad with
     | none=>exact run_firstCells_none _ _ _ _ _
     | some ad=>exact run_firstCells_some _ _ _ _ _ _ [] (by simpa using hcl) (fun j v hj=>by simp at hj)
    ·obtain⟨vs,q1,q2,q3⟩:=hc.vals
     refine⟨vs,q1,run_firstCells_some _ _ _ _ _ _ vs (by rw [←q1.length]; exact hcl) (fun j v hj=>?_),q3⟩
     rw [World.cell?_drew,addr_add,q2 j (by rw [q1.length]; exact (aaK.1 hj).1)]
     exact hj
   have J4:=ON.length
   have hr:=run_append_grow_src c.w t t2 o.type e i zv G5 hi Fv ad cap cap u4 SM (a.eval xx) m news hS (by omega) (h63 _ (by omega)) (hfit _ _ (by omega) (by omega))
   obtain⟨c',hw,hh,e',f',hv⟩:=f.grown hbs (e:=e) (LL c L0) (grownCap_ge c.w (need:=cap+m) (old:=cap) (e:=e)) (VRs.append ON LM) (fun v hv=>(aaQ.1 hv).elim (RL v) (hone v)) (by rw [aaI,Ap,←J4,hcl,abJ]) (s.h.alloc (.cells (cs++new))) (by rw [f.h]; simp [AHeap.alloc,AHeap.put,beq_nat]) (by rw [f.h]; exact Steady.put _ _ _) (by rw [f.h]; exact abm _) (fun id hne=>.inr (by rw [f.h] at hne ⊢; simp [AHeap.alloc,AHeap.put,beq_nat,hne]))
   refine fin c' _ ?_ e' f' (by rw [←f.h]; exact hv)
   rw [Cc,hw]
   exact hr
 | rs id off len jG=>
  rw [hq] at ha DN
  simp only [SR,VR] at DN
  simp only at ha
  split at ha
  ·rename_i hid
   rcases DN with⟨_,hoff,PA,ad,Cc⟩| DN
   rotate_left
   ·exact absurd hid DN.1
   split at ha
   ·cases ha
   rename_i hroom
   split at ha
   ·rename_i um
    subst um
    cases ha
    refine fin c (.slice ad 0 0) ?_ (Ext.refl _ _) f (by simp only [VR]; exact .inl ⟨hid,hoff,PA,ad,rfl⟩)
    rw [Cc]
    exact iW c.w G5 hi (aaE _) hS
   ·rename_i um
    cases ha
    have hold:(Builtin.firstCells i.size 0 (.slice ad 0 0)).run P c.w.drew = .ok ([]:List Value).toArray c.w.drew:=by
     cases ad with
     | none=>exact run_firstCells_none _ _ _ _ _
     | some ad=>exact run_firstCells_some _ _ _ _ _ _ [] (by simp) (fun j v hj=>by simp at hj)
    have hr:=run_append_grow_src c.w t t2 o.type e i zv G5 hi Fv ad 0 0 [] hold (a.eval xx) m news hS (by omega) (by rw [aaZ]; exact h63 _ (by omega)) (hfit _ _ (by omega) (by rw [aaZ]; omega))
    simp only [aaZ,aa5] at hr
    obtain⟨c',hw,hh,e',f',hv⟩:=f.grown hbs (e:=e) (LL c L0) (grownCap_ge c.w (need:=m) (old:=0) (e:=e)) LM hone Ap (s.h.alloc (.cells new)) (by rw [f.h]; simp [AHeap.alloc,AHeap.put,beq_nat]) (by rw [f.h]; exact Steady.put _ _ _) (by rw [f.h]; exact abm _) (fun id hne=>.inr (by rw [f.h] at hne ⊢; simp [AHeap.alloc,AHeap.put,beq_nat,hne]))
    refine fin c' _ ?_ e' f' (by rw [←f.h]; exact hv)
    rw [Cc,hw]
    exact hr
  rename_i lP
  rcases DN with DN | ⟨_,hid,ad,cap,Cc,h1,h2,h3⟩
  ·exact absurd DN.1 lP
  simp only [aaB] at ha
  obtain⟨ob,hob,ha⟩:=ha
  cases ob with
  | map es=>cases ha
  | row t cs=>cases ha
  | cells cs=>
  simp only at ha
  split at ha
  ·cases ha
  rename_i hroom
  have wT:jG=i.size:=Decidable.byContradiction fun h=>hroom (.inl h)
  subst wT
  have hle:off+len*i.size≤cs.length:=Decidable.byContradiction fun h=>hroom (.inr (.inl (by omega)))
  rw [←f.h] at hob
  have hl:Live c.h id:=⟨f.rel.lt _ _ hob,by simp [hob]⟩
  obtain⟨q,hp,hm,hc⟩:=f.rel.obj _ _ hob
  split at ha
  ·rename_i um
   subst um
   cases ha
   refine fin c (.slice ad len cap) ?_ (Ext.refl _ _) f ?_
   ·rw [Cc]
    exact iW c.w G5 hi h1 hS
   ·simp only [VR]
    exact .inr ⟨lP,hid,ad,cap,rfl,h1,h2,h3⟩
  ·rename_i um
   cases ha
   have hc2:=(hc.drop off).take (len*i.size)
   have DO:((cs.drop off).take (len*i.size)).length=len*i.size:=by simp; omega
   obtain⟨u4,ON,V4,RL⟩:=hc2.vals
   have J4:=ON.length
   have hget:((s.h.kill id).put s.h.next (.cells ((cs.drop off).take (len*i.size)++new))).get c.h.next=some (.cells ((cs.drop off).take (len*i.size)++new)):=by rw [f.h]; simp [AHeap.put,beq_nat]
   have hnx:c.h.next<((s.h.kill id).put s.h.next (.cells ((cs.drop off).take (len*i.size)++new))).next:=by rw [f.h]; simp only [AHeap.put,AHeap.kill]; omega
   have hoth:∀pU,pU≠c.h.next→((s.h.kill id).put s.h.next (.cells ((cs.drop off).take (len*i.size)++new))).get pU=none∨((s.h.kill id).put s.h.next (.cells ((cs.drop off).take (len*i.size)++new))).get pU=c.h.get pU:=by
    intro pU hne
    rw [f.h] at hne ⊢
    by_cases h4:pU=id
    ·left; simp [AHeap.put,AHeap.kill,beq_nat,hne,h4]; rw [←h4]; simp [hne]
    ·right; simp [AHeap.put,AHeap.kill,beq_nat,hne,h4]
   by_cases G8:len+m≤cap
   ·
    rcases h3 hl with⟨h4,h5⟩| h4
    rotate_left
    ·omega
    subst h4
    have PB:c.len (c.β id).1=q:=by
     obtain⟨C,e',hb,Cy⟩:=hp
     simp [Cx.len,World.shape?,hb,Cy]
    rw [PB] at h5
    have PC:(len+m)*i.size≤cap*i.size:=abq _ G8
    rw [abJ] at PC
    have PD:=hp
    obtain⟨C,e',hb,Cy⟩:=hp
    have hr:=run_append_room_src c.w t t2 o.type e i G5 hi (c.β id).1 ((c.β id).2+off) len cap (a.eval xx) m news hS G8
     (fun j hj=>by
      rw [cell_of_block hb]
      have:(c.β id).2+off+len*i.size+j<C.size:=by omega
      simp [this])
     (fun j hj=>yL PD.og (by omega))
    have Cw:js c (c.β id).1 q:=PD
    obtain⟨q1,q2,q3,q4⟩:=iR news (c.β id).1 ((c.β id).2+off+len*i.size) c.w
    obtain⟨C',g1,g2,g3⟩:=gB news (c.β id).1 ((c.β id).2+off+len*i.size) c.w C e' (0,0) hb (by omega)
    have:=f.upd (w':=c.w.setCells (c.β id).1 ((c.β id).2+off+len*i.size) news) (β':=fun k=>if k=c.h.next then ((c.β id).1,(c.β id).2+off) else c.β k) (h':=(s.h.kill id).put s.h.next (.cells ((cs.drop off).take (len*i.size)++new))) c.h.next (.cells ((cs.drop off).take (len*i.size)++new))
     (by rw [f.h]; exact (Steady.kill _ _).trans (Steady.put _ _ _)) hnx hget (fun pU hne=>(hoth pU hne).imp (fun h=>h) (fun h=>⟨h,by simp [hne]⟩)) (fun h=>absurd h (Nat.lt_irrefl _))
     (.inr ⟨id,hl,by simp,.inr (by
      have:id≠s.h.next:=by rw [←f.h]; have:=hl.1; omega
      simp [AHeap.put,AHeap.kill,beq_nat,this])⟩)
     (fun _=>by simp [World.shape?,g1,Cx.len,hb,g2])
     (fun b _ hne=>eQ _ _ _ _ _ (by simpa using hne)) (fun b _ hne=>eQ _ _ _ _ _ (by simpa using hne)) (by rw [q1]; exact aaE _) hbs q2 q3 q4
     (fun ee=>by
      simp only [if_true]
      refine⟨q,Cw.setCells (by omega) _ _ _,?_,?_⟩
      ·rw [aaI,DO,hnl,Ap]; omega
      ·refine Cells.of_vals (VRs.append (VRs.ext ee _ _ ON) (VRs.ext ee _ _ LM)) (fun j hj=>?_) (fun v hv=>(aaQ.1 hv).elim (RL v) (hone v))
       rw [cell_of_block g1,g3]
       rw [aaI] at hj
       by_cases h6:j<u4.length
       ·rw [if_neg (by omega),←cell_of_block hb,abf h6]
        exact V4 j (by omega)
       ·rw [if_pos (by omega),aaY (by omega)]
        congr 1
        omega)
    obtain⟨PE,X9⟩:=this
    refine fin _ (.slice (some ⟨(c.β id).1,(c.β id).2+off,none⟩) (len+m) cap) ?_ PE X9 ?_
    ·rw [Cc]; exact hr
    ·simp only [VR,←f.h]
     refine .inr ⟨(by have:=f.rel.ver 0; omega),by rw [←f.h] at hnx; exact hnx,_,_,rfl,G8,rfl,fun _=>.inl ?_⟩
     simp only [if_true,Nat.add_zero,true_and]
     simp only [Cx.len,World.shape?,g1,aaG,aby,g2]
     omega
   ·
    obtain⟨SM⟩:Nonempty ((Builtin.firstCells i.size len (.slice ad len cap)).run P c.w.drew = .ok u4.toArray c.w.drew):=by
     rcases h3 hl with⟨h4,h5⟩| h4
     ·subst h4
      refine⟨run_firstCells_some _ _ _ _ _ _ u4 (by rw [←J4,DO]) (fun j v hj=>?_)⟩
      rw [World.cell?_drew,addr_add,V4 j (by rw [J4]; exact (aaK.1 hj).1)]
      exact hj
     ·have hz:len=0:=by omega
      subst hz
      have:u4=[]:=abn (by rw [←J4,DO]; simp)
      subst this
      cases ad with
      | none=>exact⟨run_firstCells_none _ _ _ _ _⟩
      | some ad=>exact⟨run_firstCells_some _ _ _ _ _ _ [] (by simp) (fun j v hj=>by simp at hj)⟩
    have hr:=run_append_grow_src c.w t t2 o.type e i zv G5 hi Fv ad len cap u4 SM (a.eval xx) m news hS (by omega) (h63 _ (by omega)) (hfit _ _ (by omega) (by omega))
    obtain⟨c',hw,hh,e',f',hv⟩:=f.grown hbs (e:=e) (LL c L0) (grownCap_ge c.w (need:=len+m) (old:=cap) (e:=e)) (VRs.append ON LM) (fun v hv=>(aaQ.1 hv).elim (RL v) (hone v)) (by rw [aaI,Ap,←J4,DO,abJ]) _ hget (by rw [f.h]; exact (Steady.kill _ _).trans (Steady.put _ _ _)) hnx hoth
    refine fin c' _ ?_ e' f' (by rw [←f.h]; exact hv)
    rw [Cc,hw]
    exact hr
 | _=>rw [hq] at ha; simp only at ha; cases ha
end
end Go.R
