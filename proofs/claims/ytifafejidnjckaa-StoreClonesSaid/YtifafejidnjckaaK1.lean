/- Part of the proof: ROps3, RMem, ROps4, RNew, RApp, RApp2, RApp3. -/
import Derived.Test.YtifafejidnjckaaK0
import Derived.MapKept
import Derived.Laws.Slices
import Derived.Laws.IdiomCopy
import Derived.Deep.AppendSrc
import Derived.IntWalk
set_option linter.unusedVariables false
set_option linter.unusedSimpArgs false
set_option maxRecDepth 100000
open Array renaming getElem?_eq_some_iff → VZ, getElem?_setIfInBounds → Wo, length_toList → Wq, getElem?_modify → Ws, ext' → W2
open Bool renaming and_eq_true → Vu, false_eq_true → VB, or_eq_true → Wb
open List renaming getElem?_eq_some_iff → Vy, length_append → VA, length_cons → VF, getElem?_append_left → VG, mem_of_getElem? → VH, all_eq_true → VK, getElem?_append_right → VL, mem_cons → VS, map_cons → VU, mem_append → VX, eq_nil_of_length_eq_zero → V3, take_of_length_le → V4, nil_append → V7, mem_map → V8, all_cons → Wf, getElem?_map → Wx, map_nil → WU
open Nat renaming le_refl → Vv, zero_add → VO, lt_of_lt_of_le → VP, beq → V5, lt_succ_self → Wd, le_trans → We, mul_le_mul_right → Wi, add_assoc → Wm, eq_of_beq_eq_true → Wr, add_mul → Wz, add_right_comm → WG, ble → WK, add_comm → WT, add_zero → WV
open Option renaming bind_eq_some_iff → Vp, map_eq_some_iff → Vr, map_some → Vw, isSome_iff_exists → V0, getD_some → Wl
open Option.some renaming injEq → Vt
open Prod.mk renaming injEq → Vz
namespace Go.R
open Go
section
variable {P:Program}{L0:Nat→Prop}{c0:Cx}{n:Nat}{ds:List Nat}{o:Oper}{s:RS}
theorem tP (a b:ByteArray):(a==b)=(a.data.toList==b.data.toList):=by
 cases a with | mk x=>cases b with | mk y=>
 show (x==y)=(x.toList==y.toList)
 rw [Bool.eq_iff_iff]
 simp [Array.toList_inj]
def place (k:AV):List (AV × AV)→List MapEntry→Nat→Option (Nat × Value)
 | (k',_)::es,m::ms,i=>if fC k k' then some (i,m.val) else place k es ms (i+1)
 | _,_,_=>none
theorem ko {c:Cx}{L:Nat→Prop}{d:TypeDesc}{k:AV}{kv:Value}(hd:(∃q,d = .int q)∨d = .string)(hk:k.gj=some kv)(wE:(∃q a,k = .int q a)∨∃b,k = .str b) :
  ∀(es:List (AV × AV)) (ms:List MapEntry) (i:Nat),kJ c L es ms→iB k es≠none→(∀q a,k = .int q a→∃q',d = .int q')→(∀b,k = .str b→d = .string)→Instr.findNow d kv ms i=some (place k es ms i)
 | [],[],i,_,_,_,_=>rfl
 | (k',v)::es,m::ms,i,he,hf,h1,h2=>by
  simp only [iB] at hf
  have hs:sameShape k k'=true:=by
   by_cases hs:sameShape k k'=true
   ·exact hs
   ·simp [hs] at hf
  simp only [hs,if_true] at hf
  obtain⟨⟨Dn,_⟩,zR,tg⟩:=he
  have M8:Instr.sameNow d kv m.key=some (fC k k'):=by
   rcases wE with⟨q,a,rfl⟩| ⟨b,rfl⟩
   ·obtain⟨q',rfl⟩:=h1 q a rfl
    cases k'<;>simp only [sameShape] at hs<;>try (cases hs; done)
    rename_i q2 a2
    simp only [beq_iff_eq] at hs
    subst hs
    simp only [VR] at Dn
    simp only [AV.gj,Vt] at hk
    subst hk
    rw [Dn]
    simp [Instr.sameNow,fC,iP]
   ·have:=h2 b rfl
    subst this
    cases k' with
    | str b2=>
     simp only [VR] at Dn
     simp only [AV.gj,Vt] at hk
     subst hk
     rw [Dn]
     simp only [Instr.sameNow,fC,iP,Vt]
     exact tP b b2
    | _=>cases hs
  simp only [Instr.findNow,M8]
  cases hq:fC k k' with
  | true=>simp [place,hq]
  | false=>
   simp only [hq,VB,if_false] at hf
   simp only [place,hq,VB,if_false]
   exact ko hd hk wE es ms (i+1) tg hf h1 h2
 | [],_::_,_,h,_,_,_=>h.elim
 | _::_,[],_,h,_,_,_=>h.elim
theorem iQ {c:Cx}{L:Nat→Prop}{kt:TypeId}{k:AV}{kv:Value}(hk:gk P kt k=true)(wF:VR c L k kv)(w:World) :
  ∀(es:List (AV × AV)) (ms:List MapEntry) (i:Nat),kJ c L es ms→iB k es≠none→(Instr.findAsking kt kv ms i).run P w = .ok (place k es ms i) w
 | [],[],i,_,_=>rfl
 | (k',v)::es,m::ms,i,he,hf=>by
  simp only [iB] at hf
  have hs:sameShape k k'=true:=by
   by_cases hs:sameShape k k'=true
   ·exact hs
   ·simp [hs] at hf
  simp only [hs,if_true] at hf
  obtain⟨⟨Dn,_⟩,zR,tg⟩:=he
  have hq:=tO (P:=P) 9998 hk hs wF Dn w
  simp only [Instr.findAsking,Op.equal,Op.maxDepth,Sem.run_bind,hq,Result.andThen_ok]
  cases h:fC k k' with
  | true=>simp [place,h]
  | false=>
   simp only [h,VB,if_false] at hf
   simp only [place,h,VB,if_false]
   exact iQ hk wF w es ms (i+1) tg hf
 | [],_::_,_,h,_=>h.elim
 | _::_,[],_,h,_=>h.elim
theorem tQ {c:Cx}{L:Nat→Prop}{kt:TypeId}{k:AV}{kv:Value}(hk:gk P kt k=true)(wF:VR c L k kv)(w:World){es:List (AV × AV)}{ms:List MapEntry}(he:kJ c L es ms)(hf:iB k es≠none) :
  (Instr.findKey kt kv ms).run P w = .ok (place k es ms 0) w:=by
 have Mu:=hk
 cases hd:P.underlying kt with
 | none=>simp [gk,hd] at hk
 | some d=>
 cases d<;>simp only [gk,hd] at hk<;>try (cases hk; done)
 ·rename_i q
  cases k<;>simp only at hk<;>try (cases hk; done)
  rename_i q2 a
  have hc:(AV.int q2 a).gj=some kv:=by simp only [VR] at wF; simp [AV.gj,wF]
  exact MapKept.run_findKey hd (ko (.inl ⟨q,rfl⟩) hc (.inl ⟨_,_,rfl⟩) es ms 0 he hf (fun _ _ _=>⟨q,rfl⟩) (fun b hb=>by cases hb))
 ·cases k<;>simp only at hk<;>try (cases hk; done)
  rename_i b
  have hc:(AV.str b).gj=some kv:=by simp only [VR] at wF; simp [AV.gj,wF]
  exact MapKept.run_findKey hd (ko (.inr rfl) hc (.inr ⟨_,rfl⟩) es ms 0 he hf (fun _ _ h=>by cases h) (fun b hb=>rfl))
 ·rw [run_findKey_eq w (by simp [hd])]
  exact iQ Mu wF w es ms 0 he hf
 ·rw [run_findKey_eq w (by simp [hd])]
  exact iQ Mu wF w es ms 0 he hf
theorem p9 {c:Cx}{L:Nat→Prop}{k:AV}:∀(es:List (AV × AV)) (ms:List MapEntry) (i:Nat),kJ c L es ms→(iB k es=some none→place k es ms i=none)∧(∀v,iB k es=some (some v)→∃j u,place k es ms i=some (j,u)∧VR c L v u)
 | [],[],i,_=>⟨fun _=>rfl,fun v h=>by simp [iB] at h⟩
 | (k',v)::es,m::ms,i,he=>by
  obtain⟨⟨Dn,_⟩,zR,tg⟩:=he
  obtain⟨h1,h2⟩:=p9 es ms (i+1) tg
  simp only [iB,place]
  by_cases hs:sameShape k k'=true
  ·simp only [hs,if_true]
   by_cases hq:fC k k'=true
   ·simp only [hq,if_true]
    exact⟨fun h=>(by cases h),fun u hu=>(by cases hu; exact⟨i,m.val,rfl,zR⟩)⟩
   ·simp only [hq,if_false,VB]
    exact⟨h1,h2⟩
  ·simp [hs]
 | [],_::_,_,h=>h.elim
 | _::_,[],_,h=>h.elim
theorem jC {t:TypeId}{z:AV}(h:iz P t=some z)(w:World):∃v,(zeroValue t).run P w = .ok v w∧Dh v=some z:=by
 unfold iz at h
 simp only [Vp] at h
 obtain⟨i,hi,v,hv,hz⟩:=h
 exact⟨v,by simp [zeroValue,typeInfo,hi,hv],hz⟩
theorem wG {c:Cx}{Lo:Nat→Prop}{lam:Nat→Nat}{a:Act}(f:Fr L0 c Lo lam ds s a){t:TypeId}{m k y:AV}{mv kv:Value}{ok:Bool}(hm:SR c L0 Lo lam s.bx m mv)(hk:SR c L0 Lo lam s.bx k kv)
  (h:fU P s.h t m k ok=some y):∃r,(Instr.lookup t mv kv ok).run P c.w = .ok r c.w∧VR c (un L0 Lo) y r:=by
 unfold fU at h
 rw [Vp] at h
 obtain⟨d,hd,h⟩:=h
 cases d<;>simp only at h<;>try (cases h; done)
 rename_i kt et
 split at h
 ·cases h
 rename_i tl
 have tl:gk P kt k=true:=by simpa using tl
 rw [Vp] at h
 obtain⟨es,tg,h⟩:=h
 have wF:VR c (un L0 Lo) k kv:=hk.vr (by rintro k0 off rfl; simp [gk] at tl)
 obtain⟨ms,Kv,rT⟩:∃ms:Array MapEntry,((mv = .map none∧ms = #[])∨∃r clock,mv = .map (some r)∧c.w.heap[r]? = some (.map ms clock))∧kJ c (un L0 Lo) es ms.toList:=by
  cases m<;>simp only at tg<;>try (cases tg; done)
  ·simp only [SR,VR] at hm
   cases tg
   exact⟨#[],.inl ⟨hm,rfl⟩,trivial⟩
  ·rename_i id
   rw [Vp] at tg
   obtain⟨ob,ho,tg⟩:=tg
   cases ob with
   | cells cs=>cases tg
   | row t cs=>cases tg
   | map p6=>
   cases tg
   simp only [SR,VR] at hm
   obtain⟨hi,r,MY,hr⟩:=hm
   rw [←f.h] at ho
   have hl:Live c.h id:=⟨f.rel.lt _ _ ho,by simp [ho]⟩
   obtain⟨kK,clock,h1,h2⟩:=f.rel.obj _ _ ho
   exact⟨kK,.inr ⟨r,clock,MY,by rw [hr hl]; exact h1⟩,h2⟩
 rw [Vp] at h
 obtain⟨fr,M9,h⟩:=h
 have Dp:=tQ tl wF c.w rT (by rw [M9]; simp)
 have Ih:=nv (P:=P) ms.isEmpty 9998 tl wF c.w
 obtain⟨p1,p2⟩:=p9 (k:=k) es ms.toList 0 rT
 have hget:∀r clock,c.w.heap[r]? = some (.map ms clock)→(getObj r).run P c.w = .ok (.map ms clock) c.w:=fun r clock h1=>by simp [getObj,Sem.run,h1]
 cases fr with
 | none=>
  rw [Vr] at h
  obtain⟨z,hz,rfl⟩:=h
  obtain⟨zv,Dq,yU⟩:=jC hz c.w
  rw [p1 M9] at Dp
  refine⟨if ok then .tuple #[zv,.bool false] else zv,?_,?_⟩
  ·unfold Instr.lookup
   rcases Kv with⟨rfl,rfl⟩| ⟨r,clock,rfl,h1⟩
   ·simp only [pure_bind,Sem.run_bind,bo hd,Result.andThen_ok,Ih,Dp,Dq,Sem.run_pure]
   ·simp only [Sem.run_bind,bo hd,Result.andThen_ok,hget r clock h1,Ih,Dp,Dq,Sem.run_pure]
  ·cases ok with
   | true=>simp only [if_true,VR]; exact⟨#[zv,.bool false],rfl,ll yU,by simp [VR],trivial⟩
   | false=>simpa using ll yU
 | some v=>
  obtain⟨j,u,hp,hv⟩:=p2 v M9
  rw [hp] at Dp
  cases h
  refine⟨if ok then .tuple #[u,.bool true] else u,?_,?_⟩
  ·unfold Instr.lookup
   rcases Kv with⟨rfl,rfl⟩| ⟨r,clock,rfl,h1⟩
   ·simp only [pure_bind,Sem.run_bind,bo hd,Result.andThen_ok,Ih,Dp,Sem.run_pure]
   ·simp only [Sem.run_bind,bo hd,Result.andThen_ok,hget r clock h1,Ih,Dp,Sem.run_pure]
  ·cases ok with
   | true=>simp only [if_true,VR]; exact⟨#[u,.bool true],rfl,hv,by simp [VR],trivial⟩
   | false=>simpa using hv
theorem kJ.length {c:Cx}{L:Nat→Prop}:∀{es:List (AV × AV)} {ms:List MapEntry},kJ c L es ms→es.length=ms.length
 | [],[],_=>rfl
 | _::_,_::_,h=>by simp [kJ.length h.2.2]
 | [],_::_,h=>h.elim
 | _::_,[],h=>h.elim
theorem Dr {c:Cx}{Lo:Nat→Prop}{lam:Nat→Nat}{a:Act}(f:Fr L0 c Lo lam ds s a){x y:AV}{v:Value}{t:TypeId}(ts:Array TypeId)(ht:ts[0]? = some t)(hx:SR c L0 Lo lam s.bx x v)(h:rK P s.h t x=some y)(ty:TypeId) :
  ∃r,(Builtin.len_ ts ty #[v]).run P c.w = .ok r c.w∧VR c (un L0 Lo) y r:=by
 unfold rK at h
 rw [Vp] at h
 obtain⟨d,hd,h⟩:=h
 unfold Builtin.len_
 cases d<;>simp only at h<;>try (cases h; done)
 ·cases x<;>simp only at h<;>try (cases h; done)
  cases h
  simp only [SR,VR] at hx
  subst hx
  exact⟨.int .i64 _,by simp [ht,bo hd,goInt]; rfl,by simp only [VR]⟩
 ·cases x with
  | nils=>
   cases h
   simp only [SR,VR] at hx
   obtain⟨a,rfl⟩:=hx
   exact⟨.int .i64 _,by simp [ht,bo hd,goInt]; rfl,by simp only [VR]⟩
  | fz cs m ex=>
   cases h
   simp only [SR,VR] at hx
   obtain⟨a,cap,rfl,_⟩:=hx
   exact⟨.int .i64 _,by simp [ht,bo hd,goInt]; rfl,by simp only [VR]⟩
  | rs id off m ij=>
   cases h
   simp only [SR,VR] at hx
   rcases hx with⟨_,_,rfl,a,rfl⟩| ⟨_,_,a,cap,rfl,_⟩
   ·exact⟨.int .i64 _,by simp [ht,bo hd,goInt]; rfl,by simp only [VR]; rfl⟩
   ·exact⟨.int .i64 _,by simp [ht,bo hd,goInt]; rfl,by simp only [VR]⟩
  | _=>cases h
 ·cases x with
  | lV=>
   cases h
   simp only [SR,VR] at hx
   subst hx
   exact⟨.int .i64 _,by simp [ht,bo hd,goInt]; rfl,by simp only [VR]⟩
  | mp id=>
   simp only [Vp] at h
   obtain⟨ob,ho,h⟩:=h
   cases ob with
   | cells cs=>cases h
   | row t cs=>cases h
   | map es=>
   cases h
   simp only [SR,VR] at hx
   obtain⟨hi,r,rfl,hr⟩:=hx
   rw [←f.h] at ho
   have hl:Live c.h id:=⟨f.rel.lt _ _ ho,by simp [ho]⟩
   obtain⟨kK,clock,h1,h2⟩:=f.rel.obj _ _ ho
   rw [hr hl]
   refine⟨.int .i64 es.length,?_,by simp [VR]⟩
   have h3:=h2.length
   simp [ht,bo hd,getObj,Sem.run,h1,goInt,h3]
  | _=>cases h
end
end Go.R
namespace Go.R
open Go
theorem gX.len {c c':Cx}{b:Nat}(h:gX c.w c'.w b):c'.len b=c.len b:=by
 unfold Cx.len World.shape?
 rcases h with h | ⟨C,e,lo,hi,FW,jI,h1,h2,_⟩
 ·rw [h]
 ·rw [h1,h2]
theorem HRel.block {c:Cx}{L:Nat→Prop}(r:HRel c L){id:Nat}(hl:Live c.h id):(c.β id).1<c.w.heap.size:=by
 obtain⟨o,ho⟩:=V0.1 hl.2
 have h:=r.obj id o ho
 cases o with
 | cells cs=>obtain⟨n,h1,_⟩:=h; exact h1.lt
 | map es=>obtain⟨kK,clock,h1,_⟩:=h; exact (VZ.1 h1).1
 | row t cs=>obtain⟨_,C,h1,_⟩:=h; exact (VZ.1 h1).1
section
variable {L0:Nat→Prop}{c:Cx}{Lo:Nat→Prop}{lam:Nat→Nat}{ds:List Nat}{s:RS}{a:Act}
theorem Fr.world (f:Fr L0 c Lo lam ds s a){w':World}(hk:∀b,b<c.w.heap.size→gX c.w w' b)(Na:∀id,Live c.h id→w'.heap[(c.β id).1]? = c.w.heap[(c.β id).1]?)(hx:∀b,b<c.base→w'.heap[b]? = c.w.heap[b]?)(hs:c.w.heap.size≤w'.heap.size)
  (h1:w'.os=c.w.os) (h2:w'.tape=c.w.tape) (h3:w'.output=c.w.output):Ext c Lo {c with w:=w'} Lo∧Fr L0 {c with w:=w'} Lo lam ds s a:=by
 have e:Ext c Lo {c with w:=w'} Lo:=by
  refine⟨Vv _,fun id hi hl=>⟨hl,rfl,?_⟩,hs,fun b hb _ _=>hk b hb,hx,rfl,fun id hl=>.inr ⟨id,hl,rfl⟩,fun _ h=>h,fun _ h=>.inl h,h1,h2,h3⟩
  exact gX.len (c':={c with w:=w'}) (hk _ (f.rel.block hl))
 refine⟨e,f.h,⟨f.rel.lt,fun id o ho=>?_,f.rel.inj,f.rel.out,fun b hb=>VP (f.rel.bd b hb) hs,f.rel.low,f.rel.ver⟩,fun t=>?_,fun k cs hb=>?_,f.inj,f.tidy,f.defers,f.Dk⟩
 ·have hl:Live c.h id:=⟨f.rel.lt _ _ ho,by rw [ho]; rfl⟩
  exact (f.rel.obj id o ho).ext e (Na id hl)
 ·exact (f.slot t).ext e (fun _ _ _=>⟨rfl,fun h=>h⟩)
 ·have ob:=f.box k cs hb
  exact ob.ext e (hk _ ob.plain.lt)
theorem Fr.upd (f:Fr L0 c Lo lam ds s a){w':World}{β':Nat→Nat × Nat}{h':AHeap}(n7:Nat)(ob:AObj)
  (hst:Steady c.h h') (Sh:n7<h'.next) (hget:h'.get n7=some ob)
  (hcl:∀id,id≠n7→h'.get id=none∨(h'.get id=c.h.get id∧β' id=c.β id))
  (Kw:n7<c.h.next→Live c.h n7∧β' n7=c.β n7)
  (Kx:c.w.heap.size≤(β' n7).1∨∃pt,Live c.h pt∧(c.β pt).1=(β' n7).1∧(pt=n7∨h'.get pt=none))
  (hlen:(β' n7).1<c.w.heap.size→((w'.shape? (β' n7).1).map (·.2)).getD 0=c.len (β' n7).1)
  (hk:∀b,b<c.w.heap.size→b≠(β' n7).1→w'.heap[b]? = c.w.heap[b]?) (hx:∀b,b<c.base→b≠(β' n7).1→w'.heap[b]? = c.w.heap[b]?) (hs:c.w.heap.size≤w'.heap.size) (hbs:c.base≤c.w.heap.size)
  (h1:w'.os=c.w.os) (h2:w'.tape=c.w.tape) (h3:w'.output=c.w.output)
  (hob:∀(e:Ext c Lo ⟨β',h',w',c.base⟩ Lo),ot ⟨β',h',w',c.base⟩ (un L0 Lo) (β' n7).1 (β' n7).2 ob) :
  Ext c Lo ⟨β',h',w',c.base⟩ Lo∧Fr L0 ⟨β',h',w',c.base⟩ Lo lam ds {s with h:=h'} a:=by
 have hn:=hst.next
 have hold:∀id,id≠n7→Live h' id→Live c.h id∧β' id=c.β id:=by
  intro id hne hl
  rcases hcl id hne with h | ⟨h,hb⟩
  ·have:=hl.2; rw [h] at this; cases this
  ·have zS:(c.h.get id).isSome=true:=by rw [←h]; exact hl.2
   obtain⟨o,ho⟩:=V0.1 zS
   exact⟨⟨f.rel.lt _ _ ho,zS⟩,hb⟩
 have Gg:∀id,id≠n7→Live h' id→(c.β id).1≠(β' n7).1:=by
  intro id hne hl he
  obtain⟨hl0,hb⟩:=hold id hne hl
  rcases Kx with h | ⟨pt,h4,h5,h6⟩
  ·have:=f.rel.block hl0; omega
  ·have:id=pt:=f.rel.inj id pt hl0 h4 (he.trans h5.symm)
   subst this
   rcases h6 with h6 | h6
   ·exact hne h6
   ·have:=hl.2; rw [h6] at this; cases this
 have hL:¬un L0 Lo (β' n7).1:=by
  intro hL
  rcases Kx with h | ⟨pt,h4,h5,_⟩
  ·have:=f.rel.bd _ hL; omega
  ·exact f.rel.out pt h4 (h5 ▸ hL)
 have Ii:c.base≤(β' n7).1:=by
  rcases Kx with h | ⟨pt,h4,h5,_⟩
  ·omega
  ·rw [←h5]; exact f.rel.low pt h4
 have e:Ext c Lo ⟨β',h',w',c.base⟩ Lo:=by
  refine⟨hn,fun id hi hl=>?_,hs,fun b hb _ hi=>.inl (hk b hb ?_),fun b hb=>hx b hb (by omega),rfl,fun id hl=>?_,fun _ h=>h,fun _ h=>.inl h,h1,h2,h3⟩
  ·by_cases hid:id=n7
   ·subst hid
    obtain⟨h4,h5⟩:=Kw hi
    refine⟨h4,h5,?_⟩
    have:=hlen (by rw [h5]; exact f.rel.block h4)
    rw [h5] at this
    exact this
   ·obtain⟨h4,h5⟩:=hold id hid hl
    exact⟨h4,h5,gX.len (c':=⟨β',h',w',c.base⟩) (.inl (hk _ (f.rel.block h4) (Gg id hid hl)))⟩
  ·rintro rfl
   rcases Kx with h | ⟨pt,h4,h5,_⟩
   ·omega
   ·exact hi pt h4 h5
  ·by_cases hid:id=n7
   ·subst hid
    rcases Kx with h | ⟨pt,h4,h5,_⟩
    ·exact .inl h
    ·exact .inr ⟨pt,h4,h5⟩
   ·obtain⟨h4,h5⟩:=hold id hid hl
    exact .inr ⟨id,h4,by rw [←h5]⟩
 refine⟨e,rfl,⟨fun id o ho=>?_,fun id o ho=>?_,fun id kn hl n6 he=>?_,fun id hl=>?_,fun b hb=>VP (f.rel.bd b hb) hs,fun id hl=>?_,hst.wf f.rel.ver⟩,fun t=>?_,fun k cs hb=>?_,f.inj,f.tidy,f.defers,f.Dk⟩
 ·by_cases hid:id=n7
  ·subst hid; exact Sh
  ·rcases hcl id hid with h | ⟨h,_⟩
   ·rw [h] at ho; cases ho
   ·rw [h] at ho; exact VP (f.rel.lt _ _ ho) hn
 ·by_cases hid:id=n7
  ·subst hid
   rw [hget] at ho
   cases ho
   exact hob e
  ·rcases hcl id hid with h | ⟨h,hb⟩
   ·rw [h] at ho; cases ho
   ·have hl:Live h' id:=⟨by rw [h] at ho; exact VP (f.rel.lt _ _ ho) hn,by rw [ho]; rfl⟩
    rw [h] at ho
    have:=(f.rel.obj id o ho).ext e (hk _ (f.rel.block (hold id hid hl).1) (Gg id hid hl))
    rw [←hb] at this
    exact this
 ·by_cases hid:id=n7<;>by_cases Ds:kn=n7
  ·rw [hid,Ds]
  ·subst hid
   obtain⟨h4,h5⟩:=hold kn Ds n6
   exact absurd (by rw [←h5]; exact he.symm) (Gg kn Ds n6)
  ·subst Ds
   obtain⟨h4,h5⟩:=hold id hid hl
   exact absurd (by rw [←h5]; exact he) (Gg id hid hl)
  ·obtain⟨h4,h5⟩:=hold id hid hl
   obtain⟨h6,h7⟩:=hold kn Ds n6
   exact f.rel.inj id kn h4 h6 (by rw [←h5,←h7]; exact he)
 ·by_cases hid:id=n7
  ·subst hid; exact hL
  ·obtain⟨h4,h5⟩:=hold id hid hl
   show ¬un L0 Lo (β' id).1
   rw [h5]; exact f.rel.out id h4
 ·by_cases hid:id=n7
  ·subst hid; exact Ii
  ·obtain⟨h4,h5⟩:=hold id hid hl
   show c.base≤(β' id).1
   rw [h5]; exact f.rel.low id h4
 ·exact (f.slot t).ext e (fun _ _ _=>⟨rfl,fun h=>h⟩)
 ·have hb2:=f.box k cs hb
  refine hb2.ext e (.inl (hk _ hb2.plain.lt ?_))
  rintro he
  exact hL (he ▸ .inr hb2.own)
theorem Fr.Dt (f:Fr L0 c Lo lam ds s a){w':World}(k:Nat)(cs:List AV)(b:Nat)
  (hb:c.w.heap.size≤b∨(b=lam k∧(s.bx k).isSome=true))
  (hp:∀t off,s.ρ t = .lp k off→b=lam k)
  (hk:∀b',b'<c.w.heap.size→b'≠b→w'.heap[b']? = c.w.heap[b']?) (hx:∀b',b'<c.base→b'≠b→w'.heap[b']? = c.w.heap[b']?) (hs:c.w.heap.size≤w'.heap.size) (Si:b<w'.heap.size) (hbs:c.base≤c.w.heap.size)
  (h1:w'.os=c.w.os) (h2:w'.tape=c.w.tape) (h3:w'.output=c.w.output)
  (zT:Plain {c with w:=w'} b cs.length)
  (M4:∀(e:Ext c Lo {c with w:=w'} (fun x=>Lo x∨x=b)),Cells {c with w:=w'} (un L0 (fun x=>Lo x∨x=b)) cs b 0) :
  ∃jw qE,Ext c Lo {c with w:=w'} jw∧Fr L0 {c with w:=w'} jw qE ds (s.box k cs) a∧qE k=b:=by
 have Ij:∀id,Live c.h id→(c.β id).1≠b:=by
  intro id hl he
  rcases hb with h | ⟨h,hb2⟩
  ·have:=f.rel.block hl; omega
  ·obtain⟨Ky,h0⟩:=V0.1 hb2
   exact f.rel.out id hl (by rw [he,h]; exact .inr (f.box k Ky h0).own)
 have Qh:∀x,(Lo x∨x=b)→Lo x∨c.w.heap.size≤x:=by
  rintro x (h | rfl)
  ·exact .inl h
  ·rcases hb with h | ⟨h,hb2⟩
   ·exact .inr h
   ·obtain⟨Ky,h0⟩:=V0.1 hb2
    exact .inl (h ▸ (f.box k Ky h0).own)
 have Ii:c.base≤b:=by
  rcases hb with h | ⟨h,hb2⟩
  ·omega
  ·obtain⟨Ky,h0⟩:=V0.1 hb2
   rw [h]; exact f.Dk _ (f.box k Ky h0).own
 have Sj:∀b',b'<c.w.heap.size→¬Lo b'→b'≠b:=by
  rintro b' th hn rfl
  rcases Qh b' (.inr rfl) with h | h
  ·exact hn h
  ·omega
 have e:Ext c Lo {c with w:=w'} (fun x=>Lo x∨x=b):=by
  refine⟨Vv _,fun id hi hl=>⟨hl,rfl,?_⟩,hs,fun b' th hn _=>.inl (hk b' th (Sj b' th hn)),fun b' th=>hx b' th (by omega),rfl,fun id hl=>.inr ⟨id,hl,rfl⟩,fun _ h=>.inl h,Qh,h1,h2,h3⟩
  exact gX.len (c':={c with w:=w'}) (.inl (hk _ (f.rel.block hl) (Ij id hl)))
 refine⟨fun x=>Lo x∨x=b,fun t=>if t=k then b else lam t,e,⟨f.h,⟨f.rel.lt,fun id o ho=>?_,f.rel.inj,fun id hl hL=>?_,fun x Ik=>?_,f.rel.low,f.rel.ver⟩,fun t=>?_,fun k' fi th=>?_,fun k1 k2 Qi J3 he=>?_,f.tidy,f.defers,fun x Ik=>?_⟩,by simp⟩
 ·have hl:Live c.h id:=⟨f.rel.lt _ _ ho,by rw [ho]; rfl⟩
  exact (f.rel.obj id o ho).ext e (hk _ (f.rel.block hl) (Ij id hl))
 ·rcases hL with h | h | h
  ·exact f.rel.out id hl (.inl h)
  ·exact f.rel.out id hl (.inr h)
  ·exact Ij id hl h
 ·rcases Ik with h | h | h
  ·exact VP (f.rel.bd x (.inl h)) hs
  ·exact VP (f.rel.bd x (.inr h)) hs
  ·subst h; exact Si
 ·refine (f.slot t).ext e (fun k' off Kz=>?_)
  by_cases wE:k'=k
  ·subst wE
   refine⟨by simp [hp t off Kz],fun _=>by simp [RS.box]⟩
  ·exact⟨by simp [wE],fun h=>by simpa [RS.box,beq_nat,wE] using h⟩
 ·by_cases wE:k'=k
  ·subst wE
   simp only [RS.box,beq_nat,decide_true,cond_true,Vt] at th
   subst th
   exact⟨by simp,by simpa using zT,by simpa using M4 e⟩
  ·simp only [RS.box,beq_nat,wE,decide_false,cond_false] at th
   have ob:=f.box k' fi th
   have hne:lam k'≠b:=by
    rintro he
    rcases hb with h | ⟨h,hb2⟩
    ·have:=ob.plain.lt; omega
    ·exact wE (f.inj k' k (by rw [th]; rfl) hb2 (he.trans h))
   have:=ob.ext e (.inl (hk _ ob.plain.lt hne))
   exact⟨by simp [wE]; exact .inl ob.own,by simpa [wE] using this.plain,by simpa [wE] using this.cells⟩
 ·have old:∀k',k'≠k→((s.box k cs).bx k').isSome=true→(s.bx k').isSome=true:=by
   intro k' hne h
   simpa [RS.box,beq_nat,hne] using h
  have sep:∀k',k'≠k→(s.bx k').isSome=true→lam k'≠b:=by
   intro k' hne h5 Sk
   obtain⟨Mw,h6⟩:=V0.1 h5
   rcases hb with h | ⟨h,hb2⟩
   ·have:=(f.box k' Mw h6).plain.lt; omega
   ·exact hne (f.inj k' k h5 hb2 (Sk.trans h))
  by_cases h4:k1=k<;>by_cases h5:k2=k
  ·rw [h4,h5]
  ·simp only [h4,h5,if_true,if_false] at he
   exact absurd he.symm (sep k2 h5 (old k2 h5 J3))
  ·simp only [h4,h5,if_true,if_false] at he
   exact absurd he (sep k1 h4 (old k1 h4 Qi))
  ·simp only [h4,h5,if_false] at he
   exact f.inj k1 k2 (old k1 h4 Qi) (old k2 h5 J3) he
 ·rcases Ik with h | h
  ·exact f.Dk x h
  ·subst h; exact Ii
end
end Go.R
namespace Go.R
open Go
theorem Cells.iff {c:Cx}{L:Nat→Prop}:∀{xs:List AV} {b o:Nat},Cells c L xs b o↔∀(i:Nat) (x:AV),xs[i]? = some x→∃v,c.w.cell? ⟨b,o+i,none⟩=some v∧v.oneCell'=true∧VR c L x v
 | [],b,o=>by simp [Cells]
 | x::xs,b,o=>by
  refine⟨fun h i y hy=>h.get' i y hy,fun h=>⟨?_,(Cells.iff (xs:=xs)).2 fun i y hy=>?_⟩⟩
  ·exact h 0 x rfl
  ·have:=h (i+1) y (by simpa using hy)
   rwa [WG,Wm]
theorem gZ:∀(vs cs:List AV) (i:Nat),(di cs i vs).length=cs.length
 | [],cs,i=>by cases cs<;>rfl
 | v::vs,cs,i=>by
  rw [di,gZ vs]
  simp
theorem rU:∀(vs cs:List AV) (i j:Nat),i+vs.length≤cs.length→(di cs i vs)[j]? = if i≤j∧j<i+vs.length then vs[j - i]? else cs[j]?
 | [],cs,i,j,_=>by
  have:di cs i []=cs:=by cases cs<;>rfl
  rw [this,if_neg (by simp)]
 | v::vs,cs,i,j,h=>by
  simp only [VF] at h
  rw [di,rU vs _ (i+1) j (by simp; omega)]
  by_cases h1:i+1≤j∧j<i+1+vs.length
  ·rw [if_pos h1,if_pos (by simp; omega),show j - i=(j - (i+1))+1 by omega]
   simp
  ·rw [if_neg h1]
   by_cases h2:j=i
   ·subst h2
    rw [if_pos (by simp),List.getElem?_set_self (by omega)]
    simp
   ·rw [List.getElem?_set_ne (by omega),if_neg (by simp; omega)]
theorem uS (w:World)(b o:Nat)(v:Value){C:Array Value}{e:TypeId}{fr:Nat × Nat}(hb:w.heap[b]? = some (.cells C e fr)):(w.setCell ⟨b,o,none⟩ v).heap[b]? = some (.cells (C.setIfInBounds o v) e fr):=by
 have hlt:b<w.heap.size:=(VZ.1 hb).1
 simp [World.setCell,Ws,hb]
theorem wH (w:World)(b o b':Nat)(v:Value)(hne:b'≠b):(w.setCell ⟨b,o,none⟩ v).heap[b']? = w.heap[b']?:=by
 simp [World.setCell,Ws,Ne.symm hne]
theorem dG:∀(vs:List Value) (b o b':Nat) (w:World),b'≠b→(w.setCells b o vs).heap[b']? = w.heap[b']?
 | [],_,_,_,_,_=>rfl
 | v::vs,b,o,b',w,h=>by rw [World.setCells,dG vs b (o+1) b' _ h,wH _ _ _ _ _ h]
theorem gx:∀(vs:List Value) (b o:Nat) (w:World),(w.setCells b o vs).heap.size=w.heap.size∧(w.setCells b o vs).os=w.os∧(w.setCells b o vs).tape=w.tape∧(w.setCells b o vs).output=w.output
 | [],_,_,_=>⟨rfl,rfl,rfl,rfl⟩
 | v::vs,b,o,w=>by
  obtain⟨h1,h2,h3,h4⟩:=gx vs b (o+1) (w.setCell ⟨b,o,none⟩ v)
  rw [World.setCells]
  exact⟨h1.trans (by simp),h2.trans rfl,h3.trans rfl,h4.trans rfl⟩
theorem fj:∀(vs:List Value) (b o:Nat) (w:World) (C:Array Value) (e:TypeId) (fr:Nat × Nat),w.heap[b]? = some (.cells C e fr)→o+vs.length≤C.size→
  ∃C',(w.setCells b o vs).heap[b]? = some (.cells C' e fr)∧C'.size=C.size∧∀j,C'[j]? = if o≤j∧j<o+vs.length then vs[j - o]? else C[j]?
 | [],b,o,w,C,e,fr,hb,_=>⟨C,hb,rfl,fun j=>by rw [if_neg (by simp)]⟩
 | v::vs,b,o,w,C,e,fr,hb,hl=>by
  simp only [VF] at hl
  obtain⟨C',h1,h2,h3⟩:=fj vs b (o+1) (w.setCell ⟨b,o,none⟩ v) (C.setIfInBounds o v) e fr (uS w b o v hb) (by simp; omega)
  refine⟨C',h1,by simpa using h2,fun j=>?_⟩
  rw [h3 j]
  by_cases h4:o+1≤j∧j<o+1+vs.length
  ·rw [if_pos h4,if_pos (by simp; omega),show j - o=(j - (o+1))+1 by omega]
   simp
  ·rw [if_neg h4]
   by_cases h5:j=o
   ·subst h5
    rw [if_pos (by simp)]
    simp [Wo,show j<C.size by omega]
   ·rw [if_neg (by simp; omega)]
    simp [Wo,Ne.symm h5]
theorem cell_of_block {w:World}{b:Nat}{C:Array Value}{e:TypeId}{fr:Nat × Nat}(h:w.heap[b]? = some (.cells C e fr))(i:Nat):w.cell? ⟨b,i,none⟩=C[i]?:=by
 simp [World.cell?,h]
section
variable {P:Program}{L0:Nat→Prop}{c0:Cx}{n:Nat}{ds:List Nat}{o:Oper}{s:RS}
theorem rV {c:Cx}{L:Nat→Prop}{x:AV}{v:Value}(h:x.bR=true)(hv:VR c L x v):v.oneCell'=true∧v.cells = #[v]:=by
 cases x<;>simp only [AV.bR] at h<;>first | (cases h; done) | skip
 all_goals simp only [VR] at hv
 ·subst hv; exact⟨rfl,rfl⟩
 ·subst hv; exact⟨rfl,rfl⟩
 ·subst hv; exact⟨rfl,rfl⟩
 ·subst hv; exact⟨rfl,rfl⟩
 ·obtain⟨_,a,rfl,_⟩:=hv; exact⟨rfl,rfl⟩
 ·obtain⟨b,o,rfl,_⟩:=hv; exact⟨rfl,rfl⟩
 ·obtain⟨a,rfl⟩:=hv; exact⟨rfl,rfl⟩
 ·obtain⟨a,cap,rfl,_⟩:=hv; exact⟨rfl,rfl⟩
 ·rcases hv with⟨_,_,_,a,rfl⟩| ⟨_,_,a,cap,rfl,_⟩<;>exact⟨rfl,rfl⟩
 ·subst hv; exact⟨rfl,rfl⟩
 ·obtain⟨_,r,rfl,_⟩:=hv; exact⟨rfl,rfl⟩
 ·obtain⟨vs,rfl,_⟩:=hv; exact⟨rfl,rfl⟩
 ·subst hv; exact⟨rfl,rfl⟩
theorem qa {c:Cx}{L:Nat→Prop}:∀{xs:List AV} {vs:List Value},xs.all AV.bR=true→VRs c L xs vs→∀v∈vs,v.oneCell'=true
 | [],[],_,_,v,hv=>by simp at hv
 | x::xs,u::us,h,hr,v,hv=>by
  simp only [Wf,Vu] at h
  rcases VS.1 hv with rfl | hv
  ·exact (rV h.1 hr.1).1
  ·exact qa h.2 hr.2 v hv
 | [],_::_,_,h,_,_=>h.elim
 | _::_,[],_,h,_,_=>h.elim
theorem iD {c:Cx}{L:Nat→Prop}{x:AV}{v:Value}(h:x.cells.all AV.bR=true)(hv:VR c L x v):VRs c L x.cells v.cells.toList∧∀u∈v.cells.toList,u.oneCell'=true:=by
 cases x with
 | agg cs=>
  simp only [VR] at hv
  obtain⟨vs,rfl,C4⟩:=hv
  exact⟨C4,qa h C4⟩
 | _=>
  simp only [AV.cells,Wf,List.all_nil,Bool.and_true] at h
  obtain⟨h1,h2⟩:=rV h hv
  rw [h2]
  exact⟨⟨hv,trivial⟩,by simpa using h1⟩
theorem SR.rl {c:Cx}{Lo:Nat→Prop}{lam:Nat→Nat}{bx:Nat→Option (List AV)}{x:AV}{v:Value}(hx:SR c L0 Lo lam bx x v)(h:x.cells.all AV.bR=true):VR c (un L0 Lo) x v:=
 hx.vr (by rintro k off rfl; simp [AV.cells,AV.bR] at h)
theorem jM {c:Cx}{b m base off:Nat}{vs:List Value}(hp:Plain c b m)(hl:base+off+vs.length≤m)(h1:∀v∈vs,v.oneCell'=true) :
  (storeCells ⟨b,base+off,none⟩ vs).run P c.w = .ok () (c.w.setCells b (base+off) vs):=by
 obtain⟨C,e,lo,hi,hb,hf,hm⟩:=hp
 have:=run_storeCells_cells (P:=P) b (base+off) vs 0 c.w (fun j hj=>by
  rw [cell_of_block hb]
  have:base+off+0+j<C.size:=by omega
  simpa using this) (fun j hj=>by
  simp only [World.frozen?,hb]
  rcases hf with hf | hf
  ·subst hf; simp
  ·simp; omega) h1
 simpa using this
theorem Plain.setCells {c:Cx}{b m o:Nat}{vs:List Value}(hp:Plain c b m)(hl:o+vs.length≤m)(β':Nat→Nat × Nat)(h':AHeap)(bs:Nat):Plain ⟨β',h',c.w.setCells b o vs,bs⟩ b m:=by
 obtain⟨C,e,lo,hi,hb,hf,hm⟩:=hp
 obtain⟨C',h1,h2,_⟩:=fj vs b o c.w C e (lo,hi) hb (by omega)
 exact⟨C',e,lo,hi,h1,by rw [h2]; exact hf,by rw [h2]; exact hm⟩
theorem ie.setCells {c:Cx}{b m o:Nat}{vs:List Value}(hp:ie c b m)(hl:o+vs.length≤m)(β':Nat→Nat × Nat)(h':AHeap)(bs:Nat):ie ⟨β',h',c.w.setCells b o vs,bs⟩ b m:=by
 obtain⟨C,e,hb,hm⟩:=hp
 obtain⟨C',h1,h2,_⟩:=fj vs b o c.w C e (0,0) hb (by omega)
 exact⟨C',e,h1,by rw [h2]; exact hm⟩
theorem iE {c c':Cx}{L0 Lo jw:Nat→Prop}{b m base off:Nat}{cs xs:List AV}{vs:List Value}(hp:Plain c b m)(hc:Cells c (un L0 Lo) cs b base)(hv:VRs c (un L0 Lo) xs vs)(KA:∀v∈vs,v.oneCell'=true)(hl:off+xs.length≤cs.length)(hm:base+cs.length≤m)
  (e:Ext c Lo c' jw) (hw:c'.w=c.w.setCells b (base+off) vs):Cells c' (un L0 jw) (di cs off xs) b base:=by
 obtain⟨C,e',lo,hi,hb,hf,qd⟩:=hp
 have hlen:=hv.length
 obtain⟨C',h1,h2,h3⟩:=fj vs b (base+off) c.w C e' (lo,hi) hb (by omega)
 rw [Cells.iff]
 intro i x hx
 rw [hw,cell_of_block h1,h3]
 rw [rU xs cs off i hl] at hx
 by_cases h4:off≤i∧i<off+xs.length
 ·rw [if_pos h4] at hx
  obtain⟨v,Mx,If⟩:=hv.get _ x hx
  refine⟨v,?_,KA v (VH Mx),VR.ext e x v If⟩
  rw [if_pos (by omega),show base+i - (base+off)=i - off by omega]
  exact Mx
 ·rw [if_neg h4] at hx
  obtain⟨v,Mx,Il,If⟩:=hc.get' i x hx
  refine⟨v,?_,Il,VR.ext e x v If⟩
  rw [if_neg (by omega),←cell_of_block hb]
  exact Mx
theorem nw {c:Cx}{L:Nat→Prop}{t:TypeId}{cs fi:List AV}{b m base off:Nat}{x:AV}{v:Value}(hp:Plain c b m)(hm:base+cs.length≤m)(hv:VR c L x v)(h:gO P t cs off x=some fi) :
  (storeVar t ⟨b,base+off,none⟩ v).run P c.w = .ok () (c.w.setCells b (base+off) v.cells.toList)∧VRs c L x.cells v.cells.toList∧off+x.cells.length≤cs.length∧fi=di cs off x.cells∧(∀u∈v.cells.toList,u.oneCell'=true):=by
 unfold gO at h
 rw [Vp] at h
 obtain⟨k,hk,h⟩:=h
 split at h
 ·rename_i hh
  obtain⟨h1,h2,h3⟩:=hh
  cases h
  obtain⟨h4,h5⟩:=iD h2 hv
  have h6:=h4.length
  refine⟨?_,h4,by omega,rfl,h5⟩
  have h7:v.cells.size=k:=by rw [←Wq,←h6]; exact h1
  simp only [storeVar,Sem.run_bind,dF hk,Result.andThen_ok,h7]
  simp only [ne_eq,not_true_eq_false,if_false]
  rw [←jM (P:=P) hp (vs:=v.cells.toList) (base:=base) (off:=off) (by omega) h5]
 ·cases h
theorem ja {c c0:Cx}{Lo:Nat→Prop}(e:Ext c0 none0 c Lo)(h:c0.base≤c0.w.heap.size):c.base≤c.w.heap.size:=by
 rw [e.base]; exact We h e.size
theorem Du (hb0:c0.base≤c0.w.heap.size)(hd:gp n ds o){t:TypeId}{x y:Operand}(ho:o.op = .store t x y)(qF:o.dst=none){s':RS}
  (h:(match bL s.ρ x with
   | .lp k off=>(s.bx k).bind fun cs=>(gO P t cs off (bL s.ρ y)).map fun fi=>s.box k fi
   | .ptr id off=>(s.h.get id).bind fun | .cells cs=>(gO P t cs off (bL s.ρ y)).map fun fi=>{s with h:=s.h.put id (.cells fi)} | _=>none
   | _=>none)=some s'):jc P L0 c0 n ds o s s':=by
 rintro a w K Q ⟨hn,c,Lo,lam,rfl,f,e⟩ hK
 have hbs:=ja e hb0
 have hx:=bE f x
 have hy:=bE f y
 unfold Oper.wp
 have Im:a.put o.dst undef=a:=by rw [qF]; rfl
 have fin:∀c' jw qE,((Instr.storeAt t (a.eval x) (a.eval y)).run P c.w = .ok () c'.w)→Fr L0 c' jw qE ds s' a→Ext c Lo c' jw→Oper.upon P o a K Q ((execOp a.eval o).run P c.w):=by
  intro c' jw qE hr f' e'
  have:(execOp a.eval o).run P c.w = .ok .skip c'.w:=by simp [execOp,ho,hr]
  rw [this,Oper.upon_skip,Im]
  exact hK _ _ ⟨hn,c',jw,qE,rfl,f',e.trans e'⟩
 cases BY:bL s.ρ x<;>rw [BY] at h<;>simp only at h<;>try (cases h; done)
 ·rename_i id off
  rw [Vp] at h
  obtain⟨ob,hob,h⟩:=h
  cases ob with
  | map es=>cases h
  | row t cs=>cases h
  | cells cs=>
  rw [Vr] at h
  obtain⟨fi,hw,rfl⟩:=h
  rw [BY] at hx
  simp only [SR,VR] at hx
  obtain⟨hi,ad,yu,ha⟩:=hx
  rw [←f.h] at hob
  have hl:Live c.h id:=⟨f.rel.lt _ _ hob,by simp [hob]⟩
  obtain⟨m,hp,hm,hc⟩:=f.rel.obj _ _ hob
  have ny:(bL s.ρ y).cells.all AV.bR=true:=by
   unfold gO at hw
   rw [Vp] at hw
   obtain⟨k,_,hw⟩:=hw
   split at hw
   ·rename_i hh; exact hh.2.1
   ·cases hw
  have Nb:=hy.rl ny
  obtain⟨hr,hv,hle,rfl,KA⟩:=nw (P:=P) hp.kc hm Nb hw
  have hvl:=hv.length
  obtain⟨q1,q2,q3,q4⟩:=gx (a.eval y).cells.toList (c.β id).1 ((c.β id).2+off) c.w
  have:=f.upd (w':=c.w.setCells (c.β id).1 ((c.β id).2+off) (a.eval y).cells.toList) (β':=c.β) (h':=c.h.put id (.cells (di cs off (bL s.ρ y).cells))) id (.cells (di cs off (bL s.ρ y).cells))
   (Steady.put _ _ _) (by simp only [AHeap.put]; omega) (by simp [AHeap.put,beq_nat]) (fun kn hne=>.inr ⟨by simp [AHeap.put,beq_nat,hne],rfl⟩) (fun _=>⟨hl,rfl⟩) (.inr ⟨id,hl,rfl,.inl rfl⟩)
   (fun _=>by
    obtain⟨C,e',lo,jI,hb,hf,qd⟩:=hp.kc
    obtain⟨C',h1,h2,_⟩:=fj (a.eval y).cells.toList (c.β id).1 ((c.β id).2+off) c.w C e' (lo,jI) hb (by omega)
    simp [World.shape?,h1,Cx.len,hb,h2])
   (fun b _ hne=>dG _ _ _ _ _ hne) (fun b _ hne=>dG _ _ _ _ _ hne) (by rw [q1]; exact Vv _) hbs q2 q3 q4
   (fun e'=>⟨m,hp.setCells (by omega) _ _ _,by rw [gZ]; exact hm,iE hp.kc hc hv KA hle hm e' rfl⟩)
  rw [f.h] at this
  obtain⟨e',f'⟩:=this
  refine fin _ _ _ ?_ f' e'
  rw [yu,ha hl]
  simp [Instr.storeAt,Instr.sureAddr,hr]
 ·rename_i k off
  rw [Vp] at h
  obtain⟨cs,KB,h⟩:=h
  rw [Vr] at h
  obtain⟨fi,hw,rfl⟩:=h
  rw [BY] at hx
  simp only [SR] at hx
  obtain⟨yu,_⟩:=hx
  have ob:=f.box k cs KB
  have ny:(bL s.ρ y).cells.all AV.bR=true:=by
   unfold gO at hw
   rw [Vp] at hw
   obtain⟨k,_,hw⟩:=hw
   split at hw
   ·rename_i hh; exact hh.2.1
   ·cases hw
  have Nb:=hy.rl ny
  obtain⟨hr,hv,hle,rfl,KA⟩:=nw (P:=P) (base:=0) ob.plain (by omega) Nb hw
  have hvl:=hv.length
  obtain⟨q1,q2,q3,q4⟩:=gx (a.eval y).cells.toList (lam k) (0+off) c.w
  obtain⟨jw,qE,e',f',_⟩:=f.Dt (w':=c.w.setCells (lam k) (0+off) (a.eval y).cells.toList) k (di cs off (bL s.ρ y).cells) (lam k) (.inr ⟨rfl,by rw [KB]; rfl⟩)
   (fun _ _ _=>rfl) (fun b _ hne=>dG _ _ _ _ _ hne) (fun b _ hne=>dG _ _ _ _ _ hne) (by rw [q1]; exact Vv _) (by rw [q1]; exact ob.plain.lt) hbs q2 q3 q4
   (by rw [gZ]; exact ob.plain.setCells (by omega) _ _ _) (fun e'=>iE ob.plain ob.cells hv KA hle (by omega) e' rfl)
  refine fin _ _ _ ?_ f' e'
  rw [yu]
  rw [VO] at hr
  simp [Instr.storeAt,Instr.sureAddr,hr]
end
end Go.R
namespace Go.R
open Go
theorem il (w:World)(o:Obj):(w.alloc o).heap[w.heap.size]? = some o:=by
 show (w.heap.push o)[w.heap.size]? = some o
 simp
theorem alloc_old (w:World)(o:Obj){b:Nat}(h:b<w.heap.size):(w.alloc o).heap[b]? = w.heap[b]?:=by
 show (w.heap.push o)[b]? = w.heap[b]?
 simp [Array.getElem?_push,show b≠w.heap.size by omega]
theorem RS.set_set (s:RS)(d:Option Nat)(x y:AV):(s.set d x).set d y=s.set d y:=by
 cases d with
 | none=>rfl
 | some d=>
  simp only [RS.set]
  congr 1
  funext t
  cases V5 t d<;>rfl
theorem Gh (a:Act)(d:Option Nat)(x y:Value):(a.put d x).put d y=a.put d y:=by
 cases d with
 | none=>rfl
 | some d=>
  simp only [Act.put]
  congr 1
  apply Array.ext_getElem?
  intro i
  simp only [Wo,Array.size_setIfInBounds]
  by_cases h:d=i<;>by_cases h2:d<a.tmps.size<;>simp [h,h2]
section
variable {P:Program}{L0:Nat→Prop}{c0:Cx}{n:Nat}{ds:List Nat}{o:Oper}{s:RS}
theorem pz {k:Nat}{ρ:Nat→AV}:∀{l:List Nat},rL k ρ l=true→∀t∈l,∀off,ρ t≠.lp k off
 | [],_,t,ht=>by simp at ht
 | x::xs,h,t,ht=>by
  simp only [rL,Vu] at h
  intro off he
  rcases VS.1 ht with rfl | ht
  ·rw [he] at h; simp at h
  ·exact pz h.2 t ht off he
theorem Fr.Dv {c:Cx}{Lo:Nat→Prop}{lam:Nat→Nat}{a:Act}(f:Fr L0 c Lo lam ds s a)(hbs:c.base≤c.w.heap.size)(w1:World)(Nc:w1.heap=c.w.heap∧w1.os=c.w.os∧w1.tape=c.w.tape∧w1.output=c.w.output)(ob:AObj)(obj:Obj)
  (h':AHeap) (hg:h'.get c.h.next=some ob) (hst:Steady c.h h') (hn:c.h.next<h'.next) (ho:∀id,id≠c.h.next→h'.get id=none∨h'.get id=c.h.get id)
  (hob:∀(c':Cx) (e:Ext c Lo c' Lo),c'.w=w1.alloc obj→ot c' (un L0 Lo) c.w.heap.size 0 ob) :
  ∃β',Ext c Lo ⟨β',h',w1.alloc obj,c.base⟩ Lo∧Fr L0 ⟨β',h',w1.alloc obj,c.base⟩ Lo lam ds {s with h:=h'} a∧β' c.h.next=(c.w.heap.size,0)∧Live h' c.h.next:=by
 obtain⟨q0,q1,q2,q3⟩:=Nc
 have hsz:w1.heap.size=c.w.heap.size:=by rw [q0]
 refine⟨fun i=>if i=c.h.next then (c.w.heap.size,0) else c.β i,?_⟩
 have:=f.upd (w':=w1.alloc obj) (β':=fun i=>if i=c.h.next then (c.w.heap.size,0) else c.β i) (h':=h') c.h.next ob
  hst hn hg (fun id hne=>(ho id hne).imp (fun x=>x) fun h=>⟨h,by simp [hne]⟩)
  (fun h=>absurd h (Nat.lt_irrefl _)) (.inl (by simp)) (fun h=>by simp at h)
  (fun b hb _=>by rw [alloc_old _ _ (by omega),q0]) (fun b hb _=>by rw [alloc_old _ _ (by omega),q0]) (by simp [hsz]) hbs q1 q2 q3
  (fun e=>by simpa using hob _ e rfl)
 exact⟨this.1,this.2,by simp,⟨hn,by rw [hg]; rfl⟩⟩
theorem Fr.fresh {c:Cx}{Lo:Nat→Prop}{lam:Nat→Nat}{a:Act}(f:Fr L0 c Lo lam ds s a)(hbs:c.base≤c.w.heap.size)(w1:World)(Nc:w1.heap=c.w.heap∧w1.os=c.w.os∧w1.tape=c.w.tape∧w1.output=c.w.output)(ob:AObj)(obj:Obj)
  (hob:∀(c':Cx) (e:Ext c Lo c' Lo),c'.w=w1.alloc obj→ot c' (un L0 Lo) c.w.heap.size 0 ob) :
  ∃β',Ext c Lo ⟨β',c.h.alloc ob,w1.alloc obj,c.base⟩ Lo∧Fr L0 ⟨β',c.h.alloc ob,w1.alloc obj,c.base⟩ Lo lam ds {s with h:=c.h.alloc ob} a∧β' c.h.next=(c.w.heap.size,0)∧Live (c.h.alloc ob) c.h.next:=
 f.Dv hbs w1 Nc ob obj (c.h.alloc ob) (by simp [AHeap.alloc,AHeap.put,beq_nat]) (Steady.put _ _ _) (Wd _) (fun id hne=>.inr (by simp [AHeap.alloc,AHeap.put,beq_nat,hne])) hob
theorem ln {c':Cx}{w1:World}{C:Array Value}{e:TypeId}(hw:c'.w=w1.alloc (.cells C e)):ie c' w1.heap.size C.size:=
 ⟨C,e,by rw [hw]; exact il _ _,rfl⟩
theorem BZ {c':Cx}{w1:World}{C:Array Value}{e:TypeId}(hw:c'.w=w1.alloc (.cells C e)):Plain c' w1.heap.size C.size:=
 ⟨C,e,0,0,by rw [hw]; exact il _ _,.inl rfl,rfl⟩
theorem jD {c':Cx}{L:Nat→Prop}{w1:World}{C:Array Value}{e:TypeId}{xs:List AV}{vs:List Value}(hw:c'.w=w1.alloc (.cells C e))(hv:VRs c' L xs vs)(hp:∀i,i<vs.length→C[i]? = vs[i]?)(h1:∀v∈vs,v.oneCell'=true):Cells c' L xs w1.heap.size 0:=
 Cells.of_vals hv (fun i hi=>by rw [hw,cell_of_block (il _ _),VO]; exact hp i hi) h1
theorem tR (hb0:c0.base≤c0.w.heap.size)(hd:gp n ds o){aE:List Nat}{cs:List AV}{s':RS}(t:TypeId)(h:ic s aE ds o cs=some s')
  (hx:∀a c Lo lam,Fr L0 c Lo lam ds s a→a.tmps.size=n→∃v:Value,(execOp a.eval o).run P c.w = .ok (.value (.pointer (some ⟨c.w.heap.size,0,none⟩))) (c.w.alloc (.cells v.cells t))∧VRs c (un L0 Lo) cs v.cells.toList∧∀u∈v.cells.toList,u.oneCell'=true) :
  jc P L0 c0 n ds o s s':=by
 unfold ic at h
 split at h
 rotate_left
 ·cases h
 rename_i n9
 cases My:o.dst with
 | none=>rw [My] at h; cases h
 | some d=>
 obtain⟨FX,yv⟩:=hd d My
 rw [My] at h
 simp only at h
 rintro a w K Q ⟨hn,c,Lo,lam,rfl,f,e⟩ hK
 have hbs:=ja e hb0
 obtain⟨v,hr,hv,h1⟩:=hx a c Lo lam f hn
 unfold Oper.wp
 rw [hr,Oper.upon_value,My]
 split at h
 ·split at h
  rotate_left
  ·cases h
  rename_i wi
  cases h
  have f1:=f.set (d:=some d) (x:=.any) (v:=undef) (SR.of (by simp [VR])) (fun t ht=>by cases ht; exact⟨hn ▸ FX,yv⟩)
  have Dw:∀t off,(s.set (some d) .any).ρ t≠.lp d off:=by
   intro t off he
   rw [tM] at he
   by_cases HA:t=d
   ·rw [if_pos HA] at he; cases he
   ·rw [if_neg HA] at he
    by_cases hm:t∈ds
    ·exact pz wi t (by simp [hm,beq_nat,HA]) off he
    ·exact HA (f.tidy t d off hm he).symm
  obtain⟨jw,qE,e',f',Nd⟩:=f1.Dt (w':=c.w.alloc (.cells v.cells t)) d cs c.w.heap.size (.inl (Vv _)) (fun t off he=>absurd he (Dw t off))
   (fun b hb _=>alloc_old _ _ hb) (fun b hb _=>alloc_old _ _ (by omega)) (by simp) (by simp) hbs rfl rfl rfl
   (by
     have:=BZ (c':={c with w:=c.w.alloc (.cells v.cells t)}) (w1:=c.w) (C:=v.cells) (e:=t) rfl
     rwa [show v.cells.size=cs.length by rw [←Wq,hv.length]] at this)
   (fun e'=>jD (w1:=c.w) (C:=v.cells) (e:=t) rfl (VRs.ext e' _ _ hv) (fun i _=>by simp) h1)
  have f2:=f'.set (d:=some d) (x:=.lp d 0) (v:=.pointer (some ⟨c.w.heap.size,0,none⟩)) (by simp only [SR,Nd,RS.box,beq_nat]; simp) (fun t ht=>by cases ht; rw [gm]; exact⟨hn ▸ FX,yv⟩)
  rw [Gh] at f2
  have hs:(((s.set (some d) .any).box d cs).set (some d) (.lp d 0))=(s.box d cs).set (some d) (.lp d 0):=by
   rw [←RS.set_set (s.box d cs) (some d) .any]
   rfl
  rw [hs] at f2
  exact hK _ _ ⟨(gm _ _ _).trans hn,_,jw,qE,rfl,f2,e.trans e'⟩
 ·cases h
  obtain⟨β',e',f',hβ,hl⟩:=f.fresh hbs c.w ⟨rfl,rfl,rfl,rfl⟩ (.cells cs) (.cells v.cells t) (fun c' e' hw=>⟨_,ln hw,by rw [VO,hv.length]; simp,
   jD (w1:=c.w) hw (VRs.ext e' _ _ hv) (fun i _=>by simp) h1⟩)
  rw [f.h] at f' e' hβ hl
  have f2:=f'.set (d:=some d) (x:=.ptr s.h.next 0) (v:=.pointer (some ⟨c.w.heap.size,0,none⟩)) (by
   simp only [SR,VR]
   exact⟨hl.1,_,rfl,fun _=>by rw [hβ]⟩) (fun t ht=>by cases ht; exact⟨hn ▸ FX,yv⟩)
  exact hK _ _ ⟨(gm _ _ _).trans hn,_,Lo,lam,rfl,f2,e.trans e'⟩
theorem zU {c:Cx}{L:Nat→Prop}{n:Nat}{x:AV}{v:Value}(h:VR c L x v):VR c L (tk n x) v:=by
 unfold tk
 split
 ·simp only [VR] at h ⊢
  exact .inl ⟨trivial,trivial,trivial,none,h⟩
 ·exact h
theorem zV {c:Cx}{L:Nat→Prop}{n:Nat}:∀{cs:List AV} {vs:List Value} (j:Nat),VRs c L cs vs→VRs c L (yK n j cs) vs
 | [],vs,j,h=>h
 | x::cs,[],j,h=>h.elim
 | x::cs,v::vs,j,h=>by
  refine⟨?_,zV (j+1) h.2⟩
  split
  ·exact h.1
  ·exact zU h.1
theorem zW {c:Cx}{L:Nat→Prop}{n:Nat}:∀{cs:List AV} {vs:List Value},VRs c L cs vs→VRs c L (cs.map (tk n)) vs
 | [],vs,h=>h
 | x::cs,[],h=>h.elim
 | x::cs,v::vs,h=>⟨zU h.1,zW h.2⟩
theorem Gi {c:Cx}{L:Nat→Prop}{cs:List AV}{vs:List Value}(h:VRs c L cs vs):∀n,VRs c L (Gc cs n) vs
 | 0=>h
 | n+1=>by
  have e:Gc cs (n+1)=bif WK 100 (n+1) then yK (n+1) 0 cs else cs.map (tk (n+1)):=rfl
  rw [e]
  cases WK 100 (n+1)
  ·exact zW h
  ·exact zV 0 h
theorem zX {c:Cx}{L:Nat→Prop}{aE:List Nat}{d:Option Nat}{cs:List AV}{vs:List Value}(h:VRs c L cs vs):VRs c L (yL aE d cs) vs:=by
 unfold yL
 split
 ·exact h
 ·exact Gi h _
theorem Gj {c:Cx}{L:Nat→Prop}{aE:List Nat}{d:Option Nat}{x:AV}{v:Value}(h:VR c L x v):VR c L (Ic aE d x) v:=by
 unfold Ic
 split
 ·simp only [VR] at h ⊢
  obtain⟨vs,h1,h2⟩:=h
  exact⟨vs,h1,zX h2⟩
 ·exact h
theorem zY {n:Nat}{x:AV}(h:(tk n x).bR=true):x.bR=true:=by
 unfold tk at h
 split at h
 ·rfl
 ·exact h
theorem zZ {n:Nat}:∀{cs:List AV} (j:Nat),(yK n j cs).all AV.bR=true→cs.all AV.bR=true
 | [],j,h=>rfl
 | x::cs,j,h=>by
  rw [yK,Wf,Vu] at h
  rw [Wf,Vu]
  refine⟨?_,zZ (j+1) h.2⟩
  have h1:=h.1
  split at h1
  ·exact h1
  ·exact zY h1
theorem z6 {n:Nat}:∀{cs:List AV},(cs.map (tk n)).all AV.bR=true→cs.all AV.bR=true
 | [],h=>rfl
 | x::cs,h=>by
  rw [VU,Wf,Vu] at h
  rw [Wf,Vu]
  exact⟨zY h.1,z6 h.2⟩
theorem Gk {aE:List Nat}{d:Option Nat}{cs:List AV}(h:(yL aE d cs).all AV.bR=true):cs.all AV.bR=true:=by
 unfold yL at h
 split at h
 ·exact h
 ·rename_i d'
  generalize Dj aE d'=n at h
  cases n with
  | zero=>exact h
  | succ n=>
   have e:Gc cs (n+1)=bif WK 100 (n+1) then yK (n+1) 0 cs else cs.map (tk (n+1)):=rfl
   rw [e] at h
   cases hb:WK 100 (n+1)
   ·rw [hb,cond_false] at h; exact z6 h
   ·rw [hb,cond_true] at h; exact zZ 0 h
theorem B0 {c:Cx}{t:TypeId}{z:AV}(hz:iz P t=some z)(n9:z.cells.all AV.bR=true)(L:Nat→Prop):∃v:Value,(Instr.alloc t true (.tuple #[])).run P c.w = .ok (.pointer (some ⟨c.w.heap.size,0,none⟩)) (c.w.alloc (.cells v.cells t))∧VRs c L z.cells v.cells.toList∧∀u∈v.cells.toList,u.oneCell'=true:=by
 obtain⟨v,hr,hv⟩:=jC hz c.w
 obtain⟨h1,h2⟩:=iD n9 (ll (c:=c) (L:=L) hv)
 exact⟨v,by simp [Instr.alloc,hr,newVar,newRow],h1,h2⟩
theorem iF (z:List AV):∀k,(ik z k).length=k*z.length
 | 0=>by simp [ik]
 | k+1=>by simp [ik,iF z k,Wz,WT]
theorem tS (z:List AV):∀(k i:Nat),i<k*z.length→(ik z k)[i]? = z[i % z.length]?
 | 0,i,h=>by simp at h
 | k+1,i,h=>by
  rw [Wz,Nat.one_mul] at h
  rw [ik]
  by_cases h1:i<z.length
  ·rw [VG h1,Nat.mod_eq_of_lt h1]
  ·rw [VL (by omega),tS z k _ (by omega),←Nat.mod_eq_sub_mod (show z.length≤i by omega)]
theorem pA {c:Cx}{L:Nat→Prop}{z:List AV}{zv:Array Value}(hz:VRs c L z zv.toList)(k m:Nat)(hm:k*z.length≤m)(C5:z.length≠0) :
  VRs c L (ik z k) (((Array.range m).map (zv[· % zv.size]!)).toList.take (k*z.length)):=by
 have hl:=hz.length
 have key:∀(xs:List AV) (vs:List Value),xs.length=vs.length→(∀(i:Nat) x v,xs[i]? = some x→vs[i]? = some v→VR c L x v)→VRs c L xs vs:=by
  intro xs
  induction xs with
  | nil=>intro vs h _; cases vs with | nil=>trivial | cons _ _=>simp at h
  | cons x xs ih=>
   intro vs h kP
   cases vs with
   | nil=>simp at h
   | cons v vs=>
    refine⟨kP 0 x v rfl rfl,ih vs (by simpa using h) fun i y u hy hu=>kP (i+1) y u (by simpa using hy) (by simpa using hu)⟩
 refine key _ _ (by rw [iF]; simp; omega) fun i x v hx hv=>?_
 have hi:i<k*z.length:=by
  have:=(Vy.1 hx).1
  rwa [iF] at this
 rw [tS z k i hi] at hx
 obtain⟨u,hu,hr⟩:=hz.get _ x hx
 rw [List.getElem?_take,if_pos hi] at hv
 have zQ:i<m:=by omega
 have qG:i % zv.size<zv.size:=Nat.mod_lt _ (by rw [←Wq,←hl]; omega)
 have:v=zv[i % zv.size]!:=by
  simp [zQ] at hv
  exact hv.symm
 rw [show zv.toList.length=zv.size by simp] at hl
 rw [hl,Array.getElem?_toList,Array.getElem?_eq_getElem qG] at hu
 rw [this,getElem!_pos zv _ qG]
 cases hu
 exact hr
theorem lq (hb0:c0.base≤c0.w.heap.size)(hd:gp n ds o){ob:AObj}{x:AV}
  (h:∀a c Lo lam,Fr L0 c Lo lam ds s a→a.tmps.size=n→∃(obj:Obj) (v:Value),(execOp a.eval o).run P c.w = .ok (.value v) (c.w.alloc obj)∧
   (∀(c':Cx) (e:Ext c Lo c' Lo),c'.w=c.w.alloc obj→ot c' (un L0 Lo) c.w.heap.size 0 ob)∧
   (∀(c':Cx),c'.h=s.h.alloc ob→c'.w=c.w.alloc obj→c'.β s.h.next=(c.w.heap.size,0)→VR c' (un L0 Lo) x v)) (hx:∀k off,x≠.lp k off) :
  jc P L0 c0 n ds o s ({s with h:=s.h.alloc ob}.set o.dst x):=by
 rintro a w K Q ⟨hn,c,Lo,lam,rfl,f,e⟩ hK
 have hbs:=ja e hb0
 obtain⟨obj,v,hr,hob,hv⟩:=h a c Lo lam f hn
 unfold Oper.wp
 rw [hr,Oper.upon_value]
 obtain⟨β',e',f',hβ,hl⟩:=f.fresh hbs c.w ⟨rfl,rfl,rfl,rfl⟩ ob obj hob
 rw [f.h] at f' e' hβ hl
 have f2:=f'.set (d:=o.dst) (x:=x) (v:=v) (SR.of (hv _ rfl rfl hβ)) (fun t ht=>by rw [hn]; exact hd t ht)
 exact hK _ _ ⟨(gm _ _ _).trans hn,_,Lo,lam,rfl,f2,e.trans e'⟩
theorem yV (hb0:c0.base≤c0.w.heap.size)(hd:gp n ds o){t:TypeId}(ho:o.op = .makeMap t none):jc P L0 c0 n ds o s ({s with h:=s.h.alloc (.map [])}.set o.dst (.mp s.h.next)):=by
 refine lq hb0 hd (fun a c Lo lam f hn=>⟨.map #[] 0,.map (some c.w.heap.size),by simp [execOp,ho,Instr.makeMap],fun c' e hw=>⟨#[],0,by rw [hw]; exact il _ _,trivial⟩,fun c' hh hw hβ=>?_⟩) (by rintro k off hh; cases hh)
 simp only [VR]
 exact⟨by rw [hh]; exact Wd _,_,rfl,fun _=>by rw [hβ]⟩
theorem tT {i:Int}(h0:0≤i)(h1:i≤1099511627776):IntKind.i64.wrap i=i:=IntWalk.i64_in _ (by omega)
theorem uT (hb0:c0.base≤c0.w.heap.size)(hd:gp n ds o){t:TypeId}{lx cx:Operand}(ho:o.op = .makeSlice t lx cx){s':RS}
  (h:((gE P s.h t (bL s.ρ lx) (bL s.ρ cx)).map fun (x,h)=>{s with h}.set o.dst x)=some s'):jc P L0 c0 n ds o s s':=by
 rw [Vr] at h
 obtain⟨⟨x,h'⟩,hm,rfl⟩:=h
 unfold gE at hm
 split at hm<;>try (cases hm; done)
 rename_i l cc hl hc
 rw [Vp] at hm
 obtain⟨d,Dx,hm⟩:=hm
 cases d<;>simp only at hm<;>try (cases hm; done)
 rename_i e
 simp only [Vp] at hm
 obtain⟨i,hi,z,hz,hm⟩:=hm
 split at hm
 rotate_left
 ·cases hm
 rename_i jN
 obtain⟨h0,h1,h2,h3,h4,h5,h6⟩:=jN
 simp only [Vt,Vz] at hm
 obtain⟨rfl,rfl⟩:=hm
 refine lq hb0 hd (fun a c Lo lam f hn=>?_) (by rintro k off hh; cases hh)
 have Sl:s.h.next≠0:=by have:=f.rel.ver 0; rw [f.h] at this; omega
 have lR:=(bE f lx)
 have KC:=(bE f cx)
 rw [hl] at lR
 rw [hc] at KC
 simp only [SR,VR] at lR KC
 obtain⟨zv,Dq,yU⟩:=jC hz c.w
 have C6:(typeInfo e).run P c.w = .ok i c.w:=by simp [typeInfo,hi]
 have hsz:(sizeOf e).run P c.w = .ok i.size c.w:=dF (by simp [fe,hi]) c.w
 obtain⟨yw,hz1⟩:=iD h6 (ll (c:=c) (L:=un L0 Lo) yU)
 have C5:=yw.length
 have hl0:IntKind.i64.wrap l=l:=tT h0 (by omega)
 have Sm:IntKind.i64.wrap cc=cc:=tT (by omega) h5
 have hroom:¬((i.bytes:Int)*cc > 2 ^ 48):=by
  rw [Int.mul_comm]; simp only [gy] at h2; omega
 have hn0:cc.toNat*i.size=0∨cc.toNat*i.size≠0:=by omega
 have yW:(Instr.makeSlice t (.int .i64 l) (.int .i64 cc)).run P c.w = .ok (.slice (some ⟨c.w.heap.size,0,none⟩) l.toNat cc.toNat)
   (c.w.alloc (.cells ((Array.range (cc.toNat*i.size)).map (zv.cells[· % zv.cells.size]!)) e)):=by
  unfold Instr.makeSlice
  simp only [Sem.run_bind,bo Dx,Result.andThen_ok,asInt,asIntOf,Sem.run_pure,C6,hl0,Sm,hsz]
  rw [if_neg (by simp only [Wb,decide_eq_true_eq,not_or]; exact⟨⟨⟨by omega,hroom⟩,by omega⟩,by omega⟩)]
  simp only [Sem.run_bind,run_askRoom,Result.andThen_ok,hsz,Sem.run_pure]
  by_cases hz0:cc.toNat*i.size=0
  ·have Ng:∀f:Nat→Value,Array.map f (Array.range 0) = #[]:=fun f=>by simp
   simp only [hz0,if_true,Sem.run_pure,Sem.run_bind,Result.andThen_ok,newRow,run_newObj,World.alloc_eq,Ng]
  ·simp only [hz0,if_false,Sem.run_bind,Dq,Result.andThen_ok,Sem.run_pure,newRow,run_newObj,World.alloc_eq]
 have hle:l.toNat*z.cells.length≤cc.toNat*i.size:=by rw [h3]; exact Wi _ (by omega)
 have hrow:∀(c':Cx) (e':Ext c Lo c' Lo),c'.w=c.w.alloc (.cells ((Array.range (cc.toNat*i.size)).map (zv.cells[· % zv.cells.size]!)) e)→
   ot c' (un L0 Lo) c.w.heap.size 0 (.cells (ik z.cells l.toNat)):=by
  intro c' e' hw
  refine⟨_,ln hw,by rw [iF]; simp; omega,?_⟩
  have hv:=pA yw l.toNat (cc.toNat*i.size) hle (by omega)
  refine jD (w1:=c.w) hw (VRs.ext e' _ _ hv) (fun j hj=>?_) (fun u hu=>?_)
  ·rw [List.getElem?_take,if_pos (by simp at hj; omega),Array.getElem?_toList]
  ·have Qj:=List.mem_of_mem_take hu
   simp only [Array.toList_map,V8] at Qj
   obtain⟨j,hj,rfl⟩:=Qj
   have qG:j % zv.cells.size<zv.cells.size:=Nat.mod_lt _ (by rw [←Wq,←C5]; omega)
   rw [getElem!_pos zv.cells _ qG]
   exact hz1 _ (by simp)
 have hex:(execOp a.eval o).run P c.w = .ok (.value (.slice (some ⟨c.w.heap.size,0,none⟩) l.toNat cc.toNat)) (c.w.alloc (.cells ((Array.range (cc.toNat*i.size)).map (zv.cells[· % zv.cells.size]!)) e)):=by
  simp only [execOp,ho,lR,KC,Sem.run_bind,yW,Result.andThen_ok,Sem.run_pure]
 refine⟨_,_,hex,hrow,fun c' hh hw hβ=>?_⟩
 simp only [VR]
 refine .inr ⟨Sl,by rw [hh]; exact Wd _,_,_,rfl,by omega,rfl,fun _=>.inl ?_⟩
 rw [hβ]
 refine⟨rfl,?_⟩
 simp only [Cx.len,World.shape?,hw,il]
 simp
end
end Go.R
namespace Go.R
open Go
def ls:List Value→Nat→List Value→List Value
 | cs,_,[]=>cs
 | cs,i,v::vs=>ls (cs.set i v) (i+1) vs
theorem VRs.di {c:Cx}{L:Nat→Prop}:∀{xs:List AV} {us:List Value} (i:Nat) {cs:List AV} {vs:List Value},VRs c L xs us→VRs c L cs vs→VRs c L (di cs i xs) (ls vs i us)
 | [],[],i,cs,vs,_,h=>by
  have:R.di cs i []=cs:=by cases cs<;>rfl
  rw [this]; cases vs<;>exact h
 | x::xs,u::us,i,cs,vs,h,k=>VRs.di (i+1) h.2 (VRs.set h.1 i k)
 | [],_::_,_,_,_,h,_=>h.elim
 | _::_,[],_,_,_,h,_=>h.elim
theorem qe:∀(us:List Value) (i:Nat) (vs:List Value),(∀v∈vs,v.oneCell'=true)→(∀u∈us,u.oneCell'=true)→∀v∈ls vs i us,v.oneCell'=true
 | [],i,vs,h,_,v,hv=>h v (by cases vs<;>exact hv)
 | u::us,i,vs,h,k,v,hv=>qe us (i+1) (vs.set i u) (fun w hw=>by
   rcases List.mem_or_eq_of_mem_set hw with h1 | h1
   ·exact h w h1
   ·subst h1; exact k _ (by simp)) (fun w hw=>k w (by simp [hw])) v hv
theorem ou (off:Nat):∀(us:List Value) (j:Nat) (cells:Array Value),((us.zipIdx j).foldl (fun cs (p:Value × Nat)=>cs.setIfInBounds (off+p.2) p.1) cells).toList=ls cells.toList (off+j) us
 | [],j,cells=>by simp [ls]
 | u::us,j,cells=>by
  simp only [List.zipIdx_cons,List.foldl_cons]
  rw [ou off us (j+1)]
  simp [ls,Wm]
section
variable {P:Program}{L0:Nat→Prop}{c0:Cx}{n:Nat}{ds:List Nat}{o:Oper}{s:RS}
def rW (c:Cx)(L:Nat→Prop):List (Nat × AV)→List (Nat × Value)→Prop
 | [],[]=>True
 | (i,x)::xs,(j,v)::vs=>(i=j∧(x.cells.all AV.bR=true→VR c L x v))∧rW c L xs vs
 | _,_=>False
theorem lu {c:Cx}{L:Nat→Prop}(pl:Nat→Option (Nat × Nat)):∀{ps:List (Nat × AV)} {vs:List (Nat × Value)} {cs fi:List AV} {C:Array Value},rW c L ps vs→VRs c L cs C.toList→(∀v∈C.toList,v.oneCell'=true)→rJ pl cs ps=some fi→
  ∃C':Array Value,Instr.fill pl C vs=some C'∧VRs c L fi C'.toList∧∀v∈C'.toList,v.oneCell'=true
 | [],[],cs,fi,C,_,hc,h1,h=>by
  simp only [rJ,Vt] at h
  subst h
  exact⟨C,rfl,hc,h1⟩
 | (i,x)::ps,(j,v)::vs,cs,fi,C,hp,hc,h1,h=>by
  obtain⟨⟨rfl,hx⟩,Nh⟩:=hp
  simp only [rJ,Vp] at h
  obtain⟨⟨off,size⟩,zT,h⟩:=h
  simp only at h
  split at h
  ·rename_i jN
   obtain⟨h2,h3,h4⟩:=jN
   obtain⟨h5,h6⟩:=iD h3 (hx h3)
   have h7:v.cells.size=size:=by rw [←Wq,←h5.length]; exact h2
   have h8:cs.length=C.size:=by rw [hc.length]; simp
   have hf:(v.cells.zipIdx.foldl (fun cs (p:Value × Nat)=>cs.setIfInBounds (off+p.2) p.1) C).toList=ls C.toList off v.cells.toList:=by
    rw [←Array.foldl_toList,Array.toList_zipIdx]
    exact ou off v.cells.toList 0 C
   obtain⟨C',h9,h10,h11⟩:=lu pl (C:=v.cells.zipIdx.foldl (fun cs (p:Value × Nat)=>cs.setIfInBounds (off+p.2) p.1) C) Nh (by rw [hf]; exact VRs.di off h5 hc) (by rw [hf]; exact qe _ _ _ h1 h6) h
   refine⟨C',?_,h10,h11⟩
   simp only [Instr.fill,zT]
   rw [if_neg (by simp only [Wb,decide_eq_true_eq,not_or,ne_eq,Decidable.not_not]; exact⟨h7,by omega⟩)]
   exact h9
  ·cases h
 | [],_::_,_,_,_,h,_,_,_=>h.elim
 | _::_,[],_,_,_,h,_,_,_=>h.elim
theorem ov {c:Cx}{Lo:Nat→Prop}{lam:Nat→Nat}{a:Act}(f:Fr L0 c Lo lam ds s a):∀ps:List (Nat × Operand),rW c (un L0 Lo) (ps.map fun (i,x)=>(i,bL s.ρ x)) (ps.map fun (i,x)=>(i,a.eval x))
 | []=>trivial
 | (i,x)::ps=>⟨⟨rfl,fun h=>(bE f x).rl h⟩,ov f ps⟩
theorem qf {v:Value}{x:AV}(h:og v=some x):x.bR=true:=by
 unfold og at h
 split at h<;>first | (cases h; done) | (cases h; rfl)
theorem ow:∀{vs:List Value} {xs:List AV},p5 vs=some xs→xs.all AV.bR=true
 | [],xs,h=>by simp [p5] at h; subst h; rfl
 | v::vs,xs,h=>by
  simp only [p5,Vp] at h
  obtain⟨x,hx,ys,hy,he⟩:=h
  cases he
  simp [qf hx,ow hy]
theorem nL {v:Value}{x:AV}(h:Dh v=some x):x.cells.all AV.bR=true:=by
 unfold Dh at h
 split at h
 ·rw [Vr] at h
  obtain⟨xs,hx,rfl⟩:=h
  exact ow hx
 ·have h1:=qf h
  cases x<;>simp_all [AV.cells,AV.bR]
theorem rX {c:Cx}(w:World):∀fs:List Field,(∀f∈fs,∃m,fe P f.type=some m)→(fs.mapM (m:=Sem) fun f=>do pure (f.offset,←sizeOf f.type)).run P w = .ok (fs.map fun f=>(f.offset,(fe P f.type).getD 0)) w
 | [],_=>by simp
 | f::fs,h=>by
  obtain⟨m,hm⟩:=h f (by simp)
  have ih:=rX (c:=c) w fs (fun g hg=>h g (by simp [hg]))
  simp only [List.mapM_cons,Sem.run_bind,dF hm,ih,hm,Sem.run_pure,Result.andThen_ok,VU,Wl]
theorem run_build {c:Cx}{L:Nat→Prop}{t:TypeId}{ps:List (Nat × AV)}{vs:List (Nat × Value)}{y:AV}(hp:rW c L ps vs)(h:yG P t ps=some y) :
  ∃v,(Instr.build t vs.toArray).run P c.w = .ok v c.w∧VR c L y v:=by
 unfold yG at h
 simp only [Vp] at h
 obtain⟨z,hz,d,hd,h⟩:=h
 obtain⟨zv,Dq,yU⟩:=jC hz c.w
 obtain⟨yw,hz1⟩:=iD (nL yU) (ll (c:=c) (L:=L) yU)
 cases d<;>simp only at h<;>try (cases h; done)
 ·rename_i len e
  simp only [Vp,Vr] at h
  obtain⟨m,hm,cs,hf,rfl⟩:=h
  obtain⟨C',h1,h2,_⟩:=lu _ hp yw hz1 hf
  refine⟨.agg C',?_,by simp only [VR]; exact⟨C',rfl,h2⟩⟩
  unfold Instr.build
  simp [Dq,bo hd,dF hm,h1]
 ·rename_i fs
  split at h
  rotate_left
  ·cases h
  rename_i KD
  have kP:∀f∈fs.toList,∃m,fe P f.type=some m:=fun f hf=>V0.1 (VK.1 KD f hf)
  rw [Vr] at h
  obtain⟨cs,hf,rfl⟩:=h
  obtain⟨C',h1,h2,_⟩:=lu _ hp yw hz1 hf
  refine⟨.agg C',?_,by simp only [VR]; exact⟨C',rfl,h2⟩⟩
  have Sn:=rX (P:=P) (c:=c) c.w fs.toList kP
  have zT:(fun i=>(fs.toList.map fun f=>(f.offset,(fe P f.type).getD 0)).toArray[i]?)=yF P fs.toList:=by
   funext i
   simp only [yF,List.getElem?_toArray,Wx]
   cases hi:fs.toList[i]? with
   | none=>rfl
   | some f=>
    obtain⟨m,hm⟩:=kP f (VH hi)
    simp [hm]
  unfold Instr.build
  simp only [Sem.run_bind,Dq,bo hd,Result.andThen_ok]
  rw [←Array.toArray_toList (xs:=fs),List.mapM_toArray]
  simp only [Sem.run_map,Sn,Result.andThen_ok]
  rw [zT,h1]
  rfl
end
end Go.R
namespace Go.R
open Go
section
variable {P:Program}{L0:Nat→Prop}{c0:Cx}{n:Nat}{ds:List Nat}{o:Oper}{s:RS}
theorem rY (hb0:c0.base≤c0.w.heap.size)(hd:gp n ds o){x:AV}
  (h:∀a c Lo lam,Fr L0 c Lo lam ds s a→a.tmps.size=n→c.base≤c.w.heap.size→∃(w':World) (v:Value),(execOp a.eval o).run P c.w = .ok (.value v) w'∧(∀b,b<c.w.heap.size→gX c.w w' b)∧(∀id,Live c.h id→w'.heap[(c.β id).1]? = c.w.heap[(c.β id).1]?)∧(∀b,b<c.base→w'.heap[b]? = c.w.heap[b]?)∧c.w.heap.size≤w'.heap.size∧
   w'.os=c.w.os∧w'.tape=c.w.tape∧w'.output=c.w.output∧(Ext c Lo {c with w:=w'} Lo→VR {c with w:=w'} (un L0 Lo) x v)) (hx:∀k off,x≠.lp k off) :
  jc P L0 c0 n ds o s (s.set o.dst x):=by
 rintro a w K Q ⟨hn,c,Lo,lam,rfl,f,e⟩ hK
 obtain⟨w',v,hr,h1,Sp,h2,h3,h4,h5,h6,hv⟩:=h a c Lo lam f hn (ja e hb0)
 obtain⟨e',f'⟩:=f.world h1 Sp h2 h3 h4 h5 h6
 unfold Oper.wp
 rw [hr,Oper.upon_value]
 exact hK _ _ ⟨(gm _ _ _).trans hn,_,Lo,lam,rfl,f'.set (SR.of (hv e')) (fun t ht=>by rw [hn]; exact hd t ht),e.trans e'⟩
theorem Dy {c c':Cx}{Lo:Nat→Prop}(r:HRel c (un L0 Lo))(hβ:c'.β=c.β)(hh:c'.h=c.h):RO c' (un L0 Lo) c.w.heap.size:=by
 refine⟨fun id hl he=>?_,fun hL=>?_⟩
 ·rw [hh] at hl
  rw [hβ] at he
  have:=r.block hl; omega
 ·have:=r.bd _ hL; omega
theorem mo {c:Cx}{L:Nat→Prop}{t:TypeId}{len:Nat}{ps:List (Nat × AV)}{vs:List (Nat × Value)}{y:AV}(hp:rW c L ps vs)(h:gD P t len ps=some y) :
  (y = .fz [] 0 true∧∃e,(Instr.buildSlice t len vs.toArray).run P c.w = .ok (.slice (some ⟨c.w.heap.size,0,none⟩) 0 0) (c.w.alloc (.cells #[] e)))∨
  ∃cs C e,y = .fz cs len true∧(Instr.buildSlice t len vs.toArray).run P c.w = .ok (.slice (some ⟨c.w.heap.size,0,none⟩) len len) (c.w.alloc (.cells C e))∧VRs c L cs C.toList∧∀v∈C.toList,v.oneCell'=true:=by
 unfold gD at h
 rw [Vp] at h
 obtain⟨d,hd,h⟩:=h
 cases d<;>simp only at h<;>try (cases h; done)
 rename_i e
 rw [Vp] at h
 obtain⟨m,hm,h⟩:=h
 split at h
 ·cases h
 rename_i KE
 have rS:m≠0:=fun h=>KE (.inl h)
 have KF:¬(len*m > 2 ^ 24):=fun h=>KE (.inr (by omega))
 split at h
 ·rename_i hl0
  subst hl0
  split at h
  ·rename_i Ni
   cases h
   have Nh:ps=[]:=by simpa using Ni
   subst Nh
   cases vs with
   | cons _ _=>exact hp.elim
   | nil=>
   refine .inl ⟨rfl,e,?_⟩
   unfold Instr.buildSlice
   simp only [Sem.run_bind,bo hd,dF hm,Result.andThen_ok,Nat.zero_mul,if_true,Sem.run_pure]
   have Ng:∀f:Nat→Value,Array.map f (Array.range 0) = #[]:=fun f=>by simp
   simp only [Instr.fill,newRow,Ng,Sem.run_bind,run_newObj,Result.andThen_ok,Sem.run_pure,World.alloc_eq]
   rfl
  ·cases h
 ·rename_i hl0
  rw [Vp] at h
  obtain⟨z,hz,h⟩:=h
  split at h
  rotate_left
  ·cases h
  rename_i C5
  rw [Vr] at h
  obtain⟨cs,hf,rfl⟩:=h
  obtain⟨zv,Dq,yU⟩:=jC hz c.w
  obtain⟨yw,hz1⟩:=iD (nL yU) (ll (c:=c) (L:=L) yU)
  have hz0:=pA yw len (len*m) (by rw [C5]; exact Vv _) (by omega)
  rw [V4 (by simp [C5])] at hz0
  have hz2:∀u∈((Array.range (len*m)).map (zv.cells[· % zv.cells.size]!)).toList,u.oneCell'=true:=by
   intro u hu
   simp only [Array.toList_map,V8] at hu
   obtain⟨j,hj,rfl⟩:=hu
   have qG:j % zv.cells.size<zv.cells.size:=Nat.mod_lt _ (by rw [←Wq,←yw.length]; omega)
   rw [getElem!_pos zv.cells _ qG]
   exact hz1 _ (by simp)
  obtain⟨C',h1,h2,h3⟩:=lu _ hp hz0 hz2 hf
  refine .inr ⟨cs,C',e,rfl,?_,h2,h3⟩
  have hne:len*m≠0:=Nat.mul_ne_zero hl0 rS
  unfold Instr.buildSlice
  simp only [Sem.run_bind,bo hd,dF hm,Result.andThen_ok,KF,hne,if_false,Sem.run_pure,Dq]
  rw [h1]
  simp [newRow]
theorem tm (hb0:c0.base≤c0.w.heap.size)(hd:gp n ds o){t:TypeId}{len:Nat}{ps:Array (Nat × Operand)}(ho:o.op = .buildSlice t len ps){y:AV}
  (h:gD P t len (ps.toList.map fun (i,x)=>(i,bL s.ρ x))=some y):jc P L0 c0 n ds o s (s.set o.dst y):=by
 refine rY hb0 hd (fun a c Lo lam f hn hbs=>?_) ?_
 ·have hp:=ov f ps.toList
  have hex:∀v w',(Instr.buildSlice t len (ps.toList.map fun (i,x)=>(i,a.eval x)).toArray).run P c.w = .ok v w'→(execOp a.eval o).run P c.w = .ok (.value v) w':=by
   intro v w' hr
   have he:ps.map (fun (i,x)=>(i,a.eval x))=(ps.toList.map fun (i,x)=>(i,a.eval x)).toArray:=by
    apply W2; simp
   simp only [execOp,ho,Sem.run_bind]
   rw [he,hr]
   rfl
  rcases mo hp h with⟨rfl,e,hr⟩| ⟨cs,C,e,rfl,hr,hv,h1⟩
  ·refine⟨_,_,hex _ _ hr,fun b hb=>.inl (alloc_old _ _ hb),fun id hl=>alloc_old _ _ (f.rel.block hl),fun b hb=>alloc_old _ _ (by omega),by simp,rfl,rfl,rfl,fun _=>by simp only [VR]; exact⟨_,_,rfl,Vv _,fun _=>rfl,.inl rfl,.inl trivial⟩⟩
  ·refine⟨_,_,hex _ _ hr,fun b hb=>.inl (alloc_old _ _ hb),fun id hl=>alloc_old _ _ (f.rel.block hl),fun b hb=>alloc_old _ _ (by omega),by simp,rfl,rfl,rfl,fun e'=>?_⟩
   simp only [VR]
   exact⟨_,_,rfl,Vv _,fun _=>rfl,.inl rfl,.inr ⟨c.w.heap.size,0,rfl,Dy f.rel rfl rfl,fun _=>hbs,jD (w1:=c.w) rfl (VRs.ext e' _ _ hv) (fun i _=>by simp) h1⟩⟩
 ·rintro k off rfl
  unfold gD at h
  rw [Vp] at h
  obtain⟨d,_,h⟩:=h
  cases d<;>simp only at h<;>try (cases h; done)
  rw [Vp] at h
  obtain⟨m,_,h⟩:=h
  split at h
  ·cases h
  ·split at h
   ·split at h<;>cases h
   ·rw [Vp] at h
    obtain⟨z,_,h⟩:=h
    split at h
    ·rw [Vr] at h
     obtain⟨_,_,h⟩:=h
     cases h
    ·cases h
theorem wI {aE:List Nat}{t:TypeId}{y:AV}{cs:List AV}{k z:Nat}(h:nI P aE o t y=some (cs,k,z)):y = .fz cs k true∧cs.length=k*z∧cs≠[]:=by
 unfold nI at h
 split at h
 ·rename_i d c fi k' hd
  cases hc:aE.contains d with
  | false=>rw [hc] at h; cases h
  | true=>
   rw [hc] at h
   simp only [cond_true] at h
   split at h
   ·split at h
    ·rename_i z' hz
     cases hb:V5 (c::fi).length (k'*z') with
     | false=>rw [hb] at h; cases h
     | true=>
      rw [hb] at h
      simp only [cond_true,Vt,Vz] at h
      obtain⟨rfl,rfl,rfl⟩:=h
      exact⟨rfl,Wr hb,by simp⟩
    ·cases h
   ·cases h
 ·cases h
theorem rZ (hb0:c0.base≤c0.w.heap.size)(hd:gp n ds o){t:TypeId}{len:Nat}{ps:Array (Nat × Operand)}(ho:o.op = .buildSlice t len ps){y:AV}(aE:List Nat)
  (h:gD P t len (ps.toList.map fun (i,x)=>(i,bL s.ρ x))=some y):jc P L0 c0 n ds o s (px P aE s o t y):=by
 have key:=tm (L0:=L0) hb0 hd ho h
 unfold px
 cases Io:nI P aE o t y with
 | none=>exact key
 | some q=>
 obtain⟨Mw,n1,z⟩:=q
 obtain⟨rfl,hlen,hne⟩:=wI Io
 have fin:=lq (P:=P) (L0:=L0) (c0:=c0) (o:=o) (s:=s) hb0 hd (ob:=.cells Mw) (x:=.rs s.h.next 0 n1 z) (fun a c Lo lam f hn=>by
  have hp:=ov f ps.toList
  have hex:∀v w',(Instr.buildSlice t len (ps.toList.map fun (i,x)=>(i,a.eval x)).toArray).run P c.w = .ok v w'→(execOp a.eval o).run P c.w = .ok (.value v) w':=by
   intro v w' hr
   have he:ps.map (fun (i,x)=>(i,a.eval x))=(ps.toList.map fun (i,x)=>(i,a.eval x)).toArray:=by
    apply W2; simp
   simp only [execOp,ho,Sem.run_bind]
   rw [he,hr]
   rfl
  rcases mo hp h with⟨he,_⟩| ⟨cs,C,e,he,hr,hv,h1⟩
  ·cases he; exact absurd rfl hne
  ·cases he
   have KG:C.size=Mw.length:=by rw [←Wq,←hv.length]
   refine⟨_,_,hex _ _ hr,fun c' e' hw=>⟨_,ln (w1:=c.w) hw,by rw [KG,VO]; exact Vv _,jD (w1:=c.w) hw (VRs.ext e' _ _ hv) (fun i _=>by simp) h1⟩,fun c' hh hw hβ=>?_⟩
   simp only [VR]
   refine .inr ⟨(by have:=f.rel.ver 0; rw [f.h] at this; omega),by rw [hh]; exact Wd _,_,_,rfl,Vv _,rfl,fun _=>.inl ?_⟩
   rw [hβ]
   refine⟨rfl,?_⟩
   simp only [Cx.len,World.shape?,hw,il]
   simp only [Vw,Wl,KG,hlen,VO]) (by rintro k off hh; cases hh)
 exact fin
theorem pB {c:Cx}{Lo:Nat→Prop}{lam:Nat→Nat}{a:Act}(f:Fr L0 c Lo lam ds s a){tx:TypeId}{size m:Nat}{x:AV}{v:Value}{new:List AV}(hx:SR c L0 Lo lam s.bx x v)
  (hk:(∃e',P.underlying tx=some (.slice e'))∨P.underlying tx=some .string) (z7:∀st,x = .str st→P.underlying tx=some .string) (J4:(∀st,x≠.str st)→∃e',P.underlying tx=some (.slice e')) (h:eu s.h size x=some (new,m)) :
  ∃news,Src P size tx v m news c.w∧VRs c (un L0 Lo) new news:=by
 unfold eu at h
 cases x<;>simp only at h<;>try (cases h; done)
 ·rename_i st
  split at h
  ·rename_i h1
   subst h1
   cases h
   simp only [SR,VR] at hx
   subst hx
   refine⟨_,Src.ofString c.w (z7 st rfl) st,?_⟩
   unfold byteCells
   generalize st.data.toList=l
   induction l with
   | nil=>trivial
   | cons b l ih=>exact⟨by simp [VR],ih⟩
  ·cases h
 ·cases h
  obtain⟨e',he⟩:=J4 (by rintro st h; cases h)
  simp only [SR,VR] at hx
  subst hx
  exact⟨[],Src.ofNil c.w he 0,trivial⟩
 ·rename_i cs k ex
  split at h
  ·rename_i hl
   cases h
   obtain⟨e',he⟩:=J4 (by rintro st h; cases h)
   simp only [SR,VR] at hx
   obtain⟨ad,cap,rfl,h1,h2,_,hc⟩:=hx
   rcases hc with rfl | ⟨b,o',rfl,hr,hex,hc⟩
   ·have hl0:m*size=0:=by simpa using hl.symm
    cases ad with
    | none=>
     refine⟨[],⟨.inl ⟨e',he⟩,fun _=>rfl,run_firstCells_none c.w size m m cap,run_firstCells_none c.w.drew size m m cap,by simpa using hl,fun _ h=>by cases h⟩,trivial⟩
    | some ad=>exact⟨[],Src.ofSlice c.w he ad m cap [] (by simpa using hl) (fun j u hu=>by simp at hu) (fun u hu=>by cases hu),trivial⟩
   ·obtain⟨vs,q1,q2,q3⟩:=hc.vals
    refine⟨vs,Src.ofSlice c.w he _ m cap vs (by rw [←q1.length]; exact hl) (fun j u hu=>?_) q3,q1⟩
    rw [addr_add,q2 j (by rw [q1.length]; exact (Vy.1 hu).1)]
    exact hu
  ·cases h
 ·rename_i id off k ij
  split at h
  ·rename_i hid
   split at h
   rotate_left
   ·cases h
   rename_i Mu
   cases h
   obtain⟨e',he⟩:=J4 (by rintro st h; cases h)
   simp only [SR,VR] at hx
   rcases hx with⟨_,_,_,a,rfl⟩| ⟨_,_,a,cap,rfl,_,h2,_⟩
   rotate_left
   ·cases a with
    | none=>cases h2
    | some ad=>subst Mu; exact⟨[],Src.ofSlice c.w he ad 0 cap [] (by simp) (fun j u hu=>by simp at hu) (fun u hu=>by cases hu),trivial⟩
   cases a with
   | none=>exact⟨[],Src.ofNil c.w he 0,trivial⟩
   | some ad=>exact⟨[],Src.ofSlice c.w he ad 0 0 [] (by simp) (fun j u hu=>by simp at hu) (fun u hu=>by cases hu),trivial⟩
  rename_i j5
  rw [Vp] at h
  obtain⟨ob,hob,h⟩:=h
  cases ob with
  | map es=>cases h
  | row t cs=>cases h
  | cells cs=>
  simp only at h
  split at h
  ·rename_i hh
   obtain⟨rfl,hle⟩:=hh
   cases h
   obtain⟨e',he⟩:=J4 (by rintro st h; cases h)
   simp only [SR,VR] at hx
   rcases hx with hx | ⟨_,hid,ad,cap,rfl,h1,h2,h3⟩
   ·exact absurd (.inl hx.1) j5
   rw [←f.h] at hob
   have hl:Live c.h id:=⟨f.rel.lt _ _ hob,by simp [hob]⟩
   obtain⟨q,hp,hm,hc⟩:=f.rel.obj _ _ hob
   have hc2:=(hc.drop off).take (m*ij)
   have hlen:((cs.drop off).take (m*ij)).length=m*ij:=by simp; omega
   obtain⟨vs,q1,q2,q3⟩:=hc2.vals
   rcases h3 hl with⟨h5,h4⟩| hcap
   ·subst h5
    refine⟨vs,Src.ofSlice c.w he _ m cap vs (by rw [←q1.length]; exact hlen) (fun j u hu=>?_) q3,q1⟩
    rw [addr_add,q2 j (by rw [q1.length]; exact (Vy.1 hu).1)]
    exact hu
   ·have rS:m=0:=by omega
    subst rS
    simp only [Nat.zero_mul,List.take_zero] at q1 ⊢
    cases ad with
    | none=>simp at h2
    | some ad=>exact⟨[],Src.ofSlice c.w he ad 0 cap [] (by simp) (fun j u hu=>by simp at hu) (fun u hu=>by cases hu),trivial⟩
  ·cases h
end
end Go.R
namespace Go.R
open Go
section
variable {P:Program}{L0:Nat→Prop}{c0:Cx}{n:Nat}{ds:List Nat}{o:Oper}{s:RS}
theorem grownCap_ge (w:World){need old:Nat}{e:TypeId}:need≤grownCap w need old e:=by
 unfold grownCap
 simp only [Question.cut]
 omega
theorem r6 (z:Array Value)(k:Nat):(Builtin.zeroCells z k).size=k*z.size:=by simp [Builtin.zeroCells]
theorem hZ (w:World){t tx ty e:TypeId}{i:TypeInfo}(ht:P.underlying t=some (.slice e))(hi:P.info? e=some i){base:Option Addr}{len cap:Nat}(hlc:len≤cap){x:Value}{news:List Value}(hs:Src P i.size tx x 0 news w) :
  (Builtin.append_ #[t,tx] ty #[.slice base len cap,x]).run P w = .ok (.slice base len cap) w:=by
 have KH:news=[]:=V3 (by rw [hs.newsLen]; simp)
 have hc:=hs.cells
 rw [KH] at hc
 rcases hs.kind with⟨e',hk⟩| hk<;>cases base<;>simp [Builtin.append_,run_underlying ht,run_underlying hk,sizeOf,typeInfo,hi,hs.len,hlc,hc,storeCells]
theorem uU {c:Cx}{b m:Nat}(hp:Plain c b m){j:Nat}(hj:j<m):c.w.frozen? ⟨b,j,none⟩=false:=by
 obtain⟨C,e,lo,hi,hb,hf,rfl⟩:=hp
 simp only [World.frozen?,hb]
 rcases hf with hf | hf
 ·subst hf; simp
 ·simp; omega
theorem Fr.grown {c:Cx}{Lo:Nat→Prop}{lam:Nat→Nat}{a:Act}(f:Fr L0 c Lo lam ds s a)(hbs:c.base≤c.w.heap.size){e:TypeId}{z:Value}{size need cap:Nat}(C6:z.cells.size=size)(hcap:need≤cap){xs:List AV}{vs:List Value}(hv:VRs c (un L0 Lo) xs vs)(h1:∀v∈vs,v.oneCell'=true)
  (hl:vs.length=need*size) (h':AHeap) (hg:h'.get c.h.next=some (.cells xs)) (hst:Steady c.h h') (hn:c.h.next<h'.next) (ho:∀id,id≠c.h.next→h'.get id=none∨h'.get id=c.h.get id) :
  ∃c':Cx,c'.w=c.w.drew.alloc (.cells (vs.toArray++Builtin.zeroCells z.cells (cap - need)) e)∧c'.h=h'∧Ext c Lo c' Lo∧Fr L0 c' Lo lam ds {s with h:=h'} a∧VR c' (un L0 Lo) (.rs c.h.next 0 need size) (.slice (some ⟨c.w.heap.size,0,none⟩) need cap):=by
 have KG:(vs.toArray++Builtin.zeroCells z.cells (cap - need)).size=cap*size:=by
  rw [Array.size_append,r6,C6,List.size_toArray,hl,←Wz]
  congr 1; omega
 have Sq:=hv.length
 obtain⟨β',e',f',hβ,hlive⟩:=f.Dv hbs c.w.drew ⟨rfl,rfl,rfl,rfl⟩ (.cells xs) (.cells (vs.toArray++Builtin.zeroCells z.cells (cap - need)) e) h' hg hst hn ho (fun c' e' hw=>by
  refine⟨_,ln (w1:=c.w.drew) hw,?_,jD (w1:=c.w.drew) hw (VRs.ext e' _ _ hv) (fun i hi=>?_) h1⟩
  ·rw [KG,VO,Sq,hl]; exact Wi _ hcap
  ·rw [Array.getElem?_append_left (by simpa using hi)]; simp)
 refine⟨_,rfl,rfl,e',f',?_⟩
 simp only [VR]
 refine .inr ⟨(by have:=f.rel.ver 0; omega),hlive.1,_,_,rfl,hcap,rfl,fun _=>.inl ?_⟩
 rw [hβ]
 refine⟨rfl,?_⟩
 have:(c.w.drew.alloc (.cells (vs.toArray++Builtin.zeroCells z.cells (cap - need)) e)).heap[c.w.heap.size]? = some (.cells (vs.toArray++Builtin.zeroCells z.cells (cap - need)) e):=il c.w.drew _
 simp only [Cx.len,World.shape?,this,Vw,Wl,KG]
 omega
theorem B1 (hb0:c0.base≤c0.w.heap.size)(hd:gp n ds o){t t2:TypeId}{sx xx:Operand}(ho:o.op = .call {callee:=.builtin .append,args:=#[sx,xx],argTypes:=#[t,t2]}){s':RS}
  (h:((dE P s.h t t2 (bL s.ρ sx) (bL s.ρ xx)).map fun (v,h)=>{s with h}.set o.dst v)=some s'):jc P L0 c0 n ds o s s':=by
 rw [Vr] at h
 obtain⟨⟨y,h'⟩,ha,rfl⟩:=h
 unfold dE at ha
 rw [Vp] at ha
 obtain⟨d,Dx,ha⟩:=ha
 cases d<;>simp only at ha<;>try (cases ha; done)
 rename_i e
 rw [Vp] at ha
 obtain⟨i,hi,ha⟩:=ha
 rw [Vp] at ha
 obtain⟨⟨new,m⟩,Ip,ha⟩:=ha
 simp only at ha
 obtain⟨Iq,hcs,hnew⟩:∃Iq,eu s.h i.size (bL s.ρ xx)=some (Iq,m)∧new=Iq.map jF:=by
  unfold fH at Ip
  rw [Vr] at Ip
  obtain⟨⟨p,q⟩,h1,h2⟩:=Ip
  simp only [Vz] at h2
  obtain⟨rfl,rfl⟩:=h2
  exact⟨p,h1,rfl⟩
 split at ha
 ·cases ha
 rename_i jN
 have hsz0:i.size≠0:=fun h=>jN (.inl h)
 have gB:iA P t2 (bL s.ρ xx)=true:=by
  cases hq:iA P t2 (bL s.ρ xx) with
  | true=>rfl
  | false=>exact absurd (.inr (.inl hq)) jN
 obtain⟨zv,z,yw,yU,C5⟩:∃zv z,i.zero=some zv∧Dh zv=some z∧z.cells.length=i.size:=by
  have hz:Hx i=true:=by
   cases hq:Hx i with
   | true=>rfl
   | false=>exact absurd (.inr (.inr hq)) jN
  unfold Hx at hz
  cases hq:i.zero.bind Dh with
  | none=>rw [hq] at hz; cases hz
  | some z=>
   rw [hq] at hz
   obtain⟨zv,h1,h2⟩:=Vp.1 hq
   exact⟨zv,z,h1,h2,by simpa using hz⟩
 have C6:∀c L,zv.cells.size=i.size:=fun (c:Cx) (L:Nat→Prop)=>by
  have:=(iD (nL yU) (ll (c:=c) (L:=L) yU)).1.length
  rw [C5] at this
  simpa using this.symm
 have wE:(∃e',P.underlying t2=some (.slice e'))∨P.underlying t2=some .string:=by
  unfold iA at gB
  split at gB
  ·right; revert gB; split<;>simp_all
  ·left; revert gB; split<;>simp_all
 have z7:∀st,bL s.ρ xx = .str st→P.underlying t2=some .string:=by
  intro st he
  rw [he] at gB
  simp only [iA] at gB
  revert gB; split<;>simp_all
 have J4:(∀st,bL s.ρ xx≠.str st)→∃e',P.underlying t2=some (.slice e'):=by
  intro hne
  unfold iA at gB
  split at gB
  ·rename_i st he; exact absurd he (hne st)
  ·revert gB; split<;>simp_all
 rintro a w K Q ⟨hn,c,Lo,lam,rfl,f,e0⟩ hK
 have hbs:=ja e0 hb0
 obtain⟨news,hS,HB⟩:=pB (P:=P) f (bE f xx) wE z7 J4 hcs
 replace HB:VRs c (un L0 Lo) new news:=hnew ▸ rQ HB
 have hex:∀v w',(Builtin.append_ #[t,t2] o.type #[a.eval sx,a.eval xx]).run P c.w = .ok v w'→(execOp a.eval o).run P c.w = .ok (.value v) w':=by
  intro v w' hr
  unfold execOp
  simp only [ho,resolve,invoke,builtin,Sem.run_bind,Sem.run_pure,Result.andThen_ok,List.map_toArray,VU,WU,hr]
 have fin:∀c' v,(Builtin.append_ #[t,t2] o.type #[a.eval sx,a.eval xx]).run P c.w = .ok v c'.w→Ext c Lo c' Lo→Fr L0 c' Lo lam ds {s with h:=h'} a→VR c' (un L0 Lo) y v→o.wp P a c.w K Q:=by
  intro c' v hr e' f' hv
  unfold Oper.wp
  rw [hex v _ hr,Oper.upon_value]
  exact hK _ _ ⟨(gm _ _ _).trans hn,c',Lo,lam,rfl,f'.set (SR.of hv) (fun t ht=>by rw [hn]; exact hd t ht),e0.trans e'⟩
 have z8:=bE f sx
 have h63:∀k:Nat,k≤gy→(k:Int)≤9223372036854775807:=fun k hk=>by simp only [gy] at hk; omega
 have hfit:∀need old,old<need→need*i.bytes≤gy→Builtin.nextslicecap need old*i.bytes≤281474976710656:=fun need old h1 h2=>growslice_fits h1 (by simp only [gy] at h2; omega)
 have hnl:=HB.length
 have hone:=hS.one
 have wJ:=hS.newsLen
 cases hq:bL s.ρ sx with
 | nils=>
  rw [hq] at ha z8
  simp only [SR,VR] at z8
  obtain⟨ad,yu,Sr⟩:∃ad:Option Addr,a.eval sx = .slice ad 0 0∧ad=none:=⟨none,z8,rfl⟩
  simp only at ha
  split at ha
  ·cases ha
  rename_i hroom
  split at ha
  ·rename_i rS
   subst rS
   cases ha
   refine fin c (.slice ad 0 0) ?_ (Ext.refl _ _) f (by simp only [VR]; exact .inl ⟨trivial,trivial,trivial,ad,rfl⟩)
   rw [yu]
   exact hZ c.w Dx hi (Vv _) hS
  ·rename_i rS
   cases ha
   have hold:(Builtin.firstCells i.size 0 (.slice ad 0 0)).run P c.w.drew = .ok ([]:List Value).toArray c.w.drew:=by
    cases ad with
    | none=>exact run_firstCells_none _ _ _ _ _
    | some ad=>exact run_firstCells_some _ _ _ _ _ _ [] (by simp) (fun j v hj=>by simp at hj)
   have hr:=run_append_grow_src c.w t t2 o.type e i zv Dx hi yw ad 0 0 [] hold (a.eval xx) m news hS (by omega) (by rw [VO]; exact h63 _ (by omega)) (hfit _ _ (by omega) (by rw [VO]; omega))
   simp only [VO,V7] at hr
   obtain⟨c',hw,hh,e',f',hv⟩:=f.grown hbs (e:=e) (C6 c L0) (grownCap_ge c.w (need:=m) (old:=0) (e:=e)) HB hone wJ (s.h.alloc (.cells new)) (by rw [f.h]; simp [AHeap.alloc,AHeap.put,beq_nat]) (by rw [f.h]; exact Steady.put _ _ _) (by rw [f.h]; exact Wd _) (fun id hne=>.inr (by rw [f.h] at hne ⊢; simp [AHeap.alloc,AHeap.put,beq_nat,hne]))
   refine fin c' _ ?_ e' f' (by rw [←f.h]; exact hv)
   rw [yu,hw]
   exact hr
 | fz cs len ex=>
  rw [hq] at ha z8
  cases ex with
  | false=>simp only at ha; cases ha
  | true=>
  simp only [SR,VR] at z8
  obtain⟨ad,cap,yu,h1,h2,qH,hc⟩:=z8
  have hcap:=h2 trivial
  subst hcap
  simp only at ha
  split at ha
  ·cases ha
  rename_i hroom
  split at ha
  ·rename_i rS
   subst rS
   refine fin c (.slice ad cap cap) ?_ (Ext.refl _ _) (by split at ha<;>cases ha<;>exact f) ?_
   ·rw [yu]
    exact hZ c.w Dx hi (Vv _) hS
   ·split at ha
    ·rename_i hz
     cases ha
     subst hz
     simp only [VR]
     exact .inl ⟨trivial,trivial,trivial,ad,rfl⟩
    ·cases ha
     simp only [VR]
     exact⟨ad,cap,rfl,h1,h2,qH,hc⟩
  ·rename_i rS
   cases ha
   have hcl:cs.length=cap*i.size:=by
    by_cases h3:cs.length=cap*i.size
    ·exact h3
    ·exact absurd (.inr (.inr h3)) hroom
   obtain⟨r7,J5,Nj,HC⟩:∃r7:List Value,VRs c (un L0 Lo) cs r7∧(Builtin.firstCells i.size cap (.slice ad cap cap)).run P c.w.drew = .ok r7.toArray c.w.drew∧∀v∈r7,v.oneCell'=true:=by
    rcases hc with rfl | ⟨b,o',rfl,hr,Ss,hc⟩
    ·refine⟨[],trivial,?_,fun _ h=>by cases h⟩
     cases ad with
     | none=>exact run_firstCells_none _ _ _ _ _
     | some ad=>exact run_firstCells_some _ _ _ _ _ _ [] (by simpa using hcl) (fun j v hj=>by simp at hj)
    ·obtain⟨vs,q1,q2,q3⟩:=hc.vals
     refine⟨vs,q1,run_firstCells_some _ _ _ _ _ _ vs (by rw [←q1.length]; exact hcl) (fun j v hj=>?_),q3⟩
     rw [World.cell?_drew,addr_add,q2 j (by rw [q1.length]; exact (Vy.1 hj).1)]
     exact hj
   have Gl:=J5.length
   have hr:=run_append_grow_src c.w t t2 o.type e i zv Dx hi yw ad cap cap r7 Nj (a.eval xx) m news hS (by omega) (h63 _ (by omega)) (hfit _ _ (by omega) (by omega))
   obtain⟨c',hw,hh,e',f',hv⟩:=f.grown hbs (e:=e) (C6 c L0) (grownCap_ge c.w (need:=cap+m) (old:=cap) (e:=e)) (VRs.append J5 HB) (fun v hv=>(VX.1 hv).elim (HC v) (hone v)) (by rw [VA,wJ,←Gl,hcl,Wz]) (s.h.alloc (.cells (cs++new))) (by rw [f.h]; simp [AHeap.alloc,AHeap.put,beq_nat]) (by rw [f.h]; exact Steady.put _ _ _) (by rw [f.h]; exact Wd _) (fun id hne=>.inr (by rw [f.h] at hne ⊢; simp [AHeap.alloc,AHeap.put,beq_nat,hne]))
   refine fin c' _ ?_ e' f' (by rw [←f.h]; exact hv)
   rw [yu,hw]
   exact hr
 | rs id off len ij=>
  rw [hq] at ha z8
  simp only [SR,VR] at z8
  simp only at ha
  split at ha
  ·rename_i hid
   rcases z8 with⟨_,hoff,KI,ad,yu⟩| z8
   rotate_left
   ·exact absurd hid z8.1
   split at ha
   ·cases ha
   rename_i hroom
   split at ha
   ·rename_i rS
    subst rS
    cases ha
    refine fin c (.slice ad 0 0) ?_ (Ext.refl _ _) f (by simp only [VR]; exact .inl ⟨hid,hoff,KI,ad,rfl⟩)
    rw [yu]
    exact hZ c.w Dx hi (Vv _) hS
   ·rename_i rS
    cases ha
    have hold:(Builtin.firstCells i.size 0 (.slice ad 0 0)).run P c.w.drew = .ok ([]:List Value).toArray c.w.drew:=by
     cases ad with
     | none=>exact run_firstCells_none _ _ _ _ _
     | some ad=>exact run_firstCells_some _ _ _ _ _ _ [] (by simp) (fun j v hj=>by simp at hj)
    have hr:=run_append_grow_src c.w t t2 o.type e i zv Dx hi yw ad 0 0 [] hold (a.eval xx) m news hS (by omega) (by rw [VO]; exact h63 _ (by omega)) (hfit _ _ (by omega) (by rw [VO]; omega))
    simp only [VO,V7] at hr
    obtain⟨c',hw,hh,e',f',hv⟩:=f.grown hbs (e:=e) (C6 c L0) (grownCap_ge c.w (need:=m) (old:=0) (e:=e)) HB hone wJ (s.h.alloc (.cells new)) (by rw [f.h]; simp [AHeap.alloc,AHeap.put,beq_nat]) (by rw [f.h]; exact Steady.put _ _ _) (by rw [f.h]; exact Wd _) (fun id hne=>.inr (by rw [f.h] at hne ⊢; simp [AHeap.alloc,AHeap.put,beq_nat,hne]))
    refine fin c' _ ?_ e' f' (by rw [←f.h]; exact hv)
    rw [yu,hw]
    exact hr
  rename_i j5
  rcases z8 with z8 | ⟨_,hid,ad,cap,yu,h1,h2,h3⟩
  ·exact absurd z8.1 j5
  simp only [Vp] at ha
  obtain⟨ob,hob,ha⟩:=ha
  cases ob with
  | map es=>cases ha
  | row t cs=>cases ha
  | cells cs=>
  simp only at ha
  split at ha
  ·cases ha
  rename_i hroom
  have tg:ij=i.size:=Decidable.byContradiction fun h=>hroom (.inl h)
  subst tg
  have hle:off+len*i.size≤cs.length:=Decidable.byContradiction fun h=>hroom (.inr (.inl (by omega)))
  rw [←f.h] at hob
  have hl:Live c.h id:=⟨f.rel.lt _ _ hob,by simp [hob]⟩
  obtain⟨q,hp,hm,hc⟩:=f.rel.obj _ _ hob
  split at ha
  ·rename_i rS
   subst rS
   cases ha
   refine fin c (.slice ad len cap) ?_ (Ext.refl _ _) f ?_
   ·rw [yu]
    exact hZ c.w Dx hi h1 hS
   ·simp only [VR]
    exact .inr ⟨j5,hid,ad,cap,rfl,h1,h2,h3⟩
  ·rename_i rS
   cases ha
   have hc2:=(hc.drop off).take (len*i.size)
   have Aa:((cs.drop off).take (len*i.size)).length=len*i.size:=by simp; omega
   obtain⟨r7,J5,Qk,HC⟩:=hc2.vals
   have Gl:=J5.length
   have hget:((s.h.kill id).put s.h.next (.cells ((cs.drop off).take (len*i.size)++new))).get c.h.next=some (.cells ((cs.drop off).take (len*i.size)++new)):=by rw [f.h]; simp [AHeap.put,beq_nat]
   have hnx:c.h.next<((s.h.kill id).put s.h.next (.cells ((cs.drop off).take (len*i.size)++new))).next:=by rw [f.h]; simp only [AHeap.put,AHeap.kill]; omega
   have hoth:∀kn,kn≠c.h.next→((s.h.kill id).put s.h.next (.cells ((cs.drop off).take (len*i.size)++new))).get kn=none∨((s.h.kill id).put s.h.next (.cells ((cs.drop off).take (len*i.size)++new))).get kn=c.h.get kn:=by
    intro kn hne
    rw [f.h] at hne ⊢
    by_cases h4:kn=id
    ·left; simp [AHeap.put,AHeap.kill,beq_nat,hne,h4]; rw [←h4]; simp [hne]
    ·right; simp [AHeap.put,AHeap.kill,beq_nat,hne,h4]
   by_cases Dz:len+m≤cap
   ·
    rcases h3 hl with⟨h4,h5⟩| h4
    rotate_left
    ·omega
    subst h4
    have KJ:c.len (c.β id).1=q:=by
     obtain⟨C,e',hb,qd⟩:=hp
     simp [Cx.len,World.shape?,hb,qd]
    rw [KJ] at h5
    have KK:(len+m)*i.size≤cap*i.size:=Wi _ Dz
    rw [Wz] at KK
    have KL:=hp
    obtain⟨C,e',hb,qd⟩:=hp
    have hr:=run_append_room_src c.w t t2 o.type e i Dx hi (c.β id).1 ((c.β id).2+off) len cap (a.eval xx) m news hS Dz
     (fun j hj=>by
      rw [cell_of_block hb]
      have:(c.β id).2+off+len*i.size+j<C.size:=by omega
      simp [this])
     (fun j hj=>uU KL.kc (by omega))
    have zT:ie c (c.β id).1 q:=KL
    obtain⟨q1,q2,q3,q4⟩:=gx news (c.β id).1 ((c.β id).2+off+len*i.size) c.w
    obtain⟨C',g1,g2,g3⟩:=fj news (c.β id).1 ((c.β id).2+off+len*i.size) c.w C e' (0,0) hb (by omega)
    have:=f.upd (w':=c.w.setCells (c.β id).1 ((c.β id).2+off+len*i.size) news) (β':=fun k=>if k=c.h.next then ((c.β id).1,(c.β id).2+off) else c.β k) (h':=(s.h.kill id).put s.h.next (.cells ((cs.drop off).take (len*i.size)++new))) c.h.next (.cells ((cs.drop off).take (len*i.size)++new))
     (by rw [f.h]; exact (Steady.kill _ _).trans (Steady.put _ _ _)) hnx hget (fun kn hne=>(hoth kn hne).imp (fun h=>h) (fun h=>⟨h,by simp [hne]⟩)) (fun h=>absurd h (Nat.lt_irrefl _))
     (.inr ⟨id,hl,by simp,.inr (by
      have:id≠s.h.next:=by rw [←f.h]; have:=hl.1; omega
      simp [AHeap.put,AHeap.kill,beq_nat,this])⟩)
     (fun _=>by simp [World.shape?,g1,Cx.len,hb,g2])
     (fun b _ hne=>dG _ _ _ _ _ (by simpa using hne)) (fun b _ hne=>dG _ _ _ _ _ (by simpa using hne)) (by rw [q1]; exact Vv _) hbs q2 q3 q4
     (fun ee=>by
      simp only [if_true]
      refine⟨q,zT.setCells (by omega) _ _ _,?_,?_⟩
      ·rw [VA,Aa,hnl,wJ]; omega
      ·refine Cells.of_vals (VRs.append (VRs.ext ee _ _ J5) (VRs.ext ee _ _ HB)) (fun j hj=>?_) (fun v hv=>(VX.1 hv).elim (HC v) (hone v))
       rw [cell_of_block g1,g3]
       rw [VA] at hj
       by_cases h6:j<r7.length
       ·rw [if_neg (by omega),←cell_of_block hb,VG h6]
        exact Qk j (by omega)
       ·rw [if_pos (by omega),VL (by omega)]
        congr 1
        omega)
    obtain⟨Ir,Su⟩:=this
    refine fin _ (.slice (some ⟨(c.β id).1,(c.β id).2+off,none⟩) (len+m) cap) ?_ Ir Su ?_
    ·rw [yu]; exact hr
    ·simp only [VR,←f.h]
     refine .inr ⟨(by have:=f.rel.ver 0; omega),by rw [←f.h] at hnx; exact hnx,_,_,rfl,Dz,rfl,fun _=>.inl ?_⟩
     simp only [if_true,WV,true_and]
     simp only [Cx.len,World.shape?,g1,Vw,Wl,g2]
     omega
   ·
    obtain⟨Nj⟩:Nonempty ((Builtin.firstCells i.size len (.slice ad len cap)).run P c.w.drew = .ok r7.toArray c.w.drew):=by
     rcases h3 hl with⟨h4,h5⟩| h4
     ·subst h4
      refine⟨run_firstCells_some _ _ _ _ _ _ r7 (by rw [←Gl,Aa]) (fun j v hj=>?_)⟩
      rw [World.cell?_drew,addr_add,Qk j (by rw [Gl]; exact (Vy.1 hj).1)]
      exact hj
     ·have hz:len=0:=by omega
      subst hz
      have:r7=[]:=V3 (by rw [←Gl,Aa]; simp)
      subst this
      cases ad with
      | none=>exact⟨run_firstCells_none _ _ _ _ _⟩
      | some ad=>exact⟨run_firstCells_some _ _ _ _ _ _ [] (by simp) (fun j v hj=>by simp at hj)⟩
    have hr:=run_append_grow_src c.w t t2 o.type e i zv Dx hi yw ad len cap r7 Nj (a.eval xx) m news hS (by omega) (h63 _ (by omega)) (hfit _ _ (by omega) (by omega))
    obtain⟨c',hw,hh,e',f',hv⟩:=f.grown hbs (e:=e) (C6 c L0) (grownCap_ge c.w (need:=len+m) (old:=cap) (e:=e)) (VRs.append J5 HB) (fun v hv=>(VX.1 hv).elim (HC v) (hone v)) (by rw [VA,wJ,←Gl,Aa,Wz]) _ hget (by rw [f.h]; exact (Steady.kill _ _).trans (Steady.put _ _ _)) hnx hoth
    refine fin c' _ ?_ e' f' (by rw [←f.h]; exact hv)
    rw [yu,hw]
    exact hr
 | _=>rw [hq] at ha; simp only at ha; cases ha
end
end Go.R
