/- Part of the proof: RSrt, RGS, QW, Q119, Q118, PS1, Q114, Q106, Q93, Q107, Q94, Q95, Q96, Q76, Q55, Q38, Q54, Q36, PT6. -/
import Derived.Test.YtmekcfdllhphlaaGreatDoorK6
import Derived.Shelf.Sort.Plain
import Derived.Shelf.Slices.In.SortNone
import Derived.Shelf.Slices.CompactI
import Derived.Test.YtmekcfdllhphlaaGreatDoorProg
set_option linter.unusedVariables false
set_option linter.unusedSimpArgs false
set_option maxRecDepth 100000
open Array renaming getElem?_eq_some_iff → abc, getElem?_modify → abN, getElem?_eq_getElem → ab2
open Bool renaming and_eq_true → aaF, or_eq_true → abt, true_and → abW
open ByteArray renaming mk → aaT
open Int renaming toNat_natCast → aaH, fdiv_eq_ediv_of_nonneg → ach
open List renaming length_append → aaI, getElem?_eq_some_iff → aaK, getElem?_eq_getElem → aaL, append_assoc → aaM, drop_eq_getElem_cons → aaP, length_cons → aaR, drop_eq_nil_of_le → aaU, replicate → aaV, getD_eq_getElem?_getD → aaW, length_map → aaX, getElem?_append_right → aaY, cons_append → aa0, getElem?_eq_none → aa1, drop_zero → aa3, take_of_length_le → aa4, nil_append → aa5, map_cons → aa6, take_append_of_le_length → aa7, map_append → aa8, getElem_mem → abe, getElem?_append_left → abf, length_nil → abg, getElem?_map → abi, getElem?_cons_zero → abk, eq_nil_of_length_eq_zero → abn, all_cons → abA, ext_getElem? → abF, mem_of_getElem? → abI, length_take → abP, getElem?_set → ab5, length_replicate → acg, length → ack
open Nat renaming le_trans → abj, add_sub_cancel_left → abH, lt_succ_of_lt → abK
open Option renaming bind_some → aaA, bind_eq_some_iff → aaB, map_eq_some_iff → aaC, map_some → aaG, getD_some → aby
open Option.some renaming injEq → aaD, inj → aa2
open Or renaming inr → abD, inl → abM
open Prod.mk renaming injEq → aaJ
namespace Go.R
open Go Go.Proofs Go.Shelf Go.RowKit Go.Sort
def nG:List AV→Option (List Int)
 | []=>some []
 | .int .i64 z::xs=>(nG xs).map fun l=>z::l
 | _=>none
theorem ll:∀{xs:List AV} {l:List Int},nG xs=some l→xs=l.map fun z=>.int .i64 z
 | [],l,h=>by cases h; rfl
 | x::xs,l,h=>by
  unfold nG at h
  split at h
  ·rename_i e; cases e
  ·rename_i z ys e
   obtain⟨rfl,rfl⟩:=List.cons.inj e
   obtain⟨l',h1,rfl⟩:=aaC.1 h
   rw [ll h1]; rfl
  ·cases h
theorem pD:∀l:List Int,nG (l.map fun z=>.int .i64 z)=some l
 | []=>rfl
 | z::l=>by simp only [aa6,nG,pD l,aaG]
def gQ (l:List Int):List Int:=l.mergeSort fun x y=>decide (x≤y)
def te (l:List Int):List Int:=Lib.compact l++aaV (l.length - (Lib.compact l).length) 0
noncomputable def NB (args:List AV)(h:AHeap):Option (AV × AHeap):=
 match args with
 | [.rs id 0 n 1]=>if n=0 then some (.tup [],h) else (h.get id).bind fun
  | .cells cs=>if n≤cs.length∧n<4611686018427387904 then (nG (cs.take n)).map fun l=>(.tup [],h.put id (.cells ((gQ l).map (fun z=>.int .i64 z)++cs.drop n))) else none
  | _=>none
 | _=>none
noncomputable def NC (args:List AV)(h:AHeap):Option (AV × AHeap):=
 match args with
 | [.rs id 0 n 1]=>if n=0 then some (.rs id 0 n 1,h) else (h.get id).bind fun
  | .cells cs=>if n≤cs.length∧n<4611686018427387904 then (nG (cs.take n)).map fun l=>(.rs id 0 (Lib.compact l).length 1,h.put id (.cells ((te l).map (fun z=>.int .i64 z)++cs.drop n))) else none
  | _=>none
 | _=>none
theorem F3:∀args h r h',NB args h=some (r,h')→Steady h h':=by
 intro args h r h' hs
 unfold NB at hs
 split at hs
 ·split at hs
  ·cases hs; exact Steady.refl _
  ·rw [aaB] at hs
   obtain⟨o,_,hs⟩:=hs
   split at hs
   ·split at hs
    ·obtain⟨l,_,hs⟩:=aaC.1 hs
     cases hs; exact Steady.put _ _ _
    ·cases hs
   ·cases hs
 ·cases hs
theorem F4:∀args h r h',NC args h=some (r,h')→Steady h h':=by
 intro args h r h' hs
 unfold NC at hs
 split at hs
 ·split at hs
  ·cases hs; exact Steady.refl _
  ·rw [aaB] at hs
   obtain⟨o,_,hs⟩:=hs
   split at hs
   ·split at hs
    ·obtain⟨l,_,hs⟩:=aaC.1 hs
     cases hs; exact Steady.put _ _ _
    ·cases hs
   ·cases hs
 ·cases hs
section
variable {c:Cx}{L0:Nat→Prop}
theorem xY (hrel:HRel c L0){id n:Nat}{cs:List AV}{l:List Int}(hid:c.h.get id=some (.cells cs))(hl:nG (cs.take n)=some l):Holds (Value.int .i64) c.w (c.β id).1 (c.β id).2 l.toArray:=by
 obtain⟨m,⟨C,T,hC,hn⟩,hle,hcl⟩:=hrel.obj _ _ hid
 intro j hj
 have hj:j<l.length:=by simpa using hj
 have hx:cs[j]? = some (.int .i64 l[j]):=by
  have h1:(cs.take n)[j]? = some (.int .i64 l[j]):=by rw [ll hl,abi,aaL hj]; rfl
  rw [List.getElem?_take] at h1
  split at h1
  ·exact h1
  ·cases h1
 obtain⟨v,h1,_,h3⟩:=hcl.get' j _ hx
 simp only [VR] at h3
 subst h3
 refine⟨by rw [h1]; simp [hj],by simp [World.frozen?,hC]⟩
theorem D8 (hrel:HRel c L0)(hbs:c.base≤c.w.heap.size){id n:Nat}{cs:List AV}{new:List Int}(hid:c.h.get id=some (.cells cs))(hn:n≤cs.length)(hnew:new.length=n)(q:Nat)(os:Array Obj) :
  let w':=grow (putRow (Value.int .i64) (Sort.ahead c.w q) (c.β id).1 (c.β id).2 new.toArray) os
  let c':Cx:=⟨c.β,c.h.put id (.cells (new.map (fun z=>.int .i64 z)++cs.drop n)),w',c.base⟩
  HRel c' L0∧Ext c none0 c' none0∧c'.len (c.β id).1=c.len (c.β id).1:=by
 intro w' c'
 have hun:un L0 none0=L0:=by funext b; simp [un,none0]
 have f:=Fr.none hrel
 obtain⟨m,⟨C,T,hC,hm⟩,hle,hcl⟩:=hrel.obj _ _ hid
 have hlive:Live c.h id:=⟨hrel.lt _ _ hid,by rw [hid]; rfl⟩
 have hblt:(c.β id).1<c.w.heap.size:=(abc.1 hC).1
 have wW:∀k,k<c.w.heap.size→w'.heap[k]? = if k=(c.β id).1 then some (.cells (putCells (Value.int .i64) (c.β id).2 new.toArray C) T (0,0)) else c.w.heap[k]?:=fun k hk=>by
  show (grow _ os).heap[k]? = _
  rw [heap_grow_old _ _ (by simp [putRow,mapBlock,Sort.ahead]; exact hk)]
  by_cases h:k=(c.β id).1
  ·subst h; simp [putRow,mapBlock,Sort.ahead,abN,hC,onCells]
  ·have h2:(c.β id).1≠k:=fun e=>h e.symm
   simp [putRow,mapBlock,Sort.ahead,abN,h,h2]
 have xC:w'.heap[(c.β id).1]? = some (.cells (putCells (Value.int .i64) (c.β id).2 new.toArray C) T (0,0)):=by rw [wW _ hblt,if_pos rfl]
 have hsz:(putCells (Value.int .i64) (c.β id).2 new.toArray C).size=C.size:=by simp [putCells]
 have hlen:((w'.shape? (c.β id).1).map (·.2)).getD 0=c.len (c.β id).1:=by
  simp only [Cx.len,World.shape?,xC,hC,aaG,aby,hsz]
 have Qh:c.w.heap.size≤w'.heap.size:=by
  show _≤(grow _ os).heap.size
  simp [grow,putRow,mapBlock,Sort.ahead]
 obtain⟨e2,f2⟩:=f.upd (w':=w') (β':=c.β) (h':=c.h.put id (.cells (new.map (fun z=>.int .i64 z)++cs.drop n))) id (.cells (new.map (fun z=>.int .i64 z)++cs.drop n)) (Steady.put _ _ _) (abK hlive.1) (by simp [AHeap.put,beq_nat])
  (fun j hj=>.inr ⟨by simp [AHeap.put,beq_nat,hj],rfl⟩) (fun _=>⟨hlive,rfl⟩) (.inr ⟨id,hlive,rfl,.inl rfl⟩)
  (fun _=>hlen) (fun k hk hne=>by rw [wW k hk,if_neg hne]) (fun k hk hne=>by rw [wW k (by omega),if_neg hne]) Qh hbs rfl rfl rfl
  (fun ee=>by
   refine⟨C.size,⟨_,T,xC,hsz⟩,by rw [aaI,aaX,List.length_drop,hnew]; omega,?_⟩
   rw [Cells.iff]
   intro i x hx
   show ∃v,w'.cell? _=some v∧_
   rw [cell_of_block xC]
   have hi:i<cs.length:=by
    have:=(aaK.1 hx).1
    rw [aaI,aaX,List.length_drop,hnew] at this; omega
   have YA:(putCells (Value.int .i64) (c.β id).2 new.toArray C)[(c.β id).2+i]? = C[(c.β id).2+i]?.map fun x=>if (c.β id).2≤(c.β id).2+i∧(c.β id).2+i<(c.β id).2+new.toArray.size then Value.int .i64 new.toArray[(c.β id).2+i - (c.β id).2]! else x:=by
    unfold putCells; rw [Array.getElem?_mapIdx]
   rw [YA]
   by_cases h:i<n
   ·rw [abf (by rw [aaX,hnew]; exact h),abi,aaL (by omega)] at hx
    simp only [aaG,aaD] at hx
    subst hx
    have YB:(c.β id).2+i<C.size:=by omega
    rw [ab2 YB]
    refine⟨.int .i64 new[i],?_,rfl,by simp [VR]⟩
    simp only [aaG,aaD]
    rw [if_pos ⟨by omega,by simp [hnew]; exact h⟩,abH]
    simp [show i<new.length by omega]
   ·rw [aaY (by rw [aaX,hnew]; omega),aaX,hnew,List.getElem?_drop,show n+(i - n)=i by omega] at hx
    obtain⟨v,v1,v2,v3⟩:=hcl.get' i x hx
    rw [cell_of_block hC] at v1
    refine⟨v,?_,v2,?_⟩
    ·rw [v1]
     simp only [aaG,aaD]
     rw [if_neg (by simp [hnew]; omega)]
    ·have:=VR.ext ee (L0:=L0) x v (by rw [hun]; exact v3)
     exact this)
 exact⟨by have:=f2.rel; rwa [hun] at this,e2,hlen⟩
end
section
variable {P:Program}{ρ:Ren}
theorem Qi (L:Lays.n189 P ρ)(henter:∀(vs:Array Value) (w:World),(callFunc (ρ.f 189) vs).run P w = .ok (.enter (ρ.f 189) vs) w) :
  CallOK P fun f' args h=>if f'=ρ.f 189 then NB args h else none:=by
 intro f args h r h' hc
 dsimp only at hc
 split at hc
 rotate_left
 ·cases hc
 rename_i hf
 subst hf
 refine⟨henter,fun L0 c vs hh hb0 hrel hargs=>?_⟩
 subst hh
 unfold NB at hc
 split at hc
 rotate_left
 ·cases hc
 rename_i id n
 match vs,hargs with
 | [v1],⟨q1,_⟩=>
 split at hc
 ·rename_i hn
  subst hn
  cases hc
  have hs:∃a cap,v1 = .slice a 0 cap:=by
   simp only [VR] at q1
   rcases q1 with⟨_,_,_,a,rfl⟩| ⟨_,_,a,cap,rfl,_⟩
   ·exact⟨a,0,rfl⟩
   ·exact⟨a,cap,rfl⟩
  obtain⟨a,cap,rfl⟩:=hs
  refine (Any.slices_Sort_int_none L a cap c.w).mono ?_
  rintro e w' ⟨rfl,rfl⟩
  exact⟨c,_,rfl,rfl,rfl,by simp only [VR]; exact⟨#[],rfl,trivial⟩,hrel,Ext.refl _ _⟩
 ·rename_i hn
  rw [aaB] at hc
  obtain⟨o,hid,hc⟩:=hc
  split at hc
  rotate_left
  ·cases hc
  rename_i cs
  split at hc
  rotate_left
  ·cases hc
  rename_i hle
  obtain⟨l,hl,he⟩:=aaC.1 hc
  simp only [aaJ] at he
  obtain⟨rfl,rfl⟩:=he
  have hlive:Live c.h id:=⟨hrel.lt _ _ hid,by rw [hid]; rfl⟩
  have hll:l.length=n:=by
   have:=congrArg ack (ll hl)
   rw [aaX,abP] at this; omega
  simp only [VR] at q1
  rcases q1 with⟨_,_,h0,_⟩| ⟨_,_,a,cap,rfl,h1,h2,h3⟩
  ·exact absurd h0 hn
  rcases h3 hlive with⟨rfl,h4⟩| h4
  rotate_left
  ·omega
  have hc:=Any.slices_Sort_int L (c.β id).1 (c.β id).2 cap l c.w (xY hrel hid hl) (hrel.block hlive) (by omega)
  rw [hll] at hc
  refine hc.mono ?_
  rintro e w' ⟨rfl,q,os,rfl⟩
  have hsl:(gQ l).length=n:=by unfold gQ; rw [List.length_mergeSort,hll]
  obtain⟨g1,g2,_⟩:=D8 hrel hb0 hid hle.1 hsl q os
  exact⟨_,_,rfl,rfl,rfl,by simp only [VR]; exact⟨#[],rfl,trivial⟩,g1,g2⟩
theorem Qj (L:Lays2.n20 P ρ)(henter:∀(vs:Array Value) (w:World),(callFunc (ρ.f 20) vs).run P w = .ok (.enter (ρ.f 20) vs) w) :
  CallOK P fun f' args h=>if f'=ρ.f 20 then NC args h else none:=by
 intro f args h r h' hc
 dsimp only at hc
 split at hc
 rotate_left
 ·cases hc
 rename_i hf
 subst hf
 refine⟨henter,fun L0 c vs hh hb0 hrel hargs=>?_⟩
 subst hh
 unfold NC at hc
 split at hc
 rotate_left
 ·cases hc
 rename_i id n
 match vs,hargs with
 | [v1],⟨q1,_⟩=>
 split at hc
 ·rename_i hn
  subst hn
  cases hc
  have q2:=q1
  have hs:∃a cap,v1 = .slice a 0 cap:=by
   simp only [VR] at q1
   rcases q1 with⟨_,_,_,a,rfl⟩| ⟨_,_,a,cap,rfl,_⟩
   ·exact⟨a,0,rfl⟩
   ·exact⟨a,cap,rfl⟩
  obtain⟨a,cap,rfl⟩:=hs
  refine (Any.slices_Compact_int_empty L a cap c.w).mono ?_
  rintro e w' ⟨rfl,rfl⟩
  exact⟨c,_,rfl,rfl,rfl,q2,hrel,Ext.refl _ _⟩
 ·rename_i hn
  rw [aaB] at hc
  obtain⟨o,hid,hc⟩:=hc
  split at hc
  rotate_left
  ·cases hc
  rename_i cs
  split at hc
  rotate_left
  ·cases hc
  rename_i hle
  obtain⟨l,hl,he⟩:=aaC.1 hc
  simp only [aaJ] at he
  obtain⟨rfl,rfl⟩:=he
  have hlive:Live c.h id:=⟨hrel.lt _ _ hid,by rw [hid]; rfl⟩
  have hll:l.length=n:=by
   have:=congrArg ack (ll hl)
   rw [aaX,abP] at this; omega
  simp only [VR] at q1
  rcases q1 with⟨_,_,h0,_⟩| ⟨SW,YC,a,cap,rfl,h1,h2,h3⟩
  ·exact absurd h0 hn
  rcases h3 hlive with⟨rfl,h4⟩| h4
  rotate_left
  ·omega
  have hc:=Any.slices_Compact_int L (c.β id).1 (c.β id).2 cap l c.w (xY hrel hid hl) (by omega) (by omega)
  rw [hll] at hc
  refine hc.mono ?_
  rintro e w' ⟨rfl,q,rfl⟩
  have hcl:(Lib.compact l).length≤l.length:=by
   unfold Lib.compact Lib.compactUpTo
   rw [aaX]
   exact abj (List.length_filter_le _ _) (by simp)
  have hsl:(te l).length=n:=by unfold te; rw [aaI,acg]; omega
  have hw:putRow (Value.int .i64) (Sort.ahead c.w q) (c.β id).1 (c.β id).2 (Lib.compact l++aaV (n - (Lib.compact l).length) 0).toArray=grow (putRow (Value.int .i64) (Sort.ahead c.w q) (c.β id).1 (c.β id).2 (te l).toArray) #[]:=by
   rw [grow_empty]; unfold te; rw [hll]
  rw [hw]
  obtain⟨g1,g2,g3⟩:=D8 hrel hb0 hid hle.1 hsl q #[]
  refine⟨_,_,rfl,rfl,rfl,?_,g1,g2⟩
  simp only [VR]
  exact .inr ⟨SW,abK hlive.1,_,cap,rfl,by omega,rfl,fun _=>.inl ⟨rfl,by rw [g3]; exact h4⟩⟩
end
end Go.R
namespace Go.R
open Go
def L5 (cf:CallF)(f:FuncId):Prop:=∀args h,cf f args h=NB args h
def L6 (cf:CallF)(f:FuncId):Prop:=∀args h,cf f args h=NC args h
theorem mH (l:List Int):aa.l l=l.map fun z=>.int .i64 z:=by
 induction l with
 | nil=>rfl
 | cons a l ih=>rw [da.eF,ih]; rfl
theorem sb (l:List Int):(gQ l).length=l.length:=by unfold gQ; rw [List.length_mergeSort]
theorem AW (l:List Int):(Lib.compact l).length≤l.length:=by
 unfold Lib.compact Lib.compactUpTo
 rw [aaX]
 exact abj (List.length_filter_le _ _) (by simp)
section
variable {h:AHeap}{L:Mem}{i n:Nat}{l:List Int}{cf:CallF}{f:FuncId}
theorem D9 (o:Has h ((i,.sl n 1 (aa.l l))::L))(hn:n≠0):n=l.length∧i≠0∧l.length<4611686018427387904∧∃rest,h.get i=some (.cells (l.map (fun z=>.int .i64 z)++rest)):=by
 obtain⟨⟨⟨h1,h2⟩,h3⟩,_⟩:=o.at_ 0 _ _ rfl
 have hl:(aa.l l).length=l.length:=by rw [mH,aaX]
 rw [hl] at h1 h2
 rcases h3 with⟨_,h⟩| ⟨h,rest,h4⟩
 ·exact absurd h hn
 ·rw [mH] at h4
  exact⟨by omega,h,by omega,rest,h4⟩
theorem HX (o:Has h ((i,.sl 0 1 (aa.l l))::L)):l=[]:=by
 obtain⟨⟨⟨h1,_⟩,_⟩,_⟩:=o.at_ 0 _ _ rfl
 rw [mH,aaX] at h1
 exact abn (by omega)
theorem ND (S:L5 cf f)(o:Has h ((i,.sl n 1 (aa.l l))::L)):∃h',cf f [.rs i 0 n 1] h=some (.tup [],h')∧Has h' ((i,.sl n 1 (aa.l (gQ l)))::L):=by
 rw [S]
 by_cases hn:n=0
 ·subst hn
  have:=HX o
  subst this
  have e:gQ []=[]:=by simp [gQ]
  exact⟨h,rfl,by rw [e]; exact o⟩
 ·obtain⟨h1,h2,h3,rest,h4⟩:=D9 o hn
  subst h1
  have et:(l.map (fun z=>AV.int .i64 z)++rest).take l.length=l.map fun z=>AV.int .i64 z:=by
   rw [aa7 (by simp),aa4 (by simp)]
  have ed:(l.map (fun z=>AV.int .i64 z)++rest).drop l.length=rest:=by
   have:=List.drop_left (l₁:=l.map fun z=>AV.int .i64 z) (l₂:=rest)
   rwa [aaX] at this
  refine⟨h.put i (.cells ((gQ l).map (fun z=>.int .i64 z)++rest)),?_,?_⟩
  ·unfold NB
   simp only
   rw [if_neg hn,h4,aaA]
   simp only
   rw [if_pos ⟨by simp,h3⟩,et,pD,aaG,ed]
  ·refine jv (q:=0) o rfl (ob:=.cells ((gQ l).map (fun z=>.int .i64 z)++rest)) (c':=.sl l.length 1 (aa.l (gQ l))) ⟨⟨?_,?_⟩,.inr ⟨h2,rest,by rw [cU,if_pos rfl,mH]⟩⟩
   ·rw [mH,aaX,sb]; omega
   ·have:=(o.at_ 0 _ _ rfl).1.1.2
    rw [mH,aaX] at this ⊢
    rw [sb]; exact this
theorem NF (S:L6 cf f)(o:Has h ((i,.sl n 1 (aa.l l))::L)):∃h',cf f [.rs i 0 n 1] h=some (.rs i 0 (Lib.compact l).length 1,h')∧Has h' ((i,.sl (Lib.compact l).length 1 (aa.l (Lib.compact l)))::L):=by
 rw [S]
 by_cases hn:n=0
 ·subst hn
  have:=HX o
  subst this
  have e:Lib.compact ([]:List Int)=[]:=by simp [Lib.compact,Lib.compactUpTo]
  rw [e]
  exact⟨h,rfl,o⟩
 ·obtain⟨h1,h2,h3,rest,h4⟩:=D9 o hn
  subst h1
  have et:(l.map (fun z=>AV.int .i64 z)++rest).take l.length=l.map fun z=>AV.int .i64 z:=by
   rw [aa7 (by simp),aa4 (by simp)]
  have ed:(l.map (fun z=>AV.int .i64 z)++rest).drop l.length=rest:=by
   have:=List.drop_left (l₁:=l.map fun z=>AV.int .i64 z) (l₂:=rest)
   rwa [aaX] at this
  refine⟨h.put i (.cells ((te l).map (fun z=>.int .i64 z)++rest)),?_,?_⟩
  ·unfold NC
   simp only
   rw [if_neg hn,h4,aaA]
   simp only
   rw [if_pos ⟨by simp,h3⟩,et,pD,aaG,ed]
  ·have hle:=AW l
   refine jv (q:=0) o rfl (ob:=.cells ((te l).map (fun z=>.int .i64 z)++rest)) (c':=.sl (Lib.compact l).length 1 (aa.l (Lib.compact l))) ⟨⟨?_,?_⟩,.inr ⟨h2,(aaV (l.length - (Lib.compact l).length) 0).map (fun z=>.int .i64 z)++rest,by rw [cU,if_pos rfl,mH]; unfold te; rw [aa8,aaM]⟩⟩
   ·rw [mH,aaX]; omega
   ·have:=(o.at_ 0 _ _ rfl).1.1.2
    rw [mH,aaX] at this ⊢
    omega
end
end Go.R
namespace Go.Proofs.YtmekcfdllhphlaaGreatDoor
open Go Go.R
open Go.IntKind (i64 u64 u8 u32)
structure eA where
 bO:List Int
 aK:Bool
structure ao where
 bO:List Int
 dw:Int
 aK:Bool
theorem tg:w9 Tryz.prog 22 1 1=true:=by kernel_rfl
theorem xZ:w9 Tryz.prog 24 2 32=true:=by kernel_rfl
theorem dK:w9 Tryz.prog 28 1 8=true:=by kernel_rfl
theorem mj:w9 Tryz.prog 42 4 56=true:=by kernel_rfl
theorem YD:w9 Tryz.prog 64 1 24=true:=by kernel_rfl
theorem xf:w9 Tryz.prog 116 1 1=true:=by kernel_rfl
theorem A3:fG Tryz.prog 3=some false:=by kernel_rfl
theorem A4:fG Tryz.prog 4=some false:=by kernel_rfl
theorem A5:fG Tryz.prog 5=some false:=by kernel_rfl
theorem YE:fG Tryz.prog 22=some false:=by kernel_rfl
theorem Qk:fG Tryz.prog 28=some false:=by kernel_rfl
theorem OV:fG Tryz.prog 42=some false:=by kernel_rfl
theorem J7:fG Tryz.prog 44=some true:=by kernel_rfl
theorem th:fG Tryz.prog 56=some true:=by kernel_rfl
theorem Z3:fe Tryz.prog 3=some 1:=by kernel_rfl
theorem Z4:fe Tryz.prog 4=some 1:=by kernel_rfl
theorem YF:fe Tryz.prog 28=some 1:=by kernel_rfl
theorem J8:fe Tryz.prog 44=some 2:=by kernel_rfl
theorem ti:fe Tryz.prog 56=some 4:=by kernel_rfl
theorem U9:Tryz.prog.underlying 9=some .string:=by kernel_rfl
theorem L7:AP Tryz.prog 110=true:=by kernel_rfl
theorem Ea:AQ Tryz.prog 132 9=true:=by kernel_rfl
theorem HY:Tryz.prog.underlying 132=some (.map 134 3):=by kernel_rfl
theorem ya:FW Tryz.prog 134 9=true:=by kernel_rfl
def kb.f (m:Nat):Option Bool:=some true
def S5 (cf:CallF)(m:Nat):Prop:=∀r:Bool,kb.f m=some r→∀h xs,eR fh h xs []→cf 5 xs h=some (.bool r,h)
def Wf (cf:CallF)(m:Nat):Prop:=L5 cf 31
def Wg (cf:CallF)(m:Nat):Prop:=L6 cf 32
def Ql (cf:CallF)(m:Nat):Prop:=D3 cf 56 5
def Wh (cf:CallF)(m:Nat):Prop:=HO cf 59 5
def Qm (cf:CallF)(m:Nat):Prop:=HN cf 103 5
end Go.Proofs.YtmekcfdllhphlaaGreatDoor
namespace Go.Proofs.YtmekcfdllhphlaaGreatDoor
open Go Go.R
open Go.IntKind (i64 u64 u8 u32)
def vF:b9:=gm [0,1,2,3,10,13] [] [32,0,32,32] [] []
def cq.l0 (m:Nat)(a0:Int)(b0:Int)(n0:Int):Nat→(List Int)→Int→Option ((List Int) × Int)
 | 0,_,_=>none
 | k+1,bI,i0=>if (decide (i0<n0))=true then ((ix bI (i64.wrap (b0+i0))).bind fun v0=>(ix bI (i64.wrap (a0+i0))).bind fun v1=>(ix bI (i64.wrap (a0+i0))).bind fun v2=>(ix (bI.set (i64.wrap (a0+i0)).toNat v0) (i64.wrap (b0+i0))).bind fun v3=>cq.l0 m a0 b0 n0 k ((bI.set (i64.wrap (a0+i0)).toNat v0).set (i64.wrap (b0+i0)).toNat v1) (i64.wrap (i0+(1:Int)))) else (some ((bI,i0)))
def cq.f (m:Nat)(aw:List Int)(a0:Int)(b0:Int)(n0:Int)(a6:Int→Int→Option (Int)):Option ((List Int)):=(cq.l0 m a0 b0 n0 m aw (0:Int)).bind fun aF=>match aF with | (dE,i1)=>some dE
def cq.fin (L:Mem)(az:Nat)(aw:List Int)(a0:Int)(b0:Int)(n0:Int)(a6:Int→Int→Option (Int))(r:(List Int))(s:St):Prop:=aH Tryz.prog (s.open vF) Tryz.f119.results.toList=some (.tup [])∧Has s.h ((az,.sl aw.length 1 (aa.l r))::L)
def NG (cf:CallF)(m:Nat):Prop:=∀(aw:List Int) (a0:Int) (b0:Int) (n0:Int) (a6:Int→Int→Option (Int)) (r:(List Int)),cq.f m aw a0 b0 n0 a6=some r→∀h L (dh:Nat) (az:Nat),Has h ((az,.sl dh 1 (aa.l aw))::L)→∀(eZ:FuncId) (bl:List AV),aC (.fn eZ bl) = .fn eZ bl→(∀h K,Has h (K++L)→∀(a0:Int) (a1:Int) r,a6 a0 a1=some r→cf eZ ([.int .i64 a0,.int .i64 a1]++bl) h=some (.int .i64 r,h))→∀xs,xs.map aC=[.rs az 0 dh 1,.int .i64 a0,.int .i64 b0,.int .i64 n0,.fn eZ bl]→∃h',cf 119 xs h=some (.tup [],h')∧Has h' ((az,.sl dh 1 (aa.l r))::L)
section
variable {cf:CallF}{m:Nat}
theorem cq.bu (L:Mem)(az:Nat)(eZ:FuncId)(bl:List AV)(aw:List Int)(a0:Int)(b0:Int)(n0:Int)(a6:Int→Int→Option (Int))  (ir:aC (.fn eZ bl) = .fn eZ bl)(iS:∀h K,Has h (K++L)→∀(a0:Int) (a1:Int) r,a6 a0 a1=some r→cf eZ ([.int .i64 a0,.int .i64 a1]++bl) h=some (.int .i64 r,h))  : bC Tryz.prog cf vF m (sub [1,0,0] (codeOf Tryz.f119)) (fun k (σ:(List Int) × Int)=>cq.l0 m a0 b0 n0 k σ.1 σ.2) (fun σ s=>match σ with | (bI,i0)=>∃h0,s=⟨[.rs az 0 aw.length 1,.int .i64 a0,.int .i64 b0,.int .i64 n0,.int .i64 i0,.any],[],h0⟩∧Has h0 ((az,.sl aw.length 1 (aa.l bI))::L)) (fun out e s=>(e = .exit 0∧∃bI i0,(bI,i0)=out∧∃kM qM F5 tG pE pF h0,s=⟨[kM,qM,F5,tG,pE,pF],[],h0⟩∧Has h0 ((az,.sl aw.length 1 (aa.l bI))::L))):=by
 refine gk (fun _=>rfl) ?_
 rintro k ⟨bI,i0⟩ s out ⟨h0,rfl,o0⟩ H
 have H:cq.l0 m a0 b0 n0 (k+1) bI i0=some out:=H
 refine qq <| qq <| q0 <| qc H (fun c0 H=>?_) (fun c0 H=>?_)
 ·refine qk <| qq <| qb 1 ?_
  obtain⟨v0,e0,H⟩:=aG H
  obtain⟨v1,e1,H⟩:=aG H
  obtain⟨v2,e2,H⟩:=aG H
  obtain⟨h1,e3,o1⟩:=eG (P:=Tryz.prog) (tf:=3) (E:=aa) (l:=bI) (q:=0) (v:=v0) (x:=.int .i64 v0) o0 rfl Z3 e2 rfl rfl
  obtain⟨v3,e4,H⟩:=aG H
  obtain⟨h2,e5,o2⟩:=eG (P:=Tryz.prog) (tf:=3) (E:=aa) (l:=(bI.set (i64.wrap (a0+i0)).toNat v0)) (q:=0) (v:=v1) (x:=.int .i64 v1) o1 rfl Z3 e4 rfl rfl
  exact qr [.v 12 (aJ (k:=.i64) (E:=aa) (l:=bI) (q:=0) dK o0 rfl e0),.v 13 (bA  (E:=aa) (l:=bI) (q:=0) o0 rfl A3 e0 rfl),.v 18 (aJ (k:=.i64) (E:=aa) (l:=bI) (q:=0) dK o0 rfl e1),.v 19 (bA  (E:=aa) (l:=bI) (q:=0) o0 rfl A3 e1 rfl),.v 20 (aJ (k:=.i64) (E:=aa) (l:=bI) (q:=0) dK o0 rfl e2),.w 21 e3,.v 22 (aJ (k:=.i64) (E:=aa) (l:=(bI.set (i64.wrap (a0+i0)).toNat v0)) (q:=0) dK o1 rfl e4),.w 23 e5] <| q0 <| ⟨((bI.set (i64.wrap (a0+i0)).toNat v0).set (i64.wrap (b0+i0)).toNat v1,i64.wrap (i0+(1:Int))),⟨h2,by kernel_rfl,o2⟩,H⟩
 ·exact qx 0 <| ⟨rfl,bI,i0,oi H,.rs az 0 aw.length 1,.int .i64 a0,.int .i64 b0,.int .i64 n0,.int .i64 i0,.bool (decide (i0<n0)),h0,by kernel_rfl,o0⟩
theorem tH {aV:FuncId→b9}(ha:aV 119=vF)  (aw:List Int)(a0:Int)(b0:Int)(n0:Int)(a6:Int→Int→Option (Int))(h:AHeap)(L:Mem)(az:Nat)(eZ:FuncId)(bl:List AV)  (ir:aC (.fn eZ bl) = .fn eZ bl)(iS:∀h K,Has h (K++L)→∀(a0:Int) (a1:Int) r,a6 a0 a1=some r→cf eZ ([.int .i64 a0,.int .i64 a1]++bl) h=some (.int .i64 r,h))(o:Has h ((az,.sl aw.length 1 (aa.l aw))::L)){out:(List Int)}(H:cq.f m aw a0 b0 n0 a6=some out) :
  ∃r h',bg Tryz.prog aV cf m 119 [.rs az 0 aw.length 1,.int .i64 a0,.int .i64 b0,.int .i64 n0,.fn eZ bl] h=some (r,h')∧r = .tup []∧Has h' ((az,.sl aw.length 1 (aa.l out))::L):=by
 refine aj (fn:=Tryz.f119) ha Tryz.func119 (by kernel_rfl) (by kernel_rfl) ?_
 refine aD (Q:=fun s=>cq.fin L az aw a0 b0 n0 a6 out s) (fun _ _ ⟨h1,h2,h3⟩=>⟨h1,_,h2,rfl,h3⟩) ?_
 have H:_=some out:=H
 unfold cq.f at H
 show dA _ cf vF m _ ⟨[.rs az 0 aw.length 1,.int .i64 a0,.int .i64 b0,.int .i64 n0,.any,.any],[],h⟩ _
 refine q1 <| qb 0 ?_
 obtain⟨aF,e6,H⟩:=aG H
 refine ql (cq.bu L az eZ bl aw a0 b0 n0 a6  ir iS  (aw,(0:Int)) _ _ ⟨h,by kernel_rfl,o⟩ e6) ?_
 rintro e s ⟨rfl,dE,i1,rfl,g0,g1,g2,g3,g4,g5,h3,rfl,o3⟩
 try dsimp only at H
 obtain rfl:=oi H
 exact⟨.inr rfl,⟨by kernel_rfl,he o3⟩⟩
end
end Go.Proofs.YtmekcfdllhphlaaGreatDoor
namespace Go.Proofs.YtmekcfdllhphlaaGreatDoor
open Go Go.R
open Go.IntKind (i64 u64 u8 u32)
def vG:b9:=gm [0,1,2,3,4,10,11,20,23] [] [450,394,266,138,394,394,394,394,511] [] []
def fw.l0 (m:Nat)(m0:Int)(a6:Int→Int→Option (Int)):Nat→(List Int)→Int→Int→Option ((List Int) × Int × Int)
 | 0,_,_,_=>none
 | k+1,bI,i0,j0=>if (!(i0==j0))=true then (if (decide (i0 > j0))=true then ((cq.f m bI (i64.wrap (m0 - i0)) m0 j0 a6).bind fun x0=>fw.l0 m m0 a6 k x0 (i64.wrap (i0 - j0)) j0) else ((cq.f m bI (i64.wrap (m0 - i0)) (i64.wrap (i64.wrap (m0+j0) - i0)) i0 a6).bind fun x1=>fw.l0 m m0 a6 k x1 i0 (i64.wrap (j0 - i0)))) else (some ((bI,i0,j0)))
def fw.f (m:Nat)(aw:List Int)(a0:Int)(m0:Int)(b0:Int)(a6:Int→Int→Option (Int)):Option ((List Int)):=(fw.l0 m m0 a6 m aw (i64.wrap (m0 - a0)) (i64.wrap (b0 - m0))).bind fun aF=>match aF with | (dE,i1,j1)=>(cq.f m dE (i64.wrap (m0 - i1)) m0 i1 a6).bind fun x2=>some x2
def fw.fin (L:Mem)(az:Nat)(aw:List Int)(a0:Int)(m0:Int)(b0:Int)(a6:Int→Int→Option (Int))(r:(List Int))(s:St):Prop:=aH Tryz.prog (s.open vG) Tryz.f118.results.toList=some (.tup [])∧Has s.h ((az,.sl aw.length 1 (aa.l r))::L)
def Qn (cf:CallF)(m:Nat):Prop:=∀(aw:List Int) (a0:Int) (m0:Int) (b0:Int) (a6:Int→Int→Option (Int)) (r:(List Int)),fw.f m aw a0 m0 b0 a6=some r→∀h L (dh:Nat) (az:Nat),Has h ((az,.sl dh 1 (aa.l aw))::L)→∀(eZ:FuncId) (bl:List AV),aC (.fn eZ bl) = .fn eZ bl→(∀h K,Has h (K++L)→∀(a0:Int) (a1:Int) r,a6 a0 a1=some r→cf eZ ([.int .i64 a0,.int .i64 a1]++bl) h=some (.int .i64 r,h))→∀xs,xs.map aC=[.rs az 0 dh 1,.int .i64 a0,.int .i64 m0,.int .i64 b0,.fn eZ bl]→∃h',cf 118 xs h=some (.tup [],h')∧Has h' ((az,.sl dh 1 (aa.l r))::L)
section
variable {cf:CallF}{m:Nat}
theorem fw.bu (L:Mem)(az:Nat)(eZ:FuncId)(bl:List AV)(aw:List Int)(a0:Int)(m0:Int)(b0:Int)(a6:Int→Int→Option (Int))  (ir:aC (.fn eZ bl) = .fn eZ bl)(iS:∀h K,Has h (K++L)→∀(a0:Int) (a1:Int) r,a6 a0 a1=some r→cf eZ ([.int .i64 a0,.int .i64 a1]++bl) h=some (.int .i64 r,h))(AX:NG cf m):bC Tryz.prog cf vG m (sub [1,1,0,0,0] (codeOf Tryz.f118)) (fun k (σ:(List Int) × Int × Int)=>fw.l0 m m0 a6 k σ.1 σ.2.1 σ.2.2) (fun σ s=>match σ with | (bI,i0,j0)=>∃h0,s=⟨[.rs az 0 aw.length 1,.any,.int .i64 m0,.any,.fn eZ bl,.int .i64 i0,.int .i64 j0,.any,.any],[],h0⟩∧Has h0 ((az,.sl aw.length 1 (aa.l bI))::L)) (fun out e s=>(e = .exit 0∧∃bI i0 j0,(bI,i0,j0)=out∧∃zj CX h0,s=⟨[.rs az 0 aw.length 1,.any,.int .i64 m0,.any,.fn eZ bl,.int .i64 i0,zj,CX,.any],[],h0⟩∧Has h0 ((az,.sl aw.length 1 (aa.l bI))::L))):=by
 refine gk (fun _=>rfl) ?_
 rintro k ⟨bI,i0,j0⟩ s out ⟨h0,rfl,o0⟩ H
 have H:fw.l0 m m0 a6 (k+1) bI i0 j0=some out:=H
 refine qq <| qq <| q0 <| qc H (fun c0 H=>?_) (fun c0 H=>?_)
 ·refine qk <| qb 1 <| qq <| q0 <| qc H (fun c1 H=>?_) (fun c1 H=>?_)
  ·refine qq ?_
   obtain⟨x0,e0,H⟩:=aG H
   obtain⟨h1,e1,o1⟩:=AX _ _ _ _ _ _ e0 h0 _ _ _ (o0) eZ bl ir (fun h' K' o'=>iS h' (K'++[]) (by simpa only [aaM,aa0,aa5] using o')) [.rs az 0 aw.length 1,.int .i64 (i64.wrap (m0 - i0)),.int .i64 m0,.int .i64 j0,.fn eZ bl] (an (rfl) (an (aP (bD)) (an (aP (bD)) (an (aP (bD)) (an (ir) (aT))))))
   exact qr [.a 7 e1] <| q0 <| ⟨(x0,i64.wrap (i0 - j0),j0),⟨h1,by kernel_rfl,o1⟩,H⟩
  ·refine qq ?_
   obtain⟨x1,e2,H⟩:=aG H
   obtain⟨h2,e3,o2⟩:=AX _ _ _ _ _ _ e2 h0 _ _ _ (o0) eZ bl ir (fun h' K' o'=>iS h' (K'++[]) (by simpa only [aaM,aa0,aa5] using o')) [.rs az 0 aw.length 1,.int .i64 (i64.wrap (m0 - i0)),.int .i64 (i64.wrap (i64.wrap (m0+j0) - i0)),.int .i64 i0,.fn eZ bl] (an (rfl) (an (aP (bD)) (an (aP (bD)) (an (aP (bD)) (an (ir) (aT))))))
   exact qr [.a 11 e3] <| q0 <| ⟨(x1,i0,i64.wrap (j0 - i0)),⟨h2,by kernel_rfl,o2⟩,H⟩
 ·exact qx 0 <| ⟨rfl,bI,i0,j0,oi H,.int .i64 j0,.bool (!(i0==j0)),h0,by kernel_rfl,o0⟩
theorem zk {aV:FuncId→b9}(ha:aV 118=vG)(AX:NG cf m)(aw:List Int)(a0:Int)(m0:Int)(b0:Int)(a6:Int→Int→Option (Int))(h:AHeap)(L:Mem)(az:Nat)(eZ:FuncId)(bl:List AV)  (ir:aC (.fn eZ bl) = .fn eZ bl)(iS:∀h K,Has h (K++L)→∀(a0:Int) (a1:Int) r,a6 a0 a1=some r→cf eZ ([.int .i64 a0,.int .i64 a1]++bl) h=some (.int .i64 r,h))(o:Has h ((az,.sl aw.length 1 (aa.l aw))::L)){out:(List Int)}(H:fw.f m aw a0 m0 b0 a6=some out) :
  ∃r h',bg Tryz.prog aV cf m 118 [.rs az 0 aw.length 1,.int .i64 a0,.int .i64 m0,.int .i64 b0,.fn eZ bl] h=some (r,h')∧r = .tup []∧Has h' ((az,.sl aw.length 1 (aa.l out))::L):=by
 refine aj (fn:=Tryz.f118) ha Tryz.func118 (by kernel_rfl) (by kernel_rfl) ?_
 refine aD (Q:=fun s=>fw.fin L az aw a0 m0 b0 a6 out s) (fun _ _ ⟨h1,h2,h3⟩=>⟨h1,_,h2,rfl,h3⟩) ?_
 have H:_=some out:=H
 unfold fw.f at H
 show dA _ cf vG m _ ⟨.rs az 0 aw.length 1 :: .int .i64 a0 :: .int .i64 m0 :: .int .i64 b0 :: .fn eZ bl::mT [],[],h⟩ _
 refine q1 <| qq <| q0 <| qq <| qb 0 ?_
 obtain⟨aF,e4,H⟩:=aG H
 refine ql (fw.bu L az eZ bl aw a0 m0 b0 a6  ir iS AX (aw,i64.wrap (m0 - a0),i64.wrap (b0 - m0)) _ _ ⟨h,by kernel_rfl,o⟩ e4) ?_
 rintro e s ⟨rfl,dE,i1,j1,rfl,g0,g1,h3,rfl,o3⟩
 try dsimp only at H
 obtain⟨x2,e5,H⟩:=aG H
 obtain⟨h4,e6,o4⟩:=AX _ _ _ _ _ _ e5 h3 _ _ _ (o3) eZ bl ir (fun h' K' o'=>iS h' (K'++[]) (by simpa only [aaM,aa0,aa5] using o')) [.rs az 0 aw.length 1,.int .i64 (i64.wrap (m0 - i1)),.int .i64 m0,.int .i64 i1,.fn eZ bl] (an (rfl) (an (aP (bD)) (an (aP (bD)) (an (aP (bD)) (an (ir) (aT))))))
 obtain rfl:=oi H
 exact qr [.a 7 e6] <| ⟨.inr rfl,⟨by kernel_rfl,he o4⟩⟩
end
end Go.Proofs.YtmekcfdllhphlaaGreatDoor
namespace Go.Proofs.YtmekcfdllhphlaaGreatDoor
open Go Go.R
open Go.IntKind (i64 u64 u8 u32)
def gt (l:List Int)(k:Nat):Int:=l.getD k 0
theorem bL {l:List Int}{k:Nat}(h:k<l.length):l[k]? = some (gt l k):=by
 unfold gt; rw [aaW,aaL h]; rfl
theorem a8 {l:List Int}{k:Nat}(h:k<l.length):gt l k∈l:=abI (bL h)
theorem db {l:List Int}{k:Nat}(h:k<l.length):ix l (k:Int)=some (gt l k):=by
 unfold ix; rw [if_pos (by omega),aaH,bL h]
theorem gX {l:List Int}{i:Int}{k:Nat}(hi:i=(k:Int))(h:k<l.length):ix l i=some (gt l k):=by rw [hi,db h]
theorem fj {l:List Int}{i k:Nat}{x:Int}(hi:i<l.length):gt (l.set i x) k=if k=i then x else gt l k:=by
 unfold gt
 simp only [aaW,ab5]
 by_cases h:i=k
 ·subst h; simp [hi]
 ·rw [if_neg h,if_neg (by omega)]
theorem HZ {l r:List Int}(hl:l.length=r.length)(h:∀k,k<l.length→gt l k=gt r k):l=r:=by
 apply abF fun k=>?_
 by_cases hk:k<l.length
 ·rw [bL hk,bL (hl ▸ hk),h k hk]
 ·rw [aa1 (by omega),aa1 (by omega)]
def swp (l:List Int)(i j:Nat):List Int:=(l.set i (gt l j)).set j (gt l i)
theorem qN {l:List Int}{i j:Nat}(hi:i<l.length)(hj:j<l.length):(swp l i j).Perm l:=by
 have h1:gt l j=l[j]:=by have:=bL hj; rw [aaL hj] at this; exact (aa2 this).symm
 have h2:gt l i=l[i]:=by have:=bL hi; rw [aaL hi] at this; exact (aa2 this).symm
 unfold swp; rw [h1,h2]; exact List.set_set_perm hi hj
theorem mI {l:List Int}{i j k:Nat}(hi:i<l.length)(hj:j<l.length):gt (swp l i j) k=if k=j then gt l i else if k=i then gt l j else gt l k:=by
 unfold swp
 rw [fj (by simpa using hj),fj hi]
theorem vH {l:List Int}{i j:Nat}:(swp l i j).length=l.length:=by simp [swp]
theorem AY {a b:Nat}(h:a+b<9223372036854775808):i64.wrap (gO .u64 (u64.wrap (i64.wrap ((a:Int)+(b:Int)))) 1)=(((a+b) / 2:Nat):Int):=by
 rw [ay (x:=(a:Int)+b) (by omega) (by omega),dW (by omega) (by omega)]
 have:gO .u64 ((a:Int)+(b:Int)) 1=(((a+b) / 2:Nat):Int):=by
  unfold gO
  rw [ach _ (by decide)]
  show ((a:Int)+(b:Int)) / 2=_
  omega
 rw [this,ay (by omega) (by omega)]
theorem H0 {m:Nat}{l:List Int}{a b n:Nat}(h1:a+n≤b)(h2:b+n≤l.length)(hl:l.length<2 ^ 40):∀(f i:Nat) (d:List Int),n - i<f→i≤n→d.Perm l→
  (∀k,gt d k=if a≤k∧k<a+i then gt l (k - a+b) else if b≤k∧k<b+i then gt l (k - b+a) else gt l k)→
  ∃d' x,cq.l0 m (a:Int) (b:Int) (n:Int) f d (i:Int)=some (d',x)∧d'.Perm l∧(∀k,gt d' k=if a≤k∧k<a+n then gt l (k - a+b) else if b≤k∧k<b+n then gt l (k - b+a) else gt l k)
 | 0,i,d,hf,_,_,_=>absurd hf (by omega)
 | f+1,i,d,hf,hi,hp,hg=>by
  have mZ:(2:Nat) ^ 40=1099511627776:=by decide
  have TH:=hp.length_eq
  unfold cq.l0
  by_cases h:i<n
  ·have e1:i64.wrap ((b:Int)+(i:Int))=((b+i:Nat):Int):=by rw [ay (by omega) (by omega)]; omega
   have e2:i64.wrap ((a:Int)+(i:Int))=((a+i:Nat):Int):=by rw [ay (by omega) (by omega)]; omega
   have e3:i64.wrap ((i:Int)+1)=((i+1:Nat):Int):=by rw [ay (by omega) (by omega)]; omega
   rw [if_pos (by simp; omega),e1,e2,e3,db (by omega),db (by omega),aaH,aaH,aaA,aaA,aaA,db (by simp; omega),aaA]
   show ∃d' x,cq.l0 m (a:Int) (b:Int) (n:Int) f (swp d (a+i) (b+i)) ((i+1:Nat):Int)=some (d',x)∧_
   refine H0 h1 h2 hl f (i+1) _ (by omega) (by omega) ((qN (by omega) (by omega)).trans hp) fun k=>?_
   rw [mI (by omega) (by omega),hg,hg,hg]
   by_cases k1:k=b+i
   ·subst k1
    rw [if_pos rfl,if_neg (by omega),if_neg (by omega),if_neg (by omega),if_pos (by omega)]
    congr 1; omega
   ·rw [if_neg k1]
    by_cases k2:k=a+i
    ·subst k2
     rw [if_pos rfl,if_neg (by omega),if_neg (by omega),if_pos (by omega)]
     congr 1; omega
    ·rw [if_neg k2]
     by_cases k3:a≤k∧k<a+i
     ·rw [if_pos k3,if_pos (by omega)]
     ·rw [if_neg k3,if_neg (show ¬(a≤k∧k<a+(i+1)) by omega)]
      by_cases k4:b≤k∧k<b+i
      ·rw [if_pos k4,if_pos (by omega)]
      ·rw [if_neg k4,if_neg (by omega)]
  ·have:i=n:=by omega
   subst this
   exact⟨d,i,by rw [if_neg (by simp)],hp,hg⟩
theorem vI {m:Nat}{l:List Int}{a b n:Nat}{cmp:Int→Int→Option Int}(h1:a+n≤b)(h2:b+n≤l.length)(hl:l.length<2 ^ 40)(hm:n<m) :
  ∃d',cq.f m l (a:Int) (b:Int) (n:Int) cmp=some d'∧d'.Perm l∧(∀k,gt d' k=if a≤k∧k<a+n then gt l (k - a+b) else if b≤k∧k<b+n then gt l (k - b+a) else gt l k):=by
 obtain⟨d',x,e,hp,hg⟩:=H0 (m:=m) h1 h2 hl m 0 l (by omega) (by omega) (List.Perm.refl _) (fun k=>by rw [if_neg (by omega),if_neg (by omega)])
 have e:cq.l0 m (a:Int) (b:Int) (n:Int) m l 0=_:=e
 exact⟨d',by unfold cq.f; rw [e]; rfl,hp,hg⟩
def OW (l d:List Int)(p i j:Nat):Prop:=d.Perm l∧(∀k,k<j→gt d (p+k)=gt l (p+i+k))∧(∀k,k<i→gt d (p+j+k)=gt l (p+k))∧∀k,k<p∨p+i+j≤k→gt d k=gt l k
theorem CY {m:Nat}{q:Nat}{cmp:Int→Int→Option Int}(hm:2 ^ 41≤m):∀(f i j:Nat) (l:List Int),i+j<f→0<i→0<j→i≤q→q+j≤l.length→l.length<2 ^ 40→
  ∃(d':List Int) (x:Nat) (d:List Int),fw.l0 m (q:Int) cmp f l (i:Int) (j:Int)=some (d',(x:Int),(x:Int))∧cq.f m d' (i64.wrap ((q:Int) - (x:Int))) (q:Int) (x:Int) cmp=some d∧OW l d (q - i) i j
 | 0,i,j,l,hf,_,_,_,_,_=>absurd hf (by omega)
 | f+1,i,j,l,hf,hi,hj,hq,hl,hs=>by
  have mZ:(2:Nat) ^ 40=1099511627776:=by decide
  have qO:(2:Nat) ^ 41=2199023255552:=by decide
  unfold fw.l0
  have e1:i64.wrap ((q:Int) - (i:Int))=((q - i:Nat):Int):=by rw [ay (by omega) (by omega)]; omega
  by_cases h:i=j
  ·subst h
   rw [if_neg (by simp)]
   obtain⟨d,e,hp,hg⟩:=vI (m:=m) (l:=l) (a:=q - i) (b:=q) (n:=i) (cmp:=cmp) (by omega) (by omega) hs (by omega)
   refine⟨l,i,d,rfl,by rw [e1,e],hp,fun k hk=>?_,fun k hk=>?_,fun k hk=>?_⟩
   ·rw [hg,if_pos (by omega)]; congr 1; omega
   ·rw [hg,if_neg (by omega),if_pos (by omega)]; congr 1; omega
   ·rw [hg,if_neg (by omega),if_neg (by omega)]
  ·rw [if_pos (by simp; omega)]
   by_cases h2:j<i
   ·obtain⟨d1,e,hp,hg⟩:=vI (m:=m) (l:=l) (a:=q - i) (b:=q) (n:=j) (cmp:=cmp) (by omega) (by omega) hs (by omega)
    have hd:=hp.length_eq
    have e2:i64.wrap ((i:Int) - (j:Int))=((i - j:Nat):Int):=by rw [ay (by omega) (by omega)]; omega
    rw [if_pos (by simp; omega),e1,e,aaA,e2]
    obtain⟨d',x,d,k1,k2,k3,k4,k5,k6⟩:=CY (q:=q) (cmp:=cmp) hm f (i - j) j d1 (by omega) (by omega) hj (by omega) (by omega) (by omega)
    refine⟨d',x,d,k1,k2,k3.trans hp,fun k hk=>?_,fun k hk=>?_,fun k hk=>?_⟩
    ·rw [k6 _ (by omega),hg,if_pos (by omega)]; congr 1; omega
    ·by_cases OX:k<j
     ·have:=k4 k OX
      rw [show q - (i - j)+k=q - i+j+k by omega,hg,if_neg (by omega),if_pos (by omega)] at this
      rw [this]; congr 1; omega
     ·have:=k5 (k - j) (by omega)
      rw [show q - (i - j)+j+(k - j)=q - i+j+k by omega,hg,if_neg (by omega),if_neg (by omega)] at this
      rw [this]; congr 1; omega
    ·rw [k6 _ (by omega),hg,if_neg (by omega),if_neg (by omega)]
   ·have e2:i64.wrap (i64.wrap ((q:Int)+(j:Int)) - (i:Int))=((q+j - i:Nat):Int):=by rw [ay (x:=(q:Int)+j) (by omega) (by omega),ay (by omega) (by omega)]; omega
    have e3:i64.wrap ((j:Int) - (i:Int))=((j - i:Nat):Int):=by rw [ay (by omega) (by omega)]; omega
    obtain⟨d1,e,hp,hg⟩:=vI (m:=m) (l:=l) (a:=q - i) (b:=q+j - i) (n:=i) (cmp:=cmp) (by omega) (by omega) hs (by omega)
    have hd:=hp.length_eq
    rw [if_neg (by simp; omega),e1,e2,e,aaA,e3]
    obtain⟨d',x,d,k1,k2,k3,k4,k5,k6⟩:=CY (q:=q) (cmp:=cmp) hm f i (j - i) d1 (by omega) hi (by omega) hq (by omega) (by omega)
    refine⟨d',x,d,k1,k2,k3.trans hp,fun k hk=>?_,fun k hk=>?_,fun k hk=>?_⟩
    ·by_cases OX:k<j - i
     ·rw [k4 k OX,hg,if_neg (by omega),if_neg (by omega)]
     ·have:=k5 (k - (j - i)) (by omega)
      rw [show q - i+(j - i)+(k - (j - i))=q - i+k by omega,hg,if_pos (by omega)] at this
      rw [this]; congr 1; omega
    ·rw [k6 _ (by omega),hg,if_neg (by omega),if_pos (by omega)]; congr 1; omega
    ·rw [k6 _ (by omega),hg,if_neg (by omega),if_neg (by omega)]
theorem H2 {m:Nat}{a q b:Nat}{cmp:Int→Int→Option Int}{l:List Int}(hm:2 ^ 41≤m)(h1:a<q)(h2:q<b)(h3:b≤l.length)(hs:l.length<2 ^ 40) :
  ∃d,fw.f m l (a:Int) (q:Int) (b:Int) cmp=some d∧OW l d a (q - a) (b - q):=by
 have mZ:(2:Nat) ^ 40=1099511627776:=by decide
 have qO:(2:Nat) ^ 41=2199023255552:=by decide
 obtain⟨d',x,d,k1,k2,k3⟩:=CY (q:=q) (cmp:=cmp) hm m (q - a) (b - q) l (by omega) (by omega) (by omega) (by omega) (by omega) hs
 rw [show q - (q - a)=a by omega] at k3
 refine⟨d,?_,k3⟩
 unfold fw.f
 rw [show i64.wrap ((q:Int) - (a:Int))=((q - a:Nat):Int) by rw [ay (by omega) (by omega)]; omega,show i64.wrap ((b:Int) - (q:Int))=((b - q:Nat):Int) by rw [ay (by omega) (by omega)]; omega,k1,aaA]
 dsimp only
 rw [k2]; rfl
end Go.Proofs.YtmekcfdllhphlaaGreatDoor
namespace Go.Proofs.YtmekcfdllhphlaaGreatDoor
open Go Go.R
open Go.IntKind (i64 u64 u8 u32)
def zl:b9:=gm [0,2] [] [2,1] [] []
def gu.f (m:Nat)(c0:Int):Option (Bool):=if (decide (c0≥(97:Int)))=true then (if (decide (c0≤(122:Int)))=true then (some true) else (if (decide (c0≥(65:Int)))=true then (if (decide (c0≤(90:Int)))=true then (some true) else (if (decide (c0≥(48:Int)))=true then (if (decide (c0≤(57:Int)))=true then (some true) else (some (c0==(95:Int)))) else (some (c0==(95:Int))))) else (if (decide (c0≥(48:Int)))=true then (if (decide (c0≤(57:Int)))=true then (some true) else (some (c0==(95:Int)))) else (some (c0==(95:Int)))))) else (if (decide (c0≥(65:Int)))=true then (if (decide (c0≤(90:Int)))=true then (some true) else (if (decide (c0≥(48:Int)))=true then (if (decide (c0≤(57:Int)))=true then (some true) else (some (c0==(95:Int)))) else (some (c0==(95:Int))))) else (if (decide (c0≥(48:Int)))=true then (if (decide (c0≤(57:Int)))=true then (some true) else (some (c0==(95:Int)))) else (some (c0==(95:Int)))))
def gu.fin (L:Mem)(r:Bool)(s:St):Prop:=∃av,aH Tryz.prog (s.open zl) Tryz.f114.results.toList=some av∧gf s.h av (.bool r)
def NH (cf:CallF)(m:Nat):Prop:=∀(c0:Int) (r:Bool),gu.f m c0=some r→∀h xs,eR fh h xs [.int .u8 c0]→cf 114 xs h=some (.bool r,h)
section
variable {cf:CallF}{m:Nat}
theorem sc {aV:FuncId→b9}(ha:aV 114=zl)  (c0:Int)(h:AHeap)(L:Mem)  (o:Has h (L)){out:Bool}(H:gu.f m c0=some out) :
  ∃r h',bg Tryz.prog aV cf m 114 [.int .u8 c0] h=some (r,h')∧gf h' r (.bool out):=by
 refine aj (fn:=Tryz.f114) ha Tryz.func114 (by kernel_rfl) (by kernel_rfl) ?_
 refine aD (Q:=fun s=>gu.fin L out s) (fun _ _ h=>h) ?_
 have H:_=some out:=H
 unfold gu.f at H
 show dA _ cf zl m _ ⟨[.int .u8 c0,.any],[],h⟩ _
 refine q1 <| qq ?_
 rcases dX H with⟨c1,H⟩| ⟨c1,H⟩
 ·rcases dX H with⟨c2,H⟩| ⟨c2,H⟩
  ·obtain rfl:=oi H
   exact qr [.b 2 c1,.b 6 c2] <| qt <| ⟨.inl rfl,cp (.bool true) h (cn (au))⟩
  ·rcases dX H with⟨c3,H⟩| ⟨c3,H⟩
   ·rcases dX H with⟨c4,H⟩| ⟨c4,H⟩
    ·obtain rfl:=oi H
     exact qr [.b 2 c1,.b 6 c2,.b 9 c3,.b 14 c4] <| qt <| ⟨.inl rfl,cp (.bool true) h (cn (au))⟩
    ·rcases dX H with⟨c5,H⟩| ⟨c5,H⟩
     ·rcases dX H with⟨c6,H⟩| ⟨c6,H⟩
      ·obtain rfl:=oi H
       exact qr [.b 2 c1,.b 6 c2,.b 9 c3,.b 14 c4,.b 17 c5,.b 22 c6] <| qt <| ⟨.inl rfl,cp (.bool true) h (cn (au))⟩
      ·obtain rfl:=oi H
       exact qr [.b 2 c1,.b 6 c2,.b 9 c3,.b 14 c4,.b 17 c5,.b 22 c6] <| qt <| ⟨.inl rfl,cp (.bool (c0==(95:Int))) h (cn (au))⟩
     ·obtain rfl:=oi H
      exact qr [.b 2 c1,.b 6 c2,.b 9 c3,.b 14 c4,.b 17 c5] <| qt <| ⟨.inl rfl,cp (.bool (c0==(95:Int))) h (cn (au))⟩
   ·rcases dX H with⟨c7,H⟩| ⟨c7,H⟩
    ·rcases dX H with⟨c8,H⟩| ⟨c8,H⟩
     ·obtain rfl:=oi H
      exact qr [.b 2 c1,.b 6 c2,.b 9 c3,.b 17 c7,.b 22 c8] <| qt <| ⟨.inl rfl,cp (.bool true) h (cn (au))⟩
     ·obtain rfl:=oi H
      exact qr [.b 2 c1,.b 6 c2,.b 9 c3,.b 17 c7,.b 22 c8] <| qt <| ⟨.inl rfl,cp (.bool (c0==(95:Int))) h (cn (au))⟩
    ·obtain rfl:=oi H
     exact qr [.b 2 c1,.b 6 c2,.b 9 c3,.b 17 c7] <| qt <| ⟨.inl rfl,cp (.bool (c0==(95:Int))) h (cn (au))⟩
 ·rcases dX H with⟨c9,H⟩| ⟨c9,H⟩
  ·rcases dX H with⟨vJ,H⟩| ⟨vJ,H⟩
   ·obtain rfl:=oi H
    exact qr [.b 2 c1,.b 9 c9,.b 14 vJ] <| qt <| ⟨.inl rfl,cp (.bool true) h (cn (au))⟩
   ·rcases dX H with⟨nH,H⟩| ⟨nH,H⟩
    ·rcases dX H with⟨sd,H⟩| ⟨sd,H⟩
     ·obtain rfl:=oi H
      exact qr [.b 2 c1,.b 9 c9,.b 14 vJ,.b 17 nH,.b 22 sd] <| qt <| ⟨.inl rfl,cp (.bool true) h (cn (au))⟩
     ·obtain rfl:=oi H
      exact qr [.b 2 c1,.b 9 c9,.b 14 vJ,.b 17 nH,.b 22 sd] <| qt <| ⟨.inl rfl,cp (.bool (c0==(95:Int))) h (cn (au))⟩
    ·obtain rfl:=oi H
     exact qr [.b 2 c1,.b 9 c9,.b 14 vJ,.b 17 nH] <| qt <| ⟨.inl rfl,cp (.bool (c0==(95:Int))) h (cn (au))⟩
  ·rcases dX H with⟨tI,H⟩| ⟨tI,H⟩
   ·rcases dX H with⟨qP,H⟩| ⟨qP,H⟩
    ·obtain rfl:=oi H
     exact qr [.b 2 c1,.b 9 c9,.b 17 tI,.b 22 qP] <| qt <| ⟨.inl rfl,cp (.bool true) h (cn (au))⟩
    ·obtain rfl:=oi H
     exact qr [.b 2 c1,.b 9 c9,.b 17 tI,.b 22 qP] <| qt <| ⟨.inl rfl,cp (.bool (c0==(95:Int))) h (cn (au))⟩
   ·obtain rfl:=oi H
    exact qr [.b 2 c1,.b 9 c9,.b 17 tI] <| qt <| ⟨.inl rfl,cp (.bool (c0==(95:Int))) h (cn (au))⟩
end
end Go.Proofs.YtmekcfdllhphlaaGreatDoor
namespace Go.Proofs.YtmekcfdllhphlaaGreatDoor
open Go Go.R
open Go.IntKind (i64 u64 u8 u32)
def vK:b9:=gm [0,1,2,6,7,27,29,30,31,37] [] [1016,990,1015,830,574,814,318,1015,830,1015] [] []
def dy.l0 (m:Nat)(s0:ByteArray):Nat→Int→Option (Sum Bool (Int))
 | 0,_=>none
 | k+1,x0=>if (decide (x0<(s0.size:Int)))=true then ((bt s0 x0).bind fun v2=>(gu.f m v2).bind fun x1=>if (!x1)=true then (some (.inl false)) else (dy.l0 m s0 k (i64.wrap (x0+(1:Int))))) else (some (.inr x0))
def dy.f (m:Nat)(s0:ByteArray)(lE:Int)(oY:Int):Option (Bool):=if (decide ((s0.size:Int)<(1:Int)))=true then (some false) else (if (decide ((s0.size:Int) > (16:Int)))=true then (some false) else ((bt s0 (0:Int)).bind fun v0=>if (decide (v0<lE))=true then (some false) else ((bt s0 (0:Int)).bind fun v1=>if (decide (v1 > oY))=true then (some false) else ((dy.l0 m s0 m (0:Int)).bind fun aF=>match aF with | .inl r0=>some r0 | .inr x2=>some true))))
def dy.fin (L:Mem)(r:Bool)(s:St):Prop:=∃av,aH Tryz.prog (s.open vK) Tryz.f106.results.toList=some av∧gf s.h av (.bool r)
def Qo (cf:CallF)(m:Nat):Prop:=∀(s0:ByteArray) (lE:Int) (oY:Int) (r:Bool),dy.f m s0 lE oY=some r→∀h xs,eR fh h xs [.str s0,.int .u8 lE,.int .u8 oY]→cf 106 xs h=some (.bool r,h)
section
variable {cf:CallF}{m:Nat}
theorem dy.bu (L:Mem)(s0:ByteArray)  (H3:NH cf m):bC Tryz.prog cf vK m (sub [1,1,0,1,0,0] (codeOf Tryz.f106)) (fun k (σ:Int)=>dy.l0 m s0 k σ) (fun σ s=>match σ with | x0=>∃h0,s=⟨.str s0::qF [.int .i64 (s0.size:Int),.int .i64 x0,.any,.any],[],h0⟩∧Has h0 (L)) (fun out e s=>(e = .exit 0∧∃x0,.inr x0=out∧∃kM NI H4 NJ h0,s=⟨kM::qF [NI,H4,NJ,.any],[],h0⟩∧Has h0 (L))∨(e = .ret∧∃r,.inl r=out∧dy.fin L r s)):=by
 refine gk (fun _=>rfl) ?_
 rintro k x0 s out ⟨h0,rfl,o0⟩ H
 have H:dy.l0 m s0 (k+1) x0=some out:=H
 refine q1 <| qq <| qc H (fun c7 H=>?_) (fun c7 H=>?_)
 ·refine qk <| qq <| qb 1 <| qq <| q0 <| qq ?_
  obtain⟨v2,e2,H⟩:=aG H
  obtain⟨x1,e3,H⟩:=aG H
  refine qr [.v 2 (nB (k:=.i64) U9 e2),.a 3 (H3 _ _ e3 h0 _ (fT (ab (aQ) (aA))))] <| qc H (fun c8 H=>?_) (fun c8 H=>?_)
  ·exact q1 <| qt <| abD (⟨rfl,_,oi H,cp (.bool false) h0 (cn (au))⟩)
  ·exact qk <| q0 <| ⟨i64.wrap (x0+(1:Int)),⟨h0,by kernel_rfl,o0⟩,H⟩
 ·exact qx 0 <| abM (⟨rfl,x0,oi H,.str s0,.int .i64 (s0.size:Int),.int .i64 x0,.bool (decide (x0<(s0.size:Int))),h0,by kernel_rfl,o0⟩)
theorem vL {aV:FuncId→b9}(ha:aV 106=vK)(H3:NH cf m)(s0:ByteArray)(lE:Int)(oY:Int)(h:AHeap)(L:Mem)  (o:Has h (L)){out:Bool}(H:dy.f m s0 lE oY=some out) :
  ∃r h',bg Tryz.prog aV cf m 106 [.str s0,.int .u8 lE,.int .u8 oY] h=some (r,h')∧gf h' r (.bool out):=by
 refine aj (fn:=Tryz.f106) ha Tryz.func106 (by kernel_rfl) (by kernel_rfl) ?_
 refine aD (Q:=fun s=>dy.fin L out s) (fun _ _ h=>h) ?_
 have H:_=some out:=H
 unfold dy.f at H
 show dA _ cf vK m _ ⟨.str s0 :: .int .u8 lE :: .int .u8 oY::zY [],[],h⟩ _
 refine q1 <| qq <| qq ?_
 rcases dX H with⟨c0,H⟩| ⟨c0,H⟩
 ·obtain rfl:=oi H
  exact qr [.b 3 c0] <| uD <| qq <| q0 <| qt <| ⟨.inl rfl,cp (.bool false) h (cn (au))⟩
 ·rcases dX H with⟨c2,H⟩| ⟨c2,H⟩
  ·obtain rfl:=oi H
   exact qr [.b 3 c0,.b 8 c2] <| uD <| qq <| q0 <| qt <| ⟨.inl rfl,cp (.bool false) h (cn (au))⟩
  ·obtain⟨v0,e0,H⟩:=aG H
   rcases dX H with⟨c4,H⟩| ⟨c4,H⟩
   ·obtain rfl:=oi H
    exact qr [.b 3 c0,.b 8 c2,.v 10 (nB (k:=.i64) U9 e0),.b 14 c4] <| uD <| qq <| q0 <| qt <| ⟨.inl rfl,cp (.bool false) h (cn (au))⟩
   ·obtain⟨v1,e1,H⟩:=aG H
    refine qr [.b 3 c0,.b 8 c2,.v 10 (nB (k:=.i64) U9 e0),.b 14 c4,.v 16 (nB (k:=.i64) U9 e1)] <| qc H (fun c6 H=>?_) (fun c6 H=>?_)
    ·obtain rfl:=oi H
     exact q1 <| qt <| ⟨.inl rfl,cp (.bool false) h (cn (au))⟩
    ·refine qk <| qq <| qq <| q0 <| qb 0 ?_
     obtain⟨aF,e4,H⟩:=aG H
     refine ql (dy.bu L s0  H3 (0:Int) _ _ ⟨h,by kernel_rfl,o⟩ e4) ?_
     rintro e s (⟨rfl,x2,rfl,g0,g1,g2,g3,h1,rfl,o1⟩| ⟨rfl,r0,rfl,l8⟩)
     ·try dsimp only at H
      obtain rfl:=oi H
      exact q1 <| qt <| ⟨.inl rfl,cp (.bool true) h1 (cn (au))⟩
     ·try dsimp only at H
      obtain rfl:=oi H
      exact⟨.inl rfl,l8⟩
end
end Go.Proofs.YtmekcfdllhphlaaGreatDoor
namespace Go.Proofs.YtmekcfdllhphlaaGreatDoor
open Go Go.R
open Go.IntKind (i64 u64 u8 u32)
def Eb:b9:=gm [0,2] [] [2,1] [] []
def iG.f (m:Nat)(s0:ByteArray):Option (Bool):=if (s0.data.toList==(aaT #[124]).data.toList)=true then (some true) else (if (s0.data.toList==(aaT #[35]).data.toList)=true then (some true) else ((dy.f m s0 (97:Int) (122:Int)).bind fun x0=>some x0))
def iG.fin (L:Mem)(r:Bool)(s:St):Prop:=∃av,aH Tryz.prog (s.open Eb) Tryz.f93.results.toList=some av∧gf s.h av (.bool r)
def Wj (cf:CallF)(m:Nat):Prop:=∀(s0:ByteArray) (r:Bool),iG.f m s0=some r→∀h xs,eR fh h xs [.str s0]→cf 93 xs h=some (.bool r,h)
section
variable {cf:CallF}{m:Nat}
theorem vM {aV:FuncId→b9}(ha:aV 93=Eb)(Qp:Qo cf m)(s0:ByteArray)(h:AHeap)(L:Mem)  (o:Has h (L)){out:Bool}(H:iG.f m s0=some out) :
  ∃r h',bg Tryz.prog aV cf m 93 [.str s0] h=some (r,h')∧gf h' r (.bool out):=by
 refine aj (fn:=Tryz.f93) ha Tryz.func93 (by kernel_rfl) (by kernel_rfl) ?_
 refine aD (Q:=fun s=>iG.fin L out s) (fun _ _ h=>h) ?_
 have H:_=some out:=H
 unfold iG.f at H
 show dA _ cf Eb m _ ⟨[.str s0,.any],[],h⟩ _
 refine q1 <| qq ?_
 rcases dX H with⟨c0,H⟩| ⟨c0,H⟩
 ·obtain rfl:=oi H
  exact qr [.b 2 c0] <| qt <| ⟨.inl rfl,cp (.bool true) h (cn (au))⟩
 ·rcases dX H with⟨c1,H⟩| ⟨c1,H⟩
  ·obtain rfl:=oi H
   exact qr [.b 2 c0,.b 6 c1] <| qt <| ⟨.inl rfl,cp (.bool true) h (cn (au))⟩
  ·obtain⟨x0,e0,H⟩:=aG H
   obtain rfl:=oi H
   exact qr [.b 2 c0,.b 6 c1,.a 8 (Qp _ _ _ _ e0 h _ (fT (ab (cF) (ab (aQ) (ab (aQ) (aA))))))] <| qt <| ⟨.inl rfl,cp (.bool x0) h (cn (au))⟩
end
end Go.Proofs.YtmekcfdllhphlaaGreatDoor
namespace Go.Proofs.YtmekcfdllhphlaaGreatDoor
open Go Go.R
open Go.IntKind (i64 u64 u8 u32)
def vN:b9:=gm [0,1,4,5,7,8,9,16] [] [252,204,140,196,68,251,204,251] [] []
def fy.l0 (m:Nat)(s0:List Int)(f0:Int→Option (Bool)):Nat→Int→Option (Sum Int (Int))
 | 0,_=>none
 | k+1,x0=>if (decide (x0<(s0.length:Int)))=true then ((ix s0 x0).bind fun v0=>(f0 v0).bind fun r0=>if r0=true then (some (.inl x0)) else (fy.l0 m s0 f0 k (i64.wrap (x0+(1:Int))))) else (some (.inr x0))
def fy.f (m:Nat)(s0:List Int)(f0:Int→Option (Bool)):Option (Int):=(fy.l0 m s0 f0 m (0:Int)).bind fun aF=>match aF with | .inl r1=>some r1 | .inr x1=>some (-1:Int)
def fy.fin (h:AHeap)(r:Int)(s:St):Prop:=aH Tryz.prog (s.open vN) Tryz.f107.results.toList=some (.int .i64 r)∧s.h=h
def Qq (cf:CallF)(m:Nat):Prop:=∀(s0:List Int) (f0:Int→Option (Bool)) (r:Int),fy.f m s0 f0=some r→∀h,0<h.next→∀(eh:FuncId) (aX:List AV),aC (.fn eh aX) = .fn eh aX→(∀(a0:Int) r,f0 a0=some r→cf eh ([.int .i64 a0]++aX) h=some (.bool r,h))→∀xs,xs.map aC=[aa.fz s0,.fn eh aX]→cf 107 xs h=some (.int .i64 r,h)
section
variable {cf:CallF}{m:Nat}
theorem fy.bu (h:AHeap)(L:Mem)(eh:FuncId)(aX:List AV)(s0:List Int)(f0:Int→Option (Bool))  (iH:aC (.fn eh aX) = .fn eh aX)(iM:∀(a0:Int) r,f0 a0=some r→cf eh ([.int .i64 a0]++aX) h=some (.bool r,h))  : bC Tryz.prog cf vN m (sub [1,0,1,0,0] (codeOf Tryz.f107)) (fun k (σ:Int)=>fy.l0 m s0 f0 k σ) (fun σ s=>match σ with | x0=>s=⟨[aa.fz s0,.fn eh aX,.any,.any,.int .i64 (s0.length:Int),.int .i64 x0,.any,.any],[],h⟩∧Has h (L)) (fun out e s=>(e = .exit 0∧∃x0,.inr x0=out∧∃kM qM se pG qQ,s=⟨[kM,qM,.any,.any,se,pG,qQ,.any],[],h⟩∧Has h (L))∨(e = .ret∧∃r,.inl r=out∧fy.fin h r s)):=by
 refine gk (fun _=>rfl) ?_
 rintro k x0 s out ⟨rfl,o0⟩ H
 have H:fy.l0 m s0 f0 (k+1) x0=some out:=H
 refine q1 <| qq <| qc H (fun c0 H=>?_) (fun c0 H=>?_)
 ·refine qk <| qq <| qb 1 <| qq <| q0 <| qq ?_
  obtain⟨v0,e0,H⟩:=aG H
  obtain⟨r0,e1,H⟩:=aG H
  refine qr [.v 3 (bN (k:=.i64) (E:=aa) (l:=s0) dK e0),.v 4 (dd  (E:=aa) (l:=s0) h A3 e0 rfl),.a 5 (iM _ _ e1)] <| qc H (fun c1 H=>?_) (fun c1 H=>?_)
  ·exact q1 <| qt <| abD (⟨rfl,_,oi H,⟨by kernel_rfl,by kernel_rfl⟩⟩)
  ·exact qk <| q0 <| ⟨i64.wrap (x0+(1:Int)),⟨by kernel_rfl,o0⟩,H⟩
 ·exact qx 0 <| abM (⟨rfl,x0,oi H,aa.fz s0,.fn eh aX,.int .i64 (s0.length:Int),.int .i64 x0,.bool (decide (x0<(s0.length:Int))),by kernel_rfl,o0⟩)
theorem zm {aV:FuncId→b9}(ha:aV 107=vN)  (s0:List Int)(f0:Int→Option (Bool))(h:AHeap)(L:Mem)(eh:FuncId)(aX:List AV)  (iH:aC (.fn eh aX) = .fn eh aX)(iM:∀(a0:Int) r,f0 a0=some r→cf eh ([.int .i64 a0]++aX) h=some (.bool r,h))(o:Has h (L)){out:Int}(H:fy.f m s0 f0=some out) :
  ∃r h',bg Tryz.prog aV cf m 107 [aa.fz s0,.fn eh aX] h=some (r,h')∧r=(.int .i64 out)∧h'=h:=by
 refine aj (fn:=Tryz.f107) ha Tryz.func107 (by kernel_rfl) (by kernel_rfl) ?_
 refine aD (Q:=fun s=>fy.fin h out s) (fun _ _ ⟨h1,h2,h3⟩=>⟨h1,_,h2,rfl,h3⟩) ?_
 have H:_=some out:=H
 unfold fy.f at H
 show dA _ cf vN m _ ⟨aa.fz s0 :: .fn eh aX::zX [],[],h⟩ _
 refine q1 <| qq <| qq <| q0 <| qb 0 ?_
 obtain⟨aF,e2,H⟩:=aG H
 refine ql (fy.bu h L eh aX s0 f0  iH iM  (0:Int) _ _ ⟨by kernel_rfl,o⟩ e2) ?_
 rintro e s (⟨rfl,x1,rfl,g0,g1,g2,g3,g4,rfl,o1⟩| ⟨rfl,r1,rfl,l8⟩)
 ·try dsimp only at H
  obtain rfl:=oi H
  exact q1 <| qt <| ⟨.inl rfl,⟨by kernel_rfl,by kernel_rfl⟩⟩
 ·try dsimp only at H
  obtain rfl:=oi H
  exact⟨.inl rfl,l8⟩
end
end Go.Proofs.YtmekcfdllhphlaaGreatDoor
namespace Go.Proofs.YtmekcfdllhphlaaGreatDoor
open Go Go.R
open Go.IntKind (i64 u64 u8 u32)
def Ec:b9:=gm [0,1,4] [] [4,3] [] []
def iu.f (m:Nat)(s0:List Int)(f0:Int→Option (Bool)):Option (Bool):=(fy.f m s0 f0).bind fun x0=>some (decide (x0≥(0:Int)))
def iu.fin (h:AHeap)(r:Bool)(s:St):Prop:=aH Tryz.prog (s.open Ec) Tryz.f94.results.toList=some (.bool r)∧s.h=h
def Wk (cf:CallF)(m:Nat):Prop:=∀(s0:List Int) (f0:Int→Option (Bool)) (r:Bool),iu.f m s0 f0=some r→∀h,0<h.next→∀(eh:FuncId) (aX:List AV),aC (.fn eh aX) = .fn eh aX→(∀(a0:Int) r,f0 a0=some r→cf eh ([.int .i64 a0]++aX) h=some (.bool r,h))→∀xs,xs.map aC=[aa.fz s0,.fn eh aX]→cf 94 xs h=some (.bool r,h)
section
variable {cf:CallF}{m:Nat}
theorem tJ {aV:FuncId→b9}(ha:aV 94=Ec)(Qs:Qq cf m)(s0:List Int)(f0:Int→Option (Bool))(h:AHeap)(L:Mem)(eh:FuncId)(aX:List AV)  (iH:aC (.fn eh aX) = .fn eh aX)(iM:∀(a0:Int) r,f0 a0=some r→cf eh ([.int .i64 a0]++aX) h=some (.bool r,h))(o:Has h (L)){out:Bool}(H:iu.f m s0 f0=some out) :
  ∃r h',bg Tryz.prog aV cf m 94 [aa.fz s0,.fn eh aX] h=some (r,h')∧r=(.bool out)∧h'=h:=by
 refine aj (fn:=Tryz.f94) ha Tryz.func94 (by kernel_rfl) (by kernel_rfl) ?_
 refine aD (Q:=fun s=>iu.fin h out s) (fun _ _ ⟨h1,h2,h3⟩=>⟨h1,_,h2,rfl,h3⟩) ?_
 have H:_=some out:=H
 unfold iu.f at H
 show dA _ cf Ec m _ ⟨[aa.fz s0,.fn eh aX,.any],[],h⟩ _
 refine q1 <| qq ?_
 obtain⟨x0,e0,H⟩:=aG H
 obtain rfl:=oi H
 exact qr [.a 2 (Qs _ _ _ e0 h (Has.pos o) eh aX iH iM _ (an (aP (gP (E:=aa))) (an (iH) (aT))))] <| qt <| ⟨.inl rfl,⟨by kernel_rfl,by kernel_rfl⟩⟩
end
end Go.Proofs.YtmekcfdllhphlaaGreatDoor
namespace Go.Proofs.YtmekcfdllhphlaaGreatDoor
open Go Go.R
open Go.IntKind (i64 u64 u8 u32)
def Ed:b9:=gm [0,1,3] [] [4,3] [] []
def iv.f (m:Nat)(a0:Int)(x0:Int):Option (Bool):=if (decide (a0<(0:Int)))=true then (some true) else (some (decide (a0≥x0)))
def iv.fin (h:AHeap)(r:Bool)(s:St):Prop:=aH Tryz.prog (s.open Ed) Tryz.f95.results.toList=some (.bool r)∧s.h=h
def Wl (cf:CallF)(m:Nat):Prop:=∀(a0:Int) (x0:Int) (r:Bool),iv.f m a0 x0=some r→∀h L (fA cj:Nat),Has h L→L[fA]? = some (cj,.ob [.int .i64 x0])→cf 95 [.int .i64 a0,.ptr cj 0] h=some (.bool r,h)
section
variable {cf:CallF}{m:Nat}
theorem sf {aV:FuncId→b9}(ha:aV 95=Ed)  (a0:Int)(x0:Int)(h:AHeap)(L:Mem)  {fA cj:Nat}(gR:L[fA]? = some (cj,.ob [.int .i64 x0]))(o:Has h (L)){out:Bool}(H:iv.f m a0 x0=some out) :
  ∃r h',bg Tryz.prog aV cf m 95 [.int .i64 a0,.ptr cj 0] h=some (r,h')∧r=(.bool out)∧h'=h:=by
 refine aj (fn:=Tryz.f95) ha Tryz.func95 (by kernel_rfl) (by kernel_rfl) ?_
 refine aD (Q:=fun s=>iv.fin h out s) (fun _ _ ⟨h1,h2,h3⟩=>⟨h1,_,h2,rfl,h3⟩) ?_
 have H:_=some out:=H
 unfold iv.f at H
 show dA _ cf Ed m _ ⟨[.int .i64 a0,.ptr cj 0,.any],[],h⟩ _
 refine q1 <| qq ?_
 rcases dX H with⟨c0,H⟩| ⟨c0,H⟩
 ·obtain rfl:=oi H
  exact qr [.b 2 c0] <| qt <| ⟨.inl rfl,⟨by kernel_rfl,by kernel_rfl⟩⟩
 ·obtain rfl:=oi H
  exact qr [.b 2 c0,.v 4 (show bp Tryz.prog h 3 (.ptr cj 0)=some (.int .i64 x0) from cg (q:=fA) (cs:=[.int .i64 x0]) o gR (by kernel_rfl))] <| qt <| ⟨.inl rfl,⟨by kernel_rfl,by kernel_rfl⟩⟩
end
end Go.Proofs.YtmekcfdllhphlaaGreatDoor
namespace Go.Proofs.YtmekcfdllhphlaaGreatDoor
open Go Go.R
open Go.IntKind (i64 u64 u8 u32)
def Ee:b9:=gm [0,2] [] [2,1] [] []
def iw.f (m:Nat)(s0:ByteArray):Option (Bool):=if (s0.data.toList==(aaT #[112,114,111,99]).data.toList)=true then (some true) else (if (s0.data.toList==(aaT #[99,101,108,108]).data.toList)=true then (some true) else (some (s0.data.toList==(aaT #[112,111,114,116]).data.toList)))
def iw.fin (L:Mem)(r:Bool)(s:St):Prop:=∃av,aH Tryz.prog (s.open Ee) Tryz.f96.results.toList=some av∧gf s.h av (.bool r)
def Wm (cf:CallF)(m:Nat):Prop:=∀(s0:ByteArray) (r:Bool),iw.f m s0=some r→∀h xs,eR fh h xs [.str s0]→cf 96 xs h=some (.bool r,h)
section
variable {cf:CallF}{m:Nat}
theorem tK {aV:FuncId→b9}(ha:aV 96=Ee)  (s0:ByteArray)(h:AHeap)(L:Mem)  (o:Has h (L)){out:Bool}(H:iw.f m s0=some out) :
  ∃r h',bg Tryz.prog aV cf m 96 [.str s0] h=some (r,h')∧gf h' r (.bool out):=by
 refine aj (fn:=Tryz.f96) ha Tryz.func96 (by kernel_rfl) (by kernel_rfl) ?_
 refine aD (Q:=fun s=>iw.fin L out s) (fun _ _ h=>h) ?_
 have H:_=some out:=H
 unfold iw.f at H
 show dA _ cf Ee m _ ⟨[.str s0,.any],[],h⟩ _
 refine q1 <| qq ?_
 rcases dX H with⟨c0,H⟩| ⟨c0,H⟩
 ·obtain rfl:=oi H
  exact qr [.b 2 c0] <| qt <| ⟨.inl rfl,cp (.bool true) h (cn (au))⟩
 ·rcases dX H with⟨c1,H⟩| ⟨c1,H⟩
  ·obtain rfl:=oi H
   exact qr [.b 2 c0,.b 6 c1] <| qt <| ⟨.inl rfl,cp (.bool true) h (cn (au))⟩
  ·obtain rfl:=oi H
   exact qr [.b 2 c0,.b 6 c1] <| qt <| ⟨.inl rfl,cp (.bool (s0.data.toList==(aaT #[112,111,114,116]).data.toList)) h (cn (au))⟩
end
end Go.Proofs.YtmekcfdllhphlaaGreatDoor
namespace Go.Proofs.YtmekcfdllhphlaaGreatDoor
open Go Go.R
open Go.IntKind (i64 u64 u8 u32)
def Ef:b9:=gm [0,1,2,3,4,6,7,23,44,60,89] [2] [2035,2003,1939,2031,1875,2031,1747,2031,1491,2031,1019,2031,2031] [] []
def jg.f (m:Nat)(n0:ae)(nI:Int):Option (Bool):=if (n0.kind==(0:Int))=true then (if (decide (n0.int≥(0:Int)))=true then (if (n0.label.data.toList==(aaT #[]).data.toList)=true then (some ((n0.args.length:Int)==(0:Int))) else (some false)) else (some false)) else (if (n0.kind==(1:Int))=true then (if (decide (n0.int≥(-1099511627776:Int)))=true then (if (decide (n0.int≤(1099511627776:Int)))=true then (if (n0.label.data.toList==(aaT #[]).data.toList)=true then (some ((n0.args.length:Int)==(0:Int))) else (some false)) else (some false)) else (some false)) else (if (n0.kind==(2:Int))=true then (if (n0.int==(0:Int))=true then ((iG.f m n0.label).bind fun x0=>if x0=true then (some ((n0.args.length:Int)==(0:Int))) else (some false)) else (some false)) else (if (n0.kind==(3:Int))=true then (if (n0.int==(0:Int))=true then ((iG.f m n0.label).bind fun x1=>if x1=true then (if (decide ((n0.args.length:Int)≥(1:Int)))=true then (if (decide ((n0.args.length:Int)≤(8:Int)))=true then ((iu.f m n0.args (fun y0=>iv.f m y0 nI)).bind fun x2=>some (!x2)) else (some false)) else (some false)) else (some false)) else (some false)) else (if (n0.kind==(4:Int))=true then (if (decide (n0.int≥(0:Int)))=true then ((iw.f m n0.label).bind fun x3=>if x3=true then (some ((n0.args.length:Int)==(0:Int))) else (some false)) else (some false)) else (some false)))))
def jg.fin (L:Mem)(r:Bool)(s:St):Prop:=∃av,aH Tryz.prog (s.open Ef) Tryz.f76.results.toList=some av∧gf s.h av (.bool r)
def Wn (cf:CallF)(m:Nat):Prop:=∀(n0:ae) (nI:Int) (r:Bool),jg.f m n0 nI=some r→∀h xs,eR fh h xs [.agg [.int .i64 n0.kind,.int .i64 n0.int,.str n0.label,aa.fz n0.args],.int .i64 nI]→cf 76 xs h=some (.bool r,h)
section
variable {cf:CallF}{m:Nat}
theorem vO {aV:FuncId→b9}(ha:aV 76=Ef)(F6:Wj cf m)(TI:Wk cf m)(TJ:Wl cf m)(Qt:Wm cf m)(n0:ae)(nI:Int)(h:AHeap)(L:Mem)  (o:Has h (L)){out:Bool}(H:jg.f m n0 nI=some out) :
  ∃r h',bg Tryz.prog aV cf m 76 [.agg [.int .i64 n0.kind,.int .i64 n0.int,.str n0.label,aa.fz n0.args],.int .i64 nI] h=some (r,h')∧gf h' r (.bool out):=by
 refine aj (fn:=Tryz.f76) ha Tryz.func76 (by kernel_rfl) (by kernel_rfl) ?_
 refine aD (Q:=fun s=>jg.fin L out s) (fun _ _ h=>h) ?_
 have H:_=some out:=H
 unfold jg.f at H
 show dA _ cf Ef m _ ⟨.agg [.int .i64 n0.kind,.int .i64 n0.int,.str n0.label,aa.fz n0.args] :: .int .i64 nI::FX [],[none],h⟩ _
 refine qq ?_
 obtain⟨az,h0,e0,o0⟩:=kL (cs:=[.int .i64 nI]) o (by kernel_rfl)
 refine qr [.a 1 e0] <| qq <| qq <| q0 <| qb 0 <| qq <| q0 <| qc H (fun c0 H=>?_) (fun c0 H=>?_)
 ·refine qq ?_
  rcases dX H with⟨c1,H⟩| ⟨c1,H⟩
  ·rcases dX H with⟨c2,H⟩| ⟨c2,H⟩
   ·refine qr [.b 3 c1,.b 8 c2] ?_
    have o1:Has h0 (L):=Has.del o0 0
    obtain rfl:=oi H
    exact qt <| ⟨.inl rfl,cp (.bool ((n0.args.length:Int)==(0:Int))) h0 (cn (au))⟩
   ·refine qr [.b 3 c1,.b 8 c2] ?_
    have o2:Has h0 (L):=Has.del o0 0
    obtain rfl:=oi H
    exact qt <| ⟨.inl rfl,cp (.bool false) h0 (cn (au))⟩
  ·refine qr [.b 3 c1] ?_
   have o3:Has h0 (L):=Has.del o0 0
   obtain rfl:=oi H
   exact qt <| ⟨.inl rfl,cp (.bool false) h0 (cn (au))⟩
 ·refine q1 <| qc H (fun c3 H=>?_) (fun c3 H=>?_)
  ·refine qq ?_
   rcases dX H with⟨c4,H⟩| ⟨c4,H⟩
   ·rcases dX H with⟨c5,H⟩| ⟨c5,H⟩
    ·rcases dX H with⟨c6,H⟩| ⟨c6,H⟩
     ·refine qr [.b 3 c4,.b 8 c5,.b 13 c6] ?_
      have o4:Has h0 (L):=Has.del o0 0
      obtain rfl:=oi H
      exact qt <| ⟨.inl rfl,cp (.bool ((n0.args.length:Int)==(0:Int))) h0 (cn (au))⟩
     ·refine qr [.b 3 c4,.b 8 c5,.b 13 c6] ?_
      have o5:Has h0 (L):=Has.del o0 0
      obtain rfl:=oi H
      exact qt <| ⟨.inl rfl,cp (.bool false) h0 (cn (au))⟩
    ·refine qr [.b 3 c4,.b 8 c5] ?_
     have o6:Has h0 (L):=Has.del o0 0
     obtain rfl:=oi H
     exact qt <| ⟨.inl rfl,cp (.bool false) h0 (cn (au))⟩
   ·refine qr [.b 3 c4] ?_
    have o7:Has h0 (L):=Has.del o0 0
    obtain rfl:=oi H
    exact qt <| ⟨.inl rfl,cp (.bool false) h0 (cn (au))⟩
  ·refine q1 <| qc H (fun c7 H=>?_) (fun c7 H=>?_)
   ·refine qq ?_
    rcases dX H with⟨c8,H⟩| ⟨c8,H⟩
    ·obtain⟨x0,e1,H⟩:=aG H
     rcases dX H with⟨c9,H⟩| ⟨c9,H⟩
     ·refine qr [.b 3 c8,.a 6 (F6 _ _ e1 h0 _ (fT (ab (cF) (aA)))),.b 8 c9] ?_
      have o8:Has h0 (L):=Has.del o0 0
      obtain rfl:=oi H
      exact qt <| ⟨.inl rfl,cp (.bool ((n0.args.length:Int)==(0:Int))) h0 (cn (au))⟩
     ·refine qr [.b 3 c8,.a 6 (F6 _ _ e1 h0 _ (fT (ab (cF) (aA)))),.b 8 c9] ?_
      have o9:Has h0 (L):=Has.del o0 0
      obtain rfl:=oi H
      exact qt <| ⟨.inl rfl,cp (.bool false) h0 (cn (au))⟩
    ·refine qr [.b 3 c8] ?_
     have oz:Has h0 (L):=Has.del o0 0
     obtain rfl:=oi H
     exact qt <| ⟨.inl rfl,cp (.bool false) h0 (cn (au))⟩
   ·refine q1 <| qc H (fun vJ H=>?_) (fun vJ H=>?_)
    ·refine qq ?_
     rcases dX H with⟨nH,H⟩| ⟨nH,H⟩
     ·obtain⟨x1,e2,H⟩:=aG H
      rcases dX H with⟨sd,H⟩| ⟨sd,H⟩
      ·rcases dX H with⟨tI,H⟩| ⟨tI,H⟩
       ·rcases dX H with⟨qP,H⟩| ⟨qP,H⟩
        ·obtain⟨x2,e3,H⟩:=aG H
         refine qr [.b 3 nH,.a 6 (F6 _ _ e2 h0 _ (fT (ab (cF) (aA)))),.b 8 sd,.b 14 tI,.b 20 qP,.a 24 (TI _ _ _ e3 h0 (Has.pos o0) 95 [.ptr az 0] rfl (fun y0 r hr=>TJ y0 _ r hr h0 _ 0 _ o0 rfl) _ (an (aP (gP (E:=aa))) (an ((rfl:aC (.fn 95 [.ptr az 0])=_)) (aT))))] ?_
         have sg:Has h0 (L):=Has.del o0 0
         obtain rfl:=oi H
         exact qt <| ⟨.inl rfl,cp (.bool (!x2)) h0 (cn (au))⟩
        ·refine qr [.b 3 nH,.a 6 (F6 _ _ e2 h0 _ (fT (ab (cF) (aA)))),.b 8 sd,.b 14 tI,.b 20 qP] ?_
         have oZ:Has h0 (L):=Has.del o0 0
         obtain rfl:=oi H
         exact qt <| ⟨.inl rfl,cp (.bool false) h0 (cn (au))⟩
       ·refine qr [.b 3 nH,.a 6 (F6 _ _ e2 h0 _ (fT (ab (cF) (aA)))),.b 8 sd,.b 14 tI] ?_
        have kN:Has h0 (L):=Has.del o0 0
        obtain rfl:=oi H
        exact qt <| ⟨.inl rfl,cp (.bool false) h0 (cn (au))⟩
      ·refine qr [.b 3 nH,.a 6 (F6 _ _ e2 h0 _ (fT (ab (cF) (aA)))),.b 8 sd] ?_
       have tL:Has h0 (L):=Has.del o0 0
       obtain rfl:=oi H
       exact qt <| ⟨.inl rfl,cp (.bool false) h0 (cn (au))⟩
     ·refine qr [.b 3 nH] ?_
      have qR:Has h0 (L):=Has.del o0 0
      obtain rfl:=oi H
      exact qt <| ⟨.inl rfl,cp (.bool false) h0 (cn (au))⟩
    ·refine q1 ?_
     have kO:Has h0 (L):=Has.del o0 0
     refine qc H (fun Eg H=>?_) (fun Eg H=>?_)
     ·refine qq ?_
      rcases dX H with⟨Eh,H⟩| ⟨Eh,H⟩
      ·obtain⟨x3,e4,H⟩:=aG H
       rcases dX H with⟨F7,H⟩| ⟨F7,H⟩
       ·obtain rfl:=oi H
        exact qr [.b 3 Eh,.a 6 (Qt _ _ e4 h0 _ (fT (ab (cF) (aA)))),.b 8 F7] <| qt <| ⟨.inl rfl,cp (.bool ((n0.args.length:Int)==(0:Int))) h0 (cn (au))⟩
       ·obtain rfl:=oi H
        exact qr [.b 3 Eh,.a 6 (Qt _ _ e4 h0 _ (fT (ab (cF) (aA)))),.b 8 F7] <| qt <| ⟨.inl rfl,cp (.bool false) h0 (cn (au))⟩
      ·obtain rfl:=oi H
       exact qr [.b 3 Eh] <| qt <| ⟨.inl rfl,cp (.bool false) h0 (cn (au))⟩
     ·obtain rfl:=oi H
      exact qk <| qq <| q0 <| qt <| ⟨.inl rfl,cp (.bool false) h0 (cn (au))⟩
end
end Go.Proofs.YtmekcfdllhphlaaGreatDoor
namespace Go.Proofs.YtmekcfdllhphlaaGreatDoor
open Go Go.R
open Go.IntKind (i64 u64 u8 u32)
def AZ:b9:=gm [0,1,4,5,7,8,9,16] [] [252,204,140,196,68,251,204,251] [] []
def fB.l0 (m:Nat)(s0:List ae)(f0:ae→Option (Bool)):Nat→Int→Option (Sum Int (Int))
 | 0,_=>none
 | k+1,x0=>if (decide (x0<(s0.length:Int)))=true then ((ix s0 x0).bind fun v0=>(f0 v0).bind fun r0=>if r0=true then (some (.inl x0)) else (fB.l0 m s0 f0 k (i64.wrap (x0+(1:Int))))) else (some (.inr x0))
def fB.f (m:Nat)(s0:List ae)(f0:ae→Option (Bool)):Option (Int):=(fB.l0 m s0 f0 m (0:Int)).bind fun aF=>match aF with | .inl r1=>some r1 | .inr x1=>some (-1:Int)
def fB.fin (h:AHeap)(r:Int)(s:St):Prop:=aH Tryz.prog (s.open AZ) Tryz.f55.results.toList=some (.int .i64 r)∧s.h=h
def Wo (cf:CallF)(m:Nat):Prop:=∀(s0:List ae) (f0:ae→Option (Bool)) (r:Int),fB.f m s0 f0=some r→∀h,0<h.next→∀(eh:FuncId) (aX:List AV),aC (.fn eh aX) = .fn eh aX→(∀(a0:ae) r,f0 a0=some r→cf eh ([.agg [.int .i64 a0.kind,.int .i64 a0.int,.str a0.label,aa.fz a0.args]]++aX) h=some (.bool r,h))→∀xs,xs.map aC=[ah.fz s0,.fn eh aX]→cf 55 xs h=some (.int .i64 r,h)
section
variable {cf:CallF}{m:Nat}
theorem fB.bu (h:AHeap)(L:Mem)(eh:FuncId)(aX:List AV)(s0:List ae)(f0:ae→Option (Bool))  (iH:aC (.fn eh aX) = .fn eh aX)(iM:∀(a0:ae) r,f0 a0=some r→cf eh ([.agg [.int .i64 a0.kind,.int .i64 a0.int,.str a0.label,aa.fz a0.args]]++aX) h=some (.bool r,h))  : bC Tryz.prog cf AZ m (sub [1,0,1,0,0] (codeOf Tryz.f55)) (fun k (σ:Int)=>fB.l0 m s0 f0 k σ) (fun σ s=>match σ with | x0=>s=⟨[ah.fz s0,.fn eh aX,.any,.any,.int .i64 (s0.length:Int),.int .i64 x0,.any,.any],[],h⟩∧Has h (L)) (fun out e s=>(e = .exit 0∧∃x0,.inr x0=out∧∃kM qM se pG qQ,s=⟨[kM,qM,.any,.any,se,pG,qQ,.any],[],h⟩∧Has h (L))∨(e = .ret∧∃r,.inl r=out∧fB.fin h r s)):=by
 refine gk (fun _=>rfl) ?_
 rintro k x0 s out ⟨rfl,o0⟩ H
 have H:fB.l0 m s0 f0 (k+1) x0=some out:=H
 refine q1 <| qq <| qc H (fun c0 H=>?_) (fun c0 H=>?_)
 ·refine qk <| qq <| qb 1 <| qq <| q0 <| qq ?_
  obtain⟨v0,e0,H⟩:=aG H
  obtain⟨r0,e1,H⟩:=aG H
  refine qr [.v 3 (bN (k:=.i64) (E:=ah) (l:=s0) mj e0),.v 4 (dI  (E:=ah) (l:=s0) h th ti e0),.a 5 (iM _ _ e1)] <| qc H (fun c1 H=>?_) (fun c1 H=>?_)
  ·exact q1 <| qt <| abD (⟨rfl,_,oi H,⟨by kernel_rfl,by kernel_rfl⟩⟩)
  ·exact qk <| q0 <| ⟨i64.wrap (x0+(1:Int)),⟨by kernel_rfl,o0⟩,H⟩
 ·exact qx 0 <| abM (⟨rfl,x0,oi H,ah.fz s0,.fn eh aX,.int .i64 (s0.length:Int),.int .i64 x0,.bool (decide (x0<(s0.length:Int))),by kernel_rfl,o0⟩)
theorem zn {aV:FuncId→b9}(ha:aV 55=AZ)  (s0:List ae)(f0:ae→Option (Bool))(h:AHeap)(L:Mem)(eh:FuncId)(aX:List AV)  (iH:aC (.fn eh aX) = .fn eh aX)(iM:∀(a0:ae) r,f0 a0=some r→cf eh ([.agg [.int .i64 a0.kind,.int .i64 a0.int,.str a0.label,aa.fz a0.args]]++aX) h=some (.bool r,h))(o:Has h (L)){out:Int}(H:fB.f m s0 f0=some out) :
  ∃r h',bg Tryz.prog aV cf m 55 [ah.fz s0,.fn eh aX] h=some (r,h')∧r=(.int .i64 out)∧h'=h:=by
 refine aj (fn:=Tryz.f55) ha Tryz.func55 (by kernel_rfl) (by kernel_rfl) ?_
 refine aD (Q:=fun s=>fB.fin h out s) (fun _ _ ⟨h1,h2,h3⟩=>⟨h1,_,h2,rfl,h3⟩) ?_
 have H:_=some out:=H
 unfold fB.f at H
 show dA _ cf AZ m _ ⟨ah.fz s0 :: .fn eh aX::zX [],[],h⟩ _
 refine q1 <| qq <| qq <| q0 <| qb 0 ?_
 obtain⟨aF,e2,H⟩:=aG H
 refine ql (fB.bu h L eh aX s0 f0  iH iM  (0:Int) _ _ ⟨by kernel_rfl,o⟩ e2) ?_
 rintro e s (⟨rfl,x1,rfl,g0,g1,g2,g3,g4,rfl,o1⟩| ⟨rfl,r1,rfl,l8⟩)
 ·try dsimp only at H
  obtain rfl:=oi H
  exact q1 <| qt <| ⟨.inl rfl,⟨by kernel_rfl,by kernel_rfl⟩⟩
 ·try dsimp only at H
  obtain rfl:=oi H
  exact⟨.inl rfl,l8⟩
end
end Go.Proofs.YtmekcfdllhphlaaGreatDoor
namespace Go.Proofs.YtmekcfdllhphlaaGreatDoor
open Go Go.R
open Go.IntKind (i64 u64 u8 u32)
def Ei:b9:=gm [0,1,4] [] [4,3] [] []
def gD.f (m:Nat)(s0:List ae)(f0:ae→Option (Bool)):Option (Bool):=(fB.f m s0 f0).bind fun x0=>some (decide (x0≥(0:Int)))
def gD.fin (h:AHeap)(r:Bool)(s:St):Prop:=aH Tryz.prog (s.open Ei) Tryz.f38.results.toList=some (.bool r)∧s.h=h
def TK (cf:CallF)(m:Nat):Prop:=∀(s0:List ae) (f0:ae→Option (Bool)) (r:Bool),gD.f m s0 f0=some r→∀h,0<h.next→∀(eh:FuncId) (aX:List AV),aC (.fn eh aX) = .fn eh aX→(∀(a0:ae) r,f0 a0=some r→cf eh ([.agg [.int .i64 a0.kind,.int .i64 a0.int,.str a0.label,aa.fz a0.args]]++aX) h=some (.bool r,h))→∀xs,xs.map aC=[ah.fz s0,.fn eh aX]→cf 38 xs h=some (.bool r,h)
section
variable {cf:CallF}{m:Nat}
theorem tM {aV:FuncId→b9}(ha:aV 38=Ei)(TL:Wo cf m)(s0:List ae)(f0:ae→Option (Bool))(h:AHeap)(L:Mem)(eh:FuncId)(aX:List AV)  (iH:aC (.fn eh aX) = .fn eh aX)(iM:∀(a0:ae) r,f0 a0=some r→cf eh ([.agg [.int .i64 a0.kind,.int .i64 a0.int,.str a0.label,aa.fz a0.args]]++aX) h=some (.bool r,h))(o:Has h (L)){out:Bool}(H:gD.f m s0 f0=some out) :
  ∃r h',bg Tryz.prog aV cf m 38 [ah.fz s0,.fn eh aX] h=some (r,h')∧r=(.bool out)∧h'=h:=by
 refine aj (fn:=Tryz.f38) ha Tryz.func38 (by kernel_rfl) (by kernel_rfl) ?_
 refine aD (Q:=fun s=>gD.fin h out s) (fun _ _ ⟨h1,h2,h3⟩=>⟨h1,_,h2,rfl,h3⟩) ?_
 have H:_=some out:=H
 unfold gD.f at H
 show dA _ cf Ei m _ ⟨[ah.fz s0,.fn eh aX,.any],[],h⟩ _
 refine q1 <| qq ?_
 obtain⟨x0,e0,H⟩:=aG H
 obtain rfl:=oi H
 exact qr [.a 2 (TL _ _ _ e0 h (Has.pos o) eh aX iH iM _ (an (aP (gP (E:=ah))) (an (iH) (aT))))] <| qt <| ⟨.inl rfl,⟨by kernel_rfl,by kernel_rfl⟩⟩
end
end Go.Proofs.YtmekcfdllhphlaaGreatDoor
namespace Go.Proofs.YtmekcfdllhphlaaGreatDoor
open Go Go.R
open Go.IntKind (i64 u64 u8 u32)
def A0:b9:=gm [0,1,4,5,7,8,9,16] [] [252,204,140,196,68,251,204,251] [] []
def fC.l0 (m:Nat)(s0:List ak)(f0:ak→Option (Bool)):Nat→Int→Option (Sum Int (Int))
 | 0,_=>none
 | k+1,x0=>if (decide (x0<(s0.length:Int)))=true then ((ix s0 x0).bind fun v0=>(f0 v0).bind fun r0=>if r0=true then (some (.inl x0)) else (fC.l0 m s0 f0 k (i64.wrap (x0+(1:Int))))) else (some (.inr x0))
def fC.f (m:Nat)(s0:List ak)(f0:ak→Option (Bool)):Option (Int):=(fC.l0 m s0 f0 m (0:Int)).bind fun aF=>match aF with | .inl r1=>some r1 | .inr x1=>some (-1:Int)
def fC.fin (h:AHeap)(r:Int)(s:St):Prop:=aH Tryz.prog (s.open A0) Tryz.f54.results.toList=some (.int .i64 r)∧s.h=h
def Wp (cf:CallF)(m:Nat):Prop:=∀(s0:List ak) (f0:ak→Option (Bool)) (r:Int),fC.f m s0 f0=some r→∀h,0<h.next→∀(eh:FuncId) (aX:List AV),aC (.fn eh aX) = .fn eh aX→(∀(a0:ak) r,f0 a0=some r→cf eh ([.agg [ah.fz a0.nodes,.int .i64 a0.root]]++aX) h=some (.bool r,h))→∀xs,xs.map aC=[aL.fz s0,.fn eh aX]→cf 54 xs h=some (.int .i64 r,h)
section
variable {cf:CallF}{m:Nat}
theorem fC.bu (h:AHeap)(L:Mem)(eh:FuncId)(aX:List AV)(s0:List ak)(f0:ak→Option (Bool))  (iH:aC (.fn eh aX) = .fn eh aX)(iM:∀(a0:ak) r,f0 a0=some r→cf eh ([.agg [ah.fz a0.nodes,.int .i64 a0.root]]++aX) h=some (.bool r,h))  : bC Tryz.prog cf A0 m (sub [1,0,1,0,0] (codeOf Tryz.f54)) (fun k (σ:Int)=>fC.l0 m s0 f0 k σ) (fun σ s=>match σ with | x0=>s=⟨[aL.fz s0,.fn eh aX,.any,.any,.int .i64 (s0.length:Int),.int .i64 x0,.any,.any],[],h⟩∧Has h (L)) (fun out e s=>(e = .exit 0∧∃x0,.inr x0=out∧∃kM qM se pG qQ,s=⟨[kM,qM,.any,.any,se,pG,qQ,.any],[],h⟩∧Has h (L))∨(e = .ret∧∃r,.inl r=out∧fC.fin h r s)):=by
 refine gk (fun _=>rfl) ?_
 rintro k x0 s out ⟨rfl,o0⟩ H
 have H:fC.l0 m s0 f0 (k+1) x0=some out:=H
 refine q1 <| qq <| qc H (fun c0 H=>?_) (fun c0 H=>?_)
 ·refine qk <| qq <| qb 1 <| qq <| q0 <| qq ?_
  obtain⟨v0,e0,H⟩:=aG H
  obtain⟨r0,e1,H⟩:=aG H
  refine qr [.v 3 (bN (k:=.i64) (E:=aL) (l:=s0) xZ e0),.v 4 (dI  (E:=aL) (l:=s0) h J7 J8 e0),.a 5 (iM _ _ e1)] <| qc H (fun c1 H=>?_) (fun c1 H=>?_)
  ·exact q1 <| qt <| abD (⟨rfl,_,oi H,⟨by kernel_rfl,by kernel_rfl⟩⟩)
  ·exact qk <| q0 <| ⟨i64.wrap (x0+(1:Int)),⟨by kernel_rfl,o0⟩,H⟩
 ·exact qx 0 <| abM (⟨rfl,x0,oi H,aL.fz s0,.fn eh aX,.int .i64 (s0.length:Int),.int .i64 x0,.bool (decide (x0<(s0.length:Int))),by kernel_rfl,o0⟩)
theorem zo {aV:FuncId→b9}(ha:aV 54=A0)  (s0:List ak)(f0:ak→Option (Bool))(h:AHeap)(L:Mem)(eh:FuncId)(aX:List AV)  (iH:aC (.fn eh aX) = .fn eh aX)(iM:∀(a0:ak) r,f0 a0=some r→cf eh ([.agg [ah.fz a0.nodes,.int .i64 a0.root]]++aX) h=some (.bool r,h))(o:Has h (L)){out:Int}(H:fC.f m s0 f0=some out) :
  ∃r h',bg Tryz.prog aV cf m 54 [aL.fz s0,.fn eh aX] h=some (r,h')∧r=(.int .i64 out)∧h'=h:=by
 refine aj (fn:=Tryz.f54) ha Tryz.func54 (by kernel_rfl) (by kernel_rfl) ?_
 refine aD (Q:=fun s=>fC.fin h out s) (fun _ _ ⟨h1,h2,h3⟩=>⟨h1,_,h2,rfl,h3⟩) ?_
 have H:_=some out:=H
 unfold fC.f at H
 show dA _ cf A0 m _ ⟨aL.fz s0 :: .fn eh aX::zX [],[],h⟩ _
 refine q1 <| qq <| qq <| q0 <| qb 0 ?_
 obtain⟨aF,e2,H⟩:=aG H
 refine ql (fC.bu h L eh aX s0 f0  iH iM  (0:Int) _ _ ⟨by kernel_rfl,o⟩ e2) ?_
 rintro e s (⟨rfl,x1,rfl,g0,g1,g2,g3,g4,rfl,o1⟩| ⟨rfl,r1,rfl,l8⟩)
 ·try dsimp only at H
  obtain rfl:=oi H
  exact q1 <| qt <| ⟨.inl rfl,⟨by kernel_rfl,by kernel_rfl⟩⟩
 ·try dsimp only at H
  obtain rfl:=oi H
  exact⟨.inl rfl,l8⟩
end
end Go.Proofs.YtmekcfdllhphlaaGreatDoor
namespace Go.Proofs.YtmekcfdllhphlaaGreatDoor
open Go Go.R
open Go.IntKind (i64 u64 u8 u32)
def Ej:b9:=gm [0,1,4] [] [4,3] [] []
def gE.f (m:Nat)(s0:List ak)(f0:ak→Option (Bool)):Option (Bool):=(fC.f m s0 f0).bind fun x0=>some (decide (x0≥(0:Int)))
def gE.fin (h:AHeap)(r:Bool)(s:St):Prop:=aH Tryz.prog (s.open Ej) Tryz.f36.results.toList=some (.bool r)∧s.h=h
def Wq (cf:CallF)(m:Nat):Prop:=∀(s0:List ak) (f0:ak→Option (Bool)) (r:Bool),gE.f m s0 f0=some r→∀h,0<h.next→∀(eh:FuncId) (aX:List AV),aC (.fn eh aX) = .fn eh aX→(∀(a0:ak) r,f0 a0=some r→cf eh ([.agg [ah.fz a0.nodes,.int .i64 a0.root]]++aX) h=some (.bool r,h))→∀xs,xs.map aC=[aL.fz s0,.fn eh aX]→cf 36 xs h=some (.bool r,h)
section
variable {cf:CallF}{m:Nat}
theorem tN {aV:FuncId→b9}(ha:aV 36=Ej)(TM:Wp cf m)(s0:List ak)(f0:ak→Option (Bool))(h:AHeap)(L:Mem)(eh:FuncId)(aX:List AV)  (iH:aC (.fn eh aX) = .fn eh aX)(iM:∀(a0:ak) r,f0 a0=some r→cf eh ([.agg [ah.fz a0.nodes,.int .i64 a0.root]]++aX) h=some (.bool r,h))(o:Has h (L)){out:Bool}(H:gE.f m s0 f0=some out) :
  ∃r h',bg Tryz.prog aV cf m 36 [aL.fz s0,.fn eh aX] h=some (r,h')∧r=(.bool out)∧h'=h:=by
 refine aj (fn:=Tryz.f36) ha Tryz.func36 (by kernel_rfl) (by kernel_rfl) ?_
 refine aD (Q:=fun s=>gE.fin h out s) (fun _ _ ⟨h1,h2,h3⟩=>⟨h1,_,h2,rfl,h3⟩) ?_
 have H:_=some out:=H
 unfold gE.f at H
 show dA _ cf Ej m _ ⟨[aL.fz s0,.fn eh aX,.any],[],h⟩ _
 refine q1 <| qq ?_
 obtain⟨x0,e0,H⟩:=aG H
 obtain rfl:=oi H
 exact qr [.a 2 (TM _ _ _ e0 h (Has.pos o) eh aX iH iM _ (an (aP (gP (E:=aL))) (an (iH) (aT))))] <| qt <| ⟨.inl rfl,⟨by kernel_rfl,by kernel_rfl⟩⟩
end
end Go.Proofs.YtmekcfdllhphlaaGreatDoor
namespace Go.Proofs.YtmekcfdllhphlaaGreatDoor
open Go Go.R
open Go.IntKind (i64 u64 u8 u32)
def iI (c:Int):Bool:=decide (97≤c∧c≤122)||decide (65≤c∧c≤90)||decide (48≤c∧c≤57)||c==95
theorem A6 {m:Nat}(c:Int):gu.f m c=some (iI c):=by
 unfold gu.f
 by_cases h1:97≤c<;>by_cases h2:c≤122<;>by_cases h3:65≤c<;>by_cases h4:c≤90<;>by_cases h5:48≤c<;>by_cases h6:c≤57<;>simp [iI,h1,h2,h3,h4,h5,h6]<;>omega
theorem uE {s:ByteArray}{i:Nat}(h:i<s.size):∃c:UInt8,s.data.toList[i]? = some c∧bt s (i:Int)=some (c.toNat:Int):=by
 have h':i<s.data.toList.length:=by simpa using h
 refine⟨s.data.toList[i],aaL h',?_⟩
 unfold bt; rw [if_pos (by omega),aaH,aaL h']; rfl
theorem Ek {m:Nat}{s:ByteArray}(hs:s.size≤16):∀(f i:Nat),s.size - i<f→i≤s.size→
  ∃o,dy.l0 m s f (i:Int)=some o∧((∃x,o = .inr x)∧((s.data.toList.drop i).all fun c=>iI (c.toNat:Int))=true∨o = .inl false∧((s.data.toList.drop i).all fun c=>iI (c.toNat:Int))=false)
 | 0,i,hf,_=>absurd hf (by omega)
 | f+1,i,hf,hi=>by
  unfold dy.l0
  by_cases h:i<s.size
  ·obtain⟨c,hc,hb⟩:=uE h
   obtain⟨h4,h5⟩:=aaK.1 hc
   have hd:s.data.toList.drop i=c::s.data.toList.drop (i+1):=by rw [←h5]; exact aaP h4
   rw [if_pos (by simp only [decide_eq_true_eq]; omega),hb,aaA,A6,aaA,hd,abA]
   cases hl:iI (c.toNat:Int) with
   | false=>exact⟨_,rfl,.inr ⟨rfl,rfl⟩⟩
   | true=>
    obtain⟨o,h1,h2⟩:=Ek (m:=m) hs f (i+1) (by omega) (by omega)
    rw [if_neg (by simp),ay (by omega) (by omega),show (i:Int)+1=((i+1:Nat):Int) by omega,h1]
    exact⟨o,rfl,by simpa using h2⟩
  ·refine⟨_,by rw [if_neg (by simp only [decide_eq_true_eq]; omega)],.inl ⟨⟨_,rfl⟩,?_⟩⟩
   rw [aaU (by simp; omega)]; rfl
def A7 (s:ByteArray)(lo hi:Int):Bool:=match s.data.toList with
 | []=>false
 | c::cs=>decide (cs.length≤15)&&decide (lo≤(c.toNat:Int))&&decide ((c.toNat:Int)≤hi)&&((c::cs).all fun c=>iI (c.toNat:Int))
theorem F8 {m:Nat}(hm:20≤m)(s:ByteArray)(lo hi:Int):dy.f m s lo hi=some (A7 s lo hi):=by
 have hsz:s.size=s.data.toList.length:=by simp
 unfold dy.f A7
 cases hl:s.data.toList with
 | nil=>rw [if_pos (by rw [hl,abg] at hsz; simp only [decide_eq_true_eq]; omega)]
 | cons c cs=>
  rw [hl,aaR] at hsz
  rw [if_neg (by simp only [decide_eq_true_eq]; omega)]
  dsimp only
  by_cases h16:cs.length≤15
  ·obtain⟨c',h1,h2⟩:=uE (s:=s) (i:=0) (by omega)
   rw [hl] at h1
   simp only [abk,aaD] at h1
   subst h1
   have h2:bt s 0=_:=h2
   rw [if_neg (by simp only [decide_eq_true_eq]; omega),h2,aaA]
   by_cases h3:(c.toNat:Int)<lo
   ·rw [if_pos (by simpa using h3)]
    simp only [aaD]
    rw [show decide (lo≤(c.toNat:Int))=false by simp; omega]; simp
   rw [if_neg (by simpa using h3),aaA]
   by_cases h4:(c.toNat:Int) > hi
   ·rw [if_pos (by simpa using h4)]
    simp only [aaD]
    rw [show decide ((c.toNat:Int)≤hi)=false by simp; omega]; simp
   rw [if_neg (by simpa using h4)]
   obtain⟨o,k1,k2⟩:=Ek (m:=m) (s:=s) (by omega) m 0 (by omega) (by omega)
   have k1:dy.l0 m s m 0=_:=k1
   rw [k1,aaA]
   rw [aa3,hl] at k2
   rw [show decide (lo≤(c.toNat:Int))=true by simp; omega,show decide ((c.toNat:Int)≤hi)=true by simp; omega,show decide (cs.length≤15)=true by simpa using h16]
   simp only [abW]
   rcases k2 with⟨⟨x,rfl⟩,k⟩| ⟨rfl,k⟩
   ·rw [k]
   ·rw [k]
  ·rw [if_pos (by simp only [decide_eq_true_eq]; omega),show decide (cs.length≤15)=false by simp; omega]; rfl
def mU (s:ByteArray):Bool:=s.data.toList==[124]||s.data.toList==[35]||A7 s 97 122
theorem yb {m:Nat}(hm:20≤m)(s:ByteArray):iG.f m s=some (mU s):=by
 unfold iG.f mU
 show (if (s.data.toList==[124])=true then _ else if (s.data.toList==[35])=true then _ else _)=_
 cases h1:s.data.toList==[124] with
 | true=>rfl
 | false=>
  cases h2:s.data.toList==[35] with
  | true=>rfl
  | false=>rw [F8 hm]; rfl
theorem yc {s:ByteArray}(h:mU s=true):1≤s.size∧s.size≤16:=by
 have hsz:s.size=s.data.toList.length:=by simp
 unfold mU at h
 simp only [abt,beq_iff_eq] at h
 rcases h with (h | h) | h
 ·rw [h] at hsz; simp at hsz; omega
 ·rw [h] at hsz; simp at hsz; omega
 ·unfold A7 at h
  split at h
  ·cases h
  ·rename_i c cs hl
   rw [hl] at hsz
   simp only [aaF,decide_eq_true_eq] at h
   simp at hsz; omega
def A8 (s:ByteArray):Bool:=s.data.toList==[112,114,111,99]||s.data.toList==[99,101,108,108]||s.data.toList==[112,111,114,116]
theorem F9 {m:Nat}(s:ByteArray):iw.f m s=some (A8 s):=by
 unfold iw.f A8
 show (if (s.data.toList==[112,114,111,99])=true then _ else if (s.data.toList==[99,101,108,108])=true then _ else some (s.data.toList==[112,111,114,116]))=_
 cases h1:s.data.toList==[112,114,111,99] with
 | true=>rfl
 | false=>
  cases h2:s.data.toList==[99,101,108,108] with
  | true=>rfl
  | false=>rfl
theorem H5 {m:Nat}{s:List Int}{f0:Int→Option Bool}{g:Int→Bool}(hs:s.length<2 ^ 40)(C:∀x∈s,f0 x=some (g x)):∀(f i:Nat),s.length - i<f→i≤s.length→
  ∃o,fy.l0 m s f0 f (i:Int)=some o∧((∃x,o = .inr x)∧(s.drop i).any g=false∨(∃x:Nat,o = .inl (x:Int))∧(s.drop i).any g=true)
 | 0,i,hf,_=>absurd hf (by omega)
 | f+1,i,hf,hi=>by
  have mZ:(2:Nat) ^ 40=1099511627776:=by decide
  unfold fy.l0
  by_cases h:i<s.length
  ·have hx:ix s (i:Int)=some s[i]:=by unfold ix; rw [if_pos (by omega)]; simp [h]
   rw [if_pos (by simp only [decide_eq_true_eq]; omega),hx,aaA,C _ (abe h),aaA,aaP h,List.any_cons]
   cases g s[i] with
   | true=>exact⟨_,rfl,.inr ⟨⟨i,rfl⟩,rfl⟩⟩
   | false=>
    obtain⟨o,h1,h2⟩:=H5 (m:=m) hs C f (i+1) (by omega) (by omega)
    rw [if_neg (by simp),ay (by omega) (by omega),show (i:Int)+1=((i+1:Nat):Int) by omega,h1]
    exact⟨o,rfl,by simpa using h2⟩
  ·refine⟨_,by rw [if_neg (by simp only [decide_eq_true_eq]; omega)],.inl ⟨⟨_,rfl⟩,?_⟩⟩
   rw [aaU (by omega)]; rfl
theorem Ga {m:Nat}{s:List Int}{f0:Int→Option Bool}{g:Int→Bool}(hs:s.length<2 ^ 40)(hm:s.length<m)(C:∀x∈s,f0 x=some (g x)):iu.f m s f0=some (s.any g):=by
 obtain⟨o,h1,h2⟩:=H5 (m:=m) hs C m 0 (by omega) (by omega)
 have h1:fy.l0 m s f0 m 0=_:=h1
 unfold iu.f fy.f
 rw [h1,aaA]
 rw [aa3] at h2
 rcases h2 with⟨⟨x,rfl⟩,k⟩| ⟨⟨x,rfl⟩,k⟩
 ·rw [k]; rfl
 ·rw [k]
  simp only [aaA,aaD]
  simp
theorem H6 {m:Nat}{s:List ae}{f0:ae→Option Bool}{g:ae→Bool}(hs:s.length<2 ^ 40)(C:∀x∈s,f0 x=some (g x)):∀(f i:Nat),s.length - i<f→i≤s.length→
  ∃o,fB.l0 m s f0 f (i:Int)=some o∧((∃x,o = .inr x)∧(s.drop i).any g=false∨(∃x:Nat,o = .inl (x:Int))∧(s.drop i).any g=true)
 | 0,i,hf,_=>absurd hf (by omega)
 | f+1,i,hf,hi=>by
  have mZ:(2:Nat) ^ 40=1099511627776:=by decide
  unfold fB.l0
  by_cases h:i<s.length
  ·have hx:ix s (i:Int)=some s[i]:=by unfold ix; rw [if_pos (by omega)]; simp [h]
   rw [if_pos (by simp only [decide_eq_true_eq]; omega),hx,aaA,C _ (abe h),aaA,aaP h,List.any_cons]
   cases g s[i] with
   | true=>exact⟨_,rfl,.inr ⟨⟨i,rfl⟩,rfl⟩⟩
   | false=>
    obtain⟨o,h1,h2⟩:=H6 (m:=m) hs C f (i+1) (by omega) (by omega)
    rw [if_neg (by simp),ay (by omega) (by omega),show (i:Int)+1=((i+1:Nat):Int) by omega,h1]
    exact⟨o,rfl,by simpa using h2⟩
  ·refine⟨_,by rw [if_neg (by simp only [decide_eq_true_eq]; omega)],.inl ⟨⟨_,rfl⟩,?_⟩⟩
   rw [aaU (by omega)]; rfl
theorem yd {m:Nat}{s:List ae}{f0:ae→Option Bool}{g:ae→Bool}(hs:s.length<2 ^ 40)(hm:s.length<m)(C:∀x∈s,f0 x=some (g x)):gD.f m s f0=some (s.any g):=by
 obtain⟨o,h1,h2⟩:=H6 (m:=m) hs C m 0 (by omega) (by omega)
 have h1:fB.l0 m s f0 m 0=_:=h1
 unfold gD.f fB.f
 rw [h1,aaA]
 rw [aa3] at h2
 rcases h2 with⟨⟨x,rfl⟩,k⟩| ⟨⟨x,rfl⟩,k⟩
 ·rw [k]; rfl
 ·rw [k]
  simp only [aaA,aaD]
  simp
theorem H7 {m:Nat}{s:List ak}{f0:ak→Option Bool}{g:ak→Bool}(hs:s.length<2 ^ 40)(C:∀x∈s,f0 x=some (g x)):∀(f i:Nat),s.length - i<f→i≤s.length→
  ∃o,fC.l0 m s f0 f (i:Int)=some o∧((∃x,o = .inr x)∧(s.drop i).any g=false∨(∃x:Nat,o = .inl (x:Int))∧(s.drop i).any g=true)
 | 0,i,hf,_=>absurd hf (by omega)
 | f+1,i,hf,hi=>by
  have mZ:(2:Nat) ^ 40=1099511627776:=by decide
  unfold fC.l0
  by_cases h:i<s.length
  ·have hx:ix s (i:Int)=some s[i]:=by unfold ix; rw [if_pos (by omega)]; simp [h]
   rw [if_pos (by simp only [decide_eq_true_eq]; omega),hx,aaA,C _ (abe h),aaA,aaP h,List.any_cons]
   cases g s[i] with
   | true=>exact⟨_,rfl,.inr ⟨⟨i,rfl⟩,rfl⟩⟩
   | false=>
    obtain⟨o,h1,h2⟩:=H7 (m:=m) hs C f (i+1) (by omega) (by omega)
    rw [if_neg (by simp),ay (by omega) (by omega),show (i:Int)+1=((i+1:Nat):Int) by omega,h1]
    exact⟨o,rfl,by simpa using h2⟩
  ·refine⟨_,by rw [if_neg (by simp only [decide_eq_true_eq]; omega)],.inl ⟨⟨_,rfl⟩,?_⟩⟩
   rw [aaU (by omega)]; rfl
theorem oA {m:Nat}{s:List ak}{f0:ak→Option Bool}{g:ak→Bool}(hs:s.length<2 ^ 40)(hm:s.length<m)(C:∀x∈s,f0 x=some (g x)):gE.f m s f0=some (s.any g):=by
 obtain⟨o,h1,h2⟩:=H7 (m:=m) hs C m 0 (by omega) (by omega)
 have h1:fC.l0 m s f0 m 0=_:=h1
 unfold gE.f fC.f
 rw [h1,aaA]
 rw [aa3] at h2
 rcases h2 with⟨⟨x,rfl⟩,k⟩| ⟨⟨x,rfl⟩,k⟩
 ·rw [k]; rfl
 ·rw [k]
  simp only [aaA,aaD]
  simp
def nJ (n:ae)(size:Int):Bool:=
 if n.kind=0 then decide (0≤n.int)&&n.label.data.toList==[]&&n.args.isEmpty
 else if n.kind=1 then decide (-1099511627776≤n.int)&&decide (n.int≤1099511627776)&&n.label.data.toList==[]&&n.args.isEmpty
 else if n.kind=2 then n.int==0&&mU n.label&&n.args.isEmpty
 else if n.kind=3 then n.int==0&&mU n.label&&decide (1≤n.args.length)&&decide (n.args.length≤8)&&n.args.all fun a=>decide (0≤a)&&decide (a<size)
 else if n.kind=4 then decide (0≤n.int)&&A8 n.label&&n.args.isEmpty
 else false
theorem A9 (l:List Int):((l.length:Int)==(0:Int))=l.isEmpty:=by cases l<;>simp; omega
theorem Gb {m:Nat}(hm:20≤m)(n:ae)(size:Int):jg.f m n size=some (nJ n size):=by
 unfold jg.f nJ
 by_cases k0:n.kind=0
 ·rw [if_pos (by simpa using k0),if_pos k0]
  by_cases h1:0≤n.int
  ·rw [if_pos (by simpa using h1),show decide (0≤n.int)=true by simpa using h1]
   show (if (n.label.data.toList==[])=true then _ else _)=_
   cases n.label.data.toList==[] with
   | true=>rw [if_pos rfl,A9]; rfl
   | false=>rfl
  ·rw [if_neg (by simpa using h1),show decide (0≤n.int)=false by simp; omega]; rfl
 rw [if_neg (by simpa using k0),if_neg k0]
 by_cases k1:n.kind=1
 ·rw [if_pos (by simpa using k1),if_pos k1]
  by_cases h1 : -1099511627776≤n.int
  ·rw [if_pos (by simpa using h1),show decide (-1099511627776≤n.int)=true by simpa using h1]
   by_cases h3:n.int≤1099511627776
   ·rw [if_pos (by simpa using h3),show decide (n.int≤1099511627776)=true by simpa using h3]
    show (if (n.label.data.toList==[])=true then _ else _)=_
    cases n.label.data.toList==[] with
    | true=>rw [if_pos rfl,A9]; rfl
    | false=>rfl
   ·rw [if_neg (by simpa using h3),show decide (n.int≤1099511627776)=false by simp; omega]; rfl
  ·rw [if_neg (by simpa using h1),show decide (-1099511627776≤n.int)=false by simp; omega]; rfl
 rw [if_neg (by simpa using k1),if_neg k1]
 by_cases k2:n.kind=2
 ·rw [if_pos (by simpa using k2),if_pos k2]
  cases h1:n.int==0 with
  | false=>rfl
  | true=>
   rw [if_pos rfl,yb hm,aaA]
   cases mU n.label with
   | false=>rfl
   | true=>rw [if_pos rfl,A9]; rfl
 rw [if_neg (by simpa using k2),if_neg k2]
 by_cases k3:n.kind=3
 ·rw [if_pos (by simpa using k3),if_pos k3]
  cases h1:n.int==0 with
  | false=>rfl
  | true=>
   rw [if_pos rfl,yb hm,aaA]
   cases mU n.label with
   | false=>rfl
   | true=>
    rw [if_pos rfl]
    by_cases g1:1≤n.args.length
    ·rw [if_pos (by simp only [decide_eq_true_eq]; omega),show decide (1≤n.args.length)=true by simpa using g1]
     by_cases g2:n.args.length≤8
     ·rw [if_pos (by simp only [decide_eq_true_eq]; omega),show decide (n.args.length≤8)=true by simpa using g2]
      rw [Ga (g:=fun a=>!(decide (0≤a)&&decide (a<size))) (by omega) (by omega) (fun a _=>by
       unfold iv.f
       by_cases w:a<0
       ·rw [if_pos (by simpa using w),show decide (0≤a)=false by simp; omega]; rfl
       ·rw [if_neg (by simpa using w),show decide (0≤a)=true by simp; omega]
        by_cases w2:a<size
        ·rw [show decide (a≥size)=false from decide_eq_false (by omega),show decide (a<size)=true from decide_eq_true w2]; rfl
        ·rw [show decide (a≥size)=true from decide_eq_true (by omega),show decide (a<size)=false from decide_eq_false w2]; rfl),aaA]
      simp [List.not_any_eq_all_not]
     ·rw [if_neg (by simp only [decide_eq_true_eq]; omega),show decide (n.args.length≤8)=false from decide_eq_false g2]; rfl
    ·rw [if_neg (by simp only [decide_eq_true_eq]; omega),show decide (1≤n.args.length)=false from decide_eq_false g1]; rfl
 rw [if_neg (by simpa using k3),if_neg k3]
 by_cases k4:n.kind=4
 ·rw [if_pos (by simpa using k4),if_pos k4]
  by_cases h1:0≤n.int
  ·rw [if_pos (by simpa using h1),show decide (0≤n.int)=true by simpa using h1,F9,aaA]
   cases A8 n.label with
   | false=>rfl
   | true=>rw [if_pos rfl,A9]; rfl
  ·rw [if_neg (by simpa using h1),show decide (0≤n.int)=false by simp; omega]; rfl
 rw [if_neg (by simpa using k4),if_neg k4]
end Go.Proofs.YtmekcfdllhphlaaGreatDoor
