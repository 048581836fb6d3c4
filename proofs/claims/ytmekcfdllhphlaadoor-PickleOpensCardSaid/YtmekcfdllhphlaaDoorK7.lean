/- Part of the proof: RSrt, RGS, QW, Q123, Q122, PS1, Q118, Q106, Q77, Q107, Q78, Q79, Q80, Q62, Q52, Q34, Q51, Q32, PT6. -/
import Derived.Test.YtmekcfdllhphlaaDoorK6
import Derived.Shelf.Sort.Plain
import Derived.Shelf.Slices.In.SortNone
import Derived.Shelf.Slices.CompactI
import Derived.Test.YtmekcfdllhphlaaDoorProg
set_option linter.unusedVariables false
set_option linter.unusedSimpArgs false
set_option maxRecDepth 100000
open Array renaming getElem?_eq_some_iff → X0, getElem?_modify → Yz, getElem?_eq_getElem → YN
open Bool renaming and_eq_true → Xw, or_eq_true → Yf, true_and → YH
open ByteArray renaming mk → XV
open Int renaming toNat_natCast → Xy
open List renaming getElem?_eq_some_iff → XA, length_append → XB, getElem?_eq_getElem → XD, append_assoc → XF, drop_eq_getElem_cons → XG, length_map → XI, replicate → XK, getElem?_eq_none → XL, getD_eq_getElem?_getD → XM, map_cons → XN, getElem?_append_right → XO, length_cons → XR, cons_append → XU, map_append → XW, take_append_of_le_length → XY, getElem?_map → XZ, take_of_length_le → X1, nil_append → X2, drop_eq_nil_of_le → X3, getElem?_append_left → X4, drop_zero → X6, getElem?_cons_zero → X7, eq_nil_of_length_eq_zero → Ya, ext_getElem? → Yh, length_nil → Yk, all_cons → Ym, getElem_mem → Yo, mem_of_getElem? → Yu, length_take → YI, getElem?_set → YS, length_replicate → YX
open Nat renaming le_trans → X9, add_sub_cancel_left → Yt, lt_succ_of_lt → Yw
open Option renaming bind_some → Xr, bind_eq_some_iff → Xs, map_eq_some_iff → Xt, map_some → Xx, getD_some → Yl
open Option.some renaming injEq → Xu, inj → XP
open Or renaming inr → Yv, inl → YQ
open Prod.mk renaming injEq → Xz
namespace Go.R
open Go Go.Proofs Go.Shelf Go.RowKit Go.Sort
def ma:List AV→Option (List Int)
 | []=>some []
 | .int .i64 z::xs=>(ma xs).map fun l=>z::l
 | _=>none
theorem j6:∀{xs:List AV} {l:List Int},ma xs=some l→xs=l.map fun z=>.int .i64 z
 | [],l,h=>by cases h; rfl
 | x::xs,l,h=>by
  unfold ma at h
  split at h
  ·rename_i e; cases e
  ·rename_i z ys e
   obtain⟨rfl,rfl⟩:=List.cons.inj e
   obtain⟨l',h1,rfl⟩:=Xt.1 h
   rw [j6 h1]; rfl
  ·cases h
theorem nG:∀l:List Int,ma (l.map fun z=>.int .i64 z)=some l
 | []=>rfl
 | z::l=>by simp only [XN,ma,nG l,Xx]
def fX (l:List Int):List Int:=l.mergeSort fun x y=>decide (x≤y)
def re (l:List Int):List Int:=Lib.compact l++XK (l.length - (Lib.compact l).length) 0
noncomputable def KH (args:List AV)(h:AHeap):Option (AV × AHeap):=
 match args with
 | [.rs id 0 n 1]=>if n=0 then some (.tup [],h) else (h.get id).bind fun
  | .cells cs=>if n≤cs.length∧n<4611686018427387904 then (ma (cs.take n)).map fun l=>(.tup [],h.put id (.cells ((fX l).map (fun z=>.int .i64 z)++cs.drop n))) else none
  | _=>none
 | _=>none
noncomputable def KI (args:List AV)(h:AHeap):Option (AV × AHeap):=
 match args with
 | [.rs id 0 n 1]=>if n=0 then some (.rs id 0 n 1,h) else (h.get id).bind fun
  | .cells cs=>if n≤cs.length∧n<4611686018427387904 then (ma (cs.take n)).map fun l=>(.rs id 0 (Lib.compact l).length 1,h.put id (.cells ((re l).map (fun z=>.int .i64 z)++cs.drop n))) else none
  | _=>none
 | _=>none
theorem DC:∀args h r h',KH args h=some (r,h')→Steady h h':=by
 intro args h r h' hs
 unfold KH at hs
 split at hs
 ·split at hs
  ·cases hs; exact Steady.refl _
  ·rw [Xs] at hs
   obtain⟨o,_,hs⟩:=hs
   split at hs
   ·split at hs
    ·obtain⟨l,_,hs⟩:=Xt.1 hs
     cases hs; exact Steady.put _ _ _
    ·cases hs
   ·cases hs
 ·cases hs
theorem DD:∀args h r h',KI args h=some (r,h')→Steady h h':=by
 intro args h r h' hs
 unfold KI at hs
 split at hs
 ·split at hs
  ·cases hs; exact Steady.refl _
  ·rw [Xs] at hs
   obtain⟨o,_,hs⟩:=hs
   split at hs
   ·split at hs
    ·obtain⟨l,_,hs⟩:=Xt.1 hs
     cases hs; exact Steady.put _ _ _
    ·cases hs
   ·cases hs
 ·cases hs
section
variable {c:Cx}{L0:Nat→Prop}
theorem vE (hrel:HRel c L0){id n:Nat}{cs:List AV}{l:List Int}(hid:c.h.get id=some (.cells cs))(hl:ma (cs.take n)=some l):Holds (Value.int .i64) c.w (c.β id).1 (c.β id).2 l.toArray:=by
 obtain⟨m,⟨C,T,hC,hn⟩,hle,hcl⟩:=hrel.obj _ _ hid
 intro j hj
 have hj:j<l.length:=by simpa using hj
 have hx:cs[j]? = some (.int .i64 l[j]):=by
  have h1:(cs.take n)[j]? = some (.int .i64 l[j]):=by rw [j6 hl,XZ,XD hj]; rfl
  rw [List.getElem?_take] at h1
  split at h1
  ·exact h1
  ·cases h1
 obtain⟨v,h1,_,h3⟩:=hcl.get' j _ hx
 simp only [VR] at h3
 subst h3
 refine⟨by rw [h1]; simp [hj],by simp [World.frozen?,hC]⟩
theorem BW (hrel:HRel c L0)(hbs:c.base≤c.w.heap.size){id n:Nat}{cs:List AV}{new:List Int}(hid:c.h.get id=some (.cells cs))(hn:n≤cs.length)(hnew:new.length=n)(q:Nat)(os:Array Obj) :
  let w':=grow (putRow (Value.int .i64) (Sort.ahead c.w q) (c.β id).1 (c.β id).2 new.toArray) os
  let c':Cx:=⟨c.β,c.h.put id (.cells (new.map (fun z=>.int .i64 z)++cs.drop n)),w',c.base⟩
  HRel c' L0∧Ext c none0 c' none0∧c'.len (c.β id).1=c.len (c.β id).1:=by
 intro w' c'
 have hun:un L0 none0=L0:=by funext b; simp [un,none0]
 have f:=Fr.none hrel
 obtain⟨m,⟨C,T,hC,hm⟩,hle,hcl⟩:=hrel.obj _ _ hid
 have hlive:Live c.h id:=⟨hrel.lt _ _ hid,by rw [hid]; rfl⟩
 have hblt:(c.β id).1<c.w.heap.size:=(X0.1 hC).1
 have uA:∀k,k<c.w.heap.size→w'.heap[k]? = if k=(c.β id).1 then some (.cells (putCells (Value.int .i64) (c.β id).2 new.toArray C) T (0,0)) else c.w.heap[k]?:=fun k hk=>by
  show (grow _ os).heap[k]? = _
  rw [heap_grow_old _ _ (by simp [putRow,mapBlock,Sort.ahead]; exact hk)]
  by_cases h:k=(c.β id).1
  ·subst h; simp [putRow,mapBlock,Sort.ahead,Yz,hC,onCells]
  ·have h2:(c.β id).1≠k:=fun e=>h e.symm
   simp [putRow,mapBlock,Sort.ahead,Yz,h,h2]
 have zM:w'.heap[(c.β id).1]? = some (.cells (putCells (Value.int .i64) (c.β id).2 new.toArray C) T (0,0)):=by rw [uA _ hblt,if_pos rfl]
 have hsz:(putCells (Value.int .i64) (c.β id).2 new.toArray C).size=C.size:=by simp [putCells]
 have hlen:((w'.shape? (c.β id).1).map (·.2)).getD 0=c.len (c.β id).1:=by
  simp only [Cx.len,World.shape?,zM,hC,Xx,Yl,hsz]
 have Nq:c.w.heap.size≤w'.heap.size:=by
  show _≤(grow _ os).heap.size
  simp [grow,putRow,mapBlock,Sort.ahead]
 obtain⟨e2,f2⟩:=f.upd (w':=w') (β':=c.β) (h':=c.h.put id (.cells (new.map (fun z=>.int .i64 z)++cs.drop n))) id (.cells (new.map (fun z=>.int .i64 z)++cs.drop n)) (Steady.put _ _ _) (Yw hlive.1) (by simp [AHeap.put,beq_nat])
  (fun j hj=>.inr ⟨by simp [AHeap.put,beq_nat,hj],rfl⟩) (fun _=>⟨hlive,rfl⟩) (.inr ⟨id,hlive,rfl,.inl rfl⟩)
  (fun _=>hlen) (fun k hk hne=>by rw [uA k hk,if_neg hne]) (fun k hk hne=>by rw [uA k (by omega),if_neg hne]) Nq hbs rfl rfl rfl
  (fun ee=>by
   refine⟨C.size,⟨_,T,zM,hsz⟩,by rw [XB,XI,List.length_drop,hnew]; omega,?_⟩
   rw [Cells.iff]
   intro i x hx
   show ∃v,w'.cell? _=some v∧_
   rw [cell_of_block zM]
   have hi:i<cs.length:=by
    have:=(XA.1 hx).1
    rw [XB,XI,List.length_drop,hnew] at this; omega
   have Vu:(putCells (Value.int .i64) (c.β id).2 new.toArray C)[(c.β id).2+i]? = C[(c.β id).2+i]?.map fun x=>if (c.β id).2≤(c.β id).2+i∧(c.β id).2+i<(c.β id).2+new.toArray.size then Value.int .i64 new.toArray[(c.β id).2+i - (c.β id).2]! else x:=by
    unfold putCells; rw [Array.getElem?_mapIdx]
   rw [Vu]
   by_cases h:i<n
   ·rw [X4 (by rw [XI,hnew]; exact h),XZ,XD (by omega)] at hx
    simp only [Xx,Xu] at hx
    subst hx
    have Vv:(c.β id).2+i<C.size:=by omega
    rw [YN Vv]
    refine⟨.int .i64 new[i],?_,rfl,by simp [VR]⟩
    simp only [Xx,Xu]
    rw [if_pos ⟨by omega,by simp [hnew]; exact h⟩,Yt]
    simp [show i<new.length by omega]
   ·rw [XO (by rw [XI,hnew]; omega),XI,hnew,List.getElem?_drop,show n+(i - n)=i by omega] at hx
    obtain⟨v,v1,v2,v3⟩:=hcl.get' i x hx
    rw [cell_of_block hC] at v1
    refine⟨v,?_,v2,?_⟩
    ·rw [v1]
     simp only [Xx,Xu]
     rw [if_neg (by simp [hnew]; omega)]
    ·have:=VR.ext ee (L0:=L0) x v (by rw [hun]; exact v3)
     exact this)
 exact⟨by have:=f2.rel; rwa [hun] at this,e2,hlen⟩
end
section
variable {P:Program}{ρ:Ren}
theorem Nr (L:Lays.n189 P ρ)(henter:∀(vs:Array Value) (w:World),(callFunc (ρ.f 189) vs).run P w = .ok (.enter (ρ.f 189) vs) w) :
  CallOK P fun f' args h=>if f'=ρ.f 189 then KH args h else none:=by
 intro f args h r h' hc
 dsimp only at hc
 split at hc
 rotate_left
 ·cases hc
 rename_i hf
 subst hf
 refine⟨henter,fun L0 c vs hh hb0 hrel hargs=>?_⟩
 subst hh
 unfold KH at hc
 split at hc
 rotate_left
 ·cases hc
 rename_i id n
 match vs,hargs with
 | [v1],⟨q1,_⟩=>
 split at hc
 ·rename_i hn
  subst hn
  cases hc
  have hs:∃a cap,v1 = .slice a 0 cap:=by
   simp only [VR] at q1
   rcases q1 with⟨_,_,_,a,rfl⟩| ⟨_,_,a,cap,rfl,_⟩
   ·exact⟨a,0,rfl⟩
   ·exact⟨a,cap,rfl⟩
  obtain⟨a,cap,rfl⟩:=hs
  refine (Any.slices_Sort_int_none L a cap c.w).mono ?_
  rintro e w' ⟨rfl,rfl⟩
  exact⟨c,_,rfl,rfl,rfl,by simp only [VR]; exact⟨#[],rfl,trivial⟩,hrel,Ext.refl _ _⟩
 ·rename_i hn
  rw [Xs] at hc
  obtain⟨o,hid,hc⟩:=hc
  split at hc
  rotate_left
  ·cases hc
  rename_i cs
  split at hc
  rotate_left
  ·cases hc
  rename_i hle
  obtain⟨l,hl,he⟩:=Xt.1 hc
  simp only [Xz] at he
  obtain⟨rfl,rfl⟩:=he
  have hlive:Live c.h id:=⟨hrel.lt _ _ hid,by rw [hid]; rfl⟩
  have hll:l.length=n:=by
   have:=congrArg List.length (j6 hl)
   rw [XI,YI] at this; omega
  simp only [VR] at q1
  rcases q1 with⟨_,_,h0,_⟩| ⟨_,_,a,cap,rfl,h1,h2,h3⟩
  ·exact absurd h0 hn
  rcases h3 hlive with⟨rfl,h4⟩| h4
  rotate_left
  ·omega
  have hc:=Any.slices_Sort_int L (c.β id).1 (c.β id).2 cap l c.w (vE hrel hid hl) (hrel.block hlive) (by omega)
  rw [hll] at hc
  refine hc.mono ?_
  rintro e w' ⟨rfl,q,os,rfl⟩
  have hsl:(fX l).length=n:=by unfold fX; rw [List.length_mergeSort,hll]
  obtain⟨g1,g2,_⟩:=BW hrel hb0 hid hle.1 hsl q os
  exact⟨_,_,rfl,rfl,rfl,by simp only [VR]; exact⟨#[],rfl,trivial⟩,g1,g2⟩
theorem Ns (L:Lays2.n20 P ρ)(henter:∀(vs:Array Value) (w:World),(callFunc (ρ.f 20) vs).run P w = .ok (.enter (ρ.f 20) vs) w) :
  CallOK P fun f' args h=>if f'=ρ.f 20 then KI args h else none:=by
 intro f args h r h' hc
 dsimp only at hc
 split at hc
 rotate_left
 ·cases hc
 rename_i hf
 subst hf
 refine⟨henter,fun L0 c vs hh hb0 hrel hargs=>?_⟩
 subst hh
 unfold KI at hc
 split at hc
 rotate_left
 ·cases hc
 rename_i id n
 match vs,hargs with
 | [v1],⟨q1,_⟩=>
 split at hc
 ·rename_i hn
  subst hn
  cases hc
  have q2:=q1
  have hs:∃a cap,v1 = .slice a 0 cap:=by
   simp only [VR] at q1
   rcases q1 with⟨_,_,_,a,rfl⟩| ⟨_,_,a,cap,rfl,_⟩
   ·exact⟨a,0,rfl⟩
   ·exact⟨a,cap,rfl⟩
  obtain⟨a,cap,rfl⟩:=hs
  refine (Any.slices_Compact_int_empty L a cap c.w).mono ?_
  rintro e w' ⟨rfl,rfl⟩
  exact⟨c,_,rfl,rfl,rfl,q2,hrel,Ext.refl _ _⟩
 ·rename_i hn
  rw [Xs] at hc
  obtain⟨o,hid,hc⟩:=hc
  split at hc
  rotate_left
  ·cases hc
  rename_i cs
  split at hc
  rotate_left
  ·cases hc
  rename_i hle
  obtain⟨l,hl,he⟩:=Xt.1 hc
  simp only [Xz] at he
  obtain⟨rfl,rfl⟩:=he
  have hlive:Live c.h id:=⟨hrel.lt _ _ hid,by rw [hid]; rfl⟩
  have hll:l.length=n:=by
   have:=congrArg List.length (j6 hl)
   rw [XI,YI] at this; omega
  simp only [VR] at q1
  rcases q1 with⟨_,_,h0,_⟩| ⟨PN,Vw,a,cap,rfl,h1,h2,h3⟩
  ·exact absurd h0 hn
  rcases h3 hlive with⟨rfl,h4⟩| h4
  rotate_left
  ·omega
  have hc:=Any.slices_Compact_int L (c.β id).1 (c.β id).2 cap l c.w (vE hrel hid hl) (by omega) (by omega)
  rw [hll] at hc
  refine hc.mono ?_
  rintro e w' ⟨rfl,q,rfl⟩
  have hcl:(Lib.compact l).length≤l.length:=by
   unfold Lib.compact Lib.compactUpTo
   rw [XI]
   exact X9 (List.length_filter_le _ _) (by simp)
  have hsl:(re l).length=n:=by unfold re; rw [XB,YX]; omega
  have hw:putRow (Value.int .i64) (Sort.ahead c.w q) (c.β id).1 (c.β id).2 (Lib.compact l++XK (n - (Lib.compact l).length) 0).toArray=grow (putRow (Value.int .i64) (Sort.ahead c.w q) (c.β id).1 (c.β id).2 (re l).toArray) #[]:=by
   rw [grow_empty]; unfold re; rw [hll]
  rw [hw]
  obtain⟨g1,g2,g3⟩:=BW hrel hb0 hid hle.1 hsl q #[]
  refine⟨_,_,rfl,rfl,rfl,?_,g1,g2⟩
  simp only [VR]
  exact .inr ⟨PN,Yw hlive.1,_,cap,rfl,by omega,rfl,fun _=>.inl ⟨rfl,by rw [g3]; exact h4⟩⟩
end
end Go.R
namespace Go.R
open Go
def Jn (cf:CallF)(f:FuncId):Prop:=∀args h,cf f args h=KH args h
def Jo (cf:CallF)(f:FuncId):Prop:=∀args h,cf f args h=KI args h
theorem k9 (l:List Int):aa.l l=l.map fun z=>.int .i64 z:=by
 induction l with
 | nil=>rfl
 | cons a l ih=>rw [cw.dO,ih]; rfl
theorem qa (l:List Int):(fX l).length=l.length:=by unfold fX; rw [List.length_mergeSort]
theorem yM (l:List Int):(Lib.compact l).length≤l.length:=by
 unfold Lib.compact Lib.compactUpTo
 rw [XI]
 exact X9 (List.length_filter_le _ _) (by simp)
section
variable {h:AHeap}{L:Mem}{i n:Nat}{l:List Int}{cf:CallF}{f:FuncId}
theorem BX (o:Has h ((i,.sl n 1 (aa.l l))::L))(hn:n≠0):n=l.length∧i≠0∧l.length<4611686018427387904∧∃rest,h.get i=some (.cells (l.map (fun z=>.int .i64 z)++rest)):=by
 obtain⟨⟨⟨h1,h2⟩,h3⟩,_⟩:=o.at_ 0 _ _ rfl
 have hl:(aa.l l).length=l.length:=by rw [k9,XI]
 rw [hl] at h1 h2
 rcases h3 with⟨_,h⟩| ⟨h,rest,h4⟩
 ·exact absurd h hn
 ·rw [k9] at h4
  exact⟨by omega,h,by omega,rest,h4⟩
theorem Fz (o:Has h ((i,.sl 0 1 (aa.l l))::L)):l=[]:=by
 obtain⟨⟨⟨h1,_⟩,_⟩,_⟩:=o.at_ 0 _ _ rfl
 rw [k9,XI] at h1
 exact Ya (by omega)
theorem KJ (S:Jn cf f)(o:Has h ((i,.sl n 1 (aa.l l))::L)):∃h',cf f [.rs i 0 n 1] h=some (.tup [],h')∧Has h' ((i,.sl n 1 (aa.l (fX l)))::L):=by
 rw [S]
 by_cases hn:n=0
 ·subst hn
  have:=Fz o
  subst this
  have e:fX []=[]:=by simp [fX]
  exact⟨h,rfl,by rw [e]; exact o⟩
 ·obtain⟨h1,h2,h3,rest,h4⟩:=BX o hn
  subst h1
  have et:(l.map (fun z=>AV.int .i64 z)++rest).take l.length=l.map fun z=>AV.int .i64 z:=by
   rw [XY (by simp),X1 (by simp)]
  have ed:(l.map (fun z=>AV.int .i64 z)++rest).drop l.length=rest:=by
   have:=List.drop_left (l₁:=l.map fun z=>AV.int .i64 z) (l₂:=rest)
   rwa [XI] at this
  refine⟨h.put i (.cells ((fX l).map (fun z=>.int .i64 z)++rest)),?_,?_⟩
  ·unfold KH
   simp only
   rw [if_neg hn,h4,Xr]
   simp only
   rw [if_pos ⟨by simp,h3⟩,et,nG,Xx,ed]
  ·refine iB (q:=0) o rfl (ob:=.cells ((fX l).map (fun z=>.int .i64 z)++rest)) (c':=.sl l.length 1 (aa.l (fX l))) ⟨⟨?_,?_⟩,.inr ⟨h2,rest,by rw [cq,if_pos rfl,k9]⟩⟩
   ·rw [k9,XI,qa]; omega
   ·have:=(o.at_ 0 _ _ rfl).1.1.2
    rw [k9,XI] at this ⊢
    rw [qa]; exact this
theorem KK (S:Jo cf f)(o:Has h ((i,.sl n 1 (aa.l l))::L)):∃h',cf f [.rs i 0 n 1] h=some (.rs i 0 (Lib.compact l).length 1,h')∧Has h' ((i,.sl (Lib.compact l).length 1 (aa.l (Lib.compact l)))::L):=by
 rw [S]
 by_cases hn:n=0
 ·subst hn
  have:=Fz o
  subst this
  have e:Lib.compact ([]:List Int)=[]:=by simp [Lib.compact,Lib.compactUpTo]
  rw [e]
  exact⟨h,rfl,o⟩
 ·obtain⟨h1,h2,h3,rest,h4⟩:=BX o hn
  subst h1
  have et:(l.map (fun z=>AV.int .i64 z)++rest).take l.length=l.map fun z=>AV.int .i64 z:=by
   rw [XY (by simp),X1 (by simp)]
  have ed:(l.map (fun z=>AV.int .i64 z)++rest).drop l.length=rest:=by
   have:=List.drop_left (l₁:=l.map fun z=>AV.int .i64 z) (l₂:=rest)
   rwa [XI] at this
  refine⟨h.put i (.cells ((re l).map (fun z=>.int .i64 z)++rest)),?_,?_⟩
  ·unfold KI
   simp only
   rw [if_neg hn,h4,Xr]
   simp only
   rw [if_pos ⟨by simp,h3⟩,et,nG,Xx,ed]
  ·have hle:=yM l
   refine iB (q:=0) o rfl (ob:=.cells ((re l).map (fun z=>.int .i64 z)++rest)) (c':=.sl (Lib.compact l).length 1 (aa.l (Lib.compact l))) ⟨⟨?_,?_⟩,.inr ⟨h2,(XK (l.length - (Lib.compact l).length) 0).map (fun z=>.int .i64 z)++rest,by rw [cq,if_pos rfl,k9]; unfold re; rw [XW,XF]⟩⟩
   ·rw [k9,XI]; omega
   ·have:=(o.at_ 0 _ _ rfl).1.1.2
    rw [k9,XI] at this ⊢
    omega
end
end Go.R
namespace Go.Proofs.YtmekcfdllhphlaaDoor
open Go Go.R
open Go.IntKind (i64 u64 u8 u32)
structure fq where
 eH:List Int
 bq:Bool
theorem DE:wV Tryd.prog 22 2 32=true:=by kernel_rfl
theorem Ip:wV Tryd.prog 25 1 1=true:=by kernel_rfl
theorem la:wV Tryd.prog 29 4 56=true:=by kernel_rfl
theorem dz:wV Tryd.prog 42 1 8=true:=by kernel_rfl
theorem DF:wV Tryd.prog 53 1 1=true:=by kernel_rfl
theorem A3:eF Tryd.prog 3=some false:=by kernel_rfl
theorem A4:eF Tryd.prog 4=some false:=by kernel_rfl
theorem A5:eF Tryd.prog 5=some false:=by kernel_rfl
theorem A9:eF Tryd.prog 9=some false:=by kernel_rfl
theorem Nt:eF Tryd.prog 29=some false:=by kernel_rfl
theorem L9:eF Tryd.prog 31=some true:=by kernel_rfl
theorem KL:eF Tryd.prog 42=some false:=by kernel_rfl
theorem tq:eF Tryd.prog 48=some true:=by kernel_rfl
theorem Z3:dZ Tryd.prog 3=some 1:=by kernel_rfl
theorem Z4:dZ Tryd.prog 4=some 1:=by kernel_rfl
theorem Ma:dZ Tryd.prog 31=some 2:=by kernel_rfl
theorem Vx:dZ Tryd.prog 42=some 1:=by kernel_rfl
theorem tt:dZ Tryd.prog 48=some 4:=by kernel_rfl
theorem U9:Tryd.prog.underlying 9=some .string:=by kernel_rfl
theorem Nu:yH Tryd.prog 98=true:=by kernel_rfl
theorem BY:yI Tryd.prog 114 9=true:=by kernel_rfl
theorem FA:Tryd.prog.underlying 114=some (.map 116 3):=by kernel_rfl
theorem vF:Dv Tryd.prog 116 9=true:=by kernel_rfl
def j7.f (m:Nat):Option Bool:=some true
def S9 (cf:CallF)(m:Nat):Prop:=∀r:Bool,j7.f m=some r→∀h xs,eN fi h xs []→cf 13 xs h=some (.bool r,h)
def Ta (cf:CallF)(m:Nat):Prop:=Jn cf 49
def Tb (cf:CallF)(m:Nat):Prop:=Jo cf 50
def Nv (cf:CallF)(m:Nat):Prop:=BP cf 53 5
def Td (cf:CallF)(m:Nat):Prop:=Fm cf 56 5
def Nw (cf:CallF)(m:Nat):Prop:=Fl cf 101 5
end Go.Proofs.YtmekcfdllhphlaaDoor
namespace Go.Proofs.YtmekcfdllhphlaaDoor
open Go Go.R
open Go.IntKind (i64 u64 u8 u32)
def tu:cg:=gK [0,1,2,3,10,13] [] [32,0,32,32] [] []
def bT.l0 (m:Nat)(a0:Int)(b0:Int)(n0:Int):Nat→(List Int)→Int→Option ((List Int) × Int)
 | 0,_,_=>none
 | k+1,bm,i0=>if (decide (i0<n0))=true then ((ix bm (i64.wrap (b0+i0))).bind fun v0=>(ix bm (i64.wrap (a0+i0))).bind fun v1=>(ix bm (i64.wrap (a0+i0))).bind fun v2=>(ix (bm.set (i64.wrap (a0+i0)).toNat v0) (i64.wrap (b0+i0))).bind fun v3=>bT.l0 m a0 b0 n0 k ((bm.set (i64.wrap (a0+i0)).toNat v0).set (i64.wrap (b0+i0)).toNat v1) (i64.wrap (i0+(1:Int)))) else (some ((bm,i0)))
def bT.f (m:Nat)(ao:List Int)(a0:Int)(b0:Int)(n0:Int)(aM:Int→Int→Option (Int)):Option ((List Int)):=(bT.l0 m a0 b0 n0 m ao (0:Int)).bind fun bj=>match bj with | (cR,i1)=>some cR
def bT.fin (L:Mem)(aA:Nat)(ao:List Int)(a0:Int)(b0:Int)(n0:Int)(aM:Int→Int→Option (Int))(r:(List Int))(s:St):Prop:=aH Tryd.prog (s.open tu) Tryd.f123.results.toList=some (.tup [])∧Has s.h ((aA,.sl ao.length 1 (aa.l r))::L)
def KM (cf:CallF)(m:Nat):Prop:=∀(ao:List Int) (a0:Int) (b0:Int) (n0:Int) (aM:Int→Int→Option (Int)) (r:(List Int)),bT.f m ao a0 b0 n0 aM=some r→∀h L (cu:Nat) (aA:Nat),Has h ((aA,.sl cu 1 (aa.l ao))::L)→∀(dY:FuncId) (aW:List AV),az (.fn dY aW) = .fn dY aW→(∀h K,Has h (K++L)→∀(a0:Int) (a1:Int) r,aM a0 a1=some r→cf dY ([.int .i64 a0,.int .i64 a1]++aW) h=some (.int .i64 r,h))→∀xs,xs.map az=[.rs aA 0 cu 1,.int .i64 a0,.int .i64 b0,.int .i64 n0,.fn dY aW]→∃h',cf 123 xs h=some (.tup [],h')∧Has h' ((aA,.sl cu 1 (aa.l r))::L)
section
variable {cf:CallF}{m:Nat}
theorem bT.bI (L:Mem)(aA:Nat)(dY:FuncId)(aW:List AV)(ao:List Int)(a0:Int)(b0:Int)(n0:Int)(aM:Int→Int→Option (Int))  (gn:az (.fn dY aW) = .fn dY aW)(gV:∀h K,Has h (K++L)→∀(a0:Int) (a1:Int) r,aM a0 a1=some r→cf dY ([.int .i64 a0,.int .i64 a1]++aW) h=some (.int .i64 r,h))  : bD Tryd.prog cf tu m (sub [1,0,0] (codeOf Tryd.f123)) (fun k (σ:(List Int) × Int)=>bT.l0 m a0 b0 n0 k σ.1 σ.2) (fun σ s=>match σ with | (bm,i0)=>∃h0,s=⟨[.rs aA 0 ao.length 1,.int .i64 a0,.int .i64 b0,.int .i64 n0,.int .i64 i0,.any],[],h0⟩∧Has h0 ((aA,.sl ao.length 1 (aa.l bm))::L)) (fun out e s=>(e = .exit 0∧∃bm i0,(bm,i0)=out∧∃kG uM FB uN qd qe h0,s=⟨[kG,uM,FB,uN,qd,qe],[],h0⟩∧Has h0 ((aA,.sl ao.length 1 (aa.l bm))::L))):=by
 refine gG (fun _=>rfl) ?_
 rintro k ⟨bm,i0⟩ s out ⟨h0,rfl,o0⟩ H
 have H:bT.l0 m a0 b0 n0 (k+1) bm i0=some out:=H
 refine qq <| qq <| q0 <| qc H (fun c0 H=>?_) (fun c0 H=>?_)
 ·refine qk <| qq <| qb 1 ?_
  obtain⟨v0,e0,H⟩:=aI H
  obtain⟨v1,e1,H⟩:=aI H
  obtain⟨v2,e2,H⟩:=aI H
  obtain⟨h1,e3,o1⟩:=dD (P:=Tryd.prog) (tf:=3) (E:=aa) (l:=bm) (q:=0) (v:=v0) (x:=.int .i64 v0) o0 rfl Z3 e2 rfl rfl
  obtain⟨v3,e4,H⟩:=aI H
  obtain⟨h2,e5,o2⟩:=dD (P:=Tryd.prog) (tf:=3) (E:=aa) (l:=(bm.set (i64.wrap (a0+i0)).toNat v0)) (q:=0) (v:=v1) (x:=.int .i64 v1) o1 rfl Z3 e4 rfl rfl
  exact qr [.v 12 (aE (k:=.i64) (E:=aa) (l:=bm) (q:=0) dz o0 rfl e0),.v 13 (be  (E:=aa) (l:=bm) (q:=0) o0 rfl A3 e0 rfl),.v 18 (aE (k:=.i64) (E:=aa) (l:=bm) (q:=0) dz o0 rfl e1),.v 19 (be  (E:=aa) (l:=bm) (q:=0) o0 rfl A3 e1 rfl),.v 20 (aE (k:=.i64) (E:=aa) (l:=bm) (q:=0) dz o0 rfl e2),.w 21 e3,.v 22 (aE (k:=.i64) (E:=aa) (l:=(bm.set (i64.wrap (a0+i0)).toNat v0)) (q:=0) dz o1 rfl e4),.w 23 e5] <| q0 <| ⟨((bm.set (i64.wrap (a0+i0)).toNat v0).set (i64.wrap (b0+i0)).toNat v1,i64.wrap (i0+(1:Int))),⟨h2,by kernel_rfl,o2⟩,H⟩
 ·exact qx 0 <| ⟨rfl,bm,i0,oi H,.rs aA 0 ao.length 1,.int .i64 a0,.int .i64 b0,.int .i64 n0,.int .i64 i0,.bool (decide (i0<n0)),h0,by kernel_rfl,o0⟩
theorem rD {aU:FuncId→cg}(ha:aU 123=tu)  (ao:List Int)(a0:Int)(b0:Int)(n0:Int)(aM:Int→Int→Option (Int))(h:AHeap)(L:Mem)(aA:Nat)(dY:FuncId)(aW:List AV)  (gn:az (.fn dY aW) = .fn dY aW)(gV:∀h K,Has h (K++L)→∀(a0:Int) (a1:Int) r,aM a0 a1=some r→cf dY ([.int .i64 a0,.int .i64 a1]++aW) h=some (.int .i64 r,h))(o:Has h ((aA,.sl ao.length 1 (aa.l ao))::L)){out:(List Int)}(H:bT.f m ao a0 b0 n0 aM=some out) :
  ∃r h',bc Tryd.prog aU cf m 123 [.rs aA 0 ao.length 1,.int .i64 a0,.int .i64 b0,.int .i64 n0,.fn dY aW] h=some (r,h')∧r = .tup []∧Has h' ((aA,.sl ao.length 1 (aa.l out))::L):=by
 refine aq (fn:=Tryd.f123) ha Tryd.func123 (by kernel_rfl) (by kernel_rfl) ?_
 refine aG (Q:=fun s=>bT.fin L aA ao a0 b0 n0 aM out s) (fun _ _ ⟨h1,h2,h3⟩=>⟨h1,_,h2,rfl,h3⟩) ?_
 have H:_=some out:=H
 unfold bT.f at H
 show de _ cf tu m _ ⟨[.rs aA 0 ao.length 1,.int .i64 a0,.int .i64 b0,.int .i64 n0,.any,.any],[],h⟩ _
 refine q1 <| qb 0 ?_
 obtain⟨bj,e6,H⟩:=aI H
 refine ql (bT.bI L aA dY aW ao a0 b0 n0 aM  gn gV  (ao,(0:Int)) _ _ ⟨h,by kernel_rfl,o⟩ e6) ?_
 rintro e s ⟨rfl,cR,i1,rfl,g0,g1,g2,g3,g4,g5,h3,rfl,o3⟩
 try dsimp only at H
 obtain rfl:=oi H
 exact⟨.inr rfl,⟨by kernel_rfl,he o3⟩⟩
end
end Go.Proofs.YtmekcfdllhphlaaDoor
namespace Go.Proofs.YtmekcfdllhphlaaDoor
open Go Go.R
open Go.IntKind (i64 u64 u8 u32)
def tv:cg:=gK [0,1,2,3,4,10,11,20,23] [] [450,394,266,138,394,394,394,394,511] [] []
def eu.l0 (m:Nat)(m0:Int)(aM:Int→Int→Option (Int)):Nat→(List Int)→Int→Int→Option ((List Int) × Int × Int)
 | 0,_,_,_=>none
 | k+1,bm,i0,j0=>if (!(i0==j0))=true then (if (decide (i0 > j0))=true then ((bT.f m bm (i64.wrap (m0 - i0)) m0 j0 aM).bind fun x0=>eu.l0 m m0 aM k x0 (i64.wrap (i0 - j0)) j0) else ((bT.f m bm (i64.wrap (m0 - i0)) (i64.wrap (i64.wrap (m0+j0) - i0)) i0 aM).bind fun x1=>eu.l0 m m0 aM k x1 i0 (i64.wrap (j0 - i0)))) else (some ((bm,i0,j0)))
def eu.f (m:Nat)(ao:List Int)(a0:Int)(m0:Int)(b0:Int)(aM:Int→Int→Option (Int)):Option ((List Int)):=(eu.l0 m m0 aM m ao (i64.wrap (m0 - a0)) (i64.wrap (b0 - m0))).bind fun bj=>match bj with | (cR,i1,j1)=>(bT.f m cR (i64.wrap (m0 - i1)) m0 i1 aM).bind fun x2=>some x2
def eu.fin (L:Mem)(aA:Nat)(ao:List Int)(a0:Int)(m0:Int)(b0:Int)(aM:Int→Int→Option (Int))(r:(List Int))(s:St):Prop:=aH Tryd.prog (s.open tv) Tryd.f122.results.toList=some (.tup [])∧Has s.h ((aA,.sl ao.length 1 (aa.l r))::L)
def Nx (cf:CallF)(m:Nat):Prop:=∀(ao:List Int) (a0:Int) (m0:Int) (b0:Int) (aM:Int→Int→Option (Int)) (r:(List Int)),eu.f m ao a0 m0 b0 aM=some r→∀h L (cu:Nat) (aA:Nat),Has h ((aA,.sl cu 1 (aa.l ao))::L)→∀(dY:FuncId) (aW:List AV),az (.fn dY aW) = .fn dY aW→(∀h K,Has h (K++L)→∀(a0:Int) (a1:Int) r,aM a0 a1=some r→cf dY ([.int .i64 a0,.int .i64 a1]++aW) h=some (.int .i64 r,h))→∀xs,xs.map az=[.rs aA 0 cu 1,.int .i64 a0,.int .i64 m0,.int .i64 b0,.fn dY aW]→∃h',cf 122 xs h=some (.tup [],h')∧Has h' ((aA,.sl cu 1 (aa.l r))::L)
section
variable {cf:CallF}{m:Nat}
theorem eu.bI (L:Mem)(aA:Nat)(dY:FuncId)(aW:List AV)(ao:List Int)(a0:Int)(m0:Int)(b0:Int)(aM:Int→Int→Option (Int))  (gn:az (.fn dY aW) = .fn dY aW)(gV:∀h K,Has h (K++L)→∀(a0:Int) (a1:Int) r,aM a0 a1=some r→cf dY ([.int .i64 a0,.int .i64 a1]++aW) h=some (.int .i64 r,h))(yN:KM cf m):bD Tryd.prog cf tv m (sub [1,1,0,0,0] (codeOf Tryd.f122)) (fun k (σ:(List Int) × Int × Int)=>eu.l0 m m0 aM k σ.1 σ.2.1 σ.2.2) (fun σ s=>match σ with | (bm,i0,j0)=>∃h0,s=⟨[.rs aA 0 ao.length 1,.any,.int .i64 m0,.any,.fn dY aW,.int .i64 i0,.int .i64 j0,.any,.any],[],h0⟩∧Has h0 ((aA,.sl ao.length 1 (aa.l bm))::L)) (fun out e s=>(e = .exit 0∧∃bm i0 j0,(bm,i0,j0)=out∧∃FC KN h0,s=⟨[.rs aA 0 ao.length 1,.any,.int .i64 m0,.any,.fn dY aW,.int .i64 i0,FC,KN,.any],[],h0⟩∧Has h0 ((aA,.sl ao.length 1 (aa.l bm))::L))):=by
 refine gG (fun _=>rfl) ?_
 rintro k ⟨bm,i0,j0⟩ s out ⟨h0,rfl,o0⟩ H
 have H:eu.l0 m m0 aM (k+1) bm i0 j0=some out:=H
 refine qq <| qq <| q0 <| qc H (fun c0 H=>?_) (fun c0 H=>?_)
 ·refine qk <| qb 1 <| qq <| q0 <| qc H (fun c1 H=>?_) (fun c1 H=>?_)
  ·refine qq ?_
   obtain⟨x0,e0,H⟩:=aI H
   obtain⟨h1,e1,o1⟩:=yN _ _ _ _ _ _ e0 h0 _ _ _ (o0) dY aW gn (fun h' K' o'=>gV h' (K'++[]) (by simpa only [XF,XU,X2] using o')) [.rs aA 0 ao.length 1,.int .i64 (i64.wrap (m0 - i0)),.int .i64 m0,.int .i64 j0,.fn dY aW] (an (rfl) (an (aP (bE)) (an (aP (bE)) (an (aP (bE)) (an (gn) (bo))))))
   exact qr [.a 7 e1] <| q0 <| ⟨(x0,i64.wrap (i0 - j0),j0),⟨h1,by kernel_rfl,o1⟩,H⟩
  ·refine qq ?_
   obtain⟨x1,e2,H⟩:=aI H
   obtain⟨h2,e3,o2⟩:=yN _ _ _ _ _ _ e2 h0 _ _ _ (o0) dY aW gn (fun h' K' o'=>gV h' (K'++[]) (by simpa only [XF,XU,X2] using o')) [.rs aA 0 ao.length 1,.int .i64 (i64.wrap (m0 - i0)),.int .i64 (i64.wrap (i64.wrap (m0+j0) - i0)),.int .i64 i0,.fn dY aW] (an (rfl) (an (aP (bE)) (an (aP (bE)) (an (aP (bE)) (an (gn) (bo))))))
   exact qr [.a 11 e3] <| q0 <| ⟨(x1,i0,i64.wrap (j0 - i0)),⟨h2,by kernel_rfl,o2⟩,H⟩
 ·exact qx 0 <| ⟨rfl,bm,i0,j0,oi H,.int .i64 j0,.bool (!(i0==j0)),h0,by kernel_rfl,o0⟩
theorem xd {aU:FuncId→cg}(ha:aU 122=tv)(yN:KM cf m)(ao:List Int)(a0:Int)(m0:Int)(b0:Int)(aM:Int→Int→Option (Int))(h:AHeap)(L:Mem)(aA:Nat)(dY:FuncId)(aW:List AV)  (gn:az (.fn dY aW) = .fn dY aW)(gV:∀h K,Has h (K++L)→∀(a0:Int) (a1:Int) r,aM a0 a1=some r→cf dY ([.int .i64 a0,.int .i64 a1]++aW) h=some (.int .i64 r,h))(o:Has h ((aA,.sl ao.length 1 (aa.l ao))::L)){out:(List Int)}(H:eu.f m ao a0 m0 b0 aM=some out) :
  ∃r h',bc Tryd.prog aU cf m 122 [.rs aA 0 ao.length 1,.int .i64 a0,.int .i64 m0,.int .i64 b0,.fn dY aW] h=some (r,h')∧r = .tup []∧Has h' ((aA,.sl ao.length 1 (aa.l out))::L):=by
 refine aq (fn:=Tryd.f122) ha Tryd.func122 (by kernel_rfl) (by kernel_rfl) ?_
 refine aG (Q:=fun s=>eu.fin L aA ao a0 m0 b0 aM out s) (fun _ _ ⟨h1,h2,h3⟩=>⟨h1,_,h2,rfl,h3⟩) ?_
 have H:_=some out:=H
 unfold eu.f at H
 show de _ cf tv m _ ⟨.rs aA 0 ao.length 1 :: .int .i64 a0 :: .int .i64 m0 :: .int .i64 b0 :: .fn dY aW::q9 [],[],h⟩ _
 refine q1 <| qq <| q0 <| qq <| qb 0 ?_
 obtain⟨bj,e4,H⟩:=aI H
 refine ql (eu.bI L aA dY aW ao a0 m0 b0 aM  gn gV yN (ao,i64.wrap (m0 - a0),i64.wrap (b0 - m0)) _ _ ⟨h,by kernel_rfl,o⟩ e4) ?_
 rintro e s ⟨rfl,cR,i1,j1,rfl,g0,g1,h3,rfl,o3⟩
 try dsimp only at H
 obtain⟨x2,e5,H⟩:=aI H
 obtain⟨h4,e6,o4⟩:=yN _ _ _ _ _ _ e5 h3 _ _ _ (o3) dY aW gn (fun h' K' o'=>gV h' (K'++[]) (by simpa only [XF,XU,X2] using o')) [.rs aA 0 ao.length 1,.int .i64 (i64.wrap (m0 - i1)),.int .i64 m0,.int .i64 i1,.fn dY aW] (an (rfl) (an (aP (bE)) (an (aP (bE)) (an (aP (bE)) (an (gn) (bo))))))
 obtain rfl:=oi H
 exact qr [.a 7 e6] <| ⟨.inr rfl,⟨by kernel_rfl,he o4⟩⟩
end
end Go.Proofs.YtmekcfdllhphlaaDoor
namespace Go.Proofs.YtmekcfdllhphlaaDoor
open Go Go.R
open Go.IntKind (i64 u64 u8 u32)
def gt (l:List Int)(k:Nat):Int:=l.getD k 0
theorem bh {l:List Int}{k:Nat}(h:k<l.length):l[k]? = some (gt l k):=by
 unfold gt; rw [XM,XD h]; rfl
theorem aJ {l:List Int}{k:Nat}(h:k<l.length):gt l k∈l:=Yu (bh h)
theorem cj {l:List Int}{k:Nat}(h:k<l.length):ix l (k:Int)=some (gt l k):=by
 unfold ix; rw [if_pos (by omega),Xy,bh h]
theorem fU {l:List Int}{i:Int}{k:Nat}(hi:i=(k:Int))(h:k<l.length):ix l i=some (gt l k):=by rw [hi,cj h]
theorem eh {l:List Int}{i k:Nat}{x:Int}(hi:i<l.length):gt (l.set i x) k=if k=i then x else gt l k:=by
 unfold gt
 simp only [XM,YS]
 by_cases h:i=k
 ·subst h; simp [hi]
 ·rw [if_neg h,if_neg (by omega)]
theorem FD {l r:List Int}(hl:l.length=r.length)(h:∀k,k<l.length→gt l k=gt r k):l=r:=by
 apply Yh fun k=>?_
 by_cases hk:k<l.length
 ·rw [bh hk,bh (hl ▸ hk),h k hk]
 ·rw [XL (by omega),XL (by omega)]
def swp (l:List Int)(i j:Nat):List Int:=(l.set i (gt l j)).set j (gt l i)
theorem oS {l:List Int}{i j:Nat}(hi:i<l.length)(hj:j<l.length):(swp l i j).Perm l:=by
 have h1:gt l j=l[j]:=by have:=bh hj; rw [XD hj] at this; exact (XP this).symm
 have h2:gt l i=l[i]:=by have:=bh hi; rw [XD hi] at this; exact (XP this).symm
 unfold swp; rw [h1,h2]; exact List.set_set_perm hi hj
theorem lg {l:List Int}{i j k:Nat}(hi:i<l.length)(hj:j<l.length):gt (swp l i j) k=if k=j then gt l i else if k=i then gt l j else gt l k:=by
 unfold swp
 rw [eh (by simpa using hj),eh hi]
theorem tw {l:List Int}{i j:Nat}:(swp l i j).length=l.length:=by simp [swp]
theorem yO {a b:Nat}(h:a+b<9223372036854775808):i64.wrap (fZ .u64 (u64.wrap (i64.wrap ((a:Int)+(b:Int)))) 1)=(((a+b) / 2:Nat):Int):=by
 rw [aD (x:=(a:Int)+b) (by omega) (by omega),hY (by omega) (by omega)]
 have:fZ .u64 ((a:Int)+(b:Int)) 1=(((a+b) / 2:Nat):Int):=by
  unfold fZ
  rw [Int.fdiv_eq_ediv_of_nonneg _ (by decide)]
  show ((a:Int)+(b:Int)) / 2=_
  omega
 rw [this,aD (by omega) (by omega)]
theorem FE {m:Nat}{l:List Int}{a b n:Nat}(h1:a+n≤b)(h2:b+n≤l.length)(hl:l.length<2 ^ 40):∀(f i:Nat) (d:List Int),n - i<f→i≤n→d.Perm l→
  (∀k,gt d k=if a≤k∧k<a+i then gt l (k - a+b) else if b≤k∧k<b+i then gt l (k - b+a) else gt l k)→
  ∃d' x,bT.l0 m (a:Int) (b:Int) (n:Int) f d (i:Int)=some (d',x)∧d'.Perm l∧(∀k,gt d' k=if a≤k∧k<a+n then gt l (k - a+b) else if b≤k∧k<b+n then gt l (k - b+a) else gt l k)
 | 0,i,d,hf,_,_,_=>absurd hf (by omega)
 | f+1,i,d,hf,hi,hp,hg=>by
  have nT:(2:Nat) ^ 40=1099511627776:=by decide
  have Qq:=hp.length_eq
  unfold bT.l0
  by_cases h:i<n
  ·have e1:i64.wrap ((b:Int)+(i:Int))=((b+i:Nat):Int):=by rw [aD (by omega) (by omega)]; omega
   have e2:i64.wrap ((a:Int)+(i:Int))=((a+i:Nat):Int):=by rw [aD (by omega) (by omega)]; omega
   have e3:i64.wrap ((i:Int)+1)=((i+1:Nat):Int):=by rw [aD (by omega) (by omega)]; omega
   rw [if_pos (by simp; omega),e1,e2,e3,cj (by omega),cj (by omega),Xy,Xy,Xr,Xr,Xr,cj (by simp; omega),Xr]
   show ∃d' x,bT.l0 m (a:Int) (b:Int) (n:Int) f (swp d (a+i) (b+i)) ((i+1:Nat):Int)=some (d',x)∧_
   refine FE h1 h2 hl f (i+1) _ (by omega) (by omega) ((oS (by omega) (by omega)).trans hp) fun k=>?_
   rw [lg (by omega) (by omega),hg,hg,hg]
   by_cases k1:k=b+i
   ·subst k1
    rw [if_pos rfl,if_neg (by omega),if_neg (by omega),if_neg (by omega),if_pos (by omega)]
    congr 1; omega
   ·rw [if_neg k1]
    by_cases k2:k=a+i
    ·subst k2
     rw [if_pos rfl,if_neg (by omega),if_neg (by omega),if_pos (by omega)]
     congr 1; omega
    ·rw [if_neg k2]
     by_cases k3:a≤k∧k<a+i
     ·rw [if_pos k3,if_pos (by omega)]
     ·rw [if_neg k3,if_neg (show ¬(a≤k∧k<a+(i+1)) by omega)]
      by_cases k4:b≤k∧k<b+i
      ·rw [if_pos k4,if_pos (by omega)]
      ·rw [if_neg k4,if_neg (by omega)]
  ·have:i=n:=by omega
   subst this
   exact⟨d,i,by rw [if_neg (by simp)],hp,hg⟩
theorem tz {m:Nat}{l:List Int}{a b n:Nat}{cmp:Int→Int→Option Int}(h1:a+n≤b)(h2:b+n≤l.length)(hl:l.length<2 ^ 40)(hm:n<m) :
  ∃d',bT.f m l (a:Int) (b:Int) (n:Int) cmp=some d'∧d'.Perm l∧(∀k,gt d' k=if a≤k∧k<a+n then gt l (k - a+b) else if b≤k∧k<b+n then gt l (k - b+a) else gt l k):=by
 obtain⟨d',x,e,hp,hg⟩:=FE (m:=m) h1 h2 hl m 0 l (by omega) (by omega) (List.Perm.refl _) (fun k=>by rw [if_neg (by omega),if_neg (by omega)])
 have e:bT.l0 m (a:Int) (b:Int) (n:Int) m l 0=_:=e
 exact⟨d',by unfold bT.f; rw [e]; rfl,hp,hg⟩
def Mb (l d:List Int)(p i j:Nat):Prop:=d.Perm l∧(∀k,k<j→gt d (p+k)=gt l (p+i+k))∧(∀k,k<i→gt d (p+j+k)=gt l (p+k))∧∀k,k<p∨p+i+j≤k→gt d k=gt l k
theorem AF {m:Nat}{q:Nat}{cmp:Int→Int→Option Int}(hm:2 ^ 41≤m):∀(f i j:Nat) (l:List Int),i+j<f→0<i→0<j→i≤q→q+j≤l.length→l.length<2 ^ 40→
  ∃(d':List Int) (x:Nat) (d:List Int),eu.l0 m (q:Int) cmp f l (i:Int) (j:Int)=some (d',(x:Int),(x:Int))∧bT.f m d' (i64.wrap ((q:Int) - (x:Int))) (q:Int) (x:Int) cmp=some d∧Mb l d (q - i) i j
 | 0,i,j,l,hf,_,_,_,_,_=>absurd hf (by omega)
 | f+1,i,j,l,hf,hi,hj,hq,hl,hs=>by
  have nT:(2:Nat) ^ 40=1099511627776:=by decide
  have rE:(2:Nat) ^ 41=2199023255552:=by decide
  unfold eu.l0
  have e1:i64.wrap ((q:Int) - (i:Int))=((q - i:Nat):Int):=by rw [aD (by omega) (by omega)]; omega
  by_cases h:i=j
  ·subst h
   rw [if_neg (by simp)]
   obtain⟨d,e,hp,hg⟩:=tz (m:=m) (l:=l) (a:=q - i) (b:=q) (n:=i) (cmp:=cmp) (by omega) (by omega) hs (by omega)
   refine⟨l,i,d,rfl,by rw [e1,e],hp,fun k hk=>?_,fun k hk=>?_,fun k hk=>?_⟩
   ·rw [hg,if_pos (by omega)]; congr 1; omega
   ·rw [hg,if_neg (by omega),if_pos (by omega)]; congr 1; omega
   ·rw [hg,if_neg (by omega),if_neg (by omega)]
  ·rw [if_pos (by simp; omega)]
   by_cases h2:j<i
   ·obtain⟨d1,e,hp,hg⟩:=tz (m:=m) (l:=l) (a:=q - i) (b:=q) (n:=j) (cmp:=cmp) (by omega) (by omega) hs (by omega)
    have hd:=hp.length_eq
    have e2:i64.wrap ((i:Int) - (j:Int))=((i - j:Nat):Int):=by rw [aD (by omega) (by omega)]; omega
    rw [if_pos (by simp; omega),e1,e,Xr,e2]
    obtain⟨d',x,d,k1,k2,k3,k4,k5,k6⟩:=AF (q:=q) (cmp:=cmp) hm f (i - j) j d1 (by omega) (by omega) hj (by omega) (by omega) (by omega)
    refine⟨d',x,d,k1,k2,k3.trans hp,fun k hk=>?_,fun k hk=>?_,fun k hk=>?_⟩
    ·rw [k6 _ (by omega),hg,if_pos (by omega)]; congr 1; omega
    ·by_cases Mc:k<j
     ·have:=k4 k Mc
      rw [show q - (i - j)+k=q - i+j+k by omega,hg,if_neg (by omega),if_pos (by omega)] at this
      rw [this]; congr 1; omega
     ·have:=k5 (k - j) (by omega)
      rw [show q - (i - j)+j+(k - j)=q - i+j+k by omega,hg,if_neg (by omega),if_neg (by omega)] at this
      rw [this]; congr 1; omega
    ·rw [k6 _ (by omega),hg,if_neg (by omega),if_neg (by omega)]
   ·have e2:i64.wrap (i64.wrap ((q:Int)+(j:Int)) - (i:Int))=((q+j - i:Nat):Int):=by rw [aD (x:=(q:Int)+j) (by omega) (by omega),aD (by omega) (by omega)]; omega
    have e3:i64.wrap ((j:Int) - (i:Int))=((j - i:Nat):Int):=by rw [aD (by omega) (by omega)]; omega
    obtain⟨d1,e,hp,hg⟩:=tz (m:=m) (l:=l) (a:=q - i) (b:=q+j - i) (n:=i) (cmp:=cmp) (by omega) (by omega) hs (by omega)
    have hd:=hp.length_eq
    rw [if_neg (by simp; omega),e1,e2,e,Xr,e3]
    obtain⟨d',x,d,k1,k2,k3,k4,k5,k6⟩:=AF (q:=q) (cmp:=cmp) hm f i (j - i) d1 (by omega) hi (by omega) hq (by omega) (by omega)
    refine⟨d',x,d,k1,k2,k3.trans hp,fun k hk=>?_,fun k hk=>?_,fun k hk=>?_⟩
    ·by_cases Mc:k<j - i
     ·rw [k4 k Mc,hg,if_neg (by omega),if_neg (by omega)]
     ·have:=k5 (k - (j - i)) (by omega)
      rw [show q - i+(j - i)+(k - (j - i))=q - i+k by omega,hg,if_pos (by omega)] at this
      rw [this]; congr 1; omega
    ·rw [k6 _ (by omega),hg,if_neg (by omega),if_pos (by omega)]; congr 1; omega
    ·rw [k6 _ (by omega),hg,if_neg (by omega),if_neg (by omega)]
theorem FF {m:Nat}{a q b:Nat}{cmp:Int→Int→Option Int}{l:List Int}(hm:2 ^ 41≤m)(h1:a<q)(h2:q<b)(h3:b≤l.length)(hs:l.length<2 ^ 40) :
  ∃d,eu.f m l (a:Int) (q:Int) (b:Int) cmp=some d∧Mb l d a (q - a) (b - q):=by
 have nT:(2:Nat) ^ 40=1099511627776:=by decide
 have rE:(2:Nat) ^ 41=2199023255552:=by decide
 obtain⟨d',x,d,k1,k2,k3⟩:=AF (q:=q) (cmp:=cmp) hm m (q - a) (b - q) l (by omega) (by omega) (by omega) (by omega) (by omega) hs
 rw [show q - (q - a)=a by omega] at k3
 refine⟨d,?_,k3⟩
 unfold eu.f
 rw [show i64.wrap ((q:Int) - (a:Int))=((q - a:Nat):Int) by rw [aD (by omega) (by omega)]; omega,show i64.wrap ((b:Int) - (q:Int))=((b - q:Nat):Int) by rw [aD (by omega) (by omega)]; omega,k1,Xr]
 dsimp only
 rw [k2]; rfl
end Go.Proofs.YtmekcfdllhphlaaDoor
namespace Go.Proofs.YtmekcfdllhphlaaDoor
open Go Go.R
open Go.IntKind (i64 u64 u8 u32)
def xe:cg:=gK [0,2] [] [2,1] [] []
def fy.f (m:Nat)(c0:Int):Option (Bool):=if (decide (c0≥(97:Int)))=true then (if (decide (c0≤(122:Int)))=true then (some true) else (if (decide (c0≥(65:Int)))=true then (if (decide (c0≤(90:Int)))=true then (some true) else (if (decide (c0≥(48:Int)))=true then (if (decide (c0≤(57:Int)))=true then (some true) else (some (c0==(95:Int)))) else (some (c0==(95:Int))))) else (if (decide (c0≥(48:Int)))=true then (if (decide (c0≤(57:Int)))=true then (some true) else (some (c0==(95:Int)))) else (some (c0==(95:Int)))))) else (if (decide (c0≥(65:Int)))=true then (if (decide (c0≤(90:Int)))=true then (some true) else (if (decide (c0≥(48:Int)))=true then (if (decide (c0≤(57:Int)))=true then (some true) else (some (c0==(95:Int)))) else (some (c0==(95:Int))))) else (if (decide (c0≥(48:Int)))=true then (if (decide (c0≤(57:Int)))=true then (some true) else (some (c0==(95:Int)))) else (some (c0==(95:Int)))))
def fy.fin (L:Mem)(r:Bool)(s:St):Prop:=∃av,aH Tryd.prog (s.open xe) Tryd.f118.results.toList=some av∧fW s.h av (.bool r)
def KO (cf:CallF)(m:Nat):Prop:=∀(c0:Int) (r:Bool),fy.f m c0=some r→∀h xs,eN fi h xs [.int .u8 c0]→cf 118 xs h=some (.bool r,h)
section
variable {cf:CallF}{m:Nat}
theorem qf {aU:FuncId→cg}(ha:aU 118=xe)  (c0:Int)(h:AHeap)(L:Mem)  (o:Has h (L)){out:Bool}(H:fy.f m c0=some out) :
  ∃r h',bc Tryd.prog aU cf m 118 [.int .u8 c0] h=some (r,h')∧fW h' r (.bool out):=by
 refine aq (fn:=Tryd.f118) ha Tryd.func118 (by kernel_rfl) (by kernel_rfl) ?_
 refine aG (Q:=fun s=>fy.fin L out s) (fun _ _ h=>h) ?_
 have H:_=some out:=H
 unfold fy.f at H
 show de _ cf xe m _ ⟨[.int .u8 c0,.any],[],h⟩ _
 refine q1 <| qq ?_
 rcases dJ H with⟨c1,H⟩| ⟨c1,H⟩
 ·rcases dJ H with⟨c2,H⟩| ⟨c2,H⟩
  ·obtain rfl:=oi H
   exact qr [.b 2 c1,.b 6 c2] <| qt <| ⟨.inl rfl,cb (.bool true) h (b9 (au))⟩
  ·rcases dJ H with⟨c3,H⟩| ⟨c3,H⟩
   ·rcases dJ H with⟨c4,H⟩| ⟨c4,H⟩
    ·obtain rfl:=oi H
     exact qr [.b 2 c1,.b 6 c2,.b 9 c3,.b 14 c4] <| qt <| ⟨.inl rfl,cb (.bool true) h (b9 (au))⟩
    ·rcases dJ H with⟨c5,H⟩| ⟨c5,H⟩
     ·rcases dJ H with⟨c6,H⟩| ⟨c6,H⟩
      ·obtain rfl:=oi H
       exact qr [.b 2 c1,.b 6 c2,.b 9 c3,.b 14 c4,.b 17 c5,.b 22 c6] <| qt <| ⟨.inl rfl,cb (.bool true) h (b9 (au))⟩
      ·obtain rfl:=oi H
       exact qr [.b 2 c1,.b 6 c2,.b 9 c3,.b 14 c4,.b 17 c5,.b 22 c6] <| qt <| ⟨.inl rfl,cb (.bool (c0==(95:Int))) h (b9 (au))⟩
     ·obtain rfl:=oi H
      exact qr [.b 2 c1,.b 6 c2,.b 9 c3,.b 14 c4,.b 17 c5] <| qt <| ⟨.inl rfl,cb (.bool (c0==(95:Int))) h (b9 (au))⟩
   ·rcases dJ H with⟨c7,H⟩| ⟨c7,H⟩
    ·rcases dJ H with⟨c8,H⟩| ⟨c8,H⟩
     ·obtain rfl:=oi H
      exact qr [.b 2 c1,.b 6 c2,.b 9 c3,.b 17 c7,.b 22 c8] <| qt <| ⟨.inl rfl,cb (.bool true) h (b9 (au))⟩
     ·obtain rfl:=oi H
      exact qr [.b 2 c1,.b 6 c2,.b 9 c3,.b 17 c7,.b 22 c8] <| qt <| ⟨.inl rfl,cb (.bool (c0==(95:Int))) h (b9 (au))⟩
    ·obtain rfl:=oi H
     exact qr [.b 2 c1,.b 6 c2,.b 9 c3,.b 17 c7] <| qt <| ⟨.inl rfl,cb (.bool (c0==(95:Int))) h (b9 (au))⟩
 ·rcases dJ H with⟨c9,H⟩| ⟨c9,H⟩
  ·rcases dJ H with⟨uO,H⟩| ⟨uO,H⟩
   ·obtain rfl:=oi H
    exact qr [.b 2 c1,.b 9 c9,.b 14 uO] <| qt <| ⟨.inl rfl,cb (.bool true) h (b9 (au))⟩
   ·rcases dJ H with⟨nH,H⟩| ⟨nH,H⟩
    ·rcases dJ H with⟨nU,H⟩| ⟨nU,H⟩
     ·obtain rfl:=oi H
      exact qr [.b 2 c1,.b 9 c9,.b 14 uO,.b 17 nH,.b 22 nU] <| qt <| ⟨.inl rfl,cb (.bool true) h (b9 (au))⟩
     ·obtain rfl:=oi H
      exact qr [.b 2 c1,.b 9 c9,.b 14 uO,.b 17 nH,.b 22 nU] <| qt <| ⟨.inl rfl,cb (.bool (c0==(95:Int))) h (b9 (au))⟩
    ·obtain rfl:=oi H
     exact qr [.b 2 c1,.b 9 c9,.b 14 uO,.b 17 nH] <| qt <| ⟨.inl rfl,cb (.bool (c0==(95:Int))) h (b9 (au))⟩
  ·rcases dJ H with⟨qg,H⟩| ⟨qg,H⟩
   ·rcases dJ H with⟨rF,H⟩| ⟨rF,H⟩
    ·obtain rfl:=oi H
     exact qr [.b 2 c1,.b 9 c9,.b 17 qg,.b 22 rF] <| qt <| ⟨.inl rfl,cb (.bool true) h (b9 (au))⟩
    ·obtain rfl:=oi H
     exact qr [.b 2 c1,.b 9 c9,.b 17 qg,.b 22 rF] <| qt <| ⟨.inl rfl,cb (.bool (c0==(95:Int))) h (b9 (au))⟩
   ·obtain rfl:=oi H
    exact qr [.b 2 c1,.b 9 c9,.b 17 qg] <| qt <| ⟨.inl rfl,cb (.bool (c0==(95:Int))) h (b9 (au))⟩
end
end Go.Proofs.YtmekcfdllhphlaaDoor
namespace Go.Proofs.YtmekcfdllhphlaaDoor
open Go Go.R
open Go.IntKind (i64 u64 u8 u32)
def tA:cg:=gK [0,1,2,6,7,27,29,30,31,37] [] [1016,990,1015,830,574,814,318,1015,830,1015] [] []
def cN.l0 (m:Nat)(s0:ByteArray):Nat→Int→Option (Sum Bool (Int))
 | 0,_=>none
 | k+1,x0=>if (decide (x0<(s0.size:Int)))=true then ((bt s0 x0).bind fun v2=>(fy.f m v2).bind fun x1=>if (!x1)=true then (some (.inl false)) else (cN.l0 m s0 k (i64.wrap (x0+(1:Int))))) else (some (.inr x0))
def cN.f (m:Nat)(s0:ByteArray)(kj:Int)(nh:Int):Option (Bool):=if (decide ((s0.size:Int)<(1:Int)))=true then (some false) else (if (decide ((s0.size:Int) > (16:Int)))=true then (some false) else ((bt s0 (0:Int)).bind fun v0=>if (decide (v0<kj))=true then (some false) else ((bt s0 (0:Int)).bind fun v1=>if (decide (v1 > nh))=true then (some false) else ((cN.l0 m s0 m (0:Int)).bind fun bj=>match bj with | .inl r0=>some r0 | .inr x2=>some true))))
def cN.fin (L:Mem)(r:Bool)(s:St):Prop:=∃av,aH Tryd.prog (s.open tA) Tryd.f106.results.toList=some av∧fW s.h av (.bool r)
def Ny (cf:CallF)(m:Nat):Prop:=∀(s0:ByteArray) (kj:Int) (nh:Int) (r:Bool),cN.f m s0 kj nh=some r→∀h xs,eN fi h xs [.str s0,.int .u8 kj,.int .u8 nh]→cf 106 xs h=some (.bool r,h)
section
variable {cf:CallF}{m:Nat}
theorem cN.bI (L:Mem)(s0:ByteArray)  (FG:KO cf m):bD Tryd.prog cf tA m (sub [1,1,0,1,0,0] (codeOf Tryd.f106)) (fun k (σ:Int)=>cN.l0 m s0 k σ) (fun σ s=>match σ with | x0=>∃h0,s=⟨.str s0::rB [.int .i64 (s0.size:Int),.int .i64 x0,.any,.any],[],h0⟩∧Has h0 (L)) (fun out e s=>(e = .exit 0∧∃x0,.inr x0=out∧∃kG KP KQ KR h0,s=⟨kG::rB [KP,KQ,KR,.any],[],h0⟩∧Has h0 (L))∨(e = .ret∧∃r,.inl r=out∧cN.fin L r s)):=by
 refine gG (fun _=>rfl) ?_
 rintro k x0 s out ⟨h0,rfl,o0⟩ H
 have H:cN.l0 m s0 (k+1) x0=some out:=H
 refine q1 <| qq <| qc H (fun c7 H=>?_) (fun c7 H=>?_)
 ·refine qk <| qq <| qb 1 <| qq <| q0 <| qq ?_
  obtain⟨v2,e2,H⟩:=aI H
  obtain⟨x1,e3,H⟩:=aI H
  refine qr [.v 2 (l8 (k:=.i64) U9 e2),.a 3 (FG _ _ e3 h0 _ (hH (ae (aO) (aC))))] <| qc H (fun c8 H=>?_) (fun c8 H=>?_)
  ·exact q1 <| qt <| Yv (⟨rfl,_,oi H,cb (.bool false) h0 (b9 (au))⟩)
  ·exact qk <| q0 <| ⟨i64.wrap (x0+(1:Int)),⟨h0,by kernel_rfl,o0⟩,H⟩
 ·exact qx 0 <| YQ (⟨rfl,x0,oi H,.str s0,.int .i64 (s0.size:Int),.int .i64 x0,.bool (decide (x0<(s0.size:Int))),h0,by kernel_rfl,o0⟩)
theorem tB {aU:FuncId→cg}(ha:aU 106=tA)(FG:KO cf m)(s0:ByteArray)(kj:Int)(nh:Int)(h:AHeap)(L:Mem)  (o:Has h (L)){out:Bool}(H:cN.f m s0 kj nh=some out) :
  ∃r h',bc Tryd.prog aU cf m 106 [.str s0,.int .u8 kj,.int .u8 nh] h=some (r,h')∧fW h' r (.bool out):=by
 refine aq (fn:=Tryd.f106) ha Tryd.func106 (by kernel_rfl) (by kernel_rfl) ?_
 refine aG (Q:=fun s=>cN.fin L out s) (fun _ _ h=>h) ?_
 have H:_=some out:=H
 unfold cN.f at H
 show de _ cf tA m _ ⟨.str s0 :: .int .u8 kj :: .int .u8 nh::Ee [],[],h⟩ _
 refine q1 <| qq <| qq ?_
 rcases dJ H with⟨c0,H⟩| ⟨c0,H⟩
 ·obtain rfl:=oi H
  exact qr [.b 3 c0] <| xc <| qq <| q0 <| qt <| ⟨.inl rfl,cb (.bool false) h (b9 (au))⟩
 ·rcases dJ H with⟨c2,H⟩| ⟨c2,H⟩
  ·obtain rfl:=oi H
   exact qr [.b 3 c0,.b 8 c2] <| xc <| qq <| q0 <| qt <| ⟨.inl rfl,cb (.bool false) h (b9 (au))⟩
  ·obtain⟨v0,e0,H⟩:=aI H
   rcases dJ H with⟨c4,H⟩| ⟨c4,H⟩
   ·obtain rfl:=oi H
    exact qr [.b 3 c0,.b 8 c2,.v 10 (l8 (k:=.i64) U9 e0),.b 14 c4] <| xc <| qq <| q0 <| qt <| ⟨.inl rfl,cb (.bool false) h (b9 (au))⟩
   ·obtain⟨v1,e1,H⟩:=aI H
    refine qr [.b 3 c0,.b 8 c2,.v 10 (l8 (k:=.i64) U9 e0),.b 14 c4,.v 16 (l8 (k:=.i64) U9 e1)] <| qc H (fun c6 H=>?_) (fun c6 H=>?_)
    ·obtain rfl:=oi H
     exact q1 <| qt <| ⟨.inl rfl,cb (.bool false) h (b9 (au))⟩
    ·refine qk <| qq <| qq <| q0 <| qb 0 ?_
     obtain⟨bj,e4,H⟩:=aI H
     refine ql (cN.bI L s0  FG (0:Int) _ _ ⟨h,by kernel_rfl,o⟩ e4) ?_
     rintro e s (⟨rfl,x2,rfl,g0,g1,g2,g3,h1,rfl,o1⟩| ⟨rfl,r0,rfl,nI⟩)
     ·try dsimp only at H
      obtain rfl:=oi H
      exact q1 <| qt <| ⟨.inl rfl,cb (.bool true) h1 (b9 (au))⟩
     ·try dsimp only at H
      obtain rfl:=oi H
      exact⟨.inl rfl,nI⟩
end
end Go.Proofs.YtmekcfdllhphlaaDoor
namespace Go.Proofs.YtmekcfdllhphlaaDoor
open Go Go.R
open Go.IntKind (i64 u64 u8 u32)
def BZ:cg:=gK [0,2] [] [2,1] [] []
def gH.f (m:Nat)(s0:ByteArray):Option (Bool):=if (s0.data.toList==(XV #[124]).data.toList)=true then (some true) else (if (s0.data.toList==(XV #[35]).data.toList)=true then (some true) else ((cN.f m s0 (97:Int) (122:Int)).bind fun x0=>some x0))
def gH.fin (L:Mem)(r:Bool)(s:St):Prop:=∃av,aH Tryd.prog (s.open BZ) Tryd.f77.results.toList=some av∧fW s.h av (.bool r)
def Te (cf:CallF)(m:Nat):Prop:=∀(s0:ByteArray) (r:Bool),gH.f m s0=some r→∀h xs,eN fi h xs [.str s0]→cf 77 xs h=some (.bool r,h)
section
variable {cf:CallF}{m:Nat}
theorem tC {aU:FuncId→cg}(ha:aU 77=BZ)(Nz:Ny cf m)(s0:ByteArray)(h:AHeap)(L:Mem)  (o:Has h (L)){out:Bool}(H:gH.f m s0=some out) :
  ∃r h',bc Tryd.prog aU cf m 77 [.str s0] h=some (r,h')∧fW h' r (.bool out):=by
 refine aq (fn:=Tryd.f77) ha Tryd.func77 (by kernel_rfl) (by kernel_rfl) ?_
 refine aG (Q:=fun s=>gH.fin L out s) (fun _ _ h=>h) ?_
 have H:_=some out:=H
 unfold gH.f at H
 show de _ cf BZ m _ ⟨[.str s0,.any],[],h⟩ _
 refine q1 <| qq ?_
 rcases dJ H with⟨c0,H⟩| ⟨c0,H⟩
 ·obtain rfl:=oi H
  exact qr [.b 2 c0] <| qt <| ⟨.inl rfl,cb (.bool true) h (b9 (au))⟩
 ·rcases dJ H with⟨c1,H⟩| ⟨c1,H⟩
  ·obtain rfl:=oi H
   exact qr [.b 2 c0,.b 6 c1] <| qt <| ⟨.inl rfl,cb (.bool true) h (b9 (au))⟩
  ·obtain⟨x0,e0,H⟩:=aI H
   obtain rfl:=oi H
   exact qr [.b 2 c0,.b 6 c1,.a 8 (Nz _ _ _ _ e0 h _ (hH (ae (bY) (ae (aO) (ae (aO) (aC))))))] <| qt <| ⟨.inl rfl,cb (.bool x0) h (b9 (au))⟩
end
end Go.Proofs.YtmekcfdllhphlaaDoor
namespace Go.Proofs.YtmekcfdllhphlaaDoor
open Go Go.R
open Go.IntKind (i64 u64 u8 u32)
def tD:cg:=gK [0,1,4,5,7,8,9,16] [] [252,204,140,196,68,251,204,251] [] []
def ev.l0 (m:Nat)(s0:List Int)(f0:Int→Option (Bool)):Nat→Int→Option (Sum Int (Int))
 | 0,_=>none
 | k+1,x0=>if (decide (x0<(s0.length:Int)))=true then ((ix s0 x0).bind fun v0=>(f0 v0).bind fun r0=>if r0=true then (some (.inl x0)) else (ev.l0 m s0 f0 k (i64.wrap (x0+(1:Int))))) else (some (.inr x0))
def ev.f (m:Nat)(s0:List Int)(f0:Int→Option (Bool)):Option (Int):=(ev.l0 m s0 f0 m (0:Int)).bind fun bj=>match bj with | .inl r1=>some r1 | .inr x1=>some (-1:Int)
def ev.fin (h:AHeap)(r:Int)(s:St):Prop:=aH Tryd.prog (s.open tD) Tryd.f107.results.toList=some (.int .i64 r)∧s.h=h
def NA (cf:CallF)(m:Nat):Prop:=∀(s0:List Int) (f0:Int→Option (Bool)) (r:Int),ev.f m s0 f0=some r→∀h,0<h.next→∀(dr:FuncId) (aL:List AV),az (.fn dr aL) = .fn dr aL→(∀(a0:Int) r,f0 a0=some r→cf dr ([.int .i64 a0]++aL) h=some (.bool r,h))→∀xs,xs.map az=[aa.fz s0,.fn dr aL]→cf 107 xs h=some (.int .i64 r,h)
section
variable {cf:CallF}{m:Nat}
theorem ev.bI (h:AHeap)(L:Mem)(dr:FuncId)(aL:List AV)(s0:List Int)(f0:Int→Option (Bool))  (gI:az (.fn dr aL) = .fn dr aL)(gN:∀(a0:Int) r,f0 a0=some r→cf dr ([.int .i64 a0]++aL) h=some (.bool r,h))  : bD Tryd.prog cf tD m (sub [1,0,1,0,0] (codeOf Tryd.f107)) (fun k (σ:Int)=>ev.l0 m s0 f0 k σ) (fun σ s=>match σ with | x0=>s=⟨[aa.fz s0,.fn dr aL,.any,.any,.int .i64 (s0.length:Int),.int .i64 x0,.any,.any],[],h⟩∧Has h (L)) (fun out e s=>(e = .exit 0∧∃x0,.inr x0=out∧∃kG uM uP qh rG,s=⟨[kG,uM,.any,.any,uP,qh,rG,.any],[],h⟩∧Has h (L))∨(e = .ret∧∃r,.inl r=out∧ev.fin h r s)):=by
 refine gG (fun _=>rfl) ?_
 rintro k x0 s out ⟨rfl,o0⟩ H
 have H:ev.l0 m s0 f0 (k+1) x0=some out:=H
 refine q1 <| qq <| qc H (fun c0 H=>?_) (fun c0 H=>?_)
 ·refine qk <| qq <| qb 1 <| qq <| q0 <| qq ?_
  obtain⟨v0,e0,H⟩:=aI H
  obtain⟨r0,e1,H⟩:=aI H
  refine qr [.v 3 (bw (k:=.i64) (E:=aa) (l:=s0) dz e0),.v 4 (cY  (E:=aa) (l:=s0) h A3 e0 rfl),.a 5 (gN _ _ e1)] <| qc H (fun c1 H=>?_) (fun c1 H=>?_)
  ·exact q1 <| qt <| Yv (⟨rfl,_,oi H,⟨by kernel_rfl,by kernel_rfl⟩⟩)
  ·exact qk <| q0 <| ⟨i64.wrap (x0+(1:Int)),⟨by kernel_rfl,o0⟩,H⟩
 ·exact qx 0 <| YQ (⟨rfl,x0,oi H,aa.fz s0,.fn dr aL,.int .i64 (s0.length:Int),.int .i64 x0,.bool (decide (x0<(s0.length:Int))),by kernel_rfl,o0⟩)
theorem xf {aU:FuncId→cg}(ha:aU 107=tD)  (s0:List Int)(f0:Int→Option (Bool))(h:AHeap)(L:Mem)(dr:FuncId)(aL:List AV)  (gI:az (.fn dr aL) = .fn dr aL)(gN:∀(a0:Int) r,f0 a0=some r→cf dr ([.int .i64 a0]++aL) h=some (.bool r,h))(o:Has h (L)){out:Int}(H:ev.f m s0 f0=some out) :
  ∃r h',bc Tryd.prog aU cf m 107 [aa.fz s0,.fn dr aL] h=some (r,h')∧r=(.int .i64 out)∧h'=h:=by
 refine aq (fn:=Tryd.f107) ha Tryd.func107 (by kernel_rfl) (by kernel_rfl) ?_
 refine aG (Q:=fun s=>ev.fin h out s) (fun _ _ ⟨h1,h2,h3⟩=>⟨h1,_,h2,rfl,h3⟩) ?_
 have H:_=some out:=H
 unfold ev.f at H
 show de _ cf tD m _ ⟨aa.fz s0 :: .fn dr aL::BQ [],[],h⟩ _
 refine q1 <| qq <| qq <| q0 <| qb 0 ?_
 obtain⟨bj,e2,H⟩:=aI H
 refine ql (ev.bI h L dr aL s0 f0  gI gN  (0:Int) _ _ ⟨by kernel_rfl,o⟩ e2) ?_
 rintro e s (⟨rfl,x1,rfl,g0,g1,g2,g3,g4,rfl,o1⟩| ⟨rfl,r1,rfl,nI⟩)
 ·try dsimp only at H
  obtain rfl:=oi H
  exact q1 <| qt <| ⟨.inl rfl,⟨by kernel_rfl,by kernel_rfl⟩⟩
 ·try dsimp only at H
  obtain rfl:=oi H
  exact⟨.inl rfl,nI⟩
end
end Go.Proofs.YtmekcfdllhphlaaDoor
namespace Go.Proofs.YtmekcfdllhphlaaDoor
open Go Go.R
open Go.IntKind (i64 u64 u8 u32)
def B0:cg:=gK [0,1,4] [] [4,3] [] []
def gp.f (m:Nat)(s0:List Int)(f0:Int→Option (Bool)):Option (Bool):=(ev.f m s0 f0).bind fun x0=>some (decide (x0≥(0:Int)))
def gp.fin (h:AHeap)(r:Bool)(s:St):Prop:=aH Tryd.prog (s.open B0) Tryd.f78.results.toList=some (.bool r)∧s.h=h
def Tf (cf:CallF)(m:Nat):Prop:=∀(s0:List Int) (f0:Int→Option (Bool)) (r:Bool),gp.f m s0 f0=some r→∀h,0<h.next→∀(dr:FuncId) (aL:List AV),az (.fn dr aL) = .fn dr aL→(∀(a0:Int) r,f0 a0=some r→cf dr ([.int .i64 a0]++aL) h=some (.bool r,h))→∀xs,xs.map az=[aa.fz s0,.fn dr aL]→cf 78 xs h=some (.bool r,h)
section
variable {cf:CallF}{m:Nat}
theorem rH {aU:FuncId→cg}(ha:aU 78=B0)(NB:NA cf m)(s0:List Int)(f0:Int→Option (Bool))(h:AHeap)(L:Mem)(dr:FuncId)(aL:List AV)  (gI:az (.fn dr aL) = .fn dr aL)(gN:∀(a0:Int) r,f0 a0=some r→cf dr ([.int .i64 a0]++aL) h=some (.bool r,h))(o:Has h (L)){out:Bool}(H:gp.f m s0 f0=some out) :
  ∃r h',bc Tryd.prog aU cf m 78 [aa.fz s0,.fn dr aL] h=some (r,h')∧r=(.bool out)∧h'=h:=by
 refine aq (fn:=Tryd.f78) ha Tryd.func78 (by kernel_rfl) (by kernel_rfl) ?_
 refine aG (Q:=fun s=>gp.fin h out s) (fun _ _ ⟨h1,h2,h3⟩=>⟨h1,_,h2,rfl,h3⟩) ?_
 have H:_=some out:=H
 unfold gp.f at H
 show de _ cf B0 m _ ⟨[aa.fz s0,.fn dr aL,.any],[],h⟩ _
 refine q1 <| qq ?_
 obtain⟨x0,e0,H⟩:=aI H
 obtain rfl:=oi H
 exact qr [.a 2 (NB _ _ _ e0 h (Has.pos o) dr aL gI gN _ (an (aP (iN (E:=aa))) (an (gI) (bo))))] <| qt <| ⟨.inl rfl,⟨by kernel_rfl,by kernel_rfl⟩⟩
end
end Go.Proofs.YtmekcfdllhphlaaDoor
namespace Go.Proofs.YtmekcfdllhphlaaDoor
open Go Go.R
open Go.IntKind (i64 u64 u8 u32)
def B1:cg:=gK [0,1,3] [] [4,3] [] []
def gq.f (m:Nat)(a0:Int)(x0:Int):Option (Bool):=if (decide (a0<(0:Int)))=true then (some true) else (some (decide (a0≥x0)))
def gq.fin (h:AHeap)(r:Bool)(s:St):Prop:=aH Tryd.prog (s.open B1) Tryd.f79.results.toList=some (.bool r)∧s.h=h
def Tg (cf:CallF)(m:Nat):Prop:=∀(a0:Int) (x0:Int) (r:Bool),gq.f m a0 x0=some r→∀h L (ez bQ:Nat),Has h L→L[ez]? = some (bQ,.ob [.int .i64 x0])→cf 79 [.int .i64 a0,.ptr bQ 0] h=some (.bool r,h)
section
variable {cf:CallF}{m:Nat}
theorem qi {aU:FuncId→cg}(ha:aU 79=B1)  (a0:Int)(x0:Int)(h:AHeap)(L:Mem)  {ez bQ:Nat}(fQ:L[ez]? = some (bQ,.ob [.int .i64 x0]))(o:Has h (L)){out:Bool}(H:gq.f m a0 x0=some out) :
  ∃r h',bc Tryd.prog aU cf m 79 [.int .i64 a0,.ptr bQ 0] h=some (r,h')∧r=(.bool out)∧h'=h:=by
 refine aq (fn:=Tryd.f79) ha Tryd.func79 (by kernel_rfl) (by kernel_rfl) ?_
 refine aG (Q:=fun s=>gq.fin h out s) (fun _ _ ⟨h1,h2,h3⟩=>⟨h1,_,h2,rfl,h3⟩) ?_
 have H:_=some out:=H
 unfold gq.f at H
 show de _ cf B1 m _ ⟨[.int .i64 a0,.ptr bQ 0,.any],[],h⟩ _
 refine q1 <| qq ?_
 rcases dJ H with⟨c0,H⟩| ⟨c0,H⟩
 ·obtain rfl:=oi H
  exact qr [.b 2 c0] <| qt <| ⟨.inl rfl,⟨by kernel_rfl,by kernel_rfl⟩⟩
 ·obtain rfl:=oi H
  exact qr [.b 2 c0,.v 4 (show bl Tryd.prog h 3 (.ptr bQ 0)=some (.int .i64 x0) from ca (q:=ez) (cs:=[.int .i64 x0]) o fQ (by kernel_rfl))] <| qt <| ⟨.inl rfl,⟨by kernel_rfl,by kernel_rfl⟩⟩
end
end Go.Proofs.YtmekcfdllhphlaaDoor
namespace Go.Proofs.YtmekcfdllhphlaaDoor
open Go Go.R
open Go.IntKind (i64 u64 u8 u32)
def B2:cg:=gK [0,2] [] [2,1] [] []
def gr.f (m:Nat)(s0:ByteArray):Option (Bool):=if (s0.data.toList==(XV #[112,114,111,99]).data.toList)=true then (some true) else (if (s0.data.toList==(XV #[99,101,108,108]).data.toList)=true then (some true) else (some (s0.data.toList==(XV #[112,111,114,116]).data.toList)))
def gr.fin (L:Mem)(r:Bool)(s:St):Prop:=∃av,aH Tryd.prog (s.open B2) Tryd.f80.results.toList=some av∧fW s.h av (.bool r)
def Th (cf:CallF)(m:Nat):Prop:=∀(s0:ByteArray) (r:Bool),gr.f m s0=some r→∀h xs,eN fi h xs [.str s0]→cf 80 xs h=some (.bool r,h)
section
variable {cf:CallF}{m:Nat}
theorem rI {aU:FuncId→cg}(ha:aU 80=B2)  (s0:ByteArray)(h:AHeap)(L:Mem)  (o:Has h (L)){out:Bool}(H:gr.f m s0=some out) :
  ∃r h',bc Tryd.prog aU cf m 80 [.str s0] h=some (r,h')∧fW h' r (.bool out):=by
 refine aq (fn:=Tryd.f80) ha Tryd.func80 (by kernel_rfl) (by kernel_rfl) ?_
 refine aG (Q:=fun s=>gr.fin L out s) (fun _ _ h=>h) ?_
 have H:_=some out:=H
 unfold gr.f at H
 show de _ cf B2 m _ ⟨[.str s0,.any],[],h⟩ _
 refine q1 <| qq ?_
 rcases dJ H with⟨c0,H⟩| ⟨c0,H⟩
 ·obtain rfl:=oi H
  exact qr [.b 2 c0] <| qt <| ⟨.inl rfl,cb (.bool true) h (b9 (au))⟩
 ·rcases dJ H with⟨c1,H⟩| ⟨c1,H⟩
  ·obtain rfl:=oi H
   exact qr [.b 2 c0,.b 6 c1] <| qt <| ⟨.inl rfl,cb (.bool true) h (b9 (au))⟩
  ·obtain rfl:=oi H
   exact qr [.b 2 c0,.b 6 c1] <| qt <| ⟨.inl rfl,cb (.bool (s0.data.toList==(XV #[112,111,114,116]).data.toList)) h (b9 (au))⟩
end
end Go.Proofs.YtmekcfdllhphlaaDoor
namespace Go.Proofs.YtmekcfdllhphlaaDoor
open Go Go.R
open Go.IntKind (i64 u64 u8 u32)
def B3:cg:=gK [0,1,2,3,4,6,7,23,44,60,89] [2] [2035,2003,1939,2031,1875,2031,1747,2031,1491,2031,1019,2031,2031] [] []
def ie.f (m:Nat)(n0:ab)(mb:Int):Option (Bool):=if (n0.kind==(0:Int))=true then (if (decide (n0.int≥(0:Int)))=true then (if (n0.label.data.toList==(XV #[]).data.toList)=true then (some ((n0.args.length:Int)==(0:Int))) else (some false)) else (some false)) else (if (n0.kind==(1:Int))=true then (if (decide (n0.int≥(-1099511627776:Int)))=true then (if (decide (n0.int≤(1099511627776:Int)))=true then (if (n0.label.data.toList==(XV #[]).data.toList)=true then (some ((n0.args.length:Int)==(0:Int))) else (some false)) else (some false)) else (some false)) else (if (n0.kind==(2:Int))=true then (if (n0.int==(0:Int))=true then ((gH.f m n0.label).bind fun x0=>if x0=true then (some ((n0.args.length:Int)==(0:Int))) else (some false)) else (some false)) else (if (n0.kind==(3:Int))=true then (if (n0.int==(0:Int))=true then ((gH.f m n0.label).bind fun x1=>if x1=true then (if (decide ((n0.args.length:Int)≥(1:Int)))=true then (if (decide ((n0.args.length:Int)≤(8:Int)))=true then ((gp.f m n0.args (fun y0=>gq.f m y0 mb)).bind fun x2=>some (!x2)) else (some false)) else (some false)) else (some false)) else (some false)) else (if (n0.kind==(4:Int))=true then (if (decide (n0.int≥(0:Int)))=true then ((gr.f m n0.label).bind fun x3=>if x3=true then (some ((n0.args.length:Int)==(0:Int))) else (some false)) else (some false)) else (some false)))))
def ie.fin (L:Mem)(r:Bool)(s:St):Prop:=∃av,aH Tryd.prog (s.open B3) Tryd.f62.results.toList=some av∧fW s.h av (.bool r)
def Tk (cf:CallF)(m:Nat):Prop:=∀(n0:ab) (mb:Int) (r:Bool),ie.f m n0 mb=some r→∀h xs,eN fi h xs [.agg [.int .i64 n0.kind,.int .i64 n0.int,.str n0.label,aa.fz n0.args],.int .i64 mb]→cf 62 xs h=some (.bool r,h)
section
variable {cf:CallF}{m:Nat}
theorem tE {aU:FuncId→cg}(ha:aU 62=B3)(DG:Te cf m)(Qs:Tf cf m)(Qt:Tg cf m)(NC:Th cf m)(n0:ab)(mb:Int)(h:AHeap)(L:Mem)  (o:Has h (L)){out:Bool}(H:ie.f m n0 mb=some out) :
  ∃r h',bc Tryd.prog aU cf m 62 [.agg [.int .i64 n0.kind,.int .i64 n0.int,.str n0.label,aa.fz n0.args],.int .i64 mb] h=some (r,h')∧fW h' r (.bool out):=by
 refine aq (fn:=Tryd.f62) ha Tryd.func62 (by kernel_rfl) (by kernel_rfl) ?_
 refine aG (Q:=fun s=>ie.fin L out s) (fun _ _ h=>h) ?_
 have H:_=some out:=H
 unfold ie.f at H
 show de _ cf B3 m _ ⟨.agg [.int .i64 n0.kind,.int .i64 n0.int,.str n0.label,aa.fz n0.args] :: .int .i64 mb::BR [],[none],h⟩ _
 refine qq ?_
 obtain⟨aA,h0,e0,o0⟩:=ki (cs:=[.int .i64 mb]) o (by kernel_rfl)
 refine qr [.a 1 e0] <| qq <| qq <| q0 <| qb 0 <| qq <| q0 <| qc H (fun c0 H=>?_) (fun c0 H=>?_)
 ·refine qq ?_
  rcases dJ H with⟨c1,H⟩| ⟨c1,H⟩
  ·rcases dJ H with⟨c2,H⟩| ⟨c2,H⟩
   ·refine qr [.b 3 c1,.b 8 c2] ?_
    have o1:Has h0 (L):=Has.del o0 0
    obtain rfl:=oi H
    exact qt <| ⟨.inl rfl,cb (.bool ((n0.args.length:Int)==(0:Int))) h0 (b9 (au))⟩
   ·refine qr [.b 3 c1,.b 8 c2] ?_
    have o2:Has h0 (L):=Has.del o0 0
    obtain rfl:=oi H
    exact qt <| ⟨.inl rfl,cb (.bool false) h0 (b9 (au))⟩
  ·refine qr [.b 3 c1] ?_
   have o3:Has h0 (L):=Has.del o0 0
   obtain rfl:=oi H
   exact qt <| ⟨.inl rfl,cb (.bool false) h0 (b9 (au))⟩
 ·refine q1 <| qc H (fun c3 H=>?_) (fun c3 H=>?_)
  ·refine qq ?_
   rcases dJ H with⟨c4,H⟩| ⟨c4,H⟩
   ·rcases dJ H with⟨c5,H⟩| ⟨c5,H⟩
    ·rcases dJ H with⟨c6,H⟩| ⟨c6,H⟩
     ·refine qr [.b 3 c4,.b 8 c5,.b 13 c6] ?_
      have o4:Has h0 (L):=Has.del o0 0
      obtain rfl:=oi H
      exact qt <| ⟨.inl rfl,cb (.bool ((n0.args.length:Int)==(0:Int))) h0 (b9 (au))⟩
     ·refine qr [.b 3 c4,.b 8 c5,.b 13 c6] ?_
      have o5:Has h0 (L):=Has.del o0 0
      obtain rfl:=oi H
      exact qt <| ⟨.inl rfl,cb (.bool false) h0 (b9 (au))⟩
    ·refine qr [.b 3 c4,.b 8 c5] ?_
     have o6:Has h0 (L):=Has.del o0 0
     obtain rfl:=oi H
     exact qt <| ⟨.inl rfl,cb (.bool false) h0 (b9 (au))⟩
   ·refine qr [.b 3 c4] ?_
    have o7:Has h0 (L):=Has.del o0 0
    obtain rfl:=oi H
    exact qt <| ⟨.inl rfl,cb (.bool false) h0 (b9 (au))⟩
  ·refine q1 <| qc H (fun c7 H=>?_) (fun c7 H=>?_)
   ·refine qq ?_
    rcases dJ H with⟨c8,H⟩| ⟨c8,H⟩
    ·obtain⟨x0,e1,H⟩:=aI H
     rcases dJ H with⟨c9,H⟩| ⟨c9,H⟩
     ·refine qr [.b 3 c8,.a 6 (DG _ _ e1 h0 _ (hH (ae (bY) (aC)))),.b 8 c9] ?_
      have o8:Has h0 (L):=Has.del o0 0
      obtain rfl:=oi H
      exact qt <| ⟨.inl rfl,cb (.bool ((n0.args.length:Int)==(0:Int))) h0 (b9 (au))⟩
     ·refine qr [.b 3 c8,.a 6 (DG _ _ e1 h0 _ (hH (ae (bY) (aC)))),.b 8 c9] ?_
      have o9:Has h0 (L):=Has.del o0 0
      obtain rfl:=oi H
      exact qt <| ⟨.inl rfl,cb (.bool false) h0 (b9 (au))⟩
    ·refine qr [.b 3 c8] ?_
     have tF:Has h0 (L):=Has.del o0 0
     obtain rfl:=oi H
     exact qt <| ⟨.inl rfl,cb (.bool false) h0 (b9 (au))⟩
   ·refine q1 <| qc H (fun uO H=>?_) (fun uO H=>?_)
    ·refine qq ?_
     rcases dJ H with⟨nH,H⟩| ⟨nH,H⟩
     ·obtain⟨x1,e2,H⟩:=aI H
      rcases dJ H with⟨nU,H⟩| ⟨nU,H⟩
      ·rcases dJ H with⟨qg,H⟩| ⟨qg,H⟩
       ·rcases dJ H with⟨rF,H⟩| ⟨rF,H⟩
        ·obtain⟨x2,e3,H⟩:=aI H
         refine qr [.b 3 nH,.a 6 (DG _ _ e2 h0 _ (hH (ae (bY) (aC)))),.b 8 nU,.b 14 qg,.b 20 rF,.a 24 (Qs _ _ _ e3 h0 (Has.pos o0) 79 [.ptr aA 0] rfl (fun y0 r hr=>Qt y0 _ r hr h0 _ 0 _ o0 rfl) _ (an (aP (iN (E:=aa))) (an ((rfl:az (.fn 79 [.ptr aA 0])=_)) (bo))))] ?_
         have uw:Has h0 (L):=Has.del o0 0
         obtain rfl:=oi H
         exact qt <| ⟨.inl rfl,cb (.bool (!x2)) h0 (b9 (au))⟩
        ·refine qr [.b 3 nH,.a 6 (DG _ _ e2 h0 _ (hH (ae (bY) (aC)))),.b 8 nU,.b 14 qg,.b 20 rF] ?_
         have oT:Has h0 (L):=Has.del o0 0
         obtain rfl:=oi H
         exact qt <| ⟨.inl rfl,cb (.bool false) h0 (b9 (au))⟩
       ·refine qr [.b 3 nH,.a 6 (DG _ _ e2 h0 _ (hH (ae (bY) (aC)))),.b 8 nU,.b 14 qg] ?_
        have lB:Has h0 (L):=Has.del o0 0
        obtain rfl:=oi H
        exact qt <| ⟨.inl rfl,cb (.bool false) h0 (b9 (au))⟩
      ·refine qr [.b 3 nH,.a 6 (DG _ _ e2 h0 _ (hH (ae (bY) (aC)))),.b 8 nU] ?_
       have uQ:Has h0 (L):=Has.del o0 0
       obtain rfl:=oi H
       exact qt <| ⟨.inl rfl,cb (.bool false) h0 (b9 (au))⟩
     ·refine qr [.b 3 nH] ?_
      have yP:Has h0 (L):=Has.del o0 0
      obtain rfl:=oi H
      exact qt <| ⟨.inl rfl,cb (.bool false) h0 (b9 (au))⟩
    ·refine q1 ?_
     have lG:Has h0 (L):=Has.del o0 0
     refine qc H (fun B4 H=>?_) (fun B4 H=>?_)
     ·refine qq ?_
      rcases dJ H with⟨Ef,H⟩| ⟨Ef,H⟩
      ·obtain⟨x3,e4,H⟩:=aI H
       rcases dJ H with⟨DH,H⟩| ⟨DH,H⟩
       ·obtain rfl:=oi H
        exact qr [.b 3 Ef,.a 6 (NC _ _ e4 h0 _ (hH (ae (bY) (aC)))),.b 8 DH] <| qt <| ⟨.inl rfl,cb (.bool ((n0.args.length:Int)==(0:Int))) h0 (b9 (au))⟩
       ·obtain rfl:=oi H
        exact qr [.b 3 Ef,.a 6 (NC _ _ e4 h0 _ (hH (ae (bY) (aC)))),.b 8 DH] <| qt <| ⟨.inl rfl,cb (.bool false) h0 (b9 (au))⟩
      ·obtain rfl:=oi H
       exact qr [.b 3 Ef] <| qt <| ⟨.inl rfl,cb (.bool false) h0 (b9 (au))⟩
     ·obtain rfl:=oi H
      exact qk <| qq <| q0 <| qt <| ⟨.inl rfl,cb (.bool false) h0 (b9 (au))⟩
end
end Go.Proofs.YtmekcfdllhphlaaDoor
namespace Go.Proofs.YtmekcfdllhphlaaDoor
open Go Go.R
open Go.IntKind (i64 u64 u8 u32)
def yQ:cg:=gK [0,1,4,5,7,8,9,16] [] [252,204,140,196,68,251,204,251] [] []
def eA.l0 (m:Nat)(s0:List ab)(f0:ab→Option (Bool)):Nat→Int→Option (Sum Int (Int))
 | 0,_=>none
 | k+1,x0=>if (decide (x0<(s0.length:Int)))=true then ((ix s0 x0).bind fun v0=>(f0 v0).bind fun r0=>if r0=true then (some (.inl x0)) else (eA.l0 m s0 f0 k (i64.wrap (x0+(1:Int))))) else (some (.inr x0))
def eA.f (m:Nat)(s0:List ab)(f0:ab→Option (Bool)):Option (Int):=(eA.l0 m s0 f0 m (0:Int)).bind fun bj=>match bj with | .inl r1=>some r1 | .inr x1=>some (-1:Int)
def eA.fin (h:AHeap)(r:Int)(s:St):Prop:=aH Tryd.prog (s.open yQ) Tryd.f52.results.toList=some (.int .i64 r)∧s.h=h
def Tm (cf:CallF)(m:Nat):Prop:=∀(s0:List ab) (f0:ab→Option (Bool)) (r:Int),eA.f m s0 f0=some r→∀h,0<h.next→∀(dr:FuncId) (aL:List AV),az (.fn dr aL) = .fn dr aL→(∀(a0:ab) r,f0 a0=some r→cf dr ([.agg [.int .i64 a0.kind,.int .i64 a0.int,.str a0.label,aa.fz a0.args]]++aL) h=some (.bool r,h))→∀xs,xs.map az=[af.fz s0,.fn dr aL]→cf 52 xs h=some (.int .i64 r,h)
section
variable {cf:CallF}{m:Nat}
theorem eA.bI (h:AHeap)(L:Mem)(dr:FuncId)(aL:List AV)(s0:List ab)(f0:ab→Option (Bool))  (gI:az (.fn dr aL) = .fn dr aL)(gN:∀(a0:ab) r,f0 a0=some r→cf dr ([.agg [.int .i64 a0.kind,.int .i64 a0.int,.str a0.label,aa.fz a0.args]]++aL) h=some (.bool r,h))  : bD Tryd.prog cf yQ m (sub [1,0,1,0,0] (codeOf Tryd.f52)) (fun k (σ:Int)=>eA.l0 m s0 f0 k σ) (fun σ s=>match σ with | x0=>s=⟨[af.fz s0,.fn dr aL,.any,.any,.int .i64 (s0.length:Int),.int .i64 x0,.any,.any],[],h⟩∧Has h (L)) (fun out e s=>(e = .exit 0∧∃x0,.inr x0=out∧∃kG uM uP qh rG,s=⟨[kG,uM,.any,.any,uP,qh,rG,.any],[],h⟩∧Has h (L))∨(e = .ret∧∃r,.inl r=out∧eA.fin h r s)):=by
 refine gG (fun _=>rfl) ?_
 rintro k x0 s out ⟨rfl,o0⟩ H
 have H:eA.l0 m s0 f0 (k+1) x0=some out:=H
 refine q1 <| qq <| qc H (fun c0 H=>?_) (fun c0 H=>?_)
 ·refine qk <| qq <| qb 1 <| qq <| q0 <| qq ?_
  obtain⟨v0,e0,H⟩:=aI H
  obtain⟨r0,e1,H⟩:=aI H
  refine qr [.v 3 (bw (k:=.i64) (E:=af) (l:=s0) la e0),.v 4 (dw  (E:=af) (l:=s0) h tq tt e0),.a 5 (gN _ _ e1)] <| qc H (fun c1 H=>?_) (fun c1 H=>?_)
  ·exact q1 <| qt <| Yv (⟨rfl,_,oi H,⟨by kernel_rfl,by kernel_rfl⟩⟩)
  ·exact qk <| q0 <| ⟨i64.wrap (x0+(1:Int)),⟨by kernel_rfl,o0⟩,H⟩
 ·exact qx 0 <| YQ (⟨rfl,x0,oi H,af.fz s0,.fn dr aL,.int .i64 (s0.length:Int),.int .i64 x0,.bool (decide (x0<(s0.length:Int))),by kernel_rfl,o0⟩)
theorem xg {aU:FuncId→cg}(ha:aU 52=yQ)  (s0:List ab)(f0:ab→Option (Bool))(h:AHeap)(L:Mem)(dr:FuncId)(aL:List AV)  (gI:az (.fn dr aL) = .fn dr aL)(gN:∀(a0:ab) r,f0 a0=some r→cf dr ([.agg [.int .i64 a0.kind,.int .i64 a0.int,.str a0.label,aa.fz a0.args]]++aL) h=some (.bool r,h))(o:Has h (L)){out:Int}(H:eA.f m s0 f0=some out) :
  ∃r h',bc Tryd.prog aU cf m 52 [af.fz s0,.fn dr aL] h=some (r,h')∧r=(.int .i64 out)∧h'=h:=by
 refine aq (fn:=Tryd.f52) ha Tryd.func52 (by kernel_rfl) (by kernel_rfl) ?_
 refine aG (Q:=fun s=>eA.fin h out s) (fun _ _ ⟨h1,h2,h3⟩=>⟨h1,_,h2,rfl,h3⟩) ?_
 have H:_=some out:=H
 unfold eA.f at H
 show de _ cf yQ m _ ⟨af.fz s0 :: .fn dr aL::BQ [],[],h⟩ _
 refine q1 <| qq <| qq <| q0 <| qb 0 ?_
 obtain⟨bj,e2,H⟩:=aI H
 refine ql (eA.bI h L dr aL s0 f0  gI gN  (0:Int) _ _ ⟨by kernel_rfl,o⟩ e2) ?_
 rintro e s (⟨rfl,x1,rfl,g0,g1,g2,g3,g4,rfl,o1⟩| ⟨rfl,r1,rfl,nI⟩)
 ·try dsimp only at H
  obtain rfl:=oi H
  exact q1 <| qt <| ⟨.inl rfl,⟨by kernel_rfl,by kernel_rfl⟩⟩
 ·try dsimp only at H
  obtain rfl:=oi H
  exact⟨.inl rfl,nI⟩
end
end Go.Proofs.YtmekcfdllhphlaaDoor
namespace Go.Proofs.YtmekcfdllhphlaaDoor
open Go Go.R
open Go.IntKind (i64 u64 u8 u32)
def B5:cg:=gK [0,1,4] [] [4,3] [] []
def fG.f (m:Nat)(s0:List ab)(f0:ab→Option (Bool)):Option (Bool):=(eA.f m s0 f0).bind fun x0=>some (decide (x0≥(0:Int)))
def fG.fin (h:AHeap)(r:Bool)(s:St):Prop:=aH Tryd.prog (s.open B5) Tryd.f34.results.toList=some (.bool r)∧s.h=h
def Qu (cf:CallF)(m:Nat):Prop:=∀(s0:List ab) (f0:ab→Option (Bool)) (r:Bool),fG.f m s0 f0=some r→∀h,0<h.next→∀(dr:FuncId) (aL:List AV),az (.fn dr aL) = .fn dr aL→(∀(a0:ab) r,f0 a0=some r→cf dr ([.agg [.int .i64 a0.kind,.int .i64 a0.int,.str a0.label,aa.fz a0.args]]++aL) h=some (.bool r,h))→∀xs,xs.map az=[af.fz s0,.fn dr aL]→cf 34 xs h=some (.bool r,h)
section
variable {cf:CallF}{m:Nat}
theorem rJ {aU:FuncId→cg}(ha:aU 34=B5)(Qv:Tm cf m)(s0:List ab)(f0:ab→Option (Bool))(h:AHeap)(L:Mem)(dr:FuncId)(aL:List AV)  (gI:az (.fn dr aL) = .fn dr aL)(gN:∀(a0:ab) r,f0 a0=some r→cf dr ([.agg [.int .i64 a0.kind,.int .i64 a0.int,.str a0.label,aa.fz a0.args]]++aL) h=some (.bool r,h))(o:Has h (L)){out:Bool}(H:fG.f m s0 f0=some out) :
  ∃r h',bc Tryd.prog aU cf m 34 [af.fz s0,.fn dr aL] h=some (r,h')∧r=(.bool out)∧h'=h:=by
 refine aq (fn:=Tryd.f34) ha Tryd.func34 (by kernel_rfl) (by kernel_rfl) ?_
 refine aG (Q:=fun s=>fG.fin h out s) (fun _ _ ⟨h1,h2,h3⟩=>⟨h1,_,h2,rfl,h3⟩) ?_
 have H:_=some out:=H
 unfold fG.f at H
 show de _ cf B5 m _ ⟨[af.fz s0,.fn dr aL,.any],[],h⟩ _
 refine q1 <| qq ?_
 obtain⟨x0,e0,H⟩:=aI H
 obtain rfl:=oi H
 exact qr [.a 2 (Qv _ _ _ e0 h (Has.pos o) dr aL gI gN _ (an (aP (iN (E:=af))) (an (gI) (bo))))] <| qt <| ⟨.inl rfl,⟨by kernel_rfl,by kernel_rfl⟩⟩
end
end Go.Proofs.YtmekcfdllhphlaaDoor
namespace Go.Proofs.YtmekcfdllhphlaaDoor
open Go Go.R
open Go.IntKind (i64 u64 u8 u32)
def yR:cg:=gK [0,1,4,5,7,8,9,16] [] [252,204,140,196,68,251,204,251] [] []
def eB.l0 (m:Nat)(s0:List ak)(f0:ak→Option (Bool)):Nat→Int→Option (Sum Int (Int))
 | 0,_=>none
 | k+1,x0=>if (decide (x0<(s0.length:Int)))=true then ((ix s0 x0).bind fun v0=>(f0 v0).bind fun r0=>if r0=true then (some (.inl x0)) else (eB.l0 m s0 f0 k (i64.wrap (x0+(1:Int))))) else (some (.inr x0))
def eB.f (m:Nat)(s0:List ak)(f0:ak→Option (Bool)):Option (Int):=(eB.l0 m s0 f0 m (0:Int)).bind fun bj=>match bj with | .inl r1=>some r1 | .inr x1=>some (-1:Int)
def eB.fin (h:AHeap)(r:Int)(s:St):Prop:=aH Tryd.prog (s.open yR) Tryd.f51.results.toList=some (.int .i64 r)∧s.h=h
def To (cf:CallF)(m:Nat):Prop:=∀(s0:List ak) (f0:ak→Option (Bool)) (r:Int),eB.f m s0 f0=some r→∀h,0<h.next→∀(dr:FuncId) (aL:List AV),az (.fn dr aL) = .fn dr aL→(∀(a0:ak) r,f0 a0=some r→cf dr ([.agg [af.fz a0.nodes,.int .i64 a0.root]]++aL) h=some (.bool r,h))→∀xs,xs.map az=[aR.fz s0,.fn dr aL]→cf 51 xs h=some (.int .i64 r,h)
section
variable {cf:CallF}{m:Nat}
theorem eB.bI (h:AHeap)(L:Mem)(dr:FuncId)(aL:List AV)(s0:List ak)(f0:ak→Option (Bool))  (gI:az (.fn dr aL) = .fn dr aL)(gN:∀(a0:ak) r,f0 a0=some r→cf dr ([.agg [af.fz a0.nodes,.int .i64 a0.root]]++aL) h=some (.bool r,h))  : bD Tryd.prog cf yR m (sub [1,0,1,0,0] (codeOf Tryd.f51)) (fun k (σ:Int)=>eB.l0 m s0 f0 k σ) (fun σ s=>match σ with | x0=>s=⟨[aR.fz s0,.fn dr aL,.any,.any,.int .i64 (s0.length:Int),.int .i64 x0,.any,.any],[],h⟩∧Has h (L)) (fun out e s=>(e = .exit 0∧∃x0,.inr x0=out∧∃kG uM uP qh rG,s=⟨[kG,uM,.any,.any,uP,qh,rG,.any],[],h⟩∧Has h (L))∨(e = .ret∧∃r,.inl r=out∧eB.fin h r s)):=by
 refine gG (fun _=>rfl) ?_
 rintro k x0 s out ⟨rfl,o0⟩ H
 have H:eB.l0 m s0 f0 (k+1) x0=some out:=H
 refine q1 <| qq <| qc H (fun c0 H=>?_) (fun c0 H=>?_)
 ·refine qk <| qq <| qb 1 <| qq <| q0 <| qq ?_
  obtain⟨v0,e0,H⟩:=aI H
  obtain⟨r0,e1,H⟩:=aI H
  refine qr [.v 3 (bw (k:=.i64) (E:=aR) (l:=s0) DE e0),.v 4 (dw  (E:=aR) (l:=s0) h L9 Ma e0),.a 5 (gN _ _ e1)] <| qc H (fun c1 H=>?_) (fun c1 H=>?_)
  ·exact q1 <| qt <| Yv (⟨rfl,_,oi H,⟨by kernel_rfl,by kernel_rfl⟩⟩)
  ·exact qk <| q0 <| ⟨i64.wrap (x0+(1:Int)),⟨by kernel_rfl,o0⟩,H⟩
 ·exact qx 0 <| YQ (⟨rfl,x0,oi H,aR.fz s0,.fn dr aL,.int .i64 (s0.length:Int),.int .i64 x0,.bool (decide (x0<(s0.length:Int))),by kernel_rfl,o0⟩)
theorem xh {aU:FuncId→cg}(ha:aU 51=yR)  (s0:List ak)(f0:ak→Option (Bool))(h:AHeap)(L:Mem)(dr:FuncId)(aL:List AV)  (gI:az (.fn dr aL) = .fn dr aL)(gN:∀(a0:ak) r,f0 a0=some r→cf dr ([.agg [af.fz a0.nodes,.int .i64 a0.root]]++aL) h=some (.bool r,h))(o:Has h (L)){out:Int}(H:eB.f m s0 f0=some out) :
  ∃r h',bc Tryd.prog aU cf m 51 [aR.fz s0,.fn dr aL] h=some (r,h')∧r=(.int .i64 out)∧h'=h:=by
 refine aq (fn:=Tryd.f51) ha Tryd.func51 (by kernel_rfl) (by kernel_rfl) ?_
 refine aG (Q:=fun s=>eB.fin h out s) (fun _ _ ⟨h1,h2,h3⟩=>⟨h1,_,h2,rfl,h3⟩) ?_
 have H:_=some out:=H
 unfold eB.f at H
 show de _ cf yR m _ ⟨aR.fz s0 :: .fn dr aL::BQ [],[],h⟩ _
 refine q1 <| qq <| qq <| q0 <| qb 0 ?_
 obtain⟨bj,e2,H⟩:=aI H
 refine ql (eB.bI h L dr aL s0 f0  gI gN  (0:Int) _ _ ⟨by kernel_rfl,o⟩ e2) ?_
 rintro e s (⟨rfl,x1,rfl,g0,g1,g2,g3,g4,rfl,o1⟩| ⟨rfl,r1,rfl,nI⟩)
 ·try dsimp only at H
  obtain rfl:=oi H
  exact q1 <| qt <| ⟨.inl rfl,⟨by kernel_rfl,by kernel_rfl⟩⟩
 ·try dsimp only at H
  obtain rfl:=oi H
  exact⟨.inl rfl,nI⟩
end
end Go.Proofs.YtmekcfdllhphlaaDoor
namespace Go.Proofs.YtmekcfdllhphlaaDoor
open Go Go.R
open Go.IntKind (i64 u64 u8 u32)
def B6:cg:=gK [0,1,4] [] [4,3] [] []
def gu.f (m:Nat)(s0:List ak)(f0:ak→Option (Bool)):Option (Bool):=(eB.f m s0 f0).bind fun x0=>some (decide (x0≥(0:Int)))
def gu.fin (h:AHeap)(r:Bool)(s:St):Prop:=aH Tryd.prog (s.open B6) Tryd.f32.results.toList=some (.bool r)∧s.h=h
def Tp (cf:CallF)(m:Nat):Prop:=∀(s0:List ak) (f0:ak→Option (Bool)) (r:Bool),gu.f m s0 f0=some r→∀h,0<h.next→∀(dr:FuncId) (aL:List AV),az (.fn dr aL) = .fn dr aL→(∀(a0:ak) r,f0 a0=some r→cf dr ([.agg [af.fz a0.nodes,.int .i64 a0.root]]++aL) h=some (.bool r,h))→∀xs,xs.map az=[aR.fz s0,.fn dr aL]→cf 32 xs h=some (.bool r,h)
section
variable {cf:CallF}{m:Nat}
theorem rK {aU:FuncId→cg}(ha:aU 32=B6)(Qw:To cf m)(s0:List ak)(f0:ak→Option (Bool))(h:AHeap)(L:Mem)(dr:FuncId)(aL:List AV)  (gI:az (.fn dr aL) = .fn dr aL)(gN:∀(a0:ak) r,f0 a0=some r→cf dr ([.agg [af.fz a0.nodes,.int .i64 a0.root]]++aL) h=some (.bool r,h))(o:Has h (L)){out:Bool}(H:gu.f m s0 f0=some out) :
  ∃r h',bc Tryd.prog aU cf m 32 [aR.fz s0,.fn dr aL] h=some (r,h')∧r=(.bool out)∧h'=h:=by
 refine aq (fn:=Tryd.f32) ha Tryd.func32 (by kernel_rfl) (by kernel_rfl) ?_
 refine aG (Q:=fun s=>gu.fin h out s) (fun _ _ ⟨h1,h2,h3⟩=>⟨h1,_,h2,rfl,h3⟩) ?_
 have H:_=some out:=H
 unfold gu.f at H
 show de _ cf B6 m _ ⟨[aR.fz s0,.fn dr aL,.any],[],h⟩ _
 refine q1 <| qq ?_
 obtain⟨x0,e0,H⟩:=aI H
 obtain rfl:=oi H
 exact qr [.a 2 (Qw _ _ _ e0 h (Has.pos o) dr aL gI gN _ (an (aP (iN (E:=aR))) (an (gI) (bo))))] <| qt <| ⟨.inl rfl,⟨by kernel_rfl,by kernel_rfl⟩⟩
end
end Go.Proofs.YtmekcfdllhphlaaDoor
namespace Go.Proofs.YtmekcfdllhphlaaDoor
open Go Go.R
open Go.IntKind (i64 u64 u8 u32)
def gJ (c:Int):Bool:=decide (97≤c∧c≤122)||decide (65≤c∧c≤90)||decide (48≤c∧c≤57)||c==95
theorem yS {m:Nat}(c:Int):fy.f m c=some (gJ c):=by
 unfold fy.f
 by_cases h1:97≤c<;>by_cases h2:c≤122<;>by_cases h3:65≤c<;>by_cases h4:c≤90<;>by_cases h5:48≤c<;>by_cases h6:c≤57<;>simp [gJ,h1,h2,h3,h4,h5,h6]<;>omega
theorem so {s:ByteArray}{i:Nat}(h:i<s.size):∃c:UInt8,s.data.toList[i]? = some c∧bt s (i:Int)=some (c.toNat:Int):=by
 have h':i<s.data.toList.length:=by simpa using h
 refine⟨s.data.toList[i],XD h',?_⟩
 unfold bt; rw [if_pos (by omega),Xy,XD h']; rfl
theorem B7 {m:Nat}{s:ByteArray}(hs:s.size≤16):∀(f i:Nat),s.size - i<f→i≤s.size→
  ∃o,cN.l0 m s f (i:Int)=some o∧((∃x,o = .inr x)∧((s.data.toList.drop i).all fun c=>gJ (c.toNat:Int))=true∨o = .inl false∧((s.data.toList.drop i).all fun c=>gJ (c.toNat:Int))=false)
 | 0,i,hf,_=>absurd hf (by omega)
 | f+1,i,hf,hi=>by
  unfold cN.l0
  by_cases h:i<s.size
  ·obtain⟨c,hc,hb⟩:=so h
   obtain⟨h4,h5⟩:=XA.1 hc
   have hd:s.data.toList.drop i=c::s.data.toList.drop (i+1):=by rw [←h5]; exact XG h4
   rw [if_pos (by simp only [decide_eq_true_eq]; omega),hb,Xr,yS,Xr,hd,Ym]
   cases hl:gJ (c.toNat:Int) with
   | false=>exact⟨_,rfl,.inr ⟨rfl,rfl⟩⟩
   | true=>
    obtain⟨o,h1,h2⟩:=B7 (m:=m) hs f (i+1) (by omega) (by omega)
    rw [if_neg (by simp),aD (by omega) (by omega),show (i:Int)+1=((i+1:Nat):Int) by omega,h1]
    exact⟨o,rfl,by simpa using h2⟩
  ·refine⟨_,by rw [if_neg (by simp only [decide_eq_true_eq]; omega)],.inl ⟨⟨_,rfl⟩,?_⟩⟩
   rw [X3 (by simp; omega)]; rfl
def yT (s:ByteArray)(lo hi:Int):Bool:=match s.data.toList with
 | []=>false
 | c::cs=>decide (cs.length≤15)&&decide (lo≤(c.toNat:Int))&&decide ((c.toNat:Int)≤hi)&&((c::cs).all fun c=>gJ (c.toNat:Int))
theorem DI {m:Nat}(hm:20≤m)(s:ByteArray)(lo hi:Int):cN.f m s lo hi=some (yT s lo hi):=by
 have hsz:s.size=s.data.toList.length:=by simp
 unfold cN.f yT
 cases hl:s.data.toList with
 | nil=>rw [if_pos (by rw [hl,Yk] at hsz; simp only [decide_eq_true_eq]; omega)]
 | cons c cs=>
  rw [hl,XR] at hsz
  rw [if_neg (by simp only [decide_eq_true_eq]; omega)]
  dsimp only
  by_cases h16:cs.length≤15
  ·obtain⟨c',h1,h2⟩:=so (s:=s) (i:=0) (by omega)
   rw [hl] at h1
   simp only [X7,Xu] at h1
   subst h1
   have h2:bt s 0=_:=h2
   rw [if_neg (by simp only [decide_eq_true_eq]; omega),h2,Xr]
   by_cases h3:(c.toNat:Int)<lo
   ·rw [if_pos (by simpa using h3)]
    simp only [Xu]
    rw [show decide (lo≤(c.toNat:Int))=false by simp; omega]; simp
   rw [if_neg (by simpa using h3),Xr]
   by_cases h4:(c.toNat:Int) > hi
   ·rw [if_pos (by simpa using h4)]
    simp only [Xu]
    rw [show decide ((c.toNat:Int)≤hi)=false by simp; omega]; simp
   rw [if_neg (by simpa using h4)]
   obtain⟨o,k1,k2⟩:=B7 (m:=m) (s:=s) (by omega) m 0 (by omega) (by omega)
   have k1:cN.l0 m s m 0=_:=k1
   rw [k1,Xr]
   rw [X6,hl] at k2
   rw [show decide (lo≤(c.toNat:Int))=true by simp; omega,show decide ((c.toNat:Int)≤hi)=true by simp; omega,show decide (cs.length≤15)=true by simpa using h16]
   simp only [YH]
   rcases k2 with⟨⟨x,rfl⟩,k⟩| ⟨rfl,k⟩
   ·rw [k]
   ·rw [k]
  ·rw [if_pos (by simp only [decide_eq_true_eq]; omega),show decide (cs.length≤15)=false by simp; omega]; rfl
def lC (s:ByteArray):Bool:=s.data.toList==[124]||s.data.toList==[35]||yT s 97 122
theorem vG {m:Nat}(hm:20≤m)(s:ByteArray):gH.f m s=some (lC s):=by
 unfold gH.f lC
 show (if (s.data.toList==[124])=true then _ else if (s.data.toList==[35])=true then _ else _)=_
 cases h1:s.data.toList==[124] with
 | true=>rfl
 | false=>
  cases h2:s.data.toList==[35] with
  | true=>rfl
  | false=>rw [DI hm]; rfl
theorem vH {s:ByteArray}(h:lC s=true):1≤s.size∧s.size≤16:=by
 have hsz:s.size=s.data.toList.length:=by simp
 unfold lC at h
 simp only [Yf,beq_iff_eq] at h
 rcases h with (h | h) | h
 ·rw [h] at hsz; simp at hsz; omega
 ·rw [h] at hsz; simp at hsz; omega
 ·unfold yT at h
  split at h
  ·cases h
  ·rename_i c cs hl
   rw [hl] at hsz
   simp only [Xw,decide_eq_true_eq] at h
   simp at hsz; omega
def yU (s:ByteArray):Bool:=s.data.toList==[112,114,111,99]||s.data.toList==[99,101,108,108]||s.data.toList==[112,111,114,116]
theorem DJ {m:Nat}(s:ByteArray):gr.f m s=some (yU s):=by
 unfold gr.f yU
 show (if (s.data.toList==[112,114,111,99])=true then _ else if (s.data.toList==[99,101,108,108])=true then _ else some (s.data.toList==[112,111,114,116]))=_
 cases h1:s.data.toList==[112,114,111,99] with
 | true=>rfl
 | false=>
  cases h2:s.data.toList==[99,101,108,108] with
  | true=>rfl
  | false=>rfl
theorem FH {m:Nat}{s:List Int}{f0:Int→Option Bool}{g:Int→Bool}(hs:s.length<2 ^ 40)(C:∀x∈s,f0 x=some (g x)):∀(f i:Nat),s.length - i<f→i≤s.length→
  ∃o,ev.l0 m s f0 f (i:Int)=some o∧((∃x,o = .inr x)∧(s.drop i).any g=false∨(∃x:Nat,o = .inl (x:Int))∧(s.drop i).any g=true)
 | 0,i,hf,_=>absurd hf (by omega)
 | f+1,i,hf,hi=>by
  have nT:(2:Nat) ^ 40=1099511627776:=by decide
  unfold ev.l0
  by_cases h:i<s.length
  ·have hx:ix s (i:Int)=some s[i]:=by unfold ix; rw [if_pos (by omega)]; simp [h]
   rw [if_pos (by simp only [decide_eq_true_eq]; omega),hx,Xr,C _ (Yo h),Xr,XG h,List.any_cons]
   cases g s[i] with
   | true=>exact⟨_,rfl,.inr ⟨⟨i,rfl⟩,rfl⟩⟩
   | false=>
    obtain⟨o,h1,h2⟩:=FH (m:=m) hs C f (i+1) (by omega) (by omega)
    rw [if_neg (by simp),aD (by omega) (by omega),show (i:Int)+1=((i+1:Nat):Int) by omega,h1]
    exact⟨o,rfl,by simpa using h2⟩
  ·refine⟨_,by rw [if_neg (by simp only [decide_eq_true_eq]; omega)],.inl ⟨⟨_,rfl⟩,?_⟩⟩
   rw [X3 (by omega)]; rfl
theorem DK {m:Nat}{s:List Int}{f0:Int→Option Bool}{g:Int→Bool}(hs:s.length<2 ^ 40)(hm:s.length<m)(C:∀x∈s,f0 x=some (g x)):gp.f m s f0=some (s.any g):=by
 obtain⟨o,h1,h2⟩:=FH (m:=m) hs C m 0 (by omega) (by omega)
 have h1:ev.l0 m s f0 m 0=_:=h1
 unfold gp.f ev.f
 rw [h1,Xr]
 rw [X6] at h2
 rcases h2 with⟨⟨x,rfl⟩,k⟩| ⟨⟨x,rfl⟩,k⟩
 ·rw [k]; rfl
 ·rw [k]
  simp only [Xr,Xu]
  simp
theorem FI {m:Nat}{s:List ab}{f0:ab→Option Bool}{g:ab→Bool}(hs:s.length<2 ^ 40)(C:∀x∈s,f0 x=some (g x)):∀(f i:Nat),s.length - i<f→i≤s.length→
  ∃o,eA.l0 m s f0 f (i:Int)=some o∧((∃x,o = .inr x)∧(s.drop i).any g=false∨(∃x:Nat,o = .inl (x:Int))∧(s.drop i).any g=true)
 | 0,i,hf,_=>absurd hf (by omega)
 | f+1,i,hf,hi=>by
  have nT:(2:Nat) ^ 40=1099511627776:=by decide
  unfold eA.l0
  by_cases h:i<s.length
  ·have hx:ix s (i:Int)=some s[i]:=by unfold ix; rw [if_pos (by omega)]; simp [h]
   rw [if_pos (by simp only [decide_eq_true_eq]; omega),hx,Xr,C _ (Yo h),Xr,XG h,List.any_cons]
   cases g s[i] with
   | true=>exact⟨_,rfl,.inr ⟨⟨i,rfl⟩,rfl⟩⟩
   | false=>
    obtain⟨o,h1,h2⟩:=FI (m:=m) hs C f (i+1) (by omega) (by omega)
    rw [if_neg (by simp),aD (by omega) (by omega),show (i:Int)+1=((i+1:Nat):Int) by omega,h1]
    exact⟨o,rfl,by simpa using h2⟩
  ·refine⟨_,by rw [if_neg (by simp only [decide_eq_true_eq]; omega)],.inl ⟨⟨_,rfl⟩,?_⟩⟩
   rw [X3 (by omega)]; rfl
theorem vI {m:Nat}{s:List ab}{f0:ab→Option Bool}{g:ab→Bool}(hs:s.length<2 ^ 40)(hm:s.length<m)(C:∀x∈s,f0 x=some (g x)):fG.f m s f0=some (s.any g):=by
 obtain⟨o,h1,h2⟩:=FI (m:=m) hs C m 0 (by omega) (by omega)
 have h1:eA.l0 m s f0 m 0=_:=h1
 unfold fG.f eA.f
 rw [h1,Xr]
 rw [X6] at h2
 rcases h2 with⟨⟨x,rfl⟩,k⟩| ⟨⟨x,rfl⟩,k⟩
 ·rw [k]; rfl
 ·rw [k]
  simp only [Xr,Xu]
  simp
theorem FJ {m:Nat}{s:List ak}{f0:ak→Option Bool}{g:ak→Bool}(hs:s.length<2 ^ 40)(C:∀x∈s,f0 x=some (g x)):∀(f i:Nat),s.length - i<f→i≤s.length→
  ∃o,eB.l0 m s f0 f (i:Int)=some o∧((∃x,o = .inr x)∧(s.drop i).any g=false∨(∃x:Nat,o = .inl (x:Int))∧(s.drop i).any g=true)
 | 0,i,hf,_=>absurd hf (by omega)
 | f+1,i,hf,hi=>by
  have nT:(2:Nat) ^ 40=1099511627776:=by decide
  unfold eB.l0
  by_cases h:i<s.length
  ·have hx:ix s (i:Int)=some s[i]:=by unfold ix; rw [if_pos (by omega)]; simp [h]
   rw [if_pos (by simp only [decide_eq_true_eq]; omega),hx,Xr,C _ (Yo h),Xr,XG h,List.any_cons]
   cases g s[i] with
   | true=>exact⟨_,rfl,.inr ⟨⟨i,rfl⟩,rfl⟩⟩
   | false=>
    obtain⟨o,h1,h2⟩:=FJ (m:=m) hs C f (i+1) (by omega) (by omega)
    rw [if_neg (by simp),aD (by omega) (by omega),show (i:Int)+1=((i+1:Nat):Int) by omega,h1]
    exact⟨o,rfl,by simpa using h2⟩
  ·refine⟨_,by rw [if_neg (by simp only [decide_eq_true_eq]; omega)],.inl ⟨⟨_,rfl⟩,?_⟩⟩
   rw [X3 (by omega)]; rfl
theorem DL {m:Nat}{s:List ak}{f0:ak→Option Bool}{g:ak→Bool}(hs:s.length<2 ^ 40)(hm:s.length<m)(C:∀x∈s,f0 x=some (g x)):gu.f m s f0=some (s.any g):=by
 obtain⟨o,h1,h2⟩:=FJ (m:=m) hs C m 0 (by omega) (by omega)
 have h1:eB.l0 m s f0 m 0=_:=h1
 unfold gu.f eB.f
 rw [h1,Xr]
 rw [X6] at h2
 rcases h2 with⟨⟨x,rfl⟩,k⟩| ⟨⟨x,rfl⟩,k⟩
 ·rw [k]; rfl
 ·rw [k]
  simp only [Xr,Xu]
  simp
def j8 (n:ab)(size:Int):Bool:=
 if n.kind=0 then decide (0≤n.int)&&n.label.data.toList==[]&&n.args.isEmpty
 else if n.kind=1 then decide (-1099511627776≤n.int)&&decide (n.int≤1099511627776)&&n.label.data.toList==[]&&n.args.isEmpty
 else if n.kind=2 then n.int==0&&lC n.label&&n.args.isEmpty
 else if n.kind=3 then n.int==0&&lC n.label&&decide (1≤n.args.length)&&decide (n.args.length≤8)&&n.args.all fun a=>decide (0≤a)&&decide (a<size)
 else if n.kind=4 then decide (0≤n.int)&&yU n.label&&n.args.isEmpty
 else false
theorem yV (l:List Int):((l.length:Int)==(0:Int))=l.isEmpty:=by cases l<;>simp; omega
theorem DM {m:Nat}(hm:20≤m)(n:ab)(size:Int):ie.f m n size=some (j8 n size):=by
 unfold ie.f j8
 by_cases k0:n.kind=0
 ·rw [if_pos (by simpa using k0),if_pos k0]
  by_cases h1:0≤n.int
  ·rw [if_pos (by simpa using h1),show decide (0≤n.int)=true by simpa using h1]
   show (if (n.label.data.toList==[])=true then _ else _)=_
   cases n.label.data.toList==[] with
   | true=>rw [if_pos rfl,yV]; rfl
   | false=>rfl
  ·rw [if_neg (by simpa using h1),show decide (0≤n.int)=false by simp; omega]; rfl
 rw [if_neg (by simpa using k0),if_neg k0]
 by_cases k1:n.kind=1
 ·rw [if_pos (by simpa using k1),if_pos k1]
  by_cases h1 : -1099511627776≤n.int
  ·rw [if_pos (by simpa using h1),show decide (-1099511627776≤n.int)=true by simpa using h1]
   by_cases h3:n.int≤1099511627776
   ·rw [if_pos (by simpa using h3),show decide (n.int≤1099511627776)=true by simpa using h3]
    show (if (n.label.data.toList==[])=true then _ else _)=_
    cases n.label.data.toList==[] with
    | true=>rw [if_pos rfl,yV]; rfl
    | false=>rfl
   ·rw [if_neg (by simpa using h3),show decide (n.int≤1099511627776)=false by simp; omega]; rfl
  ·rw [if_neg (by simpa using h1),show decide (-1099511627776≤n.int)=false by simp; omega]; rfl
 rw [if_neg (by simpa using k1),if_neg k1]
 by_cases k2:n.kind=2
 ·rw [if_pos (by simpa using k2),if_pos k2]
  cases h1:n.int==0 with
  | false=>rfl
  | true=>
   rw [if_pos rfl,vG hm,Xr]
   cases lC n.label with
   | false=>rfl
   | true=>rw [if_pos rfl,yV]; rfl
 rw [if_neg (by simpa using k2),if_neg k2]
 by_cases k3:n.kind=3
 ·rw [if_pos (by simpa using k3),if_pos k3]
  cases h1:n.int==0 with
  | false=>rfl
  | true=>
   rw [if_pos rfl,vG hm,Xr]
   cases lC n.label with
   | false=>rfl
   | true=>
    rw [if_pos rfl]
    by_cases g1:1≤n.args.length
    ·rw [if_pos (by simp only [decide_eq_true_eq]; omega),show decide (1≤n.args.length)=true by simpa using g1]
     by_cases g2:n.args.length≤8
     ·rw [if_pos (by simp only [decide_eq_true_eq]; omega),show decide (n.args.length≤8)=true by simpa using g2]
      rw [DK (g:=fun a=>!(decide (0≤a)&&decide (a<size))) (by omega) (by omega) (fun a _=>by
       unfold gq.f
       by_cases w:a<0
       ·rw [if_pos (by simpa using w),show decide (0≤a)=false by simp; omega]; rfl
       ·rw [if_neg (by simpa using w),show decide (0≤a)=true by simp; omega]
        by_cases w2:a<size
        ·rw [show decide (a≥size)=false from decide_eq_false (by omega),show decide (a<size)=true from decide_eq_true w2]; rfl
        ·rw [show decide (a≥size)=true from decide_eq_true (by omega),show decide (a<size)=false from decide_eq_false w2]; rfl),Xr]
      simp [List.not_any_eq_all_not]
     ·rw [if_neg (by simp only [decide_eq_true_eq]; omega),show decide (n.args.length≤8)=false from decide_eq_false g2]; rfl
    ·rw [if_neg (by simp only [decide_eq_true_eq]; omega),show decide (1≤n.args.length)=false from decide_eq_false g1]; rfl
 rw [if_neg (by simpa using k3),if_neg k3]
 by_cases k4:n.kind=4
 ·rw [if_pos (by simpa using k4),if_pos k4]
  by_cases h1:0≤n.int
  ·rw [if_pos (by simpa using h1),show decide (0≤n.int)=true by simpa using h1,DJ,Xr]
   cases yU n.label with
   | false=>rfl
   | true=>rw [if_pos rfl,yV]; rfl
  ·rw [if_neg (by simpa using h1),show decide (0≤n.int)=false by simp; omega]; rfl
 rw [if_neg (by simpa using k4),if_neg k4]
end Go.Proofs.YtmekcfdllhphlaaDoor
