/- Part of the proof: RBuf1, RBuf2, RBuf3, RBuf4, RBuf5, RG9, PR1, RFix, RGN, RGL. -/
import Derived.Test.YtmekcfdllhphlaaGreatDoorK5
import Derived.Shelf.LaysM
import Derived.Shelf.Bytes.GrowAt
import Derived.Lib.ByteType
import Derived.Lib.BufferAt
import Derived.Lib.BufferKept
import Derived.Lib.Walk
import Derived.Lib.BufferWrite
import Derived.Lib.Hide
import Derived.WalkKit
import Derived.BigCall
import Derived.BigGuard
import Derived.KernelRfl
set_option linter.unusedVariables false
set_option linter.unusedSimpArgs false
set_option maxRecDepth 100000
open Array renaming getElem?_eq_some_iff → abc, length_toList → abw, getElem?_toList → ab0, getElem?_eq_getElem → ab2
open BitVec renaming ofNat → abv, ofInt → abx, toNat_ofNat → acd
open Int renaming fdiv_eq_ediv_of_nonneg → ach
open List renaming length_append → aaI, getElem?_eq_some_iff → aaK, getElem?_eq_getElem → aaL, append_assoc → aaM, length_set → aaN, mem_singleton → aaO, mem_append → aaQ, length_cons → aaR, length_map → aaX, getElem?_append_right → aaY, cons_append → aa0, getElem?_eq_none → aa1, drop_zero → aa3, take_of_length_le → aa4, nil_append → aa5, map_cons → aa6, take_append_of_le_length → aa7, map_append → aa8, mem_map → aba, mem_cons → abb, getElem?_append_left → abf, length_nil → abg, getElem?_map → abi, getElem?_cons_zero → abk, eq_nil_of_length_eq_zero → abn, mem_append_left → abo, append_nil → abu, ext_getElem? → abF, mem_of_getElem? → abI, take_add_one → abL, length_take → abP, getElem?_cons_succ → abR, pairwise_iff_getElem → ab3, getElem_of_mem → ab7, getElem?_set_self → ab8, set_append_right → acf, getElem?_set_ne → aci
open Nat renaming le_refl → aaE, zero_add → aaZ, lt_of_lt_of_le → aa9, le_trans → abj, add_assoc → abl, lt_succ_self → abm, beq → abp, add_sub_cancel_left → abH, lt_succ_of_lt → abK, le_succ → abQ, mul_one → acj, zero_le → acq
open Ne renaming symm → abZ
open Option renaming bind_some → aaA, bind_eq_some_iff → aaB, map_eq_some_iff → aaC, map_some → aaG, getD_some → aby
open Option.some renaming injEq → aaD, inj → aa2
open Prod.mk renaming injEq → aaJ
namespace Go.R
open Go Go.Proofs Go.Shelf Go.RowKit
variable {P:Program}{ρ:Ren}
structure BRow (T:TypeId)(R:Nat→Option Value)(e:TypeId)(b q:Nat)(lr:Int)(g l cap:Nat)(cur:Array Value)(w:World):Prop where
 three:LibA.Three w b q T R (.slice (some ⟨g,0,none⟩) l cap) (.int .i64 0) (.int .i8 lr)
 row:w.heap[g]? = some (.cells cur e (0,0))
 le:l≤cap
 most:cap≤maxLen
 size:cur.size=cap
 ne:g≠b
structure But (N:Nat→Prop)(w w':World):Prop where
 os:w'.os=w.os
 tape:w'.tape=w.tape
 output:w'.output=w.output
 size:w.heap.size≤w'.heap.size
 block:∀k,k<w.heap.size→¬N k→w'.heap[k]? = w.heap[k]?
theorem But.refl (N:Nat→Prop)(w:World):But N w w:=⟨rfl,rfl,rfl,aaE _,fun _ _ _=>rfl⟩
theorem But.trans {N:Nat→Prop}{w w' w'':World}(a:But N w w')(b:But N w' w''):But N w w'':=
 ⟨b.os.trans a.os,b.tape.trans a.tape,b.output.trans a.output,abj a.size b.size,fun k hk hn=>(b.block k (aa9 hk a.size) hn).trans (a.block k hk hn)⟩
theorem But.mono {N N':Nat→Prop}{w w':World}(a:But N w w')(h:∀k,k<w.heap.size→N k→N' k):But N' w w':=
 ⟨a.os,a.tape,a.output,a.size,fun k hk hn=>a.block k hk fun h'=>hn (h k hk h')⟩
theorem But.setCell {N:Nat→Prop}{w w':World}(a:But N w w'){b:Nat}(hb:b<w.heap.size→N b)(o:Nat)(v:Value):But N w (w'.setCell ⟨b,o,none⟩ v):=
 ⟨a.os,a.tape,a.output,by simpa [World.setCell] using a.size,fun k hk hn=>(Below.heap_setCell w' ⟨b,o,none⟩ v k (by rintro rfl; exact hn (hb hk))).trans (a.block k hk hn)⟩
theorem But.alloc {N:Nat→Prop}{w w':World}(a:But N w w')(o:Obj):But N w (w'.alloc o):=
 ⟨a.os,a.tape,a.output,abj a.size (by simp),fun k hk hn=>(Below.heap_alloc w' o k (aa9 hk a.size)).trans (a.block k hk hn)⟩
theorem But.below {N:Nat→Prop}{w w' w'':World}(a:But N w w')(h:Below w'.heap.size w' w''):But N w w'':=
 a.trans ⟨h.os,h.tape,h.output,h.size,fun k hk _=>h.block k hk⟩
theorem heap_setCell_other (w:World){b k:Nat}(o:Nat)(v:Value)(h:k≠b):(w.setCell ⟨b,o,none⟩ v).heap[k]? = w.heap[k]?:=
 Below.heap_setCell w ⟨b,o,none⟩ v k h
set_option maxHeartbeats 12800000 in
theorem grow_row (L:LaysM.n252 P ρ)(T:TypeId)(R:Nat→Option Value)(b q g l cap n:Nat)(lr:Int)(cur:Array Value)(w:World)(h:BRow T R (ρ.t 5) b q lr g l cap cur w)
  (h1:∀v∈cur.toList.take l,v.oneCell'=true) (hl0:l≠0) (hn:1≤n) (hroom:cap - l<n) (hlim:l+n≤140737488355328) :
  Calls P (ρ.f 252) #[.pointer (some ⟨b,q,none⟩),.int .i64 n] w fun e w'=>e = .returned (.int .i64 l)∧
   ∃g' cap' cur',BRow T R (ρ.t 5) b q lr g' (l+n) cap' cur' w'∧cur'.toList.take l=cur.toList.take l∧w.heap.size≤g'∧But (· = b) w w':=by
 have mixed:=L.mixed
 have t5:=L.t5; have a5:=L.a5; have z5:=L.z5; have v5:=L.v5
 have t130:=L.t130; have a130:=L.a130; have z130:=L.z130; have v130:=L.v130
 have t3:=L.t3; have a3:=L.a3; have z3:=L.z3; have v3:=L.v3
 have t4:=L.t4; have a4:=L.a4; have z4:=L.z4; have v4:=L.v4
 have t0:=L.t0; have a0:=L.a0; have z0:=L.z0; have v0:=L.v0
 have t93:=L.t93; have u93:=run_underlying L.t93; have a93:=L.a93; have z93:=L.z93; have v93:=L.v93
 have t131:=L.t131; have a131:=L.a131; have z131:=L.z131; have v131:=L.v131
 have t37:=L.t37; have a37:=L.a37; have z37:=L.z37; have v37:=L.v37
 have t75:=L.t75; have a75:=L.a75; have z75:=L.z75; have v75:=L.v75
 have e181:∀args w,(callFunc (ρ.f 181) args).run P w = .ok (.enter (ρ.f 181) args) w:=enters_of L.f181 (by kernel_rfl) rfl
 have e251:∀args w,(callFunc (ρ.f 251) args).run P w = .ok (.enter (ρ.f 251) args) w:=enters_of L.f251 (by kernel_rfl) rfl
 have e290:∀args w,(callFunc (ρ.f 290) args).run P w = .ok (.enter (ρ.f 290) args) w:=enters_of L.f290 (by kernel_rfl) rfl
 obtain⟨hbk,hg,hlc,hcm,hcs,hgb⟩:=h
 have hlen:(cur.toList.take l).length=l:=by rw [abP,abw]; omega
 have hIs:LibA.IsBuffer T R (ρ.t 5) 0 b q (cur.toList.take l) w:=by
  have:=LibA.isBuffer_mk (e:=ρ.t 5) (B:=0) (acq _) hbk (acq _) hg hlc hcm hcs hgb
  exact this
 have hnil:∀W,(binOp .eql (ρ.t 37) (.slice (some ⟨g,0,none⟩) l cap) (.slice none 0 0)).run P W = .ok (.bool false) W:=fun W=>Lib.run_eql_slice_some_nil W _ _ _ L.t37
 go_enter L.f252,Body.n252_ntmps ρ
 go_wp2_with (go_at_fn (ρ.f 181); refine (Any.Buffer_Len_at {L with} T R 0 b q _ _ hIs).mono ?_)
 rintro e W0 ⟨rfl,k,hW0⟩
 rw [hlen]
 have hbk0:LibA.Three W0 b q T R (.slice (some ⟨g,0,none⟩) l cap) (.int .i64 0) (.int .i8 lr):=by rw [hW0]; exact hbk
 have hg0:W0.heap[g]? = some (.cells cur (ρ.t 5) (0,0)):=by rw [hW0]; exact hg
 have c0:W0.cell? ⟨b,q,none⟩=some (.slice (some ⟨g,0,none⟩) l cap):=hbk0.c0
 have c1:W0.cell? ⟨b,q+1,none⟩=some (.int .i64 0):=hbk0.c1
 have f0:W0.frozen? ⟨b,q,none⟩=false:=hbk0.f q
 have f1:W0.frozen? ⟨b,q+1,none⟩=false:=hbk0.f (q+1)
 have HW0:=Lib.hid hW0
 clear hW0 hIs hlen
 have hcm':=hcm
 unfold maxLen at hcm'
 go_wp2_with (go_at_fn (ρ.f 251); refine (Any.Buffer_tryGrow_none_at {L with} b q _ l cap n _ c0 hlc hcm hroom).mono ?_; rintro e w' ⟨rfl,rfl⟩)
 have hc2:cap≤140737488355328:=by omega
 have hbW:=hbk0.lt
 have hwn:IntKind.i64.wrap (n:Int)=n:=by rw [IntKind.wrap_i64]; omega
 go_region_with_o (
   go_at_fn (ρ.f 290)
   refine (Any.bytes_growSlice_row {L with} g l cap n cur _ ?_ hcs hlc hn hlim hc2 h1).mono ?_
   exact hg0
   rintro e w2 ⟨cap2,cells,rfl,hN,hcsz,htk,hcap2,hcm2,hbel⟩
   have hbk2:LibA.Three w2 b q T R (.slice (some ⟨g,0,none⟩) l cap) (.int .i64 0) (.int .i8 lr):=hbk0.of_heap (hbel.block b hbW)
   have d0:w2.cell? ⟨b,q,none⟩=some (.slice (some ⟨g,0,none⟩) l cap):=hbk2.c0
   have d1:w2.cell? ⟨b,q+1,none⟩=some (.int .i64 0):=hbk2.c1
   have e0:w2.frozen? ⟨b,q,none⟩=false:=hbk2.f q
   have e1:w2.frozen? ⟨b,q+1,none⟩=false:=hbk2.f (q+1))
 all_goals (
  go_wp2
  go_ret
  have hsz0:w'.drew.heap.size=w.heap.size:=by rw [HW0.out]; rfl
  have hb0:But (· = b) w w'.drew:=by rw [HW0.out]; exact⟨rfl,rfl,rfl,aaE _,fun _ _ _=>rfl⟩
  have hne:w'.drew.heap.size≠b:=by have:b<w'.drew.heap.size:=hbW; omega
  refine⟨rfl,w'.drew.heap.size,cap2,cells,⟨((hbk2.set0 _).set1 _).set0 _,?_,hcap2,hcm2,hcsz,hne⟩,htk,by omega,(((hb0.below hbel).setCell (fun _=>rfl) q _).setCell (fun _=>rfl) (q+1) _).setCell (fun _=>rfl) q _⟩
  rw [heap_setCell_other _ _ _ hne,heap_setCell_other _ _ _ hne,heap_setCell_other _ _ _ hne]
  exact hN)
set_option maxHeartbeats 12800000 in
theorem grow_small (L:LaysM.n252 P ρ)(T:TypeId)(R:Nat→Option Value)(b q n:Nat)(lr:Int)(w:World)
  (hbk:LibA.Three w b q T R (.slice none 0 0) (.int .i64 0) (.int .i8 lr)) (hn:1≤n) (h64:n≤64) :
  Calls P (ρ.f 252) #[.pointer (some ⟨b,q,none⟩),.int .i64 n] w fun e w'=>e = .returned (.int .i64 0)∧
   ∃g' cap' cur',BRow T R (ρ.t 5) b q lr g' n cap' cur' w'∧w.heap.size≤g'∧But (· = b) w w':=by
 have mixed:=L.mixed
 have t5:=L.t5; have a5:=L.a5; have z5:=L.z5; have v5:=L.v5
 have t130:=L.t130; have a130:=L.a130; have z130:=L.z130; have v130:=L.v130
 have t3:=L.t3; have a3:=L.a3; have z3:=L.z3; have v3:=L.v3
 have t4:=L.t4; have a4:=L.a4; have z4:=L.z4; have v4:=L.v4
 have t0:=L.t0; have a0:=L.a0; have z0:=L.z0; have v0:=L.v0
 have t93:=L.t93; have u93:=run_underlying L.t93; have a93:=L.a93; have z93:=L.z93; have v93:=L.v93
 have t131:=L.t131; have a131:=L.a131; have z131:=L.z131; have v131:=L.v131
 have t37:=L.t37; have a37:=L.a37; have z37:=L.z37; have v37:=L.v37
 have t75:=L.t75; have a75:=L.a75; have z75:=L.z75; have v75:=L.v75
 have e181:∀args w,(callFunc (ρ.f 181) args).run P w = .ok (.enter (ρ.f 181) args) w:=enters_of L.f181 (by kernel_rfl) rfl
 have e251:∀args w,(callFunc (ρ.f 251) args).run P w = .ok (.enter (ρ.f 251) args) w:=enters_of L.f251 (by kernel_rfl) rfl
 obtain⟨i0,hi,hz0,hz1,hz2⟩:=info_parts L.i5
 obtain⟨M,hM⟩:∃M,M=madeCells (Value.int .u8 0).cells ((64:Int).toNat*i0.size):=⟨_,rfl⟩
 have hMs:M.size=64:=by rw [hM,size_madeCells,hz1]; rfl
 have hmk:∀W:World,(Instr.makeSlice (ρ.t 37) (.int .i64 (n:Int)) (.int .i64 64)).run P W = .ok (.slice (some ⟨W.heap.size,0,none⟩) n 64) (W.alloc (.cells M (ρ.t 5))):=fun W=>by
  have h:=run_makeSlice (P:=P) W (ρ.t 37) (ρ.t 5) i0 (.int .u8 0) L.t37 hi hz0 .i64 .i64 (n:Int) 64 (by omega) (by omega) (by rw [hz1]; decide) (by rw [hz2]; decide) (by decide)
  rw [←hM] at h
  simpa using h
 clear hM
 have hIs:LibA.IsBuffer T R (ρ.t 5) 0 b q [] w:=LibA.zero_isBuffer (acq _) hbk
 have hnil:∀W,(binOp .eql (ρ.t 37) (.slice none 0 0) (.slice none 0 0)).run P W = .ok (.bool true) W:=fun W=>Lib.run_eql_slice_nil_nil W _ _ L.t37
 go_enter L.f252,Body.n252_ntmps ρ
 go_wp2_with (go_at_fn (ρ.f 181); refine (Any.Buffer_Len_at {L with} T R 0 b q [] _ hIs).mono ?_)
 rintro e W0 ⟨rfl,k,hW0⟩
 have hbk0:LibA.Three W0 b q T R (.slice none 0 0) (.int .i64 0) (.int .i8 lr):=by rw [hW0]; exact hbk
 have c0:W0.cell? ⟨b,q,none⟩=some (.slice none 0 0):=hbk0.c0
 have c1:W0.cell? ⟨b,q+1,none⟩=some (.int .i64 0):=hbk0.c1
 have f0:W0.frozen? ⟨b,q,none⟩=false:=hbk0.f q
 have f1:W0.frozen? ⟨b,q+1,none⟩=false:=hbk0.f (q+1)
 have hbW0:=hbk0.lt
 have c0a:∀o,(W0.alloc o).cell? ⟨b,q,none⟩=some (.slice none 0 0):=fun o=>(World.cell?_of_block (a:=⟨b,q,none⟩) (Below.heap_alloc W0 o b hbW0)).trans c0
 have f0a:∀o,(W0.alloc o).frozen? ⟨b,q,none⟩=false:=fun o=>(World.frozen?_of_block (a:=⟨b,q,none⟩) (Below.heap_alloc W0 o b hbW0)).trans f0
 have HW0:=Lib.hid hW0
 clear hW0 hIs
 go_wp2_with (go_at_fn (ρ.f 251); refine (Any.Buffer_tryGrow_none_at {L with} b q _ 0 0 n _ c0 (aaE _) (acq _) (by omega)).mono ?_; rintro e w' ⟨rfl,rfl⟩)
 go_ret
 have hsz0:w'.heap.size=w.heap.size:=by rw [HW0.out]; rfl
 have hb0:But (· = b) w w':=by rw [HW0.out]; exact⟨rfl,rfl,rfl,aaE _,fun _ _ _=>rfl⟩
 have hne:w'.heap.size≠b:=by omega
 have hbW1:b<(w'.setCell ⟨b,q,none⟩ (.slice (some ⟨w'.heap.size,0,none⟩) n 64)).heap.size:=by simpa [World.setCell] using hbW0
 have hNf:((w'.setCell ⟨b,q,none⟩ (.slice (some ⟨w'.heap.size,0,none⟩) n 64)).alloc (.cells M (ρ.t 5))).heap[w'.heap.size]? = some (.cells M (ρ.t 5) (0,0)):=by
  have h:=heap_alloc_new (w'.setCell ⟨b,q,none⟩ (.slice (some ⟨w'.heap.size,0,none⟩) n 64)) (.cells M (ρ.t 5))
  rwa [show (w'.setCell ⟨b,q,none⟩ (.slice (some ⟨w'.heap.size,0,none⟩) n 64)).heap.size=w'.heap.size by simp [World.setCell]] at h
 exact⟨rfl,w'.heap.size,64,M,⟨(hbk0.set0 _).of_heap (Below.heap_alloc _ _ b hbW1),hNf,h64,by unfold maxLen; omega,hMs,hne⟩,by omega,(hb0.setCell (fun _=>rfl) q _).alloc _⟩
section
variable {T e:TypeId}{R:Nat→Option Value}{lr:Int}{b q g l l' cap:Nat}{cur:Array Value}{w:World}
theorem take_set (hl:l<cur.size)(v:Value):(cur.setIfInBounds l v).toList.take (l+1)=cur.toList.take l++[v]:=by
 have hll:l<cur.toList.length:=by rw [abw]; exact hl
 rw [Array.toList_setIfInBounds,abL,List.take_set_of_le (aaE _),ab8 hll]
 rfl
theorem BRow.poke (h:BRow T R e b q lr g l' cap cur w)(i:Nat)(v:Value):BRow T R e b q lr g l' cap (cur.setIfInBounds i v) (w.setCell ⟨g,i,none⟩ v):=
 ⟨h.three.of_heap (Below.heap_setCell _ _ _ _ (abZ h.ne)),Lib.heap_setCell_same (i:=i) h.row v,h.le,h.most,by simpa using h.size,h.ne⟩
theorem BRow.setRow (h:BRow T R e b q lr g l' cap cur w){C:Array Value}(hC:C.size=cap):BRow T R e b q lr g l' cap C (w.setRow g C):=
 ⟨h.three.of_heap (setRow_other _ _ _ _ (abZ h.ne)),setRow_heap w g cur _ e (0,0) h.row,h.le,h.most,hC,h.ne⟩
theorem But.setRow {N:Nat→Prop}{w w':World}(a:But N w w'){g:Nat}(hg:g<w.heap.size→N g)(C:Array Value):But N w (w'.setRow g C):=
 ⟨a.os,a.tape,a.output,by simpa using a.size,fun k hk hn=>(setRow_other _ _ _ _ (by rintro rfl; exact hn (hg hk))).trans (a.block k hk hn)⟩
end
set_option maxHeartbeats 6400000 in
theorem writeByte_nil (L:LaysM.n179 P ρ)(T:TypeId)(R:Nat→Option Value)(b q:Nat)(c lr:Int)(w:World)(hbk:LibA.Three w b q T R (.slice none 0 0) (.int .i64 0) (.int .i8 lr)) :
  Calls P (ρ.f 179) #[.pointer (some ⟨b,q,none⟩),.int .u8 c] w fun e w'=>e = .returned .nilIface∧∃g' cap' cur',BRow T R (ρ.t 5) b q 0 g' 1 cap' cur' w'∧cur'.toList.take 1=[.int .u8 c]∧w.heap.size≤g'∧But (· = b) w w':=by
 have mixed:=L.mixed
 have t5:=L.t5; have a5:=L.a5; have z5:=L.z5; have v5:=L.v5
 have t130:=L.t130; have a130:=L.a130; have z130:=L.z130; have v130:=L.v130
 have t75:=L.t75; have a75:=L.a75; have z75:=L.z75; have v75:=L.v75
 have t0:=L.t0; have a0:=L.a0; have z0:=L.z0; have v0:=L.v0
 have t93:=L.t93; have u93:=run_underlying L.t93; have a93:=L.a93; have z93:=L.z93; have v93:=L.v93
 have t91:=L.t91; have a91:=L.a91; have z91:=L.z91; have v91:=L.v91
 have t3:=L.t3; have a3:=L.a3; have z3:=L.z3; have v3:=L.v3
 have t131:=L.t131; have a131:=L.a131; have z131:=L.z131; have v131:=L.v131
 have t4:=L.t4; have a4:=L.a4; have z4:=L.z4; have v4:=L.v4
 have t37:=L.t37; have a37:=L.a37; have z37:=L.z37; have v37:=L.v37
 have e251:∀args w,(callFunc (ρ.f 251) args).run P w = .ok (.enter (ρ.f 251) args) w:=enters_of L.f251 (by kernel_rfl) rfl
 have e252:∀args w,(callFunc (ρ.f 252) args).run P w = .ok (.enter (ρ.f 252) args) w:=enters_of L.f252 (by kernel_rfl) rfl
 have c2:w.cell? ⟨b,q+2,none⟩=some (.int .i8 lr):=hbk.c2
 have f2:w.frozen? ⟨b,q+2,none⟩=false:=hbk.f (q+2)
 have hbut:But (· = b) w (w.setCell ⟨b,q+2,none⟩ (.int .i8 0)):=(But.refl (· = b) w).setCell (fun _=>rfl) (q+2) _
 have hbk1:=hbk.set2 (.int .i8 0)
 have hsz:(w.setCell ⟨b,q+2,none⟩ (.int .i8 0)).heap.size=w.heap.size:=by simp [World.setCell]
 generalize hW:w.setCell ⟨b,q+2,none⟩ (.int .i8 0)=W at hbut hbk1 hsz
 have k0:W.cell? ⟨b,q,none⟩=some (.slice none 0 0):=hbk1.c0
 have hT:Calls P (ρ.f 251) #[.pointer (some ⟨b,q,none⟩),.int .i64 1] W _:=Any.Buffer_tryGrow_none_at {L with} b q none 0 0 1 W k0 (aaE _) (acq _) (by omega)
 have hG:Calls P (ρ.f 252) #[.pointer (some ⟨b,q,none⟩),.int .i64 1] W _:=grow_small {L with} T R b q 1 0 W hbk1 (aaE _) (by omega)
 clear hbk hbk1
 go_enter L.f179,Body.n179_ntmps ρ
 go_wp2_with (go_at_fn (ρ.f 251); (try rw [hW]); refine hT.mono ?_; rintro e w' ⟨rfl,rfl⟩)
 go_wp2_with (go_at_fn (ρ.f 252); refine hG.mono ?_)
 rintro e W1 ⟨rfl,g,cap,cur,hI,hge,hbut1⟩
 clear hT hG c2 f2
 have d0:W1.cell? ⟨b,q,none⟩=some (.slice (some ⟨g,0,none⟩) 1 cap):=hI.three.c0
 have hlt:0<cur.size:=by rw [hI.size]; exact hI.le
 have dg:W1.cell? ⟨g,0,none⟩=some cur[0]:=by rw [Lib.cell_of_heap hI.row,ab2 hlt]
 have fg:W1.frozen? ⟨g,0,none⟩=false:=Lib.frozen_of_heap hI.row _
 have hcm':=hI.most
 unfold maxLen at hcm'
 have hcl:=hI.le
 go_wp2
 go_ret
 refine⟨rfl,g,cap,_,hI.poke 0 (.int .u8 c),?_,by omega,(hbut.trans (hbut1.mono fun _ _ h=>h)).setCell (fun h=>by omega) 0 _⟩
 have:=take_set hlt (.int .u8 c)
 simpa using this
end Go.R
namespace Go.R
open Go Go.Proofs Go.Shelf Go.RowKit
variable {P:Program}{ρ:Ren}
set_option maxHeartbeats 12800000 in
theorem writeByte_row (L:LaysM.n179 P ρ)(T:TypeId)(R:Nat→Option Value)(b q g l cap:Nat)(c lr:Int)(cur:Array Value)(w:World)(h:BRow T R (ρ.t 5) b q lr g l cap cur w)
  (h1:∀v∈cur.toList.take l,v.oneCell'=true) (hl0:l≠0) (hlim:l+1≤140737488355328) :
  Calls P (ρ.f 179) #[.pointer (some ⟨b,q,none⟩),.int .u8 c] w fun e w'=>e = .returned .nilIface∧
   ∃g' cap' cur',BRow T R (ρ.t 5) b q 0 g' (l+1) cap' cur' w'∧cur'.toList.take (l+1)=cur.toList.take l++[.int .u8 c]∧(w.heap.size≤g'∨(g'=g∧cur'.size=cur.size))∧But (fun k=>k=b∨k=g') w w':=by
 have mixed:=L.mixed
 have t5:=L.t5; have a5:=L.a5; have z5:=L.z5; have v5:=L.v5
 have t130:=L.t130; have a130:=L.a130; have z130:=L.z130; have v130:=L.v130
 have t75:=L.t75; have a75:=L.a75; have z75:=L.z75; have v75:=L.v75
 have t0:=L.t0; have a0:=L.a0; have z0:=L.z0; have v0:=L.v0
 have t93:=L.t93; have u93:=run_underlying L.t93; have a93:=L.a93; have z93:=L.z93; have v93:=L.v93
 have t91:=L.t91; have a91:=L.a91; have z91:=L.z91; have v91:=L.v91
 have t3:=L.t3; have a3:=L.a3; have z3:=L.z3; have v3:=L.v3
 have t131:=L.t131; have a131:=L.a131; have z131:=L.z131; have v131:=L.v131
 have t4:=L.t4; have a4:=L.a4; have z4:=L.z4; have v4:=L.v4
 have t37:=L.t37; have a37:=L.a37; have z37:=L.z37; have v37:=L.v37
 have e251:∀args w,(callFunc (ρ.f 251) args).run P w = .ok (.enter (ρ.f 251) args) w:=enters_of L.f251 (by kernel_rfl) rfl
 have e252:∀args w,(callFunc (ρ.f 252) args).run P w = .ok (.enter (ρ.f 252) args) w:=enters_of L.f252 (by kernel_rfl) rfl
 have c2:w.cell? ⟨b,q+2,none⟩=some (.int .i8 lr):=h.three.c2
 have f2:w.frozen? ⟨b,q+2,none⟩=false:=h.three.f (q+2)
 have hbut:But (fun k=>k=b) w (w.setCell ⟨b,q+2,none⟩ (.int .i8 0)):=(But.refl (· = b) w).setCell (fun _=>rfl) (q+2) _
 have hI0:BRow T R (ρ.t 5) b q 0 g l cap cur (w.setCell ⟨b,q+2,none⟩ (.int .i8 0)):=⟨h.three.set2 _,(heap_setCell_other _ _ _ h.ne).trans h.row,h.le,h.most,h.size,h.ne⟩
 have hsz:(w.setCell ⟨b,q+2,none⟩ (.int .i8 0)).heap.size=w.heap.size:=by simp [World.setCell]
 generalize hW:w.setCell ⟨b,q+2,none⟩ (.int .i8 0)=W at hbut hI0 hsz
 have k0:W.cell? ⟨b,q,none⟩=some (.slice (some ⟨g,0,none⟩) l cap):=hI0.three.c0
 have kf:W.frozen? ⟨b,q,none⟩=false:=hI0.three.f q
 have hle:=h.le
 have hcm:=h.most
 by_cases hr:1≤cap - l
 ·have hT:Calls P (ρ.f 251) #[.pointer (some ⟨b,q,none⟩),.int .i64 1] W _:=Any.Buffer_tryGrow_room_at {L with} b q _ l cap 1 W k0 kf hle hcm hr
  clear c2 f2
  have c2:w.cell? ⟨b,q+2,none⟩=some (.int .i8 lr):=h.three.c2
  have f2:w.frozen? ⟨b,q+2,none⟩=false:=h.three.f (q+2)
  have hb1:BRow T R (ρ.t 5) b q 0 g (l+1) cap cur (W.setCell ⟨b,q,none⟩ (.slice (some ⟨g,0,none⟩) (l+1) cap)):=⟨hI0.three.set0 _,(heap_setCell_other _ _ _ h.ne).trans hI0.row,by omega,h.most,h.size,h.ne⟩
  have hbut1:=hbut.setCell (b:=b) (fun _=>rfl) q (.slice (some ⟨g,0,none⟩) (l+1) cap)
  clear hI0 k0 kf
  generalize hW1:W.setCell ⟨b,q,none⟩ (.slice (some ⟨g,0,none⟩) (l+1) cap)=W1 at hb1 hbut1
  have hT1:Calls P (ρ.f 251) #[.pointer (some ⟨b,q,none⟩),.int .i64 1] W fun e w'=>e = .returned (.tuple #[.int .i64 l,.bool true])∧w'=W1:=hT.mono fun e w' hh=>⟨hh.1,hh.2.trans hW1⟩
  clear hT
  have d0:W1.cell? ⟨b,q,none⟩=some (.slice (some ⟨g,0,none⟩) (l+1) cap):=hb1.three.c0
  have hlt:l<cur.size:=by rw [hb1.size]; exact hb1.le
  have dg:W1.cell? ⟨g,l,none⟩=some cur[l]:=by rw [Lib.cell_of_heap hb1.row,ab2 hlt]
  have fg:W1.frozen? ⟨g,l,none⟩=false:=Lib.frozen_of_heap hb1.row _
  have hcm':=hcm
  unfold maxLen at hcm'
  have hcl:=hb1.le
  clear hW1
  go_enter L.f179,Body.n179_ntmps ρ
  go_wp2_with (go_at_fn (ρ.f 251); (try rw [hW]); refine hT1.mono ?_; rintro e w' ⟨rfl,rfl⟩; clear hT1 c2 f2)
  go_ret
  exact⟨rfl,g,cap,_,hb1.poke l (.int .u8 c),take_set hlt _,.inr ⟨rfl,by simp⟩,(hbut1.mono fun _ _ h=>.inl h).setCell (fun _=>.inr rfl) l _⟩
 ·have hT:Calls P (ρ.f 251) #[.pointer (some ⟨b,q,none⟩),.int .i64 1] W _:=Any.Buffer_tryGrow_none_at {L with} b q _ l cap 1 W k0 hle hcm (by omega)
  have hG:Calls P (ρ.f 252) #[.pointer (some ⟨b,q,none⟩),.int .i64 1] W _:=grow_row {L with} T R b q g l cap 1 0 cur W hI0 h1 hl0 (aaE _) (by omega) hlim
  clear hI0 k0 kf hle hcm
  go_enter L.f179,Body.n179_ntmps ρ
  go_wp2_with (go_at_fn (ρ.f 251); (try rw [hW]); refine hT.mono ?_; rintro e w' ⟨rfl,rfl⟩)
  go_wp2_with (go_at_fn (ρ.f 252); refine hG.mono ?_)
  rintro e W1 ⟨rfl,g',cap',cur',hI,htk,hge,hbut1⟩
  clear hT hG c2 f2
  have d0:W1.cell? ⟨b,q,none⟩=some (.slice (some ⟨g',0,none⟩) (l+1) cap'):=hI.three.c0
  have hlt:l<cur'.size:=by rw [hI.size]; exact hI.le
  have dg:W1.cell? ⟨g',l,none⟩=some cur'[l]:=by rw [Lib.cell_of_heap hI.row,ab2 hlt]
  have fg:W1.frozen? ⟨g',l,none⟩=false:=Lib.frozen_of_heap hI.row _
  have hcm':=hI.most
  unfold maxLen at hcm'
  have hcl:=hI.le
  go_wp2
  go_ret
  exact⟨rfl,g',cap',_,hI.poke l (.int .u8 c),by rw [take_set hlt,htk],.inl (by omega),((hbut.trans hbut1).mono fun _ _ h=>.inl h).setCell (fun _=>.inr rfl) l _⟩
end Go.R
namespace Go.R
open Go Go.Proofs Go.Shelf Go.RowKit
variable {P:Program}{ρ:Ren}
theorem take_mid {cur:Array Value}{l m:Nat}{news:List Value}(hn:news.length=m)(hl:l+m≤cur.size) :
  (cur.toList.take l++news++cur.toList.drop (l+m)).toArray.size=cur.size∧(cur.toList.take l++news++cur.toList.drop (l+m)).toArray.toList.take (l+m)=cur.toList.take l++news:=by
 have h1:(cur.toList.take l).length=l:=by rw [abP,abw]; omega
 refine⟨by simp only [List.size_toArray,aaI,h1,hn,List.length_drop,abw]; omega,?_⟩
 rw [List.toList_toArray,aa7 (by rw [aaI,h1,hn]; exact aaE _),aa4 (by rw [aaI,h1,hn]; exact aaE _)]
set_option maxHeartbeats 12800000 in
theorem writeString_row (L:LaysM.n178 P ρ)(T:TypeId)(R:Nat→Option Value)(b q g l cap:Nat)(lr:Int)(s:ByteArray)(cur:Array Value)(w:World)(h:BRow T R (ρ.t 5) b q lr g l cap cur w)
  (h1:∀v∈cur.toList.take l,v.oneCell'=true) (hl0:l≠0) (hs0:s.size≠0) (hlim:l+s.size≤140737488355328) :
  Calls P (ρ.f 178) #[.pointer (some ⟨b,q,none⟩),.string s] w fun e w'=>e = .returned (.tuple #[.int .i64 s.size,.nilIface])∧
   ∃g' cap' cur',BRow T R (ρ.t 5) b q 0 g' (l+s.size) cap' cur' w'∧cur'.toList.take (l+s.size)=cur.toList.take l++Lib.byteCells s.data.toList∧(w.heap.size≤g'∨(g'=g∧cur'.size=cur.size))∧But (fun k=>k=b∨k=g') w w':=by
 have mixed:=L.mixed
 have t5:=L.t5; have a5:=L.a5; have z5:=L.z5; have v5:=L.v5
 have t130:=L.t130; have a130:=L.a130; have z130:=L.z130; have v130:=L.v130
 have t9:=L.t9; have a9:=L.a9; have z9:=L.z9; have v9:=L.v9
 have t3:=L.t3; have a3:=L.a3; have z3:=L.z3; have v3:=L.v3
 have t75:=L.t75; have a75:=L.a75; have z75:=L.z75; have v75:=L.v75
 have t0:=L.t0; have a0:=L.a0; have z0:=L.z0; have v0:=L.v0
 have t93:=L.t93; have u93:=run_underlying L.t93; have a93:=L.a93; have z93:=L.z93; have v93:=L.v93
 have t91:=L.t91; have a91:=L.a91; have z91:=L.z91; have v91:=L.v91
 have t131:=L.t131; have a131:=L.a131; have z131:=L.z131; have v131:=L.v131
 have t4:=L.t4; have a4:=L.a4; have z4:=L.z4; have v4:=L.v4
 have t37:=L.t37; have a37:=L.a37; have z37:=L.z37; have v37:=L.v37
 have e251:∀args w,(callFunc (ρ.f 251) args).run P w = .ok (.enter (ρ.f 251) args) w:=enters_of L.f251 (by kernel_rfl) rfl
 have e252:∀args w,(callFunc (ρ.f 252) args).run P w = .ok (.enter (ρ.f 252) args) w:=enters_of L.f252 (by kernel_rfl) rfl
 have hinfo:(P.info? (ρ.t 5)).map (·.size)=some 1:=by
  obtain⟨i0,hi,-,hz1,-⟩:=info_parts L.i5
  rw [hi]; simp [hz1]
 have hnl:(Lib.byteCells s.data.toList).length=s.size:=by rw [Lib.byteCells_length,←Lib.size_eq]
 have c2:w.cell? ⟨b,q+2,none⟩=some (.int .i8 lr):=h.three.c2
 have f2:w.frozen? ⟨b,q+2,none⟩=false:=h.three.f (q+2)
 have hbut:But (fun k=>k=b) w (w.setCell ⟨b,q+2,none⟩ (.int .i8 0)):=(But.refl (· = b) w).setCell (fun _=>rfl) (q+2) _
 have hI0:BRow T R (ρ.t 5) b q 0 g l cap cur (w.setCell ⟨b,q+2,none⟩ (.int .i8 0)):=⟨h.three.set2 _,(heap_setCell_other _ _ _ h.ne).trans h.row,h.le,h.most,h.size,h.ne⟩
 have hsz:(w.setCell ⟨b,q+2,none⟩ (.int .i8 0)).heap.size=w.heap.size:=by simp [World.setCell]
 generalize hW:w.setCell ⟨b,q+2,none⟩ (.int .i8 0)=W at hbut hI0 hsz
 have k0:W.cell? ⟨b,q,none⟩=some (.slice (some ⟨g,0,none⟩) l cap):=hI0.three.c0
 have kf:W.frozen? ⟨b,q,none⟩=false:=hI0.three.f q
 have hle:=h.le
 have hcm:=h.most
 by_cases hr:s.size≤cap - l
 ·have hT:Calls P (ρ.f 251) #[.pointer (some ⟨b,q,none⟩),.int .i64 s.size] W _:=Any.Buffer_tryGrow_room_at {L with} b q _ l cap s.size W k0 kf hle hcm hr
  have hb1:BRow T R (ρ.t 5) b q 0 g (l+s.size) cap cur (W.setCell ⟨b,q,none⟩ (.slice (some ⟨g,0,none⟩) (l+s.size) cap)):=⟨hI0.three.set0 _,(heap_setCell_other _ _ _ h.ne).trans hI0.row,by omega,h.most,h.size,h.ne⟩
  have hbut1:=hbut.setCell (b:=b) (fun _=>rfl) q (.slice (some ⟨g,0,none⟩) (l+s.size) cap)
  clear hI0 k0 kf
  generalize hW1:W.setCell ⟨b,q,none⟩ (.slice (some ⟨g,0,none⟩) (l+s.size) cap)=W1 at hb1 hbut1
  have hT1:Calls P (ρ.f 251) #[.pointer (some ⟨b,q,none⟩),.int .i64 s.size] W fun e w'=>e = .returned (.tuple #[.int .i64 l,.bool true])∧w'=W1:=hT.mono fun e w' hh=>⟨hh.1,hh.2.trans hW1⟩
  clear hT
  have d0:W1.cell? ⟨b,q,none⟩=some (.slice (some ⟨g,0,none⟩) (l+s.size) cap):=hb1.three.c0
  have hfit:l+s.size≤cur.size:=by rw [hb1.size]; exact hb1.le
  have hne:¬cap=l:=by omega
  have hcp:=Lib.run_copy_row_string (P:=P) W1 (ρ.t 37) (ρ.t 9) (ρ.t 3) (ρ.t 5) g l s.size (cap - l) s cur (ρ.t 5) L.t37 hinfo hb1.row (aaE _) hfit
  have hcm':=hcm
  unfold maxLen at hcm'
  have hcl:=hb1.le
  clear hW1
  go_enter L.f178,Body.n178_ntmps ρ
  go_wp2_with (go_at_fn (ρ.f 251); (try rw [hW]); refine hT1.mono ?_; rintro e w' ⟨rfl,rfl⟩; clear hT1 c2 f2)
  go_ret2
  obtain⟨m1,m2⟩:=take_mid hnl hfit
  rw [aaM] at m1 m2
  exact⟨rfl,g,cap,_,hb1.setRow (m1.trans hb1.size),m2,.inr ⟨rfl,m1⟩,(hbut1.mono fun _ _ h=>.inl h).setRow (fun _=>.inr rfl) _⟩
 ·have hT:Calls P (ρ.f 251) #[.pointer (some ⟨b,q,none⟩),.int .i64 s.size] W _:=Any.Buffer_tryGrow_none_at {L with} b q _ l cap s.size W k0 hle hcm (by omega)
  have hG:Calls P (ρ.f 252) #[.pointer (some ⟨b,q,none⟩),.int .i64 s.size] W _:=grow_row {L with} T R b q g l cap s.size 0 cur W hI0 h1 hl0 (by omega) (by omega) hlim
  clear hI0 k0 kf hle hcm
  go_enter L.f178,Body.n178_ntmps ρ
  go_wp2_with (go_at_fn (ρ.f 251); (try rw [hW]); refine hT.mono ?_; rintro e w' ⟨rfl,rfl⟩)
  go_wp2_with (go_at_fn (ρ.f 252); refine hG.mono ?_)
  rintro e W1 ⟨rfl,g',cap',cur',hI,htk,hge,hbut1⟩
  clear hT hG c2 f2
  have d0:W1.cell? ⟨b,q,none⟩=some (.slice (some ⟨g',0,none⟩) (l+s.size) cap'):=hI.three.c0
  have hfit:l+s.size≤cur'.size:=by rw [hI.size]; exact hI.le
  have hcl:=hI.le
  have hne:¬cap'=l:=by omega
  have hcp:=Lib.run_copy_row_string (P:=P) W1 (ρ.t 37) (ρ.t 9) (ρ.t 3) (ρ.t 5) g' l s.size (cap' - l) s cur' (ρ.t 5) L.t37 hinfo hI.row (aaE _) hfit
  have hcm':=hI.most
  unfold maxLen at hcm'
  go_wp2
  go_ret2
  obtain⟨m1,m2⟩:=take_mid hnl hfit
  rw [htk,aaM] at m1 m2
  exact⟨rfl,g',cap',_,hI.setRow (m1.trans hI.size),m2,.inl (by omega),((hbut.trans hbut1).mono fun _ _ h=>.inl h).setRow (fun _=>.inr rfl) _⟩
end Go.R
namespace Go.R
open Go Go.Proofs Go.Shelf Go.RowKit
def bufCells (cs:List AV)(off:Nat)(x:AV):List AV:=(cs.set off x).set (off+2) (.int .i8 0)
def bufRow (e:TypeId)(news:List AV)(id off:Nat)(h:AHeap):Option AHeap:=
 (h.get id).bind fun
 | .cells cs=>
  match cs[off]?,cs[off+1]?,cs[off+2]? with
  | some (.rs i o n z),some (.int .i64 x),some (.int .i8 _)=>
   (h.get i).bind fun
   | .row e' bs=>if e'=e∧o=0∧z=1∧x=0∧bs.length=n∧n≠0∧n+news.length≤140737488355328 then
     some (((h.kill i).put h.next (.row e (bs++news))).put id (.cells (bufCells cs off (.rs h.next 0 (n+news.length) 1)))) else none
   | _=>none
  | _,_,_=>none
 | _=>none
def bufNil (e:TypeId)(news:List AV)(id off:Nat)(h:AHeap):Option AHeap:=
 (h.get id).bind fun
 | .cells cs=>
  match cs[off]?,cs[off+1]?,cs[off+2]? with
  | some .nils,some (.int .i64 x),some (.int .i8 _)=>if x=0 then
     some ((h.put h.next (.row e news)).put id (.cells (bufCells cs off (.rs h.next 0 news.length 1)))) else none
  | _,_,_=>none
 | _=>none
theorem Fr.none {c:Cx}{L0:Nat→Prop}(hrel:HRel c L0):Fr L0 c none0 (fun _=>0) [] ⟨fun _=>.any,fun _=>none,c.h⟩ ⟨#[],[]⟩:=
 ⟨rfl,by rw [show un L0 none0=L0 from by funext b; simp [un,none0]]; exact hrel,fun t=>by simp [SR,VR],fun k cs h=>(by cases h),fun k k' h=>(by cases h),fun t k off _ h=>(by cases h),rfl,fun b h=>h.elim⟩
section
variable {c:Cx}{L0:Nat→Prop}
theorem buf_upd (hrel:HRel c L0)(hbs:c.base≤c.w.heap.size){e T:TypeId}{id off m cap' g':Nat}{cs xs:List AV}{vals:List Value}{C cur':Array Value}{h1:AHeap}{w':World}
  (hid:c.h.get id=some (.cells cs)) (hC:c.w.heap[(c.β id).1]? = some (.cells C T (0,0))) (hcl:Cells c L0 cs (c.β id).1 (c.β id).2) (hoff:off+2<cs.length) (hcC:(c.β id).2+cs.length≤C.size)
  (hx1:cs[off+1]? = some (.int .i64 0))
  (hB:BRow T (fun i=>C[i]?) e (c.β id).1 ((c.β id).2+off) 0 g' m cap' cur' w') (htk:cur'.toList.take m=vals) (hxs:VRs c L0 xs vals) (hone:∀v∈vals,v.oneCell'=true) (hm:xs.length=m)
  (hbut:But (fun k=>k=(c.β id).1∨k=g') c.w w')
  (hst:Steady c.h h1) (hnx:c.h.next<h1.next) (hget:h1.get c.h.next=some (.row e xs))
  (hoth:∀j,j≠c.h.next→h1.get j=none∨h1.get j=c.h.get j) (hidk:h1.get id=c.h.get id)
  (hg:c.w.heap.size≤g'∨∃i,Live c.h i∧(c.β i).1=g'∧h1.get i=none∧cur'.size=c.len g') :
  ∃c',c'.w=w'∧c'.h=h1.put id (.cells (bufCells cs off (.rs c.h.next 0 m 1)))∧HRel c' L0∧Ext c none0 c' none0:=by
 have hun:un L0 none0=L0:=by funext b; simp [un,none0]
 have f:=Fr.none hrel
 generalize hbb:(c.β id).1=b at *
 have hidlt:id<c.h.next:=hrel.lt _ _ hid
 have hidne:id≠c.h.next:=by omega
 have hlive:Live c.h id:=⟨hidlt,by rw [hid]; rfl⟩
 have hblt:b<c.w.heap.size:=(abc.1 hC).1
 have hblt':b<w'.heap.size:=aa9 hblt hbut.size
 let wm:World:={w' with heap:=w'.heap.setIfInBounds b (.cells C T (0,0))}
 have hwm:∀k,k≠b→wm.heap[k]? = w'.heap[k]?:=fun k hk=>by
  show (w'.heap.setIfInBounds b _)[k]? = _
  rw [Array.getElem?_setIfInBounds_ne (abZ hk)]
 have hwb:wm.heap[b]? = some (.cells C T (0,0)):=by
  show (w'.heap.setIfInBounds b _)[b]? = _
  rw [Array.getElem?_setIfInBounds_self_of_lt hblt']
 have hws:wm.heap.size=w'.heap.size:=by show (w'.heap.setIfInBounds b _).size=_; simp
 have hrow:wm.heap[g']? = some (.cells cur' e (0,0)):=(hwm _ hB.ne).trans hB.row
 have hkeep:∀k,k<c.w.heap.size→k≠g'→wm.heap[k]? = c.w.heap[k]?:=fun k hk hne=>by
  by_cases hkb:k=b
  ·rw [hkb,hwb,hC]
  ·rw [hwm k hkb]; exact hbut.block k hk fun h=>h.elim hkb hne
 have hmle:m≤cur'.size:=by rw [hB.size]; exact hB.le
 obtain⟨e1,f1⟩:=f.upd (w':=wm) (β':=fun k=>if k=c.h.next then (g',0) else c.β k) (h':=h1) c.h.next (.row e xs) hst hnx hget
  (fun j hj=>(hoth j hj).imp (fun h=>h) fun h=>⟨h,by simp [hj]⟩) (fun h=>absurd h (Nat.lt_irrefl _))
  (by
   rcases hg with h | ⟨i,h2,h3,h4,_⟩
   ·exact .inl (by simpa using h)
   ·exact .inr ⟨i,h2,by simpa using h3,.inr h4⟩)
  (fun h=>by
   simp only [if_true] at h ⊢
   rcases hg with h' | ⟨i,h2,h3,h4,h5⟩
   ·omega
   ·simp [World.shape?,hrow,h5])
  (fun k hk hne=>hkeep k hk (by simpa using hne)) (fun k hk hne=>hkeep k (by omega) (by simpa using hne)) (by rw [hws]; exact hbut.size) hbs hbut.os hbut.tape hbut.output
  (fun ee=>by
   simp only [if_true]
   refine⟨rfl,cur',hrow,by omega,by rw [hB.size]; exact hB.most,?_⟩
   have hv:=VRs.ext (L0:=L0) ee xs vals (by rw [hun]; exact hxs)
   refine Cells.of_vals hv (fun i hi=>?_) hone
   show wm.cell? _=_
   rw [cell_of_block hrow,aaZ,←htk,List.getElem?_take,if_pos (by rw [←hm,hxs.length]; exact hi),ab0])
 have hid1:h1.get id=some (.cells cs):=hidk.trans hid
 have hlive1:Live h1 id:=⟨by omega,by rw [hid1]; rfl⟩
 have hβid:(if id=c.h.next then (g',0) else c.β id)=c.β id:=by simp [hidne]
 have hβn:(if c.h.next=c.h.next then (g',0) else c.β c.h.next)=(g',0):=by simp
 obtain⟨cs2,hb2,p0,p1,p2,pr⟩:=hB.three
 have hsz2:cs2.size=C.size:=by
  have hge:(c.β id).2+off+2<cs2.size:=by
   rcases Nat.lt_or_ge ((c.β id).2+off+2) cs2.size with h | h
   ·exact h
   ·rw [Array.getElem?_eq_none h] at p2; cases p2
  have ht:∀i,(c.β id).2+off+3≤i→(cs2.size≤i↔C.size≤i):=fun i hi=>by
   rw [←Array.getElem?_eq_none_iff,←Array.getElem?_eq_none_iff,pr i (.inr hi)]
  have h1:=(ht cs2.size (by omega)).1 (aaE _)
  have h2:=(ht C.size (by omega)).2 (aaE _)
  omega
 obtain⟨e2,f2⟩:=f1.upd (w':=w') (β':=fun k=>if k=c.h.next then (g',0) else c.β k) (h':=h1.put id (.cells (bufCells cs off (.rs c.h.next 0 m 1)))) id (.cells (bufCells cs off (.rs c.h.next 0 m 1))) (Steady.put _ _ _) (abK hlive1.1) (by simp [AHeap.put,beq_nat])
  (fun j hj=>.inr ⟨by simp [AHeap.put,beq_nat,hj],rfl⟩) (fun _=>⟨hlive1,rfl⟩) (.inr ⟨id,hlive1,rfl,.inl rfl⟩)
  (fun _=>by
   simp only [hβid,hbb]
   simp only [Cx.len,World.shape?,hb2,hwb,aaG,aby,hsz2])
  (fun k hk hne=>by
   simp only [hβid,hbb] at hne
   exact (hwm k hne).symm)
  (fun k hk hne=>by
   simp only [hβid,hbb] at hne
   exact (hwm k hne).symm) (by show wm.heap.size≤_; rw [hws]; exact aaE _) (by show c.base≤wm.heap.size; rw [hws]; exact abj hbs hbut.size) rfl rfl rfl
  (fun ee=>by
   simp only [hβid,hbb]
   refine⟨C.size,⟨cs2,T,hb2,hsz2⟩,by unfold bufCells; simpa using hcC,?_⟩
   rw [Cells.iff]
   intro i x hx
   unfold bufCells at hx
   show ∃v,w'.cell? _=some v∧_
   rw [cell_of_block hb2]
   by_cases i2:i=off+2
   ·subst i2
    rw [ab8 (by simpa using hoff)] at hx
    cases hx
    exact⟨_,by rw [←abl]; exact p2,rfl,by simp [VR]⟩
   ·rw [aci (abZ i2)] at hx
    by_cases i0:i=off
    ·subst i0
     rw [ab8 (by omega)] at hx
     cases hx
     refine⟨_,p0,rfl,?_⟩
     simp only [VR]
     refine .inr ⟨(by have:=hrel.ver 0; omega),by show _<h1.next+1; omega,_,_,rfl,hB.le,rfl,fun _=>.inl ⟨by simp,?_⟩⟩
     simp only [if_true,Cx.len,World.shape?,hB.row,aaG,aby,hB.size]
     omega
    ·rw [aci (abZ i0)] at hx
     by_cases i1:i=off+1
     ·subst i1
      rw [hx1] at hx
      cases hx
      exact⟨_,by rw [←abl]; exact p1,rfl,by simp [VR]⟩
     ·obtain⟨v,v1,v2,v3⟩:=hcl.get' i x hx
      refine⟨v,?_,v2,?_⟩
      ·rw [pr _ (by omega)]
       show C[(c.β id).2+i]? = some v
       rw [←cell_of_block hC]
       exact v1
      ·have:=VR.ext (L0:=L0) (e1.trans ee) x v (by rw [hun]; exact v3)
       exact this)
 refine⟨_,rfl,rfl,?_,e1.trans e2⟩
 have:=f2.rel
 rwa [hun] at this
end
section
variable {P:Program}{ρ:Ren}
theorem bkill_put_get (h:AHeap)(i j:Nat)(o:AObj):((h.kill i).put h.next o).get j=if j=h.next then some o else if j=i then none else h.get j:=by
 simp only [AHeap.put,AHeap.kill,beq_nat]
 by_cases h1:j=h.next<;>by_cases h2:j=i<;>simp [h1,h2]
theorem bput_get (h:AHeap)(i j:Nat)(o:AObj):(h.put i o).get j=if j=i then some o else h.get j:=by
 simp only [AHeap.put,beq_nat]
 by_cases h1:j=i<;>simp [h1]
theorem buf_three {c:Cx}{L0:Nat→Prop}(hrel:HRel c L0){id off:Nat}{cs:List AV}(hid:c.h.get id=some (.cells cs)){x y:AV}{lr:Int}(h0:cs[off]? = some x)(h1:cs[off+1]? = some (.int .i64 0))(h2:cs[off+2]? = some (.int .i8 lr)) :
  ∃C T v,c.w.heap[(c.β id).1]? = some (.cells C T (0,0))∧Cells c L0 cs (c.β id).1 (c.β id).2∧off+2<cs.length∧(c.β id).2+cs.length≤C.size∧VR c L0 x v∧
   LibA.Three c.w (c.β id).1 ((c.β id).2+off) T (fun i=>C[i]?) v (.int .i64 0) (.int .i8 lr):=by
 obtain⟨n,⟨C,T,hC,hn⟩,hle,hcl⟩:=hrel.obj _ _ hid
 obtain⟨v,a1,_,a3⟩:=hcl.get' _ _ h0
 obtain⟨v1,b1,_,b3⟩:=hcl.get' _ _ h1
 obtain⟨v2,d1,_,d3⟩:=hcl.get' _ _ h2
 simp only [VR] at b3 d3
 subst b3 d3
 rw [cell_of_block hC] at a1 b1 d1
 refine⟨C,T,v,hC,hcl,(aaK.1 h2).1,by omega,a3,C,hC,a1,by rw [abl]; exact b1,by rw [abl]; exact d1,fun i _=>rfl⟩
theorem bufRow_spec {e:TypeId}{news:List AV}{id off:Nat}{h h':AHeap}(hr:bufRow e news id off h=some h'):∃cs i n bs lr,h.get id=some (.cells cs)∧cs[off]? = some (.rs i 0 n 1)∧cs[off+1]? = some (.int .i64 0)∧cs[off+2]? = some (.int .i8 lr)∧
  h.get i=some (.row e bs)∧bs.length=n∧n≠0∧n+news.length≤140737488355328∧h'=((h.kill i).put h.next (.row e (bs++news))).put id (.cells (bufCells cs off (.rs h.next 0 (n+news.length) 1))):=by
 unfold bufRow at hr
 rw [aaB] at hr
 obtain⟨ob,hob,hr⟩:=hr
 cases ob with
 | map es=>cases hr
 | row t cs=>cases hr
 | cells cs=>
  simp only at hr
  split at hr
  ·rename_i i o n z x lr q0 q1 q2
   rw [aaB] at hr
   obtain⟨ob2,hob2,hr⟩:=hr
   cases ob2 with
   | map es=>cases hr
   | cells cs=>cases hr
   | row e' bs=>
    simp only at hr
    split at hr
    ·rename_i hh
     obtain⟨rfl,rfl,rfl,rfl,h5,h6,h7⟩:=hh
     cases hr
     exact⟨cs,i,n,bs,lr,hob,q0,q1,q2,hob2,h5,h6,h7,rfl⟩
    ·cases hr
  ·cases hr
theorem bufNil_spec {e:TypeId}{news:List AV}{id off:Nat}{h h':AHeap}(hr:bufNil e news id off h=some h'):∃cs lr,h.get id=some (.cells cs)∧cs[off]? = some .nils∧cs[off+1]? = some (.int .i64 0)∧cs[off+2]? = some (.int .i8 lr)∧
  h'=(h.put h.next (.row e news)).put id (.cells (bufCells cs off (.rs h.next 0 news.length 1))):=by
 unfold bufNil at hr
 rw [aaB] at hr
 obtain⟨ob,hob,hr⟩:=hr
 cases ob with
 | map es=>cases hr
 | row t cs=>cases hr
 | cells cs=>
  simp only at hr
  split at hr
  ·rename_i x lr q0 q1 q2
   split at hr
   ·rename_i hh
    subst hh
    cases hr
    exact⟨cs,lr,hob,q0,q1,q2,rfl⟩
   ·cases hr
  ·cases hr
theorem buf_row {c:Cx}{L0:Nat→Prop}(hrel:HRel c L0){e T:TypeId}{id off i n:Nat}{cs bs:List AV}{C:Array Value}{v:Value}{lr:Int}(hid:c.h.get id=some (.cells cs))(hi:c.h.get i=some (.row e bs))(hbs:bs.length=n)(hn0:n≠0)
  (hv:VR c L0 (.rs i 0 n 1) v) (h3:LibA.Three c.w (c.β id).1 ((c.β id).2+off) T (fun i=>C[i]?) v (.int .i64 0) (.int .i8 lr)) :
  ∃cap cur,BRow T (fun i=>C[i]?) e (c.β id).1 ((c.β id).2+off) lr (c.β i).1 n cap cur c.w∧VRs c L0 bs (cur.toList.take n)∧(∀v∈cur.toList.take n,v.oneCell'=true)∧Live c.h i∧cur.size=c.len (c.β i).1:=by
 have hli:Live c.h i:=⟨hrel.lt _ _ hi,by rw [hi]; rfl⟩
 have hlid:Live c.h id:=⟨hrel.lt _ _ hid,by rw [hid]; rfl⟩
 obtain⟨hb0,cur,hcur,hle,hmax,hcl⟩:=hrel.obj _ _ hi
 simp only [VR] at hv
 rcases hv with⟨_,_,h0,_⟩| ⟨_,_,a,cap,rfl,hnc,_,hlive⟩
 ·exact absurd h0 hn0
 have hlen:c.len (c.β i).1=cur.size:=by simp [Cx.len,World.shape?,hcur]
 rcases hlive hli with⟨rfl,hcap⟩| h0
 rotate_left
 ·omega
 rw [hlen,hb0] at hcap
 rw [hb0] at h3
 obtain⟨vs,w1,w2,w3⟩:=hcl.vals
 have hvl:vs.length=n:=by rw [←w1.length,hbs]
 have hts:cur.toList.take n=vs:=by
  apply abF
  intro j
  rw [List.getElem?_take]
  by_cases hj:j<n
  ·rw [if_pos hj,ab0,←w2 j (by omega),cell_of_block hcur,aaZ]
  ·rw [if_neg hj,aa1 (by omega)]
 refine⟨cap,cur,⟨h3,hcur,hnc,by omega,by omega,fun he=>?_⟩,by rw [hts]; exact w1,by rw [hts]; exact w3,hli,hlen.symm⟩
 have hne:i≠id:=by
  rintro rfl
  rw [hid] at hi; cases hi
 exact hne (hrel.inj i id hli hlid he)
def wbA (e:TypeId)(args:List AV)(h:AHeap):Option (AV × AHeap):=
 match args with
 | [.ptr id off,.int .u8 c]=>match bufRow e [.int .u8 c] id off h with
  | some h'=>some (.any,h')
  | none=>(bufNil e [.int .u8 c] id off h).map fun h'=>(.any,h')
 | _=>none
theorem put_steady2 (h:AHeap)(i j:Nat)(o p:AObj):Steady h ((h.put i o).put j p):=(Steady.put _ _ _).trans (Steady.put _ _ _)
theorem buf_steady {e:TypeId}{news:List AV}{id off:Nat}{h h':AHeap}:(bufRow e news id off h=some h'→Steady h h')∧(bufNil e news id off h=some h'→Steady h h'):=by
 refine⟨fun hr=>?_,fun hr=>?_⟩
 ·obtain⟨cs,i,n,bs,lr,_,_,_,_,_,_,_,_,rfl⟩:=bufRow_spec hr
  exact ((Steady.kill _ _).trans (Steady.put _ _ _)).trans (Steady.put _ _ _)
 ·obtain⟨cs,lr,_,_,_,_,rfl⟩:=bufNil_spec hr
  exact put_steady2 _ _ _ _ _
theorem wb_ok (L:LaysM.n179 P ρ)(henter:∀(vs:Array Value) (w:World),(callFunc (ρ.f 179) vs).run P w = .ok (.enter (ρ.f 179) vs) w) :
  CallOK P fun f' args h=>if f'=ρ.f 179 then wbA (ρ.t 5) args h else none:=by
 intro f args h r h' hc
 dsimp only at hc
 split at hc
 rotate_left
 ·cases hc
 rename_i hf
 subst hf
 refine⟨henter,fun L0 c vs hh hb0 hrel hargs=>?_⟩
 subst hh
 unfold wbA at hc
 split at hc
 rotate_left
 ·cases hc
 rename_i id off x
 match vs,hargs with
 | [v1,v2],⟨q1,q2,_⟩=>
 simp only [VR] at q1 q2
 subst q2
 obtain⟨_,ad,rfl,had⟩:=q1
 have hnew:VRs c L0 [.int .u8 x] [Value.int .u8 x]:=by simp [VRs,VR]
 have hfin:∀(h1:AHeap) (w':World) (e:Ending),e = .returned .nilIface→(∃c':Cx,c'.w=w'∧c'.h=h1∧HRel c' L0∧Ext c none0 c' none0)→∃c' v,e = .returned v∧c'.w=w'∧c'.h=h1∧VR c' L0 .any v∧HRel c' L0∧Ext c none0 c' none0:=by
  rintro h1 w' e rfl ⟨c',a1,a2,a3,a4⟩
  exact⟨c',_,rfl,a1,a2,trivial,a3,a4⟩
 split at hc
 ·rename_i h1 hr
  cases hc
  obtain⟨cs,i,n,bs,lr,g0,g1,g2,g3,g4,g5,g6,g7,rfl⟩:=bufRow_spec hr
  obtain⟨C,T,v,k1,k2,k3,k4,k5,k6⟩:=buf_three hrel g0 (y:=.any) g1 g2 g3
  obtain⟨cap,cur,m1,m2,m3,m4,m5⟩:=buf_row hrel g0 g4 g5 g6 k5 k6
  have hlid:Live c.h id:=⟨hrel.lt _ _ g0,by rw [g0]; rfl⟩
  rw [had hlid]
  have hne:i≠id:=by
   rintro rfl
   rw [g0] at g4; cases g4
  refine (writeByte_row L T _ _ _ _ n cap x lr cur c.w m1 m3 g6 (by simpa using g7)).mono ?_
  rintro e w' ⟨he,g',cap',cur',r1,r2,r3,r4⟩
  refine hfin _ _ _ he (buf_upd hrel hb0 g0 k1 k2 k3 k4 g2 r1 r2 (VRs.append m2 hnew) ?_ (by simp [g5]) r4 ((Steady.kill _ i).trans (Steady.put _ _ _)) (by show _<c.h.next+1+1; omega) (by rw [bkill_put_get]; simp) (fun j hj=>?_) ?_ ?_)
  ·intro u hu
   rcases aaQ.1 hu with hu | hu
   ·exact m3 u hu
   ·cases aaO.1 hu; rfl
  ·rw [bkill_put_get,if_neg hj]
   by_cases hji:j=i
   ·exact .inl (by rw [if_pos hji])
   ·exact .inr (by rw [if_neg hji])
  ·rw [bkill_put_get,if_neg (by have:=hlid.1; omega),if_neg (abZ hne)]
  ·refine r3.imp (fun h=>h) fun ⟨h1,h2⟩=>⟨i,m4,h1.symm,?_,by rw [h2,m5,h1]⟩
   rw [bkill_put_get,if_neg (by have:=m4.1; omega),if_pos rfl]
 ·obtain⟨h1,hr,he⟩:=Option.map_some' hc
  simp only [aaJ] at he
  obtain⟨rfl,rfl⟩:=he
  obtain⟨cs,lr,g0,g1,g2,g3,rfl⟩:=bufNil_spec hr
  obtain⟨C,T,v,k1,k2,k3,k4,k5,k6⟩:=buf_three hrel g0 (y:=.any) g1 g2 g3
  simp only [VR] at k5
  subst k5
  have hlid:Live c.h id:=⟨hrel.lt _ _ g0,by rw [g0]; rfl⟩
  rw [had hlid]
  refine (writeByte_nil L T _ _ _ x lr c.w k6).mono ?_
  rintro e w' ⟨he,g',cap',cur',r1,r2,r3,r4⟩
  refine hfin _ _ _ he (buf_upd hrel hb0 g0 k1 k2 k3 k4 g2 r1 r2 hnew ?_ rfl (r4.mono fun _ _ h=>.inl h) (Steady.put _ _ _) (by show _<c.h.next+1; omega) (by rw [bput_get]; simp) (fun j hj=>.inr (by rw [bput_get,if_neg hj])) (by rw [bput_get,if_neg (by have:=hlid.1; omega)]) (.inl r3))
  intro u hu
  cases aaO.1 hu; rfl
end
end Go.R
namespace Go.R
open Go Go.Proofs Go.Shelf Go.RowKit
theorem intr_cons {P:Program}{f0:FuncId}{g0:List AV→AHeap→Option (AV × AHeap)}{intr:FuncId→Option (List AV→AHeap→Option (AV × AHeap))}(h0:CallOK P fun f' args h=>if f'=f0 then g0 args h else none)
  (hs:∀args h r h',g0 args h=some (r,h')→Steady h h') (h:IntrOK P intr):IntrOK P fun f=>if f=f0 then some g0 else intr f:=by
 intro f g hg
 dsimp only at hg
 split at hg
 ·rename_i hf
  subst hf
  cases hg
  exact⟨h0,hs⟩
 ·exact h f g hg
def bytesA (s:ByteArray):List AV:=s.data.toList.map fun b=>.int .u8 b.toNat
def wsA (e:TypeId)(args:List AV)(h:AHeap):Option (AV × AHeap):=
 match args with
 | [.ptr id off,.str s]=>if s.size=0 then none else (bufRow e (bytesA s) id off h).map fun h'=>(.tup [.int .i64 s.size,.any],h')
 | _=>none
section
variable {P:Program}{ρ:Ren}
theorem ws_ok (L:LaysM.n178 P ρ)(henter:∀(vs:Array Value) (w:World),(callFunc (ρ.f 178) vs).run P w = .ok (.enter (ρ.f 178) vs) w) :
  CallOK P fun f' args h=>if f'=ρ.f 178 then wsA (ρ.t 5) args h else none:=by
 intro f args h r h' hc
 dsimp only at hc
 split at hc
 rotate_left
 ·cases hc
 rename_i hf
 subst hf
 refine⟨henter,fun L0 c vs hh hb0 hrel hargs=>?_⟩
 subst hh
 unfold wsA at hc
 split at hc
 rotate_left
 ·cases hc
 rename_i id off s
 split at hc
 ·cases hc
 rename_i hs0
 match vs,hargs with
 | [v1,v2],⟨q1,q2,_⟩=>
 simp only [VR] at q1 q2
 subst q2
 obtain⟨_,ad,rfl,had⟩:=q1
 have hsl:(bytesA s).length=s.size:=by simp [bytesA]
 have hnew:VRs c L0 (bytesA s) (Lib.byteCells s.data.toList):=bytes_VRs s.data.toList
 obtain⟨h1,hr,he⟩:=Option.map_some' hc
 simp only [aaJ] at he
 obtain⟨rfl,rfl⟩:=he
 obtain⟨cs,i,n,bs,lr,g0,g1,g2,g3,g4,g5,g6,g7,rfl⟩:=bufRow_spec hr
 obtain⟨C,T,v,k1,k2,k3,k4,k5,k6⟩:=buf_three hrel g0 (y:=.any) g1 g2 g3
 obtain⟨cap,cur,m1,m2,m3,m4,m5⟩:=buf_row hrel g0 g4 g5 g6 k5 k6
 have hlid:Live c.h id:=⟨hrel.lt _ _ g0,by rw [g0]; rfl⟩
 rw [had hlid]
 have hne:i≠id:=by
  rintro rfl
  rw [g0] at g4; cases g4
 rw [hsl] at g7 ⊢
 refine (writeString_row L T _ _ _ _ n cap lr s cur c.w m1 m3 g6 hs0 g7).mono ?_
 rintro e w' ⟨he,g',cap',cur',r1,r2,r3,r4⟩
 have hone:∀u∈cur.toList.take n++Lib.byteCells s.data.toList,u.oneCell'=true:=by
  intro u hu
  rcases aaQ.1 hu with hu | hu
  ·exact m3 u hu
  ·unfold Lib.byteCells at hu
   obtain⟨b,_,rfl⟩:=aba.1 hu
   rfl
 obtain⟨c',a1,a2,a3,a4⟩:=buf_upd (h1:=(c.h.kill i).put c.h.next (.row (ρ.t 5) (bs++bytesA s))) hrel hb0 g0 k1 k2 k3 k4 g2 r1 r2 (VRs.append m2 hnew) hone (by rw [aaI,g5,hsl]) r4 ((Steady.kill _ i).trans (Steady.put _ _ _)) (by show _<c.h.next+1+1; omega) (by rw [bkill_put_get]; simp)
  (fun j hj=>by
   rw [bkill_put_get,if_neg hj]
   by_cases hji:j=i
   ·exact .inl (by rw [if_pos hji])
   ·exact .inr (by rw [if_neg hji]))
  (by rw [bkill_put_get,if_neg (by have:=hlid.1; omega),if_neg (abZ hne)])
  (r3.imp (fun h=>h) fun ⟨h1,h2⟩=>⟨i,m4,h1.symm,by rw [bkill_put_get,if_neg (by have:=m4.1; omega),if_pos rfl],by rw [h2,m5,h1]⟩)
 refine⟨c',_,he,a1,a2,?_,a3,a4⟩
 simp only [VR]
 exact⟨_,rfl,by simp [VRs,VR]⟩
theorem wb_steady {e:TypeId}(args:List AV)(h:AHeap)(r:AV)(h':AHeap)(hc:wbA e args h=some (r,h')):Steady h h':=by
 unfold wbA at hc
 split at hc
 ·split at hc
  ·rename_i h1 hr
   cases hc
   exact buf_steady.1 hr
  ·obtain⟨h1,hr,he⟩:=Option.map_some' hc
   cases he
   exact buf_steady.2 hr
 ·cases hc
theorem ws_steady {e:TypeId}(args:List AV)(h:AHeap)(r:AV)(h':AHeap)(hc:wsA e args h=some (r,h')):Steady h h':=by
 unfold wsA at hc
 split at hc
 ·split at hc
  ·cases hc
  ·obtain⟨h1,hr,he⟩:=Option.map_some' hc
   cases he
   exact buf_steady.1 hr
 ·cases hc
def plainA (x:AV × AHeap):Option (AV × AHeap):=
 match x.1 with
 | .rs i _ _ _=>(x.2.get i).bind fun | .row _ cs=>some (x.1,x.2.put i (.cells cs)) | _=>none
 | _=>none
theorem plain_ok {cf:CallF}(hcf:CallOK P cf)(f0:FuncId):CallOK P fun f args h=>if f=f0 then (cf f0 args h).bind plainA else none:=by
 intro f args h r h' hc
 dsimp only at hc
 split at hc
 rotate_left
 ·cases hc
 rename_i hf
 subst hf
 rw [aaB] at hc
 obtain⟨⟨x,h1⟩,hx,hc⟩:=hc
 obtain⟨hin,hcall⟩:=hcf f args h x h1 hx
 refine⟨hin,fun L0 c vs hh hb0 hrel hargs=>?_⟩
 refine (hcall L0 c vs hh hb0 hrel hargs).mono ?_
 rintro e w' ⟨c1,v,rfl,rfl,rfl,hv,hrel1,e1⟩
 unfold plainA at hc
 simp only at hc
 split at hc
 rotate_left
 ·cases hc
 rename_i i o n z
 rw [aaB] at hc
 obtain⟨ob,hob,hc⟩:=hc
 cases ob with
 | map es=>cases hc
 | cells cs=>cases hc
 | row t cs=>
  cases hc
  have hun:un L0 none0=L0:=by funext b; simp [un,none0]
  have hli:Live c1.h i:=⟨hrel1.lt _ _ hob,by rw [hob]; rfl⟩
  obtain⟨hz,C,hC,hle,hmax,hcl⟩:=hrel1.obj _ _ hob
  obtain⟨e2,f2⟩:=(Fr.none hrel1).upd (w':=c1.w) (β':=c1.β) (h':=c1.h.put i (.cells cs)) i (.cells cs) (Steady.put _ _ _) (abK hli.1) (by simp [AHeap.put,beq_nat])
   (fun j hj=>.inr ⟨by simp [AHeap.put,beq_nat,hj],rfl⟩) (fun _=>⟨hli,rfl⟩) (.inr ⟨i,hli,rfl,.inl rfl⟩) (fun _=>rfl) (fun _ _ _=>rfl) (fun _ _ _=>rfl) (aaE _) (by rw [e1.base]; exact abj hb0 e1.size) rfl rfl rfl
   (fun ee=>⟨C.size,⟨C,t,hC,rfl⟩,by rw [hz,aaZ]; exact hle,by
    have:=Cells.move (L0:=L0) ee cs (c1.β i).1 0 (c1.β i).1 0 (fun _ _=>rfl) (by rw [hun]; exact hcl)
    rw [hz]; exact this⟩)
  refine⟨⟨c1.β,c1.h.put i (.cells cs),c1.w,c1.base⟩,v,rfl,rfl,rfl,?_,by have:=f2.rel; rwa [hun] at this,e1.trans e2⟩
  have:=VR.ext (L0:=L0) e2 _ _ (by rw [hun]; exact hv)
  rwa [hun] at this
theorem plain_steady {cf:CallF}(hst:SteadyF cf)(f0:FuncId)(args:List AV)(h:AHeap)(r:AV)(h':AHeap)(hc:(cf f0 args h).bind plainA=some (r,h')):Steady h h':=by
 rw [aaB] at hc
 obtain⟨⟨x,h1⟩,hx,hc⟩:=hc
 unfold plainA at hc
 simp only at hc
 split at hc
 ·rw [aaB] at hc
  obtain⟨ob,hob,hc⟩:=hc
  cases ob with
  | map es=>cases hc
  | cells cs=>cases hc
  | row t cs=>
   cases hc
   exact (hst _ _ _ _ _ hx).trans (Steady.put _ _ _)
 ·cases hc
end
end Go.R
namespace Go.R
open Go
def L3 {α:Type}(E:da α):da (List α):={n:=1,f:=fun x=>[E.fz x],len:=fun _=>rfl,pos:=by decide,flat:=E.flat,pure:=fun x hp=>pure_cons (da.ow hp) (pure_nil),canon:=fun _=>rfl}
def wB (bs news:List Int):Option (List Int):=if bs.length+news.length≤140737488355328∧news≠[] then some (bs++news) else none
section
variable {h:AHeap}{L:Mem}{e:TypeId}{id i:Nat}{bs news r:List Int}{c:Int}{s:ByteArray}
theorem qD (l:List Int):(af.l l).length=l.length:=by rw [da.dc]; exact acj _
theorem KJ (l k:List Int):af.l (l++k)=af.l l++af.l k:=by
 induction l with
 | nil=>rfl
 | cons a l ih=>rw [aa0,da.eF,da.eF,ih,aaM]
theorem D2 (o:Has h ((id,.ob [.rs i 0 bs.length 1,.int .i64 0,.int .i8 0])::(i,.row e (af.l bs))::L))(hb:bs≠[])(hr:wB bs news=some r) :
  ∃i' h',bufRow e (af.l news) id 0 h=some h'∧Has h' ((id,.ob [.rs i' 0 r.length 1,.int .i64 0,.int .i8 0])::(i',.row e (af.l r))::L):=by
 unfold wB at hr
 split at hr
 rotate_left
 ·cases hr
 rename_i hm
 cases hr
 have o1:=o.at_ 0 _ _ rfl
 have o2:=o.at_ 1 _ _ rfl
 have hne:id≠i:=fun he=>by
  have h1:=o1.1.2
  rw [he,o2.1.2] at h1
  cases h1
 have RU:bs.length≠0:=by cases bs with | nil=>exact absurd rfl hb | cons _ _=>simp
 refine⟨h.next,((h.kill i).put h.next (.row e (af.l bs++af.l news))).put id (.cells [.rs h.next 0 (bs++news).length 1,.int .i64 0,.int .i8 0]),?_,?_⟩
 rotate_left
 ·have t1:=o.FR (j:=1) rfl (h':=(h.kill i).put h.next (.row e (af.l bs++af.l news))) (i':=h.next) (c':=.row e (af.l (bs++news)))
   (fun k hk hl=>by rw [cU,if_neg (by omega),vk,if_neg hk]) (by show h.next≤h.next+1+1; omega) (.inr (.inr (aaE _))) (by show h.next<h.next+1+1; omega)
   ⟨by have:=o.pos; omega,by rw [cU,if_pos rfl,KJ]⟩
  exact jv (q:=0) t1 rfl (ob:=.cells [.rs h.next 0 (bs++news).length 1,.int .i64 0,.int .i8 0]) ⟨o1.1.1,by rw [cU,if_pos rfl]⟩
 ·unfold bufRow
  rw [o1.1.2]
  simp only [aaA,abk,abR,o2.1.2,aaZ,qD]
  rw [if_pos ⟨trivial,trivial,trivial,trivial,trivial,RU,hm.1⟩]
  simp only [bufCells,List.set_cons_zero,List.set_cons_succ,aaI]
theorem KK {lr:Int}(o:Has h ((id,.ob [.nils,.int .i64 0,.int .i8 lr])::L))(hr:wB [] news=some r) :
  ∃i' h',bufNil e (af.l news) id 0 h=some h'∧Has h' ((id,.ob [.rs i' 0 r.length 1,.int .i64 0,.int .i8 0])::(i',.row e (af.l r))::L):=by
 unfold wB at hr
 split at hr
 rotate_left
 ·cases hr
 cases hr
 have o1:=o.at_ 0 _ _ rfl
 refine⟨h.next,(h.put h.next (.row e (af.l news))).put id (.cells [.rs h.next 0 ([]++news).length 1,.int .i64 0,.int .i8 0]),?_,?_⟩
 rotate_left
 ·have t1:=o.new (h':=h.put h.next (.row e (af.l news))) (i:=h.next) (c:=.row e (af.l ([]++news)))
   (fun k hl=>by rw [cU,if_neg (by omega)]) (abQ _) (.inr (aaE _)) (abm _)
   ⟨by have:=o.pos; omega,by rw [cU,if_pos rfl]; rfl⟩
  have t2:=jv (q:=1) t1 rfl (ob:=.cells [.rs h.next 0 ([]++news).length 1,.int .i64 0,.int .i8 0]) (c':=.ob [.rs h.next 0 ([]++news).length 1,.int .i64 0,.int .i8 0]) ⟨o1.1.1,by rw [cU,if_pos rfl]⟩
  exact Has.front t2 1 rfl
 ·unfold bufNil
  rw [o1.1.2]
  simp only [aaA,abk,abR,aaZ,qD,if_true]
  simp only [bufCells,List.set_cons_zero,List.set_cons_succ,aa5]
def D3 (cf:CallF)(f:FuncId)(e:TypeId):Prop:=∀args h,cf f args h=wbA e args h
def HN (cf:CallF)(f:FuncId)(e:TypeId):Prop:=∀args h,cf f args h=wsA e args h
def HO (cf:CallF)(f:FuncId)(e:TypeId):Prop:=∀id i n cs h,h.get id=some (.cells [.rs i 0 n 1,.int .i64 0,.int .i8 0])→h.get i=some (.row e cs)→cs.length=n→n≠0→i<h.next→cf f [.ptr id 0] h=some (.rs i 0 n 1,h.put i (.cells cs))
variable {cf:CallF}{f:FuncId}
theorem Nt (S:D3 cf f e)(o:Has h ((id,.ob [.rs i 0 bs.length 1,.int .i64 0,.int .i8 0])::(i,.row e (af.l bs))::L))(hb:bs≠[])(hr:wB bs [c]=some r) :
  ∃i' h',cf f [.ptr id 0,.int .u8 c] h=some (.any,h')∧Has h' ((id,.ob [.rs i' 0 r.length 1,.int .i64 0,.int .i8 0])::(i',.row e (af.l r))::L):=by
 obtain⟨i',h',h1,h2⟩:=D2 o hb hr
 refine⟨i',h',?_,h2⟩
 rw [S]
 have h1:bufRow e [.int .u8 c] id 0 h=some h':=h1
 simp only [wbA,h1]
theorem Nu {lr:Int}(S:D3 cf f e)(o:Has h ((id,.ob [.nils,.int .i64 0,.int .i8 lr])::L))(hr:wB [] [c]=some r) :
  ∃i' h',cf f [.ptr id 0,.int .u8 c] h=some (.any,h')∧Has h' ((id,.ob [.rs i' 0 r.length 1,.int .i64 0,.int .i8 0])::(i',.row e (af.l r))::L):=by
 obtain⟨i',h',h1,h2⟩:=KK (e:=e) o hr
 refine⟨i',h',?_,h2⟩
 rw [S]
 have h1:bufNil e [.int .u8 c] id 0 h=some h':=h1
 have h3:bufRow e [.int .u8 c] id 0 h=none:=by
  unfold bufRow
  rw [(o.at_ 0 _ _ rfl).1.2]
  rfl
 simp only [wbA,h3,h1,aaG]
theorem strCells (s:ByteArray):bytesA s=af.l (cV s):=by
 have:∀l:List UInt8,(l.map fun b=>AV.int .u8 b.toNat)=af.l (l.map fun b=>(b.toNat:Int)):=fun l=>by
  induction l with
  | nil=>rfl
  | cons a l ih=>rw [aa6,aa6,da.eF,ih]; rfl
 exact this _
theorem Nv (S:HN cf f e)(o:Has h ((id,.ob [.rs i 0 bs.length 1,.int .i64 0,.int .i8 0])::(i,.row e (af.l bs))::L))(hb:bs≠[])(hr:wB bs (cV s)=some r) :
  ∃i' h',cf f [.ptr id 0,.str s] h=some (.tup [.int .i64 s.size,.any],h')∧Has h' ((id,.ob [.rs i' 0 r.length 1,.int .i64 0,.int .i8 0])::(i',.row e (af.l r))::L):=by
 obtain⟨i',h',h1,h2⟩:=D2 o hb hr
 refine⟨i',h',?_,h2⟩
 rw [S]
 have hs:¬s.size=0:=fun hs=>by
  unfold wB at hr
  split at hr
  ·rename_i hm
   apply hm.2
   have:s.data.toList=[]:=by
    apply abn
    simpa using hs
   simp [cV,this]
  ·cases hr
 simp only [wsA,if_neg hs,strCells,h1,aaG]
theorem Nw (S:HO cf f e)(o:Has h ((id,.ob [.rs i 0 bs.length 1,.int .i64 0,.int .i8 0])::(i,.row e (af.l bs))::L))(hb:bs≠[])(hm:bs.length≤140737488355328) :
  ∃h',cf f [.ptr id 0] h=some (.rs i 0 bs.length 1,h')∧Has h' ((id,.ob [.rs i 0 bs.length 1,.int .i64 0,.int .i8 0])::(i,.sl bs.length 1 (af.l bs))::L):=by
 have o1:=o.at_ 0 _ _ rfl
 have o2:=o.at_ 1 _ _ rfl
 refine⟨_,S id i _ _ h o1.1.2 o2.1.2 (qD _) (by cases bs with | nil=>exact absurd rfl hb | cons _ _=>simp) o2.2,?_⟩
 exact jv (q:=1) o rfl (ob:=.cells (af.l bs)) ⟨⟨by rw [qD,acj],by rw [qD]; omega⟩,.inr ⟨o2.1.1,[],by rw [cU,if_pos rfl,abu]⟩⟩
def HP (bs news:List Int):Option (List Int):=if bs=[] then none else wB bs news
theorem qE (hr:HP bs news=some r):bs≠[]∧wB bs news=some r:=by
 unfold HP at hr
 split at hr
 ·cases hr
 ·rename_i h; exact⟨h,hr⟩
theorem uB (S:D3 cf f e)(o:Has h ((id,.ob [.rs i 0 bs.length 1,.int .i64 0,.int .i8 0])::(i,.row e (af.l bs))::L))(hr:HP bs [c]=some r) :
  ∃i' h',cf f [.ptr id 0,.int .u8 c] h=some (.any,h')∧Has h' ((id,.ob [.rs i' 0 r.length 1,.int .i64 0,.int .i8 0])::(i',.row e (af.l r))::L):=Nt S o (qE hr).1 (qE hr).2
theorem KL (S:HN cf f e)(o:Has h ((id,.ob [.rs i 0 bs.length 1,.int .i64 0,.int .i8 0])::(i,.row e (af.l bs))::L))(hr:HP bs (cV s)=some r) :
  ∃i' h',cf f [.ptr id 0,.str s] h=some (.tup [.int .i64 s.size,.any],h')∧Has h' ((id,.ob [.rs i' 0 r.length 1,.int .i64 0,.int .i8 0])::(i',.row e (af.l r))::L):=Nv S o (qE hr).1 (qE hr).2
def vz (bs:List Int):Option Unit:=if bs≠[]∧bs.length≤140737488355328 then some () else none
theorem KM {u:Unit}(S:HO cf f e)(o:Has h ((id,.ob [.rs i 0 bs.length 1,.int .i64 0,.int .i8 0])::(i,.row e (af.l bs))::L))(hr:vz bs=some u) :
  ∃h',cf f [.ptr id 0] h=some (.rs i 0 bs.length 1,h')∧Has h' ((id,.ob [.rs i 0 bs.length 1,.int .i64 0,.int .i8 0])::(i,.sl bs.length 1 (af.l bs))::L):=by
 unfold vz at hr
 split at hr
 ·rename_i h; exact Nw S o h.1 h.2
 ·cases hr
end
def jn {α β:Type}(b:α→Option β)(a:(α→Option β)→Option β):Option β:=a b
theorem zh {α β:Type}{b:α→Option β}{a:(α→Option β)→Option β}{out:β}(H:jn b a=some out):∃j:α→Option β,(∀x,j x=b x)∧a j=some out:=⟨b,fun _=>rfl,H⟩
theorem aG {α β:Type}{o:Option α}{f:α→Option β}{b:β}(h:o.bind f=some b):∃a,o=some a∧f a=some b:=aaB.1 h
theorem Yx {α:Type}{c:Bool}{a b z:α}(h:c=true)(H:(if c=true then a else b)=z):a=z:=(if_pos h).symm.trans H
theorem Yy {α:Type}{c:Bool}{a b z:α}(h:c=false)(H:(if c=true then a else b)=z):b=z:=(if_neg (KC h)).symm.trans H
abbrev jE (l:List AV):List AV:=.any :: .any :: .any::l
abbrev mT (l:List AV):List AV:=.any :: .any :: .any :: .any::l
abbrev qF (l:List AV):List AV:=.any :: .any :: .any :: .any :: .any::l
abbrev zX (l:List AV):List AV:=.any :: .any :: .any :: .any :: .any :: .any::l
abbrev zY (l:List AV):List AV:=.any :: .any :: .any :: .any :: .any :: .any :: .any::l
abbrev r9 (l:List AV):List AV:=.any :: .any :: .any :: .any :: .any :: .any :: .any :: .any::l
abbrev FX (l:List AV):List AV:=.any :: .any :: .any :: .any :: .any :: .any :: .any :: .any :: .any::l
abbrev xd (l:List AV):List AV:=.any :: .any :: .any :: .any :: .any :: .any :: .any :: .any :: .any :: .any::l
abbrev nE (l:List AV):List AV:=.any :: .any :: .any :: .any :: .any :: .any :: .any :: .any :: .any :: .any :: .any::l
abbrev oE (l:List AV):List AV:=.any :: .any :: .any :: .any :: .any :: .any :: .any :: .any :: .any :: .any :: .any :: .any::l
abbrev nF (l:List AV):List AV:=.any :: .any :: .any :: .any :: .any :: .any :: .any :: .any :: .any :: .any :: .any :: .any :: .any::l
abbrev qG (l:List AV):List AV:=.any :: .any :: .any :: .any :: .any :: .any :: .any :: .any :: .any :: .any :: .any :: .any :: .any :: .any::l
abbrev HQ (l:List AV):List AV:=.any :: .any :: .any :: .any :: .any :: .any :: .any :: .any :: .any :: .any :: .any :: .any :: .any :: .any :: .any::l
abbrev HR (l:List AV):List AV:=.any :: .any :: .any :: .any :: .any :: .any :: .any :: .any :: .any :: .any :: .any :: .any :: .any :: .any :: .any :: .any::l
abbrev CT (l:List AV):List AV:=.any :: .any :: .any :: .any :: .any :: .any :: .any :: .any :: .any :: .any :: .any :: .any :: .any :: .any :: .any :: .any :: .any::l
abbrev P8 (l:List AV):List AV:=.any :: .any :: .any :: .any :: .any :: .any :: .any :: .any :: .any :: .any :: .any :: .any :: .any :: .any :: .any :: .any :: .any :: .any::l
abbrev KN (l:List AV):List AV:=.any :: .any :: .any :: .any :: .any :: .any :: .any :: .any :: .any :: .any :: .any :: .any :: .any :: .any :: .any :: .any :: .any :: .any :: .any::l
abbrev P9 (l:List AV):List AV:=.any :: .any :: .any :: .any :: .any :: .any :: .any :: .any :: .any :: .any :: .any :: .any :: .any :: .any :: .any :: .any :: .any :: .any :: .any :: .any :: .any::l
abbrev Qa (l:List AV):List AV:=.any :: .any :: .any :: .any :: .any :: .any :: .any :: .any :: .any :: .any :: .any :: .any :: .any :: .any :: .any :: .any :: .any :: .any :: .any :: .any :: .any :: .any::l
abbrev Qb (l:List AV):List AV:=.any :: .any :: .any :: .any :: .any :: .any :: .any :: .any :: .any :: .any :: .any :: .any :: .any :: .any :: .any :: .any :: .any :: .any :: .any :: .any :: .any :: .any :: .any::l
abbrev Ty (l:List AV):List AV:=.any :: .any :: .any :: .any :: .any :: .any :: .any :: .any :: .any :: .any :: .any :: .any :: .any :: .any :: .any :: .any :: .any :: .any :: .any :: .any :: .any :: .any :: .any :: .any :: .any::l
abbrev Tz (l:List AV):List AV:=.any :: .any :: .any :: .any :: .any :: .any :: .any :: .any :: .any :: .any :: .any :: .any :: .any :: .any :: .any :: .any :: .any :: .any :: .any :: .any :: .any :: .any :: .any :: .any :: .any :: .any::l
abbrev Qc (l:List AV):List AV:=.any :: .any :: .any :: .any :: .any :: .any :: .any :: .any :: .any :: .any :: .any :: .any :: .any :: .any :: .any :: .any :: .any :: .any :: .any :: .any :: .any :: .any :: .any :: .any :: .any :: .any :: .any::l
abbrev TA (l:List AV):List AV:=.any :: .any :: .any :: .any :: .any :: .any :: .any :: .any :: .any :: .any :: .any :: .any :: .any :: .any :: .any :: .any :: .any :: .any :: .any :: .any :: .any :: .any :: .any :: .any :: .any :: .any :: .any :: .any :: .any::l
abbrev TB (l:List AV):List AV:=.any :: .any :: .any :: .any :: .any :: .any :: .any :: .any :: .any :: .any :: .any :: .any :: .any :: .any :: .any :: .any :: .any :: .any :: .any :: .any :: .any :: .any :: .any :: .any :: .any :: .any :: .any :: .any :: .any :: .any :: .any :: .any :: .any :: .any::l
end Go.R
namespace Go.R
open Go
open Go.IntKind (i64 u64 u8 u32)
theorem hU (x:Int):u8.wrap x=x % 256:=by
 unfold IntKind.wrap; simp [IntKind.signed,IntKind.bits]
theorem HS (x:Int):u64.wrap x=x % 18446744073709551616:=by
 unfold IntKind.wrap; simp [IntKind.signed,IntKind.bits]
theorem dW {x:Int}(h0:0≤x)(h1:x<18446744073709551616):u64.wrap x=x:=by
 rw [HS,Int.emod_eq_of_lt h0 h1]
theorem qH (x:Int):i64.wrap x=if x % 18446744073709551616≥9223372036854775808 then x % 18446744073709551616 - 18446744073709551616 else x % 18446744073709551616:=by
 unfold IntKind.wrap; simp [IntKind.signed,IntKind.bits]
theorem ay {x:Int}(h0 : -9223372036854775808≤x)(h1:x<9223372036854775808):i64.wrap x=x:=by
 rw [qH]; split<;>omega
theorem Qd (n:Nat):ja .u8 ((n:Int) % 256) 128=((n % 128+128:Nat):Int):=by
 unfold ja
 have h1:abx IntKind.u8.bits ((n:Int) % 256)=abv 8 (n % 256):=by
  show abx 8 _=_
  rw [show ((n:Int) % 256)=((n % 256:Nat):Int) by omega,BitVec.ofInt_natCast]
 rw [h1]
 have h2:abx IntKind.u8.bits (128:Int)=abv 8 128:=rfl
 rw [h2]
 show u8.wrap (((abv 8 (n % 256) ||| abv 8 128:BitVec 8).toNat:Nat):Int)=_
 have key:∀k:Fin 256,(abv 8 k.1 ||| abv 8 128:BitVec 8).toNat=k.1 % 128+128:=by decide +kernel
 have:=key ⟨n % 256,Nat.mod_lt _ (by omega)⟩
 simp only at this
 rw [this,hU]
 omega
theorem TC (n:Nat):gO .u64 (n:Int) 7=((n / 128:Nat):Int):=by
 show (n:Int).fdiv (2 ^ 7)=_
 rw [ach _ (by decide)]
 norm_cast
theorem CU (n:Nat)(h:n<256):fv .u8 (n:Int) 127=((n % 128:Nat):Int):=by
 unfold fv
 have h1:abx IntKind.u8.bits (n:Int)=abv 8 n:=BitVec.ofInt_natCast ..
 rw [h1]
 show u8.wrap (((abv 8 n &&& abv 8 127:BitVec 8).toNat:Nat):Int)=_
 have key:∀k:Fin 256,(abv 8 k.1 &&& abv 8 127:BitVec 8).toNat=k.1 % 128:=by decide +kernel
 have:=key ⟨n,h⟩
 simp only at this
 rw [this,hU]
 omega
theorem CV (a c s:Nat)(ha:a<2 ^ s)(hs:s≤56)(hc:a+c*2 ^ s<2 ^ 64)(hc2:c<128):(r7 .u64 (u64.wrap (c:Int)) (s:Int))=some ((c*2 ^ s:Nat):Int)∧ja .u64 (a:Int) ((c*2 ^ s:Nat):Int)=((a+c*2 ^ s:Nat):Int):=by
 have hcs:c*2 ^ s<2 ^ 64:=by omega
 constructor
 ·unfold r7
  rw [if_neg (by omega),dW (x:=(c:Int)) (by omega) (by omega)]
  congr 1
  have:min (s:Int).toNat IntKind.u64.bits=s:=by
   show min (s:Int).toNat 64=s
   omega
  rw [this,show ((c:Int)*2 ^ s)=((c*2 ^ s:Nat):Int) by push_cast; rfl,dW (by omega) (by omega)]
 ·unfold ja
  have h1:abx IntKind.u64.bits (a:Int)=abv 64 a:=BitVec.ofInt_natCast ..
  have h2:abx IntKind.u64.bits ((c*2 ^ s:Nat):Int)=abv 64 (c*2 ^ s):=BitVec.ofInt_natCast ..
  rw [h1,h2]
  show u64.wrap (((abv 64 a ||| abv 64 (c*2 ^ s):BitVec 64).toNat:Nat):Int)=_
  have:(abv 64 a ||| abv 64 (c*2 ^ s):BitVec 64).toNat=a+c*2 ^ s:=by
   rw [BitVec.toNat_or,acd,acd,Nat.mod_eq_of_lt (by omega),Nat.mod_eq_of_lt hcs,Nat.or_comm,←Nat.shiftLeft_eq,←Nat.shiftLeft_add_eq_or_of_lt ha,Nat.shiftLeft_eq,Nat.add_comm]
  rw [this,dW (by omega) (by omega)]
def bX (n:Nat):List Int:=if h:n<128 then [(n:Int)] else ((n % 128+128:Nat):Int)::bX (n / 128)
termination_by n
decreasing_by omega
theorem iq {n:Nat}(h:n<128):bX n=[(n:Int)]:=by rw [bX,dif_pos h]
theorem ka {n:Nat}(h:¬n<128):bX n=((n % 128+128:Nat):Int)::bX (n / 128):=by rw [bX,dif_neg h]
end Go.R
namespace Go.R
open Go
def xe {X:Type}(F:CallF→Option X):Prop:=∀cf x,F cf=some x→∃l:List (FuncId × List AV × AHeap × (AV × AHeap)),(∀e∈l,cf e.1 e.2.1 e.2.2.1=some e.2.2.2)∧∀D4:CallF,(∀e∈l,D4 e.1 e.2.1 e.2.2.1=some e.2.2.2)→F D4=some x
theorem bR {X:Type}(x:Option X):xe fun _=>x:=by
 intro cf y h
 refine⟨[],?_,fun _ _=>h⟩
 intro e he; cases he
theorem HT (f:FuncId)(args:List AV)(h:AHeap):xe fun cf=>cf f args h:=by
 intro cf x hx
 refine⟨[(f,args,h,x)],?_,fun D4 h'=>h' (f,args,h,x) (aaO.2 rfl)⟩
 intro e he; cases (aaO.1 he); exact hx
theorem fi {X Y:Type}{F:CallF→Option X}{G:X→CallF→Option Y}(hF:xe F)(hG:∀y,xe (G y)):xe fun cf=>(F cf).bind fun y=>G y cf:=fun cf z hz=>by
 obtain⟨y,h1,h2⟩:=aaB.1 hz
 obtain⟨l1,a1,b1⟩:=hF cf y h1
 obtain⟨l2,a2,b2⟩:=hG y cf z h2
 refine⟨l1++l2,fun e he=>(aaQ.1 he).elim (a1 e) (a2 e),fun D4 h'=>?_⟩
 have e1:=b1 D4 fun e he=>h' e (abo _ he)
 have e2:=b2 D4 fun e he=>h' e (List.mem_append_right _ he)
 show (F D4).bind _=_
 rw [e1,aaA,e2]
theorem zi {X Y:Type}{F:CallF→Option X}{g:X→Y}(hF:xe F):xe fun cf=>(F cf).map g:=by
 intro cf x hx
 obtain⟨y,h1,h2⟩:=aaC.1 hx
 obtain⟨l,a,b⟩:=hF cf y h1
 refine⟨l,a,fun D4 h'=>?_⟩
 show (F D4).map g=some x
 rw [b D4 h',aaG,h2]
theorem lj {X:Type}{c:Prop}[Decidable c]{F G:CallF→Option X}(hF:xe F)(hG:xe G):xe fun cf=>if c then F cf else G cf:=by
 by_cases h:c
 ·simp only [h,if_true]; exact hF
 ·simp only [h,if_false]; exact hG
section
variable {P:Program}{aN ds:List Nat}
theorem qI {X:Type}{F:CallF→Option X}(h:∀cf D4,F cf=F D4):xe F:=by
 intro cf x hx
 refine⟨[],?_,fun D4 _=>(h D4 cf).trans hx⟩
 intro e he; cases he
theorem D5 (e:Operand→AV)(s:RS)(o:Oper):xe fun cf=>Cp P cf aN ds e s o:=by
 obtain⟨dst,op,type,pos,after,guard⟩:=o
 cases op with
 | call c=>
  obtain⟨callee,args,at_⟩:=c
  cases callee with
  | value f=>
   simp only [Cp]
   cases e f with
   | fn f cap=>exact lj (zi (HT _ _ _)) (bR _)
   | _=>exact bR _
  | _=>exact qI fun _ _=>rfl
 | makeFunc fn first cap=>cases fn<;>exact qI fun _ _=>rfl
 | makeMap t r=>cases r<;>exact qI fun _ _=>rfl
 | _=>exact qI fun _ _=>rfl
theorem FY (ops:List Oper)(s:RS)(o:Oper):xe fun cf=>nj P cf aN ops s o:=by
 refine fi (bR (iE ops s.ρ o)) fun w=>?_
 exact lj (D5 _ _ _) (bR _)
theorem AR (ops:List Oper):∀(os:List Oper) (s:RS),xe fun cf=>tA P cf aN ops s os
 | [],s=>bR _
 | o::os,s=>fi (FY ops s o) fun s'=>AR ops os s'
theorem AS (ops:List Oper):∀(os:List Oper) (s:RS),xe fun cf=>rO P cf aN ops s os
 | [],s=>bR _
 | o::os,s=>fi (bR (iE ops s.ρ o)) fun w=>fi (lj (D5 _ _ _) (bR _)) fun s1=>zi (AS ops os s1)
theorem CW (ops:Array Oper)(s:RS):xe fun cf=>mr P cf aN ops s:=by
 unfold mr
 exact lj (fi (AS _ _ _) fun x=>bR _) (bR _)
theorem xV {f:CallF→St→Option (Ex × St)}(hf:∀s,xe fun cf=>f cf s):∀(n:Nat) (s:St),xe fun cf=>lK (f cf) n s
 | 0,s=>bR _
 | n+1,s=>fi (hf s) fun x=>by
  obtain⟨x,s'⟩:=x
  cases x with
  | norm=>exact xV hf n s'
  | _=>exact bR _
theorem jQ (A:b9)(n:Nat):∀(c:Code) (s:St),xe fun cf=>b4 P cf A n c s
 | .skip,s=>by simp only [b4]; exact bR _
 | .label _,s=>by simp only [b4]; exact bR _
 | .ret,s=>by simp only [b4]; exact bR _
 | .exit _,s=>by simp only [b4]; exact bR _
 | .seq a b,s=>by
  simp only [b4]
  exact fi (jQ A n a s) fun x=>by
   obtain⟨x,s'⟩:=x
   cases x with
   | norm=>exact jQ A n b s'
   | _=>exact bR _
 | .cond k x y,s=>by
  simp only [b4]
  exact fi (bR _) fun t=>lj (jQ A n x s) (jQ A n y s)
 | .block id b,s=>by simp only [b4]; exact zi (jQ A n b s)
 | .loop b,s=>by simp only [b4]; exact xV (fun s=>jQ A n b s) n s
 | .region r ops draw,s=>by
  simp only [b4]
  exact fi (bR _) fun s=>fi (lj (CW _ _) (AR _ _ _)) fun s'=>bR _
 | .rangeFunc ..,s=>by simp only [b4]; exact bR _
 | .scope _,s=>by simp only [b4]; exact bR _
 | .goto _,s=>by simp only [b4]; exact bR _
 | .refuse _,s=>by simp only [b4]; exact bR _
theorem lY (aV:FuncId→b9)(m:Nat)(f:FuncId)(args:List AV)(h:AHeap):xe fun cf=>bg P aV cf m f args h:=by
 unfold bg
 refine fi (bR _) fun fn=>fi (bR _) fun c=>lj (fi (jQ _ _ _ _) fun x=>bR _) (bR _)
end
def vA (P:Program)(T:pT)(m:Nat)(cf:CallF):CallF:=fun f args h=>
 match T.intr f with
 | some g=>g args h
 | none=>
  match T.pure f with
  | some deep=>if ef args then (bg P T.aV cf m f (fE args) bS).bind fun x=>(cW x.2 deep x.1).map fun r=>(r,h) else
    match b5 h deep args with
    | some zs=>(bg P T.aV cf m f zs bS).bind fun x=>(gA x.2 deep x.1).map fun r=>(r,h)
    | none=>bg P T.aV cf m f (args.map aC) h
  | none=>bg P T.aV cf m f (args.map aC) h
section
variable {P:Program}{T:pT}{m:Nat}
theorem xW (f:FuncId)(args:List AV)(h:AHeap):xe fun cf=>vA P T m cf f args h:=by
 unfold vA
 cases T.intr f with
 | some g=>exact bR _
 | none=>
  cases T.pure f with
  | none=>exact lY _ _ _ _ _
  | some deep=>
   refine lj (fi (lY _ _ _ _ _) fun x=>bR _) ?_
   cases b5 h deep args with
   | none=>exact lY _ _ _ _ _
   | some zs=>exact fi (lY _ _ _ _ _) fun x=>bR _
theorem vB:∀(n:Nat) (f:FuncId) (args:List AV) (h:AHeap) (x:AV × AHeap),fM P T m n f args h=some x→fM P T m (n+1) f args h=some x
 | 0,f,args,h,x,hc=>by simp [fM] at hc
 | n+1,f,args,h,x,hc=>by
  obtain⟨l,h1,h2⟩:=xW (P:=P) (T:=T) (m:=m) f args h _ _ hc
  exact h2 (fM P T m (n+1)) fun e he=>vB n _ _ _ _ (h1 e he)
theorem qJ {n k:Nat}(hk:n≤k){f:FuncId}{args:List AV}{h:AHeap}{x:AV × AHeap}(hc:fM P T m n f args h=some x):fM P T m k f args h=some x:=by
 induction hk with
 | refl=>exact hc
 | step _ ih=>exact vB _ _ _ _ _ ih
open Classical in
noncomputable def jJ (P:Program)(T:pT)(m:Nat):CallF:=fun f args h=>if H:∃x n,fM P T m n f args h=some x then some (Classical.choose H) else none
theorem lZ {f:FuncId}{args:List AV}{h:AHeap}{x:AV × AHeap}:jJ P T m f args h=some x↔∃n,fM P T m n f args h=some x:=by
 have key:∀(H:∃x n,fM P T m n f args h=some x) (n:Nat),fM P T m n f args h=some x→Classical.choose H=x:=fun H n hn=>by
  obtain⟨k,hk⟩:=Classical.choose_spec H
  have h1:=qJ (Nat.le_max_left n k) hn
  have h2:=qJ (Nat.le_max_right n k) hk
  rw [h1] at h2
  exact (aa2 h2).symm
 unfold jJ
 constructor
 ·intro hc
  split at hc
  ·rename_i H
   obtain⟨n,hn⟩:=Classical.choose_spec H
   cases hc
   exact⟨n,hn⟩
  ·cases hc
 ·rintro⟨n,hn⟩
  have H:∃x n,fM P T m n f args h=some x:=⟨x,n,hn⟩
  rw [dif_pos H,key H n hn]
theorem FZ (l:List (FuncId × List AV × AHeap × (AV × AHeap)))(hl:∀e∈l,jJ P T m e.1 e.2.1 e.2.2.1=some e.2.2.2):∃n,∀e∈l,fM P T m n e.1 e.2.1 e.2.2.1=some e.2.2.2:=by
 induction l with
 | nil=>exact⟨0,fun e he=>by cases he⟩
 | cons a l ih=>
  obtain⟨n,hn⟩:=ih fun e he=>hl e (List.mem_cons_of_mem _ he)
  obtain⟨k,hk⟩:=lZ.1 (hl a List.mem_cons_self)
  refine⟨max n k,fun e he=>?_⟩
  rcases abb.1 he with rfl | he
  ·exact qJ (Nat.le_max_right n k) hk
  ·exact qJ (Nat.le_max_left n k) (hn e he)
theorem oy {f:FuncId}{args:List AV}{h:AHeap}{x:AV × AHeap}(hc:vA P T m (jJ P T m) f args h=some x):jJ P T m f args h=some x:=by
 obtain⟨l,h1,h2⟩:=xW (P:=P) (T:=T) (m:=m) f args h _ _ hc
 obtain⟨n,hn⟩:=FZ l h1
 exact lZ.2 ⟨n+1,h2 (fM P T m n) hn⟩
theorem HU (hP:Fit P)(s9:IntrOK P T.intr):CallOK P (jJ P T m):=fun f args h r h' hc=>by
 obtain⟨n,hn⟩:=lZ.1 hc
 exact vc hP s9 m n f args h r h' hn
theorem aY:Has bS []:=⟨fun j i c h=>by simp at h,fun j j' i c c' h=>by simp at h,Nat.zero_lt_one⟩
end
section
variable {P:Program}{T:pT}{m f deep:Nat}{h:AHeap}{xs ys:List AV}{y:AV}{x:AV × AHeap}
theorem jU (h1:T.intr f=none)(h2:T.pure f=some deep)(hd:kh+fh≤deep)(hx:lh xs ys)(hb:∃r h',bg P T.aV (jJ P T m) m f ys bS=some (r,h')∧vm h' r y):jJ P T m f xs h=some (y,h):=by
 obtain⟨r,h',hb,hf⟩:=hb
 refine oy ?_
 have hd:kh+1000≤deep:=abj (Nat.add_le_add_left (by decide) _) hd
 simp only [vA,h1,h2,hx.1,if_true,hx.2,hb,aaA,hf deep hd,aaG]
theorem bE (h1:T.intr f=none)(h2:T.pure f=some deep)(hd:kh+fh≤deep)(hx:eR fh h xs ys)(hb:∃r h',bg P T.aV (jJ P T m) m f ys bS=some (r,h')∧gf h' r y):jJ P T m f xs h=some (y,h):=by
 have h3:=hx deep hd
 have FB:kh+1000≤deep:=abj (Nat.add_le_add_left (by decide) _) hd
 by_cases hn:ef xs=true
 ·have:=jw deep xs ys hn h3
  obtain⟨r,h',hb,hf⟩:=hb
  exact jU h1 h2 hd ⟨hn,this.symm⟩ ⟨r,h',hb,hf.lI⟩
 ·obtain⟨r,h',hb,hf⟩:=hb
  refine oy ?_
  simp only [vA,h1,h2,hn,if_false,h3,hb,aaA,hf deep FB,aaG]
  simp
theorem iK (h1:T.intr f=none)(h2:T.pure f=none)(hx:xs.map aC=ys)(hb:bg P T.aV (jJ P T m) m f ys h=some x):jJ P T m f xs h=some x:=by
 refine oy ?_
 simp only [vA,h1,h2,hx,hb]
theorem qK (h1:T.intr f=none)(h2:T.pure f=none)(hx:xs.map aC=ys)(hb:∃r h',bg P T.aV (jJ P T m) m f ys h=some (r,h')∧r=y∧h'=h):jJ P T m f xs h=some (y,h):=by
 obtain⟨r,h',hb,rfl,rfl⟩:=hb
 exact iK h1 h2 hx hb
theorem D6 {g:List AV→AHeap→Option (AV × AHeap)}(h1:T.intr f=some g)(hx:g xs h=some x):jJ P T m f xs h=some x:=by
 refine oy ?_
 simp only [vA,h1,hx]
theorem mG {g:List AV→AHeap→Option (AV × AHeap)}(h1:T.intr f=some g):jJ P T m f xs h=g xs h:=by
 cases hg:g xs h with
 | some x=>exact D6 h1 hg
 | none=>
  cases hc:jJ P T m f xs h with
  | none=>rfl
  | some x=>
   obtain⟨n,hn⟩:=lZ.1 hc
   cases n with
   | zero=>simp [fM] at hn
   | succ n=>simp only [fM,h1,hg] at hn; cases hn
end
end Go.R
namespace Go.R
open Go
def cM:List ae→List Nat→List (ae × Nat)
 | [],_=>[]
 | n::ns,ids=>(n,ids.headD 0)::cM ns ids.tail
def L4 (ids:List Nat)(i:Int):Nat:=ids.getD i.toNat 0
def KO (ns:List ae)(ids:List Nat):List Nat:=(cM ns ids).map fun p=>p.2
def iL:da (ae × Nat):={n:=4,f:=fun x=>[.int .i64 x.1.kind,.int .i64 x.1.int,.str x.1.label,.rs x.2 0 x.1.args.length 1],len:=fun _=>rfl,pos:=by decide,flat:=false,pure:=fun _ h=>(by cases h),canon:=fun _=>rfl}
def Nx (p:ae × Nat):Nat × Ct:=(p.2,.sl p.1.args.length 1 (aa.l p.1.args))
def jH (ns:List ae)(ids:List Nat):Mem:=(cM ns ids).map Nx
theorem gr:∀(ns:List ae) (ids:List Nat),(cM ns ids).length=ns.length
 | [],_=>rfl
 | n::ns,ids=>by simp [cM,gr ns]
theorem vC (ids:List Nat):ids.headD 0=ids.getD 0 0:=by cases ids<;>rfl
theorem xX (ids:List Nat)(i:Nat):ids.tail.getD i 0=ids.getD (i+1) 0:=by cases ids<;>simp
theorem qL:∀(ns:List ae) (ids:List Nat) (i:Nat) (n:ae),ns[i]? = some n→(cM ns ids)[i]? = some (n,ids.getD i 0)
 | [],_,i,n,h=>by simp at h
 | a::ns,ids,0,n,h=>by
  simp only [abk,aaD] at h
  subst h
  show (some (a,ids.headD 0):Option (ae × Nat))=some (a,ids.getD 0 0)
  rw [vC]
 | a::ns,ids,i+1,n,h=>by
  simp only [abR] at h
  have:=qL ns ids.tail i n h
  simp only [cM,abR,this,xX]
theorem lk {ns:List ae}{ids:List Nat}{i:Int}{n:ae}(h:ix ns i=some n):ix (cM ns ids) i=some (n,L4 ids i):=by
 obtain⟨h0,h1,h2⟩:=hH h
 unfold ix L4
 rw [if_pos h0,qL ns ids _ _ h2]
theorem vD:∀(ns:List ae) (ids:List Nat) (n:ae) (ad:Nat),cM (ns++[n]) (KO ns ids++[ad])=cM ns ids++[(n,ad)]
 | [],ids,n,ad=>rfl
 | a::ns,ids,n,ad=>by
  have:=vD ns ids.tail n ad
  simp only [KO,cM,aa6,aa0,List.headD_cons,List.tail_cons] at this ⊢
  rw [this]
theorem vE:∀(ns:List ae) (ids:List Nat) (i:Nat) (n:ae),cM (ns.set i n) ids=(cM ns ids).set i (n,ids.getD i 0)
 | [],_,_,_=>rfl
 | a::ns,ids,0,n=>by
  show (n,ids.headD 0)::cM ns ids.tail=(n,ids.getD 0 0)::cM ns ids.tail
  rw [vC]
 | a::ns,ids,i+1,n=>by
  have:=vE ns ids.tail i n
  simp only [List.set_cons_succ,cM,this,xX]
theorem KP (ns:List ae)(ids:List Nat)(n:ae)(ad:Nat):jH (ns++[n]) (KO ns ids++[ad])=jH ns ids++[Nx (n,ad)]:=by
 unfold jH; rw [vD,aa8]; rfl
theorem KQ (ns:List ae)(ids:List Nat)(i:Nat)(n:ae):jH (ns.set i n) ids=(jH ns ids).set i (Nx (n,ids.getD i 0)):=by
 unfold jH; rw [vE,List.map_set]
theorem Has.perm {h:AHeap}{K K':Mem}(o:Has h K)(p:K'.Perm K):Has h K':=by
 have hP:K.Pairwise fun a b=>a.1≠0→a.1≠b.1:=by
  rw [ab3]
  intro i j hi hj xM h0 he
  have:=o.nd i j K[i].1 K[i].2 K[j].2 (by rw [aaL hi]) (by rw [aaL hj,he]) h0
  omega
 have TD:K'.Pairwise fun a b=>a.1≠0→a.1≠b.1:=(p.pairwise_iff (fun {a b} h h0 he=>h (by rw [←he]; exact h0) he.symm)).2 hP
 rw [ab3] at TD
 refine⟨fun j i c hj=>?_,fun j j' i c c' hj MN h0=>?_,o.pos⟩
 ·obtain⟨j',MN⟩:=List.getElem?_of_mem (p.mem_iff.1 (abI hj))
  exact o.at_ j' i c MN
 ·obtain⟨a1,a2⟩:=aaK.1 hj
  obtain⟨b1,b2⟩:=aaK.1 MN
  rcases Nat.lt_trichotomy j j' with hl | hl | hl
  ·have:=TD j j' a1 b1 hl
   rw [a2,b2] at this
   exact absurd rfl (this h0)
  ·exact hl
  ·have:=TD j' j b1 a1 hl
   rw [a2,b2] at this
   exact absurd rfl (this h0)
section
variable {P:Program}{t t2 tf:TypeId}{h:AHeap}{pre L:Mem}{ns r:List ae}{ids:List Nat}{i ad k n2:Nat}{j a v:Int}{n:ae}
theorem sa (hx:ix ns j=some n):(pre++(jH ns ids++L))[pre.length+j.toNat]? = some (L4 ids j,.sl n.args.length 1 (aa.l n.args)):=by
 obtain⟨h0,h1,h2⟩:=hH hx
 rw [aaY (by omega),abH]
 have hl:j.toNat<(jH ns ids).length:=by unfold jH; rw [aaX,gr]; omega
 rw [abf hl]
 unfold jH
 rw [abi,qL ns ids _ _ h2]
 rfl
theorem Has.gone (o:Has h (pre++(jH ns ids++L))):Has h (pre++L):=by
 refine o.sub (fun q=>if q<pre.length then q else q+(jH ns ids).length) (fun q p hq=>?_) (fun q q' he=>?_)
 ·by_cases hl:q<pre.length
  ·rw [abf hl] at hq
   rw [if_pos hl,abf hl]; exact hq
  ·rw [aaY (by omega)] at hq
   rw [if_neg hl,aaY (by omega),aaY (by omega),←hq]
   congr 1; omega
 ·split at he<;>split at he<;>omega
theorem Ny {b:Nat}{kind int:Int}{label:ByteArray}{args:List Int}{x:AV}(T:w9 P t 4 b=true)(o:Has h ((i,.sl k 4 (iL.l (cM ns ids)))::(ad,.sl n2 1 (aa.l args))::(pre++(jH ns ids++L))))
  (hx:fJ h 4 x=some ([.int .i64 kind,.int .i64 int,.str label,.rs ad 0 n2 1],1)) (hZ:kC P t2 x=true) (hr:app b ns [⟨kind,int,label,args⟩]=some r) :
  ∃i' Qe h',fu P h t t2 (.rs i 0 k 4) x=some (.rs i' 0 r.length 4,h')∧Has h' ((i',.sl r.length 4 (iL.l (cM r Qe)))::(pre++(jH r Qe++L))):=by
 have hn:n2=args.length:=dP (E:=aa) o (q:=1) rfl
 subst hn
 obtain⟨_,_,rfl⟩:=j4 hr
 have AB:app b (cM ns ids) [((⟨kind,int,label,args⟩:ae),ad)]=some (cM ns ids++[((⟨kind,int,label,args⟩:ae),ad)]):=by
  unfold app at hr ⊢
  rw [gr]
  split at hr
  ·rename_i hh
   simp only [aaR,abg] at hh ⊢
   rw [if_pos hh]
  ·cases hr
 have GN:fJ h iL.n x=some (iL.l [((⟨kind,int,label,args⟩:ae),ad)],[((⟨kind,int,label,args⟩:ae),ad)].length):=hx
 obtain⟨i',h',e,o'⟩:=cL (E:=iL) (l:=cM ns ids) (q:=0) T o rfl GN hZ AB
 have e:fu P h t t2 (.rs i 0 k 4) x=some (.rs i' 0 (cM ns ids++[((⟨kind,int,label,args⟩:ae),ad)]).length 4,h'):=e
 refine⟨i',KO ns ids++[ad],h',?_,?_⟩
 ·rw [e,aaI,aaI,gr]; rfl
 ·rw [KP,vD]
  have o':Has h' ((i',.sl (cM ns ids++[((⟨kind,int,label,args⟩:ae),ad)]).length 4 (iL.l (cM ns ids++[((⟨kind,int,label,args⟩:ae),ad)])))::Nx (⟨kind,int,label,args⟩,ad)::(pre++(jH ns ids++L))):=o'
  have el:(ns++[(⟨kind,int,label,args⟩:ae)]).length=(cM ns ids++[((⟨kind,int,label,args⟩:ae),ad)]).length:=by
   rw [aaI,aaI,gr]; rfl
  rw [el]
  refine o'.perm (List.Perm.cons _ ?_)
  have k1:pre++((jH ns ids++[Nx ((⟨kind,int,label,args⟩:ae),ad)])++L)=(pre++jH ns ids)++Nx (⟨kind,int,label,args⟩,ad)::L:=by simp
  have k2:pre++(jH ns ids++L)=(pre++jH ns ids)++L:=by simp
  rw [k1,k2]
  exact List.perm_middle
theorem Nz {old:Int}(o:Has h ((i,.sl k 4 (iL.l (cM ns ids)))::(pre++(jH ns ids++L))))(hs:fe P tf=some 1)(hx:ix ns j=some n)(hk:ix n.args a=some old) :
  ∃h',jO P h tf (.ptr (L4 ids j) (0+a.toNat*1)) (.int .i64 v)=some h'∧
   Has h' ((i,.sl k 4 (iL.l (cM (ns.set j.toNat ⟨n.kind,n.int,n.label,n.args.set a.toNat v⟩) ids)))::(pre++(jH (ns.set j.toNat ⟨n.kind,n.int,n.label,n.args.set a.toNat v⟩) ids++L))):=by
 obtain⟨h0,h1,h2⟩:=hH hx
 have hq:=sa (pre:=(i,.sl k 4 (iL.l (cM ns ids)))::pre) (L:=L) (ids:=ids) hx
 obtain⟨h',e,o'⟩:=eG (P:=P) (tf:=tf) (E:=aa) (l:=n.args) (v:=v) (x:=.int .i64 v) o hq hs hk rfl rfl
 refine⟨h',e,?_⟩
 have hl:j.toNat<(jH ns ids).length:=by unfold jH; rw [aaX,gr]; omega
 have e1:iL.l (cM (ns.set j.toNat ⟨n.kind,n.int,n.label,n.args.set a.toNat v⟩) ids)=iL.l (cM ns ids):=by
  rw [vE]
  have hz:=qL ns ids _ _ h2
  have:=da.Hw (E:=iL) (l:=cM ns ids) (i:=j.toNat) (a:=(n,ids.getD j.toNat 0)) (b:=(⟨n.kind,n.int,n.label,n.args.set a.toNat v⟩,ids.getD j.toNat 0)) hz []
  have h3:=da.Hw (E:=iL) (l:=cM ns ids) (i:=j.toNat) (a:=(n,ids.getD j.toNat 0)) (b:=(n,ids.getD j.toNat 0)) hz []
  have hf:iL.f (⟨n.kind,n.int,n.label,n.args.set a.toNat v⟩,ids.getD j.toNat 0)=iL.f (n,ids.getD j.toNat 0):=by
   show [AV.int .i64 n.kind,.int .i64 n.int,.str n.label,.rs (ids.getD j.toNat 0) 0 (n.args.set a.toNat v).length 1]=_
   rw [aaN]; rfl
  rw [hf,h3] at this
  rw [abu,abu] at this
  rw [←this]
  congr 1
  obtain⟨g1,g2⟩:=aaK.1 hz
  rw [←g2,List.set_getElem_self]
 rw [e1,KQ]
 have e2:((((i,Ct.sl k 4 (iL.l (cM ns ids)))::pre)++(jH ns ids++L)).set (((i,Ct.sl k 4 (iL.l (cM ns ids)))::pre).length+j.toNat) (L4 ids j,.sl n.args.length aa.n (aa.l (n.args.set a.toNat v)))) =
   ((i,Ct.sl k 4 (iL.l (cM ns ids)))::pre)++((jH ns ids).set j.toNat (Nx (⟨n.kind,n.int,n.label,n.args.set a.toNat v⟩,ids.getD j.toNat 0))++L):=by
  rw [acf _ _ (by omega),abH,List.set_append_left _ _ hl]
  show _=((i,Ct.sl k 4 (iL.l (cM ns ids)))::pre)++((jH ns ids).set j.toNat (ids.getD j.toNat 0,.sl (n.args.set a.toNat v).length 1 (aa.l (n.args.set a.toNat v)))++L)
  rw [aaN]; rfl
 have o2:Has h' ((((i,Ct.sl k 4 (iL.l (cM ns ids)))::pre)++(jH ns ids++L)).set (((i,Ct.sl k 4 (iL.l (cM ns ids)))::pre).length+j.toNat) (L4 ids j,.sl n.args.length aa.n (aa.l (n.args.set a.toNat v)))):=o'
 rw [e2] at o2
 exact o2
def Qf:Nat:=2251799813685248
theorem AT:∀(ns:List ae) (ids:List Nat),(cM ns ids).map (fun p=>p.1)=ns
 | [],_=>rfl
 | n::ns,ids=>by simp [cM,AT ns]
theorem D7:∀(zs:List (ae × Nat)),(∀p∈zs,∀n,kh≤n→cW h n (.rs p.2 0 p.1.args.length 1)=some (aa.fz p.1.args))→∀n,kh+4*zs.length+1≤n→b5 h n (iL.l zs)=some (ah.l (zs.map fun p=>p.1))
 | [],_,n,hn=>by
  obtain⟨m,rfl⟩:∃m,n=m+1:=⟨n - 1,by omega⟩
  rfl
 | p::zs,hz,n,hn=>by
  obtain⟨m,rfl⟩:∃m,n=m+4+1:=⟨n - 5,by simp only [aaR] at hn; simp only [kh] at hn; omega⟩
  simp only [aaR] at hn
  have h1:=D7 zs (fun q hq=>hz q (by simp [hq])) (m+1) (by omega)
  have h2:=hz p (by simp) (m+1) (by omega)
  show b5 h (m+4+1) (.int .i64 p.1.kind :: .int .i64 p.1.int :: .str p.1.label :: .rs p.2 0 p.1.args.length 1::iL.l zs)=some (.int .i64 p.1.kind :: .int .i64 p.1.int :: .str p.1.label::aa.fz p.1.args::ah.l (zs.map fun p=>p.1))
  have a1:∀(n:Nat) (k:IntKind) (z:Int),cW h (n+1) (.int k z)=some (.int k z):=fun _ _ _=>rfl
  have a2:∀(n:Nat) (s:ByteArray),cW h (n+1) (.str s)=some (.str s):=fun _ _=>rfl
  rw [show m+4+1=(m+1+1+1+1)+1 by omega]
  simp only [b5,a1,a2,aaA,h1,h2,aaG]
theorem HV {q:Nat}(o:Has h (pre++(jH ns ids++L)))(hq:(pre++(jH ns ids++L))[q]? = some (i,.sl k 4 (iL.l (cM ns ids)))):mY Qf h (.rs i 0 k 4) (ah.fz ns):=by
 intro m hm
 have hk:k=(cM ns ids).length:=dP (E:=iL) o hq
 rw [gr] at hk
 subst hk
 obtain⟨⟨⟨hlen,Ce⟩,oo⟩,hlt⟩:=o.at_ _ _ _ hq
 have hlen:(iL.l (cM ns ids)).length=ns.length*4:=hlen
 obtain⟨k,rfl,hk⟩:=mF (show kh≤m by omega)
 simp only [cW]
 rcases oo with⟨h0,h1⟩| ⟨h0,rest,h1⟩
 ·have:ns=[]:=by simpa using h1
  subst this
  simp [h0,da.fz,da.l]
 ·rw [if_neg h0,h1]
  simp only [aaA]
  have e1:((iL.l (cM ns ids)++rest).drop 0).take (ns.length*4)=iL.l (cM ns ids):=by
   rw [aa3,aa7 (by omega),aa4 (by omega)]
  rw [if_pos (by rw [aaI,hlen]; omega),e1,D7 (cM ns ids) (fun p hp n hn=>?_) k (by rw [gr]; simp only [kh,Qf] at hm ⊢; omega),AT]
  ·rfl
  ·obtain⟨j,hj,e⟩:=ab7 hp
   have PV:(pre++(jH ns ids++L))[pre.length+j]? = some (p.2,.sl p.1.args.length 1 (aa.l p.1.args)):=by
    have hl:j<(jH ns ids).length:=by unfold jH; rw [aaX]; exact hj
    rw [aaY (by omega),abH,abf hl]
    unfold jH
    rw [abi,aaL hj,e]; rfl
   exact mS (E:=aa) (l:=p.1.args) o PV (fun _=>rfl) rfl n hn
end
end Go.R
namespace Go.R
open Go
inductive Cf
 | b (i:Nat) {x y:Bool} (h:x=y)
 | v (i:Nat) {e:Option AV} {z:AV} (h:e=some z)
 | w (i:Nat) {e:Option AHeap} {g:AHeap} (h:e=some g)
 | a (i:Nat) {e:Option (AV × AHeap)} {z:AV} {g:AHeap} (h:e=some (z,g))
 | m (i:Nat) {e:AV × AHeap} {z:AV} {g:AHeap} (h:e=(z,g))
def Cf.Yz:Cf→Nat × AV × Option AHeap
 | @b i x y h=>(i,.bool y,none)
 | @v i e z h=>(i,z,none)
 | @w i e g h=>(i,.any,some g)
 | @a i e z g h=>(i,z,some g)
 | @m i e z g h=>(i,z,some g)
def Cf.fr:Cf→AV × AHeap
 | @a i e z g h=>(z,g)
 | _=>(.any,bS)
def Cf.p:Cf→Prop
 | @b i x y h=>AV.bool x=AV.bool y
 | @v i e z h=>e=some z
 | @w i e g h=>e=some g
 | @a i e z g h=>e=some (z,g)
 | @m i e z g h=>e=(z,g)
theorem Cf.ok:∀g:Cf,g.p
 | @b i x y h=>congrArg AV.bool h
 | @v i e z h=>h
 | @w i e g h=>h
 | @a i e z g h=>h
 | @m i e z g h=>h
def F0:List Cf→Nd
 | []=>[]
 | g::gs=>g.Yz::F0 gs
def KR:List Cf→List (AV × AHeap)
 | []=>[]
 | g::gs=>g.fr::KR gs
def ps:List Cf→Prop
 | []=>True
 | g::gs=>g.p∧ps gs
theorem HW:∀gs,ps gs
 | []=>trivial
 | g::gs=>⟨g.ok,HW gs⟩
def cA:Code→Code
 | .seq a _=>a
 | .cond _ a _=>a
 | .block _ a=>a
 | .loop a=>a
 | _=>.skip
def cB:Code→Code
 | .seq _ b=>b
 | .cond _ _ b=>b
 | _=>.skip
def kd:Code→Nat
 | .skip=>0
 | .ret=>1
 | .seq _ _=>2
 | .loop _=>3
 | _=>9
def TE:Code→Option Nat
 | .exit i=>some i
 | _=>none
def TF:Code→Option Nat
 | .block i _=>some i
 | _=>none
def TG (A:b9)(c:Code)(s:St):Option AV:=
 match c with
 | .cond k _ _=>some (b8 (s.open A).ρ k)
 | _=>none
def nx (P:Program)(cf:CallF)(A:b9)(c:Code)(fs gs:List Cf)(s:St):St:=((oW P cf A c (KR fs) (F0 gs) s).map (·.2)).getD s
section
variable {P:Program}{cf:CallF}{A:b9}{m:Nat}{c:Code}{s:St}{Q R:Ex→St→Prop}
theorem uC (fs gs:List Cf)(hQ:Q .norm (nx P cf A c fs gs s))(h:(oW P cf A c (KR fs) (F0 gs) s).map (·.1)=some (ps fs∧ps gs):=by kernel_rfl):dA P cf A m c s Q:=by
 unfold nx at hQ
 obtain⟨⟨p,s'⟩,h1,rfl⟩:=aaC.1 h
 rw [h1] at hQ
 exact vh h1 ⟨HW fs,HW gs⟩ hQ
theorem qr (gs:List Cf)(hQ:Q .norm (nx P cf A c [] gs s))(h:(oW P cf A c [] (F0 gs) s).map (·.1)=some (True∧ps gs):=by kernel_rfl):dA P cf A m c s Q:=uC [] gs hQ h
theorem q0 (hQ:Q .norm (nx P cf A c [] [] s))(h:(oW P cf A c [] [] s).map (·.1)=some (True∧True):=by kernel_rfl):dA P cf A m c s Q:=uC [] [] hQ h
theorem Wd (h:kd c=2):c = .seq (cA c) (cB c):=by cases c<;>first | rfl | cases h
theorem qq (hQ:dA P cf A m (cA c) s (Nf (fun s'=>dA P cf A m (cB c) s' Q) Q))(h:kd c=2:=by kernel_rfl):dA P cf A m c s Q:=by rw [Wd h]; exact qv hQ
theorem We (fs gs:List Cf)(hQ:dA P cf A m (cB c) (nx P cf A (cA c) fs gs s) Q)(h:kd c=2:=by kernel_rfl)(h2:(oW P cf A (cA c) (KR fs) (F0 gs) s).map (·.1)=some (ps fs∧ps gs):=by kernel_rfl):dA P cf A m c s Q:=qq (uC fs gs hQ h2) h
theorem qs (gs:List Cf)(hQ:dA P cf A m (cB c) (nx P cf A (cA c) [] gs s) Q)(h:kd c=2:=by kernel_rfl)(h2:(oW P cf A (cA c) [] (F0 gs) s).map (·.1)=some (True∧ps gs):=by kernel_rfl):dA P cf A m c s Q:=We [] gs hQ h h2
theorem q1 (hQ:dA P cf A m (cB c) (nx P cf A (cA c) [] [] s) Q)(h:kd c=2:=by kernel_rfl)(h2:(oW P cf A (cA c) [] [] s).map (·.1)=some (True∧True):=by kernel_rfl):dA P cf A m c s Q:=We [] [] hQ h h2
theorem qk (hQ:Q .norm s)(h:kd c=0:=by kernel_rfl):dA P cf A m c s Q:=by
 have:c = .skip:=by cases c<;>first | rfl | cases h
 rw [this]; exact FN hQ
theorem qt (hQ:Q .ret s)(h:kd c=1:=by kernel_rfl):dA P cf A m c s Q:=by
 have:c = .ret:=by cases c<;>first | rfl | cases h
 rw [this]; exact AL hQ
theorem qx (i:Nat)(hQ:Q (.exit i) s)(h:TE c=some i:=by kernel_rfl):dA P cf A m c s Q:=by
 have:c = .exit i:=by cases c<;>first | (cases h; rfl) | cases h
 rw [this]; exact FO hQ
theorem qb (i:Nat)(hQ:dA P cf A m (cA c) s (Tt i Q))(h:TF c=some i:=by kernel_rfl):dA P cf A m c s Q:=by
 have:c = .block i (cA c):=by cases c<;>first | (cases h; rfl) | cases h
 rw [this]; exact CN hQ
theorem qc {α:Type}{b:Bool}{x y z:Option α}(H:(if b=true then x else y)=z)(ht:b=true→x=z→dA P cf A m (cA c) s Q)(hf:b=false→y=z→dA P cf A m (cB c) s Q)(h:TG A c s=some (.bool b):=by kernel_rfl):dA P cf A m c s Q:=by
 cases c<;>first | cases h | skip
 rename_i k a e
 exact rZ b (aa2 h) (fun hb=>ht hb (Yx hb H)) (fun hb=>hf hb (Yy hb H))
theorem uD (hQ:dA P cf A m (cA c) s Q)(h:TG A c s=some (.bool true):=by kernel_rfl):dA P cf A m c s Q:=by
 cases c<;>first | cases h | skip
 exact rZ true (aa2 h) (fun _=>hQ) (fun hb=>by cases hb)
theorem AU (hQ:dA P cf A m (cB c) s Q)(h:TG A c s=some (.bool false):=by kernel_rfl):dA P cf A m c s Q:=by
 cases c<;>first | cases h | skip
 exact rZ false (aa2 h) (fun hb=>by cases hb) (fun _=>hQ)
theorem ql {c':Code}(h:dA P cf A m c' s Q)(k:∀e s',Q e s'→R e s')(hc:c=c':=by kernel_rfl):dA P cf A m c s R:=by rw [hc]; exact xR h k
theorem qj {α β:Type}{S:α→St→Prop}(f:α→Option β){out:β}{z:Option β}(h0:z=some out)(hB:∀σ s,S σ s→f σ=some out→dA P cf A m (cB c) s Q)
  (hA:(∀σ s,S σ s→f σ=some out→dA P cf A m (cB c) s Q)→dA P cf A m (cA c) s (Nf (fun s'=>dA P cf A m (cB c) s' Q) Q)) (h:kd c=2:=by kernel_rfl):dA P cf A m c s Q:=by
 rw [Wd h]; exact qv (hA hB)
end
def bC {S O:Type}(P:Program)(cf:CallF)(A:b9)(m:Nat)(c:Code)(l:Nat→S→Option O)(R:S→St→Prop)(Q:O→Ex→St→Prop):Prop:=∀σ s out,R σ s→l m σ=some out→dA P cf A m (.loop c) s (Q out)
theorem gk {S O:Type}{P:Program}{cf:CallF}{A:b9}{m:Nat}{c:Code}{l:Nat→S→Option O}{R:S→St→Prop}{Q:O→Ex→St→Prop}(h0:∀σ,l 0 σ=none)
  (step:∀k σ s out,R σ s→l (k+1) σ=some out→dA P cf A m c s (Ht l R Q k out)):bC P cf A m c l R Q:=fun _ _ _ hr H=>FP l R Q h0 step hr H (fun _ _ _ h=>h)
def NA:Nat→List Nat→List Nat
 | _,[]=>[]
 | k,x::xs=>bif abp (k % 2) 1 then x::NA (k / 2) xs else NA (k / 2) xs
def Qg (keep:List Nat):Nat→List Nat→List (Nat × List Nat)
 | _,[]=>[]
 | r,k::ks=>(r,NA k keep)::Qg keep (r+1) ks
def gm (keep aN ms:List Nat)(lI Fj:List (Nat × List (Nat × Option Nat × Nat))):b9:={keep:=keep,aN:=aN,dead:=Qg keep 0 ms,lI:=lI,Fj:=Fj}
theorem dX {α:Type}{b:Bool}{x y z:α}(H:(if b=true then x else y)=z):(b=true∧x=z)∨(b=false∧y=z):=by
 cases b with
 | true=>exact .inl ⟨rfl,H⟩
 | false=>exact .inr ⟨rfl,H⟩
theorem oi {α:Type}{a b:α}(h:some a=some b):a=b:=aa2 h
theorem cp {P:Program}{A:b9}{s:St}{rs:List ResultVar}{y:AV}(av:AV)(g:AHeap)(h:gf g av y)(h1:aH P (s.open A) rs=some av:=by kernel_rfl)(h2:s.h=g:=by kernel_rfl):∃av,aH P (s.open A) rs=some av∧gf s.h av y:=⟨av,h1,h2 ▸ h⟩
theorem oF {P:Program}{A:b9}{s:St}{rs:List ResultVar}{y:AV}(av:AV)(g:AHeap)(h:vm g av y)(h1:aH P (s.open A) rs=some av:=by kernel_rfl)(h2:s.h=g:=by kernel_rfl):∃av,aH P (s.open A) rs=some av∧vm s.h av y:=⟨av,h1,h2 ▸ h⟩
theorem he {g g':AHeap}{K:Mem}(o:Has g K)(h:g'=g:=by kernel_rfl):Has g' K:=h ▸ o
end Go.R
