/- Part of the proof: RBuf1, RBuf2, RBuf3, RBuf4, RBuf5, RG9, PR1, RFix, RGN, RGL. -/
import Derived.Test.YtmekcfdllhphlaaDoorK5
import Derived.Shelf.LaysM
import Derived.Shelf.Bytes.GrowAt
import Derived.Lib.ByteType
import Derived.Lib.BufferAt
import Derived.Lib.BufferKept
import Derived.Lib.Walk
import Derived.Lib.BufferWrite
import Derived.Lib.Hide
import Derived.WalkKit
import Derived.BigCall
import Derived.BigGuard
import Derived.KernelRfl
set_option linter.unusedVariables false
set_option linter.unusedSimpArgs false
set_option maxRecDepth 100000
open Array renaming getElem?_eq_some_iff → X0, length_toList → Yg, getElem?_toList → YL, getElem?_eq_getElem → YN
open BitVec renaming ofNat → Yi, ofInt → YB
open List renaming getElem?_eq_some_iff → XA, length_append → XB, length_set → XC, getElem?_eq_getElem → XD, mem_singleton → XE, append_assoc → XF, mem_append → XH, length_map → XI, getElem?_eq_none → XL, map_cons → XN, getElem?_append_right → XO, mem_map → XQ, length_cons → XR, cons_append → XU, map_append → XW, take_append_of_le_length → XY, getElem?_map → XZ, take_of_length_le → X1, nil_append → X2, getElem?_append_left → X4, drop_zero → X6, getElem?_cons_zero → X7, mem_cons → X8, eq_nil_of_length_eq_zero → Ya, mem_append_left → Yb, ext_getElem? → Yh, length_nil → Yk, append_nil → Yr, mem_of_getElem? → Yu, take_add_one → Yx, getElem?_cons_succ → YD, length_take → YI, pairwise_iff_getElem → YO, getElem?_set_self → YT, set_append_right → YW, getElem?_set_ne → YY, getElem_of_mem → Y1
open Nat renaming le_refl → Xv, zero_add → XS, lt_of_lt_of_le → XX, le_trans → X9, beq → Yc, lt_succ_self → Yd, add_assoc → Ye, add_sub_cancel_left → Yt, lt_succ_of_lt → Yw, le_succ → YG, mul_one → YZ, zero_le → Y4
open Ne renaming symm → YK
open Option renaming bind_some → Xr, bind_eq_some_iff → Xs, map_eq_some_iff → Xt, map_some → Xx, getD_some → Yl
open Option.some renaming injEq → Xu, inj → XP
open Prod.mk renaming injEq → Xz
namespace Go.R
open Go Go.Proofs Go.Shelf Go.RowKit
variable {P:Program}{ρ:Ren}
structure BRow (T:TypeId)(R:Nat→Option Value)(e:TypeId)(b q:Nat)(lr:Int)(g l cap:Nat)(cur:Array Value)(w:World):Prop where
 three:LibA.Three w b q T R (.slice (some ⟨g,0,none⟩) l cap) (.int .i64 0) (.int .i8 lr)
 row:w.heap[g]? = some (.cells cur e (0,0))
 le:l≤cap
 most:cap≤maxLen
 size:cur.size=cap
 ne:g≠b
structure But (N:Nat→Prop)(w w':World):Prop where
 os:w'.os=w.os
 tape:w'.tape=w.tape
 output:w'.output=w.output
 size:w.heap.size≤w'.heap.size
 block:∀k,k<w.heap.size→¬N k→w'.heap[k]? = w.heap[k]?
theorem But.refl (N:Nat→Prop)(w:World):But N w w:=⟨rfl,rfl,rfl,Xv _,fun _ _ _=>rfl⟩
theorem But.trans {N:Nat→Prop}{w w' w'':World}(a:But N w w')(b:But N w' w''):But N w w'':=
 ⟨b.os.trans a.os,b.tape.trans a.tape,b.output.trans a.output,X9 a.size b.size,fun k hk hn=>(b.block k (XX hk a.size) hn).trans (a.block k hk hn)⟩
theorem But.mono {N N':Nat→Prop}{w w':World}(a:But N w w')(h:∀k,k<w.heap.size→N k→N' k):But N' w w':=
 ⟨a.os,a.tape,a.output,a.size,fun k hk hn=>a.block k hk fun h'=>hn (h k hk h')⟩
theorem But.setCell {N:Nat→Prop}{w w':World}(a:But N w w'){b:Nat}(hb:b<w.heap.size→N b)(o:Nat)(v:Value):But N w (w'.setCell ⟨b,o,none⟩ v):=
 ⟨a.os,a.tape,a.output,by simpa [World.setCell] using a.size,fun k hk hn=>(Below.heap_setCell w' ⟨b,o,none⟩ v k (by rintro rfl; exact hn (hb hk))).trans (a.block k hk hn)⟩
theorem But.alloc {N:Nat→Prop}{w w':World}(a:But N w w')(o:Obj):But N w (w'.alloc o):=
 ⟨a.os,a.tape,a.output,X9 a.size (by simp),fun k hk hn=>(Below.heap_alloc w' o k (XX hk a.size)).trans (a.block k hk hn)⟩
theorem But.below {N:Nat→Prop}{w w' w'':World}(a:But N w w')(h:Below w'.heap.size w' w''):But N w w'':=
 a.trans ⟨h.os,h.tape,h.output,h.size,fun k hk _=>h.block k hk⟩
theorem heap_setCell_other (w:World){b k:Nat}(o:Nat)(v:Value)(h:k≠b):(w.setCell ⟨b,o,none⟩ v).heap[k]? = w.heap[k]?:=
 Below.heap_setCell w ⟨b,o,none⟩ v k h
set_option maxHeartbeats 12800000 in
theorem grow_row (L:LaysM.n252 P ρ)(T:TypeId)(R:Nat→Option Value)(b q g l cap n:Nat)(lr:Int)(cur:Array Value)(w:World)(h:BRow T R (ρ.t 5) b q lr g l cap cur w)
  (h1:∀v∈cur.toList.take l,v.oneCell'=true) (hl0:l≠0) (hn:1≤n) (hroom:cap - l<n) (hlim:l+n≤140737488355328) :
  Calls P (ρ.f 252) #[.pointer (some ⟨b,q,none⟩),.int .i64 n] w fun e w'=>e = .returned (.int .i64 l)∧
   ∃g' cap' cur',BRow T R (ρ.t 5) b q lr g' (l+n) cap' cur' w'∧cur'.toList.take l=cur.toList.take l∧w.heap.size≤g'∧But (· = b) w w':=by
 have mixed:=L.mixed
 have t5:=L.t5; have a5:=L.a5; have z5:=L.z5; have v5:=L.v5
 have t130:=L.t130; have a130:=L.a130; have z130:=L.z130; have v130:=L.v130
 have t3:=L.t3; have a3:=L.a3; have z3:=L.z3; have v3:=L.v3
 have t4:=L.t4; have a4:=L.a4; have z4:=L.z4; have v4:=L.v4
 have t0:=L.t0; have a0:=L.a0; have z0:=L.z0; have v0:=L.v0
 have t93:=L.t93; have u93:=run_underlying L.t93; have a93:=L.a93; have z93:=L.z93; have v93:=L.v93
 have t131:=L.t131; have a131:=L.a131; have z131:=L.z131; have v131:=L.v131
 have t37:=L.t37; have a37:=L.a37; have z37:=L.z37; have v37:=L.v37
 have t75:=L.t75; have a75:=L.a75; have z75:=L.z75; have v75:=L.v75
 have e181:∀args w,(callFunc (ρ.f 181) args).run P w = .ok (.enter (ρ.f 181) args) w:=enters_of L.f181 (by kernel_rfl) rfl
 have e251:∀args w,(callFunc (ρ.f 251) args).run P w = .ok (.enter (ρ.f 251) args) w:=enters_of L.f251 (by kernel_rfl) rfl
 have e290:∀args w,(callFunc (ρ.f 290) args).run P w = .ok (.enter (ρ.f 290) args) w:=enters_of L.f290 (by kernel_rfl) rfl
 obtain⟨hbk,hg,hlc,hcm,hcs,hgb⟩:=h
 have hlen:(cur.toList.take l).length=l:=by rw [YI,Yg]; omega
 have hIs:LibA.IsBuffer T R (ρ.t 5) 0 b q (cur.toList.take l) w:=by
  have:=LibA.isBuffer_mk (e:=ρ.t 5) (B:=0) (Y4 _) hbk (Y4 _) hg hlc hcm hcs hgb
  exact this
 have hnil:∀W,(binOp .eql (ρ.t 37) (.slice (some ⟨g,0,none⟩) l cap) (.slice none 0 0)).run P W = .ok (.bool false) W:=fun W=>Lib.run_eql_slice_some_nil W _ _ _ L.t37
 go_enter L.f252,Body.n252_ntmps ρ
 go_wp2_with (go_at_fn (ρ.f 181); refine (Any.Buffer_Len_at {L with} T R 0 b q _ _ hIs).mono ?_)
 rintro e W0 ⟨rfl,k,hW0⟩
 rw [hlen]
 have hbk0:LibA.Three W0 b q T R (.slice (some ⟨g,0,none⟩) l cap) (.int .i64 0) (.int .i8 lr):=by rw [hW0]; exact hbk
 have hg0:W0.heap[g]? = some (.cells cur (ρ.t 5) (0,0)):=by rw [hW0]; exact hg
 have c0:W0.cell? ⟨b,q,none⟩=some (.slice (some ⟨g,0,none⟩) l cap):=hbk0.c0
 have c1:W0.cell? ⟨b,q+1,none⟩=some (.int .i64 0):=hbk0.c1
 have f0:W0.frozen? ⟨b,q,none⟩=false:=hbk0.f q
 have f1:W0.frozen? ⟨b,q+1,none⟩=false:=hbk0.f (q+1)
 have HW0:=Lib.hid hW0
 clear hW0 hIs hlen
 have hcm':=hcm
 unfold maxLen at hcm'
 go_wp2_with (go_at_fn (ρ.f 251); refine (Any.Buffer_tryGrow_none_at {L with} b q _ l cap n _ c0 hlc hcm hroom).mono ?_; rintro e w' ⟨rfl,rfl⟩)
 have hc2:cap≤140737488355328:=by omega
 have hbW:=hbk0.lt
 have hwn:IntKind.i64.wrap (n:Int)=n:=by rw [IntKind.wrap_i64]; omega
 go_region_with_o (
   go_at_fn (ρ.f 290)
   refine (Any.bytes_growSlice_row {L with} g l cap n cur _ ?_ hcs hlc hn hlim hc2 h1).mono ?_
   exact hg0
   rintro e w2 ⟨cap2,cells,rfl,hN,hcsz,htk,hcap2,hcm2,hbel⟩
   have hbk2:LibA.Three w2 b q T R (.slice (some ⟨g,0,none⟩) l cap) (.int .i64 0) (.int .i8 lr):=hbk0.of_heap (hbel.block b hbW)
   have d0:w2.cell? ⟨b,q,none⟩=some (.slice (some ⟨g,0,none⟩) l cap):=hbk2.c0
   have d1:w2.cell? ⟨b,q+1,none⟩=some (.int .i64 0):=hbk2.c1
   have e0:w2.frozen? ⟨b,q,none⟩=false:=hbk2.f q
   have e1:w2.frozen? ⟨b,q+1,none⟩=false:=hbk2.f (q+1))
 all_goals (
  go_wp2
  go_ret
  have hsz0:w'.drew.heap.size=w.heap.size:=by rw [HW0.out]; rfl
  have hb0:But (· = b) w w'.drew:=by rw [HW0.out]; exact⟨rfl,rfl,rfl,Xv _,fun _ _ _=>rfl⟩
  have hne:w'.drew.heap.size≠b:=by have:b<w'.drew.heap.size:=hbW; omega
  refine⟨rfl,w'.drew.heap.size,cap2,cells,⟨((hbk2.set0 _).set1 _).set0 _,?_,hcap2,hcm2,hcsz,hne⟩,htk,by omega,(((hb0.below hbel).setCell (fun _=>rfl) q _).setCell (fun _=>rfl) (q+1) _).setCell (fun _=>rfl) q _⟩
  rw [heap_setCell_other _ _ _ hne,heap_setCell_other _ _ _ hne,heap_setCell_other _ _ _ hne]
  exact hN)
set_option maxHeartbeats 12800000 in
theorem grow_small (L:LaysM.n252 P ρ)(T:TypeId)(R:Nat→Option Value)(b q n:Nat)(lr:Int)(w:World)
  (hbk:LibA.Three w b q T R (.slice none 0 0) (.int .i64 0) (.int .i8 lr)) (hn:1≤n) (h64:n≤64) :
  Calls P (ρ.f 252) #[.pointer (some ⟨b,q,none⟩),.int .i64 n] w fun e w'=>e = .returned (.int .i64 0)∧
   ∃g' cap' cur',BRow T R (ρ.t 5) b q lr g' n cap' cur' w'∧w.heap.size≤g'∧But (· = b) w w':=by
 have mixed:=L.mixed
 have t5:=L.t5; have a5:=L.a5; have z5:=L.z5; have v5:=L.v5
 have t130:=L.t130; have a130:=L.a130; have z130:=L.z130; have v130:=L.v130
 have t3:=L.t3; have a3:=L.a3; have z3:=L.z3; have v3:=L.v3
 have t4:=L.t4; have a4:=L.a4; have z4:=L.z4; have v4:=L.v4
 have t0:=L.t0; have a0:=L.a0; have z0:=L.z0; have v0:=L.v0
 have t93:=L.t93; have u93:=run_underlying L.t93; have a93:=L.a93; have z93:=L.z93; have v93:=L.v93
 have t131:=L.t131; have a131:=L.a131; have z131:=L.z131; have v131:=L.v131
 have t37:=L.t37; have a37:=L.a37; have z37:=L.z37; have v37:=L.v37
 have t75:=L.t75; have a75:=L.a75; have z75:=L.z75; have v75:=L.v75
 have e181:∀args w,(callFunc (ρ.f 181) args).run P w = .ok (.enter (ρ.f 181) args) w:=enters_of L.f181 (by kernel_rfl) rfl
 have e251:∀args w,(callFunc (ρ.f 251) args).run P w = .ok (.enter (ρ.f 251) args) w:=enters_of L.f251 (by kernel_rfl) rfl
 obtain⟨i0,hi,hz0,hz1,hz2⟩:=info_parts L.i5
 obtain⟨M,hM⟩:∃M,M=madeCells (Value.int .u8 0).cells ((64:Int).toNat*i0.size):=⟨_,rfl⟩
 have hMs:M.size=64:=by rw [hM,size_madeCells,hz1]; rfl
 have hmk:∀W:World,(Instr.makeSlice (ρ.t 37) (.int .i64 (n:Int)) (.int .i64 64)).run P W = .ok (.slice (some ⟨W.heap.size,0,none⟩) n 64) (W.alloc (.cells M (ρ.t 5))):=fun W=>by
  have h:=run_makeSlice (P:=P) W (ρ.t 37) (ρ.t 5) i0 (.int .u8 0) L.t37 hi hz0 .i64 .i64 (n:Int) 64 (by omega) (by omega) (by rw [hz1]; decide) (by rw [hz2]; decide) (by decide)
  rw [←hM] at h
  simpa using h
 clear hM
 have hIs:LibA.IsBuffer T R (ρ.t 5) 0 b q [] w:=LibA.zero_isBuffer (Y4 _) hbk
 have hnil:∀W,(binOp .eql (ρ.t 37) (.slice none 0 0) (.slice none 0 0)).run P W = .ok (.bool true) W:=fun W=>Lib.run_eql_slice_nil_nil W _ _ L.t37
 go_enter L.f252,Body.n252_ntmps ρ
 go_wp2_with (go_at_fn (ρ.f 181); refine (Any.Buffer_Len_at {L with} T R 0 b q [] _ hIs).mono ?_)
 rintro e W0 ⟨rfl,k,hW0⟩
 have hbk0:LibA.Three W0 b q T R (.slice none 0 0) (.int .i64 0) (.int .i8 lr):=by rw [hW0]; exact hbk
 have c0:W0.cell? ⟨b,q,none⟩=some (.slice none 0 0):=hbk0.c0
 have c1:W0.cell? ⟨b,q+1,none⟩=some (.int .i64 0):=hbk0.c1
 have f0:W0.frozen? ⟨b,q,none⟩=false:=hbk0.f q
 have f1:W0.frozen? ⟨b,q+1,none⟩=false:=hbk0.f (q+1)
 have hbW0:=hbk0.lt
 have c0a:∀o,(W0.alloc o).cell? ⟨b,q,none⟩=some (.slice none 0 0):=fun o=>(World.cell?_of_block (a:=⟨b,q,none⟩) (Below.heap_alloc W0 o b hbW0)).trans c0
 have f0a:∀o,(W0.alloc o).frozen? ⟨b,q,none⟩=false:=fun o=>(World.frozen?_of_block (a:=⟨b,q,none⟩) (Below.heap_alloc W0 o b hbW0)).trans f0
 have HW0:=Lib.hid hW0
 clear hW0 hIs
 go_wp2_with (go_at_fn (ρ.f 251); refine (Any.Buffer_tryGrow_none_at {L with} b q _ 0 0 n _ c0 (Xv _) (Y4 _) (by omega)).mono ?_; rintro e w' ⟨rfl,rfl⟩)
 go_ret
 have hsz0:w'.heap.size=w.heap.size:=by rw [HW0.out]; rfl
 have hb0:But (· = b) w w':=by rw [HW0.out]; exact⟨rfl,rfl,rfl,Xv _,fun _ _ _=>rfl⟩
 have hne:w'.heap.size≠b:=by omega
 have hbW1:b<(w'.setCell ⟨b,q,none⟩ (.slice (some ⟨w'.heap.size,0,none⟩) n 64)).heap.size:=by simpa [World.setCell] using hbW0
 have hNf:((w'.setCell ⟨b,q,none⟩ (.slice (some ⟨w'.heap.size,0,none⟩) n 64)).alloc (.cells M (ρ.t 5))).heap[w'.heap.size]? = some (.cells M (ρ.t 5) (0,0)):=by
  have h:=heap_alloc_new (w'.setCell ⟨b,q,none⟩ (.slice (some ⟨w'.heap.size,0,none⟩) n 64)) (.cells M (ρ.t 5))
  rwa [show (w'.setCell ⟨b,q,none⟩ (.slice (some ⟨w'.heap.size,0,none⟩) n 64)).heap.size=w'.heap.size by simp [World.setCell]] at h
 exact⟨rfl,w'.heap.size,64,M,⟨(hbk0.set0 _).of_heap (Below.heap_alloc _ _ b hbW1),hNf,h64,by unfold maxLen; omega,hMs,hne⟩,by omega,(hb0.setCell (fun _=>rfl) q _).alloc _⟩
section
variable {T e:TypeId}{R:Nat→Option Value}{lr:Int}{b q g l l' cap:Nat}{cur:Array Value}{w:World}
theorem take_set (hl:l<cur.size)(v:Value):(cur.setIfInBounds l v).toList.take (l+1)=cur.toList.take l++[v]:=by
 have hll:l<cur.toList.length:=by rw [Yg]; exact hl
 rw [Array.toList_setIfInBounds,Yx,List.take_set_of_le (Xv _),YT hll]
 rfl
theorem BRow.poke (h:BRow T R e b q lr g l' cap cur w)(i:Nat)(v:Value):BRow T R e b q lr g l' cap (cur.setIfInBounds i v) (w.setCell ⟨g,i,none⟩ v):=
 ⟨h.three.of_heap (Below.heap_setCell _ _ _ _ (YK h.ne)),Lib.heap_setCell_same (i:=i) h.row v,h.le,h.most,by simpa using h.size,h.ne⟩
theorem BRow.setRow (h:BRow T R e b q lr g l' cap cur w){C:Array Value}(hC:C.size=cap):BRow T R e b q lr g l' cap C (w.setRow g C):=
 ⟨h.three.of_heap (setRow_other _ _ _ _ (YK h.ne)),setRow_heap w g cur _ e (0,0) h.row,h.le,h.most,hC,h.ne⟩
theorem But.setRow {N:Nat→Prop}{w w':World}(a:But N w w'){g:Nat}(hg:g<w.heap.size→N g)(C:Array Value):But N w (w'.setRow g C):=
 ⟨a.os,a.tape,a.output,by simpa using a.size,fun k hk hn=>(setRow_other _ _ _ _ (by rintro rfl; exact hn (hg hk))).trans (a.block k hk hn)⟩
end
set_option maxHeartbeats 6400000 in
theorem writeByte_nil (L:LaysM.n179 P ρ)(T:TypeId)(R:Nat→Option Value)(b q:Nat)(c lr:Int)(w:World)(hbk:LibA.Three w b q T R (.slice none 0 0) (.int .i64 0) (.int .i8 lr)) :
  Calls P (ρ.f 179) #[.pointer (some ⟨b,q,none⟩),.int .u8 c] w fun e w'=>e = .returned .nilIface∧∃g' cap' cur',BRow T R (ρ.t 5) b q 0 g' 1 cap' cur' w'∧cur'.toList.take 1=[.int .u8 c]∧w.heap.size≤g'∧But (· = b) w w':=by
 have mixed:=L.mixed
 have t5:=L.t5; have a5:=L.a5; have z5:=L.z5; have v5:=L.v5
 have t130:=L.t130; have a130:=L.a130; have z130:=L.z130; have v130:=L.v130
 have t75:=L.t75; have a75:=L.a75; have z75:=L.z75; have v75:=L.v75
 have t0:=L.t0; have a0:=L.a0; have z0:=L.z0; have v0:=L.v0
 have t93:=L.t93; have u93:=run_underlying L.t93; have a93:=L.a93; have z93:=L.z93; have v93:=L.v93
 have t91:=L.t91; have a91:=L.a91; have z91:=L.z91; have v91:=L.v91
 have t3:=L.t3; have a3:=L.a3; have z3:=L.z3; have v3:=L.v3
 have t131:=L.t131; have a131:=L.a131; have z131:=L.z131; have v131:=L.v131
 have t4:=L.t4; have a4:=L.a4; have z4:=L.z4; have v4:=L.v4
 have t37:=L.t37; have a37:=L.a37; have z37:=L.z37; have v37:=L.v37
 have e251:∀args w,(callFunc (ρ.f 251) args).run P w = .ok (.enter (ρ.f 251) args) w:=enters_of L.f251 (by kernel_rfl) rfl
 have e252:∀args w,(callFunc (ρ.f 252) args).run P w = .ok (.enter (ρ.f 252) args) w:=enters_of L.f252 (by kernel_rfl) rfl
 have c2:w.cell? ⟨b,q+2,none⟩=some (.int .i8 lr):=hbk.c2
 have f2:w.frozen? ⟨b,q+2,none⟩=false:=hbk.f (q+2)
 have hbut:But (· = b) w (w.setCell ⟨b,q+2,none⟩ (.int .i8 0)):=(But.refl (· = b) w).setCell (fun _=>rfl) (q+2) _
 have hbk1:=hbk.set2 (.int .i8 0)
 have hsz:(w.setCell ⟨b,q+2,none⟩ (.int .i8 0)).heap.size=w.heap.size:=by simp [World.setCell]
 generalize hW:w.setCell ⟨b,q+2,none⟩ (.int .i8 0)=W at hbut hbk1 hsz
 have k0:W.cell? ⟨b,q,none⟩=some (.slice none 0 0):=hbk1.c0
 have hT:Calls P (ρ.f 251) #[.pointer (some ⟨b,q,none⟩),.int .i64 1] W _:=Any.Buffer_tryGrow_none_at {L with} b q none 0 0 1 W k0 (Xv _) (Y4 _) (by omega)
 have hG:Calls P (ρ.f 252) #[.pointer (some ⟨b,q,none⟩),.int .i64 1] W _:=grow_small {L with} T R b q 1 0 W hbk1 (Xv _) (by omega)
 clear hbk hbk1
 go_enter L.f179,Body.n179_ntmps ρ
 go_wp2_with (go_at_fn (ρ.f 251); (try rw [hW]); refine hT.mono ?_; rintro e w' ⟨rfl,rfl⟩)
 go_wp2_with (go_at_fn (ρ.f 252); refine hG.mono ?_)
 rintro e W1 ⟨rfl,g,cap,cur,hI,hge,hbut1⟩
 clear hT hG c2 f2
 have d0:W1.cell? ⟨b,q,none⟩=some (.slice (some ⟨g,0,none⟩) 1 cap):=hI.three.c0
 have hlt:0<cur.size:=by rw [hI.size]; exact hI.le
 have dg:W1.cell? ⟨g,0,none⟩=some cur[0]:=by rw [Lib.cell_of_heap hI.row,YN hlt]
 have fg:W1.frozen? ⟨g,0,none⟩=false:=Lib.frozen_of_heap hI.row _
 have hcm':=hI.most
 unfold maxLen at hcm'
 have hcl:=hI.le
 go_wp2
 go_ret
 refine⟨rfl,g,cap,_,hI.poke 0 (.int .u8 c),?_,by omega,(hbut.trans (hbut1.mono fun _ _ h=>h)).setCell (fun h=>by omega) 0 _⟩
 have:=take_set hlt (.int .u8 c)
 simpa using this
end Go.R
namespace Go.R
open Go Go.Proofs Go.Shelf Go.RowKit
variable {P:Program}{ρ:Ren}
set_option maxHeartbeats 12800000 in
theorem writeByte_row (L:LaysM.n179 P ρ)(T:TypeId)(R:Nat→Option Value)(b q g l cap:Nat)(c lr:Int)(cur:Array Value)(w:World)(h:BRow T R (ρ.t 5) b q lr g l cap cur w)
  (h1:∀v∈cur.toList.take l,v.oneCell'=true) (hl0:l≠0) (hlim:l+1≤140737488355328) :
  Calls P (ρ.f 179) #[.pointer (some ⟨b,q,none⟩),.int .u8 c] w fun e w'=>e = .returned .nilIface∧
   ∃g' cap' cur',BRow T R (ρ.t 5) b q 0 g' (l+1) cap' cur' w'∧cur'.toList.take (l+1)=cur.toList.take l++[.int .u8 c]∧(w.heap.size≤g'∨(g'=g∧cur'.size=cur.size))∧But (fun k=>k=b∨k=g') w w':=by
 have mixed:=L.mixed
 have t5:=L.t5; have a5:=L.a5; have z5:=L.z5; have v5:=L.v5
 have t130:=L.t130; have a130:=L.a130; have z130:=L.z130; have v130:=L.v130
 have t75:=L.t75; have a75:=L.a75; have z75:=L.z75; have v75:=L.v75
 have t0:=L.t0; have a0:=L.a0; have z0:=L.z0; have v0:=L.v0
 have t93:=L.t93; have u93:=run_underlying L.t93; have a93:=L.a93; have z93:=L.z93; have v93:=L.v93
 have t91:=L.t91; have a91:=L.a91; have z91:=L.z91; have v91:=L.v91
 have t3:=L.t3; have a3:=L.a3; have z3:=L.z3; have v3:=L.v3
 have t131:=L.t131; have a131:=L.a131; have z131:=L.z131; have v131:=L.v131
 have t4:=L.t4; have a4:=L.a4; have z4:=L.z4; have v4:=L.v4
 have t37:=L.t37; have a37:=L.a37; have z37:=L.z37; have v37:=L.v37
 have e251:∀args w,(callFunc (ρ.f 251) args).run P w = .ok (.enter (ρ.f 251) args) w:=enters_of L.f251 (by kernel_rfl) rfl
 have e252:∀args w,(callFunc (ρ.f 252) args).run P w = .ok (.enter (ρ.f 252) args) w:=enters_of L.f252 (by kernel_rfl) rfl
 have c2:w.cell? ⟨b,q+2,none⟩=some (.int .i8 lr):=h.three.c2
 have f2:w.frozen? ⟨b,q+2,none⟩=false:=h.three.f (q+2)
 have hbut:But (fun k=>k=b) w (w.setCell ⟨b,q+2,none⟩ (.int .i8 0)):=(But.refl (· = b) w).setCell (fun _=>rfl) (q+2) _
 have hI0:BRow T R (ρ.t 5) b q 0 g l cap cur (w.setCell ⟨b,q+2,none⟩ (.int .i8 0)):=⟨h.three.set2 _,(heap_setCell_other _ _ _ h.ne).trans h.row,h.le,h.most,h.size,h.ne⟩
 have hsz:(w.setCell ⟨b,q+2,none⟩ (.int .i8 0)).heap.size=w.heap.size:=by simp [World.setCell]
 generalize hW:w.setCell ⟨b,q+2,none⟩ (.int .i8 0)=W at hbut hI0 hsz
 have k0:W.cell? ⟨b,q,none⟩=some (.slice (some ⟨g,0,none⟩) l cap):=hI0.three.c0
 have kf:W.frozen? ⟨b,q,none⟩=false:=hI0.three.f q
 have hle:=h.le
 have hcm:=h.most
 by_cases hr:1≤cap - l
 ·have hT:Calls P (ρ.f 251) #[.pointer (some ⟨b,q,none⟩),.int .i64 1] W _:=Any.Buffer_tryGrow_room_at {L with} b q _ l cap 1 W k0 kf hle hcm hr
  clear c2 f2
  have c2:w.cell? ⟨b,q+2,none⟩=some (.int .i8 lr):=h.three.c2
  have f2:w.frozen? ⟨b,q+2,none⟩=false:=h.three.f (q+2)
  have hb1:BRow T R (ρ.t 5) b q 0 g (l+1) cap cur (W.setCell ⟨b,q,none⟩ (.slice (some ⟨g,0,none⟩) (l+1) cap)):=⟨hI0.three.set0 _,(heap_setCell_other _ _ _ h.ne).trans hI0.row,by omega,h.most,h.size,h.ne⟩
  have hbut1:=hbut.setCell (b:=b) (fun _=>rfl) q (.slice (some ⟨g,0,none⟩) (l+1) cap)
  clear hI0 k0 kf
  generalize hW1:W.setCell ⟨b,q,none⟩ (.slice (some ⟨g,0,none⟩) (l+1) cap)=W1 at hb1 hbut1
  have hT1:Calls P (ρ.f 251) #[.pointer (some ⟨b,q,none⟩),.int .i64 1] W fun e w'=>e = .returned (.tuple #[.int .i64 l,.bool true])∧w'=W1:=hT.mono fun e w' hh=>⟨hh.1,hh.2.trans hW1⟩
  clear hT
  have d0:W1.cell? ⟨b,q,none⟩=some (.slice (some ⟨g,0,none⟩) (l+1) cap):=hb1.three.c0
  have hlt:l<cur.size:=by rw [hb1.size]; exact hb1.le
  have dg:W1.cell? ⟨g,l,none⟩=some cur[l]:=by rw [Lib.cell_of_heap hb1.row,YN hlt]
  have fg:W1.frozen? ⟨g,l,none⟩=false:=Lib.frozen_of_heap hb1.row _
  have hcm':=hcm
  unfold maxLen at hcm'
  have hcl:=hb1.le
  clear hW1
  go_enter L.f179,Body.n179_ntmps ρ
  go_wp2_with (go_at_fn (ρ.f 251); (try rw [hW]); refine hT1.mono ?_; rintro e w' ⟨rfl,rfl⟩; clear hT1 c2 f2)
  go_ret
  exact⟨rfl,g,cap,_,hb1.poke l (.int .u8 c),take_set hlt _,.inr ⟨rfl,by simp⟩,(hbut1.mono fun _ _ h=>.inl h).setCell (fun _=>.inr rfl) l _⟩
 ·have hT:Calls P (ρ.f 251) #[.pointer (some ⟨b,q,none⟩),.int .i64 1] W _:=Any.Buffer_tryGrow_none_at {L with} b q _ l cap 1 W k0 hle hcm (by omega)
  have hG:Calls P (ρ.f 252) #[.pointer (some ⟨b,q,none⟩),.int .i64 1] W _:=grow_row {L with} T R b q g l cap 1 0 cur W hI0 h1 hl0 (Xv _) (by omega) hlim
  clear hI0 k0 kf hle hcm
  go_enter L.f179,Body.n179_ntmps ρ
  go_wp2_with (go_at_fn (ρ.f 251); (try rw [hW]); refine hT.mono ?_; rintro e w' ⟨rfl,rfl⟩)
  go_wp2_with (go_at_fn (ρ.f 252); refine hG.mono ?_)
  rintro e W1 ⟨rfl,g',cap',cur',hI,htk,hge,hbut1⟩
  clear hT hG c2 f2
  have d0:W1.cell? ⟨b,q,none⟩=some (.slice (some ⟨g',0,none⟩) (l+1) cap'):=hI.three.c0
  have hlt:l<cur'.size:=by rw [hI.size]; exact hI.le
  have dg:W1.cell? ⟨g',l,none⟩=some cur'[l]:=by rw [Lib.cell_of_heap hI.row,YN hlt]
  have fg:W1.frozen? ⟨g',l,none⟩=false:=Lib.frozen_of_heap hI.row _
  have hcm':=hI.most
  unfold maxLen at hcm'
  have hcl:=hI.le
  go_wp2
  go_ret
  exact⟨rfl,g',cap',_,hI.poke l (.int .u8 c),by rw [take_set hlt,htk],.inl (by omega),((hbut.trans hbut1).mono fun _ _ h=>.inl h).setCell (fun _=>.inr rfl) l _⟩
end Go.R
namespace Go.R
open Go Go.Proofs Go.Shelf Go.RowKit
variable {P:Program}{ρ:Ren}
theorem take_mid {cur:Array Value}{l m:Nat}{news:List Value}(hn:news.length=m)(hl:l+m≤cur.size) :
  (cur.toList.take l++news++cur.toList.drop (l+m)).toArray.size=cur.size∧(cur.toList.take l++news++cur.toList.drop (l+m)).toArray.toList.take (l+m)=cur.toList.take l++news:=by
 have h1:(cur.toList.take l).length=l:=by rw [YI,Yg]; omega
 refine⟨by simp only [List.size_toArray,XB,h1,hn,List.length_drop,Yg]; omega,?_⟩
 rw [List.toList_toArray,XY (by rw [XB,h1,hn]; exact Xv _),X1 (by rw [XB,h1,hn]; exact Xv _)]
set_option maxHeartbeats 12800000 in
theorem writeString_row (L:LaysM.n178 P ρ)(T:TypeId)(R:Nat→Option Value)(b q g l cap:Nat)(lr:Int)(s:ByteArray)(cur:Array Value)(w:World)(h:BRow T R (ρ.t 5) b q lr g l cap cur w)
  (h1:∀v∈cur.toList.take l,v.oneCell'=true) (hl0:l≠0) (hs0:s.size≠0) (hlim:l+s.size≤140737488355328) :
  Calls P (ρ.f 178) #[.pointer (some ⟨b,q,none⟩),.string s] w fun e w'=>e = .returned (.tuple #[.int .i64 s.size,.nilIface])∧
   ∃g' cap' cur',BRow T R (ρ.t 5) b q 0 g' (l+s.size) cap' cur' w'∧cur'.toList.take (l+s.size)=cur.toList.take l++Lib.byteCells s.data.toList∧(w.heap.size≤g'∨(g'=g∧cur'.size=cur.size))∧But (fun k=>k=b∨k=g') w w':=by
 have mixed:=L.mixed
 have t5:=L.t5; have a5:=L.a5; have z5:=L.z5; have v5:=L.v5
 have t130:=L.t130; have a130:=L.a130; have z130:=L.z130; have v130:=L.v130
 have t9:=L.t9; have a9:=L.a9; have z9:=L.z9; have v9:=L.v9
 have t3:=L.t3; have a3:=L.a3; have z3:=L.z3; have v3:=L.v3
 have t75:=L.t75; have a75:=L.a75; have z75:=L.z75; have v75:=L.v75
 have t0:=L.t0; have a0:=L.a0; have z0:=L.z0; have v0:=L.v0
 have t93:=L.t93; have u93:=run_underlying L.t93; have a93:=L.a93; have z93:=L.z93; have v93:=L.v93
 have t91:=L.t91; have a91:=L.a91; have z91:=L.z91; have v91:=L.v91
 have t131:=L.t131; have a131:=L.a131; have z131:=L.z131; have v131:=L.v131
 have t4:=L.t4; have a4:=L.a4; have z4:=L.z4; have v4:=L.v4
 have t37:=L.t37; have a37:=L.a37; have z37:=L.z37; have v37:=L.v37
 have e251:∀args w,(callFunc (ρ.f 251) args).run P w = .ok (.enter (ρ.f 251) args) w:=enters_of L.f251 (by kernel_rfl) rfl
 have e252:∀args w,(callFunc (ρ.f 252) args).run P w = .ok (.enter (ρ.f 252) args) w:=enters_of L.f252 (by kernel_rfl) rfl
 have hinfo:(P.info? (ρ.t 5)).map (·.size)=some 1:=by
  obtain⟨i0,hi,-,hz1,-⟩:=info_parts L.i5
  rw [hi]; simp [hz1]
 have hnl:(Lib.byteCells s.data.toList).length=s.size:=by rw [Lib.byteCells_length,←Lib.size_eq]
 have c2:w.cell? ⟨b,q+2,none⟩=some (.int .i8 lr):=h.three.c2
 have f2:w.frozen? ⟨b,q+2,none⟩=false:=h.three.f (q+2)
 have hbut:But (fun k=>k=b) w (w.setCell ⟨b,q+2,none⟩ (.int .i8 0)):=(But.refl (· = b) w).setCell (fun _=>rfl) (q+2) _
 have hI0:BRow T R (ρ.t 5) b q 0 g l cap cur (w.setCell ⟨b,q+2,none⟩ (.int .i8 0)):=⟨h.three.set2 _,(heap_setCell_other _ _ _ h.ne).trans h.row,h.le,h.most,h.size,h.ne⟩
 have hsz:(w.setCell ⟨b,q+2,none⟩ (.int .i8 0)).heap.size=w.heap.size:=by simp [World.setCell]
 generalize hW:w.setCell ⟨b,q+2,none⟩ (.int .i8 0)=W at hbut hI0 hsz
 have k0:W.cell? ⟨b,q,none⟩=some (.slice (some ⟨g,0,none⟩) l cap):=hI0.three.c0
 have kf:W.frozen? ⟨b,q,none⟩=false:=hI0.three.f q
 have hle:=h.le
 have hcm:=h.most
 by_cases hr:s.size≤cap - l
 ·have hT:Calls P (ρ.f 251) #[.pointer (some ⟨b,q,none⟩),.int .i64 s.size] W _:=Any.Buffer_tryGrow_room_at {L with} b q _ l cap s.size W k0 kf hle hcm hr
  have hb1:BRow T R (ρ.t 5) b q 0 g (l+s.size) cap cur (W.setCell ⟨b,q,none⟩ (.slice (some ⟨g,0,none⟩) (l+s.size) cap)):=⟨hI0.three.set0 _,(heap_setCell_other _ _ _ h.ne).trans hI0.row,by omega,h.most,h.size,h.ne⟩
  have hbut1:=hbut.setCell (b:=b) (fun _=>rfl) q (.slice (some ⟨g,0,none⟩) (l+s.size) cap)
  clear hI0 k0 kf
  generalize hW1:W.setCell ⟨b,q,none⟩ (.slice (some ⟨g,0,none⟩) (l+s.size) cap)=W1 at hb1 hbut1
  have hT1:Calls P (ρ.f 251) #[.pointer (some ⟨b,q,none⟩),.int .i64 s.size] W fun e w'=>e = .returned (.tuple #[.int .i64 l,.bool true])∧w'=W1:=hT.mono fun e w' hh=>⟨hh.1,hh.2.trans hW1⟩
  clear hT
  have d0:W1.cell? ⟨b,q,none⟩=some (.slice (some ⟨g,0,none⟩) (l+s.size) cap):=hb1.three.c0
  have hfit:l+s.size≤cur.size:=by rw [hb1.size]; exact hb1.le
  have hne:¬cap=l:=by omega
  have hcp:=Lib.run_copy_row_string (P:=P) W1 (ρ.t 37) (ρ.t 9) (ρ.t 3) (ρ.t 5) g l s.size (cap - l) s cur (ρ.t 5) L.t37 hinfo hb1.row (Xv _) hfit
  have hcm':=hcm
  unfold maxLen at hcm'
  have hcl:=hb1.le
  clear hW1
  go_enter L.f178,Body.n178_ntmps ρ
  go_wp2_with (go_at_fn (ρ.f 251); (try rw [hW]); refine hT1.mono ?_; rintro e w' ⟨rfl,rfl⟩; clear hT1 c2 f2)
  go_ret2
  obtain⟨m1,m2⟩:=take_mid hnl hfit
  rw [XF] at m1 m2
  exact⟨rfl,g,cap,_,hb1.setRow (m1.trans hb1.size),m2,.inr ⟨rfl,m1⟩,(hbut1.mono fun _ _ h=>.inl h).setRow (fun _=>.inr rfl) _⟩
 ·have hT:Calls P (ρ.f 251) #[.pointer (some ⟨b,q,none⟩),.int .i64 s.size] W _:=Any.Buffer_tryGrow_none_at {L with} b q _ l cap s.size W k0 hle hcm (by omega)
  have hG:Calls P (ρ.f 252) #[.pointer (some ⟨b,q,none⟩),.int .i64 s.size] W _:=grow_row {L with} T R b q g l cap s.size 0 cur W hI0 h1 hl0 (by omega) (by omega) hlim
  clear hI0 k0 kf hle hcm
  go_enter L.f178,Body.n178_ntmps ρ
  go_wp2_with (go_at_fn (ρ.f 251); (try rw [hW]); refine hT.mono ?_; rintro e w' ⟨rfl,rfl⟩)
  go_wp2_with (go_at_fn (ρ.f 252); refine hG.mono ?_)
  rintro e W1 ⟨rfl,g',cap',cur',hI,htk,hge,hbut1⟩
  clear hT hG c2 f2
  have d0:W1.cell? ⟨b,q,none⟩=some (.slice (some ⟨g',0,none⟩) (l+s.size) cap'):=hI.three.c0
  have hfit:l+s.size≤cur'.size:=by rw [hI.size]; exact hI.le
  have hcl:=hI.le
  have hne:¬cap'=l:=by omega
  have hcp:=Lib.run_copy_row_string (P:=P) W1 (ρ.t 37) (ρ.t 9) (ρ.t 3) (ρ.t 5) g' l s.size (cap' - l) s cur' (ρ.t 5) L.t37 hinfo hI.row (Xv _) hfit
  have hcm':=hI.most
  unfold maxLen at hcm'
  go_wp2
  go_ret2
  obtain⟨m1,m2⟩:=take_mid hnl hfit
  rw [htk,XF] at m1 m2
  exact⟨rfl,g',cap',_,hI.setRow (m1.trans hI.size),m2,.inl (by omega),((hbut.trans hbut1).mono fun _ _ h=>.inl h).setRow (fun _=>.inr rfl) _⟩
end Go.R
namespace Go.R
open Go Go.Proofs Go.Shelf Go.RowKit
def bufCells (cs:List AV)(off:Nat)(x:AV):List AV:=(cs.set off x).set (off+2) (.int .i8 0)
def bufRow (e:TypeId)(news:List AV)(id off:Nat)(h:AHeap):Option AHeap:=
 (h.get id).bind fun
 | .cells cs=>
  match cs[off]?,cs[off+1]?,cs[off+2]? with
  | some (.rs i o n z),some (.int .i64 x),some (.int .i8 _)=>
   (h.get i).bind fun
   | .row e' bs=>if e'=e∧o=0∧z=1∧x=0∧bs.length=n∧n≠0∧n+news.length≤140737488355328 then
     some (((h.kill i).put h.next (.row e (bs++news))).put id (.cells (bufCells cs off (.rs h.next 0 (n+news.length) 1)))) else none
   | _=>none
  | _,_,_=>none
 | _=>none
def bufNil (e:TypeId)(news:List AV)(id off:Nat)(h:AHeap):Option AHeap:=
 (h.get id).bind fun
 | .cells cs=>
  match cs[off]?,cs[off+1]?,cs[off+2]? with
  | some .nils,some (.int .i64 x),some (.int .i8 _)=>if x=0 then
     some ((h.put h.next (.row e news)).put id (.cells (bufCells cs off (.rs h.next 0 news.length 1)))) else none
  | _,_,_=>none
 | _=>none
theorem Fr.none {c:Cx}{L0:Nat→Prop}(hrel:HRel c L0):Fr L0 c none0 (fun _=>0) [] ⟨fun _=>.any,fun _=>none,c.h⟩ ⟨#[],[]⟩:=
 ⟨rfl,by rw [show un L0 none0=L0 from by funext b; simp [un,none0]]; exact hrel,fun t=>by simp [SR,VR],fun k cs h=>(by cases h),fun k k' h=>(by cases h),fun t k off _ h=>(by cases h),rfl,fun b h=>h.elim⟩
section
variable {c:Cx}{L0:Nat→Prop}
theorem buf_upd (hrel:HRel c L0)(hbs:c.base≤c.w.heap.size){e T:TypeId}{id off m cap' g':Nat}{cs xs:List AV}{vals:List Value}{C cur':Array Value}{h1:AHeap}{w':World}
  (hid:c.h.get id=some (.cells cs)) (hC:c.w.heap[(c.β id).1]? = some (.cells C T (0,0))) (hcl:Cells c L0 cs (c.β id).1 (c.β id).2) (hoff:off+2<cs.length) (hcC:(c.β id).2+cs.length≤C.size)
  (hx1:cs[off+1]? = some (.int .i64 0))
  (hB:BRow T (fun i=>C[i]?) e (c.β id).1 ((c.β id).2+off) 0 g' m cap' cur' w') (htk:cur'.toList.take m=vals) (hxs:VRs c L0 xs vals) (hone:∀v∈vals,v.oneCell'=true) (hm:xs.length=m)
  (hbut:But (fun k=>k=(c.β id).1∨k=g') c.w w')
  (hst:Steady c.h h1) (hnx:c.h.next<h1.next) (hget:h1.get c.h.next=some (.row e xs))
  (hoth:∀j,j≠c.h.next→h1.get j=none∨h1.get j=c.h.get j) (hidk:h1.get id=c.h.get id)
  (hg:c.w.heap.size≤g'∨∃i,Live c.h i∧(c.β i).1=g'∧h1.get i=none∧cur'.size=c.len g') :
  ∃c',c'.w=w'∧c'.h=h1.put id (.cells (bufCells cs off (.rs c.h.next 0 m 1)))∧HRel c' L0∧Ext c none0 c' none0:=by
 have hun:un L0 none0=L0:=by funext b; simp [un,none0]
 have f:=Fr.none hrel
 generalize hbb:(c.β id).1=b at *
 have hidlt:id<c.h.next:=hrel.lt _ _ hid
 have hidne:id≠c.h.next:=by omega
 have hlive:Live c.h id:=⟨hidlt,by rw [hid]; rfl⟩
 have hblt:b<c.w.heap.size:=(X0.1 hC).1
 have hblt':b<w'.heap.size:=XX hblt hbut.size
 let wm:World:={w' with heap:=w'.heap.setIfInBounds b (.cells C T (0,0))}
 have hwm:∀k,k≠b→wm.heap[k]? = w'.heap[k]?:=fun k hk=>by
  show (w'.heap.setIfInBounds b _)[k]? = _
  rw [Array.getElem?_setIfInBounds_ne (YK hk)]
 have hwb:wm.heap[b]? = some (.cells C T (0,0)):=by
  show (w'.heap.setIfInBounds b _)[b]? = _
  rw [Array.getElem?_setIfInBounds_self_of_lt hblt']
 have hws:wm.heap.size=w'.heap.size:=by show (w'.heap.setIfInBounds b _).size=_; simp
 have hrow:wm.heap[g']? = some (.cells cur' e (0,0)):=(hwm _ hB.ne).trans hB.row
 have hkeep:∀k,k<c.w.heap.size→k≠g'→wm.heap[k]? = c.w.heap[k]?:=fun k hk hne=>by
  by_cases hkb:k=b
  ·rw [hkb,hwb,hC]
  ·rw [hwm k hkb]; exact hbut.block k hk fun h=>h.elim hkb hne
 have hmle:m≤cur'.size:=by rw [hB.size]; exact hB.le
 obtain⟨e1,f1⟩:=f.upd (w':=wm) (β':=fun k=>if k=c.h.next then (g',0) else c.β k) (h':=h1) c.h.next (.row e xs) hst hnx hget
  (fun j hj=>(hoth j hj).imp (fun h=>h) fun h=>⟨h,by simp [hj]⟩) (fun h=>absurd h (Nat.lt_irrefl _))
  (by
   rcases hg with h | ⟨i,h2,h3,h4,_⟩
   ·exact .inl (by simpa using h)
   ·exact .inr ⟨i,h2,by simpa using h3,.inr h4⟩)
  (fun h=>by
   simp only [if_true] at h ⊢
   rcases hg with h' | ⟨i,h2,h3,h4,h5⟩
   ·omega
   ·simp [World.shape?,hrow,h5])
  (fun k hk hne=>hkeep k hk (by simpa using hne)) (fun k hk hne=>hkeep k (by omega) (by simpa using hne)) (by rw [hws]; exact hbut.size) hbs hbut.os hbut.tape hbut.output
  (fun ee=>by
   simp only [if_true]
   refine⟨rfl,cur',hrow,by omega,by rw [hB.size]; exact hB.most,?_⟩
   have hv:=VRs.ext (L0:=L0) ee xs vals (by rw [hun]; exact hxs)
   refine Cells.of_vals hv (fun i hi=>?_) hone
   show wm.cell? _=_
   rw [cell_of_block hrow,XS,←htk,List.getElem?_take,if_pos (by rw [←hm,hxs.length]; exact hi),YL])
 have hid1:h1.get id=some (.cells cs):=hidk.trans hid
 have hlive1:Live h1 id:=⟨by omega,by rw [hid1]; rfl⟩
 have hβid:(if id=c.h.next then (g',0) else c.β id)=c.β id:=by simp [hidne]
 have hβn:(if c.h.next=c.h.next then (g',0) else c.β c.h.next)=(g',0):=by simp
 obtain⟨cs2,hb2,p0,p1,p2,pr⟩:=hB.three
 have hsz2:cs2.size=C.size:=by
  have hge:(c.β id).2+off+2<cs2.size:=by
   rcases Nat.lt_or_ge ((c.β id).2+off+2) cs2.size with h | h
   ·exact h
   ·rw [Array.getElem?_eq_none h] at p2; cases p2
  have ht:∀i,(c.β id).2+off+3≤i→(cs2.size≤i↔C.size≤i):=fun i hi=>by
   rw [←Array.getElem?_eq_none_iff,←Array.getElem?_eq_none_iff,pr i (.inr hi)]
  have h1:=(ht cs2.size (by omega)).1 (Xv _)
  have h2:=(ht C.size (by omega)).2 (Xv _)
  omega
 obtain⟨e2,f2⟩:=f1.upd (w':=w') (β':=fun k=>if k=c.h.next then (g',0) else c.β k) (h':=h1.put id (.cells (bufCells cs off (.rs c.h.next 0 m 1)))) id (.cells (bufCells cs off (.rs c.h.next 0 m 1))) (Steady.put _ _ _) (Yw hlive1.1) (by simp [AHeap.put,beq_nat])
  (fun j hj=>.inr ⟨by simp [AHeap.put,beq_nat,hj],rfl⟩) (fun _=>⟨hlive1,rfl⟩) (.inr ⟨id,hlive1,rfl,.inl rfl⟩)
  (fun _=>by
   simp only [hβid,hbb]
   simp only [Cx.len,World.shape?,hb2,hwb,Xx,Yl,hsz2])
  (fun k hk hne=>by
   simp only [hβid,hbb] at hne
   exact (hwm k hne).symm)
  (fun k hk hne=>by
   simp only [hβid,hbb] at hne
   exact (hwm k hne).symm) (by show wm.heap.size≤_; rw [hws]; exact Xv _) (by show c.base≤wm.heap.size; rw [hws]; exact X9 hbs hbut.size) rfl rfl rfl
  (fun ee=>by
   simp only [hβid,hbb]
   refine⟨C.size,⟨cs2,T,hb2,hsz2⟩,by unfold bufCells; simpa using hcC,?_⟩
   rw [Cells.iff]
   intro i x hx
   unfold bufCells at hx
   show ∃v,w'.cell? _=some v∧_
   rw [cell_of_block hb2]
   by_cases i2:i=off+2
   ·subst i2
    rw [YT (by simpa using hoff)] at hx
    cases hx
    exact⟨_,by rw [←Ye]; exact p2,rfl,by simp [VR]⟩
   ·rw [YY (YK i2)] at hx
    by_cases i0:i=off
    ·subst i0
     rw [YT (by omega)] at hx
     cases hx
     refine⟨_,p0,rfl,?_⟩
     simp only [VR]
     refine .inr ⟨(by have:=hrel.ver 0; omega),by show _<h1.next+1; omega,_,_,rfl,hB.le,rfl,fun _=>.inl ⟨by simp,?_⟩⟩
     simp only [if_true,Cx.len,World.shape?,hB.row,Xx,Yl,hB.size]
     omega
    ·rw [YY (YK i0)] at hx
     by_cases i1:i=off+1
     ·subst i1
      rw [hx1] at hx
      cases hx
      exact⟨_,by rw [←Ye]; exact p1,rfl,by simp [VR]⟩
     ·obtain⟨v,v1,v2,v3⟩:=hcl.get' i x hx
      refine⟨v,?_,v2,?_⟩
      ·rw [pr _ (by omega)]
       show C[(c.β id).2+i]? = some v
       rw [←cell_of_block hC]
       exact v1
      ·have:=VR.ext (L0:=L0) (e1.trans ee) x v (by rw [hun]; exact v3)
       exact this)
 refine⟨_,rfl,rfl,?_,e1.trans e2⟩
 have:=f2.rel
 rwa [hun] at this
end
section
variable {P:Program}{ρ:Ren}
theorem bkill_put_get (h:AHeap)(i j:Nat)(o:AObj):((h.kill i).put h.next o).get j=if j=h.next then some o else if j=i then none else h.get j:=by
 simp only [AHeap.put,AHeap.kill,beq_nat]
 by_cases h1:j=h.next<;>by_cases h2:j=i<;>simp [h1,h2]
theorem bput_get (h:AHeap)(i j:Nat)(o:AObj):(h.put i o).get j=if j=i then some o else h.get j:=by
 simp only [AHeap.put,beq_nat]
 by_cases h1:j=i<;>simp [h1]
theorem buf_three {c:Cx}{L0:Nat→Prop}(hrel:HRel c L0){id off:Nat}{cs:List AV}(hid:c.h.get id=some (.cells cs)){x y:AV}{lr:Int}(h0:cs[off]? = some x)(h1:cs[off+1]? = some (.int .i64 0))(h2:cs[off+2]? = some (.int .i8 lr)) :
  ∃C T v,c.w.heap[(c.β id).1]? = some (.cells C T (0,0))∧Cells c L0 cs (c.β id).1 (c.β id).2∧off+2<cs.length∧(c.β id).2+cs.length≤C.size∧VR c L0 x v∧
   LibA.Three c.w (c.β id).1 ((c.β id).2+off) T (fun i=>C[i]?) v (.int .i64 0) (.int .i8 lr):=by
 obtain⟨n,⟨C,T,hC,hn⟩,hle,hcl⟩:=hrel.obj _ _ hid
 obtain⟨v,a1,_,a3⟩:=hcl.get' _ _ h0
 obtain⟨v1,b1,_,b3⟩:=hcl.get' _ _ h1
 obtain⟨v2,d1,_,d3⟩:=hcl.get' _ _ h2
 simp only [VR] at b3 d3
 subst b3 d3
 rw [cell_of_block hC] at a1 b1 d1
 refine⟨C,T,v,hC,hcl,(XA.1 h2).1,by omega,a3,C,hC,a1,by rw [Ye]; exact b1,by rw [Ye]; exact d1,fun i _=>rfl⟩
theorem bufRow_spec {e:TypeId}{news:List AV}{id off:Nat}{h h':AHeap}(hr:bufRow e news id off h=some h'):∃cs i n bs lr,h.get id=some (.cells cs)∧cs[off]? = some (.rs i 0 n 1)∧cs[off+1]? = some (.int .i64 0)∧cs[off+2]? = some (.int .i8 lr)∧
  h.get i=some (.row e bs)∧bs.length=n∧n≠0∧n+news.length≤140737488355328∧h'=((h.kill i).put h.next (.row e (bs++news))).put id (.cells (bufCells cs off (.rs h.next 0 (n+news.length) 1))):=by
 unfold bufRow at hr
 rw [Xs] at hr
 obtain⟨ob,hob,hr⟩:=hr
 cases ob with
 | map es=>cases hr
 | row t cs=>cases hr
 | cells cs=>
  simp only at hr
  split at hr
  ·rename_i i o n z x lr q0 q1 q2
   rw [Xs] at hr
   obtain⟨ob2,hob2,hr⟩:=hr
   cases ob2 with
   | map es=>cases hr
   | cells cs=>cases hr
   | row e' bs=>
    simp only at hr
    split at hr
    ·rename_i hh
     obtain⟨rfl,rfl,rfl,rfl,h5,h6,h7⟩:=hh
     cases hr
     exact⟨cs,i,n,bs,lr,hob,q0,q1,q2,hob2,h5,h6,h7,rfl⟩
    ·cases hr
  ·cases hr
theorem bufNil_spec {e:TypeId}{news:List AV}{id off:Nat}{h h':AHeap}(hr:bufNil e news id off h=some h'):∃cs lr,h.get id=some (.cells cs)∧cs[off]? = some .nils∧cs[off+1]? = some (.int .i64 0)∧cs[off+2]? = some (.int .i8 lr)∧
  h'=(h.put h.next (.row e news)).put id (.cells (bufCells cs off (.rs h.next 0 news.length 1))):=by
 unfold bufNil at hr
 rw [Xs] at hr
 obtain⟨ob,hob,hr⟩:=hr
 cases ob with
 | map es=>cases hr
 | row t cs=>cases hr
 | cells cs=>
  simp only at hr
  split at hr
  ·rename_i x lr q0 q1 q2
   split at hr
   ·rename_i hh
    subst hh
    cases hr
    exact⟨cs,lr,hob,q0,q1,q2,rfl⟩
   ·cases hr
  ·cases hr
theorem buf_row {c:Cx}{L0:Nat→Prop}(hrel:HRel c L0){e T:TypeId}{id off i n:Nat}{cs bs:List AV}{C:Array Value}{v:Value}{lr:Int}(hid:c.h.get id=some (.cells cs))(hi:c.h.get i=some (.row e bs))(hbs:bs.length=n)(hn0:n≠0)
  (hv:VR c L0 (.rs i 0 n 1) v) (h3:LibA.Three c.w (c.β id).1 ((c.β id).2+off) T (fun i=>C[i]?) v (.int .i64 0) (.int .i8 lr)) :
  ∃cap cur,BRow T (fun i=>C[i]?) e (c.β id).1 ((c.β id).2+off) lr (c.β i).1 n cap cur c.w∧VRs c L0 bs (cur.toList.take n)∧(∀v∈cur.toList.take n,v.oneCell'=true)∧Live c.h i∧cur.size=c.len (c.β i).1:=by
 have hli:Live c.h i:=⟨hrel.lt _ _ hi,by rw [hi]; rfl⟩
 have hlid:Live c.h id:=⟨hrel.lt _ _ hid,by rw [hid]; rfl⟩
 obtain⟨hb0,cur,hcur,hle,hmax,hcl⟩:=hrel.obj _ _ hi
 simp only [VR] at hv
 rcases hv with⟨_,_,h0,_⟩| ⟨_,_,a,cap,rfl,hnc,_,hlive⟩
 ·exact absurd h0 hn0
 have hlen:c.len (c.β i).1=cur.size:=by simp [Cx.len,World.shape?,hcur]
 rcases hlive hli with⟨rfl,hcap⟩| h0
 rotate_left
 ·omega
 rw [hlen,hb0] at hcap
 rw [hb0] at h3
 obtain⟨vs,w1,w2,w3⟩:=hcl.vals
 have hvl:vs.length=n:=by rw [←w1.length,hbs]
 have hts:cur.toList.take n=vs:=by
  apply Yh
  intro j
  rw [List.getElem?_take]
  by_cases hj:j<n
  ·rw [if_pos hj,YL,←w2 j (by omega),cell_of_block hcur,XS]
  ·rw [if_neg hj,XL (by omega)]
 refine⟨cap,cur,⟨h3,hcur,hnc,by omega,by omega,fun he=>?_⟩,by rw [hts]; exact w1,by rw [hts]; exact w3,hli,hlen.symm⟩
 have hne:i≠id:=by
  rintro rfl
  rw [hid] at hi; cases hi
 exact hne (hrel.inj i id hli hlid he)
def wbA (e:TypeId)(args:List AV)(h:AHeap):Option (AV × AHeap):=
 match args with
 | [.ptr id off,.int .u8 c]=>match bufRow e [.int .u8 c] id off h with
  | some h'=>some (.any,h')
  | none=>(bufNil e [.int .u8 c] id off h).map fun h'=>(.any,h')
 | _=>none
theorem put_steady2 (h:AHeap)(i j:Nat)(o p:AObj):Steady h ((h.put i o).put j p):=(Steady.put _ _ _).trans (Steady.put _ _ _)
theorem buf_steady {e:TypeId}{news:List AV}{id off:Nat}{h h':AHeap}:(bufRow e news id off h=some h'→Steady h h')∧(bufNil e news id off h=some h'→Steady h h'):=by
 refine⟨fun hr=>?_,fun hr=>?_⟩
 ·obtain⟨cs,i,n,bs,lr,_,_,_,_,_,_,_,_,rfl⟩:=bufRow_spec hr
  exact ((Steady.kill _ _).trans (Steady.put _ _ _)).trans (Steady.put _ _ _)
 ·obtain⟨cs,lr,_,_,_,_,rfl⟩:=bufNil_spec hr
  exact put_steady2 _ _ _ _ _
theorem wb_ok (L:LaysM.n179 P ρ)(henter:∀(vs:Array Value) (w:World),(callFunc (ρ.f 179) vs).run P w = .ok (.enter (ρ.f 179) vs) w) :
  CallOK P fun f' args h=>if f'=ρ.f 179 then wbA (ρ.t 5) args h else none:=by
 intro f args h r h' hc
 dsimp only at hc
 split at hc
 rotate_left
 ·cases hc
 rename_i hf
 subst hf
 refine⟨henter,fun L0 c vs hh hb0 hrel hargs=>?_⟩
 subst hh
 unfold wbA at hc
 split at hc
 rotate_left
 ·cases hc
 rename_i id off x
 match vs,hargs with
 | [v1,v2],⟨q1,q2,_⟩=>
 simp only [VR] at q1 q2
 subst q2
 obtain⟨_,ad,rfl,had⟩:=q1
 have hnew:VRs c L0 [.int .u8 x] [Value.int .u8 x]:=by simp [VRs,VR]
 have hfin:∀(h1:AHeap) (w':World) (e:Ending),e = .returned .nilIface→(∃c':Cx,c'.w=w'∧c'.h=h1∧HRel c' L0∧Ext c none0 c' none0)→∃c' v,e = .returned v∧c'.w=w'∧c'.h=h1∧VR c' L0 .any v∧HRel c' L0∧Ext c none0 c' none0:=by
  rintro h1 w' e rfl ⟨c',a1,a2,a3,a4⟩
  exact⟨c',_,rfl,a1,a2,trivial,a3,a4⟩
 split at hc
 ·rename_i h1 hr
  cases hc
  obtain⟨cs,i,n,bs,lr,g0,g1,g2,g3,g4,g5,g6,g7,rfl⟩:=bufRow_spec hr
  obtain⟨C,T,v,k1,k2,k3,k4,k5,k6⟩:=buf_three hrel g0 (y:=.any) g1 g2 g3
  obtain⟨cap,cur,m1,m2,m3,m4,m5⟩:=buf_row hrel g0 g4 g5 g6 k5 k6
  have hlid:Live c.h id:=⟨hrel.lt _ _ g0,by rw [g0]; rfl⟩
  rw [had hlid]
  have hne:i≠id:=by
   rintro rfl
   rw [g0] at g4; cases g4
  refine (writeByte_row L T _ _ _ _ n cap x lr cur c.w m1 m3 g6 (by simpa using g7)).mono ?_
  rintro e w' ⟨he,g',cap',cur',r1,r2,r3,r4⟩
  refine hfin _ _ _ he (buf_upd hrel hb0 g0 k1 k2 k3 k4 g2 r1 r2 (VRs.append m2 hnew) ?_ (by simp [g5]) r4 ((Steady.kill _ i).trans (Steady.put _ _ _)) (by show _<c.h.next+1+1; omega) (by rw [bkill_put_get]; simp) (fun j hj=>?_) ?_ ?_)
  ·intro u hu
   rcases XH.1 hu with hu | hu
   ·exact m3 u hu
   ·cases XE.1 hu; rfl
  ·rw [bkill_put_get,if_neg hj]
   by_cases hji:j=i
   ·exact .inl (by rw [if_pos hji])
   ·exact .inr (by rw [if_neg hji])
  ·rw [bkill_put_get,if_neg (by have:=hlid.1; omega),if_neg (YK hne)]
  ·refine r3.imp (fun h=>h) fun ⟨h1,h2⟩=>⟨i,m4,h1.symm,?_,by rw [h2,m5,h1]⟩
   rw [bkill_put_get,if_neg (by have:=m4.1; omega),if_pos rfl]
 ·obtain⟨h1,hr,he⟩:=Option.map_some' hc
  simp only [Xz] at he
  obtain⟨rfl,rfl⟩:=he
  obtain⟨cs,lr,g0,g1,g2,g3,rfl⟩:=bufNil_spec hr
  obtain⟨C,T,v,k1,k2,k3,k4,k5,k6⟩:=buf_three hrel g0 (y:=.any) g1 g2 g3
  simp only [VR] at k5
  subst k5
  have hlid:Live c.h id:=⟨hrel.lt _ _ g0,by rw [g0]; rfl⟩
  rw [had hlid]
  refine (writeByte_nil L T _ _ _ x lr c.w k6).mono ?_
  rintro e w' ⟨he,g',cap',cur',r1,r2,r3,r4⟩
  refine hfin _ _ _ he (buf_upd hrel hb0 g0 k1 k2 k3 k4 g2 r1 r2 hnew ?_ rfl (r4.mono fun _ _ h=>.inl h) (Steady.put _ _ _) (by show _<c.h.next+1; omega) (by rw [bput_get]; simp) (fun j hj=>.inr (by rw [bput_get,if_neg hj])) (by rw [bput_get,if_neg (by have:=hlid.1; omega)]) (.inl r3))
  intro u hu
  cases XE.1 hu; rfl
end
end Go.R
namespace Go.R
open Go Go.Proofs Go.Shelf Go.RowKit
theorem intr_cons {P:Program}{f0:FuncId}{g0:List AV→AHeap→Option (AV × AHeap)}{intr:FuncId→Option (List AV→AHeap→Option (AV × AHeap))}(h0:CallOK P fun f' args h=>if f'=f0 then g0 args h else none)
  (hs:∀args h r h',g0 args h=some (r,h')→Steady h h') (h:IntrOK P intr):IntrOK P fun f=>if f=f0 then some g0 else intr f:=by
 intro f g hg
 dsimp only at hg
 split at hg
 ·rename_i hf
  subst hf
  cases hg
  exact⟨h0,hs⟩
 ·exact h f g hg
def bytesA (s:ByteArray):List AV:=s.data.toList.map fun b=>.int .u8 b.toNat
def wsA (e:TypeId)(args:List AV)(h:AHeap):Option (AV × AHeap):=
 match args with
 | [.ptr id off,.str s]=>if s.size=0 then none else (bufRow e (bytesA s) id off h).map fun h'=>(.tup [.int .i64 s.size,.any],h')
 | _=>none
section
variable {P:Program}{ρ:Ren}
theorem ws_ok (L:LaysM.n178 P ρ)(henter:∀(vs:Array Value) (w:World),(callFunc (ρ.f 178) vs).run P w = .ok (.enter (ρ.f 178) vs) w) :
  CallOK P fun f' args h=>if f'=ρ.f 178 then wsA (ρ.t 5) args h else none:=by
 intro f args h r h' hc
 dsimp only at hc
 split at hc
 rotate_left
 ·cases hc
 rename_i hf
 subst hf
 refine⟨henter,fun L0 c vs hh hb0 hrel hargs=>?_⟩
 subst hh
 unfold wsA at hc
 split at hc
 rotate_left
 ·cases hc
 rename_i id off s
 split at hc
 ·cases hc
 rename_i hs0
 match vs,hargs with
 | [v1,v2],⟨q1,q2,_⟩=>
 simp only [VR] at q1 q2
 subst q2
 obtain⟨_,ad,rfl,had⟩:=q1
 have hsl:(bytesA s).length=s.size:=by simp [bytesA]
 have hnew:VRs c L0 (bytesA s) (Lib.byteCells s.data.toList):=bytes_VRs s.data.toList
 obtain⟨h1,hr,he⟩:=Option.map_some' hc
 simp only [Xz] at he
 obtain⟨rfl,rfl⟩:=he
 obtain⟨cs,i,n,bs,lr,g0,g1,g2,g3,g4,g5,g6,g7,rfl⟩:=bufRow_spec hr
 obtain⟨C,T,v,k1,k2,k3,k4,k5,k6⟩:=buf_three hrel g0 (y:=.any) g1 g2 g3
 obtain⟨cap,cur,m1,m2,m3,m4,m5⟩:=buf_row hrel g0 g4 g5 g6 k5 k6
 have hlid:Live c.h id:=⟨hrel.lt _ _ g0,by rw [g0]; rfl⟩
 rw [had hlid]
 have hne:i≠id:=by
  rintro rfl
  rw [g0] at g4; cases g4
 rw [hsl] at g7 ⊢
 refine (writeString_row L T _ _ _ _ n cap lr s cur c.w m1 m3 g6 hs0 g7).mono ?_
 rintro e w' ⟨he,g',cap',cur',r1,r2,r3,r4⟩
 have hone:∀u∈cur.toList.take n++Lib.byteCells s.data.toList,u.oneCell'=true:=by
  intro u hu
  rcases XH.1 hu with hu | hu
  ·exact m3 u hu
  ·unfold Lib.byteCells at hu
   obtain⟨b,_,rfl⟩:=XQ.1 hu
   rfl
 obtain⟨c',a1,a2,a3,a4⟩:=buf_upd (h1:=(c.h.kill i).put c.h.next (.row (ρ.t 5) (bs++bytesA s))) hrel hb0 g0 k1 k2 k3 k4 g2 r1 r2 (VRs.append m2 hnew) hone (by rw [XB,g5,hsl]) r4 ((Steady.kill _ i).trans (Steady.put _ _ _)) (by show _<c.h.next+1+1; omega) (by rw [bkill_put_get]; simp)
  (fun j hj=>by
   rw [bkill_put_get,if_neg hj]
   by_cases hji:j=i
   ·exact .inl (by rw [if_pos hji])
   ·exact .inr (by rw [if_neg hji]))
  (by rw [bkill_put_get,if_neg (by have:=hlid.1; omega),if_neg (YK hne)])
  (r3.imp (fun h=>h) fun ⟨h1,h2⟩=>⟨i,m4,h1.symm,by rw [bkill_put_get,if_neg (by have:=m4.1; omega),if_pos rfl],by rw [h2,m5,h1]⟩)
 refine⟨c',_,he,a1,a2,?_,a3,a4⟩
 simp only [VR]
 exact⟨_,rfl,by simp [VRs,VR]⟩
theorem wb_steady {e:TypeId}(args:List AV)(h:AHeap)(r:AV)(h':AHeap)(hc:wbA e args h=some (r,h')):Steady h h':=by
 unfold wbA at hc
 split at hc
 ·split at hc
  ·rename_i h1 hr
   cases hc
   exact buf_steady.1 hr
  ·obtain⟨h1,hr,he⟩:=Option.map_some' hc
   cases he
   exact buf_steady.2 hr
 ·cases hc
theorem ws_steady {e:TypeId}(args:List AV)(h:AHeap)(r:AV)(h':AHeap)(hc:wsA e args h=some (r,h')):Steady h h':=by
 unfold wsA at hc
 split at hc
 ·split at hc
  ·cases hc
  ·obtain⟨h1,hr,he⟩:=Option.map_some' hc
   cases he
   exact buf_steady.1 hr
 ·cases hc
def plainA (x:AV × AHeap):Option (AV × AHeap):=
 match x.1 with
 | .rs i _ _ _=>(x.2.get i).bind fun | .row _ cs=>some (x.1,x.2.put i (.cells cs)) | _=>none
 | _=>none
theorem plain_ok {cf:CallF}(hcf:CallOK P cf)(f0:FuncId):CallOK P fun f args h=>if f=f0 then (cf f0 args h).bind plainA else none:=by
 intro f args h r h' hc
 dsimp only at hc
 split at hc
 rotate_left
 ·cases hc
 rename_i hf
 subst hf
 rw [Xs] at hc
 obtain⟨⟨x,h1⟩,hx,hc⟩:=hc
 obtain⟨hin,hcall⟩:=hcf f args h x h1 hx
 refine⟨hin,fun L0 c vs hh hb0 hrel hargs=>?_⟩
 refine (hcall L0 c vs hh hb0 hrel hargs).mono ?_
 rintro e w' ⟨c1,v,rfl,rfl,rfl,hv,hrel1,e1⟩
 unfold plainA at hc
 simp only at hc
 split at hc
 rotate_left
 ·cases hc
 rename_i i o n z
 rw [Xs] at hc
 obtain⟨ob,hob,hc⟩:=hc
 cases ob with
 | map es=>cases hc
 | cells cs=>cases hc
 | row t cs=>
  cases hc
  have hun:un L0 none0=L0:=by funext b; simp [un,none0]
  have hli:Live c1.h i:=⟨hrel1.lt _ _ hob,by rw [hob]; rfl⟩
  obtain⟨hz,C,hC,hle,hmax,hcl⟩:=hrel1.obj _ _ hob
  obtain⟨e2,f2⟩:=(Fr.none hrel1).upd (w':=c1.w) (β':=c1.β) (h':=c1.h.put i (.cells cs)) i (.cells cs) (Steady.put _ _ _) (Yw hli.1) (by simp [AHeap.put,beq_nat])
   (fun j hj=>.inr ⟨by simp [AHeap.put,beq_nat,hj],rfl⟩) (fun _=>⟨hli,rfl⟩) (.inr ⟨i,hli,rfl,.inl rfl⟩) (fun _=>rfl) (fun _ _ _=>rfl) (fun _ _ _=>rfl) (Xv _) (by rw [e1.base]; exact X9 hb0 e1.size) rfl rfl rfl
   (fun ee=>⟨C.size,⟨C,t,hC,rfl⟩,by rw [hz,XS]; exact hle,by
    have:=Cells.move (L0:=L0) ee cs (c1.β i).1 0 (c1.β i).1 0 (fun _ _=>rfl) (by rw [hun]; exact hcl)
    rw [hz]; exact this⟩)
  refine⟨⟨c1.β,c1.h.put i (.cells cs),c1.w,c1.base⟩,v,rfl,rfl,rfl,?_,by have:=f2.rel; rwa [hun] at this,e1.trans e2⟩
  have:=VR.ext (L0:=L0) e2 _ _ (by rw [hun]; exact hv)
  rwa [hun] at this
theorem plain_steady {cf:CallF}(hst:SteadyF cf)(f0:FuncId)(args:List AV)(h:AHeap)(r:AV)(h':AHeap)(hc:(cf f0 args h).bind plainA=some (r,h')):Steady h h':=by
 rw [Xs] at hc
 obtain⟨⟨x,h1⟩,hx,hc⟩:=hc
 unfold plainA at hc
 simp only at hc
 split at hc
 ·rw [Xs] at hc
  obtain⟨ob,hob,hc⟩:=hc
  cases ob with
  | map es=>cases hc
  | cells cs=>cases hc
  | row t cs=>
   cases hc
   exact (hst _ _ _ _ _ hx).trans (Steady.put _ _ _)
 ·cases hc
end
end Go.R
namespace Go.R
open Go
def wB (bs news:List Int):Option (List Int):=if bs.length+news.length≤140737488355328∧news≠[] then some (bs++news) else none
section
variable {h:AHeap}{L:Mem}{e:TypeId}{id i:Nat}{bs news r:List Int}{c:Int}{s:ByteArray}
theorem oJ (l:List Int):(aw.l l).length=l.length:=by rw [cw.cJ]; exact YZ _
theorem Ig (l k:List Int):aw.l (l++k)=aw.l l++aw.l k:=by
 induction l with
 | nil=>rfl
 | cons a l ih=>rw [XU,cw.dO,cw.dO,ih,XF]
theorem BO (o:Has h ((id,.ob [.rs i 0 bs.length 1,.int .i64 0,.int .i8 0])::(i,.row e (aw.l bs))::L))(hb:bs≠[])(hr:wB bs news=some r) :
  ∃i' h',bufRow e (aw.l news) id 0 h=some h'∧Has h' ((id,.ob [.rs i' 0 r.length 1,.int .i64 0,.int .i8 0])::(i',.row e (aw.l r))::L):=by
 unfold wB at hr
 split at hr
 rotate_left
 ·cases hr
 rename_i hm
 cases hr
 have o1:=o.at_ 0 _ _ rfl
 have o2:=o.at_ 1 _ _ rfl
 have hne:id≠i:=fun he=>by
  have h1:=o1.1.2
  rw [he,o2.1.2] at h1
  cases h1
 have Qf:bs.length≠0:=by cases bs with | nil=>exact absurd rfl hb | cons _ _=>simp
 refine⟨h.next,((h.kill i).put h.next (.row e (aw.l bs++aw.l news))).put id (.cells [.rs h.next 0 (bs++news).length 1,.int .i64 0,.int .i8 0]),?_,?_⟩
 rotate_left
 ·have t1:=o.Dp (j:=1) rfl (h':=(h.kill i).put h.next (.row e (aw.l bs++aw.l news))) (i':=h.next) (c':=.row e (aw.l (bs++news)))
   (fun k hk hl=>by rw [cq,if_neg (by omega),s7,if_neg hk]) (by show h.next≤h.next+1+1; omega) (.inr (.inr (Xv _))) (by show h.next<h.next+1+1; omega)
   ⟨by have:=o.pos; omega,by rw [cq,if_pos rfl,Ig]⟩
  exact iB (q:=0) t1 rfl (ob:=.cells [.rs h.next 0 (bs++news).length 1,.int .i64 0,.int .i8 0]) ⟨o1.1.1,by rw [cq,if_pos rfl]⟩
 ·unfold bufRow
  rw [o1.1.2]
  simp only [Xr,X7,YD,o2.1.2,XS,oJ]
  rw [if_pos ⟨trivial,trivial,trivial,trivial,trivial,Qf,hm.1⟩]
  simp only [bufCells,List.set_cons_zero,List.set_cons_succ,XB]
theorem Ih {lr:Int}(o:Has h ((id,.ob [.nils,.int .i64 0,.int .i8 lr])::L))(hr:wB [] news=some r) :
  ∃i' h',bufNil e (aw.l news) id 0 h=some h'∧Has h' ((id,.ob [.rs i' 0 r.length 1,.int .i64 0,.int .i8 0])::(i',.row e (aw.l r))::L):=by
 unfold wB at hr
 split at hr
 rotate_left
 ·cases hr
 cases hr
 have o1:=o.at_ 0 _ _ rfl
 refine⟨h.next,(h.put h.next (.row e (aw.l news))).put id (.cells [.rs h.next 0 ([]++news).length 1,.int .i64 0,.int .i8 0]),?_,?_⟩
 rotate_left
 ·have t1:=o.new (h':=h.put h.next (.row e (aw.l news))) (i:=h.next) (c:=.row e (aw.l ([]++news)))
   (fun k hl=>by rw [cq,if_neg (by omega)]) (YG _) (.inr (Xv _)) (Yd _)
   ⟨by have:=o.pos; omega,by rw [cq,if_pos rfl]; rfl⟩
  have t2:=iB (q:=1) t1 rfl (ob:=.cells [.rs h.next 0 ([]++news).length 1,.int .i64 0,.int .i8 0]) (c':=.ob [.rs h.next 0 ([]++news).length 1,.int .i64 0,.int .i8 0]) ⟨o1.1.1,by rw [cq,if_pos rfl]⟩
  exact Has.front t2 1 rfl
 ·unfold bufNil
  rw [o1.1.2]
  simp only [Xr,X7,YD,XS,oJ,if_true]
  simp only [bufCells,List.set_cons_zero,List.set_cons_succ,X2]
def BP (cf:CallF)(f:FuncId)(e:TypeId):Prop:=∀args h,cf f args h=wbA e args h
def Fl (cf:CallF)(f:FuncId)(e:TypeId):Prop:=∀args h,cf f args h=wsA e args h
def Fm (cf:CallF)(f:FuncId)(e:TypeId):Prop:=∀id i n cs h,h.get id=some (.cells [.rs i 0 n 1,.int .i64 0,.int .i8 0])→h.get i=some (.row e cs)→cs.length=n→n≠0→i<h.next→cf f [.ptr id 0] h=some (.rs i 0 n 1,h.put i (.cells cs))
variable {cf:CallF}{f:FuncId}
theorem Kx (S:BP cf f e)(o:Has h ((id,.ob [.rs i 0 bs.length 1,.int .i64 0,.int .i8 0])::(i,.row e (aw.l bs))::L))(hb:bs≠[])(hr:wB bs [c]=some r) :
  ∃i' h',cf f [.ptr id 0,.int .u8 c] h=some (.any,h')∧Has h' ((id,.ob [.rs i' 0 r.length 1,.int .i64 0,.int .i8 0])::(i',.row e (aw.l r))::L):=by
 obtain⟨i',h',h1,h2⟩:=BO o hb hr
 refine⟨i',h',?_,h2⟩
 rw [S]
 have h1:bufRow e [.int .u8 c] id 0 h=some h':=h1
 simp only [wbA,h1]
theorem Ky {lr:Int}(S:BP cf f e)(o:Has h ((id,.ob [.nils,.int .i64 0,.int .i8 lr])::L))(hr:wB [] [c]=some r) :
  ∃i' h',cf f [.ptr id 0,.int .u8 c] h=some (.any,h')∧Has h' ((id,.ob [.rs i' 0 r.length 1,.int .i64 0,.int .i8 0])::(i',.row e (aw.l r))::L):=by
 obtain⟨i',h',h1,h2⟩:=Ih (e:=e) o hr
 refine⟨i',h',?_,h2⟩
 rw [S]
 have h1:bufNil e [.int .u8 c] id 0 h=some h':=h1
 have h3:bufRow e [.int .u8 c] id 0 h=none:=by
  unfold bufRow
  rw [(o.at_ 0 _ _ rfl).1.2]
  rfl
 simp only [wbA,h3,h1,Xx]
theorem strCells (s:ByteArray):bytesA s=aw.l (eP s):=by
 have:∀l:List UInt8,(l.map fun b=>AV.int .u8 b.toNat)=aw.l (l.map fun b=>(b.toNat:Int)):=fun l=>by
  induction l with
  | nil=>rfl
  | cons a l ih=>rw [XN,XN,cw.dO,ih]; rfl
 exact this _
theorem Kz (S:Fl cf f e)(o:Has h ((id,.ob [.rs i 0 bs.length 1,.int .i64 0,.int .i8 0])::(i,.row e (aw.l bs))::L))(hb:bs≠[])(hr:wB bs (eP s)=some r) :
  ∃i' h',cf f [.ptr id 0,.str s] h=some (.tup [.int .i64 s.size,.any],h')∧Has h' ((id,.ob [.rs i' 0 r.length 1,.int .i64 0,.int .i8 0])::(i',.row e (aw.l r))::L):=by
 obtain⟨i',h',h1,h2⟩:=BO o hb hr
 refine⟨i',h',?_,h2⟩
 rw [S]
 have hs:¬s.size=0:=fun hs=>by
  unfold wB at hr
  split at hr
  ·rename_i hm
   apply hm.2
   have:s.data.toList=[]:=by
    apply Ya
    simpa using hs
   simp [eP,this]
  ·cases hr
 simp only [wsA,if_neg hs,strCells,h1,Xx]
theorem KA (S:Fm cf f e)(o:Has h ((id,.ob [.rs i 0 bs.length 1,.int .i64 0,.int .i8 0])::(i,.row e (aw.l bs))::L))(hb:bs≠[])(hm:bs.length≤140737488355328) :
  ∃h',cf f [.ptr id 0] h=some (.rs i 0 bs.length 1,h')∧Has h' ((id,.ob [.rs i 0 bs.length 1,.int .i64 0,.int .i8 0])::(i,.sl bs.length 1 (aw.l bs))::L):=by
 have o1:=o.at_ 0 _ _ rfl
 have o2:=o.at_ 1 _ _ rfl
 refine⟨_,S id i _ _ h o1.1.2 o2.1.2 (oJ _) (by cases bs with | nil=>exact absurd rfl hb | cons _ _=>simp) o2.2,?_⟩
 exact iB (q:=1) o rfl (ob:=.cells (aw.l bs)) ⟨⟨by rw [oJ,YZ],by rw [oJ]; omega⟩,.inr ⟨o2.1.1,[],by rw [cq,if_pos rfl,Yr]⟩⟩
def Fo (bs news:List Int):Option (List Int):=if bs=[] then none else wB bs news
theorem oK (hr:Fo bs news=some r):bs≠[]∧wB bs news=some r:=by
 unfold Fo at hr
 split at hr
 ·cases hr
 ·rename_i h; exact⟨h,hr⟩
theorem sn (S:BP cf f e)(o:Has h ((id,.ob [.rs i 0 bs.length 1,.int .i64 0,.int .i8 0])::(i,.row e (aw.l bs))::L))(hr:Fo bs [c]=some r) :
  ∃i' h',cf f [.ptr id 0,.int .u8 c] h=some (.any,h')∧Has h' ((id,.ob [.rs i' 0 r.length 1,.int .i64 0,.int .i8 0])::(i',.row e (aw.l r))::L):=Kx S o (oK hr).1 (oK hr).2
theorem Ii (S:Fl cf f e)(o:Has h ((id,.ob [.rs i 0 bs.length 1,.int .i64 0,.int .i8 0])::(i,.row e (aw.l bs))::L))(hr:Fo bs (eP s)=some r) :
  ∃i' h',cf f [.ptr id 0,.str s] h=some (.tup [.int .i64 s.size,.any],h')∧Has h' ((id,.ob [.rs i' 0 r.length 1,.int .i64 0,.int .i8 0])::(i',.row e (aw.l r))::L):=Kz S o (oK hr).1 (oK hr).2
def ti (bs:List Int):Option Unit:=if bs≠[]∧bs.length≤140737488355328 then some () else none
theorem Ij {u:Unit}(S:Fm cf f e)(o:Has h ((id,.ob [.rs i 0 bs.length 1,.int .i64 0,.int .i8 0])::(i,.row e (aw.l bs))::L))(hr:ti bs=some u) :
  ∃h',cf f [.ptr id 0] h=some (.rs i 0 bs.length 1,h')∧Has h' ((id,.ob [.rs i 0 bs.length 1,.int .i64 0,.int .i8 0])::(i,.sl bs.length 1 (aw.l bs))::L):=by
 unfold ti at hr
 split at hr
 ·rename_i h; exact KA S o h.1 h.2
 ·cases hr
end
def jn {α β:Type}(b:α→Option β)(a:(α→Option β)→Option β):Option β:=a b
theorem w9 {α β:Type}{b:α→Option β}{a:(α→Option β)→Option β}{out:β}(H:jn b a=some out):∃j:α→Option β,(∀x,j x=b x)∧a j=some out:=⟨b,fun _=>rfl,H⟩
theorem aI {α β:Type}{o:Option α}{f:α→Option β}{b:β}(h:o.bind f=some b):∃a,o=some a∧f a=some b:=Xs.1 h
theorem Vq {α:Type}{c:Bool}{a b z:α}(h:c=true)(H:(if c=true then a else b)=z):a=z:=(if_pos h).symm.trans H
theorem Vr {α:Type}{c:Bool}{a b z:α}(h:c=false)(H:(if c=true then a else b)=z):b=z:=(if_neg (H6 h)).symm.trans H
abbrev jP (l:List AV):List AV:=.any :: .any :: .any::l
abbrev q9 (l:List AV):List AV:=.any :: .any :: .any :: .any::l
abbrev rB (l:List AV):List AV:=.any :: .any :: .any :: .any :: .any::l
abbrev BQ (l:List AV):List AV:=.any :: .any :: .any :: .any :: .any :: .any::l
abbrev Ee (l:List AV):List AV:=.any :: .any :: .any :: .any :: .any :: .any :: .any::l
abbrev pY (l:List AV):List AV:=.any :: .any :: .any :: .any :: .any :: .any :: .any :: .any::l
abbrev BR (l:List AV):List AV:=.any :: .any :: .any :: .any :: .any :: .any :: .any :: .any :: .any::l
abbrev uK (l:List AV):List AV:=.any :: .any :: .any :: .any :: .any :: .any :: .any :: .any :: .any :: .any::l
abbrev oL (l:List AV):List AV:=.any :: .any :: .any :: .any :: .any :: .any :: .any :: .any :: .any :: .any :: .any::l
abbrev mK (l:List AV):List AV:=.any :: .any :: .any :: .any :: .any :: .any :: .any :: .any :: .any :: .any :: .any :: .any::l
abbrev mL (l:List AV):List AV:=.any :: .any :: .any :: .any :: .any :: .any :: .any :: .any :: .any :: .any :: .any :: .any :: .any::l
abbrev rC (l:List AV):List AV:=.any :: .any :: .any :: .any :: .any :: .any :: .any :: .any :: .any :: .any :: .any :: .any :: .any :: .any::l
abbrev Dw (l:List AV):List AV:=.any :: .any :: .any :: .any :: .any :: .any :: .any :: .any :: .any :: .any :: .any :: .any :: .any :: .any :: .any::l
abbrev Fp (l:List AV):List AV:=.any :: .any :: .any :: .any :: .any :: .any :: .any :: .any :: .any :: .any :: .any :: .any :: .any :: .any :: .any :: .any::l
abbrev Dx (l:List AV):List AV:=.any :: .any :: .any :: .any :: .any :: .any :: .any :: .any :: .any :: .any :: .any :: .any :: .any :: .any :: .any :: .any :: .any::l
abbrev KB (l:List AV):List AV:=.any :: .any :: .any :: .any :: .any :: .any :: .any :: .any :: .any :: .any :: .any :: .any :: .any :: .any :: .any :: .any :: .any :: .any::l
abbrev KC (l:List AV):List AV:=.any :: .any :: .any :: .any :: .any :: .any :: .any :: .any :: .any :: .any :: .any :: .any :: .any :: .any :: .any :: .any :: .any :: .any :: .any::l
abbrev Qg (l:List AV):List AV:=.any :: .any :: .any :: .any :: .any :: .any :: .any :: .any :: .any :: .any :: .any :: .any :: .any :: .any :: .any :: .any :: .any :: .any :: .any :: .any::l
abbrev Nh (l:List AV):List AV:=.any :: .any :: .any :: .any :: .any :: .any :: .any :: .any :: .any :: .any :: .any :: .any :: .any :: .any :: .any :: .any :: .any :: .any :: .any :: .any :: .any::l
abbrev Ni (l:List AV):List AV:=.any :: .any :: .any :: .any :: .any :: .any :: .any :: .any :: .any :: .any :: .any :: .any :: .any :: .any :: .any :: .any :: .any :: .any :: .any :: .any :: .any :: .any::l
abbrev Qh (l:List AV):List AV:=.any :: .any :: .any :: .any :: .any :: .any :: .any :: .any :: .any :: .any :: .any :: .any :: .any :: .any :: .any :: .any :: .any :: .any :: .any :: .any :: .any :: .any :: .any::l
abbrev Qi (l:List AV):List AV:=.any :: .any :: .any :: .any :: .any :: .any :: .any :: .any :: .any :: .any :: .any :: .any :: .any :: .any :: .any :: .any :: .any :: .any :: .any :: .any :: .any :: .any :: .any :: .any :: .any::l
abbrev Nj (l:List AV):List AV:=.any :: .any :: .any :: .any :: .any :: .any :: .any :: .any :: .any :: .any :: .any :: .any :: .any :: .any :: .any :: .any :: .any :: .any :: .any :: .any :: .any :: .any :: .any :: .any :: .any :: .any::l
abbrev Nk (l:List AV):List AV:=.any :: .any :: .any :: .any :: .any :: .any :: .any :: .any :: .any :: .any :: .any :: .any :: .any :: .any :: .any :: .any :: .any :: .any :: .any :: .any :: .any :: .any :: .any :: .any :: .any :: .any :: .any::l
abbrev Qj (l:List AV):List AV:=.any :: .any :: .any :: .any :: .any :: .any :: .any :: .any :: .any :: .any :: .any :: .any :: .any :: .any :: .any :: .any :: .any :: .any :: .any :: .any :: .any :: .any :: .any :: .any :: .any :: .any :: .any :: .any :: .any::l
abbrev Qk (l:List AV):List AV:=.any :: .any :: .any :: .any :: .any :: .any :: .any :: .any :: .any :: .any :: .any :: .any :: .any :: .any :: .any :: .any :: .any :: .any :: .any :: .any :: .any :: .any :: .any :: .any :: .any :: .any :: .any :: .any :: .any :: .any :: .any :: .any :: .any :: .any::l
end Go.R
namespace Go.R
open Go
open Go.IntKind (i64 u64 u8 u32)
theorem mF (x:Int):u8.wrap x=x % 256:=by
 unfold IntKind.wrap; simp [IntKind.signed,IntKind.bits]
theorem Fq (x:Int):u64.wrap x=x % 18446744073709551616:=by
 unfold IntKind.wrap; simp [IntKind.signed,IntKind.bits]
theorem hY {x:Int}(h0:0≤x)(h1:x<18446744073709551616):u64.wrap x=x:=by
 rw [Fq,Int.emod_eq_of_lt h0 h1]
theorem Fs (x:Int):i64.wrap x=if x % 18446744073709551616≥9223372036854775808 then x % 18446744073709551616 - 18446744073709551616 else x % 18446744073709551616:=by
 unfold IntKind.wrap; simp [IntKind.signed,IntKind.bits]
theorem aD {x:Int}(h0 : -9223372036854775808≤x)(h1:x<9223372036854775808):i64.wrap x=x:=by
 rw [Fs]; split<;>omega
theorem Nl (n:Nat):iV .u8 ((n:Int) % 256) 128=((n % 128+128:Nat):Int):=by
 unfold iV
 have h1:YB IntKind.u8.bits ((n:Int) % 256)=Yi 8 (n % 256):=by
  show YB 8 _=_
  rw [show ((n:Int) % 256)=((n % 256:Nat):Int) by omega,BitVec.ofInt_natCast]
 rw [h1]
 have h2:YB IntKind.u8.bits (128:Int)=Yi 8 128:=rfl
 rw [h2]
 show u8.wrap (((Yi 8 (n % 256) ||| Yi 8 128:BitVec 8).toNat:Nat):Int)=_
 have key:∀k:Fin 256,(Yi 8 k.1 ||| Yi 8 128:BitVec 8).toNat=k.1 % 128+128:=by decide +kernel
 have:=key ⟨n % 256,Nat.mod_lt _ (by omega)⟩
 simp only at this
 rw [this,mF]
 omega
theorem Ql (n:Nat):fZ .u64 (n:Int) 7=((n / 128:Nat):Int):=by
 show (n:Int).fdiv (2 ^ 7)=_
 rw [Int.fdiv_eq_ediv_of_nonneg _ (by decide)]
 norm_cast
theorem Ft (n:Nat)(h:n<256):gZ .u8 (n:Int) 127=((n % 128:Nat):Int):=by
 unfold gZ
 have h1:YB IntKind.u8.bits (n:Int)=Yi 8 n:=BitVec.ofInt_natCast ..
 rw [h1]
 show u8.wrap (((Yi 8 n &&& Yi 8 127:BitVec 8).toNat:Nat):Int)=_
 have key:∀k:Fin 256,(Yi 8 k.1 &&& Yi 8 127:BitVec 8).toNat=k.1 % 128:=by decide +kernel
 have:=key ⟨n,h⟩
 simp only at this
 rw [this,mF]
 omega
theorem Fu (a c s:Nat)(ha:a<2 ^ s)(hs:s≤56)(hc:a+c*2 ^ s<2 ^ 64)(hc2:c<128):(Du .u64 (u64.wrap (c:Int)) (s:Int))=some ((c*2 ^ s:Nat):Int)∧iV .u64 (a:Int) ((c*2 ^ s:Nat):Int)=((a+c*2 ^ s:Nat):Int):=by
 have hcs:c*2 ^ s<2 ^ 64:=by omega
 constructor
 ·unfold Du
  rw [if_neg (by omega),hY (x:=(c:Int)) (by omega) (by omega)]
  congr 1
  have:min (s:Int).toNat IntKind.u64.bits=s:=by
   show min (s:Int).toNat 64=s
   omega
  rw [this,show ((c:Int)*2 ^ s)=((c*2 ^ s:Nat):Int) by push_cast; rfl,hY (by omega) (by omega)]
 ·unfold iV
  have h1:YB IntKind.u64.bits (a:Int)=Yi 64 a:=BitVec.ofInt_natCast ..
  have h2:YB IntKind.u64.bits ((c*2 ^ s:Nat):Int)=Yi 64 (c*2 ^ s):=BitVec.ofInt_natCast ..
  rw [h1,h2]
  show u64.wrap (((Yi 64 a ||| Yi 64 (c*2 ^ s):BitVec 64).toNat:Nat):Int)=_
  have:(Yi 64 a ||| Yi 64 (c*2 ^ s):BitVec 64).toNat=a+c*2 ^ s:=by
   rw [BitVec.toNat_or,BitVec.toNat_ofNat,BitVec.toNat_ofNat,Nat.mod_eq_of_lt (by omega),Nat.mod_eq_of_lt hcs,Nat.or_comm,←Nat.shiftLeft_eq,←Nat.shiftLeft_add_eq_or_of_lt ha,Nat.shiftLeft_eq,Nat.add_comm]
  rw [this,hY (by omega) (by omega)]
def dI (n:Nat):List Int:=if h:n<128 then [(n:Int)] else ((n % 128+128:Nat):Int)::dI (n / 128)
termination_by n
decreasing_by omega
theorem k7 {n:Nat}(h:n<128):dI n=[(n:Int)]:=by rw [dI,dif_pos h]
theorem oM {n:Nat}(h:¬n<128):dI n=((n % 128+128:Nat):Int)::dI (n / 128):=by rw [dI,dif_neg h]
end Go.R
namespace Go.R
open Go
def uL {X:Type}(F:CallF→Option X):Prop:=∀cf x,F cf=some x→∃l:List (FuncId × List AV × AHeap × (AV × AHeap)),(∀e∈l,cf e.1 e.2.1 e.2.2.1=some e.2.2.2)∧∀BS:CallF,(∀e∈l,BS e.1 e.2.1 e.2.2.1=some e.2.2.2)→F BS=some x
theorem br {X:Type}(x:Option X):uL fun _=>x:=by
 intro cf y h
 refine⟨[],?_,fun _ _=>h⟩
 intro e he; cases he
theorem Fv (f:FuncId)(args:List AV)(h:AHeap):uL fun cf=>cf f args h:=by
 intro cf x hx
 refine⟨[(f,args,h,x)],?_,fun BS h'=>h' (f,args,h,x) (XE.2 rfl)⟩
 intro e he; cases (XE.1 he); exact hx
theorem ef {X Y:Type}{F:CallF→Option X}{G:X→CallF→Option Y}(hF:uL F)(hG:∀y,uL (G y)):uL fun cf=>(F cf).bind fun y=>G y cf:=fun cf z hz=>by
 obtain⟨y,h1,h2⟩:=Xs.1 hz
 obtain⟨l1,a1,b1⟩:=hF cf y h1
 obtain⟨l2,a2,b2⟩:=hG y cf z h2
 refine⟨l1++l2,fun e he=>(XH.1 he).elim (a1 e) (a2 e),fun BS h'=>?_⟩
 have e1:=b1 BS fun e he=>h' e (Yb _ he)
 have e2:=b2 BS fun e he=>h' e (List.mem_append_right _ he)
 show (F BS).bind _=_
 rw [e1,Xr,e2]
theorem xb {X Y:Type}{F:CallF→Option X}{g:X→Y}(hF:uL F):uL fun cf=>(F cf).map g:=by
 intro cf x hx
 obtain⟨y,h1,h2⟩:=Xt.1 hx
 obtain⟨l,a,b⟩:=hF cf y h1
 refine⟨l,a,fun BS h'=>?_⟩
 show (F BS).map g=some x
 rw [b BS h',Xx,h2]
theorem jZ {X:Type}{c:Prop}[Decidable c]{F G:CallF→Option X}(hF:uL F)(hG:uL G):uL fun cf=>if c then F cf else G cf:=by
 by_cases h:c
 ·simp only [h,if_true]; exact hF
 ·simp only [h,if_false]; exact hG
section
variable {P:Program}{aF ds:List Nat}
theorem oN {X:Type}{F:CallF→Option X}(h:∀cf BS,F cf=F BS):uL F:=by
 intro cf x hx
 refine⟨[],?_,fun BS _=>(h BS cf).trans hx⟩
 intro e he; cases he
theorem BT (e:Operand→AV)(s:RS)(o:Oper):uL fun cf=>z6 P cf aF ds e s o:=by
 obtain⟨dst,op,type,pos,after,guard⟩:=o
 cases op with
 | call c=>
  obtain⟨callee,args,at_⟩:=c
  cases callee with
  | value f=>
   simp only [z6]
   cases e f with
   | fn f cap=>exact jZ (xb (Fv _ _ _)) (br _)
   | _=>exact br _
  | _=>exact oN fun _ _=>rfl
 | makeFunc fn first cap=>cases fn<;>exact oN fun _ _=>rfl
 | makeMap t r=>cases r<;>exact oN fun _ _=>rfl
 | _=>exact oN fun _ _=>rfl
theorem Dy (ops:List Oper)(s:RS)(o:Oper):uL fun cf=>lM P cf aF ops s o:=by
 refine ef (br (gC ops s.ρ o)) fun w=>?_
 exact jZ (BT _ _ _) (br _)
theorem yJ (ops:List Oper):∀(os:List Oper) (s:RS),uL fun cf=>rr P cf aF ops s os
 | [],s=>br _
 | o::os,s=>ef (Dy ops s o) fun s'=>yJ ops os s'
theorem yK (ops:List Oper):∀(os:List Oper) (s:RS),uL fun cf=>pL P cf aF ops s os
 | [],s=>br _
 | o::os,s=>ef (br (gC ops s.ρ o)) fun w=>ef (jZ (BT _ _ _) (br _)) fun s1=>xb (yK ops os s1)
theorem AE (ops:Array Oper)(s:RS):uL fun cf=>kQ P cf aF ops s:=by
 unfold kQ
 exact jZ (ef (yK _ _ _) fun x=>br _) (br _)
theorem vA {f:CallF→St→Option (Ex × St)}(hf:∀s,uL fun cf=>f cf s):∀(n:Nat) (s:St),uL fun cf=>kn (f cf) n s
 | 0,s=>br _
 | n+1,s=>ef (hf s) fun x=>by
  obtain⟨x,s'⟩:=x
  cases x with
  | norm=>exact vA hf n s'
  | _=>exact br _
theorem iX (A:cg)(n:Nat):∀(c:Code) (s:St),uL fun cf=>bG P cf A n c s
 | .skip,s=>by simp only [bG]; exact br _
 | .label _,s=>by simp only [bG]; exact br _
 | .ret,s=>by simp only [bG]; exact br _
 | .exit _,s=>by simp only [bG]; exact br _
 | .seq a b,s=>by
  simp only [bG]
  exact ef (iX A n a s) fun x=>by
   obtain⟨x,s'⟩:=x
   cases x with
   | norm=>exact iX A n b s'
   | _=>exact br _
 | .cond k x y,s=>by
  simp only [bG]
  exact ef (br _) fun t=>jZ (iX A n x s) (iX A n y s)
 | .block id b,s=>by simp only [bG]; exact xb (iX A n b s)
 | .loop b,s=>by simp only [bG]; exact vA (fun s=>iX A n b s) n s
 | .region r ops draw,s=>by
  simp only [bG]
  exact ef (br _) fun s=>ef (jZ (AE _ _) (yJ _ _ _)) fun s'=>br _
 | .rangeFunc ..,s=>by simp only [bG]; exact br _
 | .scope _,s=>by simp only [bG]; exact br _
 | .goto _,s=>by simp only [bG]; exact br _
 | .refuse _,s=>by simp only [bG]; exact br _
theorem kE (aU:FuncId→cg)(m:Nat)(f:FuncId)(args:List AV)(h:AHeap):uL fun cf=>bc P aU cf m f args h:=by
 unfold bc
 refine ef (br _) fun fn=>ef (br _) fun c=>jZ (ef (iX _ _ _ _) fun x=>br _) (br _)
end
def tj (P:Program)(T:nX)(m:Nat)(cf:CallF):CallF:=fun f args h=>
 match T.intr f with
 | some g=>g args h
 | none=>
  match T.pure f with
  | some deep=>if cH args then (bc P T.aU cf m f (dq args) bL).bind fun x=>(ck x.2 deep x.1).map fun r=>(r,h) else
    match bH h deep args with
    | some zs=>(bc P T.aU cf m f zs bL).bind fun x=>(fC x.2 deep x.1).map fun r=>(r,h)
    | none=>bc P T.aU cf m f (args.map az) h
  | none=>bc P T.aU cf m f (args.map az) h
section
variable {P:Program}{T:nX}{m:Nat}
theorem vB (f:FuncId)(args:List AV)(h:AHeap):uL fun cf=>tj P T m cf f args h:=by
 unfold tj
 cases T.intr f with
 | some g=>exact br _
 | none=>
  cases T.pure f with
  | none=>exact kE _ _ _ _ _
  | some deep=>
   refine jZ (ef (kE _ _ _ _ _) fun x=>br _) ?_
   cases bH h deep args with
   | none=>exact kE _ _ _ _ _
   | some zs=>exact ef (kE _ _ _ _ _) fun x=>br _
theorem tk:∀(n:Nat) (f:FuncId) (args:List AV) (h:AHeap) (x:AV × AHeap),eM P T m n f args h=some x→eM P T m (n+1) f args h=some x
 | 0,f,args,h,x,hc=>by simp [eM] at hc
 | n+1,f,args,h,x,hc=>by
  obtain⟨l,h1,h2⟩:=vB (P:=P) (T:=T) (m:=m) f args h _ _ hc
  exact h2 (eM P T m (n+1)) fun e he=>tk n _ _ _ _ (h1 e he)
theorem oO {n k:Nat}(hk:n≤k){f:FuncId}{args:List AV}{h:AHeap}{x:AV × AHeap}(hc:eM P T m n f args h=some x):eM P T m k f args h=some x:=by
 induction hk with
 | refl=>exact hc
 | step _ ih=>exact tk _ _ _ _ _ ih
open Classical in
noncomputable def iO (P:Program)(T:nX)(m:Nat):CallF:=fun f args h=>if H:∃x n,eM P T m n f args h=some x then some (Classical.choose H) else none
theorem kF {f:FuncId}{args:List AV}{h:AHeap}{x:AV × AHeap}:iO P T m f args h=some x↔∃n,eM P T m n f args h=some x:=by
 have key:∀(H:∃x n,eM P T m n f args h=some x) (n:Nat),eM P T m n f args h=some x→Classical.choose H=x:=fun H n hn=>by
  obtain⟨k,hk⟩:=Classical.choose_spec H
  have h1:=oO (Nat.le_max_left n k) hn
  have h2:=oO (Nat.le_max_right n k) hk
  rw [h1] at h2
  exact (XP h2).symm
 unfold iO
 constructor
 ·intro hc
  split at hc
  ·rename_i H
   obtain⟨n,hn⟩:=Classical.choose_spec H
   cases hc
   exact⟨n,hn⟩
  ·cases hc
 ·rintro⟨n,hn⟩
  have H:∃x n,eM P T m n f args h=some x:=⟨x,n,hn⟩
  rw [dif_pos H,key H n hn]
theorem Dz (l:List (FuncId × List AV × AHeap × (AV × AHeap)))(hl:∀e∈l,iO P T m e.1 e.2.1 e.2.2.1=some e.2.2.2):∃n,∀e∈l,eM P T m n e.1 e.2.1 e.2.2.1=some e.2.2.2:=by
 induction l with
 | nil=>exact⟨0,fun e he=>by cases he⟩
 | cons a l ih=>
  obtain⟨n,hn⟩:=ih fun e he=>hl e (List.mem_cons_of_mem _ he)
  obtain⟨k,hk⟩:=kF.1 (hl a List.mem_cons_self)
  refine⟨max n k,fun e he=>?_⟩
  rcases X8.1 he with rfl | he
  ·exact oO (Nat.le_max_right n k) hk
  ·exact oO (Nat.le_max_left n k) (hn e he)
theorem mG {f:FuncId}{args:List AV}{h:AHeap}{x:AV × AHeap}(hc:tj P T m (iO P T m) f args h=some x):iO P T m f args h=some x:=by
 obtain⟨l,h1,h2⟩:=vB (P:=P) (T:=T) (m:=m) f args h _ _ hc
 obtain⟨n,hn⟩:=Dz l h1
 exact kF.2 ⟨n+1,h2 (eM P T m n) hn⟩
theorem Fw (hP:Fit P)(q6:IntrOK P T.intr):CallOK P (iO P T m):=fun f args h r h' hc=>by
 obtain⟨n,hn⟩:=kF.1 hc
 exact sW hP q6 m n f args h r h' hn
theorem aV:Has bL []:=⟨fun j i c h=>by simp at h,fun j j' i c c' h=>by simp at h,Nat.zero_lt_one⟩
end
section
variable {P:Program}{T:nX}{m f deep:Nat}{h:AHeap}{xs ys:List AV}{y:AV}{x:AV × AHeap}
theorem j4 (h1:T.intr f=none)(h2:T.pure f=some deep)(hd:jm+fi≤deep)(hx:lA xs ys)(hb:∃r h',bc P T.aU (iO P T m) m f ys bL=some (r,h')∧wX h' r y):iO P T m f xs h=some (y,h):=by
 obtain⟨r,h',hb,hf⟩:=hb
 refine mG ?_
 have hd:jm+1000≤deep:=X9 (Nat.add_le_add_left (by decide) _) hd
 simp only [tj,h1,h2,hx.1,if_true,hx.2,hb,Xr,hf deep hd,Xx]
theorem bB (h1:T.intr f=none)(h2:T.pure f=some deep)(hd:jm+fi≤deep)(hx:eN fi h xs ys)(hb:∃r h',bc P T.aU (iO P T m) m f ys bL=some (r,h')∧fW h' r y):iO P T m f xs h=some (y,h):=by
 have h3:=hx deep hd
 have Hu:jm+1000≤deep:=X9 (Nat.add_le_add_left (by decide) _) hd
 by_cases hn:cH xs=true
 ·have:=iC deep xs ys hn h3
  obtain⟨r,h',hb,hf⟩:=hb
  exact j4 h1 h2 hd ⟨hn,this.symm⟩ ⟨r,h',hb,hf.pD⟩
 ·obtain⟨r,h',hb,hf⟩:=hb
  refine mG ?_
  simp only [tj,h1,h2,hn,if_false,h3,hb,Xr,hf deep Hu,Xx]
  simp
theorem jL (h1:T.intr f=none)(h2:T.pure f=none)(hx:xs.map az=ys)(hb:bc P T.aU (iO P T m) m f ys h=some x):iO P T m f xs h=some x:=by
 refine mG ?_
 simp only [tj,h1,h2,hx,hb]
theorem oQ (h1:T.intr f=none)(h2:T.pure f=none)(hx:xs.map az=ys)(hb:∃r h',bc P T.aU (iO P T m) m f ys h=some (r,h')∧r=y∧h'=h):iO P T m f xs h=some (y,h):=by
 obtain⟨r,h',hb,rfl,rfl⟩:=hb
 exact jL h1 h2 hx hb
theorem BU {g:List AV→AHeap→Option (AV × AHeap)}(h1:T.intr f=some g)(hx:g xs h=some x):iO P T m f xs h=some x:=by
 refine mG ?_
 simp only [tj,h1,hx]
theorem k8 {g:List AV→AHeap→Option (AV × AHeap)}(h1:T.intr f=some g):iO P T m f xs h=g xs h:=by
 cases hg:g xs h with
 | some x=>exact BU h1 hg
 | none=>
  cases hc:iO P T m f xs h with
  | none=>rfl
  | some x=>
   obtain⟨n,hn⟩:=kF.1 hc
   cases n with
   | zero=>simp [eM] at hn
   | succ n=>simp only [eM,h1,hg] at hn; cases hn
end
end Go.R
namespace Go.R
open Go
def b6:List ab→List Nat→List (ab × Nat)
 | [],_=>[]
 | n::ns,ids=>(n,ids.headD 0)::b6 ns ids.tail
def Jm (ids:List Nat)(i:Int):Nat:=ids.getD i.toNat 0
def Ik (ns:List ab)(ids:List Nat):List Nat:=(b6 ns ids).map fun p=>p.2
def gM:cw (ab × Nat):={n:=4,f:=fun x=>[.int .i64 x.1.kind,.int .i64 x.1.int,.str x.1.label,.rs x.2 0 x.1.args.length 1],len:=fun _=>rfl,pos:=by decide,flat:=false,pure:=fun _ h=>(by cases h),canon:=fun _=>rfl}
def KD (p:ab × Nat):Nat × Ct:=(p.2,.sl p.1.args.length 1 (aa.l p.1.args))
def iM (ns:List ab)(ids:List Nat):Mem:=(b6 ns ids).map KD
theorem fw:∀(ns:List ab) (ids:List Nat),(b6 ns ids).length=ns.length
 | [],_=>rfl
 | n::ns,ids=>by simp [b6,fw ns]
theorem tl (ids:List Nat):ids.headD 0=ids.getD 0 0:=by cases ids<;>rfl
theorem vC (ids:List Nat)(i:Nat):ids.tail.getD i 0=ids.getD (i+1) 0:=by cases ids<;>simp
theorem oR:∀(ns:List ab) (ids:List Nat) (i:Nat) (n:ab),ns[i]? = some n→(b6 ns ids)[i]? = some (n,ids.getD i 0)
 | [],_,i,n,h=>by simp at h
 | a::ns,ids,0,n,h=>by
  simp only [X7,Xu] at h
  subst h
  show (some (a,ids.headD 0):Option (ab × Nat))=some (a,ids.getD 0 0)
  rw [tl]
 | a::ns,ids,i+1,n,h=>by
  simp only [YD] at h
  have:=oR ns ids.tail i n h
  simp only [b6,YD,this,vC]
theorem j5 {ns:List ab}{ids:List Nat}{i:Int}{n:ab}(h:ix ns i=some n):ix (b6 ns ids) i=some (n,Jm ids i):=by
 obtain⟨h0,h1,h2⟩:=gE h
 unfold ix Jm
 rw [if_pos h0,oR ns ids _ _ h2]
theorem tm:∀(ns:List ab) (ids:List Nat) (n:ab) (ad:Nat),b6 (ns++[n]) (Ik ns ids++[ad])=b6 ns ids++[(n,ad)]
 | [],ids,n,ad=>rfl
 | a::ns,ids,n,ad=>by
  have:=tm ns ids.tail n ad
  simp only [Ik,b6,XN,XU,List.headD_cons,List.tail_cons] at this ⊢
  rw [this]
theorem tp:∀(ns:List ab) (ids:List Nat) (i:Nat) (n:ab),b6 (ns.set i n) ids=(b6 ns ids).set i (n,ids.getD i 0)
 | [],_,_,_=>rfl
 | a::ns,ids,0,n=>by
  show (n,ids.headD 0)::b6 ns ids.tail=(n,ids.getD 0 0)::b6 ns ids.tail
  rw [tl]
 | a::ns,ids,i+1,n=>by
  have:=tp ns ids.tail i n
  simp only [List.set_cons_succ,b6,this,vC]
theorem Il (ns:List ab)(ids:List Nat)(n:ab)(ad:Nat):iM (ns++[n]) (Ik ns ids++[ad])=iM ns ids++[KD (n,ad)]:=by
 unfold iM; rw [tm,XW]; rfl
theorem Im (ns:List ab)(ids:List Nat)(i:Nat)(n:ab):iM (ns.set i n) ids=(iM ns ids).set i (KD (n,ids.getD i 0)):=by
 unfold iM; rw [tp,List.map_set]
theorem Has.perm {h:AHeap}{K K':Mem}(o:Has h K)(p:K'.Perm K):Has h K':=by
 have hP:K.Pairwise fun a b=>a.1≠0→a.1≠b.1:=by
  rw [YO]
  intro i j hi hj vl h0 he
  have:=o.nd i j K[i].1 K[i].2 K[j].2 (by rw [XD hi]) (by rw [XD hj,he]) h0
  omega
 have Qm:K'.Pairwise fun a b=>a.1≠0→a.1≠b.1:=(p.pairwise_iff (fun {a b} h h0 he=>h (by rw [←he]; exact h0) he.symm)).2 hP
 rw [YO] at Qm
 refine⟨fun j i c hj=>?_,fun j j' i c c' hj JX h0=>?_,o.pos⟩
 ·obtain⟨j',JX⟩:=List.getElem?_of_mem (p.mem_iff.1 (Yu hj))
  exact o.at_ j' i c JX
 ·obtain⟨a1,a2⟩:=XA.1 hj
  obtain⟨b1,b2⟩:=XA.1 JX
  rcases Nat.lt_trichotomy j j' with hl | hl | hl
  ·have:=Qm j j' a1 b1 hl
   rw [a2,b2] at this
   exact absurd rfl (this h0)
  ·exact hl
  ·have:=Qm j' j b1 a1 hl
   rw [a2,b2] at this
   exact absurd rfl (this h0)
section
variable {P:Program}{t t2 tf:TypeId}{h:AHeap}{pre L:Mem}{ns r:List ab}{ids:List Nat}{i ad k n2:Nat}{j a v:Int}{n:ab}
theorem pZ (hx:ix ns j=some n):(pre++(iM ns ids++L))[pre.length+j.toNat]? = some (Jm ids j,.sl n.args.length 1 (aa.l n.args)):=by
 obtain⟨h0,h1,h2⟩:=gE hx
 rw [XO (by omega),Yt]
 have hl:j.toNat<(iM ns ids).length:=by unfold iM; rw [XI,fw]; omega
 rw [X4 hl]
 unfold iM
 rw [XZ,oR ns ids _ _ h2]
 rfl
theorem Has.gone (o:Has h (pre++(iM ns ids++L))):Has h (pre++L):=by
 refine o.sub (fun q=>if q<pre.length then q else q+(iM ns ids).length) (fun q p hq=>?_) (fun q q' he=>?_)
 ·by_cases hl:q<pre.length
  ·rw [X4 hl] at hq
   rw [if_pos hl,X4 hl]; exact hq
  ·rw [XO (by omega)] at hq
   rw [if_neg hl,XO (by omega),XO (by omega),←hq]
   congr 1; omega
 ·split at he<;>split at he<;>omega
theorem KE {b:Nat}{kind int:Int}{label:ByteArray}{args:List Int}{x:AV}(T:wV P t 4 b=true)(o:Has h ((i,.sl k 4 (gM.l (b6 ns ids)))::(ad,.sl n2 1 (aa.l args))::(pre++(iM ns ids++L))))
  (hx:fj h 4 x=some ([.int .i64 kind,.int .i64 int,.str label,.rs ad 0 n2 1],1)) (hX:jR P t2 x=true) (hr:app b ns [⟨kind,int,label,args⟩]=some r) :
  ∃i' Nn h',gB P h t t2 (.rs i 0 k 4) x=some (.rs i' 0 r.length 4,h')∧Has h' ((i',.sl r.length 4 (gM.l (b6 r Nn)))::(pre++(iM r Nn++L))):=by
 have hn:n2=args.length:=di (E:=aa) o (q:=1) rfl
 subst hn
 obtain⟨_,_,rfl⟩:=yD hr
 have As:app b (b6 ns ids) [((⟨kind,int,label,args⟩:ab),ad)]=some (b6 ns ids++[((⟨kind,int,label,args⟩:ab),ad)]):=by
  unfold app at hr ⊢
  rw [fw]
  split at hr
  ·rename_i hh
   simp only [XR,Yk] at hh ⊢
   rw [if_pos hh]
  ·cases hr
 have HS:fj h gM.n x=some (gM.l [((⟨kind,int,label,args⟩:ab),ad)],[((⟨kind,int,label,args⟩:ab),ad)].length):=hx
 obtain⟨i',h',e,o'⟩:=fF (E:=gM) (l:=b6 ns ids) (q:=0) T o rfl HS hX As
 have e:gB P h t t2 (.rs i 0 k 4) x=some (.rs i' 0 (b6 ns ids++[((⟨kind,int,label,args⟩:ab),ad)]).length 4,h'):=e
 refine⟨i',Ik ns ids++[ad],h',?_,?_⟩
 ·rw [e,XB,XB,fw]; rfl
 ·rw [Il,tm]
  have o':Has h' ((i',.sl (b6 ns ids++[((⟨kind,int,label,args⟩:ab),ad)]).length 4 (gM.l (b6 ns ids++[((⟨kind,int,label,args⟩:ab),ad)])))::KD (⟨kind,int,label,args⟩,ad)::(pre++(iM ns ids++L))):=o'
  have el:(ns++[(⟨kind,int,label,args⟩:ab)]).length=(b6 ns ids++[((⟨kind,int,label,args⟩:ab),ad)]).length:=by
   rw [XB,XB,fw]; rfl
  rw [el]
  refine o'.perm (List.Perm.cons _ ?_)
  have k1:pre++((iM ns ids++[KD ((⟨kind,int,label,args⟩:ab),ad)])++L)=(pre++iM ns ids)++KD (⟨kind,int,label,args⟩,ad)::L:=by simp
  have k2:pre++(iM ns ids++L)=(pre++iM ns ids)++L:=by simp
  rw [k1,k2]
  exact List.perm_middle
theorem KF {old:Int}(o:Has h ((i,.sl k 4 (gM.l (b6 ns ids)))::(pre++(iM ns ids++L))))(hs:dZ P tf=some 1)(hx:ix ns j=some n)(hk:ix n.args a=some old) :
  ∃h',iT P h tf (.ptr (Jm ids j) (0+a.toNat*1)) (.int .i64 v)=some h'∧
   Has h' ((i,.sl k 4 (gM.l (b6 (ns.set j.toNat ⟨n.kind,n.int,n.label,n.args.set a.toNat v⟩) ids)))::(pre++(iM (ns.set j.toNat ⟨n.kind,n.int,n.label,n.args.set a.toNat v⟩) ids++L))):=by
 obtain⟨h0,h1,h2⟩:=gE hx
 have hq:=pZ (pre:=(i,.sl k 4 (gM.l (b6 ns ids)))::pre) (L:=L) (ids:=ids) hx
 obtain⟨h',e,o'⟩:=dD (P:=P) (tf:=tf) (E:=aa) (l:=n.args) (v:=v) (x:=.int .i64 v) o hq hs hk rfl rfl
 refine⟨h',e,?_⟩
 have hl:j.toNat<(iM ns ids).length:=by unfold iM; rw [XI,fw]; omega
 have e1:gM.l (b6 (ns.set j.toNat ⟨n.kind,n.int,n.label,n.args.set a.toNat v⟩) ids)=gM.l (b6 ns ids):=by
  rw [tp]
  have hz:=oR ns ids _ _ h2
  have:=cw.E1 (E:=gM) (l:=b6 ns ids) (i:=j.toNat) (a:=(n,ids.getD j.toNat 0)) (b:=(⟨n.kind,n.int,n.label,n.args.set a.toNat v⟩,ids.getD j.toNat 0)) hz []
  have h3:=cw.E1 (E:=gM) (l:=b6 ns ids) (i:=j.toNat) (a:=(n,ids.getD j.toNat 0)) (b:=(n,ids.getD j.toNat 0)) hz []
  have hf:gM.f (⟨n.kind,n.int,n.label,n.args.set a.toNat v⟩,ids.getD j.toNat 0)=gM.f (n,ids.getD j.toNat 0):=by
   show [AV.int .i64 n.kind,.int .i64 n.int,.str n.label,.rs (ids.getD j.toNat 0) 0 (n.args.set a.toNat v).length 1]=_
   rw [XC]; rfl
  rw [hf,h3] at this
  rw [Yr,Yr] at this
  rw [←this]
  congr 1
  obtain⟨g1,g2⟩:=XA.1 hz
  rw [←g2,List.set_getElem_self]
 rw [e1,Im]
 have e2:((((i,Ct.sl k 4 (gM.l (b6 ns ids)))::pre)++(iM ns ids++L)).set (((i,Ct.sl k 4 (gM.l (b6 ns ids)))::pre).length+j.toNat) (Jm ids j,.sl n.args.length aa.n (aa.l (n.args.set a.toNat v)))) =
   ((i,Ct.sl k 4 (gM.l (b6 ns ids)))::pre)++((iM ns ids).set j.toNat (KD (⟨n.kind,n.int,n.label,n.args.set a.toNat v⟩,ids.getD j.toNat 0))++L):=by
  rw [YW _ _ (by omega),Yt,List.set_append_left _ _ hl]
  show _=((i,Ct.sl k 4 (gM.l (b6 ns ids)))::pre)++((iM ns ids).set j.toNat (ids.getD j.toNat 0,.sl (n.args.set a.toNat v).length 1 (aa.l (n.args.set a.toNat v)))++L)
  rw [XC]; rfl
 have o2:Has h' ((((i,Ct.sl k 4 (gM.l (b6 ns ids)))::pre)++(iM ns ids++L)).set (((i,Ct.sl k 4 (gM.l (b6 ns ids)))::pre).length+j.toNat) (Jm ids j,.sl n.args.length aa.n (aa.l (n.args.set a.toNat v)))):=o'
 rw [e2] at o2
 exact o2
def No:Nat:=2251799813685248
theorem yL:∀(ns:List ab) (ids:List Nat),(b6 ns ids).map (fun p=>p.1)=ns
 | [],_=>rfl
 | n::ns,ids=>by simp [b6,yL ns]
theorem BV:∀(zs:List (ab × Nat)),(∀p∈zs,∀n,jm≤n→ck h n (.rs p.2 0 p.1.args.length 1)=some (aa.fz p.1.args))→∀n,jm+4*zs.length+1≤n→bH h n (gM.l zs)=some (af.l (zs.map fun p=>p.1))
 | [],_,n,hn=>by
  obtain⟨m,rfl⟩:∃m,n=m+1:=⟨n - 1,by omega⟩
  rfl
 | p::zs,hz,n,hn=>by
  obtain⟨m,rfl⟩:∃m,n=m+4+1:=⟨n - 5,by simp only [XR] at hn; simp only [jm] at hn; omega⟩
  simp only [XR] at hn
  have h1:=BV zs (fun q hq=>hz q (by simp [hq])) (m+1) (by omega)
  have h2:=hz p (by simp) (m+1) (by omega)
  show bH h (m+4+1) (.int .i64 p.1.kind :: .int .i64 p.1.int :: .str p.1.label :: .rs p.2 0 p.1.args.length 1::gM.l zs)=some (.int .i64 p.1.kind :: .int .i64 p.1.int :: .str p.1.label::aa.fz p.1.args::af.l (zs.map fun p=>p.1))
  have a1:∀(n:Nat) (k:IntKind) (z:Int),ck h (n+1) (.int k z)=some (.int k z):=fun _ _ _=>rfl
  have a2:∀(n:Nat) (s:ByteArray),ck h (n+1) (.str s)=some (.str s):=fun _ _=>rfl
  rw [show m+4+1=(m+1+1+1+1)+1 by omega]
  simp only [bH,a1,a2,Xr,h1,h2,Xx]
theorem Fx {q:Nat}(o:Has h (pre++(iM ns ids++L)))(hq:(pre++(iM ns ids++L))[q]? = some (i,.sl k 4 (gM.l (b6 ns ids)))):lF No h (.rs i 0 k 4) (af.fz ns):=by
 intro m hm
 have hk:k=(b6 ns ids).length:=di (E:=gM) o hq
 rw [fw] at hk
 subst hk
 obtain⟨⟨⟨hlen,Aj⟩,mV⟩,hlt⟩:=o.at_ _ _ _ hq
 have hlen:(gM.l (b6 ns ids)).length=ns.length*4:=hlen
 obtain⟨k,rfl,hk⟩:=kY (show jm≤m by omega)
 simp only [ck]
 rcases mV with⟨h0,h1⟩| ⟨h0,rest,h1⟩
 ·have:ns=[]:=by simpa using h1
  subst this
  simp [h0,cw.fz,cw.l]
 ·rw [if_neg h0,h1]
  simp only [Xr]
  have e1:((gM.l (b6 ns ids)++rest).drop 0).take (ns.length*4)=gM.l (b6 ns ids):=by
   rw [X6,XY (by omega),X1 (by omega)]
  rw [if_pos (by rw [XB,hlen]; omega),e1,BV (b6 ns ids) (fun p hp n hn=>?_) k (by rw [fw]; simp only [jm,No] at hm ⊢; omega),yL]
  ·rfl
  ·obtain⟨j,hj,e⟩:=Y1 hp
   have M0:(pre++(iM ns ids++L))[pre.length+j]? = some (p.2,.sl p.1.args.length 1 (aa.l p.1.args)):=by
    have hl:j<(iM ns ids).length:=by unfold iM; rw [XI]; exact hj
    rw [XO (by omega),Yt,X4 hl]
    unfold iM
    rw [XZ,XD hj,e]; rfl
   exact s9 (E:=aa) (l:=p.1.args) o M0 (fun _=>rfl) rfl n hn
end
end Go.R
namespace Go.R
open Go
inductive zP
 | b (i:Nat) {x y:Bool} (h:x=y)
 | v (i:Nat) {e:Option AV} {z:AV} (h:e=some z)
 | w (i:Nat) {e:Option AHeap} {g:AHeap} (h:e=some g)
 | a (i:Nat) {e:Option (AV × AHeap)} {z:AV} {g:AHeap} (h:e=some (z,g))
 | m (i:Nat) {e:AV × AHeap} {z:AV} {g:AHeap} (h:e=(z,g))
def zP.Vt:zP→Nat × AV × Option AHeap
 | @b i x y h=>(i,.bool y,none)
 | @v i e z h=>(i,z,none)
 | @w i e g h=>(i,.any,some g)
 | @a i e z g h=>(i,z,some g)
 | @m i e z g h=>(i,z,some g)
def zP.fr:zP→AV × AHeap
 | @a i e z g h=>(z,g)
 | _=>(.any,bL)
def zP.p:zP→Prop
 | @b i x y h=>AV.bool x=AV.bool y
 | @v i e z h=>e=some z
 | @w i e g h=>e=some g
 | @a i e z g h=>e=some (z,g)
 | @m i e z g h=>e=(z,g)
theorem zP.ok:∀g:zP,g.p
 | @b i x y h=>congrArg AV.bool h
 | @v i e z h=>h
 | @w i e g h=>h
 | @a i e z g h=>h
 | @m i e z g h=>h
def DA:List zP→Kl
 | []=>[]
 | g::gs=>g.Vt::DA gs
def Io:List zP→List (AV × AHeap)
 | []=>[]
 | g::gs=>g.fr::Io gs
def ps:List zP→Prop
 | []=>True
 | g::gs=>g.p∧ps gs
theorem Fy:∀gs,ps gs
 | []=>trivial
 | g::gs=>⟨g.ok,Fy gs⟩
def cA:Code→Code
 | .seq a _=>a
 | .cond _ a _=>a
 | .block _ a=>a
 | .loop a=>a
 | _=>.skip
def cB:Code→Code
 | .seq _ b=>b
 | .cond _ _ b=>b
 | _=>.skip
def kd:Code→Nat
 | .skip=>0
 | .ret=>1
 | .seq _ _=>2
 | .loop _=>3
 | _=>9
def Qn:Code→Option Nat
 | .exit i=>some i
 | _=>none
def Qo:Code→Option Nat
 | .block i _=>some i
 | _=>none
def Qp (A:cg)(c:Code)(s:St):Option AV:=
 match c with
 | .cond k _ _=>some (bN (s.open A).ρ k)
 | _=>none
def nx (P:Program)(cf:CallF)(A:cg)(c:Code)(fs gs:List zP)(s:St):St:=((nf P cf A c (Io fs) (DA gs) s).map (·.2)).getD s
section
variable {P:Program}{cf:CallF}{A:cg}{m:Nat}{c:Code}{s:St}{Q R:Ex→St→Prop}
theorem zQ (fs gs:List zP)(hQ:Q .norm (nx P cf A c fs gs s))(h:(nf P cf A c (Io fs) (DA gs) s).map (·.1)=some (ps fs∧ps gs):=by kernel_rfl):de P cf A m c s Q:=by
 unfold nx at hQ
 obtain⟨⟨p,s'⟩,h1,rfl⟩:=Xt.1 h
 rw [h1] at hQ
 exact s4 h1 ⟨Fy fs,Fy gs⟩ hQ
theorem qr (gs:List zP)(hQ:Q .norm (nx P cf A c [] gs s))(h:(nf P cf A c [] (DA gs) s).map (·.1)=some (True∧ps gs):=by kernel_rfl):de P cf A m c s Q:=zQ [] gs hQ h
theorem q0 (hQ:Q .norm (nx P cf A c [] [] s))(h:(nf P cf A c [] [] s).map (·.1)=some (True∧True):=by kernel_rfl):de P cf A m c s Q:=zQ [] [] hQ h
theorem S5 (h:kd c=2):c = .seq (cA c) (cB c):=by cases c<;>first | rfl | cases h
theorem qq (hQ:de P cf A m (cA c) s (Km (fun s'=>de P cf A m (cB c) s' Q) Q))(h:kd c=2:=by kernel_rfl):de P cf A m c s Q:=by rw [S5 h]; exact oD hQ
theorem S8 (fs gs:List zP)(hQ:de P cf A m (cB c) (nx P cf A (cA c) fs gs s) Q)(h:kd c=2:=by kernel_rfl)(h2:(nf P cf A (cA c) (Io fs) (DA gs) s).map (·.1)=some (ps fs∧ps gs):=by kernel_rfl):de P cf A m c s Q:=qq (zQ fs gs hQ h2) h
theorem qs (gs:List zP)(hQ:de P cf A m (cB c) (nx P cf A (cA c) [] gs s) Q)(h:kd c=2:=by kernel_rfl)(h2:(nf P cf A (cA c) [] (DA gs) s).map (·.1)=some (True∧ps gs):=by kernel_rfl):de P cf A m c s Q:=S8 [] gs hQ h h2
theorem q1 (hQ:de P cf A m (cB c) (nx P cf A (cA c) [] [] s) Q)(h:kd c=2:=by kernel_rfl)(h2:(nf P cf A (cA c) [] [] s).map (·.1)=some (True∧True):=by kernel_rfl):de P cf A m c s Q:=S8 [] [] hQ h h2
theorem qk (hQ:Q .norm s)(h:kd c=0:=by kernel_rfl):de P cf A m c s Q:=by
 have:c = .skip:=by cases c<;>first | rfl | cases h
 rw [this]; exact Dk hQ
theorem qt (hQ:Q .ret s)(h:kd c=1:=by kernel_rfl):de P cf A m c s Q:=by
 have:c = .ret:=by cases c<;>first | rfl | cases h
 rw [this]; exact yC hQ
theorem qx (i:Nat)(hQ:Q (.exit i) s)(h:Qn c=some i:=by kernel_rfl):de P cf A m c s Q:=by
 have:c = .exit i:=by cases c<;>first | (cases h; rfl) | cases h
 rw [this]; exact Dl hQ
theorem qb (i:Nat)(hQ:de P cf A m (cA c) s (Qa i Q))(h:Qo c=some i:=by kernel_rfl):de P cf A m c s Q:=by
 have:c = .block i (cA c):=by cases c<;>first | (cases h; rfl) | cases h
 rw [this]; exact Ax hQ
theorem qc {α:Type}{b:Bool}{x y z:Option α}(H:(if b=true then x else y)=z)(ht:b=true→x=z→de P cf A m (cA c) s Q)(hf:b=false→y=z→de P cf A m (cB c) s Q)(h:Qp A c s=some (.bool b):=by kernel_rfl):de P cf A m c s Q:=by
 cases c<;>first | cases h | skip
 rename_i k a e
 exact pV b (XP h) (fun hb=>ht hb (Vq hb H)) (fun hb=>hf hb (Vr hb H))
theorem xc (hQ:de P cf A m (cA c) s Q)(h:Qp A c s=some (.bool true):=by kernel_rfl):de P cf A m c s Q:=by
 cases c<;>first | cases h | skip
 exact pV true (XP h) (fun _=>hQ) (fun hb=>by cases hb)
theorem DB (hQ:de P cf A m (cB c) s Q)(h:Qp A c s=some (.bool false):=by kernel_rfl):de P cf A m c s Q:=by
 cases c<;>first | cases h | skip
 exact pV false (XP h) (fun hb=>by cases hb) (fun _=>hQ)
theorem ql {c':Code}(h:de P cf A m c' s Q)(k:∀e s',Q e s'→R e s')(hc:c=c':=by kernel_rfl):de P cf A m c s R:=by rw [hc]; exact vq h k
theorem qj {α β:Type}{S:α→St→Prop}(f:α→Option β){out:β}{z:Option β}(h0:z=some out)(hB:∀σ s,S σ s→f σ=some out→de P cf A m (cB c) s Q)
  (hA:(∀σ s,S σ s→f σ=some out→de P cf A m (cB c) s Q)→de P cf A m (cA c) s (Km (fun s'=>de P cf A m (cB c) s' Q) Q)) (h:kd c=2:=by kernel_rfl):de P cf A m c s Q:=by
 rw [S5 h]; exact oD (hA hB)
end
def bD {S O:Type}(P:Program)(cf:CallF)(A:cg)(m:Nat)(c:Code)(l:Nat→S→Option O)(R:S→St→Prop)(Q:O→Ex→St→Prop):Prop:=∀σ s out,R σ s→l m σ=some out→de P cf A m (.loop c) s (Q out)
theorem gG {S O:Type}{P:Program}{cf:CallF}{A:cg}{m:Nat}{c:Code}{l:Nat→S→Option O}{R:S→St→Prop}{Q:O→Ex→St→Prop}(h0:∀σ,l 0 σ=none)
  (step:∀k σ s out,R σ s→l (k+1) σ=some out→de P cf A m c s (EY l R Q k out)):bD P cf A m c l R Q:=fun _ _ _ hr H=>Dm l R Q h0 step hr H (fun _ _ _ h=>h)
def KG:Nat→List Nat→List Nat
 | _,[]=>[]
 | k,x::xs=>bif Yc (k % 2) 1 then x::KG (k / 2) xs else KG (k / 2) xs
def Np (keep:List Nat):Nat→List Nat→List (Nat × List Nat)
 | _,[]=>[]
 | r,k::ks=>(r,KG k keep)::Np keep (r+1) ks
def gK (keep aF ms:List Nat)(pD CU:List (Nat × List (Nat × Option Nat × Nat))):cg:={keep:=keep,aF:=aF,dead:=Np keep 0 ms,pD:=pD,CU:=CU}
theorem dJ {α:Type}{b:Bool}{x y z:α}(H:(if b=true then x else y)=z):(b=true∧x=z)∨(b=false∧y=z):=by
 cases b with
 | true=>exact .inl ⟨rfl,H⟩
 | false=>exact .inr ⟨rfl,H⟩
theorem oi {α:Type}{a b:α}(h:some a=some b):a=b:=XP h
theorem cb {P:Program}{A:cg}{s:St}{rs:List ResultVar}{y:AV}(av:AV)(g:AHeap)(h:fW g av y)(h1:aH P (s.open A) rs=some av:=by kernel_rfl)(h2:s.h=g:=by kernel_rfl):∃av,aH P (s.open A) rs=some av∧fW s.h av y:=⟨av,h1,h2 ▸ h⟩
theorem vD {P:Program}{A:cg}{s:St}{rs:List ResultVar}{y:AV}(av:AV)(g:AHeap)(h:wX g av y)(h1:aH P (s.open A) rs=some av:=by kernel_rfl)(h2:s.h=g:=by kernel_rfl):∃av,aH P (s.open A) rs=some av∧wX s.h av y:=⟨av,h1,h2 ▸ h⟩
theorem he {g g':AHeap}{K:Mem}(o:Has g K)(h:g'=g:=by kernel_rfl):Has g' K:=h ▸ o
end Go.R
