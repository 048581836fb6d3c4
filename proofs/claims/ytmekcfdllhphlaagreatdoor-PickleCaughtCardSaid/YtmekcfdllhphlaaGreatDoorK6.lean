/- Part of the proof: RBuf1, RBuf2, RBuf3, RBuf4, RBuf5, RG9, PR1, RFix, RGN, RGL, QW. -/
import Derived.Test.YtmekcfdllhphlaaGreatDoorK5
import Derived.Shelf.LaysM
import Derived.Shelf.Bytes.GrowAt
import Derived.Lib.ByteType
import Derived.Lib.BufferAt
import Derived.Lib.BufferKept
import Derived.Lib.Walk
import Derived.Lib.BufferWrite
import Derived.Lib.Hide
import Derived.WalkKit
import Derived.BigCall
import Derived.BigGuard
import Derived.KernelRfl
import Derived.Test.YtmekcfdllhphlaaGreatDoorProg
set_option linter.unusedVariables false
set_option linter.unusedSimpArgs false
set_option maxRecDepth 100000
open Array renaming getElem?_eq_some_iff → YT, length_toList → Zc, getElem?_toList → ZC
open BitVec renaming ofInt → YS, ofNat → Y9
open Int renaming fdiv_eq_ediv_of_nonneg → ZN
open List renaming length_append → Ys, length_set → Yt, getElem?_eq_some_iff → Yu, getElem?_eq_getElem → Yv, mem_singleton → Yw, append_assoc → Yx, mem_append → Yy, getElem?_eq_none → YC, length_cons → YD, getElem?_append_right → YE, mem_map → YH, map_cons → YJ, cons_append → YL, nil_append → YO, map_append → YP, getElem?_map → YQ, take_of_length_le → YR, getElem?_append_left → YV, mem_cons → YW, take_append_of_le_length → YX, length_map → YY, drop_zero → YZ, getElem?_cons_zero → Y1, mem_append_left → Y4, length_nil → Y6, eq_nil_of_length_eq_zero → Y8, ext_getElem? → Zd, append_nil → Zk, mem_of_getElem? → Zm, take_add_one → Zn, getElem?_cons_succ → Zu, length_take → Zz, set_append_right → ZD, getElem?_set_self → ZI, getElem?_set_ne → ZP, getElem_of_mem → ZU
open Nat renaming le_refl → Yn, zero_add → YG, lt_of_lt_of_le → YN, le_trans → Y0, lt_succ_self → Y2, beq → Y5, add_assoc → Y7, le_succ → Zr, add_sub_cancel_left → Zt, lt_succ_of_lt → ZG, mul_one → ZQ, zero_le → ZY
open Ne renaming symm → ZB
open Option renaming bind_some → Yj, bind_eq_some_iff → Yk, map_eq_some_iff → Yl, map_some → Yp, getD_some → Zi
open Option.some renaming injEq → Ym, inj → YI
open Prod.mk renaming injEq → Yr
namespace Go.R
open Go Go.Proofs Go.Shelf Go.RowKit
variable {P:Program}{ρ:Ren}
structure BRow (T:TypeId)(R:Nat→Option Value)(e:TypeId)(b q:Nat)(lr:Int)(g l cap:Nat)(cur:Array Value)(w:World):Prop where
 three:LibA.Three w b q T R (.slice (some ⟨g,0,none⟩) l cap) (.int .i64 0) (.int .i8 lr)
 row:w.heap[g]? = some (.cells cur e (0,0))
 le:l≤cap
 most:cap≤maxLen
 size:cur.size=cap
 ne:g≠b
structure But (N:Nat→Prop)(w w':World):Prop where
 os:w'.os=w.os
 tape:w'.tape=w.tape
 output:w'.output=w.output
 size:w.heap.size≤w'.heap.size
 block:∀k,k<w.heap.size→¬N k→w'.heap[k]? = w.heap[k]?
theorem But.refl (N:Nat→Prop)(w:World):But N w w:=⟨rfl,rfl,rfl,Yn _,fun _ _ _=>rfl⟩
theorem But.trans {N:Nat→Prop}{w w' w'':World}(a:But N w w')(b:But N w' w''):But N w w'':=
 ⟨b.os.trans a.os,b.tape.trans a.tape,b.output.trans a.output,Y0 a.size b.size,fun k hk hn=>(b.block k (YN hk a.size) hn).trans (a.block k hk hn)⟩
theorem But.mono {N N':Nat→Prop}{w w':World}(a:But N w w')(h:∀k,k<w.heap.size→N k→N' k):But N' w w':=
 ⟨a.os,a.tape,a.output,a.size,fun k hk hn=>a.block k hk fun h'=>hn (h k hk h')⟩
theorem But.setCell {N:Nat→Prop}{w w':World}(a:But N w w'){b:Nat}(hb:b<w.heap.size→N b)(o:Nat)(v:Value):But N w (w'.setCell ⟨b,o,none⟩ v):=
 ⟨a.os,a.tape,a.output,by simpa [World.setCell] using a.size,fun k hk hn=>(Below.heap_setCell w' ⟨b,o,none⟩ v k (by rintro rfl; exact hn (hb hk))).trans (a.block k hk hn)⟩
theorem But.alloc {N:Nat→Prop}{w w':World}(a:But N w w')(o:Obj):But N w (w'.alloc o):=
 ⟨a.os,a.tape,a.output,Y0 a.size (by simp),fun k hk hn=>(Below.heap_alloc w' o k (YN hk a.size)).trans (a.block k hk hn)⟩
theorem But.below {N:Nat→Prop}{w w' w'':World}(a:But N w w')(h:Below w'.heap.size w' w''):But N w w'':=
 a.trans ⟨h.os,h.tape,h.output,h.size,fun k hk _=>h.block k hk⟩
theorem heap_setCell_other (w:World){b k:Nat}(o:Nat)(v:Value)(h:k≠b):(w.setCell ⟨b,o,none⟩ v).heap[k]? = w.heap[k]?:=
 Below.heap_setCell w ⟨b,o,none⟩ v k h
set_option maxHeartbeats 12800000 in
theorem grow_row (L:LaysM.n252 P ρ)(T:TypeId)(R:Nat→Option Value)(b q g l cap n:Nat)(lr:Int)(cur:Array Value)(w:World)(h:BRow T R (ρ.t 5) b q lr g l cap cur w)
  (h1:∀v∈cur.toList.take l,v.oneCell'=true) (hl0:l≠0) (hn:1≤n) (hroom:cap - l<n) (hlim:l+n≤140737488355328) :
  Calls P (ρ.f 252) #[.pointer (some ⟨b,q,none⟩),.int .i64 n] w fun e w'=>e = .returned (.int .i64 l)∧
   ∃g' cap' cur',BRow T R (ρ.t 5) b q lr g' (l+n) cap' cur' w'∧cur'.toList.take l=cur.toList.take l∧w.heap.size≤g'∧But (· = b) w w':=by
 have mixed:=L.mixed
 have t5:=L.t5; have a5:=L.a5; have z5:=L.z5; have v5:=L.v5
 have t130:=L.t130; have a130:=L.a130; have z130:=L.z130; have v130:=L.v130
 have t3:=L.t3; have a3:=L.a3; have z3:=L.z3; have v3:=L.v3
 have t4:=L.t4; have a4:=L.a4; have z4:=L.z4; have v4:=L.v4
 have t0:=L.t0; have a0:=L.a0; have z0:=L.z0; have v0:=L.v0
 have t93:=L.t93; have u93:=run_underlying L.t93; have a93:=L.a93; have z93:=L.z93; have v93:=L.v93
 have t131:=L.t131; have a131:=L.a131; have z131:=L.z131; have v131:=L.v131
 have t37:=L.t37; have a37:=L.a37; have z37:=L.z37; have v37:=L.v37
 have t75:=L.t75; have a75:=L.a75; have z75:=L.z75; have v75:=L.v75
 have e181:∀args w,(callFunc (ρ.f 181) args).run P w = .ok (.enter (ρ.f 181) args) w:=enters_of L.f181 (by kernel_rfl) rfl
 have e251:∀args w,(callFunc (ρ.f 251) args).run P w = .ok (.enter (ρ.f 251) args) w:=enters_of L.f251 (by kernel_rfl) rfl
 have e290:∀args w,(callFunc (ρ.f 290) args).run P w = .ok (.enter (ρ.f 290) args) w:=enters_of L.f290 (by kernel_rfl) rfl
 obtain⟨hbk,hg,hlc,hcm,hcs,hgb⟩:=h
 have hlen:(cur.toList.take l).length=l:=by rw [Zz,Zc]; omega
 have hIs:LibA.IsBuffer T R (ρ.t 5) 0 b q (cur.toList.take l) w:=by
  have:=LibA.isBuffer_mk (e:=ρ.t 5) (B:=0) (ZY _) hbk (ZY _) hg hlc hcm hcs hgb
  exact this
 have hnil:∀W,(binOp .eql (ρ.t 37) (.slice (some ⟨g,0,none⟩) l cap) (.slice none 0 0)).run P W = .ok (.bool false) W:=fun W=>Lib.run_eql_slice_some_nil W _ _ _ L.t37
 go_enter L.f252,Body.n252_ntmps ρ
 go_wp2_with (go_at_fn (ρ.f 181); refine (Any.Buffer_Len_at {L with} T R 0 b q _ _ hIs).mono ?_)
 rintro e W0 ⟨rfl,k,hW0⟩
 rw [hlen]
 have hbk0:LibA.Three W0 b q T R (.slice (some ⟨g,0,none⟩) l cap) (.int .i64 0) (.int .i8 lr):=by rw [hW0]; exact hbk
 have hg0:W0.heap[g]? = some (.cells cur (ρ.t 5) (0,0)):=by rw [hW0]; exact hg
 have c0:W0.cell? ⟨b,q,none⟩=some (.slice (some ⟨g,0,none⟩) l cap):=hbk0.c0
 have c1:W0.cell? ⟨b,q+1,none⟩=some (.int .i64 0):=hbk0.c1
 have f0:W0.frozen? ⟨b,q,none⟩=false:=hbk0.f q
 have f1:W0.frozen? ⟨b,q+1,none⟩=false:=hbk0.f (q+1)
 have HW0:=Lib.hid hW0
 clear hW0 hIs hlen
 have hcm':=hcm
 unfold maxLen at hcm'
 go_wp2_with (go_at_fn (ρ.f 251); refine (Any.Buffer_tryGrow_none_at {L with} b q _ l cap n _ c0 hlc hcm hroom).mono ?_; rintro e w' ⟨rfl,rfl⟩)
 have hc2:cap≤140737488355328:=by omega
 have hbW:=hbk0.lt
 have hwn:IntKind.i64.wrap (n:Int)=n:=by rw [IntKind.wrap_i64]; omega
 go_region_with_o (
   go_at_fn (ρ.f 290)
   refine (Any.bytes_growSlice_row {L with} g l cap n cur _ ?_ hcs hlc hn hlim hc2 h1).mono ?_
   exact hg0
   rintro e w2 ⟨cap2,cells,rfl,hN,hcsz,htk,hcap2,hcm2,hbel⟩
   have hbk2:LibA.Three w2 b q T R (.slice (some ⟨g,0,none⟩) l cap) (.int .i64 0) (.int .i8 lr):=hbk0.of_heap (hbel.block b hbW)
   have d0:w2.cell? ⟨b,q,none⟩=some (.slice (some ⟨g,0,none⟩) l cap):=hbk2.c0
   have d1:w2.cell? ⟨b,q+1,none⟩=some (.int .i64 0):=hbk2.c1
   have e0:w2.frozen? ⟨b,q,none⟩=false:=hbk2.f q
   have e1:w2.frozen? ⟨b,q+1,none⟩=false:=hbk2.f (q+1))
 all_goals (
  go_wp2
  go_ret
  have hsz0:w'.drew.heap.size=w.heap.size:=by rw [HW0.out]; rfl
  have hb0:But (· = b) w w'.drew:=by rw [HW0.out]; exact⟨rfl,rfl,rfl,Yn _,fun _ _ _=>rfl⟩
  have hne:w'.drew.heap.size≠b:=by have:b<w'.drew.heap.size:=hbW; omega
  refine⟨rfl,w'.drew.heap.size,cap2,cells,⟨((hbk2.set0 _).set1 _).set0 _,?_,hcap2,hcm2,hcsz,hne⟩,htk,by omega,(((hb0.below hbel).setCell (fun _=>rfl) q _).setCell (fun _=>rfl) (q+1) _).setCell (fun _=>rfl) q _⟩
  rw [heap_setCell_other _ _ _ hne,heap_setCell_other _ _ _ hne,heap_setCell_other _ _ _ hne]
  exact hN)
set_option maxHeartbeats 12800000 in
theorem grow_small (L:LaysM.n252 P ρ)(T:TypeId)(R:Nat→Option Value)(b q n:Nat)(lr:Int)(w:World)
  (hbk:LibA.Three w b q T R (.slice none 0 0) (.int .i64 0) (.int .i8 lr)) (hn:1≤n) (h64:n≤64) :
  Calls P (ρ.f 252) #[.pointer (some ⟨b,q,none⟩),.int .i64 n] w fun e w'=>e = .returned (.int .i64 0)∧
   ∃g' cap' cur',BRow T R (ρ.t 5) b q lr g' n cap' cur' w'∧w.heap.size≤g'∧But (· = b) w w':=by
 have mixed:=L.mixed
 have t5:=L.t5; have a5:=L.a5; have z5:=L.z5; have v5:=L.v5
 have t130:=L.t130; have a130:=L.a130; have z130:=L.z130; have v130:=L.v130
 have t3:=L.t3; have a3:=L.a3; have z3:=L.z3; have v3:=L.v3
 have t4:=L.t4; have a4:=L.a4; have z4:=L.z4; have v4:=L.v4
 have t0:=L.t0; have a0:=L.a0; have z0:=L.z0; have v0:=L.v0
 have t93:=L.t93; have u93:=run_underlying L.t93; have a93:=L.a93; have z93:=L.z93; have v93:=L.v93
 have t131:=L.t131; have a131:=L.a131; have z131:=L.z131; have v131:=L.v131
 have t37:=L.t37; have a37:=L.a37; have z37:=L.z37; have v37:=L.v37
 have t75:=L.t75; have a75:=L.a75; have z75:=L.z75; have v75:=L.v75
 have e181:∀args w,(callFunc (ρ.f 181) args).run P w = .ok (.enter (ρ.f 181) args) w:=enters_of L.f181 (by kernel_rfl) rfl
 have e251:∀args w,(callFunc (ρ.f 251) args).run P w = .ok (.enter (ρ.f 251) args) w:=enters_of L.f251 (by kernel_rfl) rfl
 obtain⟨i0,hi,hz0,hz1,hz2⟩:=info_parts L.i5
 obtain⟨M,hM⟩:∃M,M=madeCells (Value.int .u8 0).cells ((64:Int).toNat*i0.size):=⟨_,rfl⟩
 have hMs:M.size=64:=by rw [hM,size_madeCells,hz1]; rfl
 have hmk:∀W:World,(Instr.makeSlice (ρ.t 37) (.int .i64 (n:Int)) (.int .i64 64)).run P W = .ok (.slice (some ⟨W.heap.size,0,none⟩) n 64) (W.alloc (.cells M (ρ.t 5))):=fun W=>by
  have h:=run_makeSlice (P:=P) W (ρ.t 37) (ρ.t 5) i0 (.int .u8 0) L.t37 hi hz0 .i64 .i64 (n:Int) 64 (by omega) (by omega) (by rw [hz1]; decide) (by rw [hz2]; decide) (by decide)
  rw [←hM] at h
  simpa using h
 clear hM
 have hIs:LibA.IsBuffer T R (ρ.t 5) 0 b q [] w:=LibA.zero_isBuffer (ZY _) hbk
 have hnil:∀W,(binOp .eql (ρ.t 37) (.slice none 0 0) (.slice none 0 0)).run P W = .ok (.bool true) W:=fun W=>Lib.run_eql_slice_nil_nil W _ _ L.t37
 go_enter L.f252,Body.n252_ntmps ρ
 go_wp2_with (go_at_fn (ρ.f 181); refine (Any.Buffer_Len_at {L with} T R 0 b q [] _ hIs).mono ?_)
 rintro e W0 ⟨rfl,k,hW0⟩
 have hbk0:LibA.Three W0 b q T R (.slice none 0 0) (.int .i64 0) (.int .i8 lr):=by rw [hW0]; exact hbk
 have c0:W0.cell? ⟨b,q,none⟩=some (.slice none 0 0):=hbk0.c0
 have c1:W0.cell? ⟨b,q+1,none⟩=some (.int .i64 0):=hbk0.c1
 have f0:W0.frozen? ⟨b,q,none⟩=false:=hbk0.f q
 have f1:W0.frozen? ⟨b,q+1,none⟩=false:=hbk0.f (q+1)
 have hbW0:=hbk0.lt
 have c0a:∀o,(W0.alloc o).cell? ⟨b,q,none⟩=some (.slice none 0 0):=fun o=>(World.cell?_of_block (a:=⟨b,q,none⟩) (Below.heap_alloc W0 o b hbW0)).trans c0
 have f0a:∀o,(W0.alloc o).frozen? ⟨b,q,none⟩=false:=fun o=>(World.frozen?_of_block (a:=⟨b,q,none⟩) (Below.heap_alloc W0 o b hbW0)).trans f0
 have HW0:=Lib.hid hW0
 clear hW0 hIs
 go_wp2_with (go_at_fn (ρ.f 251); refine (Any.Buffer_tryGrow_none_at {L with} b q _ 0 0 n _ c0 (Yn _) (ZY _) (by omega)).mono ?_; rintro e w' ⟨rfl,rfl⟩)
 go_ret
 have hsz0:w'.heap.size=w.heap.size:=by rw [HW0.out]; rfl
 have hb0:But (· = b) w w':=by rw [HW0.out]; exact⟨rfl,rfl,rfl,Yn _,fun _ _ _=>rfl⟩
 have hne:w'.heap.size≠b:=by omega
 have hbW1:b<(w'.setCell ⟨b,q,none⟩ (.slice (some ⟨w'.heap.size,0,none⟩) n 64)).heap.size:=by simpa [World.setCell] using hbW0
 have hNf:((w'.setCell ⟨b,q,none⟩ (.slice (some ⟨w'.heap.size,0,none⟩) n 64)).alloc (.cells M (ρ.t 5))).heap[w'.heap.size]? = some (.cells M (ρ.t 5) (0,0)):=by
  have h:=heap_alloc_new (w'.setCell ⟨b,q,none⟩ (.slice (some ⟨w'.heap.size,0,none⟩) n 64)) (.cells M (ρ.t 5))
  rwa [show (w'.setCell ⟨b,q,none⟩ (.slice (some ⟨w'.heap.size,0,none⟩) n 64)).heap.size=w'.heap.size by simp [World.setCell]] at h
 exact⟨rfl,w'.heap.size,64,M,⟨(hbk0.set0 _).of_heap (Below.heap_alloc _ _ b hbW1),hNf,h64,by unfold maxLen; omega,hMs,hne⟩,by omega,(hb0.setCell (fun _=>rfl) q _).alloc _⟩
section
variable {T e:TypeId}{R:Nat→Option Value}{lr:Int}{b q g l l' cap:Nat}{cur:Array Value}{w:World}
theorem take_set (hl:l<cur.size)(v:Value):(cur.setIfInBounds l v).toList.take (l+1)=cur.toList.take l++[v]:=by
 have hll:l<cur.toList.length:=by rw [Zc]; exact hl
 rw [Array.toList_setIfInBounds,Zn,List.take_set_of_le (Yn _),ZI hll]
 rfl
theorem BRow.poke (h:BRow T R e b q lr g l' cap cur w)(i:Nat)(v:Value):BRow T R e b q lr g l' cap (cur.setIfInBounds i v) (w.setCell ⟨g,i,none⟩ v):=
 ⟨h.three.of_heap (Below.heap_setCell _ _ _ _ (ZB h.ne)),Lib.heap_setCell_same (i:=i) h.row v,h.le,h.most,by simpa using h.size,h.ne⟩
theorem BRow.setRow (h:BRow T R e b q lr g l' cap cur w){C:Array Value}(hC:C.size=cap):BRow T R e b q lr g l' cap C (w.setRow g C):=
 ⟨h.three.of_heap (setRow_other _ _ _ _ (ZB h.ne)),setRow_heap w g cur _ e (0,0) h.row,h.le,h.most,hC,h.ne⟩
theorem But.setRow {N:Nat→Prop}{w w':World}(a:But N w w'){g:Nat}(hg:g<w.heap.size→N g)(C:Array Value):But N w (w'.setRow g C):=
 ⟨a.os,a.tape,a.output,by simpa using a.size,fun k hk hn=>(setRow_other _ _ _ _ (by rintro rfl; exact hn (hg hk))).trans (a.block k hk hn)⟩
end
set_option maxHeartbeats 6400000 in
theorem writeByte_nil (L:LaysM.n179 P ρ)(T:TypeId)(R:Nat→Option Value)(b q:Nat)(c lr:Int)(w:World)(hbk:LibA.Three w b q T R (.slice none 0 0) (.int .i64 0) (.int .i8 lr)) :
  Calls P (ρ.f 179) #[.pointer (some ⟨b,q,none⟩),.int .u8 c] w fun e w'=>e = .returned .nilIface∧∃g' cap' cur',BRow T R (ρ.t 5) b q 0 g' 1 cap' cur' w'∧cur'.toList.take 1=[.int .u8 c]∧w.heap.size≤g'∧But (· = b) w w':=by
 have mixed:=L.mixed
 have t5:=L.t5; have a5:=L.a5; have z5:=L.z5; have v5:=L.v5
 have t130:=L.t130; have a130:=L.a130; have z130:=L.z130; have v130:=L.v130
 have t75:=L.t75; have a75:=L.a75; have z75:=L.z75; have v75:=L.v75
 have t0:=L.t0; have a0:=L.a0; have z0:=L.z0; have v0:=L.v0
 have t93:=L.t93; have u93:=run_underlying L.t93; have a93:=L.a93; have z93:=L.z93; have v93:=L.v93
 have t91:=L.t91; have a91:=L.a91; have z91:=L.z91; have v91:=L.v91
 have t3:=L.t3; have a3:=L.a3; have z3:=L.z3; have v3:=L.v3
 have t131:=L.t131; have a131:=L.a131; have z131:=L.z131; have v131:=L.v131
 have t4:=L.t4; have a4:=L.a4; have z4:=L.z4; have v4:=L.v4
 have t37:=L.t37; have a37:=L.a37; have z37:=L.z37; have v37:=L.v37
 have e251:∀args w,(callFunc (ρ.f 251) args).run P w = .ok (.enter (ρ.f 251) args) w:=enters_of L.f251 (by kernel_rfl) rfl
 have e252:∀args w,(callFunc (ρ.f 252) args).run P w = .ok (.enter (ρ.f 252) args) w:=enters_of L.f252 (by kernel_rfl) rfl
 have c2:w.cell? ⟨b,q+2,none⟩=some (.int .i8 lr):=hbk.c2
 have f2:w.frozen? ⟨b,q+2,none⟩=false:=hbk.f (q+2)
 have hbut:But (· = b) w (w.setCell ⟨b,q+2,none⟩ (.int .i8 0)):=(But.refl (· = b) w).setCell (fun _=>rfl) (q+2) _
 have hbk1:=hbk.set2 (.int .i8 0)
 have hsz:(w.setCell ⟨b,q+2,none⟩ (.int .i8 0)).heap.size=w.heap.size:=by simp [World.setCell]
 generalize hW:w.setCell ⟨b,q+2,none⟩ (.int .i8 0)=W at hbut hbk1 hsz
 have k0:W.cell? ⟨b,q,none⟩=some (.slice none 0 0):=hbk1.c0
 have hT:Calls P (ρ.f 251) #[.pointer (some ⟨b,q,none⟩),.int .i64 1] W _:=Any.Buffer_tryGrow_none_at {L with} b q none 0 0 1 W k0 (Yn _) (ZY _) (by omega)
 have hG:Calls P (ρ.f 252) #[.pointer (some ⟨b,q,none⟩),.int .i64 1] W _:=grow_small {L with} T R b q 1 0 W hbk1 (Yn _) (by omega)
 clear hbk hbk1
 go_enter L.f179,Body.n179_ntmps ρ
 go_wp2_with (go_at_fn (ρ.f 251); (try rw [hW]); refine hT.mono ?_; rintro e w' ⟨rfl,rfl⟩)
 go_wp2_with (go_at_fn (ρ.f 252); refine hG.mono ?_)
 rintro e W1 ⟨rfl,g,cap,cur,hI,hge,hbut1⟩
 clear hT hG c2 f2
 have d0:W1.cell? ⟨b,q,none⟩=some (.slice (some ⟨g,0,none⟩) 1 cap):=hI.three.c0
 have hlt:0<cur.size:=by rw [hI.size]; exact hI.le
 have dg:W1.cell? ⟨g,0,none⟩=some cur[0]:=by rw [Lib.cell_of_heap hI.row,Array.getElem?_eq_getElem hlt]
 have fg:W1.frozen? ⟨g,0,none⟩=false:=Lib.frozen_of_heap hI.row _
 have hcm':=hI.most
 unfold maxLen at hcm'
 have hcl:=hI.le
 go_wp2
 go_ret
 refine⟨rfl,g,cap,_,hI.poke 0 (.int .u8 c),?_,by omega,(hbut.trans (hbut1.mono fun _ _ h=>h)).setCell (fun h=>by omega) 0 _⟩
 have:=take_set hlt (.int .u8 c)
 simpa using this
end Go.R
namespace Go.R
open Go Go.Proofs Go.Shelf Go.RowKit
variable {P:Program}{ρ:Ren}
set_option maxHeartbeats 12800000 in
theorem writeByte_row (L:LaysM.n179 P ρ)(T:TypeId)(R:Nat→Option Value)(b q g l cap:Nat)(c lr:Int)(cur:Array Value)(w:World)(h:BRow T R (ρ.t 5) b q lr g l cap cur w)
  (h1:∀v∈cur.toList.take l,v.oneCell'=true) (hl0:l≠0) (hlim:l+1≤140737488355328) :
  Calls P (ρ.f 179) #[.pointer (some ⟨b,q,none⟩),.int .u8 c] w fun e w'=>e = .returned .nilIface∧
   ∃g' cap' cur',BRow T R (ρ.t 5) b q 0 g' (l+1) cap' cur' w'∧cur'.toList.take (l+1)=cur.toList.take l++[.int .u8 c]∧(w.heap.size≤g'∨(g'=g∧cur'.size=cur.size))∧But (fun k=>k=b∨k=g') w w':=by
 have mixed:=L.mixed
 have t5:=L.t5; have a5:=L.a5; have z5:=L.z5; have v5:=L.v5
 have t130:=L.t130; have a130:=L.a130; have z130:=L.z130; have v130:=L.v130
 have t75:=L.t75; have a75:=L.a75; have z75:=L.z75; have v75:=L.v75
 have t0:=L.t0; have a0:=L.a0; have z0:=L.z0; have v0:=L.v0
 have t93:=L.t93; have u93:=run_underlying L.t93; have a93:=L.a93; have z93:=L.z93; have v93:=L.v93
 have t91:=L.t91; have a91:=L.a91; have z91:=L.z91; have v91:=L.v91
 have t3:=L.t3; have a3:=L.a3; have z3:=L.z3; have v3:=L.v3
 have t131:=L.t131; have a131:=L.a131; have z131:=L.z131; have v131:=L.v131
 have t4:=L.t4; have a4:=L.a4; have z4:=L.z4; have v4:=L.v4
 have t37:=L.t37; have a37:=L.a37; have z37:=L.z37; have v37:=L.v37
 have e251:∀args w,(callFunc (ρ.f 251) args).run P w = .ok (.enter (ρ.f 251) args) w:=enters_of L.f251 (by kernel_rfl) rfl
 have e252:∀args w,(callFunc (ρ.f 252) args).run P w = .ok (.enter (ρ.f 252) args) w:=enters_of L.f252 (by kernel_rfl) rfl
 have c2:w.cell? ⟨b,q+2,none⟩=some (.int .i8 lr):=h.three.c2
 have f2:w.frozen? ⟨b,q+2,none⟩=false:=h.three.f (q+2)
 have hbut:But (fun k=>k=b) w (w.setCell ⟨b,q+2,none⟩ (.int .i8 0)):=(But.refl (· = b) w).setCell (fun _=>rfl) (q+2) _
 have hI0:BRow T R (ρ.t 5) b q 0 g l cap cur (w.setCell ⟨b,q+2,none⟩ (.int .i8 0)):=⟨h.three.set2 _,(heap_setCell_other _ _ _ h.ne).trans h.row,h.le,h.most,h.size,h.ne⟩
 have hsz:(w.setCell ⟨b,q+2,none⟩ (.int .i8 0)).heap.size=w.heap.size:=by simp [World.setCell]
 generalize hW:w.setCell ⟨b,q+2,none⟩ (.int .i8 0)=W at hbut hI0 hsz
 have k0:W.cell? ⟨b,q,none⟩=some (.slice (some ⟨g,0,none⟩) l cap):=hI0.three.c0
 have kf:W.frozen? ⟨b,q,none⟩=false:=hI0.three.f q
 have hle:=h.le
 have hcm:=h.most
 by_cases hr:1≤cap - l
 ·have hT:Calls P (ρ.f 251) #[.pointer (some ⟨b,q,none⟩),.int .i64 1] W _:=Any.Buffer_tryGrow_room_at {L with} b q _ l cap 1 W k0 kf hle hcm hr
  clear c2 f2
  have c2:w.cell? ⟨b,q+2,none⟩=some (.int .i8 lr):=h.three.c2
  have f2:w.frozen? ⟨b,q+2,none⟩=false:=h.three.f (q+2)
  have hb1:BRow T R (ρ.t 5) b q 0 g (l+1) cap cur (W.setCell ⟨b,q,none⟩ (.slice (some ⟨g,0,none⟩) (l+1) cap)):=⟨hI0.three.set0 _,(heap_setCell_other _ _ _ h.ne).trans hI0.row,by omega,h.most,h.size,h.ne⟩
  have hbut1:=hbut.setCell (b:=b) (fun _=>rfl) q (.slice (some ⟨g,0,none⟩) (l+1) cap)
  clear hI0 k0 kf
  generalize hW1:W.setCell ⟨b,q,none⟩ (.slice (some ⟨g,0,none⟩) (l+1) cap)=W1 at hb1 hbut1
  have hT1:Calls P (ρ.f 251) #[.pointer (some ⟨b,q,none⟩),.int .i64 1] W fun e w'=>e = .returned (.tuple #[.int .i64 l,.bool true])∧w'=W1:=hT.mono fun e w' hh=>⟨hh.1,hh.2.trans hW1⟩
  clear hT
  have d0:W1.cell? ⟨b,q,none⟩=some (.slice (some ⟨g,0,none⟩) (l+1) cap):=hb1.three.c0
  have hlt:l<cur.size:=by rw [hb1.size]; exact hb1.le
  have dg:W1.cell? ⟨g,l,none⟩=some cur[l]:=by rw [Lib.cell_of_heap hb1.row,Array.getElem?_eq_getElem hlt]
  have fg:W1.frozen? ⟨g,l,none⟩=false:=Lib.frozen_of_heap hb1.row _
  have hcm':=hcm
  unfold maxLen at hcm'
  have hcl:=hb1.le
  clear hW1
  go_enter L.f179,Body.n179_ntmps ρ
  go_wp2_with (go_at_fn (ρ.f 251); (try rw [hW]); refine hT1.mono ?_; rintro e w' ⟨rfl,rfl⟩; clear hT1 c2 f2)
  go_ret
  exact⟨rfl,g,cap,_,hb1.poke l (.int .u8 c),take_set hlt _,.inr ⟨rfl,by simp⟩,(hbut1.mono fun _ _ h=>.inl h).setCell (fun _=>.inr rfl) l _⟩
 ·have hT:Calls P (ρ.f 251) #[.pointer (some ⟨b,q,none⟩),.int .i64 1] W _:=Any.Buffer_tryGrow_none_at {L with} b q _ l cap 1 W k0 hle hcm (by omega)
  have hG:Calls P (ρ.f 252) #[.pointer (some ⟨b,q,none⟩),.int .i64 1] W _:=grow_row {L with} T R b q g l cap 1 0 cur W hI0 h1 hl0 (Yn _) (by omega) hlim
  clear hI0 k0 kf hle hcm
  go_enter L.f179,Body.n179_ntmps ρ
  go_wp2_with (go_at_fn (ρ.f 251); (try rw [hW]); refine hT.mono ?_; rintro e w' ⟨rfl,rfl⟩)
  go_wp2_with (go_at_fn (ρ.f 252); refine hG.mono ?_)
  rintro e W1 ⟨rfl,g',cap',cur',hI,htk,hge,hbut1⟩
  clear hT hG c2 f2
  have d0:W1.cell? ⟨b,q,none⟩=some (.slice (some ⟨g',0,none⟩) (l+1) cap'):=hI.three.c0
  have hlt:l<cur'.size:=by rw [hI.size]; exact hI.le
  have dg:W1.cell? ⟨g',l,none⟩=some cur'[l]:=by rw [Lib.cell_of_heap hI.row,Array.getElem?_eq_getElem hlt]
  have fg:W1.frozen? ⟨g',l,none⟩=false:=Lib.frozen_of_heap hI.row _
  have hcm':=hI.most
  unfold maxLen at hcm'
  have hcl:=hI.le
  go_wp2
  go_ret
  exact⟨rfl,g',cap',_,hI.poke l (.int .u8 c),by rw [take_set hlt,htk],.inl (by omega),((hbut.trans hbut1).mono fun _ _ h=>.inl h).setCell (fun _=>.inr rfl) l _⟩
end Go.R
namespace Go.R
open Go Go.Proofs Go.Shelf Go.RowKit
variable {P:Program}{ρ:Ren}
theorem take_mid {cur:Array Value}{l m:Nat}{news:List Value}(hn:news.length=m)(hl:l+m≤cur.size) :
  (cur.toList.take l++news++cur.toList.drop (l+m)).toArray.size=cur.size∧(cur.toList.take l++news++cur.toList.drop (l+m)).toArray.toList.take (l+m)=cur.toList.take l++news:=by
 have h1:(cur.toList.take l).length=l:=by rw [Zz,Zc]; omega
 refine⟨by simp only [List.size_toArray,Ys,h1,hn,List.length_drop,Zc]; omega,?_⟩
 rw [List.toList_toArray,YX (by rw [Ys,h1,hn]; exact Yn _),YR (by rw [Ys,h1,hn]; exact Yn _)]
set_option maxHeartbeats 12800000 in
theorem writeString_row (L:LaysM.n178 P ρ)(T:TypeId)(R:Nat→Option Value)(b q g l cap:Nat)(lr:Int)(s:ByteArray)(cur:Array Value)(w:World)(h:BRow T R (ρ.t 5) b q lr g l cap cur w)
  (h1:∀v∈cur.toList.take l,v.oneCell'=true) (hl0:l≠0) (hs0:s.size≠0) (hlim:l+s.size≤140737488355328) :
  Calls P (ρ.f 178) #[.pointer (some ⟨b,q,none⟩),.string s] w fun e w'=>e = .returned (.tuple #[.int .i64 s.size,.nilIface])∧
   ∃g' cap' cur',BRow T R (ρ.t 5) b q 0 g' (l+s.size) cap' cur' w'∧cur'.toList.take (l+s.size)=cur.toList.take l++Lib.byteCells s.data.toList∧(w.heap.size≤g'∨(g'=g∧cur'.size=cur.size))∧But (fun k=>k=b∨k=g') w w':=by
 have mixed:=L.mixed
 have t5:=L.t5; have a5:=L.a5; have z5:=L.z5; have v5:=L.v5
 have t130:=L.t130; have a130:=L.a130; have z130:=L.z130; have v130:=L.v130
 have t9:=L.t9; have a9:=L.a9; have z9:=L.z9; have v9:=L.v9
 have t3:=L.t3; have a3:=L.a3; have z3:=L.z3; have v3:=L.v3
 have t75:=L.t75; have a75:=L.a75; have z75:=L.z75; have v75:=L.v75
 have t0:=L.t0; have a0:=L.a0; have z0:=L.z0; have v0:=L.v0
 have t93:=L.t93; have u93:=run_underlying L.t93; have a93:=L.a93; have z93:=L.z93; have v93:=L.v93
 have t91:=L.t91; have a91:=L.a91; have z91:=L.z91; have v91:=L.v91
 have t131:=L.t131; have a131:=L.a131; have z131:=L.z131; have v131:=L.v131
 have t4:=L.t4; have a4:=L.a4; have z4:=L.z4; have v4:=L.v4
 have t37:=L.t37; have a37:=L.a37; have z37:=L.z37; have v37:=L.v37
 have e251:∀args w,(callFunc (ρ.f 251) args).run P w = .ok (.enter (ρ.f 251) args) w:=enters_of L.f251 (by kernel_rfl) rfl
 have e252:∀args w,(callFunc (ρ.f 252) args).run P w = .ok (.enter (ρ.f 252) args) w:=enters_of L.f252 (by kernel_rfl) rfl
 have hinfo:(P.info? (ρ.t 5)).map (·.size)=some 1:=by
  obtain⟨i0,hi,-,hz1,-⟩:=info_parts L.i5
  rw [hi]; simp [hz1]
 have hnl:(Lib.byteCells s.data.toList).length=s.size:=by rw [Lib.byteCells_length,←Lib.size_eq]
 have c2:w.cell? ⟨b,q+2,none⟩=some (.int .i8 lr):=h.three.c2
 have f2:w.frozen? ⟨b,q+2,none⟩=false:=h.three.f (q+2)
 have hbut:But (fun k=>k=b) w (w.setCell ⟨b,q+2,none⟩ (.int .i8 0)):=(But.refl (· = b) w).setCell (fun _=>rfl) (q+2) _
 have hI0:BRow T R (ρ.t 5) b q 0 g l cap cur (w.setCell ⟨b,q+2,none⟩ (.int .i8 0)):=⟨h.three.set2 _,(heap_setCell_other _ _ _ h.ne).trans h.row,h.le,h.most,h.size,h.ne⟩
 have hsz:(w.setCell ⟨b,q+2,none⟩ (.int .i8 0)).heap.size=w.heap.size:=by simp [World.setCell]
 generalize hW:w.setCell ⟨b,q+2,none⟩ (.int .i8 0)=W at hbut hI0 hsz
 have k0:W.cell? ⟨b,q,none⟩=some (.slice (some ⟨g,0,none⟩) l cap):=hI0.three.c0
 have kf:W.frozen? ⟨b,q,none⟩=false:=hI0.three.f q
 have hle:=h.le
 have hcm:=h.most
 by_cases hr:s.size≤cap - l
 ·have hT:Calls P (ρ.f 251) #[.pointer (some ⟨b,q,none⟩),.int .i64 s.size] W _:=Any.Buffer_tryGrow_room_at {L with} b q _ l cap s.size W k0 kf hle hcm hr
  have hb1:BRow T R (ρ.t 5) b q 0 g (l+s.size) cap cur (W.setCell ⟨b,q,none⟩ (.slice (some ⟨g,0,none⟩) (l+s.size) cap)):=⟨hI0.three.set0 _,(heap_setCell_other _ _ _ h.ne).trans hI0.row,by omega,h.most,h.size,h.ne⟩
  have hbut1:=hbut.setCell (b:=b) (fun _=>rfl) q (.slice (some ⟨g,0,none⟩) (l+s.size) cap)
  clear hI0 k0 kf
  generalize hW1:W.setCell ⟨b,q,none⟩ (.slice (some ⟨g,0,none⟩) (l+s.size) cap)=W1 at hb1 hbut1
  have hT1:Calls P (ρ.f 251) #[.pointer (some ⟨b,q,none⟩),.int .i64 s.size] W fun e w'=>e = .returned (.tuple #[.int .i64 l,.bool true])∧w'=W1:=hT.mono fun e w' hh=>⟨hh.1,hh.2.trans hW1⟩
  clear hT
  have d0:W1.cell? ⟨b,q,none⟩=some (.slice (some ⟨g,0,none⟩) (l+s.size) cap):=hb1.three.c0
  have hfit:l+s.size≤cur.size:=by rw [hb1.size]; exact hb1.le
  have hne:¬cap=l:=by omega
  have hcp:=Lib.run_copy_row_string (P:=P) W1 (ρ.t 37) (ρ.t 9) (ρ.t 3) (ρ.t 5) g l s.size (cap - l) s cur (ρ.t 5) L.t37 hinfo hb1.row (Yn _) hfit
  have hcm':=hcm
  unfold maxLen at hcm'
  have hcl:=hb1.le
  clear hW1
  go_enter L.f178,Body.n178_ntmps ρ
  go_wp2_with (go_at_fn (ρ.f 251); (try rw [hW]); refine hT1.mono ?_; rintro e w' ⟨rfl,rfl⟩; clear hT1 c2 f2)
  go_ret2
  obtain⟨m1,m2⟩:=take_mid hnl hfit
  rw [Yx] at m1 m2
  exact⟨rfl,g,cap,_,hb1.setRow (m1.trans hb1.size),m2,.inr ⟨rfl,m1⟩,(hbut1.mono fun _ _ h=>.inl h).setRow (fun _=>.inr rfl) _⟩
 ·have hT:Calls P (ρ.f 251) #[.pointer (some ⟨b,q,none⟩),.int .i64 s.size] W _:=Any.Buffer_tryGrow_none_at {L with} b q _ l cap s.size W k0 hle hcm (by omega)
  have hG:Calls P (ρ.f 252) #[.pointer (some ⟨b,q,none⟩),.int .i64 s.size] W _:=grow_row {L with} T R b q g l cap s.size 0 cur W hI0 h1 hl0 (by omega) (by omega) hlim
  clear hI0 k0 kf hle hcm
  go_enter L.f178,Body.n178_ntmps ρ
  go_wp2_with (go_at_fn (ρ.f 251); (try rw [hW]); refine hT.mono ?_; rintro e w' ⟨rfl,rfl⟩)
  go_wp2_with (go_at_fn (ρ.f 252); refine hG.mono ?_)
  rintro e W1 ⟨rfl,g',cap',cur',hI,htk,hge,hbut1⟩
  clear hT hG c2 f2
  have d0:W1.cell? ⟨b,q,none⟩=some (.slice (some ⟨g',0,none⟩) (l+s.size) cap'):=hI.three.c0
  have hfit:l+s.size≤cur'.size:=by rw [hI.size]; exact hI.le
  have hcl:=hI.le
  have hne:¬cap'=l:=by omega
  have hcp:=Lib.run_copy_row_string (P:=P) W1 (ρ.t 37) (ρ.t 9) (ρ.t 3) (ρ.t 5) g' l s.size (cap' - l) s cur' (ρ.t 5) L.t37 hinfo hI.row (Yn _) hfit
  have hcm':=hI.most
  unfold maxLen at hcm'
  go_wp2
  go_ret2
  obtain⟨m1,m2⟩:=take_mid hnl hfit
  rw [htk,Yx] at m1 m2
  exact⟨rfl,g',cap',_,hI.setRow (m1.trans hI.size),m2,.inl (by omega),((hbut.trans hbut1).mono fun _ _ h=>.inl h).setRow (fun _=>.inr rfl) _⟩
end Go.R
namespace Go.R
open Go Go.Proofs Go.Shelf Go.RowKit
def bufCells (cs:List AV)(off:Nat)(x:AV):List AV:=(cs.set off x).set (off+2) (.int .i8 0)
def bufRow (e:TypeId)(news:List AV)(id off:Nat)(h:AHeap):Option AHeap:=
 (h.get id).bind fun
 | .cells cs=>
  match cs[off]?,cs[off+1]?,cs[off+2]? with
  | some (.rs i o n z),some (.int .i64 x),some (.int .i8 _)=>
   (h.get i).bind fun
   | .row e' bs=>if e'=e∧o=0∧z=1∧x=0∧bs.length=n∧n≠0∧n+news.length≤140737488355328 then
     some (((h.kill i).put h.next (.row e (bs++news))).put id (.cells (bufCells cs off (.rs h.next 0 (n+news.length) 1)))) else none
   | _=>none
  | _,_,_=>none
 | _=>none
def bufNil (e:TypeId)(news:List AV)(id off:Nat)(h:AHeap):Option AHeap:=
 (h.get id).bind fun
 | .cells cs=>
  match cs[off]?,cs[off+1]?,cs[off+2]? with
  | some .nils,some (.int .i64 x),some (.int .i8 _)=>if x=0 then
     some ((h.put h.next (.row e news)).put id (.cells (bufCells cs off (.rs h.next 0 news.length 1)))) else none
  | _,_,_=>none
 | _=>none
theorem Fr.none {c:Cx}{L0:Nat→Prop}(hrel:HRel c L0):Fr L0 c none0 (fun _=>0) [] ⟨fun _=>.any,fun _=>none,c.h⟩ ⟨#[],[]⟩:=
 ⟨rfl,by rw [show un L0 none0=L0 from by funext b; simp [un,none0]]; exact hrel,fun t=>by simp [SR,VR],fun k cs h=>(by cases h),fun k k' h=>(by cases h),fun t k off _ h=>(by cases h),rfl,fun b h=>h.elim⟩
section
variable {c:Cx}{L0:Nat→Prop}
theorem buf_upd (hrel:HRel c L0)(hbs:c.base≤c.w.heap.size){e T:TypeId}{id off m cap' g':Nat}{cs xs:List AV}{vals:List Value}{C cur':Array Value}{h1:AHeap}{w':World}
  (hid:c.h.get id=some (.cells cs)) (hC:c.w.heap[(c.β id).1]? = some (.cells C T (0,0))) (hcl:Cells c L0 cs (c.β id).1 (c.β id).2) (hoff:off+2<cs.length) (hcC:(c.β id).2+cs.length≤C.size)
  (hx1:cs[off+1]? = some (.int .i64 0))
  (hB:BRow T (fun i=>C[i]?) e (c.β id).1 ((c.β id).2+off) 0 g' m cap' cur' w') (htk:cur'.toList.take m=vals) (hxs:VRs c L0 xs vals) (hone:∀v∈vals,v.oneCell'=true) (hm:xs.length=m)
  (hbut:But (fun k=>k=(c.β id).1∨k=g') c.w w')
  (hst:Steady c.h h1) (hnx:c.h.next<h1.next) (hget:h1.get c.h.next=some (.row e xs))
  (hoth:∀j,j≠c.h.next→h1.get j=none∨h1.get j=c.h.get j) (hidk:h1.get id=c.h.get id)
  (hg:c.w.heap.size≤g'∨∃i,Live c.h i∧(c.β i).1=g'∧h1.get i=none∧cur'.size=c.len g') :
  ∃c',c'.w=w'∧c'.h=h1.put id (.cells (bufCells cs off (.rs c.h.next 0 m 1)))∧HRel c' L0∧Ext c none0 c' none0:=by
 have hun:un L0 none0=L0:=by funext b; simp [un,none0]
 have f:=Fr.none hrel
 generalize hbb:(c.β id).1=b at *
 have hidlt:id<c.h.next:=hrel.lt _ _ hid
 have hidne:id≠c.h.next:=by omega
 have hlive:Live c.h id:=⟨hidlt,by rw [hid]; rfl⟩
 have hblt:b<c.w.heap.size:=(YT.1 hC).1
 have hblt':b<w'.heap.size:=YN hblt hbut.size
 let wm:World:={w' with heap:=w'.heap.setIfInBounds b (.cells C T (0,0))}
 have hwm:∀k,k≠b→wm.heap[k]? = w'.heap[k]?:=fun k hk=>by
  show (w'.heap.setIfInBounds b _)[k]? = _
  rw [Array.getElem?_setIfInBounds_ne (ZB hk)]
 have hwb:wm.heap[b]? = some (.cells C T (0,0)):=by
  show (w'.heap.setIfInBounds b _)[b]? = _
  rw [Array.getElem?_setIfInBounds_self_of_lt hblt']
 have hws:wm.heap.size=w'.heap.size:=by show (w'.heap.setIfInBounds b _).size=_; simp
 have hrow:wm.heap[g']? = some (.cells cur' e (0,0)):=(hwm _ hB.ne).trans hB.row
 have hkeep:∀k,k<c.w.heap.size→k≠g'→wm.heap[k]? = c.w.heap[k]?:=fun k hk hne=>by
  by_cases hkb:k=b
  ·rw [hkb,hwb,hC]
  ·rw [hwm k hkb]; exact hbut.block k hk fun h=>h.elim hkb hne
 have hmle:m≤cur'.size:=by rw [hB.size]; exact hB.le
 obtain⟨e1,f1⟩:=f.upd (w':=wm) (β':=fun k=>if k=c.h.next then (g',0) else c.β k) (h':=h1) c.h.next (.row e xs) hst hnx hget
  (fun j hj=>(hoth j hj).imp (fun h=>h) fun h=>⟨h,by simp [hj]⟩) (fun h=>absurd h (Nat.lt_irrefl _))
  (by
   rcases hg with h | ⟨i,h2,h3,h4,_⟩
   ·exact .inl (by simpa using h)
   ·exact .inr ⟨i,h2,by simpa using h3,.inr h4⟩)
  (fun h=>by
   simp only [if_true] at h ⊢
   rcases hg with h' | ⟨i,h2,h3,h4,h5⟩
   ·omega
   ·simp [World.shape?,hrow,h5])
  (fun k hk hne=>hkeep k hk (by simpa using hne)) (fun k hk hne=>hkeep k (by omega) (by simpa using hne)) (by rw [hws]; exact hbut.size) hbs hbut.os hbut.tape hbut.output
  (fun ee=>by
   simp only [if_true]
   refine⟨rfl,cur',hrow,by omega,by rw [hB.size]; exact hB.most,?_⟩
   have hv:=VRs.ext (L0:=L0) ee xs vals (by rw [hun]; exact hxs)
   refine Cells.of_vals hv (fun i hi=>?_) hone
   show wm.cell? _=_
   rw [cell_of_block hrow,YG,←htk,List.getElem?_take,if_pos (by rw [←hm,hxs.length]; exact hi),ZC])
 have hid1:h1.get id=some (.cells cs):=hidk.trans hid
 have hlive1:Live h1 id:=⟨by omega,by rw [hid1]; rfl⟩
 have hβid:(if id=c.h.next then (g',0) else c.β id)=c.β id:=by simp [hidne]
 have hβn:(if c.h.next=c.h.next then (g',0) else c.β c.h.next)=(g',0):=by simp
 obtain⟨cs2,hb2,p0,p1,p2,pr⟩:=hB.three
 have hsz2:cs2.size=C.size:=by
  have hge:(c.β id).2+off+2<cs2.size:=by
   rcases Nat.lt_or_ge ((c.β id).2+off+2) cs2.size with h | h
   ·exact h
   ·rw [Array.getElem?_eq_none h] at p2; cases p2
  have ht:∀i,(c.β id).2+off+3≤i→(cs2.size≤i↔C.size≤i):=fun i hi=>by
   rw [←Array.getElem?_eq_none_iff,←Array.getElem?_eq_none_iff,pr i (.inr hi)]
  have h1:=(ht cs2.size (by omega)).1 (Yn _)
  have h2:=(ht C.size (by omega)).2 (Yn _)
  omega
 obtain⟨e2,f2⟩:=f1.upd (w':=w') (β':=fun k=>if k=c.h.next then (g',0) else c.β k) (h':=h1.put id (.cells (bufCells cs off (.rs c.h.next 0 m 1)))) id (.cells (bufCells cs off (.rs c.h.next 0 m 1))) (Steady.put _ _ _) (ZG hlive1.1) (by simp [AHeap.put,beq_nat])
  (fun j hj=>.inr ⟨by simp [AHeap.put,beq_nat,hj],rfl⟩) (fun _=>⟨hlive1,rfl⟩) (.inr ⟨id,hlive1,rfl,.inl rfl⟩)
  (fun _=>by
   simp only [hβid,hbb]
   simp only [Cx.len,World.shape?,hb2,hwb,Yp,Zi,hsz2])
  (fun k hk hne=>by
   simp only [hβid,hbb] at hne
   exact (hwm k hne).symm)
  (fun k hk hne=>by
   simp only [hβid,hbb] at hne
   exact (hwm k hne).symm) (by show wm.heap.size≤_; rw [hws]; exact Yn _) (by show c.base≤wm.heap.size; rw [hws]; exact Y0 hbs hbut.size) rfl rfl rfl
  (fun ee=>by
   simp only [hβid,hbb]
   refine⟨C.size,⟨cs2,T,hb2,hsz2⟩,by unfold bufCells; simpa using hcC,?_⟩
   rw [Cells.iff]
   intro i x hx
   unfold bufCells at hx
   show ∃v,w'.cell? _=some v∧_
   rw [cell_of_block hb2]
   by_cases i2:i=off+2
   ·subst i2
    rw [ZI (by simpa using hoff)] at hx
    cases hx
    exact⟨_,by rw [←Y7]; exact p2,rfl,by simp [VR]⟩
   ·rw [ZP (ZB i2)] at hx
    by_cases i0:i=off
    ·subst i0
     rw [ZI (by omega)] at hx
     cases hx
     refine⟨_,p0,rfl,?_⟩
     simp only [VR]
     refine .inr ⟨(by have:=hrel.ver 0; omega),by show _<h1.next+1; omega,_,_,rfl,hB.le,rfl,fun _=>.inl ⟨by simp,?_⟩⟩
     simp only [if_true,Cx.len,World.shape?,hB.row,Yp,Zi,hB.size]
     omega
    ·rw [ZP (ZB i0)] at hx
     by_cases i1:i=off+1
     ·subst i1
      rw [hx1] at hx
      cases hx
      exact⟨_,by rw [←Y7]; exact p1,rfl,by simp [VR]⟩
     ·obtain⟨v,v1,v2,v3⟩:=hcl.get' i x hx
      refine⟨v,?_,v2,?_⟩
      ·rw [pr _ (by omega)]
       show C[(c.β id).2+i]? = some v
       rw [←cell_of_block hC]
       exact v1
      ·have:=VR.ext (L0:=L0) (e1.trans ee) x v (by rw [hun]; exact v3)
       exact this)
 refine⟨_,rfl,rfl,?_,e1.trans e2⟩
 have:=f2.rel
 rwa [hun] at this
end
section
variable {P:Program}{ρ:Ren}
theorem bkill_put_get (h:AHeap)(i j:Nat)(o:AObj):((h.kill i).put h.next o).get j=if j=h.next then some o else if j=i then none else h.get j:=by
 simp only [AHeap.put,AHeap.kill,beq_nat]
 by_cases h1:j=h.next<;>by_cases h2:j=i<;>simp [h1,h2]
theorem bput_get (h:AHeap)(i j:Nat)(o:AObj):(h.put i o).get j=if j=i then some o else h.get j:=by
 simp only [AHeap.put,beq_nat]
 by_cases h1:j=i<;>simp [h1]
theorem buf_three {c:Cx}{L0:Nat→Prop}(hrel:HRel c L0){id off:Nat}{cs:List AV}(hid:c.h.get id=some (.cells cs)){x y:AV}{lr:Int}(h0:cs[off]? = some x)(h1:cs[off+1]? = some (.int .i64 0))(h2:cs[off+2]? = some (.int .i8 lr)) :
  ∃C T v,c.w.heap[(c.β id).1]? = some (.cells C T (0,0))∧Cells c L0 cs (c.β id).1 (c.β id).2∧off+2<cs.length∧(c.β id).2+cs.length≤C.size∧VR c L0 x v∧
   LibA.Three c.w (c.β id).1 ((c.β id).2+off) T (fun i=>C[i]?) v (.int .i64 0) (.int .i8 lr):=by
 obtain⟨n,⟨C,T,hC,hn⟩,hle,hcl⟩:=hrel.obj _ _ hid
 obtain⟨v,a1,_,a3⟩:=hcl.get' _ _ h0
 obtain⟨v1,b1,_,b3⟩:=hcl.get' _ _ h1
 obtain⟨v2,d1,_,d3⟩:=hcl.get' _ _ h2
 simp only [VR] at b3 d3
 subst b3 d3
 rw [cell_of_block hC] at a1 b1 d1
 refine⟨C,T,v,hC,hcl,(Yu.1 h2).1,by omega,a3,C,hC,a1,by rw [Y7]; exact b1,by rw [Y7]; exact d1,fun i _=>rfl⟩
theorem bufRow_spec {e:TypeId}{news:List AV}{id off:Nat}{h h':AHeap}(hr:bufRow e news id off h=some h'):∃cs i n bs lr,h.get id=some (.cells cs)∧cs[off]? = some (.rs i 0 n 1)∧cs[off+1]? = some (.int .i64 0)∧cs[off+2]? = some (.int .i8 lr)∧
  h.get i=some (.row e bs)∧bs.length=n∧n≠0∧n+news.length≤140737488355328∧h'=((h.kill i).put h.next (.row e (bs++news))).put id (.cells (bufCells cs off (.rs h.next 0 (n+news.length) 1))):=by
 unfold bufRow at hr
 rw [Yk] at hr
 obtain⟨ob,hob,hr⟩:=hr
 cases ob with
 | map es=>cases hr
 | row t cs=>cases hr
 | cells cs=>
  simp only at hr
  split at hr
  ·rename_i i o n z x lr q0 q1 q2
   rw [Yk] at hr
   obtain⟨ob2,hob2,hr⟩:=hr
   cases ob2 with
   | map es=>cases hr
   | cells cs=>cases hr
   | row e' bs=>
    simp only at hr
    split at hr
    ·rename_i hh
     obtain⟨rfl,rfl,rfl,rfl,h5,h6,h7⟩:=hh
     cases hr
     exact⟨cs,i,n,bs,lr,hob,q0,q1,q2,hob2,h5,h6,h7,rfl⟩
    ·cases hr
  ·cases hr
theorem bufNil_spec {e:TypeId}{news:List AV}{id off:Nat}{h h':AHeap}(hr:bufNil e news id off h=some h'):∃cs lr,h.get id=some (.cells cs)∧cs[off]? = some .nils∧cs[off+1]? = some (.int .i64 0)∧cs[off+2]? = some (.int .i8 lr)∧
  h'=(h.put h.next (.row e news)).put id (.cells (bufCells cs off (.rs h.next 0 news.length 1))):=by
 unfold bufNil at hr
 rw [Yk] at hr
 obtain⟨ob,hob,hr⟩:=hr
 cases ob with
 | map es=>cases hr
 | row t cs=>cases hr
 | cells cs=>
  simp only at hr
  split at hr
  ·rename_i x lr q0 q1 q2
   split at hr
   ·rename_i hh
    subst hh
    cases hr
    exact⟨cs,lr,hob,q0,q1,q2,rfl⟩
   ·cases hr
  ·cases hr
theorem buf_row {c:Cx}{L0:Nat→Prop}(hrel:HRel c L0){e T:TypeId}{id off i n:Nat}{cs bs:List AV}{C:Array Value}{v:Value}{lr:Int}(hid:c.h.get id=some (.cells cs))(hi:c.h.get i=some (.row e bs))(hbs:bs.length=n)(hn0:n≠0)
  (hv:VR c L0 (.rs i 0 n 1) v) (h3:LibA.Three c.w (c.β id).1 ((c.β id).2+off) T (fun i=>C[i]?) v (.int .i64 0) (.int .i8 lr)) :
  ∃cap cur,BRow T (fun i=>C[i]?) e (c.β id).1 ((c.β id).2+off) lr (c.β i).1 n cap cur c.w∧VRs c L0 bs (cur.toList.take n)∧(∀v∈cur.toList.take n,v.oneCell'=true)∧Live c.h i∧cur.size=c.len (c.β i).1:=by
 have hli:Live c.h i:=⟨hrel.lt _ _ hi,by rw [hi]; rfl⟩
 have hlid:Live c.h id:=⟨hrel.lt _ _ hid,by rw [hid]; rfl⟩
 obtain⟨hb0,cur,hcur,hle,hmax,hcl⟩:=hrel.obj _ _ hi
 simp only [VR] at hv
 rcases hv with⟨_,_,h0,_⟩| ⟨_,_,a,cap,rfl,hnc,_,hlive⟩
 ·exact absurd h0 hn0
 have hlen:c.len (c.β i).1=cur.size:=by simp [Cx.len,World.shape?,hcur]
 rcases hlive hli with⟨rfl,hcap⟩| h0
 rotate_left
 ·omega
 rw [hlen,hb0] at hcap
 rw [hb0] at h3
 obtain⟨vs,w1,w2,w3⟩:=hcl.vals
 have hvl:vs.length=n:=by rw [←w1.length,hbs]
 have hts:cur.toList.take n=vs:=by
  apply Zd
  intro j
  rw [List.getElem?_take]
  by_cases hj:j<n
  ·rw [if_pos hj,ZC,←w2 j (by omega),cell_of_block hcur,YG]
  ·rw [if_neg hj,YC (by omega)]
 refine⟨cap,cur,⟨h3,hcur,hnc,by omega,by omega,fun he=>?_⟩,by rw [hts]; exact w1,by rw [hts]; exact w3,hli,hlen.symm⟩
 have hne:i≠id:=by
  rintro rfl
  rw [hid] at hi; cases hi
 exact hne (hrel.inj i id hli hlid he)
def wbA (e:TypeId)(args:List AV)(h:AHeap):Option (AV × AHeap):=
 match args with
 | [.ptr id off,.int .u8 c]=>match bufRow e [.int .u8 c] id off h with
  | some h'=>some (.any,h')
  | none=>(bufNil e [.int .u8 c] id off h).map fun h'=>(.any,h')
 | _=>none
theorem put_steady2 (h:AHeap)(i j:Nat)(o p:AObj):Steady h ((h.put i o).put j p):=(Steady.put _ _ _).trans (Steady.put _ _ _)
theorem buf_steady {e:TypeId}{news:List AV}{id off:Nat}{h h':AHeap}:(bufRow e news id off h=some h'→Steady h h')∧(bufNil e news id off h=some h'→Steady h h'):=by
 refine⟨fun hr=>?_,fun hr=>?_⟩
 ·obtain⟨cs,i,n,bs,lr,_,_,_,_,_,_,_,_,rfl⟩:=bufRow_spec hr
  exact ((Steady.kill _ _).trans (Steady.put _ _ _)).trans (Steady.put _ _ _)
 ·obtain⟨cs,lr,_,_,_,_,rfl⟩:=bufNil_spec hr
  exact put_steady2 _ _ _ _ _
theorem wb_ok (L:LaysM.n179 P ρ)(henter:∀(vs:Array Value) (w:World),(callFunc (ρ.f 179) vs).run P w = .ok (.enter (ρ.f 179) vs) w) :
  CallOK P fun f' args h=>if f'=ρ.f 179 then wbA (ρ.t 5) args h else none:=by
 intro f args h r h' hc
 dsimp only at hc
 split at hc
 rotate_left
 ·cases hc
 rename_i hf
 subst hf
 refine⟨henter,fun L0 c vs hh hb0 hrel hargs=>?_⟩
 subst hh
 unfold wbA at hc
 split at hc
 rotate_left
 ·cases hc
 rename_i id off x
 match vs,hargs with
 | [v1,v2],⟨q1,q2,_⟩=>
 simp only [VR] at q1 q2
 subst q2
 obtain⟨_,ad,rfl,had⟩:=q1
 have hnew:VRs c L0 [.int .u8 x] [Value.int .u8 x]:=by simp [VRs,VR]
 have hfin:∀(h1:AHeap) (w':World) (e:Ending),e = .returned .nilIface→(∃c':Cx,c'.w=w'∧c'.h=h1∧HRel c' L0∧Ext c none0 c' none0)→∃c' v,e = .returned v∧c'.w=w'∧c'.h=h1∧VR c' L0 .any v∧HRel c' L0∧Ext c none0 c' none0:=by
  rintro h1 w' e rfl ⟨c',a1,a2,a3,a4⟩
  exact⟨c',_,rfl,a1,a2,trivial,a3,a4⟩
 split at hc
 ·rename_i h1 hr
  cases hc
  obtain⟨cs,i,n,bs,lr,g0,g1,g2,g3,g4,g5,g6,g7,rfl⟩:=bufRow_spec hr
  obtain⟨C,T,v,k1,k2,k3,k4,k5,k6⟩:=buf_three hrel g0 (y:=.any) g1 g2 g3
  obtain⟨cap,cur,m1,m2,m3,m4,m5⟩:=buf_row hrel g0 g4 g5 g6 k5 k6
  have hlid:Live c.h id:=⟨hrel.lt _ _ g0,by rw [g0]; rfl⟩
  rw [had hlid]
  have hne:i≠id:=by
   rintro rfl
   rw [g0] at g4; cases g4
  refine (writeByte_row L T _ _ _ _ n cap x lr cur c.w m1 m3 g6 (by simpa using g7)).mono ?_
  rintro e w' ⟨he,g',cap',cur',r1,r2,r3,r4⟩
  refine hfin _ _ _ he (buf_upd hrel hb0 g0 k1 k2 k3 k4 g2 r1 r2 (VRs.append m2 hnew) ?_ (by simp [g5]) r4 ((Steady.kill _ i).trans (Steady.put _ _ _)) (by show _<c.h.next+1+1; omega) (by rw [bkill_put_get]; simp) (fun j hj=>?_) ?_ ?_)
  ·intro u hu
   rcases Yy.1 hu with hu | hu
   ·exact m3 u hu
   ·cases Yw.1 hu; rfl
  ·rw [bkill_put_get,if_neg hj]
   by_cases hji:j=i
   ·exact .inl (by rw [if_pos hji])
   ·exact .inr (by rw [if_neg hji])
  ·rw [bkill_put_get,if_neg (by have:=hlid.1; omega),if_neg (ZB hne)]
  ·refine r3.imp (fun h=>h) fun ⟨h1,h2⟩=>⟨i,m4,h1.symm,?_,by rw [h2,m5,h1]⟩
   rw [bkill_put_get,if_neg (by have:=m4.1; omega),if_pos rfl]
 ·obtain⟨h1,hr,he⟩:=Option.map_some' hc
  simp only [Yr] at he
  obtain⟨rfl,rfl⟩:=he
  obtain⟨cs,lr,g0,g1,g2,g3,rfl⟩:=bufNil_spec hr
  obtain⟨C,T,v,k1,k2,k3,k4,k5,k6⟩:=buf_three hrel g0 (y:=.any) g1 g2 g3
  simp only [VR] at k5
  subst k5
  have hlid:Live c.h id:=⟨hrel.lt _ _ g0,by rw [g0]; rfl⟩
  rw [had hlid]
  refine (writeByte_nil L T _ _ _ x lr c.w k6).mono ?_
  rintro e w' ⟨he,g',cap',cur',r1,r2,r3,r4⟩
  refine hfin _ _ _ he (buf_upd hrel hb0 g0 k1 k2 k3 k4 g2 r1 r2 hnew ?_ rfl (r4.mono fun _ _ h=>.inl h) (Steady.put _ _ _) (by show _<c.h.next+1; omega) (by rw [bput_get]; simp) (fun j hj=>.inr (by rw [bput_get,if_neg hj])) (by rw [bput_get,if_neg (by have:=hlid.1; omega)]) (.inl r3))
  intro u hu
  cases Yw.1 hu; rfl
end
end Go.R
namespace Go.R
open Go Go.Proofs Go.Shelf Go.RowKit
theorem intr_cons {P:Program}{f0:FuncId}{g0:List AV→AHeap→Option (AV × AHeap)}{intr:FuncId→Option (List AV→AHeap→Option (AV × AHeap))}(h0:CallOK P fun f' args h=>if f'=f0 then g0 args h else none)
  (hs:∀args h r h',g0 args h=some (r,h')→Steady h h') (h:IntrOK P intr):IntrOK P fun f=>if f=f0 then some g0 else intr f:=by
 intro f g hg
 dsimp only at hg
 split at hg
 ·rename_i hf
  subst hf
  cases hg
  exact⟨h0,hs⟩
 ·exact h f g hg
def bytesA (s:ByteArray):List AV:=s.data.toList.map fun b=>.int .u8 b.toNat
def wsA (e:TypeId)(args:List AV)(h:AHeap):Option (AV × AHeap):=
 match args with
 | [.ptr id off,.str s]=>if s.size=0 then none else (bufRow e (bytesA s) id off h).map fun h'=>(.tup [.int .i64 s.size,.any],h')
 | _=>none
section
variable {P:Program}{ρ:Ren}
theorem ws_ok (L:LaysM.n178 P ρ)(henter:∀(vs:Array Value) (w:World),(callFunc (ρ.f 178) vs).run P w = .ok (.enter (ρ.f 178) vs) w) :
  CallOK P fun f' args h=>if f'=ρ.f 178 then wsA (ρ.t 5) args h else none:=by
 intro f args h r h' hc
 dsimp only at hc
 split at hc
 rotate_left
 ·cases hc
 rename_i hf
 subst hf
 refine⟨henter,fun L0 c vs hh hb0 hrel hargs=>?_⟩
 subst hh
 unfold wsA at hc
 split at hc
 rotate_left
 ·cases hc
 rename_i id off s
 split at hc
 ·cases hc
 rename_i hs0
 match vs,hargs with
 | [v1,v2],⟨q1,q2,_⟩=>
 simp only [VR] at q1 q2
 subst q2
 obtain⟨_,ad,rfl,had⟩:=q1
 have hsl:(bytesA s).length=s.size:=by simp [bytesA]
 have hnew:VRs c L0 (bytesA s) (Lib.byteCells s.data.toList):=bytes_VRs s.data.toList
 obtain⟨h1,hr,he⟩:=Option.map_some' hc
 simp only [Yr] at he
 obtain⟨rfl,rfl⟩:=he
 obtain⟨cs,i,n,bs,lr,g0,g1,g2,g3,g4,g5,g6,g7,rfl⟩:=bufRow_spec hr
 obtain⟨C,T,v,k1,k2,k3,k4,k5,k6⟩:=buf_three hrel g0 (y:=.any) g1 g2 g3
 obtain⟨cap,cur,m1,m2,m3,m4,m5⟩:=buf_row hrel g0 g4 g5 g6 k5 k6
 have hlid:Live c.h id:=⟨hrel.lt _ _ g0,by rw [g0]; rfl⟩
 rw [had hlid]
 have hne:i≠id:=by
  rintro rfl
  rw [g0] at g4; cases g4
 rw [hsl] at g7 ⊢
 refine (writeString_row L T _ _ _ _ n cap lr s cur c.w m1 m3 g6 hs0 g7).mono ?_
 rintro e w' ⟨he,g',cap',cur',r1,r2,r3,r4⟩
 have hone:∀u∈cur.toList.take n++Lib.byteCells s.data.toList,u.oneCell'=true:=by
  intro u hu
  rcases Yy.1 hu with hu | hu
  ·exact m3 u hu
  ·unfold Lib.byteCells at hu
   obtain⟨b,_,rfl⟩:=YH.1 hu
   rfl
 obtain⟨c',a1,a2,a3,a4⟩:=buf_upd (h1:=(c.h.kill i).put c.h.next (.row (ρ.t 5) (bs++bytesA s))) hrel hb0 g0 k1 k2 k3 k4 g2 r1 r2 (VRs.append m2 hnew) hone (by rw [Ys,g5,hsl]) r4 ((Steady.kill _ i).trans (Steady.put _ _ _)) (by show _<c.h.next+1+1; omega) (by rw [bkill_put_get]; simp)
  (fun j hj=>by
   rw [bkill_put_get,if_neg hj]
   by_cases hji:j=i
   ·exact .inl (by rw [if_pos hji])
   ·exact .inr (by rw [if_neg hji]))
  (by rw [bkill_put_get,if_neg (by have:=hlid.1; omega),if_neg (ZB hne)])
  (r3.imp (fun h=>h) fun ⟨h1,h2⟩=>⟨i,m4,h1.symm,by rw [bkill_put_get,if_neg (by have:=m4.1; omega),if_pos rfl],by rw [h2,m5,h1]⟩)
 refine⟨c',_,he,a1,a2,?_,a3,a4⟩
 simp only [VR]
 exact⟨_,rfl,by simp [VRs,VR]⟩
theorem wb_steady {e:TypeId}(args:List AV)(h:AHeap)(r:AV)(h':AHeap)(hc:wbA e args h=some (r,h')):Steady h h':=by
 unfold wbA at hc
 split at hc
 ·split at hc
  ·rename_i h1 hr
   cases hc
   exact buf_steady.1 hr
  ·obtain⟨h1,hr,he⟩:=Option.map_some' hc
   cases he
   exact buf_steady.2 hr
 ·cases hc
theorem ws_steady {e:TypeId}(args:List AV)(h:AHeap)(r:AV)(h':AHeap)(hc:wsA e args h=some (r,h')):Steady h h':=by
 unfold wsA at hc
 split at hc
 ·split at hc
  ·cases hc
  ·obtain⟨h1,hr,he⟩:=Option.map_some' hc
   cases he
   exact buf_steady.1 hr
 ·cases hc
def plainA (x:AV × AHeap):Option (AV × AHeap):=
 match x.1 with
 | .rs i _ _ _=>(x.2.get i).bind fun | .row _ cs=>some (x.1,x.2.put i (.cells cs)) | _=>none
 | _=>none
theorem plain_ok {cf:CallF}(hcf:CallOK P cf)(f0:FuncId):CallOK P fun f args h=>if f=f0 then (cf f0 args h).bind plainA else none:=by
 intro f args h r h' hc
 dsimp only at hc
 split at hc
 rotate_left
 ·cases hc
 rename_i hf
 subst hf
 rw [Yk] at hc
 obtain⟨⟨x,h1⟩,hx,hc⟩:=hc
 obtain⟨hin,hcall⟩:=hcf f args h x h1 hx
 refine⟨hin,fun L0 c vs hh hb0 hrel hargs=>?_⟩
 refine (hcall L0 c vs hh hb0 hrel hargs).mono ?_
 rintro e w' ⟨c1,v,rfl,rfl,rfl,hv,hrel1,e1⟩
 unfold plainA at hc
 simp only at hc
 split at hc
 rotate_left
 ·cases hc
 rename_i i o n z
 rw [Yk] at hc
 obtain⟨ob,hob,hc⟩:=hc
 cases ob with
 | map es=>cases hc
 | cells cs=>cases hc
 | row t cs=>
  cases hc
  have hun:un L0 none0=L0:=by funext b; simp [un,none0]
  have hli:Live c1.h i:=⟨hrel1.lt _ _ hob,by rw [hob]; rfl⟩
  obtain⟨hz,C,hC,hle,hmax,hcl⟩:=hrel1.obj _ _ hob
  obtain⟨e2,f2⟩:=(Fr.none hrel1).upd (w':=c1.w) (β':=c1.β) (h':=c1.h.put i (.cells cs)) i (.cells cs) (Steady.put _ _ _) (ZG hli.1) (by simp [AHeap.put,beq_nat])
   (fun j hj=>.inr ⟨by simp [AHeap.put,beq_nat,hj],rfl⟩) (fun _=>⟨hli,rfl⟩) (.inr ⟨i,hli,rfl,.inl rfl⟩) (fun _=>rfl) (fun _ _ _=>rfl) (fun _ _ _=>rfl) (Yn _) (by rw [e1.base]; exact Y0 hb0 e1.size) rfl rfl rfl
   (fun ee=>⟨C.size,⟨C,t,hC,rfl⟩,by rw [hz,YG]; exact hle,by
    have:=Cells.move (L0:=L0) ee cs (c1.β i).1 0 (c1.β i).1 0 (fun _ _=>rfl) (by rw [hun]; exact hcl)
    rw [hz]; exact this⟩)
  refine⟨⟨c1.β,c1.h.put i (.cells cs),c1.w,c1.base⟩,v,rfl,rfl,rfl,?_,by have:=f2.rel; rwa [hun] at this,e1.trans e2⟩
  have:=VR.ext (L0:=L0) e2 _ _ (by rw [hun]; exact hv)
  rwa [hun] at this
theorem plain_steady {cf:CallF}(hst:SteadyF cf)(f0:FuncId)(args:List AV)(h:AHeap)(r:AV)(h':AHeap)(hc:(cf f0 args h).bind plainA=some (r,h')):Steady h h':=by
 rw [Yk] at hc
 obtain⟨⟨x,h1⟩,hx,hc⟩:=hc
 unfold plainA at hc
 simp only at hc
 split at hc
 ·rw [Yk] at hc
  obtain⟨ob,hob,hc⟩:=hc
  cases ob with
  | map es=>cases hc
  | cells cs=>cases hc
  | row t cs=>
   cases hc
   exact (hst _ _ _ _ _ hx).trans (Steady.put _ _ _)
 ·cases hc
end
end Go.R
namespace Go.R
open Go
def Kg {α:Type}(E:cz α):cz (List α):={n:=1,f:=fun x=>[E.fz x],len:=fun _=>rfl,pos:=by decide,flat:=E.flat,pure:=fun x hp=>pure_cons (cz.nj hp) (pure_nil),canon:=fun _=>rfl}
def wB (bs news:List Int):Option (List Int):=if bs.length+news.length≤140737488355328∧news≠[] then some (bs++news) else none
section
variable {h:AHeap}{L:Mem}{e:TypeId}{id i:Nat}{bs news r:List Int}{c:Int}{s:ByteArray}
theorem pn (l:List Int):(aj.l l).length=l.length:=by rw [cz.cH]; exact ZQ _
theorem I9 (l k:List Int):aj.l (l++k)=aj.l l++aj.l k:=by
 induction l with
 | nil=>rfl
 | cons a l ih=>rw [YL,cz.ef,cz.ef,ih,Yx]
theorem Cw (o:Has h ((id,.ob [.rs i 0 bs.length 1,.int .i64 0,.int .i8 0])::(i,.row e (aj.l bs))::L))(hb:bs≠[])(hr:wB bs news=some r) :
  ∃i' h',bufRow e (aj.l news) id 0 h=some h'∧Has h' ((id,.ob [.rs i' 0 r.length 1,.int .i64 0,.int .i8 0])::(i',.row e (aj.l r))::L):=by
 unfold wB at hr
 split at hr
 rotate_left
 ·cases hr
 rename_i hm
 cases hr
 have o1:=o.at_ 0 _ _ rfl
 have o2:=o.at_ 1 _ _ rfl
 have hne:id≠i:=fun he=>by
  have h1:=o1.1.2
  rw [he,o2.1.2] at h1
  cases h1
 have PR:bs.length≠0:=by cases bs with | nil=>exact absurd rfl hb | cons _ _=>simp
 refine⟨h.next,((h.kill i).put h.next (.row e (aj.l bs++aj.l news))).put id (.cells [.rs h.next 0 (bs++news).length 1,.int .i64 0,.int .i8 0]),?_,?_⟩
 rotate_left
 ·have t1:=o.D7 (j:=1) rfl (h':=(h.kill i).put h.next (.row e (aj.l bs++aj.l news))) (i':=h.next) (c':=.row e (aj.l (bs++news)))
   (fun k hk hl=>by rw [cD,if_neg (by omega),tA,if_neg hk]) (by show h.next≤h.next+1+1; omega) (.inr (.inr (Yn _))) (by show h.next<h.next+1+1; omega)
   ⟨by have:=o.pos; omega,by rw [cD,if_pos rfl,I9]⟩
  exact jO (q:=0) t1 rfl (ob:=.cells [.rs h.next 0 (bs++news).length 1,.int .i64 0,.int .i8 0]) ⟨o1.1.1,by rw [cD,if_pos rfl]⟩
 ·unfold bufRow
  rw [o1.1.2]
  simp only [Yj,Y1,Zu,o2.1.2,YG,pn]
  rw [if_pos ⟨trivial,trivial,trivial,trivial,trivial,PR,hm.1⟩]
  simp only [bufCells,List.set_cons_zero,List.set_cons_succ,Ys]
theorem Ja {lr:Int}(o:Has h ((id,.ob [.nils,.int .i64 0,.int .i8 lr])::L))(hr:wB [] news=some r) :
  ∃i' h',bufNil e (aj.l news) id 0 h=some h'∧Has h' ((id,.ob [.rs i' 0 r.length 1,.int .i64 0,.int .i8 0])::(i',.row e (aj.l r))::L):=by
 unfold wB at hr
 split at hr
 rotate_left
 ·cases hr
 cases hr
 have o1:=o.at_ 0 _ _ rfl
 refine⟨h.next,(h.put h.next (.row e (aj.l news))).put id (.cells [.rs h.next 0 ([]++news).length 1,.int .i64 0,.int .i8 0]),?_,?_⟩
 rotate_left
 ·have t1:=o.new (h':=h.put h.next (.row e (aj.l news))) (i:=h.next) (c:=.row e (aj.l ([]++news)))
   (fun k hl=>by rw [cD,if_neg (by omega)]) (Zr _) (.inr (Yn _)) (Y2 _)
   ⟨by have:=o.pos; omega,by rw [cD,if_pos rfl]; rfl⟩
  have t2:=jO (q:=1) t1 rfl (ob:=.cells [.rs h.next 0 ([]++news).length 1,.int .i64 0,.int .i8 0]) (c':=.ob [.rs h.next 0 ([]++news).length 1,.int .i64 0,.int .i8 0]) ⟨o1.1.1,by rw [cD,if_pos rfl]⟩
  exact Has.front t2 1 rfl
 ·unfold bufNil
  rw [o1.1.2]
  simp only [Yj,Y1,Zu,YG,pn,if_true]
  simp only [bufCells,List.set_cons_zero,List.set_cons_succ,YO]
def Cy (cf:CallF)(f:FuncId)(e:TypeId):Prop:=∀args h,cf f args h=wbA e args h
def Ge (cf:CallF)(f:FuncId)(e:TypeId):Prop:=∀args h,cf f args h=wsA e args h
def Gf (cf:CallF)(f:FuncId)(e:TypeId):Prop:=∀id i n cs h,h.get id=some (.cells [.rs i 0 n 1,.int .i64 0,.int .i8 0])→h.get i=some (.row e cs)→cs.length=n→n≠0→i<h.next→cf f [.ptr id 0] h=some (.rs i 0 n 1,h.put i (.cells cs))
variable {cf:CallF}{f:FuncId}
theorem LH (S:Cy cf f e)(o:Has h ((id,.ob [.rs i 0 bs.length 1,.int .i64 0,.int .i8 0])::(i,.row e (aj.l bs))::L))(hb:bs≠[])(hr:wB bs [c]=some r) :
  ∃i' h',cf f [.ptr id 0,.int .u8 c] h=some (.any,h')∧Has h' ((id,.ob [.rs i' 0 r.length 1,.int .i64 0,.int .i8 0])::(i',.row e (aj.l r))::L):=by
 obtain⟨i',h',h1,h2⟩:=Cw o hb hr
 refine⟨i',h',?_,h2⟩
 rw [S]
 have h1:bufRow e [.int .u8 c] id 0 h=some h':=h1
 simp only [wbA,h1]
theorem LI {lr:Int}(S:Cy cf f e)(o:Has h ((id,.ob [.nils,.int .i64 0,.int .i8 lr])::L))(hr:wB [] [c]=some r) :
  ∃i' h',cf f [.ptr id 0,.int .u8 c] h=some (.any,h')∧Has h' ((id,.ob [.rs i' 0 r.length 1,.int .i64 0,.int .i8 0])::(i',.row e (aj.l r))::L):=by
 obtain⟨i',h',h1,h2⟩:=Ja (e:=e) o hr
 refine⟨i',h',?_,h2⟩
 rw [S]
 have h1:bufNil e [.int .u8 c] id 0 h=some h':=h1
 have h3:bufRow e [.int .u8 c] id 0 h=none:=by
  unfold bufRow
  rw [(o.at_ 0 _ _ rfl).1.2]
  rfl
 simp only [wbA,h3,h1,Yp]
theorem strCells (s:ByteArray):bytesA s=aj.l (dY s):=by
 have:∀l:List UInt8,(l.map fun b=>AV.int .u8 b.toNat)=aj.l (l.map fun b=>(b.toNat:Int)):=fun l=>by
  induction l with
  | nil=>rfl
  | cons a l ih=>rw [YJ,YJ,cz.ef,ih]; rfl
 exact this _
theorem LJ (S:Ge cf f e)(o:Has h ((id,.ob [.rs i 0 bs.length 1,.int .i64 0,.int .i8 0])::(i,.row e (aj.l bs))::L))(hb:bs≠[])(hr:wB bs (dY s)=some r) :
  ∃i' h',cf f [.ptr id 0,.str s] h=some (.tup [.int .i64 s.size,.any],h')∧Has h' ((id,.ob [.rs i' 0 r.length 1,.int .i64 0,.int .i8 0])::(i',.row e (aj.l r))::L):=by
 obtain⟨i',h',h1,h2⟩:=Cw o hb hr
 refine⟨i',h',?_,h2⟩
 rw [S]
 have hs:¬s.size=0:=fun hs=>by
  unfold wB at hr
  split at hr
  ·rename_i hm
   apply hm.2
   have:s.data.toList=[]:=by
    apply Y8
    simpa using hs
   simp [dY,this]
  ·cases hr
 simp only [wsA,if_neg hs,strCells,h1,Yp]
theorem LK (S:Gf cf f e)(o:Has h ((id,.ob [.rs i 0 bs.length 1,.int .i64 0,.int .i8 0])::(i,.row e (aj.l bs))::L))(hb:bs≠[])(hm:bs.length≤140737488355328) :
  ∃h',cf f [.ptr id 0] h=some (.rs i 0 bs.length 1,h')∧Has h' ((id,.ob [.rs i 0 bs.length 1,.int .i64 0,.int .i8 0])::(i,.sl bs.length 1 (aj.l bs))::L):=by
 have o1:=o.at_ 0 _ _ rfl
 have o2:=o.at_ 1 _ _ rfl
 refine⟨_,S id i _ _ h o1.1.2 o2.1.2 (pn _) (by cases bs with | nil=>exact absurd rfl hb | cons _ _=>simp) o2.2,?_⟩
 exact jO (q:=1) o rfl (ob:=.cells (aj.l bs)) ⟨⟨by rw [pn,ZQ],by rw [pn]; omega⟩,.inr ⟨o2.1.1,[],by rw [cD,if_pos rfl,Zk]⟩⟩
def Gg (bs news:List Int):Option (List Int):=if bs=[] then none else wB bs news
theorem po (hr:Gg bs news=some r):bs≠[]∧wB bs news=some r:=by
 unfold Gg at hr
 split at hr
 ·cases hr
 ·rename_i h; exact⟨h,hr⟩
theorem sH (S:Cy cf f e)(o:Has h ((id,.ob [.rs i 0 bs.length 1,.int .i64 0,.int .i8 0])::(i,.row e (aj.l bs))::L))(hr:Gg bs [c]=some r) :
  ∃i' h',cf f [.ptr id 0,.int .u8 c] h=some (.any,h')∧Has h' ((id,.ob [.rs i' 0 r.length 1,.int .i64 0,.int .i8 0])::(i',.row e (aj.l r))::L):=LH S o (po hr).1 (po hr).2
theorem Jb (S:Ge cf f e)(o:Has h ((id,.ob [.rs i 0 bs.length 1,.int .i64 0,.int .i8 0])::(i,.row e (aj.l bs))::L))(hr:Gg bs (dY s)=some r) :
  ∃i' h',cf f [.ptr id 0,.str s] h=some (.tup [.int .i64 s.size,.any],h')∧Has h' ((id,.ob [.rs i' 0 r.length 1,.int .i64 0,.int .i8 0])::(i',.row e (aj.l r))::L):=LJ S o (po hr).1 (po hr).2
def tI (bs:List Int):Option Unit:=if bs≠[]∧bs.length≤140737488355328 then some () else none
theorem Jc {u:Unit}(S:Gf cf f e)(o:Has h ((id,.ob [.rs i 0 bs.length 1,.int .i64 0,.int .i8 0])::(i,.row e (aj.l bs))::L))(hr:tI bs=some u) :
  ∃h',cf f [.ptr id 0] h=some (.rs i 0 bs.length 1,h')∧Has h' ((id,.ob [.rs i 0 bs.length 1,.int .i64 0,.int .i8 0])::(i,.sl bs.length 1 (aj.l bs))::L):=by
 unfold tI at hr
 split at hr
 ·rename_i h; exact LK S o h.1 h.2
 ·cases hr
end
def jn {α β:Type}(b:α→Option β)(a:(α→Option β)→Option β):Option β:=a b
theorem xF {α β:Type}{b:α→Option β}{a:(α→Option β)→Option β}{out:β}(H:jn b a=some out):∃j:α→Option β,(∀x,j x=b x)∧a j=some out:=⟨b,fun _=>rfl,H⟩
theorem aI {α β:Type}{o:Option α}{f:α→Option β}{b:β}(h:o.bind f=some b):∃a,o=some a∧f a=some b:=Yk.1 h
theorem Wk {α:Type}{c:Bool}{a b z:α}(h:c=true)(H:(if c=true then a else b)=z):a=z:=(if_pos h).symm.trans H
theorem Wl {α:Type}{c:Bool}{a b z:α}(h:c=false)(H:(if c=true then a else b)=z):b=z:=(if_neg (I2 h)).symm.trans H
abbrev kK (l:List AV):List AV:=.any :: .any :: .any::l
abbrev oH (l:List AV):List AV:=.any :: .any :: .any :: .any::l
abbrev rV (l:List AV):List AV:=.any :: .any :: .any :: .any :: .any::l
abbrev Gh (l:List AV):List AV:=.any :: .any :: .any :: .any :: .any :: .any::l
abbrev E1 (l:List AV):List AV:=.any :: .any :: .any :: .any :: .any :: .any :: .any::l
abbrev sI (l:List AV):List AV:=.any :: .any :: .any :: .any :: .any :: .any :: .any :: .any::l
abbrev Ee (l:List AV):List AV:=.any :: .any :: .any :: .any :: .any :: .any :: .any :: .any :: .any::l
abbrev xG (l:List AV):List AV:=.any :: .any :: .any :: .any :: .any :: .any :: .any :: .any :: .any :: .any::l
abbrev pq (l:List AV):List AV:=.any :: .any :: .any :: .any :: .any :: .any :: .any :: .any :: .any :: .any :: .any::l
abbrev oq (l:List AV):List AV:=.any :: .any :: .any :: .any :: .any :: .any :: .any :: .any :: .any :: .any :: .any :: .any::l
abbrev ot (l:List AV):List AV:=.any :: .any :: .any :: .any :: .any :: .any :: .any :: .any :: .any :: .any :: .any :: .any :: .any::l
abbrev rW (l:List AV):List AV:=.any :: .any :: .any :: .any :: .any :: .any :: .any :: .any :: .any :: .any :: .any :: .any :: .any :: .any::l
abbrev Jd (l:List AV):List AV:=.any :: .any :: .any :: .any :: .any :: .any :: .any :: .any :: .any :: .any :: .any :: .any :: .any :: .any :: .any::l
abbrev Gi (l:List AV):List AV:=.any :: .any :: .any :: .any :: .any :: .any :: .any :: .any :: .any :: .any :: .any :: .any :: .any :: .any :: .any :: .any::l
abbrev Ef (l:List AV):List AV:=.any :: .any :: .any :: .any :: .any :: .any :: .any :: .any :: .any :: .any :: .any :: .any :: .any :: .any :: .any :: .any :: .any::l
abbrev Ob (l:List AV):List AV:=.any :: .any :: .any :: .any :: .any :: .any :: .any :: .any :: .any :: .any :: .any :: .any :: .any :: .any :: .any :: .any :: .any :: .any::l
abbrev LL (l:List AV):List AV:=.any :: .any :: .any :: .any :: .any :: .any :: .any :: .any :: .any :: .any :: .any :: .any :: .any :: .any :: .any :: .any :: .any :: .any :: .any::l
abbrev Oc (l:List AV):List AV:=.any :: .any :: .any :: .any :: .any :: .any :: .any :: .any :: .any :: .any :: .any :: .any :: .any :: .any :: .any :: .any :: .any :: .any :: .any :: .any :: .any::l
abbrev Od (l:List AV):List AV:=.any :: .any :: .any :: .any :: .any :: .any :: .any :: .any :: .any :: .any :: .any :: .any :: .any :: .any :: .any :: .any :: .any :: .any :: .any :: .any :: .any :: .any::l
abbrev Ra (l:List AV):List AV:=.any :: .any :: .any :: .any :: .any :: .any :: .any :: .any :: .any :: .any :: .any :: .any :: .any :: .any :: .any :: .any :: .any :: .any :: .any :: .any :: .any :: .any :: .any::l
abbrev Rb (l:List AV):List AV:=.any :: .any :: .any :: .any :: .any :: .any :: .any :: .any :: .any :: .any :: .any :: .any :: .any :: .any :: .any :: .any :: .any :: .any :: .any :: .any :: .any :: .any :: .any :: .any :: .any::l
abbrev Rc (l:List AV):List AV:=.any :: .any :: .any :: .any :: .any :: .any :: .any :: .any :: .any :: .any :: .any :: .any :: .any :: .any :: .any :: .any :: .any :: .any :: .any :: .any :: .any :: .any :: .any :: .any :: .any :: .any::l
abbrev Oe (l:List AV):List AV:=.any :: .any :: .any :: .any :: .any :: .any :: .any :: .any :: .any :: .any :: .any :: .any :: .any :: .any :: .any :: .any :: .any :: .any :: .any :: .any :: .any :: .any :: .any :: .any :: .any :: .any :: .any::l
abbrev Rd (l:List AV):List AV:=.any :: .any :: .any :: .any :: .any :: .any :: .any :: .any :: .any :: .any :: .any :: .any :: .any :: .any :: .any :: .any :: .any :: .any :: .any :: .any :: .any :: .any :: .any :: .any :: .any :: .any :: .any :: .any :: .any::l
abbrev Re (l:List AV):List AV:=.any :: .any :: .any :: .any :: .any :: .any :: .any :: .any :: .any :: .any :: .any :: .any :: .any :: .any :: .any :: .any :: .any :: .any :: .any :: .any :: .any :: .any :: .any :: .any :: .any :: .any :: .any :: .any :: .any :: .any :: .any :: .any :: .any :: .any::l
end Go.R
namespace Go.R
open Go
open Go.IntKind (i64 u64 u8 u32)
theorem fR (x:Int):u8.wrap x=x % 256:=by
 unfold IntKind.wrap; simp [IntKind.signed,IntKind.bits]
theorem zo (x:Int):u64.wrap x=x % 18446744073709551616:=by
 unfold IntKind.wrap; simp [IntKind.signed,IntKind.bits]
theorem gm {x:Int}(h0:0≤x)(h1:x<18446744073709551616):u64.wrap x=x:=by
 rw [zo,Int.emod_eq_of_lt h0 h1]
theorem tJ (x:Int):i64.wrap x=if x % 18446744073709551616≥9223372036854775808 then x % 18446744073709551616 - 18446744073709551616 else x % 18446744073709551616:=by
 unfold IntKind.wrap; simp [IntKind.signed,IntKind.bits]
theorem aA {x:Int}(h0 : -9223372036854775808≤x)(h1:x<9223372036854775808):i64.wrap x=x:=by
 rw [tJ]; split<;>omega
theorem Of (n:Nat):iz .u8 ((n:Int) % 256) 128=((n % 128+128:Nat):Int):=by
 unfold iz
 have h1:YS IntKind.u8.bits ((n:Int) % 256)=Y9 8 (n % 256):=by
  show YS 8 _=_
  rw [show ((n:Int) % 256)=((n % 256:Nat):Int) by omega,BitVec.ofInt_natCast]
 rw [h1]
 have h2:YS IntKind.u8.bits (128:Int)=Y9 8 128:=rfl
 rw [h2]
 show u8.wrap (((Y9 8 (n % 256) ||| Y9 8 128:BitVec 8).toNat:Nat):Int)=_
 have key:∀k:Fin 256,(Y9 8 k.1 ||| Y9 8 128:BitVec 8).toNat=k.1 % 128+128:=by decide +kernel
 have:=key ⟨n % 256,Nat.mod_lt _ (by omega)⟩
 simp only at this
 rw [this,fR]
 omega
theorem Rf (n:Nat):gh .u64 (n:Int) 7=((n / 128:Nat):Int):=by
 show (n:Int).fdiv (2 ^ 7)=_
 rw [ZN _ (by decide)]
 norm_cast
theorem Bk (n:Nat)(h:n<256):fw .u8 (n:Int) 127=((n % 128:Nat):Int):=by
 unfold fw
 have h1:YS IntKind.u8.bits (n:Int)=Y9 8 n:=BitVec.ofInt_natCast ..
 rw [h1]
 show u8.wrap (((Y9 8 n &&& Y9 8 127:BitVec 8).toNat:Nat):Int)=_
 have key:∀k:Fin 256,(Y9 8 k.1 &&& Y9 8 127:BitVec 8).toNat=k.1 % 128:=by decide +kernel
 have:=key ⟨n,h⟩
 simp only at this
 rw [this,fR]
 omega
theorem Bl (a c s:Nat)(ha:a<2 ^ s)(hs:s≤56)(hc:a+c*2 ^ s<2 ^ 64)(hc2:c<128):(zk .u64 (u64.wrap (c:Int)) (s:Int))=some ((c*2 ^ s:Nat):Int)∧iz .u64 (a:Int) ((c*2 ^ s:Nat):Int)=((a+c*2 ^ s:Nat):Int):=by
 have hcs:c*2 ^ s<2 ^ 64:=by omega
 constructor
 ·unfold zk
  rw [if_neg (by omega),gm (x:=(c:Int)) (by omega) (by omega)]
  congr 1
  have:min (s:Int).toNat IntKind.u64.bits=s:=by
   show min (s:Int).toNat 64=s
   omega
  rw [this,show ((c:Int)*2 ^ s)=((c*2 ^ s:Nat):Int) by push_cast; rfl,gm (by omega) (by omega)]
 ·unfold iz
  have h1:YS IntKind.u64.bits (a:Int)=Y9 64 a:=BitVec.ofInt_natCast ..
  have h2:YS IntKind.u64.bits ((c*2 ^ s:Nat):Int)=Y9 64 (c*2 ^ s):=BitVec.ofInt_natCast ..
  rw [h1,h2]
  show u64.wrap (((Y9 64 a ||| Y9 64 (c*2 ^ s):BitVec 64).toNat:Nat):Int)=_
  have:(Y9 64 a ||| Y9 64 (c*2 ^ s):BitVec 64).toNat=a+c*2 ^ s:=by
   rw [BitVec.toNat_or,BitVec.toNat_ofNat,BitVec.toNat_ofNat,Nat.mod_eq_of_lt (by omega),Nat.mod_eq_of_lt hcs,Nat.or_comm,←Nat.shiftLeft_eq,←Nat.shiftLeft_add_eq_or_of_lt ha,Nat.shiftLeft_eq,Nat.add_comm]
  rw [this,gm (by omega) (by omega)]
def de (n:Nat):List Int:=if h:n<128 then [(n:Int)] else ((n % 128+128:Nat):Int)::de (n / 128)
termination_by n
decreasing_by omega
theorem jm {n:Nat}(h:n<128):de n=[(n:Int)]:=by rw [de,dif_pos h]
theorem lh {n:Nat}(h:¬n<128):de n=((n % 128+128:Nat):Int)::de (n / 128):=by rw [de,dif_neg h]
end Go.R
namespace Go.R
open Go
def vj {X:Type}(F:CallF→Option X):Prop:=∀cf x,F cf=some x→∃l:List (FuncId × List AV × AHeap × (AV × AHeap)),(∀e∈l,cf e.1 e.2.1 e.2.2.1=some e.2.2.2)∧∀Cz:CallF,(∀e∈l,Cz e.1 e.2.1 e.2.2.1=some e.2.2.2)→F Cz=some x
theorem bA {X:Type}(x:Option X):vj fun _=>x:=by
 intro cf y h
 refine⟨[],?_,fun _ _=>h⟩
 intro e he; cases he
theorem Gj (f:FuncId)(args:List AV)(h:AHeap):vj fun cf=>cf f args h:=by
 intro cf x hx
 refine⟨[(f,args,h,x)],?_,fun Cz h'=>h' (f,args,h,x) (Yw.2 rfl)⟩
 intro e he; cases (Yw.1 he); exact hx
theorem eD {X Y:Type}{F:CallF→Option X}{G:X→CallF→Option Y}(hF:vj F)(hG:∀y,vj (G y)):vj fun cf=>(F cf).bind fun y=>G y cf:=fun cf z hz=>by
 obtain⟨y,h1,h2⟩:=Yk.1 hz
 obtain⟨l1,a1,b1⟩:=hF cf y h1
 obtain⟨l2,a2,b2⟩:=hG y cf z h2
 refine⟨l1++l2,fun e he=>(Yy.1 he).elim (a1 e) (a2 e),fun Cz h'=>?_⟩
 have e1:=b1 Cz fun e he=>h' e (Y4 _ he)
 have e2:=b2 Cz fun e he=>h' e (List.mem_append_right _ he)
 show (F Cz).bind _=_
 rw [e1,Yj,e2]
theorem xH {X Y:Type}{F:CallF→Option X}{g:X→Y}(hF:vj F):vj fun cf=>(F cf).map g:=by
 intro cf x hx
 obtain⟨y,h1,h2⟩:=Yl.1 hx
 obtain⟨l,a,b⟩:=hF cf y h1
 refine⟨l,a,fun Cz h'=>?_⟩
 show (F Cz).map g=some x
 rw [b Cz h',Yp,h2]
theorem kx {X:Type}{c:Prop}[Decidable c]{F G:CallF→Option X}(hF:vj F)(hG:vj G):vj fun cf=>if c then F cf else G cf:=by
 by_cases h:c
 ·simp only [h,if_true]; exact hF
 ·simp only [h,if_false]; exact hG
section
variable {P:Program}{aF ds:List Nat}
theorem pt {X:Type}{F:CallF→Option X}(h:∀cf Cz,F cf=F Cz):vj F:=by
 intro cf x hx
 refine⟨[],?_,fun Cz _=>(h Cz cf).trans hx⟩
 intro e he; cases he
theorem CA (e:Operand→AV)(s:RS)(o:Oper):vj fun cf=>AK P cf aF ds e s o:=by
 obtain⟨dst,op,type,pos,after,guard⟩:=o
 cases op with
 | call c=>
  obtain⟨callee,args,at_⟩:=c
  cases callee with
  | value f=>
   simp only [AK]
   cases e f with
   | fn f cap=>exact kx (xH (Gj _ _ _)) (bA _)
   | _=>exact bA _
  | _=>exact pt fun _ _=>rfl
 | makeFunc fn first cap=>cases fn<;>exact pt fun _ _=>rfl
 | makeMap t r=>cases r<;>exact pt fun _ _=>rfl
 | _=>exact pt fun _ _=>rfl
theorem Eg (ops:List Oper)(s:RS)(o:Oper):vj fun cf=>mw P cf aF ops s o:=by
 refine eD (bA (gS ops s.ρ o)) fun w=>?_
 exact kx (CA _ _ _) (bA _)
theorem zp (ops:List Oper):∀(os:List Oper) (s:RS),vj fun cf=>rP P cf aF ops s os
 | [],s=>bA _
 | o::os,s=>eD (Eg ops s o) fun s'=>zp ops os s'
theorem zq (ops:List Oper):∀(os:List Oper) (s:RS),vj fun cf=>qn P cf aF ops s os
 | [],s=>bA _
 | o::os,s=>eD (bA (gS ops s.ρ o)) fun w=>eD (kx (CA _ _ _) (bA _)) fun s1=>xH (zq ops os s1)
theorem Bm (ops:Array Oper)(s:RS):vj fun cf=>lG P cf aF ops s:=by
 unfold lG
 exact kx (eD (zq _ _ _) fun x=>bA _) (bA _)
theorem wg {f:CallF→St→Option (Ex × St)}(hf:∀s,vj fun cf=>f cf s):∀(n:Nat) (s:St),vj fun cf=>kN (f cf) n s
 | 0,s=>bA _
 | n+1,s=>eD (hf s) fun x=>by
  obtain⟨x,s'⟩:=x
  cases x with
  | norm=>exact wg hf n s'
  | _=>exact bA _
theorem jo (A:cm)(n:Nat):∀(c:Code) (s:St),vj fun cf=>bN P cf A n c s
 | .skip,s=>by simp only [bN]; exact bA _
 | .label _,s=>by simp only [bN]; exact bA _
 | .ret,s=>by simp only [bN]; exact bA _
 | .exit _,s=>by simp only [bN]; exact bA _
 | .seq a b,s=>by
  simp only [bN]
  exact eD (jo A n a s) fun x=>by
   obtain⟨x,s'⟩:=x
   cases x with
   | norm=>exact jo A n b s'
   | _=>exact bA _
 | .cond k x y,s=>by
  simp only [bN]
  exact eD (bA _) fun t=>kx (jo A n x s) (jo A n y s)
 | .block id b,s=>by simp only [bN]; exact xH (jo A n b s)
 | .loop b,s=>by simp only [bN]; exact wg (fun s=>jo A n b s) n s
 | .region r ops draw,s=>by
  simp only [bN]
  exact eD (bA _) fun s=>eD (kx (Bm _ _) (zp _ _ _)) fun s'=>bA _
 | .rangeFunc ..,s=>by simp only [bN]; exact bA _
 | .scope _,s=>by simp only [bN]; exact bA _
 | .goto _,s=>by simp only [bN]; exact bA _
 | .refuse _,s=>by simp only [bN]; exact bA _
theorem lj (aU:FuncId→cm)(m:Nat)(f:FuncId)(args:List AV)(h:AHeap):vj fun cf=>be P aU cf m f args h:=by
 unfold be
 refine eD (bA _) fun fn=>eD (bA _) fun c=>kx (eD (jo _ _ _ _) fun x=>bA _) (bA _)
end
def tK (P:Program)(T:oL)(m:Nat)(cf:CallF):CallF:=fun f args h=>
 match T.intr f with
 | some g=>g args h
 | none=>
  match T.pure f with
  | some deep=>if cL args then (be P T.aU cf m f (dB args) bH).bind fun x=>(cq x.2 deep x.1).map fun r=>(r,h) else
    match bO h deep args with
    | some zs=>(be P T.aU cf m f zs bH).bind fun x=>(fM x.2 deep x.1).map fun r=>(r,h)
    | none=>be P T.aU cf m f (args.map ay) h
  | none=>be P T.aU cf m f (args.map ay) h
section
variable {P:Program}{T:oL}{m:Nat}
theorem wi (f:FuncId)(args:List AV)(h:AHeap):vj fun cf=>tK P T m cf f args h:=by
 unfold tK
 cases T.intr f with
 | some g=>exact bA _
 | none=>
  cases T.pure f with
  | none=>exact lj _ _ _ _ _
  | some deep=>
   refine kx (eD (lj _ _ _ _ _) fun x=>bA _) ?_
   cases bO h deep args with
   | none=>exact lj _ _ _ _ _
   | some zs=>exact eD (lj _ _ _ _ _) fun x=>bA _
theorem tL:∀(n:Nat) (f:FuncId) (args:List AV) (h:AHeap) (x:AV × AHeap),eX P T m n f args h=some x→eX P T m (n+1) f args h=some x
 | 0,f,args,h,x,hc=>by simp [eX] at hc
 | n+1,f,args,h,x,hc=>by
  obtain⟨l,h1,h2⟩:=wi (P:=P) (T:=T) (m:=m) f args h _ _ hc
  exact h2 (eX P T m (n+1)) fun e he=>tL n _ _ _ _ (h1 e he)
theorem pv {n k:Nat}(hk:n≤k){f:FuncId}{args:List AV}{h:AHeap}{x:AV × AHeap}(hc:eX P T m n f args h=some x):eX P T m k f args h=some x:=by
 induction hk with
 | refl=>exact hc
 | step _ ih=>exact tL _ _ _ _ _ ih
open Classical in
noncomputable def jf (P:Program)(T:oL)(m:Nat):CallF:=fun f args h=>if H:∃x n,eX P T m n f args h=some x then some (Classical.choose H) else none
theorem lk {f:FuncId}{args:List AV}{h:AHeap}{x:AV × AHeap}:jf P T m f args h=some x↔∃n,eX P T m n f args h=some x:=by
 have key:∀(H:∃x n,eX P T m n f args h=some x) (n:Nat),eX P T m n f args h=some x→Classical.choose H=x:=fun H n hn=>by
  obtain⟨k,hk⟩:=Classical.choose_spec H
  have h1:=pv (Nat.le_max_left n k) hn
  have h2:=pv (Nat.le_max_right n k) hk
  rw [h1] at h2
  exact (YI h2).symm
 unfold jf
 constructor
 ·intro hc
  split at hc
  ·rename_i H
   obtain⟨n,hn⟩:=Classical.choose_spec H
   cases hc
   exact⟨n,hn⟩
  ·cases hc
 ·rintro⟨n,hn⟩
  have H:∃x n,eX P T m n f args h=some x:=⟨x,n,hn⟩
  rw [dif_pos H,key H n hn]
theorem Eh (l:List (FuncId × List AV × AHeap × (AV × AHeap)))(hl:∀e∈l,jf P T m e.1 e.2.1 e.2.2.1=some e.2.2.2):∃n,∀e∈l,eX P T m n e.1 e.2.1 e.2.2.1=some e.2.2.2:=by
 induction l with
 | nil=>exact⟨0,fun e he=>by cases he⟩
 | cons a l ih=>
  obtain⟨n,hn⟩:=ih fun e he=>hl e (List.mem_cons_of_mem _ he)
  obtain⟨k,hk⟩:=lk.1 (hl a List.mem_cons_self)
  refine⟨max n k,fun e he=>?_⟩
  rcases YW.1 he with rfl | he
  ·exact pv (Nat.le_max_right n k) hk
  ·exact pv (Nat.le_max_left n k) (hn e he)
theorem nl {f:FuncId}{args:List AV}{h:AHeap}{x:AV × AHeap}(hc:tK P T m (jf P T m) f args h=some x):jf P T m f args h=some x:=by
 obtain⟨l,h1,h2⟩:=wi (P:=P) (T:=T) (m:=m) f args h _ _ hc
 obtain⟨n,hn⟩:=Eh l h1
 exact lk.2 ⟨n+1,h2 (eX P T m n) hn⟩
theorem Gk (hP:Fit P)(rD:IntrOK P T.intr):CallOK P (jf P T m):=fun f args h r h' hc=>by
 obtain⟨n,hn⟩:=lk.1 hc
 exact tp hP rD m n f args h r h' hn
theorem aW:Has bH []:=⟨fun j i c h=>by simp at h,fun j j' i c c' h=>by simp at h,Nat.zero_lt_one⟩
end
section
variable {P:Program}{T:oL}{m f deep:Nat}{h:AHeap}{xs ys:List AV}{y:AV}{x:AV × AHeap}
theorem ky (h1:T.intr f=none)(h2:T.pure f=some deep)(hd:jE+fq≤deep)(hx:l9 xs ys)(hb:∃r h',be P T.aU (jf P T m) m f ys bH=some (r,h')∧xz h' r y):jf P T m f xs h=some (y,h):=by
 obtain⟨r,h',hb,hf⟩:=hb
 refine nl ?_
 have hd:jE+1000≤deep:=Y0 (Nat.add_le_add_left (by decide) _) hd
 simp only [tK,h1,h2,hx.1,if_true,hx.2,hb,Yj,hf deep hd,Yp]
theorem bD (h1:T.intr f=none)(h2:T.pure f=some deep)(hd:jE+fq≤deep)(hx:eY fq h xs ys)(hb:∃r h',be P T.aU (jf P T m) m f ys bH=some (r,h')∧gu h' r y):jf P T m f xs h=some (y,h):=by
 have h3:=hx deep hd
 have Io:jE+1000≤deep:=Y0 (Nat.add_le_add_left (by decide) _) hd
 by_cases hn:cL xs=true
 ·have:=iT deep xs ys hn h3
  obtain⟨r,h',hb,hf⟩:=hb
  exact ky h1 h2 hd ⟨hn,this.symm⟩ ⟨r,h',hb,hf.oK⟩
 ·obtain⟨r,h',hb,hf⟩:=hb
  refine nl ?_
  simp only [tK,h1,h2,hn,if_false,h3,hb,Yj,hf deep Io,Yp]
  simp
theorem jG (h1:T.intr f=none)(h2:T.pure f=none)(hx:xs.map ay=ys)(hb:be P T.aU (jf P T m) m f ys h=some x):jf P T m f xs h=some x:=by
 refine nl ?_
 simp only [tK,h1,h2,hx,hb]
theorem pw (h1:T.intr f=none)(h2:T.pure f=none)(hx:xs.map ay=ys)(hb:∃r h',be P T.aU (jf P T m) m f ys h=some (r,h')∧r=y∧h'=h):jf P T m f xs h=some (y,h):=by
 obtain⟨r,h',hb,rfl,rfl⟩:=hb
 exact jG h1 h2 hx hb
theorem CB {g:List AV→AHeap→Option (AV × AHeap)}(h1:T.intr f=some g)(hx:g xs h=some x):jf P T m f xs h=some x:=by
 refine nl ?_
 simp only [tK,h1,hx]
theorem tM {g:List AV→AHeap→Option (AV × AHeap)}(h1:T.intr f=some g):jf P T m f xs h=g xs h:=by
 cases hg:g xs h with
 | some x=>exact CB h1 hg
 | none=>
  cases hc:jf P T m f xs h with
  | none=>rfl
  | some x=>
   obtain⟨n,hn⟩:=lk.1 hc
   cases n with
   | zero=>simp [eX] at hn
   | succ n=>simp only [eX,h1,hg] at hn; cases hn
end
end Go.R
namespace Go.R
open Go
def cd:List ab→List Nat→List (ab × Nat)
 | [],_=>[]
 | n::ns,ids=>(n,ids.headD 0)::cd ns ids.tail
def Kh (ids:List Nat)(i:Int):Nat:=ids.getD i.toNat 0
def Je (ns:List ab)(ids:List Nat):List Nat:=(cd ns ids).map fun p=>p.2
def hH:cz (ab × Nat):={n:=4,f:=fun x=>[.int .i64 x.1.kind,.int .i64 x.1.int,.str x.1.label,.rs x.2 0 x.1.args.length 1],len:=fun _=>rfl,pos:=by decide,flat:=false,pure:=fun _ h=>(by cases h),canon:=fun _=>rfl}
def LM (p:ab × Nat):Nat × Ct:=(p.2,.sl p.1.args.length 1 (aa.l p.1.args))
def jd (ns:List ab)(ids:List Nat):Mem:=(cd ns ids).map LM
theorem fH:∀(ns:List ab) (ids:List Nat),(cd ns ids).length=ns.length
 | [],_=>rfl
 | n::ns,ids=>by simp [cd,fH ns]
theorem tN (ids:List Nat):ids.headD 0=ids.getD 0 0:=by cases ids<;>rfl
theorem wj (ids:List Nat)(i:Nat):ids.tail.getD i 0=ids.getD (i+1) 0:=by cases ids<;>simp
theorem px:∀(ns:List ab) (ids:List Nat) (i:Nat) (n:ab),ns[i]? = some n→(cd ns ids)[i]? = some (n,ids.getD i 0)
 | [],_,i,n,h=>by simp at h
 | a::ns,ids,0,n,h=>by
  simp only [Y1,Ym] at h
  subst h
  show (some (a,ids.headD 0):Option (ab × Nat))=some (a,ids.getD 0 0)
  rw [tN]
 | a::ns,ids,i+1,n,h=>by
  simp only [Zu] at h
  have:=px ns ids.tail i n h
  simp only [cd,Zu,this,wj]
theorem kz {ns:List ab}{ids:List Nat}{i:Int}{n:ab}(h:ix ns i=some n):ix (cd ns ids) i=some (n,Kh ids i):=by
 obtain⟨h0,h1,h2⟩:=gq h
 unfold ix Kh
 rw [if_pos h0,px ns ids _ _ h2]
theorem tO:∀(ns:List ab) (ids:List Nat) (n:ab) (ad:Nat),cd (ns++[n]) (Je ns ids++[ad])=cd ns ids++[(n,ad)]
 | [],ids,n,ad=>rfl
 | a::ns,ids,n,ad=>by
  have:=tO ns ids.tail n ad
  simp only [Je,cd,YJ,YL,List.headD_cons,List.tail_cons] at this ⊢
  rw [this]
theorem tP:∀(ns:List ab) (ids:List Nat) (i:Nat) (n:ab),cd (ns.set i n) ids=(cd ns ids).set i (n,ids.getD i 0)
 | [],_,_,_=>rfl
 | a::ns,ids,0,n=>by
  show (n,ids.headD 0)::cd ns ids.tail=(n,ids.getD 0 0)::cd ns ids.tail
  rw [tN]
 | a::ns,ids,i+1,n=>by
  have:=tP ns ids.tail i n
  simp only [List.set_cons_succ,cd,this,wj]
theorem Jf (ns:List ab)(ids:List Nat)(n:ab)(ad:Nat):jd (ns++[n]) (Je ns ids++[ad])=jd ns ids++[LM (n,ad)]:=by
 unfold jd; rw [tO,YP]; rfl
theorem Jg (ns:List ab)(ids:List Nat)(i:Nat)(n:ab):jd (ns.set i n) ids=(jd ns ids).set i (LM (n,ids.getD i 0)):=by
 unfold jd; rw [tP,List.map_set]
theorem Has.perm {h:AHeap}{K K':Mem}(o:Has h K)(p:K'.Perm K):Has h K':=by
 have hP:K.Pairwise fun a b=>a.1≠0→a.1≠b.1:=by
  rw [List.pairwise_iff_getElem]
  intro i j hi hj y6 h0 he
  have:=o.nd i j K[i].1 K[i].2 K[j].2 (by rw [Yv hi]) (by rw [Yv hj,he]) h0
  omega
 have Rg:K'.Pairwise fun a b=>a.1≠0→a.1≠b.1:=(p.pairwise_iff (fun {a b} h h0 he=>h (by rw [←he]; exact h0) he.symm)).2 hP
 rw [List.pairwise_iff_getElem] at Rg
 refine⟨fun j i c hj=>?_,fun j j' i c c' hj KT h0=>?_,o.pos⟩
 ·obtain⟨j',KT⟩:=List.getElem?_of_mem (p.mem_iff.1 (Zm hj))
  exact o.at_ j' i c KT
 ·obtain⟨a1,a2⟩:=Yu.1 hj
  obtain⟨b1,b2⟩:=Yu.1 KT
  rcases Nat.lt_trichotomy j j' with hl | hl | hl
  ·have:=Rg j j' a1 b1 hl
   rw [a2,b2] at this
   exact absurd rfl (this h0)
  ·exact hl
  ·have:=Rg j' j b1 a1 hl
   rw [a2,b2] at this
   exact absurd rfl (this h0)
section
variable {P:Program}{t t2 tf:TypeId}{h:AHeap}{pre L:Mem}{ns r:List ab}{ids:List Nat}{i ad k n2:Nat}{j a v:Int}{n:ab}
theorem qF (hx:ix ns j=some n):(pre++(jd ns ids++L))[pre.length+j.toNat]? = some (Kh ids j,.sl n.args.length 1 (aa.l n.args)):=by
 obtain⟨h0,h1,h2⟩:=gq hx
 rw [YE (by omega),Zt]
 have hl:j.toNat<(jd ns ids).length:=by unfold jd; rw [YY,fH]; omega
 rw [YV hl]
 unfold jd
 rw [YQ,px ns ids _ _ h2]
 rfl
theorem Has.gone (o:Has h (pre++(jd ns ids++L))):Has h (pre++L):=by
 refine o.sub (fun q=>if q<pre.length then q else q+(jd ns ids).length) (fun q p hq=>?_) (fun q q' he=>?_)
 ·by_cases hl:q<pre.length
  ·rw [YV hl] at hq
   rw [if_pos hl,YV hl]; exact hq
  ·rw [YE (by omega)] at hq
   rw [if_neg hl,YE (by omega),YE (by omega),←hq]
   congr 1; omega
 ·split at he<;>split at he<;>omega
theorem LN {b:Nat}{kind int:Int}{label:ByteArray}{args:List Int}{x:AV}(T:vg P t 4 b=true)(o:Has h ((i,.sl k 4 (hH.l (cd ns ids)))::(ad,.sl n2 1 (aa.l args))::(pre++(jd ns ids++L))))
  (hx:eV h 4 x=some ([.int .i64 kind,.int .i64 int,.str label,.rs ad 0 n2 1],1)) (gA:jU P t2 x=true) (hr:app b ns [⟨kind,int,label,args⟩]=some r) :
  ∃i' Og h',eJ P h t t2 (.rs i 0 k 4) x=some (.rs i' 0 r.length 4,h')∧Has h' ((i',.sl r.length 4 (hH.l (cd r Og)))::(pre++(jd r Og++L))):=by
 have hn:n2=args.length:=dq (E:=aa) o (q:=1) rfl
 subst hn
 obtain⟨_,_,rfl⟩:=k7 hr
 have y4:app b (cd ns ids) [((⟨kind,int,label,args⟩:ab),ad)]=some (cd ns ids++[((⟨kind,int,label,args⟩:ab),ad)]):=by
  unfold app at hr ⊢
  rw [fH]
  split at hr
  ·rename_i hh
   simp only [YD,Y6] at hh ⊢
   rw [if_pos hh]
  ·cases hr
 have IM:eV h hH.n x=some (hH.l [((⟨kind,int,label,args⟩:ab),ad)],[((⟨kind,int,label,args⟩:ab),ad)].length):=hx
 obtain⟨i',h',e,o'⟩:=fP (E:=hH) (l:=cd ns ids) (q:=0) T o rfl IM gA y4
 have e:eJ P h t t2 (.rs i 0 k 4) x=some (.rs i' 0 (cd ns ids++[((⟨kind,int,label,args⟩:ab),ad)]).length 4,h'):=e
 refine⟨i',Je ns ids++[ad],h',?_,?_⟩
 ·rw [e,Ys,Ys,fH]; rfl
 ·rw [Jf,tO]
  have o':Has h' ((i',.sl (cd ns ids++[((⟨kind,int,label,args⟩:ab),ad)]).length 4 (hH.l (cd ns ids++[((⟨kind,int,label,args⟩:ab),ad)])))::LM (⟨kind,int,label,args⟩,ad)::(pre++(jd ns ids++L))):=o'
  have el:(ns++[(⟨kind,int,label,args⟩:ab)]).length=(cd ns ids++[((⟨kind,int,label,args⟩:ab),ad)]).length:=by
   rw [Ys,Ys,fH]; rfl
  rw [el]
  refine o'.perm (List.Perm.cons _ ?_)
  have k1:pre++((jd ns ids++[LM ((⟨kind,int,label,args⟩:ab),ad)])++L)=(pre++jd ns ids)++LM (⟨kind,int,label,args⟩,ad)::L:=by simp
  have k2:pre++(jd ns ids++L)=(pre++jd ns ids)++L:=by simp
  rw [k1,k2]
  exact List.perm_middle
theorem LO {old:Int}(o:Has h ((i,.sl k 4 (hH.l (cd ns ids)))::(pre++(jd ns ids++L))))(hs:ez P tf=some 1)(hx:ix ns j=some n)(hk:ix n.args a=some old) :
  ∃h',jk P h tf (.ptr (Kh ids j) (0+a.toNat*1)) (.int .i64 v)=some h'∧
   Has h' ((i,.sl k 4 (hH.l (cd (ns.set j.toNat ⟨n.kind,n.int,n.label,n.args.set a.toNat v⟩) ids)))::(pre++(jd (ns.set j.toNat ⟨n.kind,n.int,n.label,n.args.set a.toNat v⟩) ids++L))):=by
 obtain⟨h0,h1,h2⟩:=gq hx
 have hq:=qF (pre:=(i,.sl k 4 (hH.l (cd ns ids)))::pre) (L:=L) (ids:=ids) hx
 obtain⟨h',e,o'⟩:=dM (P:=P) (tf:=tf) (E:=aa) (l:=n.args) (v:=v) (x:=.int .i64 v) o hq hs hk rfl rfl
 refine⟨h',e,?_⟩
 have hl:j.toNat<(jd ns ids).length:=by unfold jd; rw [YY,fH]; omega
 have e1:hH.l (cd (ns.set j.toNat ⟨n.kind,n.int,n.label,n.args.set a.toNat v⟩) ids)=hH.l (cd ns ids):=by
  rw [tP]
  have hz:=px ns ids _ _ h2
  have:=cz.FT (E:=hH) (l:=cd ns ids) (i:=j.toNat) (a:=(n,ids.getD j.toNat 0)) (b:=(⟨n.kind,n.int,n.label,n.args.set a.toNat v⟩,ids.getD j.toNat 0)) hz []
  have h3:=cz.FT (E:=hH) (l:=cd ns ids) (i:=j.toNat) (a:=(n,ids.getD j.toNat 0)) (b:=(n,ids.getD j.toNat 0)) hz []
  have hf:hH.f (⟨n.kind,n.int,n.label,n.args.set a.toNat v⟩,ids.getD j.toNat 0)=hH.f (n,ids.getD j.toNat 0):=by
   show [AV.int .i64 n.kind,.int .i64 n.int,.str n.label,.rs (ids.getD j.toNat 0) 0 (n.args.set a.toNat v).length 1]=_
   rw [Yt]; rfl
  rw [hf,h3] at this
  rw [Zk,Zk] at this
  rw [←this]
  congr 1
  obtain⟨g1,g2⟩:=Yu.1 hz
  rw [←g2,List.set_getElem_self]
 rw [e1,Jg]
 have e2:((((i,Ct.sl k 4 (hH.l (cd ns ids)))::pre)++(jd ns ids++L)).set (((i,Ct.sl k 4 (hH.l (cd ns ids)))::pre).length+j.toNat) (Kh ids j,.sl n.args.length aa.n (aa.l (n.args.set a.toNat v)))) =
   ((i,Ct.sl k 4 (hH.l (cd ns ids)))::pre)++((jd ns ids).set j.toNat (LM (⟨n.kind,n.int,n.label,n.args.set a.toNat v⟩,ids.getD j.toNat 0))++L):=by
  rw [ZD _ _ (by omega),Zt,List.set_append_left _ _ hl]
  show _=((i,Ct.sl k 4 (hH.l (cd ns ids)))::pre)++((jd ns ids).set j.toNat (ids.getD j.toNat 0,.sl (n.args.set a.toNat v).length 1 (aa.l (n.args.set a.toNat v)))++L)
  rw [Yt]; rfl
 have o2:Has h' ((((i,Ct.sl k 4 (hH.l (cd ns ids)))::pre)++(jd ns ids++L)).set (((i,Ct.sl k 4 (hH.l (cd ns ids)))::pre).length+j.toNat) (Kh ids j,.sl n.args.length aa.n (aa.l (n.args.set a.toNat v)))):=o'
 rw [e2] at o2
 exact o2
def Oh:Nat:=2251799813685248
theorem zr:∀(ns:List ab) (ids:List Nat),(cd ns ids).map (fun p=>p.1)=ns
 | [],_=>rfl
 | n::ns,ids=>by simp [cd,zr ns]
theorem CC:∀(zs:List (ab × Nat)),(∀p∈zs,∀n,jE≤n→cq h n (.rs p.2 0 p.1.args.length 1)=some (aa.fz p.1.args))→∀n,jE+4*zs.length+1≤n→bO h n (hH.l zs)=some (ah.l (zs.map fun p=>p.1))
 | [],_,n,hn=>by
  obtain⟨m,rfl⟩:∃m,n=m+1:=⟨n - 1,by omega⟩
  rfl
 | p::zs,hz,n,hn=>by
  obtain⟨m,rfl⟩:∃m,n=m+4+1:=⟨n - 5,by simp only [YD] at hn; simp only [jE] at hn; omega⟩
  simp only [YD] at hn
  have h1:=CC zs (fun q hq=>hz q (by simp [hq])) (m+1) (by omega)
  have h2:=hz p (by simp) (m+1) (by omega)
  show bO h (m+4+1) (.int .i64 p.1.kind :: .int .i64 p.1.int :: .str p.1.label :: .rs p.2 0 p.1.args.length 1::hH.l zs)=some (.int .i64 p.1.kind :: .int .i64 p.1.int :: .str p.1.label::aa.fz p.1.args::ah.l (zs.map fun p=>p.1))
  have a1:∀(n:Nat) (k:IntKind) (z:Int),cq h (n+1) (.int k z)=some (.int k z):=fun _ _ _=>rfl
  have a2:∀(n:Nat) (s:ByteArray),cq h (n+1) (.str s)=some (.str s):=fun _ _=>rfl
  rw [show m+4+1=(m+1+1+1+1)+1 by omega]
  simp only [bO,a1,a2,Yj,h1,h2,Yp]
theorem Gl {q:Nat}(o:Has h (pre++(jd ns ids++L)))(hq:(pre++(jd ns ids++L))[q]? = some (i,.sl k 4 (hH.l (cd ns ids)))):k9 Oh h (.rs i 0 k 4) (ah.fz ns):=by
 intro m hm
 have hk:k=(cd ns ids).length:=dq (E:=hH) o hq
 rw [fH] at hk
 subst hk
 obtain⟨⟨⟨hlen,AW⟩,nE⟩,hlt⟩:=o.at_ _ _ _ hq
 have hlen:(hH.l (cd ns ids)).length=ns.length*4:=hlen
 obtain⟨k,rfl,hk⟩:=lO (show jE≤m by omega)
 simp only [cq]
 rcases nE with⟨h0,h1⟩| ⟨h0,rest,h1⟩
 ·have:ns=[]:=by simpa using h1
  subst this
  simp [h0,cz.fz,cz.l]
 ·rw [if_neg h0,h1]
  simp only [Yj]
  have e1:((hH.l (cd ns ids)++rest).drop 0).take (ns.length*4)=hH.l (cd ns ids):=by
   rw [YZ,YX (by omega),YR (by omega)]
  rw [if_pos (by rw [Ys,hlen]; omega),e1,CC (cd ns ids) (fun p hp n hn=>?_) k (by rw [fH]; simp only [jE,Oh] at hm ⊢; omega),zr]
  ·rfl
  ·obtain⟨j,hj,e⟩:=ZU hp
   have N2:(pre++(jd ns ids++L))[pre.length+j]? = some (p.2,.sl p.1.args.length 1 (aa.l p.1.args)):=by
    have hl:j<(jd ns ids).length:=by unfold jd; rw [YY]; exact hj
    rw [YE (by omega),Zt,YV hl]
    unfold jd
    rw [YQ,Yv hj,e]; rfl
   exact rG (E:=aa) (l:=p.1.args) o N2 (fun _=>rfl) rfl n hn
end
end Go.R
namespace Go.R
open Go
inductive Az
 | b (i:Nat) {x y:Bool} (h:x=y)
 | v (i:Nat) {e:Option AV} {z:AV} (h:e=some z)
 | w (i:Nat) {e:Option AHeap} {g:AHeap} (h:e=some g)
 | a (i:Nat) {e:Option (AV × AHeap)} {z:AV} {g:AHeap} (h:e=some (z,g))
 | m (i:Nat) {e:AV × AHeap} {z:AV} {g:AHeap} (h:e=(z,g))
def Az.Wm:Az→Nat × AV × Option AHeap
 | @b i x y h=>(i,.bool y,none)
 | @v i e z h=>(i,z,none)
 | @w i e g h=>(i,.any,some g)
 | @a i e z g h=>(i,z,some g)
 | @m i e z g h=>(i,z,some g)
def Az.fr:Az→AV × AHeap
 | @a i e z g h=>(z,g)
 | _=>(.any,bH)
def Az.p:Az→Prop
 | @b i x y h=>AV.bool x=AV.bool y
 | @v i e z h=>e=some z
 | @w i e g h=>e=some g
 | @a i e z g h=>e=some (z,g)
 | @m i e z g h=>e=(z,g)
theorem Az.ok:∀g:Az,g.p
 | @b i x y h=>congrArg AV.bool h
 | @v i e z h=>h
 | @w i e g h=>h
 | @a i e z g h=>h
 | @m i e z g h=>h
def Ei:List Az→Lt
 | []=>[]
 | g::gs=>g.Wm::Ei gs
def Jh:List Az→List (AV × AHeap)
 | []=>[]
 | g::gs=>g.fr::Jh gs
def ps:List Az→Prop
 | []=>True
 | g::gs=>g.p∧ps gs
theorem Gm:∀gs,ps gs
 | []=>trivial
 | g::gs=>⟨g.ok,Gm gs⟩
def cA:Code→Code
 | .seq a _=>a
 | .cond _ a _=>a
 | .block _ a=>a
 | .loop a=>a
 | _=>.skip
def cB:Code→Code
 | .seq _ b=>b
 | .cond _ _ b=>b
 | _=>.skip
def kd:Code→Nat
 | .skip=>0
 | .ret=>1
 | .seq _ _=>2
 | .loop _=>3
 | _=>9
def Rh:Code→Option Nat
 | .exit i=>some i
 | _=>none
def Ri:Code→Option Nat
 | .block i _=>some i
 | _=>none
def Rj (A:cm)(c:Code)(s:St):Option AV:=
 match c with
 | .cond k _ _=>some (bS (s.open A).ρ k)
 | _=>none
def nx (P:Program)(cf:CallF)(A:cm)(c:Code)(fs gs:List Az)(s:St):St:=((nL P cf A c (Jh fs) (Ei gs) s).map (·.2)).getD s
section
variable {P:Program}{cf:CallF}{A:cm}{m:Nat}{c:Code}{s:St}{Q R:Ex→St→Prop}
theorem zt (fs gs:List Az)(hQ:Q .norm (nx P cf A c fs gs s))(h:(nL P cf A c (Jh fs) (Ei gs) s).map (·.1)=some (ps fs∧ps gs):=by kernel_rfl):dt P cf A m c s Q:=by
 unfold nx at hQ
 obtain⟨⟨p,s'⟩,h1,rfl⟩:=Yl.1 h
 rw [h1] at hQ
 exact tv h1 ⟨Gm fs,Gm gs⟩ hQ
theorem qr (gs:List Az)(hQ:Q .norm (nx P cf A c [] gs s))(h:(nL P cf A c [] (Ei gs) s).map (·.1)=some (True∧ps gs):=by kernel_rfl):dt P cf A m c s Q:=zt [] gs hQ h
theorem q0 (hQ:Q .norm (nx P cf A c [] [] s))(h:(nL P cf A c [] [] s).map (·.1)=some (True∧True):=by kernel_rfl):dt P cf A m c s Q:=zt [] [] hQ h
theorem T3 (h:kd c=2):c = .seq (cA c) (cB c):=by cases c<;>first | rfl | cases h
theorem qq (hQ:dt P cf A m (cA c) s (Lu (fun s'=>dt P cf A m (cB c) s' Q) Q))(h:kd c=2:=by kernel_rfl):dt P cf A m c s Q:=by rw [T3 h]; exact pf hQ
theorem T4 (fs gs:List Az)(hQ:dt P cf A m (cB c) (nx P cf A (cA c) fs gs s) Q)(h:kd c=2:=by kernel_rfl)(h2:(nL P cf A (cA c) (Jh fs) (Ei gs) s).map (·.1)=some (ps fs∧ps gs):=by kernel_rfl):dt P cf A m c s Q:=qq (zt fs gs hQ h2) h
theorem qs (gs:List Az)(hQ:dt P cf A m (cB c) (nx P cf A (cA c) [] gs s) Q)(h:kd c=2:=by kernel_rfl)(h2:(nL P cf A (cA c) [] (Ei gs) s).map (·.1)=some (True∧ps gs):=by kernel_rfl):dt P cf A m c s Q:=T4 [] gs hQ h h2
theorem q1 (hQ:dt P cf A m (cB c) (nx P cf A (cA c) [] [] s) Q)(h:kd c=2:=by kernel_rfl)(h2:(nL P cf A (cA c) [] [] s).map (·.1)=some (True∧True):=by kernel_rfl):dt P cf A m c s Q:=T4 [] [] hQ h h2
theorem qk (hQ:Q .norm s)(h:kd c=0:=by kernel_rfl):dt P cf A m c s Q:=by
 have:c = .skip:=by cases c<;>first | rfl | cases h
 rw [this]; exact D3 hQ
theorem qt (hQ:Q .ret s)(h:kd c=1:=by kernel_rfl):dt P cf A m c s Q:=by
 have:c = .ret:=by cases c<;>first | rfl | cases h
 rw [this]; exact ze hQ
theorem qx (i:Nat)(hQ:Q (.exit i) s)(h:Rh c=some i:=by kernel_rfl):dt P cf A m c s Q:=by
 have:c = .exit i:=by cases c<;>first | (cases h; rfl) | cases h
 rw [this]; exact D4 hQ
theorem qb (i:Nat)(hQ:dt P cf A m (cA c) s (Q4 i Q))(h:Ri c=some i:=by kernel_rfl):dt P cf A m c s Q:=by
 have:c = .block i (cA c):=by cases c<;>first | (cases h; rfl) | cases h
 rw [this]; exact Be hQ
theorem qc {α:Type}{b:Bool}{x y z:Option α}(H:(if b=true then x else y)=z)(ht:b=true→x=z→dt P cf A m (cA c) s Q)(hf:b=false→y=z→dt P cf A m (cB c) s Q)(h:Rj A c s=some (.bool b):=by kernel_rfl):dt P cf A m c s Q:=by
 cases c<;>first | cases h | skip
 rename_i k a e
 exact qC b (YI h) (fun hb=>ht hb (Wk hb H)) (fun hb=>hf hb (Wl hb H))
theorem wk (hQ:dt P cf A m (cA c) s Q)(h:Rj A c s=some (.bool true):=by kernel_rfl):dt P cf A m c s Q:=by
 cases c<;>first | cases h | skip
 exact qC true (YI h) (fun _=>hQ) (fun hb=>by cases hb)
theorem Ej (hQ:dt P cf A m (cB c) s Q)(h:Rj A c s=some (.bool false):=by kernel_rfl):dt P cf A m c s Q:=by
 cases c<;>first | cases h | skip
 exact qC false (YI h) (fun hb=>by cases hb) (fun _=>hQ)
theorem ql {c':Code}(h:dt P cf A m c' s Q)(k:∀e s',Q e s'→R e s')(hc:c=c':=by kernel_rfl):dt P cf A m c s R:=by rw [hc]; exact vZ h k
theorem qj {α β:Type}{S:α→St→Prop}(f:α→Option β){out:β}{z:Option β}(h0:z=some out)(hB:∀σ s,S σ s→f σ=some out→dt P cf A m (cB c) s Q)
  (hA:(∀σ s,S σ s→f σ=some out→dt P cf A m (cB c) s Q)→dt P cf A m (cA c) s (Lu (fun s'=>dt P cf A m (cB c) s' Q) Q)) (h:kd c=2:=by kernel_rfl):dt P cf A m c s Q:=by
 rw [T3 h]; exact pf (hA hB)
end
def bL {S O:Type}(P:Program)(cf:CallF)(A:cm)(m:Nat)(c:Code)(l:Nat→S→Option O)(R:S→St→Prop)(Q:O→Ex→St→Prop):Prop:=∀σ s out,R σ s→l m σ=some out→dt P cf A m (.loop c) s (Q out)
theorem ig {S O:Type}{P:Program}{cf:CallF}{A:cm}{m:Nat}{c:Code}{l:Nat→S→Option O}{R:S→St→Prop}{Q:O→Ex→St→Prop}(h0:∀σ,l 0 σ=none)
  (step:∀k σ s out,R σ s→l (k+1) σ=some out→dt P cf A m c s (FP l R Q k out)):bL P cf A m c l R Q:=fun _ _ _ hr H=>D5 l R Q h0 step hr H (fun _ _ _ h=>h)
def LP:Nat→List Nat→List Nat
 | _,[]=>[]
 | k,x::xs=>bif Y5 (k % 2) 1 then x::LP (k / 2) xs else LP (k / 2) xs
def Oi (gz:List Nat):Nat→List Nat→List (Nat × List Nat)
 | _,[]=>[]
 | r,k::ks=>(r,LP k gz)::Oi gz (r+1) ks
def gI (gz aF ms:List Nat)(oK DC:List (Nat × List (Nat × Option Nat × Nat))):cm:={gz:=gz,aF:=aF,dead:=Oi gz 0 ms,oK:=oK,DC:=DC}
theorem dQ {α:Type}{b:Bool}{x y z:α}(H:(if b=true then x else y)=z):(b=true∧x=z)∨(b=false∧y=z):=by
 cases b with
 | true=>exact .inl ⟨rfl,H⟩
 | false=>exact .inr ⟨rfl,H⟩
theorem oi {α:Type}{a b:α}(h:some a=some b):a=b:=YI h
theorem cp {P:Program}{A:cm}{s:St}{rs:List ResultVar}{y:AV}(av:AV)(g:AHeap)(h:gu g av y)(h1:aH P (s.open A) rs=some av:=by kernel_rfl)(h2:s.h=g:=by kernel_rfl):∃av,aH P (s.open A) rs=some av∧gu s.h av y:=⟨av,h1,h2 ▸ h⟩
theorem vk {P:Program}{A:cm}{s:St}{rs:List ResultVar}{y:AV}(av:AV)(g:AHeap)(h:xz g av y)(h1:aH P (s.open A) rs=some av:=by kernel_rfl)(h2:s.h=g:=by kernel_rfl):∃av,aH P (s.open A) rs=some av∧xz s.h av y:=⟨av,h1,h2 ▸ h⟩
theorem he {g g':AHeap}{K:Mem}(o:Has g K)(h:g'=g:=by kernel_rfl):Has g' K:=h ▸ o
end Go.R
namespace Go.Proofs.YtmekcfdllhphlaaGreatDoor
open Go Go.R
open Go.IntKind (i64 u64 u8 u32)
structure dG where
 cj:List Int
 br:Bool
theorem Ek:vg Tryz.prog 22 1 1=true:=by kernel_rfl
theorem E2:vg Tryz.prog 24 2 32=true:=by kernel_rfl
theorem dJ:vg Tryz.prog 28 1 8=true:=by kernel_rfl
theorem mf:vg Tryz.prog 42 4 56=true:=by kernel_rfl
theorem Wn:vg Tryz.prog 64 1 24=true:=by kernel_rfl
theorem vl:vg Tryz.prog 116 1 1=true:=by kernel_rfl
theorem A3:eB Tryz.prog 3=some false:=by kernel_rfl
theorem A4:eB Tryz.prog 4=some false:=by kernel_rfl
theorem A5:eB Tryz.prog 5=some false:=by kernel_rfl
theorem A9:eB Tryz.prog 9=some false:=by kernel_rfl
theorem Wo:eB Tryz.prog 22=some false:=by kernel_rfl
theorem LQ:eB Tryz.prog 28=some false:=by kernel_rfl
theorem Oj:eB Tryz.prog 42=some false:=by kernel_rfl
theorem Ok:eB Tryz.prog 44=some true:=by kernel_rfl
theorem tQ:eB Tryz.prog 56=some true:=by kernel_rfl
theorem Z3:ez Tryz.prog 3=some 1:=by kernel_rfl
theorem Z4:ez Tryz.prog 4=some 1:=by kernel_rfl
theorem Z5:ez Tryz.prog 5=some 1:=by kernel_rfl
theorem Wp:ez Tryz.prog 28=some 1:=by kernel_rfl
theorem Ol:ez Tryz.prog 44=some 2:=by kernel_rfl
theorem tR:ez Tryz.prog 56=some 4:=by kernel_rfl
theorem U9:Tryz.prog.underlying 9=some .string:=by kernel_rfl
theorem Ki:zm Tryz.prog 110=true:=by kernel_rfl
theorem CD:zn Tryz.prog 132 9=true:=by kernel_rfl
theorem Gn:Tryz.prog.underlying 132=some (.map 134 3):=by kernel_rfl
theorem wo:Ed Tryz.prog 134 9=true:=by kernel_rfl
def kA.f (m:Nat):Option Bool:=some true
def S5 (cf:CallF)(m:Nat):Prop:=∀r:Bool,kA.f m=some r→∀h xs,eY fq h xs []→cf 5 xs h=some (.bool r,h)
def Om (cf:CallF)(m:Nat):Prop:=Cy cf 56 5
def T5 (cf:CallF)(m:Nat):Prop:=Gf cf 59 5
def On (cf:CallF)(m:Nat):Prop:=Ge cf 103 5
end Go.Proofs.YtmekcfdllhphlaaGreatDoor
