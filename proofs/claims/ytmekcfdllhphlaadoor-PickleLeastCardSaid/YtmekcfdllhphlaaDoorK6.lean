/- Part of the proof: RBuf1, RBuf2, RBuf3, RBuf4, RBuf5, RG9, PR1, RFix, RGN, RGL, QW, Q123, Q122. -/
import Derived.Test.YtmekcfdllhphlaaDoorK5
import Derived.Shelf.LaysM
import Derived.Shelf.Bytes.GrowAt
import Derived.Lib.ByteType
import Derived.Lib.BufferAt
import Derived.Lib.BufferKept
import Derived.Lib.Walk
import Derived.Lib.BufferWrite
import Derived.Lib.Hide
import Derived.WalkKit
import Derived.BigCall
import Derived.BigGuard
import Derived.KernelRfl
import Derived.Test.YtmekcfdllhphlaaDoorProg
set_option linter.unusedVariables false
set_option linter.unusedSimpArgs false
set_option maxRecDepth 100000
open Array renaming getElem?_eq_some_iff → Ro, length_toList → RI, getElem?_toList → R9
open List renaming getElem?_eq_some_iff → QX, mem_singleton → QY, getElem?_eq_getElem → QZ, length_append → Q0, mem_append → Q7, getElem?_eq_none → Ra, length_set → Rb, getElem?_append_right → Rg, map_append → Ri, mem_map → Rj, getElem?_map → Rk, append_assoc → Rm, take_append_of_le_length → Rn, map_cons → Rq, drop_zero → Rr, getElem?_append_left → Rs, mem_cons → Rt, cons_append → Ru, nil_append → Rv, take_of_length_le → Rw, mem_append_left → Rx, length_cons → RA, getElem?_cons_zero → RC, length_map → RE, ext_getElem? → RJ, length_nil → RN, take_add_one → RU, mem_of_getElem? → Se, getElem?_set_self → Sm, set_append_right → Sv, getElem?_set_ne → Sw, length_take → Sx, append_nil → SD
open Nat renaming le_refl → QS, zero_add → Re, lt_of_lt_of_le → Rh, beq → Ry, add_assoc → RF, le_trans → RG, le_succ → RX, sub_self → Sf, lt_succ_of_lt → Si
open Ne renaming symm → R8
open Option renaming bind_some → QM, bind_eq_some_iff → QN, map_eq_some_iff → QP, map_some → QU, getD_some → RP
open Option.some renaming injEq → QQ, inj → Rf
open Prod.mk renaming injEq → QV
namespace Go.R
open Go Go.Proofs Go.Shelf Go.RowKit
variable {P:Program}{ρ:Ren}
structure BRow (T:TypeId)(R:Nat→Option Value)(e:TypeId)(b q:Nat)(lr:Int)(g l cap:Nat)(cur:Array Value)(w:World):Prop where
 three:LibA.Three w b q T R (.slice (some ⟨g,0,none⟩) l cap) (.int .i64 0) (.int .i8 lr)
 row:w.heap[g]? = some (.cells cur e (0,0))
 le:l≤cap
 most:cap≤maxLen
 size:cur.size=cap
 ne:g≠b
structure But (N:Nat→Prop)(w w':World):Prop where
 os:w'.os=w.os
 tape:w'.tape=w.tape
 output:w'.output=w.output
 size:w.heap.size≤w'.heap.size
 block:∀k,k<w.heap.size→¬N k→w'.heap[k]? = w.heap[k]?
theorem But.refl (N:Nat→Prop)(w:World):But N w w:=⟨rfl,rfl,rfl,QS _,fun _ _ _=>rfl⟩
theorem But.trans {N:Nat→Prop}{w w' w'':World}(a:But N w w')(b:But N w' w''):But N w w'':=
 ⟨b.os.trans a.os,b.tape.trans a.tape,b.output.trans a.output,RG a.size b.size,fun k hk hn=>(b.block k (Rh hk a.size) hn).trans (a.block k hk hn)⟩
theorem But.mono {N N':Nat→Prop}{w w':World}(a:But N w w')(h:∀k,k<w.heap.size→N k→N' k):But N' w w':=
 ⟨a.os,a.tape,a.output,a.size,fun k hk hn=>a.block k hk fun h'=>hn (h k hk h')⟩
theorem But.setCell {N:Nat→Prop}{w w':World}(a:But N w w'){b:Nat}(hb:b<w.heap.size→N b)(o:Nat)(v:Value):But N w (w'.setCell ⟨b,o,none⟩ v):=
 ⟨a.os,a.tape,a.output,by simpa [World.setCell] using a.size,fun k hk hn=>(Below.heap_setCell w' ⟨b,o,none⟩ v k (by rintro rfl; exact hn (hb hk))).trans (a.block k hk hn)⟩
theorem But.alloc {N:Nat→Prop}{w w':World}(a:But N w w')(o:Obj):But N w (w'.alloc o):=
 ⟨a.os,a.tape,a.output,RG a.size (by simp),fun k hk hn=>(Below.heap_alloc w' o k (Rh hk a.size)).trans (a.block k hk hn)⟩
theorem But.below {N:Nat→Prop}{w w' w'':World}(a:But N w w')(h:Below w'.heap.size w' w''):But N w w'':=
 a.trans ⟨h.os,h.tape,h.output,h.size,fun k hk _=>h.block k hk⟩
theorem heap_setCell_other (w:World){b k:Nat}(o:Nat)(v:Value)(h:k≠b):(w.setCell ⟨b,o,none⟩ v).heap[k]? = w.heap[k]?:=
 Below.heap_setCell w ⟨b,o,none⟩ v k h
set_option maxHeartbeats 12800000 in
theorem grow_row (L:LaysM.n252 P ρ)(T:TypeId)(R:Nat→Option Value)(b q g l cap n:Nat)(lr:Int)(cur:Array Value)(w:World)(h:BRow T R (ρ.t 5) b q lr g l cap cur w)
  (h1:∀v∈cur.toList.take l,v.oneCell'=true) (hl0:l≠0) (hn:1≤n) (hroom:cap - l<n) (hlim:l+n≤140737488355328) :
  Calls P (ρ.f 252) #[.pointer (some ⟨b,q,none⟩),.int .i64 n] w fun e w'=>e = .returned (.int .i64 l)∧
   ∃g' cap' cur',BRow T R (ρ.t 5) b q lr g' (l+n) cap' cur' w'∧cur'.toList.take l=cur.toList.take l∧w.heap.size≤g'∧But (· = b) w w':=by
 have mixed:=L.mixed
 have t5:=L.t5; have a5:=L.a5; have z5:=L.z5; have v5:=L.v5
 have t130:=L.t130; have a130:=L.a130; have z130:=L.z130; have v130:=L.v130
 have t3:=L.t3; have a3:=L.a3; have z3:=L.z3; have v3:=L.v3
 have t4:=L.t4; have a4:=L.a4; have z4:=L.z4; have v4:=L.v4
 have t0:=L.t0; have a0:=L.a0; have z0:=L.z0; have v0:=L.v0
 have t93:=L.t93; have u93:=run_underlying L.t93; have a93:=L.a93; have z93:=L.z93; have v93:=L.v93
 have t131:=L.t131; have a131:=L.a131; have z131:=L.z131; have v131:=L.v131
 have t37:=L.t37; have a37:=L.a37; have z37:=L.z37; have v37:=L.v37
 have t75:=L.t75; have a75:=L.a75; have z75:=L.z75; have v75:=L.v75
 have e181:∀args w,(callFunc (ρ.f 181) args).run P w = .ok (.enter (ρ.f 181) args) w:=enters_of L.f181 (by kernel_rfl) rfl
 have e251:∀args w,(callFunc (ρ.f 251) args).run P w = .ok (.enter (ρ.f 251) args) w:=enters_of L.f251 (by kernel_rfl) rfl
 have e290:∀args w,(callFunc (ρ.f 290) args).run P w = .ok (.enter (ρ.f 290) args) w:=enters_of L.f290 (by kernel_rfl) rfl
 obtain⟨hbk,hg,hlc,hcm,hcs,hgb⟩:=h
 have hlen:(cur.toList.take l).length=l:=by rw [Sx,RI]; omega
 have hIs:LibA.IsBuffer T R (ρ.t 5) 0 b q (cur.toList.take l) w:=by
  have:=LibA.isBuffer_mk (e:=ρ.t 5) (B:=0) (Nat.zero_le _) hbk (Nat.zero_le _) hg hlc hcm hcs hgb
  exact this
 have hnil:∀W,(binOp .eql (ρ.t 37) (.slice (some ⟨g,0,none⟩) l cap) (.slice none 0 0)).run P W = .ok (.bool false) W:=fun W=>Lib.run_eql_slice_some_nil W _ _ _ L.t37
 go_enter L.f252,Body.n252_ntmps ρ
 go_wp2_with (go_at_fn (ρ.f 181); refine (Any.Buffer_Len_at {L with} T R 0 b q _ _ hIs).mono ?_)
 rintro e W0 ⟨rfl,k,hW0⟩
 rw [hlen]
 have hbk0:LibA.Three W0 b q T R (.slice (some ⟨g,0,none⟩) l cap) (.int .i64 0) (.int .i8 lr):=by rw [hW0]; exact hbk
 have hg0:W0.heap[g]? = some (.cells cur (ρ.t 5) (0,0)):=by rw [hW0]; exact hg
 have c0:W0.cell? ⟨b,q,none⟩=some (.slice (some ⟨g,0,none⟩) l cap):=hbk0.c0
 have c1:W0.cell? ⟨b,q+1,none⟩=some (.int .i64 0):=hbk0.c1
 have f0:W0.frozen? ⟨b,q,none⟩=false:=hbk0.f q
 have f1:W0.frozen? ⟨b,q+1,none⟩=false:=hbk0.f (q+1)
 have HW0:=Lib.hid hW0
 clear hW0 hIs hlen
 have hcm':=hcm
 unfold maxLen at hcm'
 go_wp2_with (go_at_fn (ρ.f 251); refine (Any.Buffer_tryGrow_none_at {L with} b q _ l cap n _ c0 hlc hcm hroom).mono ?_; rintro e w' ⟨rfl,rfl⟩)
 have hc2:cap≤140737488355328:=by omega
 have hbW:=hbk0.lt
 have hwn:IntKind.i64.wrap (n:Int)=n:=by rw [IntKind.wrap_i64]; omega
 go_region_with_o (
   go_at_fn (ρ.f 290)
   refine (Any.bytes_growSlice_row {L with} g l cap n cur _ ?_ hcs hlc hn hlim hc2 h1).mono ?_
   exact hg0
   rintro e w2 ⟨cap2,cells,rfl,hN,hcsz,htk,hcap2,hcm2,hbel⟩
   have hbk2:LibA.Three w2 b q T R (.slice (some ⟨g,0,none⟩) l cap) (.int .i64 0) (.int .i8 lr):=hbk0.of_heap (hbel.block b hbW)
   have d0:w2.cell? ⟨b,q,none⟩=some (.slice (some ⟨g,0,none⟩) l cap):=hbk2.c0
   have d1:w2.cell? ⟨b,q+1,none⟩=some (.int .i64 0):=hbk2.c1
   have e0:w2.frozen? ⟨b,q,none⟩=false:=hbk2.f q
   have e1:w2.frozen? ⟨b,q+1,none⟩=false:=hbk2.f (q+1))
 all_goals (
  go_wp2
  go_ret
  have hsz0:w'.drew.heap.size=w.heap.size:=by rw [HW0.out]; rfl
  have hb0:But (· = b) w w'.drew:=by rw [HW0.out]; exact⟨rfl,rfl,rfl,QS _,fun _ _ _=>rfl⟩
  have hne:w'.drew.heap.size≠b:=by have:b<w'.drew.heap.size:=hbW; omega
  refine⟨rfl,w'.drew.heap.size,cap2,cells,⟨((hbk2.set0 _).set1 _).set0 _,?_,hcap2,hcm2,hcsz,hne⟩,htk,by omega,(((hb0.below hbel).setCell (fun _=>rfl) q _).setCell (fun _=>rfl) (q+1) _).setCell (fun _=>rfl) q _⟩
  rw [heap_setCell_other _ _ _ hne,heap_setCell_other _ _ _ hne,heap_setCell_other _ _ _ hne]
  exact hN)
set_option maxHeartbeats 12800000 in
theorem grow_small (L:LaysM.n252 P ρ)(T:TypeId)(R:Nat→Option Value)(b q n:Nat)(lr:Int)(w:World)
  (hbk:LibA.Three w b q T R (.slice none 0 0) (.int .i64 0) (.int .i8 lr)) (hn:1≤n) (h64:n≤64) :
  Calls P (ρ.f 252) #[.pointer (some ⟨b,q,none⟩),.int .i64 n] w fun e w'=>e = .returned (.int .i64 0)∧
   ∃g' cap' cur',BRow T R (ρ.t 5) b q lr g' n cap' cur' w'∧w.heap.size≤g'∧But (· = b) w w':=by
 have mixed:=L.mixed
 have t5:=L.t5; have a5:=L.a5; have z5:=L.z5; have v5:=L.v5
 have t130:=L.t130; have a130:=L.a130; have z130:=L.z130; have v130:=L.v130
 have t3:=L.t3; have a3:=L.a3; have z3:=L.z3; have v3:=L.v3
 have t4:=L.t4; have a4:=L.a4; have z4:=L.z4; have v4:=L.v4
 have t0:=L.t0; have a0:=L.a0; have z0:=L.z0; have v0:=L.v0
 have t93:=L.t93; have u93:=run_underlying L.t93; have a93:=L.a93; have z93:=L.z93; have v93:=L.v93
 have t131:=L.t131; have a131:=L.a131; have z131:=L.z131; have v131:=L.v131
 have t37:=L.t37; have a37:=L.a37; have z37:=L.z37; have v37:=L.v37
 have t75:=L.t75; have a75:=L.a75; have z75:=L.z75; have v75:=L.v75
 have e181:∀args w,(callFunc (ρ.f 181) args).run P w = .ok (.enter (ρ.f 181) args) w:=enters_of L.f181 (by kernel_rfl) rfl
 have e251:∀args w,(callFunc (ρ.f 251) args).run P w = .ok (.enter (ρ.f 251) args) w:=enters_of L.f251 (by kernel_rfl) rfl
 obtain⟨i0,hi,hz0,hz1,hz2⟩:=info_parts L.i5
 obtain⟨M,hM⟩:∃M,M=madeCells (Value.int .u8 0).cells ((64:Int).toNat*i0.size):=⟨_,rfl⟩
 have hMs:M.size=64:=by rw [hM,size_madeCells,hz1]; rfl
 have hmk:∀W:World,(Instr.makeSlice (ρ.t 37) (.int .i64 (n:Int)) (.int .i64 64)).run P W = .ok (.slice (some ⟨W.heap.size,0,none⟩) n 64) (W.alloc (.cells M (ρ.t 5))):=fun W=>by
  have h:=run_makeSlice (P:=P) W (ρ.t 37) (ρ.t 5) i0 (.int .u8 0) L.t37 hi hz0 .i64 .i64 (n:Int) 64 (by omega) (by omega) (by rw [hz1]; decide) (by rw [hz2]; decide) (by decide)
  rw [←hM] at h
  simpa using h
 clear hM
 have hIs:LibA.IsBuffer T R (ρ.t 5) 0 b q [] w:=LibA.zero_isBuffer (Nat.zero_le _) hbk
 have hnil:∀W,(binOp .eql (ρ.t 37) (.slice none 0 0) (.slice none 0 0)).run P W = .ok (.bool true) W:=fun W=>Lib.run_eql_slice_nil_nil W _ _ L.t37
 go_enter L.f252,Body.n252_ntmps ρ
 go_wp2_with (go_at_fn (ρ.f 181); refine (Any.Buffer_Len_at {L with} T R 0 b q [] _ hIs).mono ?_)
 rintro e W0 ⟨rfl,k,hW0⟩
 have hbk0:LibA.Three W0 b q T R (.slice none 0 0) (.int .i64 0) (.int .i8 lr):=by rw [hW0]; exact hbk
 have c0:W0.cell? ⟨b,q,none⟩=some (.slice none 0 0):=hbk0.c0
 have c1:W0.cell? ⟨b,q+1,none⟩=some (.int .i64 0):=hbk0.c1
 have f0:W0.frozen? ⟨b,q,none⟩=false:=hbk0.f q
 have f1:W0.frozen? ⟨b,q+1,none⟩=false:=hbk0.f (q+1)
 have hbW0:=hbk0.lt
 have c0a:∀o,(W0.alloc o).cell? ⟨b,q,none⟩=some (.slice none 0 0):=fun o=>(World.cell?_of_block (a:=⟨b,q,none⟩) (Below.heap_alloc W0 o b hbW0)).trans c0
 have f0a:∀o,(W0.alloc o).frozen? ⟨b,q,none⟩=false:=fun o=>(World.frozen?_of_block (a:=⟨b,q,none⟩) (Below.heap_alloc W0 o b hbW0)).trans f0
 have HW0:=Lib.hid hW0
 clear hW0 hIs
 go_wp2_with (go_at_fn (ρ.f 251); refine (Any.Buffer_tryGrow_none_at {L with} b q _ 0 0 n _ c0 (QS _) (Nat.zero_le _) (by omega)).mono ?_; rintro e w' ⟨rfl,rfl⟩)
 go_ret
 have hsz0:w'.heap.size=w.heap.size:=by rw [HW0.out]; rfl
 have hb0:But (· = b) w w':=by rw [HW0.out]; exact⟨rfl,rfl,rfl,QS _,fun _ _ _=>rfl⟩
 have hne:w'.heap.size≠b:=by omega
 have hbW1:b<(w'.setCell ⟨b,q,none⟩ (.slice (some ⟨w'.heap.size,0,none⟩) n 64)).heap.size:=by simpa [World.setCell] using hbW0
 have hNf:((w'.setCell ⟨b,q,none⟩ (.slice (some ⟨w'.heap.size,0,none⟩) n 64)).alloc (.cells M (ρ.t 5))).heap[w'.heap.size]? = some (.cells M (ρ.t 5) (0,0)):=by
  have h:=heap_alloc_new (w'.setCell ⟨b,q,none⟩ (.slice (some ⟨w'.heap.size,0,none⟩) n 64)) (.cells M (ρ.t 5))
  rwa [show (w'.setCell ⟨b,q,none⟩ (.slice (some ⟨w'.heap.size,0,none⟩) n 64)).heap.size=w'.heap.size by simp [World.setCell]] at h
 exact⟨rfl,w'.heap.size,64,M,⟨(hbk0.set0 _).of_heap (Below.heap_alloc _ _ b hbW1),hNf,h64,by unfold maxLen; omega,hMs,hne⟩,by omega,(hb0.setCell (fun _=>rfl) q _).alloc _⟩
section
variable {T e:TypeId}{R:Nat→Option Value}{lr:Int}{b q g l l' cap:Nat}{cur:Array Value}{w:World}
theorem take_set (hl:l<cur.size)(v:Value):(cur.setIfInBounds l v).toList.take (l+1)=cur.toList.take l++[v]:=by
 have hll:l<cur.toList.length:=by rw [RI]; exact hl
 rw [Array.toList_setIfInBounds,RU,List.take_set_of_le (QS _),Sm hll]
 rfl
theorem BRow.poke (h:BRow T R e b q lr g l' cap cur w)(i:Nat)(v:Value):BRow T R e b q lr g l' cap (cur.setIfInBounds i v) (w.setCell ⟨g,i,none⟩ v):=
 ⟨h.three.of_heap (Below.heap_setCell _ _ _ _ (R8 h.ne)),Lib.heap_setCell_same (i:=i) h.row v,h.le,h.most,by simpa using h.size,h.ne⟩
theorem BRow.setRow (h:BRow T R e b q lr g l' cap cur w){C:Array Value}(hC:C.size=cap):BRow T R e b q lr g l' cap C (w.setRow g C):=
 ⟨h.three.of_heap (setRow_other _ _ _ _ (R8 h.ne)),setRow_heap w g cur _ e (0,0) h.row,h.le,h.most,hC,h.ne⟩
theorem But.setRow {N:Nat→Prop}{w w':World}(a:But N w w'){g:Nat}(hg:g<w.heap.size→N g)(C:Array Value):But N w (w'.setRow g C):=
 ⟨a.os,a.tape,a.output,by simpa using a.size,fun k hk hn=>(setRow_other _ _ _ _ (by rintro rfl; exact hn (hg hk))).trans (a.block k hk hn)⟩
end
set_option maxHeartbeats 6400000 in
theorem writeByte_nil (L:LaysM.n179 P ρ)(T:TypeId)(R:Nat→Option Value)(b q:Nat)(c lr:Int)(w:World)(hbk:LibA.Three w b q T R (.slice none 0 0) (.int .i64 0) (.int .i8 lr)) :
  Calls P (ρ.f 179) #[.pointer (some ⟨b,q,none⟩),.int .u8 c] w fun e w'=>e = .returned .nilIface∧∃g' cap' cur',BRow T R (ρ.t 5) b q 0 g' 1 cap' cur' w'∧cur'.toList.take 1=[.int .u8 c]∧w.heap.size≤g'∧But (· = b) w w':=by
 have mixed:=L.mixed
 have t5:=L.t5; have a5:=L.a5; have z5:=L.z5; have v5:=L.v5
 have t130:=L.t130; have a130:=L.a130; have z130:=L.z130; have v130:=L.v130
 have t75:=L.t75; have a75:=L.a75; have z75:=L.z75; have v75:=L.v75
 have t0:=L.t0; have a0:=L.a0; have z0:=L.z0; have v0:=L.v0
 have t93:=L.t93; have u93:=run_underlying L.t93; have a93:=L.a93; have z93:=L.z93; have v93:=L.v93
 have t91:=L.t91; have a91:=L.a91; have z91:=L.z91; have v91:=L.v91
 have t3:=L.t3; have a3:=L.a3; have z3:=L.z3; have v3:=L.v3
 have t131:=L.t131; have a131:=L.a131; have z131:=L.z131; have v131:=L.v131
 have t4:=L.t4; have a4:=L.a4; have z4:=L.z4; have v4:=L.v4
 have t37:=L.t37; have a37:=L.a37; have z37:=L.z37; have v37:=L.v37
 have e251:∀args w,(callFunc (ρ.f 251) args).run P w = .ok (.enter (ρ.f 251) args) w:=enters_of L.f251 (by kernel_rfl) rfl
 have e252:∀args w,(callFunc (ρ.f 252) args).run P w = .ok (.enter (ρ.f 252) args) w:=enters_of L.f252 (by kernel_rfl) rfl
 have c2:w.cell? ⟨b,q+2,none⟩=some (.int .i8 lr):=hbk.c2
 have f2:w.frozen? ⟨b,q+2,none⟩=false:=hbk.f (q+2)
 have hbut:But (· = b) w (w.setCell ⟨b,q+2,none⟩ (.int .i8 0)):=(But.refl (· = b) w).setCell (fun _=>rfl) (q+2) _
 have hbk1:=hbk.set2 (.int .i8 0)
 have hsz:(w.setCell ⟨b,q+2,none⟩ (.int .i8 0)).heap.size=w.heap.size:=by simp [World.setCell]
 generalize hW:w.setCell ⟨b,q+2,none⟩ (.int .i8 0)=W at hbut hbk1 hsz
 have k0:W.cell? ⟨b,q,none⟩=some (.slice none 0 0):=hbk1.c0
 have hT:Calls P (ρ.f 251) #[.pointer (some ⟨b,q,none⟩),.int .i64 1] W _:=Any.Buffer_tryGrow_none_at {L with} b q none 0 0 1 W k0 (QS _) (Nat.zero_le _) (by omega)
 have hG:Calls P (ρ.f 252) #[.pointer (some ⟨b,q,none⟩),.int .i64 1] W _:=grow_small {L with} T R b q 1 0 W hbk1 (QS _) (by omega)
 clear hbk hbk1
 go_enter L.f179,Body.n179_ntmps ρ
 go_wp2_with (go_at_fn (ρ.f 251); (try rw [hW]); refine hT.mono ?_; rintro e w' ⟨rfl,rfl⟩)
 go_wp2_with (go_at_fn (ρ.f 252); refine hG.mono ?_)
 rintro e W1 ⟨rfl,g,cap,cur,hI,hge,hbut1⟩
 clear hT hG c2 f2
 have d0:W1.cell? ⟨b,q,none⟩=some (.slice (some ⟨g,0,none⟩) 1 cap):=hI.three.c0
 have hlt:0<cur.size:=by rw [hI.size]; exact hI.le
 have dg:W1.cell? ⟨g,0,none⟩=some cur[0]:=by rw [Lib.cell_of_heap hI.row,Array.getElem?_eq_getElem hlt]
 have fg:W1.frozen? ⟨g,0,none⟩=false:=Lib.frozen_of_heap hI.row _
 have hcm':=hI.most
 unfold maxLen at hcm'
 have hcl:=hI.le
 go_wp2
 go_ret
 refine⟨rfl,g,cap,_,hI.poke 0 (.int .u8 c),?_,by omega,(hbut.trans (hbut1.mono fun _ _ h=>h)).setCell (fun h=>by omega) 0 _⟩
 have:=take_set hlt (.int .u8 c)
 simpa using this
end Go.R
namespace Go.R
open Go Go.Proofs Go.Shelf Go.RowKit
variable {P:Program}{ρ:Ren}
set_option maxHeartbeats 12800000 in
theorem writeByte_row (L:LaysM.n179 P ρ)(T:TypeId)(R:Nat→Option Value)(b q g l cap:Nat)(c lr:Int)(cur:Array Value)(w:World)(h:BRow T R (ρ.t 5) b q lr g l cap cur w)
  (h1:∀v∈cur.toList.take l,v.oneCell'=true) (hl0:l≠0) (hlim:l+1≤140737488355328) :
  Calls P (ρ.f 179) #[.pointer (some ⟨b,q,none⟩),.int .u8 c] w fun e w'=>e = .returned .nilIface∧
   ∃g' cap' cur',BRow T R (ρ.t 5) b q 0 g' (l+1) cap' cur' w'∧cur'.toList.take (l+1)=cur.toList.take l++[.int .u8 c]∧(w.heap.size≤g'∨(g'=g∧cur'.size=cur.size))∧But (fun k=>k=b∨k=g') w w':=by
 have mixed:=L.mixed
 have t5:=L.t5; have a5:=L.a5; have z5:=L.z5; have v5:=L.v5
 have t130:=L.t130; have a130:=L.a130; have z130:=L.z130; have v130:=L.v130
 have t75:=L.t75; have a75:=L.a75; have z75:=L.z75; have v75:=L.v75
 have t0:=L.t0; have a0:=L.a0; have z0:=L.z0; have v0:=L.v0
 have t93:=L.t93; have u93:=run_underlying L.t93; have a93:=L.a93; have z93:=L.z93; have v93:=L.v93
 have t91:=L.t91; have a91:=L.a91; have z91:=L.z91; have v91:=L.v91
 have t3:=L.t3; have a3:=L.a3; have z3:=L.z3; have v3:=L.v3
 have t131:=L.t131; have a131:=L.a131; have z131:=L.z131; have v131:=L.v131
 have t4:=L.t4; have a4:=L.a4; have z4:=L.z4; have v4:=L.v4
 have t37:=L.t37; have a37:=L.a37; have z37:=L.z37; have v37:=L.v37
 have e251:∀args w,(callFunc (ρ.f 251) args).run P w = .ok (.enter (ρ.f 251) args) w:=enters_of L.f251 (by kernel_rfl) rfl
 have e252:∀args w,(callFunc (ρ.f 252) args).run P w = .ok (.enter (ρ.f 252) args) w:=enters_of L.f252 (by kernel_rfl) rfl
 have c2:w.cell? ⟨b,q+2,none⟩=some (.int .i8 lr):=h.three.c2
 have f2:w.frozen? ⟨b,q+2,none⟩=false:=h.three.f (q+2)
 have hbut:But (fun k=>k=b) w (w.setCell ⟨b,q+2,none⟩ (.int .i8 0)):=(But.refl (· = b) w).setCell (fun _=>rfl) (q+2) _
 have hI0:BRow T R (ρ.t 5) b q 0 g l cap cur (w.setCell ⟨b,q+2,none⟩ (.int .i8 0)):=⟨h.three.set2 _,(heap_setCell_other _ _ _ h.ne).trans h.row,h.le,h.most,h.size,h.ne⟩
 have hsz:(w.setCell ⟨b,q+2,none⟩ (.int .i8 0)).heap.size=w.heap.size:=by simp [World.setCell]
 generalize hW:w.setCell ⟨b,q+2,none⟩ (.int .i8 0)=W at hbut hI0 hsz
 have k0:W.cell? ⟨b,q,none⟩=some (.slice (some ⟨g,0,none⟩) l cap):=hI0.three.c0
 have kf:W.frozen? ⟨b,q,none⟩=false:=hI0.three.f q
 have hle:=h.le
 have hcm:=h.most
 by_cases hr:1≤cap - l
 ·have hT:Calls P (ρ.f 251) #[.pointer (some ⟨b,q,none⟩),.int .i64 1] W _:=Any.Buffer_tryGrow_room_at {L with} b q _ l cap 1 W k0 kf hle hcm hr
  clear c2 f2
  have c2:w.cell? ⟨b,q+2,none⟩=some (.int .i8 lr):=h.three.c2
  have f2:w.frozen? ⟨b,q+2,none⟩=false:=h.three.f (q+2)
  have hb1:BRow T R (ρ.t 5) b q 0 g (l+1) cap cur (W.setCell ⟨b,q,none⟩ (.slice (some ⟨g,0,none⟩) (l+1) cap)):=⟨hI0.three.set0 _,(heap_setCell_other _ _ _ h.ne).trans hI0.row,by omega,h.most,h.size,h.ne⟩
  have hbut1:=hbut.setCell (b:=b) (fun _=>rfl) q (.slice (some ⟨g,0,none⟩) (l+1) cap)
  clear hI0 k0 kf
  generalize hW1:W.setCell ⟨b,q,none⟩ (.slice (some ⟨g,0,none⟩) (l+1) cap)=W1 at hb1 hbut1
  have hT1:Calls P (ρ.f 251) #[.pointer (some ⟨b,q,none⟩),.int .i64 1] W fun e w'=>e = .returned (.tuple #[.int .i64 l,.bool true])∧w'=W1:=hT.mono fun e w' hh=>⟨hh.1,hh.2.trans hW1⟩
  clear hT
  have d0:W1.cell? ⟨b,q,none⟩=some (.slice (some ⟨g,0,none⟩) (l+1) cap):=hb1.three.c0
  have hlt:l<cur.size:=by rw [hb1.size]; exact hb1.le
  have dg:W1.cell? ⟨g,l,none⟩=some cur[l]:=by rw [Lib.cell_of_heap hb1.row,Array.getElem?_eq_getElem hlt]
  have fg:W1.frozen? ⟨g,l,none⟩=false:=Lib.frozen_of_heap hb1.row _
  have hcm':=hcm
  unfold maxLen at hcm'
  have hcl:=hb1.le
  clear hW1
  go_enter L.f179,Body.n179_ntmps ρ
  go_wp2_with (go_at_fn (ρ.f 251); (try rw [hW]); refine hT1.mono ?_; rintro e w' ⟨rfl,rfl⟩; clear hT1 c2 f2)
  go_ret
  exact⟨rfl,g,cap,_,hb1.poke l (.int .u8 c),take_set hlt _,.inr ⟨rfl,by simp⟩,(hbut1.mono fun _ _ h=>.inl h).setCell (fun _=>.inr rfl) l _⟩
 ·have hT:Calls P (ρ.f 251) #[.pointer (some ⟨b,q,none⟩),.int .i64 1] W _:=Any.Buffer_tryGrow_none_at {L with} b q _ l cap 1 W k0 hle hcm (by omega)
  have hG:Calls P (ρ.f 252) #[.pointer (some ⟨b,q,none⟩),.int .i64 1] W _:=grow_row {L with} T R b q g l cap 1 0 cur W hI0 h1 hl0 (QS _) (by omega) hlim
  clear hI0 k0 kf hle hcm
  go_enter L.f179,Body.n179_ntmps ρ
  go_wp2_with (go_at_fn (ρ.f 251); (try rw [hW]); refine hT.mono ?_; rintro e w' ⟨rfl,rfl⟩)
  go_wp2_with (go_at_fn (ρ.f 252); refine hG.mono ?_)
  rintro e W1 ⟨rfl,g',cap',cur',hI,htk,hge,hbut1⟩
  clear hT hG c2 f2
  have d0:W1.cell? ⟨b,q,none⟩=some (.slice (some ⟨g',0,none⟩) (l+1) cap'):=hI.three.c0
  have hlt:l<cur'.size:=by rw [hI.size]; exact hI.le
  have dg:W1.cell? ⟨g',l,none⟩=some cur'[l]:=by rw [Lib.cell_of_heap hI.row,Array.getElem?_eq_getElem hlt]
  have fg:W1.frozen? ⟨g',l,none⟩=false:=Lib.frozen_of_heap hI.row _
  have hcm':=hI.most
  unfold maxLen at hcm'
  have hcl:=hI.le
  go_wp2
  go_ret
  exact⟨rfl,g',cap',_,hI.poke l (.int .u8 c),by rw [take_set hlt,htk],.inl (by omega),((hbut.trans hbut1).mono fun _ _ h=>.inl h).setCell (fun _=>.inr rfl) l _⟩
end Go.R
namespace Go.R
open Go Go.Proofs Go.Shelf Go.RowKit
variable {P:Program}{ρ:Ren}
theorem take_mid {cur:Array Value}{l m:Nat}{news:List Value}(hn:news.length=m)(hl:l+m≤cur.size) :
  (cur.toList.take l++news++cur.toList.drop (l+m)).toArray.size=cur.size∧(cur.toList.take l++news++cur.toList.drop (l+m)).toArray.toList.take (l+m)=cur.toList.take l++news:=by
 have h1:(cur.toList.take l).length=l:=by rw [Sx,RI]; omega
 refine⟨by simp only [List.size_toArray,Q0,h1,hn,List.length_drop,RI]; omega,?_⟩
 rw [List.toList_toArray,Rn (by rw [Q0,h1,hn]; exact QS _),Rw (by rw [Q0,h1,hn]; exact QS _)]
set_option maxHeartbeats 12800000 in
theorem writeString_row (L:LaysM.n178 P ρ)(T:TypeId)(R:Nat→Option Value)(b q g l cap:Nat)(lr:Int)(s:ByteArray)(cur:Array Value)(w:World)(h:BRow T R (ρ.t 5) b q lr g l cap cur w)
  (h1:∀v∈cur.toList.take l,v.oneCell'=true) (hl0:l≠0) (hs0:s.size≠0) (hlim:l+s.size≤140737488355328) :
  Calls P (ρ.f 178) #[.pointer (some ⟨b,q,none⟩),.string s] w fun e w'=>e = .returned (.tuple #[.int .i64 s.size,.nilIface])∧
   ∃g' cap' cur',BRow T R (ρ.t 5) b q 0 g' (l+s.size) cap' cur' w'∧cur'.toList.take (l+s.size)=cur.toList.take l++Lib.byteCells s.data.toList∧(w.heap.size≤g'∨(g'=g∧cur'.size=cur.size))∧But (fun k=>k=b∨k=g') w w':=by
 have mixed:=L.mixed
 have t5:=L.t5; have a5:=L.a5; have z5:=L.z5; have v5:=L.v5
 have t130:=L.t130; have a130:=L.a130; have z130:=L.z130; have v130:=L.v130
 have t9:=L.t9; have a9:=L.a9; have z9:=L.z9; have v9:=L.v9
 have t3:=L.t3; have a3:=L.a3; have z3:=L.z3; have v3:=L.v3
 have t75:=L.t75; have a75:=L.a75; have z75:=L.z75; have v75:=L.v75
 have t0:=L.t0; have a0:=L.a0; have z0:=L.z0; have v0:=L.v0
 have t93:=L.t93; have u93:=run_underlying L.t93; have a93:=L.a93; have z93:=L.z93; have v93:=L.v93
 have t91:=L.t91; have a91:=L.a91; have z91:=L.z91; have v91:=L.v91
 have t131:=L.t131; have a131:=L.a131; have z131:=L.z131; have v131:=L.v131
 have t4:=L.t4; have a4:=L.a4; have z4:=L.z4; have v4:=L.v4
 have t37:=L.t37; have a37:=L.a37; have z37:=L.z37; have v37:=L.v37
 have e251:∀args w,(callFunc (ρ.f 251) args).run P w = .ok (.enter (ρ.f 251) args) w:=enters_of L.f251 (by kernel_rfl) rfl
 have e252:∀args w,(callFunc (ρ.f 252) args).run P w = .ok (.enter (ρ.f 252) args) w:=enters_of L.f252 (by kernel_rfl) rfl
 have hinfo:(P.info? (ρ.t 5)).map (·.size)=some 1:=by
  obtain⟨i0,hi,-,hz1,-⟩:=info_parts L.i5
  rw [hi]; simp [hz1]
 have hnl:(Lib.byteCells s.data.toList).length=s.size:=by rw [Lib.byteCells_length,←Lib.size_eq]
 have c2:w.cell? ⟨b,q+2,none⟩=some (.int .i8 lr):=h.three.c2
 have f2:w.frozen? ⟨b,q+2,none⟩=false:=h.three.f (q+2)
 have hbut:But (fun k=>k=b) w (w.setCell ⟨b,q+2,none⟩ (.int .i8 0)):=(But.refl (· = b) w).setCell (fun _=>rfl) (q+2) _
 have hI0:BRow T R (ρ.t 5) b q 0 g l cap cur (w.setCell ⟨b,q+2,none⟩ (.int .i8 0)):=⟨h.three.set2 _,(heap_setCell_other _ _ _ h.ne).trans h.row,h.le,h.most,h.size,h.ne⟩
 have hsz:(w.setCell ⟨b,q+2,none⟩ (.int .i8 0)).heap.size=w.heap.size:=by simp [World.setCell]
 generalize hW:w.setCell ⟨b,q+2,none⟩ (.int .i8 0)=W at hbut hI0 hsz
 have k0:W.cell? ⟨b,q,none⟩=some (.slice (some ⟨g,0,none⟩) l cap):=hI0.three.c0
 have kf:W.frozen? ⟨b,q,none⟩=false:=hI0.three.f q
 have hle:=h.le
 have hcm:=h.most
 by_cases hr:s.size≤cap - l
 ·have hT:Calls P (ρ.f 251) #[.pointer (some ⟨b,q,none⟩),.int .i64 s.size] W _:=Any.Buffer_tryGrow_room_at {L with} b q _ l cap s.size W k0 kf hle hcm hr
  have hb1:BRow T R (ρ.t 5) b q 0 g (l+s.size) cap cur (W.setCell ⟨b,q,none⟩ (.slice (some ⟨g,0,none⟩) (l+s.size) cap)):=⟨hI0.three.set0 _,(heap_setCell_other _ _ _ h.ne).trans hI0.row,by omega,h.most,h.size,h.ne⟩
  have hbut1:=hbut.setCell (b:=b) (fun _=>rfl) q (.slice (some ⟨g,0,none⟩) (l+s.size) cap)
  clear hI0 k0 kf
  generalize hW1:W.setCell ⟨b,q,none⟩ (.slice (some ⟨g,0,none⟩) (l+s.size) cap)=W1 at hb1 hbut1
  have hT1:Calls P (ρ.f 251) #[.pointer (some ⟨b,q,none⟩),.int .i64 s.size] W fun e w'=>e = .returned (.tuple #[.int .i64 l,.bool true])∧w'=W1:=hT.mono fun e w' hh=>⟨hh.1,hh.2.trans hW1⟩
  clear hT
  have d0:W1.cell? ⟨b,q,none⟩=some (.slice (some ⟨g,0,none⟩) (l+s.size) cap):=hb1.three.c0
  have hfit:l+s.size≤cur.size:=by rw [hb1.size]; exact hb1.le
  have hne:¬cap=l:=by omega
  have hcp:=Lib.run_copy_row_string (P:=P) W1 (ρ.t 37) (ρ.t 9) (ρ.t 3) (ρ.t 5) g l s.size (cap - l) s cur (ρ.t 5) L.t37 hinfo hb1.row (QS _) hfit
  have hcm':=hcm
  unfold maxLen at hcm'
  have hcl:=hb1.le
  clear hW1
  go_enter L.f178,Body.n178_ntmps ρ
  go_wp2_with (go_at_fn (ρ.f 251); (try rw [hW]); refine hT1.mono ?_; rintro e w' ⟨rfl,rfl⟩; clear hT1 c2 f2)
  go_ret2
  obtain⟨m1,m2⟩:=take_mid hnl hfit
  rw [Rm] at m1 m2
  exact⟨rfl,g,cap,_,hb1.setRow (m1.trans hb1.size),m2,.inr ⟨rfl,m1⟩,(hbut1.mono fun _ _ h=>.inl h).setRow (fun _=>.inr rfl) _⟩
 ·have hT:Calls P (ρ.f 251) #[.pointer (some ⟨b,q,none⟩),.int .i64 s.size] W _:=Any.Buffer_tryGrow_none_at {L with} b q _ l cap s.size W k0 hle hcm (by omega)
  have hG:Calls P (ρ.f 252) #[.pointer (some ⟨b,q,none⟩),.int .i64 s.size] W _:=grow_row {L with} T R b q g l cap s.size 0 cur W hI0 h1 hl0 (by omega) (by omega) hlim
  clear hI0 k0 kf hle hcm
  go_enter L.f178,Body.n178_ntmps ρ
  go_wp2_with (go_at_fn (ρ.f 251); (try rw [hW]); refine hT.mono ?_; rintro e w' ⟨rfl,rfl⟩)
  go_wp2_with (go_at_fn (ρ.f 252); refine hG.mono ?_)
  rintro e W1 ⟨rfl,g',cap',cur',hI,htk,hge,hbut1⟩
  clear hT hG c2 f2
  have d0:W1.cell? ⟨b,q,none⟩=some (.slice (some ⟨g',0,none⟩) (l+s.size) cap'):=hI.three.c0
  have hfit:l+s.size≤cur'.size:=by rw [hI.size]; exact hI.le
  have hcl:=hI.le
  have hne:¬cap'=l:=by omega
  have hcp:=Lib.run_copy_row_string (P:=P) W1 (ρ.t 37) (ρ.t 9) (ρ.t 3) (ρ.t 5) g' l s.size (cap' - l) s cur' (ρ.t 5) L.t37 hinfo hI.row (QS _) hfit
  have hcm':=hI.most
  unfold maxLen at hcm'
  go_wp2
  go_ret2
  obtain⟨m1,m2⟩:=take_mid hnl hfit
  rw [htk,Rm] at m1 m2
  exact⟨rfl,g',cap',_,hI.setRow (m1.trans hI.size),m2,.inl (by omega),((hbut.trans hbut1).mono fun _ _ h=>.inl h).setRow (fun _=>.inr rfl) _⟩
end Go.R
namespace Go.R
open Go Go.Proofs Go.Shelf Go.RowKit
def bufCells (cs:List AV)(off:Nat)(x:AV):List AV:=(cs.set off x).set (off+2) (.int .i8 0)
def bufRow (e:TypeId)(news:List AV)(id off:Nat)(h:AHeap):Option AHeap:=
 (h.get id).bind fun
 | .cells cs=>
  match cs[off]?,cs[off+1]?,cs[off+2]? with
  | some (.rs i o n z),some (.int .i64 x),some (.int .i8 _)=>
   (h.get i).bind fun
   | .row e' bs=>if e'=e∧o=0∧z=1∧x=0∧bs.length=n∧n≠0∧n+news.length≤140737488355328 then
     some (((h.kill i).put h.next (.row e (bs++news))).put id (.cells (bufCells cs off (.rs h.next 0 (n+news.length) 1)))) else none
   | _=>none
  | _,_,_=>none
 | _=>none
def bufNil (e:TypeId)(news:List AV)(id off:Nat)(h:AHeap):Option AHeap:=
 (h.get id).bind fun
 | .cells cs=>
  match cs[off]?,cs[off+1]?,cs[off+2]? with
  | some .nils,some (.int .i64 x),some (.int .i8 _)=>if x=0 then
     some ((h.put h.next (.row e news)).put id (.cells (bufCells cs off (.rs h.next 0 news.length 1)))) else none
  | _,_,_=>none
 | _=>none
theorem Fr.none {c:Cx}{L0:Nat→Prop}(hrel:HRel c L0):Fr L0 c none0 (fun _=>0) [] ⟨fun _=>.any,fun _=>none,c.h⟩ ⟨#[],[]⟩:=
 ⟨rfl,by rw [show un L0 none0=L0 from by funext b; simp [un,none0]]; exact hrel,fun t=>by simp [SR,VR],fun k cs h=>(by cases h),fun k k' h=>(by cases h),fun t k off _ h=>(by cases h),rfl,fun b h=>h.elim⟩
section
variable {c:Cx}{L0:Nat→Prop}
theorem buf_upd (hrel:HRel c L0)(hbs:c.base≤c.w.heap.size){e T:TypeId}{id off m cap' g':Nat}{cs xs:List AV}{vals:List Value}{C cur':Array Value}{h1:AHeap}{w':World}
  (hid:c.h.get id=some (.cells cs)) (hC:c.w.heap[(c.β id).1]? = some (.cells C T (0,0))) (hcl:Cells c L0 cs (c.β id).1 (c.β id).2) (hoff:off+2<cs.length) (hcC:(c.β id).2+cs.length≤C.size)
  (hx1:cs[off+1]? = some (.int .i64 0))
  (hB:BRow T (fun i=>C[i]?) e (c.β id).1 ((c.β id).2+off) 0 g' m cap' cur' w') (htk:cur'.toList.take m=vals) (hxs:VRs c L0 xs vals) (hone:∀v∈vals,v.oneCell'=true) (hm:xs.length=m)
  (hbut:But (fun k=>k=(c.β id).1∨k=g') c.w w')
  (hst:Steady c.h h1) (hnx:c.h.next<h1.next) (hget:h1.get c.h.next=some (.row e xs))
  (hoth:∀j,j≠c.h.next→h1.get j=none∨h1.get j=c.h.get j) (hidk:h1.get id=c.h.get id)
  (hg:c.w.heap.size≤g'∨∃i,Live c.h i∧(c.β i).1=g'∧h1.get i=none∧cur'.size=c.len g') :
  ∃c',c'.w=w'∧c'.h=h1.put id (.cells (bufCells cs off (.rs c.h.next 0 m 1)))∧HRel c' L0∧Ext c none0 c' none0:=by
 have hun:un L0 none0=L0:=by funext b; simp [un,none0]
 have f:=Fr.none hrel
 generalize hbb:(c.β id).1=b at *
 have hidlt:id<c.h.next:=hrel.lt _ _ hid
 have hidne:id≠c.h.next:=by omega
 have hlive:Live c.h id:=⟨hidlt,by rw [hid]; rfl⟩
 have hblt:b<c.w.heap.size:=(Ro.1 hC).1
 have hblt':b<w'.heap.size:=Rh hblt hbut.size
 let wm:World:={w' with heap:=w'.heap.setIfInBounds b (.cells C T (0,0))}
 have hwm:∀k,k≠b→wm.heap[k]? = w'.heap[k]?:=fun k hk=>by
  show (w'.heap.setIfInBounds b _)[k]? = _
  rw [Array.getElem?_setIfInBounds_ne (R8 hk)]
 have hwb:wm.heap[b]? = some (.cells C T (0,0)):=by
  show (w'.heap.setIfInBounds b _)[b]? = _
  rw [Array.getElem?_setIfInBounds_self_of_lt hblt']
 have hws:wm.heap.size=w'.heap.size:=by show (w'.heap.setIfInBounds b _).size=_; simp
 have hrow:wm.heap[g']? = some (.cells cur' e (0,0)):=(hwm _ hB.ne).trans hB.row
 have hkeep:∀k,k<c.w.heap.size→k≠g'→wm.heap[k]? = c.w.heap[k]?:=fun k hk hne=>by
  by_cases hkb:k=b
  ·rw [hkb,hwb,hC]
  ·rw [hwm k hkb]; exact hbut.block k hk fun h=>h.elim hkb hne
 have hmle:m≤cur'.size:=by rw [hB.size]; exact hB.le
 obtain⟨e1,f1⟩:=f.upd (w':=wm) (β':=fun k=>if k=c.h.next then (g',0) else c.β k) (h':=h1) c.h.next (.row e xs) hst hnx hget
  (fun j hj=>(hoth j hj).imp (fun h=>h) fun h=>⟨h,by simp [hj]⟩) (fun h=>absurd h (Nat.lt_irrefl _))
  (by
   rcases hg with h | ⟨i,h2,h3,h4,_⟩
   ·exact .inl (by simpa using h)
   ·exact .inr ⟨i,h2,by simpa using h3,.inr h4⟩)
  (fun h=>by
   simp only [if_true] at h ⊢
   rcases hg with h' | ⟨i,h2,h3,h4,h5⟩
   ·omega
   ·simp [World.shape?,hrow,h5])
  (fun k hk hne=>hkeep k hk (by simpa using hne)) (fun k hk hne=>hkeep k (by omega) (by simpa using hne)) (by rw [hws]; exact hbut.size) hbs hbut.os hbut.tape hbut.output
  (fun ee=>by
   simp only [if_true]
   refine⟨rfl,cur',hrow,by omega,by rw [hB.size]; exact hB.most,?_⟩
   have hv:=VRs.ext (L0:=L0) ee xs vals (by rw [hun]; exact hxs)
   refine Cells.of_vals hv (fun i hi=>?_) hone
   show wm.cell? _=_
   rw [cell_of_block hrow,Re,←htk,List.getElem?_take,if_pos (by rw [←hm,hxs.length]; exact hi),R9])
 have hid1:h1.get id=some (.cells cs):=hidk.trans hid
 have hlive1:Live h1 id:=⟨by omega,by rw [hid1]; rfl⟩
 have hβid:(if id=c.h.next then (g',0) else c.β id)=c.β id:=by simp [hidne]
 have hβn:(if c.h.next=c.h.next then (g',0) else c.β c.h.next)=(g',0):=by simp
 obtain⟨cs2,hb2,p0,p1,p2,pr⟩:=hB.three
 have hsz2:cs2.size=C.size:=by
  have hge:(c.β id).2+off+2<cs2.size:=by
   rcases Nat.lt_or_ge ((c.β id).2+off+2) cs2.size with h | h
   ·exact h
   ·rw [Array.getElem?_eq_none h] at p2; cases p2
  have ht:∀i,(c.β id).2+off+3≤i→(cs2.size≤i↔C.size≤i):=fun i hi=>by
   rw [←Array.getElem?_eq_none_iff,←Array.getElem?_eq_none_iff,pr i (.inr hi)]
  have h1:=(ht cs2.size (by omega)).1 (QS _)
  have h2:=(ht C.size (by omega)).2 (QS _)
  omega
 obtain⟨e2,f2⟩:=f1.upd (w':=w') (β':=fun k=>if k=c.h.next then (g',0) else c.β k) (h':=h1.put id (.cells (bufCells cs off (.rs c.h.next 0 m 1)))) id (.cells (bufCells cs off (.rs c.h.next 0 m 1))) (Steady.put _ _ _) (Si hlive1.1) (by simp [AHeap.put,beq_nat])
  (fun j hj=>.inr ⟨by simp [AHeap.put,beq_nat,hj],rfl⟩) (fun _=>⟨hlive1,rfl⟩) (.inr ⟨id,hlive1,rfl,.inl rfl⟩)
  (fun _=>by
   simp only [hβid,hbb]
   simp only [Cx.len,World.shape?,hb2,hwb,QU,RP,hsz2])
  (fun k hk hne=>by
   simp only [hβid,hbb] at hne
   exact (hwm k hne).symm)
  (fun k hk hne=>by
   simp only [hβid,hbb] at hne
   exact (hwm k hne).symm) (by show wm.heap.size≤_; rw [hws]; exact QS _) (by show c.base≤wm.heap.size; rw [hws]; exact RG hbs hbut.size) rfl rfl rfl
  (fun ee=>by
   simp only [hβid,hbb]
   refine⟨C.size,⟨cs2,T,hb2,hsz2⟩,by unfold bufCells; simpa using hcC,?_⟩
   rw [Cells.iff]
   intro i x hx
   unfold bufCells at hx
   show ∃v,w'.cell? _=some v∧_
   rw [cell_of_block hb2]
   by_cases i2:i=off+2
   ·subst i2
    rw [Sm (by simpa using hoff)] at hx
    cases hx
    exact⟨_,by rw [←RF]; exact p2,rfl,by simp [VR]⟩
   ·rw [Sw (R8 i2)] at hx
    by_cases i0:i=off
    ·subst i0
     rw [Sm (by omega)] at hx
     cases hx
     refine⟨_,p0,rfl,?_⟩
     simp only [VR]
     refine .inr ⟨(by have:=hrel.ver 0; omega),by show _<h1.next+1; omega,_,_,rfl,hB.le,rfl,fun _=>.inl ⟨by simp,?_⟩⟩
     simp only [if_true,Cx.len,World.shape?,hB.row,QU,RP,hB.size]
     omega
    ·rw [Sw (R8 i0)] at hx
     by_cases i1:i=off+1
     ·subst i1
      rw [hx1] at hx
      cases hx
      exact⟨_,by rw [←RF]; exact p1,rfl,by simp [VR]⟩
     ·obtain⟨v,v1,v2,v3⟩:=hcl.get' i x hx
      refine⟨v,?_,v2,?_⟩
      ·rw [pr _ (by omega)]
       show C[(c.β id).2+i]? = some v
       rw [←cell_of_block hC]
       exact v1
      ·have:=VR.ext (L0:=L0) (e1.trans ee) x v (by rw [hun]; exact v3)
       exact this)
 refine⟨_,rfl,rfl,?_,e1.trans e2⟩
 have:=f2.rel
 rwa [hun] at this
end
section
variable {P:Program}{ρ:Ren}
theorem bkill_put_get (h:AHeap)(i j:Nat)(o:AObj):((h.kill i).put h.next o).get j=if j=h.next then some o else if j=i then none else h.get j:=by
 simp only [AHeap.put,AHeap.kill,beq_nat]
 by_cases h1:j=h.next<;>by_cases h2:j=i<;>simp [h1,h2]
theorem bput_get (h:AHeap)(i j:Nat)(o:AObj):(h.put i o).get j=if j=i then some o else h.get j:=by
 simp only [AHeap.put,beq_nat]
 by_cases h1:j=i<;>simp [h1]
theorem buf_three {c:Cx}{L0:Nat→Prop}(hrel:HRel c L0){id off:Nat}{cs:List AV}(hid:c.h.get id=some (.cells cs)){x y:AV}{lr:Int}(h0:cs[off]? = some x)(h1:cs[off+1]? = some (.int .i64 0))(h2:cs[off+2]? = some (.int .i8 lr)) :
  ∃C T v,c.w.heap[(c.β id).1]? = some (.cells C T (0,0))∧Cells c L0 cs (c.β id).1 (c.β id).2∧off+2<cs.length∧(c.β id).2+cs.length≤C.size∧VR c L0 x v∧
   LibA.Three c.w (c.β id).1 ((c.β id).2+off) T (fun i=>C[i]?) v (.int .i64 0) (.int .i8 lr):=by
 obtain⟨n,⟨C,T,hC,hn⟩,hle,hcl⟩:=hrel.obj _ _ hid
 obtain⟨v,a1,_,a3⟩:=hcl.get' _ _ h0
 obtain⟨v1,b1,_,b3⟩:=hcl.get' _ _ h1
 obtain⟨v2,d1,_,d3⟩:=hcl.get' _ _ h2
 simp only [VR] at b3 d3
 subst b3 d3
 rw [cell_of_block hC] at a1 b1 d1
 refine⟨C,T,v,hC,hcl,(QX.1 h2).1,by omega,a3,C,hC,a1,by rw [RF]; exact b1,by rw [RF]; exact d1,fun i _=>rfl⟩
theorem bufRow_spec {e:TypeId}{news:List AV}{id off:Nat}{h h':AHeap}(hr:bufRow e news id off h=some h'):∃cs i n bs lr,h.get id=some (.cells cs)∧cs[off]? = some (.rs i 0 n 1)∧cs[off+1]? = some (.int .i64 0)∧cs[off+2]? = some (.int .i8 lr)∧
  h.get i=some (.row e bs)∧bs.length=n∧n≠0∧n+news.length≤140737488355328∧h'=((h.kill i).put h.next (.row e (bs++news))).put id (.cells (bufCells cs off (.rs h.next 0 (n+news.length) 1))):=by
 unfold bufRow at hr
 rw [QN] at hr
 obtain⟨ob,hob,hr⟩:=hr
 cases ob with
 | map es=>cases hr
 | row t cs=>cases hr
 | cells cs=>
  simp only at hr
  split at hr
  ·rename_i i o n z x lr q0 q1 q2
   rw [QN] at hr
   obtain⟨ob2,hob2,hr⟩:=hr
   cases ob2 with
   | map es=>cases hr
   | cells cs=>cases hr
   | row e' bs=>
    simp only at hr
    split at hr
    ·rename_i hh
     obtain⟨rfl,rfl,rfl,rfl,h5,h6,h7⟩:=hh
     cases hr
     exact⟨cs,i,n,bs,lr,hob,q0,q1,q2,hob2,h5,h6,h7,rfl⟩
    ·cases hr
  ·cases hr
theorem bufNil_spec {e:TypeId}{news:List AV}{id off:Nat}{h h':AHeap}(hr:bufNil e news id off h=some h'):∃cs lr,h.get id=some (.cells cs)∧cs[off]? = some .nils∧cs[off+1]? = some (.int .i64 0)∧cs[off+2]? = some (.int .i8 lr)∧
  h'=(h.put h.next (.row e news)).put id (.cells (bufCells cs off (.rs h.next 0 news.length 1))):=by
 unfold bufNil at hr
 rw [QN] at hr
 obtain⟨ob,hob,hr⟩:=hr
 cases ob with
 | map es=>cases hr
 | row t cs=>cases hr
 | cells cs=>
  simp only at hr
  split at hr
  ·rename_i x lr q0 q1 q2
   split at hr
   ·rename_i hh
    subst hh
    cases hr
    exact⟨cs,lr,hob,q0,q1,q2,rfl⟩
   ·cases hr
  ·cases hr
theorem buf_row {c:Cx}{L0:Nat→Prop}(hrel:HRel c L0){e T:TypeId}{id off i n:Nat}{cs bs:List AV}{C:Array Value}{v:Value}{lr:Int}(hid:c.h.get id=some (.cells cs))(hi:c.h.get i=some (.row e bs))(hbs:bs.length=n)(hn0:n≠0)
  (hv:VR c L0 (.rs i 0 n 1) v) (h3:LibA.Three c.w (c.β id).1 ((c.β id).2+off) T (fun i=>C[i]?) v (.int .i64 0) (.int .i8 lr)) :
  ∃cap cur,BRow T (fun i=>C[i]?) e (c.β id).1 ((c.β id).2+off) lr (c.β i).1 n cap cur c.w∧VRs c L0 bs (cur.toList.take n)∧(∀v∈cur.toList.take n,v.oneCell'=true)∧Live c.h i∧cur.size=c.len (c.β i).1:=by
 have hli:Live c.h i:=⟨hrel.lt _ _ hi,by rw [hi]; rfl⟩
 have hlid:Live c.h id:=⟨hrel.lt _ _ hid,by rw [hid]; rfl⟩
 obtain⟨hb0,cur,hcur,hle,hmax,hcl⟩:=hrel.obj _ _ hi
 simp only [VR] at hv
 rcases hv with⟨_,_,h0,_⟩| ⟨_,_,a,cap,rfl,hnc,_,hlive⟩
 ·exact absurd h0 hn0
 have hlen:c.len (c.β i).1=cur.size:=by simp [Cx.len,World.shape?,hcur]
 rcases hlive hli with⟨rfl,hcap⟩| h0
 rotate_left
 ·omega
 rw [hlen,hb0] at hcap
 rw [hb0] at h3
 obtain⟨vs,w1,w2,w3⟩:=hcl.vals
 have hvl:vs.length=n:=by rw [←w1.length,hbs]
 have hts:cur.toList.take n=vs:=by
  apply RJ
  intro j
  rw [List.getElem?_take]
  by_cases hj:j<n
  ·rw [if_pos hj,R9,←w2 j (by omega),cell_of_block hcur,Re]
  ·rw [if_neg hj,Ra (by omega)]
 refine⟨cap,cur,⟨h3,hcur,hnc,by omega,by omega,fun he=>?_⟩,by rw [hts]; exact w1,by rw [hts]; exact w3,hli,hlen.symm⟩
 have hne:i≠id:=by
  rintro rfl
  rw [hid] at hi; cases hi
 exact hne (hrel.inj i id hli hlid he)
def wbA (e:TypeId)(args:List AV)(h:AHeap):Option (AV × AHeap):=
 match args with
 | [.ptr id off,.int .u8 c]=>match bufRow e [.int .u8 c] id off h with
  | some h'=>some (.any,h')
  | none=>(bufNil e [.int .u8 c] id off h).map fun h'=>(.any,h')
 | _=>none
theorem put_steady2 (h:AHeap)(i j:Nat)(o p:AObj):Steady h ((h.put i o).put j p):=(Steady.put _ _ _).trans (Steady.put _ _ _)
theorem buf_steady {e:TypeId}{news:List AV}{id off:Nat}{h h':AHeap}:(bufRow e news id off h=some h'→Steady h h')∧(bufNil e news id off h=some h'→Steady h h'):=by
 refine⟨fun hr=>?_,fun hr=>?_⟩
 ·obtain⟨cs,i,n,bs,lr,_,_,_,_,_,_,_,_,rfl⟩:=bufRow_spec hr
  exact ((Steady.kill _ _).trans (Steady.put _ _ _)).trans (Steady.put _ _ _)
 ·obtain⟨cs,lr,_,_,_,_,rfl⟩:=bufNil_spec hr
  exact put_steady2 _ _ _ _ _
theorem wb_ok (L:LaysM.n179 P ρ)(henter:∀(vs:Array Value) (w:World),(callFunc (ρ.f 179) vs).run P w = .ok (.enter (ρ.f 179) vs) w) :
  CallOK P fun f' args h=>if f'=ρ.f 179 then wbA (ρ.t 5) args h else none:=by
 intro f args h r h' hc
 dsimp only at hc
 split at hc
 rotate_left
 ·cases hc
 rename_i hf
 subst hf
 refine⟨henter,fun L0 c vs hh hb0 hrel hargs=>?_⟩
 subst hh
 unfold wbA at hc
 split at hc
 rotate_left
 ·cases hc
 rename_i id off x
 match vs,hargs with
 | [v1,v2],⟨q1,q2,_⟩=>
 simp only [VR] at q1 q2
 subst q2
 obtain⟨_,ad,rfl,had⟩:=q1
 have hnew:VRs c L0 [.int .u8 x] [Value.int .u8 x]:=by simp [VRs,VR]
 have hfin:∀(h1:AHeap) (w':World) (e:Ending),e = .returned .nilIface→(∃c':Cx,c'.w=w'∧c'.h=h1∧HRel c' L0∧Ext c none0 c' none0)→∃c' v,e = .returned v∧c'.w=w'∧c'.h=h1∧VR c' L0 .any v∧HRel c' L0∧Ext c none0 c' none0:=by
  rintro h1 w' e rfl ⟨c',a1,a2,a3,a4⟩
  exact⟨c',_,rfl,a1,a2,trivial,a3,a4⟩
 split at hc
 ·rename_i h1 hr
  cases hc
  obtain⟨cs,i,n,bs,lr,g0,g1,g2,g3,g4,g5,g6,g7,rfl⟩:=bufRow_spec hr
  obtain⟨C,T,v,k1,k2,k3,k4,k5,k6⟩:=buf_three hrel g0 (y:=.any) g1 g2 g3
  obtain⟨cap,cur,m1,m2,m3,m4,m5⟩:=buf_row hrel g0 g4 g5 g6 k5 k6
  have hlid:Live c.h id:=⟨hrel.lt _ _ g0,by rw [g0]; rfl⟩
  rw [had hlid]
  have hne:i≠id:=by
   rintro rfl
   rw [g0] at g4; cases g4
  refine (writeByte_row L T _ _ _ _ n cap x lr cur c.w m1 m3 g6 (by simpa using g7)).mono ?_
  rintro e w' ⟨he,g',cap',cur',r1,r2,r3,r4⟩
  refine hfin _ _ _ he (buf_upd hrel hb0 g0 k1 k2 k3 k4 g2 r1 r2 (VRs.append m2 hnew) ?_ (by simp [g5]) r4 ((Steady.kill _ i).trans (Steady.put _ _ _)) (by show _<c.h.next+1+1; omega) (by rw [bkill_put_get]; simp) (fun j hj=>?_) ?_ ?_)
  ·intro u hu
   rcases Q7.1 hu with hu | hu
   ·exact m3 u hu
   ·cases QY.1 hu; rfl
  ·rw [bkill_put_get,if_neg hj]
   by_cases hji:j=i
   ·exact .inl (by rw [if_pos hji])
   ·exact .inr (by rw [if_neg hji])
  ·rw [bkill_put_get,if_neg (by have:=hlid.1; omega),if_neg (R8 hne)]
  ·refine r3.imp (fun h=>h) fun ⟨h1,h2⟩=>⟨i,m4,h1.symm,?_,by rw [h2,m5,h1]⟩
   rw [bkill_put_get,if_neg (by have:=m4.1; omega),if_pos rfl]
 ·obtain⟨h1,hr,he⟩:=Option.map_some' hc
  simp only [QV] at he
  obtain⟨rfl,rfl⟩:=he
  obtain⟨cs,lr,g0,g1,g2,g3,rfl⟩:=bufNil_spec hr
  obtain⟨C,T,v,k1,k2,k3,k4,k5,k6⟩:=buf_three hrel g0 (y:=.any) g1 g2 g3
  simp only [VR] at k5
  subst k5
  have hlid:Live c.h id:=⟨hrel.lt _ _ g0,by rw [g0]; rfl⟩
  rw [had hlid]
  refine (writeByte_nil L T _ _ _ x lr c.w k6).mono ?_
  rintro e w' ⟨he,g',cap',cur',r1,r2,r3,r4⟩
  refine hfin _ _ _ he (buf_upd hrel hb0 g0 k1 k2 k3 k4 g2 r1 r2 hnew ?_ rfl (r4.mono fun _ _ h=>.inl h) (Steady.put _ _ _) (by show _<c.h.next+1; omega) (by rw [bput_get]; simp) (fun j hj=>.inr (by rw [bput_get,if_neg hj])) (by rw [bput_get,if_neg (by have:=hlid.1; omega)]) (.inl r3))
  intro u hu
  cases QY.1 hu; rfl
end
end Go.R
namespace Go.R
open Go Go.Proofs Go.Shelf Go.RowKit
theorem intr_cons {P:Program}{f0:FuncId}{g0:List AV→AHeap→Option (AV × AHeap)}{intr:FuncId→Option (List AV→AHeap→Option (AV × AHeap))}(h0:CallOK P fun f' args h=>if f'=f0 then g0 args h else none)
  (hs:∀args h r h',g0 args h=some (r,h')→Steady h h') (h:IntrOK P intr):IntrOK P fun f=>if f=f0 then some g0 else intr f:=by
 intro f g hg
 dsimp only at hg
 split at hg
 ·rename_i hf
  subst hf
  cases hg
  exact⟨h0,hs⟩
 ·exact h f g hg
def bytesA (s:ByteArray):List AV:=s.data.toList.map fun b=>.int .u8 b.toNat
def wsA (e:TypeId)(args:List AV)(h:AHeap):Option (AV × AHeap):=
 match args with
 | [.ptr id off,.str s]=>if s.size=0 then none else (bufRow e (bytesA s) id off h).map fun h'=>(.tup [.int .i64 s.size,.any],h')
 | _=>none
section
variable {P:Program}{ρ:Ren}
theorem ws_ok (L:LaysM.n178 P ρ)(henter:∀(vs:Array Value) (w:World),(callFunc (ρ.f 178) vs).run P w = .ok (.enter (ρ.f 178) vs) w) :
  CallOK P fun f' args h=>if f'=ρ.f 178 then wsA (ρ.t 5) args h else none:=by
 intro f args h r h' hc
 dsimp only at hc
 split at hc
 rotate_left
 ·cases hc
 rename_i hf
 subst hf
 refine⟨henter,fun L0 c vs hh hb0 hrel hargs=>?_⟩
 subst hh
 unfold wsA at hc
 split at hc
 rotate_left
 ·cases hc
 rename_i id off s
 split at hc
 ·cases hc
 rename_i hs0
 match vs,hargs with
 | [v1,v2],⟨q1,q2,_⟩=>
 simp only [VR] at q1 q2
 subst q2
 obtain⟨_,ad,rfl,had⟩:=q1
 have hsl:(bytesA s).length=s.size:=by simp [bytesA]
 have hnew:VRs c L0 (bytesA s) (Lib.byteCells s.data.toList):=bytes_VRs s.data.toList
 obtain⟨h1,hr,he⟩:=Option.map_some' hc
 simp only [QV] at he
 obtain⟨rfl,rfl⟩:=he
 obtain⟨cs,i,n,bs,lr,g0,g1,g2,g3,g4,g5,g6,g7,rfl⟩:=bufRow_spec hr
 obtain⟨C,T,v,k1,k2,k3,k4,k5,k6⟩:=buf_three hrel g0 (y:=.any) g1 g2 g3
 obtain⟨cap,cur,m1,m2,m3,m4,m5⟩:=buf_row hrel g0 g4 g5 g6 k5 k6
 have hlid:Live c.h id:=⟨hrel.lt _ _ g0,by rw [g0]; rfl⟩
 rw [had hlid]
 have hne:i≠id:=by
  rintro rfl
  rw [g0] at g4; cases g4
 rw [hsl] at g7 ⊢
 refine (writeString_row L T _ _ _ _ n cap lr s cur c.w m1 m3 g6 hs0 g7).mono ?_
 rintro e w' ⟨he,g',cap',cur',r1,r2,r3,r4⟩
 have hone:∀u∈cur.toList.take n++Lib.byteCells s.data.toList,u.oneCell'=true:=by
  intro u hu
  rcases Q7.1 hu with hu | hu
  ·exact m3 u hu
  ·unfold Lib.byteCells at hu
   obtain⟨b,_,rfl⟩:=Rj.1 hu
   rfl
 obtain⟨c',a1,a2,a3,a4⟩:=buf_upd (h1:=(c.h.kill i).put c.h.next (.row (ρ.t 5) (bs++bytesA s))) hrel hb0 g0 k1 k2 k3 k4 g2 r1 r2 (VRs.append m2 hnew) hone (by rw [Q0,g5,hsl]) r4 ((Steady.kill _ i).trans (Steady.put _ _ _)) (by show _<c.h.next+1+1; omega) (by rw [bkill_put_get]; simp)
  (fun j hj=>by
   rw [bkill_put_get,if_neg hj]
   by_cases hji:j=i
   ·exact .inl (by rw [if_pos hji])
   ·exact .inr (by rw [if_neg hji]))
  (by rw [bkill_put_get,if_neg (by have:=hlid.1; omega),if_neg (R8 hne)])
  (r3.imp (fun h=>h) fun ⟨h1,h2⟩=>⟨i,m4,h1.symm,by rw [bkill_put_get,if_neg (by have:=m4.1; omega),if_pos rfl],by rw [h2,m5,h1]⟩)
 refine⟨c',_,he,a1,a2,?_,a3,a4⟩
 simp only [VR]
 exact⟨_,rfl,by simp [VRs,VR]⟩
theorem wb_steady {e:TypeId}(args:List AV)(h:AHeap)(r:AV)(h':AHeap)(hc:wbA e args h=some (r,h')):Steady h h':=by
 unfold wbA at hc
 split at hc
 ·split at hc
  ·rename_i h1 hr
   cases hc
   exact buf_steady.1 hr
  ·obtain⟨h1,hr,he⟩:=Option.map_some' hc
   cases he
   exact buf_steady.2 hr
 ·cases hc
theorem ws_steady {e:TypeId}(args:List AV)(h:AHeap)(r:AV)(h':AHeap)(hc:wsA e args h=some (r,h')):Steady h h':=by
 unfold wsA at hc
 split at hc
 ·split at hc
  ·cases hc
  ·obtain⟨h1,hr,he⟩:=Option.map_some' hc
   cases he
   exact buf_steady.1 hr
 ·cases hc
def plainA (x:AV × AHeap):Option (AV × AHeap):=
 match x.1 with
 | .rs i _ _ _=>(x.2.get i).bind fun | .row _ cs=>some (x.1,x.2.put i (.cells cs)) | _=>none
 | _=>none
theorem plain_ok {cf:CallF}(hcf:CallOK P cf)(f0:FuncId):CallOK P fun f args h=>if f=f0 then (cf f0 args h).bind plainA else none:=by
 intro f args h r h' hc
 dsimp only at hc
 split at hc
 rotate_left
 ·cases hc
 rename_i hf
 subst hf
 rw [QN] at hc
 obtain⟨⟨x,h1⟩,hx,hc⟩:=hc
 obtain⟨hin,hcall⟩:=hcf f args h x h1 hx
 refine⟨hin,fun L0 c vs hh hb0 hrel hargs=>?_⟩
 refine (hcall L0 c vs hh hb0 hrel hargs).mono ?_
 rintro e w' ⟨c1,v,rfl,rfl,rfl,hv,hrel1,e1⟩
 unfold plainA at hc
 simp only at hc
 split at hc
 rotate_left
 ·cases hc
 rename_i i o n z
 rw [QN] at hc
 obtain⟨ob,hob,hc⟩:=hc
 cases ob with
 | map es=>cases hc
 | cells cs=>cases hc
 | row t cs=>
  cases hc
  have hun:un L0 none0=L0:=by funext b; simp [un,none0]
  have hli:Live c1.h i:=⟨hrel1.lt _ _ hob,by rw [hob]; rfl⟩
  obtain⟨hz,C,hC,hle,hmax,hcl⟩:=hrel1.obj _ _ hob
  obtain⟨e2,f2⟩:=(Fr.none hrel1).upd (w':=c1.w) (β':=c1.β) (h':=c1.h.put i (.cells cs)) i (.cells cs) (Steady.put _ _ _) (Si hli.1) (by simp [AHeap.put,beq_nat])
   (fun j hj=>.inr ⟨by simp [AHeap.put,beq_nat,hj],rfl⟩) (fun _=>⟨hli,rfl⟩) (.inr ⟨i,hli,rfl,.inl rfl⟩) (fun _=>rfl) (fun _ _ _=>rfl) (fun _ _ _=>rfl) (QS _) (by rw [e1.base]; exact RG hb0 e1.size) rfl rfl rfl
   (fun ee=>⟨C.size,⟨C,t,hC,rfl⟩,by rw [hz,Re]; exact hle,by
    have:=Cells.move (L0:=L0) ee cs (c1.β i).1 0 (c1.β i).1 0 (fun _ _=>rfl) (by rw [hun]; exact hcl)
    rw [hz]; exact this⟩)
  refine⟨⟨c1.β,c1.h.put i (.cells cs),c1.w,c1.base⟩,v,rfl,rfl,rfl,?_,by have:=f2.rel; rwa [hun] at this,e1.trans e2⟩
  have:=VR.ext (L0:=L0) e2 _ _ (by rw [hun]; exact hv)
  rwa [hun] at this
theorem plain_steady {cf:CallF}(hst:SteadyF cf)(f0:FuncId)(args:List AV)(h:AHeap)(r:AV)(h':AHeap)(hc:(cf f0 args h).bind plainA=some (r,h')):Steady h h':=by
 rw [QN] at hc
 obtain⟨⟨x,h1⟩,hx,hc⟩:=hc
 unfold plainA at hc
 simp only at hc
 split at hc
 ·rw [QN] at hc
  obtain⟨ob,hob,hc⟩:=hc
  cases ob with
  | map es=>cases hc
  | cells cs=>cases hc
  | row t cs=>
   cases hc
   exact (hst _ _ _ _ _ hx).trans (Steady.put _ _ _)
 ·cases hc
end
end Go.R
namespace Go.R
open Go
section
variable {h:AHeap}{L:Mem}{e:TypeId}{id i:Nat}{bs news r:List Int}{c:Int}{s:ByteArray}
variable {cf:CallF}{f:FuncId}
end
def jn {α β:Type}(b:α→Option β)(a:(α→Option β)→Option β):Option β:=a b
theorem sN {α β:Type}{b:α→Option β}{a:(α→Option β)→Option β}{out:β}(H:jn b a=some out):∃j:α→Option β,(∀x,j x=b x)∧a j=some out:=⟨b,fun _=>rfl,H⟩
theorem bb {α β:Type}{o:Option α}{f:α→Option β}{b:β}(h:o.bind f=some b):∃a,o=some a∧f a=some b:=QN.1 h
theorem OD {α:Type}{c:Bool}{a b z:α}(h:c=true)(H:(if c=true then a else b)=z):a=z:=(if_pos h).symm.trans H
theorem OE {α:Type}{c:Bool}{a b z:α}(h:c=false)(H:(if c=true then a else b)=z):b=z:=(if_neg (C9 h)).symm.trans H
abbrev mD (l:List AV):List AV:=.any :: .any :: .any::l
abbrev AW (l:List AV):List AV:=.any :: .any :: .any :: .any::l
abbrev AX (l:List AV):List AV:=.any :: .any :: .any :: .any :: .any::l
abbrev Dg (l:List AV):List AV:=.any :: .any :: .any :: .any :: .any :: .any::l
abbrev Fp (l:List AV):List AV:=.any :: .any :: .any :: .any :: .any :: .any :: .any::l
abbrev vl (l:List AV):List AV:=.any :: .any :: .any :: .any :: .any :: .any :: .any :: .any::l
abbrev HJ (l:List AV):List AV:=.any :: .any :: .any :: .any :: .any :: .any :: .any :: .any :: .any::l
abbrev HK (l:List AV):List AV:=.any :: .any :: .any :: .any :: .any :: .any :: .any :: .any :: .any :: .any::l
abbrev uf (l:List AV):List AV:=.any :: .any :: .any :: .any :: .any :: .any :: .any :: .any :: .any :: .any :: .any::l
abbrev pK (l:List AV):List AV:=.any :: .any :: .any :: .any :: .any :: .any :: .any :: .any :: .any :: .any :: .any :: .any::l
abbrev n9 (l:List AV):List AV:=.any :: .any :: .any :: .any :: .any :: .any :: .any :: .any :: .any :: .any :: .any :: .any :: .any::l
abbrev sO (l:List AV):List AV:=.any :: .any :: .any :: .any :: .any :: .any :: .any :: .any :: .any :: .any :: .any :: .any :: .any :: .any::l
abbrev Ka (l:List AV):List AV:=.any :: .any :: .any :: .any :: .any :: .any :: .any :: .any :: .any :: .any :: .any :: .any :: .any :: .any :: .any::l
abbrev Fq (l:List AV):List AV:=.any :: .any :: .any :: .any :: .any :: .any :: .any :: .any :: .any :: .any :: .any :: .any :: .any :: .any :: .any :: .any::l
abbrev Kb (l:List AV):List AV:=.any :: .any :: .any :: .any :: .any :: .any :: .any :: .any :: .any :: .any :: .any :: .any :: .any :: .any :: .any :: .any :: .any::l
abbrev Kc (l:List AV):List AV:=.any :: .any :: .any :: .any :: .any :: .any :: .any :: .any :: .any :: .any :: .any :: .any :: .any :: .any :: .any :: .any :: .any :: .any :: .any :: .any :: .any::l
abbrev Kd (l:List AV):List AV:=.any :: .any :: .any :: .any :: .any :: .any :: .any :: .any :: .any :: .any :: .any :: .any :: .any :: .any :: .any :: .any :: .any :: .any :: .any :: .any :: .any :: .any :: .any::l
abbrev Ke (l:List AV):List AV:=.any :: .any :: .any :: .any :: .any :: .any :: .any :: .any :: .any :: .any :: .any :: .any :: .any :: .any :: .any :: .any :: .any :: .any :: .any :: .any :: .any :: .any :: .any :: .any::l
abbrev Kf (l:List AV):List AV:=.any :: .any :: .any :: .any :: .any :: .any :: .any :: .any :: .any :: .any :: .any :: .any :: .any :: .any :: .any :: .any :: .any :: .any :: .any :: .any :: .any :: .any :: .any :: .any :: .any::l
abbrev Kg (l:List AV):List AV:=.any :: .any :: .any :: .any :: .any :: .any :: .any :: .any :: .any :: .any :: .any :: .any :: .any :: .any :: .any :: .any :: .any :: .any :: .any :: .any :: .any :: .any :: .any :: .any :: .any :: .any :: .any::l
abbrev Kh (l:List AV):List AV:=.any :: .any :: .any :: .any :: .any :: .any :: .any :: .any :: .any :: .any :: .any :: .any :: .any :: .any :: .any :: .any :: .any :: .any :: .any :: .any :: .any :: .any :: .any :: .any :: .any :: .any :: .any :: .any :: .any::l
abbrev Ki (l:List AV):List AV:=.any :: .any :: .any :: .any :: .any :: .any :: .any :: .any :: .any :: .any :: .any :: .any :: .any :: .any :: .any :: .any :: .any :: .any :: .any :: .any :: .any :: .any :: .any :: .any :: .any :: .any :: .any :: .any :: .any :: .any :: .any :: .any :: .any :: .any::l
end Go.R
namespace Go.R
open Go
open Go.IntKind (i64 u64 u8 u32)
theorem AY (x:Int):u64.wrap x=x % 18446744073709551616:=by
 unfold IntKind.wrap; simp [IntKind.signed,IntKind.bits]
theorem Fs {x:Int}(h0:0≤x)(h1:x<18446744073709551616):u64.wrap x=x:=by
 rw [AY,Int.emod_eq_of_lt h0 h1]
theorem AZ (x:Int):i64.wrap x=if x % 18446744073709551616≥9223372036854775808 then x % 18446744073709551616 - 18446744073709551616 else x % 18446744073709551616:=by
 unfold IntKind.wrap; simp [IntKind.signed,IntKind.bits]
theorem aD {x:Int}(h0 : -9223372036854775808≤x)(h1:x<9223372036854775808):i64.wrap x=x:=by
 rw [AZ]; split<;>omega
end Go.R
namespace Go.R
open Go
def qQ {X:Type}(F:CallF→Option X):Prop:=∀cf x,F cf=some x→∃l:List (FuncId × List AV × AHeap × (AV × AHeap)),(∀e∈l,cf e.1 e.2.1 e.2.2.1=some e.2.2.2)∧∀xD:CallF,(∀e∈l,xD e.1 e.2.1 e.2.2.1=some e.2.2.2)→F xD=some x
theorem aW {X:Type}(x:Option X):qQ fun _=>x:=by
 intro cf y h
 refine⟨[],?_,fun _ _=>h⟩
 intro e he; cases he
theorem A0 (f:FuncId)(args:List AV)(h:AHeap):qQ fun cf=>cf f args h:=by
 intro cf x hx
 refine⟨[(f,args,h,x)],?_,fun xD h'=>h' (f,args,h,x) (QY.2 rfl)⟩
 intro e he; cases (QY.1 he); exact hx
theorem da {X Y:Type}{F:CallF→Option X}{G:X→CallF→Option Y}(hF:qQ F)(hG:∀y,qQ (G y)):qQ fun cf=>(F cf).bind fun y=>G y cf:=fun cf z hz=>by
 obtain⟨y,h1,h2⟩:=QN.1 hz
 obtain⟨l1,a1,b1⟩:=hF cf y h1
 obtain⟨l2,a2,b2⟩:=hG y cf z h2
 refine⟨l1++l2,fun e he=>(Q7.1 he).elim (a1 e) (a2 e),fun xD h'=>?_⟩
 have e1:=b1 xD fun e he=>h' e (Rx _ he)
 have e2:=b2 xD fun e he=>h' e (List.mem_append_right _ he)
 show (F xD).bind _=_
 rw [e1,QM,e2]
theorem sP {X Y:Type}{F:CallF→Option X}{g:X→Y}(hF:qQ F):qQ fun cf=>(F cf).map g:=by
 intro cf x hx
 obtain⟨y,h1,h2⟩:=QP.1 hx
 obtain⟨l,a,b⟩:=hF cf y h1
 refine⟨l,a,fun xD h'=>?_⟩
 show (F xD).map g=some x
 rw [b xD h',QU,h2]
theorem il {X:Type}{c:Prop}[Decidable c]{F G:CallF→Option X}(hF:qQ F)(hG:qQ G):qQ fun cf=>if c then F cf else G cf:=by
 by_cases h:c
 ·simp only [h,if_true]; exact hF
 ·simp only [h,if_false]; exact hG
section
variable {P:Program}{aB ds:List Nat}
theorem lZ {X:Type}{F:CallF→Option X}(h:∀cf xD,F cf=F xD):qQ F:=by
 intro cf x hx
 refine⟨[],?_,fun xD _=>(h xD cf).trans hx⟩
 intro e he; cases he
theorem xE (e:Operand→AV)(s:RS)(o:Oper):qQ fun cf=>vz P cf aB ds e s o:=by
 obtain⟨dst,op,type,pos,after,guard⟩:=o
 cases op with
 | call c=>
  obtain⟨callee,args,at_⟩:=c
  cases callee with
  | value f=>
   simp only [vz]
   cases e f with
   | fn f cap=>exact il (sP (A0 _ _ _)) (aW _)
   | _=>exact aW _
  | _=>exact lZ fun _ _=>rfl
 | makeFunc fn first cap=>cases fn<;>exact lZ fun _ _=>rfl
 | makeMap t r=>cases r<;>exact lZ fun _ _=>rfl
 | _=>exact lZ fun _ _=>rfl
theorem zf (ops:List Oper)(s:RS)(o:Oper):qQ fun cf=>jE P cf aB ops s o:=by
 refine da (aW (eK ops s.ρ o)) fun w=>?_
 exact il (xE _ _ _) (aW _)
theorem ug (ops:List Oper):∀(os:List Oper) (s:RS),qQ fun cf=>nZ P cf aB ops s os
 | [],s=>aW _
 | o::os,s=>da (zf ops s o) fun s'=>ug ops os s'
theorem uh (ops:List Oper):∀(os:List Oper) (s:RS),qQ fun cf=>mN P cf aB ops s os
 | [],s=>aW _
 | o::os,s=>da (aW (eK ops s.ρ o)) fun w=>da (il (xE _ _ _) (aW _)) fun s1=>sP (uh ops os s1)
theorem wk (ops:Array Oper)(s:RS):qQ fun cf=>ja P cf aB ops s:=by
 unfold ja
 exact il (da (uh _ _ _) fun x=>aW _) (aW _)
theorem rI {f:CallF→St→Option (Ex × St)}(hf:∀s,qQ fun cf=>f cf s):∀(n:Nat) (s:St),qQ fun cf=>iF (f cf) n s
 | 0,s=>aW _
 | n+1,s=>da (hf s) fun x=>by
  obtain⟨x,s'⟩:=x
  cases x with
  | norm=>exact rI hf n s'
  | _=>exact aW _
theorem gh (A:ca)(n:Nat):∀(c:Code) (s:St),qQ fun cf=>be P cf A n c s
 | .skip,s=>by simp only [be]; exact aW _
 | .label _,s=>by simp only [be]; exact aW _
 | .ret,s=>by simp only [be]; exact aW _
 | .exit _,s=>by simp only [be]; exact aW _
 | .seq a b,s=>by
  simp only [be]
  exact da (gh A n a s) fun x=>by
   obtain⟨x,s'⟩:=x
   cases x with
   | norm=>exact gh A n b s'
   | _=>exact aW _
 | .cond k x y,s=>by
  simp only [be]
  exact da (aW _) fun t=>il (gh A n x s) (gh A n y s)
 | .block id b,s=>by simp only [be]; exact sP (gh A n b s)
 | .loop b,s=>by simp only [be]; exact rI (fun s=>gh A n b s) n s
 | .region r ops draw,s=>by
  simp only [be]
  exact da (aW _) fun s=>da (il (wk _ _) (ug _ _ _)) fun s'=>aW _
 | .rangeFunc ..,s=>by simp only [be]; exact aW _
 | .scope _,s=>by simp only [be]; exact aW _
 | .goto _,s=>by simp only [be]; exact aW _
 | .refuse _,s=>by simp only [be]; exact aW _
theorem iR (a7:FuncId→ca)(m:Nat)(f:FuncId)(args:List AV)(h:AHeap):qQ fun cf=>bf P a7 cf m f args h:=by
 unfold bf
 refine da (aW _) fun fn=>da (aW _) fun c=>il (da (gh _ _ _ _) fun x=>aW _) (aW _)
end
def rJ (P:Program)(T:lC)(m:Nat)(cf:CallF):CallF:=fun f args h=>
 match T.intr f with
 | some g=>g args h
 | none=>
  match T.pure f with
  | some deep=>if bS args then (bf P T.a7 cf m f (cu args) bG).bind fun x=>(bT x.2 deep x.1).map fun r=>(r,h) else
    match bo h deep args with
    | some zs=>(bf P T.a7 cf m f zs bG).bind fun x=>(dP x.2 deep x.1).map fun r=>(r,h)
    | none=>bf P T.a7 cf m f (args.map aC) h
  | none=>bf P T.a7 cf m f (args.map aC) h
section
variable {P:Program}{T:lC}{m:Nat}
theorem rK (f:FuncId)(args:List AV)(h:AHeap):qQ fun cf=>rJ P T m cf f args h:=by
 unfold rJ
 cases T.intr f with
 | some g=>exact aW _
 | none=>
  cases T.pure f with
  | none=>exact iR _ _ _ _ _
  | some deep=>
   refine il (da (iR _ _ _ _ _) fun x=>aW _) ?_
   cases bo h deep args with
   | none=>exact iR _ _ _ _ _
   | some zs=>exact da (iR _ _ _ _ _) fun x=>aW _
theorem pL:∀(n:Nat) (f:FuncId) (args:List AV) (h:AHeap) (x:AV × AHeap),dX P T m n f args h=some x→dX P T m (n+1) f args h=some x
 | 0,f,args,h,x,hc=>by simp [dX] at hc
 | n+1,f,args,h,x,hc=>by
  obtain⟨l,h1,h2⟩:=rK (P:=P) (T:=T) (m:=m) f args h _ _ hc
  exact h2 (dX P T m (n+1)) fun e he=>pL n _ _ _ _ (h1 e he)
theorem l8 {n k:Nat}(hk:n≤k){f:FuncId}{args:List AV}{h:AHeap}{x:AV × AHeap}(hc:dX P T m n f args h=some x):dX P T m k f args h=some x:=by
 induction hk with
 | refl=>exact hc
 | step _ ih=>exact pL _ _ _ _ _ ih
open Classical in
noncomputable def gY (P:Program)(T:lC)(m:Nat):CallF:=fun f args h=>if H:∃x n,dX P T m n f args h=some x then some (Classical.choose H) else none
theorem kr {f:FuncId}{args:List AV}{h:AHeap}{x:AV × AHeap}:gY P T m f args h=some x↔∃n,dX P T m n f args h=some x:=by
 have key:∀(H:∃x n,dX P T m n f args h=some x) (n:Nat),dX P T m n f args h=some x→Classical.choose H=x:=fun H n hn=>by
  obtain⟨k,hk⟩:=Classical.choose_spec H
  have h1:=l8 (Nat.le_max_left n k) hn
  have h2:=l8 (Nat.le_max_right n k) hk
  rw [h1] at h2
  exact (Rf h2).symm
 unfold gY
 constructor
 ·intro hc
  split at hc
  ·rename_i H
   obtain⟨n,hn⟩:=Classical.choose_spec H
   cases hc
   exact⟨n,hn⟩
  ·cases hc
 ·rintro⟨n,hn⟩
  have H:∃x n,dX P T m n f args h=some x:=⟨x,n,hn⟩
  rw [dif_pos H,key H n hn]
theorem zg (l:List (FuncId × List AV × AHeap × (AV × AHeap)))(hl:∀e∈l,gY P T m e.1 e.2.1 e.2.2.1=some e.2.2.2):∃n,∀e∈l,dX P T m n e.1 e.2.1 e.2.2.1=some e.2.2.2:=by
 induction l with
 | nil=>exact⟨0,fun e he=>by cases he⟩
 | cons a l ih=>
  obtain⟨n,hn⟩:=ih fun e he=>hl e (List.mem_cons_of_mem _ he)
  obtain⟨k,hk⟩:=kr.1 (hl a List.mem_cons_self)
  refine⟨max n k,fun e he=>?_⟩
  rcases Rt.1 he with rfl | he
  ·exact l8 (Nat.le_max_right n k) hk
  ·exact l8 (Nat.le_max_left n k) (hn e he)
theorem mZ {f:FuncId}{args:List AV}{h:AHeap}{x:AV × AHeap}(hc:rJ P T m (gY P T m) f args h=some x):gY P T m f args h=some x:=by
 obtain⟨l,h1,h2⟩:=rK (P:=P) (T:=T) (m:=m) f args h _ _ hc
 obtain⟨n,hn⟩:=zg l h1
 exact kr.2 ⟨n+1,h2 (dX P T m n) hn⟩
theorem A4 (hP:Fit P)(nK:IntrOK P T.intr):CallOK P (gY P T m):=fun f args h r h' hc=>by
 obtain⟨n,hn⟩:=kr.1 hc
 exact pw hP nK m n f args h r h' hn
theorem bc:Has bG []:=⟨fun j i c h=>by simp at h,fun j j' i c c' h=>by simp at h,Nat.zero_lt_one⟩
end
section
variable {P:Program}{T:lC}{m f deep:Nat}{h:AHeap}{xs ys:List AV}{y:AV}{x:AV × AHeap}
theorem oJ (h1:T.intr f=none)(h2:T.pure f=some deep)(hd:iQ+eV≤deep)(hx:nN xs ys)(hb:∃r h',bf P T.a7 (gY P T m) m f ys bG=some (r,h')∧AM h' r y):gY P T m f xs h=some (y,h):=by
 obtain⟨r,h',hb,hf⟩:=hb
 refine mZ ?_
 have hd:iQ+1000≤deep:=RG (Nat.add_le_add_left (by decide) _) hd
 simp only [rJ,h1,h2,hx.1,if_true,hx.2,hb,QM,hf deep hd,QU]
theorem bC (h1:T.intr f=none)(h2:T.pure f=some deep)(hd:iQ+eV≤deep)(hx:eO eV h xs ys)(hb:∃r h',bf P T.a7 (gY P T m) m f ys bG=some (r,h')∧fT h' r y):gY P T m f xs h=some (y,h):=by
 have h3:=hx deep hd
 have CA:iQ+1000≤deep:=RG (Nat.add_le_add_left (by decide) _) hd
 by_cases hn:bS xs=true
 ·have:=fN deep xs ys hn h3
  obtain⟨r,h',hb,hf⟩:=hb
  exact oJ h1 h2 hd ⟨hn,this.symm⟩ ⟨r,h',hb,hf.zK⟩
 ·obtain⟨r,h',hb,hf⟩:=hb
  refine mZ ?_
  simp only [rJ,h1,h2,hn,if_false,h3,hb,QM,hf deep CA,QU]
  simp
theorem nO (h1:T.intr f=none)(h2:T.pure f=none)(hx:xs.map aC=ys)(hb:bf P T.a7 (gY P T m) m f ys h=some x):gY P T m f xs h=some x:=by
 refine mZ ?_
 simp only [rJ,h1,h2,hx,hb]
theorem nP (h1:T.intr f=none)(h2:T.pure f=none)(hx:xs.map aC=ys)(hb:∃r h',bf P T.a7 (gY P T m) m f ys h=some (r,h')∧r=y∧h'=h):gY P T m f xs h=some (y,h):=by
 obtain⟨r,h',hb,rfl,rfl⟩:=hb
 exact nO h1 h2 hx hb
end
end Go.R
namespace Go.R
open Go
def bL:List aa→List Nat→List (aa × Nat)
 | [],_=>[]
 | n::ns,ids=>(n,ids.headD 0)::bL ns ids.tail
def Ft (ids:List Nat)(i:Int):Nat:=ids.getD i.toNat 0
def Dh (ns:List aa)(ids:List Nat):List Nat:=(bL ns ids).map fun p=>p.2
def fU:bQ (aa × Nat):={n:=4,f:=fun x=>[.int .i64 x.1.kind,.int .i64 x.1.int,.str x.1.label,.rs x.2 0 x.1.args.length 1],len:=fun _=>rfl,pos:=by decide,flat:=false,pure:=fun _ h=>(by cases h),canon:=fun _=>rfl}
def A6 (p:aa × Nat):Nat × Ct:=(p.2,.sl p.1.args.length 1 (af.l p.1.args))
def jj (ns:List aa)(ids:List Nat):Mem:=(bL ns ids).map A6
theorem eA:∀(ns:List aa) (ids:List Nat),(bL ns ids).length=ns.length
 | [],_=>rfl
 | n::ns,ids=>by simp [bL,eA ns]
theorem pM (ids:List Nat):ids.headD 0=ids.getD 0 0:=by cases ids<;>rfl
theorem rL (ids:List Nat)(i:Nat):ids.tail.getD i 0=ids.getD (i+1) 0:=by cases ids<;>simp
theorem l9:∀(ns:List aa) (ids:List Nat) (i:Nat) (n:aa),ns[i]? = some n→(bL ns ids)[i]? = some (n,ids.getD i 0)
 | [],_,i,n,h=>by simp at h
 | a::ns,ids,0,n,h=>by
  simp only [RC,QQ] at h
  subst h
  show (some (a,ids.headD 0):Option (aa × Nat))=some (a,ids.getD 0 0)
  rw [pM]
 | a::ns,ids,i+1,n,h=>by
  simp only [List.getElem?_cons_succ] at h
  have:=l9 ns ids.tail i n h
  simp only [bL,List.getElem?_cons_succ,this,rL]
theorem gn {ns:List aa}{ids:List Nat}{i:Int}{n:aa}(h:ix ns i=some n):ix (bL ns ids) i=some (n,Ft ids i):=by
 obtain⟨h0,h1,h2⟩:=eN h
 unfold ix Ft
 rw [if_pos h0,l9 ns ids _ _ h2]
theorem pN:∀(ns:List aa) (ids:List Nat) (n:aa) (ad:Nat),bL (ns++[n]) (Dh ns ids++[ad])=bL ns ids++[(n,ad)]
 | [],ids,n,ad=>rfl
 | a::ns,ids,n,ad=>by
  have:=pN ns ids.tail n ad
  simp only [Dh,bL,Rq,Ru,List.headD_cons,List.tail_cons] at this ⊢
  rw [this]
theorem pO:∀(ns:List aa) (ids:List Nat) (i:Nat) (n:aa),bL (ns.set i n) ids=(bL ns ids).set i (n,ids.getD i 0)
 | [],_,_,_=>rfl
 | a::ns,ids,0,n=>by
  show (n,ids.headD 0)::bL ns ids.tail=(n,ids.getD 0 0)::bL ns ids.tail
  rw [pM]
 | a::ns,ids,i+1,n=>by
  have:=pO ns ids.tail i n
  simp only [List.set_cons_succ,bL,this,rL]
theorem Di (ns:List aa)(ids:List Nat)(n:aa)(ad:Nat):jj (ns++[n]) (Dh ns ids++[ad])=jj ns ids++[A6 (n,ad)]:=by
 unfold jj; rw [pN,Ri]; rfl
theorem Dj (ns:List aa)(ids:List Nat)(i:Nat)(n:aa):jj (ns.set i n) ids=(jj ns ids).set i (A6 (n,ids.getD i 0)):=by
 unfold jj; rw [pO,List.map_set]
theorem Has.perm {h:AHeap}{K K':Mem}(o:Has h K)(p:K'.Perm K):Has h K':=by
 have hP:K.Pairwise fun a b=>a.1≠0→a.1≠b.1:=by
  rw [List.pairwise_iff_getElem]
  intro i j hi hj tO h0 he
  have:=o.nd i j K[i].1 K[i].2 K[j].2 (by rw [QZ hi]) (by rw [QZ hj,he]) h0
  omega
 have Kj:K'.Pairwise fun a b=>a.1≠0→a.1≠b.1:=(p.pairwise_iff (fun {a b} h h0 he=>h (by rw [←he]; exact h0) he.symm)).2 hP
 rw [List.pairwise_iff_getElem] at Kj
 refine⟨fun j i c hj=>?_,fun j j' i c c' hj EM h0=>?_,o.pos⟩
 ·obtain⟨j',EM⟩:=List.getElem?_of_mem (p.mem_iff.1 (Se hj))
  exact o.at_ j' i c EM
 ·obtain⟨a1,a2⟩:=QX.1 hj
  obtain⟨b1,b2⟩:=QX.1 EM
  rcases Nat.lt_trichotomy j j' with hl | hl | hl
  ·have:=Kj j j' a1 b1 hl
   rw [a2,b2] at this
   exact absurd rfl (this h0)
  ·exact hl
  ·have:=Kj j' j b1 a1 hl
   rw [a2,b2] at this
   exact absurd rfl (this h0)
section
variable {P:Program}{t t2 tf:TypeId}{h:AHeap}{pre L:Mem}{ns r:List aa}{ids:List Nat}{i ad k n2:Nat}{j a v:Int}{n:aa}
theorem k9 (hx:ix ns j=some n):(pre++(jj ns ids++L))[pre.length+j.toNat]? = some (Ft ids j,.sl n.args.length 1 (af.l n.args)):=by
 obtain⟨h0,h1,h2⟩:=eN hx
 rw [Rg (by omega),Nat.add_sub_cancel_left]
 have hl:j.toNat<(jj ns ids).length:=by unfold jj; rw [RE,eA]; omega
 rw [Rs hl]
 unfold jj
 rw [Rk,l9 ns ids _ _ h2]
 rfl
theorem A7 {b:Nat}{kind int:Int}{label:ByteArray}{args:List Int}{x:AV}(T:xw P t 4 b=true)(o:Has h ((i,.sl k 4 (fU.l (bL ns ids)))::(ad,.sl n2 1 (af.l args))::(pre++(jj ns ids++L))))
  (hx:dr h 4 x=some ([.int .i64 kind,.int .i64 int,.str label,.rs ad 0 n2 1],1)) (eh:gL P t2 x=true) (hr:app b ns [⟨kind,int,label,args⟩]=some r) :
  ∃i' HL h',de P h t t2 (.rs i 0 k 4) x=some (.rs i' 0 r.length 4,h')∧Has h' ((i',.sl r.length 4 (fU.l (bL r HL)))::(pre++(jj r HL++L))):=by
 have hn:n2=args.length:=cg (E:=af) o (q:=1) rfl
 subst hn
 obtain⟨_,_,rfl⟩:=pD hr
 have vS:app b (bL ns ids) [((⟨kind,int,label,args⟩:aa),ad)]=some (bL ns ids++[((⟨kind,int,label,args⟩:aa),ad)]):=by
  unfold app at hr ⊢
  rw [eA]
  split at hr
  ·rename_i hh
   simp only [RA,RN] at hh ⊢
   rw [if_pos hh]
  ·cases hr
 have CW:dr h fU.n x=some (fU.l [((⟨kind,int,label,args⟩:aa),ad)],[((⟨kind,int,label,args⟩:aa),ad)].length):=hx
 obtain⟨i',h',e,o'⟩:=wa (E:=fU) (l:=bL ns ids) (q:=0) T o rfl CW eh vS
 have e:de P h t t2 (.rs i 0 k 4) x=some (.rs i' 0 (bL ns ids++[((⟨kind,int,label,args⟩:aa),ad)]).length 4,h'):=e
 refine⟨i',Dh ns ids++[ad],h',?_,?_⟩
 ·rw [e,Q0,Q0,eA]; rfl
 ·rw [Di,pN]
  have o':Has h' ((i',.sl (bL ns ids++[((⟨kind,int,label,args⟩:aa),ad)]).length 4 (fU.l (bL ns ids++[((⟨kind,int,label,args⟩:aa),ad)])))::A6 (⟨kind,int,label,args⟩,ad)::(pre++(jj ns ids++L))):=o'
  have el:(ns++[(⟨kind,int,label,args⟩:aa)]).length=(bL ns ids++[((⟨kind,int,label,args⟩:aa),ad)]).length:=by
   rw [Q0,Q0,eA]; rfl
  rw [el]
  refine o'.perm (List.Perm.cons _ ?_)
  have k1:pre++((jj ns ids++[A6 ((⟨kind,int,label,args⟩:aa),ad)])++L)=(pre++jj ns ids)++A6 (⟨kind,int,label,args⟩,ad)::L:=by simp
  have k2:pre++(jj ns ids++L)=(pre++jj ns ids)++L:=by simp
  rw [k1,k2]
  exact List.perm_middle
theorem Fu {old:Int}(o:Has h ((i,.sl k 4 (fU.l (bL ns ids)))::(pre++(jj ns ids++L))))(hs:dv P tf=some 1)(hx:ix ns j=some n)(hk:ix n.args a=some old) :
  ∃h',gd P h tf (.ptr (Ft ids j) (0+a.toNat*1)) (.int .i64 v)=some h'∧
   Has h' ((i,.sl k 4 (fU.l (bL (ns.set j.toNat ⟨n.kind,n.int,n.label,n.args.set a.toNat v⟩) ids)))::(pre++(jj (ns.set j.toNat ⟨n.kind,n.int,n.label,n.args.set a.toNat v⟩) ids++L))):=by
 obtain⟨h0,h1,h2⟩:=eN hx
 have hq:=k9 (pre:=(i,.sl k 4 (fU.l (bL ns ids)))::pre) (L:=L) (ids:=ids) hx
 obtain⟨h',e,o'⟩:=eR (P:=P) (tf:=tf) (E:=af) (l:=n.args) (v:=v) (x:=.int .i64 v) o hq hs hk rfl rfl
 refine⟨h',e,?_⟩
 have hl:j.toNat<(jj ns ids).length:=by unfold jj; rw [RE,eA]; omega
 have e1:fU.l (bL (ns.set j.toNat ⟨n.kind,n.int,n.label,n.args.set a.toNat v⟩) ids)=fU.l (bL ns ids):=by
  rw [pO]
  have hz:=l9 ns ids _ _ h2
  have:=bQ.AF (E:=fU) (l:=bL ns ids) (i:=j.toNat) (a:=(n,ids.getD j.toNat 0)) (b:=(⟨n.kind,n.int,n.label,n.args.set a.toNat v⟩,ids.getD j.toNat 0)) hz []
  have h3:=bQ.AF (E:=fU) (l:=bL ns ids) (i:=j.toNat) (a:=(n,ids.getD j.toNat 0)) (b:=(n,ids.getD j.toNat 0)) hz []
  have hf:fU.f (⟨n.kind,n.int,n.label,n.args.set a.toNat v⟩,ids.getD j.toNat 0)=fU.f (n,ids.getD j.toNat 0):=by
   show [AV.int .i64 n.kind,.int .i64 n.int,.str n.label,.rs (ids.getD j.toNat 0) 0 (n.args.set a.toNat v).length 1]=_
   rw [Rb]; rfl
  rw [hf,h3] at this
  rw [SD,SD] at this
  rw [←this]
  congr 1
  obtain⟨g1,g2⟩:=QX.1 hz
  rw [←g2,List.set_getElem_self]
 rw [e1,Dj]
 have e2:((((i,Ct.sl k 4 (fU.l (bL ns ids)))::pre)++(jj ns ids++L)).set (((i,Ct.sl k 4 (fU.l (bL ns ids)))::pre).length+j.toNat) (Ft ids j,.sl n.args.length af.n (af.l (n.args.set a.toNat v)))) =
   ((i,Ct.sl k 4 (fU.l (bL ns ids)))::pre)++((jj ns ids).set j.toNat (A6 (⟨n.kind,n.int,n.label,n.args.set a.toNat v⟩,ids.getD j.toNat 0))++L):=by
  rw [Sv _ _ (by omega),Nat.add_sub_cancel_left,List.set_append_left _ _ hl]
  show _=((i,Ct.sl k 4 (fU.l (bL ns ids)))::pre)++((jj ns ids).set j.toNat (ids.getD j.toNat 0,.sl (n.args.set a.toNat v).length 1 (af.l (n.args.set a.toNat v)))++L)
  rw [Rb]; rfl
 have o2:Has h' ((((i,Ct.sl k 4 (fU.l (bL ns ids)))::pre)++(jj ns ids++L)).set (((i,Ct.sl k 4 (fU.l (bL ns ids)))::pre).length+j.toNat) (Ft ids j,.sl n.args.length af.n (af.l (n.args.set a.toNat v)))):=o'
 rw [e2] at o2
 exact o2
theorem ui:∀(ns:List aa) (ids:List Nat),(bL ns ids).map (fun p=>p.1)=ns
 | [],_=>rfl
 | n::ns,ids=>by simp [bL,ui ns]
theorem Dk {α:Type}{E:bQ α}{l:List α}{K:Mem}{q i n:Nat}{h:AHeap}(o:Has h K)(hq:K[q]? = some (i,.sl n E.n (E.l l)))(hp:E.flat=true:=by rfl):∃h',qD h (.rs i 0 n E.n)=some (E.fz l,h')∧Has h' (K.eraseIdx q):=by
 have hn:=cg o hq
 subst hn
 obtain⟨⟨⟨hlen,xg⟩,kB⟩,hlt⟩:=o.at_ _ _ _ hq
 have hx:(AV.rs i 0 l.length E.n).cE=false:=rfl
 unfold qD
 rw [hx,if_neg (by simp)]
 simp only
 rcases kB with⟨h0,h1⟩| ⟨h0,rest,h1⟩
 ·have:l=[]:=by simpa using h1
  subst this
  exact⟨h,by simp [h0,bQ.fz,bQ.l],o.del q⟩
 ·refine⟨h.kill i,?_,?_⟩
  ·rw [if_neg h0,h1]
   simp only [QM]
   have e1:((E.l l++rest).drop 0).take (l.length*E.n)=E.l l:=by
    rw [Rr,Rn (by rw [hlen]; exact QS _),Rw (by rw [hlen]; exact QS _)]
   rw [e1,if_pos ⟨by rw [Q0,hlen]; omega,(bQ.k7 hp).1⟩]
   rfl
  ·have o2:=o.y9 (i':=0) (c':=.sl 0 1 []) (h':=h.kill i) hq (fun k hk _=>by rw [lY,if_neg hk]) (RX _) (.inr (.inl rfl)) (Nat.succ_pos _) ⟨⟨by simp,by simp⟩,.inl ⟨rfl,rfl⟩⟩
   have:=o2.del q
   rwa [List.eraseIdx_set_eq] at this
theorem uj:∀(zs:List (aa × Nat)) {h:AHeap} {pre L:Mem},Has h (pre++(zs.map A6++L))→∃h',n4 h (fU.l zs)=some (ae.l (zs.map fun p=>p.1),h')∧Has h' (pre++L)
 | [],h,pre,L,o=>⟨h,rfl,by simpa using o⟩
 | p::zs,h,pre,L,o=>by
  have hq:(pre++((p::zs).map A6++L))[pre.length]? = some (p.2,.sl p.1.args.length af.n (af.l p.1.args)):=by rw [Rg (QS _),Sf]; rfl
  obtain⟨h1,e1,o1⟩:=Dk (E:=af) o hq
  have he:(pre++((p::zs).map A6++L)).eraseIdx pre.length=pre++(zs.map A6++L):=by
   rw [List.eraseIdx_append_of_length_le (QS _),Sf]; rfl
  rw [he] at o1
  obtain⟨h2,e2,o2⟩:=uj zs o1
  refine⟨h2,?_,o2⟩
  show n4 h (.int .i64 p.1.kind :: .int .i64 p.1.int :: .str p.1.label :: .rs p.2 0 p.1.args.length af.n::fU.l zs)=some (.int .i64 p.1.kind :: .int .i64 p.1.int :: .str p.1.label::af.fz p.1.args::ae.l (zs.map fun p=>p.1),h2)
  have a1:∀(h:AHeap) (k:IntKind) (z:Int),qD h (.int k z)=some (.int k z,h):=fun _ _ _=>rfl
  have a2:∀(h:AHeap) (s:ByteArray),qD h (.str s)=some (.str s,h):=fun _ _=>rfl
  simp only [n4,a1,a2,QM,e1,e2,QU]
theorem Dl {q:Nat}(o:Has h (pre++(jj ns ids++L)))(hq:pre[q]? = some (i,.sl k 4 (fU.l (bL ns ids)))):∃h',gO 0 h (.rs i 0 k 4)=some (ae.fz ns,h')∧Has h' (pre.eraseIdx q++L):=by
 have Mx:q<pre.length:=(QX.1 hq).1
 have qH:(pre++(jj ns ids++L))[q]? = some (i,.sl k 4 (fU.l (bL ns ids))):=by rw [Rs Mx]; exact hq
 have hk:k=(bL ns ids).length:=cg (E:=fU) o qH
 rw [eA] at hk
 subst hk
 obtain⟨⟨⟨hlen,xg⟩,kB⟩,hlt⟩:=o.at_ _ _ _ qH
 have hlen:(fU.l (bL ns ids)).length=ns.length*4:=hlen
 have he:(pre++(jj ns ids++L)).eraseIdx q=pre.eraseIdx q++(jj ns ids++L):=List.eraseIdx_append_of_lt_length Mx _
 rcases kB with⟨h0,h1⟩| ⟨h0,rest,h1⟩
 ·have:ns=[]:=by simpa using h1
  subst this
  have:=o.del q
  rw [he] at this
  exact⟨h,by simp [gO,h0,bQ.fz,bQ.l],this⟩
 ·have o2:=o.y9 (i':=0) (c':=.sl 0 1 []) (h':=h.kill i) qH (fun k hk _=>by rw [lY,if_neg hk]) (RX _) (.inr (.inl rfl)) (Nat.succ_pos _) ⟨⟨by simp,by simp⟩,.inl ⟨rfl,rfl⟩⟩
  have o3:=o2.del q
  rw [List.eraseIdx_set_eq,he] at o3
  obtain⟨h2,e2,o4⟩:=uj (bL ns ids) o3
  rw [ui] at e2
  refine⟨h2,?_,o4⟩
  simp only [gO]
  rw [if_neg h0,h1]
  simp only [QM]
  have e1:((fU.l (bL ns ids)++rest).drop 0).take (ns.length*4)=fU.l (bL ns ids):=by
   rw [Rr,Rn (by omega),Rw (by omega)]
  rw [if_pos (by rw [Q0,hlen]; omega),e1,e2]
  rfl
end
end Go.R
namespace Go.R
open Go
inductive vm
 | b (i:Nat) {x y:Bool} (h:x=y)
 | v (i:Nat) {e:Option AV} {z:AV} (h:e=some z)
 | w (i:Nat) {e:Option AHeap} {g:AHeap} (h:e=some g)
 | a (i:Nat) {e:Option (AV × AHeap)} {z:AV} {g:AHeap} (h:e=some (z,g))
 | m (i:Nat) {e:AV × AHeap} {z:AV} {g:AHeap} (h:e=(z,g))
def vm.OF:vm→Nat × AV × Option AHeap
 | @b i x y h=>(i,.bool y,none)
 | @v i e z h=>(i,z,none)
 | @w i e g h=>(i,.any,some g)
 | @a i e z g h=>(i,z,some g)
 | @m i e z g h=>(i,z,some g)
def vm.fr:vm→AV × AHeap
 | @a i e z g h=>(z,g)
 | _=>(.any,bG)
def vm.p:vm→Prop
 | @b i x y h=>AV.bool x=AV.bool y
 | @v i e z h=>e=some z
 | @w i e g h=>e=some g
 | @a i e z g h=>e=some (z,g)
 | @m i e z g h=>e=(z,g)
theorem vm.ok:∀g:vm,g.p
 | @b i x y h=>congrArg AV.bool h
 | @v i e z h=>h
 | @w i e g h=>h
 | @a i e z g h=>h
 | @m i e z g h=>h
def zh:List vm→Fa
 | []=>[]
 | g::gs=>g.OF::zh gs
def Dm:List vm→List (AV × AHeap)
 | []=>[]
 | g::gs=>g.fr::Dm gs
def ps:List vm→Prop
 | []=>True
 | g::gs=>g.p∧ps gs
theorem A8:∀gs,ps gs
 | []=>trivial
 | g::gs=>⟨g.ok,A8 gs⟩
def cA:Code→Code
 | .seq a _=>a
 | .cond _ a _=>a
 | .block _ a=>a
 | .loop a=>a
 | _=>.skip
def cB:Code→Code
 | .seq _ b=>b
 | .cond _ _ b=>b
 | _=>.skip
def kd:Code→Nat
 | .skip=>0
 | .ret=>1
 | .seq _ _=>2
 | .loop _=>3
 | _=>9
def Kk:Code→Option Nat
 | .exit i=>some i
 | _=>none
def Kl:Code→Option Nat
 | .block i _=>some i
 | _=>none
def Km (A:ca)(c:Code)(s:St):Option AV:=
 match c with
 | .cond k _ _=>some (bj (s.open A).ρ k)
 | _=>none
def nx (P:Program)(cf:CallF)(A:ca)(c:Code)(fs gs:List vm)(s:St):St:=((kI P cf A c (Dm fs) (zh gs) s).map (·.2)).getD s
section
variable {P:Program}{cf:CallF}{A:ca}{m:Nat}{c:Code}{s:St}{Q R:Ex→St→Prop}
theorem HM (fs gs:List vm)(hQ:Q .norm (nx P cf A c fs gs s))(h:(kI P cf A c (Dm fs) (zh gs) s).map (·.1)=some (ps fs∧ps gs):=by kernel_rfl):cX P cf A m c s Q:=by
 unfold nx at hQ
 obtain⟨⟨p,s'⟩,h1,rfl⟩:=QP.1 h
 rw [h1] at hQ
 exact AA h1 ⟨A8 fs,A8 gs⟩ hQ
theorem qr (gs:List vm)(hQ:Q .norm (nx P cf A c [] gs s))(h:(kI P cf A c [] (zh gs) s).map (·.1)=some (True∧ps gs):=by kernel_rfl):cX P cf A m c s Q:=HM [] gs hQ h
theorem q0 (hQ:Q .norm (nx P cf A c [] [] s))(h:(kI P cf A c [] [] s).map (·.1)=some (True∧True):=by kernel_rfl):cX P cf A m c s Q:=HM [] [] hQ h
theorem My (h:kd c=2):c = .seq (cA c) (cB c):=by cases c<;>first | rfl | cases h
theorem qq (hQ:cX P cf A m (cA c) s (Fb (fun s'=>cX P cf A m (cB c) s' Q) Q))(h:kd c=2:=by kernel_rfl):cX P cf A m c s Q:=by rw [My h]; exact tW hQ
theorem Mz (fs gs:List vm)(hQ:cX P cf A m (cB c) (nx P cf A (cA c) fs gs s) Q)(h:kd c=2:=by kernel_rfl)(h2:(kI P cf A (cA c) (Dm fs) (zh gs) s).map (·.1)=some (ps fs∧ps gs):=by kernel_rfl):cX P cf A m c s Q:=qq (HM fs gs hQ h2) h
theorem qs (gs:List vm)(hQ:cX P cf A m (cB c) (nx P cf A (cA c) [] gs s) Q)(h:kd c=2:=by kernel_rfl)(h2:(kI P cf A (cA c) [] (zh gs) s).map (·.1)=some (True∧ps gs):=by kernel_rfl):cX P cf A m c s Q:=Mz [] gs hQ h h2
theorem q1 (hQ:cX P cf A m (cB c) (nx P cf A (cA c) [] [] s) Q)(h:kd c=2:=by kernel_rfl)(h2:(kI P cf A (cA c) [] [] s).map (·.1)=some (True∧True):=by kernel_rfl):cX P cf A m c s Q:=Mz [] [] hQ h h2
theorem qk (hQ:Q .norm s)(h:kd c=0:=by kernel_rfl):cX P cf A m c s Q:=by
 have:c = .skip:=by cases c<;>first | rfl | cases h
 rw [this]; exact y5 hQ
theorem qt (hQ:Q .ret s)(h:kd c=1:=by kernel_rfl):cX P cf A m c s Q:=by
 have:c = .ret:=by cases c<;>first | rfl | cases h
 rw [this]; exact AB hQ
theorem qx (i:Nat)(hQ:Q (.exit i) s)(h:Kk c=some i:=by kernel_rfl):cX P cf A m c s Q:=by
 have:c = .exit i:=by cases c<;>first | (cases h; rfl) | cases h
 rw [this]; exact y6 hQ
theorem qb (i:Nat)(hQ:cX P cf A m (cA c) s (J4 i Q))(h:Kl c=some i:=by kernel_rfl):cX P cf A m c s Q:=by
 have:c = .block i (cA c):=by cases c<;>first | (cases h; rfl) | cases h
 rw [this]; exact vW hQ
theorem qc {α:Type}{b:Bool}{x y z:Option α}(H:(if b=true then x else y)=z)(ht:b=true→x=z→cX P cf A m (cA c) s Q)(hf:b=false→y=z→cX P cf A m (cB c) s Q)(h:Km A c s=some (.bool b):=by kernel_rfl):cX P cf A m c s Q:=by
 cases c<;>first | cases h | skip
 rename_i k a e
 exact mX b (Rf h) (fun hb=>ht hb (OD hb H)) (fun hb=>hf hb (OE hb H))
theorem sQ (hQ:cX P cf A m (cA c) s Q)(h:Km A c s=some (.bool true):=by kernel_rfl):cX P cf A m c s Q:=by
 cases c<;>first | cases h | skip
 exact mX true (Rf h) (fun _=>hQ) (fun hb=>by cases hb)
theorem GK (hQ:cX P cf A m (cB c) s Q)(h:Km A c s=some (.bool false):=by kernel_rfl):cX P cf A m c s Q:=by
 cases c<;>first | cases h | skip
 exact mX false (Rf h) (fun hb=>by cases hb) (fun _=>hQ)
theorem ql {c':Code}(h:cX P cf A m c' s Q)(k:∀e s',Q e s'→R e s')(hc:c=c':=by kernel_rfl):cX P cf A m c s R:=by rw [hc]; exact rE h k
theorem qj {α β:Type}{S:α→St→Prop}(f:α→Option β){out:β}{z:Option β}(h0:z=some out)(hB:∀σ s,S σ s→f σ=some out→cX P cf A m (cB c) s Q)
  (hA:(∀σ s,S σ s→f σ=some out→cX P cf A m (cB c) s Q)→cX P cf A m (cA c) s (Fb (fun s'=>cX P cf A m (cB c) s' Q) Q)) (h:kd c=2:=by kernel_rfl):cX P cf A m c s Q:=by
 rw [My h]; exact tW (hA hB)
end
def cD {S O:Type}(P:Program)(cf:CallF)(A:ca)(m:Nat)(c:Code)(l:Nat→S→Option O)(R:S→St→Prop)(Q:O→Ex→St→Prop):Prop:=∀σ s out,R σ s→l m σ=some out→cX P cf A m (.loop c) s (Q out)
theorem jW {S O:Type}{P:Program}{cf:CallF}{A:ca}{m:Nat}{c:Code}{l:Nat→S→Option O}{R:S→St→Prop}{Q:O→Ex→St→Prop}(h0:∀σ,l 0 σ=none)
  (step:∀k σ s out,R σ s→l (k+1) σ=some out→cX P cf A m c s (AD l R Q k out)):cD P cf A m c l R Q:=fun _ _ _ hr H=>y7 l R Q h0 step hr H (fun _ _ _ h=>h)
def Fv:Nat→List Nat→List Nat
 | _,[]=>[]
 | k,x::xs=>bif Ry (k % 2) 1 then x::Fv (k / 2) xs else Fv (k / 2) xs
def HN (eL:List Nat):Nat→List Nat→List (Nat × List Nat)
 | _,[]=>[]
 | r,k::ks=>(r,Fv k eL)::HN eL (r+1) ks
def ff (eL aB ms:List Nat)(zK yB:List (Nat × List (Nat × Option Nat × Nat))):ca:={eL:=eL,aB:=aB,dead:=HN eL 0 ms,zK:=zK,yB:=yB}
theorem cO {α:Type}{b:Bool}{x y z:α}(H:(if b=true then x else y)=z):(b=true∧x=z)∨(b=false∧y=z):=by
 cases b with
 | true=>exact .inl ⟨rfl,H⟩
 | false=>exact .inr ⟨rfl,H⟩
theorem oi {α:Type}{a b:α}(h:some a=some b):a=b:=Rf h
theorem bD {P:Program}{A:ca}{s:St}{rs:List ResultVar}{y:AV}(av:AV)(g:AHeap)(h:fT g av y)(h1:aP P (s.open A) rs=some av:=by kernel_rfl)(h2:s.h=g:=by kernel_rfl):∃av,aP P (s.open A) rs=some av∧fT s.h av y:=⟨av,h1,h2 ▸ h⟩
theorem I6 {P:Program}{A:ca}{s:St}{rs:List ResultVar}{y:AV}(av:AV)(g:AHeap)(h:AM g av y)(h1:aP P (s.open A) rs=some av:=by kernel_rfl)(h2:s.h=g:=by kernel_rfl):∃av,aP P (s.open A) rs=some av∧AM s.h av y:=⟨av,h1,h2 ▸ h⟩
theorem he {g g':AHeap}{K:Mem}(o:Has g K)(h:g'=g:=by kernel_rfl):Has g' K:=h ▸ o
end Go.R
namespace Go.Proofs.YtmekcfdllhphlaaDoor
open Go Go.R
open Go.IntKind (i64 u64 u8 u32)
theorem HO:xw Tryd.prog 22 2 32=true:=by kernel_rfl
theorem OG:xw Tryd.prog 25 1 1=true:=by kernel_rfl
theorem oa:xw Tryd.prog 29 4 56=true:=by kernel_rfl
theorem fV:xw Tryd.prog 42 1 8=true:=by kernel_rfl
theorem A3:dD Tryd.prog 3=some false:=by kernel_rfl
theorem A5:dD Tryd.prog 5=some false:=by kernel_rfl
theorem A9:dD Tryd.prog 9=some false:=by kernel_rfl
theorem HP:dD Tryd.prog 29=some false:=by kernel_rfl
theorem GL:dD Tryd.prog 42=some false:=by kernel_rfl
theorem xF:dD Tryd.prog 48=some true:=by kernel_rfl
theorem Z3:dv Tryd.prog 3=some 1:=by kernel_rfl
theorem OH:dv Tryd.prog 42=some 1:=by kernel_rfl
theorem xG:dv Tryd.prog 48=some 4:=by kernel_rfl
theorem U9:Tryd.prog.underlying 9=some .string:=by kernel_rfl
theorem HQ:uc Tryd.prog 98=true:=by kernel_rfl
theorem xH:ud Tryd.prog 114 9=true:=by kernel_rfl
theorem Ba:Tryd.prog.underlying 114=some (.map 116 3):=by kernel_rfl
theorem rM:ze Tryd.prog 116 9=true:=by kernel_rfl
def fl.f (m:Nat):Option Bool:=some true
def MA (cf:CallF)(m:Nat):Prop:=∀r:Bool,fl.f m=some r→∀h xs,eO eV h xs []→cf 13 xs h=some (.bool r,h)
end Go.Proofs.YtmekcfdllhphlaaDoor
namespace Go.Proofs.YtmekcfdllhphlaaDoor
open Go Go.R
open Go.IntKind (i64 u64 u8 u32)
def pP:ca:=ff [0,1,2,3,10,13] [] [32,0,32,32] [] []
def bn.l0 (m:Nat)(a0:Int)(b0:Int)(n0:Int):Nat→(List Int)→Int→Option ((List Int) × Int)
 | 0,_,_=>none
 | k+1,aS,i0=>if (decide (i0<n0))=true then ((ix aS (i64.wrap (b0+i0))).bind fun v0=>(ix aS (i64.wrap (a0+i0))).bind fun v1=>(ix aS (i64.wrap (a0+i0))).bind fun v2=>(ix (aS.set (i64.wrap (a0+i0)).toNat v0) (i64.wrap (b0+i0))).bind fun v3=>bn.l0 m a0 b0 n0 k ((aS.set (i64.wrap (a0+i0)).toNat v0).set (i64.wrap (b0+i0)).toNat v1) (i64.wrap (i0+(1:Int)))) else (some ((aS,i0)))
def bn.f (m:Nat)(ai:List Int)(a0:Int)(b0:Int)(n0:Int)(aF:Int→Int→Option (Int)):Option ((List Int)):=(bn.l0 m a0 b0 n0 m ai (0:Int)).bind fun bR=>match bR with | (bX,i1)=>some bX
def bn.fin (L:Mem)(aL:Nat)(ai:List Int)(a0:Int)(b0:Int)(n0:Int)(aF:Int→Int→Option (Int))(r:(List Int))(s:St):Prop:=aP Tryd.prog (s.open pP) Tryd.f123.results.toList=some (.tup [])∧Has s.h ((aL,.sl ai.length 1 (af.l r))::L)
def Fw (cf:CallF)(m:Nat):Prop:=∀(ai:List Int) (a0:Int) (b0:Int) (n0:Int) (aF:Int→Int→Option (Int)) (r:(List Int)),bn.f m ai a0 b0 n0 aF=some r→∀h L (bI:Nat) (aL:Nat),Has h ((aL,.sl bI 1 (af.l ai))::L)→∀(cY:FuncId) (aK:List AV),aC (.fn cY aK) = .fn cY aK→(∀h K,Has h (K++L)→∀(a0:Int) (a1:Int) r,aF a0 a1=some r→cf cY ([.int .i64 a0,.int .i64 a1]++aK) h=some (.int .i64 r,h))→∀xs,xs.map aC=[.rs aL 0 bI 1,.int .i64 a0,.int .i64 b0,.int .i64 n0,.fn cY aK]→∃h',cf 123 xs h=some (.tup [],h')∧Has h' ((aL,.sl bI 1 (af.l r))::L)
section
variable {cf:CallF}{m:Nat}
theorem bn.cw (L:Mem)(aL:Nat)(cY:FuncId)(aK:List AV)(ai:List Int)(a0:Int)(b0:Int)(n0:Int)(aF:Int→Int→Option (Int))  (eB:aC (.fn cY aK) = .fn cY aK)(eW:∀h K,Has h (K++L)→∀(a0:Int) (a1:Int) r,aF a0 a1=some r→cf cY ([.int .i64 a0,.int .i64 a1]++aK) h=some (.int .i64 r,h))  : cD Tryd.prog cf pP m (sub [1,0,0] (codeOf Tryd.f123)) (fun k (σ:(List Int) × Int)=>bn.l0 m a0 b0 n0 k σ.1 σ.2) (fun σ s=>match σ with | (aS,i0)=>∃h0,s=⟨[.rs aL 0 ai.length 1,.int .i64 a0,.int .i64 b0,.int .i64 n0,.int .i64 i0,.any],[],h0⟩∧Has h0 ((aL,.sl ai.length 1 (af.l aS))::L)) (fun out e s=>(e = .exit 0∧∃aS i0,(aS,i0)=out∧∃qR qS Bb wo Fx wq h0,s=⟨[qR,qS,Bb,wo,Fx,wq],[],h0⟩∧Has h0 ((aL,.sl ai.length 1 (af.l aS))::L))):=by
 refine jW (fun _=>rfl) ?_
 rintro k ⟨aS,i0⟩ s out ⟨h0,rfl,o0⟩ H
 have H:bn.l0 m a0 b0 n0 (k+1) aS i0=some out:=H
 refine qq <| qq <| q0 <| qc H (fun c0 H=>?_) (fun c0 H=>?_)
 ·refine qk <| qq <| qb 1 ?_
  obtain⟨v0,e0,H⟩:=bb H
  obtain⟨v1,e1,H⟩:=bb H
  obtain⟨v2,e2,H⟩:=bb H
  obtain⟨h1,e3,o1⟩:=eR (P:=Tryd.prog) (tf:=3) (E:=af) (l:=aS) (q:=0) (v:=v0) (x:=.int .i64 v0) o0 rfl Z3 e2 rfl rfl
  obtain⟨v3,e4,H⟩:=bb H
  obtain⟨h2,e5,o2⟩:=eR (P:=Tryd.prog) (tf:=3) (E:=af) (l:=(aS.set (i64.wrap (a0+i0)).toNat v0)) (q:=0) (v:=v1) (x:=.int .i64 v1) o1 rfl Z3 e4 rfl rfl
  exact qr [.v 12 (aY (k:=.i64) (E:=af) (l:=aS) (q:=0) fV o0 rfl e0),.v 13 (cp  (E:=af) (l:=aS) (q:=0) o0 rfl A3 e0 rfl),.v 18 (aY (k:=.i64) (E:=af) (l:=aS) (q:=0) fV o0 rfl e1),.v 19 (cp  (E:=af) (l:=aS) (q:=0) o0 rfl A3 e1 rfl),.v 20 (aY (k:=.i64) (E:=af) (l:=aS) (q:=0) fV o0 rfl e2),.w 21 e3,.v 22 (aY (k:=.i64) (E:=af) (l:=(aS.set (i64.wrap (a0+i0)).toNat v0)) (q:=0) fV o1 rfl e4),.w 23 e5] <| q0 <| ⟨((aS.set (i64.wrap (a0+i0)).toNat v0).set (i64.wrap (b0+i0)).toNat v1,i64.wrap (i0+(1:Int))),⟨h2,by kernel_rfl,o2⟩,H⟩
 ·exact qx 0 <| ⟨rfl,aS,i0,oi H,.rs aL 0 ai.length 1,.int .i64 a0,.int .i64 b0,.int .i64 n0,.int .i64 i0,.bool (decide (i0<n0)),h0,by kernel_rfl,o0⟩
theorem oc {a7:FuncId→ca}(ha:a7 123=pP)  (ai:List Int)(a0:Int)(b0:Int)(n0:Int)(aF:Int→Int→Option (Int))(h:AHeap)(L:Mem)(aL:Nat)(cY:FuncId)(aK:List AV)  (eB:aC (.fn cY aK) = .fn cY aK)(eW:∀h K,Has h (K++L)→∀(a0:Int) (a1:Int) r,aF a0 a1=some r→cf cY ([.int .i64 a0,.int .i64 a1]++aK) h=some (.int .i64 r,h))(o:Has h ((aL,.sl ai.length 1 (af.l ai))::L)){out:(List Int)}(H:bn.f m ai a0 b0 n0 aF=some out) :
  ∃r h',bf Tryd.prog a7 cf m 123 [.rs aL 0 ai.length 1,.int .i64 a0,.int .i64 b0,.int .i64 n0,.fn cY aK] h=some (r,h')∧r = .tup []∧Has h' ((aL,.sl ai.length 1 (af.l out))::L):=by
 refine aq (fn:=Tryd.f123) ha Tryd.func123 (by kernel_rfl) (by kernel_rfl) ?_
 refine aQ (Q:=fun s=>bn.fin L aL ai a0 b0 n0 aF out s) (fun _ _ ⟨h1,h2,h3⟩=>⟨h1,_,h2,rfl,h3⟩) ?_
 have H:_=some out:=H
 unfold bn.f at H
 show cX _ cf pP m _ ⟨[.rs aL 0 ai.length 1,.int .i64 a0,.int .i64 b0,.int .i64 n0,.any,.any],[],h⟩ _
 refine q1 <| qb 0 ?_
 obtain⟨bR,e6,H⟩:=bb H
 refine ql (bn.cw L aL cY aK ai a0 b0 n0 aF  eB eW  (ai,(0:Int)) _ _ ⟨h,by kernel_rfl,o⟩ e6) ?_
 rintro e s ⟨rfl,bX,i1,rfl,g0,g1,g2,g3,g4,g5,h3,rfl,o3⟩
 try dsimp only at H
 obtain rfl:=oi H
 exact⟨.inr rfl,⟨by kernel_rfl,he o3⟩⟩
end
end Go.Proofs.YtmekcfdllhphlaaDoor
namespace Go.Proofs.YtmekcfdllhphlaaDoor
open Go Go.R
open Go.IntKind (i64 u64 u8 u32)
def pQ:ca:=ff [0,1,2,3,4,10,11,20,23] [] [450,394,266,138,394,394,394,394,511] [] []
def dh.l0 (m:Nat)(m0:Int)(aF:Int→Int→Option (Int)):Nat→(List Int)→Int→Int→Option ((List Int) × Int × Int)
 | 0,_,_,_=>none
 | k+1,aS,i0,j0=>if (!(i0==j0))=true then (if (decide (i0 > j0))=true then ((bn.f m aS (i64.wrap (m0 - i0)) m0 j0 aF).bind fun x0=>dh.l0 m m0 aF k x0 (i64.wrap (i0 - j0)) j0) else ((bn.f m aS (i64.wrap (m0 - i0)) (i64.wrap (i64.wrap (m0+j0) - i0)) i0 aF).bind fun x1=>dh.l0 m m0 aF k x1 i0 (i64.wrap (j0 - i0)))) else (some ((aS,i0,j0)))
def dh.f (m:Nat)(ai:List Int)(a0:Int)(m0:Int)(b0:Int)(aF:Int→Int→Option (Int)):Option ((List Int)):=(dh.l0 m m0 aF m ai (i64.wrap (m0 - a0)) (i64.wrap (b0 - m0))).bind fun bR=>match bR with | (bX,i1,j1)=>(bn.f m bX (i64.wrap (m0 - i1)) m0 i1 aF).bind fun x2=>some x2
def dh.fin (L:Mem)(aL:Nat)(ai:List Int)(a0:Int)(m0:Int)(b0:Int)(aF:Int→Int→Option (Int))(r:(List Int))(s:St):Prop:=aP Tryd.prog (s.open pQ) Tryd.f122.results.toList=some (.tup [])∧Has s.h ((aL,.sl ai.length 1 (af.l r))::L)
def HR (cf:CallF)(m:Nat):Prop:=∀(ai:List Int) (a0:Int) (m0:Int) (b0:Int) (aF:Int→Int→Option (Int)) (r:(List Int)),dh.f m ai a0 m0 b0 aF=some r→∀h L (bI:Nat) (aL:Nat),Has h ((aL,.sl bI 1 (af.l ai))::L)→∀(cY:FuncId) (aK:List AV),aC (.fn cY aK) = .fn cY aK→(∀h K,Has h (K++L)→∀(a0:Int) (a1:Int) r,aF a0 a1=some r→cf cY ([.int .i64 a0,.int .i64 a1]++aK) h=some (.int .i64 r,h))→∀xs,xs.map aC=[.rs aL 0 bI 1,.int .i64 a0,.int .i64 m0,.int .i64 b0,.fn cY aK]→∃h',cf 122 xs h=some (.tup [],h')∧Has h' ((aL,.sl bI 1 (af.l r))::L)
section
variable {cf:CallF}{m:Nat}
theorem dh.cw (L:Mem)(aL:Nat)(cY:FuncId)(aK:List AV)(ai:List Int)(a0:Int)(m0:Int)(b0:Int)(aF:Int→Int→Option (Int))  (eB:aC (.fn cY aK) = .fn cY aK)(eW:∀h K,Has h (K++L)→∀(a0:Int) (a1:Int) r,aF a0 a1=some r→cf cY ([.int .i64 a0,.int .i64 a1]++aK) h=some (.int .i64 r,h))(uk:Fw cf m):cD Tryd.prog cf pQ m (sub [1,1,0,0,0] (codeOf Tryd.f122)) (fun k (σ:(List Int) × Int × Int)=>dh.l0 m m0 aF k σ.1 σ.2.1 σ.2.2) (fun σ s=>match σ with | (aS,i0,j0)=>∃h0,s=⟨[.rs aL 0 ai.length 1,.any,.int .i64 m0,.any,.fn cY aK,.int .i64 i0,.int .i64 j0,.any,.any],[],h0⟩∧Has h0 ((aL,.sl ai.length 1 (af.l aS))::L)) (fun out e s=>(e = .exit 0∧∃aS i0 j0,(aS,i0,j0)=out∧∃Fy Kn h0,s=⟨[.rs aL 0 ai.length 1,.any,.int .i64 m0,.any,.fn cY aK,.int .i64 i0,Fy,Kn,.any],[],h0⟩∧Has h0 ((aL,.sl ai.length 1 (af.l aS))::L))):=by
 refine jW (fun _=>rfl) ?_
 rintro k ⟨aS,i0,j0⟩ s out ⟨h0,rfl,o0⟩ H
 have H:dh.l0 m m0 aF (k+1) aS i0 j0=some out:=H
 refine qq <| qq <| q0 <| qc H (fun c0 H=>?_) (fun c0 H=>?_)
 ·refine qk <| qb 1 <| qq <| q0 <| qc H (fun c1 H=>?_) (fun c1 H=>?_)
  ·refine qq ?_
   obtain⟨x0,e0,H⟩:=bb H
   obtain⟨h1,e1,o1⟩:=uk _ _ _ _ _ _ e0 h0 _ _ _ (o0) cY aK eB (fun h' K' o'=>eW h' (K'++[]) (by simpa only [Rm,Ru,Rv] using o')) [.rs aL 0 ai.length 1,.int .i64 (i64.wrap (m0 - i0)),.int .i64 m0,.int .i64 j0,.fn cY aK] (ao (rfl) (ao (aR (br)) (ao (aR (br)) (ao (aR (br)) (ao (eB) (cq))))))
   exact qr [.a 7 e1] <| q0 <| ⟨(x0,i64.wrap (i0 - j0),j0),⟨h1,by kernel_rfl,o1⟩,H⟩
  ·refine qq ?_
   obtain⟨x1,e2,H⟩:=bb H
   obtain⟨h2,e3,o2⟩:=uk _ _ _ _ _ _ e2 h0 _ _ _ (o0) cY aK eB (fun h' K' o'=>eW h' (K'++[]) (by simpa only [Rm,Ru,Rv] using o')) [.rs aL 0 ai.length 1,.int .i64 (i64.wrap (m0 - i0)),.int .i64 (i64.wrap (i64.wrap (m0+j0) - i0)),.int .i64 i0,.fn cY aK] (ao (rfl) (ao (aR (br)) (ao (aR (br)) (ao (aR (br)) (ao (eB) (cq))))))
   exact qr [.a 11 e3] <| q0 <| ⟨(x1,i0,i64.wrap (j0 - i0)),⟨h2,by kernel_rfl,o2⟩,H⟩
 ·exact qx 0 <| ⟨rfl,aS,i0,j0,oi H,.int .i64 j0,.bool (!(i0==j0)),h0,by kernel_rfl,o0⟩
theorem sR {a7:FuncId→ca}(ha:a7 122=pQ)(uk:Fw cf m)(ai:List Int)(a0:Int)(m0:Int)(b0:Int)(aF:Int→Int→Option (Int))(h:AHeap)(L:Mem)(aL:Nat)(cY:FuncId)(aK:List AV)  (eB:aC (.fn cY aK) = .fn cY aK)(eW:∀h K,Has h (K++L)→∀(a0:Int) (a1:Int) r,aF a0 a1=some r→cf cY ([.int .i64 a0,.int .i64 a1]++aK) h=some (.int .i64 r,h))(o:Has h ((aL,.sl ai.length 1 (af.l ai))::L)){out:(List Int)}(H:dh.f m ai a0 m0 b0 aF=some out) :
  ∃r h',bf Tryd.prog a7 cf m 122 [.rs aL 0 ai.length 1,.int .i64 a0,.int .i64 m0,.int .i64 b0,.fn cY aK] h=some (r,h')∧r = .tup []∧Has h' ((aL,.sl ai.length 1 (af.l out))::L):=by
 refine aq (fn:=Tryd.f122) ha Tryd.func122 (by kernel_rfl) (by kernel_rfl) ?_
 refine aQ (Q:=fun s=>dh.fin L aL ai a0 m0 b0 aF out s) (fun _ _ ⟨h1,h2,h3⟩=>⟨h1,_,h2,rfl,h3⟩) ?_
 have H:_=some out:=H
 unfold dh.f at H
 show cX _ cf pQ m _ ⟨.rs aL 0 ai.length 1 :: .int .i64 a0 :: .int .i64 m0 :: .int .i64 b0 :: .fn cY aK::AW [],[],h⟩ _
 refine q1 <| qq <| q0 <| qq <| qb 0 ?_
 obtain⟨bR,e4,H⟩:=bb H
 refine ql (dh.cw L aL cY aK ai a0 m0 b0 aF  eB eW uk (ai,i64.wrap (m0 - a0),i64.wrap (b0 - m0)) _ _ ⟨h,by kernel_rfl,o⟩ e4) ?_
 rintro e s ⟨rfl,bX,i1,j1,rfl,g0,g1,h3,rfl,o3⟩
 try dsimp only at H
 obtain⟨x2,e5,H⟩:=bb H
 obtain⟨h4,e6,o4⟩:=uk _ _ _ _ _ _ e5 h3 _ _ _ (o3) cY aK eB (fun h' K' o'=>eW h' (K'++[]) (by simpa only [Rm,Ru,Rv] using o')) [.rs aL 0 ai.length 1,.int .i64 (i64.wrap (m0 - i1)),.int .i64 m0,.int .i64 i1,.fn cY aK] (ao (rfl) (ao (aR (br)) (ao (aR (br)) (ao (aR (br)) (ao (eB) (cq))))))
 obtain rfl:=oi H
 exact qr [.a 7 e6] <| ⟨.inr rfl,⟨by kernel_rfl,he o4⟩⟩
end
end Go.Proofs.YtmekcfdllhphlaaDoor
