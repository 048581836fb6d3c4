/- Part of the proof: Q57, Q41, Q25, PR2, Q81, Q58, Q42, Q26, PR3, PR4, PR5, Q14, Q24, Q40, Q35, Q39, Q37, Q17, Q23. -/
import Derived.Test.YtmekcfdllhphlaaGreatDoorK9
set_option linter.unusedVariables false
set_option linter.unusedSimpArgs false
set_option maxRecDepth 100000
open ByteArray renaming mk → YM
open Int renaming toNat_natCast → Yq, tmod → Zp, tmod_eq_emod_of_nonneg → ZO, le_refl → ZR
open List renaming append_assoc → Yx, length_cons → YD, map_cons → YJ, cons_append → YL, take_of_length_le → YR, length_nil → Y6, append_nil → Zk, mem_of_getElem? → Zm, map_congr_left → Zo, length → ZS
open Nat renaming add_assoc → Y7, mul_le_mul_right → Zb, add_mul → Zs, zero_le → ZY
open Option renaming bind_some → Yj
open Or renaming inr → Zx
open UInt8 renaming ofNat → ZX
namespace Go.Proofs.YtmekcfdllhphlaaGreatDoor
open Go Go.R
open Go.IntKind (i64 u64 u8 u32)
def zO:cm:=gI [0,1,5] [] [0,4,4,7] [] []
def bZ.l0 (m:Nat)  : Nat→Int→(List Int)→Option (Int × (List Int))
 | 0,_,_=>none
 | k+1,n1,w1=>if (decide (n1≥(128:Int)))=true then ((Gg w1 ([iz .u8 (u8.wrap n1) (128:Int)])).bind fun yA=>bZ.l0 m k (gh .u64 n1 7) yA) else (some ((n1,w1)))
def bZ.f (m:Nat)(w0:List Int)(n0:Int):Option ((List Int)):=(bZ.l0 m m n0 w0).bind fun bg=>match bg with | (n2,w2)=>(Gg w2 ([u8.wrap n2])).bind fun OZ=>some OZ
def bZ.fin (L:Mem)(bW:Nat)(ca:Nat)(w0:List Int)(n0:Int)(r:(List Int))(s:St):Prop:=∃dD:Nat,aH Tryz.prog (s.open zO) Tryz.f57.results.toList=some (.tup [])∧Has s.h ((bW,.ob [.rs dD 0 r.length 1,.int .i64 (0:Int),.int .i8 (0:Int)])::(dD,.row 5 (aj.l r))::L)
def Nh (cf:CallF)(m:Nat):Prop:=∀(w0:List Int) (n0:Int) (r:(List Int)),bZ.f m w0 n0=some r→∀h L (bW:Nat) (ca:Nat),Has h ((bW,.ob [.rs ca 0 w0.length 1,.int .i64 (0:Int),.int .i8 (0:Int)])::(ca,.row 5 (aj.l w0))::L)→∀xs,xs.map ay=[.ptr bW 0,.int .u64 n0]→∃dD h',cf 57 xs h=some (.tup [],h')∧Has h' ((bW,.ob [.rs dD 0 r.length 1,.int .i64 (0:Int),.int .i8 (0:Int)])::(dD,.row 5 (aj.l r))::L)
section
variable {cf:CallF}{m:Nat}
theorem bZ.bP (L:Mem)(bW:Nat)(ca:Nat)(w0:List Int)(n0:Int)  (yd:Om cf m):bL Tryz.prog cf zO m (sub [0,0,0] (codeOf Tryz.f57)) (fun k (σ:Int × (List Int))=>bZ.l0 m k σ.1 σ.2) (fun σ s=>match σ with | (n1,w1)=>∃az h0,s=⟨[.ptr bW 0,.int .u64 n1,.any],[],h0⟩∧Has h0 ((bW,.ob [.rs az 0 w1.length 1,.int .i64 (0:Int),.int .i8 (0:Int)])::(az,.row 5 (aj.l w1))::L)) (fun out e s=>(e = .exit 0∧∃n1 w1,(n1,w1)=out∧∃zG az h0,s=⟨[.ptr bW 0,.int .u64 n1,zG],[],h0⟩∧Has h0 ((bW,.ob [.rs az 0 w1.length 1,.int .i64 (0:Int),.int .i8 (0:Int)])::(az,.row 5 (aj.l w1))::L))):=by
 refine ig (fun _=>rfl) ?_
 rintro k ⟨n1,w1⟩ s out ⟨az,h0,rfl,o0⟩ H
 have H:bZ.l0 m (k+1) n1 w1=some out:=H
 refine qq <| qq <| q0 <| qc H (fun c0 H=>?_) (fun c0 H=>?_)
 ·refine qk <| qq <| qb 1 ?_
  obtain⟨yA,e0,H⟩:=aI H
  obtain⟨fK,h1,e1,o1⟩:=sH (bs:=w1) yd o0 e0
  exact qr [.a 6 e1] <| q0 <| ⟨(gh .u64 n1 7,yA),⟨fK,h1,by kernel_rfl,o1⟩,H⟩
 ·exact qx 0 <| ⟨rfl,n1,w1,oi H,.bool (decide (n1≥(128:Int))),az,h0,by kernel_rfl,o0⟩
theorem uC {aU:FuncId→cm}(ha:aU 57=zO)(yd:Om cf m)(w0:List Int)(n0:Int)(h:AHeap)(L:Mem)(bW:Nat)(ca:Nat)  (o:Has h ((bW,.ob [.rs ca 0 w0.length 1,.int .i64 (0:Int),.int .i8 (0:Int)])::(ca,.row 5 (aj.l w0))::L)){out:(List Int)}(H:bZ.f m w0 n0=some out) :
  ∃r h',be Tryz.prog aU cf m 57 [.ptr bW 0,.int .u64 n0] h=some (r,h')∧∃dD:Nat,r = .tup []∧Has h' ((bW,.ob [.rs dD 0 out.length 1,.int .i64 (0:Int),.int .i8 (0:Int)])::(dD,.row 5 (aj.l out))::L):=by
 refine aq (fn:=Tryz.f57) ha Tryz.func57 (by kernel_rfl) (by kernel_rfl) ?_
 refine aG (Q:=fun s=>bZ.fin L bW ca w0 n0 out s) (fun _ _ ⟨h1,dD,h2,h3⟩=>⟨h1,_,h2,dD,rfl,h3⟩) ?_
 have H:_=some out:=H
 unfold bZ.f at H
 show dt _ cf zO m _ ⟨[.ptr bW 0,.int .u64 n0,.any],[],h⟩ _
 refine qq <| qb 0 ?_
 obtain⟨bg,e2,H⟩:=aI H
 refine ql (bZ.bP L bW ca w0 n0  yd (n0,w0) _ _ ⟨ca,h,by kernel_rfl,o⟩ e2) ?_
 rintro e s ⟨rfl,n2,w2,rfl,g0,dh,h2,rfl,o2⟩
 try dsimp only at H
 obtain⟨OZ,e3,H⟩:=aI H
 obtain⟨fu,h3,e4,o3⟩:=sH (bs:=w2) yd o2 e3
 obtain rfl:=oi H
 exact qr [.a 5 e4] <| ⟨.inr rfl,⟨fu,by kernel_rfl,he o3⟩⟩
end
end Go.Proofs.YtmekcfdllhphlaaGreatDoor
namespace Go.Proofs.YtmekcfdllhphlaaGreatDoor
open Go Go.R
open Go.IntKind (i64 u64 u8 u32)
def C2:cm:=gI [0,2,3,9] [] [14,6,15,13,10,11,13] [] []
def fy.f (m:Nat)(r0:dG):Option (Int × dG):=if ((r0.cj.length:Int)==(0:Int))=true then (some ((0:Int),(dG.mk r0.cj true))) else ((ix r0.cj (0:Int)).bind fun v0=>(lD r0.cj (1:Int) (r0.cj.length:Int)).bind fun v1=>some (v0,(dG.mk v1 r0.br)))
def fy.fin (L:Mem)(az:Nat)(r0:dG)(r:Int × dG)(s:St):Prop:=aH Tryz.prog (s.open C2) Tryz.f41.results.toList=some (.int .u8 r.1)∧Has s.h ((az,.ob [aj.fz r.2.cj,.bool r.2.br])::L)
def PY (cf:CallF)(m:Nat):Prop:=∀(r0:dG) (r:Int × dG),fy.f m r0=some r→∀h L (az:Nat),Has h ((az,.ob [aj.fz r0.cj,.bool r0.br])::L)→∀xs,xs.map ay=[.ptr az 0]→∃h',cf 41 xs h=some (.int .u8 r.1,h')∧Has h' ((az,.ob [aj.fz r.2.cj,.bool r.2.br])::L)
section
variable {cf:CallF}{m:Nat}
theorem ye {aU:FuncId→cm}(ha:aU 41=C2)  (r0:dG)(h:AHeap)(L:Mem)(az:Nat)  (o:Has h ((az,.ob [aj.fz r0.cj,.bool r0.br])::L)){out:Int × dG}(H:fy.f m r0=some out) :
  ∃r h',be Tryz.prog aU cf m 41 [.ptr az 0] h=some (r,h')∧r = .int .u8 out.1∧Has h' ((az,.ob [aj.fz out.2.cj,.bool out.2.br])::L):=by
 refine aq (fn:=Tryz.f41) ha Tryz.func41 (by kernel_rfl) (by kernel_rfl) ?_
 refine aG (Q:=fun s=>fy.fin L az r0 out s) (fun _ _ ⟨h1,h2,h3⟩=>⟨h1,_,h2,rfl,h3⟩) ?_
 have H:_=some out:=H
 unfold fy.f at H
 show dt _ cf C2 m _ ⟨.ptr az 0::kK [],[],h⟩ _
 refine q1 <| qq <| qq <| qr [.v 3 (show bo Tryz.prog h 22 (.ptr az 0)=some (aj.fz r0.cj) from cn (q:=0) (cs:=[aj.fz r0.cj,.bool r0.br]) o rfl (by kernel_rfl))] <| qc H (fun c0 H=>?_) (fun c0 H=>?_)
 ·refine qq ?_
  obtain⟨h0,e0,o0⟩:=lg (P:=Tryz.prog) (t:=4) (off:=1) (q:=0) (cs:=[aj.fz r0.cj,.bool r0.br]) (fF:=[aj.fz r0.cj,.bool true]) (x:=.bool true) o rfl (by kernel_rfl)
  obtain rfl:=oi H
  exact qr [.w 3 e0] <| qq <| q0 <| qt <| ⟨.inl rfl,⟨by kernel_rfl,he o0⟩⟩
 ·refine qk <| qq ?_
  obtain⟨v0,e1,H⟩:=aI H
  refine qr [.v 3 (show bo Tryz.prog h 22 (.ptr az 0)=some (aj.fz r0.cj) from cn (q:=0) (cs:=[aj.fz r0.cj,.bool r0.br]) o rfl (by kernel_rfl)),.v 4 (bI (k:=.i64) (E:=aj) (l:=r0.cj) Ek e1),.v 5 (dv  (E:=aj) (l:=r0.cj) h A5 e1 rfl)] <| qq ?_
  obtain⟨v1,e2,H⟩:=aI H
  obtain⟨h1,e3,o1⟩:=lg (P:=Tryz.prog) (t:=22) (off:=0) (q:=0) (cs:=[aj.fz r0.cj,.bool r0.br]) (fF:=[aj.fz v1,.bool r0.br]) (x:=aj.fz v1) o rfl (by kernel_rfl)
  obtain rfl:=oi H
  exact qr [.v 4 (show bo Tryz.prog h 22 (.ptr az 0)=some (aj.fz r0.cj) from cn (q:=0) (cs:=[aj.fz r0.cj,.bool r0.br]) o rfl (by kernel_rfl)),.v 5 (show eR Tryz.prog 22 (aj.fz r0.cj) (some (.int .i64 (1:Int))) none none=some (aj.fz v1) from xB (E:=aj) Ek e2),.w 8 e3] <| qq <| q0 <| qt <| ⟨.inl rfl,⟨by kernel_rfl,he o1⟩⟩
end
end Go.Proofs.YtmekcfdllhphlaaGreatDoor
namespace Go.Proofs.YtmekcfdllhphlaaGreatDoor
open Go Go.R
open Go.IntKind (i64 u64 u8 u32)
def zP:cm:=gI [0,2,3,4,5,10,24,36] [] [254,250,242,210,242,226,162,251,226,114,253] [] []
def aQ.l0 (m:Nat)  : Nat→Int→Int→dG→Option (Int × Int × dG)
 | 0,_,_,_=>none
 | k+1,n0,dz,r1=>if (!r1.br)=true then ((fy.f m r1).bind fun x0=>if (decide (dz > (56:Int)))=true then (some ((n0,dz,(dG.mk x0.2.cj true)))) else (if (decide (dz > (0:Int)))=true then (if (x0.1==(0:Int))=true then (some ((n0,dz,(dG.mk x0.2.cj true)))) else ((zk .u64 (u64.wrap (fw .u8 x0.1 (127:Int))) dz).bind fun v0=>if (decide (x0.1<(128:Int)))=true then (some ((iz .u64 n0 v0,dz,x0.2))) else (aQ.l0 m k (iz .u64 n0 v0) (i64.wrap (dz+(7:Int))) x0.2))) else ((zk .u64 (u64.wrap (fw .u8 x0.1 (127:Int))) dz).bind fun v1=>if (decide (x0.1<(128:Int)))=true then (some ((iz .u64 n0 v1,dz,x0.2))) else (aQ.l0 m k (iz .u64 n0 v1) (i64.wrap (dz+(7:Int))) x0.2)))) else (some ((n0,dz,r1)))
def aQ.f (m:Nat)(r0:dG):Option (Int × dG):=(aQ.l0 m m (0:Int) (0:Int) r0).bind fun bg=>match bg with | (n1,Mj,r2)=>some (i64.wrap n1,r2)
def aQ.fin (L:Mem)(az:Nat)(r0:dG)(r:Int × dG)(s:St):Prop:=aH Tryz.prog (s.open zP) Tryz.f25.results.toList=some (.int .i64 r.1)∧Has s.h ((az,.ob [aj.fz r.2.cj,.bool r.2.br])::L)
def Mk (cf:CallF)(m:Nat):Prop:=∀(r0:dG) (r:Int × dG),aQ.f m r0=some r→∀h L (az:Nat),Has h ((az,.ob [aj.fz r0.cj,.bool r0.br])::L)→∀xs,xs.map ay=[.ptr az 0]→∃h',cf 25 xs h=some (.int .i64 r.1,h')∧Has h' ((az,.ob [aj.fz r.2.cj,.bool r.2.br])::L)
section
variable {cf:CallF}{m:Nat}
theorem aQ.bP (L:Mem)(az:Nat)(r0:dG)  (Hf:PY cf m):bL Tryz.prog cf zP m (sub [1,1,0,1,0,0] (codeOf Tryz.f25)) (fun k (σ:Int × Int × dG)=>aQ.l0 m k σ.1 σ.2.1 σ.2.2) (fun σ s=>match σ with | (n0,dz,r1)=>∃h0,s=⟨.ptr az 0 :: .any :: .int .u64 n0 :: .int .i64 dz::oH [],[],h0⟩∧Has h0 ((az,.ob [aj.fz r1.cj,.bool r1.br])::L)) (fun out e s=>(e = .exit 0∧∃n0 dz r1,(n0,dz,r1)=out∧∃lP Et tT RV h0,s=⟨[lP,.any,.int .u64 n0,Et,.any,tT,.any,RV],[],h0⟩∧Has h0 ((az,.ob [aj.fz r1.cj,.bool r1.br])::L))):=by
 refine ig (fun _=>rfl) ?_
 rintro k ⟨n0,dz,r1⟩ s out ⟨h0,rfl,o0⟩ H
 have H:aQ.l0 m (k+1) n0 dz r1=some out:=H
 refine qq <| qq <| qr [.v 3 (show bo Tryz.prog h0 4 (.ptr az 1)=some (.bool r1.br) from cn (q:=0) (cs:=[aj.fz r1.cj,.bool r1.br]) o0 rfl (by kernel_rfl))] <| qc H (fun c0 H=>?_) (fun c0 H=>?_)
 ·refine qk <| qq <| qb 1 <| qq ?_
  obtain⟨x0,e0,H⟩:=aI H
  obtain⟨h1,e1,o1⟩:=Hf _ _ e0 h0 _ _ (o0)  [.ptr az 0] (ak (rfl) (bn))
  refine qr [.a 1 e1] <| qq <| qq ?_
  rcases dQ H with⟨c1,H⟩| ⟨c1,H⟩
  ·refine qr [.b 2 c1] <| wk <| qq ?_
   obtain⟨h2,e2,o2⟩:=lg (P:=Tryz.prog) (t:=4) (off:=1) (q:=0) (cs:=[aj.fz x0.2.cj,.bool x0.2.br]) (fF:=[aj.fz x0.2.cj,.bool true]) (x:=.bool true) o1 rfl (by kernel_rfl)
   exact qr [.w 3 e2] <| qx 0 <| ⟨rfl,n0,dz,(dG.mk x0.2.cj true),oi H,.any,.any,.any,.any,h2,by kernel_rfl,o2⟩
  ·rcases dQ H with⟨c3,H⟩| ⟨c3,H⟩
   ·refine qr [.b 2 c1,.b 5 c3] <| qc H (fun c4 H=>?_) (fun c4 H=>?_)
    ·refine qq ?_
     obtain⟨h3,e3,o3⟩:=lg (P:=Tryz.prog) (t:=4) (off:=1) (q:=0) (cs:=[aj.fz x0.2.cj,.bool x0.2.br]) (fF:=[aj.fz x0.2.cj,.bool true]) (x:=.bool true) o1 rfl (by kernel_rfl)
     exact qr [.w 3 e3] <| qx 0 <| ⟨rfl,n0,dz,(dG.mk x0.2.cj true),oi H,.any,.any,.any,.any,h3,by kernel_rfl,o3⟩
    ·refine qk <| qq ?_
     obtain⟨v0,e4,H⟩:=aI H
     refine qr [.v 5 (show jC Tryz.prog .shl 40 (.int .u64 (u64.wrap (fw .u8 x0.1 (127:Int)))) (.int .i64 dz)=some (.int .u64 v0) from F9 e4)] <| qq <| q0 <| qc H (fun c5 H=>?_) (fun c5 H=>?_)
     ·exact qx 0 <| ⟨rfl,iz .u64 n0 v0,dz,x0.2,oi H,.ptr az 0,.int .i64 dz,.any,.bool (decide (x0.1<(128:Int))),h1,by kernel_rfl,o1⟩
     ·exact qk <| q0 <| ⟨(iz .u64 n0 v0,i64.wrap (dz+(7:Int)),x0.2),⟨h1,by kernel_rfl,o1⟩,H⟩
   ·refine qr [.b 2 c1,.b 5 c3] <| Ej <| qk <| qq ?_
    obtain⟨v1,e5,H⟩:=aI H
    refine qr [.v 5 (show jC Tryz.prog .shl 40 (.int .u64 (u64.wrap (fw .u8 x0.1 (127:Int)))) (.int .i64 dz)=some (.int .u64 v1) from F9 e5)] <| qq <| q0 <| qc H (fun c7 H=>?_) (fun c7 H=>?_)
    ·exact qx 0 <| ⟨rfl,iz .u64 n0 v1,dz,x0.2,oi H,.ptr az 0,.int .i64 dz,.any,.bool (decide (x0.1<(128:Int))),h1,by kernel_rfl,o1⟩
    ·exact qk <| q0 <| ⟨(iz .u64 n0 v1,i64.wrap (dz+(7:Int)),x0.2),⟨h1,by kernel_rfl,o1⟩,H⟩
 ·exact qx 0 <| ⟨rfl,n0,dz,r1,oi H,.ptr az 0,.int .i64 dz,.bool (!r1.br),.any,h0,by kernel_rfl,o0⟩
theorem uD {aU:FuncId→cm}(ha:aU 25=zP)(Hf:PY cf m)(r0:dG)(h:AHeap)(L:Mem)(az:Nat)  (o:Has h ((az,.ob [aj.fz r0.cj,.bool r0.br])::L)){out:Int × dG}(H:aQ.f m r0=some out) :
  ∃r h',be Tryz.prog aU cf m 25 [.ptr az 0] h=some (r,h')∧r = .int .i64 out.1∧Has h' ((az,.ob [aj.fz out.2.cj,.bool out.2.br])::L):=by
 refine aq (fn:=Tryz.f25) ha Tryz.func25 (by kernel_rfl) (by kernel_rfl) ?_
 refine aG (Q:=fun s=>aQ.fin L az r0 out s) (fun _ _ ⟨h1,h2,h3⟩=>⟨h1,_,h2,rfl,h3⟩) ?_
 have H:_=some out:=H
 unfold aQ.f at H
 show dt _ cf zP m _ ⟨.ptr az 0::E1 [],[],h⟩ _
 refine q1 <| qq <| q0 <| qq <| qq <| q0 <| qb 0 ?_
 obtain⟨bg,e6,H⟩:=aI H
 refine ql (aQ.bP L az r0  Hf ((0:Int),(0:Int),r0) _ _ ⟨h,by kernel_rfl,o⟩ e6) ?_
 rintro e s ⟨rfl,n1,Mj,r2,rfl,g0,g1,g2,g3,h4,rfl,o4⟩
 try dsimp only at H
 obtain rfl:=oi H
 exact q1 <| qt <| ⟨.inl rfl,⟨by kernel_rfl,he o4⟩⟩
end
end Go.Proofs.YtmekcfdllhphlaaGreatDoor
namespace Go.Proofs.YtmekcfdllhphlaaGreatDoor
open Go Go.R
open Go.IntKind (i64 u64 u8 u32)
theorem mV {bs news:List Int}(h:bs≠[])(hn:news≠[])(hl:bs.length+news.length≤140737488355328):Gg bs news=some (bs++news):=by
 unfold Gg wB
 rw [if_neg h,if_pos ⟨hl,hn⟩]
theorem Js (n:Nat):de n≠[]:=by
 by_cases h:n<128
 ·rw [jm h]; simp
 ·rw [lh h]; simp
theorem Hg (m:Nat):∀(k n:Nat) (w:List Int) (f:Nat),k<f→n<128 ^ (k+1)→n<2 ^ 64→w≠[]→w.length+k≤140737488355328→
  ∃(x:Nat) (pre:List Int),x<128∧bZ.l0 m f (n:Int) w=some ((x:Int),w++pre)∧pre++[(x:Int)]=de n∧pre.length≤k
 | _,_,_,0,hf,_,_,_,_=>absurd hf (by omega)
 | k,n,w,f+1,hf,hk,hn,hw,hl=>by
  by_cases h:n<128
  ·refine⟨n,[],h,?_,by rw [jm h]; rfl,ZY _⟩
   unfold bZ.l0
   rw [if_neg (by simp; omega),Zk]
  ·cases k with
   | zero=>simp at hk; omega
   | succ k=>
    have hd:n / 128<128 ^ (k+1):=by
     rw [Nat.div_lt_iff_lt_mul (by omega)]
     calc n<128 ^ (k+1+1):=hk
      _=_:=by rw [Nat.pow_succ]
    obtain⟨x,pre,h1,h2,h3,h4⟩:=Hg m k (n / 128) (w++[((n % 128+128:Nat):Int)]) f (by omega) hd (by omega) (by simp) (by simp; omega)
    refine⟨x,((n % 128+128:Nat):Int)::pre,h1,?_,by rw [lh h,YL,h3],by simp; omega⟩
    unfold bZ.l0
    rw [if_pos (by simp; omega),fR,Of,mV hw (by simp) (by simp; omega),Yj,Rf,h2,Yx]
    rfl
theorem zQ {m n:Nat}{w:List Int}(hm:11≤m)(hn:n<2 ^ 64)(hw:w≠[])(hl:w.length+20≤140737488355328):bZ.f m w (n:Int)=some (w++de n):=by
 obtain⟨x,pre,h1,h2,h3,h4⟩:=Hg m 10 n w m (by omega) (by omega) hn hw (by omega)
 unfold bZ.f
 rw [h2,Yj]
 simp only
 rw [fR,show ((x:Int) % 256)=(x:Int) by omega,mV (by simp [hw]) (by simp) (by simp; omega),Yj,Yx,←h3]
theorem pJ {m:Nat}{c:Int}{l:List Int}{bad:Bool}:fy.f m ⟨c::l,bad⟩=some (c,⟨l,bad⟩):=by
 unfold fy.f
 rw [if_neg (by simp; omega)]
 have h1:ix (c::l) 0=some c:=rfl
 have h2:lD (c::l) 1 ((c::l).length:Int)=some l:=by
  unfold lD
  rw [if_pos ⟨by omega,by simp; omega,ZR _⟩]
  simp
 simp only [h1,h2,Yj]
theorem Hh (m:Nat):∀(k f:Nat),k<f→∀(n a j:Nat) (rest:List Int),n<128 ^ (k+1)→a<2 ^ (7*j)→a+n*2 ^ (7*j)<2 ^ 63→(j=0∨1≤n)→
  ∃s':Int,aQ.l0 m f (a:Int) ((7*j:Nat):Int) ⟨de n++rest,false⟩=some (((a+n*2 ^ (7*j):Nat):Int),s',⟨rest,false⟩)
 | k,0,hf,_,_,_,_,_,_,_,_=>absurd hf (by omega)
 | k,f+1,hf,n,a,j,rest,hk,ha,hn,h0=>by
  have hs:7*j≤56:=by
   rcases h0 with h0 | h0
   ·omega
   ·have:7*j≤62:=by
     apply Nat.le_of_not_lt
     intro h
     have h1:2 ^ 63≤2 ^ (7*j):=Nat.pow_le_pow_right (by omega) (by omega)
     have h2:1*2 ^ (7*j)≤n*2 ^ (7*j):=Zb _ h0
     omega
    omega
  by_cases h:n<128
  ·rw [jm h]
   obtain⟨g1,g2⟩:=Bl a n (7*j) ha hs (by omega) h
   have g3:fw .u8 (n:Int) 127=(n:Int):=by rw [Bk n (by omega)]; omega
   refine⟨((7*j:Nat):Int),?_⟩
   unfold aQ.l0
   rw [if_pos (show (!false)=true from rfl),List.singleton_append,pJ,Yj,if_neg (by simp; omega)]
   dsimp only
   rw [g3,g1,Yj]
   rw [if_pos (show decide ((n:Int)<128)=true by simp; omega),g2]
   by_cases hj:j=0
   ·rw [if_neg (by simp; omega)]
   ·rw [if_pos (by simp; omega),if_neg (by simp; omega)]
  ·rw [lh h]
   cases k with
   | zero=>simp at hk; omega
   | succ k=>
    have hd:n / 128<128 ^ (k+1):=by
     rw [Nat.div_lt_iff_lt_mul (by omega)]
     calc n<128 ^ (k+1+1):=hk
      _=_:=by rw [Nat.pow_succ]
    have hp:2 ^ (7*(j+1))=128*2 ^ (7*j):=by rw [show 7*(j+1)=7+7*j by omega,Nat.pow_add]
    have Lp:a+n % 128*2 ^ (7*j)+n / 128*2 ^ (7*(j+1))=a+n*2 ^ (7*j):=by
     rw [hp,←Nat.mul_assoc,Y7,←Zs]
     congr 2
     omega
    have RU:a+n % 128*2 ^ (7*j)<2 ^ (7*(j+1)):=by
     rw [hp]
     have:n % 128*2 ^ (7*j)≤127*2 ^ (7*j):=Zb _ (by omega)
     omega
    obtain⟨g1,g2⟩:=Bl a (n % 128) (7*j) ha hs (by have:=ZY (n / 128*2 ^ (7*(j+1))); omega) (Nat.mod_lt _ (by omega))
    have g3:fw .u8 ((n % 128+128:Nat):Int) 127=((n % 128:Nat):Int):=by
     rw [Bk _ (by omega)]; omega
    obtain⟨s',ih⟩:=Hh m k f (by omega) (n / 128) (a+n % 128*2 ^ (7*j)) (j+1) rest hd RU (by omega) (.inr (by omega))
    rw [Lp] at ih
    refine⟨s',?_⟩
    unfold aQ.l0
    rw [if_pos (show (!false)=true from rfl),YL,pJ,Yj,if_neg (by simp; omega)]
    dsimp only
    rw [g3,g1,Yj,g2]
    have g4:i64.wrap (((7*j:Nat):Int)+7)=((7*(j+1):Nat):Int):=by rw [aA (by omega) (by omega)]; omega
    rw [if_neg (show ¬decide (((n % 128+128:Nat):Int)<128)=true by simp; omega),g4,ih]
    by_cases hj:j=0
    ·rw [if_neg (by simp; omega)]
    ·rw [if_pos (by simp; omega),if_neg (by simp; omega)]
theorem vt {m n:Nat}{rest:List Int}(hm:11≤m)(hn:n<2 ^ 63):aQ.f m ⟨de n++rest,false⟩=some ((n:Int),⟨rest,false⟩):=by
 obtain⟨s',h⟩:=Hh m 10 m (by omega) n 0 0 rest (by omega) (by omega) (by omega) (.inl rfl)
 unfold aQ.f
 have h:aQ.l0 m m (0:Int) (0:Int) ⟨de n++rest,false⟩=some (((0+n*2 ^ (7*0):Nat):Int),s',⟨rest,false⟩):=h
 rw [h,Yj]
 simp only
 rw [aA (by omega) (by omega)]
 simp
end Go.Proofs.YtmekcfdllhphlaaGreatDoor
namespace Go.Proofs.YtmekcfdllhphlaaGreatDoor
open Go Go.R
open Go.IntKind (i64 u64 u8 u32)
def C3:cm:=gI [0,1] [] [0,3] [] []
def jQ.f (m:Nat)(w0:List Int)(s0:ByteArray):Option ((List Int)):=(bZ.f m w0 (u64.wrap (s0.size:Int))).bind fun x0=>(Gg x0 (dY s0)).bind fun yA=>some yA
def jQ.fin (L:Mem)(bW:Nat)(ca:Nat)(w0:List Int)(s0:ByteArray)(r:(List Int))(s:St):Prop:=∃dD:Nat,aH Tryz.prog (s.open C3) Tryz.f81.results.toList=some (.tup [])∧Has s.h ((bW,.ob [.rs dD 0 r.length 1,.int .i64 (0:Int),.int .i8 (0:Int)])::(dD,.row 5 (aj.l r))::L)
def Up (cf:CallF)(m:Nat):Prop:=∀(w0:List Int) (s0:ByteArray) (r:(List Int)),jQ.f m w0 s0=some r→∀h L (bW:Nat) (ca:Nat),Has h ((bW,.ob [.rs ca 0 w0.length 1,.int .i64 (0:Int),.int .i8 (0:Int)])::(ca,.row 5 (aj.l w0))::L)→∀xs,xs.map ay=[.ptr bW 0,.str s0]→∃dD h',cf 81 xs h=some (.tup [],h')∧Has h' ((bW,.ob [.rs dD 0 r.length 1,.int .i64 (0:Int),.int .i8 (0:Int)])::(dD,.row 5 (aj.l r))::L)
section
variable {cf:CallF}{m:Nat}
theorem yf {aU:FuncId→cm}(ha:aU 81=C3)(pK:Nh cf m)(O0:On cf m)(w0:List Int)(s0:ByteArray)(h:AHeap)(L:Mem)(bW:Nat)(ca:Nat)  (o:Has h ((bW,.ob [.rs ca 0 w0.length 1,.int .i64 (0:Int),.int .i8 (0:Int)])::(ca,.row 5 (aj.l w0))::L)){out:(List Int)}(H:jQ.f m w0 s0=some out) :
  ∃r h',be Tryz.prog aU cf m 81 [.ptr bW 0,.str s0] h=some (r,h')∧∃dD:Nat,r = .tup []∧Has h' ((bW,.ob [.rs dD 0 out.length 1,.int .i64 (0:Int),.int .i8 (0:Int)])::(dD,.row 5 (aj.l out))::L):=by
 refine aq (fn:=Tryz.f81) ha Tryz.func81 (by kernel_rfl) (by kernel_rfl) ?_
 refine aG (Q:=fun s=>jQ.fin L bW ca w0 s0 out s) (fun _ _ ⟨h1,dD,h2,h3⟩=>⟨h1,_,h2,dD,rfl,h3⟩) ?_
 have H:_=some out:=H
 unfold jQ.f at H
 show dt _ cf C3 m _ ⟨[.ptr bW 0,.str s0],[],h⟩ _
 refine qq ?_
 obtain⟨x0,e0,H⟩:=aI H
 obtain⟨az,h0,e1,o0⟩:=pK _ _ _ e0 h _ _ _ (o)  [.ptr bW 0,.int .u64 (u64.wrap (s0.size:Int))] (ak (rfl) (ak (aR (bJ)) (bn)))
 refine qr [.a 4 e1] ?_
 obtain⟨yA,e2,H⟩:=aI H
 obtain⟨fK,h1,e3,o1⟩:=Jb (bs:=x0) O0 o0 e2
 obtain rfl:=oi H
 exact qr [.a 4 e3] <| ⟨.inr rfl,⟨fK,by kernel_rfl,he o1⟩⟩
end
end Go.Proofs.YtmekcfdllhphlaaGreatDoor
namespace Go.Proofs.YtmekcfdllhphlaaGreatDoor
open Go Go.R
open Go.IntKind (i64 u64 u8 u32)
def zR:cm:=gI [0,1,3,5,14,15,22,26,41,47,60,61,62,63] [3] [16378,16378,16362,16330,16383,16298,16250,16383,16383,16106,16383,15866,16378,16378,9214,1022,9206,9214,9214] [] []
def en.l0 (m:Nat)(n0:ab):Nat→Int→(List Int)→Option (Int × (List Int))
 | 0,_,_=>none
 | k+1,x6,w1=>if (decide (x6<(n0.args.length:Int)))=true then ((ix n0.args x6).bind fun v0=>(bZ.f m w1 (u64.wrap v0)).bind fun x7=>en.l0 m n0 k (i64.wrap (x6+(1:Int))) x7) else (some ((x6,w1)))
def en.f (m:Nat)(w0:List Int)(n0:ab):Option ((List Int)):=(Gg w0 ([u8.wrap n0.kind])).bind fun yA=>if (n0.kind==(0:Int))=true then ((bZ.f m yA (u64.wrap n0.int)).bind fun x0=>some x0) else (if (n0.kind==(1:Int))=true then (if (decide (n0.int<(0:Int)))=true then ((bZ.f m yA (u64.wrap (u64.wrap (u64.wrap (i64.wrap (0 - n0.int))*(2:Int)) - (1:Int)))).bind fun x1=>some x1) else ((bZ.f m yA (u64.wrap (u64.wrap n0.int*(2:Int)))).bind fun x2=>some x2)) else (if (n0.kind==(2:Int))=true then ((jQ.f m yA n0.label).bind fun x3=>some x3) else (if (n0.kind==(3:Int))=true then ((jQ.f m yA n0.label).bind fun x4=>(bZ.f m x4 (u64.wrap (n0.args.length:Int))).bind fun x5=>(en.l0 m n0 m (0:Int) x5).bind fun bg=>match bg with | (x8,w2)=>some w2) else (some yA))))
def en.fin (L:Mem)(bW:Nat)(ca:Nat)(w0:List Int)(n0:ab)(r:(List Int))(s:St):Prop:=∃dD:Nat,aH Tryz.prog (s.open zR) Tryz.f58.results.toList=some (.tup [])∧Has s.h ((bW,.ob [.rs dD 0 r.length 1,.int .i64 (0:Int),.int .i8 (0:Int)])::(dD,.row 5 (aj.l r))::L)
def PZ (cf:CallF)(m:Nat):Prop:=∀(w0:List Int) (n0:ab) (r:(List Int)),en.f m w0 n0=some r→∀h L (bW:Nat) (ca:Nat),Has h ((bW,.ob [.rs ca 0 w0.length 1,.int .i64 (0:Int),.int .i8 (0:Int)])::(ca,.row 5 (aj.l w0))::L)→∀xs,xs.map ay=[.ptr bW 0,.agg [.int .i64 n0.kind,.int .i64 n0.int,.str n0.label,aa.fz n0.args]]→∃dD h',cf 58 xs h=some (.tup [],h')∧Has h' ((bW,.ob [.rs dD 0 r.length 1,.int .i64 (0:Int),.int .i8 (0:Int)])::(dD,.row 5 (aj.l r))::L)
section
variable {cf:CallF}{m:Nat}
theorem en.bP (L:Mem)(bW:Nat)(ca:Nat)(w0:List Int)(n0:ab)  (pK:Nh cf m):bL Tryz.prog cf zR m (sub [1,1,1,0,1,1,1,1,1,1,1,0,1,1,1,0,0] (codeOf Tryz.f58)) (fun k (σ:Int × (List Int))=>en.l0 m n0 k σ.1 σ.2) (fun σ s=>match σ with | (x6,w1)=>∃iJ h7,s=⟨.ptr bW 0::Ee [aa.fz n0.args,.int .i64 (n0.args.length:Int),.int .i64 x6,.any],[none],h7⟩∧Has h7 ((bW,.ob [.rs iJ 0 w1.length 1,.int .i64 (0:Int),.int .i8 (0:Int)])::(iJ,.row 5 (aj.l w1))::L)) (fun out e s=>(e = .exit 1∧∃x6 w1,(x6,w1)=out∧∃lP RW RX RY RZ iJ h7,s=⟨lP::Ee [RW,RX,RY,RZ],[none],h7⟩∧Has h7 ((bW,.ob [.rs iJ 0 w1.length 1,.int .i64 (0:Int),.int .i8 (0:Int)])::(iJ,.row 5 (aj.l w1))::L))):=by
 refine ig (fun _=>rfl) ?_
 rintro k ⟨x6,w1⟩ s out ⟨iJ,h7,rfl,o7⟩ H
 have H:en.l0 m n0 (k+1) x6 w1=some out:=H
 refine q1 <| qq <| qc H (fun c5 H=>?_) (fun c5 H=>?_)
 ·refine qk <| qq <| qb 2 <| qq ?_
  obtain⟨v0,uo,H⟩:=aI H
  refine qr [.v 0 (bI (k:=.i64) (E:=aa) (l:=n0.args) dJ uo),.v 1 (dv  (E:=aa) (l:=n0.args) h7 A3 uo rfl)] ?_
  obtain⟨x7,sM,H⟩:=aI H
  obtain⟨ly,h8,wy,o8⟩:=pK _ _ _ sM h7 _ _ _ (o7)  [.ptr bW 0,.int .u64 (u64.wrap v0)] (ak (rfl) (ak (aR (bJ)) (bn)))
  exact qr [.a 3 wy] <| q0 <| ⟨(i64.wrap (x6+(1:Int)),x7),⟨ly,h8,by kernel_rfl,o8⟩,H⟩
 ·exact qx 1 <| ⟨rfl,x6,w1,oi H,.ptr bW 0,aa.fz n0.args,.int .i64 (n0.args.length:Int),.int .i64 x6,.bool (decide (x6<(n0.args.length:Int))),iJ,h7,by kernel_rfl,o7⟩
theorem yg {aU:FuncId→cm}(ha:aU 58=zR)(yd:Om cf m)(pK:Nh cf m)(O3:Up cf m)(w0:List Int)(n0:ab)(h:AHeap)(L:Mem)(bW:Nat)(ca:Nat)  (o:Has h ((bW,.ob [.rs ca 0 w0.length 1,.int .i64 (0:Int),.int .i8 (0:Int)])::(ca,.row 5 (aj.l w0))::L)){out:(List Int)}(H:en.f m w0 n0=some out) :
  ∃r h',be Tryz.prog aU cf m 58 [.ptr bW 0,.agg [.int .i64 n0.kind,.int .i64 n0.int,.str n0.label,aa.fz n0.args]] h=some (r,h')∧∃dD:Nat,r = .tup []∧Has h' ((bW,.ob [.rs dD 0 out.length 1,.int .i64 (0:Int),.int .i8 (0:Int)])::(dD,.row 5 (aj.l out))::L):=by
 refine aq (fn:=Tryz.f58) ha Tryz.func58 (by kernel_rfl) (by kernel_rfl) ?_
 refine aG (Q:=fun s=>en.fin L bW ca w0 n0 out s) (fun _ _ ⟨h1,dD,h2,h3⟩=>⟨h1,_,h2,dD,rfl,h3⟩) ?_
 have H:_=some out:=H
 unfold en.f at H
 show dt _ cf zR m _ ⟨.ptr bW 0 :: .agg [.int .i64 n0.kind,.int .i64 n0.int,.str n0.label,aa.fz n0.args]::oq [],[none],h⟩ _
 refine q1 <| qq ?_
 obtain⟨yA,e0,H⟩:=aI H
 obtain⟨az,h0,e1,o0⟩:=sH (bs:=w0) yd o e0
 refine qr [.a 6 e1] <| qq <| q0 <| qb 0 <| qq <| q0 <| qc H (fun c0 H=>?_) (fun c0 H=>?_)
 ·obtain⟨x0,e2,H⟩:=aI H
  obtain⟨fK,h1,e3,o1⟩:=pK _ _ _ e2 h0 _ _ _ (o0)  [.ptr bW 0,.int .u64 (u64.wrap n0.int)] (ak (rfl) (ak (aR (bJ)) (bn)))
  obtain rfl:=oi H
  exact qr [.a 4 e3] <| ⟨.inr rfl,⟨fK,by kernel_rfl,he o1⟩⟩
 ·refine q1 <| qc H (fun c1 H=>?_) (fun c1 H=>?_)
  ·refine q1 <| qc H (fun c2 H=>?_) (fun c2 H=>?_)
   ·obtain⟨x1,e4,H⟩:=aI H
    obtain⟨dh,h2,e5,o2⟩:=pK _ _ _ e4 h0 _ _ _ (o0)  [.ptr bW 0,.int .u64 (u64.wrap (u64.wrap (u64.wrap (i64.wrap (0 - n0.int))*(2:Int)) - (1:Int)))] (ak (rfl) (ak (aR (bJ)) (bn)))
    obtain rfl:=oi H
    exact qr [.a 7 e5] <| ⟨.inr rfl,⟨dh,by kernel_rfl,he o2⟩⟩
   ·obtain⟨x2,e6,H⟩:=aI H
    obtain⟨fu,h3,e7,o3⟩:=pK _ _ _ e6 h0 _ _ _ (o0)  [.ptr bW 0,.int .u64 (u64.wrap (u64.wrap n0.int*(2:Int)))] (ak (rfl) (ak (aR (bJ)) (bn)))
    obtain rfl:=oi H
    exact qr [.a 5 e7] <| ⟨.inr rfl,⟨fu,by kernel_rfl,he o3⟩⟩
  ·refine q1 <| qc H (fun c3 H=>?_) (fun c3 H=>?_)
   ·obtain⟨x3,e8,H⟩:=aI H
    obtain⟨gY,h4,e9,o4⟩:=O3 _ _ _ e8 h0 _ _ _ (o0)  [.ptr bW 0,.str n0.label] (ak (rfl) (ak (aR (xD)) (bn)))
    obtain rfl:=oi H
    exact qr [.a 3 e9] <| ⟨.inr rfl,⟨gY,by kernel_rfl,he o4⟩⟩
   ·refine q1 <| qc H (fun c4 H=>?_) (fun c4 H=>?_)
    ·refine qq ?_
     obtain⟨x4,ow,H⟩:=aI H
     obtain⟨hX,h5,rI,o5⟩:=O3 _ _ _ ow h0 _ _ _ (o0)  [.ptr bW 0,.str n0.label] (ak (rfl) (ak (aR (xD)) (bn)))
     refine qr [.a 3 rI] <| qq ?_
     obtain⟨x5,sK,H⟩:=aI H
     obtain⟨hY,h6,sL,o6⟩:=pK _ _ _ sK h5 _ _ _ (o5)  [.ptr bW 0,.int .u64 (u64.wrap (n0.args.length:Int))] (ak (rfl) (ak (aR (bJ)) (bn)))
     refine qr [.a 5 sL] <| qq <| q0 <| qb 1 ?_
     obtain⟨bg,xQ,H⟩:=aI H
     refine ql (en.bP L bW ca w0 n0  pK ((0:Int),x5) _ _ ⟨hY,h6,by kernel_rfl,o6⟩ xQ) ?_
     rintro e s ⟨rfl,x8,w2,rfl,g0,g1,g2,g3,g4,yz,h9,rfl,o9⟩
     try dsimp only at H
     obtain rfl:=oi H
     exact⟨.inr rfl,⟨yz,by kernel_rfl,he o9⟩⟩
    ·obtain rfl:=oi H
     exact qk <| ⟨.inr rfl,⟨az,by kernel_rfl,he o0⟩⟩
end
end Go.Proofs.YtmekcfdllhphlaaGreatDoor
namespace Go.Proofs.YtmekcfdllhphlaaGreatDoor
open Go Go.R
open Go.IntKind (i64 u64 u8 u32)
def C4:cm:=gI [0,2,3,4,19] [] [30,26,10,31,29,18,23,29] [] []
def gy.f (m:Nat)(r0:dG):Option (ByteArray × dG):=(aQ.f m r0).bind fun x0=>if x0.2.br=true then (some ((YM #[]),(dG.mk x0.2.cj true))) else (if (decide (x0.1 > (x0.2.cj.length:Int)))=true then (some ((YM #[]),(dG.mk x0.2.cj true))) else ((lD x0.2.cj (0:Int) x0.1).bind fun v0=>(lD x0.2.cj x0.1 (x0.2.cj.length:Int)).bind fun v1=>some (cM v0,(dG.mk v1 x0.2.br))))
def gy.fin (L:Mem)(az:Nat)(r0:dG)(r:ByteArray × dG)(s:St):Prop:=aH Tryz.prog (s.open C4) Tryz.f42.results.toList=some (.str r.1)∧Has s.h ((az,.ob [aj.fz r.2.cj,.bool r.2.br])::L)
def Uq (cf:CallF)(m:Nat):Prop:=∀(r0:dG) (r:ByteArray × dG),gy.f m r0=some r→∀h L (az:Nat),Has h ((az,.ob [aj.fz r0.cj,.bool r0.br])::L)→∀xs,xs.map ay=[.ptr az 0]→∃h',cf 42 xs h=some (.str r.1,h')∧Has h' ((az,.ob [aj.fz r.2.cj,.bool r.2.br])::L)
section
variable {cf:CallF}{m:Nat}
theorem yh {aU:FuncId→cm}(ha:aU 42=C4)(nw:Mk cf m)(r0:dG)(h:AHeap)(L:Mem)(az:Nat)  (o:Has h ((az,.ob [aj.fz r0.cj,.bool r0.br])::L)){out:ByteArray × dG}(H:gy.f m r0=some out) :
  ∃r h',be Tryz.prog aU cf m 42 [.ptr az 0] h=some (r,h')∧r = .str out.1∧Has h' ((az,.ob [aj.fz out.2.cj,.bool out.2.br])::L):=by
 refine aq (fn:=Tryz.f42) ha Tryz.func42 (by kernel_rfl) (by kernel_rfl) ?_
 refine aG (Q:=fun s=>gy.fin L az r0 out s) (fun _ _ ⟨h1,h2,h3⟩=>⟨h1,_,h2,rfl,h3⟩) ?_
 have H:_=some out:=H
 unfold gy.f at H
 show dt _ cf C4 m _ ⟨.ptr az 0::oH [],[],h⟩ _
 refine q1 <| qq ?_
 obtain⟨x0,e0,H⟩:=aI H
 obtain⟨h0,e1,o0⟩:=nw _ _ e0 h _ _ (o)  [.ptr az 0] (ak (rfl) (bn))
 refine qr [.a 1 e1] <| qq <| qq ?_
 rcases dQ H with⟨c0,H⟩| ⟨c0,H⟩
 ·refine qr [.v 3 (show bo Tryz.prog h0 4 (.ptr az 1)=some (.bool x0.2.br) from cn (q:=0) (cs:=[aj.fz x0.2.cj,.bool x0.2.br]) o0 rfl (by kernel_rfl)),.b 4 c0] <| wk <| qq ?_
  obtain⟨h1,e2,o1⟩:=lg (P:=Tryz.prog) (t:=4) (off:=1) (q:=0) (cs:=[aj.fz x0.2.cj,.bool x0.2.br]) (fF:=[aj.fz x0.2.cj,.bool true]) (x:=.bool true) o0 rfl (by kernel_rfl)
  obtain rfl:=oi H
  exact qr [.w 3 e2] <| qq <| q0 <| qt <| ⟨.inl rfl,⟨by kernel_rfl,he o1⟩⟩
 ·refine qr [.v 3 (show bo Tryz.prog h0 4 (.ptr az 1)=some (.bool x0.2.br) from cn (q:=0) (cs:=[aj.fz x0.2.cj,.bool x0.2.br]) o0 rfl (by kernel_rfl)),.b 4 c0,.v 9 (show bo Tryz.prog h0 22 (.ptr az 0)=some (aj.fz x0.2.cj) from cn (q:=0) (cs:=[aj.fz x0.2.cj,.bool x0.2.br]) o0 rfl (by kernel_rfl))] <| qc H (fun c2 H=>?_) (fun c2 H=>?_)
  ·refine qq ?_
   obtain⟨h2,e3,o2⟩:=lg (P:=Tryz.prog) (t:=4) (off:=1) (q:=0) (cs:=[aj.fz x0.2.cj,.bool x0.2.br]) (fF:=[aj.fz x0.2.cj,.bool true]) (x:=.bool true) o0 rfl (by kernel_rfl)
   obtain rfl:=oi H
   exact qr [.w 3 e3] <| qq <| q0 <| qt <| ⟨.inl rfl,⟨by kernel_rfl,he o2⟩⟩
  ·refine qk <| qq ?_
   obtain⟨v0,e4,H⟩:=aI H
   refine qr [.v 3 (show bo Tryz.prog h0 22 (.ptr az 0)=some (aj.fz x0.2.cj) from cn (q:=0) (cs:=[aj.fz x0.2.cj,.bool x0.2.br]) o0 rfl (by kernel_rfl)),.v 5 (show eR Tryz.prog 22 (aj.fz x0.2.cj) none (some (.int .i64 x0.1)) none=some (aj.fz v0) from xA (E:=aj) Ek e4),.v 6 (show ib Tryz.prog h0 22 9 (aj.fz v0)=some (.str (cM v0)) from Bh (e:=5) (l:=v0) rfl rfl rfl (F8 _))] <| qq ?_
   obtain⟨v1,e5,H⟩:=aI H
   obtain⟨h3,e6,o3⟩:=lg (P:=Tryz.prog) (t:=22) (off:=0) (q:=0) (cs:=[aj.fz x0.2.cj,.bool x0.2.br]) (fF:=[aj.fz v1,.bool x0.2.br]) (x:=aj.fz v1) o0 rfl (by kernel_rfl)
   obtain rfl:=oi H
   exact qr [.v 4 (show bo Tryz.prog h0 22 (.ptr az 0)=some (aj.fz x0.2.cj) from cn (q:=0) (cs:=[aj.fz x0.2.cj,.bool x0.2.br]) o0 rfl (by kernel_rfl)),.v 6 (show eR Tryz.prog 22 (aj.fz x0.2.cj) (some (.int .i64 x0.1)) none none=some (aj.fz v1) from xB (E:=aj) Ek e5),.w 9 e6] <| qq <| q0 <| qt <| ⟨.inl rfl,⟨by kernel_rfl,he o3⟩⟩
end
end Go.Proofs.YtmekcfdllhphlaaGreatDoor
namespace Go.Proofs.YtmekcfdllhphlaaGreatDoor
open Go Go.R
open Go.IntKind (i64 u64 u8 u32)
def wC:cm:=gI [0,2,3,4,5,11,15,20,29,35,40,48,53,54,55] [2,3] [32764,32760,32728,32761,32664,32761,32600,32753,32753,32497,32761,32216,32761,31736,32760,32744,30696,32744,20472,4088,20472,20472,32765] [(22,[(3,some 3,0)])] [(1,[(3,some 3,1)])]
def cb.l0 (m:Nat)(x5:Int × dG):Nat→Int→Int→Int→ByteArray→(List Int)→dG→Option (Int × Int × Int × ByteArray × (List Int) × dG)
 | 0,_,_,_,_,_,_=>none
 | k+1,x6,n0,n1,n2,n3,r1=>if (decide (x6<(mn x5.1 (8:Int))))=true then ((aQ.f m r1).bind fun x7=>(app 8 n3 ([x7.1])).bind fun x8=>cb.l0 m x5 k (i64.wrap (x6+(1:Int))) n0 n1 n2 x8 x7.2) else (some ((x6,n0,n1,n2,n3,r1)))
def cb.l1 (m:Nat)(x5:Int × dG):Nat→Int→Int→Int→ByteArray→(List Int)→dG→Option (Int × Int × Int × ByteArray × (List Int) × dG)
 | 0,_,_,_,_,_,_=>none
 | k+1,mQ,n8,n9,Hi,BE,r3=>if (decide (mQ<(mn x5.1 (8:Int))))=true then ((aQ.f m r3).bind fun Is=>(app 8 BE ([Is.1])).bind fun Jk=>cb.l1 m x5 k (i64.wrap (mQ+(1:Int))) n8 n9 Hi Jk Is.2) else (some ((mQ,n8,n9,Hi,BE,r3)))
def cb.f (m:Nat)(r0:dG):Option (ab × dG):=(fy.f m r0).bind fun x0=>if ((i64.wrap x0.1)==(0:Int))=true then ((aQ.f m x0.2).bind fun x1=>some ((ab.mk (i64.wrap x0.1) x1.1 (YM #[]) ([]:List Int)),x1.2)) else (if ((i64.wrap x0.1)==(1:Int))=true then ((aQ.f m x0.2).bind fun x2=>if ((Zp x2.1 (2:Int))==(1:Int))=true then (some ((ab.mk (i64.wrap x0.1) (i64.wrap (0 - (i64.wrap (i64.wrap (Int.tdiv x2.1 (2:Int))+(1:Int))))) (YM #[]) ([]:List Int)),x2.2)) else (some ((ab.mk (i64.wrap x0.1) (i64.wrap (Int.tdiv x2.1 (2:Int))) (YM #[]) ([]:List Int)),x2.2))) else (if ((i64.wrap x0.1)==(2:Int))=true then ((gy.f m x0.2).bind fun x3=>some ((ab.mk (i64.wrap x0.1) (0:Int) x3.1 ([]:List Int)),x3.2)) else (if ((i64.wrap x0.1)==(3:Int))=true then ((gy.f m x0.2).bind fun x4=>(aQ.f m x4.2).bind fun x5=>if (decide (x5.1 > (8:Int)))=true then ((cb.l0 m x5 m (0:Int) (i64.wrap x0.1) (0:Int) x4.1 ([]:List Int) (dG.mk x5.2.cj true)).bind fun bg=>match bg with | (x9,n4,n5,n6,n7,r2)=>some ((ab.mk n4 n5 n6 n7),r2)) else ((cb.l1 m x5 m (0:Int) (i64.wrap x0.1) (0:Int) x4.1 ([]:List Int) x5.2).bind fun bR=>match bR with | (BA,Ur,Us,Ut,R0,r4)=>some ((ab.mk Ur Us Ut R0),r4))) else (some ((ab.mk (i64.wrap x0.1) (0:Int) (YM #[]) ([]:List Int)),(dG.mk x0.2.cj true))))))
def cb.fin (L:Mem)(az:Nat)(r0:dG)(r:ab × dG)(s:St):Prop:=aH Tryz.prog (s.open wC) Tryz.f26.results.toList=some (.agg [.int .i64 r.1.kind,.int .i64 r.1.int,.str r.1.label,aa.fz r.1.args])∧Has s.h ((az,.ob [aj.fz r.2.cj,.bool r.2.br])::L)
def P4 (cf:CallF)(m:Nat):Prop:=∀(r0:dG) (r:ab × dG),cb.f m r0=some r→∀h L (az:Nat),Has h ((az,.ob [aj.fz r0.cj,.bool r0.br])::L)→∀xs,xs.map ay=[.ptr az 0]→∃h',cf 26 xs h=some (.agg [.int .i64 r.1.kind,.int .i64 r.1.int,.str r.1.label,aa.fz r.1.args],h')∧Has h' ((az,.ob [aj.fz r.2.cj,.bool r.2.br])::L)
section
variable {cf:CallF}{m:Nat}
theorem cb.bP (L:Mem)(az:Nat)(r0:dG)(x5:Int × dG)  (nw:Mk cf m):bL Tryz.prog cf wC m (sub [1,1,0,1,0,1,1,1,1,1,1,1,0,1,1,1,1,0,0] (codeOf Tryz.f26)) (fun k (σ:Int × Int × Int × ByteArray × (List Int) × dG)=>cb.l0 m x5 k σ.1 σ.2.1 σ.2.2.1 σ.2.2.2.1 σ.2.2.2.2.1 σ.2.2.2.2.2) (fun σ s=>match σ with | (x6,n0,n1,n2,n3,r1)=>∃fK h11,s=⟨.ptr az 0 :: .lp 2 0 :: .lp 3 0::Ee [.int .i64 (mn x5.1 (8:Int)),.int .i64 x6,.any],[some [.int .i64 (0:Int),.int .i64 (0:Int),.str (YM #[]),.nils],some [.int .i64 n0,.int .i64 n1,.str n2,.rs fK 0 n3.length 1]],h11⟩∧Has h11 ((az,.ob [aj.fz r1.cj,.bool r1.br])::(fK,.sl n3.length 1 (aa.l n3))::L)) (fun out e s=>(e = .exit 1∧∃x6 n0 n1 n2 n3 r1,(x6,n0,n1,n2,n3,r1)=out∧∃lP G6 G7 G8 fK h11,s=⟨lP :: .lp 2 0 :: .lp 3 0::Ee [G6,G7,G8],[some [.int .i64 (0:Int),.int .i64 (0:Int),.str (YM #[]),.nils],some [.int .i64 n0,.int .i64 n1,.str n2,.rs fK 0 n3.length 1]],h11⟩∧Has h11 ((az,.ob [aj.fz r1.cj,.bool r1.br])::(fK,.sl n3.length 1 (aa.l n3))::L))):=by
 refine ig (fun _=>rfl) ?_
 rintro k ⟨x6,n0,n1,n2,n3,r1⟩ s out ⟨fK,h11,rfl,ug⟩ H
 have H:cb.l0 m x5 (k+1) x6 n0 n1 n2 n3 r1=some out:=H
 refine q1 <| qq <| qc H (fun c6 H=>?_) (fun c6 H=>?_)
 ·refine qk <| qq <| qb 2 ?_
  obtain⟨x7,xQ,H⟩:=aI H
  obtain⟨h12,CN,mg⟩:=nw _ _ xQ h11 _ _ (ug)  [.ptr az 0] (ak (rfl) (bn))
  obtain⟨x8,xR,H⟩:=aI H
  obtain⟨dh,h13,CO,zx⟩:=fP (P:=Tryz.prog) (E:=aa) (l:=n3) (q:=1) (t2:=28) (x:=.fz [.int .i64 x7.1] 1 true) (l2:=([x7.1])) dJ mg rfl (by kernel_rfl) rfl xR
  exact qr [.a 3 CN,.a 5 CO] <| q0 <| ⟨(i64.wrap (x6+(1:Int)),n0,n1,n2,x8,x7.2),⟨dh,h13,by kernel_rfl,zx⟩,H⟩
 ·exact qx 1 <| ⟨rfl,x6,n0,n1,n2,n3,r1,oi H,.ptr az 0,.int .i64 (mn x5.1 (8:Int)),.int .i64 x6,.bool (decide (x6<(mn x5.1 (8:Int)))),fK,h11,by kernel_rfl,ug⟩
theorem cb.fC (L:Mem)(az:Nat)(r0:dG)(x5:Int × dG)  (nw:Mk cf m):bL Tryz.prog cf wC m (sub [1,1,0,1,0,1,1,1,1,1,1,1,0,1,1,1,1,0,0] (codeOf Tryz.f26)) (fun k (σ:Int × Int × Int × ByteArray × (List Int) × dG)=>cb.l1 m x5 k σ.1 σ.2.1 σ.2.2.1 σ.2.2.2.1 σ.2.2.2.2.1 σ.2.2.2.2.2) (fun σ s=>match σ with | (mQ,n8,n9,Hi,BE,r3)=>∃gY h16,s=⟨.ptr az 0 :: .lp 2 0 :: .lp 3 0::Ee [.int .i64 (mn x5.1 (8:Int)),.int .i64 mQ,.any],[some [.int .i64 (0:Int),.int .i64 (0:Int),.str (YM #[]),.nils],some [.int .i64 n8,.int .i64 n9,.str Hi,.rs gY 0 BE.length 1]],h16⟩∧Has h16 ((az,.ob [aj.fz r3.cj,.bool r3.br])::(gY,.sl BE.length 1 (aa.l BE))::L)) (fun out e s=>(e = .exit 1∧∃mQ n8 n9 Hi BE r3,(mQ,n8,n9,Hi,BE,r3)=out∧∃lP G6 G7 G8 gY h16,s=⟨lP :: .lp 2 0 :: .lp 3 0::Ee [G6,G7,G8],[some [.int .i64 (0:Int),.int .i64 (0:Int),.str (YM #[]),.nils],some [.int .i64 n8,.int .i64 n9,.str Hi,.rs gY 0 BE.length 1]],h16⟩∧Has h16 ((az,.ob [aj.fz r3.cj,.bool r3.br])::(gY,.sl BE.length 1 (aa.l BE))::L))):=by
 refine ig (fun _=>rfl) ?_
 rintro k ⟨mQ,n8,n9,Hi,BE,r3⟩ s out ⟨gY,h16,rfl,Br⟩ H
 have H:cb.l1 m x5 (k+1) mQ n8 n9 Hi BE r3=some out:=H
 refine q1 <| qq <| qc H (fun c7 H=>?_) (fun c7 H=>?_)
 ·refine qk <| qq <| qb 2 ?_
  obtain⟨Is,GC,H⟩:=aI H
  obtain⟨h17,E5,Eu⟩:=nw _ _ GC h16 _ _ (Br)  [.ptr az 0] (ak (rfl) (bn))
  obtain⟨Jk,GD,H⟩:=aI H
  obtain⟨hX,h18,GI,Ev⟩:=fP (P:=Tryz.prog) (E:=aa) (l:=BE) (q:=1) (t2:=28) (x:=.fz [.int .i64 Is.1] 1 true) (l2:=([Is.1])) dJ Eu rfl (by kernel_rfl) rfl GD
  exact qr [.a 3 E5,.a 5 GI] <| q0 <| ⟨(i64.wrap (mQ+(1:Int)),n8,n9,Hi,Jk,Is.2),⟨hX,h18,by kernel_rfl,Ev⟩,H⟩
 ·exact qx 1 <| ⟨rfl,mQ,n8,n9,Hi,BE,r3,oi H,.ptr az 0,.int .i64 (mn x5.1 (8:Int)),.int .i64 mQ,.bool (decide (mQ<(mn x5.1 (8:Int)))),gY,h16,by kernel_rfl,Br⟩
theorem yi {aU:FuncId→cm}(ha:aU 26=wC)(nw:Mk cf m)(Hf:PY cf m)(O4:Uq cf m)(r0:dG)(h:AHeap)(L:Mem)(az:Nat)  (o:Has h ((az,.ob [aj.fz r0.cj,.bool r0.br])::L)){out:ab × dG}(H:cb.f m r0=some out) :
  ∃r h',be Tryz.prog aU cf m 26 [.ptr az 0] h=some (r,h')∧r = .agg [.int .i64 out.1.kind,.int .i64 out.1.int,.str out.1.label,aa.fz out.1.args]∧Has h' ((az,.ob [aj.fz out.2.cj,.bool out.2.br])::L):=by
 refine aq (fn:=Tryz.f26) ha Tryz.func26 (by kernel_rfl) (by kernel_rfl) ?_
 refine aG (Q:=fun s=>cb.fin L az r0 out s) (fun _ _ ⟨h1,h2,h3⟩=>⟨h1,_,h2,rfl,h3⟩) ?_
 have H:_=some out:=H
 unfold cb.f at H
 show dt _ cf wC m _ ⟨.ptr az 0::rW [],[none,none],h⟩ _
 refine q1 <| qq ?_
 obtain⟨x0,e0,H⟩:=aI H
 obtain⟨h0,e1,o0⟩:=Hf _ _ e0 h _ _ (o)  [.ptr az 0] (ak (rfl) (bn))
 refine qr [.a 1 e1] ?_
 have o1:Has h0 (((0),.sl (([]:List Int).length) 1 (aa.l ([]:List Int)))::(az,.ob [aj.fz x0.2.cj,.bool x0.2.br])::L):=Has.nil o0 1
 refine qq <| qq <| q0 <| qb 0 <| qq <| q0 <| qc H (fun c0 H=>?_) (fun c0 H=>?_)
 ·obtain⟨x1,e2,H⟩:=aI H
  obtain⟨h1,e3,o2⟩:=nw _ _ e2 h0 _ _ ((Has.front (Has.front o1 0 rfl) 1 rfl))  [.ptr az 0] (ak (rfl) (bn))
  refine qr [.a 1 e3] <| qq ?_
  obtain⟨h2,e4,o3⟩:=iS (E:=aa) (l:=([]:List Int)) (q:=1) o2 rfl
  obtain rfl:=oi H
  exact zt [.a 0 e4] [] <| qt <| ⟨.inl rfl,⟨by kernel_rfl,he o3⟩⟩
 ·refine q1 <| qc H (fun c1 H=>?_) (fun c1 H=>?_)
  ·refine qq ?_
   obtain⟨x2,e5,H⟩:=aI H
   obtain⟨h3,e6,o4⟩:=nw _ _ e5 h0 _ _ ((Has.front (Has.front o1 0 rfl) 1 rfl))  [.ptr az 0] (ak (rfl) (bn))
   refine qr [.a 1 e6] <| qq <| q0 <| qq <| q0 <| qc H (fun c2 H=>?_) (fun c2 H=>?_)
   ·refine q0 <| qq ?_
    obtain⟨h4,e7,o5⟩:=iS (E:=aa) (l:=([]:List Int)) (q:=1) o4 rfl
    obtain rfl:=oi H
    exact zt [.a 0 e7] [] <| qt <| ⟨.inl rfl,⟨by kernel_rfl,he o5⟩⟩
   ·refine qk <| qq ?_
    obtain⟨h5,e8,o6⟩:=iS (E:=aa) (l:=([]:List Int)) (q:=1) o4 rfl
    obtain rfl:=oi H
    exact zt [.a 0 e8] [] <| qt <| ⟨.inl rfl,⟨by kernel_rfl,he o6⟩⟩
  ·refine q1 <| qc H (fun c3 H=>?_) (fun c3 H=>?_)
   ·obtain⟨x3,e9,H⟩:=aI H
    obtain⟨h6,ow,o7⟩:=O4 _ _ e9 h0 _ _ ((Has.front (Has.front o1 0 rfl) 1 rfl))  [.ptr az 0] (ak (rfl) (bn))
    refine qr [.a 1 ow] <| qq ?_
    obtain⟨h7,rI,o8⟩:=iS (E:=aa) (l:=([]:List Int)) (q:=1) o7 rfl
    obtain rfl:=oi H
    exact zt [.a 0 rI] [] <| qt <| ⟨.inl rfl,⟨by kernel_rfl,he o8⟩⟩
   ·refine q1 <| qc H (fun c4 H=>?_) (fun c4 H=>?_)
    ·refine qq ?_
     obtain⟨x4,sK,H⟩:=aI H
     obtain⟨h8,sL,o9⟩:=O4 _ _ sK h0 _ _ ((Has.front (Has.front o1 0 rfl) 1 rfl))  [.ptr az 0] (ak (rfl) (bn))
     refine qr [.a 1 sL] <| qq ?_
     obtain⟨x5,uo,H⟩:=aI H
     obtain⟨h9,sM,vo⟩:=nw _ _ uo h8 _ _ (o9)  [.ptr az 0] (ak (rfl) (bn))
     refine qr [.a 1 sM] <| qq <| qq <| q0 <| qc H (fun c5 H=>?_) (fun c5 H=>?_)
     ·obtain⟨h10,wy,wq⟩:=lg (P:=Tryz.prog) (t:=4) (off:=1) (q:=0) (cs:=[aj.fz x5.2.cj,.bool x5.2.br]) (fF:=[aj.fz x5.2.cj,.bool true]) (x:=.bool true) vo rfl (by kernel_rfl)
      refine qr [.w 3 wy] <| qq <| q0 <| qb 1 ?_
      obtain⟨bg,E6,H⟩:=aI H
      refine ql (cb.bP L az r0 x5  nw ((0:Int),i64.wrap x0.1,(0:Int),x4.1,([]:List Int),(dG.mk x5.2.cj true)) _ _ ⟨(0),h10,by kernel_rfl,wq⟩ E6) ?_
      rintro e s ⟨rfl,x9,n4,n5,n6,n7,r2,rfl,g0,g1,g2,g3,fu,h14,rfl,AA⟩
      try dsimp only at H
      refine qq ?_
      obtain⟨h15,E4,ml⟩:=iS (E:=aa) (l:=n7) (q:=1) AA rfl
      obtain rfl:=oi H
      exact zt [.a 0 E4] [] <| qt <| ⟨.inl rfl,⟨by kernel_rfl,he ml⟩⟩
     ·refine qk <| qq <| q0 <| qb 1 ?_
      obtain⟨bR,Ir,H⟩:=aI H
      refine ql (cb.fC L az r0 x5  nw ((0:Int),i64.wrap x0.1,(0:Int),x4.1,([]:List Int),x5.2) _ _ ⟨(0),h9,by kernel_rfl,vo⟩ Ir) ?_
      rintro e s ⟨rfl,BA,Ur,Us,Ut,R0,r4,rfl,g4,g5,g6,g7,hY,h19,rfl,Md⟩
      try dsimp only at H
      refine qq ?_
      obtain⟨h20,GG,xY⟩:=iS (E:=aa) (l:=R0) (q:=1) Md rfl
      obtain rfl:=oi H
      exact zt [.a 0 GG] [] <| qt <| ⟨.inl rfl,⟨by kernel_rfl,he xY⟩⟩
    ·obtain⟨h21,GH,GY⟩:=lg (P:=Tryz.prog) (t:=4) (off:=1) (q:=1) (cs:=[aj.fz x0.2.cj,.bool x0.2.br]) (fF:=[aj.fz x0.2.cj,.bool true]) (x:=.bool true) o1 rfl (by kernel_rfl)
     refine qr [.w 3 GH] <| qq ?_
     obtain⟨h22,GF,E7⟩:=iS (E:=aa) (l:=([]:List Int)) (q:=0) GY rfl
     obtain rfl:=oi H
     exact zt [.a 0 GF] [] <| qt <| ⟨.inl rfl,⟨by kernel_rfl,he E7⟩⟩
end
end Go.Proofs.YtmekcfdllhphlaaGreatDoor
namespace Go.Proofs.YtmekcfdllhphlaaGreatDoor
open Go Go.R
open Go.IntKind (i64 u64 u8 u32)
theorem yj (s:ByteArray):cM (dY s)=s:=by
 unfold cM dY
 rw [List.map_map]
 have:(List.map ((fun n:Int=>ZX n.toNat)∘fun b:UInt8=>(b.toNat:Int)) s.data.toList)=s.data.toList:=by
  conv=>rhs; rw [←List.map_id s.data.toList]
  apply Zo
  intro b _
  simp
 rw [this]
theorem iW (s:ByteArray):(dY s).length=s.size:=by simp [dY]
theorem zS:∀(k n:Nat),n<128 ^ (k+1)→(de n).length≤k+1
 | k,n,h=>by
  by_cases h1:n<128
  ·rw [jm h1]; simp
  ·cases k with
   | zero=>simp at h; omega
   | succ k=>
    have hd:n / 128<128 ^ (k+1):=by
     rw [Nat.div_lt_iff_lt_mul (by omega)]
     calc n<128 ^ (k+1+1):=h
      _=_:=by rw [Nat.pow_succ]
    have:=zS k (n / 128) hd
    rw [lh h1]; simp; omega
theorem di {n:Nat}(h:n<2 ^ 64):(de n).length≤10:=zS 9 n (by omega)
def ny (s:ByteArray):List Int:=de s.size++dY s
theorem Ks {m:Nat}{w:List Int}{s:ByteArray}(hm:11≤m)(hs:s.size≠0)(hw:w≠[])(hl:w.length+s.size+20≤140737488355328):jQ.f m w s=some (w++ny s):=by
 unfold jQ.f
 have h1:s.size<2 ^ 64:=by omega
 have h2:=di h1
 rw [gm (by omega) (by omega),zQ hm h1 hw (by omega),Yj,mV (by simp [hw]) (fun h=>hs (by rw [←iW,h]; rfl)) (by simp [iW]; omega),Yj,Yx]
 rfl
theorem Kt {m:Nat}{s:ByteArray}{rest:List Int}(hm:11≤m)(hl:s.size<2 ^ 63):gy.f m ⟨ny s++rest,false⟩=some (s,⟨rest,false⟩):=by
 unfold gy.f ny
 rw [Yx,vt hm hl,Yj,if_neg (by simp)]
 dsimp only
 have hlen:=iW s
 rw [if_neg (by simp [hlen]; omega)]
 have h1:lD (dY s++rest) 0 (s.size:Int)=some (dY s):=by
  unfold lD
  rw [if_pos ⟨ZR _,by omega,by simp [hlen]; omega⟩]
  simp [←hlen]
 have h2:lD (dY s++rest) (s.size:Int) ((dY s++rest).length:Int)=some rest:=by
  unfold lD
  rw [if_pos ⟨by omega,by simp [hlen]; omega,ZR _⟩,←hlen]
  simp only [Yq,List.drop_left]
  rw [YR (by simp)]
 rw [h1,Yj,h2,Yj,yj]
structure pL (n:ab):Prop where
 kind:n.kind=0∧(0≤n.int∧n.int<2 ^ 63)∧n.label=YM #[]∧n.args=[]∨n.kind=1∧(-(2 ^ 62)≤n.int∧n.int<2 ^ 62)∧n.label=YM #[]∧n.args=[]∨n.kind=2∧n.int=0∧n.args=[]∨n.kind=3∧n.int=0
 label:2≤n.kind→n.label.size≠0∧n.label.size<2 ^ 40
 args:n.args.length≤8∧∀a∈n.args,0≤a∧a<2 ^ 63
def yB (x:Int):Nat:=if x<0 then ((-x)*2 - 1).toNat else (x*2).toNat
def dd (n:ab):List Int:=
 n.kind::(if n.kind=0 then de n.int.toNat else if n.kind=1 then de (yB n.int) else if n.kind=2 then ny n.label else ny n.label++de n.args.length++(n.args.map fun a=>de a.toNat).flatten)
theorem Ku {m:Nat}(hm:11≤m)(n0:ab)(ha:∀a∈n0.args,0≤a∧a<2 ^ 63)(hlen:n0.args.length≤8):∀(l:List Int) (f i:Nat) (w:List Int),l.length<f→n0.args.drop i=l→i≤8→w≠[]→w.length+20*l.length+20≤140737488355328→
  ∃x,en.l0 m n0 f (i:Int) w=some (x,w++(l.map fun a=>de a.toNat).flatten)
 | l,0,i,w,hf,_,_,_,_=>absurd hf (by omega)
 | [],f+1,i,w,hf,hd,hi,hw,hl=>by
  have:n0.args.length≤i:=by
   have:=congrArg ZS hd
   simp at this
   omega
  refine⟨i,?_⟩
  unfold en.l0
  rw [if_neg (by simp; omega)]
  simp
 | a::l,f+1,i,w,hf,hd,hi,hw,hl=>by
  have Aw:i<n0.args.length:=by
   have:=congrArg ZS hd
   simp at this
   omega
  have hg:n0.args[i]? = some a:=by
   have:=congrArg (·[0]?) hd
   simpa using this
  have Wu:a∈n0.args:=Zm hg
  obtain⟨h1,h2⟩:=ha a Wu
  obtain⟨b,rfl⟩:∃b:Nat,a=(b:Int):=⟨a.toNat,by omega⟩
  have Wv:n0.args.drop (i+1)=l:=by
   rw [←List.tail_drop,hd]; rfl
  have e1:(de b).length≤10:=di (by omega)
  simp only [YD] at hf hl
  obtain⟨x,ih⟩:=Ku hm n0 ha hlen l f (i+1) (w++de b) (by omega) Wv (by omega) (by simp [hw]) (by simp; omega)
  refine⟨x,?_⟩
  unfold en.l0
  have Mf:ix n0.args (i:Int)=some (b:Int):=by unfold ix; rw [if_pos (by omega)]; exact hg
  rw [if_pos (by simp; omega),Mf,Yj,gm h1 (by omega),zQ hm (by omega) hw (by omega),Yj,aA (by omega) (by omega)]
  rw [show ((i:Int)+1)=((i+1:Nat):Int) by omega]
  rw [ih,YJ,List.flatten_cons,Yx,Yq]
end Go.Proofs.YtmekcfdllhphlaaGreatDoor
namespace Go.Proofs.YtmekcfdllhphlaaGreatDoor
open Go Go.R
open Go.IntKind (i64 u64 u8 u32)
theorem Jt {x:Int}(h:x<0)(h2 : -(2 ^ 62)≤x):u64.wrap (u64.wrap (u64.wrap (i64.wrap (0 - x))*2) - 1)=(yB x:Int):=by
 have:(2:Int) ^ 62=4611686018427387904:=by decide
 rw [aA (by omega) (by omega),gm (x:=0 - x) (by omega) (by omega),gm (x:=(0 - x)*2) (by omega) (by omega),gm (by omega) (by omega)]
 unfold yB
 rw [if_pos h]
 omega
theorem Ju {x:Int}(h:¬x<0)(h2:x<2 ^ 62):u64.wrap (u64.wrap x*2)=(yB x:Int):=by
 have:(2:Int) ^ 62=4611686018427387904:=by decide
 rw [gm (x:=x) (by omega) (by omega),gm (by omega) (by omega)]
 unfold yB
 rw [if_neg h]
 omega
theorem BF {x:Int}(h1 : -(2 ^ 62)≤x)(h2:x<2 ^ 62):yB x<2 ^ 63:=by
 have:(2:Int) ^ 62=4611686018427387904:=by decide
 have:(2:Nat) ^ 63=9223372036854775808:=by decide
 unfold yB
 split<;>omega
theorem O5 {m:Nat}{w:List Int}{n:ab}(hm:11≤m)(W:pL n)(hl:w.length+n.label.size+1000≤140737488355328)(hw:w≠[]):en.f m w n=some (w++dd n):=by
 have Hj:(2:Nat) ^ 63=9223372036854775808:=by decide
 have Uu:(2:Int) ^ 63=9223372036854775808:=by decide
 have Ni:(2:Nat) ^ 64=18446744073709551616:=by decide
 have hk:0≤n.kind∧n.kind≤3:=by rcases W.kind with h | h | h | h<;>(have:=h.1; omega)
 unfold en.f
 rw [fR,show n.kind % 256=n.kind by omega,mV hw (by simp) (by simp; omega),Yj]
 rcases W.kind with⟨h,hi,_,_⟩| ⟨h,hi,_,_⟩| ⟨h,hi,_⟩| ⟨h,hi⟩
 ·obtain⟨b,hb⟩:∃b:Nat,n.int=(b:Int):=⟨n.int.toNat,by omega⟩
  rw [show dd n=0::de b by simp [dd,h,hb],h,if_pos (by decide),gm (by omega) (by omega),hb,zQ hm (by omega) (by simp) (by simp; omega),Yj]
  simp
 ·have hz:=BF hi.1 hi.2
  rw [show dd n=1::de (yB n.int) by simp [dd,h],h,if_neg (by decide),if_pos (by decide)]
  by_cases hn:n.int<0
  ·rw [if_pos (by simpa using hn),Jt hn hi.1,zQ hm (by omega) (by simp) (by simp; omega),Yj]
   simp
  ·rw [if_neg (by simpa using hn),Ju hn hi.2,zQ hm (by omega) (by simp) (by simp; omega),Yj]
   simp
 ·obtain⟨g1,g2⟩:=W.label (by omega)
  rw [show dd n=2::ny n.label by simp [dd,h],h,if_neg (by decide),if_neg (by decide),if_pos (by decide),Ks hm g1 (by simp) (by simp; omega),Yj]
  simp
 ·obtain⟨g1,g2⟩:=W.label (by omega)
  obtain⟨g3,g4⟩:=W.args
  have e1:(ny n.label).length≤10+n.label.size:=by
   unfold ny
   have:=di (n:=n.label.size) (by omega)
   simp [iW]; omega
  have e2:(de n.args.length).length≤10:=di (by omega)
  rw [show dd n=3::(ny n.label++de n.args.length++(n.args.map fun a=>de a.toNat).flatten) by simp [dd,h],h,if_neg (by decide),if_neg (by decide),if_neg (by decide),if_pos (by decide),Ks hm g1 (by simp) (by simp; omega),Yj,
   gm (by omega) (by omega),zQ hm (by omega) (by simp) (by simp; omega),Yj]
  obtain⟨x,hx⟩:=Ku hm n g4 g3 n.args m 0 (w++[3]++ny n.label++de n.args.length) (by omega) rfl (by omega) (by simp) (by simp; omega)
  have hx:en.l0 m n m (0:Int) (w++[3]++ny n.label++de n.args.length)=_:=hx
  rw [hx,Yj]
  simp
theorem Kv {m:Nat}(hm:11≤m)(x5:Int × dG)(k0:Int)(lb:ByteArray)(rest:List Int)(hx:0≤x5.1∧x5.1≤8):∀(l:List Int) (f i:Nat) (acc:List Int),l.length<f→(i:Int)+l.length=x5.1→acc.length+l.length≤8→(∀a∈l,0≤a∧a<2 ^ 63)→
  ∃x,cb.l1 m x5 f (i:Int) k0 0 lb acc ⟨(l.map fun a=>de a.toNat).flatten++rest,false⟩=some (x,k0,0,lb,acc++l,⟨rest,false⟩)
 | l,0,i,acc,hf,_,_,_=>absurd hf (by omega)
 | [],f+1,i,acc,hf,hi,ha,hl=>by
  refine⟨i,?_⟩
  unfold cb.l1
  simp only [Y6] at hi
  rw [if_neg (by unfold mn; simp; split<;>omega)]
  simp
 | a::l,f+1,i,acc,hf,hi,ha,hl=>by
  simp only [YD] at hf hi ha
  have Uu:(2:Int) ^ 63=9223372036854775808:=by decide
  have Hj:(2:Nat) ^ 63=9223372036854775808:=by decide
  obtain⟨h1,h2⟩:=hl a (by simp)
  obtain⟨b,rfl⟩:∃b:Nat,a=(b:Int):=⟨a.toNat,by omega⟩
  obtain⟨x,ih⟩:=Kv hm x5 k0 lb rest hx l f (i+1) (acc++[(b:Int)]) (by omega) (by omega) (by simp; omega) (fun c hc=>hl c (by simp [hc]))
  refine⟨x,?_⟩
  unfold cb.l1
  rw [if_pos (by unfold mn; simp; split<;>omega),YJ,List.flatten_cons,Yx,Yq,vt hm (by omega),Yj]
  have jS:app 8 acc [(b:Int)]=some (acc++[(b:Int)]):=by unfold app; rw [if_pos (by simp; omega)]
  dsimp only
  rw [jS,Yj,aA (by omega) (by omega),show ((i:Int)+1)=((i+1:Nat):Int) by omega,ih]
  simp
end Go.Proofs.YtmekcfdllhphlaaGreatDoor
namespace Go.Proofs.YtmekcfdllhphlaaGreatDoor
open Go Go.R
open Go.IntKind (i64 u64 u8 u32)
theorem Hk {x:Int}(h:¬x<0)(h2:x<2 ^ 62):¬(Zp (yB x:Int) 2==1)=true∧i64.wrap (Int.tdiv (yB x:Int) 2)=x:=by
 have hz:(yB x:Int)=x*2:=by unfold yB; rw [if_neg h]; omega
 rw [hz,Int.mul_tmod_left,Int.mul_tdiv_cancel _ (by decide),aA (by omega) (by omega)]
 exact⟨by decide,rfl⟩
theorem Jv {x:Int}(h:x<0)(h2 : -(2 ^ 62)≤x):(Zp (yB x:Int) 2==1)=true∧i64.wrap (0 - i64.wrap (i64.wrap (Int.tdiv (yB x:Int) 2)+1))=x:=by
 have hz:(yB x:Int)=((-x - 1).toNat*2+1:Nat):=by unfold yB; rw [if_pos h]; omega
 have h3:Zp (((-x - 1).toNat*2+1:Nat):Int) 2=1:=by
  rw [ZO (by omega)]; omega
 have h4:Int.tdiv (((-x - 1).toNat*2+1:Nat):Int) 2 = -x - 1:=by
  rw [Int.tdiv_eq_ediv_of_nonneg (by omega)]; omega
 rw [hz,h3,h4,aA (x:=-x - 1) (by omega) (by omega),aA (x:=-x - 1+1) (by omega) (by omega),aA (by omega) (by omega)]
 exact⟨by decide,by omega⟩
theorem O6 {m:Nat}{n:ab}{rest:List Int}(hm:11≤m)(W:pL n):cb.f m ⟨dd n++rest,false⟩=some (n,⟨rest,false⟩):=by
 have Hj:(2:Nat) ^ 63=9223372036854775808:=by decide
 have Uu:(2:Int) ^ 63=9223372036854775808:=by decide
 obtain⟨kd,nt,lb,Jw⟩:=n
 unfold cb.f
 rcases W.kind with⟨h,hi,O7,ha⟩| ⟨h,hi,O7,ha⟩| ⟨h,hi,ha⟩| ⟨h,hi⟩
 ·simp only at h hi O7 ha
  subst h O7 ha
  obtain⟨b,rfl⟩:∃b:Nat,nt=(b:Int):=⟨nt.toNat,by omega⟩
  rw [show dd ⟨0,(b:Int),YM #[],[]⟩=0::de b by simp [dd],YL,pJ,Yj]
  dsimp only
  rw [aA (by omega) (by omega),if_pos (by decide),vt hm (by omega),Yj]
 ·simp only at h hi O7 ha
  subst h O7 ha
  rw [show dd ⟨1,nt,YM #[],[]⟩=1::de (yB nt) by simp [dd],YL,pJ,Yj]
  dsimp only
  rw [aA (x:=1) (by omega) (by omega),if_neg (by decide),if_pos (by decide),vt hm (BF hi.1 hi.2),Yj]
  by_cases hn:nt<0
  ·obtain⟨z1,z2⟩:=Jv hn hi.1
   rw [if_pos z1,z2]
  ·obtain⟨z1,z2⟩:=Hk hn hi.2
   rw [if_neg z1,z2]
 ·simp only at h hi ha
  subst h hi ha
  obtain⟨g1,g2⟩:=W.label (by simp)
  simp only at g1 g2
  rw [show dd ⟨2,0,lb,[]⟩=2::ny lb by simp [dd],YL,pJ,Yj]
  dsimp only
  rw [aA (x:=2) (by omega) (by omega),if_neg (by decide),if_neg (by decide),if_pos (by decide),Kt hm (by omega),Yj]
 ·simp only at h hi
  subst h hi
  obtain⟨g1,g2⟩:=W.label (by simp)
  obtain⟨g3,g4⟩:=W.args
  simp only at g1 g2 g3 g4
  rw [show dd ⟨3,0,lb,Jw⟩=3::(ny lb++de Jw.length++(Jw.map fun a=>de a.toNat).flatten) by simp [dd],YL,pJ,Yj]
  dsimp only
  rw [aA (x:=3) (by omega) (by omega),if_neg (by decide),if_neg (by decide),if_neg (by decide),if_pos (by decide)]
  rw [Yx,Yx,Kt hm (by omega),Yj]
  dsimp only
  rw [vt hm (by omega),Yj,if_neg (by simp; omega)]
  obtain⟨x,hx⟩:=Kv hm ((Jw.length:Int),(⟨(Jw.map fun a=>de a.toNat).flatten++rest,false⟩:dG)) 3 lb rest (by simp; omega) Jw m 0 [] (by omega) (by simp) (by simp; omega) g4
  have hx:cb.l1 m ((Jw.length:Int),(⟨(Jw.map fun a=>de a.toNat).flatten++rest,false⟩:dG)) m (0:Int) 3 0 lb [] ⟨(Jw.map fun a=>de a.toNat).flatten++rest,false⟩=_:=hx
  rw [hx,Yj]
  simp
end Go.Proofs.YtmekcfdllhphlaaGreatDoor
namespace Go.Proofs.YtmekcfdllhphlaaGreatDoor
open Go Go.R
open Go.IntKind (i64 u64 u8 u32)
def wD:cm:=gI [0,2,3,5,6,7,8,9,16,17] [] [1022,1018,907,779,899,907,651,139,651,651,907,1021] [] []
def aT.l1 (m:Nat)  : Nat→Int→Int→Option (Int × Int)
 | 0,_,_=>none
 | k+1,qL,x1=>if (decide (x1<(8:Int)))=true then (aT.l1 m k (jt .u32 (gh .u32 qL 1) (fw .u32 (3988292384:Int) (u32.wrap (0 - (fw .u32 qL (1:Int)))))) (i64.wrap (x1+(1:Int)))) else (some ((qL,x1)))
def aT.l0 (m:Nat)(b0:List Int):Nat→Int→Int→Option (Int × Int)
 | 0,_,_=>none
 | k+1,uE,x0=>if (decide (x0<(b0.length:Int)))=true then ((ix b0 x0).bind fun v0=>(aT.l1 m m (jt .u32 uE (u32.wrap v0)) (0:Int)).bind fun bg=>match bg with | (Ml,x2)=>aT.l0 m b0 k Ml (i64.wrap (x0+(1:Int)))) else (some ((uE,x0)))
def aT.f (m:Nat)(b0:List Int):Option (Int):=(aT.l0 m b0 m (4294967295:Int) (0:Int)).bind fun bR=>match bR with | (Mm,x3)=>some (i64.wrap (F7 .u32 Mm))
def aT.fin (L:Mem)(r:Int)(s:St):Prop:=∃av,aH Tryz.prog (s.open wD) Tryz.f14.results.toList=some av∧gu s.h av (.int .i64 r)
def Uv (cf:CallF)(m:Nat):Prop:=∀(b0:List Int) (r:Int),aT.f m b0=some r→∀h xs,eY fq h xs [aj.fz b0]→cf 14 xs h=some (.int .i64 r,h)
section
variable {cf:CallF}{m:Nat}
theorem aT.fC (L:Mem)(b0:List Int)(x0:Int)   : bL Tryz.prog cf wD m (sub [1,1,0,1,0,0,1,1,0,0,1,1,1,0,0] (codeOf Tryz.f14)) (fun k (σ:Int × Int)=>aT.l1 m k σ.1 σ.2) (fun σ s=>match σ with | (qL,x1)=>∃h1,s=⟨[.any,.any,.int .u32 qL,.any,aj.fz b0,.int .i64 (b0.length:Int),.int .i64 x0,.any,.int .i64 x1,.any],[],h1⟩∧Has h1 (L)) (fun out e s=>(e = .exit 2∧∃qL x1,(qL,x1)=out∧∃Hl Bq h1,s=⟨[.any,.any,.int .u32 qL,.any,aj.fz b0,.int .i64 (b0.length:Int),.int .i64 x0,.any,Hl,Bq],[],h1⟩∧Has h1 (L))):=by
 refine ig (fun _=>rfl) ?_
 rintro k ⟨qL,x1⟩ s out ⟨h1,rfl,o1⟩ H
 have H:aT.l1 m (k+1) qL x1=some out:=H
 refine q1 <| qq <| qc H (fun c1 H=>?_) (fun c1 H=>?_)
 ·exact qk <| qq <| qb 3 <| q0 <| q0 <| ⟨(jt .u32 (gh .u32 qL 1) (fw .u32 (3988292384:Int) (u32.wrap (0 - (fw .u32 qL (1:Int))))),i64.wrap (x1+(1:Int))),⟨h1,by kernel_rfl,o1⟩,H⟩
 ·exact qx 2 <| ⟨rfl,qL,x1,oi H,.int .i64 x1,.bool (decide (x1<(8:Int))),h1,by kernel_rfl,o1⟩
theorem aT.bP (L:Mem)(b0:List Int)   : bL Tryz.prog cf wD m (sub [1,1,0,1,0,0] (codeOf Tryz.f14)) (fun k (σ:Int × Int)=>aT.l0 m b0 k σ.1 σ.2) (fun σ s=>match σ with | (uE,x0)=>∃h0,s=⟨.any :: .any :: .int .u32 uE :: .any::aj.fz b0 :: .int .i64 (b0.length:Int) :: .int .i64 x0::kK [],[],h0⟩∧Has h0 (L)) (fun out e s=>(e = .exit 0∧∃uE x0,(uE,x0)=out∧∃Ew xL r6 ud h0,s=⟨[.any,.any,.int .u32 uE,.any,Ew,xL,r6,ud,.any,.any],[],h0⟩∧Has h0 (L))):=by
 refine ig (fun _=>rfl) ?_
 rintro k ⟨uE,x0⟩ s out ⟨h0,rfl,o0⟩ H
 have H:aT.l0 m b0 (k+1) uE x0=some out:=H
 refine q1 <| qq <| qc H (fun c0 H=>?_) (fun c0 H=>?_)
 ·refine qk <| qq <| qb 1 <| qq ?_
  obtain⟨v0,e0,H⟩:=aI H
  refine qr [.v 0 (bI (k:=.i64) (E:=aj) (l:=b0) Ek e0),.v 1 (dv  (E:=aj) (l:=b0) h0 A5 e0 rfl)] <| qq <| q0 <| qq <| q0 <| qb 2 ?_
  obtain⟨bg,e1,H⟩:=aI H
  refine ql (aT.fC L b0 x0   (jt .u32 uE (u32.wrap v0),(0:Int)) _ _ ⟨h0,by kernel_rfl,o0⟩ e1) ?_
  rintro e s ⟨rfl,Ml,x2,rfl,g0,g1,h2,rfl,o2⟩
  try dsimp only at H
  exact q0 <| ⟨(Ml,i64.wrap (x0+(1:Int))),⟨h2,by kernel_rfl,o2⟩,H⟩
 ·exact qx 0 <| ⟨rfl,uE,x0,oi H,aj.fz b0,.int .i64 (b0.length:Int),.int .i64 x0,.bool (decide (x0<(b0.length:Int))),h0,by kernel_rfl,o0⟩
theorem sf {aU:FuncId→cm}(ha:aU 14=wD)  (b0:List Int)(h:AHeap)(L:Mem)  (o:Has h (L)){out:Int}(H:aT.f m b0=some out) :
  ∃r h',be Tryz.prog aU cf m 14 [aj.fz b0] h=some (r,h')∧gu h' r (.int .i64 out):=by
 refine aq (fn:=Tryz.f14) ha Tryz.func14 (by kernel_rfl) (by kernel_rfl) ?_
 refine aG (Q:=fun s=>aT.fin L out s) (fun _ _ h=>h) ?_
 have H:_=some out:=H
 unfold aT.f at H
 show dt _ cf wD m _ ⟨aj.fz b0::Ee [],[],h⟩ _
 refine q1 <| qq <| q0 <| qq <| qq <| q0 <| qb 0 ?_
 obtain⟨bR,e2,H⟩:=aI H
 refine ql (aT.bP L b0   ((4294967295:Int),(0:Int)) _ _ ⟨h,by kernel_rfl,o⟩ e2) ?_
 rintro e s ⟨rfl,Mm,x3,rfl,g2,g3,g4,g5,h3,rfl,o3⟩
 try dsimp only at H
 obtain rfl:=oi H
 exact q1 <| qt <| ⟨.inl rfl,cp (.int .i64 (i64.wrap (F7 .u32 Mm))) h3 (ck (eS))⟩
end
end Go.Proofs.YtmekcfdllhphlaaGreatDoor
namespace Go.Proofs.YtmekcfdllhphlaaGreatDoor
open Go Go.R
open Go.IntKind (i64 u64 u8 u32)
def C5:cm:=gI [0,2,3] [17] [6,3,5] [] [(0,[(2,none,1)])]
def bM.f (m:Nat)(b0:List Int):Option ((List Int)):=(aT.f m b0).bind fun x0=>some ([u8.wrap x0,u8.wrap (gh .i64 x0 8),u8.wrap (gh .i64 x0 16),u8.wrap (gh .i64 x0 24)])
def bM.fin (L:Mem)(r:(List Int))(s:St):Prop:=∃av,aH Tryz.prog (s.open C5) Tryz.f24.results.toList=some av∧gu s.h av (aj.fz r)
def R5 (cf:CallF)(m:Nat):Prop:=∀(b0:List Int) (r:(List Int)),bM.f m b0=some r→∀h xs,eY fq h xs [aj.fz b0]→cf 24 xs h=some (aj.fz r,h)
section
variable {cf:CallF}{m:Nat}
theorem pM {aU:FuncId→cm}(ha:aU 24=C5)(R6:Uv cf m)(b0:List Int)(h:AHeap)(L:Mem)  (o:Has h (L)){out:(List Int)}(H:bM.f m b0=some out) :
  ∃r h',be Tryz.prog aU cf m 24 [aj.fz b0] h=some (r,h')∧gu h' r (aj.fz out):=by
 refine aq (fn:=Tryz.f24) ha Tryz.func24 (by kernel_rfl) (by kernel_rfl) ?_
 refine aG (Q:=fun s=>bM.fin L out s) (fun _ _ h=>h) ?_
 have H:_=some out:=H
 unfold bM.f at H
 show dt _ cf C5 m _ ⟨[aj.fz b0,.any,.any],[none],h⟩ _
 refine q1 <| qq ?_
 obtain⟨x0,e0,H⟩:=aI H
 refine qr [.a 1 (R6 _ _ e0 h _ (ia (ae (cW (E:=aj)) (aB))))] <| qq ?_
 obtain⟨az,h0,e1,o0⟩:=Cs (E:=aj) (l:=[u8.wrap x0,u8.wrap (gh .i64 x0 8),u8.wrap (gh .i64 x0 16),u8.wrap (gh .i64 x0 24)]) (cs:=[.int .u8 (u8.wrap x0),.int .u8 (u8.wrap (gh .i64 x0 8)),.int .u8 (u8.wrap (gh .i64 x0 16)),.int .u8 (u8.wrap (gh .i64 x0 24))]) o (by kernel_rfl)
 obtain rfl:=oi H
 exact qr [.a 11 e1] <| qt <| ⟨.inl rfl,cp (.rs az 0 (([u8.wrap x0,u8.wrap (gh .i64 x0 8),u8.wrap (gh .i64 x0 16),u8.wrap (gh .i64 x0 24)]:List Int).length) 1) h0 (ck (zj (E:=aj) (l:=([u8.wrap x0,u8.wrap (gh .i64 x0 8),u8.wrap (gh .i64 x0 16),u8.wrap (gh .i64 x0 24)])) (q:=0) o0 rfl (fun _=>rfl)))⟩
end
end Go.Proofs.YtmekcfdllhphlaaGreatDoor
namespace Go.Proofs.YtmekcfdllhphlaaGreatDoor
open Go Go.R
open Go.IntKind (i64 u64 u8 u32)
def wE:cm:=gI [0,2,3,5,7,8,24,25,26,27,37,38,39,40] [5,7] [16382,16378,16378,16378,16378,15931,15419,15923,15923,8763,571,8747,8763,8763,15931,16351,16381] [] []
def aP.l1 (m:Nat)(v0:an):Nat→Int→(List Int)→Option (Int × (List Int))
 | 0,_,_=>none
 | k+1,x3,si=>if (decide (x3<(v0.nodes.length:Int)))=true then ((ix v0.nodes x3).bind fun v1=>(en.f m si v1).bind fun x4=>aP.l1 m v0 k (i64.wrap (x3+(1:Int))) x4) else (some ((x3,si)))
def aP.l0 (m:Nat)(ba:List an):Nat→Int→(List Int)→Option (Int × (List Int))
 | 0,_,_=>none
 | k+1,x1,sj=>if (decide (x1<(ba.length:Int)))=true then ((ix ba x1).bind fun v0=>(bZ.f m sj (u64.wrap (v0.nodes.length:Int))).bind fun x2=>(aP.l1 m v0 m (0:Int) x2).bind fun bg=>match bg with | (x5,Mn)=>aP.l0 m ba k (i64.wrap (x1+(1:Int))) Mn) else (some ((x1,sj)))
def aP.f (m:Nat)(ba:List an):Option ((List Int)):=(wB ([]) ([(76:Int)])).bind fun yA=>(Gg yA ([(1:Int)])).bind fun OZ=>(bZ.f m OZ (u64.wrap (ba.length:Int))).bind fun x0=>(aP.l0 m ba m (0:Int) x0).bind fun bR=>match bR with | (x6,yk)=>(tI yk).bind fun u0=>(bM.f m yk).bind fun x7=>(app 1 yk x7).bind fun x8=>some x8
def aP.fin (L:Mem)(r:(List Int))(s:St):Prop:=∃av,aH Tryz.prog (s.open wE) Tryz.f40.results.toList=some av∧gu s.h av (aj.fz r)
def Uw (cf:CallF)(m:Nat):Prop:=∀(ba:List an) (r:(List Int)),aP.f m ba=some r→∀h xs,eY fq h xs [aZ.fz ba]→cf 40 xs h=some (aj.fz r,h)
section
variable {cf:CallF}{m:Nat}
theorem aP.fC (L:Mem)(ba:List an)(az:Nat)(x1:Int)(v0:an)  (Hm:PZ cf m):bL Tryz.prog cf wE m (sub [1,1,1,1,1,0,1,0,0,1,1,0,0,1,1,1,0,0] (codeOf Tryz.f40)) (fun k (σ:Int × (List Int))=>aP.l1 m v0 k σ.1 σ.2) (fun σ s=>match σ with | (x3,si)=>∃hY h6,s=⟨.any :: .any :: .ptr az 0::kK [aZ.fz ba,.int .i64 (ba.length:Int),.int .i64 x1,.any,ah.fz v0.nodes,.int .i64 (v0.nodes.length:Int),.int .i64 x3,.any],[none,none],h6⟩∧Has h6 ((az,.ob [.rs hY 0 si.length 1,.int .i64 (0:Int),.int .i8 (0:Int)])::(hY,.row 5 (aj.l si))::L)) (fun out e s=>(e = .exit 2∧∃x3 si,(x3,si)=out∧∃GU GV GW GX hY h6,s=⟨.any :: .any :: .ptr az 0::kK [aZ.fz ba,.int .i64 (ba.length:Int),.int .i64 x1,.any,GU,GV,GW,GX],[none,none],h6⟩∧Has h6 ((az,.ob [.rs hY 0 si.length 1,.int .i64 (0:Int),.int .i8 (0:Int)])::(hY,.row 5 (aj.l si))::L))):=by
 refine ig (fun _=>rfl) ?_
 rintro k ⟨x3,si⟩ s out ⟨hY,h6,rfl,o6⟩ H
 have H:aP.l1 m v0 (k+1) x3 si=some out:=H
 refine q1 <| qq <| qc H (fun c1 H=>?_) (fun c1 H=>?_)
 ·refine qk <| qq <| qb 3 <| qq ?_
  obtain⟨v1,ow,H⟩:=aI H
  refine qr [.v 0 (bI (k:=.i64) (E:=ah) (l:=v0.nodes) mf ow),.v 1 (dL  (E:=ah) (l:=v0.nodes) h6 tQ tR ow)] ?_
  obtain⟨x4,rI,H⟩:=aI H
  obtain⟨iJ,h7,sK,o7⟩:=Hm _ _ _ rI h6 _ _ _ (o6)  [.ptr az 0,.agg [.int .i64 v1.kind,.int .i64 v1.int,.str v1.label,aa.fz v1.args]] (ak (rfl) (ak (aR (tC (cY (bJ) (cY (bJ) (cY (xD) (cY (iE (E:=aa)) (gZ))))))) (bn)))
  exact qr [.a 2 sK] <| q0 <| ⟨(i64.wrap (x3+(1:Int)),x4),⟨iJ,h7,by kernel_rfl,o7⟩,H⟩
 ·exact qx 2 <| ⟨rfl,x3,si,oi H,ah.fz v0.nodes,.int .i64 (v0.nodes.length:Int),.int .i64 x3,.bool (decide (x3<(v0.nodes.length:Int))),hY,h6,by kernel_rfl,o6⟩
theorem aP.bP (L:Mem)(ba:List an)(az:Nat)  (pK:Nh cf m)(Hm:PZ cf m):bL Tryz.prog cf wE m (sub [1,1,1,1,1,0,1,0,0] (codeOf Tryz.f40)) (fun k (σ:Int × (List Int))=>aP.l0 m ba k σ.1 σ.2) (fun σ s=>match σ with | (x1,sj)=>∃gY h4,s=⟨.any :: .any :: .ptr az 0::kK (aZ.fz ba :: .int .i64 (ba.length:Int) :: .int .i64 x1::rV []),[none,none],h4⟩∧Has h4 ((az,.ob [.rs gY 0 sj.length 1,.int .i64 (0:Int),.int .i8 (0:Int)])::(gY,.row 5 (aj.l sj))::L)) (fun out e s=>(e = .exit 0∧∃x1 sj,(x1,sj)=out∧∃Mb R7 Mo BG gY h4,s=⟨.any :: .any :: .ptr az 0::kK (Mb::R7::Mo::BG::oH []),[none,none],h4⟩∧Has h4 ((az,.ob [.rs gY 0 sj.length 1,.int .i64 (0:Int),.int .i8 (0:Int)])::(gY,.row 5 (aj.l sj))::L))):=by
 refine ig (fun _=>rfl) ?_
 rintro k ⟨x1,sj⟩ s out ⟨gY,h4,rfl,o4⟩ H
 have H:aP.l0 m ba (k+1) x1 sj=some out:=H
 refine q1 <| qq <| qc H (fun c0 H=>?_) (fun c0 H=>?_)
 ·refine qk <| qq <| qb 1 <| qq ?_
  obtain⟨v0,e7,H⟩:=aI H
  refine qr [.v 0 (bI (k:=.i64) (E:=aZ) (l:=ba) E2 e7),.v 1 (dL  (E:=aZ) (l:=ba) h4 Ok Ol e7)] <| qq ?_
  obtain⟨x2,e8,H⟩:=aI H
  obtain⟨hX,h5,e9,o5⟩:=pK _ _ _ e8 h4 _ _ _ (o4)  [.ptr az 0,.int .u64 (u64.wrap (v0.nodes.length:Int))] (ak (rfl) (ak (aR (bJ)) (bn)))
  refine qr [.a 5 e9] <| qq <| q0 <| qb 2 ?_
  obtain⟨bg,sL,H⟩:=aI H
  refine ql (aP.fC L ba az x1 v0  Hm ((0:Int),x2) _ _ ⟨hX,h5,by kernel_rfl,o5⟩ sL) ?_
  rintro e s ⟨rfl,x5,Mn,rfl,g0,g1,g2,g3,ly,h8,rfl,o8⟩
  try dsimp only at H
  exact q0 <| ⟨(i64.wrap (x1+(1:Int)),Mn),⟨ly,h8,by kernel_rfl,o8⟩,H⟩
 ·exact qx 0 <| ⟨rfl,x1,sj,oi H,aZ.fz ba,.int .i64 (ba.length:Int),.int .i64 x1,.bool (decide (x1<(ba.length:Int))),gY,h4,by kernel_rfl,o4⟩
theorem pN {aU:FuncId→cm}(ha:aU 40=wE)(Mp:R5 cf m)(yd:Om cf m)(pK:Nh cf m)(Hm:PZ cf m)(R8:T5 cf m)(ba:List an)(h:AHeap)(L:Mem)  (o:Has h (L)){out:(List Int)}(H:aP.f m ba=some out) :
  ∃r h',be Tryz.prog aU cf m 40 [aZ.fz ba] h=some (r,h')∧gu h' r (aj.fz out):=by
 refine aq (fn:=Tryz.f40) ha Tryz.func40 (by kernel_rfl) (by kernel_rfl) ?_
 refine aG (Q:=fun s=>aP.fin L out s) (fun _ _ h=>h) ?_
 have H:_=some out:=H
 unfold aP.f at H
 show dt _ cf wE m _ ⟨aZ.fz ba::ot [],[none,none],h⟩ _
 refine q1 <| qq ?_
 obtain⟨az,h0,e0,o0⟩:=kI (cs:=[.nils,.int .i64 (0:Int),.int .i8 (0:Int)]) o (by kernel_rfl)
 refine qr [.a 1 e0] <| qq ?_
 obtain⟨yA,e1,H⟩:=aI H
 obtain⟨fK,h1,e2,o1⟩:=LI yd o0 e1
 refine qr [.a 3 e2] <| qq ?_
 obtain⟨OZ,e3,H⟩:=aI H
 obtain⟨dh,h2,e4,o2⟩:=sH (bs:=yA) yd o1 e3
 refine qr [.a 3 e4] <| qq ?_
 obtain⟨x0,e5,H⟩:=aI H
 obtain⟨fu,h3,e6,o3⟩:=pK _ _ _ e5 h2 _ _ _ (o2)  [.ptr az 0,.int .u64 (u64.wrap (ba.length:Int))] (ak (rfl) (ak (aR (bJ)) (bn)))
 refine qr [.a 4 e6] <| qq <| qq <| q0 <| qb 0 ?_
 obtain⟨bR,uo,H⟩:=aI H
 refine ql (aP.bP L ba az  pK Hm ((0:Int),x0) _ _ ⟨fu,h3,by kernel_rfl,o3⟩ uo) ?_
 rintro e s ⟨rfl,x6,yk,rfl,g4,g5,g6,g7,yz,h9,rfl,o9⟩
 try dsimp only at H
 refine qq ?_
 obtain⟨u0,sM,H⟩:=aI H
 obtain⟨h10,wy,vo⟩:=Jc (bs:=yk) R8 o9 sM
 refine qr [.a 3 wy] ?_
 have wq:Has h10 ((yz,.sl yk.length 1 (aj.l yk))::L):=Has.del vo 0
 refine qq ?_
 obtain⟨x7,xQ,H⟩:=aI H
 obtain⟨x8,CN,H⟩:=aI H
 obtain⟨eU,h11,xR,ug⟩:=fP (P:=Tryz.prog) (E:=aj) (l:=yk) (q:=0) (t2:=22) (x:=aj.fz x7) (l2:=x7) Ek wq rfl (zf (E:=aj) (l2:=x7) _) rfl CN
 obtain rfl:=oi H
 exact qr [.a 2 (Mp _ _ xQ h10 _ (ia (ae (rG (E:=aj) (l:=yk) (q:=0) wq rfl (fun _=>rfl)) (aB)))),.a 3 xR] <| qt <| ⟨.inl rfl,cp (.rs eU 0 x8.length 1) h11 (ck (zj (E:=aj) (l:=x8) (q:=0) ug rfl (fun _=>rfl)))⟩
end
end Go.Proofs.YtmekcfdllhphlaaGreatDoor
namespace Go.Proofs.YtmekcfdllhphlaaGreatDoor
open Go Go.R
open Go.IntKind (i64 u64 u8 u32)
def C6:cm:=gI [0,1,2,3,6] [1,2] [25,9,19,19] [] []
def dj.f (m:Nat)(t0:an):Option (an × Int):=(gN.f m t0).bind fun x0=>if (!x0)=true then (some ((an.mk ([]) (0:Int)),(2:Int))) else ((cG.f m t0).bind fun x1=>some (x1,(0:Int)))
def dj.fin (L:Mem)(r:an × Int)(s:St):Prop:=∃av,aH Tryz.prog (s.open C6) Tryz.f35.results.toList=some av∧xz s.h av (.tup [.agg [ah.fz r.1.nodes,.int .i64 r.1.root],.int .i64 r.2])
def R9 (cf:CallF)(m:Nat):Prop:=∀(t0:an) (r:an × Int),dj.f m t0=some r→∀h xs,l9 xs [.agg [ah.fz t0.nodes,.int .i64 t0.root]]→cf 35 xs h=some (.tup [.agg [ah.fz r.1.nodes,.int .i64 r.1.root],.int .i64 r.2],h)
section
variable {cf:CallF}{m:Nat}
theorem sk {aU:FuncId→cm}(ha:aU 35=C6)(Sa:Uh cf m)(Sb:Um cf m)(t0:an)(h:AHeap)(L:Mem)  (o:Has h (L)){out:an × Int}(H:dj.f m t0=some out) :
  ∃r h',be Tryz.prog aU cf m 35 [.agg [ah.fz t0.nodes,.int .i64 t0.root]] h=some (r,h')∧xz h' r (.tup [.agg [ah.fz out.1.nodes,.int .i64 out.1.root],.int .i64 out.2]):=by
 refine aq (fn:=Tryz.f35) ha Tryz.func35 (by kernel_rfl) (by kernel_rfl) ?_
 refine aG (Q:=fun s=>dj.fin L out s) (fun _ _ h=>h) ?_
 have H:_=some out:=H
 unfold dj.f at H
 show dt _ cf C6 m _ ⟨.agg [ah.fz t0.nodes,.int .i64 t0.root]::oH [],[none,none],h⟩ _
 refine q1 <| qq <| qq ?_
 obtain⟨x0,e0,H⟩:=aI H
 refine qr [.a 1 (Sa _ _ e0 h _ (ia (ae (dN (ae (cW (E:=ah)) (ae (aN) (aB)))) (aB))))] <| qc H (fun c0 H=>?_) (fun c0 H=>?_)
 ·obtain rfl:=oi H
  exact q1 <| qt <| ⟨.inl rfl,vk (.tup [.agg [.nils,.int .i64 (0:Int)],.int .i64 (2:Int)]) h (oK (fQ (ae (dN (ae (gr) (ae (aN) (aB)))) (ae (aN) (aB)))))⟩
 ·refine qk <| qq ?_
  obtain⟨x1,e1,H⟩:=aI H
  obtain rfl:=oi H
  exact qr [.a 1 (Sb _ _ e1 h _ (cY (tC (cY (iE (E:=ah)) (cY (bJ) (gZ)))) (gZ)))] <| qt <| ⟨.inl rfl,vk (.tup [.agg [ah.fz x1.nodes,.int .i64 x1.root],.int .i64 (0:Int)]) h (oK (fQ (ae (dN (ae (cW) (ae (aN) (aB)))) (ae (aN) (aB)))))⟩
end
end Go.Proofs.YtmekcfdllhphlaaGreatDoor
namespace Go.Proofs.YtmekcfdllhphlaaGreatDoor
open Go Go.R
open Go.IntKind (i64 u64 u8 u32)
def C7:cm:=gI [0,1,2] [1] [5,3] [] []
def fX.f (m:Nat)(n0:ab):Option (Bool):=some (n0.kind==(4:Int))
def fX.fin (L:Mem)(r:Bool)(s:St):Prop:=∃av,aH Tryz.prog (s.open C7) Tryz.f39.results.toList=some av∧gu s.h av (.bool r)
def Ux (cf:CallF)(m:Nat):Prop:=∀(n0:ab) (r:Bool),fX.f m n0=some r→∀h xs,eY fq h xs [.agg [.int .i64 n0.kind,.int .i64 n0.int,.str n0.label,aa.fz n0.args]]→cf 39 xs h=some (.bool r,h)
section
variable {cf:CallF}{m:Nat}
theorem pO {aU:FuncId→cm}(ha:aU 39=C7)  (n0:ab)(h:AHeap)(L:Mem)  (o:Has h (L)){out:Bool}(H:fX.f m n0=some out) :
  ∃r h',be Tryz.prog aU cf m 39 [.agg [.int .i64 n0.kind,.int .i64 n0.int,.str n0.label,aa.fz n0.args]] h=some (r,h')∧gu h' r (.bool out):=by
 refine aq (fn:=Tryz.f39) ha Tryz.func39 (by kernel_rfl) (by kernel_rfl) ?_
 refine aG (Q:=fun s=>fX.fin L out s) (fun _ _ h=>h) ?_
 have H:_=some out:=H
 unfold fX.f at H
 show dt _ cf C7 m _ ⟨[.agg [.int .i64 n0.kind,.int .i64 n0.int,.str n0.label,aa.fz n0.args],.any,.any],[none],h⟩ _
 obtain rfl:=oi H
 exact q1 <| qq <| q0 <| qt <| ⟨.inl rfl,cp (.bool (n0.kind==(4:Int))) h (ck (au))⟩
end
end Go.Proofs.YtmekcfdllhphlaaGreatDoor
namespace Go.Proofs.YtmekcfdllhphlaaGreatDoor
open Go Go.R
open Go.IntKind (i64 u64 u8 u32)
def C8:cm:=gI [0,1,2] [1] [5,3] [] []
def dP.f (m:Nat)(t0:an):Option (Bool):=(fS.f m t0.nodes (fun y0=>fX.f m y0)).bind fun x0=>some x0
def dP.fin (L:Mem)(r:Bool)(s:St):Prop:=∃av,aH Tryz.prog (s.open C8) Tryz.f37.results.toList=some av∧gu s.h av (.bool r)
def Uy (cf:CallF)(m:Nat):Prop:=∀(t0:an) (r:Bool),dP.f m t0=some r→∀h xs,eY fq h xs [.agg [ah.fz t0.nodes,.int .i64 t0.root]]→cf 37 xs h=some (.bool r,h)
section
variable {cf:CallF}{m:Nat}
theorem pP {aU:FuncId→cm}(ha:aU 37=C8)(L9:Ro cf m)(Sd:Ux cf m)(t0:an)(h:AHeap)(L:Mem)  (o:Has h (L)){out:Bool}(H:dP.f m t0=some out) :
  ∃r h',be Tryz.prog aU cf m 37 [.agg [ah.fz t0.nodes,.int .i64 t0.root]] h=some (r,h')∧gu h' r (.bool out):=by
 refine aq (fn:=Tryz.f37) ha Tryz.func37 (by kernel_rfl) (by kernel_rfl) ?_
 refine aG (Q:=fun s=>dP.fin L out s) (fun _ _ h=>h) ?_
 have H:_=some out:=H
 unfold dP.f at H
 show dt _ cf C8 m _ ⟨[.agg [ah.fz t0.nodes,.int .i64 t0.root],.any,.any],[none],h⟩ _
 refine q1 <| qq ?_
 obtain⟨x0,e0,H⟩:=aI H
 obtain rfl:=oi H
 exact qr [.a 2 (L9 _ _ _ e0 h (Has.pos o) 39 [] rfl (fun y0 r hr=>Sd y0 r hr h _ (ia (ae (dN (ae (aN) (ae (aN) (ae (b7) (ae (cW (E:=aa)) (aB)))))) (aB)))) _ (ak (aR (iE (E:=ah))) (ak ((rfl:ay (.fn 39 [])=_)) (bn))))] <| qt <| ⟨.inl rfl,cp (.bool x0) h (ck (au))⟩
end
end Go.Proofs.YtmekcfdllhphlaaGreatDoor
namespace Go.Proofs.YtmekcfdllhphlaaGreatDoor
open Go Go.R
open Go.IntKind (i64 u64 u8 u32)
def zT:cm:=gI [0,2,3,4,6,7,8,9,12,13,14,15,16,25,32,37] [6,7] [65534,65278,65529,65526,61943,57847,61927,61847,53719,65529,61943,61943,49143,65529,65407,32639,65529,65529] [(12,[(4,none,0)])] [(3,[(4,none,2)])]
def bj.l0 (m:Nat)(ba:List an):Nat→(List an)→Int→Option (Sum ((List Int) × Int) ((List an) × Int))
 | 0,_,_=>none
 | k+1,iA,x0=>if (decide (x0<(ba.length:Int)))=true then ((ix ba x0).bind fun v0=>(dj.f m v0).bind fun x1=>if (!(x1.2==(0:Int)))=true then (some (.inl ([],(2:Int)))) else ((app 32 iA ([x1.1])).bind fun x2=>bj.l0 m ba k x2 (i64.wrap (x0+(1:Int))))) else (some (.inr (iA,x0)))
def bj.f (m:Nat)(ba:List an):Option ((List Int) × Int):=if (decide ((ba.length:Int) > (8:Int)))=true then (some ([],(3:Int))) else ((bj.l0 m ba m ([]:List an) (0:Int)).bind fun bg=>match bg with | .inl r0=>some r0 | .inr (yl,x3)=>(fT.f m yl (fun y0=>dP.f m y0)).bind fun x4=>if x4=true then (some ([],(4:Int))) else ((aP.f m yl).bind fun x5=>if (decide ((x5.length:Int) > (200000:Int)))=true then (some ([],(3:Int))) else (some (x5,(0:Int)))))
def bj.fin (L:Mem)(r:(List Int) × Int)(s:St):Prop:=∃av,aH Tryz.prog (s.open zT) Tryz.f17.results.toList=some av∧xz s.h av (.tup [aj.fz r.1,.int .i64 r.2])
def Se (cf:CallF)(m:Nat):Prop:=∀(ba:List an) (r:(List Int) × Int),bj.f m ba=some r→∀h xs,l9 xs [aZ.fz ba]→cf 17 xs h=some (.tup [aj.fz r.1,.int .i64 r.2],h)
section
variable {cf:CallF}{m:Nat}
theorem bj.bP (L:Mem)(ba:List an)  (Mq:R9 cf m):bL Tryz.prog cf zT m (sub [1,1,1,0,1,0,0] (codeOf Tryz.f17)) (fun k (σ:(List an) × Int)=>bj.l0 m ba k σ.1 σ.2) (fun σ s=>match σ with | (iA,x0)=>∃az h0,s=⟨kK (.rs az 0 iA.length 2::rV (aZ.fz ba :: .int .i64 (ba.length:Int) :: .int .i64 x0::oH [])),[none,none],h0⟩∧Has h0 ((az,.sl iA.length 2 (aZ.l iA))::L)) (fun out e s=>(e = .exit 0∧∃iA x0,.inr (iA,x0)=out∧∃ou xP ui Hl az h0,s=⟨kK (.rs az 0 iA.length 2::rV (ou::xP::ui::Hl::kK [])),[none,none],h0⟩∧Has h0 ((az,.sl iA.length 2 (aZ.l iA))::L))∨(e = .ret∧∃r,.inl r=out∧bj.fin L r s)):=by
 refine ig (fun _=>rfl) ?_
 rintro k ⟨iA,x0⟩ s out ⟨az,h0,rfl,o1⟩ H
 have H:bj.l0 m ba (k+1) iA x0=some out:=H
 refine q1 <| qq <| qc H (fun c1 H=>?_) (fun c1 H=>?_)
 ·refine qk <| qq <| qb 1 <| qq ?_
  obtain⟨v0,e0,H⟩:=aI H
  refine qr [.v 0 (bI (k:=.i64) (E:=aZ) (l:=ba) E2 e0),.v 1 (dL  (E:=aZ) (l:=ba) h0 Ok Ol e0)] <| qq ?_
  obtain⟨x1,e1,H⟩:=aI H
  refine qr [.a 1 (Mq _ _ e1 h0 _ (cY (tC (cY (iE (E:=ah)) (cY (bJ) (gZ)))) (gZ)))] <| qq <| qq <| q0 <| qc H (fun c2 H=>?_) (fun c2 H=>?_)
  ·refine q1 ?_
   have o2:Has h0 (L):=Has.del o1 0
   exact qt <| Zx (⟨rfl,_,oi H,vk (.tup [.nils,.int .i64 (2:Int)]) h0 (oK (fQ (ae (gr) (ae (aN) (aB)))))⟩)
  ·refine qk ?_
   obtain⟨x2,e2,H⟩:=aI H
   obtain⟨fK,h1,e3,o3⟩:=fP (P:=Tryz.prog) (E:=aZ) (l:=iA) (q:=0) (t2:=24) (x:=.fz [ah.fz x1.1.nodes,.int .i64 x1.1.root] 1 true) (l2:=([x1.1])) E2 o1 rfl (by kernel_rfl) rfl e2
   exact qr [.a 3 e3] <| q0 <| ⟨(x2,i64.wrap (x0+(1:Int))),⟨fK,h1,by kernel_rfl,o3⟩,H⟩
 ·exact qx 0 <| Or.inl (⟨rfl,iA,x0,oi H,aZ.fz ba,.int .i64 (ba.length:Int),.int .i64 x0,.bool (decide (x0<(ba.length:Int))),az,h0,by kernel_rfl,o1⟩)
theorem sn {aU:FuncId→cm}(ha:aU 17=zT)(Mq:R9 cf m)(Sf:Ud cf m)(Sh:Uy cf m)(Si:Uw cf m)(ba:List an)(h:AHeap)(L:Mem)  (o:Has h (L)){out:(List Int) × Int}(H:bj.f m ba=some out) :
  ∃r h',be Tryz.prog aU cf m 17 [aZ.fz ba] h=some (r,h')∧xz h' r (.tup [aj.fz out.1,.int .i64 out.2]):=by
 refine aq (fn:=Tryz.f17) ha Tryz.func17 (by kernel_rfl) (by kernel_rfl) ?_
 refine aG (Q:=fun s=>bj.fin L out s) (fun _ _ h=>h) ?_
 have H:_=some out:=H
 unfold bj.f at H
 show dt _ cf zT m _ ⟨aZ.fz ba::Jd [],[none,none],h⟩ _
 refine q1 <| qq <| qq <| q0 <| qc H (fun c0 H=>?_) (fun c0 H=>?_)
 ·obtain rfl:=oi H
  exact q1 <| qt <| ⟨.inl rfl,vk (.tup [.nils,.int .i64 (3:Int)]) h (oK (fQ (ae (gr) (ae (aN) (aB)))))⟩
 ·refine qk <| qq <| q0 ?_
  have o0:Has h (((0),.sl (([]:List an).length) 2 (aZ.l ([]:List an)))::L):=Has.nil o 2
  refine qq <| qq <| q0 <| qb 0 ?_
  obtain⟨bg,e4,H⟩:=aI H
  refine ql (bj.bP L ba  Mq (([]:List an),(0:Int)) _ _ ⟨(0),h,by kernel_rfl,o0⟩ e4) ?_
  rintro e s (⟨rfl,yl,x3,rfl,g0,g1,g2,g3,dh,h2,rfl,o4⟩| ⟨rfl,r0,rfl,ov⟩)
  ·try dsimp only at H
   refine qq <| qq ?_
   obtain⟨h3,e5,o5⟩:=iS (E:=aZ) (l:=yl) (q:=0) o4 rfl
   obtain⟨x4,e6,H⟩:=aI H
   refine zt [.a 0 e5] [.a 1 (Sf _ _ _ e6 h3 (Has.pos o5) 37 [] rfl (fun y0 r hr=>Sh y0 r hr h3 _ (ia (ae (dN (ae (cW (E:=ah)) (ae (aN) (aB)))) (aB)))) _ (ak (aR (iE (E:=aZ))) (ak ((rfl:ay (.fn 37 [])=_)) (bn))))] <| qc H (fun c3 H=>?_) (fun c3 H=>?_)
   ·obtain rfl:=oi H
    exact q1 <| qt <| ⟨.inl rfl,vk (.tup [.nils,.int .i64 (4:Int)]) h3 (oK (fQ (ae (gr) (ae (aN) (aB)))))⟩
   ·refine qk <| qq ?_
    obtain⟨x5,e7,H⟩:=aI H
    refine qr [.a 1 (Si _ _ e7 h3 _ (ia (ae (cW (E:=aZ)) (aB))))] <| qq <| qq <| q0 <| qc H (fun c4 H=>?_) (fun c4 H=>?_)
    ·obtain rfl:=oi H
     exact q1 <| qt <| ⟨.inl rfl,vk (.tup [.nils,.int .i64 (3:Int)]) h3 (oK (fQ (ae (gr) (ae (aN) (aB)))))⟩
    ·obtain rfl:=oi H
     exact qk <| qq <| q0 <| qt <| ⟨.inl rfl,vk (.tup [aj.fz x5,.int .i64 (0:Int)]) h3 (oK (fQ (ae (cW) (ae (aN) (aB)))))⟩
  ·try dsimp only at H
   obtain rfl:=oi H
   exact⟨.inl rfl,ov⟩
end
end Go.Proofs.YtmekcfdllhphlaaGreatDoor
namespace Go.Proofs.YtmekcfdllhphlaaGreatDoor
open Go Go.R
open Go.IntKind (i64 u64 u8 u32)
def C9:cm:=gI [0,1,4] [] [4,3] [] []
def cO.f (m:Nat)(a0:List Int)(b0:List Int):Option (Bool):=some ((cM a0).data.toList==(cM b0).data.toList)
def cO.fin (L:Mem)(r:Bool)(s:St):Prop:=∃av,aH Tryz.prog (s.open C9) Tryz.f23.results.toList=some av∧gu s.h av (.bool r)
def Sj (cf:CallF)(m:Nat):Prop:=∀(a0:List Int) (b0:List Int) (r:Bool),cO.f m a0 b0=some r→∀h xs,eY fq h xs [aj.fz a0,aj.fz b0]→cf 23 xs h=some (.bool r,h)
section
variable {cf:CallF}{m:Nat}
theorem qM {aU:FuncId→cm}(ha:aU 23=C9)  (a0:List Int)(b0:List Int)(h:AHeap)(L:Mem)  (o:Has h (L)){out:Bool}(H:cO.f m a0 b0=some out) :
  ∃r h',be Tryz.prog aU cf m 23 [aj.fz a0,aj.fz b0] h=some (r,h')∧gu h' r (.bool out):=by
 refine aq (fn:=Tryz.f23) ha Tryz.func23 (by kernel_rfl) (by kernel_rfl) ?_
 refine aG (Q:=fun s=>cO.fin L out s) (fun _ _ h=>h) ?_
 have H:_=some out:=H
 unfold cO.f at H
 show dt _ cf C9 m _ ⟨[aj.fz a0,aj.fz b0,.any],[],h⟩ _
 obtain rfl:=oi H
 exact q1 <| qq <| qr [.v 1 (show ib Tryz.prog h 22 9 (aj.fz a0)=some (.str (cM a0)) from Bh (e:=5) (l:=a0) rfl rfl rfl (F8 _)),.v 3 (show ib Tryz.prog h 22 9 (aj.fz b0)=some (.str (cM b0)) from Bh (e:=5) (l:=b0) rfl rfl rfl (F8 _))] <| qt <| ⟨.inl rfl,cp (.bool ((cM a0).data.toList==(cM b0).data.toList)) h (ck (au))⟩
end
end Go.Proofs.YtmekcfdllhphlaaGreatDoor
