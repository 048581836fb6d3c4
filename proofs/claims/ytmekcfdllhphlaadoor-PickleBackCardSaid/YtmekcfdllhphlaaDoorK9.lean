/- Part of the proof: Q54, Q59, Q43, PR2, Q74, Q55, Q60, Q44, PR3, PR4, PR5, Q21, Q42, Q36, Q31, Q35, Q33, Q14, Q41. -/
import Derived.Test.YtmekcfdllhphlaaDoorK8
set_option linter.unusedVariables false
set_option linter.unusedSimpArgs false
set_option maxRecDepth 100000
open ByteArray renaming mk → Xf
open Int renaming toNat_natCast → WT
open List renaming append_assoc → W3, length_cons → W9, map_cons → Xc, cons_append → Xe, take_of_length_le → Xt, length_nil → XI, mem_of_getElem? → XQ, map_congr_left → XS, append_nil → XT
open Nat renaming add_assoc → XA, mul_le_mul_right → XG, add_mul → XW
open Option renaming bind_some → WL
open Or renaming inr → XH, inl → X6
namespace Go.Proofs.YtmekcfdllhphlaaDoor
open Go Go.R
open Go.IntKind (i64 u64 u8 u32)
def y8:cg:=gk [0,1,5] [] [0,4,4,7] [] []
def b4.l0 (m:Nat)  : Nat→Int→(List Int)→Option (Int × (List Int))
 | 0,_,_=>none
 | k+1,n1,w1=>if (decide (n1≥(128:Int)))=true then ((E5 w1 ([iX .u8 (u8.wrap n1) (128:Int)])).bind fun xO=>b4.l0 m k (gj .u64 n1 7) xO) else (some ((n1,w1)))
def b4.f (m:Nat)(w0:List Int)(n0:Int):Option ((List Int)):=(b4.l0 m m n0 w0).bind fun bq=>match bq with | (n2,w2)=>(E5 w2 ([u8.wrap n2])).bind fun Nt=>some Nt
def b4.fin (L:Mem)(bV:Nat)(cd:Nat)(w0:List Int)(n0:Int)(r:(List Int))(s:St):Prop:=∃dz:Nat,aI Tryd.prog (s.open y8) Tryd.f54.results.toList=some (.tup [])∧Has s.h ((bV,.ob [.rs dz 0 r.length 1,.int .i64 (0:Int),.int .i8 (0:Int)])::(dz,.row 5 (au.l r))::L)
def LG (cf:CallF)(m:Nat):Prop:=∀(w0:List Int) (n0:Int) (r:(List Int)),b4.f m w0 n0=some r→∀h L (bV:Nat) (cd:Nat),Has h ((bV,.ob [.rs cd 0 w0.length 1,.int .i64 (0:Int),.int .i8 (0:Int)])::(cd,.row 5 (au.l w0))::L)→∀xs,xs.map ay=[.ptr bV 0,.int .u64 n0]→∃dz h',cf 54 xs h=some (.tup [],h')∧Has h' ((bV,.ob [.rs dz 0 r.length 1,.int .i64 (0:Int),.int .i8 (0:Int)])::(dz,.row 5 (au.l r))::L)
section
variable {cf:CallF}{m:Nat}
theorem b4.bG (L:Mem)(bV:Nat)(cd:Nat)(w0:List Int)(n0:Int)  (xm:MM cf m):bI Tryd.prog cf y8 m (sub [0,0,0] (codeOf Tryd.f54)) (fun k (σ:Int × (List Int))=>b4.l0 m k σ.1 σ.2) (fun σ s=>match σ with | (n1,w1)=>∃aB h0,s=⟨[.ptr bV 0,.int .u64 n1,.any],[],h0⟩∧Has h0 ((bV,.ob [.rs aB 0 w1.length 1,.int .i64 (0:Int),.int .i8 (0:Int)])::(aB,.row 5 (au.l w1))::L)) (fun out e s=>(e = .exit 0∧∃n1 w1,(n1,w1)=out∧∃xi aB h0,s=⟨[.ptr bV 0,.int .u64 n1,xi],[],h0⟩∧Has h0 ((bV,.ob [.rs aB 0 w1.length 1,.int .i64 (0:Int),.int .i8 (0:Int)])::(aB,.row 5 (au.l w1))::L))):=by
 refine gS (fun _=>rfl) ?_
 rintro k ⟨n1,w1⟩ s out ⟨aB,h0,rfl,o0⟩ H
 have H:b4.l0 m (k+1) n1 w1=some out:=H
 refine qq <| qq <| q0 <| qc H (fun c0 H=>?_) (fun c0 H=>?_)
 ·refine qk <| qq <| qb 1 ?_
  obtain⟨xO,e0,H⟩:=aJ H
  obtain⟨gF,h1,e1,o1⟩:=se (bs:=w1) xm o0 e0
  exact qr [.a 6 e1] <| q0 <| ⟨(gj .u64 n1 7,xO),⟨gF,h1,by kernel_rfl,o1⟩,H⟩
 ·exact qx 0 <| ⟨rfl,n1,w1,oi H,.bool (decide (n1≥(128:Int))),aB,h0,by kernel_rfl,o0⟩
theorem tV {aS:FuncId→cg}(ha:aS 54=y8)(xm:MM cf m)(w0:List Int)(n0:Int)(h:AHeap)(L:Mem)(bV:Nat)(cd:Nat)  (o:Has h ((bV,.ob [.rs cd 0 w0.length 1,.int .i64 (0:Int),.int .i8 (0:Int)])::(cd,.row 5 (au.l w0))::L)){out:(List Int)}(H:b4.f m w0 n0=some out) :
  ∃r h',a7 Tryd.prog aS cf m 54 [.ptr bV 0,.int .u64 n0] h=some (r,h')∧∃dz:Nat,r = .tup []∧Has h' ((bV,.ob [.rs dz 0 out.length 1,.int .i64 (0:Int),.int .i8 (0:Int)])::(dz,.row 5 (au.l out))::L):=by
 refine ak (fn:=Tryd.f54) ha Tryd.func54 (by kernel_rfl) (by kernel_rfl) ?_
 refine aF (Q:=fun s=>b4.fin L bV cd w0 n0 out s) (fun _ _ ⟨h1,dz,h2,h3⟩=>⟨h1,_,h2,dz,rfl,h3⟩) ?_
 have H:_=some out:=H
 unfold b4.f at H
 show de _ cf y8 m _ ⟨[.ptr bV 0,.int .u64 n0,.any],[],h⟩ _
 refine qq <| qb 0 ?_
 obtain⟨bq,e2,H⟩:=aJ H
 refine ql (b4.bG L bV cd w0 n0  xm (n0,w0) _ _ ⟨cd,h,by kernel_rfl,o⟩ e2) ?_
 rintro e s ⟨rfl,n2,w2,rfl,g0,dj,h2,rfl,o2⟩
 try dsimp only at H
 obtain⟨Nt,e3,H⟩:=aJ H
 obtain⟨fA,h3,e4,o3⟩:=se (bs:=w2) xm o2 e3
 obtain rfl:=oi H
 exact qr [.a 5 e4] <| ⟨.inr rfl,⟨fA,by kernel_rfl,he o3⟩⟩
end
end Go.Proofs.YtmekcfdllhphlaaDoor
namespace Go.Proofs.YtmekcfdllhphlaaDoor
open Go Go.R
open Go.IntKind (i64 u64 u8 u32)
def Cd:cg:=gk [0,2,3,9] [] [14,6,15,13,10,11,13] [] []
def jD.f (m:Nat)(r0:fC):Option (Int × fC):=if ((r0.eO.length:Int)==(0:Int))=true then (some ((0:Int),(fC.mk r0.eO true))) else ((ix r0.eO (0:Int)).bind fun v0=>(pL r0.eO (1:Int) (r0.eO.length:Int)).bind fun v1=>some (v0,(fC.mk v1 r0.bz)))
def jD.fin (L:Mem)(aB:Nat)(r0:fC)(r:Int × fC)(s:St):Prop:=aI Tryd.prog (s.open Cd) Tryd.f59.results.toList=some (.int .u8 r.1)∧Has s.h ((aB,.ob [au.fz r.2.eO,.bool r.2.bz])::L)
def Oo (cf:CallF)(m:Nat):Prop:=∀(r0:fC) (r:Int × fC),jD.f m r0=some r→∀h L (aB:Nat),Has h ((aB,.ob [au.fz r0.eO,.bool r0.bz])::L)→∀xs,xs.map ay=[.ptr aB 0]→∃h',cf 59 xs h=some (.int .u8 r.1,h')∧Has h' ((aB,.ob [au.fz r.2.eO,.bool r.2.bz])::L)
section
variable {cf:CallF}{m:Nat}
theorem xn {aS:FuncId→cg}(ha:aS 59=Cd)  (r0:fC)(h:AHeap)(L:Mem)(aB:Nat)  (o:Has h ((aB,.ob [au.fz r0.eO,.bool r0.bz])::L)){out:Int × fC}(H:jD.f m r0=some out) :
  ∃r h',a7 Tryd.prog aS cf m 59 [.ptr aB 0] h=some (r,h')∧r = .int .u8 out.1∧Has h' ((aB,.ob [au.fz out.2.eO,.bool out.2.bz])::L):=by
 refine ak (fn:=Tryd.f59) ha Tryd.func59 (by kernel_rfl) (by kernel_rfl) ?_
 refine aF (Q:=fun s=>jD.fin L aB r0 out s) (fun _ _ ⟨h1,h2,h3⟩=>⟨h1,_,h2,rfl,h3⟩) ?_
 have H:_=some out:=H
 unfold jD.f at H
 show de _ cf Cd m _ ⟨.ptr aB 0::jW [],[],h⟩ _
 refine q1 <| qq <| qq <| qr [.v 3 (show bk Tryd.prog h 25 (.ptr aB 0)=some (au.fz r0.eO) from cn (q:=0) (cs:=[au.fz r0.eO,.bool r0.bz]) o rfl (by kernel_rfl))] <| qc H (fun c0 H=>?_) (fun c0 H=>?_)
 ·refine qq ?_
  obtain⟨h0,e0,o0⟩:=kJ (P:=Tryd.prog) (t:=4) (off:=1) (q:=0) (cs:=[au.fz r0.eO,.bool r0.bz]) (fI:=[au.fz r0.eO,.bool true]) (x:=.bool true) o rfl (by kernel_rfl)
  obtain rfl:=oi H
  exact qr [.w 3 e0] <| qq <| q0 <| qt <| ⟨.inl rfl,⟨by kernel_rfl,he o0⟩⟩
 ·refine qk <| qq ?_
  obtain⟨v0,e1,H⟩:=aJ H
  refine qr [.v 3 (show bk Tryd.prog h 25 (.ptr aB 0)=some (au.fz r0.eO) from cn (q:=0) (cs:=[au.fz r0.eO,.bool r0.bz]) o rfl (by kernel_rfl)),.v 4 (bo (k:=.i64) (E:=au) (l:=r0.eO) H4 e1),.v 5 (cY  (E:=au) (l:=r0.eO) h A5 e1 rfl)] <| qq ?_
  obtain⟨v1,e2,H⟩:=aJ H
  obtain⟨h1,e3,o1⟩:=kJ (P:=Tryd.prog) (t:=25) (off:=0) (q:=0) (cs:=[au.fz r0.eO,.bool r0.bz]) (fI:=[au.fz v1,.bool r0.bz]) (x:=au.fz v1) o rfl (by kernel_rfl)
  obtain rfl:=oi H
  exact qr [.v 4 (show bk Tryd.prog h 25 (.ptr aB 0)=some (au.fz r0.eO) from cn (q:=0) (cs:=[au.fz r0.eO,.bool r0.bz]) o rfl (by kernel_rfl)),.v 5 (show fc Tryd.prog 25 (au.fz r0.eO) (some (.int .i64 (1:Int))) none none=some (au.fz v1) from wR (E:=au) H4 e2),.w 8 e3] <| qq <| q0 <| qt <| ⟨.inl rfl,⟨by kernel_rfl,he o1⟩⟩
end
end Go.Proofs.YtmekcfdllhphlaaDoor
namespace Go.Proofs.YtmekcfdllhphlaaDoor
open Go Go.R
open Go.IntKind (i64 u64 u8 u32)
def y9:cg:=gk [0,2,3,4,5,10,24,36] [] [254,250,242,210,242,226,162,251,226,114,253] [] []
def bN.l0 (m:Nat)  : Nat→Int→Int→fC→Option (Int × Int × fC)
 | 0,_,_,_=>none
 | k+1,n0,dt,r1=>if (!r1.bz)=true then ((jD.f m r1).bind fun x0=>if (decide (dt > (56:Int)))=true then (some ((n0,dt,(fC.mk x0.2.eO true)))) else (if (decide (dt > (0:Int)))=true then (if (x0.1==(0:Int))=true then (some ((n0,dt,(fC.mk x0.2.eO true)))) else ((Di .u64 (u64.wrap (hZ .u8 x0.1 (127:Int))) dt).bind fun v0=>if (decide (x0.1<(128:Int)))=true then (some ((iX .u64 n0 v0,dt,x0.2))) else (bN.l0 m k (iX .u64 n0 v0) (i64.wrap (dt+(7:Int))) x0.2))) else ((Di .u64 (u64.wrap (hZ .u8 x0.1 (127:Int))) dt).bind fun v1=>if (decide (x0.1<(128:Int)))=true then (some ((iX .u64 n0 v1,dt,x0.2))) else (bN.l0 m k (iX .u64 n0 v1) (i64.wrap (dt+(7:Int))) x0.2)))) else (some ((n0,dt,r1)))
def bN.f (m:Nat)(r0:fC):Option (Int × fC):=(bN.l0 m m (0:Int) (0:Int) r0).bind fun bq=>match bq with | (n1,KJ,r2)=>some (i64.wrap n1,r2)
def bN.fin (L:Mem)(aB:Nat)(r0:fC)(r:Int × fC)(s:St):Prop:=aI Tryd.prog (s.open y9) Tryd.f43.results.toList=some (.int .i64 r.1)∧Has s.h ((aB,.ob [au.fz r.2.eO,.bool r.2.bz])::L)
def KK (cf:CallF)(m:Nat):Prop:=∀(r0:fC) (r:Int × fC),bN.f m r0=some r→∀h L (aB:Nat),Has h ((aB,.ob [au.fz r0.eO,.bool r0.bz])::L)→∀xs,xs.map ay=[.ptr aB 0]→∃h',cf 43 xs h=some (.int .i64 r.1,h')∧Has h' ((aB,.ob [au.fz r.2.eO,.bool r.2.bz])::L)
section
variable {cf:CallF}{m:Nat}
theorem bN.bG (L:Mem)(aB:Nat)(r0:fC)  (F8:Oo cf m):bI Tryd.prog cf y9 m (sub [1,1,0,1,0,0] (codeOf Tryd.f43)) (fun k (σ:Int × Int × fC)=>bN.l0 m k σ.1 σ.2.1 σ.2.2) (fun σ s=>match σ with | (n0,dt,r1)=>∃h0,s=⟨.ptr aB 0 :: .any :: .int .u64 n0 :: .int .i64 dt::re [],[],h0⟩∧Has h0 ((aB,.ob [au.fz r1.eO,.bool r1.bz])::L)) (fun out e s=>(e = .exit 0∧∃n0 dt r1,(n0,dt,r1)=out∧∃kp Dz tv Qp h0,s=⟨[kp,.any,.int .u64 n0,Dz,.any,tv,.any,Qp],[],h0⟩∧Has h0 ((aB,.ob [au.fz r1.eO,.bool r1.bz])::L))):=by
 refine gS (fun _=>rfl) ?_
 rintro k ⟨n0,dt,r1⟩ s out ⟨h0,rfl,o0⟩ H
 have H:bN.l0 m (k+1) n0 dt r1=some out:=H
 refine qq <| qq <| qr [.v 3 (show bk Tryd.prog h0 4 (.ptr aB 1)=some (.bool r1.bz) from cn (q:=0) (cs:=[au.fz r1.eO,.bool r1.bz]) o0 rfl (by kernel_rfl))] <| qc H (fun c0 H=>?_) (fun c0 H=>?_)
 ·refine qk <| qq <| qb 1 <| qq ?_
  obtain⟨x0,e0,H⟩:=aJ H
  obtain⟨h1,e1,o1⟩:=F8 _ _ e0 h0 _ _ (o0)  [.ptr aB 0] (ao (rfl) (bj))
  refine qr [.a 1 e1] <| qq <| qq ?_
  rcases dw H with⟨c1,H⟩| ⟨c1,H⟩
  ·refine qr [.b 2 c1] <| pa <| qq ?_
   obtain⟨h2,e2,o2⟩:=kJ (P:=Tryd.prog) (t:=4) (off:=1) (q:=0) (cs:=[au.fz x0.2.eO,.bool x0.2.bz]) (fI:=[au.fz x0.2.eO,.bool true]) (x:=.bool true) o1 rfl (by kernel_rfl)
   exact qr [.w 3 e2] <| qx 0 <| ⟨rfl,n0,dt,(fC.mk x0.2.eO true),oi H,.any,.any,.any,.any,h2,by kernel_rfl,o2⟩
  ·rcases dw H with⟨c3,H⟩| ⟨c3,H⟩
   ·refine qr [.b 2 c1,.b 5 c3] <| qc H (fun c4 H=>?_) (fun c4 H=>?_)
    ·refine qq ?_
     obtain⟨h3,e3,o3⟩:=kJ (P:=Tryd.prog) (t:=4) (off:=1) (q:=0) (cs:=[au.fz x0.2.eO,.bool x0.2.bz]) (fI:=[au.fz x0.2.eO,.bool true]) (x:=.bool true) o1 rfl (by kernel_rfl)
     exact qr [.w 3 e3] <| qx 0 <| ⟨rfl,n0,dt,(fC.mk x0.2.eO true),oi H,.any,.any,.any,.any,h3,by kernel_rfl,o3⟩
    ·refine qk <| qq ?_
     obtain⟨v0,e4,H⟩:=aJ H
     refine qr [.v 5 (show lU Tryd.prog .shl 40 (.int .u64 (u64.wrap (hZ .u8 x0.1 (127:Int)))) (.int .i64 dt)=some (.int .u64 v0) from EY e4)] <| qq <| q0 <| qc H (fun c5 H=>?_) (fun c5 H=>?_)
     ·exact qx 0 <| ⟨rfl,iX .u64 n0 v0,dt,x0.2,oi H,.ptr aB 0,.int .i64 dt,.any,.bool (decide (x0.1<(128:Int))),h1,by kernel_rfl,o1⟩
     ·exact qk <| q0 <| ⟨(iX .u64 n0 v0,i64.wrap (dt+(7:Int)),x0.2),⟨h1,by kernel_rfl,o1⟩,H⟩
   ·refine qr [.b 2 c1,.b 5 c3] <| Dq <| qk <| qq ?_
    obtain⟨v1,e5,H⟩:=aJ H
    refine qr [.v 5 (show lU Tryd.prog .shl 40 (.int .u64 (u64.wrap (hZ .u8 x0.1 (127:Int)))) (.int .i64 dt)=some (.int .u64 v1) from EY e5)] <| qq <| q0 <| qc H (fun c7 H=>?_) (fun c7 H=>?_)
    ·exact qx 0 <| ⟨rfl,iX .u64 n0 v1,dt,x0.2,oi H,.ptr aB 0,.int .i64 dt,.any,.bool (decide (x0.1<(128:Int))),h1,by kernel_rfl,o1⟩
    ·exact qk <| q0 <| ⟨(iX .u64 n0 v1,i64.wrap (dt+(7:Int)),x0.2),⟨h1,by kernel_rfl,o1⟩,H⟩
 ·exact qx 0 <| ⟨rfl,n0,dt,r1,oi H,.ptr aB 0,.int .i64 dt,.bool (!r1.bz),.any,h0,by kernel_rfl,o0⟩
theorem tW {aS:FuncId→cg}(ha:aS 43=y9)(F8:Oo cf m)(r0:fC)(h:AHeap)(L:Mem)(aB:Nat)  (o:Has h ((aB,.ob [au.fz r0.eO,.bool r0.bz])::L)){out:Int × fC}(H:bN.f m r0=some out) :
  ∃r h',a7 Tryd.prog aS cf m 43 [.ptr aB 0] h=some (r,h')∧r = .int .i64 out.1∧Has h' ((aB,.ob [au.fz out.2.eO,.bool out.2.bz])::L):=by
 refine ak (fn:=Tryd.f43) ha Tryd.func43 (by kernel_rfl) (by kernel_rfl) ?_
 refine aF (Q:=fun s=>bN.fin L aB r0 out s) (fun _ _ ⟨h1,h2,h3⟩=>⟨h1,_,h2,rfl,h3⟩) ?_
 have H:_=some out:=H
 unfold bN.f at H
 show de _ cf y9 m _ ⟨.ptr aB 0::Dk [],[],h⟩ _
 refine q1 <| qq <| q0 <| qq <| qq <| q0 <| qb 0 ?_
 obtain⟨bq,e6,H⟩:=aJ H
 refine ql (bN.bG L aB r0  F8 ((0:Int),(0:Int),r0) _ _ ⟨h,by kernel_rfl,o⟩ e6) ?_
 rintro e s ⟨rfl,n1,KJ,r2,rfl,g0,g1,g2,g3,h4,rfl,o4⟩
 try dsimp only at H
 obtain rfl:=oi H
 exact q1 <| qt <| ⟨.inl rfl,⟨by kernel_rfl,he o4⟩⟩
end
end Go.Proofs.YtmekcfdllhphlaaDoor
namespace Go.Proofs.YtmekcfdllhphlaaDoor
open Go Go.R
open Go.IntKind (i64 u64 u8 u32)
theorem mC {bs news:List Int}(h:bs≠[])(hn:news≠[])(hl:bs.length+news.length≤140737488355328):E5 bs news=some (bs++news):=by
 unfold E5 wB
 rw [if_neg h,if_pos ⟨hl,hn⟩]
theorem Ig (n:Nat):dM n≠[]:=by
 by_cases h:n<128
 ·rw [lj h]; simp
 ·rw [oW h]; simp
theorem F9 (m:Nat):∀(k n:Nat) (w:List Int) (f:Nat),k<f→n<128 ^ (k+1)→n<2 ^ 64→w≠[]→w.length+k≤140737488355328→
  ∃(x:Nat) (pre:List Int),x<128∧b4.l0 m f (n:Int) w=some ((x:Int),w++pre)∧pre++[(x:Int)]=dM n∧pre.length≤k
 | _,_,_,0,hf,_,_,_,_=>absurd hf (by omega)
 | k,n,w,f+1,hf,hk,hn,hw,hl=>by
  by_cases h:n<128
  ·refine⟨n,[],h,?_,by rw [lj h]; rfl,Nat.zero_le _⟩
   unfold b4.l0
   rw [if_neg (by simp; omega),XT]
  ·cases k with
   | zero=>simp at hk; omega
   | succ k=>
    have hd:n / 128<128 ^ (k+1):=by
     rw [Nat.div_lt_iff_lt_mul (by omega)]
     calc n<128 ^ (k+1+1):=hk
      _=_:=by rw [Nat.pow_succ]
    obtain⟨x,pre,h1,h2,h3,h4⟩:=F9 m k (n / 128) (w++[((n % 128+128:Nat):Int)]) f (by omega) hd (by omega) (by simp) (by simp; omega)
    refine⟨x,((n % 128+128:Nat):Int)::pre,h1,?_,by rw [oW h,Xe,h3],by simp; omega⟩
    unfold b4.l0
    rw [if_pos (by simp; omega),mP,MG,mC hw (by simp) (by simp; omega),WL,PC,h2,W3]
    rfl
theorem za {m n:Nat}{w:List Int}(hm:11≤m)(hn:n<2 ^ 64)(hw:w≠[])(hl:w.length+20≤140737488355328):b4.f m w (n:Int)=some (w++dM n):=by
 obtain⟨x,pre,h1,h2,h3,h4⟩:=F9 m 10 n w m (by omega) (by omega) hn hw (by omega)
 unfold b4.f
 rw [h2,WL]
 simp only
 rw [mP,show ((x:Int) % 256)=(x:Int) by omega,mC (by simp [hw]) (by simp) (by simp; omega),WL,W3,←h3]
theorem vH {m:Nat}{c:Int}{l:List Int}{bad:Bool}:jD.f m ⟨c::l,bad⟩=some (c,⟨l,bad⟩):=by
 unfold jD.f
 rw [if_neg (by simp; omega)]
 have h1:ix (c::l) 0=some c:=rfl
 have h2:pL (c::l) 1 ((c::l).length:Int)=some l:=by
  unfold pL
  rw [if_pos ⟨by omega,by simp; omega,Int.le_refl _⟩]
  simp
 simp only [h1,h2,WL]
theorem Ga (m:Nat):∀(k f:Nat),k<f→∀(n a j:Nat) (rest:List Int),n<128 ^ (k+1)→a<2 ^ (7*j)→a+n*2 ^ (7*j)<2 ^ 63→(j=0∨1≤n)→
  ∃s':Int,bN.l0 m f (a:Int) ((7*j:Nat):Int) ⟨dM n++rest,false⟩=some (((a+n*2 ^ (7*j):Nat):Int),s',⟨rest,false⟩)
 | k,0,hf,_,_,_,_,_,_,_,_=>absurd hf (by omega)
 | k,f+1,hf,n,a,j,rest,hk,ha,hn,h0=>by
  have hs:7*j≤56:=by
   rcases h0 with h0 | h0
   ·omega
   ·have:7*j≤62:=by
     apply Nat.le_of_not_lt
     intro h
     have h1:2 ^ 63≤2 ^ (7*j):=Nat.pow_le_pow_right (by omega) (by omega)
     have h2:1*2 ^ (7*j)≤n*2 ^ (7*j):=XG _ h0
     omega
    omega
  by_cases h:n<128
  ·rw [lj h]
   obtain⟨g1,g2⟩:=Fa a n (7*j) ha hs (by omega) h
   have g3:hZ .u8 (n:Int) 127=(n:Int):=by rw [E9 n (by omega)]; omega
   refine⟨((7*j:Nat):Int),?_⟩
   unfold bN.l0
   rw [if_pos (show (!false)=true from rfl),List.singleton_append,vH,WL,if_neg (by simp; omega)]
   dsimp only
   rw [g3,g1,WL]
   rw [if_pos (show decide ((n:Int)<128)=true by simp; omega),g2]
   by_cases hj:j=0
   ·rw [if_neg (by simp; omega)]
   ·rw [if_pos (by simp; omega),if_neg (by simp; omega)]
  ·rw [oW h]
   cases k with
   | zero=>simp at hk; omega
   | succ k=>
    have hd:n / 128<128 ^ (k+1):=by
     rw [Nat.div_lt_iff_lt_mul (by omega)]
     calc n<128 ^ (k+1+1):=hk
      _=_:=by rw [Nat.pow_succ]
    have hp:2 ^ (7*(j+1))=128*2 ^ (7*j):=by rw [show 7*(j+1)=7+7*j by omega,Nat.pow_add]
    have JW:a+n % 128*2 ^ (7*j)+n / 128*2 ^ (7*(j+1))=a+n*2 ^ (7*j):=by
     rw [hp,←Nat.mul_assoc,XA,←XW]
     congr 2
     omega
    have Qo:a+n % 128*2 ^ (7*j)<2 ^ (7*(j+1)):=by
     rw [hp]
     have:n % 128*2 ^ (7*j)≤127*2 ^ (7*j):=XG _ (by omega)
     omega
    obtain⟨g1,g2⟩:=Fa a (n % 128) (7*j) ha hs (by have:=Nat.zero_le (n / 128*2 ^ (7*(j+1))); omega) (Nat.mod_lt _ (by omega))
    have g3:hZ .u8 ((n % 128+128:Nat):Int) 127=((n % 128:Nat):Int):=by
     rw [E9 _ (by omega)]; omega
    obtain⟨s',ih⟩:=Ga m k f (by omega) (n / 128) (a+n % 128*2 ^ (7*j)) (j+1) rest hd Qo (by omega) (.inr (by omega))
    rw [JW] at ih
    refine⟨s',?_⟩
    unfold bN.l0
    rw [if_pos (show (!false)=true from rfl),Xe,vH,WL,if_neg (by simp; omega)]
    dsimp only
    rw [g3,g1,WL,g2]
    have g4:i64.wrap (((7*j:Nat):Int)+7)=((7*(j+1):Nat):Int):=by rw [aD (by omega) (by omega)]; omega
    rw [if_neg (show ¬decide (((n % 128+128:Nat):Int)<128)=true by simp; omega),g4,ih]
    by_cases hj:j=0
    ·rw [if_neg (by simp; omega)]
    ·rw [if_pos (by simp; omega),if_neg (by simp; omega)]
theorem AS {m n:Nat}{rest:List Int}(hm:11≤m)(hn:n<2 ^ 63):bN.f m ⟨dM n++rest,false⟩=some ((n:Int),⟨rest,false⟩):=by
 obtain⟨s',h⟩:=Ga m 10 m (by omega) n 0 0 rest (by omega) (by omega) (by omega) (.inl rfl)
 unfold bN.f
 have h:bN.l0 m m (0:Int) (0:Int) ⟨dM n++rest,false⟩=some (((0+n*2 ^ (7*0):Nat):Int),s',⟨rest,false⟩):=h
 rw [h,WL]
 simp only
 rw [aD (by omega) (by omega)]
 simp
end Go.Proofs.YtmekcfdllhphlaaDoor
namespace Go.Proofs.YtmekcfdllhphlaaDoor
open Go Go.R
open Go.IntKind (i64 u64 u8 u32)
def Ce:cg:=gk [0,1] [] [0,3] [] []
def jE.f (m:Nat)(w0:List Int)(s0:ByteArray):Option ((List Int)):=(b4.f m w0 (u64.wrap (s0.size:Int))).bind fun x0=>(E5 x0 (eU s0)).bind fun xO=>some xO
def jE.fin (L:Mem)(bV:Nat)(cd:Nat)(w0:List Int)(s0:ByteArray)(r:(List Int))(s:St):Prop:=∃dz:Nat,aI Tryd.prog (s.open Ce) Tryd.f74.results.toList=some (.tup [])∧Has s.h ((bV,.ob [.rs dz 0 r.length 1,.int .i64 (0:Int),.int .i8 (0:Int)])::(dz,.row 5 (au.l r))::L)
def SP (cf:CallF)(m:Nat):Prop:=∀(w0:List Int) (s0:ByteArray) (r:(List Int)),jE.f m w0 s0=some r→∀h L (bV:Nat) (cd:Nat),Has h ((bV,.ob [.rs cd 0 w0.length 1,.int .i64 (0:Int),.int .i8 (0:Int)])::(cd,.row 5 (au.l w0))::L)→∀xs,xs.map ay=[.ptr bV 0,.str s0]→∃dz h',cf 74 xs h=some (.tup [],h')∧Has h' ((bV,.ob [.rs dz 0 r.length 1,.int .i64 (0:Int),.int .i8 (0:Int)])::(dz,.row 5 (au.l r))::L)
section
variable {cf:CallF}{m:Nat}
theorem xo {aS:FuncId→cg}(ha:aS 74=Ce)(pq:LG cf m)(Nu:MN cf m)(w0:List Int)(s0:ByteArray)(h:AHeap)(L:Mem)(bV:Nat)(cd:Nat)  (o:Has h ((bV,.ob [.rs cd 0 w0.length 1,.int .i64 (0:Int),.int .i8 (0:Int)])::(cd,.row 5 (au.l w0))::L)){out:(List Int)}(H:jE.f m w0 s0=some out) :
  ∃r h',a7 Tryd.prog aS cf m 74 [.ptr bV 0,.str s0] h=some (r,h')∧∃dz:Nat,r = .tup []∧Has h' ((bV,.ob [.rs dz 0 out.length 1,.int .i64 (0:Int),.int .i8 (0:Int)])::(dz,.row 5 (au.l out))::L):=by
 refine ak (fn:=Tryd.f74) ha Tryd.func74 (by kernel_rfl) (by kernel_rfl) ?_
 refine aF (Q:=fun s=>jE.fin L bV cd w0 s0 out s) (fun _ _ ⟨h1,dz,h2,h3⟩=>⟨h1,_,h2,dz,rfl,h3⟩) ?_
 have H:_=some out:=H
 unfold jE.f at H
 show de _ cf Ce m _ ⟨[.ptr bV 0,.str s0],[],h⟩ _
 refine qq ?_
 obtain⟨x0,e0,H⟩:=aJ H
 obtain⟨aB,h0,e1,o0⟩:=pq _ _ _ e0 h _ _ _ (o)  [.ptr bV 0,.int .u64 (u64.wrap (s0.size:Int))] (ao (rfl) (ao (aO (bD)) (bj)))
 refine qr [.a 4 e1] ?_
 obtain⟨xO,e2,H⟩:=aJ H
 obtain⟨gF,h1,e3,o1⟩:=HW (bs:=x0) Nu o0 e2
 obtain rfl:=oi H
 exact qr [.a 4 e3] <| ⟨.inr rfl,⟨gF,by kernel_rfl,he o1⟩⟩
end
end Go.Proofs.YtmekcfdllhphlaaDoor
namespace Go.Proofs.YtmekcfdllhphlaaDoor
open Go Go.R
open Go.IntKind (i64 u64 u8 u32)
def zb:cg:=gk [0,1,3,5,14,15,22,26,41,47,60,61,62,63] [3] [16378,16378,16362,16330,16383,16298,16250,16383,16383,16106,16383,15866,16378,16378,9214,1022,9206,9214,9214] [] []
def dY.l0 (m:Nat)(n0:ae):Nat→Int→(List Int)→Option (Int × (List Int))
 | 0,_,_=>none
 | k+1,x6,w1=>if (decide (x6<(n0.args.length:Int)))=true then ((ix n0.args x6).bind fun v0=>(b4.f m w1 (u64.wrap v0)).bind fun x7=>dY.l0 m n0 k (i64.wrap (x6+(1:Int))) x7) else (some ((x6,w1)))
def dY.f (m:Nat)(w0:List Int)(n0:ae):Option ((List Int)):=(E5 w0 ([u8.wrap n0.kind])).bind fun xO=>if (n0.kind==(0:Int))=true then ((b4.f m xO (u64.wrap n0.int)).bind fun x0=>some x0) else (if (n0.kind==(1:Int))=true then (if (decide (n0.int<(0:Int)))=true then ((b4.f m xO (u64.wrap (u64.wrap (u64.wrap (i64.wrap (0 - n0.int))*(2:Int)) - (1:Int)))).bind fun x1=>some x1) else ((b4.f m xO (u64.wrap (u64.wrap n0.int*(2:Int)))).bind fun x2=>some x2)) else (if (n0.kind==(2:Int))=true then ((jE.f m xO n0.label).bind fun x3=>some x3) else (if (n0.kind==(3:Int))=true then ((jE.f m xO n0.label).bind fun x4=>(b4.f m x4 (u64.wrap (n0.args.length:Int))).bind fun x5=>(dY.l0 m n0 m (0:Int) x5).bind fun bq=>match bq with | (x8,w2)=>some w2) else (some xO))))
def dY.fin (L:Mem)(bV:Nat)(cd:Nat)(w0:List Int)(n0:ae)(r:(List Int))(s:St):Prop:=∃dz:Nat,aI Tryd.prog (s.open zb) Tryd.f55.results.toList=some (.tup [])∧Has s.h ((bV,.ob [.rs dz 0 r.length 1,.int .i64 (0:Int),.int .i8 (0:Int)])::(dz,.row 5 (au.l r))::L)
def Oq (cf:CallF)(m:Nat):Prop:=∀(w0:List Int) (n0:ae) (r:(List Int)),dY.f m w0 n0=some r→∀h L (bV:Nat) (cd:Nat),Has h ((bV,.ob [.rs cd 0 w0.length 1,.int .i64 (0:Int),.int .i8 (0:Int)])::(cd,.row 5 (au.l w0))::L)→∀xs,xs.map ay=[.ptr bV 0,.agg [.int .i64 n0.kind,.int .i64 n0.int,.str n0.label,aa.fz n0.args]]→∃dz h',cf 55 xs h=some (.tup [],h')∧Has h' ((bV,.ob [.rs dz 0 r.length 1,.int .i64 (0:Int),.int .i8 (0:Int)])::(dz,.row 5 (au.l r))::L)
section
variable {cf:CallF}{m:Nat}
theorem dY.bG (L:Mem)(bV:Nat)(cd:Nat)(w0:List Int)(n0:ae)  (pq:LG cf m):bI Tryd.prog cf zb m (sub [1,1,1,0,1,1,1,1,1,1,1,0,1,1,1,0,0] (codeOf Tryd.f55)) (fun k (σ:Int × (List Int))=>dY.l0 m n0 k σ.1 σ.2) (fun σ s=>match σ with | (x6,w1)=>∃iy h7,s=⟨.ptr bV 0::D0 [aa.fz n0.args,.int .i64 (n0.args.length:Int),.int .i64 x6,.any],[none],h7⟩∧Has h7 ((bV,.ob [.rs iy 0 w1.length 1,.int .i64 (0:Int),.int .i8 (0:Int)])::(iy,.row 5 (au.l w1))::L)) (fun out e s=>(e = .exit 1∧∃x6 w1,(x6,w1)=out∧∃kp Qq Qs Qt Qu iy h7,s=⟨kp::D0 [Qq,Qs,Qt,Qu],[none],h7⟩∧Has h7 ((bV,.ob [.rs iy 0 w1.length 1,.int .i64 (0:Int),.int .i8 (0:Int)])::(iy,.row 5 (au.l w1))::L))):=by
 refine gS (fun _=>rfl) ?_
 rintro k ⟨x6,w1⟩ s out ⟨iy,h7,rfl,o7⟩ H
 have H:dY.l0 m n0 (k+1) x6 w1=some out:=H
 refine q1 <| qq <| qc H (fun c5 H=>?_) (fun c5 H=>?_)
 ·refine qk <| qq <| qb 2 <| qq ?_
  obtain⟨v0,uS,H⟩:=aJ H
  refine qr [.v 0 (bo (k:=.i64) (E:=aa) (l:=n0.args) dC uS),.v 1 (cY  (E:=aa) (l:=n0.args) h7 A3 uS rfl)] ?_
  obtain⟨x7,uz,H⟩:=aJ H
  obtain⟨kO,h8,xM,o8⟩:=pq _ _ _ uz h7 _ _ _ (o7)  [.ptr bV 0,.int .u64 (u64.wrap v0)] (ao (rfl) (ao (aO (bD)) (bj)))
  exact qr [.a 3 xM] <| q0 <| ⟨(i64.wrap (x6+(1:Int)),x7),⟨kO,h8,by kernel_rfl,o8⟩,H⟩
 ·exact qx 1 <| ⟨rfl,x6,w1,oi H,.ptr bV 0,aa.fz n0.args,.int .i64 (n0.args.length:Int),.int .i64 x6,.bool (decide (x6<(n0.args.length:Int))),iy,h7,by kernel_rfl,o7⟩
theorem xp {aS:FuncId→cg}(ha:aS 55=zb)(xm:MM cf m)(pq:LG cf m)(Nv:SP cf m)(w0:List Int)(n0:ae)(h:AHeap)(L:Mem)(bV:Nat)(cd:Nat)  (o:Has h ((bV,.ob [.rs cd 0 w0.length 1,.int .i64 (0:Int),.int .i8 (0:Int)])::(cd,.row 5 (au.l w0))::L)){out:(List Int)}(H:dY.f m w0 n0=some out) :
  ∃r h',a7 Tryd.prog aS cf m 55 [.ptr bV 0,.agg [.int .i64 n0.kind,.int .i64 n0.int,.str n0.label,aa.fz n0.args]] h=some (r,h')∧∃dz:Nat,r = .tup []∧Has h' ((bV,.ob [.rs dz 0 out.length 1,.int .i64 (0:Int),.int .i8 (0:Int)])::(dz,.row 5 (au.l out))::L):=by
 refine ak (fn:=Tryd.f55) ha Tryd.func55 (by kernel_rfl) (by kernel_rfl) ?_
 refine aF (Q:=fun s=>dY.fin L bV cd w0 n0 out s) (fun _ _ ⟨h1,dz,h2,h3⟩=>⟨h1,_,h2,dz,rfl,h3⟩) ?_
 have H:_=some out:=H
 unfold dY.f at H
 show de _ cf zb m _ ⟨.ptr bV 0 :: .agg [.int .i64 n0.kind,.int .i64 n0.int,.str n0.label,aa.fz n0.args]::mS [],[none],h⟩ _
 refine q1 <| qq ?_
 obtain⟨xO,e0,H⟩:=aJ H
 obtain⟨aB,h0,e1,o0⟩:=se (bs:=w0) xm o e0
 refine qr [.a 6 e1] <| qq <| q0 <| qb 0 <| qq <| q0 <| qc H (fun c0 H=>?_) (fun c0 H=>?_)
 ·obtain⟨x0,e2,H⟩:=aJ H
  obtain⟨gF,h1,e3,o1⟩:=pq _ _ _ e2 h0 _ _ _ (o0)  [.ptr bV 0,.int .u64 (u64.wrap n0.int)] (ao (rfl) (ao (aO (bD)) (bj)))
  obtain rfl:=oi H
  exact qr [.a 4 e3] <| ⟨.inr rfl,⟨gF,by kernel_rfl,he o1⟩⟩
 ·refine q1 <| qc H (fun c1 H=>?_) (fun c1 H=>?_)
  ·refine q1 <| qc H (fun c2 H=>?_) (fun c2 H=>?_)
   ·obtain⟨x1,e4,H⟩:=aJ H
    obtain⟨dj,h2,e5,o2⟩:=pq _ _ _ e4 h0 _ _ _ (o0)  [.ptr bV 0,.int .u64 (u64.wrap (u64.wrap (u64.wrap (i64.wrap (0 - n0.int))*(2:Int)) - (1:Int)))] (ao (rfl) (ao (aO (bD)) (bj)))
    obtain rfl:=oi H
    exact qr [.a 7 e5] <| ⟨.inr rfl,⟨dj,by kernel_rfl,he o2⟩⟩
   ·obtain⟨x2,e6,H⟩:=aJ H
    obtain⟨fA,h3,e7,o3⟩:=pq _ _ _ e6 h0 _ _ _ (o0)  [.ptr bV 0,.int .u64 (u64.wrap (u64.wrap n0.int*(2:Int)))] (ao (rfl) (ao (aO (bD)) (bj)))
    obtain rfl:=oi H
    exact qr [.a 5 e7] <| ⟨.inr rfl,⟨fA,by kernel_rfl,he o3⟩⟩
  ·refine q1 <| qc H (fun c3 H=>?_) (fun c3 H=>?_)
   ·obtain⟨x3,e8,H⟩:=aJ H
    obtain⟨gX,h4,e9,o4⟩:=Nv _ _ _ e8 h0 _ _ _ (o0)  [.ptr bV 0,.str n0.label] (ao (rfl) (ao (aO (wT)) (bj)))
    obtain rfl:=oi H
    exact qr [.a 3 e9] <| ⟨.inr rfl,⟨gX,by kernel_rfl,he o4⟩⟩
   ·refine q1 <| qc H (fun c4 H=>?_) (fun c4 H=>?_)
    ·refine qq ?_
     obtain⟨x4,mU,H⟩:=aJ H
     obtain⟨gU,h5,rn,o5⟩:=Nv _ _ _ mU h0 _ _ _ (o0)  [.ptr bV 0,.str n0.label] (ao (rfl) (ao (aO (wT)) (bj)))
     refine qr [.a 3 rn] <| qq ?_
     obtain⟨x5,si,H⟩:=aJ H
     obtain⟨gV,h6,sj,o6⟩:=pq _ _ _ si h5 _ _ _ (o5)  [.ptr bV 0,.int .u64 (u64.wrap (n0.args.length:Int))] (ao (rfl) (ao (aO (bD)) (bj)))
     refine qr [.a 5 sj] <| qq <| q0 <| qb 1 ?_
     obtain⟨bq,w9,H⟩:=aJ H
     refine ql (dY.bG L bV cd w0 n0  pq ((0:Int),x5) _ _ ⟨gV,h6,by kernel_rfl,o6⟩ w9) ?_
     rintro e s ⟨rfl,x8,w2,rfl,g0,g1,g2,g3,g4,xN,h9,rfl,o9⟩
     try dsimp only at H
     obtain rfl:=oi H
     exact⟨.inr rfl,⟨xN,by kernel_rfl,he o9⟩⟩
    ·obtain rfl:=oi H
     exact qk <| ⟨.inr rfl,⟨aB,by kernel_rfl,he o0⟩⟩
end
end Go.Proofs.YtmekcfdllhphlaaDoor
namespace Go.Proofs.YtmekcfdllhphlaaDoor
open Go Go.R
open Go.IntKind (i64 u64 u8 u32)
def Cf:cg:=gk [0,2,3,4,19] [] [30,26,10,31,29,18,23,29] [] []
def jF.f (m:Nat)(r0:fC):Option (ByteArray × fC):=(bN.f m r0).bind fun x0=>if x0.2.bz=true then (some ((Xf #[]),(fC.mk x0.2.eO true))) else (if (decide (x0.1 > (x0.2.eO.length:Int)))=true then (some ((Xf #[]),(fC.mk x0.2.eO true))) else ((pL x0.2.eO (0:Int) x0.1).bind fun v0=>(pL x0.2.eO x0.1 (x0.2.eO.length:Int)).bind fun v1=>some (dh v0,(fC.mk v1 x0.2.bz))))
def jF.fin (L:Mem)(aB:Nat)(r0:fC)(r:ByteArray × fC)(s:St):Prop:=aI Tryd.prog (s.open Cf) Tryd.f60.results.toList=some (.str r.1)∧Has s.h ((aB,.ob [au.fz r.2.eO,.bool r.2.bz])::L)
def SQ (cf:CallF)(m:Nat):Prop:=∀(r0:fC) (r:ByteArray × fC),jF.f m r0=some r→∀h L (aB:Nat),Has h ((aB,.ob [au.fz r0.eO,.bool r0.bz])::L)→∀xs,xs.map ay=[.ptr aB 0]→∃h',cf 60 xs h=some (.str r.1,h')∧Has h' ((aB,.ob [au.fz r.2.eO,.bool r.2.bz])::L)
section
variable {cf:CallF}{m:Nat}
theorem xq {aS:FuncId→cg}(ha:aS 60=Cf)(mX:KK cf m)(r0:fC)(h:AHeap)(L:Mem)(aB:Nat)  (o:Has h ((aB,.ob [au.fz r0.eO,.bool r0.bz])::L)){out:ByteArray × fC}(H:jF.f m r0=some out) :
  ∃r h',a7 Tryd.prog aS cf m 60 [.ptr aB 0] h=some (r,h')∧r = .str out.1∧Has h' ((aB,.ob [au.fz out.2.eO,.bool out.2.bz])::L):=by
 refine ak (fn:=Tryd.f60) ha Tryd.func60 (by kernel_rfl) (by kernel_rfl) ?_
 refine aF (Q:=fun s=>jF.fin L aB r0 out s) (fun _ _ ⟨h1,h2,h3⟩=>⟨h1,_,h2,rfl,h3⟩) ?_
 have H:_=some out:=H
 unfold jF.f at H
 show de _ cf Cf m _ ⟨.ptr aB 0::re [],[],h⟩ _
 refine q1 <| qq ?_
 obtain⟨x0,e0,H⟩:=aJ H
 obtain⟨h0,e1,o0⟩:=mX _ _ e0 h _ _ (o)  [.ptr aB 0] (ao (rfl) (bj))
 refine qr [.a 1 e1] <| qq <| qq ?_
 rcases dw H with⟨c0,H⟩| ⟨c0,H⟩
 ·refine qr [.v 3 (show bk Tryd.prog h0 4 (.ptr aB 1)=some (.bool x0.2.bz) from cn (q:=0) (cs:=[au.fz x0.2.eO,.bool x0.2.bz]) o0 rfl (by kernel_rfl)),.b 4 c0] <| pa <| qq ?_
  obtain⟨h1,e2,o1⟩:=kJ (P:=Tryd.prog) (t:=4) (off:=1) (q:=0) (cs:=[au.fz x0.2.eO,.bool x0.2.bz]) (fI:=[au.fz x0.2.eO,.bool true]) (x:=.bool true) o0 rfl (by kernel_rfl)
  obtain rfl:=oi H
  exact qr [.w 3 e2] <| qq <| q0 <| qt <| ⟨.inl rfl,⟨by kernel_rfl,he o1⟩⟩
 ·refine qr [.v 3 (show bk Tryd.prog h0 4 (.ptr aB 1)=some (.bool x0.2.bz) from cn (q:=0) (cs:=[au.fz x0.2.eO,.bool x0.2.bz]) o0 rfl (by kernel_rfl)),.b 4 c0,.v 9 (show bk Tryd.prog h0 25 (.ptr aB 0)=some (au.fz x0.2.eO) from cn (q:=0) (cs:=[au.fz x0.2.eO,.bool x0.2.bz]) o0 rfl (by kernel_rfl))] <| qc H (fun c2 H=>?_) (fun c2 H=>?_)
  ·refine qq ?_
   obtain⟨h2,e3,o2⟩:=kJ (P:=Tryd.prog) (t:=4) (off:=1) (q:=0) (cs:=[au.fz x0.2.eO,.bool x0.2.bz]) (fI:=[au.fz x0.2.eO,.bool true]) (x:=.bool true) o0 rfl (by kernel_rfl)
   obtain rfl:=oi H
   exact qr [.w 3 e3] <| qq <| q0 <| qt <| ⟨.inl rfl,⟨by kernel_rfl,he o2⟩⟩
  ·refine qk <| qq ?_
   obtain⟨v0,e4,H⟩:=aJ H
   refine qr [.v 3 (show bk Tryd.prog h0 25 (.ptr aB 0)=some (au.fz x0.2.eO) from cn (q:=0) (cs:=[au.fz x0.2.eO,.bool x0.2.bz]) o0 rfl (by kernel_rfl)),.v 5 (show fc Tryd.prog 25 (au.fz x0.2.eO) none (some (.int .i64 x0.1)) none=some (au.fz v0) from BE (E:=au) H4 e4),.v 6 (show eS Tryd.prog h0 25 9 (au.fz v0)=some (.str (dh v0)) from nN (e:=5) (l:=v0) rfl rfl rfl (s9 _))] <| qq ?_
   obtain⟨v1,e5,H⟩:=aJ H
   obtain⟨h3,e6,o3⟩:=kJ (P:=Tryd.prog) (t:=25) (off:=0) (q:=0) (cs:=[au.fz x0.2.eO,.bool x0.2.bz]) (fI:=[au.fz v1,.bool x0.2.bz]) (x:=au.fz v1) o0 rfl (by kernel_rfl)
   obtain rfl:=oi H
   exact qr [.v 4 (show bk Tryd.prog h0 25 (.ptr aB 0)=some (au.fz x0.2.eO) from cn (q:=0) (cs:=[au.fz x0.2.eO,.bool x0.2.bz]) o0 rfl (by kernel_rfl)),.v 6 (show fc Tryd.prog 25 (au.fz x0.2.eO) (some (.int .i64 x0.1)) none none=some (au.fz v1) from wR (E:=au) H4 e5),.w 9 e6] <| qq <| q0 <| qt <| ⟨.inl rfl,⟨by kernel_rfl,he o3⟩⟩
end
end Go.Proofs.YtmekcfdllhphlaaDoor
namespace Go.Proofs.YtmekcfdllhphlaaDoor
open Go Go.R
open Go.IntKind (i64 u64 u8 u32)
def vI:cg:=gk [0,2,3,4,5,11,15,20,29,35,40,48,53,54,55] [2,3] [32764,32760,32728,32761,32664,32761,32600,32753,32753,32497,32761,32216,32761,31736,32760,32744,30696,32744,20472,4088,20472,20472,32765] [(22,[(3,some 3,0)])] [(1,[(3,some 3,1)])]
def db.l0 (m:Nat)(x5:Int × fC):Nat→Int→Int→Int→ByteArray→(List Int)→fC→Option (Int × Int × Int × ByteArray × (List Int) × fC)
 | 0,_,_,_,_,_,_=>none
 | k+1,x6,n0,n1,n2,n3,r1=>if (decide (x6<(mn x5.1 (8:Int))))=true then ((bN.f m r1).bind fun x7=>(app 8 n3 ([x7.1])).bind fun x8=>db.l0 m x5 k (i64.wrap (x6+(1:Int))) n0 n1 n2 x8 x7.2) else (some ((x6,n0,n1,n2,n3,r1)))
def db.l1 (m:Nat)(x5:Int × fC):Nat→Int→Int→Int→ByteArray→(List Int)→fC→Option (Int × Int × Int × ByteArray × (List Int) × fC)
 | 0,_,_,_,_,_,_=>none
 | k+1,mw,n8,n9,Gb,AT,r3=>if (decide (mw<(mn x5.1 (8:Int))))=true then ((bN.f m r3).bind fun Hf=>(app 8 AT ([Hf.1])).bind fun H7=>db.l1 m x5 k (i64.wrap (mw+(1:Int))) n8 n9 Gb H7 Hf.2) else (some ((mw,n8,n9,Gb,AT,r3)))
def db.f (m:Nat)(r0:fC):Option (ae × fC):=(jD.f m r0).bind fun x0=>if ((i64.wrap x0.1)==(0:Int))=true then ((bN.f m x0.2).bind fun x1=>some ((ae.mk (i64.wrap x0.1) x1.1 (Xf #[]) ([]:List Int)),x1.2)) else (if ((i64.wrap x0.1)==(1:Int))=true then ((bN.f m x0.2).bind fun x2=>if ((Int.tmod x2.1 (2:Int))==(1:Int))=true then (some ((ae.mk (i64.wrap x0.1) (i64.wrap (0 - (i64.wrap (i64.wrap (Int.tdiv x2.1 (2:Int))+(1:Int))))) (Xf #[]) ([]:List Int)),x2.2)) else (some ((ae.mk (i64.wrap x0.1) (i64.wrap (Int.tdiv x2.1 (2:Int))) (Xf #[]) ([]:List Int)),x2.2))) else (if ((i64.wrap x0.1)==(2:Int))=true then ((jF.f m x0.2).bind fun x3=>some ((ae.mk (i64.wrap x0.1) (0:Int) x3.1 ([]:List Int)),x3.2)) else (if ((i64.wrap x0.1)==(3:Int))=true then ((jF.f m x0.2).bind fun x4=>(bN.f m x4.2).bind fun x5=>if (decide (x5.1 > (8:Int)))=true then ((db.l0 m x5 m (0:Int) (i64.wrap x0.1) (0:Int) x4.1 ([]:List Int) (fC.mk x5.2.eO true)).bind fun bq=>match bq with | (x9,n4,n5,n6,n7,r2)=>some ((ae.mk n4 n5 n6 n7),r2)) else ((db.l1 m x5 m (0:Int) (i64.wrap x0.1) (0:Int) x4.1 ([]:List Int) x5.2).bind fun cq=>match cq with | (AO,SS,SU,SV,Qv,r4)=>some ((ae.mk SS SU SV Qv),r4))) else (some ((ae.mk (i64.wrap x0.1) (0:Int) (Xf #[]) ([]:List Int)),(fC.mk x0.2.eO true))))))
def db.fin (L:Mem)(aB:Nat)(r0:fC)(r:ae × fC)(s:St):Prop:=aI Tryd.prog (s.open vI) Tryd.f44.results.toList=some (.agg [.int .i64 r.1.kind,.int .i64 r.1.int,.str r.1.label,aa.fz r.1.args])∧Has s.h ((aB,.ob [au.fz r.2.eO,.bool r.2.bz])::L)
def Ot (cf:CallF)(m:Nat):Prop:=∀(r0:fC) (r:ae × fC),db.f m r0=some r→∀h L (aB:Nat),Has h ((aB,.ob [au.fz r0.eO,.bool r0.bz])::L)→∀xs,xs.map ay=[.ptr aB 0]→∃h',cf 44 xs h=some (.agg [.int .i64 r.1.kind,.int .i64 r.1.int,.str r.1.label,aa.fz r.1.args],h')∧Has h' ((aB,.ob [au.fz r.2.eO,.bool r.2.bz])::L)
section
variable {cf:CallF}{m:Nat}
theorem db.bG (L:Mem)(aB:Nat)(r0:fC)(x5:Int × fC)  (mX:KK cf m):bI Tryd.prog cf vI m (sub [1,1,0,1,0,1,1,1,1,1,1,1,0,1,1,1,1,0,0] (codeOf Tryd.f44)) (fun k (σ:Int × Int × Int × ByteArray × (List Int) × fC)=>db.l0 m x5 k σ.1 σ.2.1 σ.2.2.1 σ.2.2.2.1 σ.2.2.2.2.1 σ.2.2.2.2.2) (fun σ s=>match σ with | (x6,n0,n1,n2,n3,r1)=>∃gF h11,s=⟨.ptr aB 0 :: .lp 2 0 :: .lp 3 0::D0 [.int .i64 (mn x5.1 (8:Int)),.int .i64 x6,.any],[some [.int .i64 (0:Int),.int .i64 (0:Int),.str (Xf #[]),.nils],some [.int .i64 n0,.int .i64 n1,.str n2,.rs gF 0 n3.length 1]],h11⟩∧Has h11 ((aB,.ob [au.fz r1.eO,.bool r1.bz])::(gF,.sl n3.length 1 (aa.l n3))::L)) (fun out e s=>(e = .exit 1∧∃x6 n0 n1 n2 n3 r1,(x6,n0,n1,n2,n3,r1)=out∧∃kp FX FY FZ gF h11,s=⟨kp :: .lp 2 0 :: .lp 3 0::D0 [FX,FY,FZ],[some [.int .i64 (0:Int),.int .i64 (0:Int),.str (Xf #[]),.nils],some [.int .i64 n0,.int .i64 n1,.str n2,.rs gF 0 n3.length 1]],h11⟩∧Has h11 ((aB,.ob [au.fz r1.eO,.bool r1.bz])::(gF,.sl n3.length 1 (aa.l n3))::L))):=by
 refine gS (fun _=>rfl) ?_
 rintro k ⟨x6,n0,n1,n2,n3,r1⟩ s out ⟨gF,h11,rfl,tI⟩ H
 have H:db.l0 m x5 (k+1) x6 n0 n1 n2 n3 r1=some out:=H
 refine q1 <| qq <| qc H (fun c6 H=>?_) (fun c6 H=>?_)
 ·refine qk <| qq <| qb 2 ?_
  obtain⟨x7,w9,H⟩:=aJ H
  obtain⟨h12,BY,lK⟩:=mX _ _ w9 h11 _ _ (tI)  [.ptr aB 0] (ao (rfl) (bj))
  obtain⟨x8,xb,H⟩:=aJ H
  obtain⟨dj,h13,BZ,yL⟩:=fY (P:=Tryd.prog) (E:=aa) (l:=n3) (q:=1) (t2:=42) (x:=.fz [.int .i64 x7.1] 1 true) (l2:=([x7.1])) dC lK rfl (by kernel_rfl) rfl xb
  exact qr [.a 3 BY,.a 5 BZ] <| q0 <| ⟨(i64.wrap (x6+(1:Int)),n0,n1,n2,x8,x7.2),⟨dj,h13,by kernel_rfl,yL⟩,H⟩
 ·exact qx 1 <| ⟨rfl,x6,n0,n1,n2,n3,r1,oi H,.ptr aB 0,.int .i64 (mn x5.1 (8:Int)),.int .i64 x6,.bool (decide (x6<(mn x5.1 (8:Int)))),gF,h11,by kernel_rfl,tI⟩
theorem db.fu (L:Mem)(aB:Nat)(r0:fC)(x5:Int × fC)  (mX:KK cf m):bI Tryd.prog cf vI m (sub [1,1,0,1,0,1,1,1,1,1,1,1,0,1,1,1,1,0,0] (codeOf Tryd.f44)) (fun k (σ:Int × Int × Int × ByteArray × (List Int) × fC)=>db.l1 m x5 k σ.1 σ.2.1 σ.2.2.1 σ.2.2.2.1 σ.2.2.2.2.1 σ.2.2.2.2.2) (fun σ s=>match σ with | (mw,n8,n9,Gb,AT,r3)=>∃gX h16,s=⟨.ptr aB 0 :: .lp 2 0 :: .lp 3 0::D0 [.int .i64 (mn x5.1 (8:Int)),.int .i64 mw,.any],[some [.int .i64 (0:Int),.int .i64 (0:Int),.str (Xf #[]),.nils],some [.int .i64 n8,.int .i64 n9,.str Gb,.rs gX 0 AT.length 1]],h16⟩∧Has h16 ((aB,.ob [au.fz r3.eO,.bool r3.bz])::(gX,.sl AT.length 1 (aa.l AT))::L)) (fun out e s=>(e = .exit 1∧∃mw n8 n9 Gb AT r3,(mw,n8,n9,Gb,AT,r3)=out∧∃kp FX FY FZ gX h16,s=⟨kp :: .lp 2 0 :: .lp 3 0::D0 [FX,FY,FZ],[some [.int .i64 (0:Int),.int .i64 (0:Int),.str (Xf #[]),.nils],some [.int .i64 n8,.int .i64 n9,.str Gb,.rs gX 0 AT.length 1]],h16⟩∧Has h16 ((aB,.ob [au.fz r3.eO,.bool r3.bz])::(gX,.sl AT.length 1 (aa.l AT))::L))):=by
 refine gS (fun _=>rfl) ?_
 rintro k ⟨mw,n8,n9,Gb,AT,r3⟩ s out ⟨gX,h16,rfl,AE⟩ H
 have H:db.l1 m x5 (k+1) mw n8 n9 Gb AT r3=some out:=H
 refine q1 <| qq <| qc H (fun c7 H=>?_) (fun c7 H=>?_)
 ·refine qk <| qq <| qb 2 ?_
  obtain⟨Hf,Fv,H⟩:=aJ H
  obtain⟨h17,D3,DA⟩:=mX _ _ Fv h16 _ _ (AE)  [.ptr aB 0] (ao (rfl) (bj))
  obtain⟨H7,Fw,H⟩:=aJ H
  obtain⟨gU,h18,FA,DB⟩:=fY (P:=Tryd.prog) (E:=aa) (l:=AT) (q:=1) (t2:=42) (x:=.fz [.int .i64 Hf.1] 1 true) (l2:=([Hf.1])) dC DA rfl (by kernel_rfl) rfl Fw
  exact qr [.a 3 D3,.a 5 FA] <| q0 <| ⟨(i64.wrap (mw+(1:Int)),n8,n9,Gb,H7,Hf.2),⟨gU,h18,by kernel_rfl,DB⟩,H⟩
 ·exact qx 1 <| ⟨rfl,mw,n8,n9,Gb,AT,r3,oi H,.ptr aB 0,.int .i64 (mn x5.1 (8:Int)),.int .i64 mw,.bool (decide (mw<(mn x5.1 (8:Int)))),gX,h16,by kernel_rfl,AE⟩
theorem xt {aS:FuncId→cg}(ha:aS 44=vI)(mX:KK cf m)(F8:Oo cf m)(Nw:SQ cf m)(r0:fC)(h:AHeap)(L:Mem)(aB:Nat)  (o:Has h ((aB,.ob [au.fz r0.eO,.bool r0.bz])::L)){out:ae × fC}(H:db.f m r0=some out) :
  ∃r h',a7 Tryd.prog aS cf m 44 [.ptr aB 0] h=some (r,h')∧r = .agg [.int .i64 out.1.kind,.int .i64 out.1.int,.str out.1.label,aa.fz out.1.args]∧Has h' ((aB,.ob [au.fz out.2.eO,.bool out.2.bz])::L):=by
 refine ak (fn:=Tryd.f44) ha Tryd.func44 (by kernel_rfl) (by kernel_rfl) ?_
 refine aF (Q:=fun s=>db.fin L aB r0 out s) (fun _ _ ⟨h1,h2,h3⟩=>⟨h1,_,h2,rfl,h3⟩) ?_
 have H:_=some out:=H
 unfold db.f at H
 show de _ cf vI m _ ⟨.ptr aB 0::rE [],[none,none],h⟩ _
 refine q1 <| qq ?_
 obtain⟨x0,e0,H⟩:=aJ H
 obtain⟨h0,e1,o0⟩:=F8 _ _ e0 h _ _ (o)  [.ptr aB 0] (ao (rfl) (bj))
 refine qr [.a 1 e1] ?_
 have o1:Has h0 (((0),.sl (([]:List Int).length) 1 (aa.l ([]:List Int)))::(aB,.ob [au.fz x0.2.eO,.bool x0.2.bz])::L):=Has.nil o0 1
 refine qq <| qq <| q0 <| qb 0 <| qq <| q0 <| qc H (fun c0 H=>?_) (fun c0 H=>?_)
 ·obtain⟨x1,e2,H⟩:=aJ H
  obtain⟨h1,e3,o2⟩:=mX _ _ e2 h0 _ _ ((Has.front (Has.front o1 0 rfl) 1 rfl))  [.ptr aB 0] (ao (rfl) (bj))
  refine qr [.a 1 e3] <| qq ?_
  obtain⟨h2,e4,o3⟩:=iW (E:=aa) (l:=([]:List Int)) (q:=1) o2 rfl
  obtain rfl:=oi H
  exact zN [.a 0 e4] [] <| qt <| ⟨.inl rfl,⟨by kernel_rfl,he o3⟩⟩
 ·refine q1 <| qc H (fun c1 H=>?_) (fun c1 H=>?_)
  ·refine qq ?_
   obtain⟨x2,e5,H⟩:=aJ H
   obtain⟨h3,e6,o4⟩:=mX _ _ e5 h0 _ _ ((Has.front (Has.front o1 0 rfl) 1 rfl))  [.ptr aB 0] (ao (rfl) (bj))
   refine qr [.a 1 e6] <| qq <| q0 <| qq <| q0 <| qc H (fun c2 H=>?_) (fun c2 H=>?_)
   ·refine q0 <| qq ?_
    obtain⟨h4,e7,o5⟩:=iW (E:=aa) (l:=([]:List Int)) (q:=1) o4 rfl
    obtain rfl:=oi H
    exact zN [.a 0 e7] [] <| qt <| ⟨.inl rfl,⟨by kernel_rfl,he o5⟩⟩
   ·refine qk <| qq ?_
    obtain⟨h5,e8,o6⟩:=iW (E:=aa) (l:=([]:List Int)) (q:=1) o4 rfl
    obtain rfl:=oi H
    exact zN [.a 0 e8] [] <| qt <| ⟨.inl rfl,⟨by kernel_rfl,he o6⟩⟩
  ·refine q1 <| qc H (fun c3 H=>?_) (fun c3 H=>?_)
   ·obtain⟨x3,e9,H⟩:=aJ H
    obtain⟨h6,mU,o7⟩:=Nw _ _ e9 h0 _ _ ((Has.front (Has.front o1 0 rfl) 1 rfl))  [.ptr aB 0] (ao (rfl) (bj))
    refine qr [.a 1 mU] <| qq ?_
    obtain⟨h7,rn,o8⟩:=iW (E:=aa) (l:=([]:List Int)) (q:=1) o7 rfl
    obtain rfl:=oi H
    exact zN [.a 0 rn] [] <| qt <| ⟨.inl rfl,⟨by kernel_rfl,he o8⟩⟩
   ·refine q1 <| qc H (fun c4 H=>?_) (fun c4 H=>?_)
    ·refine qq ?_
     obtain⟨x4,si,H⟩:=aJ H
     obtain⟨h8,sj,o9⟩:=Nw _ _ si h0 _ _ ((Has.front (Has.front o1 0 rfl) 1 rfl))  [.ptr aB 0] (ao (rfl) (bj))
     refine qr [.a 1 sj] <| qq ?_
     obtain⟨x5,uS,H⟩:=aJ H
     obtain⟨h9,uz,uQ⟩:=mX _ _ uS h8 _ _ (o9)  [.ptr aB 0] (ao (rfl) (bj))
     refine qr [.a 1 uz] <| qq <| qq <| q0 <| qc H (fun c5 H=>?_) (fun c5 H=>?_)
     ·obtain⟨h10,xM,vB⟩:=kJ (P:=Tryd.prog) (t:=4) (off:=1) (q:=0) (cs:=[au.fz x5.2.eO,.bool x5.2.bz]) (fI:=[au.fz x5.2.eO,.bool true]) (x:=.bool true) uQ rfl (by kernel_rfl)
      refine qr [.w 3 xM] <| qq <| q0 <| qb 1 ?_
      obtain⟨bq,D4,H⟩:=aJ H
      refine ql (db.bG L aB r0 x5  mX ((0:Int),i64.wrap x0.1,(0:Int),x4.1,([]:List Int),(fC.mk x5.2.eO true)) _ _ ⟨(0),h10,by kernel_rfl,vB⟩ D4) ?_
      rintro e s ⟨rfl,x9,n4,n5,n6,n7,r2,rfl,g0,g1,g2,g3,fA,h14,rfl,zO⟩
      try dsimp only at H
      refine qq ?_
      obtain⟨h15,D2,lQ⟩:=iW (E:=aa) (l:=n7) (q:=1) zO rfl
      obtain rfl:=oi H
      exact zN [.a 0 D2] [] <| qt <| ⟨.inl rfl,⟨by kernel_rfl,he lQ⟩⟩
     ·refine qk <| qq <| q0 <| qb 1 ?_
      obtain⟨cq,He,H⟩:=aJ H
      refine ql (db.fu L aB r0 x5  mX ((0:Int),i64.wrap x0.1,(0:Int),x4.1,([]:List Int),x5.2) _ _ ⟨(0),h9,by kernel_rfl,uQ⟩ He) ?_
      rintro e s ⟨rfl,AO,SS,SU,SV,Qv,r4,rfl,g4,g5,g6,g7,gV,h19,rfl,KC⟩
      try dsimp only at H
      refine qq ?_
      obtain⟨h20,Fy,xh⟩:=iW (E:=aa) (l:=Qv) (q:=1) KC rfl
      obtain rfl:=oi H
      exact zN [.a 0 Fy] [] <| qt <| ⟨.inl rfl,⟨by kernel_rfl,he xh⟩⟩
    ·obtain⟨h21,Fz,FO⟩:=kJ (P:=Tryd.prog) (t:=4) (off:=1) (q:=1) (cs:=[au.fz x0.2.eO,.bool x0.2.bz]) (fI:=[au.fz x0.2.eO,.bool true]) (x:=.bool true) o1 rfl (by kernel_rfl)
     refine qr [.w 3 Fz] <| qq ?_
     obtain⟨h22,Fx,D5⟩:=iW (E:=aa) (l:=([]:List Int)) (q:=0) FO rfl
     obtain rfl:=oi H
     exact zN [.a 0 Fx] [] <| qt <| ⟨.inl rfl,⟨by kernel_rfl,he D5⟩⟩
end
end Go.Proofs.YtmekcfdllhphlaaDoor
namespace Go.Proofs.YtmekcfdllhphlaaDoor
open Go Go.R
open Go.IntKind (i64 u64 u8 u32)
theorem xu (s:ByteArray):dh (eU s)=s:=by
 unfold dh eU
 rw [List.map_map]
 have:(List.map ((fun n:Int=>UInt8.ofNat n.toNat)∘fun b:UInt8=>(b.toNat:Int)) s.data.toList)=s.data.toList:=by
  conv=>rhs; rw [←List.map_id s.data.toList]
  apply XS
  intro b _
  simp
 rw [this]
theorem iJ (s:ByteArray):(eU s).length=s.size:=by simp [eU]
theorem zc:∀(k n:Nat),n<128 ^ (k+1)→(dM n).length≤k+1
 | k,n,h=>by
  by_cases h1:n<128
  ·rw [lj h1]; simp
  ·cases k with
   | zero=>simp at h; omega
   | succ k=>
    have hd:n / 128<128 ^ (k+1):=by
     rw [Nat.div_lt_iff_lt_mul (by omega)]
     calc n<128 ^ (k+1+1):=h
      _=_:=by rw [Nat.pow_succ]
    have:=zc k (n / 128) hd
    rw [oW h1]; simp; omega
theorem dR {n:Nat}(h:n<2 ^ 64):(dM n).length≤10:=zc 9 n (by omega)
def nW (s:ByteArray):List Int:=dM s.size++eU s
theorem Jc {m:Nat}{w:List Int}{s:ByteArray}(hm:11≤m)(hs:s.size≠0)(hw:w≠[])(hl:w.length+s.size+20≤140737488355328):jE.f m w s=some (w++nW s):=by
 unfold jE.f
 have h1:s.size<2 ^ 64:=by omega
 have h2:=dR h1
 rw [ic (by omega) (by omega),za hm h1 hw (by omega),WL,mC (by simp [hw]) (fun h=>hs (by rw [←iJ,h]; rfl)) (by simp [iJ]; omega),WL,W3]
 rfl
theorem Jd {m:Nat}{s:ByteArray}{rest:List Int}(hm:11≤m)(hl:s.size<2 ^ 63):jF.f m ⟨nW s++rest,false⟩=some (s,⟨rest,false⟩):=by
 unfold jF.f nW
 rw [W3,AS hm hl,WL,if_neg (by simp)]
 dsimp only
 have hlen:=iJ s
 rw [if_neg (by simp [hlen]; omega)]
 have h1:pL (eU s++rest) 0 (s.size:Int)=some (eU s):=by
  unfold pL
  rw [if_pos ⟨Int.le_refl _,by omega,by simp [hlen]; omega⟩]
  simp [←hlen]
 have h2:pL (eU s++rest) (s.size:Int) ((eU s++rest).length:Int)=some rest:=by
  unfold pL
  rw [if_pos ⟨by omega,by simp [hlen]; omega,Int.le_refl _⟩,←hlen]
  simp only [WT,List.drop_left]
  rw [Xt (by simp)]
 rw [h1,WL,h2,WL,xu]
structure tX (n:ae):Prop where
 kind:n.kind=0∧(0≤n.int∧n.int<2 ^ 63)∧n.label=Xf #[]∧n.args=[]∨n.kind=1∧(-(2 ^ 62)≤n.int∧n.int<2 ^ 62)∧n.label=Xf #[]∧n.args=[]∨n.kind=2∧n.int=0∧n.args=[]∨n.kind=3∧n.int=0
 label:2≤n.kind→n.label.size≠0∧n.label.size<2 ^ 40
 args:n.args.length≤8∧∀a∈n.args,0≤a∧a<2 ^ 63
def xP (x:Int):Nat:=if x<0 then ((-x)*2 - 1).toNat else (x*2).toNat
def du (n:ae):List Int:=
 n.kind::(if n.kind=0 then dM n.int.toNat else if n.kind=1 then dM (xP n.int) else if n.kind=2 then nW n.label else nW n.label++dM n.args.length++(n.args.map fun a=>dM a.toNat).flatten)
theorem Je {m:Nat}(hm:11≤m)(n0:ae)(ha:∀a∈n0.args,0≤a∧a<2 ^ 63)(hlen:n0.args.length≤8):∀(l:List Int) (f i:Nat) (w:List Int),l.length<f→n0.args.drop i=l→i≤8→w≠[]→w.length+20*l.length+20≤140737488355328→
  ∃x,dY.l0 m n0 f (i:Int) w=some (x,w++(l.map fun a=>dM a.toNat).flatten)
 | l,0,i,w,hf,_,_,_,_=>absurd hf (by omega)
 | [],f+1,i,w,hf,hd,hi,hw,hl=>by
  have:n0.args.length≤i:=by
   have:=congrArg List.length hd
   simp at this
   omega
  refine⟨i,?_⟩
  unfold dY.l0
  rw [if_neg (by simp; omega)]
  simp
 | a::l,f+1,i,w,hf,hd,hi,hw,hl=>by
  have Hp:i<n0.args.length:=by
   have:=congrArg List.length hd
   simp at this
   omega
  have hg:n0.args[i]? = some a:=by
   have:=congrArg (·[0]?) hd
   simpa using this
  have U0:a∈n0.args:=XQ hg
  obtain⟨h1,h2⟩:=ha a U0
  obtain⟨b,rfl⟩:∃b:Nat,a=(b:Int):=⟨a.toNat,by omega⟩
  have U1:n0.args.drop (i+1)=l:=by
   rw [←List.tail_drop,hd]; rfl
  have e1:(dM b).length≤10:=dR (by omega)
  simp only [W9] at hf hl
  obtain⟨x,ih⟩:=Je hm n0 ha hlen l f (i+1) (w++dM b) (by omega) U1 (by omega) (by simp [hw]) (by simp; omega)
  refine⟨x,?_⟩
  unfold dY.l0
  have KE:ix n0.args (i:Int)=some (b:Int):=by unfold ix; rw [if_pos (by omega)]; exact hg
  rw [if_pos (by simp; omega),KE,WL,ic h1 (by omega),za hm (by omega) hw (by omega),WL,aD (by omega) (by omega)]
  rw [show ((i:Int)+1)=((i+1:Nat):Int) by omega]
  rw [ih,Xc,List.flatten_cons,W3,WT]
end Go.Proofs.YtmekcfdllhphlaaDoor
namespace Go.Proofs.YtmekcfdllhphlaaDoor
open Go Go.R
open Go.IntKind (i64 u64 u8 u32)
theorem Ih {x:Int}(h:x<0)(h2 : -(2 ^ 62)≤x):u64.wrap (u64.wrap (u64.wrap (i64.wrap (0 - x))*2) - 1)=(xP x:Int):=by
 have:(2:Int) ^ 62=4611686018427387904:=by decide
 rw [aD (by omega) (by omega),ic (x:=0 - x) (by omega) (by omega),ic (x:=(0 - x)*2) (by omega) (by omega),ic (by omega) (by omega)]
 unfold xP
 rw [if_pos h]
 omega
theorem Ii {x:Int}(h:¬x<0)(h2:x<2 ^ 62):u64.wrap (u64.wrap x*2)=(xP x:Int):=by
 have:(2:Int) ^ 62=4611686018427387904:=by decide
 rw [ic (x:=x) (by omega) (by omega),ic (by omega) (by omega)]
 unfold xP
 rw [if_neg h]
 omega
theorem AU {x:Int}(h1 : -(2 ^ 62)≤x)(h2:x<2 ^ 62):xP x<2 ^ 63:=by
 have:(2:Int) ^ 62=4611686018427387904:=by decide
 have:(2:Nat) ^ 63=9223372036854775808:=by decide
 unfold xP
 split<;>omega
theorem Nx {m:Nat}{w:List Int}{n:ae}(hm:11≤m)(W:tX n)(hl:w.length+n.label.size+1000≤140737488355328)(hw:w≠[]):dY.f m w n=some (w++du n):=by
 have Hj:(2:Nat) ^ 63=9223372036854775808:=by decide
 have SW:(2:Int) ^ 63=9223372036854775808:=by decide
 have Qw:(2:Nat) ^ 64=18446744073709551616:=by decide
 have hk:0≤n.kind∧n.kind≤3:=by rcases W.kind with h | h | h | h<;>(have:=h.1; omega)
 unfold dY.f
 rw [mP,show n.kind % 256=n.kind by omega,mC hw (by simp) (by simp; omega),WL]
 rcases W.kind with⟨h,hi,_,_⟩| ⟨h,hi,_,_⟩| ⟨h,hi,_⟩| ⟨h,hi⟩
 ·obtain⟨b,hb⟩:∃b:Nat,n.int=(b:Int):=⟨n.int.toNat,by omega⟩
  rw [show du n=0::dM b by simp [du,h,hb],h,if_pos (by decide),ic (by omega) (by omega),hb,za hm (by omega) (by simp) (by simp; omega),WL]
  simp
 ·have hz:=AU hi.1 hi.2
  rw [show du n=1::dM (xP n.int) by simp [du,h],h,if_neg (by decide),if_pos (by decide)]
  by_cases hn:n.int<0
  ·rw [if_pos (by simpa using hn),Ih hn hi.1,za hm (by omega) (by simp) (by simp; omega),WL]
   simp
  ·rw [if_neg (by simpa using hn),Ii hn hi.2,za hm (by omega) (by simp) (by simp; omega),WL]
   simp
 ·obtain⟨g1,g2⟩:=W.label (by omega)
  rw [show du n=2::nW n.label by simp [du,h],h,if_neg (by decide),if_neg (by decide),if_pos (by decide),Jc hm g1 (by simp) (by simp; omega),WL]
  simp
 ·obtain⟨g1,g2⟩:=W.label (by omega)
  obtain⟨g3,g4⟩:=W.args
  have e1:(nW n.label).length≤10+n.label.size:=by
   unfold nW
   have:=dR (n:=n.label.size) (by omega)
   simp [iJ]; omega
  have e2:(dM n.args.length).length≤10:=dR (by omega)
  rw [show du n=3::(nW n.label++dM n.args.length++(n.args.map fun a=>dM a.toNat).flatten) by simp [du,h],h,if_neg (by decide),if_neg (by decide),if_neg (by decide),if_pos (by decide),Jc hm g1 (by simp) (by simp; omega),WL,
   ic (by omega) (by omega),za hm (by omega) (by simp) (by simp; omega),WL]
  obtain⟨x,hx⟩:=Je hm n g4 g3 n.args m 0 (w++[3]++nW n.label++dM n.args.length) (by omega) rfl (by omega) (by simp) (by simp; omega)
  have hx:dY.l0 m n m (0:Int) (w++[3]++nW n.label++dM n.args.length)=_:=hx
  rw [hx,WL]
  simp
theorem Jf {m:Nat}(hm:11≤m)(x5:Int × fC)(k0:Int)(lb:ByteArray)(rest:List Int)(hx:0≤x5.1∧x5.1≤8):∀(l:List Int) (f i:Nat) (acc:List Int),l.length<f→(i:Int)+l.length=x5.1→acc.length+l.length≤8→(∀a∈l,0≤a∧a<2 ^ 63)→
  ∃x,db.l1 m x5 f (i:Int) k0 0 lb acc ⟨(l.map fun a=>dM a.toNat).flatten++rest,false⟩=some (x,k0,0,lb,acc++l,⟨rest,false⟩)
 | l,0,i,acc,hf,_,_,_=>absurd hf (by omega)
 | [],f+1,i,acc,hf,hi,ha,hl=>by
  refine⟨i,?_⟩
  unfold db.l1
  simp only [XI] at hi
  rw [if_neg (by unfold mn; simp; split<;>omega)]
  simp
 | a::l,f+1,i,acc,hf,hi,ha,hl=>by
  simp only [W9] at hf hi ha
  have SW:(2:Int) ^ 63=9223372036854775808:=by decide
  have Hj:(2:Nat) ^ 63=9223372036854775808:=by decide
  obtain⟨h1,h2⟩:=hl a (by simp)
  obtain⟨b,rfl⟩:∃b:Nat,a=(b:Int):=⟨a.toNat,by omega⟩
  obtain⟨x,ih⟩:=Jf hm x5 k0 lb rest hx l f (i+1) (acc++[(b:Int)]) (by omega) (by omega) (by simp; omega) (fun c hc=>hl c (by simp [hc]))
  refine⟨x,?_⟩
  unfold db.l1
  rw [if_pos (by unfold mn; simp; split<;>omega),Xc,List.flatten_cons,W3,WT,AS hm (by omega),WL]
  have lP:app 8 acc [(b:Int)]=some (acc++[(b:Int)]):=by unfold app; rw [if_pos (by simp; omega)]
  dsimp only
  rw [lP,WL,aD (by omega) (by omega),show ((i:Int)+1)=((i+1:Nat):Int) by omega,ih]
  simp
end Go.Proofs.YtmekcfdllhphlaaDoor
namespace Go.Proofs.YtmekcfdllhphlaaDoor
open Go Go.R
open Go.IntKind (i64 u64 u8 u32)
theorem Gc {x:Int}(h:¬x<0)(h2:x<2 ^ 62):¬(Int.tmod (xP x:Int) 2==1)=true∧i64.wrap (Int.tdiv (xP x:Int) 2)=x:=by
 have hz:(xP x:Int)=x*2:=by unfold xP; rw [if_neg h]; omega
 rw [hz,Int.mul_tmod_left,Int.mul_tdiv_cancel _ (by decide),aD (by omega) (by omega)]
 exact⟨by decide,rfl⟩
theorem Ij {x:Int}(h:x<0)(h2 : -(2 ^ 62)≤x):(Int.tmod (xP x:Int) 2==1)=true∧i64.wrap (0 - i64.wrap (i64.wrap (Int.tdiv (xP x:Int) 2)+1))=x:=by
 have hz:(xP x:Int)=((-x - 1).toNat*2+1:Nat):=by unfold xP; rw [if_pos h]; omega
 have h3:Int.tmod (((-x - 1).toNat*2+1:Nat):Int) 2=1:=by
  rw [Int.tmod_eq_emod_of_nonneg (by omega)]; omega
 have h4:Int.tdiv (((-x - 1).toNat*2+1:Nat):Int) 2 = -x - 1:=by
  rw [Int.tdiv_eq_ediv_of_nonneg (by omega)]; omega
 rw [hz,h3,h4,aD (x:=-x - 1) (by omega) (by omega),aD (x:=-x - 1+1) (by omega) (by omega),aD (by omega) (by omega)]
 exact⟨by decide,by omega⟩
theorem Ny {m:Nat}{n:ae}{rest:List Int}(hm:11≤m)(W:tX n):db.f m ⟨du n++rest,false⟩=some (n,⟨rest,false⟩):=by
 have Hj:(2:Nat) ^ 63=9223372036854775808:=by decide
 have SW:(2:Int) ^ 63=9223372036854775808:=by decide
 obtain⟨kd,nt,lb,Ik⟩:=n
 unfold db.f
 rcases W.kind with⟨h,hi,Nz,ha⟩| ⟨h,hi,Nz,ha⟩| ⟨h,hi,ha⟩| ⟨h,hi⟩
 ·simp only at h hi Nz ha
  subst h Nz ha
  obtain⟨b,rfl⟩:∃b:Nat,nt=(b:Int):=⟨nt.toNat,by omega⟩
  rw [show du ⟨0,(b:Int),Xf #[],[]⟩=0::dM b by simp [du],Xe,vH,WL]
  dsimp only
  rw [aD (by omega) (by omega),if_pos (by decide),AS hm (by omega),WL]
 ·simp only at h hi Nz ha
  subst h Nz ha
  rw [show du ⟨1,nt,Xf #[],[]⟩=1::dM (xP nt) by simp [du],Xe,vH,WL]
  dsimp only
  rw [aD (x:=1) (by omega) (by omega),if_neg (by decide),if_pos (by decide),AS hm (AU hi.1 hi.2),WL]
  by_cases hn:nt<0
  ·obtain⟨z1,z2⟩:=Ij hn hi.1
   rw [if_pos z1,z2]
  ·obtain⟨z1,z2⟩:=Gc hn hi.2
   rw [if_neg z1,z2]
 ·simp only at h hi ha
  subst h hi ha
  obtain⟨g1,g2⟩:=W.label (by simp)
  simp only at g1 g2
  rw [show du ⟨2,0,lb,[]⟩=2::nW lb by simp [du],Xe,vH,WL]
  dsimp only
  rw [aD (x:=2) (by omega) (by omega),if_neg (by decide),if_neg (by decide),if_pos (by decide),Jd hm (by omega),WL]
 ·simp only at h hi
  subst h hi
  obtain⟨g1,g2⟩:=W.label (by simp)
  obtain⟨g3,g4⟩:=W.args
  simp only at g1 g2 g3 g4
  rw [show du ⟨3,0,lb,Ik⟩=3::(nW lb++dM Ik.length++(Ik.map fun a=>dM a.toNat).flatten) by simp [du],Xe,vH,WL]
  dsimp only
  rw [aD (x:=3) (by omega) (by omega),if_neg (by decide),if_neg (by decide),if_neg (by decide),if_pos (by decide)]
  rw [W3,W3,Jd hm (by omega),WL]
  dsimp only
  rw [AS hm (by omega),WL,if_neg (by simp; omega)]
  obtain⟨x,hx⟩:=Jf hm ((Ik.length:Int),(⟨(Ik.map fun a=>dM a.toNat).flatten++rest,false⟩:fC)) 3 lb rest (by simp; omega) Ik m 0 [] (by omega) (by simp) (by simp; omega) g4
  have hx:db.l1 m ((Ik.length:Int),(⟨(Ik.map fun a=>dM a.toNat).flatten++rest,false⟩:fC)) m (0:Int) 3 0 lb [] ⟨(Ik.map fun a=>dM a.toNat).flatten++rest,false⟩=_:=hx
  rw [hx,WL]
  simp
end Go.Proofs.YtmekcfdllhphlaaDoor
namespace Go.Proofs.YtmekcfdllhphlaaDoor
open Go Go.R
open Go.IntKind (i64 u64 u8 u32)
def vJ:cg:=gk [0,2,3,5,6,7,8,9,16,17] [] [1022,1018,907,779,899,907,651,139,651,651,907,1021] [] []
def bB.l1 (m:Nat)  : Nat→Int→Int→Option (Int × Int)
 | 0,_,_=>none
 | k+1,qv,x1=>if (decide (x1<(8:Int)))=true then (bB.l1 m k (lg .u32 (gj .u32 qv 1) (hZ .u32 (3988292384:Int) (u32.wrap (0 - (hZ .u32 qv (1:Int)))))) (i64.wrap (x1+(1:Int)))) else (some ((qv,x1)))
def bB.l0 (m:Nat)(b0:List Int):Nat→Int→Int→Option (Int × Int)
 | 0,_,_=>none
 | k+1,tY,x0=>if (decide (x0<(b0.length:Int)))=true then ((ix b0 x0).bind fun v0=>(bB.l1 m m (lg .u32 tY (u32.wrap v0)) (0:Int)).bind fun bq=>match bq with | (KL,x2)=>bB.l0 m b0 k KL (i64.wrap (x0+(1:Int)))) else (some ((tY,x0)))
def bB.f (m:Nat)(b0:List Int):Option (Int):=(bB.l0 m b0 m (4294967295:Int) (0:Int)).bind fun cq=>match cq with | (KM,x3)=>some (i64.wrap (I2 .u32 KM))
def bB.fin (L:Mem)(r:Int)(s:St):Prop:=∃av,aI Tryd.prog (s.open vJ) Tryd.f21.results.toList=some av∧fB s.h av (.int .i64 r)
def SX (cf:CallF)(m:Nat):Prop:=∀(b0:List Int) (r:Int),bB.f m b0=some r→∀h xs,ej eL h xs [au.fz b0]→cf 21 xs h=some (.int .i64 r,h)
section
variable {cf:CallF}{m:Nat}
theorem bB.fu (L:Mem)(b0:List Int)(x0:Int)   : bI Tryd.prog cf vJ m (sub [1,1,0,1,0,0,1,1,0,0,1,1,1,0,0] (codeOf Tryd.f21)) (fun k (σ:Int × Int)=>bB.l1 m k σ.1 σ.2) (fun σ s=>match σ with | (qv,x1)=>∃h1,s=⟨[.any,.any,.int .u32 qv,.any,au.fz b0,.int .i64 (b0.length:Int),.int .i64 x0,.any,.int .i64 x1,.any],[],h1⟩∧Has h1 (L)) (fun out e s=>(e = .exit 2∧∃qv x1,(qv,x1)=out∧∃AW w8 h1,s=⟨[.any,.any,.int .u32 qv,.any,au.fz b0,.int .i64 (b0.length:Int),.int .i64 x0,.any,AW,w8],[],h1⟩∧Has h1 (L))):=by
 refine gS (fun _=>rfl) ?_
 rintro k ⟨qv,x1⟩ s out ⟨h1,rfl,o1⟩ H
 have H:bB.l1 m (k+1) qv x1=some out:=H
 refine q1 <| qq <| qc H (fun c1 H=>?_) (fun c1 H=>?_)
 ·exact qk <| qq <| qb 3 <| q0 <| q0 <| ⟨(lg .u32 (gj .u32 qv 1) (hZ .u32 (3988292384:Int) (u32.wrap (0 - (hZ .u32 qv (1:Int))))),i64.wrap (x1+(1:Int))),⟨h1,by kernel_rfl,o1⟩,H⟩
 ·exact qx 2 <| ⟨rfl,qv,x1,oi H,.int .i64 x1,.bool (decide (x1<(8:Int))),h1,by kernel_rfl,o1⟩
theorem bB.bG (L:Mem)(b0:List Int)   : bI Tryd.prog cf vJ m (sub [1,1,0,1,0,0] (codeOf Tryd.f21)) (fun k (σ:Int × Int)=>bB.l0 m b0 k σ.1 σ.2) (fun σ s=>match σ with | (tY,x0)=>∃h0,s=⟨.any :: .any :: .int .u32 tY :: .any::au.fz b0 :: .int .i64 (b0.length:Int) :: .int .i64 x0::jW [],[],h0⟩∧Has h0 (L)) (fun out e s=>(e = .exit 0∧∃tY x0,(tY,x0)=out∧∃AJ tF qn tG h0,s=⟨[.any,.any,.int .u32 tY,.any,AJ,tF,qn,tG,.any,.any],[],h0⟩∧Has h0 (L))):=by
 refine gS (fun _=>rfl) ?_
 rintro k ⟨tY,x0⟩ s out ⟨h0,rfl,o0⟩ H
 have H:bB.l0 m b0 (k+1) tY x0=some out:=H
 refine q1 <| qq <| qc H (fun c0 H=>?_) (fun c0 H=>?_)
 ·refine qk <| qq <| qb 1 <| qq ?_
  obtain⟨v0,e0,H⟩:=aJ H
  refine qr [.v 0 (bo (k:=.i64) (E:=au) (l:=b0) H4 e0),.v 1 (cY  (E:=au) (l:=b0) h0 A5 e0 rfl)] <| qq <| q0 <| qq <| q0 <| qb 2 ?_
  obtain⟨bq,e1,H⟩:=aJ H
  refine ql (bB.fu L b0 x0   (lg .u32 tY (u32.wrap v0),(0:Int)) _ _ ⟨h0,by kernel_rfl,o0⟩ e1) ?_
  rintro e s ⟨rfl,KL,x2,rfl,g0,g1,h2,rfl,o2⟩
  try dsimp only at H
  exact q0 <| ⟨(KL,i64.wrap (x0+(1:Int))),⟨h2,by kernel_rfl,o2⟩,H⟩
 ·exact qx 0 <| ⟨rfl,tY,x0,oi H,au.fz b0,.int .i64 (b0.length:Int),.int .i64 x0,.bool (decide (x0<(b0.length:Int))),h0,by kernel_rfl,o0⟩
theorem rP {aS:FuncId→cg}(ha:aS 21=vJ)  (b0:List Int)(h:AHeap)(L:Mem)  (o:Has h (L)){out:Int}(H:bB.f m b0=some out) :
  ∃r h',a7 Tryd.prog aS cf m 21 [au.fz b0] h=some (r,h')∧fB h' r (.int .i64 out):=by
 refine ak (fn:=Tryd.f21) ha Tryd.func21 (by kernel_rfl) (by kernel_rfl) ?_
 refine aF (Q:=fun s=>bB.fin L out s) (fun _ _ h=>h) ?_
 have H:_=some out:=H
 unfold bB.f at H
 show de _ cf vJ m _ ⟨au.fz b0::D0 [],[],h⟩ _
 refine q1 <| qq <| q0 <| qq <| qq <| q0 <| qb 0 ?_
 obtain⟨cq,e2,H⟩:=aJ H
 refine ql (bB.bG L b0   ((4294967295:Int),(0:Int)) _ _ ⟨h,by kernel_rfl,o⟩ e2) ?_
 rintro e s ⟨rfl,KM,x3,rfl,g2,g3,g4,g5,h3,rfl,o3⟩
 try dsimp only at H
 obtain rfl:=oi H
 exact q1 <| qt <| ⟨.inl rfl,bZ (.int .i64 (i64.wrap (I2 .u32 KM))) h3 (bX (eu))⟩
end
end Go.Proofs.YtmekcfdllhphlaaDoor
namespace Go.Proofs.YtmekcfdllhphlaaDoor
open Go Go.R
open Go.IntKind (i64 u64 u8 u32)
def Cg:cg:=gk [0,2,3] [17] [6,3,5] [] [(0,[(2,none,1)])]
def cF.f (m:Nat)(b0:List Int):Option ((List Int)):=(bB.f m b0).bind fun x0=>some ([u8.wrap x0,u8.wrap (gj .i64 x0 8),u8.wrap (gj .i64 x0 16),u8.wrap (gj .i64 x0 24)])
def cF.fin (L:Mem)(r:(List Int))(s:St):Prop:=∃av,aI Tryd.prog (s.open Cg) Tryd.f42.results.toList=some av∧fB s.h av (au.fz r)
def Qx (cf:CallF)(m:Nat):Prop:=∀(b0:List Int) (r:(List Int)),cF.f m b0=some r→∀h xs,ej eL h xs [au.fz b0]→cf 42 xs h=some (au.fz r,h)
section
variable {cf:CallF}{m:Nat}
theorem pt {aS:FuncId→cg}(ha:aS 42=Cg)(Qy:SX cf m)(b0:List Int)(h:AHeap)(L:Mem)  (o:Has h (L)){out:(List Int)}(H:cF.f m b0=some out) :
  ∃r h',a7 Tryd.prog aS cf m 42 [au.fz b0] h=some (r,h')∧fB h' r (au.fz out):=by
 refine ak (fn:=Tryd.f42) ha Tryd.func42 (by kernel_rfl) (by kernel_rfl) ?_
 refine aF (Q:=fun s=>cF.fin L out s) (fun _ _ h=>h) ?_
 have H:_=some out:=H
 unfold cF.f at H
 show de _ cf Cg m _ ⟨[au.fz b0,.any,.any],[none],h⟩ _
 refine q1 <| qq ?_
 obtain⟨x0,e0,H⟩:=aJ H
 refine qr [.a 1 (Qy _ _ e0 h _ (ga (ab (bS (E:=au)) (ax))))] <| qq ?_
 obtain⟨aB,h0,e1,o0⟩:=HQ (E:=au) (l:=[u8.wrap x0,u8.wrap (gj .i64 x0 8),u8.wrap (gj .i64 x0 16),u8.wrap (gj .i64 x0 24)]) (cs:=[.int .u8 (u8.wrap x0),.int .u8 (u8.wrap (gj .i64 x0 8)),.int .u8 (u8.wrap (gj .i64 x0 16)),.int .u8 (u8.wrap (gj .i64 x0 24))]) o (by kernel_rfl)
 obtain rfl:=oi H
 exact qr [.a 11 e1] <| qt <| ⟨.inl rfl,bZ (.rs aB 0 (([u8.wrap x0,u8.wrap (gj .i64 x0 8),u8.wrap (gj .i64 x0 16),u8.wrap (gj .i64 x0 24)]:List Int).length) 1) h0 (bX (yB (E:=au) (l:=([u8.wrap x0,u8.wrap (gj .i64 x0 8),u8.wrap (gj .i64 x0 16),u8.wrap (gj .i64 x0 24)])) (q:=0) o0 rfl (fun _=>rfl)))⟩
end
end Go.Proofs.YtmekcfdllhphlaaDoor
namespace Go.Proofs.YtmekcfdllhphlaaDoor
open Go Go.R
open Go.IntKind (i64 u64 u8 u32)
def vK:cg:=gk [0,2,3,5,7,8,24,25,26,27,37,38,39,40] [5,7] [16382,16378,16378,16378,16378,15931,15419,15923,15923,8763,571,8747,8763,8763,15931,16351,16381] [] []
def aU.l1 (m:Nat)(v0:an):Nat→Int→(List Int)→Option (Int × (List Int))
 | 0,_,_=>none
 | k+1,x3,rQ=>if (decide (x3<(v0.nodes.length:Int)))=true then ((ix v0.nodes x3).bind fun v1=>(dY.f m rQ v1).bind fun x4=>aU.l1 m v0 k (i64.wrap (x3+(1:Int))) x4) else (some ((x3,rQ)))
def aU.l0 (m:Nat)(bb:List an):Nat→Int→(List Int)→Option (Int × (List Int))
 | 0,_,_=>none
 | k+1,x1,rR=>if (decide (x1<(bb.length:Int)))=true then ((ix bb x1).bind fun v0=>(b4.f m rR (u64.wrap (v0.nodes.length:Int))).bind fun x2=>(aU.l1 m v0 m (0:Int) x2).bind fun bq=>match bq with | (x5,KN)=>aU.l0 m bb k (i64.wrap (x1+(1:Int))) KN) else (some ((x1,rR)))
def aU.f (m:Nat)(bb:List an):Option ((List Int)):=(wB ([]) ([(76:Int)])).bind fun xO=>(E5 xO ([(1:Int)])).bind fun Nt=>(b4.f m Nt (u64.wrap (bb.length:Int))).bind fun x0=>(aU.l0 m bb m (0:Int) x0).bind fun cq=>match cq with | (x6,xw)=>(ti xw).bind fun u0=>(cF.f m xw).bind fun x7=>(app 1 xw x7).bind fun x8=>some x8
def aU.fin (L:Mem)(r:(List Int))(s:St):Prop:=∃av,aI Tryd.prog (s.open vK) Tryd.f36.results.toList=some av∧fB s.h av (au.fz r)
def SY (cf:CallF)(m:Nat):Prop:=∀(bb:List an) (r:(List Int)),aU.f m bb=some r→∀h xs,ej eL h xs [aT.fz bb]→cf 36 xs h=some (au.fz r,h)
section
variable {cf:CallF}{m:Nat}
theorem aU.fu (L:Mem)(bb:List an)(aB:Nat)(x1:Int)(v0:an)  (Gd:Oq cf m):bI Tryd.prog cf vK m (sub [1,1,1,1,1,0,1,0,0,1,1,0,0,1,1,1,0,0] (codeOf Tryd.f36)) (fun k (σ:Int × (List Int))=>aU.l1 m v0 k σ.1 σ.2) (fun σ s=>match σ with | (x3,rQ)=>∃gV h6,s=⟨.any :: .any :: .ptr aB 0::jW [aT.fz bb,.int .i64 (bb.length:Int),.int .i64 x1,.any,af.fz v0.nodes,.int .i64 (v0.nodes.length:Int),.int .i64 x3,.any],[none,none],h6⟩∧Has h6 ((aB,.ob [.rs gV 0 rQ.length 1,.int .i64 (0:Int),.int .i8 (0:Int)])::(gV,.row 5 (au.l rQ))::L)) (fun out e s=>(e = .exit 2∧∃x3 rQ,(x3,rQ)=out∧∃FK FL FM FN gV h6,s=⟨.any :: .any :: .ptr aB 0::jW [aT.fz bb,.int .i64 (bb.length:Int),.int .i64 x1,.any,FK,FL,FM,FN],[none,none],h6⟩∧Has h6 ((aB,.ob [.rs gV 0 rQ.length 1,.int .i64 (0:Int),.int .i8 (0:Int)])::(gV,.row 5 (au.l rQ))::L))):=by
 refine gS (fun _=>rfl) ?_
 rintro k ⟨x3,rQ⟩ s out ⟨gV,h6,rfl,o6⟩ H
 have H:aU.l1 m v0 (k+1) x3 rQ=some out:=H
 refine q1 <| qq <| qc H (fun c1 H=>?_) (fun c1 H=>?_)
 ·refine qk <| qq <| qb 3 <| qq ?_
  obtain⟨v1,mU,H⟩:=aJ H
  refine qr [.v 0 (bo (k:=.i64) (E:=af) (l:=v0.nodes) kT mU),.v 1 (cO  (E:=af) (l:=v0.nodes) h6 ri rj mU)] ?_
  obtain⟨x4,rn,H⟩:=aJ H
  obtain⟨iy,h7,si,o7⟩:=Gd _ _ _ rn h6 _ _ _ (o6)  [.ptr aB 0,.agg [.int .i64 v1.kind,.int .i64 v1.int,.str v1.label,aa.fz v1.args]] (ao (rfl) (ao (aO (lh (b5 (bD) (b5 (bD) (b5 (wT) (b5 (gy (E:=aa)) (fe))))))) (bj)))
  exact qr [.a 2 si] <| q0 <| ⟨(i64.wrap (x3+(1:Int)),x4),⟨iy,h7,by kernel_rfl,o7⟩,H⟩
 ·exact qx 2 <| ⟨rfl,x3,rQ,oi H,af.fz v0.nodes,.int .i64 (v0.nodes.length:Int),.int .i64 x3,.bool (decide (x3<(v0.nodes.length:Int))),gV,h6,by kernel_rfl,o6⟩
theorem aU.bG (L:Mem)(bb:List an)(aB:Nat)  (pq:LG cf m)(Gd:Oq cf m):bI Tryd.prog cf vK m (sub [1,1,1,1,1,0,1,0,0] (codeOf Tryd.f36)) (fun k (σ:Int × (List Int))=>aU.l0 m bb k σ.1 σ.2) (fun σ s=>match σ with | (x1,rR)=>∃gX h4,s=⟨.any :: .any :: .ptr aB 0::jW (aT.fz bb :: .int .i64 (bb.length:Int) :: .int .i64 x1::sf []),[none,none],h4⟩∧Has h4 ((aB,.ob [.rs gX 0 rR.length 1,.int .i64 (0:Int),.int .i8 (0:Int)])::(gX,.row 5 (au.l rR))::L)) (fun out e s=>(e = .exit 0∧∃x1 rR,(x1,rR)=out∧∃KA Qz QA AX gX h4,s=⟨.any :: .any :: .ptr aB 0::jW (KA::Qz::QA::AX::re []),[none,none],h4⟩∧Has h4 ((aB,.ob [.rs gX 0 rR.length 1,.int .i64 (0:Int),.int .i8 (0:Int)])::(gX,.row 5 (au.l rR))::L))):=by
 refine gS (fun _=>rfl) ?_
 rintro k ⟨x1,rR⟩ s out ⟨gX,h4,rfl,o4⟩ H
 have H:aU.l0 m bb (k+1) x1 rR=some out:=H
 refine q1 <| qq <| qc H (fun c0 H=>?_) (fun c0 H=>?_)
 ·refine qk <| qq <| qb 1 <| qq ?_
  obtain⟨v0,e7,H⟩:=aJ H
  refine qr [.v 0 (bo (k:=.i64) (E:=aT) (l:=bb) yI e7),.v 1 (cO  (E:=aT) (l:=bb) h4 Hc Hd e7)] <| qq ?_
  obtain⟨x2,e8,H⟩:=aJ H
  obtain⟨gU,h5,e9,o5⟩:=pq _ _ _ e8 h4 _ _ _ (o4)  [.ptr aB 0,.int .u64 (u64.wrap (v0.nodes.length:Int))] (ao (rfl) (ao (aO (bD)) (bj)))
  refine qr [.a 5 e9] <| qq <| q0 <| qb 2 ?_
  obtain⟨bq,sj,H⟩:=aJ H
  refine ql (aU.fu L bb aB x1 v0  Gd ((0:Int),x2) _ _ ⟨gU,h5,by kernel_rfl,o5⟩ sj) ?_
  rintro e s ⟨rfl,x5,KN,rfl,g0,g1,g2,g3,kO,h8,rfl,o8⟩
  try dsimp only at H
  exact q0 <| ⟨(i64.wrap (x1+(1:Int)),KN),⟨kO,h8,by kernel_rfl,o8⟩,H⟩
 ·exact qx 0 <| ⟨rfl,x1,rR,oi H,aT.fz bb,.int .i64 (bb.length:Int),.int .i64 x1,.bool (decide (x1<(bb.length:Int))),gX,h4,by kernel_rfl,o4⟩
theorem pv {aS:FuncId→cg}(ha:aS 36=vK)(KO:Qx cf m)(xm:MM cf m)(pq:LG cf m)(Gd:Oq cf m)(QB:Su cf m)(bb:List an)(h:AHeap)(L:Mem)  (o:Has h (L)){out:(List Int)}(H:aU.f m bb=some out) :
  ∃r h',a7 Tryd.prog aS cf m 36 [aT.fz bb] h=some (r,h')∧fB h' r (au.fz out):=by
 refine ak (fn:=Tryd.f36) ha Tryd.func36 (by kernel_rfl) (by kernel_rfl) ?_
 refine aF (Q:=fun s=>aU.fin L out s) (fun _ _ h=>h) ?_
 have H:_=some out:=H
 unfold aU.f at H
 show de _ cf vK m _ ⟨aT.fz bb::nP [],[none,none],h⟩ _
 refine q1 <| qq ?_
 obtain⟨aB,h0,e0,o0⟩:=ko (cs:=[.nils,.int .i64 (0:Int),.int .i8 (0:Int)]) o (by kernel_rfl)
 refine qr [.a 1 e0] <| qq ?_
 obtain⟨xO,e1,H⟩:=aJ H
 obtain⟨gF,h1,e2,o1⟩:=Kd xm o0 e1
 refine qr [.a 3 e2] <| qq ?_
 obtain⟨Nt,e3,H⟩:=aJ H
 obtain⟨dj,h2,e4,o2⟩:=se (bs:=xO) xm o1 e3
 refine qr [.a 3 e4] <| qq ?_
 obtain⟨x0,e5,H⟩:=aJ H
 obtain⟨fA,h3,e6,o3⟩:=pq _ _ _ e5 h2 _ _ _ (o2)  [.ptr aB 0,.int .u64 (u64.wrap (bb.length:Int))] (ao (rfl) (ao (aO (bD)) (bj)))
 refine qr [.a 4 e6] <| qq <| qq <| q0 <| qb 0 ?_
 obtain⟨cq,uS,H⟩:=aJ H
 refine ql (aU.bG L bb aB  pq Gd ((0:Int),x0) _ _ ⟨fA,h3,by kernel_rfl,o3⟩ uS) ?_
 rintro e s ⟨rfl,x6,xw,rfl,g4,g5,g6,g7,xN,h9,rfl,o9⟩
 try dsimp only at H
 refine qq ?_
 obtain⟨u0,uz,H⟩:=aJ H
 obtain⟨h10,xM,uQ⟩:=HX (bs:=xw) QB o9 uz
 refine qr [.a 3 xM] ?_
 have vB:Has h10 ((xN,.sl xw.length 1 (au.l xw))::L):=Has.del uQ 0
 refine qq ?_
 obtain⟨x7,w9,H⟩:=aJ H
 obtain⟨x8,BY,H⟩:=aJ H
 obtain⟨eQ,h11,xb,tI⟩:=fY (P:=Tryd.prog) (E:=au) (l:=xw) (q:=0) (t2:=25) (x:=au.fz x7) (l2:=x7) H4 vB rfl (EP (E:=au) (l2:=x7) _) rfl BY
 obtain rfl:=oi H
 exact qr [.a 2 (KO _ _ w9 h10 _ (ga (ab (s8 (E:=au) (l:=xw) (q:=0) vB rfl (fun _=>rfl)) (ax)))),.a 3 xb] <| qt <| ⟨.inl rfl,bZ (.rs eQ 0 x8.length 1) h11 (bX (yB (E:=au) (l:=x8) (q:=0) tI rfl (fun _=>rfl)))⟩
end
end Go.Proofs.YtmekcfdllhphlaaDoor
namespace Go.Proofs.YtmekcfdllhphlaaDoor
open Go Go.R
open Go.IntKind (i64 u64 u8 u32)
def Ch:cg:=gk [0,1,2,3,6] [1,2] [25,9,19,19] [] []
def dS.f (m:Nat)(t0:an):Option (an × Int):=(ff.f m t0).bind fun x0=>if (!x0)=true then (some ((an.mk ([]) (0:Int)),(2:Int))) else ((cm.f m t0).bind fun x1=>some (x1,(0:Int)))
def dS.fin (L:Mem)(r:an × Int)(s:St):Prop:=∃av,aI Tryd.prog (s.open Ch) Tryd.f31.results.toList=some av∧wQ s.h av (.tup [.agg [af.fz r.1.nodes,.int .i64 r.1.root],.int .i64 r.2])
def Ou (cf:CallF)(m:Nat):Prop:=∀(t0:an) (r:an × Int),dS.f m t0=some r→∀h xs,lD xs [.agg [af.fz t0.nodes,.int .i64 t0.root]]→cf 31 xs h=some (.tup [.agg [af.fz r.1.nodes,.int .i64 r.1.root],.int .i64 r.2],h)
section
variable {cf:CallF}{m:Nat}
theorem rS {aS:FuncId→cg}(ha:aS 31=Ch)(Ge:PZ cf m)(Il:Qk cf m)(t0:an)(h:AHeap)(L:Mem)  (o:Has h (L)){out:an × Int}(H:dS.f m t0=some out) :
  ∃r h',a7 Tryd.prog aS cf m 31 [.agg [af.fz t0.nodes,.int .i64 t0.root]] h=some (r,h')∧wQ h' r (.tup [.agg [af.fz out.1.nodes,.int .i64 out.1.root],.int .i64 out.2]):=by
 refine ak (fn:=Tryd.f31) ha Tryd.func31 (by kernel_rfl) (by kernel_rfl) ?_
 refine aF (Q:=fun s=>dS.fin L out s) (fun _ _ h=>h) ?_
 have H:_=some out:=H
 unfold dS.f at H
 show de _ cf Ch m _ ⟨.agg [af.fz t0.nodes,.int .i64 t0.root]::re [],[none,none],h⟩ _
 refine q1 <| qq <| qq ?_
 obtain⟨x0,e0,H⟩:=aJ H
 refine qr [.a 1 (Ge _ _ e0 h _ (ga (ab (bQ (ab (bS (E:=af)) (ab (aE) (ax)))) (ax))))] <| qc H (fun c0 H=>?_) (fun c0 H=>?_)
 ·obtain rfl:=oi H
  exact q1 <| qt <| ⟨.inl rfl,vz (.tup [.agg [.nils,.int .i64 (0:Int)],.int .i64 (2:Int)]) h (pK (fZ (ab (bQ (ab (gN) (ab (aE) (ax)))) (ab (aE) (ax)))))⟩
 ·refine qk <| qq ?_
  obtain⟨x1,e1,H⟩:=aJ H
  obtain rfl:=oi H
  exact qr [.a 1 (Il _ _ e1 h _ (b5 (lh (b5 (gy (E:=af)) (b5 (bD) (fe)))) (fe)))] <| qt <| ⟨.inl rfl,vz (.tup [.agg [af.fz x1.nodes,.int .i64 x1.root],.int .i64 (0:Int)]) h (pK (fZ (ab (bQ (ab (bS) (ab (aE) (ax)))) (ab (aE) (ax)))))⟩
end
end Go.Proofs.YtmekcfdllhphlaaDoor
namespace Go.Proofs.YtmekcfdllhphlaaDoor
open Go Go.R
open Go.IntKind (i64 u64 u8 u32)
def Ci:cg:=gk [0,1,2] [1] [5,3] [] []
def fQ.f (m:Nat)(n0:ae):Option (Bool):=some (n0.kind==(4:Int))
def fQ.fin (L:Mem)(r:Bool)(s:St):Prop:=∃av,aI Tryd.prog (s.open Ci) Tryd.f35.results.toList=some av∧fB s.h av (.bool r)
def SZ (cf:CallF)(m:Nat):Prop:=∀(n0:ae) (r:Bool),fQ.f m n0=some r→∀h xs,ej eL h xs [.agg [.int .i64 n0.kind,.int .i64 n0.int,.str n0.label,aa.fz n0.args]]→cf 35 xs h=some (.bool r,h)
section
variable {cf:CallF}{m:Nat}
theorem pw {aS:FuncId→cg}(ha:aS 35=Ci)  (n0:ae)(h:AHeap)(L:Mem)  (o:Has h (L)){out:Bool}(H:fQ.f m n0=some out) :
  ∃r h',a7 Tryd.prog aS cf m 35 [.agg [.int .i64 n0.kind,.int .i64 n0.int,.str n0.label,aa.fz n0.args]] h=some (r,h')∧fB h' r (.bool out):=by
 refine ak (fn:=Tryd.f35) ha Tryd.func35 (by kernel_rfl) (by kernel_rfl) ?_
 refine aF (Q:=fun s=>fQ.fin L out s) (fun _ _ h=>h) ?_
 have H:_=some out:=H
 unfold fQ.f at H
 show de _ cf Ci m _ ⟨[.agg [.int .i64 n0.kind,.int .i64 n0.int,.str n0.label,aa.fz n0.args],.any,.any],[none],h⟩ _
 obtain rfl:=oi H
 exact q1 <| qq <| q0 <| qt <| ⟨.inl rfl,bZ (.bool (n0.kind==(4:Int))) h (bX (aj))⟩
end
end Go.Proofs.YtmekcfdllhphlaaDoor
namespace Go.Proofs.YtmekcfdllhphlaaDoor
open Go Go.R
open Go.IntKind (i64 u64 u8 u32)
def Cj:cg:=gk [0,1,2] [1] [5,3] [] []
def eW.f (m:Nat)(t0:an):Option (Bool):=(fM.f m t0.nodes (fun y0=>fQ.f m y0)).bind fun x0=>some x0
def eW.fin (L:Mem)(r:Bool)(s:St):Prop:=∃av,aI Tryd.prog (s.open Cj) Tryd.f33.results.toList=some av∧fB s.h av (.bool r)
def S3 (cf:CallF)(m:Nat):Prop:=∀(t0:an) (r:Bool),eW.f m t0=some r→∀h xs,ej eL h xs [.agg [af.fz t0.nodes,.int .i64 t0.root]]→cf 33 xs h=some (.bool r,h)
section
variable {cf:CallF}{m:Nat}
theorem px {aS:FuncId→cg}(ha:aS 33=Cj)(Kx:PM cf m)(QC:SZ cf m)(t0:an)(h:AHeap)(L:Mem)  (o:Has h (L)){out:Bool}(H:eW.f m t0=some out) :
  ∃r h',a7 Tryd.prog aS cf m 33 [.agg [af.fz t0.nodes,.int .i64 t0.root]] h=some (r,h')∧fB h' r (.bool out):=by
 refine ak (fn:=Tryd.f33) ha Tryd.func33 (by kernel_rfl) (by kernel_rfl) ?_
 refine aF (Q:=fun s=>eW.fin L out s) (fun _ _ h=>h) ?_
 have H:_=some out:=H
 unfold eW.f at H
 show de _ cf Cj m _ ⟨[.agg [af.fz t0.nodes,.int .i64 t0.root],.any,.any],[none],h⟩ _
 refine q1 <| qq ?_
 obtain⟨x0,e0,H⟩:=aJ H
 obtain rfl:=oi H
 exact qr [.a 2 (Kx _ _ _ e0 h (Has.pos o) 35 [] rfl (fun y0 r hr=>QC y0 r hr h _ (ga (ab (bQ (ab (aE) (ab (aE) (ab (bK) (ab (bS (E:=aa)) (ax)))))) (ax)))) _ (ao (aO (gy (E:=af))) (ao ((rfl:ay (.fn 35 [])=_)) (bj))))] <| qt <| ⟨.inl rfl,bZ (.bool x0) h (bX (aj))⟩
end
end Go.Proofs.YtmekcfdllhphlaaDoor
namespace Go.Proofs.YtmekcfdllhphlaaDoor
open Go Go.R
open Go.IntKind (i64 u64 u8 u32)
def zd:cg:=gk [0,2,3,4,6,7,8,9,12,13,14,15,16,25,32,37] [6,7] [65534,65278,65529,65526,61943,57847,61927,61847,53719,65529,61943,61943,49143,65529,65407,32639,65529,65529] [(12,[(4,none,0)])] [(3,[(4,none,2)])]
def ca.l0 (m:Nat)(bb:List an):Nat→(List an)→Int→Option (Sum ((List Int) × Int) ((List an) × Int))
 | 0,_,_=>none
 | k+1,ie,x0=>if (decide (x0<(bb.length:Int)))=true then ((ix bb x0).bind fun v0=>(dS.f m v0).bind fun x1=>if (!(x1.2==(0:Int)))=true then (some (.inl ([],(2:Int)))) else ((app 32 ie ([x1.1])).bind fun x2=>ca.l0 m bb k x2 (i64.wrap (x0+(1:Int))))) else (some (.inr (ie,x0)))
def ca.f (m:Nat)(bb:List an):Option ((List Int) × Int):=if (decide ((bb.length:Int) > (8:Int)))=true then (some ([],(3:Int))) else ((ca.l0 m bb m ([]:List an) (0:Int)).bind fun bq=>match bq with | .inl r0=>some r0 | .inr (xy,x3)=>(gD.f m xy (fun y0=>eW.f m y0)).bind fun x4=>if x4=true then (some ([],(4:Int))) else ((aU.f m xy).bind fun x5=>if (decide ((x5.length:Int) > (200000:Int)))=true then (some ([],(3:Int))) else (some (x5,(0:Int)))))
def ca.fin (L:Mem)(r:(List Int) × Int)(s:St):Prop:=∃av,aI Tryd.prog (s.open zd) Tryd.f14.results.toList=some av∧wQ s.h av (.tup [au.fz r.1,.int .i64 r.2])
def QD (cf:CallF)(m:Nat):Prop:=∀(bb:List an) (r:(List Int) × Int),ca.f m bb=some r→∀h xs,lD xs [aT.fz bb]→cf 14 xs h=some (.tup [au.fz r.1,.int .i64 r.2],h)
section
variable {cf:CallF}{m:Nat}
theorem ca.bG (L:Mem)(bb:List an)  (Gf:Ou cf m):bI Tryd.prog cf zd m (sub [1,1,1,0,1,0,0] (codeOf Tryd.f14)) (fun k (σ:(List an) × Int)=>ca.l0 m bb k σ.1 σ.2) (fun σ s=>match σ with | (ie,x0)=>∃aB h0,s=⟨jW (.rs aB 0 ie.length 2::sf (aT.fz bb :: .int .i64 (bb.length:Int) :: .int .i64 x0::re [])),[none,none],h0⟩∧Has h0 ((aB,.sl ie.length 2 (aT.l ie))::L)) (fun out e s=>(e = .exit 0∧∃ie x0,.inr (ie,x0)=out∧∃nQ w7 tK AW aB h0,s=⟨jW (.rs aB 0 ie.length 2::sf (nQ::w7::tK::AW::jW [])),[none,none],h0⟩∧Has h0 ((aB,.sl ie.length 2 (aT.l ie))::L))∨(e = .ret∧∃r,.inl r=out∧ca.fin L r s)):=by
 refine gS (fun _=>rfl) ?_
 rintro k ⟨ie,x0⟩ s out ⟨aB,h0,rfl,o1⟩ H
 have H:ca.l0 m bb (k+1) ie x0=some out:=H
 refine q1 <| qq <| qc H (fun c1 H=>?_) (fun c1 H=>?_)
 ·refine qk <| qq <| qb 1 <| qq ?_
  obtain⟨v0,e0,H⟩:=aJ H
  refine qr [.v 0 (bo (k:=.i64) (E:=aT) (l:=bb) yI e0),.v 1 (cO  (E:=aT) (l:=bb) h0 Hc Hd e0)] <| qq ?_
  obtain⟨x1,e1,H⟩:=aJ H
  refine qr [.a 1 (Gf _ _ e1 h0 _ (b5 (lh (b5 (gy (E:=af)) (b5 (bD) (fe)))) (fe)))] <| qq <| qq <| q0 <| qc H (fun c2 H=>?_) (fun c2 H=>?_)
  ·refine q1 ?_
   have o2:Has h0 (L):=Has.del o1 0
   exact qt <| XH (⟨rfl,_,oi H,vz (.tup [.nils,.int .i64 (2:Int)]) h0 (pK (fZ (ab (gN) (ab (aE) (ax)))))⟩)
  ·refine qk ?_
   obtain⟨x2,e2,H⟩:=aJ H
   obtain⟨gF,h1,e3,o3⟩:=fY (P:=Tryd.prog) (E:=aT) (l:=ie) (q:=0) (t2:=22) (x:=.fz [af.fz x1.1.nodes,.int .i64 x1.1.root] 1 true) (l2:=([x1.1])) yI o1 rfl (by kernel_rfl) rfl e2
   exact qr [.a 3 e3] <| q0 <| ⟨(x2,i64.wrap (x0+(1:Int))),⟨gF,h1,by kernel_rfl,o3⟩,H⟩
 ·exact qx 0 <| X6 (⟨rfl,ie,x0,oi H,aT.fz bb,.int .i64 (bb.length:Int),.int .i64 x0,.bool (decide (x0<(bb.length:Int))),aB,h0,by kernel_rfl,o1⟩)
theorem rT {aS:FuncId→cg}(ha:aS 14=zd)(Gf:Ou cf m)(QE:SD cf m)(QF:S3 cf m)(QG:SY cf m)(bb:List an)(h:AHeap)(L:Mem)  (o:Has h (L)){out:(List Int) × Int}(H:ca.f m bb=some out) :
  ∃r h',a7 Tryd.prog aS cf m 14 [aT.fz bb] h=some (r,h')∧wQ h' r (.tup [au.fz out.1,.int .i64 out.2]):=by
 refine ak (fn:=Tryd.f14) ha Tryd.func14 (by kernel_rfl) (by kernel_rfl) ?_
 refine aF (Q:=fun s=>ca.fin L out s) (fun _ _ h=>h) ?_
 have H:_=some out:=H
 unfold ca.f at H
 show de _ cf zd m _ ⟨aT.fz bb::HY [],[none,none],h⟩ _
 refine q1 <| qq <| qq <| q0 <| qc H (fun c0 H=>?_) (fun c0 H=>?_)
 ·obtain rfl:=oi H
  exact q1 <| qt <| ⟨.inl rfl,vz (.tup [.nils,.int .i64 (3:Int)]) h (pK (fZ (ab (gN) (ab (aE) (ax)))))⟩
 ·refine qk <| qq <| q0 ?_
  have o0:Has h (((0),.sl (([]:List an).length) 2 (aT.l ([]:List an)))::L):=Has.nil o 2
  refine qq <| qq <| q0 <| qb 0 ?_
  obtain⟨bq,e4,H⟩:=aJ H
  refine ql (ca.bG L bb  Gf (([]:List an),(0:Int)) _ _ ⟨(0),h,by kernel_rfl,o0⟩ e4) ?_
  rintro e s (⟨rfl,xy,x3,rfl,g0,g1,g2,g3,dj,h2,rfl,o4⟩| ⟨rfl,r0,rfl,lJ⟩)
  ·try dsimp only at H
   refine qq <| qq ?_
   obtain⟨h3,e5,o5⟩:=iW (E:=aT) (l:=xy) (q:=0) o4 rfl
   obtain⟨x4,e6,H⟩:=aJ H
   refine zN [.a 0 e5] [.a 1 (QE _ _ _ e6 h3 (Has.pos o5) 33 [] rfl (fun y0 r hr=>QF y0 r hr h3 _ (ga (ab (bQ (ab (bS (E:=af)) (ab (aE) (ax)))) (ax)))) _ (ao (aO (gy (E:=aT))) (ao ((rfl:ay (.fn 33 [])=_)) (bj))))] <| qc H (fun c3 H=>?_) (fun c3 H=>?_)
   ·obtain rfl:=oi H
    exact q1 <| qt <| ⟨.inl rfl,vz (.tup [.nils,.int .i64 (4:Int)]) h3 (pK (fZ (ab (gN) (ab (aE) (ax)))))⟩
   ·refine qk <| qq ?_
    obtain⟨x5,e7,H⟩:=aJ H
    refine qr [.a 1 (QG _ _ e7 h3 _ (ga (ab (bS (E:=aT)) (ax))))] <| qq <| qq <| q0 <| qc H (fun c4 H=>?_) (fun c4 H=>?_)
    ·obtain rfl:=oi H
     exact q1 <| qt <| ⟨.inl rfl,vz (.tup [.nils,.int .i64 (3:Int)]) h3 (pK (fZ (ab (gN) (ab (aE) (ax)))))⟩
    ·obtain rfl:=oi H
     exact qk <| qq <| q0 <| qt <| ⟨.inl rfl,vz (.tup [au.fz x5,.int .i64 (0:Int)]) h3 (pK (fZ (ab (bS) (ab (aE) (ax)))))⟩
  ·try dsimp only at H
   obtain rfl:=oi H
   exact⟨.inl rfl,lJ⟩
end
end Go.Proofs.YtmekcfdllhphlaaDoor
namespace Go.Proofs.YtmekcfdllhphlaaDoor
open Go Go.R
open Go.IntKind (i64 u64 u8 u32)
def Ck:cg:=gk [0,1,4] [] [4,3] [] []
def eX.f (m:Nat)(a0:List Int)(b0:List Int):Option (Bool):=some ((dh a0).data.toList==(dh b0).data.toList)
def eX.fin (L:Mem)(r:Bool)(s:St):Prop:=∃av,aI Tryd.prog (s.open Ck) Tryd.f41.results.toList=some av∧fB s.h av (.bool r)
def S4 (cf:CallF)(m:Nat):Prop:=∀(a0:List Int) (b0:List Int) (r:Bool),eX.f m a0 b0=some r→∀h xs,ej eL h xs [au.fz a0,au.fz b0]→cf 41 xs h=some (.bool r,h)
section
variable {cf:CallF}{m:Nat}
theorem qw {aS:FuncId→cg}(ha:aS 41=Ck)  (a0:List Int)(b0:List Int)(h:AHeap)(L:Mem)  (o:Has h (L)){out:Bool}(H:eX.f m a0 b0=some out) :
  ∃r h',a7 Tryd.prog aS cf m 41 [au.fz a0,au.fz b0] h=some (r,h')∧fB h' r (.bool out):=by
 refine ak (fn:=Tryd.f41) ha Tryd.func41 (by kernel_rfl) (by kernel_rfl) ?_
 refine aF (Q:=fun s=>eX.fin L out s) (fun _ _ h=>h) ?_
 have H:_=some out:=H
 unfold eX.f at H
 show de _ cf Ck m _ ⟨[au.fz a0,au.fz b0,.any],[],h⟩ _
 obtain rfl:=oi H
 exact q1 <| qq <| qr [.v 1 (show eS Tryd.prog h 25 9 (au.fz a0)=some (.str (dh a0)) from nN (e:=5) (l:=a0) rfl rfl rfl (s9 _)),.v 3 (show eS Tryd.prog h 25 9 (au.fz b0)=some (.str (dh b0)) from nN (e:=5) (l:=b0) rfl rfl rfl (s9 _))] <| qt <| ⟨.inl rfl,bZ (.bool ((dh a0).data.toList==(dh b0).data.toList)) h (bX (aj))⟩
end
end Go.Proofs.YtmekcfdllhphlaaDoor
