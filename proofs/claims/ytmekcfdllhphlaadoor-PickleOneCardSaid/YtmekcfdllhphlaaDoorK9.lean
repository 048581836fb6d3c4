/- Part of the proof: Q54, Q59, Q43, PR2, Q74, Q55, Q60, Q44, PR3, PR4, PR5, Q21, Q42, Q36, Q31, Q35, Q33, Q14, Q41. -/
import Derived.Test.YtmekcfdllhphlaaDoorK8
set_option linter.unusedVariables false
set_option linter.unusedSimpArgs false
set_option maxRecDepth 100000
open ByteArray renaming mk → Xk
open Int renaming toNat_natCast → WX
open List renaming append_assoc → W7, map_cons → Xe, length_cons → Xf, cons_append → Xj, take_of_length_le → Xx, length_nil → XL, mem_of_getElem? → XT, map_congr_left → XV, append_nil → XW
open Nat renaming add_assoc → XE, mul_le_mul_right → XK, add_mul → X0
open Option renaming bind_some → WQ
open Or renaming inr → XZ, inl → Yf
open UInt8 renaming ofNat → Ys
namespace Go.Proofs.YtmekcfdllhphlaaDoor
open Go Go.R
open Go.IntKind (i64 u64 u8 u32)
def zd:cd:=gh [0,1,5] [] [0,4,4,7] [] []
def bW.l0 (m:Nat)  : Nat→Int→(List Int)→Option (Int × (List Int))
 | 0,_,_=>none
 | k+1,n1,w1=>if (decide (n1≥(128:Int)))=true then ((E7 w1 ([jb .u8 (u8.wrap n1) (128:Int)])).bind fun xR=>bW.l0 m k (gk .u64 n1 7) xR) else (some ((n1,w1)))
def bW.f (m:Nat)(w0:List Int)(n0:Int):Option ((List Int)):=(bW.l0 m m n0 w0).bind fun bo=>match bo with | (n2,w2)=>(E7 w2 ([u8.wrap n2])).bind fun Nw=>some Nw
def bW.fin (L:Mem)(bT:Nat)(b9:Nat)(w0:List Int)(n0:Int)(r:(List Int))(s:St):Prop:=∃dw:Nat,aI Tryd.prog (s.open zd) Tryd.f54.results.toList=some (.tup [])∧Has s.h ((bT,.ob [.rs dw 0 r.length 1,.int .i64 (0:Int),.int .i8 (0:Int)])::(dw,.row 5 (ao.l r))::L)
def LJ (cf:CallF)(m:Nat):Prop:=∀(w0:List Int) (n0:Int) (r:(List Int)),bW.f m w0 n0=some r→∀h L (bT:Nat) (b9:Nat),Has h ((bT,.ob [.rs b9 0 w0.length 1,.int .i64 (0:Int),.int .i8 (0:Int)])::(b9,.row 5 (ao.l w0))::L)→∀xs,xs.map ay=[.ptr bT 0,.int .u64 n0]→∃dw h',cf 54 xs h=some (.tup [],h')∧Has h' ((bT,.ob [.rs dw 0 r.length 1,.int .i64 (0:Int),.int .i8 (0:Int)])::(dw,.row 5 (ao.l r))::L)
section
variable {cf:CallF}{m:Nat}
theorem bW.bG (L:Mem)(bT:Nat)(b9:Nat)(w0:List Int)(n0:Int)  (xo:MP cf m):bI Tryd.prog cf zd m (sub [0,0,0] (codeOf Tryd.f54)) (fun k (σ:Int × (List Int))=>bW.l0 m k σ.1 σ.2) (fun σ s=>match σ with | (n1,w1)=>∃aA h0,s=⟨[.ptr bT 0,.int .u64 n1,.any],[],h0⟩∧Has h0 ((bT,.ob [.rs aA 0 w1.length 1,.int .i64 (0:Int),.int .i8 (0:Int)])::(aA,.row 5 (ao.l w1))::L)) (fun out e s=>(e = .exit 0∧∃n1 w1,(n1,w1)=out∧∃y5 aA h0,s=⟨[.ptr bT 0,.int .u64 n1,y5],[],h0⟩∧Has h0 ((bT,.ob [.rs aA 0 w1.length 1,.int .i64 (0:Int),.int .i8 (0:Int)])::(aA,.row 5 (ao.l w1))::L))):=by
 refine hX (fun _=>rfl) ?_
 rintro k ⟨n1,w1⟩ s out ⟨aA,h0,rfl,o0⟩ H
 have H:bW.l0 m (k+1) n1 w1=some out:=H
 refine qq <| qq <| q0 <| qc H (fun c0 H=>?_) (fun c0 H=>?_)
 ·refine qk <| qq <| qb 1 ?_
  obtain⟨xR,e0,H⟩:=aJ H
  obtain⟨gH,h1,e1,o1⟩:=sd (bs:=w1) xo o0 e0
  exact qr [.a 6 e1] <| q0 <| ⟨(gk .u64 n1 7,xR),⟨gH,h1,by kernel_rfl,o1⟩,H⟩
 ·exact qx 0 <| ⟨rfl,n1,w1,oi H,.bool (decide (n1≥(128:Int))),aA,h0,by kernel_rfl,o0⟩
theorem tY {aS:FuncId→cd}(ha:aS 54=zd)(xo:MP cf m)(w0:List Int)(n0:Int)(h:AHeap)(L:Mem)(bT:Nat)(b9:Nat)  (o:Has h ((bT,.ob [.rs b9 0 w0.length 1,.int .i64 (0:Int),.int .i8 (0:Int)])::(b9,.row 5 (ao.l w0))::L)){out:(List Int)}(H:bW.f m w0 n0=some out) :
  ∃r h',aZ Tryd.prog aS cf m 54 [.ptr bT 0,.int .u64 n0] h=some (r,h')∧∃dw:Nat,r = .tup []∧Has h' ((bT,.ob [.rs dw 0 out.length 1,.int .i64 (0:Int),.int .i8 (0:Int)])::(dw,.row 5 (ao.l out))::L):=by
 refine aj (fn:=Tryd.f54) ha Tryd.func54 (by kernel_rfl) (by kernel_rfl) ?_
 refine aD (Q:=fun s=>bW.fin L bT b9 w0 n0 out s) (fun _ _ ⟨h1,dw,h2,h3⟩=>⟨h1,_,h2,dw,rfl,h3⟩) ?_
 have H:_=some out:=H
 unfold bW.f at H
 show de _ cf zd m _ ⟨[.ptr bT 0,.int .u64 n0,.any],[],h⟩ _
 refine qq <| qb 0 ?_
 obtain⟨bo,e2,H⟩:=aJ H
 refine ql (bW.bG L bT b9 w0 n0  xo (n0,w0) _ _ ⟨b9,h,by kernel_rfl,o⟩ e2) ?_
 rintro e s ⟨rfl,n2,w2,rfl,g0,di,h2,rfl,o2⟩
 try dsimp only at H
 obtain⟨Nw,e3,H⟩:=aJ H
 obtain⟨fy,h3,e4,o3⟩:=sd (bs:=w2) xo o2 e3
 obtain rfl:=oi H
 exact qr [.a 5 e4] <| ⟨.inr rfl,⟨fy,by kernel_rfl,he o3⟩⟩
end
end Go.Proofs.YtmekcfdllhphlaaDoor
namespace Go.Proofs.YtmekcfdllhphlaaDoor
open Go Go.R
open Go.IntKind (i64 u64 u8 u32)
def Cg:cd:=gh [0,2,3,9] [] [14,6,15,13,10,11,13] [] []
def jI.f (m:Nat)(r0:fB):Option (Int × fB):=if ((r0.eR.length:Int)==(0:Int))=true then (some ((0:Int),(fB.mk r0.eR true))) else ((ix r0.eR (0:Int)).bind fun v0=>(pM r0.eR (1:Int) (r0.eR.length:Int)).bind fun v1=>some (v0,(fB.mk v1 r0.br)))
def jI.fin (L:Mem)(aA:Nat)(r0:fB)(r:Int × fB)(s:St):Prop:=aI Tryd.prog (s.open Cg) Tryd.f59.results.toList=some (.int .u8 r.1)∧Has s.h ((aA,.ob [ao.fz r.2.eR,.bool r.2.br])::L)
def Ov (cf:CallF)(m:Nat):Prop:=∀(r0:fB) (r:Int × fB),jI.f m r0=some r→∀h L (aA:Nat),Has h ((aA,.ob [ao.fz r0.eR,.bool r0.br])::L)→∀xs,xs.map ay=[.ptr aA 0]→∃h',cf 59 xs h=some (.int .u8 r.1,h')∧Has h' ((aA,.ob [ao.fz r.2.eR,.bool r.2.br])::L)
section
variable {cf:CallF}{m:Nat}
theorem xp {aS:FuncId→cd}(ha:aS 59=Cg)  (r0:fB)(h:AHeap)(L:Mem)(aA:Nat)  (o:Has h ((aA,.ob [ao.fz r0.eR,.bool r0.br])::L)){out:Int × fB}(H:jI.f m r0=some out) :
  ∃r h',aZ Tryd.prog aS cf m 59 [.ptr aA 0] h=some (r,h')∧r = .int .u8 out.1∧Has h' ((aA,.ob [ao.fz out.2.eR,.bool out.2.br])::L):=by
 refine aj (fn:=Tryd.f59) ha Tryd.func59 (by kernel_rfl) (by kernel_rfl) ?_
 refine aD (Q:=fun s=>jI.fin L aA r0 out s) (fun _ _ ⟨h1,h2,h3⟩=>⟨h1,_,h2,rfl,h3⟩) ?_
 have H:_=some out:=H
 unfold jI.f at H
 show de _ cf Cg m _ ⟨.ptr aA 0::kz [],[],h⟩ _
 refine q1 <| qq <| qq <| qr [.v 3 (show bh Tryd.prog h 25 (.ptr aA 0)=some (ao.fz r0.eR) from cm (q:=0) (cs:=[ao.fz r0.eR,.bool r0.br]) o rfl (by kernel_rfl))] <| qc H (fun c0 H=>?_) (fun c0 H=>?_)
 ·refine qq ?_
  obtain⟨h0,e0,o0⟩:=kN (P:=Tryd.prog) (t:=4) (off:=1) (q:=0) (cs:=[ao.fz r0.eR,.bool r0.br]) (fH:=[ao.fz r0.eR,.bool true]) (x:=.bool true) o rfl (by kernel_rfl)
  obtain rfl:=oi H
  exact qr [.w 3 e0] <| qq <| q0 <| qt <| ⟨.inl rfl,⟨by kernel_rfl,he o0⟩⟩
 ·refine qk <| qq ?_
  obtain⟨v0,e1,H⟩:=aJ H
  refine qr [.v 3 (show bh Tryd.prog h 25 (.ptr aA 0)=some (ao.fz r0.eR) from cm (q:=0) (cs:=[ao.fz r0.eR,.bool r0.br]) o rfl (by kernel_rfl)),.v 4 (bD (k:=.i64) (E:=ao) (l:=r0.eR) H6 e1),.v 5 (dd  (E:=ao) (l:=r0.eR) h A5 e1 rfl)] <| qq ?_
  obtain⟨v1,e2,H⟩:=aJ H
  obtain⟨h1,e3,o1⟩:=kN (P:=Tryd.prog) (t:=25) (off:=0) (q:=0) (cs:=[ao.fz r0.eR,.bool r0.br]) (fH:=[ao.fz v1,.bool r0.br]) (x:=ao.fz v1) o rfl (by kernel_rfl)
  obtain rfl:=oi H
  exact qr [.v 4 (show bh Tryd.prog h 25 (.ptr aA 0)=some (ao.fz r0.eR) from cm (q:=0) (cs:=[ao.fz r0.eR,.bool r0.br]) o rfl (by kernel_rfl)),.v 5 (show fe Tryd.prog 25 (ao.fz r0.eR) (some (.int .i64 (1:Int))) none none=some (ao.fz v1) from wR (E:=ao) H6 e2),.w 8 e3] <| qq <| q0 <| qt <| ⟨.inl rfl,⟨by kernel_rfl,he o1⟩⟩
end
end Go.Proofs.YtmekcfdllhphlaaDoor
namespace Go.Proofs.YtmekcfdllhphlaaDoor
open Go Go.R
open Go.IntKind (i64 u64 u8 u32)
def ze:cd:=gh [0,2,3,4,5,10,24,36] [] [254,250,242,210,242,226,162,251,226,114,253] [] []
def bN.l0 (m:Nat)  : Nat→Int→Int→fB→Option (Int × Int × fB)
 | 0,_,_,_=>none
 | k+1,n0,du,r1=>if (!r1.br)=true then ((jI.f m r1).bind fun x0=>if (decide (du > (56:Int)))=true then (some ((n0,du,(fB.mk x0.2.eR true)))) else (if (decide (du > (0:Int)))=true then (if (x0.1==(0:Int))=true then (some ((n0,du,(fB.mk x0.2.eR true)))) else ((Dk .u64 (u64.wrap (ic .u8 x0.1 (127:Int))) du).bind fun v0=>if (decide (x0.1<(128:Int)))=true then (some ((jb .u64 n0 v0,du,x0.2))) else (bN.l0 m k (jb .u64 n0 v0) (i64.wrap (du+(7:Int))) x0.2))) else ((Dk .u64 (u64.wrap (ic .u8 x0.1 (127:Int))) du).bind fun v1=>if (decide (x0.1<(128:Int)))=true then (some ((jb .u64 n0 v1,du,x0.2))) else (bN.l0 m k (jb .u64 n0 v1) (i64.wrap (du+(7:Int))) x0.2)))) else (some ((n0,du,r1)))
def bN.f (m:Nat)(r0:fB):Option (Int × fB):=(bN.l0 m m (0:Int) (0:Int) r0).bind fun bo=>match bo with | (n1,KN,r2)=>some (i64.wrap n1,r2)
def bN.fin (L:Mem)(aA:Nat)(r0:fB)(r:Int × fB)(s:St):Prop:=aI Tryd.prog (s.open ze) Tryd.f43.results.toList=some (.int .i64 r.1)∧Has s.h ((aA,.ob [ao.fz r.2.eR,.bool r.2.br])::L)
def KO (cf:CallF)(m:Nat):Prop:=∀(r0:fB) (r:Int × fB),bN.f m r0=some r→∀h L (aA:Nat),Has h ((aA,.ob [ao.fz r0.eR,.bool r0.br])::L)→∀xs,xs.map ay=[.ptr aA 0]→∃h',cf 43 xs h=some (.int .i64 r.1,h')∧Has h' ((aA,.ob [ao.fz r.2.eR,.bool r.2.br])::L)
section
variable {cf:CallF}{m:Nat}
theorem bN.bG (L:Mem)(aA:Nat)(r0:fB)  (Gc:Ov cf m):bI Tryd.prog cf ze m (sub [1,1,0,1,0,0] (codeOf Tryd.f43)) (fun k (σ:Int × Int × fB)=>bN.l0 m k σ.1 σ.2.1 σ.2.2) (fun σ s=>match σ with | (n0,du,r1)=>∃h0,s=⟨.ptr aA 0 :: .any :: .int .u64 n0 :: .int .i64 du::oq [],[],h0⟩∧Has h0 ((aA,.ob [ao.fz r1.eR,.bool r1.br])::L)) (fun out e s=>(e = .exit 0∧∃n0 du r1,(n0,du,r1)=out∧∃kQ DC tz Qu h0,s=⟨[kQ,.any,.int .u64 n0,DC,.any,tz,.any,Qu],[],h0⟩∧Has h0 ((aA,.ob [ao.fz r1.eR,.bool r1.br])::L))):=by
 refine hX (fun _=>rfl) ?_
 rintro k ⟨n0,du,r1⟩ s out ⟨h0,rfl,o0⟩ H
 have H:bN.l0 m (k+1) n0 du r1=some out:=H
 refine qq <| qq <| qr [.v 3 (show bh Tryd.prog h0 4 (.ptr aA 1)=some (.bool r1.br) from cm (q:=0) (cs:=[ao.fz r1.eR,.bool r1.br]) o0 rfl (by kernel_rfl))] <| qc H (fun c0 H=>?_) (fun c0 H=>?_)
 ·refine qk <| qq <| qb 1 <| qq ?_
  obtain⟨x0,e0,H⟩:=aJ H
  obtain⟨h1,e1,o1⟩:=Gc _ _ e0 h0 _ _ (o0)  [.ptr aA 0] (an (rfl) (bg))
  refine qr [.a 1 e1] <| qq <| qq ?_
  rcases dF H with⟨c1,H⟩| ⟨c1,H⟩
  ·refine qr [.b 2 c1] <| vC <| qq ?_
   obtain⟨h2,e2,o2⟩:=kN (P:=Tryd.prog) (t:=4) (off:=1) (q:=0) (cs:=[ao.fz x0.2.eR,.bool x0.2.br]) (fH:=[ao.fz x0.2.eR,.bool true]) (x:=.bool true) o1 rfl (by kernel_rfl)
   exact qr [.w 3 e2] <| qx 0 <| ⟨rfl,n0,du,(fB.mk x0.2.eR true),oi H,.any,.any,.any,.any,h2,by kernel_rfl,o2⟩
  ·rcases dF H with⟨c3,H⟩| ⟨c3,H⟩
   ·refine qr [.b 2 c1,.b 5 c3] <| qc H (fun c4 H=>?_) (fun c4 H=>?_)
    ·refine qq ?_
     obtain⟨h3,e3,o3⟩:=kN (P:=Tryd.prog) (t:=4) (off:=1) (q:=0) (cs:=[ao.fz x0.2.eR,.bool x0.2.br]) (fH:=[ao.fz x0.2.eR,.bool true]) (x:=.bool true) o1 rfl (by kernel_rfl)
     exact qr [.w 3 e3] <| qx 0 <| ⟨rfl,n0,du,(fB.mk x0.2.eR true),oi H,.any,.any,.any,.any,h3,by kernel_rfl,o3⟩
    ·refine qk <| qq ?_
     obtain⟨v0,e4,H⟩:=aJ H
     refine qr [.v 5 (show lU Tryd.prog .shl 40 (.int .u64 (u64.wrap (ic .u8 x0.1 (127:Int)))) (.int .i64 du)=some (.int .u64 v0) from E0 e4)] <| qq <| q0 <| qc H (fun c5 H=>?_) (fun c5 H=>?_)
     ·exact qx 0 <| ⟨rfl,jb .u64 n0 v0,du,x0.2,oi H,.ptr aA 0,.int .i64 du,.any,.bool (decide (x0.1<(128:Int))),h1,by kernel_rfl,o1⟩
     ·exact qk <| q0 <| ⟨(jb .u64 n0 v0,i64.wrap (du+(7:Int)),x0.2),⟨h1,by kernel_rfl,o1⟩,H⟩
   ·refine qr [.b 2 c1,.b 5 c3] <| Ds <| qk <| qq ?_
    obtain⟨v1,e5,H⟩:=aJ H
    refine qr [.v 5 (show lU Tryd.prog .shl 40 (.int .u64 (u64.wrap (ic .u8 x0.1 (127:Int)))) (.int .i64 du)=some (.int .u64 v1) from E0 e5)] <| qq <| q0 <| qc H (fun c7 H=>?_) (fun c7 H=>?_)
    ·exact qx 0 <| ⟨rfl,jb .u64 n0 v1,du,x0.2,oi H,.ptr aA 0,.int .i64 du,.any,.bool (decide (x0.1<(128:Int))),h1,by kernel_rfl,o1⟩
    ·exact qk <| q0 <| ⟨(jb .u64 n0 v1,i64.wrap (du+(7:Int)),x0.2),⟨h1,by kernel_rfl,o1⟩,H⟩
 ·exact qx 0 <| ⟨rfl,n0,du,r1,oi H,.ptr aA 0,.int .i64 du,.bool (!r1.br),.any,h0,by kernel_rfl,o0⟩
theorem tZ {aS:FuncId→cd}(ha:aS 43=ze)(Gc:Ov cf m)(r0:fB)(h:AHeap)(L:Mem)(aA:Nat)  (o:Has h ((aA,.ob [ao.fz r0.eR,.bool r0.br])::L)){out:Int × fB}(H:bN.f m r0=some out) :
  ∃r h',aZ Tryd.prog aS cf m 43 [.ptr aA 0] h=some (r,h')∧r = .int .i64 out.1∧Has h' ((aA,.ob [ao.fz out.2.eR,.bool out.2.br])::L):=by
 refine aj (fn:=Tryd.f43) ha Tryd.func43 (by kernel_rfl) (by kernel_rfl) ?_
 refine aD (Q:=fun s=>bN.fin L aA r0 out s) (fun _ _ ⟨h1,h2,h3⟩=>⟨h1,_,h2,rfl,h3⟩) ?_
 have H:_=some out:=H
 unfold bN.f at H
 show de _ cf ze m _ ⟨.ptr aA 0::Dm [],[],h⟩ _
 refine q1 <| qq <| q0 <| qq <| qq <| q0 <| qb 0 ?_
 obtain⟨bo,e6,H⟩:=aJ H
 refine ql (bN.bG L aA r0  Gc ((0:Int),(0:Int),r0) _ _ ⟨h,by kernel_rfl,o⟩ e6) ?_
 rintro e s ⟨rfl,n1,KN,r2,rfl,g0,g1,g2,g3,h4,rfl,o4⟩
 try dsimp only at H
 obtain rfl:=oi H
 exact q1 <| qt <| ⟨.inl rfl,⟨by kernel_rfl,he o4⟩⟩
end
end Go.Proofs.YtmekcfdllhphlaaDoor
namespace Go.Proofs.YtmekcfdllhphlaaDoor
open Go Go.R
open Go.IntKind (i64 u64 u8 u32)
theorem mG {bs news:List Int}(h:bs≠[])(hn:news≠[])(hl:bs.length+news.length≤140737488355328):E7 bs news=some (bs++news):=by
 unfold E7 wB
 rw [if_neg h,if_pos ⟨hl,hn⟩]
theorem Ii (n:Nat):dL n≠[]:=by
 by_cases h:n<128
 ·rw [jX h]; simp
 ·rw [mo h]; simp
theorem Gd (m:Nat):∀(k n:Nat) (w:List Int) (f:Nat),k<f→n<128 ^ (k+1)→n<2 ^ 64→w≠[]→w.length+k≤140737488355328→
  ∃(x:Nat) (pre:List Int),x<128∧bW.l0 m f (n:Int) w=some ((x:Int),w++pre)∧pre++[(x:Int)]=dL n∧pre.length≤k
 | _,_,_,0,hf,_,_,_,_=>absurd hf (by omega)
 | k,n,w,f+1,hf,hk,hn,hw,hl=>by
  by_cases h:n<128
  ·refine⟨n,[],h,?_,by rw [jX h]; rfl,Nat.zero_le _⟩
   unfold bW.l0
   rw [if_neg (by simp; omega),XW]
  ·cases k with
   | zero=>simp at hk; omega
   | succ k=>
    have hd:n / 128<128 ^ (k+1):=by
     rw [Nat.div_lt_iff_lt_mul (by omega)]
     calc n<128 ^ (k+1+1):=hk
      _=_:=by rw [Nat.pow_succ]
    obtain⟨x,pre,h1,h2,h3,h4⟩:=Gd m k (n / 128) (w++[((n % 128+128:Nat):Int)]) f (by omega) hd (by omega) (by simp) (by simp; omega)
    refine⟨x,((n % 128+128:Nat):Int)::pre,h1,?_,by rw [mo h,Xj,h3],by simp; omega⟩
    unfold bW.l0
    rw [if_pos (by simp; omega),mU,MJ,mG hw (by simp) (by simp; omega),WQ,PG,h2,W7]
    rfl
theorem zf {m n:Nat}{w:List Int}(hm:11≤m)(hn:n<2 ^ 64)(hw:w≠[])(hl:w.length+20≤140737488355328):bW.f m w (n:Int)=some (w++dL n):=by
 obtain⟨x,pre,h1,h2,h3,h4⟩:=Gd m 10 n w m (by omega) (by omega) hn hw (by omega)
 unfold bW.f
 rw [h2,WQ]
 simp only
 rw [mU,show ((x:Int) % 256)=(x:Int) by omega,mG (by simp [hw]) (by simp) (by simp; omega),WQ,W7,←h3]
theorem vK {m:Nat}{c:Int}{l:List Int}{bad:Bool}:jI.f m ⟨c::l,bad⟩=some (c,⟨l,bad⟩):=by
 unfold jI.f
 rw [if_neg (by simp; omega)]
 have h1:ix (c::l) 0=some c:=rfl
 have h2:pM (c::l) 1 ((c::l).length:Int)=some l:=by
  unfold pM
  rw [if_pos ⟨by omega,by simp; omega,Int.le_refl _⟩]
  simp
 simp only [h1,h2,WQ]
theorem Ge (m:Nat):∀(k f:Nat),k<f→∀(n a j:Nat) (rest:List Int),n<128 ^ (k+1)→a<2 ^ (7*j)→a+n*2 ^ (7*j)<2 ^ 63→(j=0∨1≤n)→
  ∃s':Int,bN.l0 m f (a:Int) ((7*j:Nat):Int) ⟨dL n++rest,false⟩=some (((a+n*2 ^ (7*j):Nat):Int),s',⟨rest,false⟩)
 | k,0,hf,_,_,_,_,_,_,_,_=>absurd hf (by omega)
 | k,f+1,hf,n,a,j,rest,hk,ha,hn,h0=>by
  have hs:7*j≤56:=by
   rcases h0 with h0 | h0
   ·omega
   ·have:7*j≤62:=by
     apply Nat.le_of_not_lt
     intro h
     have h1:2 ^ 63≤2 ^ (7*j):=Nat.pow_le_pow_right (by omega) (by omega)
     have h2:1*2 ^ (7*j)≤n*2 ^ (7*j):=XK _ h0
     omega
    omega
  by_cases h:n<128
  ·rw [jX h]
   obtain⟨g1,g2⟩:=Fe a n (7*j) ha hs (by omega) h
   have g3:ic .u8 (n:Int) 127=(n:Int):=by rw [Fc n (by omega)]; omega
   refine⟨((7*j:Nat):Int),?_⟩
   unfold bN.l0
   rw [if_pos (show (!false)=true from rfl),List.singleton_append,vK,WQ,if_neg (by simp; omega)]
   dsimp only
   rw [g3,g1,WQ]
   rw [if_pos (show decide ((n:Int)<128)=true by simp; omega),g2]
   by_cases hj:j=0
   ·rw [if_neg (by simp; omega)]
   ·rw [if_pos (by simp; omega),if_neg (by simp; omega)]
  ·rw [mo h]
   cases k with
   | zero=>simp at hk; omega
   | succ k=>
    have hd:n / 128<128 ^ (k+1):=by
     rw [Nat.div_lt_iff_lt_mul (by omega)]
     calc n<128 ^ (k+1+1):=hk
      _=_:=by rw [Nat.pow_succ]
    have hp:2 ^ (7*(j+1))=128*2 ^ (7*j):=by rw [show 7*(j+1)=7+7*j by omega,Nat.pow_add]
    have J0:a+n % 128*2 ^ (7*j)+n / 128*2 ^ (7*(j+1))=a+n*2 ^ (7*j):=by
     rw [hp,←Nat.mul_assoc,XE,←X0]
     congr 2
     omega
    have Qt:a+n % 128*2 ^ (7*j)<2 ^ (7*(j+1)):=by
     rw [hp]
     have:n % 128*2 ^ (7*j)≤127*2 ^ (7*j):=XK _ (by omega)
     omega
    obtain⟨g1,g2⟩:=Fe a (n % 128) (7*j) ha hs (by have:=Nat.zero_le (n / 128*2 ^ (7*(j+1))); omega) (Nat.mod_lt _ (by omega))
    have g3:ic .u8 ((n % 128+128:Nat):Int) 127=((n % 128:Nat):Int):=by
     rw [Fc _ (by omega)]; omega
    obtain⟨s',ih⟩:=Ge m k f (by omega) (n / 128) (a+n % 128*2 ^ (7*j)) (j+1) rest hd Qt (by omega) (.inr (by omega))
    rw [J0] at ih
    refine⟨s',?_⟩
    unfold bN.l0
    rw [if_pos (show (!false)=true from rfl),Xj,vK,WQ,if_neg (by simp; omega)]
    dsimp only
    rw [g3,g1,WQ,g2]
    have g4:i64.wrap (((7*j:Nat):Int)+7)=((7*(j+1):Nat):Int):=by rw [aE (by omega) (by omega)]; omega
    rw [if_neg (show ¬decide (((n % 128+128:Nat):Int)<128)=true by simp; omega),g4,ih]
    by_cases hj:j=0
    ·rw [if_neg (by simp; omega)]
    ·rw [if_pos (by simp; omega),if_neg (by simp; omega)]
theorem AW {m n:Nat}{rest:List Int}(hm:11≤m)(hn:n<2 ^ 63):bN.f m ⟨dL n++rest,false⟩=some ((n:Int),⟨rest,false⟩):=by
 obtain⟨s',h⟩:=Ge m 10 m (by omega) n 0 0 rest (by omega) (by omega) (by omega) (.inl rfl)
 unfold bN.f
 have h:bN.l0 m m (0:Int) (0:Int) ⟨dL n++rest,false⟩=some (((0+n*2 ^ (7*0):Nat):Int),s',⟨rest,false⟩):=h
 rw [h,WQ]
 simp only
 rw [aE (by omega) (by omega)]
 simp
end Go.Proofs.YtmekcfdllhphlaaDoor
namespace Go.Proofs.YtmekcfdllhphlaaDoor
open Go Go.R
open Go.IntKind (i64 u64 u8 u32)
def Ch:cd:=gh [0,1] [] [0,3] [] []
def jJ.f (m:Nat)(w0:List Int)(s0:ByteArray):Option ((List Int)):=(bW.f m w0 (u64.wrap (s0.size:Int))).bind fun x0=>(E7 x0 (dX s0)).bind fun xR=>some xR
def jJ.fin (L:Mem)(bT:Nat)(b9:Nat)(w0:List Int)(s0:ByteArray)(r:(List Int))(s:St):Prop:=∃dw:Nat,aI Tryd.prog (s.open Ch) Tryd.f74.results.toList=some (.tup [])∧Has s.h ((bT,.ob [.rs dw 0 r.length 1,.int .i64 (0:Int),.int .i8 (0:Int)])::(dw,.row 5 (ao.l r))::L)
def SU (cf:CallF)(m:Nat):Prop:=∀(w0:List Int) (s0:ByteArray) (r:(List Int)),jJ.f m w0 s0=some r→∀h L (bT:Nat) (b9:Nat),Has h ((bT,.ob [.rs b9 0 w0.length 1,.int .i64 (0:Int),.int .i8 (0:Int)])::(b9,.row 5 (ao.l w0))::L)→∀xs,xs.map ay=[.ptr bT 0,.str s0]→∃dw h',cf 74 xs h=some (.tup [],h')∧Has h' ((bT,.ob [.rs dw 0 r.length 1,.int .i64 (0:Int),.int .i8 (0:Int)])::(dw,.row 5 (ao.l r))::L)
section
variable {cf:CallF}{m:Nat}
theorem xq {aS:FuncId→cd}(ha:aS 74=Ch)(pw:LJ cf m)(Nx:MQ cf m)(w0:List Int)(s0:ByteArray)(h:AHeap)(L:Mem)(bT:Nat)(b9:Nat)  (o:Has h ((bT,.ob [.rs b9 0 w0.length 1,.int .i64 (0:Int),.int .i8 (0:Int)])::(b9,.row 5 (ao.l w0))::L)){out:(List Int)}(H:jJ.f m w0 s0=some out) :
  ∃r h',aZ Tryd.prog aS cf m 74 [.ptr bT 0,.str s0] h=some (r,h')∧∃dw:Nat,r = .tup []∧Has h' ((bT,.ob [.rs dw 0 out.length 1,.int .i64 (0:Int),.int .i8 (0:Int)])::(dw,.row 5 (ao.l out))::L):=by
 refine aj (fn:=Tryd.f74) ha Tryd.func74 (by kernel_rfl) (by kernel_rfl) ?_
 refine aD (Q:=fun s=>jJ.fin L bT b9 w0 s0 out s) (fun _ _ ⟨h1,dw,h2,h3⟩=>⟨h1,_,h2,dw,rfl,h3⟩) ?_
 have H:_=some out:=H
 unfold jJ.f at H
 show de _ cf Ch m _ ⟨[.ptr bT 0,.str s0],[],h⟩ _
 refine qq ?_
 obtain⟨x0,e0,H⟩:=aJ H
 obtain⟨aA,h0,e1,o0⟩:=pw _ _ _ e0 h _ _ _ (o)  [.ptr bT 0,.int .u64 (u64.wrap (s0.size:Int))] (an (rfl) (an (aO (bC)) (bg)))
 refine qr [.a 4 e1] ?_
 obtain⟨xR,e2,H⟩:=aJ H
 obtain⟨gH,h1,e3,o1⟩:=HY (bs:=x0) Nx o0 e2
 obtain rfl:=oi H
 exact qr [.a 4 e3] <| ⟨.inr rfl,⟨gH,by kernel_rfl,he o1⟩⟩
end
end Go.Proofs.YtmekcfdllhphlaaDoor
namespace Go.Proofs.YtmekcfdllhphlaaDoor
open Go Go.R
open Go.IntKind (i64 u64 u8 u32)
def zg:cd:=gh [0,1,3,5,14,15,22,26,41,47,60,61,62,63] [3] [16378,16378,16362,16330,16383,16298,16250,16383,16383,16106,16383,15866,16378,16378,9214,1022,9206,9214,9214] [] []
def ef.l0 (m:Nat)(n0:ae):Nat→Int→(List Int)→Option (Int × (List Int))
 | 0,_,_=>none
 | k+1,x6,w1=>if (decide (x6<(n0.args.length:Int)))=true then ((ix n0.args x6).bind fun v0=>(bW.f m w1 (u64.wrap v0)).bind fun x7=>ef.l0 m n0 k (i64.wrap (x6+(1:Int))) x7) else (some ((x6,w1)))
def ef.f (m:Nat)(w0:List Int)(n0:ae):Option ((List Int)):=(E7 w0 ([u8.wrap n0.kind])).bind fun xR=>if (n0.kind==(0:Int))=true then ((bW.f m xR (u64.wrap n0.int)).bind fun x0=>some x0) else (if (n0.kind==(1:Int))=true then (if (decide (n0.int<(0:Int)))=true then ((bW.f m xR (u64.wrap (u64.wrap (u64.wrap (i64.wrap (0 - n0.int))*(2:Int)) - (1:Int)))).bind fun x1=>some x1) else ((bW.f m xR (u64.wrap (u64.wrap n0.int*(2:Int)))).bind fun x2=>some x2)) else (if (n0.kind==(2:Int))=true then ((jJ.f m xR n0.label).bind fun x3=>some x3) else (if (n0.kind==(3:Int))=true then ((jJ.f m xR n0.label).bind fun x4=>(bW.f m x4 (u64.wrap (n0.args.length:Int))).bind fun x5=>(ef.l0 m n0 m (0:Int) x5).bind fun bo=>match bo with | (x8,w2)=>some w2) else (some xR))))
def ef.fin (L:Mem)(bT:Nat)(b9:Nat)(w0:List Int)(n0:ae)(r:(List Int))(s:St):Prop:=∃dw:Nat,aI Tryd.prog (s.open zg) Tryd.f55.results.toList=some (.tup [])∧Has s.h ((bT,.ob [.rs dw 0 r.length 1,.int .i64 (0:Int),.int .i8 (0:Int)])::(dw,.row 5 (ao.l r))::L)
def Ow (cf:CallF)(m:Nat):Prop:=∀(w0:List Int) (n0:ae) (r:(List Int)),ef.f m w0 n0=some r→∀h L (bT:Nat) (b9:Nat),Has h ((bT,.ob [.rs b9 0 w0.length 1,.int .i64 (0:Int),.int .i8 (0:Int)])::(b9,.row 5 (ao.l w0))::L)→∀xs,xs.map ay=[.ptr bT 0,.agg [.int .i64 n0.kind,.int .i64 n0.int,.str n0.label,aa.fz n0.args]]→∃dw h',cf 55 xs h=some (.tup [],h')∧Has h' ((bT,.ob [.rs dw 0 r.length 1,.int .i64 (0:Int),.int .i8 (0:Int)])::(dw,.row 5 (ao.l r))::L)
section
variable {cf:CallF}{m:Nat}
theorem ef.bG (L:Mem)(bT:Nat)(b9:Nat)(w0:List Int)(n0:ae)  (pw:LJ cf m):bI Tryd.prog cf zg m (sub [1,1,1,0,1,1,1,1,1,1,1,0,1,1,1,0,0] (codeOf Tryd.f55)) (fun k (σ:Int × (List Int))=>ef.l0 m n0 k σ.1 σ.2) (fun σ s=>match σ with | (x6,w1)=>∃iB h7,s=⟨.ptr bT 0::Dn [aa.fz n0.args,.int .i64 (n0.args.length:Int),.int .i64 x6,.any],[none],h7⟩∧Has h7 ((bT,.ob [.rs iB 0 w1.length 1,.int .i64 (0:Int),.int .i8 (0:Int)])::(iB,.row 5 (ao.l w1))::L)) (fun out e s=>(e = .exit 1∧∃x6 w1,(x6,w1)=out∧∃kQ Qv Qw Qx Qy iB h7,s=⟨kQ::Dn [Qv,Qw,Qx,Qy],[none],h7⟩∧Has h7 ((bT,.ob [.rs iB 0 w1.length 1,.int .i64 (0:Int),.int .i8 (0:Int)])::(iB,.row 5 (ao.l w1))::L))):=by
 refine hX (fun _=>rfl) ?_
 rintro k ⟨x6,w1⟩ s out ⟨iB,h7,rfl,o7⟩ H
 have H:ef.l0 m n0 (k+1) x6 w1=some out:=H
 refine q1 <| qq <| qc H (fun c5 H=>?_) (fun c5 H=>?_)
 ·refine qk <| qq <| qb 2 <| qq ?_
  obtain⟨v0,uS,H⟩:=aJ H
  refine qr [.v 0 (bD (k:=.i64) (E:=aa) (l:=n0.args) dA uS),.v 1 (dd  (E:=aa) (l:=n0.args) h7 A3 uS rfl)] ?_
  obtain⟨x7,uC,H⟩:=aJ H
  obtain⟨kT,h8,xP,o8⟩:=pw _ _ _ uC h7 _ _ _ (o7)  [.ptr bT 0,.int .u64 (u64.wrap v0)] (an (rfl) (an (aO (bC)) (bg)))
  exact qr [.a 3 xP] <| q0 <| ⟨(i64.wrap (x6+(1:Int)),x7),⟨kT,h8,by kernel_rfl,o8⟩,H⟩
 ·exact qx 1 <| ⟨rfl,x6,w1,oi H,.ptr bT 0,aa.fz n0.args,.int .i64 (n0.args.length:Int),.int .i64 x6,.bool (decide (x6<(n0.args.length:Int))),iB,h7,by kernel_rfl,o7⟩
theorem xt {aS:FuncId→cd}(ha:aS 55=zg)(xo:MP cf m)(pw:LJ cf m)(Ny:SU cf m)(w0:List Int)(n0:ae)(h:AHeap)(L:Mem)(bT:Nat)(b9:Nat)  (o:Has h ((bT,.ob [.rs b9 0 w0.length 1,.int .i64 (0:Int),.int .i8 (0:Int)])::(b9,.row 5 (ao.l w0))::L)){out:(List Int)}(H:ef.f m w0 n0=some out) :
  ∃r h',aZ Tryd.prog aS cf m 55 [.ptr bT 0,.agg [.int .i64 n0.kind,.int .i64 n0.int,.str n0.label,aa.fz n0.args]] h=some (r,h')∧∃dw:Nat,r = .tup []∧Has h' ((bT,.ob [.rs dw 0 out.length 1,.int .i64 (0:Int),.int .i8 (0:Int)])::(dw,.row 5 (ao.l out))::L):=by
 refine aj (fn:=Tryd.f55) ha Tryd.func55 (by kernel_rfl) (by kernel_rfl) ?_
 refine aD (Q:=fun s=>ef.fin L bT b9 w0 n0 out s) (fun _ _ ⟨h1,dw,h2,h3⟩=>⟨h1,_,h2,dw,rfl,h3⟩) ?_
 have H:_=some out:=H
 unfold ef.f at H
 show de _ cf zg m _ ⟨.ptr bT 0 :: .agg [.int .i64 n0.kind,.int .i64 n0.int,.str n0.label,aa.fz n0.args]::mX [],[none],h⟩ _
 refine q1 <| qq ?_
 obtain⟨xR,e0,H⟩:=aJ H
 obtain⟨aA,h0,e1,o0⟩:=sd (bs:=w0) xo o e0
 refine qr [.a 6 e1] <| qq <| q0 <| qb 0 <| qq <| q0 <| qc H (fun c0 H=>?_) (fun c0 H=>?_)
 ·obtain⟨x0,e2,H⟩:=aJ H
  obtain⟨gH,h1,e3,o1⟩:=pw _ _ _ e2 h0 _ _ _ (o0)  [.ptr bT 0,.int .u64 (u64.wrap n0.int)] (an (rfl) (an (aO (bC)) (bg)))
  obtain rfl:=oi H
  exact qr [.a 4 e3] <| ⟨.inr rfl,⟨gH,by kernel_rfl,he o1⟩⟩
 ·refine q1 <| qc H (fun c1 H=>?_) (fun c1 H=>?_)
  ·refine q1 <| qc H (fun c2 H=>?_) (fun c2 H=>?_)
   ·obtain⟨x1,e4,H⟩:=aJ H
    obtain⟨di,h2,e5,o2⟩:=pw _ _ _ e4 h0 _ _ _ (o0)  [.ptr bT 0,.int .u64 (u64.wrap (u64.wrap (u64.wrap (i64.wrap (0 - n0.int))*(2:Int)) - (1:Int)))] (an (rfl) (an (aO (bC)) (bg)))
    obtain rfl:=oi H
    exact qr [.a 7 e5] <| ⟨.inr rfl,⟨di,by kernel_rfl,he o2⟩⟩
   ·obtain⟨x2,e6,H⟩:=aJ H
    obtain⟨fy,h3,e7,o3⟩:=pw _ _ _ e6 h0 _ _ _ (o0)  [.ptr bT 0,.int .u64 (u64.wrap (u64.wrap n0.int*(2:Int)))] (an (rfl) (an (aO (bC)) (bg)))
    obtain rfl:=oi H
    exact qr [.a 5 e7] <| ⟨.inr rfl,⟨fy,by kernel_rfl,he o3⟩⟩
  ·refine q1 <| qc H (fun c3 H=>?_) (fun c3 H=>?_)
   ·obtain⟨x3,e8,H⟩:=aJ H
    obtain⟨gZ,h4,e9,o4⟩:=Ny _ _ _ e8 h0 _ _ _ (o0)  [.ptr bT 0,.str n0.label] (an (rfl) (an (aO (wT)) (bg)))
    obtain rfl:=oi H
    exact qr [.a 3 e9] <| ⟨.inr rfl,⟨gZ,by kernel_rfl,he o4⟩⟩
   ·refine q1 <| qc H (fun c4 H=>?_) (fun c4 H=>?_)
    ·refine qq ?_
     obtain⟨x4,pe,H⟩:=aJ H
     obtain⟨gW,h5,sj,o5⟩:=Ny _ _ _ pe h0 _ _ _ (o0)  [.ptr bT 0,.str n0.label] (an (rfl) (an (aO (wT)) (bg)))
     refine qr [.a 3 sj] <| qq ?_
     obtain⟨x5,uA,H⟩:=aJ H
     obtain⟨gX,h6,uB,o6⟩:=pw _ _ _ uA h5 _ _ _ (o5)  [.ptr bT 0,.int .u64 (u64.wrap (n0.args.length:Int))] (an (rfl) (an (aO (bC)) (bg)))
     refine qr [.a 5 uB] <| qq <| q0 <| qb 1 ?_
     obtain⟨bo,xd,H⟩:=aJ H
     refine ql (ef.bG L bT b9 w0 n0  pw ((0:Int),x5) _ _ ⟨gX,h6,by kernel_rfl,o6⟩ xd) ?_
     rintro e s ⟨rfl,x8,w2,rfl,g0,g1,g2,g3,g4,xQ,h9,rfl,o9⟩
     try dsimp only at H
     obtain rfl:=oi H
     exact⟨.inr rfl,⟨xQ,by kernel_rfl,he o9⟩⟩
    ·obtain rfl:=oi H
     exact qk <| ⟨.inr rfl,⟨aA,by kernel_rfl,he o0⟩⟩
end
end Go.Proofs.YtmekcfdllhphlaaDoor
namespace Go.Proofs.YtmekcfdllhphlaaDoor
open Go Go.R
open Go.IntKind (i64 u64 u8 u32)
def Ci:cd:=gh [0,2,3,4,19] [] [30,26,10,31,29,18,23,29] [] []
def jK.f (m:Nat)(r0:fB):Option (ByteArray × fB):=(bN.f m r0).bind fun x0=>if x0.2.br=true then (some ((Xk #[]),(fB.mk x0.2.eR true))) else (if (decide (x0.1 > (x0.2.eR.length:Int)))=true then (some ((Xk #[]),(fB.mk x0.2.eR true))) else ((pM x0.2.eR (0:Int) x0.1).bind fun v0=>(pM x0.2.eR x0.1 (x0.2.eR.length:Int)).bind fun v1=>some (bF v0,(fB.mk v1 x0.2.br))))
def jK.fin (L:Mem)(aA:Nat)(r0:fB)(r:ByteArray × fB)(s:St):Prop:=aI Tryd.prog (s.open Ci) Tryd.f60.results.toList=some (.str r.1)∧Has s.h ((aA,.ob [ao.fz r.2.eR,.bool r.2.br])::L)
def SV (cf:CallF)(m:Nat):Prop:=∀(r0:fB) (r:ByteArray × fB),jK.f m r0=some r→∀h L (aA:Nat),Has h ((aA,.ob [ao.fz r0.eR,.bool r0.br])::L)→∀xs,xs.map ay=[.ptr aA 0]→∃h',cf 60 xs h=some (.str r.1,h')∧Has h' ((aA,.ob [ao.fz r.2.eR,.bool r.2.br])::L)
section
variable {cf:CallF}{m:Nat}
theorem xu {aS:FuncId→cd}(ha:aS 60=Ci)(nf:KO cf m)(r0:fB)(h:AHeap)(L:Mem)(aA:Nat)  (o:Has h ((aA,.ob [ao.fz r0.eR,.bool r0.br])::L)){out:ByteArray × fB}(H:jK.f m r0=some out) :
  ∃r h',aZ Tryd.prog aS cf m 60 [.ptr aA 0] h=some (r,h')∧r = .str out.1∧Has h' ((aA,.ob [ao.fz out.2.eR,.bool out.2.br])::L):=by
 refine aj (fn:=Tryd.f60) ha Tryd.func60 (by kernel_rfl) (by kernel_rfl) ?_
 refine aD (Q:=fun s=>jK.fin L aA r0 out s) (fun _ _ ⟨h1,h2,h3⟩=>⟨h1,_,h2,rfl,h3⟩) ?_
 have H:_=some out:=H
 unfold jK.f at H
 show de _ cf Ci m _ ⟨.ptr aA 0::oq [],[],h⟩ _
 refine q1 <| qq ?_
 obtain⟨x0,e0,H⟩:=aJ H
 obtain⟨h0,e1,o0⟩:=nf _ _ e0 h _ _ (o)  [.ptr aA 0] (an (rfl) (bg))
 refine qr [.a 1 e1] <| qq <| qq ?_
 rcases dF H with⟨c0,H⟩| ⟨c0,H⟩
 ·refine qr [.v 3 (show bh Tryd.prog h0 4 (.ptr aA 1)=some (.bool x0.2.br) from cm (q:=0) (cs:=[ao.fz x0.2.eR,.bool x0.2.br]) o0 rfl (by kernel_rfl)),.b 4 c0] <| vC <| qq ?_
  obtain⟨h1,e2,o1⟩:=kN (P:=Tryd.prog) (t:=4) (off:=1) (q:=0) (cs:=[ao.fz x0.2.eR,.bool x0.2.br]) (fH:=[ao.fz x0.2.eR,.bool true]) (x:=.bool true) o0 rfl (by kernel_rfl)
  obtain rfl:=oi H
  exact qr [.w 3 e2] <| qq <| q0 <| qt <| ⟨.inl rfl,⟨by kernel_rfl,he o1⟩⟩
 ·refine qr [.v 3 (show bh Tryd.prog h0 4 (.ptr aA 1)=some (.bool x0.2.br) from cm (q:=0) (cs:=[ao.fz x0.2.eR,.bool x0.2.br]) o0 rfl (by kernel_rfl)),.b 4 c0,.v 9 (show bh Tryd.prog h0 25 (.ptr aA 0)=some (ao.fz x0.2.eR) from cm (q:=0) (cs:=[ao.fz x0.2.eR,.bool x0.2.br]) o0 rfl (by kernel_rfl))] <| qc H (fun c2 H=>?_) (fun c2 H=>?_)
  ·refine qq ?_
   obtain⟨h2,e3,o2⟩:=kN (P:=Tryd.prog) (t:=4) (off:=1) (q:=0) (cs:=[ao.fz x0.2.eR,.bool x0.2.br]) (fH:=[ao.fz x0.2.eR,.bool true]) (x:=.bool true) o0 rfl (by kernel_rfl)
   obtain rfl:=oi H
   exact qr [.w 3 e3] <| qq <| q0 <| qt <| ⟨.inl rfl,⟨by kernel_rfl,he o2⟩⟩
  ·refine qk <| qq ?_
   obtain⟨v0,e4,H⟩:=aJ H
   refine qr [.v 3 (show bh Tryd.prog h0 25 (.ptr aA 0)=some (ao.fz x0.2.eR) from cm (q:=0) (cs:=[ao.fz x0.2.eR,.bool x0.2.br]) o0 rfl (by kernel_rfl)),.v 5 (show fe Tryd.prog 25 (ao.fz x0.2.eR) none (some (.int .i64 x0.1)) none=some (ao.fz v0) from BF (E:=ao) H6 e4),.v 6 (show dW Tryd.prog h0 25 9 (ao.fz v0)=some (.str (bF v0)) from ll (e:=5) (l:=v0) rfl rfl rfl (oV _))] <| qq ?_
   obtain⟨v1,e5,H⟩:=aJ H
   obtain⟨h3,e6,o3⟩:=kN (P:=Tryd.prog) (t:=25) (off:=0) (q:=0) (cs:=[ao.fz x0.2.eR,.bool x0.2.br]) (fH:=[ao.fz v1,.bool x0.2.br]) (x:=ao.fz v1) o0 rfl (by kernel_rfl)
   obtain rfl:=oi H
   exact qr [.v 4 (show bh Tryd.prog h0 25 (.ptr aA 0)=some (ao.fz x0.2.eR) from cm (q:=0) (cs:=[ao.fz x0.2.eR,.bool x0.2.br]) o0 rfl (by kernel_rfl)),.v 6 (show fe Tryd.prog 25 (ao.fz x0.2.eR) (some (.int .i64 x0.1)) none none=some (ao.fz v1) from wR (E:=ao) H6 e5),.w 9 e6] <| qq <| q0 <| qt <| ⟨.inl rfl,⟨by kernel_rfl,he o3⟩⟩
end
end Go.Proofs.YtmekcfdllhphlaaDoor
namespace Go.Proofs.YtmekcfdllhphlaaDoor
open Go Go.R
open Go.IntKind (i64 u64 u8 u32)
def vL:cd:=gh [0,2,3,4,5,11,15,20,29,35,40,48,53,54,55] [2,3] [32764,32760,32728,32761,32664,32761,32600,32753,32753,32497,32761,32216,32761,31736,32760,32744,30696,32744,20472,4088,20472,20472,32765] [(22,[(3,some 3,0)])] [(1,[(3,some 3,1)])]
def cZ.l0 (m:Nat)(x5:Int × fB):Nat→Int→Int→Int→ByteArray→(List Int)→fB→Option (Int × Int × Int × ByteArray × (List Int) × fB)
 | 0,_,_,_,_,_,_=>none
 | k+1,x6,n0,n1,n2,n3,r1=>if (decide (x6<(mn x5.1 (8:Int))))=true then ((bN.f m r1).bind fun x7=>(app 8 n3 ([x7.1])).bind fun x8=>cZ.l0 m x5 k (i64.wrap (x6+(1:Int))) n0 n1 n2 x8 x7.2) else (some ((x6,n0,n1,n2,n3,r1)))
def cZ.l1 (m:Nat)(x5:Int × fB):Nat→Int→Int→Int→ByteArray→(List Int)→fB→Option (Int × Int × Int × ByteArray × (List Int) × fB)
 | 0,_,_,_,_,_,_=>none
 | k+1,mB,n8,n9,Gf,AX,r3=>if (decide (mB<(mn x5.1 (8:Int))))=true then ((bN.f m r3).bind fun Hi=>(app 8 AX ([Hi.1])).bind fun H9=>cZ.l1 m x5 k (i64.wrap (mB+(1:Int))) n8 n9 Gf H9 Hi.2) else (some ((mB,n8,n9,Gf,AX,r3)))
def cZ.f (m:Nat)(r0:fB):Option (ae × fB):=(jI.f m r0).bind fun x0=>if ((i64.wrap x0.1)==(0:Int))=true then ((bN.f m x0.2).bind fun x1=>some ((ae.mk (i64.wrap x0.1) x1.1 (Xk #[]) ([]:List Int)),x1.2)) else (if ((i64.wrap x0.1)==(1:Int))=true then ((bN.f m x0.2).bind fun x2=>if ((Int.tmod x2.1 (2:Int))==(1:Int))=true then (some ((ae.mk (i64.wrap x0.1) (i64.wrap (0 - (i64.wrap (i64.wrap (Int.tdiv x2.1 (2:Int))+(1:Int))))) (Xk #[]) ([]:List Int)),x2.2)) else (some ((ae.mk (i64.wrap x0.1) (i64.wrap (Int.tdiv x2.1 (2:Int))) (Xk #[]) ([]:List Int)),x2.2))) else (if ((i64.wrap x0.1)==(2:Int))=true then ((jK.f m x0.2).bind fun x3=>some ((ae.mk (i64.wrap x0.1) (0:Int) x3.1 ([]:List Int)),x3.2)) else (if ((i64.wrap x0.1)==(3:Int))=true then ((jK.f m x0.2).bind fun x4=>(bN.f m x4.2).bind fun x5=>if (decide (x5.1 > (8:Int)))=true then ((cZ.l0 m x5 m (0:Int) (i64.wrap x0.1) (0:Int) x4.1 ([]:List Int) (fB.mk x5.2.eR true)).bind fun bo=>match bo with | (x9,n4,n5,n6,n7,r2)=>some ((ae.mk n4 n5 n6 n7),r2)) else ((cZ.l1 m x5 m (0:Int) (i64.wrap x0.1) (0:Int) x4.1 ([]:List Int) x5.2).bind fun cD=>match cD with | (AR,SW,SX,SY,Qz,r4)=>some ((ae.mk SW SX SY Qz),r4))) else (some ((ae.mk (i64.wrap x0.1) (0:Int) (Xk #[]) ([]:List Int)),(fB.mk x0.2.eR true))))))
def cZ.fin (L:Mem)(aA:Nat)(r0:fB)(r:ae × fB)(s:St):Prop:=aI Tryd.prog (s.open vL) Tryd.f44.results.toList=some (.agg [.int .i64 r.1.kind,.int .i64 r.1.int,.str r.1.label,aa.fz r.1.args])∧Has s.h ((aA,.ob [ao.fz r.2.eR,.bool r.2.br])::L)
def Ox (cf:CallF)(m:Nat):Prop:=∀(r0:fB) (r:ae × fB),cZ.f m r0=some r→∀h L (aA:Nat),Has h ((aA,.ob [ao.fz r0.eR,.bool r0.br])::L)→∀xs,xs.map ay=[.ptr aA 0]→∃h',cf 44 xs h=some (.agg [.int .i64 r.1.kind,.int .i64 r.1.int,.str r.1.label,aa.fz r.1.args],h')∧Has h' ((aA,.ob [ao.fz r.2.eR,.bool r.2.br])::L)
section
variable {cf:CallF}{m:Nat}
theorem cZ.bG (L:Mem)(aA:Nat)(r0:fB)(x5:Int × fB)  (nf:KO cf m):bI Tryd.prog cf vL m (sub [1,1,0,1,0,1,1,1,1,1,1,1,0,1,1,1,1,0,0] (codeOf Tryd.f44)) (fun k (σ:Int × Int × Int × ByteArray × (List Int) × fB)=>cZ.l0 m x5 k σ.1 σ.2.1 σ.2.2.1 σ.2.2.2.1 σ.2.2.2.2.1 σ.2.2.2.2.2) (fun σ s=>match σ with | (x6,n0,n1,n2,n3,r1)=>∃gH h11,s=⟨.ptr aA 0 :: .lp 2 0 :: .lp 3 0::Dn [.int .i64 (mn x5.1 (8:Int)),.int .i64 x6,.any],[some [.int .i64 (0:Int),.int .i64 (0:Int),.str (Xk #[]),.nils],some [.int .i64 n0,.int .i64 n1,.str n2,.rs gH 0 n3.length 1]],h11⟩∧Has h11 ((aA,.ob [ao.fz r1.eR,.bool r1.br])::(gH,.sl n3.length 1 (aa.l n3))::L)) (fun out e s=>(e = .exit 1∧∃x6 n0 n1 n2 n3 r1,(x6,n0,n1,n2,n3,r1)=out∧∃kQ F3 F4 F5 gH h11,s=⟨kQ :: .lp 2 0 :: .lp 3 0::Dn [F3,F4,F5],[some [.int .i64 (0:Int),.int .i64 (0:Int),.str (Xk #[]),.nils],some [.int .i64 n0,.int .i64 n1,.str n2,.rs gH 0 n3.length 1]],h11⟩∧Has h11 ((aA,.ob [ao.fz r1.eR,.bool r1.br])::(gH,.sl n3.length 1 (aa.l n3))::L))):=by
 refine hX (fun _=>rfl) ?_
 rintro k ⟨x6,n0,n1,n2,n3,r1⟩ s out ⟨gH,h11,rfl,tK⟩ H
 have H:cZ.l0 m x5 (k+1) x6 n0 n1 n2 n3 r1=some out:=H
 refine q1 <| qq <| qc H (fun c6 H=>?_) (fun c6 H=>?_)
 ·refine qk <| qq <| qb 2 ?_
  obtain⟨x7,xd,H⟩:=aJ H
  obtain⟨h12,B1,lM⟩:=nf _ _ xd h11 _ _ (tK)  [.ptr aA 0] (an (rfl) (bg))
  obtain⟨x8,xe,H⟩:=aJ H
  obtain⟨di,h13,B2,yP⟩:=fY (P:=Tryd.prog) (E:=aa) (l:=n3) (q:=1) (t2:=42) (x:=.fz [.int .i64 x7.1] 1 true) (l2:=([x7.1])) dA lM rfl (by kernel_rfl) rfl xe
  exact qr [.a 3 B1,.a 5 B2] <| q0 <| ⟨(i64.wrap (x6+(1:Int)),n0,n1,n2,x8,x7.2),⟨di,h13,by kernel_rfl,yP⟩,H⟩
 ·exact qx 1 <| ⟨rfl,x6,n0,n1,n2,n3,r1,oi H,.ptr aA 0,.int .i64 (mn x5.1 (8:Int)),.int .i64 x6,.bool (decide (x6<(mn x5.1 (8:Int)))),gH,h11,by kernel_rfl,tK⟩
theorem cZ.fW (L:Mem)(aA:Nat)(r0:fB)(x5:Int × fB)  (nf:KO cf m):bI Tryd.prog cf vL m (sub [1,1,0,1,0,1,1,1,1,1,1,1,0,1,1,1,1,0,0] (codeOf Tryd.f44)) (fun k (σ:Int × Int × Int × ByteArray × (List Int) × fB)=>cZ.l1 m x5 k σ.1 σ.2.1 σ.2.2.1 σ.2.2.2.1 σ.2.2.2.2.1 σ.2.2.2.2.2) (fun σ s=>match σ with | (mB,n8,n9,Gf,AX,r3)=>∃gZ h16,s=⟨.ptr aA 0 :: .lp 2 0 :: .lp 3 0::Dn [.int .i64 (mn x5.1 (8:Int)),.int .i64 mB,.any],[some [.int .i64 (0:Int),.int .i64 (0:Int),.str (Xk #[]),.nils],some [.int .i64 n8,.int .i64 n9,.str Gf,.rs gZ 0 AX.length 1]],h16⟩∧Has h16 ((aA,.ob [ao.fz r3.eR,.bool r3.br])::(gZ,.sl AX.length 1 (aa.l AX))::L)) (fun out e s=>(e = .exit 1∧∃mB n8 n9 Gf AX r3,(mB,n8,n9,Gf,AX,r3)=out∧∃kQ F3 F4 F5 gZ h16,s=⟨kQ :: .lp 2 0 :: .lp 3 0::Dn [F3,F4,F5],[some [.int .i64 (0:Int),.int .i64 (0:Int),.str (Xk #[]),.nils],some [.int .i64 n8,.int .i64 n9,.str Gf,.rs gZ 0 AX.length 1]],h16⟩∧Has h16 ((aA,.ob [ao.fz r3.eR,.bool r3.br])::(gZ,.sl AX.length 1 (aa.l AX))::L))):=by
 refine hX (fun _=>rfl) ?_
 rintro k ⟨mB,n8,n9,Gf,AX,r3⟩ s out ⟨gZ,h16,rfl,AI⟩ H
 have H:cZ.l1 m x5 (k+1) mB n8 n9 Gf AX r3=some out:=H
 refine q1 <| qq <| qc H (fun c7 H=>?_) (fun c7 H=>?_)
 ·refine qk <| qq <| qb 2 ?_
  obtain⟨Hi,Fz,H⟩:=aJ H
  obtain⟨h17,D5,DD⟩:=nf _ _ Fz h16 _ _ (AI)  [.ptr aA 0] (an (rfl) (bg))
  obtain⟨H9,FA,H⟩:=aJ H
  obtain⟨gW,h18,FE,DE⟩:=fY (P:=Tryd.prog) (E:=aa) (l:=AX) (q:=1) (t2:=42) (x:=.fz [.int .i64 Hi.1] 1 true) (l2:=([Hi.1])) dA DD rfl (by kernel_rfl) rfl FA
  exact qr [.a 3 D5,.a 5 FE] <| q0 <| ⟨(i64.wrap (mB+(1:Int)),n8,n9,Gf,H9,Hi.2),⟨gW,h18,by kernel_rfl,DE⟩,H⟩
 ·exact qx 1 <| ⟨rfl,mB,n8,n9,Gf,AX,r3,oi H,.ptr aA 0,.int .i64 (mn x5.1 (8:Int)),.int .i64 mB,.bool (decide (mB<(mn x5.1 (8:Int)))),gZ,h16,by kernel_rfl,AI⟩
theorem xw {aS:FuncId→cd}(ha:aS 44=vL)(nf:KO cf m)(Gc:Ov cf m)(Nz:SV cf m)(r0:fB)(h:AHeap)(L:Mem)(aA:Nat)  (o:Has h ((aA,.ob [ao.fz r0.eR,.bool r0.br])::L)){out:ae × fB}(H:cZ.f m r0=some out) :
  ∃r h',aZ Tryd.prog aS cf m 44 [.ptr aA 0] h=some (r,h')∧r = .agg [.int .i64 out.1.kind,.int .i64 out.1.int,.str out.1.label,aa.fz out.1.args]∧Has h' ((aA,.ob [ao.fz out.2.eR,.bool out.2.br])::L):=by
 refine aj (fn:=Tryd.f44) ha Tryd.func44 (by kernel_rfl) (by kernel_rfl) ?_
 refine aD (Q:=fun s=>cZ.fin L aA r0 out s) (fun _ _ ⟨h1,h2,h3⟩=>⟨h1,_,h2,rfl,h3⟩) ?_
 have H:_=some out:=H
 unfold cZ.f at H
 show de _ cf vL m _ ⟨.ptr aA 0::rA [],[none,none],h⟩ _
 refine q1 <| qq ?_
 obtain⟨x0,e0,H⟩:=aJ H
 obtain⟨h0,e1,o0⟩:=Gc _ _ e0 h _ _ (o)  [.ptr aA 0] (an (rfl) (bg))
 refine qr [.a 1 e1] ?_
 have o1:Has h0 (((0),.sl (([]:List Int).length) 1 (aa.l ([]:List Int)))::(aA,.ob [ao.fz x0.2.eR,.bool x0.2.br])::L):=Has.nil o0 1
 refine qq <| qq <| q0 <| qb 0 <| qq <| q0 <| qc H (fun c0 H=>?_) (fun c0 H=>?_)
 ·obtain⟨x1,e2,H⟩:=aJ H
  obtain⟨h1,e3,o2⟩:=nf _ _ e2 h0 _ _ ((Has.front (Has.front o1 0 rfl) 1 rfl))  [.ptr aA 0] (an (rfl) (bg))
  refine qr [.a 1 e3] <| qq ?_
  obtain⟨h2,e4,o3⟩:=ja (E:=aa) (l:=([]:List Int)) (q:=1) o2 rfl
  obtain rfl:=oi H
  exact zT [.a 0 e4] [] <| qt <| ⟨.inl rfl,⟨by kernel_rfl,he o3⟩⟩
 ·refine q1 <| qc H (fun c1 H=>?_) (fun c1 H=>?_)
  ·refine qq ?_
   obtain⟨x2,e5,H⟩:=aJ H
   obtain⟨h3,e6,o4⟩:=nf _ _ e5 h0 _ _ ((Has.front (Has.front o1 0 rfl) 1 rfl))  [.ptr aA 0] (an (rfl) (bg))
   refine qr [.a 1 e6] <| qq <| q0 <| qq <| q0 <| qc H (fun c2 H=>?_) (fun c2 H=>?_)
   ·refine q0 <| qq ?_
    obtain⟨h4,e7,o5⟩:=ja (E:=aa) (l:=([]:List Int)) (q:=1) o4 rfl
    obtain rfl:=oi H
    exact zT [.a 0 e7] [] <| qt <| ⟨.inl rfl,⟨by kernel_rfl,he o5⟩⟩
   ·refine qk <| qq ?_
    obtain⟨h5,e8,o6⟩:=ja (E:=aa) (l:=([]:List Int)) (q:=1) o4 rfl
    obtain rfl:=oi H
    exact zT [.a 0 e8] [] <| qt <| ⟨.inl rfl,⟨by kernel_rfl,he o6⟩⟩
  ·refine q1 <| qc H (fun c3 H=>?_) (fun c3 H=>?_)
   ·obtain⟨x3,e9,H⟩:=aJ H
    obtain⟨h6,pe,o7⟩:=Nz _ _ e9 h0 _ _ ((Has.front (Has.front o1 0 rfl) 1 rfl))  [.ptr aA 0] (an (rfl) (bg))
    refine qr [.a 1 pe] <| qq ?_
    obtain⟨h7,sj,o8⟩:=ja (E:=aa) (l:=([]:List Int)) (q:=1) o7 rfl
    obtain rfl:=oi H
    exact zT [.a 0 sj] [] <| qt <| ⟨.inl rfl,⟨by kernel_rfl,he o8⟩⟩
   ·refine q1 <| qc H (fun c4 H=>?_) (fun c4 H=>?_)
    ·refine qq ?_
     obtain⟨x4,uA,H⟩:=aJ H
     obtain⟨h8,uB,o9⟩:=Nz _ _ uA h0 _ _ ((Has.front (Has.front o1 0 rfl) 1 rfl))  [.ptr aA 0] (an (rfl) (bg))
     refine qr [.a 1 uB] <| qq ?_
     obtain⟨x5,uS,H⟩:=aJ H
     obtain⟨h9,uC,uQ⟩:=nf _ _ uS h8 _ _ (o9)  [.ptr aA 0] (an (rfl) (bg))
     refine qr [.a 1 uC] <| qq <| qq <| q0 <| qc H (fun c5 H=>?_) (fun c5 H=>?_)
     ·obtain⟨h10,xP,vE⟩:=kN (P:=Tryd.prog) (t:=4) (off:=1) (q:=0) (cs:=[ao.fz x5.2.eR,.bool x5.2.br]) (fH:=[ao.fz x5.2.eR,.bool true]) (x:=.bool true) uQ rfl (by kernel_rfl)
      refine qr [.w 3 xP] <| qq <| q0 <| qb 1 ?_
      obtain⟨bo,D6,H⟩:=aJ H
      refine ql (cZ.bG L aA r0 x5  nf ((0:Int),i64.wrap x0.1,(0:Int),x4.1,([]:List Int),(fB.mk x5.2.eR true)) _ _ ⟨(0),h10,by kernel_rfl,vE⟩ D6) ?_
      rintro e s ⟨rfl,x9,n4,n5,n6,n7,r2,rfl,g0,g1,g2,g3,fy,h14,rfl,zU⟩
      try dsimp only at H
      refine qq ?_
      obtain⟨h15,D4,lR⟩:=ja (E:=aa) (l:=n7) (q:=1) zU rfl
      obtain rfl:=oi H
      exact zT [.a 0 D4] [] <| qt <| ⟨.inl rfl,⟨by kernel_rfl,he lR⟩⟩
     ·refine qk <| qq <| q0 <| qb 1 ?_
      obtain⟨cD,Hh,H⟩:=aJ H
      refine ql (cZ.fW L aA r0 x5  nf ((0:Int),i64.wrap x0.1,(0:Int),x4.1,([]:List Int),x5.2) _ _ ⟨(0),h9,by kernel_rfl,uQ⟩ Hh) ?_
      rintro e s ⟨rfl,AR,SW,SX,SY,Qz,r4,rfl,g4,g5,g6,g7,gX,h19,rfl,KG⟩
      try dsimp only at H
      refine qq ?_
      obtain⟨h20,FC,xk⟩:=ja (E:=aa) (l:=Qz) (q:=1) KG rfl
      obtain rfl:=oi H
      exact zT [.a 0 FC] [] <| qt <| ⟨.inl rfl,⟨by kernel_rfl,he xk⟩⟩
    ·obtain⟨h21,FD,FT⟩:=kN (P:=Tryd.prog) (t:=4) (off:=1) (q:=1) (cs:=[ao.fz x0.2.eR,.bool x0.2.br]) (fH:=[ao.fz x0.2.eR,.bool true]) (x:=.bool true) o1 rfl (by kernel_rfl)
     refine qr [.w 3 FD] <| qq ?_
     obtain⟨h22,FB,D7⟩:=ja (E:=aa) (l:=([]:List Int)) (q:=0) FT rfl
     obtain rfl:=oi H
     exact zT [.a 0 FB] [] <| qt <| ⟨.inl rfl,⟨by kernel_rfl,he D7⟩⟩
end
end Go.Proofs.YtmekcfdllhphlaaDoor
namespace Go.Proofs.YtmekcfdllhphlaaDoor
open Go Go.R
open Go.IntKind (i64 u64 u8 u32)
theorem xy (s:ByteArray):bF (dX s)=s:=by
 unfold bF dX
 rw [List.map_map]
 have:(List.map ((fun n:Int=>Ys n.toNat)∘fun b:UInt8=>(b.toNat:Int)) s.data.toList)=s.data.toList:=by
  conv=>rhs; rw [←List.map_id s.data.toList]
  apply XV
  intro b _
  simp
 rw [this]
theorem iN (s:ByteArray):(dX s).length=s.size:=by simp [dX]
theorem zh:∀(k n:Nat),n<128 ^ (k+1)→(dL n).length≤k+1
 | k,n,h=>by
  by_cases h1:n<128
  ·rw [jX h1]; simp
  ·cases k with
   | zero=>simp at h; omega
   | succ k=>
    have hd:n / 128<128 ^ (k+1):=by
     rw [Nat.div_lt_iff_lt_mul (by omega)]
     calc n<128 ^ (k+1+1):=h
      _=_:=by rw [Nat.pow_succ]
    have:=zh k (n / 128) hd
    rw [mo h1]; simp; omega
theorem dU {n:Nat}(h:n<2 ^ 64):(dL n).length≤10:=zh 9 n (by omega)
def ng (s:ByteArray):List Int:=dL s.size++dX s
theorem Jg {m:Nat}{w:List Int}{s:ByteArray}(hm:11≤m)(hs:s.size≠0)(hw:w≠[])(hl:w.length+s.size+20≤140737488355328):jJ.f m w s=some (w++ng s):=by
 unfold jJ.f
 have h1:s.size<2 ^ 64:=by omega
 have h2:=dU h1
 rw [ij (by omega) (by omega),zf hm h1 hw (by omega),WQ,mG (by simp [hw]) (fun h=>hs (by rw [←iN,h]; rfl)) (by simp [iN]; omega),WQ,W7]
 rfl
theorem Jh {m:Nat}{s:ByteArray}{rest:List Int}(hm:11≤m)(hl:s.size<2 ^ 63):jK.f m ⟨ng s++rest,false⟩=some (s,⟨rest,false⟩):=by
 unfold jK.f ng
 rw [W7,AW hm hl,WQ,if_neg (by simp)]
 dsimp only
 have hlen:=iN s
 rw [if_neg (by simp [hlen]; omega)]
 have h1:pM (dX s++rest) 0 (s.size:Int)=some (dX s):=by
  unfold pM
  rw [if_pos ⟨Int.le_refl _,by omega,by simp [hlen]; omega⟩]
  simp [←hlen]
 have h2:pM (dX s++rest) (s.size:Int) ((dX s++rest).length:Int)=some rest:=by
  unfold pM
  rw [if_pos ⟨by omega,by simp [hlen]; omega,Int.le_refl _⟩,←hlen]
  simp only [WX,List.drop_left]
  rw [Xx (by simp)]
 rw [h1,WQ,h2,WQ,xy]
structure rj (n:ae):Prop where
 kind:n.kind=0∧(0≤n.int∧n.int<2 ^ 63)∧n.label=Xk #[]∧n.args=[]∨n.kind=1∧(-(2 ^ 62)≤n.int∧n.int<2 ^ 62)∧n.label=Xk #[]∧n.args=[]∨n.kind=2∧n.int=0∧n.args=[]∨n.kind=3∧n.int=0
 label:2≤n.kind→n.label.size≠0∧n.label.size<2 ^ 40
 args:n.args.length≤8∧∀a∈n.args,0≤a∧a<2 ^ 63
def xS (x:Int):Nat:=if x<0 then ((-x)*2 - 1).toNat else (x*2).toNat
def dc (n:ae):List Int:=
 n.kind::(if n.kind=0 then dL n.int.toNat else if n.kind=1 then dL (xS n.int) else if n.kind=2 then ng n.label else ng n.label++dL n.args.length++(n.args.map fun a=>dL a.toNat).flatten)
theorem Ji {m:Nat}(hm:11≤m)(n0:ae)(ha:∀a∈n0.args,0≤a∧a<2 ^ 63)(hlen:n0.args.length≤8):∀(l:List Int) (f i:Nat) (w:List Int),l.length<f→n0.args.drop i=l→i≤8→w≠[]→w.length+20*l.length+20≤140737488355328→
  ∃x,ef.l0 m n0 f (i:Int) w=some (x,w++(l.map fun a=>dL a.toNat).flatten)
 | l,0,i,w,hf,_,_,_,_=>absurd hf (by omega)
 | [],f+1,i,w,hf,hd,hi,hw,hl=>by
  have:n0.args.length≤i:=by
   have:=congrArg List.length hd
   simp at this
   omega
  refine⟨i,?_⟩
  unfold ef.l0
  rw [if_neg (by simp; omega)]
  simp
 | a::l,f+1,i,w,hf,hd,hi,hw,hl=>by
  have Hs:i<n0.args.length:=by
   have:=congrArg List.length hd
   simp at this
   omega
  have hg:n0.args[i]? = some a:=by
   have:=congrArg (·[0]?) hd
   simpa using this
  have U6:a∈n0.args:=XT hg
  obtain⟨h1,h2⟩:=ha a U6
  obtain⟨b,rfl⟩:∃b:Nat,a=(b:Int):=⟨a.toNat,by omega⟩
  have U7:n0.args.drop (i+1)=l:=by
   rw [←List.tail_drop,hd]; rfl
  have e1:(dL b).length≤10:=dU (by omega)
  simp only [Xf] at hf hl
  obtain⟨x,ih⟩:=Ji hm n0 ha hlen l f (i+1) (w++dL b) (by omega) U7 (by omega) (by simp [hw]) (by simp; omega)
  refine⟨x,?_⟩
  unfold ef.l0
  have KI:ix n0.args (i:Int)=some (b:Int):=by unfold ix; rw [if_pos (by omega)]; exact hg
  rw [if_pos (by simp; omega),KI,WQ,ij h1 (by omega),zf hm (by omega) hw (by omega),WQ,aE (by omega) (by omega)]
  rw [show ((i:Int)+1)=((i+1:Nat):Int) by omega]
  rw [ih,Xe,List.flatten_cons,W7,WX]
end Go.Proofs.YtmekcfdllhphlaaDoor
namespace Go.Proofs.YtmekcfdllhphlaaDoor
open Go Go.R
open Go.IntKind (i64 u64 u8 u32)
theorem Ij {x:Int}(h:x<0)(h2 : -(2 ^ 62)≤x):u64.wrap (u64.wrap (u64.wrap (i64.wrap (0 - x))*2) - 1)=(xS x:Int):=by
 have:(2:Int) ^ 62=4611686018427387904:=by decide
 rw [aE (by omega) (by omega),ij (x:=0 - x) (by omega) (by omega),ij (x:=(0 - x)*2) (by omega) (by omega),ij (by omega) (by omega)]
 unfold xS
 rw [if_pos h]
 omega
theorem Ik {x:Int}(h:¬x<0)(h2:x<2 ^ 62):u64.wrap (u64.wrap x*2)=(xS x:Int):=by
 have:(2:Int) ^ 62=4611686018427387904:=by decide
 rw [ij (x:=x) (by omega) (by omega),ij (by omega) (by omega)]
 unfold xS
 rw [if_neg h]
 omega
theorem AY {x:Int}(h1 : -(2 ^ 62)≤x)(h2:x<2 ^ 62):xS x<2 ^ 63:=by
 have:(2:Int) ^ 62=4611686018427387904:=by decide
 have:(2:Nat) ^ 63=9223372036854775808:=by decide
 unfold xS
 split<;>omega
theorem NA {m:Nat}{w:List Int}{n:ae}(hm:11≤m)(W:rj n)(hl:w.length+n.label.size+1000≤140737488355328)(hw:w≠[]):ef.f m w n=some (w++dc n):=by
 have Hm:(2:Nat) ^ 63=9223372036854775808:=by decide
 have SZ:(2:Int) ^ 63=9223372036854775808:=by decide
 have QA:(2:Nat) ^ 64=18446744073709551616:=by decide
 have hk:0≤n.kind∧n.kind≤3:=by rcases W.kind with h | h | h | h<;>(have:=h.1; omega)
 unfold ef.f
 rw [mU,show n.kind % 256=n.kind by omega,mG hw (by simp) (by simp; omega),WQ]
 rcases W.kind with⟨h,hi,_,_⟩| ⟨h,hi,_,_⟩| ⟨h,hi,_⟩| ⟨h,hi⟩
 ·obtain⟨b,hb⟩:∃b:Nat,n.int=(b:Int):=⟨n.int.toNat,by omega⟩
  rw [show dc n=0::dL b by simp [dc,h,hb],h,if_pos (by decide),ij (by omega) (by omega),hb,zf hm (by omega) (by simp) (by simp; omega),WQ]
  simp
 ·have hz:=AY hi.1 hi.2
  rw [show dc n=1::dL (xS n.int) by simp [dc,h],h,if_neg (by decide),if_pos (by decide)]
  by_cases hn:n.int<0
  ·rw [if_pos (by simpa using hn),Ij hn hi.1,zf hm (by omega) (by simp) (by simp; omega),WQ]
   simp
  ·rw [if_neg (by simpa using hn),Ik hn hi.2,zf hm (by omega) (by simp) (by simp; omega),WQ]
   simp
 ·obtain⟨g1,g2⟩:=W.label (by omega)
  rw [show dc n=2::ng n.label by simp [dc,h],h,if_neg (by decide),if_neg (by decide),if_pos (by decide),Jg hm g1 (by simp) (by simp; omega),WQ]
  simp
 ·obtain⟨g1,g2⟩:=W.label (by omega)
  obtain⟨g3,g4⟩:=W.args
  have e1:(ng n.label).length≤10+n.label.size:=by
   unfold ng
   have:=dU (n:=n.label.size) (by omega)
   simp [iN]; omega
  have e2:(dL n.args.length).length≤10:=dU (by omega)
  rw [show dc n=3::(ng n.label++dL n.args.length++(n.args.map fun a=>dL a.toNat).flatten) by simp [dc,h],h,if_neg (by decide),if_neg (by decide),if_neg (by decide),if_pos (by decide),Jg hm g1 (by simp) (by simp; omega),WQ,
   ij (by omega) (by omega),zf hm (by omega) (by simp) (by simp; omega),WQ]
  obtain⟨x,hx⟩:=Ji hm n g4 g3 n.args m 0 (w++[3]++ng n.label++dL n.args.length) (by omega) rfl (by omega) (by simp) (by simp; omega)
  have hx:ef.l0 m n m (0:Int) (w++[3]++ng n.label++dL n.args.length)=_:=hx
  rw [hx,WQ]
  simp
theorem Jj {m:Nat}(hm:11≤m)(x5:Int × fB)(k0:Int)(lb:ByteArray)(rest:List Int)(hx:0≤x5.1∧x5.1≤8):∀(l:List Int) (f i:Nat) (acc:List Int),l.length<f→(i:Int)+l.length=x5.1→acc.length+l.length≤8→(∀a∈l,0≤a∧a<2 ^ 63)→
  ∃x,cZ.l1 m x5 f (i:Int) k0 0 lb acc ⟨(l.map fun a=>dL a.toNat).flatten++rest,false⟩=some (x,k0,0,lb,acc++l,⟨rest,false⟩)
 | l,0,i,acc,hf,_,_,_=>absurd hf (by omega)
 | [],f+1,i,acc,hf,hi,ha,hl=>by
  refine⟨i,?_⟩
  unfold cZ.l1
  simp only [XL] at hi
  rw [if_neg (by unfold mn; simp; split<;>omega)]
  simp
 | a::l,f+1,i,acc,hf,hi,ha,hl=>by
  simp only [Xf] at hf hi ha
  have SZ:(2:Int) ^ 63=9223372036854775808:=by decide
  have Hm:(2:Nat) ^ 63=9223372036854775808:=by decide
  obtain⟨h1,h2⟩:=hl a (by simp)
  obtain⟨b,rfl⟩:∃b:Nat,a=(b:Int):=⟨a.toNat,by omega⟩
  obtain⟨x,ih⟩:=Jj hm x5 k0 lb rest hx l f (i+1) (acc++[(b:Int)]) (by omega) (by omega) (by simp; omega) (fun c hc=>hl c (by simp [hc]))
  refine⟨x,?_⟩
  unfold cZ.l1
  rw [if_pos (by unfold mn; simp; split<;>omega),Xe,List.flatten_cons,W7,WX,AW hm (by omega),WQ]
  have lQ:app 8 acc [(b:Int)]=some (acc++[(b:Int)]):=by unfold app; rw [if_pos (by simp; omega)]
  dsimp only
  rw [lQ,WQ,aE (by omega) (by omega),show ((i:Int)+1)=((i+1:Nat):Int) by omega,ih]
  simp
end Go.Proofs.YtmekcfdllhphlaaDoor
namespace Go.Proofs.YtmekcfdllhphlaaDoor
open Go Go.R
open Go.IntKind (i64 u64 u8 u32)
theorem Gg {x:Int}(h:¬x<0)(h2:x<2 ^ 62):¬(Int.tmod (xS x:Int) 2==1)=true∧i64.wrap (Int.tdiv (xS x:Int) 2)=x:=by
 have hz:(xS x:Int)=x*2:=by unfold xS; rw [if_neg h]; omega
 rw [hz,Int.mul_tmod_left,Int.mul_tdiv_cancel _ (by decide),aE (by omega) (by omega)]
 exact⟨by decide,rfl⟩
theorem Il {x:Int}(h:x<0)(h2 : -(2 ^ 62)≤x):(Int.tmod (xS x:Int) 2==1)=true∧i64.wrap (0 - i64.wrap (i64.wrap (Int.tdiv (xS x:Int) 2)+1))=x:=by
 have hz:(xS x:Int)=((-x - 1).toNat*2+1:Nat):=by unfold xS; rw [if_pos h]; omega
 have h3:Int.tmod (((-x - 1).toNat*2+1:Nat):Int) 2=1:=by
  rw [Int.tmod_eq_emod_of_nonneg (by omega)]; omega
 have h4:Int.tdiv (((-x - 1).toNat*2+1:Nat):Int) 2 = -x - 1:=by
  rw [Int.tdiv_eq_ediv_of_nonneg (by omega)]; omega
 rw [hz,h3,h4,aE (x:=-x - 1) (by omega) (by omega),aE (x:=-x - 1+1) (by omega) (by omega),aE (by omega) (by omega)]
 exact⟨by decide,by omega⟩
theorem NB {m:Nat}{n:ae}{rest:List Int}(hm:11≤m)(W:rj n):cZ.f m ⟨dc n++rest,false⟩=some (n,⟨rest,false⟩):=by
 have Hm:(2:Nat) ^ 63=9223372036854775808:=by decide
 have SZ:(2:Int) ^ 63=9223372036854775808:=by decide
 obtain⟨kd,nt,lb,Im⟩:=n
 unfold cZ.f
 rcases W.kind with⟨h,hi,NC,ha⟩| ⟨h,hi,NC,ha⟩| ⟨h,hi,ha⟩| ⟨h,hi⟩
 ·simp only at h hi NC ha
  subst h NC ha
  obtain⟨b,rfl⟩:∃b:Nat,nt=(b:Int):=⟨nt.toNat,by omega⟩
  rw [show dc ⟨0,(b:Int),Xk #[],[]⟩=0::dL b by simp [dc],Xj,vK,WQ]
  dsimp only
  rw [aE (by omega) (by omega),if_pos (by decide),AW hm (by omega),WQ]
 ·simp only at h hi NC ha
  subst h NC ha
  rw [show dc ⟨1,nt,Xk #[],[]⟩=1::dL (xS nt) by simp [dc],Xj,vK,WQ]
  dsimp only
  rw [aE (x:=1) (by omega) (by omega),if_neg (by decide),if_pos (by decide),AW hm (AY hi.1 hi.2),WQ]
  by_cases hn:nt<0
  ·obtain⟨z1,z2⟩:=Il hn hi.1
   rw [if_pos z1,z2]
  ·obtain⟨z1,z2⟩:=Gg hn hi.2
   rw [if_neg z1,z2]
 ·simp only at h hi ha
  subst h hi ha
  obtain⟨g1,g2⟩:=W.label (by simp)
  simp only at g1 g2
  rw [show dc ⟨2,0,lb,[]⟩=2::ng lb by simp [dc],Xj,vK,WQ]
  dsimp only
  rw [aE (x:=2) (by omega) (by omega),if_neg (by decide),if_neg (by decide),if_pos (by decide),Jh hm (by omega),WQ]
 ·simp only at h hi
  subst h hi
  obtain⟨g1,g2⟩:=W.label (by simp)
  obtain⟨g3,g4⟩:=W.args
  simp only at g1 g2 g3 g4
  rw [show dc ⟨3,0,lb,Im⟩=3::(ng lb++dL Im.length++(Im.map fun a=>dL a.toNat).flatten) by simp [dc],Xj,vK,WQ]
  dsimp only
  rw [aE (x:=3) (by omega) (by omega),if_neg (by decide),if_neg (by decide),if_neg (by decide),if_pos (by decide)]
  rw [W7,W7,Jh hm (by omega),WQ]
  dsimp only
  rw [AW hm (by omega),WQ,if_neg (by simp; omega)]
  obtain⟨x,hx⟩:=Jj hm ((Im.length:Int),(⟨(Im.map fun a=>dL a.toNat).flatten++rest,false⟩:fB)) 3 lb rest (by simp; omega) Im m 0 [] (by omega) (by simp) (by simp; omega) g4
  have hx:cZ.l1 m ((Im.length:Int),(⟨(Im.map fun a=>dL a.toNat).flatten++rest,false⟩:fB)) m (0:Int) 3 0 lb [] ⟨(Im.map fun a=>dL a.toNat).flatten++rest,false⟩=_:=hx
  rw [hx,WQ]
  simp
end Go.Proofs.YtmekcfdllhphlaaDoor
namespace Go.Proofs.YtmekcfdllhphlaaDoor
open Go Go.R
open Go.IntKind (i64 u64 u8 u32)
def vM:cd:=gh [0,2,3,5,6,7,8,9,16,17] [] [1022,1018,907,779,899,907,651,139,651,651,907,1021] [] []
def bw.l1 (m:Nat)  : Nat→Int→Int→Option (Int × Int)
 | 0,_,_=>none
 | k+1,qw,x1=>if (decide (x1<(8:Int)))=true then (bw.l1 m k (lk .u32 (gk .u32 qw 1) (ic .u32 (3988292384:Int) (u32.wrap (0 - (ic .u32 qw (1:Int)))))) (i64.wrap (x1+(1:Int)))) else (some ((qw,x1)))
def bw.l0 (m:Nat)(b0:List Int):Nat→Int→Int→Option (Int × Int)
 | 0,_,_=>none
 | k+1,ub,x0=>if (decide (x0<(b0.length:Int)))=true then ((ix b0 x0).bind fun v0=>(bw.l1 m m (lk .u32 ub (u32.wrap v0)) (0:Int)).bind fun bo=>match bo with | (KP,x2)=>bw.l0 m b0 k KP (i64.wrap (x0+(1:Int)))) else (some ((ub,x0)))
def bw.f (m:Nat)(b0:List Int):Option (Int):=(bw.l0 m b0 m (4294967295:Int) (0:Int)).bind fun cD=>match cD with | (KQ,x3)=>some (i64.wrap (I5 .u32 KQ))
def bw.fin (L:Mem)(r:Int)(s:St):Prop:=∃av,aI Tryd.prog (s.open vM) Tryd.f21.results.toList=some av∧fA s.h av (.int .i64 r)
def S3 (cf:CallF)(m:Nat):Prop:=∀(b0:List Int) (r:Int),bw.f m b0=some r→∀h xs,eA eQ h xs [ao.fz b0]→cf 21 xs h=some (.int .i64 r,h)
section
variable {cf:CallF}{m:Nat}
theorem bw.fW (L:Mem)(b0:List Int)(x0:Int)   : bI Tryd.prog cf vM m (sub [1,1,0,1,0,0,1,1,0,0,1,1,1,0,0] (codeOf Tryd.f21)) (fun k (σ:Int × Int)=>bw.l1 m k σ.1 σ.2) (fun σ s=>match σ with | (qw,x1)=>∃h1,s=⟨[.any,.any,.int .u32 qw,.any,ao.fz b0,.int .i64 (b0.length:Int),.int .i64 x0,.any,.int .i64 x1,.any],[],h1⟩∧Has h1 (L)) (fun out e s=>(e = .exit 2∧∃qw x1,(qw,x1)=out∧∃AZ xc h1,s=⟨[.any,.any,.int .u32 qw,.any,ao.fz b0,.int .i64 (b0.length:Int),.int .i64 x0,.any,AZ,xc],[],h1⟩∧Has h1 (L))):=by
 refine hX (fun _=>rfl) ?_
 rintro k ⟨qw,x1⟩ s out ⟨h1,rfl,o1⟩ H
 have H:bw.l1 m (k+1) qw x1=some out:=H
 refine q1 <| qq <| qc H (fun c1 H=>?_) (fun c1 H=>?_)
 ·exact qk <| qq <| qb 3 <| q0 <| q0 <| ⟨(lk .u32 (gk .u32 qw 1) (ic .u32 (3988292384:Int) (u32.wrap (0 - (ic .u32 qw (1:Int))))),i64.wrap (x1+(1:Int))),⟨h1,by kernel_rfl,o1⟩,H⟩
 ·exact qx 2 <| ⟨rfl,qw,x1,oi H,.int .i64 x1,.bool (decide (x1<(8:Int))),h1,by kernel_rfl,o1⟩
theorem bw.bG (L:Mem)(b0:List Int)   : bI Tryd.prog cf vM m (sub [1,1,0,1,0,0] (codeOf Tryd.f21)) (fun k (σ:Int × Int)=>bw.l0 m b0 k σ.1 σ.2) (fun σ s=>match σ with | (ub,x0)=>∃h0,s=⟨.any :: .any :: .int .u32 ub :: .any::ao.fz b0 :: .int .i64 (b0.length:Int) :: .int .i64 x0::kz [],[],h0⟩∧Has h0 (L)) (fun out e s=>(e = .exit 0∧∃ub x0,(ub,x0)=out∧∃DF w7 rG tI h0,s=⟨[.any,.any,.int .u32 ub,.any,DF,w7,rG,tI,.any,.any],[],h0⟩∧Has h0 (L))):=by
 refine hX (fun _=>rfl) ?_
 rintro k ⟨ub,x0⟩ s out ⟨h0,rfl,o0⟩ H
 have H:bw.l0 m b0 (k+1) ub x0=some out:=H
 refine q1 <| qq <| qc H (fun c0 H=>?_) (fun c0 H=>?_)
 ·refine qk <| qq <| qb 1 <| qq ?_
  obtain⟨v0,e0,H⟩:=aJ H
  refine qr [.v 0 (bD (k:=.i64) (E:=ao) (l:=b0) H6 e0),.v 1 (dd  (E:=ao) (l:=b0) h0 A5 e0 rfl)] <| qq <| q0 <| qq <| q0 <| qb 2 ?_
  obtain⟨bo,e1,H⟩:=aJ H
  refine ql (bw.fW L b0 x0   (lk .u32 ub (u32.wrap v0),(0:Int)) _ _ ⟨h0,by kernel_rfl,o0⟩ e1) ?_
  rintro e s ⟨rfl,KP,x2,rfl,g0,g1,h2,rfl,o2⟩
  try dsimp only at H
  exact q0 <| ⟨(KP,i64.wrap (x0+(1:Int))),⟨h2,by kernel_rfl,o2⟩,H⟩
 ·exact qx 0 <| ⟨rfl,ub,x0,oi H,ao.fz b0,.int .i64 (b0.length:Int),.int .i64 x0,.bool (decide (x0<(b0.length:Int))),h0,by kernel_rfl,o0⟩
theorem rO {aS:FuncId→cd}(ha:aS 21=vM)  (b0:List Int)(h:AHeap)(L:Mem)  (o:Has h (L)){out:Int}(H:bw.f m b0=some out) :
  ∃r h',aZ Tryd.prog aS cf m 21 [ao.fz b0] h=some (r,h')∧fA h' r (.int .i64 out):=by
 refine aj (fn:=Tryd.f21) ha Tryd.func21 (by kernel_rfl) (by kernel_rfl) ?_
 refine aD (Q:=fun s=>bw.fin L out s) (fun _ _ h=>h) ?_
 have H:_=some out:=H
 unfold bw.f at H
 show de _ cf vM m _ ⟨ao.fz b0::Dn [],[],h⟩ _
 refine q1 <| qq <| q0 <| qq <| qq <| q0 <| qb 0 ?_
 obtain⟨cD,e2,H⟩:=aJ H
 refine ql (bw.bG L b0   ((4294967295:Int),(0:Int)) _ _ ⟨h,by kernel_rfl,o⟩ e2) ?_
 rintro e s ⟨rfl,KQ,x3,rfl,g2,g3,g4,g5,h3,rfl,o3⟩
 try dsimp only at H
 obtain rfl:=oi H
 exact q1 <| qt <| ⟨.inl rfl,ca (.int .i64 (i64.wrap (I5 .u32 KQ))) h3 (b8 (dS))⟩
end
end Go.Proofs.YtmekcfdllhphlaaDoor
namespace Go.Proofs.YtmekcfdllhphlaaDoor
open Go Go.R
open Go.IntKind (i64 u64 u8 u32)
def Cj:cd:=gh [0,2,3] [17] [6,3,5] [] [(0,[(2,none,1)])]
def cH.f (m:Nat)(b0:List Int):Option ((List Int)):=(bw.f m b0).bind fun x0=>some ([u8.wrap x0,u8.wrap (gk .i64 x0 8),u8.wrap (gk .i64 x0 16),u8.wrap (gk .i64 x0 24)])
def cH.fin (L:Mem)(r:(List Int))(s:St):Prop:=∃av,aI Tryd.prog (s.open Cj) Tryd.f42.results.toList=some av∧fA s.h av (ao.fz r)
def QB (cf:CallF)(m:Nat):Prop:=∀(b0:List Int) (r:(List Int)),cH.f m b0=some r→∀h xs,eA eQ h xs [ao.fz b0]→cf 42 xs h=some (ao.fz r,h)
section
variable {cf:CallF}{m:Nat}
theorem px {aS:FuncId→cd}(ha:aS 42=Cj)(QC:S3 cf m)(b0:List Int)(h:AHeap)(L:Mem)  (o:Has h (L)){out:(List Int)}(H:cH.f m b0=some out) :
  ∃r h',aZ Tryd.prog aS cf m 42 [ao.fz b0] h=some (r,h')∧fA h' r (ao.fz out):=by
 refine aj (fn:=Tryd.f42) ha Tryd.func42 (by kernel_rfl) (by kernel_rfl) ?_
 refine aD (Q:=fun s=>cH.fin L out s) (fun _ _ h=>h) ?_
 have H:_=some out:=H
 unfold cH.f at H
 show de _ cf Cj m _ ⟨[ao.fz b0,.any,.any],[none],h⟩ _
 refine q1 <| qq ?_
 obtain⟨x0,e0,H⟩:=aJ H
 refine qr [.a 1 (QC _ _ e0 h _ (gf (ab (b4 (E:=ao)) (ax))))] <| qq ?_
 obtain⟨aA,h0,e1,o0⟩:=BI (E:=ao) (l:=[u8.wrap x0,u8.wrap (gk .i64 x0 8),u8.wrap (gk .i64 x0 16),u8.wrap (gk .i64 x0 24)]) (cs:=[.int .u8 (u8.wrap x0),.int .u8 (u8.wrap (gk .i64 x0 8)),.int .u8 (u8.wrap (gk .i64 x0 16)),.int .u8 (u8.wrap (gk .i64 x0 24))]) o (by kernel_rfl)
 obtain rfl:=oi H
 exact qr [.a 11 e1] <| qt <| ⟨.inl rfl,ca (.rs aA 0 (([u8.wrap x0,u8.wrap (gk .i64 x0 8),u8.wrap (gk .i64 x0 16),u8.wrap (gk .i64 x0 24)]:List Int).length) 1) h0 (b8 (yG (E:=ao) (l:=([u8.wrap x0,u8.wrap (gk .i64 x0 8),u8.wrap (gk .i64 x0 16),u8.wrap (gk .i64 x0 24)])) (q:=0) o0 rfl (fun _=>rfl)))⟩
end
end Go.Proofs.YtmekcfdllhphlaaDoor
namespace Go.Proofs.YtmekcfdllhphlaaDoor
open Go Go.R
open Go.IntKind (i64 u64 u8 u32)
def vN:cd:=gh [0,2,3,5,7,8,24,25,26,27,37,38,39,40] [5,7] [16382,16378,16378,16378,16378,15931,15419,15923,15923,8763,571,8747,8763,8763,15931,16351,16381] [] []
def aT.l1 (m:Nat)(v0:au):Nat→Int→(List Int)→Option (Int × (List Int))
 | 0,_,_=>none
 | k+1,x3,rP=>if (decide (x3<(v0.nodes.length:Int)))=true then ((ix v0.nodes x3).bind fun v1=>(ef.f m rP v1).bind fun x4=>aT.l1 m v0 k (i64.wrap (x3+(1:Int))) x4) else (some ((x3,rP)))
def aT.l0 (m:Nat)(a8:List au):Nat→Int→(List Int)→Option (Int × (List Int))
 | 0,_,_=>none
 | k+1,x1,rQ=>if (decide (x1<(a8.length:Int)))=true then ((ix a8 x1).bind fun v0=>(bW.f m rQ (u64.wrap (v0.nodes.length:Int))).bind fun x2=>(aT.l1 m v0 m (0:Int) x2).bind fun bo=>match bo with | (x5,KR)=>aT.l0 m a8 k (i64.wrap (x1+(1:Int))) KR) else (some ((x1,rQ)))
def aT.f (m:Nat)(a8:List au):Option ((List Int)):=(wB ([]) ([(76:Int)])).bind fun xR=>(E7 xR ([(1:Int)])).bind fun Nw=>(bW.f m Nw (u64.wrap (a8.length:Int))).bind fun x0=>(aT.l0 m a8 m (0:Int) x0).bind fun cD=>match cD with | (x6,xz)=>(tk xz).bind fun u0=>(cH.f m xz).bind fun x7=>(app 1 xz x7).bind fun x8=>some x8
def aT.fin (L:Mem)(r:(List Int))(s:St):Prop:=∃av,aI Tryd.prog (s.open vN) Tryd.f36.results.toList=some av∧fA s.h av (ao.fz r)
def S4 (cf:CallF)(m:Nat):Prop:=∀(a8:List au) (r:(List Int)),aT.f m a8=some r→∀h xs,eA eQ h xs [bl.fz a8]→cf 36 xs h=some (ao.fz r,h)
section
variable {cf:CallF}{m:Nat}
theorem aT.fW (L:Mem)(a8:List au)(aA:Nat)(x1:Int)(v0:au)  (Gh:Ow cf m):bI Tryd.prog cf vN m (sub [1,1,1,1,1,0,1,0,0,1,1,0,0,1,1,1,0,0] (codeOf Tryd.f36)) (fun k (σ:Int × (List Int))=>aT.l1 m v0 k σ.1 σ.2) (fun σ s=>match σ with | (x3,rP)=>∃gX h6,s=⟨.any :: .any :: .ptr aA 0::kz [bl.fz a8,.int .i64 (a8.length:Int),.int .i64 x1,.any,af.fz v0.nodes,.int .i64 (v0.nodes.length:Int),.int .i64 x3,.any],[none,none],h6⟩∧Has h6 ((aA,.ob [.rs gX 0 rP.length 1,.int .i64 (0:Int),.int .i8 (0:Int)])::(gX,.row 5 (ao.l rP))::L)) (fun out e s=>(e = .exit 2∧∃x3 rP,(x3,rP)=out∧∃FO FP FQ FR gX h6,s=⟨.any :: .any :: .ptr aA 0::kz [bl.fz a8,.int .i64 (a8.length:Int),.int .i64 x1,.any,FO,FP,FQ,FR],[none,none],h6⟩∧Has h6 ((aA,.ob [.rs gX 0 rP.length 1,.int .i64 (0:Int),.int .i8 (0:Int)])::(gX,.row 5 (ao.l rP))::L))):=by
 refine hX (fun _=>rfl) ?_
 rintro k ⟨x3,rP⟩ s out ⟨gX,h6,rfl,o6⟩ H
 have H:aT.l1 m v0 (k+1) x3 rP=some out:=H
 refine q1 <| qq <| qc H (fun c1 H=>?_) (fun c1 H=>?_)
 ·refine qk <| qq <| qb 3 <| qq ?_
  obtain⟨v1,pe,H⟩:=aJ H
  refine qr [.v 0 (bD (k:=.i64) (E:=af) (l:=v0.nodes) lG pe),.v 1 (dE  (E:=af) (l:=v0.nodes) h6 sf sh pe)] ?_
  obtain⟨x4,sj,H⟩:=aJ H
  obtain⟨iB,h7,uA,o7⟩:=Gh _ _ _ sj h6 _ _ _ (o6)  [.ptr aA 0,.agg [.int .i64 v1.kind,.int .i64 v1.int,.str v1.label,aa.fz v1.args]] (an (rfl) (an (aO (nT (cG (bC) (cG (bC) (cG (wT) (cG (iK (E:=aa)) (gA))))))) (bg)))
  exact qr [.a 2 uA] <| q0 <| ⟨(i64.wrap (x3+(1:Int)),x4),⟨iB,h7,by kernel_rfl,o7⟩,H⟩
 ·exact qx 2 <| ⟨rfl,x3,rP,oi H,af.fz v0.nodes,.int .i64 (v0.nodes.length:Int),.int .i64 x3,.bool (decide (x3<(v0.nodes.length:Int))),gX,h6,by kernel_rfl,o6⟩
theorem aT.bG (L:Mem)(a8:List au)(aA:Nat)  (pw:LJ cf m)(Gh:Ow cf m):bI Tryd.prog cf vN m (sub [1,1,1,1,1,0,1,0,0] (codeOf Tryd.f36)) (fun k (σ:Int × (List Int))=>aT.l0 m a8 k σ.1 σ.2) (fun σ s=>match σ with | (x1,rQ)=>∃gZ h4,s=⟨.any :: .any :: .ptr aA 0::kz (bl.fz a8 :: .int .i64 (a8.length:Int) :: .int .i64 x1::tl []),[none,none],h4⟩∧Has h4 ((aA,.ob [.rs gZ 0 rQ.length 1,.int .i64 (0:Int),.int .i8 (0:Int)])::(gZ,.row 5 (ao.l rQ))::L)) (fun out e s=>(e = .exit 0∧∃x1 rQ,(x1,rQ)=out∧∃KE QD QE Gi gZ h4,s=⟨.any :: .any :: .ptr aA 0::kz (KE::QD::QE::Gi::oq []),[none,none],h4⟩∧Has h4 ((aA,.ob [.rs gZ 0 rQ.length 1,.int .i64 (0:Int),.int .i8 (0:Int)])::(gZ,.row 5 (ao.l rQ))::L))):=by
 refine hX (fun _=>rfl) ?_
 rintro k ⟨x1,rQ⟩ s out ⟨gZ,h4,rfl,o4⟩ H
 have H:aT.l0 m a8 (k+1) x1 rQ=some out:=H
 refine q1 <| qq <| qc H (fun c0 H=>?_) (fun c0 H=>?_)
 ·refine qk <| qq <| qb 1 <| qq ?_
  obtain⟨v0,e7,H⟩:=aJ H
  refine qr [.v 0 (bD (k:=.i64) (E:=bl) (l:=a8) Fj e7),.v 1 (dE  (E:=bl) (l:=a8) h4 Ol Om e7)] <| qq ?_
  obtain⟨x2,e8,H⟩:=aJ H
  obtain⟨gW,h5,e9,o5⟩:=pw _ _ _ e8 h4 _ _ _ (o4)  [.ptr aA 0,.int .u64 (u64.wrap (v0.nodes.length:Int))] (an (rfl) (an (aO (bC)) (bg)))
  refine qr [.a 5 e9] <| qq <| q0 <| qb 2 ?_
  obtain⟨bo,uB,H⟩:=aJ H
  refine ql (aT.fW L a8 aA x1 v0  Gh ((0:Int),x2) _ _ ⟨gW,h5,by kernel_rfl,o5⟩ uB) ?_
  rintro e s ⟨rfl,x5,KR,rfl,g0,g1,g2,g3,kT,h8,rfl,o8⟩
  try dsimp only at H
  exact q0 <| ⟨(i64.wrap (x1+(1:Int)),KR),⟨kT,h8,by kernel_rfl,o8⟩,H⟩
 ·exact qx 0 <| ⟨rfl,x1,rQ,oi H,bl.fz a8,.int .i64 (a8.length:Int),.int .i64 x1,.bool (decide (x1<(a8.length:Int))),gZ,h4,by kernel_rfl,o4⟩
theorem py {aS:FuncId→cd}(ha:aS 36=vN)(KS:QB cf m)(xo:MP cf m)(pw:LJ cf m)(Gh:Ow cf m)(QF:Sx cf m)(a8:List au)(h:AHeap)(L:Mem)  (o:Has h (L)){out:(List Int)}(H:aT.f m a8=some out) :
  ∃r h',aZ Tryd.prog aS cf m 36 [bl.fz a8] h=some (r,h')∧fA h' r (ao.fz out):=by
 refine aj (fn:=Tryd.f36) ha Tryd.func36 (by kernel_rfl) (by kernel_rfl) ?_
 refine aD (Q:=fun s=>aT.fin L out s) (fun _ _ h=>h) ?_
 have H:_=some out:=H
 unfold aT.f at H
 show de _ cf vN m _ ⟨bl.fz a8::nV [],[none,none],h⟩ _
 refine q1 <| qq ?_
 obtain⟨aA,h0,e0,o0⟩:=ku (cs:=[.nils,.int .i64 (0:Int),.int .i8 (0:Int)]) o (by kernel_rfl)
 refine qr [.a 1 e0] <| qq ?_
 obtain⟨xR,e1,H⟩:=aJ H
 obtain⟨gH,h1,e2,o1⟩:=Kh xo o0 e1
 refine qr [.a 3 e2] <| qq ?_
 obtain⟨Nw,e3,H⟩:=aJ H
 obtain⟨di,h2,e4,o2⟩:=sd (bs:=xR) xo o1 e3
 refine qr [.a 3 e4] <| qq ?_
 obtain⟨x0,e5,H⟩:=aJ H
 obtain⟨fy,h3,e6,o3⟩:=pw _ _ _ e5 h2 _ _ _ (o2)  [.ptr aA 0,.int .u64 (u64.wrap (a8.length:Int))] (an (rfl) (an (aO (bC)) (bg)))
 refine qr [.a 4 e6] <| qq <| qq <| q0 <| qb 0 ?_
 obtain⟨cD,uS,H⟩:=aJ H
 refine ql (aT.bG L a8 aA  pw Gh ((0:Int),x0) _ _ ⟨fy,h3,by kernel_rfl,o3⟩ uS) ?_
 rintro e s ⟨rfl,x6,xz,rfl,g4,g5,g6,g7,xQ,h9,rfl,o9⟩
 try dsimp only at H
 refine qq ?_
 obtain⟨u0,uC,H⟩:=aJ H
 obtain⟨h10,xP,uQ⟩:=HZ (bs:=xz) QF o9 uC
 refine qr [.a 3 xP] ?_
 have vE:Has h10 ((xQ,.sl xz.length 1 (ao.l xz))::L):=Has.del uQ 0
 refine qq ?_
 obtain⟨x7,xd,H⟩:=aJ H
 obtain⟨x8,B1,H⟩:=aJ H
 obtain⟨eT,h11,xe,tK⟩:=fY (P:=Tryd.prog) (E:=ao) (l:=xz) (q:=0) (t2:=25) (x:=ao.fz x7) (l2:=x7) H6 vE rfl (ES (E:=ao) (l2:=x7) _) rfl B1
 obtain rfl:=oi H
 exact qr [.a 2 (KS _ _ xd h10 _ (gf (ab (s8 (E:=ao) (l:=xz) (q:=0) vE rfl (fun _=>rfl)) (ax)))),.a 3 xe] <| qt <| ⟨.inl rfl,ca (.rs eT 0 x8.length 1) h11 (b8 (yG (E:=ao) (l:=x8) (q:=0) tK rfl (fun _=>rfl)))⟩
end
end Go.Proofs.YtmekcfdllhphlaaDoor
namespace Go.Proofs.YtmekcfdllhphlaaDoor
open Go Go.R
open Go.IntKind (i64 u64 u8 u32)
def Ck:cd:=gh [0,1,2,3,6] [1,2] [25,9,19,19] [] []
def eG.f (m:Nat)(t0:au):Option (au × Int):=(ff.f m t0).bind fun x0=>if (!x0)=true then (some ((au.mk ([]) (0:Int)),(2:Int))) else ((ck.f m t0).bind fun x1=>some (x1,(0:Int)))
def eG.fin (L:Mem)(r:au × Int)(s:St):Prop:=∃av,aI Tryd.prog (s.open Ck) Tryd.f31.results.toList=some av∧yD s.h av (.tup [.agg [af.fz r.1.nodes,.int .i64 r.1.root],.int .i64 r.2])
def QG (cf:CallF)(m:Nat):Prop:=∀(t0:au) (r:au × Int),eG.f m t0=some r→∀h xs,ml xs [.agg [af.fz t0.nodes,.int .i64 t0.root]]→cf 31 xs h=some (.tup [.agg [af.fz r.1.nodes,.int .i64 r.1.root],.int .i64 r.2],h)
section
variable {cf:CallF}{m:Nat}
theorem rR {aS:FuncId→cd}(ha:aS 31=Ck)(Gj:P8 cf m)(Io:Qo cf m)(t0:au)(h:AHeap)(L:Mem)  (o:Has h (L)){out:au × Int}(H:eG.f m t0=some out) :
  ∃r h',aZ Tryd.prog aS cf m 31 [.agg [af.fz t0.nodes,.int .i64 t0.root]] h=some (r,h')∧yD h' r (.tup [.agg [af.fz out.1.nodes,.int .i64 out.1.root],.int .i64 out.2]):=by
 refine aj (fn:=Tryd.f31) ha Tryd.func31 (by kernel_rfl) (by kernel_rfl) ?_
 refine aD (Q:=fun s=>eG.fin L out s) (fun _ _ h=>h) ?_
 have H:_=some out:=H
 unfold eG.f at H
 show de _ cf Ck m _ ⟨.agg [af.fz t0.nodes,.int .i64 t0.root]::oq [],[none,none],h⟩ _
 refine q1 <| qq <| qq ?_
 obtain⟨x0,e0,H⟩:=aJ H
 refine qr [.a 1 (Gj _ _ e0 h _ (gf (ab (cg (ab (b4 (E:=af)) (ab (aH) (ax)))) (ax))))] <| qc H (fun c0 H=>?_) (fun c0 H=>?_)
 ·obtain rfl:=oi H
  exact q1 <| qt <| ⟨.inl rfl,wY (.tup [.agg [.nils,.int .i64 (0:Int)],.int .i64 (2:Int)]) h (pU (gz (ab (cg (ab (gQ) (ab (aH) (ax)))) (ab (aH) (ax)))))⟩
 ·refine qk <| qq ?_
  obtain⟨x1,e1,H⟩:=aJ H
  obtain rfl:=oi H
  exact qr [.a 1 (Io _ _ e1 h _ (cG (nT (cG (iK (E:=af)) (cG (bC) (gA)))) (gA)))] <| qt <| ⟨.inl rfl,wY (.tup [.agg [af.fz x1.nodes,.int .i64 x1.root],.int .i64 (0:Int)]) h (pU (gz (ab (cg (ab (b4) (ab (aH) (ax)))) (ab (aH) (ax)))))⟩
end
end Go.Proofs.YtmekcfdllhphlaaDoor
namespace Go.Proofs.YtmekcfdllhphlaaDoor
open Go Go.R
open Go.IntKind (i64 u64 u8 u32)
def Cl:cd:=gh [0,1,2] [1] [5,3] [] []
def fP.f (m:Nat)(n0:ae):Option (Bool):=some (n0.kind==(4:Int))
def fP.fin (L:Mem)(r:Bool)(s:St):Prop:=∃av,aI Tryd.prog (s.open Cl) Tryd.f35.results.toList=some av∧fA s.h av (.bool r)
def S5 (cf:CallF)(m:Nat):Prop:=∀(n0:ae) (r:Bool),fP.f m n0=some r→∀h xs,eA eQ h xs [.agg [.int .i64 n0.kind,.int .i64 n0.int,.str n0.label,aa.fz n0.args]]→cf 35 xs h=some (.bool r,h)
section
variable {cf:CallF}{m:Nat}
theorem pz {aS:FuncId→cd}(ha:aS 35=Cl)  (n0:ae)(h:AHeap)(L:Mem)  (o:Has h (L)){out:Bool}(H:fP.f m n0=some out) :
  ∃r h',aZ Tryd.prog aS cf m 35 [.agg [.int .i64 n0.kind,.int .i64 n0.int,.str n0.label,aa.fz n0.args]] h=some (r,h')∧fA h' r (.bool out):=by
 refine aj (fn:=Tryd.f35) ha Tryd.func35 (by kernel_rfl) (by kernel_rfl) ?_
 refine aD (Q:=fun s=>fP.fin L out s) (fun _ _ h=>h) ?_
 have H:_=some out:=H
 unfold fP.f at H
 show de _ cf Cl m _ ⟨[.agg [.int .i64 n0.kind,.int .i64 n0.int,.str n0.label,aa.fz n0.args],.any,.any],[none],h⟩ _
 obtain rfl:=oi H
 exact q1 <| qq <| q0 <| qt <| ⟨.inl rfl,ca (.bool (n0.kind==(4:Int))) h (b8 (ak))⟩
end
end Go.Proofs.YtmekcfdllhphlaaDoor
namespace Go.Proofs.YtmekcfdllhphlaaDoor
open Go Go.R
open Go.IntKind (i64 u64 u8 u32)
def Cn:cd:=gh [0,1,2] [1] [5,3] [] []
def eX.f (m:Nat)(t0:au):Option (Bool):=(fL.f m t0.nodes (fun y0=>fP.f m y0)).bind fun x0=>some x0
def eX.fin (L:Mem)(r:Bool)(s:St):Prop:=∃av,aI Tryd.prog (s.open Cn) Tryd.f33.results.toList=some av∧fA s.h av (.bool r)
def S8 (cf:CallF)(m:Nat):Prop:=∀(t0:au) (r:Bool),eX.f m t0=some r→∀h xs,eA eQ h xs [.agg [af.fz t0.nodes,.int .i64 t0.root]]→cf 33 xs h=some (.bool r,h)
section
variable {cf:CallF}{m:Nat}
theorem pA {aS:FuncId→cd}(ha:aS 33=Cn)(KB:PR cf m)(QH:S5 cf m)(t0:au)(h:AHeap)(L:Mem)  (o:Has h (L)){out:Bool}(H:eX.f m t0=some out) :
  ∃r h',aZ Tryd.prog aS cf m 33 [.agg [af.fz t0.nodes,.int .i64 t0.root]] h=some (r,h')∧fA h' r (.bool out):=by
 refine aj (fn:=Tryd.f33) ha Tryd.func33 (by kernel_rfl) (by kernel_rfl) ?_
 refine aD (Q:=fun s=>eX.fin L out s) (fun _ _ h=>h) ?_
 have H:_=some out:=H
 unfold eX.f at H
 show de _ cf Cn m _ ⟨[.agg [af.fz t0.nodes,.int .i64 t0.root],.any,.any],[none],h⟩ _
 refine q1 <| qq ?_
 obtain⟨x0,e0,H⟩:=aJ H
 obtain rfl:=oi H
 exact qr [.a 2 (KB _ _ _ e0 h (Has.pos o) 35 [] rfl (fun y0 r hr=>QH y0 r hr h _ (gf (ab (cg (ab (aH) (ab (aH) (ab (bJ) (ab (b4 (E:=aa)) (ax)))))) (ax)))) _ (an (aO (iK (E:=af))) (an ((rfl:ay (.fn 35 [])=_)) (bg))))] <| qt <| ⟨.inl rfl,ca (.bool x0) h (b8 (ak))⟩
end
end Go.Proofs.YtmekcfdllhphlaaDoor
namespace Go.Proofs.YtmekcfdllhphlaaDoor
open Go Go.R
open Go.IntKind (i64 u64 u8 u32)
def zi:cd:=gh [0,2,3,4,6,7,8,9,12,13,14,15,16,25,32,37] [6,7] [65534,65278,65529,65526,61943,57847,61927,61847,53719,65529,61943,61943,49143,65529,65407,32639,65529,65529] [(12,[(4,none,0)])] [(3,[(4,none,2)])]
def b6.l0 (m:Nat)(a8:List au):Nat→(List au)→Int→Option (Sum ((List Int) × Int) ((List au) × Int))
 | 0,_,_=>none
 | k+1,ik,x0=>if (decide (x0<(a8.length:Int)))=true then ((ix a8 x0).bind fun v0=>(eG.f m v0).bind fun x1=>if (!(x1.2==(0:Int)))=true then (some (.inl ([],(2:Int)))) else ((app 32 ik ([x1.1])).bind fun x2=>b6.l0 m a8 k x2 (i64.wrap (x0+(1:Int))))) else (some (.inr (ik,x0)))
def b6.f (m:Nat)(a8:List au):Option ((List Int) × Int):=if (decide ((a8.length:Int) > (8:Int)))=true then (some ([],(3:Int))) else ((b6.l0 m a8 m ([]:List au) (0:Int)).bind fun bo=>match bo with | .inl r0=>some r0 | .inr (xA,x3)=>(gF.f m xA (fun y0=>eX.f m y0)).bind fun x4=>if x4=true then (some ([],(4:Int))) else ((aT.f m xA).bind fun x5=>if (decide ((x5.length:Int) > (200000:Int)))=true then (some ([],(3:Int))) else (some (x5,(0:Int)))))
def b6.fin (L:Mem)(r:(List Int) × Int)(s:St):Prop:=∃av,aI Tryd.prog (s.open zi) Tryd.f14.results.toList=some av∧yD s.h av (.tup [ao.fz r.1,.int .i64 r.2])
def QI (cf:CallF)(m:Nat):Prop:=∀(a8:List au) (r:(List Int) × Int),b6.f m a8=some r→∀h xs,ml xs [bl.fz a8]→cf 14 xs h=some (.tup [ao.fz r.1,.int .i64 r.2],h)
section
variable {cf:CallF}{m:Nat}
theorem b6.bG (L:Mem)(a8:List au)  (KT:QG cf m):bI Tryd.prog cf zi m (sub [1,1,1,0,1,0,0] (codeOf Tryd.f14)) (fun k (σ:(List au) × Int)=>b6.l0 m a8 k σ.1 σ.2) (fun σ s=>match σ with | (ik,x0)=>∃aA h0,s=⟨kz (.rs aA 0 ik.length 2::tl (bl.fz a8 :: .int .i64 (a8.length:Int) :: .int .i64 x0::oq [])),[none,none],h0⟩∧Has h0 ((aA,.sl ik.length 2 (bl.l ik))::L)) (fun out e s=>(e = .exit 0∧∃ik x0,.inr (ik,x0)=out∧∃mu tL qu AZ aA h0,s=⟨kz (.rs aA 0 ik.length 2::tl (mu::tL::qu::AZ::kz [])),[none,none],h0⟩∧Has h0 ((aA,.sl ik.length 2 (bl.l ik))::L))∨(e = .ret∧∃r,.inl r=out∧b6.fin L r s)):=by
 refine hX (fun _=>rfl) ?_
 rintro k ⟨ik,x0⟩ s out ⟨aA,h0,rfl,o1⟩ H
 have H:b6.l0 m a8 (k+1) ik x0=some out:=H
 refine q1 <| qq <| qc H (fun c1 H=>?_) (fun c1 H=>?_)
 ·refine qk <| qq <| qb 1 <| qq ?_
  obtain⟨v0,e0,H⟩:=aJ H
  refine qr [.v 0 (bD (k:=.i64) (E:=bl) (l:=a8) Fj e0),.v 1 (dE  (E:=bl) (l:=a8) h0 Ol Om e0)] <| qq ?_
  obtain⟨x1,e1,H⟩:=aJ H
  refine qr [.a 1 (KT _ _ e1 h0 _ (cG (nT (cG (iK (E:=af)) (cG (bC) (gA)))) (gA)))] <| qq <| qq <| q0 <| qc H (fun c2 H=>?_) (fun c2 H=>?_)
  ·refine q1 ?_
   have o2:Has h0 (L):=Has.del o1 0
   exact qt <| XZ (⟨rfl,_,oi H,wY (.tup [.nils,.int .i64 (2:Int)]) h0 (pU (gz (ab (gQ) (ab (aH) (ax)))))⟩)
  ·refine qk ?_
   obtain⟨x2,e2,H⟩:=aJ H
   obtain⟨gH,h1,e3,o3⟩:=fY (P:=Tryd.prog) (E:=bl) (l:=ik) (q:=0) (t2:=22) (x:=.fz [af.fz x1.1.nodes,.int .i64 x1.1.root] 1 true) (l2:=([x1.1])) Fj o1 rfl (by kernel_rfl) rfl e2
   exact qr [.a 3 e3] <| q0 <| ⟨(x2,i64.wrap (x0+(1:Int))),⟨gH,h1,by kernel_rfl,o3⟩,H⟩
 ·exact qx 0 <| Yf (⟨rfl,ik,x0,oi H,bl.fz a8,.int .i64 (a8.length:Int),.int .i64 x0,.bool (decide (x0<(a8.length:Int))),aA,h0,by kernel_rfl,o1⟩)
theorem rS {aS:FuncId→cd}(ha:aS 14=zi)(KT:QG cf m)(QJ:SG cf m)(QK:S8 cf m)(QL:S4 cf m)(a8:List au)(h:AHeap)(L:Mem)  (o:Has h (L)){out:(List Int) × Int}(H:b6.f m a8=some out) :
  ∃r h',aZ Tryd.prog aS cf m 14 [bl.fz a8] h=some (r,h')∧yD h' r (.tup [ao.fz out.1,.int .i64 out.2]):=by
 refine aj (fn:=Tryd.f14) ha Tryd.func14 (by kernel_rfl) (by kernel_rfl) ?_
 refine aD (Q:=fun s=>b6.fin L out s) (fun _ _ h=>h) ?_
 have H:_=some out:=H
 unfold b6.f at H
 show de _ cf zi m _ ⟨bl.fz a8::H0 [],[none,none],h⟩ _
 refine q1 <| qq <| qq <| q0 <| qc H (fun c0 H=>?_) (fun c0 H=>?_)
 ·obtain rfl:=oi H
  exact q1 <| qt <| ⟨.inl rfl,wY (.tup [.nils,.int .i64 (3:Int)]) h (pU (gz (ab (gQ) (ab (aH) (ax)))))⟩
 ·refine qk <| qq <| q0 ?_
  have o0:Has h (((0),.sl (([]:List au).length) 2 (bl.l ([]:List au)))::L):=Has.nil o 2
  refine qq <| qq <| q0 <| qb 0 ?_
  obtain⟨bo,e4,H⟩:=aJ H
  refine ql (b6.bG L a8  KT (([]:List au),(0:Int)) _ _ ⟨(0),h,by kernel_rfl,o0⟩ e4) ?_
  rintro e s (⟨rfl,xA,x3,rfl,g0,g1,g2,g3,di,h2,rfl,o4⟩| ⟨rfl,r0,rfl,mw⟩)
  ·try dsimp only at H
   refine qq <| qq ?_
   obtain⟨h3,e5,o5⟩:=ja (E:=bl) (l:=xA) (q:=0) o4 rfl
   obtain⟨x4,e6,H⟩:=aJ H
   refine zT [.a 0 e5] [.a 1 (QJ _ _ _ e6 h3 (Has.pos o5) 33 [] rfl (fun y0 r hr=>QK y0 r hr h3 _ (gf (ab (cg (ab (b4 (E:=af)) (ab (aH) (ax)))) (ax)))) _ (an (aO (iK (E:=bl))) (an ((rfl:ay (.fn 33 [])=_)) (bg))))] <| qc H (fun c3 H=>?_) (fun c3 H=>?_)
   ·obtain rfl:=oi H
    exact q1 <| qt <| ⟨.inl rfl,wY (.tup [.nils,.int .i64 (4:Int)]) h3 (pU (gz (ab (gQ) (ab (aH) (ax)))))⟩
   ·refine qk <| qq ?_
    obtain⟨x5,e7,H⟩:=aJ H
    refine qr [.a 1 (QL _ _ e7 h3 _ (gf (ab (b4 (E:=bl)) (ax))))] <| qq <| qq <| q0 <| qc H (fun c4 H=>?_) (fun c4 H=>?_)
    ·obtain rfl:=oi H
     exact q1 <| qt <| ⟨.inl rfl,wY (.tup [.nils,.int .i64 (3:Int)]) h3 (pU (gz (ab (gQ) (ab (aH) (ax)))))⟩
    ·obtain rfl:=oi H
     exact qk <| qq <| q0 <| qt <| ⟨.inl rfl,wY (.tup [ao.fz x5,.int .i64 (0:Int)]) h3 (pU (gz (ab (b4) (ab (aH) (ax)))))⟩
  ·try dsimp only at H
   obtain rfl:=oi H
   exact⟨.inl rfl,mw⟩
end
end Go.Proofs.YtmekcfdllhphlaaDoor
namespace Go.Proofs.YtmekcfdllhphlaaDoor
open Go Go.R
open Go.IntKind (i64 u64 u8 u32)
def Co:cd:=gh [0,1,4] [] [4,3] [] []
def dj.f (m:Nat)(a0:List Int)(b0:List Int):Option (Bool):=some ((bF a0).data.toList==(bF b0).data.toList)
def dj.fin (L:Mem)(r:Bool)(s:St):Prop:=∃av,aI Tryd.prog (s.open Co) Tryd.f41.results.toList=some av∧fA s.h av (.bool r)
def QM (cf:CallF)(m:Nat):Prop:=∀(a0:List Int) (b0:List Int) (r:Bool),dj.f m a0 b0=some r→∀h xs,eA eQ h xs [ao.fz a0,ao.fz b0]→cf 41 xs h=some (.bool r,h)
section
variable {cf:CallF}{m:Nat}
theorem qy {aS:FuncId→cd}(ha:aS 41=Co)  (a0:List Int)(b0:List Int)(h:AHeap)(L:Mem)  (o:Has h (L)){out:Bool}(H:dj.f m a0 b0=some out) :
  ∃r h',aZ Tryd.prog aS cf m 41 [ao.fz a0,ao.fz b0] h=some (r,h')∧fA h' r (.bool out):=by
 refine aj (fn:=Tryd.f41) ha Tryd.func41 (by kernel_rfl) (by kernel_rfl) ?_
 refine aD (Q:=fun s=>dj.fin L out s) (fun _ _ h=>h) ?_
 have H:_=some out:=H
 unfold dj.f at H
 show de _ cf Co m _ ⟨[ao.fz a0,ao.fz b0,.any],[],h⟩ _
 obtain rfl:=oi H
 exact q1 <| qq <| qr [.v 1 (show dW Tryd.prog h 25 9 (ao.fz a0)=some (.str (bF a0)) from ll (e:=5) (l:=a0) rfl rfl rfl (oV _)),.v 3 (show dW Tryd.prog h 25 9 (ao.fz b0)=some (.str (bF b0)) from ll (e:=5) (l:=b0) rfl rfl rfl (oV _))] <| qt <| ⟨.inl rfl,ca (.bool ((bF a0).data.toList==(bF b0).data.toList)) h (b8 (ak))⟩
end
end Go.Proofs.YtmekcfdllhphlaaDoor
