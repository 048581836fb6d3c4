/- Part of the proof: Q54, Q59, Q43, PR2, Q74, Q55, Q60, Q44, PR3, PR4, PR5, Q21, Q42, Q36, Q31, Q35, Q33, Q14, Q41. -/
import Derived.Test.YtmekcfdllhphlaaDoorK8
set_option linter.unusedVariables false
set_option linter.unusedSimpArgs false
set_option maxRecDepth 100000
open ByteArray renaming mk → Wu
open Int renaming toNat_natCast → V9
open List renaming append_assoc → Wg, map_cons → Wo, length_cons → Wp, cons_append → Wt, take_of_length_le → WH, length_nil → WY, mem_of_getElem? → W8, map_congr_left → Xc, append_nil → Xd
open Nat renaming add_assoc → WR, mul_le_mul_right → WX, add_mul → Xf
open Option renaming bind_some → V3
open Or renaming inr → WZ, inl → Xt
namespace Go.Proofs.YtmekcfdllhphlaaDoor
open Go Go.R
open Go.IntKind (i64 u64 u8 u32)
def yO:cb:=gJ [0,1,5] [] [0,4,4,7] [] []
def bT.l0 (m:Nat)  : Nat→Int→(List Int)→Option (Int × (List Int))
 | 0,_,_=>none
 | k+1,n1,w1=>if (decide (n1≥(128:Int)))=true then ((EN w1 ([iP .u8 (u8.wrap n1) (128:Int)])).bind fun xy=>bT.l0 m k (fX .u64 n1 7) xy) else (some ((n1,w1)))
def bT.f (m:Nat)(w0:List Int)(n0:Int):Option ((List Int)):=(bT.l0 m m n0 w0).bind fun bq=>match bq with | (n2,w2)=>(EN w2 ([u8.wrap n2])).bind fun MX=>some MX
def bT.fin (L:Mem)(bP:Nat)(b6:Nat)(w0:List Int)(n0:Int)(r:(List Int))(s:St):Prop:=∃dv:Nat,aI Tryd.prog (s.open yO) Tryd.f54.results.toList=some (.tup [])∧Has s.h ((bP,.ob [.rs dv 0 r.length 1,.int .i64 (0:Int),.int .i8 (0:Int)])::(dv,.row 5 (au.l r))::L)
def Li (cf:CallF)(m:Nat):Prop:=∀(w0:List Int) (n0:Int) (r:(List Int)),bT.f m w0 n0=some r→∀h L (bP:Nat) (b6:Nat),Has h ((bP,.ob [.rs b6 0 w0.length 1,.int .i64 (0:Int),.int .i8 (0:Int)])::(b6,.row 5 (au.l w0))::L)→∀xs,xs.map ay=[.ptr bP 0,.int .u64 n0]→∃dv h',cf 54 xs h=some (.tup [],h')∧Has h' ((bP,.ob [.rs dv 0 r.length 1,.int .i64 (0:Int),.int .i8 (0:Int)])::(dv,.row 5 (au.l r))::L)
section
variable {cf:CallF}{m:Nat}
theorem bT.bI (L:Mem)(bP:Nat)(b6:Nat)(w0:List Int)(n0:Int)  (w6:Mo cf m):bE Tryd.prog cf yO m (sub [0,0,0] (codeOf Tryd.f54)) (fun k (σ:Int × (List Int))=>bT.l0 m k σ.1 σ.2) (fun σ s=>match σ with | (n1,w1)=>∃aA h0,s=⟨[.ptr bP 0,.int .u64 n1,.any],[],h0⟩∧Has h0 ((bP,.ob [.rs aA 0 w1.length 1,.int .i64 (0:Int),.int .i8 (0:Int)])::(aA,.row 5 (au.l w1))::L)) (fun out e s=>(e = .exit 0∧∃n1 w1,(n1,w1)=out∧∃uE aA h0,s=⟨[.ptr bP 0,.int .u64 n1,uE],[],h0⟩∧Has h0 ((bP,.ob [.rs aA 0 w1.length 1,.int .i64 (0:Int),.int .i8 (0:Int)])::(aA,.row 5 (au.l w1))::L))):=by
 refine gP (fun _=>rfl) ?_
 rintro k ⟨n1,w1⟩ s out ⟨aA,h0,rfl,o0⟩ H
 have H:bT.l0 m (k+1) n1 w1=some out:=H
 refine qq <| qq <| q0 <| qc H (fun c0 H=>?_) (fun c0 H=>?_)
 ·refine qk <| qq <| qb 1 ?_
  obtain⟨xy,e0,H⟩:=aH H
  obtain⟨fV,h1,e1,o1⟩:=rT (bs:=w1) w6 o0 e0
  exact qr [.a 6 e1] <| q0 <| ⟨(fX .u64 n1 7,xy),⟨fV,h1,by kernel_rfl,o1⟩,H⟩
 ·exact qx 0 <| ⟨rfl,n1,w1,oi H,.bool (decide (n1≥(128:Int))),aA,h0,by kernel_rfl,o0⟩
theorem tH {aV:FuncId→cb}(ha:aV 54=yO)(w6:Mo cf m)(w0:List Int)(n0:Int)(h:AHeap)(L:Mem)(bP:Nat)(b6:Nat)  (o:Has h ((bP,.ob [.rs b6 0 w0.length 1,.int .i64 (0:Int),.int .i8 (0:Int)])::(b6,.row 5 (au.l w0))::L)){out:(List Int)}(H:bT.f m w0 n0=some out) :
  ∃r h',be Tryd.prog aV cf m 54 [.ptr bP 0,.int .u64 n0] h=some (r,h')∧∃dv:Nat,r = .tup []∧Has h' ((bP,.ob [.rs dv 0 out.length 1,.int .i64 (0:Int),.int .i8 (0:Int)])::(dv,.row 5 (au.l out))::L):=by
 refine aq (fn:=Tryd.f54) ha Tryd.func54 (by kernel_rfl) (by kernel_rfl) ?_
 refine aG (Q:=fun s=>bT.fin L bP b6 w0 n0 out s) (fun _ _ ⟨h1,dv,h2,h3⟩=>⟨h1,_,h2,dv,rfl,h3⟩) ?_
 have H:_=some out:=H
 unfold bT.f at H
 show de _ cf yO m _ ⟨[.ptr bP 0,.int .u64 n0,.any],[],h⟩ _
 refine qq <| qb 0 ?_
 obtain⟨bq,e2,H⟩:=aH H
 refine ql (bT.bI L bP b6 w0 n0  w6 (n0,w0) _ _ ⟨b6,h,by kernel_rfl,o⟩ e2) ?_
 rintro e s ⟨rfl,n2,w2,rfl,g0,da,h2,rfl,o2⟩
 try dsimp only at H
 obtain⟨MX,e3,H⟩:=aH H
 obtain⟨fk,h3,e4,o3⟩:=rT (bs:=w2) w6 o2 e3
 obtain rfl:=oi H
 exact qr [.a 5 e4] <| ⟨.inr rfl,⟨fk,by kernel_rfl,he o3⟩⟩
end
end Go.Proofs.YtmekcfdllhphlaaDoor
namespace Go.Proofs.YtmekcfdllhphlaaDoor
open Go Go.R
open Go.IntKind (i64 u64 u8 u32)
def BW:cb:=gJ [0,2,3,9] [] [14,6,15,13,10,11,13] [] []
def ju.f (m:Nat)(r0:fl):Option (Int × fl):=if ((r0.eH.length:Int)==(0:Int))=true then (some ((0:Int),(fl.mk r0.eH true))) else ((ix r0.eH (0:Int)).bind fun v0=>(nA r0.eH (1:Int) (r0.eH.length:Int)).bind fun v1=>some (v0,(fl.mk v1 r0.br)))
def ju.fin (L:Mem)(aA:Nat)(r0:fl)(r:Int × fl)(s:St):Prop:=aI Tryd.prog (s.open BW) Tryd.f59.results.toList=some (.int .u8 r.1)∧Has s.h ((aA,.ob [au.fz r.2.eH,.bool r.2.br])::L)
def N2 (cf:CallF)(m:Nat):Prop:=∀(r0:fl) (r:Int × fl),ju.f m r0=some r→∀h L (aA:Nat),Has h ((aA,.ob [au.fz r0.eH,.bool r0.br])::L)→∀xs,xs.map ay=[.ptr aA 0]→∃h',cf 59 xs h=some (.int .u8 r.1,h')∧Has h' ((aA,.ob [au.fz r.2.eH,.bool r.2.br])::L)
section
variable {cf:CallF}{m:Nat}
theorem w7 {aV:FuncId→cb}(ha:aV 59=BW)  (r0:fl)(h:AHeap)(L:Mem)(aA:Nat)  (o:Has h ((aA,.ob [au.fz r0.eH,.bool r0.br])::L)){out:Int × fl}(H:ju.f m r0=some out) :
  ∃r h',be Tryd.prog aV cf m 59 [.ptr aA 0] h=some (r,h')∧r = .int .u8 out.1∧Has h' ((aA,.ob [au.fz out.2.eH,.bool out.2.br])::L):=by
 refine aq (fn:=Tryd.f59) ha Tryd.func59 (by kernel_rfl) (by kernel_rfl) ?_
 refine aG (Q:=fun s=>ju.fin L aA r0 out s) (fun _ _ ⟨h1,h2,h3⟩=>⟨h1,_,h2,rfl,h3⟩) ?_
 have H:_=some out:=H
 unfold ju.f at H
 show de _ cf BW m _ ⟨.ptr aA 0::ke [],[],h⟩ _
 refine q1 <| qq <| qq <| qr [.v 3 (show bj Tryd.prog h 25 (.ptr aA 0)=some (au.fz r0.eH) from ca (q:=0) (cs:=[au.fz r0.eH,.bool r0.br]) o rfl (by kernel_rfl))] <| qc H (fun c0 H=>?_) (fun c0 H=>?_)
 ·refine qq ?_
  obtain⟨h0,e0,o0⟩:=kz (P:=Tryd.prog) (t:=4) (off:=1) (q:=0) (cs:=[au.fz r0.eH,.bool r0.br]) (fA:=[au.fz r0.eH,.bool true]) (x:=.bool true) o rfl (by kernel_rfl)
  obtain rfl:=oi H
  exact qr [.w 3 e0] <| qq <| q0 <| qt <| ⟨.inl rfl,⟨by kernel_rfl,he o0⟩⟩
 ·refine qk <| qq ?_
  obtain⟨v0,e1,H⟩:=aH H
  refine qr [.v 3 (show bj Tryd.prog h 25 (.ptr aA 0)=some (au.fz r0.eH) from ca (q:=0) (cs:=[au.fz r0.eH,.bool r0.br]) o rfl (by kernel_rfl)),.v 4 (bo (k:=.i64) (E:=au) (l:=r0.eH) HJ e1),.v 5 (cZ  (E:=au) (l:=r0.eH) h A5 e1 rfl)] <| qq ?_
  obtain⟨v1,e2,H⟩:=aH H
  obtain⟨h1,e3,o1⟩:=kz (P:=Tryd.prog) (t:=25) (off:=0) (q:=0) (cs:=[au.fz r0.eH,.bool r0.br]) (fA:=[au.fz v1,.bool r0.br]) (x:=au.fz v1) o rfl (by kernel_rfl)
  obtain rfl:=oi H
  exact qr [.v 4 (show bj Tryd.prog h 25 (.ptr aA 0)=some (au.fz r0.eH) from ca (q:=0) (cs:=[au.fz r0.eH,.bool r0.br]) o rfl (by kernel_rfl)),.v 5 (show eG Tryd.prog 25 (au.fz r0.eH) (some (.int .i64 (1:Int))) none none=some (au.fz v1) from wF (E:=au) HJ e2),.w 8 e3] <| qq <| q0 <| qt <| ⟨.inl rfl,⟨by kernel_rfl,he o1⟩⟩
end
end Go.Proofs.YtmekcfdllhphlaaDoor
namespace Go.Proofs.YtmekcfdllhphlaaDoor
open Go Go.R
open Go.IntKind (i64 u64 u8 u32)
def yP:cb:=gJ [0,2,3,4,5,10,24,36] [] [254,250,242,210,242,226,162,251,226,114,253] [] []
def bJ.l0 (m:Nat)  : Nat→Int→Int→fl→Option (Int × Int × fl)
 | 0,_,_,_=>none
 | k+1,n0,dp,r1=>if (!r1.br)=true then ((ju.f m r1).bind fun x0=>if (decide (dp > (56:Int)))=true then (some ((n0,dp,(fl.mk x0.2.eH true)))) else (if (decide (dp > (0:Int)))=true then (if (x0.1==(0:Int))=true then (some ((n0,dp,(fl.mk x0.2.eH true)))) else ((C0 .u64 (u64.wrap (gY .u8 x0.1 (127:Int))) dp).bind fun v0=>if (decide (x0.1<(128:Int)))=true then (some ((iP .u64 n0 v0,dp,x0.2))) else (bJ.l0 m k (iP .u64 n0 v0) (i64.wrap (dp+(7:Int))) x0.2))) else ((C0 .u64 (u64.wrap (gY .u8 x0.1 (127:Int))) dp).bind fun v1=>if (decide (x0.1<(128:Int)))=true then (some ((iP .u64 n0 v1,dp,x0.2))) else (bJ.l0 m k (iP .u64 n0 v1) (i64.wrap (dp+(7:Int))) x0.2)))) else (some ((n0,dp,r1)))
def bJ.f (m:Nat)(r0:fl):Option (Int × fl):=(bJ.l0 m m (0:Int) (0:Int) r0).bind fun bq=>match bq with | (n1,Ko,r2)=>some (i64.wrap n1,r2)
def bJ.fin (L:Mem)(aA:Nat)(r0:fl)(r:Int × fl)(s:St):Prop:=aI Tryd.prog (s.open yP) Tryd.f43.results.toList=some (.int .i64 r.1)∧Has s.h ((aA,.ob [au.fz r.2.eH,.bool r.2.br])::L)
def Kp (cf:CallF)(m:Nat):Prop:=∀(r0:fl) (r:Int × fl),bJ.f m r0=some r→∀h L (aA:Nat),Has h ((aA,.ob [au.fz r0.eH,.bool r0.br])::L)→∀xs,xs.map ay=[.ptr aA 0]→∃h',cf 43 xs h=some (.int .i64 r.1,h')∧Has h' ((aA,.ob [au.fz r.2.eH,.bool r.2.br])::L)
section
variable {cf:CallF}{m:Nat}
theorem bJ.bI (L:Mem)(aA:Nat)(r0:fl)  (FR:N2 cf m):bE Tryd.prog cf yP m (sub [1,1,0,1,0,0] (codeOf Tryd.f43)) (fun k (σ:Int × Int × fl)=>bJ.l0 m k σ.1 σ.2.1 σ.2.2) (fun σ s=>match σ with | (n0,dp,r1)=>∃h0,s=⟨.ptr aA 0 :: .any :: .int .u64 n0 :: .int .i64 dp::qQ [],[],h0⟩∧Has h0 ((aA,.ob [au.fz r1.eH,.bool r1.br])::L)) (fun out e s=>(e = .exit 0∧∃n0 dp r1,(n0,dp,r1)=out∧∃kC Dh tc Kq h0,s=⟨[kC,.any,.int .u64 n0,Dh,.any,tc,.any,Kq],[],h0⟩∧Has h0 ((aA,.ob [au.fz r1.eH,.bool r1.br])::L))):=by
 refine gP (fun _=>rfl) ?_
 rintro k ⟨n0,dp,r1⟩ s out ⟨h0,rfl,o0⟩ H
 have H:bJ.l0 m (k+1) n0 dp r1=some out:=H
 refine qq <| qq <| qr [.v 3 (show bj Tryd.prog h0 4 (.ptr aA 1)=some (.bool r1.br) from ca (q:=0) (cs:=[au.fz r1.eH,.bool r1.br]) o0 rfl (by kernel_rfl))] <| qc H (fun c0 H=>?_) (fun c0 H=>?_)
 ·refine qk <| qq <| qb 1 <| qq ?_
  obtain⟨x0,e0,H⟩:=aH H
  obtain⟨h1,e1,o1⟩:=FR _ _ e0 h0 _ _ (o0)  [.ptr aA 0] (an (rfl) (bm))
  refine qr [.a 1 e1] <| qq <| qq ?_
  rcases dt H with⟨c1,H⟩| ⟨c1,H⟩
  ·refine qr [.b 2 c1] <| mX <| qq ?_
   obtain⟨h2,e2,o2⟩:=kz (P:=Tryd.prog) (t:=4) (off:=1) (q:=0) (cs:=[au.fz x0.2.eH,.bool x0.2.br]) (fA:=[au.fz x0.2.eH,.bool true]) (x:=.bool true) o1 rfl (by kernel_rfl)
   exact qr [.w 3 e2] <| qx 0 <| ⟨rfl,n0,dp,(fl.mk x0.2.eH true),oi H,.any,.any,.any,.any,h2,by kernel_rfl,o2⟩
  ·rcases dt H with⟨c3,H⟩| ⟨c3,H⟩
   ·refine qr [.b 2 c1,.b 5 c3] <| qc H (fun c4 H=>?_) (fun c4 H=>?_)
    ·refine qq ?_
     obtain⟨h3,e3,o3⟩:=kz (P:=Tryd.prog) (t:=4) (off:=1) (q:=0) (cs:=[au.fz x0.2.eH,.bool x0.2.br]) (fA:=[au.fz x0.2.eH,.bool true]) (x:=.bool true) o1 rfl (by kernel_rfl)
     exact qr [.w 3 e3] <| qx 0 <| ⟨rfl,n0,dp,(fl.mk x0.2.eH true),oi H,.any,.any,.any,.any,h3,by kernel_rfl,o3⟩
    ·refine qk <| qq ?_
     obtain⟨v0,e4,H⟩:=aH H
     refine qr [.v 5 (show lF Tryd.prog .shl 40 (.int .u64 (u64.wrap (gY .u8 x0.1 (127:Int)))) (.int .i64 dp)=some (.int .u64 v0) from EG e4)] <| qq <| q0 <| qc H (fun c5 H=>?_) (fun c5 H=>?_)
     ·exact qx 0 <| ⟨rfl,iP .u64 n0 v0,dp,x0.2,oi H,.ptr aA 0,.int .i64 dp,.any,.bool (decide (x0.1<(128:Int))),h1,by kernel_rfl,o1⟩
     ·exact qk <| q0 <| ⟨(iP .u64 n0 v0,i64.wrap (dp+(7:Int)),x0.2),⟨h1,by kernel_rfl,o1⟩,H⟩
   ·refine qr [.b 2 c1,.b 5 c3] <| C7 <| qk <| qq ?_
    obtain⟨v1,e5,H⟩:=aH H
    refine qr [.v 5 (show lF Tryd.prog .shl 40 (.int .u64 (u64.wrap (gY .u8 x0.1 (127:Int)))) (.int .i64 dp)=some (.int .u64 v1) from EG e5)] <| qq <| q0 <| qc H (fun c7 H=>?_) (fun c7 H=>?_)
    ·exact qx 0 <| ⟨rfl,iP .u64 n0 v1,dp,x0.2,oi H,.ptr aA 0,.int .i64 dp,.any,.bool (decide (x0.1<(128:Int))),h1,by kernel_rfl,o1⟩
    ·exact qk <| q0 <| ⟨(iP .u64 n0 v1,i64.wrap (dp+(7:Int)),x0.2),⟨h1,by kernel_rfl,o1⟩,H⟩
 ·exact qx 0 <| ⟨rfl,n0,dp,r1,oi H,.ptr aA 0,.int .i64 dp,.bool (!r1.br),.any,h0,by kernel_rfl,o0⟩
theorem tI {aV:FuncId→cb}(ha:aV 43=yP)(FR:N2 cf m)(r0:fl)(h:AHeap)(L:Mem)(aA:Nat)  (o:Has h ((aA,.ob [au.fz r0.eH,.bool r0.br])::L)){out:Int × fl}(H:bJ.f m r0=some out) :
  ∃r h',be Tryd.prog aV cf m 43 [.ptr aA 0] h=some (r,h')∧r = .int .i64 out.1∧Has h' ((aA,.ob [au.fz out.2.eH,.bool out.2.br])::L):=by
 refine aq (fn:=Tryd.f43) ha Tryd.func43 (by kernel_rfl) (by kernel_rfl) ?_
 refine aG (Q:=fun s=>bJ.fin L aA r0 out s) (fun _ _ ⟨h1,h2,h3⟩=>⟨h1,_,h2,rfl,h3⟩) ?_
 have H:_=some out:=H
 unfold bJ.f at H
 show de _ cf yP m _ ⟨.ptr aA 0::C2 [],[],h⟩ _
 refine q1 <| qq <| q0 <| qq <| qq <| q0 <| qb 0 ?_
 obtain⟨bq,e6,H⟩:=aH H
 refine ql (bJ.bI L aA r0  FR ((0:Int),(0:Int),r0) _ _ ⟨h,by kernel_rfl,o⟩ e6) ?_
 rintro e s ⟨rfl,n1,Ko,r2,rfl,g0,g1,g2,g3,h4,rfl,o4⟩
 try dsimp only at H
 obtain rfl:=oi H
 exact q1 <| qt <| ⟨.inl rfl,⟨by kernel_rfl,he o4⟩⟩
end
end Go.Proofs.YtmekcfdllhphlaaDoor
namespace Go.Proofs.YtmekcfdllhphlaaDoor
open Go Go.R
open Go.IntKind (i64 u64 u8 u32)
theorem me {bs news:List Int}(h:bs≠[])(hn:news≠[])(hl:bs.length+news.length≤140737488355328):EN bs news=some (bs++news):=by
 unfold EN wB
 rw [if_neg h,if_pos ⟨hl,hn⟩]
theorem HU (n:Nat):dI n≠[]:=by
 by_cases h:n<128
 ·rw [kU h]; simp
 ·rw [oJ h]; simp
theorem FT (m:Nat):∀(k n:Nat) (w:List Int) (f:Nat),k<f→n<128 ^ (k+1)→n<2 ^ 64→w≠[]→w.length+k≤140737488355328→
  ∃(x:Nat) (pre:List Int),x<128∧bT.l0 m f (n:Int) w=some ((x:Int),w++pre)∧pre++[(x:Int)]=dI n∧pre.length≤k
 | _,_,_,0,hf,_,_,_,_=>absurd hf (by omega)
 | k,n,w,f+1,hf,hk,hn,hw,hl=>by
  by_cases h:n<128
  ·refine⟨n,[],h,?_,by rw [kU h]; rfl,Nat.zero_le _⟩
   unfold bT.l0
   rw [if_neg (by simp; omega),Xd]
  ·cases k with
   | zero=>simp at hk; omega
   | succ k=>
    have hd:n / 128<128 ^ (k+1):=by
     rw [Nat.div_lt_iff_lt_mul (by omega)]
     calc n<128 ^ (k+1+1):=hk
      _=_:=by rw [Nat.pow_succ]
    obtain⟨x,pre,h1,h2,h3,h4⟩:=FT m k (n / 128) (w++[((n % 128+128:Nat):Int)]) f (by omega) hd (by omega) (by simp) (by simp; omega)
    refine⟨x,((n % 128+128:Nat):Int)::pre,h1,?_,by rw [oJ h,Wt,h3],by simp; omega⟩
    unfold bT.l0
    rw [if_pos (by simp; omega),mz,Mi,me hw (by simp) (by simp; omega),V3,Pd,h2,Wg]
    rfl
theorem yQ {m n:Nat}{w:List Int}(hm:11≤m)(hn:n<2 ^ 64)(hw:w≠[])(hl:w.length+20≤140737488355328):bT.f m w (n:Int)=some (w++dI n):=by
 obtain⟨x,pre,h1,h2,h3,h4⟩:=FT m 10 n w m (by omega) (by omega) hn hw (by omega)
 unfold bT.f
 rw [h2,V3]
 simp only
 rw [mz,show ((x:Int) % 256)=(x:Int) by omega,me (by simp [hw]) (by simp) (by simp; omega),V3,Wg,←h3]
theorem vq {m:Nat}{c:Int}{l:List Int}{bad:Bool}:ju.f m ⟨c::l,bad⟩=some (c,⟨l,bad⟩):=by
 unfold ju.f
 rw [if_neg (by simp; omega)]
 have h1:ix (c::l) 0=some c:=rfl
 have h2:nA (c::l) 1 ((c::l).length:Int)=some l:=by
  unfold nA
  rw [if_pos ⟨by omega,by simp; omega,Int.le_refl _⟩]
  simp
 simp only [h1,h2,V3]
theorem FU (m:Nat):∀(k f:Nat),k<f→∀(n a j:Nat) (rest:List Int),n<128 ^ (k+1)→a<2 ^ (7*j)→a+n*2 ^ (7*j)<2 ^ 63→(j=0∨1≤n)→
  ∃s':Int,bJ.l0 m f (a:Int) ((7*j:Nat):Int) ⟨dI n++rest,false⟩=some (((a+n*2 ^ (7*j):Nat):Int),s',⟨rest,false⟩)
 | k,0,hf,_,_,_,_,_,_,_,_=>absurd hf (by omega)
 | k,f+1,hf,n,a,j,rest,hk,ha,hn,h0=>by
  have hs:7*j≤56:=by
   rcases h0 with h0 | h0
   ·omega
   ·have:7*j≤62:=by
     apply Nat.le_of_not_lt
     intro h
     have h1:2 ^ 63≤2 ^ (7*j):=Nat.pow_le_pow_right (by omega) (by omega)
     have h2:1*2 ^ (7*j)≤n*2 ^ (7*j):=WX _ h0
     omega
    omega
  by_cases h:n<128
  ·rw [kU h]
   obtain⟨g1,g2⟩:=EU a n (7*j) ha hs (by omega) h
   have g3:gY .u8 (n:Int) 127=(n:Int):=by rw [ET n (by omega)]; omega
   refine⟨((7*j:Nat):Int),?_⟩
   unfold bJ.l0
   rw [if_pos (show (!false)=true from rfl),List.singleton_append,vq,V3,if_neg (by simp; omega)]
   dsimp only
   rw [g3,g1,V3]
   rw [if_pos (show decide ((n:Int)<128)=true by simp; omega),g2]
   by_cases hj:j=0
   ·rw [if_neg (by simp; omega)]
   ·rw [if_pos (by simp; omega),if_neg (by simp; omega)]
  ·rw [oJ h]
   cases k with
   | zero=>simp at hk; omega
   | succ k=>
    have hd:n / 128<128 ^ (k+1):=by
     rw [Nat.div_lt_iff_lt_mul (by omega)]
     calc n<128 ^ (k+1+1):=hk
      _=_:=by rw [Nat.pow_succ]
    have hp:2 ^ (7*(j+1))=128*2 ^ (7*j):=by rw [show 7*(j+1)=7+7*j by omega,Nat.pow_add]
    have JA:a+n % 128*2 ^ (7*j)+n / 128*2 ^ (7*(j+1))=a+n*2 ^ (7*j):=by
     rw [hp,←Nat.mul_assoc,WR,←Xf]
     congr 2
     omega
    have PV:a+n % 128*2 ^ (7*j)<2 ^ (7*(j+1)):=by
     rw [hp]
     have:n % 128*2 ^ (7*j)≤127*2 ^ (7*j):=WX _ (by omega)
     omega
    obtain⟨g1,g2⟩:=EU a (n % 128) (7*j) ha hs (by have:=Nat.zero_le (n / 128*2 ^ (7*(j+1))); omega) (Nat.mod_lt _ (by omega))
    have g3:gY .u8 ((n % 128+128:Nat):Int) 127=((n % 128:Nat):Int):=by
     rw [ET _ (by omega)]; omega
    obtain⟨s',ih⟩:=FU m k f (by omega) (n / 128) (a+n % 128*2 ^ (7*j)) (j+1) rest hd PV (by omega) (.inr (by omega))
    rw [JA] at ih
    refine⟨s',?_⟩
    unfold bJ.l0
    rw [if_pos (show (!false)=true from rfl),Wt,vq,V3,if_neg (by simp; omega)]
    dsimp only
    rw [g3,g1,V3,g2]
    have g4:i64.wrap (((7*j:Nat):Int)+7)=((7*(j+1):Nat):Int):=by rw [aC (by omega) (by omega)]; omega
    rw [if_neg (show ¬decide (((n % 128+128:Nat):Int)<128)=true by simp; omega),g4,ih]
    by_cases hj:j=0
    ·rw [if_neg (by simp; omega)]
    ·rw [if_pos (by simp; omega),if_neg (by simp; omega)]
theorem AA {m n:Nat}{rest:List Int}(hm:11≤m)(hn:n<2 ^ 63):bJ.f m ⟨dI n++rest,false⟩=some ((n:Int),⟨rest,false⟩):=by
 obtain⟨s',h⟩:=FU m 10 m (by omega) n 0 0 rest (by omega) (by omega) (by omega) (.inl rfl)
 unfold bJ.f
 have h:bJ.l0 m m (0:Int) (0:Int) ⟨dI n++rest,false⟩=some (((0+n*2 ^ (7*0):Nat):Int),s',⟨rest,false⟩):=h
 rw [h,V3]
 simp only
 rw [aC (by omega) (by omega)]
 simp
end Go.Proofs.YtmekcfdllhphlaaDoor
namespace Go.Proofs.YtmekcfdllhphlaaDoor
open Go Go.R
open Go.IntKind (i64 u64 u8 u32)
def BX:cb:=gJ [0,1] [] [0,3] [] []
def jv.f (m:Nat)(w0:List Int)(s0:ByteArray):Option ((List Int)):=(bT.f m w0 (u64.wrap (s0.size:Int))).bind fun x0=>(EN x0 (eP s0)).bind fun xy=>some xy
def jv.fin (L:Mem)(bP:Nat)(b6:Nat)(w0:List Int)(s0:ByteArray)(r:(List Int))(s:St):Prop:=∃dv:Nat,aI Tryd.prog (s.open BX) Tryd.f74.results.toList=some (.tup [])∧Has s.h ((bP,.ob [.rs dv 0 r.length 1,.int .i64 (0:Int),.int .i8 (0:Int)])::(dv,.row 5 (au.l r))::L)
def Sb (cf:CallF)(m:Nat):Prop:=∀(w0:List Int) (s0:ByteArray) (r:(List Int)),jv.f m w0 s0=some r→∀h L (bP:Nat) (b6:Nat),Has h ((bP,.ob [.rs b6 0 w0.length 1,.int .i64 (0:Int),.int .i8 (0:Int)])::(b6,.row 5 (au.l w0))::L)→∀xs,xs.map ay=[.ptr bP 0,.str s0]→∃dv h',cf 74 xs h=some (.tup [],h')∧Has h' ((bP,.ob [.rs dv 0 r.length 1,.int .i64 (0:Int),.int .i8 (0:Int)])::(dv,.row 5 (au.l r))::L)
section
variable {cf:CallF}{m:Nat}
theorem w8 {aV:FuncId→cb}(ha:aV 74=BX)(pb:Li cf m)(MY:Mp cf m)(w0:List Int)(s0:ByteArray)(h:AHeap)(L:Mem)(bP:Nat)(b6:Nat)  (o:Has h ((bP,.ob [.rs b6 0 w0.length 1,.int .i64 (0:Int),.int .i8 (0:Int)])::(b6,.row 5 (au.l w0))::L)){out:(List Int)}(H:jv.f m w0 s0=some out) :
  ∃r h',be Tryd.prog aV cf m 74 [.ptr bP 0,.str s0] h=some (r,h')∧∃dv:Nat,r = .tup []∧Has h' ((bP,.ob [.rs dv 0 out.length 1,.int .i64 (0:Int),.int .i8 (0:Int)])::(dv,.row 5 (au.l out))::L):=by
 refine aq (fn:=Tryd.f74) ha Tryd.func74 (by kernel_rfl) (by kernel_rfl) ?_
 refine aG (Q:=fun s=>jv.fin L bP b6 w0 s0 out s) (fun _ _ ⟨h1,dv,h2,h3⟩=>⟨h1,_,h2,dv,rfl,h3⟩) ?_
 have H:_=some out:=H
 unfold jv.f at H
 show de _ cf BX m _ ⟨[.ptr bP 0,.str s0],[],h⟩ _
 refine qq ?_
 obtain⟨x0,e0,H⟩:=aH H
 obtain⟨aA,h0,e1,o0⟩:=pb _ _ _ e0 h _ _ _ (o)  [.ptr bP 0,.int .u64 (u64.wrap (s0.size:Int))] (an (rfl) (an (aQ (bD)) (bm)))
 refine qr [.a 4 e1] ?_
 obtain⟨xy,e2,H⟩:=aH H
 obtain⟨fV,h1,e3,o1⟩:=HC (bs:=x0) MY o0 e2
 obtain rfl:=oi H
 exact qr [.a 4 e3] <| ⟨.inr rfl,⟨fV,by kernel_rfl,he o1⟩⟩
end
end Go.Proofs.YtmekcfdllhphlaaDoor
namespace Go.Proofs.YtmekcfdllhphlaaDoor
open Go Go.R
open Go.IntKind (i64 u64 u8 u32)
def yR:cb:=gJ [0,1,3,5,14,15,22,26,41,47,60,61,62,63] [3] [16378,16378,16362,16330,16383,16298,16250,16383,16383,16106,16383,15866,16378,16378,9214,1022,9206,9214,9214] [] []
def dS.l0 (m:Nat)(n0:ab):Nat→Int→(List Int)→Option (Int × (List Int))
 | 0,_,_=>none
 | k+1,x6,w1=>if (decide (x6<(n0.args.length:Int)))=true then ((ix n0.args x6).bind fun v0=>(bT.f m w1 (u64.wrap v0)).bind fun x7=>dS.l0 m n0 k (i64.wrap (x6+(1:Int))) x7) else (some ((x6,w1)))
def dS.f (m:Nat)(w0:List Int)(n0:ab):Option ((List Int)):=(EN w0 ([u8.wrap n0.kind])).bind fun xy=>if (n0.kind==(0:Int))=true then ((bT.f m xy (u64.wrap n0.int)).bind fun x0=>some x0) else (if (n0.kind==(1:Int))=true then (if (decide (n0.int<(0:Int)))=true then ((bT.f m xy (u64.wrap (u64.wrap (u64.wrap (i64.wrap (0 - n0.int))*(2:Int)) - (1:Int)))).bind fun x1=>some x1) else ((bT.f m xy (u64.wrap (u64.wrap n0.int*(2:Int)))).bind fun x2=>some x2)) else (if (n0.kind==(2:Int))=true then ((jv.f m xy n0.label).bind fun x3=>some x3) else (if (n0.kind==(3:Int))=true then ((jv.f m xy n0.label).bind fun x4=>(bT.f m x4 (u64.wrap (n0.args.length:Int))).bind fun x5=>(dS.l0 m n0 m (0:Int) x5).bind fun bq=>match bq with | (x8,w2)=>some w2) else (some xy))))
def dS.fin (L:Mem)(bP:Nat)(b6:Nat)(w0:List Int)(n0:ab)(r:(List Int))(s:St):Prop:=∃dv:Nat,aI Tryd.prog (s.open yR) Tryd.f55.results.toList=some (.tup [])∧Has s.h ((bP,.ob [.rs dv 0 r.length 1,.int .i64 (0:Int),.int .i8 (0:Int)])::(dv,.row 5 (au.l r))::L)
def N3 (cf:CallF)(m:Nat):Prop:=∀(w0:List Int) (n0:ab) (r:(List Int)),dS.f m w0 n0=some r→∀h L (bP:Nat) (b6:Nat),Has h ((bP,.ob [.rs b6 0 w0.length 1,.int .i64 (0:Int),.int .i8 (0:Int)])::(b6,.row 5 (au.l w0))::L)→∀xs,xs.map ay=[.ptr bP 0,.agg [.int .i64 n0.kind,.int .i64 n0.int,.str n0.label,aa.fz n0.args]]→∃dv h',cf 55 xs h=some (.tup [],h')∧Has h' ((bP,.ob [.rs dv 0 r.length 1,.int .i64 (0:Int),.int .i8 (0:Int)])::(dv,.row 5 (au.l r))::L)
section
variable {cf:CallF}{m:Nat}
theorem dS.bI (L:Mem)(bP:Nat)(b6:Nat)(w0:List Int)(n0:ab)  (pb:Li cf m):bE Tryd.prog cf yR m (sub [1,1,1,0,1,1,1,1,1,1,1,0,1,1,1,0,0] (codeOf Tryd.f55)) (fun k (σ:Int × (List Int))=>dS.l0 m n0 k σ.1 σ.2) (fun σ s=>match σ with | (x6,w1)=>∃ik h7,s=⟨.ptr bP 0::C3 [aa.fz n0.args,.int .i64 (n0.args.length:Int),.int .i64 x6,.any],[none],h7⟩∧Has h7 ((bP,.ob [.rs ik 0 w1.length 1,.int .i64 (0:Int),.int .i8 (0:Int)])::(ik,.row 5 (au.l w1))::L)) (fun out e s=>(e = .exit 1∧∃x6 w1,(x6,w1)=out∧∃kC PW PX PY PZ ik h7,s=⟨kC::C3 [PW,PX,PY,PZ],[none],h7⟩∧Has h7 ((bP,.ob [.rs ik 0 w1.length 1,.int .i64 (0:Int),.int .i8 (0:Int)])::(ik,.row 5 (au.l w1))::L))):=by
 refine gP (fun _=>rfl) ?_
 rintro k ⟨x6,w1⟩ s out ⟨ik,h7,rfl,o7⟩ H
 have H:dS.l0 m n0 (k+1) x6 w1=some out:=H
 refine q1 <| qq <| qc H (fun c5 H=>?_) (fun c5 H=>?_)
 ·refine qk <| qq <| qb 2 <| qq ?_
  obtain⟨v0,qT,H⟩:=aH H
  refine qr [.v 0 (bo (k:=.i64) (E:=aa) (l:=n0.args) dz qT),.v 1 (cZ  (E:=aa) (l:=n0.args) h7 A3 qT rfl)] ?_
  obtain⟨x7,pX,H⟩:=aH H
  obtain⟨kG,h8,uC,o8⟩:=pb _ _ _ pX h7 _ _ _ (o7)  [.ptr bP 0,.int .u64 (u64.wrap v0)] (an (rfl) (an (aQ (bD)) (bm)))
  exact qr [.a 3 uC] <| q0 <| ⟨(i64.wrap (x6+(1:Int)),x7),⟨kG,h8,by kernel_rfl,o8⟩,H⟩
 ·exact qx 1 <| ⟨rfl,x6,w1,oi H,.ptr bP 0,aa.fz n0.args,.int .i64 (n0.args.length:Int),.int .i64 x6,.bool (decide (x6<(n0.args.length:Int))),ik,h7,by kernel_rfl,o7⟩
theorem w9 {aV:FuncId→cb}(ha:aV 55=yR)(w6:Mo cf m)(pb:Li cf m)(MZ:Sb cf m)(w0:List Int)(n0:ab)(h:AHeap)(L:Mem)(bP:Nat)(b6:Nat)  (o:Has h ((bP,.ob [.rs b6 0 w0.length 1,.int .i64 (0:Int),.int .i8 (0:Int)])::(b6,.row 5 (au.l w0))::L)){out:(List Int)}(H:dS.f m w0 n0=some out) :
  ∃r h',be Tryd.prog aV cf m 55 [.ptr bP 0,.agg [.int .i64 n0.kind,.int .i64 n0.int,.str n0.label,aa.fz n0.args]] h=some (r,h')∧∃dv:Nat,r = .tup []∧Has h' ((bP,.ob [.rs dv 0 out.length 1,.int .i64 (0:Int),.int .i8 (0:Int)])::(dv,.row 5 (au.l out))::L):=by
 refine aq (fn:=Tryd.f55) ha Tryd.func55 (by kernel_rfl) (by kernel_rfl) ?_
 refine aG (Q:=fun s=>dS.fin L bP b6 w0 n0 out s) (fun _ _ ⟨h1,dv,h2,h3⟩=>⟨h1,_,h2,dv,rfl,h3⟩) ?_
 have H:_=some out:=H
 unfold dS.f at H
 show de _ cf yR m _ ⟨.ptr bP 0 :: .agg [.int .i64 n0.kind,.int .i64 n0.int,.str n0.label,aa.fz n0.args]::mD [],[none],h⟩ _
 refine q1 <| qq ?_
 obtain⟨xy,e0,H⟩:=aH H
 obtain⟨aA,h0,e1,o0⟩:=rT (bs:=w0) w6 o e0
 refine qr [.a 6 e1] <| qq <| q0 <| qb 0 <| qq <| q0 <| qc H (fun c0 H=>?_) (fun c0 H=>?_)
 ·obtain⟨x0,e2,H⟩:=aH H
  obtain⟨fV,h1,e3,o1⟩:=pb _ _ _ e2 h0 _ _ _ (o0)  [.ptr bP 0,.int .u64 (u64.wrap n0.int)] (an (rfl) (an (aQ (bD)) (bm)))
  obtain rfl:=oi H
  exact qr [.a 4 e3] <| ⟨.inr rfl,⟨fV,by kernel_rfl,he o1⟩⟩
 ·refine q1 <| qc H (fun c1 H=>?_) (fun c1 H=>?_)
  ·refine q1 <| qc H (fun c2 H=>?_) (fun c2 H=>?_)
   ·obtain⟨x1,e4,H⟩:=aH H
    obtain⟨da,h2,e5,o2⟩:=pb _ _ _ e4 h0 _ _ _ (o0)  [.ptr bP 0,.int .u64 (u64.wrap (u64.wrap (u64.wrap (i64.wrap (0 - n0.int))*(2:Int)) - (1:Int)))] (an (rfl) (an (aQ (bD)) (bm)))
    obtain rfl:=oi H
    exact qr [.a 7 e5] <| ⟨.inr rfl,⟨da,by kernel_rfl,he o2⟩⟩
   ·obtain⟨x2,e6,H⟩:=aH H
    obtain⟨fk,h3,e7,o3⟩:=pb _ _ _ e6 h0 _ _ _ (o0)  [.ptr bP 0,.int .u64 (u64.wrap (u64.wrap n0.int*(2:Int)))] (an (rfl) (an (aQ (bD)) (bm)))
    obtain rfl:=oi H
    exact qr [.a 5 e7] <| ⟨.inr rfl,⟨fk,by kernel_rfl,he o3⟩⟩
  ·refine q1 <| qc H (fun c3 H=>?_) (fun c3 H=>?_)
   ·obtain⟨x3,e8,H⟩:=aH H
    obtain⟨gQ,h4,e9,o4⟩:=MZ _ _ _ e8 h0 _ _ _ (o0)  [.ptr bP 0,.str n0.label] (an (rfl) (an (aQ (wH)) (bm)))
    obtain rfl:=oi H
    exact qr [.a 3 e9] <| ⟨.inr rfl,⟨gQ,by kernel_rfl,he o4⟩⟩
   ·refine q1 <| qc H (fun c4 H=>?_) (fun c4 H=>?_)
    ·refine qq ?_
     obtain⟨x4,nH,H⟩:=aH H
     obtain⟨gL,h5,qS,o5⟩:=MZ _ _ _ nH h0 _ _ _ (o0)  [.ptr bP 0,.str n0.label] (an (rfl) (an (aQ (wH)) (bm)))
     refine qr [.a 3 qS] <| qq ?_
     obtain⟨x5,rX,H⟩:=aH H
     obtain⟨gM,h6,rY,o6⟩:=pb _ _ _ rX h5 _ _ _ (o5)  [.ptr bP 0,.int .u64 (u64.wrap (n0.args.length:Int))] (an (rfl) (an (aQ (bD)) (bm)))
     refine qr [.a 5 rY] <| qq <| q0 <| qb 1 ?_
     obtain⟨bq,uf,H⟩:=aH H
     refine ql (dS.bI L bP b6 w0 n0  pb ((0:Int),x5) _ _ ⟨gM,h6,by kernel_rfl,o6⟩ uf) ?_
     rintro e s ⟨rfl,x8,w2,rfl,g0,g1,g2,g3,g4,xw,h9,rfl,o9⟩
     try dsimp only at H
     obtain rfl:=oi H
     exact⟨.inr rfl,⟨xw,by kernel_rfl,he o9⟩⟩
    ·obtain rfl:=oi H
     exact qk <| ⟨.inr rfl,⟨aA,by kernel_rfl,he o0⟩⟩
end
end Go.Proofs.YtmekcfdllhphlaaDoor
namespace Go.Proofs.YtmekcfdllhphlaaDoor
open Go Go.R
open Go.IntKind (i64 u64 u8 u32)
def BY:cb:=gJ [0,2,3,4,19] [] [30,26,10,31,29,18,23,29] [] []
def jw.f (m:Nat)(r0:fl):Option (ByteArray × fl):=(bJ.f m r0).bind fun x0=>if x0.2.br=true then (some ((Wu #[]),(fl.mk x0.2.eH true))) else (if (decide (x0.1 > (x0.2.eH.length:Int)))=true then (some ((Wu #[]),(fl.mk x0.2.eH true))) else ((nA x0.2.eH (0:Int) x0.1).bind fun v0=>(nA x0.2.eH x0.1 (x0.2.eH.length:Int)).bind fun v1=>some (eO v0,(fl.mk v1 x0.2.br))))
def jw.fin (L:Mem)(aA:Nat)(r0:fl)(r:ByteArray × fl)(s:St):Prop:=aI Tryd.prog (s.open BY) Tryd.f60.results.toList=some (.str r.1)∧Has s.h ((aA,.ob [au.fz r.2.eH,.bool r.2.br])::L)
def Sd (cf:CallF)(m:Nat):Prop:=∀(r0:fl) (r:ByteArray × fl),jw.f m r0=some r→∀h L (aA:Nat),Has h ((aA,.ob [au.fz r0.eH,.bool r0.br])::L)→∀xs,xs.map ay=[.ptr aA 0]→∃h',cf 60 xs h=some (.str r.1,h')∧Has h' ((aA,.ob [au.fz r.2.eH,.bool r.2.br])::L)
section
variable {cf:CallF}{m:Nat}
theorem xb {aV:FuncId→cb}(ha:aV 60=BY)(mK:Kp cf m)(r0:fl)(h:AHeap)(L:Mem)(aA:Nat)  (o:Has h ((aA,.ob [au.fz r0.eH,.bool r0.br])::L)){out:ByteArray × fl}(H:jw.f m r0=some out) :
  ∃r h',be Tryd.prog aV cf m 60 [.ptr aA 0] h=some (r,h')∧r = .str out.1∧Has h' ((aA,.ob [au.fz out.2.eH,.bool out.2.br])::L):=by
 refine aq (fn:=Tryd.f60) ha Tryd.func60 (by kernel_rfl) (by kernel_rfl) ?_
 refine aG (Q:=fun s=>jw.fin L aA r0 out s) (fun _ _ ⟨h1,h2,h3⟩=>⟨h1,_,h2,rfl,h3⟩) ?_
 have H:_=some out:=H
 unfold jw.f at H
 show de _ cf BY m _ ⟨.ptr aA 0::qQ [],[],h⟩ _
 refine q1 <| qq ?_
 obtain⟨x0,e0,H⟩:=aH H
 obtain⟨h0,e1,o0⟩:=mK _ _ e0 h _ _ (o)  [.ptr aA 0] (an (rfl) (bm))
 refine qr [.a 1 e1] <| qq <| qq ?_
 rcases dt H with⟨c0,H⟩| ⟨c0,H⟩
 ·refine qr [.v 3 (show bj Tryd.prog h0 4 (.ptr aA 1)=some (.bool x0.2.br) from ca (q:=0) (cs:=[au.fz x0.2.eH,.bool x0.2.br]) o0 rfl (by kernel_rfl)),.b 4 c0] <| mX <| qq ?_
  obtain⟨h1,e2,o1⟩:=kz (P:=Tryd.prog) (t:=4) (off:=1) (q:=0) (cs:=[au.fz x0.2.eH,.bool x0.2.br]) (fA:=[au.fz x0.2.eH,.bool true]) (x:=.bool true) o0 rfl (by kernel_rfl)
  obtain rfl:=oi H
  exact qr [.w 3 e2] <| qq <| q0 <| qt <| ⟨.inl rfl,⟨by kernel_rfl,he o1⟩⟩
 ·refine qr [.v 3 (show bj Tryd.prog h0 4 (.ptr aA 1)=some (.bool x0.2.br) from ca (q:=0) (cs:=[au.fz x0.2.eH,.bool x0.2.br]) o0 rfl (by kernel_rfl)),.b 4 c0,.v 9 (show bj Tryd.prog h0 25 (.ptr aA 0)=some (au.fz x0.2.eH) from ca (q:=0) (cs:=[au.fz x0.2.eH,.bool x0.2.br]) o0 rfl (by kernel_rfl))] <| qc H (fun c2 H=>?_) (fun c2 H=>?_)
  ·refine qq ?_
   obtain⟨h2,e3,o2⟩:=kz (P:=Tryd.prog) (t:=4) (off:=1) (q:=0) (cs:=[au.fz x0.2.eH,.bool x0.2.br]) (fA:=[au.fz x0.2.eH,.bool true]) (x:=.bool true) o0 rfl (by kernel_rfl)
   obtain rfl:=oi H
   exact qr [.w 3 e3] <| qq <| q0 <| qt <| ⟨.inl rfl,⟨by kernel_rfl,he o2⟩⟩
  ·refine qk <| qq ?_
   obtain⟨v0,e4,H⟩:=aH H
   refine qr [.v 3 (show bj Tryd.prog h0 25 (.ptr aA 0)=some (au.fz x0.2.eH) from ca (q:=0) (cs:=[au.fz x0.2.eH,.bool x0.2.br]) o0 rfl (by kernel_rfl)),.v 5 (show eG Tryd.prog 25 (au.fz x0.2.eH) none (some (.int .i64 x0.1)) none=some (au.fz v0) from Bl (E:=au) HJ e4),.v 6 (show gR Tryd.prog h0 25 9 (au.fz v0)=some (.str (eO v0)) from Ab (e:=5) (l:=v0) rfl rfl rfl (EF _))] <| qq ?_
   obtain⟨v1,e5,H⟩:=aH H
   obtain⟨h3,e6,o3⟩:=kz (P:=Tryd.prog) (t:=25) (off:=0) (q:=0) (cs:=[au.fz x0.2.eH,.bool x0.2.br]) (fA:=[au.fz v1,.bool x0.2.br]) (x:=au.fz v1) o0 rfl (by kernel_rfl)
   obtain rfl:=oi H
   exact qr [.v 4 (show bj Tryd.prog h0 25 (.ptr aA 0)=some (au.fz x0.2.eH) from ca (q:=0) (cs:=[au.fz x0.2.eH,.bool x0.2.br]) o0 rfl (by kernel_rfl)),.v 6 (show eG Tryd.prog 25 (au.fz x0.2.eH) (some (.int .i64 x0.1)) none none=some (au.fz v1) from wF (E:=au) HJ e5),.w 9 e6] <| qq <| q0 <| qt <| ⟨.inl rfl,⟨by kernel_rfl,he o3⟩⟩
end
end Go.Proofs.YtmekcfdllhphlaaDoor
namespace Go.Proofs.YtmekcfdllhphlaaDoor
open Go Go.R
open Go.IntKind (i64 u64 u8 u32)
def vt:cb:=gJ [0,2,3,4,5,11,15,20,29,35,40,48,53,54,55] [2,3] [32764,32760,32728,32761,32664,32761,32600,32753,32753,32497,32761,32216,32761,31736,32760,32744,30696,32744,20472,4088,20472,20472,32765] [(22,[(3,some 3,0)])] [(1,[(3,some 3,1)])]
def cV.l0 (m:Nat)(x5:Int × fl):Nat→Int→Int→Int→ByteArray→(List Int)→fl→Option (Int × Int × Int × ByteArray × (List Int) × fl)
 | 0,_,_,_,_,_,_=>none
 | k+1,x6,n0,n1,n2,n3,r1=>if (decide (x6<(mn x5.1 (8:Int))))=true then ((bJ.f m r1).bind fun x7=>(app 8 n3 ([x7.1])).bind fun x8=>cV.l0 m x5 k (i64.wrap (x6+(1:Int))) n0 n1 n2 x8 x7.2) else (some ((x6,n0,n1,n2,n3,r1)))
def cV.l1 (m:Nat)(x5:Int × fl):Nat→Int→Int→Int→ByteArray→(List Int)→fl→Option (Int × Int × Int × ByteArray × (List Int) × fl)
 | 0,_,_,_,_,_,_=>none
 | k+1,lk,n8,n9,FV,AB,r3=>if (decide (lk<(mn x5.1 (8:Int))))=true then ((bJ.f m r3).bind fun BR=>(app 8 AB ([BR.1])).bind fun HM=>cV.l1 m x5 k (i64.wrap (lk+(1:Int))) n8 n9 FV HM BR.2) else (some ((lk,n8,n9,FV,AB,r3)))
def cV.f (m:Nat)(r0:fl):Option (ab × fl):=(ju.f m r0).bind fun x0=>if ((i64.wrap x0.1)==(0:Int))=true then ((bJ.f m x0.2).bind fun x1=>some ((ab.mk (i64.wrap x0.1) x1.1 (Wu #[]) ([]:List Int)),x1.2)) else (if ((i64.wrap x0.1)==(1:Int))=true then ((bJ.f m x0.2).bind fun x2=>if ((Int.tmod x2.1 (2:Int))==(1:Int))=true then (some ((ab.mk (i64.wrap x0.1) (i64.wrap (0 - (i64.wrap (i64.wrap (Int.tdiv x2.1 (2:Int))+(1:Int))))) (Wu #[]) ([]:List Int)),x2.2)) else (some ((ab.mk (i64.wrap x0.1) (i64.wrap (Int.tdiv x2.1 (2:Int))) (Wu #[]) ([]:List Int)),x2.2))) else (if ((i64.wrap x0.1)==(2:Int))=true then ((jw.f m x0.2).bind fun x3=>some ((ab.mk (i64.wrap x0.1) (0:Int) x3.1 ([]:List Int)),x3.2)) else (if ((i64.wrap x0.1)==(3:Int))=true then ((jw.f m x0.2).bind fun x4=>(bJ.f m x4.2).bind fun x5=>if (decide (x5.1 > (8:Int)))=true then ((cV.l0 m x5 m (0:Int) (i64.wrap x0.1) (0:Int) x4.1 ([]:List Int) (fl.mk x5.2.eH true)).bind fun bq=>match bq with | (x9,n4,n5,n6,n7,r2)=>some ((ab.mk n4 n5 n6 n7),r2)) else ((cV.l1 m x5 m (0:Int) (i64.wrap x0.1) (0:Int) x4.1 ([]:List Int) x5.2).bind fun b9=>match b9 with | (Aw,Se,Sf,Sh,P4,r4)=>some ((ab.mk Se Sf Sh P4),r4))) else (some ((ab.mk (i64.wrap x0.1) (0:Int) (Wu #[]) ([]:List Int)),(fl.mk x0.2.eH true))))))
def cV.fin (L:Mem)(aA:Nat)(r0:fl)(r:ab × fl)(s:St):Prop:=aI Tryd.prog (s.open vt) Tryd.f44.results.toList=some (.agg [.int .i64 r.1.kind,.int .i64 r.1.int,.str r.1.label,aa.fz r.1.args])∧Has s.h ((aA,.ob [au.fz r.2.eH,.bool r.2.br])::L)
def N4 (cf:CallF)(m:Nat):Prop:=∀(r0:fl) (r:ab × fl),cV.f m r0=some r→∀h L (aA:Nat),Has h ((aA,.ob [au.fz r0.eH,.bool r0.br])::L)→∀xs,xs.map ay=[.ptr aA 0]→∃h',cf 44 xs h=some (.agg [.int .i64 r.1.kind,.int .i64 r.1.int,.str r.1.label,aa.fz r.1.args],h')∧Has h' ((aA,.ob [au.fz r.2.eH,.bool r.2.br])::L)
section
variable {cf:CallF}{m:Nat}
theorem cV.bI (L:Mem)(aA:Nat)(r0:fl)(x5:Int × fl)  (mK:Kp cf m):bE Tryd.prog cf vt m (sub [1,1,0,1,0,1,1,1,1,1,1,1,0,1,1,1,1,0,0] (codeOf Tryd.f44)) (fun k (σ:Int × Int × Int × ByteArray × (List Int) × fl)=>cV.l0 m x5 k σ.1 σ.2.1 σ.2.2.1 σ.2.2.2.1 σ.2.2.2.2.1 σ.2.2.2.2.2) (fun σ s=>match σ with | (x6,n0,n1,n2,n3,r1)=>∃fV h11,s=⟨.ptr aA 0 :: .lp 2 0 :: .lp 3 0::C3 [.int .i64 (mn x5.1 (8:Int)),.int .i64 x6,.any],[some [.int .i64 (0:Int),.int .i64 (0:Int),.str (Wu #[]),.nils],some [.int .i64 n0,.int .i64 n1,.str n2,.rs fV 0 n3.length 1]],h11⟩∧Has h11 ((aA,.ob [au.fz r1.eH,.bool r1.br])::(fV,.sl n3.length 1 (aa.l n3))::L)) (fun out e s=>(e = .exit 1∧∃x6 n0 n1 n2 n3 r1,(x6,n0,n1,n2,n3,r1)=out∧∃kC FI FJ FK fV h11,s=⟨kC :: .lp 2 0 :: .lp 3 0::C3 [FI,FJ,FK],[some [.int .i64 (0:Int),.int .i64 (0:Int),.str (Wu #[]),.nils],some [.int .i64 n0,.int .i64 n1,.str n2,.rs fV 0 n3.length 1]],h11⟩∧Has h11 ((aA,.ob [au.fz r1.eH,.bool r1.br])::(fV,.sl n3.length 1 (aa.l n3))::L))):=by
 refine gP (fun _=>rfl) ?_
 rintro k ⟨x6,n0,n1,n2,n3,r1⟩ s out ⟨fV,h11,rfl,tq⟩ H
 have H:cV.l0 m x5 (k+1) x6 n0 n1 n2 n3 r1=some out:=H
 refine q1 <| qq <| qc H (fun c6 H=>?_) (fun c6 H=>?_)
 ·refine qk <| qq <| qb 2 ?_
  obtain⟨x7,uf,H⟩:=aH H
  obtain⟨h12,yD,ly⟩:=mK _ _ uf h11 _ _ (tq)  [.ptr aA 0] (an (rfl) (bm))
  obtain⟨x8,uD,H⟩:=aH H
  obtain⟨da,h13,zw,yv⟩:=fD (P:=Tryd.prog) (E:=aa) (l:=n3) (q:=1) (t2:=42) (x:=.fz [.int .i64 x7.1] 1 true) (l2:=([x7.1])) dz ly rfl (by kernel_rfl) rfl uD
  exact qr [.a 3 yD,.a 5 zw] <| q0 <| ⟨(i64.wrap (x6+(1:Int)),n0,n1,n2,x8,x7.2),⟨da,h13,by kernel_rfl,yv⟩,H⟩
 ·exact qx 1 <| ⟨rfl,x6,n0,n1,n2,n3,r1,oi H,.ptr aA 0,.int .i64 (mn x5.1 (8:Int)),.int .i64 x6,.bool (decide (x6<(mn x5.1 (8:Int)))),fV,h11,by kernel_rfl,tq⟩
theorem cV.eQ (L:Mem)(aA:Nat)(r0:fl)(x5:Int × fl)  (mK:Kp cf m):bE Tryd.prog cf vt m (sub [1,1,0,1,0,1,1,1,1,1,1,1,0,1,1,1,1,0,0] (codeOf Tryd.f44)) (fun k (σ:Int × Int × Int × ByteArray × (List Int) × fl)=>cV.l1 m x5 k σ.1 σ.2.1 σ.2.2.1 σ.2.2.2.1 σ.2.2.2.2.1 σ.2.2.2.2.2) (fun σ s=>match σ with | (lk,n8,n9,FV,AB,r3)=>∃gQ h16,s=⟨.ptr aA 0 :: .lp 2 0 :: .lp 3 0::C3 [.int .i64 (mn x5.1 (8:Int)),.int .i64 lk,.any],[some [.int .i64 (0:Int),.int .i64 (0:Int),.str (Wu #[]),.nils],some [.int .i64 n8,.int .i64 n9,.str FV,.rs gQ 0 AB.length 1]],h16⟩∧Has h16 ((aA,.ob [au.fz r3.eH,.bool r3.br])::(gQ,.sl AB.length 1 (aa.l AB))::L)) (fun out e s=>(e = .exit 1∧∃lk n8 n9 FV AB r3,(lk,n8,n9,FV,AB,r3)=out∧∃kC FI FJ FK gQ h16,s=⟨kC :: .lp 2 0 :: .lp 3 0::C3 [FI,FJ,FK],[some [.int .i64 (0:Int),.int .i64 (0:Int),.str (Wu #[]),.nils],some [.int .i64 n8,.int .i64 n9,.str FV,.rs gQ 0 AB.length 1]],h16⟩∧Has h16 ((aA,.ob [au.fz r3.eH,.bool r3.br])::(gQ,.sl AB.length 1 (aa.l AB))::L))):=by
 refine gP (fun _=>rfl) ?_
 rintro k ⟨lk,n8,n9,FV,AB,r3⟩ s out ⟨gQ,h16,rfl,Am⟩ H
 have H:cV.l1 m x5 (k+1) lk n8 n9 FV AB r3=some out:=H
 refine q1 <| qq <| qc H (fun c7 H=>?_) (fun c7 H=>?_)
 ·refine qk <| qq <| qb 2 ?_
  obtain⟨BR,Fe,H⟩:=aH H
  obtain⟨h17,DK,Di⟩:=mK _ _ Fe h16 _ _ (Am)  [.ptr aA 0] (an (rfl) (bm))
  obtain⟨HM,Ff,H⟩:=aH H
  obtain⟨gL,h18,Fj,Dj⟩:=fD (P:=Tryd.prog) (E:=aa) (l:=AB) (q:=1) (t2:=42) (x:=.fz [.int .i64 BR.1] 1 true) (l2:=([BR.1])) dz Di rfl (by kernel_rfl) rfl Ff
  exact qr [.a 3 DK,.a 5 Fj] <| q0 <| ⟨(i64.wrap (lk+(1:Int)),n8,n9,FV,HM,BR.2),⟨gL,h18,by kernel_rfl,Dj⟩,H⟩
 ·exact qx 1 <| ⟨rfl,lk,n8,n9,FV,AB,r3,oi H,.ptr aA 0,.int .i64 (mn x5.1 (8:Int)),.int .i64 lk,.bool (decide (lk<(mn x5.1 (8:Int)))),gQ,h16,by kernel_rfl,Am⟩
theorem xc {aV:FuncId→cb}(ha:aV 44=vt)(mK:Kp cf m)(FR:N2 cf m)(M0:Sd cf m)(r0:fl)(h:AHeap)(L:Mem)(aA:Nat)  (o:Has h ((aA,.ob [au.fz r0.eH,.bool r0.br])::L)){out:ab × fl}(H:cV.f m r0=some out) :
  ∃r h',be Tryd.prog aV cf m 44 [.ptr aA 0] h=some (r,h')∧r = .agg [.int .i64 out.1.kind,.int .i64 out.1.int,.str out.1.label,aa.fz out.1.args]∧Has h' ((aA,.ob [au.fz out.2.eH,.bool out.2.br])::L):=by
 refine aq (fn:=Tryd.f44) ha Tryd.func44 (by kernel_rfl) (by kernel_rfl) ?_
 refine aG (Q:=fun s=>cV.fin L aA r0 out s) (fun _ _ ⟨h1,h2,h3⟩=>⟨h1,_,h2,rfl,h3⟩) ?_
 have H:_=some out:=H
 unfold cV.f at H
 show de _ cf vt m _ ⟨.ptr aA 0::pS [],[none,none],h⟩ _
 refine q1 <| qq ?_
 obtain⟨x0,e0,H⟩:=aH H
 obtain⟨h0,e1,o0⟩:=FR _ _ e0 h _ _ (o)  [.ptr aA 0] (an (rfl) (bm))
 refine qr [.a 1 e1] ?_
 have o1:Has h0 (((0),.sl (([]:List Int).length) 1 (aa.l ([]:List Int)))::(aA,.ob [au.fz x0.2.eH,.bool x0.2.br])::L):=Has.nil o0 1
 refine qq <| qq <| q0 <| qb 0 <| qq <| q0 <| qc H (fun c0 H=>?_) (fun c0 H=>?_)
 ·obtain⟨x1,e2,H⟩:=aH H
  obtain⟨h1,e3,o2⟩:=mK _ _ e2 h0 _ _ ((Has.front (Has.front o1 0 rfl) 1 rfl))  [.ptr aA 0] (an (rfl) (bm))
  refine qr [.a 1 e3] <| qq ?_
  obtain⟨h2,e4,o3⟩:=iz (E:=aa) (l:=([]:List Int)) (q:=1) o2 rfl
  obtain rfl:=oi H
  exact yr [.a 0 e4] [] <| qt <| ⟨.inl rfl,⟨by kernel_rfl,he o3⟩⟩
 ·refine q1 <| qc H (fun c1 H=>?_) (fun c1 H=>?_)
  ·refine qq ?_
   obtain⟨x2,e5,H⟩:=aH H
   obtain⟨h3,e6,o4⟩:=mK _ _ e5 h0 _ _ ((Has.front (Has.front o1 0 rfl) 1 rfl))  [.ptr aA 0] (an (rfl) (bm))
   refine qr [.a 1 e6] <| qq <| q0 <| qq <| q0 <| qc H (fun c2 H=>?_) (fun c2 H=>?_)
   ·refine q0 <| qq ?_
    obtain⟨h4,e7,o5⟩:=iz (E:=aa) (l:=([]:List Int)) (q:=1) o4 rfl
    obtain rfl:=oi H
    exact yr [.a 0 e7] [] <| qt <| ⟨.inl rfl,⟨by kernel_rfl,he o5⟩⟩
   ·refine qk <| qq ?_
    obtain⟨h5,e8,o6⟩:=iz (E:=aa) (l:=([]:List Int)) (q:=1) o4 rfl
    obtain rfl:=oi H
    exact yr [.a 0 e8] [] <| qt <| ⟨.inl rfl,⟨by kernel_rfl,he o6⟩⟩
  ·refine q1 <| qc H (fun c3 H=>?_) (fun c3 H=>?_)
   ·obtain⟨x3,e9,H⟩:=aH H
    obtain⟨h6,nH,o7⟩:=M0 _ _ e9 h0 _ _ ((Has.front (Has.front o1 0 rfl) 1 rfl))  [.ptr aA 0] (an (rfl) (bm))
    refine qr [.a 1 nH] <| qq ?_
    obtain⟨h7,qS,o8⟩:=iz (E:=aa) (l:=([]:List Int)) (q:=1) o7 rfl
    obtain rfl:=oi H
    exact yr [.a 0 qS] [] <| qt <| ⟨.inl rfl,⟨by kernel_rfl,he o8⟩⟩
   ·refine q1 <| qc H (fun c4 H=>?_) (fun c4 H=>?_)
    ·refine qq ?_
     obtain⟨x4,rX,H⟩:=aH H
     obtain⟨h8,rY,o9⟩:=M0 _ _ rX h0 _ _ ((Has.front (Has.front o1 0 rfl) 1 rfl))  [.ptr aA 0] (an (rfl) (bm))
     refine qr [.a 1 rY] <| qq ?_
     obtain⟨x5,qT,H⟩:=aH H
     obtain⟨h9,pX,uA⟩:=mK _ _ qT h8 _ _ (o9)  [.ptr aA 0] (an (rfl) (bm))
     refine qr [.a 1 pX] <| qq <| qq <| q0 <| qc H (fun c5 H=>?_) (fun c5 H=>?_)
     ·obtain⟨h10,uC,vk⟩:=kz (P:=Tryd.prog) (t:=4) (off:=1) (q:=0) (cs:=[au.fz x5.2.eH,.bool x5.2.br]) (fA:=[au.fz x5.2.eH,.bool true]) (x:=.bool true) uA rfl (by kernel_rfl)
      refine qr [.w 3 uC] <| qq <| q0 <| qb 1 ?_
      obtain⟨bq,BG,H⟩:=aH H
      refine ql (cV.bI L aA r0 x5  mK ((0:Int),i64.wrap x0.1,(0:Int),x4.1,([]:List Int),(fl.mk x5.2.eH true)) _ _ ⟨(0),h10,by kernel_rfl,vk⟩ BG) ?_
      rintro e s ⟨rfl,x9,n4,n5,n6,n7,r2,rfl,g0,g1,g2,g3,fk,h14,rfl,zu⟩
      try dsimp only at H
      refine qq ?_
      obtain⟨h15,DJ,lC⟩:=iz (E:=aa) (l:=n7) (q:=1) zu rfl
      obtain rfl:=oi H
      exact yr [.a 0 DJ] [] <| qt <| ⟨.inl rfl,⟨by kernel_rfl,he lC⟩⟩
     ·refine qk <| qq <| q0 <| qb 1 ?_
      obtain⟨b9,GX,H⟩:=aH H
      refine ql (cV.eQ L aA r0 x5  mK ((0:Int),i64.wrap x0.1,(0:Int),x4.1,([]:List Int),x5.2) _ _ ⟨(0),h9,by kernel_rfl,uA⟩ GX) ?_
      rintro e s ⟨rfl,Aw,Se,Sf,Sh,P4,r4,rfl,g4,g5,g6,g7,gM,h19,rfl,Kh⟩
      try dsimp only at H
      refine qq ?_
      obtain⟨h20,Fh,wX⟩:=iz (E:=aa) (l:=P4) (q:=1) Kh rfl
      obtain rfl:=oi H
      exact yr [.a 0 Fh] [] <| qt <| ⟨.inl rfl,⟨by kernel_rfl,he wX⟩⟩
    ·obtain⟨h21,Fi,FA⟩:=kz (P:=Tryd.prog) (t:=4) (off:=1) (q:=1) (cs:=[au.fz x0.2.eH,.bool x0.2.br]) (fA:=[au.fz x0.2.eH,.bool true]) (x:=.bool true) o1 rfl (by kernel_rfl)
     refine qr [.w 3 Fi] <| qq ?_
     obtain⟨h22,Fg,DM⟩:=iz (E:=aa) (l:=([]:List Int)) (q:=0) FA rfl
     obtain rfl:=oi H
     exact yr [.a 0 Fg] [] <| qt <| ⟨.inl rfl,⟨by kernel_rfl,he DM⟩⟩
end
end Go.Proofs.YtmekcfdllhphlaaDoor
namespace Go.Proofs.YtmekcfdllhphlaaDoor
open Go Go.R
open Go.IntKind (i64 u64 u8 u32)
theorem xd (s:ByteArray):eO (eP s)=s:=by
 unfold eO eP
 rw [List.map_map]
 have:(List.map ((fun n:Int=>UInt8.ofNat n.toNat)∘fun b:UInt8=>(b.toNat:Int)) s.data.toList)=s.data.toList:=by
  conv=>rhs; rw [←List.map_id s.data.toList]
  apply Xc
  intro b _
  simp
 rw [this]
theorem iD (s:ByteArray):(eP s).length=s.size:=by simp [eP]
theorem yS:∀(k n:Nat),n<128 ^ (k+1)→(dI n).length≤k+1
 | k,n,h=>by
  by_cases h1:n<128
  ·rw [kU h1]; simp
  ·cases k with
   | zero=>simp at h; omega
   | succ k=>
    have hd:n / 128<128 ^ (k+1):=by
     rw [Nat.div_lt_iff_lt_mul (by omega)]
     calc n<128 ^ (k+1+1):=h
      _=_:=by rw [Nat.pow_succ]
    have:=yS k (n / 128) hd
    rw [oJ h1]; simp; omega
theorem dM {n:Nat}(h:n<2 ^ 64):(dI n).length≤10:=yS 9 n (by omega)
def nM (s:ByteArray):List Int:=dI s.size++eP s
theorem IQ {m:Nat}{w:List Int}{s:ByteArray}(hm:11≤m)(hs:s.size≠0)(hw:w≠[])(hl:w.length+s.size+20≤140737488355328):jv.f m w s=some (w++nM s):=by
 unfold jv.f
 have h1:s.size<2 ^ 64:=by omega
 have h2:=dM h1
 rw [hU (by omega) (by omega),yQ hm h1 hw (by omega),V3,me (by simp [hw]) (fun h=>hs (by rw [←iD,h]; rfl)) (by simp [iD]; omega),V3,Wg]
 rfl
theorem IS {m:Nat}{s:ByteArray}{rest:List Int}(hm:11≤m)(hl:s.size<2 ^ 63):jw.f m ⟨nM s++rest,false⟩=some (s,⟨rest,false⟩):=by
 unfold jw.f nM
 rw [Wg,AA hm hl,V3,if_neg (by simp)]
 dsimp only
 have hlen:=iD s
 rw [if_neg (by simp [hlen]; omega)]
 have h1:nA (eP s++rest) 0 (s.size:Int)=some (eP s):=by
  unfold nA
  rw [if_pos ⟨Int.le_refl _,by omega,by simp [hlen]; omega⟩]
  simp [←hlen]
 have h2:nA (eP s++rest) (s.size:Int) ((eP s++rest).length:Int)=some rest:=by
  unfold nA
  rw [if_pos ⟨by omega,by simp [hlen]; omega,Int.le_refl _⟩,←hlen]
  simp only [V9,List.drop_left]
  rw [WH (by simp)]
 rw [h1,V3,h2,V3,xd]
structure tJ (n:ab):Prop where
 kind:n.kind=0∧(0≤n.int∧n.int<2 ^ 63)∧n.label=Wu #[]∧n.args=[]∨n.kind=1∧(-(2 ^ 62)≤n.int∧n.int<2 ^ 62)∧n.label=Wu #[]∧n.args=[]∨n.kind=2∧n.int=0∧n.args=[]∨n.kind=3∧n.int=0
 label:2≤n.kind→n.label.size≠0∧n.label.size<2 ^ 40
 args:n.args.length≤8∧∀a∈n.args,0≤a∧a<2 ^ 63
def xz (x:Int):Nat:=if x<0 then ((-x)*2 - 1).toNat else (x*2).toNat
def dq (n:ab):List Int:=
 n.kind::(if n.kind=0 then dI n.int.toNat else if n.kind=1 then dI (xz n.int) else if n.kind=2 then nM n.label else nM n.label++dI n.args.length++(n.args.map fun a=>dI a.toNat).flatten)
theorem IT {m:Nat}(hm:11≤m)(n0:ab)(ha:∀a∈n0.args,0≤a∧a<2 ^ 63)(hlen:n0.args.length≤8):∀(l:List Int) (f i:Nat) (w:List Int),l.length<f→n0.args.drop i=l→i≤8→w≠[]→w.length+20*l.length+20≤140737488355328→
  ∃x,dS.l0 m n0 f (i:Int) w=some (x,w++(l.map fun a=>dI a.toNat).flatten)
 | l,0,i,w,hf,_,_,_,_=>absurd hf (by omega)
 | [],f+1,i,w,hf,hd,hi,hw,hl=>by
  have:n0.args.length≤i:=by
   have:=congrArg List.length hd
   simp at this
   omega
  refine⟨i,?_⟩
  unfold dS.l0
  rw [if_neg (by simp; omega)]
  simp
 | a::l,f+1,i,w,hf,hd,hi,hw,hl=>by
  have G7:i<n0.args.length:=by
   have:=congrArg List.length hd
   simp at this
   omega
  have hg:n0.args[i]? = some a:=by
   have:=congrArg (·[0]?) hd
   simpa using this
  have Un:a∈n0.args:=W8 hg
  obtain⟨h1,h2⟩:=ha a Un
  obtain⟨b,rfl⟩:∃b:Nat,a=(b:Int):=⟨a.toNat,by omega⟩
  have Uo:n0.args.drop (i+1)=l:=by
   rw [←List.tail_drop,hd]; rfl
  have e1:(dI b).length≤10:=dM (by omega)
  simp only [Wp] at hf hl
  obtain⟨x,ih⟩:=IT hm n0 ha hlen l f (i+1) (w++dI b) (by omega) Uo (by omega) (by simp [hw]) (by simp; omega)
  refine⟨x,?_⟩
  unfold dS.l0
  have Kj:ix n0.args (i:Int)=some (b:Int):=by unfold ix; rw [if_pos (by omega)]; exact hg
  rw [if_pos (by simp; omega),Kj,V3,hU h1 (by omega),yQ hm (by omega) hw (by omega),V3,aC (by omega) (by omega)]
  rw [show ((i:Int)+1)=((i+1:Nat):Int) by omega]
  rw [ih,Wo,List.flatten_cons,Wg,V9]
end Go.Proofs.YtmekcfdllhphlaaDoor
namespace Go.Proofs.YtmekcfdllhphlaaDoor
open Go Go.R
open Go.IntKind (i64 u64 u8 u32)
theorem HV {x:Int}(h:x<0)(h2 : -(2 ^ 62)≤x):u64.wrap (u64.wrap (u64.wrap (i64.wrap (0 - x))*2) - 1)=(xz x:Int):=by
 have:(2:Int) ^ 62=4611686018427387904:=by decide
 rw [aC (by omega) (by omega),hU (x:=0 - x) (by omega) (by omega),hU (x:=(0 - x)*2) (by omega) (by omega),hU (by omega) (by omega)]
 unfold xz
 rw [if_pos h]
 omega
theorem HW {x:Int}(h:¬x<0)(h2:x<2 ^ 62):u64.wrap (u64.wrap x*2)=(xz x:Int):=by
 have:(2:Int) ^ 62=4611686018427387904:=by decide
 rw [hU (x:=x) (by omega) (by omega),hU (by omega) (by omega)]
 unfold xz
 rw [if_neg h]
 omega
theorem AD {x:Int}(h1 : -(2 ^ 62)≤x)(h2:x<2 ^ 62):xz x<2 ^ 63:=by
 have:(2:Int) ^ 62=4611686018427387904:=by decide
 have:(2:Nat) ^ 63=9223372036854775808:=by decide
 unfold xz
 split<;>omega
theorem M3 {m:Nat}{w:List Int}{n:ab}(hm:11≤m)(W:tJ n)(hl:w.length+n.label.size+1000≤140737488355328)(hw:w≠[]):dS.f m w n=some (w++dq n):=by
 have G1:(2:Nat) ^ 63=9223372036854775808:=by decide
 have Si:(2:Int) ^ 63=9223372036854775808:=by decide
 have P6:(2:Nat) ^ 64=18446744073709551616:=by decide
 have hk:0≤n.kind∧n.kind≤3:=by rcases W.kind with h | h | h | h<;>(have:=h.1; omega)
 unfold dS.f
 rw [mz,show n.kind % 256=n.kind by omega,me hw (by simp) (by simp; omega),V3]
 rcases W.kind with⟨h,hi,_,_⟩| ⟨h,hi,_,_⟩| ⟨h,hi,_⟩| ⟨h,hi⟩
 ·obtain⟨b,hb⟩:∃b:Nat,n.int=(b:Int):=⟨n.int.toNat,by omega⟩
  rw [show dq n=0::dI b by simp [dq,h,hb],h,if_pos (by decide),hU (by omega) (by omega),hb,yQ hm (by omega) (by simp) (by simp; omega),V3]
  simp
 ·have hz:=AD hi.1 hi.2
  rw [show dq n=1::dI (xz n.int) by simp [dq,h],h,if_neg (by decide),if_pos (by decide)]
  by_cases hn:n.int<0
  ·rw [if_pos (by simpa using hn),HV hn hi.1,yQ hm (by omega) (by simp) (by simp; omega),V3]
   simp
  ·rw [if_neg (by simpa using hn),HW hn hi.2,yQ hm (by omega) (by simp) (by simp; omega),V3]
   simp
 ·obtain⟨g1,g2⟩:=W.label (by omega)
  rw [show dq n=2::nM n.label by simp [dq,h],h,if_neg (by decide),if_neg (by decide),if_pos (by decide),IQ hm g1 (by simp) (by simp; omega),V3]
  simp
 ·obtain⟨g1,g2⟩:=W.label (by omega)
  obtain⟨g3,g4⟩:=W.args
  have e1:(nM n.label).length≤10+n.label.size:=by
   unfold nM
   have:=dM (n:=n.label.size) (by omega)
   simp [iD]; omega
  have e2:(dI n.args.length).length≤10:=dM (by omega)
  rw [show dq n=3::(nM n.label++dI n.args.length++(n.args.map fun a=>dI a.toNat).flatten) by simp [dq,h],h,if_neg (by decide),if_neg (by decide),if_neg (by decide),if_pos (by decide),IQ hm g1 (by simp) (by simp; omega),V3,
   hU (by omega) (by omega),yQ hm (by omega) (by simp) (by simp; omega),V3]
  obtain⟨x,hx⟩:=IT hm n g4 g3 n.args m 0 (w++[3]++nM n.label++dI n.args.length) (by omega) rfl (by omega) (by simp) (by simp; omega)
  have hx:dS.l0 m n m (0:Int) (w++[3]++nM n.label++dI n.args.length)=_:=hx
  rw [hx,V3]
  simp
theorem IU {m:Nat}(hm:11≤m)(x5:Int × fl)(k0:Int)(lb:ByteArray)(rest:List Int)(hx:0≤x5.1∧x5.1≤8):∀(l:List Int) (f i:Nat) (acc:List Int),l.length<f→(i:Int)+l.length=x5.1→acc.length+l.length≤8→(∀a∈l,0≤a∧a<2 ^ 63)→
  ∃x,cV.l1 m x5 f (i:Int) k0 0 lb acc ⟨(l.map fun a=>dI a.toNat).flatten++rest,false⟩=some (x,k0,0,lb,acc++l,⟨rest,false⟩)
 | l,0,i,acc,hf,_,_,_=>absurd hf (by omega)
 | [],f+1,i,acc,hf,hi,ha,hl=>by
  refine⟨i,?_⟩
  unfold cV.l1
  simp only [WY] at hi
  rw [if_neg (by unfold mn; simp; split<;>omega)]
  simp
 | a::l,f+1,i,acc,hf,hi,ha,hl=>by
  simp only [Wp] at hf hi ha
  have Si:(2:Int) ^ 63=9223372036854775808:=by decide
  have G1:(2:Nat) ^ 63=9223372036854775808:=by decide
  obtain⟨h1,h2⟩:=hl a (by simp)
  obtain⟨b,rfl⟩:∃b:Nat,a=(b:Int):=⟨a.toNat,by omega⟩
  obtain⟨x,ih⟩:=IU hm x5 k0 lb rest hx l f (i+1) (acc++[(b:Int)]) (by omega) (by omega) (by simp; omega) (fun c hc=>hl c (by simp [hc]))
  refine⟨x,?_⟩
  unfold cV.l1
  rw [if_pos (by unfold mn; simp; split<;>omega),Wo,List.flatten_cons,Wg,V9,AA hm (by omega),V3]
  have la:app 8 acc [(b:Int)]=some (acc++[(b:Int)]):=by unfold app; rw [if_pos (by simp; omega)]
  dsimp only
  rw [la,V3,aC (by omega) (by omega),show ((i:Int)+1)=((i+1:Nat):Int) by omega,ih]
  simp
end Go.Proofs.YtmekcfdllhphlaaDoor
namespace Go.Proofs.YtmekcfdllhphlaaDoor
open Go Go.R
open Go.IntKind (i64 u64 u8 u32)
theorem FW {x:Int}(h:¬x<0)(h2:x<2 ^ 62):¬(Int.tmod (xz x:Int) 2==1)=true∧i64.wrap (Int.tdiv (xz x:Int) 2)=x:=by
 have hz:(xz x:Int)=x*2:=by unfold xz; rw [if_neg h]; omega
 rw [hz,Int.mul_tmod_left,Int.mul_tdiv_cancel _ (by decide),aC (by omega) (by omega)]
 exact⟨by decide,rfl⟩
theorem HX {x:Int}(h:x<0)(h2 : -(2 ^ 62)≤x):(Int.tmod (xz x:Int) 2==1)=true∧i64.wrap (0 - i64.wrap (i64.wrap (Int.tdiv (xz x:Int) 2)+1))=x:=by
 have hz:(xz x:Int)=((-x - 1).toNat*2+1:Nat):=by unfold xz; rw [if_pos h]; omega
 have h3:Int.tmod (((-x - 1).toNat*2+1:Nat):Int) 2=1:=by
  rw [Int.tmod_eq_emod_of_nonneg (by omega)]; omega
 have h4:Int.tdiv (((-x - 1).toNat*2+1:Nat):Int) 2 = -x - 1:=by
  rw [Int.tdiv_eq_ediv_of_nonneg (by omega)]; omega
 rw [hz,h3,h4,aC (x:=-x - 1) (by omega) (by omega),aC (x:=-x - 1+1) (by omega) (by omega),aC (by omega) (by omega)]
 exact⟨by decide,by omega⟩
theorem M4 {m:Nat}{n:ab}{rest:List Int}(hm:11≤m)(W:tJ n):cV.f m ⟨dq n++rest,false⟩=some (n,⟨rest,false⟩):=by
 have G1:(2:Nat) ^ 63=9223372036854775808:=by decide
 have Si:(2:Int) ^ 63=9223372036854775808:=by decide
 obtain⟨kd,nt,lb,HY⟩:=n
 unfold cV.f
 rcases W.kind with⟨h,hi,M8,ha⟩| ⟨h,hi,M8,ha⟩| ⟨h,hi,ha⟩| ⟨h,hi⟩
 ·simp only at h hi M8 ha
  subst h M8 ha
  obtain⟨b,rfl⟩:∃b:Nat,nt=(b:Int):=⟨nt.toNat,by omega⟩
  rw [show dq ⟨0,(b:Int),Wu #[],[]⟩=0::dI b by simp [dq],Wt,vq,V3]
  dsimp only
  rw [aC (by omega) (by omega),if_pos (by decide),AA hm (by omega),V3]
 ·simp only at h hi M8 ha
  subst h M8 ha
  rw [show dq ⟨1,nt,Wu #[],[]⟩=1::dI (xz nt) by simp [dq],Wt,vq,V3]
  dsimp only
  rw [aC (x:=1) (by omega) (by omega),if_neg (by decide),if_pos (by decide),AA hm (AD hi.1 hi.2),V3]
  by_cases hn:nt<0
  ·obtain⟨z1,z2⟩:=HX hn hi.1
   rw [if_pos z1,z2]
  ·obtain⟨z1,z2⟩:=FW hn hi.2
   rw [if_neg z1,z2]
 ·simp only at h hi ha
  subst h hi ha
  obtain⟨g1,g2⟩:=W.label (by simp)
  simp only at g1 g2
  rw [show dq ⟨2,0,lb,[]⟩=2::nM lb by simp [dq],Wt,vq,V3]
  dsimp only
  rw [aC (x:=2) (by omega) (by omega),if_neg (by decide),if_neg (by decide),if_pos (by decide),IS hm (by omega),V3]
 ·simp only at h hi
  subst h hi
  obtain⟨g1,g2⟩:=W.label (by simp)
  obtain⟨g3,g4⟩:=W.args
  simp only at g1 g2 g3 g4
  rw [show dq ⟨3,0,lb,HY⟩=3::(nM lb++dI HY.length++(HY.map fun a=>dI a.toNat).flatten) by simp [dq],Wt,vq,V3]
  dsimp only
  rw [aC (x:=3) (by omega) (by omega),if_neg (by decide),if_neg (by decide),if_neg (by decide),if_pos (by decide)]
  rw [Wg,Wg,IS hm (by omega),V3]
  dsimp only
  rw [AA hm (by omega),V3,if_neg (by simp; omega)]
  obtain⟨x,hx⟩:=IU hm ((HY.length:Int),(⟨(HY.map fun a=>dI a.toNat).flatten++rest,false⟩:fl)) 3 lb rest (by simp; omega) HY m 0 [] (by omega) (by simp) (by simp; omega) g4
  have hx:cV.l1 m ((HY.length:Int),(⟨(HY.map fun a=>dI a.toNat).flatten++rest,false⟩:fl)) m (0:Int) 3 0 lb [] ⟨(HY.map fun a=>dI a.toNat).flatten++rest,false⟩=_:=hx
  rw [hx,V3]
  simp
end Go.Proofs.YtmekcfdllhphlaaDoor
namespace Go.Proofs.YtmekcfdllhphlaaDoor
open Go Go.R
open Go.IntKind (i64 u64 u8 u32)
def vu:cb:=gJ [0,2,3,5,6,7,8,9,16,17] [] [1022,1018,907,779,899,907,651,139,651,651,907,1021] [] []
def bw.l1 (m:Nat)  : Nat→Int→Int→Option (Int × Int)
 | 0,_,_=>none
 | k+1,pZ,x1=>if (decide (x1<(8:Int)))=true then (bw.l1 m k (kT .u32 (fX .u32 pZ 1) (gY .u32 (3988292384:Int) (u32.wrap (0 - (gY .u32 pZ (1:Int)))))) (i64.wrap (x1+(1:Int)))) else (some ((pZ,x1)))
def bw.l0 (m:Nat)(b0:List Int):Nat→Int→Int→Option (Int × Int)
 | 0,_,_=>none
 | k+1,tK,x0=>if (decide (x0<(b0.length:Int)))=true then ((ix b0 x0).bind fun v0=>(bw.l1 m m (kT .u32 tK (u32.wrap v0)) (0:Int)).bind fun bq=>match bq with | (Kr,x2)=>bw.l0 m b0 k Kr (i64.wrap (x0+(1:Int)))) else (some ((tK,x0)))
def bw.f (m:Nat)(b0:List Int):Option (Int):=(bw.l0 m b0 m (4294967295:Int) (0:Int)).bind fun b9=>match b9 with | (Ks,x3)=>some (i64.wrap (IE .u32 Ks))
def bw.fin (L:Mem)(r:Int)(s:St):Prop:=∃av,aI Tryd.prog (s.open vu) Tryd.f21.results.toList=some av∧fT s.h av (.int .i64 r)
def Sj (cf:CallF)(m:Nat):Prop:=∀(b0:List Int) (r:Int),bw.f m b0=some r→∀h xs,eN fc h xs [au.fz b0]→cf 21 xs h=some (.int .i64 r,h)
section
variable {cf:CallF}{m:Nat}
theorem bw.eQ (L:Mem)(b0:List Int)(x0:Int)   : bE Tryd.prog cf vu m (sub [1,1,0,1,0,0,1,1,0,0,1,1,1,0,0] (codeOf Tryd.f21)) (fun k (σ:Int × Int)=>bw.l1 m k σ.1 σ.2) (fun σ s=>match σ with | (pZ,x1)=>∃h1,s=⟨[.any,.any,.int .u32 pZ,.any,au.fz b0,.int .i64 (b0.length:Int),.int .i64 x0,.any,.int .i64 x1,.any],[],h1⟩∧Has h1 (L)) (fun out e s=>(e = .exit 2∧∃pZ x1,(pZ,x1)=out∧∃FX Ak h1,s=⟨[.any,.any,.int .u32 pZ,.any,au.fz b0,.int .i64 (b0.length:Int),.int .i64 x0,.any,FX,Ak],[],h1⟩∧Has h1 (L))):=by
 refine gP (fun _=>rfl) ?_
 rintro k ⟨pZ,x1⟩ s out ⟨h1,rfl,o1⟩ H
 have H:bw.l1 m (k+1) pZ x1=some out:=H
 refine q1 <| qq <| qc H (fun c1 H=>?_) (fun c1 H=>?_)
 ·exact qk <| qq <| qb 3 <| q0 <| q0 <| ⟨(kT .u32 (fX .u32 pZ 1) (gY .u32 (3988292384:Int) (u32.wrap (0 - (gY .u32 pZ (1:Int))))),i64.wrap (x1+(1:Int))),⟨h1,by kernel_rfl,o1⟩,H⟩
 ·exact qx 2 <| ⟨rfl,pZ,x1,oi H,.int .i64 x1,.bool (decide (x1<(8:Int))),h1,by kernel_rfl,o1⟩
theorem bw.bI (L:Mem)(b0:List Int)   : bE Tryd.prog cf vu m (sub [1,1,0,1,0,0] (codeOf Tryd.f21)) (fun k (σ:Int × Int)=>bw.l0 m b0 k σ.1 σ.2) (fun σ s=>match σ with | (tK,x0)=>∃h0,s=⟨.any :: .any :: .int .u32 tK :: .any::au.fz b0 :: .int .i64 (b0.length:Int) :: .int .i64 x0::ke [],[],h0⟩∧Has h0 (L)) (fun out e s=>(e = .exit 0∧∃tK x0,(tK,x0)=out∧∃Ar uz oR tm h0,s=⟨[.any,.any,.int .u32 tK,.any,Ar,uz,oR,tm,.any,.any],[],h0⟩∧Has h0 (L))):=by
 refine gP (fun _=>rfl) ?_
 rintro k ⟨tK,x0⟩ s out ⟨h0,rfl,o0⟩ H
 have H:bw.l0 m b0 (k+1) tK x0=some out:=H
 refine q1 <| qq <| qc H (fun c0 H=>?_) (fun c0 H=>?_)
 ·refine qk <| qq <| qb 1 <| qq ?_
  obtain⟨v0,e0,H⟩:=aH H
  refine qr [.v 0 (bo (k:=.i64) (E:=au) (l:=b0) HJ e0),.v 1 (cZ  (E:=au) (l:=b0) h0 A5 e0 rfl)] <| qq <| q0 <| qq <| q0 <| qb 2 ?_
  obtain⟨bq,e1,H⟩:=aH H
  refine ql (bw.eQ L b0 x0   (kT .u32 tK (u32.wrap v0),(0:Int)) _ _ ⟨h0,by kernel_rfl,o0⟩ e1) ?_
  rintro e s ⟨rfl,Kr,x2,rfl,g0,g1,h2,rfl,o2⟩
  try dsimp only at H
  exact q0 <| ⟨(Kr,i64.wrap (x0+(1:Int))),⟨h2,by kernel_rfl,o2⟩,H⟩
 ·exact qx 0 <| ⟨rfl,tK,x0,oi H,au.fz b0,.int .i64 (b0.length:Int),.int .i64 x0,.bool (decide (x0<(b0.length:Int))),h0,by kernel_rfl,o0⟩
theorem rB {aV:FuncId→cb}(ha:aV 21=vu)  (b0:List Int)(h:AHeap)(L:Mem)  (o:Has h (L)){out:Int}(H:bw.f m b0=some out) :
  ∃r h',be Tryd.prog aV cf m 21 [au.fz b0] h=some (r,h')∧fT h' r (.int .i64 out):=by
 refine aq (fn:=Tryd.f21) ha Tryd.func21 (by kernel_rfl) (by kernel_rfl) ?_
 refine aG (Q:=fun s=>bw.fin L out s) (fun _ _ h=>h) ?_
 have H:_=some out:=H
 unfold bw.f at H
 show de _ cf vu m _ ⟨au.fz b0::C3 [],[],h⟩ _
 refine q1 <| qq <| q0 <| qq <| qq <| q0 <| qb 0 ?_
 obtain⟨b9,e2,H⟩:=aH H
 refine ql (bw.bI L b0   ((4294967295:Int),(0:Int)) _ _ ⟨h,by kernel_rfl,o⟩ e2) ?_
 rintro e s ⟨rfl,Ks,x3,rfl,g2,g3,g4,g5,h3,rfl,o3⟩
 try dsimp only at H
 obtain rfl:=oi H
 exact q1 <| qt <| ⟨.inl rfl,bZ (.int .i64 (i64.wrap (IE .u32 Ks))) h3 (bX (fh))⟩
end
end Go.Proofs.YtmekcfdllhphlaaDoor
namespace Go.Proofs.YtmekcfdllhphlaaDoor
open Go Go.R
open Go.IntKind (i64 u64 u8 u32)
def BZ:cb:=gJ [0,2,3] [17] [6,3,5] [] [(0,[(2,none,1)])]
def cw.f (m:Nat)(b0:List Int):Option ((List Int)):=(bw.f m b0).bind fun x0=>some ([u8.wrap x0,u8.wrap (fX .i64 x0 8),u8.wrap (fX .i64 x0 16),u8.wrap (fX .i64 x0 24)])
def cw.fin (L:Mem)(r:(List Int))(s:St):Prop:=∃av,aI Tryd.prog (s.open BZ) Tryd.f42.results.toList=some av∧fT s.h av (au.fz r)
def P7 (cf:CallF)(m:Nat):Prop:=∀(b0:List Int) (r:(List Int)),cw.f m b0=some r→∀h xs,eN fc h xs [au.fz b0]→cf 42 xs h=some (au.fz r,h)
section
variable {cf:CallF}{m:Nat}
theorem pc {aV:FuncId→cb}(ha:aV 42=BZ)(P8:Sj cf m)(b0:List Int)(h:AHeap)(L:Mem)  (o:Has h (L)){out:(List Int)}(H:cw.f m b0=some out) :
  ∃r h',be Tryd.prog aV cf m 42 [au.fz b0] h=some (r,h')∧fT h' r (au.fz out):=by
 refine aq (fn:=Tryd.f42) ha Tryd.func42 (by kernel_rfl) (by kernel_rfl) ?_
 refine aG (Q:=fun s=>cw.fin L out s) (fun _ _ h=>h) ?_
 have H:_=some out:=H
 unfold cw.f at H
 show de _ cf BZ m _ ⟨[au.fz b0,.any,.any],[none],h⟩ _
 refine q1 <| qq ?_
 obtain⟨x0,e0,H⟩:=aH H
 refine qr [.a 1 (P8 _ _ e0 h _ (gO (ae (cK (E:=au)) (az))))] <| qq ?_
 obtain⟨aA,h0,e1,o0⟩:=Hw (E:=au) (l:=[u8.wrap x0,u8.wrap (fX .i64 x0 8),u8.wrap (fX .i64 x0 16),u8.wrap (fX .i64 x0 24)]) (cs:=[.int .u8 (u8.wrap x0),.int .u8 (u8.wrap (fX .i64 x0 8)),.int .u8 (u8.wrap (fX .i64 x0 16)),.int .u8 (u8.wrap (fX .i64 x0 24))]) o (by kernel_rfl)
 obtain rfl:=oi H
 exact qr [.a 11 e1] <| qt <| ⟨.inl rfl,bZ (.rs aA 0 (([u8.wrap x0,u8.wrap (fX .i64 x0 8),u8.wrap (fX .i64 x0 16),u8.wrap (fX .i64 x0 24)]:List Int).length) 1) h0 (bX (yk (E:=au) (l:=([u8.wrap x0,u8.wrap (fX .i64 x0 8),u8.wrap (fX .i64 x0 16),u8.wrap (fX .i64 x0 24)])) (q:=0) o0 rfl (fun _=>rfl)))⟩
end
end Go.Proofs.YtmekcfdllhphlaaDoor
namespace Go.Proofs.YtmekcfdllhphlaaDoor
open Go Go.R
open Go.IntKind (i64 u64 u8 u32)
def vw:cb:=gJ [0,2,3,5,7,8,24,25,26,27,37,38,39,40] [5,7] [16382,16378,16378,16378,16378,15931,15419,15923,15923,8763,571,8747,8763,8763,15931,16351,16381] [] []
def aS.l1 (m:Nat)(v0:aj):Nat→Int→(List Int)→Option (Int × (List Int))
 | 0,_,_=>none
 | k+1,x3,rC=>if (decide (x3<(v0.nodes.length:Int)))=true then ((ix v0.nodes x3).bind fun v1=>(dS.f m rC v1).bind fun x4=>aS.l1 m v0 k (i64.wrap (x3+(1:Int))) x4) else (some ((x3,rC)))
def aS.l0 (m:Nat)(a7:List aj):Nat→Int→(List Int)→Option (Int × (List Int))
 | 0,_,_=>none
 | k+1,x1,rD=>if (decide (x1<(a7.length:Int)))=true then ((ix a7 x1).bind fun v0=>(bT.f m rD (u64.wrap (v0.nodes.length:Int))).bind fun x2=>(aS.l1 m v0 m (0:Int) x2).bind fun bq=>match bq with | (x5,Kt)=>aS.l0 m a7 k (i64.wrap (x1+(1:Int))) Kt) else (some ((x1,rD)))
def aS.f (m:Nat)(a7:List aj):Option ((List Int)):=(wB ([]) ([(76:Int)])).bind fun xy=>(EN xy ([(1:Int)])).bind fun MX=>(bT.f m MX (u64.wrap (a7.length:Int))).bind fun x0=>(aS.l0 m a7 m (0:Int) x0).bind fun b9=>match b9 with | (x6,xe)=>(sX xe).bind fun u0=>(cw.f m xe).bind fun x7=>(app 1 xe x7).bind fun x8=>some x8
def aS.fin (L:Mem)(r:(List Int))(s:St):Prop:=∃av,aI Tryd.prog (s.open vw) Tryd.f36.results.toList=some av∧fT s.h av (au.fz r)
def Sk (cf:CallF)(m:Nat):Prop:=∀(a7:List aj) (r:(List Int)),aS.f m a7=some r→∀h xs,eN fc h xs [aJ.fz a7]→cf 36 xs h=some (au.fz r,h)
section
variable {cf:CallF}{m:Nat}
theorem aS.eQ (L:Mem)(a7:List aj)(aA:Nat)(x1:Int)(v0:aj)  (FY:N3 cf m):bE Tryd.prog cf vw m (sub [1,1,1,1,1,0,1,0,0,1,1,0,0,1,1,1,0,0] (codeOf Tryd.f36)) (fun k (σ:Int × (List Int))=>aS.l1 m v0 k σ.1 σ.2) (fun σ s=>match σ with | (x3,rC)=>∃gM h6,s=⟨.any :: .any :: .ptr aA 0::ke [aJ.fz a7,.int .i64 (a7.length:Int),.int .i64 x1,.any,af.fz v0.nodes,.int .i64 (v0.nodes.length:Int),.int .i64 x3,.any],[none,none],h6⟩∧Has h6 ((aA,.ob [.rs gM 0 rC.length 1,.int .i64 (0:Int),.int .i8 (0:Int)])::(gM,.row 5 (au.l rC))::L)) (fun out e s=>(e = .exit 2∧∃x3 rC,(x3,rC)=out∧∃Fw Fx Fy Fz gM h6,s=⟨.any :: .any :: .ptr aA 0::ke [aJ.fz a7,.int .i64 (a7.length:Int),.int .i64 x1,.any,Fw,Fx,Fy,Fz],[none,none],h6⟩∧Has h6 ((aA,.ob [.rs gM 0 rC.length 1,.int .i64 (0:Int),.int .i8 (0:Int)])::(gM,.row 5 (au.l rC))::L))):=by
 refine gP (fun _=>rfl) ?_
 rintro k ⟨x3,rC⟩ s out ⟨gM,h6,rfl,o6⟩ H
 have H:aS.l1 m v0 (k+1) x3 rC=some out:=H
 refine q1 <| qq <| qc H (fun c1 H=>?_) (fun c1 H=>?_)
 ·refine qk <| qq <| qb 3 <| qq ?_
  obtain⟨v1,nH,H⟩:=aH H
  refine qr [.v 0 (bo (k:=.i64) (E:=af) (l:=v0.nodes) lh nH),.v 1 (cL  (E:=af) (l:=v0.nodes) h6 rU rV nH)] ?_
  obtain⟨x4,qS,H⟩:=aH H
  obtain⟨ik,h7,rX,o7⟩:=FY _ _ _ qS h6 _ _ _ (o6)  [.ptr aA 0,.agg [.int .i64 v1.kind,.int .i64 v1.int,.str v1.label,aa.fz v1.args]] (an (rfl) (an (aQ (sR (cR (bD) (cR (bD) (cR (wH) (cR (ib (E:=aa)) (gH))))))) (bm)))
  exact qr [.a 2 rX] <| q0 <| ⟨(i64.wrap (x3+(1:Int)),x4),⟨ik,h7,by kernel_rfl,o7⟩,H⟩
 ·exact qx 2 <| ⟨rfl,x3,rC,oi H,af.fz v0.nodes,.int .i64 (v0.nodes.length:Int),.int .i64 x3,.bool (decide (x3<(v0.nodes.length:Int))),gM,h6,by kernel_rfl,o6⟩
theorem aS.bI (L:Mem)(a7:List aj)(aA:Nat)  (pb:Li cf m)(FY:N3 cf m):bE Tryd.prog cf vw m (sub [1,1,1,1,1,0,1,0,0] (codeOf Tryd.f36)) (fun k (σ:Int × (List Int))=>aS.l0 m a7 k σ.1 σ.2) (fun σ s=>match σ with | (x1,rD)=>∃gQ h4,s=⟨.any :: .any :: .ptr aA 0::ke (aJ.fz a7 :: .int .i64 (a7.length:Int) :: .int .i64 x1::sY []),[none,none],h4⟩∧Has h4 ((aA,.ob [.rs gQ 0 rD.length 1,.int .i64 (0:Int),.int .i8 (0:Int)])::(gQ,.row 5 (au.l rD))::L)) (fun out e s=>(e = .exit 0∧∃x1 rD,(x1,rD)=out∧∃Ke P9 Qa AE gQ h4,s=⟨.any :: .any :: .ptr aA 0::ke (Ke::P9::Qa::AE::qQ []),[none,none],h4⟩∧Has h4 ((aA,.ob [.rs gQ 0 rD.length 1,.int .i64 (0:Int),.int .i8 (0:Int)])::(gQ,.row 5 (au.l rD))::L))):=by
 refine gP (fun _=>rfl) ?_
 rintro k ⟨x1,rD⟩ s out ⟨gQ,h4,rfl,o4⟩ H
 have H:aS.l0 m a7 (k+1) x1 rD=some out:=H
 refine q1 <| qq <| qc H (fun c0 H=>?_) (fun c0 H=>?_)
 ·refine qk <| qq <| qb 1 <| qq ?_
  obtain⟨v0,e7,H⟩:=aH H
  refine qr [.v 0 (bo (k:=.i64) (E:=aJ) (l:=a7) vi e7),.v 1 (cL  (E:=aJ) (l:=a7) h4 EZ E0 e7)] <| qq ?_
  obtain⟨x2,e8,H⟩:=aH H
  obtain⟨gL,h5,e9,o5⟩:=pb _ _ _ e8 h4 _ _ _ (o4)  [.ptr aA 0,.int .u64 (u64.wrap (v0.nodes.length:Int))] (an (rfl) (an (aQ (bD)) (bm)))
  refine qr [.a 5 e9] <| qq <| q0 <| qb 2 ?_
  obtain⟨bq,rY,H⟩:=aH H
  refine ql (aS.eQ L a7 aA x1 v0  FY ((0:Int),x2) _ _ ⟨gL,h5,by kernel_rfl,o5⟩ rY) ?_
  rintro e s ⟨rfl,x5,Kt,rfl,g0,g1,g2,g3,kG,h8,rfl,o8⟩
  try dsimp only at H
  exact q0 <| ⟨(i64.wrap (x1+(1:Int)),Kt),⟨kG,h8,by kernel_rfl,o8⟩,H⟩
 ·exact qx 0 <| ⟨rfl,x1,rD,oi H,aJ.fz a7,.int .i64 (a7.length:Int),.int .i64 x1,.bool (decide (x1<(a7.length:Int))),gQ,h4,by kernel_rfl,o4⟩
theorem pd {aV:FuncId→cb}(ha:aV 36=vw)(Ku:P7 cf m)(w6:Mo cf m)(pb:Li cf m)(FY:N3 cf m)(Qb:RI cf m)(a7:List aj)(h:AHeap)(L:Mem)  (o:Has h (L)){out:(List Int)}(H:aS.f m a7=some out) :
  ∃r h',be Tryd.prog aV cf m 36 [aJ.fz a7] h=some (r,h')∧fT h' r (au.fz out):=by
 refine aq (fn:=Tryd.f36) ha Tryd.func36 (by kernel_rfl) (by kernel_rfl) ?_
 refine aG (Q:=fun s=>aS.fin L out s) (fun _ _ h=>h) ?_
 have H:_=some out:=H
 unfold aS.f at H
 show de _ cf vw m _ ⟨aJ.fz a7::nD [],[none,none],h⟩ _
 refine q1 <| qq ?_
 obtain⟨aA,h0,e0,o0⟩:=kc (cs:=[.nils,.int .i64 (0:Int),.int .i8 (0:Int)]) o (by kernel_rfl)
 refine qr [.a 1 e0] <| qq ?_
 obtain⟨xy,e1,H⟩:=aH H
 obtain⟨fV,h1,e2,o1⟩:=JR w6 o0 e1
 refine qr [.a 3 e2] <| qq ?_
 obtain⟨MX,e3,H⟩:=aH H
 obtain⟨da,h2,e4,o2⟩:=rT (bs:=xy) w6 o1 e3
 refine qr [.a 3 e4] <| qq ?_
 obtain⟨x0,e5,H⟩:=aH H
 obtain⟨fk,h3,e6,o3⟩:=pb _ _ _ e5 h2 _ _ _ (o2)  [.ptr aA 0,.int .u64 (u64.wrap (a7.length:Int))] (an (rfl) (an (aQ (bD)) (bm)))
 refine qr [.a 4 e6] <| qq <| qq <| q0 <| qb 0 ?_
 obtain⟨b9,qT,H⟩:=aH H
 refine ql (aS.bI L a7 aA  pb FY ((0:Int),x0) _ _ ⟨fk,h3,by kernel_rfl,o3⟩ qT) ?_
 rintro e s ⟨rfl,x6,xe,rfl,g4,g5,g6,g7,xw,h9,rfl,o9⟩
 try dsimp only at H
 refine qq ?_
 obtain⟨u0,pX,H⟩:=aH H
 obtain⟨h10,uC,uA⟩:=HD (bs:=xe) Qb o9 pX
 refine qr [.a 3 uC] ?_
 have vk:Has h10 ((xw,.sl xe.length 1 (au.l xe))::L):=Has.del uA 0
 refine qq ?_
 obtain⟨x7,uf,H⟩:=aH H
 obtain⟨x8,yD,H⟩:=aH H
 obtain⟨eK,h11,uD,tq⟩:=fD (P:=Tryd.prog) (E:=au) (l:=xe) (q:=0) (t2:=25) (x:=au.fz x7) (l2:=x7) HJ vk rfl (Ew (E:=au) (l2:=x7) _) rfl yD
 obtain rfl:=oi H
 exact qr [.a 2 (Ku _ _ uf h10 _ (gO (ae (sQ (E:=au) (l:=xe) (q:=0) vk rfl (fun _=>rfl)) (az)))),.a 3 uD] <| qt <| ⟨.inl rfl,bZ (.rs eK 0 x8.length 1) h11 (bX (yk (E:=au) (l:=x8) (q:=0) tq rfl (fun _=>rfl)))⟩
end
end Go.Proofs.YtmekcfdllhphlaaDoor
namespace Go.Proofs.YtmekcfdllhphlaaDoor
open Go Go.R
open Go.IntKind (i64 u64 u8 u32)
def B0:cb:=gJ [0,1,2,3,6] [1,2] [25,9,19,19] [] []
def ep.f (m:Nat)(t0:aj):Option (aj × Int):=(gr.f m t0).bind fun x0=>if (!x0)=true then (some ((aj.mk ([]) (0:Int)),(2:Int))) else ((cq.f m t0).bind fun x1=>some (x1,(0:Int)))
def ep.fin (L:Mem)(r:aj × Int)(s:St):Prop:=∃av,aI Tryd.prog (s.open B0) Tryd.f31.results.toList=some av∧yi s.h av (.tup [.agg [af.fz r.1.nodes,.int .i64 r.1.root],.int .i64 r.2])
def Qc (cf:CallF)(m:Nat):Prop:=∀(t0:aj) (r:aj × Int),ep.f m t0=some r→∀h xs,lV xs [.agg [af.fz t0.nodes,.int .i64 t0.root]]→cf 31 xs h=some (.tup [.agg [af.fz r.1.nodes,.int .i64 r.1.root],.int .i64 r.2],h)
section
variable {cf:CallF}{m:Nat}
theorem rE {aV:FuncId→cb}(ha:aV 31=B0)(Qd:RX cf m)(Qe:R8 cf m)(t0:aj)(h:AHeap)(L:Mem)  (o:Has h (L)){out:aj × Int}(H:ep.f m t0=some out) :
  ∃r h',be Tryd.prog aV cf m 31 [.agg [af.fz t0.nodes,.int .i64 t0.root]] h=some (r,h')∧yi h' r (.tup [.agg [af.fz out.1.nodes,.int .i64 out.1.root],.int .i64 out.2]):=by
 refine aq (fn:=Tryd.f31) ha Tryd.func31 (by kernel_rfl) (by kernel_rfl) ?_
 refine aG (Q:=fun s=>ep.fin L out s) (fun _ _ h=>h) ?_
 have H:_=some out:=H
 unfold ep.f at H
 show de _ cf B0 m _ ⟨.agg [af.fz t0.nodes,.int .i64 t0.root]::qQ [],[none,none],h⟩ _
 refine q1 <| qq <| qq ?_
 obtain⟨x0,e0,H⟩:=aH H
 refine qr [.a 1 (Qd _ _ e0 h _ (gO (ae (cP (ae (cK (E:=af)) (ae (aM) (az)))) (az))))] <| qc H (fun c0 H=>?_) (fun c0 H=>?_)
 ·obtain rfl:=oi H
  exact q1 <| qt <| ⟨.inl rfl,wM (.tup [.agg [.nils,.int .i64 (0:Int)],.int .i64 (2:Int)]) h (pF (gj (ae (cP (ae (gD) (ae (aM) (az)))) (ae (aM) (az)))))⟩
 ·refine qk <| qq ?_
  obtain⟨x1,e1,H⟩:=aH H
  obtain rfl:=oi H
  exact qr [.a 1 (Qe _ _ e1 h _ (cR (sR (cR (ib (E:=af)) (cR (bD) (gH)))) (gH)))] <| qt <| ⟨.inl rfl,wM (.tup [.agg [af.fz x1.nodes,.int .i64 x1.root],.int .i64 (0:Int)]) h (pF (gj (ae (cP (ae (cK) (ae (aM) (az)))) (ae (aM) (az)))))⟩
end
end Go.Proofs.YtmekcfdllhphlaaDoor
namespace Go.Proofs.YtmekcfdllhphlaaDoor
open Go Go.R
open Go.IntKind (i64 u64 u8 u32)
def B1:cb:=gJ [0,1,2] [1] [5,3] [] []
def fI.f (m:Nat)(n0:ab):Option (Bool):=some (n0.kind==(4:Int))
def fI.fin (L:Mem)(r:Bool)(s:St):Prop:=∃av,aI Tryd.prog (s.open B1) Tryd.f35.results.toList=some av∧fT s.h av (.bool r)
def Sm (cf:CallF)(m:Nat):Prop:=∀(n0:ab) (r:Bool),fI.f m n0=some r→∀h xs,eN fc h xs [.agg [.int .i64 n0.kind,.int .i64 n0.int,.str n0.label,aa.fz n0.args]]→cf 35 xs h=some (.bool r,h)
section
variable {cf:CallF}{m:Nat}
theorem pe {aV:FuncId→cb}(ha:aV 35=B1)  (n0:ab)(h:AHeap)(L:Mem)  (o:Has h (L)){out:Bool}(H:fI.f m n0=some out) :
  ∃r h',be Tryd.prog aV cf m 35 [.agg [.int .i64 n0.kind,.int .i64 n0.int,.str n0.label,aa.fz n0.args]] h=some (r,h')∧fT h' r (.bool out):=by
 refine aq (fn:=Tryd.f35) ha Tryd.func35 (by kernel_rfl) (by kernel_rfl) ?_
 refine aG (Q:=fun s=>fI.fin L out s) (fun _ _ h=>h) ?_
 have H:_=some out:=H
 unfold fI.f at H
 show de _ cf B1 m _ ⟨[.agg [.int .i64 n0.kind,.int .i64 n0.int,.str n0.label,aa.fz n0.args],.any,.any],[none],h⟩ _
 obtain rfl:=oi H
 exact q1 <| qq <| q0 <| qt <| ⟨.inl rfl,bZ (.bool (n0.kind==(4:Int))) h (bX (ak))⟩
end
end Go.Proofs.YtmekcfdllhphlaaDoor
namespace Go.Proofs.YtmekcfdllhphlaaDoor
open Go Go.R
open Go.IntKind (i64 u64 u8 u32)
def B2:cb:=gJ [0,1,2] [1] [5,3] [] []
def eS.f (m:Nat)(t0:aj):Option (Bool):=(fE.f m t0.nodes (fun y0=>fI.f m y0)).bind fun x0=>some x0
def eS.fin (L:Mem)(r:Bool)(s:St):Prop:=∃av,aI Tryd.prog (s.open B2) Tryd.f33.results.toList=some av∧fT s.h av (.bool r)
def So (cf:CallF)(m:Nat):Prop:=∀(t0:aj) (r:Bool),eS.f m t0=some r→∀h xs,eN fc h xs [.agg [af.fz t0.nodes,.int .i64 t0.root]]→cf 33 xs h=some (.bool r,h)
section
variable {cf:CallF}{m:Nat}
theorem pf {aV:FuncId→cb}(ha:aV 33=B2)(Kb:Pp cf m)(Qf:Sm cf m)(t0:aj)(h:AHeap)(L:Mem)  (o:Has h (L)){out:Bool}(H:eS.f m t0=some out) :
  ∃r h',be Tryd.prog aV cf m 33 [.agg [af.fz t0.nodes,.int .i64 t0.root]] h=some (r,h')∧fT h' r (.bool out):=by
 refine aq (fn:=Tryd.f33) ha Tryd.func33 (by kernel_rfl) (by kernel_rfl) ?_
 refine aG (Q:=fun s=>eS.fin L out s) (fun _ _ h=>h) ?_
 have H:_=some out:=H
 unfold eS.f at H
 show de _ cf B2 m _ ⟨[.agg [af.fz t0.nodes,.int .i64 t0.root],.any,.any],[none],h⟩ _
 refine q1 <| qq ?_
 obtain⟨x0,e0,H⟩:=aH H
 obtain rfl:=oi H
 exact qr [.a 2 (Kb _ _ _ e0 h (Has.pos o) 35 [] rfl (fun y0 r hr=>Qf y0 r hr h _ (gO (ae (cP (ae (aM) (ae (aM) (ae (bY) (ae (cK (E:=aa)) (az)))))) (az)))) _ (an (aQ (ib (E:=af))) (an ((rfl:ay (.fn 35 [])=_)) (bm))))] <| qt <| ⟨.inl rfl,bZ (.bool x0) h (bX (ak))⟩
end
end Go.Proofs.YtmekcfdllhphlaaDoor
namespace Go.Proofs.YtmekcfdllhphlaaDoor
open Go Go.R
open Go.IntKind (i64 u64 u8 u32)
def yT:cb:=gJ [0,2,3,4,6,7,8,9,12,13,14,15,16,25,32,37] [6,7] [65534,65278,65529,65526,61943,57847,61927,61847,53719,65529,61943,61943,49143,65529,65407,32639,65529,65529] [(12,[(4,none,0)])] [(3,[(4,none,2)])]
def bS.l0 (m:Nat)(a7:List aj):Nat→(List aj)→Int→Option (Sum ((List Int) × Int) ((List aj) × Int))
 | 0,_,_=>none
 | k+1,hX,x0=>if (decide (x0<(a7.length:Int)))=true then ((ix a7 x0).bind fun v0=>(ep.f m v0).bind fun x1=>if (!(x1.2==(0:Int)))=true then (some (.inl ([],(2:Int)))) else ((app 32 hX ([x1.1])).bind fun x2=>bS.l0 m a7 k x2 (i64.wrap (x0+(1:Int))))) else (some (.inr (hX,x0)))
def bS.f (m:Nat)(a7:List aj):Option ((List Int) × Int):=if (decide ((a7.length:Int) > (8:Int)))=true then (some ([],(3:Int))) else ((bS.l0 m a7 m ([]:List aj) (0:Int)).bind fun bq=>match bq with | .inl r0=>some r0 | .inr (xf,x3)=>(gq.f m xf (fun y0=>eS.f m y0)).bind fun x4=>if x4=true then (some ([],(4:Int))) else ((aS.f m xf).bind fun x5=>if (decide ((x5.length:Int) > (200000:Int)))=true then (some ([],(3:Int))) else (some (x5,(0:Int)))))
def bS.fin (L:Mem)(r:(List Int) × Int)(s:St):Prop:=∃av,aI Tryd.prog (s.open yT) Tryd.f14.results.toList=some av∧yi s.h av (.tup [au.fz r.1,.int .i64 r.2])
def N6 (cf:CallF)(m:Nat):Prop:=∀(a7:List aj) (r:(List Int) × Int),bS.f m a7=some r→∀h xs,lV xs [aJ.fz a7]→cf 14 xs h=some (.tup [au.fz r.1,.int .i64 r.2],h)
section
variable {cf:CallF}{m:Nat}
theorem bS.bI (L:Mem)(a7:List aj)  (Kv:Qc cf m):bE Tryd.prog cf yT m (sub [1,1,1,0,1,0,0] (codeOf Tryd.f14)) (fun k (σ:(List aj) × Int)=>bS.l0 m a7 k σ.1 σ.2) (fun σ s=>match σ with | (hX,x0)=>∃aA h0,s=⟨ke (.rs aA 0 hX.length 2::sY (aJ.fz a7 :: .int .i64 (a7.length:Int) :: .int .i64 x0::qQ [])),[none,none],h0⟩∧Has h0 ((aA,.sl hX.length 2 (aJ.l hX))::L)) (fun out e s=>(e = .exit 0∧∃hX x0,.inr (hX,x0)=out∧∃nE Ai wS FX aA h0,s=⟨ke (.rs aA 0 hX.length 2::sY (nE::Ai::wS::FX::ke [])),[none,none],h0⟩∧Has h0 ((aA,.sl hX.length 2 (aJ.l hX))::L))∨(e = .ret∧∃r,.inl r=out∧bS.fin L r s)):=by
 refine gP (fun _=>rfl) ?_
 rintro k ⟨hX,x0⟩ s out ⟨aA,h0,rfl,o1⟩ H
 have H:bS.l0 m a7 (k+1) hX x0=some out:=H
 refine q1 <| qq <| qc H (fun c1 H=>?_) (fun c1 H=>?_)
 ·refine qk <| qq <| qb 1 <| qq ?_
  obtain⟨v0,e0,H⟩:=aH H
  refine qr [.v 0 (bo (k:=.i64) (E:=aJ) (l:=a7) vi e0),.v 1 (cL  (E:=aJ) (l:=a7) h0 EZ E0 e0)] <| qq ?_
  obtain⟨x1,e1,H⟩:=aH H
  refine qr [.a 1 (Kv _ _ e1 h0 _ (cR (sR (cR (ib (E:=af)) (cR (bD) (gH)))) (gH)))] <| qq <| qq <| q0 <| qc H (fun c2 H=>?_) (fun c2 H=>?_)
  ·refine q1 ?_
   have o2:Has h0 (L):=Has.del o1 0
   exact qt <| WZ (⟨rfl,_,oi H,wM (.tup [.nils,.int .i64 (2:Int)]) h0 (pF (gj (ae (gD) (ae (aM) (az)))))⟩)
  ·refine qk ?_
   obtain⟨x2,e2,H⟩:=aH H
   obtain⟨fV,h1,e3,o3⟩:=fD (P:=Tryd.prog) (E:=aJ) (l:=hX) (q:=0) (t2:=22) (x:=.fz [af.fz x1.1.nodes,.int .i64 x1.1.root] 1 true) (l2:=([x1.1])) vi o1 rfl (by kernel_rfl) rfl e2
   exact qr [.a 3 e3] <| q0 <| ⟨(x2,i64.wrap (x0+(1:Int))),⟨fV,h1,by kernel_rfl,o3⟩,H⟩
 ·exact qx 0 <| Xt (⟨rfl,hX,x0,oi H,aJ.fz a7,.int .i64 (a7.length:Int),.int .i64 x0,.bool (decide (x0<(a7.length:Int))),aA,h0,by kernel_rfl,o1⟩)
theorem rF {aV:FuncId→cb}(ha:aV 14=yT)(Kv:Qc cf m)(Qg:RR cf m)(Qh:So cf m)(Qi:Sk cf m)(a7:List aj)(h:AHeap)(L:Mem)  (o:Has h (L)){out:(List Int) × Int}(H:bS.f m a7=some out) :
  ∃r h',be Tryd.prog aV cf m 14 [aJ.fz a7] h=some (r,h')∧yi h' r (.tup [au.fz out.1,.int .i64 out.2]):=by
 refine aq (fn:=Tryd.f14) ha Tryd.func14 (by kernel_rfl) (by kernel_rfl) ?_
 refine aG (Q:=fun s=>bS.fin L out s) (fun _ _ h=>h) ?_
 have H:_=some out:=H
 unfold bS.f at H
 show de _ cf yT m _ ⟨aJ.fz a7::HE [],[none,none],h⟩ _
 refine q1 <| qq <| qq <| q0 <| qc H (fun c0 H=>?_) (fun c0 H=>?_)
 ·obtain rfl:=oi H
  exact q1 <| qt <| ⟨.inl rfl,wM (.tup [.nils,.int .i64 (3:Int)]) h (pF (gj (ae (gD) (ae (aM) (az)))))⟩
 ·refine qk <| qq <| q0 ?_
  have o0:Has h (((0),.sl (([]:List aj).length) 2 (aJ.l ([]:List aj)))::L):=Has.nil o 2
  refine qq <| qq <| q0 <| qb 0 ?_
  obtain⟨bq,e4,H⟩:=aH H
  refine ql (bS.bI L a7  Kv (([]:List aj),(0:Int)) _ _ ⟨(0),h,by kernel_rfl,o0⟩ e4) ?_
  rintro e s (⟨rfl,xf,x3,rfl,g0,g1,g2,g3,da,h2,rfl,o4⟩| ⟨rfl,r0,rfl,mE⟩)
  ·try dsimp only at H
   refine qq <| qq ?_
   obtain⟨h3,e5,o5⟩:=iz (E:=aJ) (l:=xf) (q:=0) o4 rfl
   obtain⟨x4,e6,H⟩:=aH H
   refine yr [.a 0 e5] [.a 1 (Qg _ _ _ e6 h3 (Has.pos o5) 33 [] rfl (fun y0 r hr=>Qh y0 r hr h3 _ (gO (ae (cP (ae (cK (E:=af)) (ae (aM) (az)))) (az)))) _ (an (aQ (ib (E:=aJ))) (an ((rfl:ay (.fn 33 [])=_)) (bm))))] <| qc H (fun c3 H=>?_) (fun c3 H=>?_)
   ·obtain rfl:=oi H
    exact q1 <| qt <| ⟨.inl rfl,wM (.tup [.nils,.int .i64 (4:Int)]) h3 (pF (gj (ae (gD) (ae (aM) (az)))))⟩
   ·refine qk <| qq ?_
    obtain⟨x5,e7,H⟩:=aH H
    refine qr [.a 1 (Qi _ _ e7 h3 _ (gO (ae (cK (E:=aJ)) (az))))] <| qq <| qq <| q0 <| qc H (fun c4 H=>?_) (fun c4 H=>?_)
    ·obtain rfl:=oi H
     exact q1 <| qt <| ⟨.inl rfl,wM (.tup [.nils,.int .i64 (3:Int)]) h3 (pF (gj (ae (gD) (ae (aM) (az)))))⟩
    ·obtain rfl:=oi H
     exact qk <| qq <| q0 <| qt <| ⟨.inl rfl,wM (.tup [au.fz x5,.int .i64 (0:Int)]) h3 (pF (gj (ae (cK) (ae (aM) (az)))))⟩
  ·try dsimp only at H
   obtain rfl:=oi H
   exact⟨.inl rfl,mE⟩
end
end Go.Proofs.YtmekcfdllhphlaaDoor
namespace Go.Proofs.YtmekcfdllhphlaaDoor
open Go Go.R
open Go.IntKind (i64 u64 u8 u32)
def B3:cb:=gJ [0,1,4] [] [4,3] [] []
def eT.f (m:Nat)(a0:List Int)(b0:List Int):Option (Bool):=some ((eO a0).data.toList==(eO b0).data.toList)
def eT.fin (L:Mem)(r:Bool)(s:St):Prop:=∃av,aI Tryd.prog (s.open B3) Tryd.f41.results.toList=some av∧fT s.h av (.bool r)
def Sq (cf:CallF)(m:Nat):Prop:=∀(a0:List Int) (b0:List Int) (r:Bool),eT.f m a0 b0=some r→∀h xs,eN fc h xs [au.fz a0,au.fz b0]→cf 41 xs h=some (.bool r,h)
section
variable {cf:CallF}{m:Nat}
theorem qa {aV:FuncId→cb}(ha:aV 41=B3)  (a0:List Int)(b0:List Int)(h:AHeap)(L:Mem)  (o:Has h (L)){out:Bool}(H:eT.f m a0 b0=some out) :
  ∃r h',be Tryd.prog aV cf m 41 [au.fz a0,au.fz b0] h=some (r,h')∧fT h' r (.bool out):=by
 refine aq (fn:=Tryd.f41) ha Tryd.func41 (by kernel_rfl) (by kernel_rfl) ?_
 refine aG (Q:=fun s=>eT.fin L out s) (fun _ _ h=>h) ?_
 have H:_=some out:=H
 unfold eT.f at H
 show de _ cf B3 m _ ⟨[au.fz a0,au.fz b0,.any],[],h⟩ _
 obtain rfl:=oi H
 exact q1 <| qq <| qr [.v 1 (show gR Tryd.prog h 25 9 (au.fz a0)=some (.str (eO a0)) from Ab (e:=5) (l:=a0) rfl rfl rfl (EF _)),.v 3 (show gR Tryd.prog h 25 9 (au.fz b0)=some (.str (eO b0)) from Ab (e:=5) (l:=b0) rfl rfl rfl (EF _))] <| qt <| ⟨.inl rfl,bZ (.bool ((eO a0).data.toList==(eO b0).data.toList)) h (bX (ak))⟩
end
end Go.Proofs.YtmekcfdllhphlaaDoor
