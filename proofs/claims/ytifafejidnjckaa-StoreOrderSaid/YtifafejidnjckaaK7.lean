/- Part of the proof: Q32, Q37, Q41, Q42, Q47, Q48, Q51, Q54, Q55, Q59, Q62, Q64, Q68, Q71, Q73, Q75, Q78, Q79, Q81, Q85, Q90, Q95, Q96, Q97, Q98, Q102, Q105, Q109, Q18, Q19, Q27, Q29, Q40, Q52, Q53. -/
import Derived.Test.YtifafejidnjckaaK6
set_option linter.unusedVariables false
set_option linter.unusedSimpArgs false
set_option maxRecDepth 100000
open ByteArray renaming mk → Wo
open Eq renaming trans → W8
open List renaming length_set → VG
namespace Go.Proofs.Ytifafejidnjckaa
open Go Go.R
open Go.IntKind (i64 u64 u8 u32)
def xE:b5:=gX [0,1,5,6,7,8,9] [] [70,6,66,70,70] [] []
def bb.l0 (m:Nat)(aF:List Int):Nat→Int→ab→Option (Int × ab)
 | 0,_,_=>none
 | k+1,x0,s1=>if (decide (x0<(aF.length:Int)))=true then ((ix aF x0).bind fun v0=>(ix s1.ae v0).bind fun v1=>bb.l0 m aF k (i64.wrap (x0+(1:Int))) (ab.mk s1.aj s1.aa (s1.ae.set v0.toNat v0))) else (some ((x0,s1)))
def bb.f (m:Nat)(s0:ab)(aF:List Int):Option (ab):=(bb.l0 m aF m (0:Int) s0).bind fun b4=>match b4 with | (x1,s2)=>some s2
def bb.fin (L:Mem)(ao:Nat)(ak:Nat)(an:Nat)(s0:ab)(aF:List Int)(r:ab)(s:St):Prop:=∃aA aB:Nat,aM Try.prog (s.open xE) Try.f32.results.toList=some (.tup [])∧Has s.h ((ao,.ob [.bool r.aj,.rs aA 0 r.aa.length 4,.rs aB 0 r.ae.length 1])::(aA,.sl r.aa.length 4 (ah.l r.aa))::(aB,.sl r.ae.length 1 (af.l r.ae))::L)
def Ov (cf:CallF)(m:Nat):Prop:=∀(s0:ab) (aF:List Int) (r:ab),bb.f m s0 aF=some r→∀h L (ao:Nat) (ak:Nat) (an:Nat),Has h ((ao,.ob [.bool s0.aj,.rs ak 0 s0.aa.length 4,.rs an 0 s0.ae.length 1])::(ak,.sl s0.aa.length 4 (ah.l s0.aa))::(an,.sl s0.ae.length 1 (af.l s0.ae))::L)→∀xs,xs.map aK=[.ptr ao 0,af.fz aF]→∃aA aB h',cf 32 xs h=some (.tup [],h')∧Has h' ((ao,.ob [.bool r.aj,.rs aA 0 r.aa.length 4,.rs aB 0 r.ae.length 1])::(aA,.sl r.aa.length 4 (ah.l r.aa))::(aB,.sl r.ae.length 1 (af.l r.ae))::L)
section
variable {cf:CallF}{m:Nat}
theorem bb.di (L:Mem)(ao:Nat)(ak:Nat)(an:Nat)(s0:ab)(aF:List Int)   : dV Try.prog cf xE m (sub [1,0,0] (b7 Try.f32)) (fun k (σ:Int × ab)=>bb.l0 m aF k σ.1 σ.2) (fun σ s=>match σ with | (x0,s1)=>∃aI dR h0,s=⟨[.ptr ao 0,.any,.any,af.fz aF,.int .i64 (aF.length:Int),.int .i64 x0,.any],[],h0⟩∧Has h0 ((ao,.ob [.bool s1.aj,.rs aI 0 s1.aa.length 4,.rs dR 0 s1.ae.length 1])::(aI,.sl s1.aa.length 4 (ah.l s1.aa))::(dR,.sl s1.ae.length 1 (af.l s1.ae))::L)) (fun out e s=>(e = .exit 0∧∃x0 s1,(x0,s1)=out∧∃n7 Hc Hb CE CF aI dR h0,s=⟨[n7,.any,.any,Hc,Hb,CE,CF],[],h0⟩∧Has h0 ((ao,.ob [.bool s1.aj,.rs aI 0 s1.aa.length 4,.rs dR 0 s1.ae.length 1])::(aI,.sl s1.aa.length 4 (ah.l s1.aa))::(dR,.sl s1.ae.length 1 (af.l s1.ae))::L))):=by
 refine me (fun _=>rfl) ?_
 rintro k ⟨x0,s1⟩ s out ⟨aI,dR,h0,rfl,o0⟩ H
 have H:bb.l0 m aF (k+1) x0 s1=some out:=H
 refine q1 <| qq <| qc H (fun c0 H=>?_) (fun c0 H=>?_)
 ·refine qk <| qq <| qb 1 <| qq ?_
  obtain⟨v0,e0,H⟩:=bh H
  refine qr [.v 0 (eW (k:=.i64) (E:=af) (l:=aF) gK e0),.v 1 (ij  (E:=af) (l:=aF) h0 A3 e0 rfl)] ?_
  obtain⟨v1,e1,H⟩:=bh H
  obtain⟨h1,e2,o1⟩:=fF (P:=Try.prog) (tf:=3) (E:=af) (l:=s1.ae) (q:=2) (v:=v0) (x:=.int .i64 v0) o0 rfl Z3 e1 rfl rfl
  exact qr [.v 3 (show bm Try.prog h0 33 (.ptr ao 2)=some (.rs dR 0 s1.ae.length 1) from bZ (q:=0) (cs:=[.bool s1.aj,.rs aI 0 s1.aa.length 4,.rs dR 0 s1.ae.length 1]) o0 rfl (by kernel_rfl)),.v 6 (bo (k:=.i64) (E:=af) (l:=s1.ae) (q:=2) gK o0 rfl e1),.w 7 e2] <| q0 <| ⟨(i64.wrap (x0+(1:Int)),(ab.mk s1.aj s1.aa (s1.ae.set v0.toNat v0))),⟨aI,dR,h1,(W8 (b:=⟨[.ptr ao 0,.any,.any,af.fz aF,.int .i64 (aF.length:Int),.int .i64 (i64.wrap (x0+(1:Int))),.any],[],h1⟩) (by kernel_rfl) (by simp only [VG])),(by have o:Has h1 ((ao,.ob [.bool s1.aj,.rs aI 0 s1.aa.length 4,.rs dR 0 s1.ae.length 1])::(aI,.sl s1.aa.length 4 (ah.l s1.aa))::(dR,.sl s1.ae.length 1 (af.l (s1.ae.set v0.toNat v0)))::L):=o1; simpa only [VG] using o)⟩,H⟩
 ·exact qx 0 <| ⟨rfl,x0,s1,oi H,.ptr ao 0,af.fz aF,.int .i64 (aF.length:Int),.int .i64 x0,.bool (decide (x0<(aF.length:Int))),aI,dR,h0,by kernel_rfl,o0⟩
theorem lW {aV:FuncId→b5}(ha:aV 32=xE)  (s0:ab)(aF:List Int)(h:AHeap)(L:Mem)(ao:Nat)(ak:Nat)(an:Nat)  (o:Has h ((ao,.ob [.bool s0.aj,.rs ak 0 s0.aa.length 4,.rs an 0 s0.ae.length 1])::(ak,.sl s0.aa.length 4 (ah.l s0.aa))::(an,.sl s0.ae.length 1 (af.l s0.ae))::L)){out:ab}(H:bb.f m s0 aF=some out) :
  ∃r h',aZ Try.prog aV cf m 32 [.ptr ao 0,af.fz aF] h=some (r,h')∧∃aA aB:Nat,r = .tup []∧Has h' ((ao,.ob [.bool out.aj,.rs aA 0 out.aa.length 4,.rs aB 0 out.ae.length 1])::(aA,.sl out.aa.length 4 (ah.l out.aa))::(aB,.sl out.ae.length 1 (af.l out.ae))::L):=by
 refine ar (fn:=Try.f32) ha Try.func32 (by kernel_rfl) (by kernel_rfl) ?_
 refine aH (Q:=fun s=>bb.fin L ao ak an s0 aF out s) (fun _ _ ⟨h1,aA,aB,h2,h3⟩=>⟨h1,_,h2,aA,aB,rfl,h3⟩) ?_
 have H:_=some out:=H
 unfold bb.f at H
 show dp _ cf xE m _ ⟨.ptr ao 0::af.fz aF::Ap [],[],h⟩ _
 refine q1 <| qb 0 ?_
 obtain⟨b4,e3,H⟩:=bh H
 refine ql (bb.di L ao ak an s0 aF   ((0:Int),s0) _ _ ⟨ak,an,h,by kernel_rfl,o⟩ e3) ?_
 rintro e s ⟨rfl,x1,s2,rfl,g0,g1,g2,g3,g4,eS,cD,h2,rfl,o2⟩
 try dsimp only at H
 obtain rfl:=oi H
 exact⟨.inr rfl,⟨eS,cD,by kernel_rfl,he o2⟩⟩
end
end Go.Proofs.Ytifafejidnjckaa
namespace Go.Proofs.Ytifafejidnjckaa
open Go Go.R
open Go.IntKind (i64 u64 u8 u32)
def Az:b5:=gX [0,2] [] [2,1] [] []
def bH.f (m:Nat)(s0:ab):Option (Bool):=some s0.aj
def bH.fin (L:Mem)(r:Bool)(s:St):Prop:=∃av,aM Try.prog (s.open Az) Try.f37.results.toList=some av∧fA s.h av (.bool r)
def LP (cf:CallF)(m:Nat):Prop:=∀(s0:ab) (r:Bool),bH.f m s0=some r→∀h xs,aO bR h xs [.fp [.bool s0.aj,ah.fz s0.aa,af.fz s0.ae] 0]→cf 37 xs h=some (.bool r,h)
section
variable {cf:CallF}{m:Nat}
theorem lX {aV:FuncId→b5}(ha:aV 37=Az)  (s0:ab)(h:AHeap)(L:Mem)  (o:Has h (L)){out:Bool}(H:bH.f m s0=some out) :
  ∃r h',aZ Try.prog aV cf m 37 [.fp [.bool s0.aj,ah.fz s0.aa,af.fz s0.ae] 0] h=some (r,h')∧fA h' r (.bool out):=by
 refine ar (fn:=Try.f37) ha Try.func37 (by kernel_rfl) (by kernel_rfl) ?_
 refine aH (Q:=fun s=>bH.fin L out s) (fun _ _ h=>h) ?_
 have H:_=some out:=H
 unfold bH.f at H
 show dp _ cf Az m _ ⟨[.fp [.bool s0.aj,ah.fz s0.aa,af.fz s0.ae] 0,.any],[],h⟩ _
 obtain rfl:=oi H
 exact q1 <| qq <| q0 <| qt <| ⟨.inl rfl,dC (.bool s0.aj) h (dB (aD))⟩
end
end Go.Proofs.Ytifafejidnjckaa
namespace Go.Proofs.Ytifafejidnjckaa
open Go Go.R
open Go.IntKind (i64 u64 u8 u32)
def xF:b5:=gX [0,1,4,13] [] [12,4,12,11] [] []
def ba.l0 (m:Nat)(s0:ab):Nat→Int→Option (Int)
 | 0,_=>none
 | k+1,n1=>(ix s0.ae n1).bind fun v0=>if (!(v0==n1))=true then ((ix s0.ae n1).bind fun v1=>ba.l0 m s0 k v1) else (some (n1))
def ba.f (m:Nat)(s0:ab)(n0:Int):Option (Int):=(ba.l0 m s0 m n0).bind fun b4=>match b4 with | n2=>some n2
def ba.fin (L:Mem)(r:Int)(s:St):Prop:=∃av,aM Try.prog (s.open xF) Try.f41.results.toList=some av∧fA s.h av (.int .i64 r)
def MT (cf:CallF)(m:Nat):Prop:=∀(s0:ab) (n0:Int) (r:Int),ba.f m s0 n0=some r→∀h xs,aO bR h xs [.fp [.bool s0.aj,ah.fz s0.aa,af.fz s0.ae] 0,.int .i64 n0]→cf 41 xs h=some (.int .i64 r,h)
section
variable {cf:CallF}{m:Nat}
theorem ba.di (L:Mem)(s0:ab)   : dV Try.prog cf xF m (sub [1,0,0,0] (b7 Try.f41)) (fun k (σ:Int)=>ba.l0 m s0 k σ) (fun σ s=>match σ with | n1=>∃h0,s=⟨[.fp [.bool s0.aj,ah.fz s0.aa,af.fz s0.ae] 0,.int .i64 n1,.any,.any],[],h0⟩∧Has h0 (L)) (fun out e s=>(e = .exit 0∧∃n1,n1=out∧∃n7 sI h0,s=⟨[n7,.int .i64 n1,.any,sI],[],h0⟩∧Has h0 (L))):=by
 refine me (fun _=>rfl) ?_
 rintro k n1 s out ⟨h0,rfl,o0⟩ H
 have H:ba.l0 m s0 (k+1) n1=some out:=H
 refine qq <| qq ?_
 obtain⟨v0,e0,H⟩:=bh H
 refine qr [.v 5 (eW (k:=.i64) (E:=af) (l:=s0.ae) gK e0),.v 6 (ij  (E:=af) (l:=s0.ae) h0 A3 e0 rfl)] <| qc H (fun c0 H=>?_) (fun c0 H=>?_)
 ·refine qk <| qb 1 ?_
  obtain⟨v1,e1,H⟩:=bh H
  exact qr [.v 5 (eW (k:=.i64) (E:=af) (l:=s0.ae) gK e1),.v 6 (ij  (E:=af) (l:=s0.ae) h0 A3 e1 rfl)] <| ⟨v1,⟨h0,by kernel_rfl,o0⟩,H⟩
 ·exact qx 0 <| ⟨rfl,n1,oi H,.fp [.bool s0.aj,ah.fz s0.aa,af.fz s0.ae] 0,.bool (!(v0==n1)),h0,by kernel_rfl,o0⟩
theorem mI {aV:FuncId→b5}(ha:aV 41=xF)  (s0:ab)(n0:Int)(h:AHeap)(L:Mem)  (o:Has h (L)){out:Int}(H:ba.f m s0 n0=some out) :
  ∃r h',aZ Try.prog aV cf m 41 [.fp [.bool s0.aj,ah.fz s0.aa,af.fz s0.ae] 0,.int .i64 n0] h=some (r,h')∧fA h' r (.int .i64 out):=by
 refine ar (fn:=Try.f41) ha Try.func41 (by kernel_rfl) (by kernel_rfl) ?_
 refine aH (Q:=fun s=>ba.fin L out s) (fun _ _ h=>h) ?_
 have H:_=some out:=H
 unfold ba.f at H
 show dp _ cf xF m _ ⟨[.fp [.bool s0.aj,ah.fz s0.aa,af.fz s0.ae] 0,.int .i64 n0,.any,.any],[],h⟩ _
 refine q1 <| qq <| qb 0 ?_
 obtain⟨b4,e2,H⟩:=bh H
 refine ql (ba.di L s0   n0 _ _ ⟨h,by kernel_rfl,o⟩ e2) ?_
 rintro e s ⟨rfl,n2,rfl,g0,g1,h1,rfl,o1⟩
 try dsimp only at H
 obtain rfl:=oi H
 exact q1 <| qt <| ⟨.inl rfl,dC (.int .i64 n2) h1 (dB (dh))⟩
end
end Go.Proofs.Ytifafejidnjckaa
namespace Go.Proofs.Ytifafejidnjckaa
open Go Go.R
open Go.IntKind (i64 u64 u8 u32)
end Go.Proofs.Ytifafejidnjckaa
namespace Go.Proofs.Ytifafejidnjckaa
open Go Go.R
open Go.IntKind (i64 u64 u8 u32)
def AA:b5:=gX [0,1,2,5,6,7,8,9,13,17,31] [5] [2036,1908,1999,1782,1999,1526,1999,1974,950,1974,1983,1999] [] []
def b6.f (m:Nat)(s0:ab)(EC:Option (Bool))(n0:aq):Option (Int × Int × ab):=(bH.f m s0).bind fun x0=>if (!x0)=true then (some ((0:Int),(6:Int),s0)) else ((EC ).bind fun r0=>if (!r0)=true then (some ((0:Int),(1:Int),s0)) else (if (decide ((s0.aa.length:Int)≥(8000:Int)))=true then (some ((0:Int),(7:Int),s0)) else (jn (fun (σ:Int)=>match σ with | n1=>(app 56 s0.aa ([(aq.mk n0.kind n1 n0.label n0.args)])).bind fun x1=>(app 8 s0.ae ([(s0.aa.length:Int)])).bind fun x2=>some ((s0.aa.length:Int),(0:Int),(ab.mk s0.aj x1 x2))) fun tv=>(if (n0.kind==(0:Int))=true then (tv (s0.aa.length:Int)) else (tv n0.int)))))
def b6.fin (L:Mem)(ao:Nat)(ak:Nat)(an:Nat)(s0:ab)(EC:Option (Bool))(n0:aq)(r:Int × Int × ab)(s:St):Prop:=∃aA aB:Nat,aM Try.prog (s.open AA) Try.f47.results.toList=some (.tup [.int .i64 r.1,.int .i64 r.2.1])∧Has s.h ((ao,.ob [.bool r.2.2.aj,.rs aA 0 r.2.2.aa.length 4,.rs aB 0 r.2.2.ae.length 1])::(aA,.sl r.2.2.aa.length 4 (ah.l r.2.2.aa))::(aB,.sl r.2.2.ae.length 1 (af.l r.2.2.ae))::L)
def Kv (cf:CallF)(m:Nat):Prop:=∀(s0:ab) (EC:Option (Bool)) (n0:aq) (r:Int × Int × ab),b6.f m s0 EC n0=some r→∀h L (ao:Nat) (ak:Nat) (an:Nat),Has h ((ao,.ob [.bool s0.aj,.rs ak 0 s0.aa.length 4,.rs an 0 s0.ae.length 1])::(ak,.sl s0.aa.length 4 (ah.l s0.aa))::(an,.sl s0.ae.length 1 (af.l s0.ae))::L)→∀(eK:FuncId) (aP bX:List AV),(aK (.fn eK aP) = .fn eK aP)→(∀(h:AHeap) (xs:List AV)  r,EC  = some r→aO bR h xs ([]++bX)→cf eK xs h=some (.bool r,h))→(∀h K,Has h (K++((ao,.ob [.bool s0.aj,.rs ak 0 s0.aa.length 4,.rs an 0 s0.ae.length 1])::(ak,.sl s0.aa.length 4 (ah.l s0.aa))::(an,.sl s0.ae.length 1 (af.l s0.ae))::L))→aO cE h aP bX)→(∀h,aO cE h bX bX)→∀xs,xs.map aK=[.ptr ao 0,.fn eK aP,.agg [.int .i64 n0.kind,.int .i64 n0.int,.str n0.label,af.fz n0.args]]→∃aA aB h',cf 47 xs h=some (.tup [.int .i64 r.1,.int .i64 r.2.1],h')∧Has h' ((ao,.ob [.bool r.2.2.aj,.rs aA 0 r.2.2.aa.length 4,.rs aB 0 r.2.2.ae.length 1])::(aA,.sl r.2.2.aa.length 4 (ah.l r.2.2.aa))::(aB,.sl r.2.2.ae.length 1 (af.l r.2.2.ae))::L)
section
variable {cf:CallF}{m:Nat}
theorem mJ {aV:FuncId→b5}(ha:aV 47=AA)(zi:LP cf m)(s0:ab)(EC:Option (Bool))(n0:aq)(h:AHeap)(L:Mem)(ao:Nat)(ak:Nat)(an:Nat)(eK:FuncId)(aP bX:List AV)  (qS:aK (.fn eK aP) = .fn eK aP)(gU:∀(h:AHeap) (xs:List AV)  r,EC  = some r→aO bR h xs ([]++bX)→cf eK xs h=some (.bool r,h))(oU:∀h K,Has h (K++((ao,.ob [.bool s0.aj,.rs ak 0 s0.aa.length 4,.rs an 0 s0.ae.length 1])::(ak,.sl s0.aa.length 4 (ah.l s0.aa))::(an,.sl s0.ae.length 1 (af.l s0.ae))::L))→aO cE h aP bX)(gV:∀h,aO cE h bX bX)(o:Has h ((ao,.ob [.bool s0.aj,.rs ak 0 s0.aa.length 4,.rs an 0 s0.ae.length 1])::(ak,.sl s0.aa.length 4 (ah.l s0.aa))::(an,.sl s0.ae.length 1 (af.l s0.ae))::L)){out:Int × Int × ab}(H:b6.f m s0 EC n0=some out) :
  ∃r h',aZ Try.prog aV cf m 47 [.ptr ao 0,.fn eK aP,.agg [.int .i64 n0.kind,.int .i64 n0.int,.str n0.label,af.fz n0.args]] h=some (r,h')∧∃aA aB:Nat,r = .tup [.int .i64 out.1,.int .i64 out.2.1]∧Has h' ((ao,.ob [.bool out.2.2.aj,.rs aA 0 out.2.2.aa.length 4,.rs aB 0 out.2.2.ae.length 1])::(aA,.sl out.2.2.aa.length 4 (ah.l out.2.2.aa))::(aB,.sl out.2.2.ae.length 1 (af.l out.2.2.ae))::L):=by
 refine ar (fn:=Try.f47) ha Try.func47 (by kernel_rfl) (by kernel_rfl) ?_
 refine aH (Q:=fun s=>b6.fin L ao ak an s0 EC n0 out s) (fun _ _ ⟨h1,aA,aB,h2,h3⟩=>⟨h1,_,h2,aA,aB,rfl,h3⟩) ?_
 have H:_=some out:=H
 unfold b6.f at H
 show dp _ cf AA m _ ⟨.ptr ao 0 :: .fn eK aP :: .agg [.int .i64 n0.kind,.int .i64 n0.int,.str n0.label,af.fz n0.args]::Aq [],[none],h⟩ _
 refine q1 <| qq <| qb 0 <| qq ?_
 obtain⟨x0,e0,H⟩:=bh H
 refine qr [.a 1 (zi _ _ e0 h _ (gv (ai (dQ (q:=0) o rfl (ai (fD) (ai (eh (E:=ah) (l:=s0.aa) (q:=1) o rfl (fun _=>rfl)) (ai (eh (E:=af) (l:=s0.ae) (q:=2) o rfl (fun _=>rfl)) (ay))))) (ay))))] <| qc H (fun c0 H=>?_) (fun c0 H=>?_)
 ·obtain rfl:=oi H
  exact q1 <| qt <| ⟨.inl rfl,⟨ak,an,by kernel_rfl,he o⟩⟩
 ·refine qq ?_
  obtain⟨r0,e1,H⟩:=bh H
  refine qr [.a 1 (gU _ _ _ e1 (Ib (ay) (oU h [] o)))] <| qc H (fun c1 H=>?_) (fun c1 H=>?_)
  ·obtain rfl:=oi H
   exact q1 <| qt <| ⟨.inl rfl,⟨ak,an,by kernel_rfl,he o⟩⟩
  ·refine qs [.v 3 (show bm Try.prog h 40 (.ptr ao 1)=some (.rs ak 0 s0.aa.length 4) from bZ (q:=0) (cs:=[.bool s0.aj,.rs ak 0 s0.aa.length 4,.rs an 0 s0.ae.length 1]) o rfl (by kernel_rfl))] <| qc H (fun c2 H=>?_) (fun c2 H=>?_)
   ·obtain rfl:=oi H
    exact q1 <| qt <| ⟨.inl rfl,⟨ak,an,by kernel_rfl,he o⟩⟩
   ·refine qk <| qq <| qr [.v 3 (show bm Try.prog h 40 (.ptr ao 1)=some (.rs ak 0 s0.aa.length 4) from bZ (q:=0) (cs:=[.bool s0.aj,.rs ak 0 s0.aa.length 4,.rs an 0 s0.ae.length 1]) o rfl (by kernel_rfl))] ?_
    obtain⟨tv,ED,H⟩:=lA H
    refine qj (S:=fun (σ:Int) s=>match σ with | n1=>∃(g0:AV) (h0:AHeap),s=⟨.ptr ao 0 :: .any :: .any :: .lp 5 0 :: .any :: .any :: .int .i64 (s0.aa.length:Int)::sv [g0],[some [.int .i64 n0.kind,.int .i64 n1,.str n0.label,af.fz n0.args]],h0⟩∧Has h0 ((ao,.ob [.bool s0.aj,.rs ak 0 s0.aa.length 4,.rs an 0 s0.ae.length 1])::(ak,.sl s0.aa.length 4 (ah.l s0.aa))::(an,.sl s0.ae.length 1 (af.l s0.ae))::L)) tv H ?_ ?_
    ·rintro n1 s ⟨g0,h0,rfl,o0⟩ H
     have H:=(ED _).symm.trans H
     try dsimp only at H
     refine qq ?_
     obtain⟨x1,e2,H⟩:=bh H
     obtain⟨aI,h1,e3,o1⟩:=gH (P:=Try.prog) (E:=ah) (l:=s0.aa) (q:=1) (t2:=40) (x:=.fz [.int .i64 n0.kind,.int .i64 n1,.str n0.label,af.fz n0.args] 1 true) (l2:=([(aq.mk n0.kind n1 n0.label n0.args)])) yx o0 rfl (by kernel_rfl) rfl e2
     obtain⟨x2,e4,H⟩:=bh H
     obtain⟨dR,h2,e5,o2⟩:=gH (P:=Try.prog) (E:=af) (l:=s0.ae) (q:=2) (t2:=33) (x:=.fz [.int .i64 (s0.aa.length:Int)] 1 true) (l2:=([(s0.aa.length:Int)])) gK o1 rfl (by kernel_rfl) rfl e4
     obtain⟨h3,e6,o3⟩:=nF (P:=Try.prog) (t:=40) (off:=1) (q:=0) (cs:=[.bool s0.aj,.rs ak 0 s0.aa.length 4,.rs an 0 s0.ae.length 1]) (eY:=[.bool s0.aj,.rs aI 0 x1.length 4,.rs an 0 s0.ae.length 1]) (x:=.rs aI 0 x1.length 4) o2 rfl (by kernel_rfl)
     obtain⟨h4,e7,o4⟩:=nF (P:=Try.prog) (t:=33) (off:=2) (q:=0) (cs:=[.bool s0.aj,.rs aI 0 x1.length 4,.rs an 0 s0.ae.length 1]) (eY:=[.bool s0.aj,.rs aI 0 x1.length 4,.rs dR 0 x2.length 1]) (x:=.rs dR 0 x2.length 1) o3 rfl (by kernel_rfl)
     obtain rfl:=oi H
     exact LI [] [.v 5 (show bm Try.prog h0 40 (.ptr ao 1)=some (.rs ak 0 s0.aa.length 4) from bZ (q:=0) (cs:=[.bool s0.aj,.rs ak 0 s0.aa.length 4,.rs an 0 s0.ae.length 1]) o0 rfl (by kernel_rfl)),.a 8 e3,.v 12 (show bm Try.prog h1 33 (.ptr ao 2)=some (.rs an 0 s0.ae.length 1) from bZ (q:=0) (cs:=[.bool s0.aj,.rs ak 0 s0.aa.length 4,.rs an 0 s0.ae.length 1]) o1 rfl (by kernel_rfl)),.a 15 e5,.w 18 e6,.w 21 e7] [.mk (zg o0 (q:=1) rfl (q2:=0) rfl (by decide) e3)] <| qq <| q0 <| qt <| ⟨.inl rfl,⟨aI,dR,by kernel_rfl,he o4⟩⟩
    clear ED
    intro oV
    refine q1 <| qc H (fun c3 H=>?_) (fun c3 H=>?_)
    ·exact q0 <| oV (s0.aa.length:Int) _ ⟨.any,h,by kernel_rfl,o⟩ H
    ·exact qk <| oV n0.int _ ⟨.bool (n0.kind==(0:Int)),h,by kernel_rfl,o⟩ H
end
end Go.Proofs.Ytifafejidnjckaa
namespace Go.Proofs.Ytifafejidnjckaa
open Go Go.R
open Go.IntKind (i64 u64 u8 u32)
def AB:b5:=gX [0] [] [1] [] []
def dH.f (m:Nat)  : Option (Bool):=some true
def dH.fin (L:Mem)(r:Bool)(s:St):Prop:=∃av,aM Try.prog (s.open AB) Try.f48.results.toList=some av∧fA s.h av (.bool r)
def QU (cf:CallF)(m:Nat):Prop:=∀ (r:Bool),dH.f m  = some r→∀h xs,aO bR h xs []→cf 48 xs h=some (.bool r,h)
section
variable {cf:CallF}{m:Nat}
theorem lC {aV:FuncId→b5}(ha:aV 48=AB)   (h:AHeap)(L:Mem)  (o:Has h (L)){out:Bool}(H:dH.f m  = some out) :
  ∃r h',aZ Try.prog aV cf m 48 [] h=some (r,h')∧fA h' r (.bool out):=by
 refine ar (fn:=Try.f48) ha Try.func48 (by kernel_rfl) (by kernel_rfl) ?_
 refine aH (Q:=fun s=>dH.fin L out s) (fun _ _ h=>h) ?_
 have H:_=some out:=H
 unfold dH.f at H
 show dp _ cf AB m _ ⟨[.any],[],h⟩ _
 obtain rfl:=oi H
 exact q1 <| qq <| q0 <| qt <| ⟨.inl rfl,dC (.bool true) h (dB (aD))⟩
end
end Go.Proofs.Ytifafejidnjckaa
namespace Go.Proofs.Ytifafejidnjckaa
open Go Go.R
open Go.IntKind (i64 u64 u8 u32)
def AD:b5:=gX [0,1] [] [2,1] [] []
def cZ.f (m:Nat)(x0:Int):Option (Bool):=if (decide (x0≥(-1099511627776:Int)))=true then (some (decide (x0≤(1099511627776:Int)))) else (some false)
def cZ.fin (L:Mem)(r:Bool)(s:St):Prop:=∃av,aM Try.prog (s.open AD) Try.f51.results.toList=some av∧fA s.h av (.bool r)
def QV (cf:CallF)(m:Nat):Prop:=∀(x0:Int) (r:Bool),cZ.f m x0=some r→∀h xs,aO bR h xs [.fp [.int .i64 x0] 0]→cf 51 xs h=some (.bool r,h)
section
variable {cf:CallF}{m:Nat}
theorem lD {aV:FuncId→b5}(ha:aV 51=AD)  (x0:Int)(h:AHeap)(L:Mem)  (o:Has h (L)){out:Bool}(H:cZ.f m x0=some out) :
  ∃r h',aZ Try.prog aV cf m 51 [.fp [.int .i64 x0] 0] h=some (r,h')∧fA h' r (.bool out):=by
 refine ar (fn:=Try.f51) ha Try.func51 (by kernel_rfl) (by kernel_rfl) ?_
 refine aH (Q:=fun s=>cZ.fin L out s) (fun _ _ h=>h) ?_
 have H:_=some out:=H
 unfold cZ.f at H
 show dp _ cf AD m _ ⟨[.fp [.int .i64 x0] 0,.any],[],h⟩ _
 refine q1 <| qq ?_
 rcases iA H with⟨c0,H⟩| ⟨c0,H⟩
 ·obtain rfl:=oi H
  exact qr [.b 2 c0] <| qt <| ⟨.inl rfl,dC (.bool (decide (x0≤(1099511627776:Int)))) h (dB (aD))⟩
 ·obtain rfl:=oi H
  exact qr [.b 2 c0] <| qt <| ⟨.inl rfl,dC (.bool false) h (dB (aD))⟩
end
end Go.Proofs.Ytifafejidnjckaa
namespace Go.Proofs.Ytifafejidnjckaa
open Go Go.R
open Go.IntKind (i64 u64 u8 u32)
def AE:b5:=gX [0,1,4] [] [4,3] [] []
def cw.f (m:Nat)(s0:ab)(n0:Int):Option (Bool):=if (decide (n0≥(0:Int)))=true then (some (decide (n0<(s0.aa.length:Int)))) else (some false)
def cw.fin (L:Mem)(r:Bool)(s:St):Prop:=∃av,aM Try.prog (s.open AE) Try.f54.results.toList=some av∧fA s.h av (.bool r)
def Ow (cf:CallF)(m:Nat):Prop:=∀(s0:ab) (n0:Int) (r:Bool),cw.f m s0 n0=some r→∀h xs,aO bR h xs [.fp [.bool s0.aj,ah.fz s0.aa,af.fz s0.ae] 0,.int .i64 n0]→cf 54 xs h=some (.bool r,h)
section
variable {cf:CallF}{m:Nat}
theorem lE {aV:FuncId→b5}(ha:aV 54=AE)  (s0:ab)(n0:Int)(h:AHeap)(L:Mem)  (o:Has h (L)){out:Bool}(H:cw.f m s0 n0=some out) :
  ∃r h',aZ Try.prog aV cf m 54 [.fp [.bool s0.aj,ah.fz s0.aa,af.fz s0.ae] 0,.int .i64 n0] h=some (r,h')∧fA h' r (.bool out):=by
 refine ar (fn:=Try.f54) ha Try.func54 (by kernel_rfl) (by kernel_rfl) ?_
 refine aH (Q:=fun s=>cw.fin L out s) (fun _ _ h=>h) ?_
 have H:_=some out:=H
 unfold cw.f at H
 show dp _ cf AE m _ ⟨[.fp [.bool s0.aj,ah.fz s0.aa,af.fz s0.ae] 0,.int .i64 n0,.any],[],h⟩ _
 refine q1 <| qq ?_
 rcases iA H with⟨c0,H⟩| ⟨c0,H⟩
 ·obtain rfl:=oi H
  exact qr [.b 2 c0] <| qt <| ⟨.inl rfl,dC (.bool (decide (n0<(s0.aa.length:Int)))) h (dB (aD))⟩
 ·obtain rfl:=oi H
  exact qr [.b 2 c0] <| qt <| ⟨.inl rfl,dC (.bool false) h (dB (aD))⟩
end
end Go.Proofs.Ytifafejidnjckaa
namespace Go.Proofs.Ytifafejidnjckaa
open Go Go.R
open Go.IntKind (i64 u64 u8 u32)
def AF:b5:=gX [0,1,2,3,4] [2,3] [19,15] [] []
def fh.f (m:Nat)(a0:aq)(b0:aq):Option (Bool):=if (!(a0.kind==b0.kind))=true then (some true) else (if (!(a0.int==b0.int))=true then (some true) else (if (!(a0.label.data.toList==b0.label.data.toList))=true then (some true) else (some (!((a0.args.length:Int)==(b0.args.length:Int))))))
def fh.fin (L:Mem)(r:Bool)(s:St):Prop:=∃av,aM Try.prog (s.open AF) Try.f55.results.toList=some av∧fA s.h av (.bool r)
def Ox (cf:CallF)(m:Nat):Prop:=∀(a0:aq) (b0:aq) (r:Bool),fh.f m a0 b0=some r→∀h xs,aO bR h xs [.agg [.int .i64 a0.kind,.int .i64 a0.int,.str a0.label,af.fz a0.args],.agg [.int .i64 b0.kind,.int .i64 b0.int,.str b0.label,af.fz b0.args]]→cf 55 xs h=some (.bool r,h)
section
variable {cf:CallF}{m:Nat}
theorem oW {aV:FuncId→b5}(ha:aV 55=AF)  (a0:aq)(b0:aq)(h:AHeap)(L:Mem)  (o:Has h (L)){out:Bool}(H:fh.f m a0 b0=some out) :
  ∃r h',aZ Try.prog aV cf m 55 [.agg [.int .i64 a0.kind,.int .i64 a0.int,.str a0.label,af.fz a0.args],.agg [.int .i64 b0.kind,.int .i64 b0.int,.str b0.label,af.fz b0.args]] h=some (r,h')∧fA h' r (.bool out):=by
 refine ar (fn:=Try.f55) ha Try.func55 (by kernel_rfl) (by kernel_rfl) ?_
 refine aH (Q:=fun s=>fh.fin L out s) (fun _ _ h=>h) ?_
 have H:_=some out:=H
 unfold fh.f at H
 show dp _ cf AF m _ ⟨.agg [.int .i64 a0.kind,.int .i64 a0.int,.str a0.label,af.fz a0.args] :: .agg [.int .i64 b0.kind,.int .i64 b0.int,.str b0.label,af.fz b0.args]::sv [],[none,none],h⟩ _
 refine q1 <| qq ?_
 rcases iA H with⟨c0,H⟩| ⟨c0,H⟩
 ·obtain rfl:=oi H
  exact qr [.b 5 c0] <| qt <| ⟨.inl rfl,dC (.bool true) h (dB (aD))⟩
 ·rcases iA H with⟨c1,H⟩| ⟨c1,H⟩
  ·obtain rfl:=oi H
   exact qr [.b 5 c0,.b 12 c1] <| qt <| ⟨.inl rfl,dC (.bool true) h (dB (aD))⟩
  ·rcases iA H with⟨c2,H⟩| ⟨c2,H⟩
   ·obtain rfl:=oi H
    exact qr [.b 5 c0,.b 12 c1,.b 19 c2] <| qt <| ⟨.inl rfl,dC (.bool true) h (dB (aD))⟩
   ·obtain rfl:=oi H
    exact qr [.b 5 c0,.b 12 c1,.b 19 c2] <| qt <| ⟨.inl rfl,dC (.bool (!((a0.args.length:Int)==(b0.args.length:Int)))) h (dB (aD))⟩
end
end Go.Proofs.Ytifafejidnjckaa
namespace Go.Proofs.Ytifafejidnjckaa
open Go Go.R
open Go.IntKind (i64 u64 u8 u32)
def AG:b5:=gX [0,1,4] [] [4,3] [] []
def b8.f (m:Nat)(s0:ab)(n0:Int):Option (Bool):=(ix s0.aa n0).bind fun v0=>some (v0.kind==(0:Int))
def b8.fin (L:Mem)(r:Bool)(s:St):Prop:=∃av,aM Try.prog (s.open AG) Try.f59.results.toList=some av∧fA s.h av (.bool r)
def Oy (cf:CallF)(m:Nat):Prop:=∀(s0:ab) (n0:Int) (r:Bool),b8.f m s0 n0=some r→∀h xs,aO bR h xs [.fp [.bool s0.aj,ah.fz s0.aa,af.fz s0.ae] 0,.int .i64 n0]→cf 59 xs h=some (.bool r,h)
section
variable {cf:CallF}{m:Nat}
theorem lY {aV:FuncId→b5}(ha:aV 59=AG)  (s0:ab)(n0:Int)(h:AHeap)(L:Mem)  (o:Has h (L)){out:Bool}(H:b8.f m s0 n0=some out) :
  ∃r h',aZ Try.prog aV cf m 59 [.fp [.bool s0.aj,ah.fz s0.aa,af.fz s0.ae] 0,.int .i64 n0] h=some (r,h')∧fA h' r (.bool out):=by
 refine ar (fn:=Try.f59) ha Try.func59 (by kernel_rfl) (by kernel_rfl) ?_
 refine aH (Q:=fun s=>b8.fin L out s) (fun _ _ h=>h) ?_
 have H:_=some out:=H
 unfold b8.f at H
 show dp _ cf AG m _ ⟨[.fp [.bool s0.aj,ah.fz s0.aa,af.fz s0.ae] 0,.int .i64 n0,.any],[],h⟩ _
 refine q1 <| qq ?_
 obtain⟨v0,e0,H⟩:=bh H
 obtain rfl:=oi H
 exact qr [.v 5 (eW (k:=.i64) (E:=ah) (l:=s0.aa) yx e0),.v 7 (nX  (E:=ah) (l:=s0.aa) (off:=0) h A3 e0 rfl)] <| qt <| ⟨.inl rfl,dC (.bool (v0.kind==(0:Int))) h (dB (aD))⟩
end
end Go.Proofs.Ytifafejidnjckaa
namespace Go.Proofs.Ytifafejidnjckaa
open Go Go.R
open Go.IntKind (i64 u64 u8 u32)
def AH:b5:=gX [0,1,3] [] [4,3] [] []
def cr.f (m:Nat)(a0:Int)(x0:ab):Option (Bool):=(cw.f m x0 a0).bind fun x1=>some (!x1)
def cr.fin (L:Mem)(r:Bool)(s:St):Prop:=∃av,aM Try.prog (s.open AH) Try.f62.results.toList=some av∧fA s.h av (.bool r)
def QX (cf:CallF)(m:Nat):Prop:=∀(a0:Int) (x0:ab) (r:Bool),cr.f m a0 x0=some r→∀h xs,aO bR h xs [.int .i64 a0,.fp [.fp [.bool x0.aj,ah.fz x0.aa,af.fz x0.ae] 0] 0]→cf 62 xs h=some (.bool r,h)
section
variable {cf:CallF}{m:Nat}
theorem jT {aV:FuncId→b5}(ha:aV 62=AH)(Jr:Ow cf m)(a0:Int)(x0:ab)(h:AHeap)(L:Mem)  (o:Has h (L)){out:Bool}(H:cr.f m a0 x0=some out) :
  ∃r h',aZ Try.prog aV cf m 62 [.int .i64 a0,.fp [.fp [.bool x0.aj,ah.fz x0.aa,af.fz x0.ae] 0] 0] h=some (r,h')∧fA h' r (.bool out):=by
 refine ar (fn:=Try.f62) ha Try.func62 (by kernel_rfl) (by kernel_rfl) ?_
 refine aH (Q:=fun s=>cr.fin L out s) (fun _ _ h=>h) ?_
 have H:_=some out:=H
 unfold cr.f at H
 show dp _ cf AH m _ ⟨[.int .i64 a0,.fp [.fp [.bool x0.aj,ah.fz x0.aa,af.fz x0.ae] 0] 0,.any],[],h⟩ _
 refine q1 <| qq ?_
 obtain⟨x1,e0,H⟩:=bh H
 obtain rfl:=oi H
 exact qr [.a 2 (Jr _ _ _ e0 h _ (gv (ai (gk (pure_cons (dM) (pure_cons (bL.bG (E:=ah) (l:=x0.aa)) (pure_cons (bL.bG (E:=af) (l:=x0.ae)) (pure_nil))))) (ai (bB) (ay)))))] <| qt <| ⟨.inl rfl,dC (.bool (!x1)) h (dB (aD))⟩
end
end Go.Proofs.Ytifafejidnjckaa
namespace Go.Proofs.Ytifafejidnjckaa
open Go Go.R
open Go.IntKind (i64 u64 u8 u32)
def AI:b5:=gX [0,2] [] [2,1] [] []
def fV.f (m:Nat)(s0:ByteArray):Option (Bool):=if (s0.data.toList==(Wo #[112,114,111,99]).data.toList)=true then (some true) else (if (s0.data.toList==(Wo #[99,101,108,108]).data.toList)=true then (some true) else (some (s0.data.toList==(Wo #[112,111,114,116]).data.toList)))
def fV.fin (L:Mem)(r:Bool)(s:St):Prop:=∃av,aM Try.prog (s.open AI) Try.f64.results.toList=some av∧fA s.h av (.bool r)
def Oz (cf:CallF)(m:Nat):Prop:=∀(s0:ByteArray) (r:Bool),fV.f m s0=some r→∀h xs,aO bR h xs [.str s0]→cf 64 xs h=some (.bool r,h)
section
variable {cf:CallF}{m:Nat}
theorem qT {aV:FuncId→b5}(ha:aV 64=AI)  (s0:ByteArray)(h:AHeap)(L:Mem)  (o:Has h (L)){out:Bool}(H:fV.f m s0=some out) :
  ∃r h',aZ Try.prog aV cf m 64 [.str s0] h=some (r,h')∧fA h' r (.bool out):=by
 refine ar (fn:=Try.f64) ha Try.func64 (by kernel_rfl) (by kernel_rfl) ?_
 refine aH (Q:=fun s=>fV.fin L out s) (fun _ _ h=>h) ?_
 have H:_=some out:=H
 unfold fV.f at H
 show dp _ cf AI m _ ⟨[.str s0,.any],[],h⟩ _
 refine q1 <| qq ?_
 rcases iA H with⟨c0,H⟩| ⟨c0,H⟩
 ·obtain rfl:=oi H
  exact qr [.b 2 c0] <| qt <| ⟨.inl rfl,dC (.bool true) h (dB (aD))⟩
 ·rcases iA H with⟨c1,H⟩| ⟨c1,H⟩
  ·obtain rfl:=oi H
   exact qr [.b 2 c0,.b 6 c1] <| qt <| ⟨.inl rfl,dC (.bool true) h (dB (aD))⟩
  ·obtain rfl:=oi H
   exact qr [.b 2 c0,.b 6 c1] <| qt <| ⟨.inl rfl,dC (.bool (s0.data.toList==(Wo #[112,111,114,116]).data.toList)) h (dB (aD))⟩
end
end Go.Proofs.Ytifafejidnjckaa
namespace Go.Proofs.Ytifafejidnjckaa
open Go Go.R
open Go.IntKind (i64 u64 u8 u32)
end Go.Proofs.Ytifafejidnjckaa
namespace Go.Proofs.Ytifafejidnjckaa
open Go Go.R
open Go.IntKind (i64 u64 u8 u32)
end Go.Proofs.Ytifafejidnjckaa
namespace Go.Proofs.Ytifafejidnjckaa
open Go Go.R
open Go.IntKind (i64 u64 u8 u32)
def xG:b5:=gX [0,1,2,3,4,5,7,8,9,10,11,12,14,24,53,54,55,56] [11,1000048] [262080,261696,253760,262079,261568,261574,260567,260567,258519,144855,13783,140759,144855,144855,261631,262079] [] [(8,[(12,none,1)])]
def aX.l0 (m:Nat)(x1:List Int)(x3:br)(rec:Int→(List (Int × Int))→(List Int)→br→br→Option (Int × (List (Int × Int)) × br))(v2:aq):Nat→(List Int)→Int→(List (Int × Int))→br→Option ((List Int) × Int × (List (Int × Int)) × br)
 | 0,_,_,_,_=>none
 | k+1,dt,x6,x7,x8=>if (decide (x6<(v2.args.length:Int)))=true then ((ix v2.args x6).bind fun v3=>(rec v3 x7 x1 x8 x3).bind fun x9=>(app 8 dt ([x9.1])).bind fun kB=>aX.l0 m x1 x3 rec v2 k kB (i64.wrap (x6+(1:Int))) x9.2.1 x9.2.2) else (some ((dt,x6,x7,x8)))
def aX.b (m:Nat)(rec:Int→(List (Int × Int))→(List Int)→br→br→Option (Int × (List (Int × Int)) × br))(i0:Int)(x0:List (Int × Int))(x1:List Int)(x2:br)(x3:br):Option (Int × (List (Int × Int)) × br):=(ix x1 i0).bind fun v0=>if ((xl x0 v0).2)=true then (some ((xl x0 v0).1,x0,x2)) else ((ix x1 i0).bind fun v1=>(ix x3.nodes i0).bind fun v2=>(app 56 x2.nodes [aq.mk v2.kind v2.int v2.label ([]:List Int)]).bind fun x5=>(aX.l0 m x1 x3 rec v2 m ([]:List Int) (0:Int) (Cv x0 v1 (x2.nodes.length:Int)) (br.mk x5 x2.root)).bind fun b4=>match b4 with | (xH,AJ,EE,sJ)=>(ix sJ.nodes (x2.nodes.length:Int)).bind fun v4=>some ((x2.nodes.length:Int),EE,(br.mk (sJ.nodes.set (x2.nodes.length:Int).toNat (aq.mk v4.kind v4.int v4.label xH)) sJ.root)))
def aX.f (m:Nat):Nat→Int→(List (Int × Int))→(List Int)→br→br→Option (Int × (List (Int × Int)) × br)
 | 0,_,_,_,_,_=>none
 | k+1,i0,x0,x1,x2,x3=>aX.b m (aX.f m k) i0 x0 x1 x2 x3
def aX.fin (L:Mem)(da:Nat)(du:Nat)(db:Nat)(cK:Nat)(dZ:Nat)(eC:List Nat)(dj:Nat)(cQ:Nat)(i0:Int)(x0:List (Int × Int))(x1:List Int)(x2:br)(x3:br)(r:Int × (List (Int × Int)) × br)(s:St):Prop:=∃(lQ:Nat) (ib:List Nat),aM Try.prog (s.open xG) Try.f73.results.toList=some (.int .i64 r.1)∧Has s.h ((da,.ob [.mp du])::(du,.mp (oQ r.2.1))::(db,.ob [af.fz x1])::(cK,.ob [.rs lQ 0 r.2.2.nodes.length 4,.int .i64 r.2.2.root])::(lQ,.sl r.2.2.nodes.length 4 (gj.l (bF r.2.2.nodes ib)))::(dj,.ob [ah.fz x3.nodes,.int .i64 x3.root])::(cQ,.ob [.fn 73 [.ptr da 0,.ptr db 0,.ptr cK 0,.ptr dj 0,.ptr cQ 0]])::(gd r.2.2.nodes ib++L))
def MU (cf:CallF)(m:Nat)(kk:Nat):Prop:=∀(i0:Int) (x0:List (Int × Int)) (x1:List Int) (x2:br) (x3:br) (r:Int × (List (Int × Int)) × br),aX.f m kk i0 x0 x1 x2 x3=some r→∀h L (da:Nat) (du:Nat) (db:Nat) (cK:Nat) (dZ:Nat) (eC:List Nat) (dj:Nat) (cQ:Nat),Has h ((da,.ob [.mp du])::(du,.mp (oQ x0))::(db,.ob [af.fz x1])::(cK,.ob [.rs dZ 0 x2.nodes.length 4,.int .i64 x2.root])::(dZ,.sl x2.nodes.length 4 (gj.l (bF x2.nodes eC)))::(dj,.ob [ah.fz x3.nodes,.int .i64 x3.root])::(cQ,.ob [.fn 73 [.ptr da 0,.ptr db 0,.ptr cK 0,.ptr dj 0,.ptr cQ 0]])::(gd x2.nodes eC++L))→∀xs,xs.map aK=[.int .i64 i0,.ptr da 0,.ptr db 0,.ptr cK 0,.ptr dj 0,.ptr cQ 0]→∃(lQ:Nat) (ib:List Nat) (h':AHeap),cf 73 xs h=some (.int .i64 r.1,h')∧Has h' ((da,.ob [.mp du])::(du,.mp (oQ r.2.1))::(db,.ob [af.fz x1])::(cK,.ob [.rs lQ 0 r.2.2.nodes.length 4,.int .i64 r.2.2.root])::(lQ,.sl r.2.2.nodes.length 4 (gj.l (bF r.2.2.nodes ib)))::(dj,.ob [ah.fz x3.nodes,.int .i64 x3.root])::(cQ,.ob [.fn 73 [.ptr da 0,.ptr db 0,.ptr cK 0,.ptr dj 0,.ptr cQ 0]])::(gd r.2.2.nodes ib++L))
section
variable {cf:CallF}{m:Nat}
theorem aX.di (L:Mem)(da:Nat)(du:Nat)(db:Nat)(cK:Nat)(dZ:Nat)(eC:List Nat)(dj:Nat)(cQ:Nat)(i0:Int)(x0:List (Int × Int))(x1:List Int)(x2:br)(x3:br)(v2:aq)  {kk:Nat}(EF:MU cf m kk)  : dV Try.prog cf xG m (sub [1,1,1,1,1,1,1,0,1,0,0] (b7 Try.f73)) (fun k (σ:(List Int) × Int × (List (Int × Int)) × br)=>aX.l0 m x1 x3 (aX.f m kk) v2 k σ.1 σ.2.1 σ.2.2.1 σ.2.2.2) (fun σ s=>match σ with | (dt,x6,x7,x8)=>∃dR eS vL h3,s=⟨sv (.ptr cK 0 :: .any :: .ptr cQ 0::sv [.int .i64 (x2.nodes.length:Int),.any,.rs dR 0 dt.length 1,.any,.any,af.fz v2.args,.int .i64 (v2.args.length:Int),.int .i64 x6,.any]),[none,none],h3⟩∧Has h3 ((dR,.sl dt.length 1 (af.l dt))::(eS,.sl x8.nodes.length 4 (gj.l (bF x8.nodes vL)))::(da,.ob [.mp du])::(du,.mp (oQ x7))::(db,.ob [af.fz x1])::(cK,.ob [.rs eS 0 x8.nodes.length 4,.int .i64 x8.root])::(dj,.ob [ah.fz x3.nodes,.int .i64 x3.root])::(cQ,.ob [.fn 73 [.ptr da 0,.ptr db 0,.ptr cK 0,.ptr dj 0,.ptr cQ 0]])::(gd x8.nodes vL++L))) (fun out e s=>(e = .exit 0∧∃dt x6 x7 x8,(dt,x6,x7,x8)=out∧∃Jq EG OA OB OC dR eS vL h3,s=⟨sv (.ptr cK 0 :: .any::Jq::sv [.int .i64 (x2.nodes.length:Int),.any,.rs dR 0 dt.length 1,.any,.any,EG,OA,OB,OC]),[none,none],h3⟩∧Has h3 ((dR,.sl dt.length 1 (af.l dt))::(eS,.sl x8.nodes.length 4 (gj.l (bF x8.nodes vL)))::(da,.ob [.mp du])::(du,.mp (oQ x7))::(db,.ob [af.fz x1])::(cK,.ob [.rs eS 0 x8.nodes.length 4,.int .i64 x8.root])::(dj,.ob [ah.fz x3.nodes,.int .i64 x3.root])::(cQ,.ob [.fn 73 [.ptr da 0,.ptr db 0,.ptr cK 0,.ptr dj 0,.ptr cQ 0]])::(gd x8.nodes vL++L)))):=by
 refine me (fun _=>rfl) ?_
 rintro k ⟨dt,x6,x7,x8⟩ s out ⟨dR,eS,vL,h3,rfl,o5⟩ H
 have H:aX.l0 m x1 x3 (aX.f m kk) v2 (k+1) dt x6 x7 x8=some out:=H
 refine q1 <| qq <| qc H (fun c1 H=>?_) (fun c1 H=>?_)
 ·refine qk <| qq <| qb 1 <| qq ?_
  obtain⟨v3,e7,H⟩:=bh H
  refine qr [.v 0 (eW (k:=.i64) (E:=af) (l:=v2.args) gK e7),.v 1 (ij  (E:=af) (l:=v2.args) h3 A3 e7 rfl)] ?_
  obtain⟨x9,e8,H⟩:=bh H
  obtain⟨cD,Js,h4,e9,o6⟩:=EF _ _ _ _ _ _ e8 h3 _ _ _ _ _ _ vL _ _ ((Has.xz (pre:=[(da,.ob [.mp du]),(du,.mp (oQ x7)),(db,.ob [af.fz x1]),(cK,.ob [.rs eS 0 x8.nodes.length 4,.int .i64 x8.root]),(eS,.sl x8.nodes.length 4 (gj.l (bF x8.nodes vL))),(dj,.ob [ah.fz x3.nodes,.int .i64 x3.root]),(cQ,.ob [.fn 73 [.ptr da 0,.ptr db 0,.ptr cK 0,.ptr dj 0,.ptr cQ 0]])]) (mid:=[(dR,.sl dt.length 1 (af.l dt))]) (Has.front (Has.front (Has.front (Has.front (Has.front (Has.front (Has.front (Has.front o5 0 rfl) 7 rfl) 7 rfl) 3 rfl) 7 rfl) 7 rfl) 7 rfl) 7 rfl)))  [.int .i64 v3,.ptr da 0,.ptr db 0,.ptr cK 0,.ptr dj 0,.ptr cQ 0] (au (aL (bj)) (au (rfl) (au (rfl) (au (rfl) (au (rfl) (au (rfl) (bE)))))))
  have o7:=Has.xz (pre:=[(da,.ob [.mp du]),(du,.mp (oQ x9.2.1)),(db,.ob [af.fz x1]),(cK,.ob [.rs cD 0 x9.2.2.nodes.length 4,.int .i64 x9.2.2.root]),(cD,.sl x9.2.2.nodes.length 4 (gj.l (bF x9.2.2.nodes Js))),(dj,.ob [ah.fz x3.nodes,.int .i64 x3.root]),(cQ,.ob [.fn 73 [.ptr da 0,.ptr db 0,.ptr cK 0,.ptr dj 0,.ptr cQ 0]])]) (N:=[(dR,.sl dt.length 1 (af.l dt))]) (mid:=gd x9.2.2.nodes Js) o6
  obtain⟨kB,tw,H⟩:=bh H
  obtain⟨eB,h5,wv,o8⟩:=gH (P:=Try.prog) (E:=af) (l:=dt) (q:=7) (t2:=33) (x:=.fz [.int .i64 x9.1] 1 true) (l2:=([x9.1])) gK o7 rfl (by kernel_rfl) rfl tw
  exact qr [.v 1 (show bm Try.prog h3 80 (.ptr cQ 0)=some (.fn 73 [.ptr da 0,.ptr db 0,.ptr cK 0,.ptr dj 0,.ptr cQ 0]) from bZ (q:=7) (cs:=[.fn 73 [.ptr da 0,.ptr db 0,.ptr cK 0,.ptr dj 0,.ptr cQ 0]]) o5 rfl (by kernel_rfl)),.a 3 e9,.a 5 wv] <| q0 <| ⟨(kB,i64.wrap (x6+(1:Int)),x9.2.1,x9.2.2),⟨eB,cD,Js,h5,by kernel_rfl,(Has.front (Has.front (Has.front (Has.front (Has.front (Has.front (Has.front (Has.front o8 6 rfl) 6 rfl) 5 rfl) 5 rfl) 5 rfl) 5 rfl) 6 rfl) 7 rfl)⟩,H⟩
 ·exact qx 0 <| ⟨rfl,dt,x6,x7,x8,oi H,.ptr cQ 0,af.fz v2.args,.int .i64 (v2.args.length:Int),.int .i64 x6,.bool (decide (x6<(v2.args.length:Int))),dR,eS,vL,h3,by kernel_rfl,o5⟩
theorem oX {aV:FuncId→b5}(ha:aV 73=xG)  (i0:Int)(x0:List (Int × Int))(x1:List Int)(x2:br)(x3:br)(h:AHeap)(L:Mem)(da:Nat)(du:Nat)(db:Nat)(cK:Nat)(dZ:Nat)(eC:List Nat)(dj:Nat)(cQ:Nat)  {kk:Nat}(EF:MU cf m kk)(o:Has h ((da,.ob [.mp du])::(du,.mp (oQ x0))::(db,.ob [af.fz x1])::(cK,.ob [.rs dZ 0 x2.nodes.length 4,.int .i64 x2.root])::(dZ,.sl x2.nodes.length 4 (gj.l (bF x2.nodes eC)))::(dj,.ob [ah.fz x3.nodes,.int .i64 x3.root])::(cQ,.ob [.fn 73 [.ptr da 0,.ptr db 0,.ptr cK 0,.ptr dj 0,.ptr cQ 0]])::(gd x2.nodes eC++L))){out:Int × (List (Int × Int)) × br}(H:aX.f m (kk+1) i0 x0 x1 x2 x3=some out) :
  ∃r h',aZ Try.prog aV cf m 73 [.int .i64 i0,.ptr da 0,.ptr db 0,.ptr cK 0,.ptr dj 0,.ptr cQ 0] h=some (r,h')∧∃(lQ:Nat) (ib:List Nat),r = .int .i64 out.1∧Has h' ((da,.ob [.mp du])::(du,.mp (oQ out.2.1))::(db,.ob [af.fz x1])::(cK,.ob [.rs lQ 0 out.2.2.nodes.length 4,.int .i64 out.2.2.root])::(lQ,.sl out.2.2.nodes.length 4 (gj.l (bF out.2.2.nodes ib)))::(dj,.ob [ah.fz x3.nodes,.int .i64 x3.root])::(cQ,.ob [.fn 73 [.ptr da 0,.ptr db 0,.ptr cK 0,.ptr dj 0,.ptr cQ 0]])::(gd out.2.2.nodes ib++L)):=by
 refine ar (fn:=Try.f73) ha Try.func73 (by kernel_rfl) (by kernel_rfl) ?_
 refine aH (Q:=fun s=>aX.fin L da du db cK dZ eC dj cQ i0 x0 x1 x2 x3 out s) (fun _ _ ⟨h1,lQ,ib,h2,h3⟩=>⟨h1,_,h2,lQ,ib,rfl,h3⟩) ?_
 have H:aX.b m (aX.f m kk) i0 x0 x1 x2 x3=some out:=H
 unfold aX.b at H
 show dp _ cf xG m _ ⟨.int .i64 i0 :: .ptr da 0 :: .ptr db 0 :: .ptr cK 0 :: .ptr dj 0 :: .ptr cQ 0::vC [],[none,none],h⟩ _
 refine q1 <| qq <| qq ?_
 obtain⟨v0,e0,H⟩:=bh H
 refine qr [.v 0 (show bm Try.prog h 82 (.ptr da 0)=some (.mp du) from bZ (q:=0) (cs:=[.mp du]) o rfl (by kernel_rfl)),.v 1 (show bm Try.prog h 33 (.ptr db 0)=some (af.fz x1) from bZ (q:=2) (cs:=[af.fz x1]) o rfl (by kernel_rfl)),.v 3 (eW (k:=.i64) (E:=af) (l:=x1) gK e0),.v 4 (ij  (E:=af) (l:=x1) h A3 e0 rfl),.v 5 (show fQ Try.prog h 82 (.mp du) (.int .i64 v0) true=some (.tup [.int .i64 ((xl x0 v0).1),.bool ((xl x0 v0).2)]) from (N5 (q:=1) (l:=x0) (k:=v0) LO o rfl).1)] <| qq <| q0 <| qc H (fun c0 H=>?_) (fun c0 H=>?_)
 ·obtain rfl:=oi H
  exact q1 <| qt <| ⟨.inl rfl,⟨dZ,eC,by kernel_rfl,he o⟩⟩
 ·refine qk <| qq <| qr [.v 1 (show bm Try.prog h 40 (.ptr cK 0)=some (.rs dZ 0 x2.nodes.length 4) from bZ (q:=3) (cs:=[.rs dZ 0 x2.nodes.length 4,.int .i64 x2.root]) o rfl (by kernel_rfl))] <| qq ?_
  obtain⟨v1,e1,H⟩:=bh H
  obtain⟨h0,e2,o0⟩:=N6 (q:=1) (l:=x0) (k:=v1) (v:=(x2.nodes.length:Int)) LO o rfl
  refine qr [.v 0 (show bm Try.prog h 82 (.ptr da 0)=some (.mp du) from bZ (q:=0) (cs:=[.mp du]) o rfl (by kernel_rfl)),.v 1 (show bm Try.prog h 33 (.ptr db 0)=some (af.fz x1) from bZ (q:=2) (cs:=[af.fz x1]) o rfl (by kernel_rfl)),.v 3 (eW (k:=.i64) (E:=af) (l:=x1) gK e1),.v 4 (ij  (E:=af) (l:=x1) h A3 e1 rfl),.w 6 e2] <| qq ?_
  obtain⟨v2,e3,H⟩:=bh H
  refine qr [.v 1 (show bm Try.prog h0 40 (.ptr dj 0)=some (ah.fz x3.nodes) from bZ (q:=5) (cs:=[ah.fz x3.nodes,.int .i64 x3.root]) o0 rfl (by kernel_rfl)),.v 3 (eW (k:=.i64) (E:=ah) (l:=x3.nodes) yx e3),.v 4 (ls  (E:=ah) (l:=x3.nodes) h0 Ge Gf e3)] <| qq ?_
  have o1:Has h0 (((0),.sl (([]:List Int).length) 1 (af.l ([]:List Int)))::(da,.ob [.mp du])::(du,.mp (oQ (Cv x0 v1 (x2.nodes.length:Int))))::(db,.ob [af.fz x1])::(cK,.ob [.rs dZ 0 x2.nodes.length 4,.int .i64 x2.root])::(dZ,.sl x2.nodes.length 4 (gj.l (bF x2.nodes eC)))::(dj,.ob [ah.fz x3.nodes,.int .i64 x3.root])::(cQ,.ob [.fn 73 [.ptr da 0,.ptr db 0,.ptr cK 0,.ptr dj 0,.ptr cQ 0]])::(gd x2.nodes eC++L)):=Has.nil o0 1
  obtain⟨x5,e4,H⟩:=bh H
  obtain⟨aI,eP,h1,e5,o2⟩:=I9 (P:=Try.prog) (t2:=40) (pre:=[(da,.ob [.mp du]),(du,.mp (oQ (Cv x0 v1 (x2.nodes.length:Int)))),(db,.ob [af.fz x1]),(cK,.ob [.rs dZ 0 x2.nodes.length 4,.int .i64 x2.root]),(dj,.ob [ah.fz x3.nodes,.int .i64 x3.root]),(cQ,.ob [.fn 73 [.ptr da 0,.ptr db 0,.ptr cK 0,.ptr dj 0,.ptr cQ 0]])]) (ns:=x2.nodes) (ids:=eC) (kind:=v2.kind) (int:=v2.int) (label:=v2.label) (args:=([]:List Int)) (x:=.fz [.int .i64 v2.kind,.int .i64 v2.int,.str v2.label,.rs (0) 0 (([]:List Int).length) 1] 1 true) yx (Has.front (Has.front (Has.front (Has.front (Has.front (Has.front (Has.front (Has.front o1 7 rfl) 7 rfl) 6 rfl) 6 rfl) 6 rfl) 6 rfl) 6 rfl) 7 rfl) (by kernel_rfl) rfl e4
  obtain⟨h2,e6,o3⟩:=nF (P:=Try.prog) (t:=40) (off:=0) (q:=4) (cs:=[.rs dZ 0 x2.nodes.length 4,.int .i64 x2.root]) (eY:=[.rs aI 0 x5.length 4,.int .i64 x2.root]) (x:=.rs aI 0 x5.length 4) o2 rfl (by kernel_rfl)
  refine qr [.v 1 (show bm Try.prog h0 40 (.ptr cK 0)=some (.rs dZ 0 x2.nodes.length 4) from bZ (q:=3) (cs:=[.rs dZ 0 x2.nodes.length 4,.int .i64 x2.root]) o0 rfl (by kernel_rfl)),.a 10 e5,.w 12 e6] <| qq <| q0 ?_
  have o4:Has h2 ((((0)),.sl (([]:List Int).length) 1 (af.l ([]:List Int)))::(aI,.sl x5.length 4 (gj.l (bF x5 eP)))::(da,.ob [.mp du])::(du,.mp (oQ (Cv x0 v1 (x2.nodes.length:Int))))::(db,.ob [af.fz x1])::(cK,.ob [.rs aI 0 x5.length 4,.int .i64 x2.root])::(dj,.ob [ah.fz x3.nodes,.int .i64 x3.root])::(cQ,.ob [.fn 73 [.ptr da 0,.ptr db 0,.ptr cK 0,.ptr dj 0,.ptr cQ 0]])::(gd x5 eP++L)):=Has.nil o3 1
  refine qq <| qq <| q0 <| qb 0 ?_
  obtain⟨b4,zj,H⟩:=bh H
  refine ql (aX.di L da du db cK dZ eC dj cQ i0 x0 x1 x2 x3 v2  EF  (([]:List Int),(0:Int),Cv x0 v1 (x2.nodes.length:Int),(br.mk x5 x2.root)) _ _ ⟨((0)),aI,eP,h2,by kernel_rfl,o4⟩ zj) ?_
  rintro e s ⟨rfl,xH,AJ,EE,sJ,rfl,g0,g1,g2,g3,g4,fo,gC,Hd,h6,rfl,o9⟩
  try dsimp only at H
  refine qq ?_
  obtain⟨v4,yy,H⟩:=bh H
  obtain⟨h7,CG,xI⟩:=Ha (P:=Try.prog) (tf:=33) (pre:=[(da,.ob [.mp du]),(du,.mp (oQ EE)),(db,.ob [af.fz x1]),(cK,.ob [.rs gC 0 sJ.nodes.length 4,.int .i64 sJ.root]),(dj,.ob [ah.fz x3.nodes,.int .i64 x3.root]),(cQ,.ob [.fn 73 [.ptr da 0,.ptr db 0,.ptr cK 0,.ptr dj 0,.ptr cQ 0]])]) (args:=xH) (Has.front (Has.front (Has.front (Has.front (Has.front (Has.front (Has.front (Has.front o9 7 rfl) 7 rfl) 7 rfl) 7 rfl) 7 rfl) 7 rfl) 6 rfl) 7 rfl) Tu yy
  obtain rfl:=oi H
  exact qr [.v 1 (show bm Try.prog h6 40 (.ptr cK 0)=some (.rs gC 0 sJ.nodes.length 4) from bZ (q:=5) (cs:=[.rs gC 0 sJ.nodes.length 4,.int .i64 sJ.root]) o9 rfl (by kernel_rfl)),.v 4 (bo (k:=.i64) (E:=gj) (l:=(bF sJ.nodes Hd)) (q:=1) yx o9 rfl (rE yy)),.w 6 CG] <| qq <| q0 <| qt <| ⟨.inl rfl,⟨gC,(vJ sJ.nodes Hd (x2.nodes.length:Int) fo),by kernel_rfl,he (by have o:Has h7 ((da,.ob [.mp du])::(du,.mp (oQ EE))::(db,.ob [af.fz x1])::(cK,.ob [.rs gC 0 sJ.nodes.length 4,.int .i64 sJ.root])::(gC,.sl sJ.nodes.length 4 (gj.l (bF (sJ.nodes.set (x2.nodes.length:Int).toNat (aq.mk v4.kind v4.int v4.label xH)) (vJ sJ.nodes Hd (x2.nodes.length:Int) fo))))::(dj,.ob [ah.fz x3.nodes,.int .i64 x3.root])::(cQ,.ob [.fn 73 [.ptr da 0,.ptr db 0,.ptr cK 0,.ptr dj 0,.ptr cQ 0]])::(gd (sJ.nodes.set (x2.nodes.length:Int).toNat (aq.mk v4.kind v4.int v4.label xH)) (vJ sJ.nodes Hd (x2.nodes.length:Int) fo)++L)):=(Has.front (Has.front (Has.front (Has.front (Has.front (Has.front (Has.front xI 6 rfl) 6 rfl) 2 rfl) 6 rfl) 6 rfl) 6 rfl) 6 rfl); simpa only [VG] using o)⟩⟩
end
end Go.Proofs.Ytifafejidnjckaa
namespace Go.Proofs.Ytifafejidnjckaa
open Go Go.R
open Go.IntKind (i64 u64 u8 u32)
def xJ:b5:=gX [0,1,4,5,7,8,9,16] [] [252,204,140,196,68,251,204,251] [] []
def cG.l0 (m:Nat)(s0:List Int)(f0:Int→Option (Bool)):Nat→Int→Option (Sum Int (Int))
 | 0,_=>none
 | k+1,x0=>if (decide (x0<(s0.length:Int)))=true then ((ix s0 x0).bind fun v0=>(f0 v0).bind fun r0=>if r0=true then (some (.inl x0)) else (cG.l0 m s0 f0 k (i64.wrap (x0+(1:Int))))) else (some (.inr x0))
def cG.f (m:Nat)(s0:List Int)(f0:Int→Option (Bool)):Option (Int):=(cG.l0 m s0 f0 m (0:Int)).bind fun b4=>match b4 with | .inl r1=>some r1 | .inr x1=>some (-1:Int)
def cG.fin (L:Mem)(r:Int)(s:St):Prop:=∃av,aM Try.prog (s.open xJ) Try.f75.results.toList=some av∧fA s.h av (.int .i64 r)
def OD (cf:CallF)(m:Nat):Prop:=∀(s0:List Int) (f0:Int→Option (Bool)) (r:Int),cG.f m s0 f0=some r→∀(eK:FuncId) (aP:List AV),(∀(h:AHeap) (xs:List AV) (a0:Int) r,f0 a0=some r→aO bR h xs ([.int .i64 a0]++aP)→cf eK xs h=some (.bool r,h))→(∀h,aO cE h aP aP)→∀h xs,aO bR h xs [af.fz s0,.fn eK aP]→cf 75 xs h=some (.int .i64 r,h)
section
variable {cf:CallF}{m:Nat}
theorem cG.di (L:Mem)(eK:FuncId)(aP:List AV)(s0:List Int)(f0:Int→Option (Bool))  (gU:∀(h:AHeap) (xs:List AV) (a0:Int) r,f0 a0=some r→aO bR h xs ([.int .i64 a0]++aP)→cf eK xs h=some (.bool r,h))(gV:∀h,aO cE h aP aP)  : dV Try.prog cf xJ m (sub [1,0,1,0,0] (b7 Try.f75)) (fun k (σ:Int)=>cG.l0 m s0 f0 k σ) (fun σ s=>match σ with | x0=>∃h0,s=⟨[af.fz s0,.fn eK aP,.any,.any,.int .i64 (s0.length:Int),.int .i64 x0,.any,.any],[],h0⟩∧Has h0 (L)) (fun out e s=>(e = .exit 0∧∃x0,.inr x0=out∧∃n7 vK Hb CE CF h0,s=⟨[n7,vK,.any,.any,Hb,CE,CF,.any],[],h0⟩∧Has h0 (L))∨(e = .ret∧∃r,.inl r=out∧cG.fin L r s)):=by
 refine me (fun _=>rfl) ?_
 rintro k x0 s out ⟨h0,rfl,o0⟩ H
 have H:cG.l0 m s0 f0 (k+1) x0=some out:=H
 refine q1 <| qq <| qc H (fun c0 H=>?_) (fun c0 H=>?_)
 ·refine qk <| qq <| qb 1 <| qq <| q0 <| qq ?_
  obtain⟨v0,e0,H⟩:=bh H
  obtain⟨r0,e1,H⟩:=bh H
  refine qr [.v 3 (eW (k:=.i64) (E:=af) (l:=s0) gK e0),.v 4 (ij  (E:=af) (l:=s0) h0 A3 e0 rfl),.a 5 (gU _ _ _ _ e1 (Ib (ai (bB) (ay)) (gV h0)))] <| qc H (fun c1 H=>?_) (fun c1 H=>?_)
  ·exact q1 <| qt <| Or.inr (⟨rfl,_,oi H,dC (.int .i64 x0) h0 (dB (dh))⟩)
  ·exact qk <| q0 <| ⟨i64.wrap (x0+(1:Int)),⟨h0,by kernel_rfl,o0⟩,H⟩
 ·exact qx 0 <| Or.inl (⟨rfl,x0,oi H,af.fz s0,.fn eK aP,.int .i64 (s0.length:Int),.int .i64 x0,.bool (decide (x0<(s0.length:Int))),h0,by kernel_rfl,o0⟩)
theorem vM {aV:FuncId→b5}(ha:aV 75=xJ)  (s0:List Int)(f0:Int→Option (Bool))(h:AHeap)(L:Mem)(eK:FuncId)(aP:List AV)  (gU:∀(h:AHeap) (xs:List AV) (a0:Int) r,f0 a0=some r→aO bR h xs ([.int .i64 a0]++aP)→cf eK xs h=some (.bool r,h))(gV:∀h,aO cE h aP aP)(o:Has h (L)){out:Int}(H:cG.f m s0 f0=some out) :
  ∃r h',aZ Try.prog aV cf m 75 [af.fz s0,.fn eK aP] h=some (r,h')∧fA h' r (.int .i64 out):=by
 refine ar (fn:=Try.f75) ha Try.func75 (by kernel_rfl) (by kernel_rfl) ?_
 refine aH (Q:=fun s=>cG.fin L out s) (fun _ _ h=>h) ?_
 have H:_=some out:=H
 unfold cG.f at H
 show dp _ cf xJ m _ ⟨af.fz s0 :: .fn eK aP::xo [],[],h⟩ _
 refine q1 <| qq <| qq <| q0 <| qb 0 ?_
 obtain⟨b4,e2,H⟩:=bh H
 refine ql (cG.di L eK aP s0 f0  gU gV  (0:Int) _ _ ⟨h,by kernel_rfl,o⟩ e2) ?_
 rintro e s (⟨rfl,x1,rfl,g0,g1,g2,g3,g4,h1,rfl,o1⟩| ⟨rfl,r1,rfl,xC⟩)
 ·try dsimp only at H
  obtain rfl:=oi H
  exact q1 <| qt <| ⟨.inl rfl,dC (.int .i64 (-1:Int)) h1 (dB (dh))⟩
 ·try dsimp only at H
  obtain rfl:=oi H
  exact⟨.inl rfl,xC⟩
end
end Go.Proofs.Ytifafejidnjckaa
namespace Go.Proofs.Ytifafejidnjckaa
open Go Go.R
open Go.IntKind (i64 u64 u8 u32)
def xK:b5:=gX [0,1,4,5,7,8,9,16] [] [252,204,140,196,68,251,204,251] [] []
def eT.l0 (m:Nat)(s0:List aq)(f0:aq→Option (Bool)):Nat→Int→Option (Sum Int (Int))
 | 0,_=>none
 | k+1,x0=>if (decide (x0<(s0.length:Int)))=true then ((ix s0 x0).bind fun v0=>(f0 v0).bind fun r0=>if r0=true then (some (.inl x0)) else (eT.l0 m s0 f0 k (i64.wrap (x0+(1:Int))))) else (some (.inr x0))
def eT.f (m:Nat)(s0:List aq)(f0:aq→Option (Bool)):Option (Int):=(eT.l0 m s0 f0 m (0:Int)).bind fun b4=>match b4 with | .inl r1=>some r1 | .inr x1=>some (-1:Int)
def eT.fin (L:Mem)(r:Int)(s:St):Prop:=∃av,aM Try.prog (s.open xK) Try.f78.results.toList=some av∧fA s.h av (.int .i64 r)
def QY (cf:CallF)(m:Nat):Prop:=∀(s0:List aq) (f0:aq→Option (Bool)) (r:Int),eT.f m s0 f0=some r→∀(eK:FuncId) (aP:List AV),(∀(h:AHeap) (xs:List AV) (a0:aq) r,f0 a0=some r→aO bR h xs ([.agg [.int .i64 a0.kind,.int .i64 a0.int,.str a0.label,af.fz a0.args]]++aP)→cf eK xs h=some (.bool r,h))→(∀h,aO cE h aP aP)→∀h xs,aO bR h xs [ah.fz s0,.fn eK aP]→cf 78 xs h=some (.int .i64 r,h)
section
variable {cf:CallF}{m:Nat}
theorem eT.di (L:Mem)(eK:FuncId)(aP:List AV)(s0:List aq)(f0:aq→Option (Bool))  (gU:∀(h:AHeap) (xs:List AV) (a0:aq) r,f0 a0=some r→aO bR h xs ([.agg [.int .i64 a0.kind,.int .i64 a0.int,.str a0.label,af.fz a0.args]]++aP)→cf eK xs h=some (.bool r,h))(gV:∀h,aO cE h aP aP)  : dV Try.prog cf xK m (sub [1,0,1,0,0] (b7 Try.f78)) (fun k (σ:Int)=>eT.l0 m s0 f0 k σ) (fun σ s=>match σ with | x0=>∃h0,s=⟨[ah.fz s0,.fn eK aP,.any,.any,.int .i64 (s0.length:Int),.int .i64 x0,.any,.any],[],h0⟩∧Has h0 (L)) (fun out e s=>(e = .exit 0∧∃x0,.inr x0=out∧∃n7 vK Hb CE CF h0,s=⟨[n7,vK,.any,.any,Hb,CE,CF,.any],[],h0⟩∧Has h0 (L))∨(e = .ret∧∃r,.inl r=out∧eT.fin L r s)):=by
 refine me (fun _=>rfl) ?_
 rintro k x0 s out ⟨h0,rfl,o0⟩ H
 have H:eT.l0 m s0 f0 (k+1) x0=some out:=H
 refine q1 <| qq <| qc H (fun c0 H=>?_) (fun c0 H=>?_)
 ·refine qk <| qq <| qb 1 <| qq <| q0 <| qq ?_
  obtain⟨v0,e0,H⟩:=bh H
  obtain⟨r0,e1,H⟩:=bh H
  refine qr [.v 3 (eW (k:=.i64) (E:=ah) (l:=s0) yx e0),.v 4 (ls  (E:=ah) (l:=s0) h0 Ge Gf e0),.a 5 (gU _ _ _ _ e1 (Ib (ai (jS (ai (bB) (ai (bB) (ai (cU) (ai (fy (E:=af)) (ay)))))) (ay)) (gV h0)))] <| qc H (fun c1 H=>?_) (fun c1 H=>?_)
  ·exact q1 <| qt <| Or.inr (⟨rfl,_,oi H,dC (.int .i64 x0) h0 (dB (dh))⟩)
  ·exact qk <| q0 <| ⟨i64.wrap (x0+(1:Int)),⟨h0,by kernel_rfl,o0⟩,H⟩
 ·exact qx 0 <| Or.inl (⟨rfl,x0,oi H,ah.fz s0,.fn eK aP,.int .i64 (s0.length:Int),.int .i64 x0,.bool (decide (x0<(s0.length:Int))),h0,by kernel_rfl,o0⟩)
theorem vN {aV:FuncId→b5}(ha:aV 78=xK)  (s0:List aq)(f0:aq→Option (Bool))(h:AHeap)(L:Mem)(eK:FuncId)(aP:List AV)  (gU:∀(h:AHeap) (xs:List AV) (a0:aq) r,f0 a0=some r→aO bR h xs ([.agg [.int .i64 a0.kind,.int .i64 a0.int,.str a0.label,af.fz a0.args]]++aP)→cf eK xs h=some (.bool r,h))(gV:∀h,aO cE h aP aP)(o:Has h (L)){out:Int}(H:eT.f m s0 f0=some out) :
  ∃r h',aZ Try.prog aV cf m 78 [ah.fz s0,.fn eK aP] h=some (r,h')∧fA h' r (.int .i64 out):=by
 refine ar (fn:=Try.f78) ha Try.func78 (by kernel_rfl) (by kernel_rfl) ?_
 refine aH (Q:=fun s=>eT.fin L out s) (fun _ _ h=>h) ?_
 have H:_=some out:=H
 unfold eT.f at H
 show dp _ cf xK m _ ⟨ah.fz s0 :: .fn eK aP::xo [],[],h⟩ _
 refine q1 <| qq <| qq <| q0 <| qb 0 ?_
 obtain⟨b4,e2,H⟩:=bh H
 refine ql (eT.di L eK aP s0 f0  gU gV  (0:Int) _ _ ⟨h,by kernel_rfl,o⟩ e2) ?_
 rintro e s (⟨rfl,x1,rfl,g0,g1,g2,g3,g4,h1,rfl,o1⟩| ⟨rfl,r1,rfl,xC⟩)
 ·try dsimp only at H
  obtain rfl:=oi H
  exact q1 <| qt <| ⟨.inl rfl,dC (.int .i64 (-1:Int)) h1 (dB (dh))⟩
 ·try dsimp only at H
  obtain rfl:=oi H
  exact⟨.inl rfl,xC⟩
end
end Go.Proofs.Ytifafejidnjckaa
namespace Go.Proofs.Ytifafejidnjckaa
open Go Go.R
open Go.IntKind (i64 u64 u8 u32)
def AK:b5:=gX [0,1,3] [] [4,3] [] []
def gL.f (m:Nat)(a0:Int)(x0:Int):Option (Bool):=if (decide (a0<(0:Int)))=true then (some true) else (some (decide (a0≥x0)))
def gL.fin (L:Mem)(r:Bool)(s:St):Prop:=∃av,aM Try.prog (s.open AK) Try.f79.results.toList=some av∧fA s.h av (.bool r)
def QZ (cf:CallF)(m:Nat):Prop:=∀(a0:Int) (x0:Int) (r:Bool),gL.f m a0 x0=some r→∀h xs,aO bR h xs [.int .i64 a0,.fp [.int .i64 x0] 0]→cf 79 xs h=some (.bool r,h)
section
variable {cf:CallF}{m:Nat}
theorem pP {aV:FuncId→b5}(ha:aV 79=AK)  (a0:Int)(x0:Int)(h:AHeap)(L:Mem)  (o:Has h (L)){out:Bool}(H:gL.f m a0 x0=some out) :
  ∃r h',aZ Try.prog aV cf m 79 [.int .i64 a0,.fp [.int .i64 x0] 0] h=some (r,h')∧fA h' r (.bool out):=by
 refine ar (fn:=Try.f79) ha Try.func79 (by kernel_rfl) (by kernel_rfl) ?_
 refine aH (Q:=fun s=>gL.fin L out s) (fun _ _ h=>h) ?_
 have H:_=some out:=H
 unfold gL.f at H
 show dp _ cf AK m _ ⟨[.int .i64 a0,.fp [.int .i64 x0] 0,.any],[],h⟩ _
 refine q1 <| qq ?_
 rcases iA H with⟨c0,H⟩| ⟨c0,H⟩
 ·obtain rfl:=oi H
  exact qr [.b 2 c0] <| qt <| ⟨.inl rfl,dC (.bool true) h (dB (aD))⟩
 ·obtain rfl:=oi H
  exact qr [.b 2 c0] <| qt <| ⟨.inl rfl,dC (.bool (decide (a0≥x0))) h (dB (aD))⟩
end
end Go.Proofs.Ytifafejidnjckaa
namespace Go.Proofs.Ytifafejidnjckaa
open Go Go.R
open Go.IntKind (i64 u64 u8 u32)
def xL:b5:=gX [0,2,3,5,6,7,8,9,14] [] [510,506,395,267,387,131,509,395,509] [] []
def b9.l0 (m:Nat)(gr:List Int):Nat→Int→Option (Sum Int (Int))
 | 0,_=>none
 | k+1,x0=>if (decide (x0<(gr.length:Int)))=true then ((ix gr x0).bind fun v0=>if (!(v0==(0:Int)))=true then (some (.inl v0)) else (b9.l0 m gr k (i64.wrap (x0+(1:Int))))) else (some (.inr x0))
def b9.f (m:Nat)(gr:List Int):Option (Int):=(b9.l0 m gr m (0:Int)).bind fun b4=>match b4 with | .inl r0=>some r0 | .inr x1=>some (0:Int)
def b9.fin (L:Mem)(r:Int)(s:St):Prop:=∃av,aM Try.prog (s.open xL) Try.f81.results.toList=some av∧fA s.h av (.int .i64 r)
def Q0 (cf:CallF)(m:Nat):Prop:=∀(gr:List Int) (r:Int),b9.f m gr=some r→∀h xs,aO bR h xs [af.fz gr]→cf 81 xs h=some (.int .i64 r,h)
section
variable {cf:CallF}{m:Nat}
theorem b9.di (L:Mem)(gr:List Int)   : dV Try.prog cf xL m (sub [1,1,0,1,0,0] (b7 Try.f81)) (fun k (σ:Int)=>b9.l0 m gr k σ) (fun σ s=>match σ with | x0=>∃h0,s=⟨[.any,.any,.int .i64 (0:Int),.any,af.fz gr,.int .i64 (gr.length:Int),.int .i64 x0,.any,.any],[],h0⟩∧Has h0 (L)) (fun out e s=>(e = .exit 0∧∃x0,.inr x0=out∧∃Hc Hb CE CF h0,s=⟨[.any,.any,.int .i64 (0:Int),.any,Hc,Hb,CE,CF,.any],[],h0⟩∧Has h0 (L))∨(e = .ret∧∃r,.inl r=out∧b9.fin L r s)):=by
 refine me (fun _=>rfl) ?_
 rintro k x0 s out ⟨h0,rfl,o0⟩ H
 have H:b9.l0 m gr (k+1) x0=some out:=H
 refine q1 <| qq <| qc H (fun c0 H=>?_) (fun c0 H=>?_)
 ·refine qk <| qq <| qb 1 <| qq ?_
  obtain⟨v0,e0,H⟩:=bh H
  refine qr [.v 0 (eW (k:=.i64) (E:=af) (l:=gr) gK e0),.v 1 (ij  (E:=af) (l:=gr) h0 A3 e0 rfl)] <| qq <| q0 <| qc H (fun c1 H=>?_) (fun c1 H=>?_)
  ·exact q1 <| qt <| Or.inr (⟨rfl,_,oi H,dC (.int .i64 v0) h0 (dB (dh))⟩)
  ·exact qk <| q0 <| ⟨i64.wrap (x0+(1:Int)),⟨h0,by kernel_rfl,o0⟩,H⟩
 ·exact qx 0 <| Or.inl (⟨rfl,x0,oi H,af.fz gr,.int .i64 (gr.length:Int),.int .i64 x0,.bool (decide (x0<(gr.length:Int))),h0,by kernel_rfl,o0⟩)
theorem qU {aV:FuncId→b5}(ha:aV 81=xL)  (gr:List Int)(h:AHeap)(L:Mem)  (o:Has h (L)){out:Int}(H:b9.f m gr=some out) :
  ∃r h',aZ Try.prog aV cf m 81 [af.fz gr] h=some (r,h')∧fA h' r (.int .i64 out):=by
 refine ar (fn:=Try.f81) ha Try.func81 (by kernel_rfl) (by kernel_rfl) ?_
 refine aH (Q:=fun s=>b9.fin L out s) (fun _ _ h=>h) ?_
 have H:_=some out:=H
 unfold b9.f at H
 show dp _ cf xL m _ ⟨af.fz gr::Aq [],[],h⟩ _
 refine q1 <| qq <| q0 <| qq <| qq <| q0 <| qb 0 ?_
 obtain⟨b4,e1,H⟩:=bh H
 refine ql (b9.di L gr   (0:Int) _ _ ⟨h,by kernel_rfl,o⟩ e1) ?_
 rintro e s (⟨rfl,x1,rfl,g0,g1,g2,g3,h1,rfl,o1⟩| ⟨rfl,r0,rfl,xC⟩)
 ·try dsimp only at H
  obtain rfl:=oi H
  exact q1 <| qt <| ⟨.inl rfl,dC (.int .i64 (0:Int)) h1 (dB (dh))⟩
 ·try dsimp only at H
  obtain rfl:=oi H
  exact⟨.inl rfl,xC⟩
end
end Go.Proofs.Ytifafejidnjckaa
namespace Go.Proofs.Ytifafejidnjckaa
open Go Go.R
open Go.IntKind (i64 u64 u8 u32)
def AL:b5:=gX [0,2] [] [2,1] [] []
def fO.f (m:Nat)(c0:Int):Option (Bool):=if (decide (c0≥(97:Int)))=true then (if (decide (c0≤(122:Int)))=true then (some true) else (if (decide (c0≥(65:Int)))=true then (if (decide (c0≤(90:Int)))=true then (some true) else (if (decide (c0≥(48:Int)))=true then (if (decide (c0≤(57:Int)))=true then (some true) else (some (c0==(95:Int)))) else (some (c0==(95:Int))))) else (if (decide (c0≥(48:Int)))=true then (if (decide (c0≤(57:Int)))=true then (some true) else (some (c0==(95:Int)))) else (some (c0==(95:Int)))))) else (if (decide (c0≥(65:Int)))=true then (if (decide (c0≤(90:Int)))=true then (some true) else (if (decide (c0≥(48:Int)))=true then (if (decide (c0≤(57:Int)))=true then (some true) else (some (c0==(95:Int)))) else (some (c0==(95:Int))))) else (if (decide (c0≥(48:Int)))=true then (if (decide (c0≤(57:Int)))=true then (some true) else (some (c0==(95:Int)))) else (some (c0==(95:Int)))))
def fO.fin (L:Mem)(r:Bool)(s:St):Prop:=∃av,aM Try.prog (s.open AL) Try.f85.results.toList=some av∧fA s.h av (.bool r)
def OE (cf:CallF)(m:Nat):Prop:=∀(c0:Int) (r:Bool),fO.f m c0=some r→∀h xs,aO bR h xs [.int .u8 c0]→cf 85 xs h=some (.bool r,h)
section
variable {cf:CallF}{m:Nat}
theorem pQ {aV:FuncId→b5}(ha:aV 85=AL)  (c0:Int)(h:AHeap)(L:Mem)  (o:Has h (L)){out:Bool}(H:fO.f m c0=some out) :
  ∃r h',aZ Try.prog aV cf m 85 [.int .u8 c0] h=some (r,h')∧fA h' r (.bool out):=by
 refine ar (fn:=Try.f85) ha Try.func85 (by kernel_rfl) (by kernel_rfl) ?_
 refine aH (Q:=fun s=>fO.fin L out s) (fun _ _ h=>h) ?_
 have H:_=some out:=H
 unfold fO.f at H
 show dp _ cf AL m _ ⟨[.int .u8 c0,.any],[],h⟩ _
 refine q1 <| qq ?_
 rcases iA H with⟨c1,H⟩| ⟨c1,H⟩
 ·rcases iA H with⟨c2,H⟩| ⟨c2,H⟩
  ·obtain rfl:=oi H
   exact qr [.b 2 c1,.b 6 c2] <| qt <| ⟨.inl rfl,dC (.bool true) h (dB (aD))⟩
  ·rcases iA H with⟨c3,H⟩| ⟨c3,H⟩
   ·rcases iA H with⟨c4,H⟩| ⟨c4,H⟩
    ·obtain rfl:=oi H
     exact qr [.b 2 c1,.b 6 c2,.b 9 c3,.b 14 c4] <| qt <| ⟨.inl rfl,dC (.bool true) h (dB (aD))⟩
    ·rcases iA H with⟨c5,H⟩| ⟨c5,H⟩
     ·rcases iA H with⟨c6,H⟩| ⟨c6,H⟩
      ·obtain rfl:=oi H
       exact qr [.b 2 c1,.b 6 c2,.b 9 c3,.b 14 c4,.b 17 c5,.b 22 c6] <| qt <| ⟨.inl rfl,dC (.bool true) h (dB (aD))⟩
      ·obtain rfl:=oi H
       exact qr [.b 2 c1,.b 6 c2,.b 9 c3,.b 14 c4,.b 17 c5,.b 22 c6] <| qt <| ⟨.inl rfl,dC (.bool (c0==(95:Int))) h (dB (aD))⟩
     ·obtain rfl:=oi H
      exact qr [.b 2 c1,.b 6 c2,.b 9 c3,.b 14 c4,.b 17 c5] <| qt <| ⟨.inl rfl,dC (.bool (c0==(95:Int))) h (dB (aD))⟩
   ·rcases iA H with⟨c7,H⟩| ⟨c7,H⟩
    ·rcases iA H with⟨c8,H⟩| ⟨c8,H⟩
     ·obtain rfl:=oi H
      exact qr [.b 2 c1,.b 6 c2,.b 9 c3,.b 17 c7,.b 22 c8] <| qt <| ⟨.inl rfl,dC (.bool true) h (dB (aD))⟩
     ·obtain rfl:=oi H
      exact qr [.b 2 c1,.b 6 c2,.b 9 c3,.b 17 c7,.b 22 c8] <| qt <| ⟨.inl rfl,dC (.bool (c0==(95:Int))) h (dB (aD))⟩
    ·obtain rfl:=oi H
     exact qr [.b 2 c1,.b 6 c2,.b 9 c3,.b 17 c7] <| qt <| ⟨.inl rfl,dC (.bool (c0==(95:Int))) h (dB (aD))⟩
 ·rcases iA H with⟨c9,H⟩| ⟨c9,H⟩
  ·rcases iA H with⟨CH,H⟩| ⟨CH,H⟩
   ·obtain rfl:=oi H
    exact qr [.b 2 c1,.b 9 c9,.b 14 CH] <| qt <| ⟨.inl rfl,dC (.bool true) h (dB (aD))⟩
   ·rcases iA H with⟨zk,H⟩| ⟨zk,H⟩
    ·rcases iA H with⟨EH,H⟩| ⟨EH,H⟩
     ·obtain rfl:=oi H
      exact qr [.b 2 c1,.b 9 c9,.b 14 CH,.b 17 zk,.b 22 EH] <| qt <| ⟨.inl rfl,dC (.bool true) h (dB (aD))⟩
     ·obtain rfl:=oi H
      exact qr [.b 2 c1,.b 9 c9,.b 14 CH,.b 17 zk,.b 22 EH] <| qt <| ⟨.inl rfl,dC (.bool (c0==(95:Int))) h (dB (aD))⟩
    ·obtain rfl:=oi H
     exact qr [.b 2 c1,.b 9 c9,.b 14 CH,.b 17 zk] <| qt <| ⟨.inl rfl,dC (.bool (c0==(95:Int))) h (dB (aD))⟩
  ·rcases iA H with⟨He,H⟩| ⟨He,H⟩
   ·rcases iA H with⟨EI,H⟩| ⟨EI,H⟩
    ·obtain rfl:=oi H
     exact qr [.b 2 c1,.b 9 c9,.b 17 He,.b 22 EI] <| qt <| ⟨.inl rfl,dC (.bool true) h (dB (aD))⟩
    ·obtain rfl:=oi H
     exact qr [.b 2 c1,.b 9 c9,.b 17 He,.b 22 EI] <| qt <| ⟨.inl rfl,dC (.bool (c0==(95:Int))) h (dB (aD))⟩
   ·obtain rfl:=oi H
    exact qr [.b 2 c1,.b 9 c9,.b 17 He] <| qt <| ⟨.inl rfl,dC (.bool (c0==(95:Int))) h (dB (aD))⟩
end
end Go.Proofs.Ytifafejidnjckaa
namespace Go.Proofs.Ytifafejidnjckaa
open Go Go.R
open Go.IntKind (i64 u64 u8 u32)
end Go.Proofs.Ytifafejidnjckaa
namespace Go.Proofs.Ytifafejidnjckaa
open Go Go.R
open Go.IntKind (i64 u64 u8 u32)
end Go.Proofs.Ytifafejidnjckaa
namespace Go.Proofs.Ytifafejidnjckaa
open Go Go.R
open Go.IntKind (i64 u64 u8 u32)
end Go.Proofs.Ytifafejidnjckaa
namespace Go.Proofs.Ytifafejidnjckaa
open Go Go.R
open Go.IntKind (i64 u64 u8 u32)
def AM:b5:=gX [0,2] [] [2,1] [] []
def cmp_isNaN_int.f (m:Nat)(x0:Int):Option (Bool):=some (!(x0==x0))
def cmp_isNaN_int.fin (L:Mem)(r:Bool)(s:St):Prop:=∃av,aM Try.prog (s.open AM) Try.f97.results.toList=some av∧fA s.h av (.bool r)
def Q1 (cf:CallF)(m:Nat):Prop:=∀(x0:Int) (r:Bool),cmp_isNaN_int.f m x0=some r→∀h xs,aO bR h xs [.int .i64 x0]→cf 97 xs h=some (.bool r,h)
section
variable {cf:CallF}{m:Nat}
theorem n9 {aV:FuncId→b5}(ha:aV 97=AM)  (x0:Int)(h:AHeap)(L:Mem)  (o:Has h (L)){out:Bool}(H:cmp_isNaN_int.f m x0=some out) :
  ∃r h',aZ Try.prog aV cf m 97 [.int .i64 x0] h=some (r,h')∧fA h' r (.bool out):=by
 refine ar (fn:=Try.f97) ha Try.func97 (by kernel_rfl) (by kernel_rfl) ?_
 refine aH (Q:=fun s=>cmp_isNaN_int.fin L out s) (fun _ _ h=>h) ?_
 have H:_=some out:=H
 unfold cmp_isNaN_int.f at H
 show dp _ cf AM m _ ⟨[.int .i64 x0,.any],[],h⟩ _
 obtain rfl:=oi H
 exact q1 <| qq <| q0 <| qt <| ⟨.inl rfl,dC (.bool (!(x0==x0))) h (dB (aD))⟩
end
end Go.Proofs.Ytifafejidnjckaa
namespace Go.Proofs.Ytifafejidnjckaa
open Go Go.R
open Go.IntKind (i64 u64 u8 u32)
def AN:b5:=gX [0,2] [] [2,1] [] []
def cmp_isNaN_string.f (m:Nat)(x0:ByteArray):Option (Bool):=some (!(x0.data.toList==x0.data.toList))
def cmp_isNaN_string.fin (L:Mem)(r:Bool)(s:St):Prop:=∃av,aM Try.prog (s.open AN) Try.f98.results.toList=some av∧fA s.h av (.bool r)
def Q2 (cf:CallF)(m:Nat):Prop:=∀(x0:ByteArray) (r:Bool),cmp_isNaN_string.f m x0=some r→∀h xs,aO bR h xs [.str x0]→cf 98 xs h=some (.bool r,h)
section
variable {cf:CallF}{m:Nat}
theorem lZ {aV:FuncId→b5}(ha:aV 98=AN)  (x0:ByteArray)(h:AHeap)(L:Mem)  (o:Has h (L)){out:Bool}(H:cmp_isNaN_string.f m x0=some out) :
  ∃r h',aZ Try.prog aV cf m 98 [.str x0] h=some (r,h')∧fA h' r (.bool out):=by
 refine ar (fn:=Try.f98) ha Try.func98 (by kernel_rfl) (by kernel_rfl) ?_
 refine aH (Q:=fun s=>cmp_isNaN_string.fin L out s) (fun _ _ h=>h) ?_
 have H:_=some out:=H
 unfold cmp_isNaN_string.f at H
 show dp _ cf AN m _ ⟨[.str x0,.any],[],h⟩ _
 obtain rfl:=oi H
 exact q1 <| qq <| q0 <| qt <| ⟨.inl rfl,dC (.bool (!(x0.data.toList==x0.data.toList))) h (dB (aD))⟩
end
end Go.Proofs.Ytifafejidnjckaa
namespace Go.Proofs.Ytifafejidnjckaa
open Go Go.R
open Go.IntKind (i64 u64 u8 u32)
end Go.Proofs.Ytifafejidnjckaa
namespace Go.Proofs.Ytifafejidnjckaa
open Go Go.R
open Go.IntKind (i64 u64 u8 u32)
def pR:b5:=gX [0,1,2,3,8,9,14,34] [] [224,160,224,192,64,192,192] [] []
def aT.l1 (m:Nat)(a0:Int)(aQ:Int→Int→Option (Int)):Nat→(List Int)→Int→Option ((List Int) × Int)
 | 0,_,_=>none
 | k+1,dc,j0=>if (decide (j0 > a0))=true then ((ix dc j0).bind fun v0=>(ix dc (i64.wrap (j0 - (1:Int)))).bind fun v1=>(aQ v0 v1).bind fun r0=>if (decide (r0<(0:Int)))=true then ((ix dc (i64.wrap (j0 - (1:Int)))).bind fun v2=>(ix dc j0).bind fun v3=>(ix dc j0).bind fun v4=>(ix (dc.set j0.toNat v2) (i64.wrap (j0 - (1:Int)))).bind fun v5=>aT.l1 m a0 aQ k ((dc.set j0.toNat v2).set (i64.wrap (j0 - (1:Int))).toNat v3) (i64.wrap (j0 - (1:Int)))) else (some ((dc,j0)))) else (some ((dc,j0)))
def aT.l0 (m:Nat)(a0:Int)(b0:Int)(aQ:Int→Int→Option (Int)):Nat→(List Int)→Int→Option ((List Int) × Int)
 | 0,_,_=>none
 | k+1,bl,i0=>if (decide (i0<b0))=true then ((aT.l1 m a0 aQ m bl i0).bind fun b4=>match b4 with | (dI,j1)=>aT.l0 m a0 b0 aQ k dI (i64.wrap (i0+(1:Int)))) else (some ((bl,i0)))
def aT.f (m:Nat)(aw:List Int)(a0:Int)(b0:Int)(aQ:Int→Int→Option (Int)):Option ((List Int)):=(aT.l0 m a0 b0 aQ m aw (i64.wrap (a0+(1:Int)))).bind fun dv=>match dv with | (ju,i1)=>some ju
def aT.fin (L:Mem)(aI:Nat)(aw:List Int)(a0:Int)(b0:Int)(aQ:Int→Int→Option (Int))(r:(List Int))(s:St):Prop:=aM Try.prog (s.open pR) Try.f105.results.toList=some (.tup [])∧Has s.h ((aI,.sl aw.length 1 (af.l r))::L)
def Jt (cf:CallF)(m:Nat):Prop:=∀(aw:List Int) (a0:Int) (b0:Int) (aQ:Int→Int→Option (Int)) (r:(List Int)),aT.f m aw a0 b0 aQ=some r→∀h L (cm:Nat) (aI:Nat),Has h ((aI,.sl cm 1 (af.l aw))::L)→∀(qG:FuncId) (fP eQ:List AV),(aK (.fn qG fP) = .fn qG fP)→(∀(h:AHeap) (xs:List AV) (a0:Int) (a1:Int) r,aQ a0 a1=some r→aO bR h xs ([.int .i64 a0,.int .i64 a1]++eQ)→cf qG xs h=some (.int .i64 r,h))→(∀h K,Has h (K++(L))→aO cE h fP eQ)→(∀h,aO cE h eQ eQ)→∀xs,xs.map aK=[.rs aI 0 cm 1,.int .i64 a0,.int .i64 b0,.fn qG fP]→∃h',cf 105 xs h=some (.tup [],h')∧Has h' ((aI,.sl cm 1 (af.l r))::L)
section
variable {cf:CallF}{m:Nat}
theorem aT.mK (L:Mem)(aI:Nat)(qG:FuncId)(fP eQ:List AV)(aw:List Int)(a0:Int)(b0:Int)(aQ:Int→Int→Option (Int))(i0:Int)  (CI:aK (.fn qG fP) = .fn qG fP)(zl:∀(h:AHeap) (xs:List AV) (a0:Int) (a1:Int) r,aQ a0 a1=some r→aO bR h xs ([.int .i64 a0,.int .i64 a1]++eQ)→cf qG xs h=some (.int .i64 r,h))(zm:∀h K,Has h (K++(L))→aO cE h fP eQ)(CJ:∀h,aO cE h eQ eQ)  : dV Try.prog cf pR m (sub [1,0,0,1,0,0,1,0,0] (b7 Try.f105)) (fun k (σ:(List Int) × Int)=>aT.l1 m a0 aQ k σ.1 σ.2) (fun σ s=>match σ with | (dc,j0)=>∃h1,s=⟨[.rs aI 0 aw.length 1,.int .i64 a0,.int .i64 b0,.fn qG fP,.int .i64 i0,.int .i64 j0,.any,.any],[],h1⟩∧Has h1 ((aI,.sl aw.length 1 (af.l dc))::L)) (fun out e s=>(e = .exit 2∧∃dc j0,(dc,j0)=out∧∃CF OF h1,s=⟨[.rs aI 0 aw.length 1,.int .i64 a0,.int .i64 b0,.fn qG fP,.int .i64 i0,CF,.any,OF],[],h1⟩∧Has h1 ((aI,.sl aw.length 1 (af.l dc))::L))):=by
 refine me (fun _=>rfl) ?_
 rintro k ⟨dc,j0⟩ s out ⟨h1,rfl,o1⟩ H
 have H:aT.l1 m a0 aQ (k+1) dc j0=some out:=H
 refine qq <| qq ?_
 rcases iA H with⟨c1,H⟩| ⟨c1,H⟩
 ·obtain⟨v0,e0,H⟩:=bh H
  obtain⟨v1,e1,H⟩:=bh H
  obtain⟨r0,e2,H⟩:=bh H
  refine qr [.b 3 c1,.v 7 (bo (k:=.i64) (E:=af) (l:=dc) (q:=0) gK o1 rfl e0),.v 8 (dF  (E:=af) (l:=dc) (q:=0) o1 rfl A3 e0 rfl),.v 12 (bo (k:=.i64) (E:=af) (l:=dc) (q:=0) gK o1 rfl e1),.v 13 (dF  (E:=af) (l:=dc) (q:=0) o1 rfl A3 e1 rfl),.a 14 (zl _ _ _ _ _ e2 (Ib (ai (bB) (ai (bB) (ay))) (zm h1 [(aI,.sl aw.length 1 (af.l dc))] o1)))] <| qc H (fun c2 H=>?_) (fun c2 H=>?_)
  ·refine qk <| qq <| qb 3 ?_
   obtain⟨v2,e3,H⟩:=bh H
   obtain⟨v3,e4,H⟩:=bh H
   obtain⟨v4,e5,H⟩:=bh H
   obtain⟨h2,e6,o2⟩:=fF (P:=Try.prog) (tf:=3) (E:=af) (l:=dc) (q:=0) (v:=v2) (x:=.int .i64 v2) o1 rfl Z3 e5 rfl rfl
   obtain⟨v5,e7,H⟩:=bh H
   obtain⟨h3,e8,o3⟩:=fF (P:=Try.prog) (tf:=3) (E:=af) (l:=(dc.set j0.toNat v2)) (q:=0) (v:=v3) (x:=.int .i64 v3) o2 rfl Z3 e7 rfl rfl
   exact qr [.v 8 (bo (k:=.i64) (E:=af) (l:=dc) (q:=0) gK o1 rfl e3),.v 9 (dF  (E:=af) (l:=dc) (q:=0) o1 rfl A3 e3 rfl),.v 12 (bo (k:=.i64) (E:=af) (l:=dc) (q:=0) gK o1 rfl e4),.v 13 (dF  (E:=af) (l:=dc) (q:=0) o1 rfl A3 e4 rfl),.v 14 (bo (k:=.i64) (E:=af) (l:=dc) (q:=0) gK o1 rfl e5),.w 15 e6,.v 16 (bo (k:=.i64) (E:=af) (l:=(dc.set j0.toNat v2)) (q:=0) gK o2 rfl e7),.w 17 e8] <| q0 <| ⟨((dc.set j0.toNat v2).set (i64.wrap (j0 - (1:Int))).toNat v3,i64.wrap (j0 - (1:Int))),⟨h3,by kernel_rfl,o3⟩,H⟩
  ·exact qx 2 <| ⟨rfl,dc,j0,oi H,.int .i64 j0,.bool (decide (r0<(0:Int))),h1,by kernel_rfl,o1⟩
 ·exact qr [.b 3 c1] <| Ek <| qx 2 <| ⟨rfl,dc,j0,oi H,.int .i64 j0,.bool false,h1,by kernel_rfl,o1⟩
theorem aT.di (L:Mem)(aI:Nat)(qG:FuncId)(fP eQ:List AV)(aw:List Int)(a0:Int)(b0:Int)(aQ:Int→Int→Option (Int))  (CI:aK (.fn qG fP) = .fn qG fP)(zl:∀(h:AHeap) (xs:List AV) (a0:Int) (a1:Int) r,aQ a0 a1=some r→aO bR h xs ([.int .i64 a0,.int .i64 a1]++eQ)→cf qG xs h=some (.int .i64 r,h))(zm:∀h K,Has h (K++(L))→aO cE h fP eQ)(CJ:∀h,aO cE h eQ eQ)  : dV Try.prog cf pR m (sub [1,0,0] (b7 Try.f105)) (fun k (σ:(List Int) × Int)=>aT.l0 m a0 b0 aQ k σ.1 σ.2) (fun σ s=>match σ with | (bl,i0)=>∃h0,s=⟨.rs aI 0 aw.length 1 :: .int .i64 a0 :: .int .i64 b0 :: .fn qG fP :: .int .i64 i0::sv [],[],h0⟩∧Has h0 ((aI,.sl aw.length 1 (af.l bl))::L)) (fun out e s=>(e = .exit 0∧∃bl i0,(bl,i0)=out∧∃n7 vK Ju EA CE EB h0,s=⟨[n7,vK,Ju,EA,CE,.any,EB,.any],[],h0⟩∧Has h0 ((aI,.sl aw.length 1 (af.l bl))::L))):=by
 refine me (fun _=>rfl) ?_
 rintro k ⟨bl,i0⟩ s out ⟨h0,rfl,o0⟩ H
 have H:aT.l0 m a0 b0 aQ (k+1) bl i0=some out:=H
 refine qq <| qq <| q0 <| qc H (fun c0 H=>?_) (fun c0 H=>?_)
 ·refine qk <| qq <| qb 1 <| qq <| q0 <| qb 2 ?_
  obtain⟨b4,e9,H⟩:=bh H
  refine ql (aT.mK L aI qG fP eQ aw a0 b0 aQ i0  CI zl zm CJ  (bl,i0) _ _ ⟨h0,by kernel_rfl,o0⟩ e9) ?_
  rintro e s ⟨rfl,dI,j1,rfl,g0,g1,h4,rfl,o4⟩
  try dsimp only at H
  exact q0 <| ⟨(dI,i64.wrap (i0+(1:Int))),⟨h4,by kernel_rfl,o4⟩,H⟩
 ·exact qx 0 <| ⟨rfl,bl,i0,oi H,.rs aI 0 aw.length 1,.int .i64 a0,.int .i64 b0,.fn qG fP,.int .i64 i0,.bool (decide (i0<b0)),h0,by kernel_rfl,o0⟩
theorem nt {aV:FuncId→b5}(ha:aV 105=pR)  (aw:List Int)(a0:Int)(b0:Int)(aQ:Int→Int→Option (Int))(h:AHeap)(L:Mem)(aI:Nat)(qG:FuncId)(fP eQ:List AV)  (CI:aK (.fn qG fP) = .fn qG fP)(zl:∀(h:AHeap) (xs:List AV) (a0:Int) (a1:Int) r,aQ a0 a1=some r→aO bR h xs ([.int .i64 a0,.int .i64 a1]++eQ)→cf qG xs h=some (.int .i64 r,h))(zm:∀h K,Has h (K++(L))→aO cE h fP eQ)(CJ:∀h,aO cE h eQ eQ)(o:Has h ((aI,.sl aw.length 1 (af.l aw))::L)){out:(List Int)}(H:aT.f m aw a0 b0 aQ=some out) :
  ∃r h',aZ Try.prog aV cf m 105 [.rs aI 0 aw.length 1,.int .i64 a0,.int .i64 b0,.fn qG fP] h=some (r,h')∧r = .tup []∧Has h' ((aI,.sl aw.length 1 (af.l out))::L):=by
 refine ar (fn:=Try.f105) ha Try.func105 (by kernel_rfl) (by kernel_rfl) ?_
 refine aH (Q:=fun s=>aT.fin L aI aw a0 b0 aQ out s) (fun _ _ ⟨h1,h2,h3⟩=>⟨h1,_,h2,rfl,h3⟩) ?_
 have H:_=some out:=H
 unfold aT.f at H
 show dp _ cf pR m _ ⟨.rs aI 0 aw.length 1 :: .int .i64 a0 :: .int .i64 b0 :: .fn qG fP::og [],[],h⟩ _
 refine q1 <| qb 0 ?_
 obtain⟨dv,tw,H⟩:=bh H
 refine ql (aT.di L aI qG fP eQ aw a0 b0 aQ  CI zl zm CJ  (aw,i64.wrap (a0+(1:Int))) _ _ ⟨h,by kernel_rfl,o⟩ tw) ?_
 rintro e s ⟨rfl,ju,i1,rfl,g2,g3,g4,g5,g6,g7,h5,rfl,o5⟩
 try dsimp only at H
 obtain rfl:=oi H
 exact⟨.inr rfl,⟨by kernel_rfl,he o5⟩⟩
end
end Go.Proofs.Ytifafejidnjckaa
namespace Go.Proofs.Ytifafejidnjckaa
open Go Go.R
open Go.IntKind (i64 u64 u8 u32)
def sK:b5:=gX [0,1,2,3,10,13] [] [32,0,32,32] [] []
def bT.l0 (m:Nat)(a0:Int)(b0:Int)(n0:Int):Nat→(List Int)→Int→Option ((List Int) × Int)
 | 0,_,_=>none
 | k+1,bl,i0=>if (decide (i0<n0))=true then ((ix bl (i64.wrap (b0+i0))).bind fun v0=>(ix bl (i64.wrap (a0+i0))).bind fun v1=>(ix bl (i64.wrap (a0+i0))).bind fun v2=>(ix (bl.set (i64.wrap (a0+i0)).toNat v0) (i64.wrap (b0+i0))).bind fun v3=>bT.l0 m a0 b0 n0 k ((bl.set (i64.wrap (a0+i0)).toNat v0).set (i64.wrap (b0+i0)).toNat v1) (i64.wrap (i0+(1:Int)))) else (some ((bl,i0)))
def bT.f (m:Nat)(aw:List Int)(a0:Int)(b0:Int)(n0:Int)(aQ:Int→Int→Option (Int)):Option ((List Int)):=(bT.l0 m a0 b0 n0 m aw (0:Int)).bind fun b4=>match b4 with | (dc,i1)=>some dc
def bT.fin (L:Mem)(aI:Nat)(aw:List Int)(a0:Int)(b0:Int)(n0:Int)(aQ:Int→Int→Option (Int))(r:(List Int))(s:St):Prop:=aM Try.prog (s.open sK) Try.f109.results.toList=some (.tup [])∧Has s.h ((aI,.sl aw.length 1 (af.l r))::L)
def Jv (cf:CallF)(m:Nat):Prop:=∀(aw:List Int) (a0:Int) (b0:Int) (n0:Int) (aQ:Int→Int→Option (Int)) (r:(List Int)),bT.f m aw a0 b0 n0 aQ=some r→∀h L (cm:Nat) (aI:Nat),Has h ((aI,.sl cm 1 (af.l aw))::L)→∀(eL:FuncId) (a6 aS:List AV),(aK (.fn eL a6) = .fn eL a6)→(∀(h:AHeap) (xs:List AV) (a0:Int) (a1:Int) r,aQ a0 a1=some r→aO bR h xs ([.int .i64 a0,.int .i64 a1]++aS)→cf eL xs h=some (.int .i64 r,h))→(∀h K,Has h (K++(L))→aO cE h a6 aS)→(∀h,aO cE h aS aS)→∀xs,xs.map aK=[.rs aI 0 cm 1,.int .i64 a0,.int .i64 b0,.int .i64 n0,.fn eL a6]→∃h',cf 109 xs h=some (.tup [],h')∧Has h' ((aI,.sl cm 1 (af.l r))::L)
section
variable {cf:CallF}{m:Nat}
theorem bT.di (L:Mem)(aI:Nat)(eL:FuncId)(a6 aS:List AV)(aw:List Int)(a0:Int)(b0:Int)(n0:Int)(aQ:Int→Int→Option (Int))  (gM:aK (.fn eL a6) = .fn eL a6)(hY:∀(h:AHeap) (xs:List AV) (a0:Int) (a1:Int) r,aQ a0 a1=some r→aO bR h xs ([.int .i64 a0,.int .i64 a1]++aS)→cf eL xs h=some (.int .i64 r,h))(hZ:∀h K,Has h (K++(L))→aO cE h a6 aS)(iL:∀h,aO cE h aS aS)  : dV Try.prog cf sK m (sub [1,0,0] (b7 Try.f109)) (fun k (σ:(List Int) × Int)=>bT.l0 m a0 b0 n0 k σ.1 σ.2) (fun σ s=>match σ with | (bl,i0)=>∃h0,s=⟨[.rs aI 0 aw.length 1,.int .i64 a0,.int .i64 b0,.int .i64 n0,.int .i64 i0,.any],[],h0⟩∧Has h0 ((aI,.sl aw.length 1 (af.l bl))::L)) (fun out e s=>(e = .exit 0∧∃bl i0,(bl,i0)=out∧∃n7 vK Ju EA zn sI h0,s=⟨[n7,vK,Ju,EA,zn,sI],[],h0⟩∧Has h0 ((aI,.sl aw.length 1 (af.l bl))::L))):=by
 refine me (fun _=>rfl) ?_
 rintro k ⟨bl,i0⟩ s out ⟨h0,rfl,o0⟩ H
 have H:bT.l0 m a0 b0 n0 (k+1) bl i0=some out:=H
 refine qq <| qq <| q0 <| qc H (fun c0 H=>?_) (fun c0 H=>?_)
 ·refine qk <| qq <| qb 1 ?_
  obtain⟨v0,e0,H⟩:=bh H
  obtain⟨v1,e1,H⟩:=bh H
  obtain⟨v2,e2,H⟩:=bh H
  obtain⟨h1,e3,o1⟩:=fF (P:=Try.prog) (tf:=3) (E:=af) (l:=bl) (q:=0) (v:=v0) (x:=.int .i64 v0) o0 rfl Z3 e2 rfl rfl
  obtain⟨v3,e4,H⟩:=bh H
  obtain⟨h2,e5,o2⟩:=fF (P:=Try.prog) (tf:=3) (E:=af) (l:=(bl.set (i64.wrap (a0+i0)).toNat v0)) (q:=0) (v:=v1) (x:=.int .i64 v1) o1 rfl Z3 e4 rfl rfl
  exact qr [.v 12 (bo (k:=.i64) (E:=af) (l:=bl) (q:=0) gK o0 rfl e0),.v 13 (dF  (E:=af) (l:=bl) (q:=0) o0 rfl A3 e0 rfl),.v 18 (bo (k:=.i64) (E:=af) (l:=bl) (q:=0) gK o0 rfl e1),.v 19 (dF  (E:=af) (l:=bl) (q:=0) o0 rfl A3 e1 rfl),.v 20 (bo (k:=.i64) (E:=af) (l:=bl) (q:=0) gK o0 rfl e2),.w 21 e3,.v 22 (bo (k:=.i64) (E:=af) (l:=(bl.set (i64.wrap (a0+i0)).toNat v0)) (q:=0) gK o1 rfl e4),.w 23 e5] <| q0 <| ⟨((bl.set (i64.wrap (a0+i0)).toNat v0).set (i64.wrap (b0+i0)).toNat v1,i64.wrap (i0+(1:Int))),⟨h2,by kernel_rfl,o2⟩,H⟩
 ·exact qx 0 <| ⟨rfl,bl,i0,oi H,.rs aI 0 aw.length 1,.int .i64 a0,.int .i64 b0,.int .i64 n0,.int .i64 i0,.bool (decide (i0<n0)),h0,by kernel_rfl,o0⟩
theorem qV {aV:FuncId→b5}(ha:aV 109=sK)  (aw:List Int)(a0:Int)(b0:Int)(n0:Int)(aQ:Int→Int→Option (Int))(h:AHeap)(L:Mem)(aI:Nat)(eL:FuncId)(a6 aS:List AV)  (gM:aK (.fn eL a6) = .fn eL a6)(hY:∀(h:AHeap) (xs:List AV) (a0:Int) (a1:Int) r,aQ a0 a1=some r→aO bR h xs ([.int .i64 a0,.int .i64 a1]++aS)→cf eL xs h=some (.int .i64 r,h))(hZ:∀h K,Has h (K++(L))→aO cE h a6 aS)(iL:∀h,aO cE h aS aS)(o:Has h ((aI,.sl aw.length 1 (af.l aw))::L)){out:(List Int)}(H:bT.f m aw a0 b0 n0 aQ=some out) :
  ∃r h',aZ Try.prog aV cf m 109 [.rs aI 0 aw.length 1,.int .i64 a0,.int .i64 b0,.int .i64 n0,.fn eL a6] h=some (r,h')∧r = .tup []∧Has h' ((aI,.sl aw.length 1 (af.l out))::L):=by
 refine ar (fn:=Try.f109) ha Try.func109 (by kernel_rfl) (by kernel_rfl) ?_
 refine aH (Q:=fun s=>bT.fin L aI aw a0 b0 n0 aQ out s) (fun _ _ ⟨h1,h2,h3⟩=>⟨h1,_,h2,rfl,h3⟩) ?_
 have H:_=some out:=H
 unfold bT.f at H
 show dp _ cf sK m _ ⟨[.rs aI 0 aw.length 1,.int .i64 a0,.int .i64 b0,.int .i64 n0,.any,.any],[],h⟩ _
 refine q1 <| qb 0 ?_
 obtain⟨b4,e6,H⟩:=bh H
 refine ql (bT.di L aI eL a6 aS aw a0 b0 n0 aQ  gM hY hZ iL  (aw,(0:Int)) _ _ ⟨h,by kernel_rfl,o⟩ e6) ?_
 rintro e s ⟨rfl,dc,i1,rfl,g0,g1,g2,g3,g4,g5,h3,rfl,o3⟩
 try dsimp only at H
 obtain rfl:=oi H
 exact⟨.inr rfl,⟨by kernel_rfl,he o3⟩⟩
end
end Go.Proofs.Ytifafejidnjckaa
namespace Go.Proofs.Ytifafejidnjckaa
open Go Go.R
open Go.IntKind (i64 u64 u8 u32)
def AO:b5:=gX [0,2,5] [] [6,2,5,5] [] []
def ca.f (m:Nat)(s0:ab):Option (Int):=(bH.f m s0).bind fun x0=>if (!x0)=true then (some (0:Int)) else (some (s0.aa.length:Int))
def ca.fin (L:Mem)(r:Int)(s:St):Prop:=∃av,aM Try.prog (s.open AO) Try.f18.results.toList=some av∧fA s.h av (.int .i64 r)
def OG (cf:CallF)(m:Nat):Prop:=∀(s0:ab) (r:Int),ca.f m s0=some r→∀h xs,aO bR h xs [.fp [.bool s0.aj,ah.fz s0.aa,af.fz s0.ae] 0]→cf 18 xs h=some (.int .i64 r,h)
section
variable {cf:CallF}{m:Nat}
theorem l7 {aV:FuncId→b5}(ha:aV 18=AO)(zi:LP cf m)(s0:ab)(h:AHeap)(L:Mem)  (o:Has h (L)){out:Int}(H:ca.f m s0=some out) :
  ∃r h',aZ Try.prog aV cf m 18 [.fp [.bool s0.aj,ah.fz s0.aa,af.fz s0.ae] 0] h=some (r,h')∧fA h' r (.int .i64 out):=by
 refine ar (fn:=Try.f18) ha Try.func18 (by kernel_rfl) (by kernel_rfl) ?_
 refine aH (Q:=fun s=>ca.fin L out s) (fun _ _ h=>h) ?_
 have H:_=some out:=H
 unfold ca.f at H
 show dp _ cf AO m _ ⟨[.fp [.bool s0.aj,ah.fz s0.aa,af.fz s0.ae] 0,.any,.any],[],h⟩ _
 refine q1 <| qq <| qq ?_
 obtain⟨x0,e0,H⟩:=bh H
 refine qr [.a 1 (zi _ _ e0 h _ (gv (ai (gk (pure_cons (dM) (pure_cons (bL.bG (E:=ah) (l:=s0.aa)) (pure_cons (bL.bG (E:=af) (l:=s0.ae)) (pure_nil))))) (ay))))] <| qc H (fun c0 H=>?_) (fun c0 H=>?_)
 ·obtain rfl:=oi H
  exact q1 <| qt <| ⟨.inl rfl,dC (.int .i64 (0:Int)) h (dB (dh))⟩
 ·obtain rfl:=oi H
  exact qk <| qq <| q0 <| qt <| ⟨.inl rfl,dC (.int .i64 (s0.aa.length:Int)) h (dB (dh))⟩
end
end Go.Proofs.Ytifafejidnjckaa
namespace Go.Proofs.Ytifafejidnjckaa
open Go Go.R
open Go.IntKind (i64 u64 u8 u32)
def oY.f (m:Nat)(s0:ab):Option ((Option ab) × ab):=(bH.f m s0).bind fun x0=>if (!x0)=true then (some (none,s0)) else ((G3 4 s0.aa).bind fun x1=>(G3 1 s0.ae).bind fun x2=>some (some (ab.mk true x1 x2),s0))
end Go.Proofs.Ytifafejidnjckaa
namespace Go.Proofs.Ytifafejidnjckaa
open Go Go.R
open Go.IntKind (i64 u64 u8 u32)
def AP:b5:=gX [0,2,3] [] [6,1] [] []
def eu.f (m:Nat)(s0:ab):Option (Int × Int × ab):=(b6.f m s0 (dH.f m ) (aq.mk (0:Int) (0:Int) (Wo #[]) ([]))).bind fun x0=>some (x0.1,x0.2.1,x0.2.2)
def eu.fin (L:Mem)(ao:Nat)(ak:Nat)(an:Nat)(s0:ab)(r:Int × Int × ab)(s:St):Prop:=∃aA aB:Nat,aM Try.prog (s.open AP) Try.f27.results.toList=some (.tup [.int .i64 r.1,.int .i64 r.2.1])∧Has s.h ((ao,.ob [.bool r.2.2.aj,.rs aA 0 r.2.2.aa.length 4,.rs aB 0 r.2.2.ae.length 1])::(aA,.sl r.2.2.aa.length 4 (ah.l r.2.2.aa))::(aB,.sl r.2.2.ae.length 1 (af.l r.2.2.ae))::L)
def Q8 (cf:CallF)(m:Nat):Prop:=∀(s0:ab) (r:Int × Int × ab),eu.f m s0=some r→∀h L (ao:Nat) (ak:Nat) (an:Nat),Has h ((ao,.ob [.bool s0.aj,.rs ak 0 s0.aa.length 4,.rs an 0 s0.ae.length 1])::(ak,.sl s0.aa.length 4 (ah.l s0.aa))::(an,.sl s0.ae.length 1 (af.l s0.ae))::L)→∀xs,xs.map aK=[.ptr ao 0]→∃aA aB h',cf 27 xs h=some (.tup [.int .i64 r.1,.int .i64 r.2.1],h')∧Has h' ((ao,.ob [.bool r.2.2.aj,.rs aA 0 r.2.2.aa.length 4,.rs aB 0 r.2.2.ae.length 1])::(aA,.sl r.2.2.aa.length 4 (ah.l r.2.2.aa))::(aB,.sl r.2.2.ae.length 1 (af.l r.2.2.ae))::L)
section
variable {cf:CallF}{m:Nat}
theorem mL {aV:FuncId→b5}(ha:aV 27=AP)(vO:Kv cf m)(OH:QU cf m)(s0:ab)(h:AHeap)(L:Mem)(ao:Nat)(ak:Nat)(an:Nat)  (o:Has h ((ao,.ob [.bool s0.aj,.rs ak 0 s0.aa.length 4,.rs an 0 s0.ae.length 1])::(ak,.sl s0.aa.length 4 (ah.l s0.aa))::(an,.sl s0.ae.length 1 (af.l s0.ae))::L)){out:Int × Int × ab}(H:eu.f m s0=some out) :
  ∃r h',aZ Try.prog aV cf m 27 [.ptr ao 0] h=some (r,h')∧∃aA aB:Nat,r = .tup [.int .i64 out.1,.int .i64 out.2.1]∧Has h' ((ao,.ob [.bool out.2.2.aj,.rs aA 0 out.2.2.aa.length 4,.rs aB 0 out.2.2.ae.length 1])::(aA,.sl out.2.2.aa.length 4 (ah.l out.2.2.aa))::(aB,.sl out.2.2.ae.length 1 (af.l out.2.2.ae))::L):=by
 refine ar (fn:=Try.f27) ha Try.func27 (by kernel_rfl) (by kernel_rfl) ?_
 refine aH (Q:=fun s=>eu.fin L ao ak an s0 out s) (fun _ _ ⟨h1,aA,aB,h2,h3⟩=>⟨h1,_,h2,aA,aB,rfl,h3⟩) ?_
 have H:_=some out:=H
 unfold eu.f at H
 show dp _ cf AP m _ ⟨[.ptr ao 0,.any,.any],[],h⟩ _
 refine q1 <| qq ?_
 obtain⟨x0,e0,H⟩:=bh H
 obtain⟨aI,dR,h0,e1,o0⟩:=vO _ _ _ _ e0 h _ _ _ _ (o) 48 [] [] rfl (fun h' tK  r hr hx=>OH  r hr h' tK hx) (fun h' K' o'=>iP (ay)) (fun h_=>iP (ay)) [.ptr ao 0,.fn 48 [],.agg [.int .i64 (0:Int),.int .i64 (0:Int),.str (Wo #[]),.nils]] (au (rfl) (au (rfl) (au (aL (nZ (cu (bj) (cu (bj) (cu (ly) (cu (rD (E:=af)) (nY))))))) (bE))))
 obtain rfl:=oi H
 exact qr [.a 2 e1] <| qt <| ⟨.inl rfl,⟨aI,dR,by kernel_rfl,he o0⟩⟩
end
end Go.Proofs.Ytifafejidnjckaa
namespace Go.Proofs.Ytifafejidnjckaa
open Go Go.R
open Go.IntKind (i64 u64 u8 u32)
def AQ:b5:=gX [0,1,3,4,5] [] [26,7] [] []
def ez.f (m:Nat)(s0:ab)(n0:Int):Option (Int × Int × ab):=(b6.f m s0 (cZ.f m n0) (aq.mk (1:Int) n0 (Wo #[]) ([]))).bind fun x0=>some (x0.1,x0.2.1,x0.2.2)
def ez.fin (L:Mem)(ao:Nat)(ak:Nat)(an:Nat)(s0:ab)(n0:Int)(r:Int × Int × ab)(s:St):Prop:=∃aA aB:Nat,aM Try.prog (s.open AQ) Try.f29.results.toList=some (.tup [.int .i64 r.1,.int .i64 r.2.1])∧Has s.h ((ao,.ob [.bool r.2.2.aj,.rs aA 0 r.2.2.aa.length 4,.rs aB 0 r.2.2.ae.length 1])::(aA,.sl r.2.2.aa.length 4 (ah.l r.2.2.aa))::(aB,.sl r.2.2.ae.length 1 (af.l r.2.2.ae))::L)
def Q9 (cf:CallF)(m:Nat):Prop:=∀(s0:ab) (n0:Int) (r:Int × Int × ab),ez.f m s0 n0=some r→∀h L (ao:Nat) (ak:Nat) (an:Nat),Has h ((ao,.ob [.bool s0.aj,.rs ak 0 s0.aa.length 4,.rs an 0 s0.ae.length 1])::(ak,.sl s0.aa.length 4 (ah.l s0.aa))::(an,.sl s0.ae.length 1 (af.l s0.ae))::L)→∀xs,xs.map aK=[.ptr ao 0,.int .i64 n0]→∃aA aB h',cf 29 xs h=some (.tup [.int .i64 r.1,.int .i64 r.2.1],h')∧Has h' ((ao,.ob [.bool r.2.2.aj,.rs aA 0 r.2.2.aa.length 4,.rs aB 0 r.2.2.ae.length 1])::(aA,.sl r.2.2.aa.length 4 (ah.l r.2.2.aa))::(aB,.sl r.2.2.ae.length 1 (af.l r.2.2.ae))::L)
section
variable {cf:CallF}{m:Nat}
theorem mM {aV:FuncId→b5}(ha:aV 29=AQ)(vO:Kv cf m)(OI:QV cf m)(s0:ab)(n0:Int)(h:AHeap)(L:Mem)(ao:Nat)(ak:Nat)(an:Nat)  (o:Has h ((ao,.ob [.bool s0.aj,.rs ak 0 s0.aa.length 4,.rs an 0 s0.ae.length 1])::(ak,.sl s0.aa.length 4 (ah.l s0.aa))::(an,.sl s0.ae.length 1 (af.l s0.ae))::L)){out:Int × Int × ab}(H:ez.f m s0 n0=some out) :
  ∃r h',aZ Try.prog aV cf m 29 [.ptr ao 0,.int .i64 n0] h=some (r,h')∧∃aA aB:Nat,r = .tup [.int .i64 out.1,.int .i64 out.2.1]∧Has h' ((ao,.ob [.bool out.2.2.aj,.rs aA 0 out.2.2.aa.length 4,.rs aB 0 out.2.2.ae.length 1])::(aA,.sl out.2.2.aa.length 4 (ah.l out.2.2.aa))::(aB,.sl out.2.2.ae.length 1 (af.l out.2.2.ae))::L):=by
 refine ar (fn:=Try.f29) ha Try.func29 (by kernel_rfl) (by kernel_rfl) ?_
 refine aH (Q:=fun s=>ez.fin L ao ak an s0 n0 out s) (fun _ _ ⟨h1,aA,aB,h2,h3⟩=>⟨h1,_,h2,aA,aB,rfl,h3⟩) ?_
 have H:_=some out:=H
 unfold ez.f at H
 show dp _ cf AQ m _ ⟨.ptr ao 0 :: .int .i64 n0::sv [],[],h⟩ _
 refine qq ?_
 obtain⟨aI,h0,e0,o0⟩:=gw (cs:=[.int .i64 n0]) o (by kernel_rfl)
 refine qr [.a 0 e0] <| qq ?_
 obtain⟨x0,e1,H⟩:=bh H
 obtain⟨dR,eS,h1,e2,o1⟩:=vO _ _ _ _ e1 h0 _ _ _ _ ((Has.front (Has.front (Has.front (Has.front o0 0 rfl) 3 rfl) 3 rfl) 3 rfl)) 51 [.ptr aI 0] [.fp [.int .i64 n0] 0] rfl (fun h' tK  r hr hx=>OI _ r hr h' tK hx) (fun h' K' o'=>iP (ai (dQ (q:=(K'.length+3)) o' (jt rfl) (ai (bB) (ay))) (ay))) (fun h_=>iP (ai (gk (pure_cons (ff) (pure_nil))) (ay))) [.ptr ao 0,.fn 51 [.ptr aI 0],.agg [.int .i64 (1:Int),.int .i64 n0,.str (Wo #[]),.nils]] (au (rfl) (au (rfl) (au (aL (nZ (cu (bj) (cu (bj) (cu (ly) (cu (rD (E:=af)) (nY))))))) (bE))))
 refine qr [.v 2 (show bm Try.prog h0 3 (.ptr aI 0)=some (.int .i64 n0) from bZ (q:=0) (cs:=[.int .i64 n0]) o0 rfl (by kernel_rfl)),.a 4 e2] ?_
 have o2:Has h1 ((ao,.ob [.bool x0.2.2.aj,.rs dR 0 x0.2.2.aa.length 4,.rs eS 0 x0.2.2.ae.length 1])::(dR,.sl x0.2.2.aa.length 4 (ah.l x0.2.2.aa))::(eS,.sl x0.2.2.ae.length 1 (af.l x0.2.2.ae))::L):=Has.del o1 3
 obtain rfl:=oi H
 exact qt <| ⟨.inl rfl,⟨dR,eS,by kernel_rfl,he o2⟩⟩
end
end Go.Proofs.Ytifafejidnjckaa
namespace Go.Proofs.Ytifafejidnjckaa
open Go Go.R
open Go.IntKind (i64 u64 u8 u32)
def gz.l0 (m:Nat)(s0:ab)(x0:List Int):Nat→(List Int)→Int→Option ((List Int) × Int)
 | 0,_,_=>none
 | k+1,x1,x2=>if (decide (x2<(x0.length:Int)))=true then ((ix x1 x2).bind fun v1=>(ba.f m s0 v1).bind fun x3=>(ix x1 x2).bind fun v2=>gz.l0 m s0 x0 k (x1.set x2.toNat x3) (i64.wrap (x2+(1:Int)))) else (some ((x1,x2)))
def gz.f (m:Nat)(s0:ab)(n0:Int):Option (aq):=(ix s0.aa n0).bind fun v0=>(G3 1 v0.args).bind fun x0=>(gz.l0 m s0 x0 m x0 (0:Int)).bind fun b4=>match b4 with | (x4,x5)=>some (aq.mk v0.kind v0.int v0.label x4)
end Go.Proofs.Ytifafejidnjckaa
namespace Go.Proofs.Ytifafejidnjckaa
open Go Go.R
open Go.IntKind (i64 u64 u8 u32)
def AR:b5:=gX [0,1,4] [] [4,3] [] []
def eA.f (m:Nat)(s0:List Int)(f0:Int→Option (Bool)):Option (Bool):=(cG.f m s0 f0).bind fun x0=>some (decide (x0≥(0:Int)))
def eA.fin (L:Mem)(r:Bool)(s:St):Prop:=∃av,aM Try.prog (s.open AR) Try.f52.results.toList=some av∧fA s.h av (.bool r)
def MV (cf:CallF)(m:Nat):Prop:=∀(s0:List Int) (f0:Int→Option (Bool)) (r:Bool),eA.f m s0 f0=some r→∀(eK:FuncId) (aP:List AV),(∀(h:AHeap) (xs:List AV) (a0:Int) r,f0 a0=some r→aO bR h xs ([.int .i64 a0]++aP)→cf eK xs h=some (.bool r,h))→(∀h,aO cE h aP aP)→∀h xs,aO bR h xs [af.fz s0,.fn eK aP]→cf 52 xs h=some (.bool r,h)
section
variable {cf:CallF}{m:Nat}
theorem qW {aV:FuncId→b5}(ha:aV 52=AR)(Jw:OD cf m)(s0:List Int)(f0:Int→Option (Bool))(h:AHeap)(L:Mem)(eK:FuncId)(aP:List AV)  (gU:∀(h:AHeap) (xs:List AV) (a0:Int) r,f0 a0=some r→aO bR h xs ([.int .i64 a0]++aP)→cf eK xs h=some (.bool r,h))(gV:∀h,aO cE h aP aP)(o:Has h (L)){out:Bool}(H:eA.f m s0 f0=some out) :
  ∃r h',aZ Try.prog aV cf m 52 [af.fz s0,.fn eK aP] h=some (r,h')∧fA h' r (.bool out):=by
 refine ar (fn:=Try.f52) ha Try.func52 (by kernel_rfl) (by kernel_rfl) ?_
 refine aH (Q:=fun s=>eA.fin L out s) (fun _ _ h=>h) ?_
 have H:_=some out:=H
 unfold eA.f at H
 show dp _ cf AR m _ ⟨[af.fz s0,.fn eK aP,.any],[],h⟩ _
 refine q1 <| qq ?_
 obtain⟨x0,e0,H⟩:=bh H
 obtain rfl:=oi H
 exact qr [.a 2 (Jw _ _ _ e0 eK aP gU gV h _ (gv (ai (fy (E:=af)) (ai (sE (gV h)) (ay)))))] <| qt <| ⟨.inl rfl,dC (.bool (decide (x0≥(0:Int)))) h (dB (aD))⟩
end
end Go.Proofs.Ytifafejidnjckaa
namespace Go.Proofs.Ytifafejidnjckaa
open Go Go.R
open Go.IntKind (i64 u64 u8 u32)
def AS:b5:=gX [0,1,3] [] [4,3] [] []
def cV.f (m:Nat)(n0:Int)(x0:ab):Option (Bool):=(cw.f m x0 n0).bind fun x1=>some (!x1)
def cV.fin (L:Mem)(r:Bool)(s:St):Prop:=∃av,aM Try.prog (s.open AS) Try.f53.results.toList=some av∧fA s.h av (.bool r)
def Ra (cf:CallF)(m:Nat):Prop:=∀(n0:Int) (x0:ab) (r:Bool),cV.f m n0 x0=some r→∀h xs,aO bR h xs [.int .i64 n0,.fp [.fp [.bool x0.aj,ah.fz x0.aa,af.fz x0.ae] 0] 0]→cf 53 xs h=some (.bool r,h)
section
variable {cf:CallF}{m:Nat}
theorem kp {aV:FuncId→b5}(ha:aV 53=AS)(Jr:Ow cf m)(n0:Int)(x0:ab)(h:AHeap)(L:Mem)  (o:Has h (L)){out:Bool}(H:cV.f m n0 x0=some out) :
  ∃r h',aZ Try.prog aV cf m 53 [.int .i64 n0,.fp [.fp [.bool x0.aj,ah.fz x0.aa,af.fz x0.ae] 0] 0] h=some (r,h')∧fA h' r (.bool out):=by
 refine ar (fn:=Try.f53) ha Try.func53 (by kernel_rfl) (by kernel_rfl) ?_
 refine aH (Q:=fun s=>cV.fin L out s) (fun _ _ h=>h) ?_
 have H:_=some out:=H
 unfold cV.f at H
 show dp _ cf AS m _ ⟨[.int .i64 n0,.fp [.fp [.bool x0.aj,ah.fz x0.aa,af.fz x0.ae] 0] 0,.any],[],h⟩ _
 refine q1 <| qq ?_
 obtain⟨x1,e0,H⟩:=bh H
 obtain rfl:=oi H
 exact qr [.a 2 (Jr _ _ _ e0 h _ (gv (ai (gk (pure_cons (dM) (pure_cons (bL.bG (E:=ah) (l:=x0.aa)) (pure_cons (bL.bG (E:=af) (l:=x0.ae)) (pure_nil))))) (ai (bB) (ay)))))] <| qt <| ⟨.inl rfl,dC (.bool (!x1)) h (dB (aD))⟩
end
end Go.Proofs.Ytifafejidnjckaa
