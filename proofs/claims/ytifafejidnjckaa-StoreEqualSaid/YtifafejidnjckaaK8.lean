/- Part of the proof: Q109, Q18, Q19, Q27, Q29, Q40, Q52, Q53, Q56, Q57, Q58, Q63, Q65, Q74, Q77, Q80, Q82, Q92, Q93, Q94, Q100, Q101, Q107, Q108, Q30, Q31, Q33, Q35, Q50, Q61. -/
import Derived.Test.YtifafejidnjckaaK7
set_option linter.unusedVariables false
set_option linter.unusedSimpArgs false
set_option maxRecDepth 100000
open ByteArray renaming mk → Yv
open Eq renaming trans → YY
open List renaming length_set → XV, append_assoc → X3, cons_append → Yq, nil_append → Yr
namespace Go.Proofs.Ytifafejidnjckaa
open Go Go.R
open Go.IntKind (i64 u64 u8 u32)
def tG:bY:=gK [0,1,2,3,10,13] [] [32,0,32,32] [] []
def b5.l0 (m:Nat)(a0:Int)(b0:Int)(n0:Int):Nat→(List Int)→Int→Option ((List Int) × Int)
 | 0,_,_=>none
 | k+1,bB,i0=>if (decide (i0<n0))=true then ((ix bB (i64.wrap (b0+i0))).bind fun v0=>(ix bB (i64.wrap (a0+i0))).bind fun v1=>(ix bB (i64.wrap (a0+i0))).bind fun v2=>(ix (bB.set (i64.wrap (a0+i0)).toNat v0) (i64.wrap (b0+i0))).bind fun v3=>b5.l0 m a0 b0 n0 k ((bB.set (i64.wrap (a0+i0)).toNat v0).set (i64.wrap (b0+i0)).toNat v1) (i64.wrap (i0+(1:Int)))) else (some ((bB,i0)))
def b5.f (m:Nat)(ax:List Int)(a0:Int)(b0:Int)(n0:Int)(aX:Int→Int→Option (Int)):Option ((List Int)):=(b5.l0 m a0 b0 n0 m ax (0:Int)).bind fun bQ=>match bQ with | (dC,i1)=>some dC
def b5.fin (L:Mem)(aH:Nat)(ax:List Int)(a0:Int)(b0:Int)(n0:Int)(aX:Int→Int→Option (Int))(r:(List Int))(s:St):Prop:=aM Try.prog (s.open tG) Try.f109.results.toList=some (.tup [])∧Has s.h ((aH,.sl ax.length 1 (af.l r))::L)
def KN (cf:CallF)(m:Nat):Prop:=∀(ax:List Int) (a0:Int) (b0:Int) (n0:Int) (aX:Int→Int→Option (Int)) (r:(List Int)),b5.f m ax a0 b0 n0 aX=some r→∀h L (cH:Nat) (aH:Nat),Has h ((aH,.sl cH 1 (af.l ax))::L)→∀(fm:FuncId) (bk aY:List AV),(aO (.fn fm bk) = .fn fm bk)→(∀(h:AHeap) (xs:List AV) (a0:Int) (a1:Int) r,aX a0 a1=some r→aQ bJ h xs ([.int .i64 a0,.int .i64 a1]++aY)→cf fm xs h=some (.int .i64 r,h))→(∀h K,Has h (K++(L))→aQ cz h bk aY)→(∀h,aQ cz h aY aY)→∀xs,xs.map aO=[.rs aH 0 cH 1,.int .i64 a0,.int .i64 b0,.int .i64 n0,.fn fm bk]→∃h',cf 109 xs h=some (.tup [],h')∧Has h' ((aH,.sl cH 1 (af.l r))::L)
section
variable {cf:CallF}{m:Nat}
theorem b5.cO (L:Mem)(aH:Nat)(fm:FuncId)(bk aY:List AV)(ax:List Int)(a0:Int)(b0:Int)(n0:Int)(aX:Int→Int→Option (Int))  (gV:aO (.fn fm bk) = .fn fm bk)(iw:∀(h:AHeap) (xs:List AV) (a0:Int) (a1:Int) r,aX a0 a1=some r→aQ bJ h xs ([.int .i64 a0,.int .i64 a1]++aY)→cf fm xs h=some (.int .i64 r,h))(iy:∀h K,Has h (K++(L))→aQ cz h bk aY)(iY:∀h,aQ cz h aY aY)  : dF Try.prog cf tG m (sub [1,0,0] (bW Try.f109)) (fun k (σ:(List Int) × Int)=>b5.l0 m a0 b0 n0 k σ.1 σ.2) (fun σ s=>match σ with | (bB,i0)=>∃h0,s=⟨[.rs aH 0 ax.length 1,.int .i64 a0,.int .i64 b0,.int .i64 n0,.int .i64 i0,.any],[],h0⟩∧Has h0 ((aH,.sl ax.length 1 (af.l bB))::L)) (fun out e s=>(e = .exit 0∧∃bB i0,(bB,i0)=out∧∃nr w6 KH Iv F9 tE h0,s=⟨[nr,w6,KH,Iv,F9,tE],[],h0⟩∧Has h0 ((aH,.sl ax.length 1 (af.l bB))::L))):=by
 refine k8 (fun _=>rfl) ?_
 rintro k ⟨bB,i0⟩ s out ⟨h0,rfl,o0⟩ H
 have H:b5.l0 m a0 b0 n0 (k+1) bB i0=some out:=H
 refine qq <| qq <| q0 <| qc H (fun c0 H=>?_) (fun c0 H=>?_)
 ·refine qk <| qq <| qb 1 ?_
  obtain⟨v0,e0,H⟩:=bj H
  obtain⟨v1,e1,H⟩:=bj H
  obtain⟨v2,e2,H⟩:=bj H
  obtain⟨h1,e3,o1⟩:=fG (P:=Try.prog) (tf:=3) (E:=af) (l:=bB) (q:=0) (v:=v0) (x:=.int .i64 v0) o0 rfl Z3 e2 rfl rfl
  obtain⟨v3,e4,H⟩:=bj H
  obtain⟨h2,e5,o2⟩:=fG (P:=Try.prog) (tf:=3) (E:=af) (l:=(bB.set (i64.wrap (a0+i0)).toNat v0)) (q:=0) (v:=v1) (x:=.int .i64 v1) o1 rfl Z3 e4 rfl rfl
  exact qr [.v 12 (bm (k:=.i64) (E:=af) (l:=bB) (q:=0) gg o0 rfl e0),.v 13 (cM  (E:=af) (l:=bB) (q:=0) o0 rfl A3 e0 rfl),.v 18 (bm (k:=.i64) (E:=af) (l:=bB) (q:=0) gg o0 rfl e1),.v 19 (cM  (E:=af) (l:=bB) (q:=0) o0 rfl A3 e1 rfl),.v 20 (bm (k:=.i64) (E:=af) (l:=bB) (q:=0) gg o0 rfl e2),.w 21 e3,.v 22 (bm (k:=.i64) (E:=af) (l:=(bB.set (i64.wrap (a0+i0)).toNat v0)) (q:=0) gg o1 rfl e4),.w 23 e5] <| q0 <| ⟨((bB.set (i64.wrap (a0+i0)).toNat v0).set (i64.wrap (b0+i0)).toNat v1,i64.wrap (i0+(1:Int))),⟨h2,by kernel_rfl,o2⟩,H⟩
 ·exact qx 0 <| ⟨rfl,bB,i0,oi H,.rs aH 0 ax.length 1,.int .i64 a0,.int .i64 b0,.int .i64 n0,.int .i64 i0,.bool (decide (i0<n0)),h0,by kernel_rfl,o0⟩
theorem rQ {aW:FuncId→bY}(ha:aW 109=tG)  (ax:List Int)(a0:Int)(b0:Int)(n0:Int)(aX:Int→Int→Option (Int))(h:AHeap)(L:Mem)(aH:Nat)(fm:FuncId)(bk aY:List AV)  (gV:aO (.fn fm bk) = .fn fm bk)(iw:∀(h:AHeap) (xs:List AV) (a0:Int) (a1:Int) r,aX a0 a1=some r→aQ bJ h xs ([.int .i64 a0,.int .i64 a1]++aY)→cf fm xs h=some (.int .i64 r,h))(iy:∀h K,Has h (K++(L))→aQ cz h bk aY)(iY:∀h,aQ cz h aY aY)(o:Has h ((aH,.sl ax.length 1 (af.l ax))::L)){out:(List Int)}(H:b5.f m ax a0 b0 n0 aX=some out) :
  ∃r h',bb Try.prog aW cf m 109 [.rs aH 0 ax.length 1,.int .i64 a0,.int .i64 b0,.int .i64 n0,.fn fm bk] h=some (r,h')∧r = .tup []∧Has h' ((aH,.sl ax.length 1 (af.l out))::L):=by
 refine ar (fn:=Try.f109) ha Try.func109 (by kernel_rfl) (by kernel_rfl) ?_
 refine aG (Q:=fun s=>b5.fin L aH ax a0 b0 n0 aX out s) (fun _ _ ⟨h1,h2,h3⟩=>⟨h1,_,h2,rfl,h3⟩) ?_
 have H:_=some out:=H
 unfold b5.f at H
 show dy _ cf tG m _ ⟨[.rs aH 0 ax.length 1,.int .i64 a0,.int .i64 b0,.int .i64 n0,.any,.any],[],h⟩ _
 refine q1 <| qb 0 ?_
 obtain⟨bQ,e6,H⟩:=bj H
 refine ql (b5.cO L aH fm bk aY ax a0 b0 n0 aX  gV iw iy iY  (ax,(0:Int)) _ _ ⟨h,by kernel_rfl,o⟩ e6) ?_
 rintro e s ⟨rfl,dC,i1,rfl,g0,g1,g2,g3,g4,g5,h3,rfl,o3⟩
 try dsimp only at H
 obtain rfl:=oi H
 exact⟨.inr rfl,⟨by kernel_rfl,he o3⟩⟩
end
end Go.Proofs.Ytifafejidnjckaa
namespace Go.Proofs.Ytifafejidnjckaa
open Go Go.R
open Go.IntKind (i64 u64 u8 u32)
def B9:bY:=gK [0,2,5] [] [6,2,5,5] [] []
def bS.f (m:Nat)(s0:ab):Option (Int):=(bL.f m s0).bind fun x0=>if (!x0)=true then (some (0:Int)) else (some (s0.aa.length:Int))
def bS.fin (L:Mem)(r:Int)(s:St):Prop:=∃av,aM Try.prog (s.open B9) Try.f18.results.toList=some av∧fj s.h av (.int .i64 r)
def Qi (cf:CallF)(m:Nat):Prop:=∀(s0:ab) (r:Int),bS.f m s0=some r→∀h xs,aQ bJ h xs [.fp [.bool s0.ak,ai.fz s0.aa,af.fz s0.ae] 0]→cf 18 xs h=some (.int .i64 r,h)
section
variable {cf:CallF}{m:Nat}
theorem mK {aW:FuncId→bY}(ha:aW 18=B9)(AI:Ns cf m)(s0:ab)(h:AHeap)(L:Mem)  (o:Has h (L)){out:Int}(H:bS.f m s0=some out) :
  ∃r h',bb Try.prog aW cf m 18 [.fp [.bool s0.ak,ai.fz s0.aa,af.fz s0.ae] 0] h=some (r,h')∧fj h' r (.int .i64 out):=by
 refine ar (fn:=Try.f18) ha Try.func18 (by kernel_rfl) (by kernel_rfl) ?_
 refine aG (Q:=fun s=>bS.fin L out s) (fun _ _ h=>h) ?_
 have H:_=some out:=H
 unfold bS.f at H
 show dy _ cf B9 m _ ⟨[.fp [.bool s0.ak,ai.fz s0.aa,af.fz s0.ae] 0,.any,.any],[],h⟩ _
 refine q1 <| qq <| qq ?_
 obtain⟨x0,e0,H⟩:=bj H
 refine qr [.a 1 (AI _ _ e0 h _ (fq (ah (fh (pure_cons (cp) (pure_cons (bK.bo (E:=ai) (l:=s0.aa)) (pure_cons (bK.bo (E:=af) (l:=s0.ae)) (pure_nil))))) (aw))))] <| qc H (fun c0 H=>?_) (fun c0 H=>?_)
 ·obtain rfl:=oi H
  exact q1 <| qt <| ⟨.inl rfl,cX (.int .i64 (0:Int)) h (cV (dc))⟩
 ·obtain rfl:=oi H
  exact qk <| qq <| q0 <| qt <| ⟨.inl rfl,cX (.int .i64 (s0.aa.length:Int)) h (cV (dc))⟩
end
end Go.Proofs.Ytifafejidnjckaa
namespace Go.Proofs.Ytifafejidnjckaa
open Go Go.R
open Go.IntKind (i64 u64 u8 u32)
def pM.f (m:Nat)(s0:ab):Option ((Option ab) × ab):=(bL.f m s0).bind fun x0=>if (!x0)=true then (some (none,s0)) else ((FJ 4 s0.aa).bind fun x1=>(FJ 1 s0.ae).bind fun x2=>some (some (ab.mk true x1 x2),s0))
end Go.Proofs.Ytifafejidnjckaa
namespace Go.Proofs.Ytifafejidnjckaa
open Go Go.R
open Go.IntKind (i64 u64 u8 u32)
def Ca:bY:=gK [0,2,3] [] [6,1] [] []
def eU.f (m:Nat)(s0:ab):Option (Int × Int × ab):=(cm.f m s0 (eo.f m ) (aj.mk (0:Int) (0:Int) (Yv #[]) ([]))).bind fun x0=>some (x0.1,x0.2.1,x0.2.2)
def eU.fin (L:Mem)(aq:Nat)(an:Nat)(ao:Nat)(s0:ab)(r:Int × Int × ab)(s:St):Prop:=∃aD aE:Nat,aM Try.prog (s.open Ca) Try.f27.results.toList=some (.tup [.int .i64 r.1,.int .i64 r.2.1])∧Has s.h ((aq,.ob [.bool r.2.2.ak,.rs aD 0 r.2.2.aa.length 4,.rs aE 0 r.2.2.ae.length 1])::(aD,.sl r.2.2.aa.length 4 (ai.l r.2.2.aa))::(aE,.sl r.2.2.ae.length 1 (af.l r.2.2.ae))::L)
def Tg (cf:CallF)(m:Nat):Prop:=∀(s0:ab) (r:Int × Int × ab),eU.f m s0=some r→∀h L (aq:Nat) (an:Nat) (ao:Nat),Has h ((aq,.ob [.bool s0.ak,.rs an 0 s0.aa.length 4,.rs ao 0 s0.ae.length 1])::(an,.sl s0.aa.length 4 (ai.l s0.aa))::(ao,.sl s0.ae.length 1 (af.l s0.ae))::L)→∀xs,xs.map aO=[.ptr aq 0]→∃aD aE h',cf 27 xs h=some (.tup [.int .i64 r.1,.int .i64 r.2.1],h')∧Has h' ((aq,.ob [.bool r.2.2.ak,.rs aD 0 r.2.2.aa.length 4,.rs aE 0 r.2.2.ae.length 1])::(aD,.sl r.2.2.aa.length 4 (ai.l r.2.2.aa))::(aE,.sl r.2.2.ae.length 1 (af.l r.2.2.ae))::L)
section
variable {cf:CallF}{m:Nat}
theorem nv {aW:FuncId→bY}(ha:aW 27=Ca)(xd:Ma cf m)(Qj:S3 cf m)(s0:ab)(h:AHeap)(L:Mem)(aq:Nat)(an:Nat)(ao:Nat)  (o:Has h ((aq,.ob [.bool s0.ak,.rs an 0 s0.aa.length 4,.rs ao 0 s0.ae.length 1])::(an,.sl s0.aa.length 4 (ai.l s0.aa))::(ao,.sl s0.ae.length 1 (af.l s0.ae))::L)){out:Int × Int × ab}(H:eU.f m s0=some out) :
  ∃r h',bb Try.prog aW cf m 27 [.ptr aq 0] h=some (r,h')∧∃aD aE:Nat,r = .tup [.int .i64 out.1,.int .i64 out.2.1]∧Has h' ((aq,.ob [.bool out.2.2.ak,.rs aD 0 out.2.2.aa.length 4,.rs aE 0 out.2.2.ae.length 1])::(aD,.sl out.2.2.aa.length 4 (ai.l out.2.2.aa))::(aE,.sl out.2.2.ae.length 1 (af.l out.2.2.ae))::L):=by
 refine ar (fn:=Try.f27) ha Try.func27 (by kernel_rfl) (by kernel_rfl) ?_
 refine aG (Q:=fun s=>eU.fin L aq an ao s0 out s) (fun _ _ ⟨h1,aD,aE,h2,h3⟩=>⟨h1,_,h2,aD,aE,rfl,h3⟩) ?_
 have H:_=some out:=H
 unfold eU.f at H
 show dy _ cf Ca m _ ⟨[.ptr aq 0,.any,.any],[],h⟩ _
 refine q1 <| qq ?_
 obtain⟨x0,e0,H⟩:=bj H
 obtain⟨aH,ck,h0,e1,o0⟩:=xd _ _ _ _ e0 h _ _ _ _ (o) 48 [] [] rfl (fun h' tH  r hr hx=>Qj  r hr h' tH hx) (fun h' K' o'=>iX (aw)) (fun h_=>iX (aw)) [.ptr aq 0,.fn 48 [],.agg [.int .i64 (0:Int),.int .i64 (0:Int),.str (Yv #[]),.nils]] (au (rfl) (au (rfl) (au (aP (oN (cN (bu) (cN (bu) (cN (lZ) (cN (sh (E:=af)) (oM))))))) (bN))))
 obtain rfl:=oi H
 exact qr [.a 2 e1] <| qt <| ⟨.inl rfl,⟨aH,ck,by kernel_rfl,he o0⟩⟩
end
end Go.Proofs.Ytifafejidnjckaa
namespace Go.Proofs.Ytifafejidnjckaa
open Go Go.R
open Go.IntKind (i64 u64 u8 u32)
def Cb:bY:=gK [0,1,3,4,5] [] [26,7] [] []
def eV.f (m:Nat)(s0:ab)(n0:Int):Option (Int × Int × ab):=(cm.f m s0 (dz.f m n0) (aj.mk (1:Int) n0 (Yv #[]) ([]))).bind fun x0=>some (x0.1,x0.2.1,x0.2.2)
def eV.fin (L:Mem)(aq:Nat)(an:Nat)(ao:Nat)(s0:ab)(n0:Int)(r:Int × Int × ab)(s:St):Prop:=∃aD aE:Nat,aM Try.prog (s.open Cb) Try.f29.results.toList=some (.tup [.int .i64 r.1,.int .i64 r.2.1])∧Has s.h ((aq,.ob [.bool r.2.2.ak,.rs aD 0 r.2.2.aa.length 4,.rs aE 0 r.2.2.ae.length 1])::(aD,.sl r.2.2.aa.length 4 (ai.l r.2.2.aa))::(aE,.sl r.2.2.ae.length 1 (af.l r.2.2.ae))::L)
def Th (cf:CallF)(m:Nat):Prop:=∀(s0:ab) (n0:Int) (r:Int × Int × ab),eV.f m s0 n0=some r→∀h L (aq:Nat) (an:Nat) (ao:Nat),Has h ((aq,.ob [.bool s0.ak,.rs an 0 s0.aa.length 4,.rs ao 0 s0.ae.length 1])::(an,.sl s0.aa.length 4 (ai.l s0.aa))::(ao,.sl s0.ae.length 1 (af.l s0.ae))::L)→∀xs,xs.map aO=[.ptr aq 0,.int .i64 n0]→∃aD aE h',cf 29 xs h=some (.tup [.int .i64 r.1,.int .i64 r.2.1],h')∧Has h' ((aq,.ob [.bool r.2.2.ak,.rs aD 0 r.2.2.aa.length 4,.rs aE 0 r.2.2.ae.length 1])::(aD,.sl r.2.2.aa.length 4 (ai.l r.2.2.aa))::(aE,.sl r.2.2.ae.length 1 (af.l r.2.2.ae))::L)
section
variable {cf:CallF}{m:Nat}
theorem nw {aW:FuncId→bY}(ha:aW 29=Cb)(xd:Ma cf m)(Qk:S4 cf m)(s0:ab)(n0:Int)(h:AHeap)(L:Mem)(aq:Nat)(an:Nat)(ao:Nat)  (o:Has h ((aq,.ob [.bool s0.ak,.rs an 0 s0.aa.length 4,.rs ao 0 s0.ae.length 1])::(an,.sl s0.aa.length 4 (ai.l s0.aa))::(ao,.sl s0.ae.length 1 (af.l s0.ae))::L)){out:Int × Int × ab}(H:eV.f m s0 n0=some out) :
  ∃r h',bb Try.prog aW cf m 29 [.ptr aq 0,.int .i64 n0] h=some (r,h')∧∃aD aE:Nat,r = .tup [.int .i64 out.1,.int .i64 out.2.1]∧Has h' ((aq,.ob [.bool out.2.2.ak,.rs aD 0 out.2.2.aa.length 4,.rs aE 0 out.2.2.ae.length 1])::(aD,.sl out.2.2.aa.length 4 (ai.l out.2.2.aa))::(aE,.sl out.2.2.ae.length 1 (af.l out.2.2.ae))::L):=by
 refine ar (fn:=Try.f29) ha Try.func29 (by kernel_rfl) (by kernel_rfl) ?_
 refine aG (Q:=fun s=>eV.fin L aq an ao s0 n0 out s) (fun _ _ ⟨h1,aD,aE,h2,h3⟩=>⟨h1,_,h2,aD,aE,rfl,h3⟩) ?_
 have H:_=some out:=H
 unfold eV.f at H
 show dy _ cf Cb m _ ⟨.ptr aq 0 :: .int .i64 n0::nS [],[],h⟩ _
 refine qq ?_
 obtain⟨aH,h0,e0,o0⟩:=gL (cs:=[.int .i64 n0]) o (by kernel_rfl)
 refine qr [.a 0 e0] <| qq ?_
 obtain⟨x0,e1,H⟩:=bj H
 obtain⟨ck,dX,h1,e2,o1⟩:=xd _ _ _ _ e1 h0 _ _ _ _ ((Has.front (Has.front (Has.front (Has.front o0 0 rfl) 3 rfl) 3 rfl) 3 rfl)) 51 [.ptr aH 0] [.fp [.int .i64 n0] 0] rfl (fun h' tH  r hr hx=>Qk _ r hr h' tH hx) (fun h' K' o'=>iX (ah (dV (q:=(K'.length+3)) o' (jH rfl) (ah (aT) (aw))) (aw))) (fun h_=>iX (ah (fh (pure_cons (gF) (pure_nil))) (aw))) [.ptr aq 0,.fn 51 [.ptr aH 0],.agg [.int .i64 (1:Int),.int .i64 n0,.str (Yv #[]),.nils]] (au (rfl) (au (rfl) (au (aP (oN (cN (bu) (cN (bu) (cN (lZ) (cN (sh (E:=af)) (oM))))))) (bN))))
 refine qr [.v 2 (show bC Try.prog h0 3 (.ptr aH 0)=some (.int .i64 n0) from cj (q:=0) (cs:=[.int .i64 n0]) o0 rfl (by kernel_rfl)),.a 4 e2] ?_
 have o2:Has h1 ((aq,.ob [.bool x0.2.2.ak,.rs ck 0 x0.2.2.aa.length 4,.rs dX 0 x0.2.2.ae.length 1])::(ck,.sl x0.2.2.aa.length 4 (ai.l x0.2.2.aa))::(dX,.sl x0.2.2.ae.length 1 (af.l x0.2.2.ae))::L):=Has.del o1 3
 obtain rfl:=oi H
 exact qt <| ⟨.inl rfl,⟨ck,dX,by kernel_rfl,he o2⟩⟩
end
end Go.Proofs.Ytifafejidnjckaa
namespace Go.Proofs.Ytifafejidnjckaa
open Go Go.R
open Go.IntKind (i64 u64 u8 u32)
def y6:bY:=gK [0,1,4,5,6,7,20,21,22,23] [4,5] [1016,1010,1010,562,50,514,562,562,1019] [] [(0,[(4,some 3,1)])]
def bg.l0 (m:Nat)(s0:ab)(x0:List Int):Nat→(List Int)→Int→Option ((List Int) × Int)
 | 0,_,_=>none
 | k+1,x1,x2=>if (decide (x2<(x0.length:Int)))=true then ((ix x1 x2).bind fun v1=>(be.f m s0 v1).bind fun x3=>(ix x1 x2).bind fun v2=>bg.l0 m s0 x0 k (x1.set x2.toNat x3) (i64.wrap (x2+(1:Int)))) else (some ((x1,x2)))
def bg.f (m:Nat)(s0:ab)(n0:Int):Option (aj):=(ix s0.aa n0).bind fun v0=>(FJ 1 v0.args).bind fun x0=>(bg.l0 m s0 x0 m x0 (0:Int)).bind fun bQ=>match bQ with | (x4,x5)=>some (aj.mk v0.kind v0.int v0.label x4)
def bg.fin (L:Mem)  (r:aj)(s:St):Prop:=∃dh:Nat,aM Try.prog (s.open y6) Try.f40.results.toList=some (.agg [.int .i64 r.kind,.int .i64 r.int,.str r.label,.rs dh 0 r.args.length 1])∧Has s.h ((dh,.sl r.args.length 1 (af.l r.args))::L)
def OC (cf:CallF)(m:Nat):Prop:=∀(s0:ab) (n0:Int) (r:aj),bg.f m s0 n0=some r→∀h L xs,Has h L→aQ bJ h xs [.fp [.bool s0.ak,ai.fz s0.aa,af.fz s0.ae] 0,.int .i64 n0]→∃dh h',cf 40 xs h=some (.agg [.int .i64 r.kind,.int .i64 r.int,.str r.label,.rs dh 0 r.args.length 1],h')∧Has h' ((dh,.sl r.args.length 1 (af.l r.args))::L)∧∀j,j<h.next→h.ver j=h'.ver j
section
variable {cf:CallF}{m:Nat}
theorem bg.cO (L:Mem)(s0:ab)(v0:aj)(x0:List Int)  (l9:Hz cf m):dF Try.prog cf y6 m (sub [1,1,1,0,1,0,0] (bW Try.f40)) (fun k (σ:(List Int) × Int)=>bg.l0 m s0 x0 k σ.1 σ.2) (fun σ s=>match σ with | (x1,x2)=>∃ck h1,s=⟨[.fp [.bool s0.ak,ai.fz s0.aa,af.fz s0.ae] 0,.any,.lp 4 0,.lp 5 0,.any,.any,.rs ck 0 x1.length 1,.int .i64 (x0.length:Int),.int .i64 x2,.any],[some [.int .i64 (0:Int),.int .i64 (0:Int),.str (Yv #[]),.rs (0) 0 (([]:List Int).length) 1],some [.int .i64 v0.kind,.int .i64 v0.int,.str v0.label,.rs ck 0 x1.length 1]],h1⟩∧Has h1 ((ck,.sl x1.length 1 (af.l x1))::((0),.sl (([]:List Int).length) 1 (af.l ([]:List Int)))::L)) (fun out e s=>(e = .exit 0∧∃x1 x2,(x1,x2)=out∧∃nr KO KP AN F4 ck h1,s=⟨[nr,.any,.lp 4 0,.lp 5 0,.any,.any,KO,KP,AN,F4],[some [.int .i64 (0:Int),.int .i64 (0:Int),.str (Yv #[]),.rs (0) 0 (([]:List Int).length) 1],some [.int .i64 v0.kind,.int .i64 v0.int,.str v0.label,.rs ck 0 x1.length 1]],h1⟩∧Has h1 ((ck,.sl x1.length 1 (af.l x1))::((0),.sl (([]:List Int).length) 1 (af.l ([]:List Int)))::L))):=by
 refine k8 (fun _=>rfl) ?_
 rintro k ⟨x1,x2⟩ s out ⟨ck,h1,rfl,o2⟩ H
 have H:bg.l0 m s0 x0 (k+1) x1 x2=some out:=H
 refine q1 <| qq <| qc H (fun c0 H=>?_) (fun c0 H=>?_)
 ·refine qk <| qq <| qb 1 <| qq ?_
  obtain⟨v1,e3,H⟩:=bj H
  refine qr [.v 1 (bm (k:=.i64) (E:=af) (l:=x1) (q:=0) gg o2 rfl e3),.v 2 (cM  (E:=af) (l:=x1) (q:=0) o2 rfl A3 e3 rfl)] ?_
  obtain⟨x3,e4,H⟩:=bj H
  obtain⟨v2,e5,H⟩:=bj H
  obtain⟨h2,e6,o3⟩:=fG (P:=Try.prog) (tf:=3) (E:=af) (l:=x1) (q:=0) (v:=x3) (x:=.int .i64 x3) o2 rfl Z3 e5 rfl rfl
  exact qr [.a 5 (l9 _ _ _ e4 h1 _ (fq (ah (fh (pure_cons (cp) (pure_cons (bK.bo (E:=ai) (l:=s0.aa)) (pure_cons (bK.bo (E:=af) (l:=s0.ae)) (pure_nil))))) (ah (aT) (aw))))),.v 6 (bm (k:=.i64) (E:=af) (l:=x1) (q:=0) gg o2 rfl e5),.w 7 e6] <| q0 <| ⟨(x1.set x2.toNat x3,i64.wrap (x2+(1:Int))),⟨ck,h2,(YY (b:=⟨[.fp [.bool s0.ak,ai.fz s0.aa,af.fz s0.ae] 0,.any,.lp 4 0,.lp 5 0,.any,.any,.rs ck 0 x1.length 1,.int .i64 (x0.length:Int),.int .i64 (i64.wrap (x2+(1:Int))),.any],[some [.int .i64 (0:Int),.int .i64 (0:Int),.str (Yv #[]),.rs (0) 0 (([]:List Int).length) 1],some [.int .i64 v0.kind,.int .i64 v0.int,.str v0.label,.rs ck 0 x1.length 1]],h2⟩) (by kernel_rfl) (by simp only [XV])),(by have o:Has h2 ((ck,.sl x1.length 1 (af.l (x1.set x2.toNat x3)))::((0),.sl (([]:List Int).length) 1 (af.l ([]:List Int)))::L):=o3; simpa only [XV] using o)⟩,H⟩
 ·exact qx 0 <| ⟨rfl,x1,x2,oi H,.fp [.bool s0.ak,ai.fz s0.aa,af.fz s0.ae] 0,.rs ck 0 x1.length 1,.int .i64 (x0.length:Int),.int .i64 x2,.bool (decide (x2<(x0.length:Int))),ck,h1,by kernel_rfl,o2⟩
theorem mf {aW:FuncId→bY}(ha:aW 40=y6)(Ga:PZ cf m)(l9:Hz cf m)(s0:ab)(n0:Int)(h:AHeap)(L:Mem)  (o:Has h (L)){out:aj}(H:bg.f m s0 n0=some out) :
  ∃r h',bb Try.prog aW cf m 40 [.fp [.bool s0.ak,ai.fz s0.aa,af.fz s0.ae] 0,.int .i64 n0] h=some (r,h')∧∃dh:Nat,r = .agg [.int .i64 out.kind,.int .i64 out.int,.str out.label,.rs dh 0 out.args.length 1]∧Has h' ((dh,.sl out.args.length 1 (af.l out.args))::L):=by
 refine ar (fn:=Try.f40) ha Try.func40 (by kernel_rfl) (by kernel_rfl) ?_
 refine aG (Q:=fun s=>bg.fin L out s) (fun _ _ ⟨h1,dh,h2,h3⟩=>⟨h1,_,h2,dh,rfl,h3⟩) ?_
 have H:_=some out:=H
 unfold bg.f at H
 show dy _ cf y6 m _ ⟨.fp [.bool s0.ak,ai.fz s0.aa,af.fz s0.ae] 0 :: .int .i64 n0::vj [],[none,none],h⟩ _
 refine q1 ?_
 have o0:Has h (((0),.sl (([]:List Int).length) 1 (af.l ([]:List Int)))::L):=Has.nil o 1
 refine qq ?_
 obtain⟨v0,e0,H⟩:=bj H
 refine qr [.v 5 (fe (k:=.i64) (E:=ai) (l:=s0.aa) uK e0),.v 6 (kj  (E:=ai) (l:=s0.aa) h DX DY e0)] <| qq ?_
 obtain⟨x0,e1,H⟩:=bj H
 obtain⟨aH,h0,e2,o1⟩:=Jw (E:=af) (l:=v0.args) Ga o0 e1
 refine qr [.a 2 e2] <| qq <| qq <| q0 <| qb 0 ?_
 obtain⟨bQ,e7,H⟩:=bj H
 refine ql (bg.cO L s0 v0 x0  l9 (x0,(0:Int)) _ _ ⟨aH,h0,by kernel_rfl,o1⟩ e7) ?_
 rintro e s ⟨rfl,x4,x5,rfl,g0,g1,g2,g3,g4,dX,h3,rfl,o4⟩
 try dsimp only at H
 refine q1 ?_
 have o5:Has h3 ((dX,.sl x4.length 1 (af.l x4))::L):=Has.del o4 1
 obtain rfl:=oi H
 exact qt <| ⟨.inl rfl,⟨dX,by kernel_rfl,he o5⟩⟩
end
end Go.Proofs.Ytifafejidnjckaa
namespace Go.Proofs.Ytifafejidnjckaa
open Go Go.R
open Go.IntKind (i64 u64 u8 u32)
def Cc:bY:=gK [0,1,4] [] [4,3] [] []
def eW.f (m:Nat)(s0:List Int)(f0:Int→Option (Bool)):Option (Bool):=(cY.f m s0 f0).bind fun x0=>some (decide (x0≥(0:Int)))
def eW.fin (L:Mem)(r:Bool)(s:St):Prop:=∃av,aM Try.prog (s.open Cc) Try.f52.results.toList=some av∧fj s.h av (.bool r)
def OD (cf:CallF)(m:Nat):Prop:=∀(s0:List Int) (f0:Int→Option (Bool)) (r:Bool),eW.f m s0 f0=some r→∀(fk:FuncId) (aV:List AV),(∀(h:AHeap) (xs:List AV) (a0:Int) r,f0 a0=some r→aQ bJ h xs ([.int .i64 a0]++aV)→cf fk xs h=some (.bool r,h))→(∀h,aQ cz h aV aV)→∀h xs,aQ bJ h xs [af.fz s0,.fn fk aV]→cf 52 xs h=some (.bool r,h)
section
variable {cf:CallF}{m:Nat}
theorem rR {aW:FuncId→bY}(ha:aW 52=Cc)(KQ:Qf cf m)(s0:List Int)(f0:Int→Option (Bool))(h:AHeap)(L:Mem)(fk:FuncId)(aV:List AV)  (hZ:∀(h:AHeap) (xs:List AV) (a0:Int) r,f0 a0=some r→aQ bJ h xs ([.int .i64 a0]++aV)→cf fk xs h=some (.bool r,h))(ia:∀h,aQ cz h aV aV)(o:Has h (L)){out:Bool}(H:eW.f m s0 f0=some out) :
  ∃r h',bb Try.prog aW cf m 52 [af.fz s0,.fn fk aV] h=some (r,h')∧fj h' r (.bool out):=by
 refine ar (fn:=Try.f52) ha Try.func52 (by kernel_rfl) (by kernel_rfl) ?_
 refine aG (Q:=fun s=>eW.fin L out s) (fun _ _ h=>h) ?_
 have H:_=some out:=H
 unfold eW.f at H
 show dy _ cf Cc m _ ⟨[af.fz s0,.fn fk aV,.any],[],h⟩ _
 refine q1 <| qq ?_
 obtain⟨x0,e0,H⟩:=bj H
 obtain rfl:=oi H
 exact qr [.a 2 (KQ _ _ _ e0 fk aV hZ ia h _ (fq (ah (dW (E:=af)) (ah (rq (ia h)) (aw)))))] <| qt <| ⟨.inl rfl,cX (.bool (decide (x0≥(0:Int)))) h (cV (aA))⟩
end
end Go.Proofs.Ytifafejidnjckaa
namespace Go.Proofs.Ytifafejidnjckaa
open Go Go.R
open Go.IntKind (i64 u64 u8 u32)
def Cd:bY:=gK [0,1,3] [] [4,3] [] []
def dt.f (m:Nat)(n0:Int)(x0:ab):Option (Bool):=(cP.f m x0 n0).bind fun x1=>some (!x1)
def dt.fin (L:Mem)(r:Bool)(s:St):Prop:=∃av,aM Try.prog (s.open Cd) Try.f53.results.toList=some av∧fj s.h av (.bool r)
def Tk (cf:CallF)(m:Nat):Prop:=∀(n0:Int) (x0:ab) (r:Bool),dt.f m n0 x0=some r→∀h xs,aQ bJ h xs [.int .i64 n0,.fp [.fp [.bool x0.ak,ai.fz x0.aa,af.fz x0.ae] 0] 0]→cf 53 xs h=some (.bool r,h)
section
variable {cf:CallF}{m:Nat}
theorem kT {aW:FuncId→bY}(ha:aW 53=Cd)(KG:P6 cf m)(n0:Int)(x0:ab)(h:AHeap)(L:Mem)  (o:Has h (L)){out:Bool}(H:dt.f m n0 x0=some out) :
  ∃r h',bb Try.prog aW cf m 53 [.int .i64 n0,.fp [.fp [.bool x0.ak,ai.fz x0.aa,af.fz x0.ae] 0] 0] h=some (r,h')∧fj h' r (.bool out):=by
 refine ar (fn:=Try.f53) ha Try.func53 (by kernel_rfl) (by kernel_rfl) ?_
 refine aG (Q:=fun s=>dt.fin L out s) (fun _ _ h=>h) ?_
 have H:_=some out:=H
 unfold dt.f at H
 show dy _ cf Cd m _ ⟨[.int .i64 n0,.fp [.fp [.bool x0.ak,ai.fz x0.aa,af.fz x0.ae] 0] 0,.any],[],h⟩ _
 refine q1 <| qq ?_
 obtain⟨x1,e0,H⟩:=bj H
 obtain rfl:=oi H
 exact qr [.a 2 (KG _ _ _ e0 h _ (fq (ah (fh (pure_cons (cp) (pure_cons (bK.bo (E:=ai) (l:=x0.aa)) (pure_cons (bK.bo (E:=af) (l:=x0.ae)) (pure_nil))))) (ah (aT) (aw)))))] <| qt <| ⟨.inl rfl,cX (.bool (!x1)) h (cV (aA))⟩
end
end Go.Proofs.Ytifafejidnjckaa
namespace Go.Proofs.Ytifafejidnjckaa
open Go Go.R
open Go.IntKind (i64 u64 u8 u32)
def Ce:bY:=gK [0,1,2,6,13,16,21] [] [120,104,88,120,56,120,125,119] [] []
def cJ.f (m:Nat)(s0:ab)(a0:Int)(b0:Int):Option (Int × ab):=jn (fun (σ:Int × Int)=>match σ with | (a1,b1)=>(ix s0.ae a1).bind fun v0=>some (a1,(ab.mk s0.ak s0.aa (s0.ae.set a1.toNat b1)))) fun zM=>((cr.f m s0 a0).bind fun x0=>(cr.f m s0 b0).bind fun x1=>if (!(x0==x1))=true then ((cr.f m s0 b0).bind fun x2=>if x2=true then (zM (b0,a0)) else (zM (a0,b0))) else (if (decide (a0<b0))=true then (zM (b0,a0)) else (zM (a0,b0))))
def cJ.fin (L:Mem)(aq:Nat)(an:Nat)(ao:Nat)(s0:ab)(a0:Int)(b0:Int)(r:Int × ab)(s:St):Prop:=∃aD aE:Nat,aM Try.prog (s.open Ce) Try.f56.results.toList=some (.int .i64 r.1)∧Has s.h ((aq,.ob [.bool r.2.ak,.rs aD 0 r.2.aa.length 4,.rs aE 0 r.2.ae.length 1])::(aD,.sl r.2.aa.length 4 (ai.l r.2.aa))::(aE,.sl r.2.ae.length 1 (af.l r.2.ae))::L)
def Ql (cf:CallF)(m:Nat):Prop:=∀(s0:ab) (a0:Int) (b0:Int) (r:Int × ab),cJ.f m s0 a0 b0=some r→∀h L (aq:Nat) (an:Nat) (ao:Nat),Has h ((aq,.ob [.bool s0.ak,.rs an 0 s0.aa.length 4,.rs ao 0 s0.ae.length 1])::(an,.sl s0.aa.length 4 (ai.l s0.aa))::(ao,.sl s0.ae.length 1 (af.l s0.ae))::L)→∀xs,xs.map aO=[.ptr aq 0,.int .i64 a0,.int .i64 b0]→∃aD aE h',cf 56 xs h=some (.int .i64 r.1,h')∧Has h' ((aq,.ob [.bool r.2.ak,.rs aD 0 r.2.aa.length 4,.rs aE 0 r.2.ae.length 1])::(aD,.sl r.2.aa.length 4 (ai.l r.2.aa))::(aE,.sl r.2.ae.length 1 (af.l r.2.ae))::L)
section
variable {cf:CallF}{m:Nat}
theorem mL {aW:FuncId→bY}(ha:aW 56=Ce)(Gb:P8 cf m)(s0:ab)(a0:Int)(b0:Int)(h:AHeap)(L:Mem)(aq:Nat)(an:Nat)(ao:Nat)  (o:Has h ((aq,.ob [.bool s0.ak,.rs an 0 s0.aa.length 4,.rs ao 0 s0.ae.length 1])::(an,.sl s0.aa.length 4 (ai.l s0.aa))::(ao,.sl s0.ae.length 1 (af.l s0.ae))::L)){out:Int × ab}(H:cJ.f m s0 a0 b0=some out) :
  ∃r h',bb Try.prog aW cf m 56 [.ptr aq 0,.int .i64 a0,.int .i64 b0] h=some (r,h')∧∃aD aE:Nat,r = .int .i64 out.1∧Has h' ((aq,.ob [.bool out.2.ak,.rs aD 0 out.2.aa.length 4,.rs aE 0 out.2.ae.length 1])::(aD,.sl out.2.aa.length 4 (ai.l out.2.aa))::(aE,.sl out.2.ae.length 1 (af.l out.2.ae))::L):=by
 refine ar (fn:=Try.f56) ha Try.func56 (by kernel_rfl) (by kernel_rfl) ?_
 refine aG (Q:=fun s=>cJ.fin L aq an ao s0 a0 b0 out s) (fun _ _ ⟨h1,aD,aE,h2,h3⟩=>⟨h1,_,h2,aD,aE,rfl,h3⟩) ?_
 have H:_=some out:=H
 unfold cJ.f at H
 show dy _ cf Ce m _ ⟨.ptr aq 0 :: .int .i64 a0 :: .int .i64 b0::nZ [],[],h⟩ _
 refine q1 ?_
 obtain⟨zM,Jx,H⟩:=pF H
 refine qj (S:=fun (σ:Int × Int) s=>match σ with | (a1,b1)=>∃(g0:AV) (g1:AV) (h0:AHeap),s=⟨[.ptr aq 0,.int .i64 a1,.int .i64 b1,.any,.any,g0,g1],[],h0⟩∧Has h0 ((aq,.ob [.bool s0.ak,.rs an 0 s0.aa.length 4,.rs ao 0 s0.ae.length 1])::(an,.sl s0.aa.length 4 (ai.l s0.aa))::(ao,.sl s0.ae.length 1 (af.l s0.ae))::L)) zM H ?_ ?_
 ·rintro⟨a1,b1⟩ s ⟨g0,g1,h0,rfl,o0⟩ H
  have H:=(Jx _).symm.trans H
  try dsimp only at H
  refine qq ?_
  obtain⟨v0,e3,H⟩:=bj H
  obtain⟨h1,e4,o1⟩:=fG (P:=Try.prog) (tf:=3) (E:=af) (l:=s0.ae) (q:=2) (v:=b1) (x:=.int .i64 b1) o0 rfl Z3 e3 rfl rfl
  obtain rfl:=oi H
  exact qr [.v 3 (show bC Try.prog h0 33 (.ptr aq 2)=some (.rs ao 0 s0.ae.length 1) from cj (q:=0) (cs:=[.bool s0.ak,.rs an 0 s0.aa.length 4,.rs ao 0 s0.ae.length 1]) o0 rfl (by kernel_rfl)),.v 6 (bm (k:=.i64) (E:=af) (l:=s0.ae) (q:=2) gg o0 rfl e3),.w 7 e4] <| qq <| q0 <| qt <| ⟨.inl rfl,⟨an,ao,by kernel_rfl,he (by have o:Has h1 ((aq,.ob [.bool s0.ak,.rs an 0 s0.aa.length 4,.rs ao 0 s0.ae.length 1])::(an,.sl s0.aa.length 4 (ai.l s0.aa))::(ao,.sl s0.ae.length 1 (af.l (s0.ae.set a1.toNat b1)))::L):=o1; simpa only [XV] using o)⟩⟩
 clear Jx
 intro uM
 refine qq ?_
 obtain⟨x0,e0,H⟩:=bj H
 obtain⟨x1,e1,H⟩:=bj H
 refine qr [.a 2 (Gb _ _ _ e0 h _ (fq (ah (dV (q:=0) o rfl (ah (fB) (ah (dK (E:=ai) (l:=s0.aa) (q:=1) o rfl (fun _=>rfl)) (ah (dK (E:=af) (l:=s0.ae) (q:=2) o rfl (fun _=>rfl)) (aw))))) (ah (aT) (aw))))),.a 5 (Gb _ _ _ e1 h _ (fq (ah (dV (q:=0) o rfl (ah (fB) (ah (dK (E:=ai) (l:=s0.aa) (q:=1) o rfl (fun _=>rfl)) (ah (dK (E:=af) (l:=s0.ae) (q:=2) o rfl (fun _=>rfl)) (aw))))) (ah (aT) (aw)))))] <| qc H (fun c0 H=>?_) (fun c0 H=>?_)
 ·refine qq ?_
  obtain⟨x2,e2,H⟩:=bj H
  refine qr [.a 2 (Gb _ _ _ e2 h _ (fq (ah (dV (q:=0) o rfl (ah (fB) (ah (dK (E:=ai) (l:=s0.aa) (q:=1) o rfl (fun _=>rfl)) (ah (dK (E:=af) (l:=s0.ae) (q:=2) o rfl (fun _=>rfl)) (aw))))) (ah (aT) (aw)))))] <| qc H (fun c1 H=>?_) (fun c1 H=>?_)
  ·exact q0 <| uM (b0,a0) _ ⟨.any,.any,h,by kernel_rfl,o⟩ H
  ·exact qk <| uM (a0,b0) _ ⟨.bool x2,.any,h,by kernel_rfl,o⟩ H
 ·refine q1 <| qc H (fun c2 H=>?_) (fun c2 H=>?_)
  ·exact q0 <| uM (b0,a0) _ ⟨.any,.any,h,by kernel_rfl,o⟩ H
  ·exact qk <| uM (a0,b0) _ ⟨.any,.bool (decide (a0<b0)),h,by kernel_rfl,o⟩ H
end
end Go.Proofs.Ytifafejidnjckaa
namespace Go.Proofs.Ytifafejidnjckaa
open Go Go.R
open Go.IntKind (i64 u64 u8 u32)
def y7:bY:=gK [0,1,4,5,6,7,12,19,29] [] [508,500,436,507,484,356,484,452,196,484,484,502,507] [] []
def ez.l0 (m:Nat)(s0:List Int)(kU:Int→Option (Bool)):Nat→(List Int)→Int→Int→Option ((List Int) × Int × Int)
 | 0,_,_,_=>none
 | k+1,s1,i0,j0=>if (decide (j0<(s0.length:Int)))=true then ((ix s1 j0).bind fun v0=>(kU v0).bind fun r0=>if (!r0)=true then ((ix s1 i0).bind fun v1=>ez.l0 m s0 kU k (s1.set i0.toNat v0) (i64.wrap (i0+(1:Int))) (i64.wrap (j0+(1:Int)))) else (ez.l0 m s0 kU k s1 i0 (i64.wrap (j0+(1:Int))))) else (some ((s1,i0,j0)))
def ez.f (m:Nat)(s0:List Int)(kU:Int→Option (Bool)):Option ((List Int)):=(cY.f m s0 kU).bind fun x0=>if (x0==(-1:Int))=true then (some s0) else ((ez.l0 m s0 kU m s0 x0 (i64.wrap (x0+(1:Int)))).bind fun bQ=>match bQ with | (s2,i1,j1)=>(L9 s2 i1).bind fun v2=>(Ju v2 0 i1).bind fun v3=>some v3)
def ez.fin (L:Mem)(aH:Nat)(s0:List Int)(kU:Int→Option (Bool))(r:(List Int))(s:St):Prop:=aM Try.prog (s.open y7) Try.f57.results.toList=some (.rs aH 0 r.length 1)∧Has s.h ((aH,.sl r.length 1 (af.l r))::L)
def Tl (cf:CallF)(m:Nat):Prop:=∀(s0:List Int) (kU:Int→Option (Bool)) (r:(List Int)),ez.f m s0 kU=some r→∀h L (Iy:Nat) (aH:Nat),Has h ((aH,.sl Iy 1 (af.l s0))::L)→∀(fk:FuncId) (aV cb:List AV),(aO (.fn fk aV) = .fn fk aV)→(∀(h:AHeap) (xs:List AV) (a0:Int) r,kU a0=some r→aQ bJ h xs ([.int .i64 a0]++cb)→cf fk xs h=some (.bool r,h))→(∀h K,Has h (K++(L))→aQ cz h aV cb)→(∀h,aQ cz h cb cb)→∀xs,xs.map aO=[.rs aH 0 Iy 1,.fn fk aV]→∃h',cf 57 xs h=some (.rs aH 0 r.length 1,h')∧Has h' ((aH,.sl r.length 1 (af.l r))::L)
section
variable {cf:CallF}{m:Nat}
theorem ez.cO (L:Mem)(aH:Nat)(fk:FuncId)(aV cb:List AV)(s0:List Int)(kU:Int→Option (Bool))  (rN:aO (.fn fk aV) = .fn fk aV)(hZ:∀(h:AHeap) (xs:List AV) (a0:Int) r,kU a0=some r→aQ bJ h xs ([.int .i64 a0]++cb)→cf fk xs h=some (.bool r,h))(pJ:∀h K,Has h (K++(L))→aQ cz h aV cb)(ia:∀h,aQ cz h cb cb)  : dF Try.prog cf y7 m (sub [1,1,1,0,1,0,0] (bW Try.f57)) (fun k (σ:(List Int) × Int × Int)=>ez.l0 m s0 kU k σ.1 σ.2.1 σ.2.2) (fun σ s=>match σ with | (s1,i0,j0)=>∃h0,s=⟨.rs aH 0 s0.length 1 :: .fn fk aV :: .any :: .int .i64 i0 :: .int .i64 j0::nZ [],[],h0⟩∧Has h0 ((aH,.sl s0.length 1 (af.l s1))::L)) (fun out e s=>(e = .exit 0∧∃s1 i0 j0,(s1,i0,j0)=out∧∃w6 FY KR h0,s=⟨[.rs aH 0 s0.length 1,w6,.any,.int .i64 i0,FY,.any,.any,KR,.any],[],h0⟩∧Has h0 ((aH,.sl s0.length 1 (af.l s1))::L))):=by
 refine k8 (fun _=>rfl) ?_
 rintro k ⟨s1,i0,j0⟩ s out ⟨h0,rfl,o0⟩ H
 have H:ez.l0 m s0 kU (k+1) s1 i0 j0=some out:=H
 refine qq <| qq <| q0 <| qc H (fun c1 H=>?_) (fun c1 H=>?_)
 ·refine qk <| qq <| qb 1 <| qq ?_
  obtain⟨v0,e1,H⟩:=bj H
  refine qr [.v 2 (bm (k:=.i64) (E:=af) (l:=s1) (q:=0) gg o0 rfl e1),.v 3 (cM  (E:=af) (l:=s1) (q:=0) o0 rfl A3 e1 rfl)] <| qq ?_
  obtain⟨r0,e2,H⟩:=bj H
  refine qr [.a 2 (hZ _ _ _ _ e2 (Ir (ah (aT) (aw)) (pJ h0 [(aH,.sl s0.length 1 (af.l s1))] o0)))] <| qc H (fun c2 H=>?_) (fun c2 H=>?_)
  ·refine qq ?_
   obtain⟨v1,e3,H⟩:=bj H
   obtain⟨h1,e4,o1⟩:=fG (P:=Try.prog) (tf:=3) (E:=af) (l:=s1) (q:=0) (v:=v0) (x:=.int .i64 v0) o0 rfl Z3 e3 rfl rfl
   exact qr [.v 3 (bm (k:=.i64) (E:=af) (l:=s1) (q:=0) gg o0 rfl e3),.w 4 e4] <| q0 <| q0 <| ⟨(s1.set i0.toNat v0,i64.wrap (i0+(1:Int)),i64.wrap (j0+(1:Int))),⟨h1,by kernel_rfl,o1⟩,H⟩
  ·exact qk <| q0 <| ⟨(s1,i0,i64.wrap (j0+(1:Int))),⟨h0,by kernel_rfl,o0⟩,H⟩
 ·exact qx 0 <| ⟨rfl,s1,i0,j0,oi H,.fn fk aV,.int .i64 j0,.bool (decide (j0<(s0.length:Int))),h0,by kernel_rfl,o0⟩
theorem uN {aW:FuncId→bY}(ha:aW 57=y7)(KQ:Qf cf m)(s0:List Int)(kU:Int→Option (Bool))(h:AHeap)(L:Mem)(aH:Nat)(fk:FuncId)(aV cb:List AV)  (rN:aO (.fn fk aV) = .fn fk aV)(hZ:∀(h:AHeap) (xs:List AV) (a0:Int) r,kU a0=some r→aQ bJ h xs ([.int .i64 a0]++cb)→cf fk xs h=some (.bool r,h))(pJ:∀h K,Has h (K++(L))→aQ cz h aV cb)(ia:∀h,aQ cz h cb cb)(o:Has h ((aH,.sl s0.length 1 (af.l s0))::L)){out:(List Int)}(H:ez.f m s0 kU=some out) :
  ∃r h',bb Try.prog aW cf m 57 [.rs aH 0 s0.length 1,.fn fk aV] h=some (r,h')∧r = .rs aH 0 out.length 1∧Has h' ((aH,.sl out.length 1 (af.l out))::L):=by
 refine ar (fn:=Try.f57) ha Try.func57 (by kernel_rfl) (by kernel_rfl) ?_
 refine aG (Q:=fun s=>ez.fin L aH s0 kU out s) (fun _ _ ⟨h1,h2,h3⟩=>⟨h1,_,h2,rfl,h3⟩) ?_
 have H:_=some out:=H
 unfold ez.f at H
 show dy _ cf y7 m _ ⟨.rs aH 0 s0.length 1 :: .fn fk aV::FE [],[],h⟩ _
 refine q1 <| qq ?_
 obtain⟨x0,e0,H⟩:=bj H
 refine qr [.a 2 (KQ _ _ _ e0 fk cb hZ ia h _ (fq (ah (dK (E:=af) (l:=s0) (q:=0) o rfl (fun _=>rfl)) (ah (rq (pJ h [(aH,.sl s0.length 1 (af.l s0))] o)) (aw)))))] <| qq <| qq <| q0 <| qc H (fun c0 H=>?_) (fun c0 H=>?_)
 ·obtain rfl:=oi H
  exact q1 <| qt <| ⟨.inl rfl,⟨by kernel_rfl,he o⟩⟩
 ·refine qk <| qq <| qq <| q0 <| qb 0 ?_
  obtain⟨bQ,e5,H⟩:=bj H
  refine ql (ez.cO L aH fk aV cb s0 kU  rN hZ pJ ia  (s0,x0,i64.wrap (x0+(1:Int))) _ _ ⟨h,by kernel_rfl,o⟩ e5) ?_
  rintro e s ⟨rfl,s2,i1,j1,rfl,g0,g1,g2,h2,rfl,o2⟩
  try dsimp only at H
  refine qq ?_
  obtain⟨v2,e6,H⟩:=bj H
  obtain⟨h3,e7,o3⟩:=KC (q:=0) (l:=s2) PX o2 rfl e6
  refine qr [.v 2 (KB (E:=af) (k:=.i64) (q:=0) (l:=s2) gg o2 rfl (tA e6).1 (tA e6).2.1),.a 3 e7] <| qq ?_
  obtain⟨v3,e8,H⟩:=bj H
  obtain⟨Qm,o4⟩:=Kk (P:=Try.prog) (k:=.i64) (E:=af) (q:=0) o3 rfl gg e8
  obtain rfl:=oi H
  exact qr [.v 2 Qm] <| qt <| ⟨.inl rfl,⟨by kernel_rfl,he o4⟩⟩
end
end Go.Proofs.Ytifafejidnjckaa
namespace Go.Proofs.Ytifafejidnjckaa
open Go Go.R
open Go.IntKind (i64 u64 u8 u32)
def Cf:bY:=gK [0,1,3] [] [4,3] [] []
def du.f (m:Nat)(n0:Int)(x0:ab):Option (Bool):=(cr.f m x0 n0).bind fun x1=>some (!x1)
def du.fin (L:Mem)(r:Bool)(s:St):Prop:=∃av,aM Try.prog (s.open Cf) Try.f58.results.toList=some av∧fj s.h av (.bool r)
def Tm (cf:CallF)(m:Nat):Prop:=∀(n0:Int) (x0:ab) (r:Bool),du.f m n0 x0=some r→∀h xs,aQ bJ h xs [.int .i64 n0,.fp [.fp [.bool x0.ak,ai.fz x0.aa,af.fz x0.ae] 0] 0]→cf 58 xs h=some (.bool r,h)
section
variable {cf:CallF}{m:Nat}
theorem kV {aW:FuncId→bY}(ha:aW 58=Cf)(Gb:P8 cf m)(n0:Int)(x0:ab)(h:AHeap)(L:Mem)  (o:Has h (L)){out:Bool}(H:du.f m n0 x0=some out) :
  ∃r h',bb Try.prog aW cf m 58 [.int .i64 n0,.fp [.fp [.bool x0.ak,ai.fz x0.aa,af.fz x0.ae] 0] 0] h=some (r,h')∧fj h' r (.bool out):=by
 refine ar (fn:=Try.f58) ha Try.func58 (by kernel_rfl) (by kernel_rfl) ?_
 refine aG (Q:=fun s=>du.fin L out s) (fun _ _ h=>h) ?_
 have H:_=some out:=H
 unfold du.f at H
 show dy _ cf Cf m _ ⟨[.int .i64 n0,.fp [.fp [.bool x0.ak,ai.fz x0.aa,af.fz x0.ae] 0] 0,.any],[],h⟩ _
 refine q1 <| qq ?_
 obtain⟨x1,e0,H⟩:=bj H
 obtain rfl:=oi H
 exact qr [.a 2 (Gb _ _ _ e0 h _ (fq (ah (fh (pure_cons (cp) (pure_cons (bK.bo (E:=ai) (l:=x0.aa)) (pure_cons (bK.bo (E:=af) (l:=x0.ae)) (pure_nil))))) (ah (aT) (aw)))))] <| qt <| ⟨.inl rfl,cX (.bool (!x1)) h (cV (aA))⟩
end
end Go.Proofs.Ytifafejidnjckaa
namespace Go.Proofs.Ytifafejidnjckaa
open Go Go.R
open Go.IntKind (i64 u64 u8 u32)
def Cg:bY:=gK [0,1,2] [] [4,3] [] []
def de.f (m:Nat)(x0:ByteArray)(x1:Int):Option (Bool):=(gw.f m x0).bind fun x2=>if x2=true then (some (decide (x1≥(0:Int)))) else (some false)
def de.fin (L:Mem)(r:Bool)(s:St):Prop:=∃av,aM Try.prog (s.open Cg) Try.f63.results.toList=some av∧fj s.h av (.bool r)
def Tn (cf:CallF)(m:Nat):Prop:=∀(x0:ByteArray) (x1:Int) (r:Bool),de.f m x0 x1=some r→∀h xs,aQ bJ h xs [.fp [.str x0] 0,.fp [.int .i64 x1] 0]→cf 63 xs h=some (.bool r,h)
section
variable {cf:CallF}{m:Nat}
theorem lB {aW:FuncId→bY}(ha:aW 63=Cg)(Gc:P9 cf m)(x0:ByteArray)(x1:Int)(h:AHeap)(L:Mem)  (o:Has h (L)){out:Bool}(H:de.f m x0 x1=some out) :
  ∃r h',bb Try.prog aW cf m 63 [.fp [.str x0] 0,.fp [.int .i64 x1] 0] h=some (r,h')∧fj h' r (.bool out):=by
 refine ar (fn:=Try.f63) ha Try.func63 (by kernel_rfl) (by kernel_rfl) ?_
 refine aG (Q:=fun s=>de.fin L out s) (fun _ _ h=>h) ?_
 have H:_=some out:=H
 unfold de.f at H
 show dy _ cf Cg m _ ⟨[.fp [.str x0] 0,.fp [.int .i64 x1] 0,.any],[],h⟩ _
 refine q1 <| qq ?_
 obtain⟨x2,e0,H⟩:=bj H
 rcases ig H with⟨c0,H⟩| ⟨c0,H⟩
 ·obtain rfl:=oi H
  exact qr [.a 1 (Gc _ _ e0 h _ (fq (ah (cq) (aw)))),.b 2 c0] <| qt <| ⟨.inl rfl,cX (.bool (decide (x1≥(0:Int)))) h (cV (aA))⟩
 ·obtain rfl:=oi H
  exact qr [.a 1 (Gc _ _ e0 h _ (fq (ah (cq) (aw)))),.b 2 c0] <| qt <| ⟨.inl rfl,cX (.bool false) h (cV (aA))⟩
end
end Go.Proofs.Ytifafejidnjckaa
namespace Go.Proofs.Ytifafejidnjckaa
open Go Go.R
open Go.IntKind (i64 u64 u8 u32)
def Ch:bY:=gK [0,1,4] [] [4,3] [] []
def gW.f (m:Nat)(s0:List aj)(f0:aj→Option (Bool)):Option (Bool):=(fC.f m s0 f0).bind fun x0=>some (decide (x0≥(0:Int)))
def gW.fin (L:Mem)(r:Bool)(s:St):Prop:=∃av,aM Try.prog (s.open Ch) Try.f65.results.toList=some av∧fj s.h av (.bool r)
def To (cf:CallF)(m:Nat):Prop:=∀(s0:List aj) (f0:aj→Option (Bool)) (r:Bool),gW.f m s0 f0=some r→∀(fk:FuncId) (aV:List AV),(∀(h:AHeap) (xs:List AV) (a0:aj) r,f0 a0=some r→aQ bJ h xs ([.agg [.int .i64 a0.kind,.int .i64 a0.int,.str a0.label,af.fz a0.args]]++aV)→cf fk xs h=some (.bool r,h))→(∀h,aQ cz h aV aV)→∀h xs,aQ bJ h xs [ai.fz s0,.fn fk aV]→cf 65 xs h=some (.bool r,h)
section
variable {cf:CallF}{m:Nat}
theorem rS {aW:FuncId→bY}(ha:aW 65=Ch)(Qn:Tb cf m)(s0:List aj)(f0:aj→Option (Bool))(h:AHeap)(L:Mem)(fk:FuncId)(aV:List AV)  (hZ:∀(h:AHeap) (xs:List AV) (a0:aj) r,f0 a0=some r→aQ bJ h xs ([.agg [.int .i64 a0.kind,.int .i64 a0.int,.str a0.label,af.fz a0.args]]++aV)→cf fk xs h=some (.bool r,h))(ia:∀h,aQ cz h aV aV)(o:Has h (L)){out:Bool}(H:gW.f m s0 f0=some out) :
  ∃r h',bb Try.prog aW cf m 65 [ai.fz s0,.fn fk aV] h=some (r,h')∧fj h' r (.bool out):=by
 refine ar (fn:=Try.f65) ha Try.func65 (by kernel_rfl) (by kernel_rfl) ?_
 refine aG (Q:=fun s=>gW.fin L out s) (fun _ _ h=>h) ?_
 have H:_=some out:=H
 unfold gW.f at H
 show dy _ cf Ch m _ ⟨[ai.fz s0,.fn fk aV,.any],[],h⟩ _
 refine q1 <| qq ?_
 obtain⟨x0,e0,H⟩:=bj H
 obtain rfl:=oi H
 exact qr [.a 2 (Qn _ _ _ e0 fk aV hZ ia h _ (fq (ah (dW (E:=ai)) (ah (rq (ia h)) (aw)))))] <| qt <| ⟨.inl rfl,cX (.bool (decide (x0≥(0:Int)))) h (cV (aA))⟩
end
end Go.Proofs.Ytifafejidnjckaa
namespace Go.Proofs.Ytifafejidnjckaa
open Go Go.R
open Go.IntKind (i64 u64 u8 u32)
def y8:bY:=gK [0,1,2,6,7,27,29,30,31,37] [] [1016,990,1015,830,574,814,318,1015,830,1015] [] []
def dn.l0 (m:Nat)(s0:ByteArray):Nat→Int→Option (Sum Bool (Int))
 | 0,_=>none
 | k+1,x0=>if (decide (x0<(s0.size:Int)))=true then ((bt s0 x0).bind fun v2=>(gk.f m v2).bind fun x1=>if (!x1)=true then (some (.inl false)) else (dn.l0 m s0 k (i64.wrap (x0+(1:Int))))) else (some (.inr x0))
def dn.f (m:Nat)(s0:ByteArray)(kW:Int)(ow:Int):Option (Bool):=if (decide ((s0.size:Int)<(1:Int)))=true then (some false) else (if (decide ((s0.size:Int) > (16:Int)))=true then (some false) else ((bt s0 (0:Int)).bind fun v0=>if (decide (v0<kW))=true then (some false) else ((bt s0 (0:Int)).bind fun v1=>if (decide (v1 > ow))=true then (some false) else ((dn.l0 m s0 m (0:Int)).bind fun bQ=>match bQ with | .inl r0=>some r0 | .inr x2=>some true))))
def dn.fin (L:Mem)(r:Bool)(s:St):Prop:=∃av,aM Try.prog (s.open y8) Try.f74.results.toList=some av∧fj s.h av (.bool r)
def Tp (cf:CallF)(m:Nat):Prop:=∀(s0:ByteArray) (kW:Int) (ow:Int) (r:Bool),dn.f m s0 kW ow=some r→∀h xs,aQ bJ h xs [.str s0,.int .u8 kW,.int .u8 ow]→cf 74 xs h=some (.bool r,h)
section
variable {cf:CallF}{m:Nat}
theorem dn.cO (L:Mem)(s0:ByteArray)  (KS:Qg cf m):dF Try.prog cf y8 m (sub [1,1,0,1,0,0] (bW Try.f74)) (fun k (σ:Int)=>dn.l0 m s0 k σ) (fun σ s=>match σ with | x0=>∃h0,s=⟨.str s0::Aw [.int .i64 (s0.size:Int),.int .i64 x0,.any,.any],[],h0⟩∧Has h0 (L)) (fun out e s=>(e = .exit 0∧∃x0,.inr x0=out∧∃nr KT Gd KU h0,s=⟨nr::Aw [KT,Gd,KU,.any],[],h0⟩∧Has h0 (L))∨(e = .ret∧∃r,.inl r=out∧dn.fin L r s)):=by
 refine k8 (fun _=>rfl) ?_
 rintro k x0 s out ⟨h0,rfl,o0⟩ H
 have H:dn.l0 m s0 (k+1) x0=some out:=H
 refine q1 <| qq <| qc H (fun c7 H=>?_) (fun c7 H=>?_)
 ·refine qk <| qq <| qb 1 <| qq <| q0 <| qq ?_
  obtain⟨v2,e2,H⟩:=bj H
  obtain⟨x1,e3,H⟩:=bj H
  refine qr [.v 2 (wQ (k:=.i64) U9 e2),.a 3 (KS _ _ e3 h0 _ (fq (ah (aT) (aw))))] <| qc H (fun c8 H=>?_) (fun c8 H=>?_)
  ·exact q1 <| qt <| Or.inr (⟨rfl,_,oi H,cX (.bool false) h0 (cV (aA))⟩)
  ·exact qk <| q0 <| ⟨i64.wrap (x0+(1:Int)),⟨h0,by kernel_rfl,o0⟩,H⟩
 ·exact qx 0 <| Or.inl (⟨rfl,x0,oi H,.str s0,.int .i64 (s0.size:Int),.int .i64 x0,.bool (decide (x0<(s0.size:Int))),h0,by kernel_rfl,o0⟩)
theorem tI {aW:FuncId→bY}(ha:aW 74=y8)(KS:Qg cf m)(s0:ByteArray)(kW:Int)(ow:Int)(h:AHeap)(L:Mem)  (o:Has h (L)){out:Bool}(H:dn.f m s0 kW ow=some out) :
  ∃r h',bb Try.prog aW cf m 74 [.str s0,.int .u8 kW,.int .u8 ow] h=some (r,h')∧fj h' r (.bool out):=by
 refine ar (fn:=Try.f74) ha Try.func74 (by kernel_rfl) (by kernel_rfl) ?_
 refine aG (Q:=fun s=>dn.fin L out s) (fun _ _ h=>h) ?_
 have H:_=some out:=H
 unfold dn.f at H
 show dy _ cf y8 m _ ⟨.str s0 :: .int .u8 kW :: .int .u8 ow::FE [],[],h⟩ _
 refine q1 <| qq <| qq ?_
 rcases ig H with⟨c0,H⟩| ⟨c0,H⟩
 ·obtain rfl:=oi H
  exact qr [.b 3 c0] <| FH <| qq <| q0 <| qt <| ⟨.inl rfl,cX (.bool false) h (cV (aA))⟩
 ·rcases ig H with⟨c2,H⟩| ⟨c2,H⟩
  ·obtain rfl:=oi H
   exact qr [.b 3 c0,.b 8 c2] <| FH <| qq <| q0 <| qt <| ⟨.inl rfl,cX (.bool false) h (cV (aA))⟩
  ·obtain⟨v0,e0,H⟩:=bj H
   rcases ig H with⟨c4,H⟩| ⟨c4,H⟩
   ·obtain rfl:=oi H
    exact qr [.b 3 c0,.b 8 c2,.v 10 (wQ (k:=.i64) U9 e0),.b 14 c4] <| FH <| qq <| q0 <| qt <| ⟨.inl rfl,cX (.bool false) h (cV (aA))⟩
   ·obtain⟨v1,e1,H⟩:=bj H
    refine qr [.b 3 c0,.b 8 c2,.v 10 (wQ (k:=.i64) U9 e0),.b 14 c4,.v 16 (wQ (k:=.i64) U9 e1)] <| qc H (fun c6 H=>?_) (fun c6 H=>?_)
    ·obtain rfl:=oi H
     exact q1 <| qt <| ⟨.inl rfl,cX (.bool false) h (cV (aA))⟩
    ·refine qk <| qq <| qq <| q0 <| qb 0 ?_
     obtain⟨bQ,e4,H⟩:=bj H
     refine ql (dn.cO L s0  KS (0:Int) _ _ ⟨h,by kernel_rfl,o⟩ e4) ?_
     rintro e s (⟨rfl,x2,rfl,g0,g1,g2,g3,h1,rfl,o1⟩| ⟨rfl,r0,rfl,uL⟩)
     ·try dsimp only at H
      obtain rfl:=oi H
      exact q1 <| qt <| ⟨.inl rfl,cX (.bool true) h1 (cV (aA))⟩
     ·try dsimp only at H
      obtain rfl:=oi H
      exact⟨.inl rfl,uL⟩
end
end Go.Proofs.Ytifafejidnjckaa
namespace Go.Proofs.Ytifafejidnjckaa
open Go Go.R
open Go.IntKind (i64 u64 u8 u32)
end Go.Proofs.Ytifafejidnjckaa
namespace Go.Proofs.Ytifafejidnjckaa
open Go Go.R
open Go.IntKind (i64 u64 u8 u32)
def Ci:bY:=gK [0,1,4,5,6,11,12,13,16,19] [] [1020,1012,996,972,959,1019,1019,892,1019,764,1019,511,1019,1019] [] []
def di.f (m:Nat)(x0:Int)(y0:Int):Option (Int):=(cmp_isNaN_int.f m x0).bind fun x1=>(cmp_isNaN_int.f m y0).bind fun x2=>if x1=true then (if x2=true then (some (0:Int)) else (some (-1:Int))) else (if x2=true then (some (1:Int)) else (if (decide (x0<y0))=true then (some (-1:Int)) else (if (decide (x0 > y0))=true then (some (1:Int)) else (some (0:Int)))))
def di.fin (L:Mem)(r:Int)(s:St):Prop:=∃av,aM Try.prog (s.open Ci) Try.f80.results.toList=some av∧fj s.h av (.int .i64 r)
def Tq (cf:CallF)(m:Nat):Prop:=∀(x0:Int) (y0:Int) (r:Int),di.f m x0 y0=some r→∀h xs,aQ bJ h xs [.int .i64 x0,.int .i64 y0]→cf 80 xs h=some (.int .i64 r,h)
section
variable {cf:CallF}{m:Nat}
theorem ny {aW:FuncId→bY}(ha:aW 80=Ci)(Nu:Te cf m)(x0:Int)(y0:Int)(h:AHeap)(L:Mem)  (o:Has h (L)){out:Int}(H:di.f m x0 y0=some out) :
  ∃r h',bb Try.prog aW cf m 80 [.int .i64 x0,.int .i64 y0] h=some (r,h')∧fj h' r (.int .i64 out):=by
 refine ar (fn:=Try.f80) ha Try.func80 (by kernel_rfl) (by kernel_rfl) ?_
 refine aG (Q:=fun s=>di.fin L out s) (fun _ _ h=>h) ?_
 have H:_=some out:=H
 unfold di.f at H
 show dy _ cf Ci m _ ⟨.int .i64 x0 :: .int .i64 y0::vj [],[],h⟩ _
 refine q1 <| qq ?_
 obtain⟨x1,e0,H⟩:=bj H
 refine qr [.a 1 (Nu _ _ e0 h _ (fq (ah (aT) (aw))))] <| qq ?_
 obtain⟨x2,e1,H⟩:=bj H
 refine qr [.a 1 (Nu _ _ e1 h _ (fq (ah (aT) (aw))))] <| qq <| qq <| q0 <| qc H (fun c0 H=>?_) (fun c0 H=>?_)
 ·refine qq <| qq <| q0 <| qc H (fun c1 H=>?_) (fun c1 H=>?_)
  ·obtain rfl:=oi H
   exact q1 <| qt <| ⟨.inl rfl,cX (.int .i64 (0:Int)) h (cV (dc))⟩
  ·obtain rfl:=oi H
   exact qk <| qq <| q0 <| qt <| ⟨.inl rfl,cX (.int .i64 (-1:Int)) h (cV (dc))⟩
 ·refine qk <| qq <| qq <| q0 <| qc H (fun c2 H=>?_) (fun c2 H=>?_)
  ·obtain rfl:=oi H
   exact q1 <| qt <| ⟨.inl rfl,cX (.int .i64 (1:Int)) h (cV (dc))⟩
  ·refine qk <| qq <| qq <| q0 <| qc H (fun c3 H=>?_) (fun c3 H=>?_)
   ·obtain rfl:=oi H
    exact q1 <| qt <| ⟨.inl rfl,cX (.int .i64 (-1:Int)) h (cV (dc))⟩
   ·refine qk <| qq <| qq <| q0 <| qc H (fun c4 H=>?_) (fun c4 H=>?_)
    ·obtain rfl:=oi H
     exact q1 <| qt <| ⟨.inl rfl,cX (.int .i64 (1:Int)) h (cV (dc))⟩
    ·obtain rfl:=oi H
     exact qk <| qq <| q0 <| qt <| ⟨.inl rfl,cX (.int .i64 (0:Int)) h (cV (dc))⟩
end
end Go.Proofs.Ytifafejidnjckaa
namespace Go.Proofs.Ytifafejidnjckaa
open Go Go.R
open Go.IntKind (i64 u64 u8 u32)
def Cj:bY:=gK [0,1,4,5,6,11,12,13,16,19] [] [1020,1012,996,972,959,1019,1019,892,1019,764,1019,511,1019,1019] [] []
def cy.f (m:Nat)(x0:ByteArray)(y0:ByteArray):Option (Int):=(cmp_isNaN_string.f m x0).bind fun x1=>(cmp_isNaN_string.f m y0).bind fun x2=>if x1=true then (if x2=true then (some (0:Int)) else (some (-1:Int))) else (if x2=true then (some (1:Int)) else (if (Op.bytesLess x0.data.toList y0.data.toList)=true then (some (-1:Int)) else (if (!FA x0 y0)=true then (some (1:Int)) else (some (0:Int)))))
def cy.fin (L:Mem)(r:Int)(s:St):Prop:=∃av,aM Try.prog (s.open Cj) Try.f82.results.toList=some av∧fj s.h av (.int .i64 r)
def Tr (cf:CallF)(m:Nat):Prop:=∀(x0:ByteArray) (y0:ByteArray) (r:Int),cy.f m x0 y0=some r→∀h xs,aQ bJ h xs [.str x0,.str y0]→cf 82 xs h=some (.int .i64 r,h)
section
variable {cf:CallF}{m:Nat}
theorem lC {aW:FuncId→bY}(ha:aW 82=Cj)(Nv:Tf cf m)(x0:ByteArray)(y0:ByteArray)(h:AHeap)(L:Mem)  (o:Has h (L)){out:Int}(H:cy.f m x0 y0=some out) :
  ∃r h',bb Try.prog aW cf m 82 [.str x0,.str y0] h=some (r,h')∧fj h' r (.int .i64 out):=by
 refine ar (fn:=Try.f82) ha Try.func82 (by kernel_rfl) (by kernel_rfl) ?_
 refine aG (Q:=fun s=>cy.fin L out s) (fun _ _ h=>h) ?_
 have H:_=some out:=H
 unfold cy.f at H
 show dy _ cf Cj m _ ⟨.str x0 :: .str y0::vj [],[],h⟩ _
 refine q1 <| qq ?_
 obtain⟨x1,e0,H⟩:=bj H
 refine qr [.a 1 (Nv _ _ e0 h _ (fq (ah (cq) (aw))))] <| qq ?_
 obtain⟨x2,e1,H⟩:=bj H
 refine qr [.a 1 (Nv _ _ e1 h _ (fq (ah (cq) (aw))))] <| qq <| qq <| q0 <| qc H (fun c0 H=>?_) (fun c0 H=>?_)
 ·refine qq <| qq <| q0 <| qc H (fun c1 H=>?_) (fun c1 H=>?_)
  ·obtain rfl:=oi H
   exact q1 <| qt <| ⟨.inl rfl,cX (.int .i64 (0:Int)) h (cV (dc))⟩
  ·obtain rfl:=oi H
   exact qk <| qq <| q0 <| qt <| ⟨.inl rfl,cX (.int .i64 (-1:Int)) h (cV (dc))⟩
 ·refine qk <| qq <| qq <| q0 <| qc H (fun c2 H=>?_) (fun c2 H=>?_)
  ·obtain rfl:=oi H
   exact q1 <| qt <| ⟨.inl rfl,cX (.int .i64 (1:Int)) h (cV (dc))⟩
  ·refine qk <| qq <| qq <| q0 <| qc H (fun c3 H=>?_) (fun c3 H=>?_)
   ·obtain rfl:=oi H
    exact q1 <| qt <| ⟨.inl rfl,cX (.int .i64 (-1:Int)) h (cV (dc))⟩
   ·refine qk <| qq <| qq <| q0 <| qc H (fun c4 H=>?_) (fun c4 H=>?_)
    ·obtain rfl:=oi H
     exact q1 <| qt <| ⟨.inl rfl,cX (.int .i64 (1:Int)) h (cV (dc))⟩
    ·obtain rfl:=oi H
     exact qk <| qq <| q0 <| qt <| ⟨.inl rfl,cX (.int .i64 (0:Int)) h (cV (dc))⟩
end
end Go.Proofs.Ytifafejidnjckaa
namespace Go.Proofs.Ytifafejidnjckaa
open Go Go.R
open Go.IntKind (i64 u64 u8 u32)
end Go.Proofs.Ytifafejidnjckaa
namespace Go.Proofs.Ytifafejidnjckaa
open Go Go.R
open Go.IntKind (i64 u64 u8 u32)
end Go.Proofs.Ytifafejidnjckaa
namespace Go.Proofs.Ytifafejidnjckaa
open Go Go.R
open Go.IntKind (i64 u64 u8 u32)
end Go.Proofs.Ytifafejidnjckaa
namespace Go.Proofs.Ytifafejidnjckaa
open Go Go.R
open Go.IntKind (i64 u64 u8 u32)
end Go.Proofs.Ytifafejidnjckaa
namespace Go.Proofs.Ytifafejidnjckaa
open Go Go.R
open Go.IntKind (i64 u64 u8 u32)
end Go.Proofs.Ytifafejidnjckaa
namespace Go.Proofs.Ytifafejidnjckaa
open Go Go.R
open Go.IntKind (i64 u64 u8 u32)
end Go.Proofs.Ytifafejidnjckaa
namespace Go.Proofs.Ytifafejidnjckaa
open Go Go.R
open Go.IntKind (i64 u64 u8 u32)
def tJ:bY:=gK [0,1,2,3,4,10,11,20,23] [] [450,394,266,138,394,394,394,394,511] [] []
def fD.l0 (m:Nat)(m0:Int)(aX:Int→Int→Option (Int)):Nat→(List Int)→Int→Int→Option ((List Int) × Int × Int)
 | 0,_,_,_=>none
 | k+1,bB,i0,j0=>if (!(i0==j0))=true then (if (decide (i0 > j0))=true then ((b5.f m bB (i64.wrap (m0 - i0)) m0 j0 aX).bind fun x0=>fD.l0 m m0 aX k x0 (i64.wrap (i0 - j0)) j0) else ((b5.f m bB (i64.wrap (m0 - i0)) (i64.wrap (i64.wrap (m0+j0) - i0)) i0 aX).bind fun x1=>fD.l0 m m0 aX k x1 i0 (i64.wrap (j0 - i0)))) else (some ((bB,i0,j0)))
def fD.f (m:Nat)(ax:List Int)(a0:Int)(m0:Int)(b0:Int)(aX:Int→Int→Option (Int)):Option ((List Int)):=(fD.l0 m m0 aX m ax (i64.wrap (m0 - a0)) (i64.wrap (b0 - m0))).bind fun bQ=>match bQ with | (dC,i1,j1)=>(b5.f m dC (i64.wrap (m0 - i1)) m0 i1 aX).bind fun x2=>some x2
def fD.fin (L:Mem)(aH:Nat)(ax:List Int)(a0:Int)(m0:Int)(b0:Int)(aX:Int→Int→Option (Int))(r:(List Int))(s:St):Prop:=aM Try.prog (s.open tJ) Try.f108.results.toList=some (.tup [])∧Has s.h ((aH,.sl ax.length 1 (af.l r))::L)
def Nw (cf:CallF)(m:Nat):Prop:=∀(ax:List Int) (a0:Int) (m0:Int) (b0:Int) (aX:Int→Int→Option (Int)) (r:(List Int)),fD.f m ax a0 m0 b0 aX=some r→∀h L (cH:Nat) (aH:Nat),Has h ((aH,.sl cH 1 (af.l ax))::L)→∀(fm:FuncId) (bk aY:List AV),(aO (.fn fm bk) = .fn fm bk)→(∀(h:AHeap) (xs:List AV) (a0:Int) (a1:Int) r,aX a0 a1=some r→aQ bJ h xs ([.int .i64 a0,.int .i64 a1]++aY)→cf fm xs h=some (.int .i64 r,h))→(∀h K,Has h (K++(L))→aQ cz h bk aY)→(∀h,aQ cz h aY aY)→∀xs,xs.map aO=[.rs aH 0 cH 1,.int .i64 a0,.int .i64 m0,.int .i64 b0,.fn fm bk]→∃h',cf 108 xs h=some (.tup [],h')∧Has h' ((aH,.sl cH 1 (af.l r))::L)
section
variable {cf:CallF}{m:Nat}
theorem fD.cO (L:Mem)(aH:Nat)(fm:FuncId)(bk aY:List AV)(ax:List Int)(a0:Int)(m0:Int)(b0:Int)(aX:Int→Int→Option (Int))  (gV:aO (.fn fm bk) = .fn fm bk)(iw:∀(h:AHeap) (xs:List AV) (a0:Int) (a1:Int) r,aX a0 a1=some r→aQ bJ h xs ([.int .i64 a0,.int .i64 a1]++aY)→cf fm xs h=some (.int .i64 r,h))(iy:∀h K,Has h (K++(L))→aQ cz h bk aY)(iY:∀h,aQ cz h aY aY)(y9:KN cf m):dF Try.prog cf tJ m (sub [1,1,0,0,0] (bW Try.f108)) (fun k (σ:(List Int) × Int × Int)=>fD.l0 m m0 aX k σ.1 σ.2.1 σ.2.2) (fun σ s=>match σ with | (bB,i0,j0)=>∃h0,s=⟨[.rs aH 0 ax.length 1,.any,.int .i64 m0,.any,.fn fm bk,.int .i64 i0,.int .i64 j0,.any,.any],[],h0⟩∧Has h0 ((aH,.sl ax.length 1 (af.l bB))::L)) (fun out e s=>(e = .exit 0∧∃bB i0 j0,(bB,i0,j0)=out∧∃KV KO h0,s=⟨[.rs aH 0 ax.length 1,.any,.int .i64 m0,.any,.fn fm bk,.int .i64 i0,KV,KO,.any],[],h0⟩∧Has h0 ((aH,.sl ax.length 1 (af.l bB))::L))):=by
 refine k8 (fun _=>rfl) ?_
 rintro k ⟨bB,i0,j0⟩ s out ⟨h0,rfl,o0⟩ H
 have H:fD.l0 m m0 aX (k+1) bB i0 j0=some out:=H
 refine qq <| qq <| q0 <| qc H (fun c0 H=>?_) (fun c0 H=>?_)
 ·refine qk <| qb 1 <| qq <| q0 <| qc H (fun c1 H=>?_) (fun c1 H=>?_)
  ·refine qq ?_
   obtain⟨x0,e0,H⟩:=bj H
   obtain⟨h1,e1,o1⟩:=y9 _ _ _ _ _ _ e0 h0 _ _ _ (o0) fm bk aY gV iw (fun h' K' o'=>iy h' (K'++[]) (by simpa only [X3,Yq,Yr] using o')) iY [.rs aH 0 ax.length 1,.int .i64 (i64.wrap (m0 - i0)),.int .i64 m0,.int .i64 j0,.fn fm bk] (au (rfl) (au (aP (bu)) (au (aP (bu)) (au (aP (bu)) (au (gV) (bN))))))
   exact qr [.a 7 e1] <| q0 <| ⟨(x0,i64.wrap (i0 - j0),j0),⟨h1,by kernel_rfl,o1⟩,H⟩
  ·refine qq ?_
   obtain⟨x1,e2,H⟩:=bj H
   obtain⟨h2,e3,o2⟩:=y9 _ _ _ _ _ _ e2 h0 _ _ _ (o0) fm bk aY gV iw (fun h' K' o'=>iy h' (K'++[]) (by simpa only [X3,Yq,Yr] using o')) iY [.rs aH 0 ax.length 1,.int .i64 (i64.wrap (m0 - i0)),.int .i64 (i64.wrap (i64.wrap (m0+j0) - i0)),.int .i64 i0,.fn fm bk] (au (rfl) (au (aP (bu)) (au (aP (bu)) (au (aP (bu)) (au (gV) (bN))))))
   exact qr [.a 11 e3] <| q0 <| ⟨(x1,i0,i64.wrap (j0 - i0)),⟨h2,by kernel_rfl,o2⟩,H⟩
 ·exact qx 0 <| ⟨rfl,bB,i0,j0,oi H,.int .i64 j0,.bool (!(i0==j0)),h0,by kernel_rfl,o0⟩
theorem xe {aW:FuncId→bY}(ha:aW 108=tJ)(y9:KN cf m)(ax:List Int)(a0:Int)(m0:Int)(b0:Int)(aX:Int→Int→Option (Int))(h:AHeap)(L:Mem)(aH:Nat)(fm:FuncId)(bk aY:List AV)  (gV:aO (.fn fm bk) = .fn fm bk)(iw:∀(h:AHeap) (xs:List AV) (a0:Int) (a1:Int) r,aX a0 a1=some r→aQ bJ h xs ([.int .i64 a0,.int .i64 a1]++aY)→cf fm xs h=some (.int .i64 r,h))(iy:∀h K,Has h (K++(L))→aQ cz h bk aY)(iY:∀h,aQ cz h aY aY)(o:Has h ((aH,.sl ax.length 1 (af.l ax))::L)){out:(List Int)}(H:fD.f m ax a0 m0 b0 aX=some out) :
  ∃r h',bb Try.prog aW cf m 108 [.rs aH 0 ax.length 1,.int .i64 a0,.int .i64 m0,.int .i64 b0,.fn fm bk] h=some (r,h')∧r = .tup []∧Has h' ((aH,.sl ax.length 1 (af.l out))::L):=by
 refine ar (fn:=Try.f108) ha Try.func108 (by kernel_rfl) (by kernel_rfl) ?_
 refine aG (Q:=fun s=>fD.fin L aH ax a0 m0 b0 aX out s) (fun _ _ ⟨h1,h2,h3⟩=>⟨h1,_,h2,rfl,h3⟩) ?_
 have H:_=some out:=H
 unfold fD.f at H
 show dy _ cf tJ m _ ⟨.rs aH 0 ax.length 1 :: .int .i64 a0 :: .int .i64 m0 :: .int .i64 b0 :: .fn fm bk::nZ [],[],h⟩ _
 refine q1 <| qq <| q0 <| qq <| qb 0 ?_
 obtain⟨bQ,e4,H⟩:=bj H
 refine ql (fD.cO L aH fm bk aY ax a0 m0 b0 aX  gV iw iy iY y9 (ax,i64.wrap (m0 - a0),i64.wrap (b0 - m0)) _ _ ⟨h,by kernel_rfl,o⟩ e4) ?_
 rintro e s ⟨rfl,dC,i1,j1,rfl,g0,g1,h3,rfl,o3⟩
 try dsimp only at H
 obtain⟨x2,e5,H⟩:=bj H
 obtain⟨h4,e6,o4⟩:=y9 _ _ _ _ _ _ e5 h3 _ _ _ (o3) fm bk aY gV iw (fun h' K' o'=>iy h' (K'++[]) (by simpa only [X3,Yq,Yr] using o')) iY [.rs aH 0 ax.length 1,.int .i64 (i64.wrap (m0 - i1)),.int .i64 m0,.int .i64 i1,.fn fm bk] (au (rfl) (au (aP (bu)) (au (aP (bu)) (au (aP (bu)) (au (gV) (bN))))))
 obtain rfl:=oi H
 exact qr [.a 7 e6] <| ⟨.inr rfl,⟨by kernel_rfl,he o4⟩⟩
end
end Go.Proofs.Ytifafejidnjckaa
namespace Go.Proofs.Ytifafejidnjckaa
open Go Go.R
open Go.IntKind (i64 u64 u8 u32)
def Ck:bY:=gK [0,1,2,4,5,9] [] [57,41,55,31,55,55] [] []
def bT.f (m:Nat)(s0:ab)(l0:List Int):Option (Int):=(bL.f m s0).bind fun x0=>if (!x0)=true then (some (6:Int)) else ((eW.f m l0 (fun y0=>dt.f m y0 s0)).bind fun x1=>if x1=true then (some (1:Int)) else (some (0:Int)))
def bT.fin (L:Mem)(r:Int)(s:St):Prop:=∃av,aM Try.prog (s.open Ck) Try.f30.results.toList=some av∧fj s.h av (.int .i64 r)
def Mb (cf:CallF)(m:Nat):Prop:=∀(s0:ab) (l0:List Int) (r:Int),bT.f m s0 l0=some r→∀h xs,aQ bJ h xs [.fp [.bool s0.ak,ai.fz s0.aa,af.fz s0.ae] 0,af.fz l0]→cf 30 xs h=some (.int .i64 r,h)
section
variable {cf:CallF}{m:Nat}
theorem mg {aW:FuncId→bY}(ha:aW 30=Ck)(AI:Ns cf m)(Ge:OD cf m)(Qo:Tk cf m)(s0:ab)(l0:List Int)(h:AHeap)(L:Mem)  (o:Has h (L)){out:Int}(H:bT.f m s0 l0=some out) :
  ∃r h',bb Try.prog aW cf m 30 [.fp [.bool s0.ak,ai.fz s0.aa,af.fz s0.ae] 0,af.fz l0] h=some (r,h')∧fj h' r (.int .i64 out):=by
 refine ar (fn:=Try.f30) ha Try.func30 (by kernel_rfl) (by kernel_rfl) ?_
 refine aG (Q:=fun s=>bT.fin L out s) (fun _ _ h=>h) ?_
 have H:_=some out:=H
 unfold bT.f at H
 show dy _ cf Ck m _ ⟨.fp [.bool s0.ak,ai.fz s0.aa,af.fz s0.ae] 0::af.fz l0::nZ [],[],h⟩ _
 refine qq ?_
 obtain⟨aH,h0,e0,o0⟩:=gL (cs:=[.fp [.bool s0.ak,ai.fz s0.aa,af.fz s0.ae] 0]) o (by kernel_rfl)
 refine qr [.a 0 e0] <| qq <| qb 0 <| qq ?_
 obtain⟨x0,e1,H⟩:=bj H
 refine qr [.v 0 (show bC Try.prog h0 28 (.ptr aH 0)=some (.fp [.bool s0.ak,ai.fz s0.aa,af.fz s0.ae] 0) from cj (q:=0) (cs:=[.fp [.bool s0.ak,ai.fz s0.aa,af.fz s0.ae] 0]) o0 rfl (by kernel_rfl)),.a 1 (AI _ _ e1 h0 _ (fq (ah (fh (pure_cons (cp) (pure_cons (bK.bo (E:=ai) (l:=s0.aa)) (pure_cons (bK.bo (E:=af) (l:=s0.ae)) (pure_nil))))) (aw))))] <| qc H (fun c0 H=>?_) (fun c0 H=>?_)
 ·refine q1 ?_
  have o1:Has h0 (L):=Has.del o0 0
  obtain rfl:=oi H
  exact qt <| ⟨.inl rfl,cX (.int .i64 (6:Int)) h0 (cV (dc))⟩
 ·refine qq ?_
  obtain⟨x1,e2,H⟩:=bj H
  refine qr [.a 2 (Ge _ _ _ e2 53 [.fp [.fp [.bool s0.ak,ai.fz s0.aa,af.fz s0.ae] 0] 0] (fun h' tH y0 r hr hx=>Qo y0 _ r hr h' tH hx) (fun h_=>iX (ah (fh (pure_cons (l8 (pure_cons (cp) (pure_cons (bK.bo (E:=ai) (l:=s0.aa)) (pure_cons (bK.bo (E:=af) (l:=s0.ae)) (pure_nil))))) (pure_nil))) (aw))) h0 _ (fq (ah (dW (E:=af)) (ah (rq (ah (dV (q:=0) o0 rfl (ah (fh (pure_cons (cp) (pure_cons (bK.bo (E:=ai) (l:=s0.aa)) (pure_cons (bK.bo (E:=af) (l:=s0.ae)) (pure_nil))))) (aw))) (aw))) (aw)))))] ?_
  have o2:Has h0 (L):=Has.del o0 0
  refine qc H (fun c1 H=>?_) (fun c1 H=>?_)
  ·obtain rfl:=oi H
   exact q1 <| qt <| ⟨.inl rfl,cX (.int .i64 (1:Int)) h0 (cV (dc))⟩
  ·obtain rfl:=oi H
   exact qk <| qq <| q0 <| qt <| ⟨.inl rfl,cX (.int .i64 (0:Int)) h0 (cV (dc))⟩
end
end Go.Proofs.Ytifafejidnjckaa
namespace Go.Proofs.Ytifafejidnjckaa
open Go Go.R
open Go.IntKind (i64 u64 u8 u32)
def vz:bY:=gK [0,1,2,6,7,8,9,10,11,12,13,14,22,46,70,73,77,78,79] [11,12,13,18] [524280,524248,524190,524062,519966,524062,523806,515614,522270,505886,489502,524263,325662,63518,323614,325662,325662,524062,524263] [] [(1,[(8,none,1)])]
def aB.l1 (m:Nat)(v2:aj)(v3:aj):Nat→(List bl)→Int→ab→Option ((List bl) × Int × ab)
 | 0,_,_,_=>none
 | k+1,kq,x3,s2=>if (decide (x3<(v2.args.length:Int)))=true then ((ix v2.args x3).bind fun v4=>(ix v3.args x3).bind fun v5=>(app 16 kq ([(bl.mk v4 v5)])).bind fun x4=>aB.l1 m v2 v3 k x4 (i64.wrap (x3+(1:Int))) s2) else (some ((kq,x3,s2)))
def aB.l0 (m:Nat)  : Nat→(List Int)→(List bl)→Int→ab→Option (Sum ((List Int) × Bool × ab) ((List Int) × (List bl) × Int × ab))
 | 0,_,_,_,_=>none
 | k+1,aJ,fL,k0,s1=>if (decide (k0<(fL.length:Int)))=true then ((ix fL k0).bind fun v0=>(be.f m s1 v0.kC).bind fun x0=>(ix fL k0).bind fun v1=>(be.f m s1 v1.lM).bind fun x1=>if ((x0==x0)&&(x1==x0))=true then (aB.l0 m k aJ fL (i64.wrap (k0+(1:Int))) s1) else ((ix s1.aa x0).bind fun v2=>(ix s1.aa x1).bind fun v3=>if (!(v2.kind==(0:Int)))=true then (if (!(v3.kind==(0:Int)))=true then ((fK.f m v2 v3).bind fun x2=>if x2=true then (some (.inl (aJ,false,s1))) else ((aB.l1 m v2 v3 m fL (0:Int) s1).bind fun bQ=>match bQ with | (Gf,x5,s3)=>(cJ.f m s3 x0 x1).bind fun x6=>(app 8 aJ ([x6.1])).bind fun x7=>aB.l0 m k x7 Gf (i64.wrap (k0+(1:Int))) x6.2)) else ((cJ.f m s1 x0 x1).bind fun x8=>(app 8 aJ ([x8.1])).bind fun x9=>aB.l0 m k x9 fL (i64.wrap (k0+(1:Int))) x8.2)) else ((cJ.f m s1 x0 x1).bind fun kz=>(app 8 aJ ([kz.1])).bind fun zN=>aB.l0 m k zN fL (i64.wrap (k0+(1:Int))) kz.2))) else (some (.inr (aJ,fL,k0,s1)))
def aB.f (m:Nat)(s0:ab)(a0:Int)(b0:Int):Option ((List Int) × Bool × ab):=(aB.l0 m m ([]:List Int) ([(bl.mk a0 b0)]) (0:Int) s0).bind fun cw=>match cw with | .inl r0=>some r0 | .inr (pN,Nx,k1,s4)=>some (pN,true,s4)
def aB.fin (L:Mem)(aq:Nat)(an:Nat)(ao:Nat)(s0:ab)(a0:Int)(b0:Int)(r:(List Int) × Bool × ab)(s:St):Prop:=∃dh aD aE:Nat,aM Try.prog (s.open vz) Try.f31.results.toList=some (.tup [.rs dh 0 r.1.length 1,.bool r.2.1])∧Has s.h ((dh,.sl r.1.length 1 (af.l r.1))::(aq,.ob [.bool r.2.2.ak,.rs aD 0 r.2.2.aa.length 4,.rs aE 0 r.2.2.ae.length 1])::(aD,.sl r.2.2.aa.length 4 (ai.l r.2.2.aa))::(aE,.sl r.2.2.ae.length 1 (af.l r.2.2.ae))::L)
def Qp (cf:CallF)(m:Nat):Prop:=∀(s0:ab) (a0:Int) (b0:Int) (r:(List Int) × Bool × ab),aB.f m s0 a0 b0=some r→∀h L (aq:Nat) (an:Nat) (ao:Nat),Has h ((aq,.ob [.bool s0.ak,.rs an 0 s0.aa.length 4,.rs ao 0 s0.ae.length 1])::(an,.sl s0.aa.length 4 (ai.l s0.aa))::(ao,.sl s0.ae.length 1 (af.l s0.ae))::L)→∀xs,xs.map aO=[.ptr aq 0,.int .i64 a0,.int .i64 b0]→∃dh aD aE h',cf 31 xs h=some (.tup [.rs dh 0 r.1.length 1,.bool r.2.1],h')∧Has h' ((dh,.sl r.1.length 1 (af.l r.1))::(aq,.ob [.bool r.2.2.ak,.rs aD 0 r.2.2.aa.length 4,.rs aE 0 r.2.2.ae.length 1])::(aD,.sl r.2.2.aa.length 4 (ai.l r.2.2.aa))::(aE,.sl r.2.2.ae.length 1 (af.l r.2.2.ae))::L)
section
variable {cf:CallF}{m:Nat}
theorem aB.ko (L:Mem)(aq:Nat)(an:Nat)(ao:Nat)(s0:ab)(a0:Int)(b0:Int)(ck:Nat)(aJ:List Int)(k0:Int)(ck:Nat)(x0:Int)(x1:Int)(v2:aj)(v3:aj)   : dF Try.prog cf vz m (sub [1,1,1,0,1,0,0,1,0,0,1,1,1,0,1,0,1,1,0,0] (bW Try.f31)) (fun k (σ:(List bl) × Int × ab)=>aB.l1 m v2 v3 k σ.1 σ.2.1 σ.2.2) (fun σ s=>match σ with | (kq,x3,s2)=>∃eZ ju iN h2,s=⟨.ptr aq 0::nZ (.rs ck 0 aJ.length 1 :: .rs eZ 0 kq.length 2 :: .int .i64 k0 :: .lp 11 0 :: .lp 12 0 :: .lp 13 0::Aw [.int .i64 (v2.args.length:Int),.int .i64 x3,.any]),[some [.int .i64 x0,.int .i64 x1],some [.int .i64 v2.kind,.int .i64 v2.int,.str v2.label,af.fz v2.args],some [.int .i64 v3.kind,.int .i64 v3.int,.str v3.label,af.fz v3.args],none],h2⟩∧Has h2 ((eZ,.sl kq.length 2 (ei.l kq))::(ck,.sl aJ.length 1 (af.l aJ))::(aq,.ob [.bool s2.ak,.rs ju 0 s2.aa.length 4,.rs iN 0 s2.ae.length 1])::(ju,.sl s2.aa.length 4 (ai.l s2.aa))::(iN,.sl s2.ae.length 1 (af.l s2.ae))::L)) (fun out e s=>(e = .exit 2∧∃kq x3 s2,(kq,x3,s2)=out∧∃KK tE Qq Qr Qs Qt Qu eZ ju iN h2,s=⟨.ptr aq 0::nZ (.rs ck 0 aJ.length 1 :: .rs eZ 0 kq.length 2 :: .int .i64 k0 :: .lp 11 0::KK::tE::Aw [Qq,Qr,Qs]),[some [.int .i64 x0,.int .i64 x1],Qt,Qu,none],h2⟩∧Has h2 ((eZ,.sl kq.length 2 (ei.l kq))::(ck,.sl aJ.length 1 (af.l aJ))::(aq,.ob [.bool s2.ak,.rs ju 0 s2.aa.length 4,.rs iN 0 s2.ae.length 1])::(ju,.sl s2.aa.length 4 (ai.l s2.aa))::(iN,.sl s2.ae.length 1 (af.l s2.ae))::L))):=by
 refine k8 (fun _=>rfl) ?_
 rintro k ⟨kq,x3,s2⟩ s out ⟨eZ,ju,iN,h2,rfl,o4⟩ H
 have H:aB.l1 m v2 v3 (k+1) kq x3 s2=some out:=H
 refine q1 <| qq <| qc H (fun c5 H=>?_) (fun c5 H=>?_)
 ·refine qk <| qq <| qb 3 <| qq <| q0 ?_
  obtain⟨v4,e8,H⟩:=bj H
  obtain⟨v5,e9,H⟩:=bj H
  obtain⟨x4,rv,H⟩:=bj H
  obtain⟨kr,h3,uv,o5⟩:=iW (P:=Try.prog) (E:=ei) (l:=kq) (q:=0) (t2:=93) (x:=.fz [.int .i64 v4,.int .i64 v5] 1 true) (l2:=([(bl.mk v4 v5)])) PW o4 rfl (by kernel_rfl) rfl rv
  exact qr [.v 4 (fe (k:=.i64) (E:=af) (l:=v2.args) gg e8),.v 5 (ie  (E:=af) (l:=v2.args) h2 A3 e8 rfl),.v 9 (fe (k:=.i64) (E:=af) (l:=v3.args) gg e9),.v 10 (ie  (E:=af) (l:=v3.args) h2 A3 e9 rfl),.a 13 uv] <| q0 <| ⟨(x4,i64.wrap (x3+(1:Int)),s2),⟨kr,ju,iN,h3,by kernel_rfl,o5⟩,H⟩
 ·exact qx 2 <| ⟨rfl,kq,x3,s2,oi H,.lp 12 0,.lp 13 0,.int .i64 (v2.args.length:Int),.int .i64 x3,.bool (decide (x3<(v2.args.length:Int))),some [.int .i64 v2.kind,.int .i64 v2.int,.str v2.label,af.fz v2.args],some [.int .i64 v3.kind,.int .i64 v3.int,.str v3.label,af.fz v3.args],eZ,ju,iN,h2,by kernel_rfl,o4⟩
theorem aB.cO (L:Mem)(aq:Nat)(an:Nat)(ao:Nat)(s0:ab)(a0:Int)(b0:Int)  (l9:Hz cf m)(KW:P7 cf m)(Gg:Ql cf m):dF Try.prog cf vz m (sub [1,1,1,0,1,0,0] (bW Try.f31)) (fun k (σ:(List Int) × (List bl) × Int × ab)=>aB.l0 m k σ.1 σ.2.1 σ.2.2.1 σ.2.2.2) (fun σ s=>match σ with | (aJ,fL,k0,s1)=>∃dX ck dP dQ h1,s=⟨.ptr aq 0::nZ (.rs ck 0 aJ.length 1 :: .rs dX 0 fL.length 2 :: .int .i64 k0::rJ []),[none,none,none,none],h1⟩∧Has h1 ((dX,.sl fL.length 2 (ei.l fL))::(ck,.sl aJ.length 1 (af.l aJ))::(aq,.ob [.bool s1.ak,.rs dP 0 s1.aa.length 4,.rs dQ 0 s1.ae.length 1])::(dP,.sl s1.aa.length 4 (ai.l s1.aa))::(dQ,.sl s1.ae.length 1 (af.l s1.ae))::L)) (fun out e s=>(e = .exit 0∧∃aJ fL k0 s1,.inr (aJ,fL,k0,s1)=out∧∃nr D0 F9 AN dX ck dP dQ h1,s=⟨nr::nZ (.rs ck 0 aJ.length 1::D0::F9::nZ (AN::xH [])),[none,none,none,none],h1⟩∧Has h1 ((dX,.sl fL.length 2 (ei.l fL))::(ck,.sl aJ.length 1 (af.l aJ))::(aq,.ob [.bool s1.ak,.rs dP 0 s1.aa.length 4,.rs dQ 0 s1.ae.length 1])::(dP,.sl s1.aa.length 4 (ai.l s1.aa))::(dQ,.sl s1.ae.length 1 (af.l s1.ae))::L))∨(e = .ret∧∃r,.inl r=out∧aB.fin L aq an ao s0 a0 b0 r s)):=by
 refine k8 (fun _=>rfl) ?_
 rintro k ⟨aJ,fL,k0,s1⟩ s out ⟨dX,ck,dP,dQ,h1,rfl,o2⟩ H
 have H:aB.l0 m (k+1) aJ fL k0 s1=some out:=H
 refine qq <| qq <| q0 <| qc H (fun c0 H=>?_) (fun c0 H=>?_)
 ·refine qk <| qq <| qb 1 <| qq ?_
  obtain⟨v0,e1,H⟩:=bj H
  obtain⟨x0,e2,H⟩:=bj H
  obtain⟨v1,e3,H⟩:=bj H
  obtain⟨x1,e4,H⟩:=bj H
  refine Nj [] [.v 3 (bm (k:=.i64) (E:=ei) (l:=fL) (q:=0) PW o2 rfl e1),.v 5 (BG  (E:=ei) (l:=fL) (q:=0) (off:=0) o2 rfl A3 e1 rfl),.a 6 (l9 _ _ _ e2 h1 _ (fq (ah (dV (q:=2) o2 rfl (ah (fB) (ah (dK (E:=ai) (l:=s1.aa) (q:=3) o2 rfl (fun _=>rfl)) (ah (dK (E:=af) (l:=s1.ae) (q:=4) o2 rfl (fun _=>rfl)) (aw))))) (ah (aT) (aw))))),.v 10 (bm (k:=.i64) (E:=ei) (l:=fL) (q:=0) PW o2 rfl e3),.v 12 (BG  (E:=ei) (l:=fL) (q:=0) (off:=1) o2 rfl A3 e3 rfl),.a 13 (l9 _ _ _ e4 h1 _ (fq (ah (dV (q:=2) o2 rfl (ah (fB) (ah (dK (E:=ai) (l:=s1.aa) (q:=3) o2 rfl (fun _=>rfl)) (ah (dK (E:=af) (l:=s1.ae) (q:=4) o2 rfl (fun _=>rfl)) (aw))))) (ah (aT) (aw)))))] [.mk (h:=h1) (h':=h1) (i:=dX) rfl] ?_
  refine qq <| qq <| qr [.v 6 (show mT Try.prog .eql 92 (.agg [.int .i64 x0,.int .i64 x1]) (.agg [.int .i64 x0,.int .i64 x0])=some (.bool ((x0==x0)&&(x1==x0))) from Is PY)] <| qc H (fun c1 H=>?_) (fun c1 H=>?_)
  ·exact qx 1 <| q0 <| ⟨(aJ,fL,i64.wrap (k0+(1:Int)),s1),⟨dX,ck,dP,dQ,h1,by kernel_rfl,o2⟩,H⟩
  ·refine qk <| qq ?_
   obtain⟨v2,e5,H⟩:=bj H
   obtain⟨v3,e6,H⟩:=bj H
   refine qr [.v 3 (show bC Try.prog h1 40 (.ptr aq 1)=some (.rs dP 0 s1.aa.length 4) from cj (q:=2) (cs:=[.bool s1.ak,.rs dP 0 s1.aa.length 4,.rs dQ 0 s1.ae.length 1]) o2 rfl (by kernel_rfl)),.v 6 (bm (k:=.i64) (E:=ai) (l:=s1.aa) (q:=3) uK o2 rfl e5),.v 7 (wP  (E:=ai) (l:=s1.aa) (q:=3) o2 rfl DX DY e5),.v 11 (show bC Try.prog h1 40 (.ptr aq 1)=some (.rs dP 0 s1.aa.length 4) from cj (q:=2) (cs:=[.bool s1.ak,.rs dP 0 s1.aa.length 4,.rs dQ 0 s1.ae.length 1]) o2 rfl (by kernel_rfl)),.v 14 (bm (k:=.i64) (E:=ai) (l:=s1.aa) (q:=3) uK o2 rfl e6),.v 15 (wP  (E:=ai) (l:=s1.aa) (q:=3) o2 rfl DX DY e6)] <| qq <| qq ?_
   rcases ig H with⟨c2,H⟩| ⟨c2,H⟩
   ·refine qr [.b 3 c2] <| qc H (fun c3 H=>?_) (fun c3 H=>?_)
    ·refine qq <| qq ?_
     obtain⟨x2,e7,H⟩:=bj H
     refine qr [.a 2 (KW _ _ _ e7 h1 _ (fq (ah (eh (ah (aT) (ah (aT) (ah (cq) (ah (dW (E:=af)) (aw)))))) (ah (eh (ah (aT) (ah (aT) (ah (cq) (ah (dW (E:=af)) (aw)))))) (aw)))))] <| qc H (fun c4 H=>?_) (fun c4 H=>?_)
     ·refine q1 ?_
      have o3:Has h1 ((ck,.sl aJ.length 1 (af.l aJ))::(aq,.ob [.bool s1.ak,.rs dP 0 s1.aa.length 4,.rs dQ 0 s1.ae.length 1])::(dP,.sl s1.aa.length 4 (ai.l s1.aa))::(dQ,.sl s1.ae.length 1 (af.l s1.ae))::L):=Has.del o2 0
      exact qt <| Or.inr (⟨rfl,_,oi H,⟨ck,dP,dQ,by kernel_rfl,he o3⟩⟩)
     ·refine qk <| qq <| q0 <| qb 2 ?_
      obtain⟨bQ,w7,H⟩:=bj H
      refine ql (aB.ko L aq an ao s0 a0 b0 ck aJ k0 ck x0 x1 v2 v3   (fL,(0:Int),s1) _ _ ⟨dX,dP,dQ,h1,by kernel_rfl,o2⟩ w7) ?_
      rintro e s ⟨rfl,Gf,x5,s3,rfl,g0,g1,g2,g3,g4,g5,g6,iF,cU,jI,h4,rfl,o6⟩
      try dsimp only at H
      obtain⟨x6,w8,H⟩:=bj H
      obtain⟨kX,nz,h5,AK,o7⟩:=Gg _ _ _ _ w8 h4 _ _ _ _ ((Has.front (Has.front (Has.front (Has.front (Has.front o6 1 rfl) 1 rfl) 4 rfl) 4 rfl) 4 rfl))  [.ptr aq 0,.int .i64 x0,.int .i64 x1] (au (rfl) (au (aP (bu)) (au (aP (bu)) (bN))))
      obtain⟨x7,zO,H⟩:=bj H
      obtain⟨D4,h6,D5,o8⟩:=iW (P:=Try.prog) (E:=af) (l:=aJ) (q:=4) (t2:=33) (x:=.fz [.int .i64 x6.1] 1 true) (l2:=([x6.1])) gg o7 rfl (by kernel_rfl) rfl zO
      exact qr [.a 6 AK,.a 8 D5] <| q0 <| ⟨(x7,Gf,i64.wrap (k0+(1:Int)),x6.2),⟨iF,D4,kX,nz,h6,by kernel_rfl,(Has.front (Has.front (Has.front (Has.front (Has.front o8 2 rfl) 2 rfl) 2 rfl) 4 rfl) 4 rfl)⟩,H⟩
    ·refine qk ?_
     obtain⟨x8,D6,H⟩:=bj H
     obtain⟨AO,rT,h7,Gh,o9⟩:=Gg _ _ _ _ D6 h1 _ _ _ _ ((Has.front (Has.front (Has.front (Has.front (Has.front o2 1 rfl) 1 rfl) 4 rfl) 4 rfl) 4 rfl))  [.ptr aq 0,.int .i64 x0,.int .i64 x1] (au (rfl) (au (aP (bu)) (au (aP (bu)) (bN))))
     obtain⟨x9,D7,H⟩:=bj H
     obtain⟨tK,h8,Iz,xa⟩:=iW (P:=Try.prog) (E:=af) (l:=aJ) (q:=4) (t2:=33) (x:=.fz [.int .i64 x8.1] 1 true) (l2:=([x8.1])) gg o9 rfl (by kernel_rfl) rfl D7
     exact qr [.a 6 Gh,.a 8 Iz] <| q0 <| ⟨(x9,fL,i64.wrap (k0+(1:Int)),x8.2),⟨dX,tK,AO,rT,h8,by kernel_rfl,(Has.front (Has.front (Has.front (Has.front (Has.front xa 2 rfl) 2 rfl) 2 rfl) 4 rfl) 4 rfl)⟩,H⟩
   ·refine qr [.b 3 c2] <| Hy <| qk ?_
    obtain⟨kz,HA,H⟩:=bj H
    obtain⟨Gi,AP,h9,HB,xf⟩:=Gg _ _ _ _ HA h1 _ _ _ _ ((Has.front (Has.front (Has.front (Has.front (Has.front o2 1 rfl) 1 rfl) 4 rfl) 4 rfl) 4 rfl))  [.ptr aq 0,.int .i64 x0,.int .i64 x1] (au (rfl) (au (aP (bu)) (au (aP (bu)) (bN))))
    obtain⟨zN,Jy,H⟩:=bj H
    obtain⟨AQ,h10,KX,za⟩:=iW (P:=Try.prog) (E:=af) (l:=aJ) (q:=4) (t2:=33) (x:=.fz [.int .i64 kz.1] 1 true) (l2:=([kz.1])) gg xf rfl (by kernel_rfl) rfl Jy
    exact qr [.a 6 HB,.a 8 KX] <| q0 <| ⟨(zN,fL,i64.wrap (k0+(1:Int)),kz.2),⟨dX,AQ,Gi,AP,h10,by kernel_rfl,(Has.front (Has.front (Has.front (Has.front (Has.front za 2 rfl) 2 rfl) 2 rfl) 4 rfl) 4 rfl)⟩,H⟩
 ·exact qx 0 <| Or.inl (⟨rfl,aJ,fL,k0,s1,oi H,.ptr aq 0,.rs dX 0 fL.length 2,.int .i64 k0,.bool (decide (k0<(fL.length:Int))),dX,ck,dP,dQ,h1,by kernel_rfl,o2⟩)
theorem lD {aW:FuncId→bY}(ha:aW 31=vz)(l9:Hz cf m)(KW:P7 cf m)(Gg:Ql cf m)(s0:ab)(a0:Int)(b0:Int)(h:AHeap)(L:Mem)(aq:Nat)(an:Nat)(ao:Nat)  (o:Has h ((aq,.ob [.bool s0.ak,.rs an 0 s0.aa.length 4,.rs ao 0 s0.ae.length 1])::(an,.sl s0.aa.length 4 (ai.l s0.aa))::(ao,.sl s0.ae.length 1 (af.l s0.ae))::L)){out:(List Int) × Bool × ab}(H:aB.f m s0 a0 b0=some out) :
  ∃r h',bb Try.prog aW cf m 31 [.ptr aq 0,.int .i64 a0,.int .i64 b0] h=some (r,h')∧∃dh aD aE:Nat,r = .tup [.rs dh 0 out.1.length 1,.bool out.2.1]∧Has h' ((dh,.sl out.1.length 1 (af.l out.1))::(aq,.ob [.bool out.2.2.ak,.rs aD 0 out.2.2.aa.length 4,.rs aE 0 out.2.2.ae.length 1])::(aD,.sl out.2.2.aa.length 4 (ai.l out.2.2.aa))::(aE,.sl out.2.2.ae.length 1 (af.l out.2.2.ae))::L):=by
 refine ar (fn:=Try.f31) ha Try.func31 (by kernel_rfl) (by kernel_rfl) ?_
 refine aG (Q:=fun s=>aB.fin L aq an ao s0 a0 b0 out s) (fun _ _ ⟨h1,dh,aD,aE,h2,h3⟩=>⟨h1,_,h2,dh,aD,aE,rfl,h3⟩) ?_
 have H:_=some out:=H
 unfold aB.f at H
 show dy _ cf vz m _ ⟨.ptr aq 0 :: .int .i64 a0 :: .int .i64 b0::If [],[none,none,none,none],h⟩ _
 refine q1 <| qq <| q0 ?_
 have o0:Has h (((0),.sl (([]:List Int).length) 1 (af.l ([]:List Int)))::(aq,.ob [.bool s0.ak,.rs an 0 s0.aa.length 4,.rs ao 0 s0.ae.length 1])::(an,.sl s0.aa.length 4 (ai.l s0.aa))::(ao,.sl s0.ae.length 1 (af.l s0.ae))::L):=Has.nil o 1
 refine qq ?_
 obtain⟨aH,h0,e0,o1⟩:=BI (E:=ei) (l:=[(bl.mk a0 b0)]) (cs:=[.int .i64 a0,.int .i64 b0]) o0 (by kernel_rfl)
 refine qr [.a 3 e0] <| qq <| qq <| q0 <| qb 0 ?_
 obtain⟨cw,Jz,H⟩:=bj H
 refine ql (aB.cO L aq an ao s0 a0 b0  l9 KW Gg (([]:List Int),[(bl.mk a0 b0)],(0:Int),s0) _ _ ⟨aH,(0),an,ao,h0,(YY (b:=⟨.ptr aq 0::nZ (.rs (0) 0 (([]:List Int).length) 1 :: .rs aH 0 (([(bl.mk a0 b0)]:List bl).length) 2 :: .int .i64 (0:Int)::rJ []),[none,none,none,none],h0⟩) (by kernel_rfl) (by simp only [XV])),(by have o:Has h0 ((aH,.sl (([(bl.mk a0 b0)]:List bl).length) 2 (ei.l ([(bl.mk a0 b0)])))::((0),.sl (([]:List Int).length) 1 (af.l ([]:List Int)))::(aq,.ob [.bool s0.ak,.rs an 0 s0.aa.length 4,.rs ao 0 s0.ae.length 1])::(an,.sl s0.aa.length 4 (ai.l s0.aa))::(ao,.sl s0.ae.length 1 (af.l s0.ae))::L):=o1; simpa only [XV] using o)⟩ Jz) ?_
 rintro e s (⟨rfl,pN,Nx,k1,s4,rfl,g7,g8,g9,g10,Vq,Ny,KY,KZ,h11,rfl,uO⟩| ⟨rfl,r0,rfl,uL⟩)
 ·try dsimp only at H
  refine q1 ?_
  have tL:Has h11 ((Ny,.sl pN.length 1 (af.l pN))::(aq,.ob [.bool s4.ak,.rs KY 0 s4.aa.length 4,.rs KZ 0 s4.ae.length 1])::(KY,.sl s4.aa.length 4 (ai.l s4.aa))::(KZ,.sl s4.ae.length 1 (af.l s4.ae))::L):=Has.del uO 0
  obtain rfl:=oi H
  exact qt <| ⟨.inl rfl,⟨Ny,KY,KZ,by kernel_rfl,he tL⟩⟩
 ·try dsimp only at H
  obtain rfl:=oi H
  exact⟨.inl rfl,uL⟩
end
end Go.Proofs.Ytifafejidnjckaa
namespace Go.Proofs.Ytifafejidnjckaa
open Go Go.R
open Go.IntKind (i64 u64 u8 u32)
def Co:bY:=gK [0,1,2,4,5] [] [25,9,11,15,15,23] [] []
def cQ.f (m:Nat)(s0:ab)(aJ:List Int):Option ((List Int)):=(Ez 8 (aJ.length:Int) (0:Int)).bind fun x0=>(Nn x0 aJ).bind fun Ts=>(ez.f m Ts (fun y0=>du.f m y0 s0)).bind fun x1=>some (ly x1)
def cQ.fin (L:Mem)  (r:(List Int))(s:St):Prop:=∃dh:Nat,aM Try.prog (s.open Co) Try.f33.results.toList=some (.rs dh 0 r.length 1)∧Has s.h ((dh,.sl r.length 1 (af.l r))::L)
def Qv (cf:CallF)(m:Nat):Prop:=∀(s0:ab) (aJ:List Int) (r:(List Int)),cQ.f m s0 aJ=some r→∀h L xs,Has h L→aQ bJ h xs [.fp [.bool s0.ak,ai.fz s0.aa,af.fz s0.ae] 0,af.fz aJ]→∃dh h',cf 33 xs h=some (.rs dh 0 r.length 1,h')∧Has h' ((dh,.sl r.length 1 (af.l r))::L)∧∀j,j<h.next→h.ver j=h'.ver j
section
variable {cf:CallF}{m:Nat}
theorem mh {aW:FuncId→bY}(ha:aW 33=Co)(Qw:Tl cf m)(Qx:Tm cf m)(Qy:SV cf m)(s0:ab)(aJ:List Int)(h:AHeap)(L:Mem)  (o:Has h (L)){out:(List Int)}(H:cQ.f m s0 aJ=some out) :
  ∃r h',bb Try.prog aW cf m 33 [.fp [.bool s0.ak,ai.fz s0.aa,af.fz s0.ae] 0,af.fz aJ] h=some (r,h')∧∃dh:Nat,r = .rs dh 0 out.length 1∧Has h' ((dh,.sl out.length 1 (af.l out))::L):=by
 refine ar (fn:=Try.f33) ha Try.func33 (by kernel_rfl) (by kernel_rfl) ?_
 refine aG (Q:=fun s=>cQ.fin L out s) (fun _ _ ⟨h1,dh,h2,h3⟩=>⟨h1,_,h2,dh,rfl,h3⟩) ?_
 have H:_=some out:=H
 unfold cQ.f at H
 show dy _ cf Co m _ ⟨.fp [.bool s0.ak,ai.fz s0.aa,af.fz s0.ae] 0::af.fz aJ::nS [],[],h⟩ _
 refine qq ?_
 obtain⟨aH,h0,e0,o0⟩:=gL (cs:=[.fp [.bool s0.ak,ai.fz s0.aa,af.fz s0.ae] 0]) o (by kernel_rfl)
 refine qr [.a 0 e0] <| qq ?_
 obtain⟨x0,e1,H⟩:=bj H
 obtain⟨ck,h1,e2,o1⟩:=wO (P:=Try.prog) (E:=af) (z:=(0:Int)) (zv:=.int .i64 (0:Int)) gg o0 3 rfl rfl rfl rfl e1
 refine qr [.a 2 e2] <| qq ?_
 obtain⟨Ts,e3,H⟩:=bj H
 obtain⟨h2,e4,o2⟩:=Iq (P:=Try.prog) (E:=af) (l:=x0) (s:=aJ) (q:=0) (t2:=33) gg o1 rfl (KA (E:=af)) rfl (No _) e3
 refine qr [.a 2 e4] <| qq ?_
 obtain⟨x1,e5,H⟩:=bj H
 obtain⟨h3,e6,o3⟩:=Qw _ _ _ e5 h2 _ _ _ (o2) 58 [.ptr aH 0] [.fp [.fp [.bool s0.ak,ai.fz s0.aa,af.fz s0.ae] 0] 0] rfl (fun h' tH y0 r hr hx=>Qx y0 _ r hr h' tH hx) (fun h' K' o'=>iX (ah (dV (q:=(K'.length+0)) o' (jH rfl) (ah (fh (pure_cons (cp) (pure_cons (bK.bo (E:=ai) (l:=s0.aa)) (pure_cons (bK.bo (E:=af) (l:=s0.ae)) (pure_nil))))) (aw))) (aw))) (fun h_=>iX (ah (fh (pure_cons (l8 (pure_cons (cp) (pure_cons (bK.bo (E:=ai) (l:=s0.aa)) (pure_cons (bK.bo (E:=af) (l:=s0.ae)) (pure_nil))))) (pure_nil))) (aw))) [.rs ck 0 x0.length 1,.fn 58 [.ptr aH 0]] (au (rfl) (au (rfl) (bN)))
 refine qr [.a 2 e6] ?_
 have o4:Has h3 ((ck,.sl x1.length 1 (af.l x1))::L):=Has.del o3 1
 refine qq ?_
 obtain⟨h4,e7,o5⟩:=Ku (l:=x1) Qy o4
 obtain rfl:=oi H
 exact qr [.a 1 e7] <| qq <| q0 <| qt <| ⟨.inl rfl,⟨ck,by rw [lz]; kernel_rfl,he (by simpa only [lz] using o5)⟩⟩
end
end Go.Proofs.Ytifafejidnjckaa
namespace Go.Proofs.Ytifafejidnjckaa
open Go Go.R
open Go.IntKind (i64 u64 u8 u32)
def Cp:bY:=gK [0,1,2,4,5,6,7] [] [102,31] [] []
def eK.f (m:Nat)(s0:ab)(cF:ByteArray)(n0:Int):Option (Int × Int × ab):=(cm.f m s0 (de.f m cF n0) (aj.mk (4:Int) n0 cF ([]))).bind fun x0=>some (x0.1,x0.2.1,x0.2.2)
def eK.fin (L:Mem)(aq:Nat)(an:Nat)(ao:Nat)(s0:ab)(cF:ByteArray)(n0:Int)(r:Int × Int × ab)(s:St):Prop:=∃aD aE:Nat,aM Try.prog (s.open Cp) Try.f35.results.toList=some (.tup [.int .i64 r.1,.int .i64 r.2.1])∧Has s.h ((aq,.ob [.bool r.2.2.ak,.rs aD 0 r.2.2.aa.length 4,.rs aE 0 r.2.2.ae.length 1])::(aD,.sl r.2.2.aa.length 4 (ai.l r.2.2.aa))::(aE,.sl r.2.2.ae.length 1 (af.l r.2.2.ae))::L)
def Tt (cf:CallF)(m:Nat):Prop:=∀(s0:ab) (cF:ByteArray) (n0:Int) (r:Int × Int × ab),eK.f m s0 cF n0=some r→∀h L (aq:Nat) (an:Nat) (ao:Nat),Has h ((aq,.ob [.bool s0.ak,.rs an 0 s0.aa.length 4,.rs ao 0 s0.ae.length 1])::(an,.sl s0.aa.length 4 (ai.l s0.aa))::(ao,.sl s0.ae.length 1 (af.l s0.ae))::L)→∀xs,xs.map aO=[.ptr aq 0,.str cF,.int .i64 n0]→∃aD aE h',cf 35 xs h=some (.tup [.int .i64 r.1,.int .i64 r.2.1],h')∧Has h' ((aq,.ob [.bool r.2.2.ak,.rs aD 0 r.2.2.aa.length 4,.rs aE 0 r.2.2.ae.length 1])::(aD,.sl r.2.2.aa.length 4 (ai.l r.2.2.aa))::(aE,.sl r.2.2.ae.length 1 (af.l r.2.2.ae))::L)
section
variable {cf:CallF}{m:Nat}
theorem mM {aW:FuncId→bY}(ha:aW 35=Cp)(xd:Ma cf m)(Qz:Tn cf m)(s0:ab)(cF:ByteArray)(n0:Int)(h:AHeap)(L:Mem)(aq:Nat)(an:Nat)(ao:Nat)  (o:Has h ((aq,.ob [.bool s0.ak,.rs an 0 s0.aa.length 4,.rs ao 0 s0.ae.length 1])::(an,.sl s0.aa.length 4 (ai.l s0.aa))::(ao,.sl s0.ae.length 1 (af.l s0.ae))::L)){out:Int × Int × ab}(H:eK.f m s0 cF n0=some out) :
  ∃r h',bb Try.prog aW cf m 35 [.ptr aq 0,.str cF,.int .i64 n0] h=some (r,h')∧∃aD aE:Nat,r = .tup [.int .i64 out.1,.int .i64 out.2.1]∧Has h' ((aq,.ob [.bool out.2.2.ak,.rs aD 0 out.2.2.aa.length 4,.rs aE 0 out.2.2.ae.length 1])::(aD,.sl out.2.2.aa.length 4 (ai.l out.2.2.aa))::(aE,.sl out.2.2.ae.length 1 (af.l out.2.2.ae))::L):=by
 refine ar (fn:=Try.f35) ha Try.func35 (by kernel_rfl) (by kernel_rfl) ?_
 refine aG (Q:=fun s=>eK.fin L aq an ao s0 cF n0 out s) (fun _ _ ⟨h1,aD,aE,h2,h3⟩=>⟨h1,_,h2,aD,aE,rfl,h3⟩) ?_
 have H:_=some out:=H
 unfold eK.f at H
 show dy _ cf Cp m _ ⟨.ptr aq 0 :: .str cF :: .int .i64 n0::nZ [],[],h⟩ _
 refine qq ?_
 obtain⟨aH,h0,e0,o0⟩:=gL (cs:=[.str cF]) o (by kernel_rfl)
 obtain⟨ck,h1,e1,o1⟩:=gL (cs:=[.int .i64 n0]) o0 (by kernel_rfl)
 refine qr [.a 0 e0,.a 1 e1] <| qq ?_
 obtain⟨x0,e2,H⟩:=bj H
 obtain⟨dX,dP,h2,e3,o2⟩:=xd _ _ _ _ e2 h1 _ _ _ _ ((Has.front (Has.front (Has.front (Has.front (Has.front o1 1 rfl) 1 rfl) 4 rfl) 4 rfl) 4 rfl)) 63 [.ptr aH 0,.ptr ck 0] [.fp [.str cF] 0,.fp [.int .i64 n0] 0] rfl (fun h' tH  r hr hx=>Qz _ _ r hr h' tH hx) (fun h' K' o'=>iX (ah (dV (q:=(K'.length+4)) o' (jH rfl) (ah (cq) (aw))) (ah (dV (q:=(K'.length+3)) o' (jH rfl) (ah (aT) (aw))) (aw)))) (fun h_=>iX (ah (fh (pure_cons (nk) (pure_nil))) (ah (fh (pure_cons (gF) (pure_nil))) (aw)))) [.ptr aq 0,.fn 63 [.ptr aH 0,.ptr ck 0],.agg [.int .i64 (4:Int),.int .i64 n0,.str cF,.nils]] (au (rfl) (au (rfl) (au (aP (oN (cN (bu) (cN (bu) (cN (lZ) (cN (sh (E:=af)) (oM))))))) (bN))))
 refine qr [.v 2 (show bC Try.prog h1 9 (.ptr aH 0)=some (.str cF) from cj (q:=1) (cs:=[.str cF]) o1 rfl (by kernel_rfl)),.v 3 (show bC Try.prog h1 3 (.ptr ck 0)=some (.int .i64 n0) from cj (q:=0) (cs:=[.int .i64 n0]) o1 rfl (by kernel_rfl)),.a 5 e3] ?_
 have o3:Has h2 ((aq,.ob [.bool x0.2.2.ak,.rs dX 0 x0.2.2.aa.length 4,.rs dP 0 x0.2.2.ae.length 1])::(dX,.sl x0.2.2.aa.length 4 (ai.l x0.2.2.aa))::(dP,.sl x0.2.2.ae.length 1 (af.l x0.2.2.ae))::(ck,.ob [.int .i64 n0])::L):=Has.del o2 4
 have o4:Has h2 ((aq,.ob [.bool x0.2.2.ak,.rs dX 0 x0.2.2.aa.length 4,.rs dP 0 x0.2.2.ae.length 1])::(dX,.sl x0.2.2.aa.length 4 (ai.l x0.2.2.aa))::(dP,.sl x0.2.2.ae.length 1 (af.l x0.2.2.ae))::L):=Has.del o3 3
 obtain rfl:=oi H
 exact qt <| ⟨.inl rfl,⟨dX,dP,by kernel_rfl,he o4⟩⟩
end
end Go.Proofs.Ytifafejidnjckaa
namespace Go.Proofs.Ytifafejidnjckaa
open Go Go.R
open Go.IntKind (i64 u64 u8 u32)
def Cq:bY:=gK [0,2] [] [2,1] [] []
def fY.f (m:Nat)(s0:ByteArray):Option (Bool):=if (s0.data.toList==(Yv #[124]).data.toList)=true then (some true) else (if (s0.data.toList==(Yv #[35]).data.toList)=true then (some true) else ((dn.f m s0 (97:Int) (122:Int)).bind fun x0=>some x0))
def fY.fin (L:Mem)(r:Bool)(s:St):Prop:=∃av,aM Try.prog (s.open Cq) Try.f50.results.toList=some av∧fj s.h av (.bool r)
def OE (cf:CallF)(m:Nat):Prop:=∀(s0:ByteArray) (r:Bool),fY.f m s0=some r→∀h xs,aQ bJ h xs [.str s0]→cf 50 xs h=some (.bool r,h)
section
variable {cf:CallF}{m:Nat}
theorem tM {aW:FuncId→bY}(ha:aW 50=Cq)(QB:Tp cf m)(s0:ByteArray)(h:AHeap)(L:Mem)  (o:Has h (L)){out:Bool}(H:fY.f m s0=some out) :
  ∃r h',bb Try.prog aW cf m 50 [.str s0] h=some (r,h')∧fj h' r (.bool out):=by
 refine ar (fn:=Try.f50) ha Try.func50 (by kernel_rfl) (by kernel_rfl) ?_
 refine aG (Q:=fun s=>fY.fin L out s) (fun _ _ h=>h) ?_
 have H:_=some out:=H
 unfold fY.f at H
 show dy _ cf Cq m _ ⟨[.str s0,.any],[],h⟩ _
 refine q1 <| qq ?_
 rcases ig H with⟨c0,H⟩| ⟨c0,H⟩
 ·obtain rfl:=oi H
  exact qr [.b 2 c0] <| qt <| ⟨.inl rfl,cX (.bool true) h (cV (aA))⟩
 ·rcases ig H with⟨c1,H⟩| ⟨c1,H⟩
  ·obtain rfl:=oi H
   exact qr [.b 2 c0,.b 6 c1] <| qt <| ⟨.inl rfl,cX (.bool true) h (cV (aA))⟩
  ·obtain⟨x0,e0,H⟩:=bj H
   obtain rfl:=oi H
   exact qr [.b 2 c0,.b 6 c1,.a 8 (QB _ _ _ _ e0 h _ (fq (ah (cq) (ah (aT) (ah (aT) (aw))))))] <| qt <| ⟨.inl rfl,cX (.bool x0) h (cV (aA))⟩
end
end Go.Proofs.Ytifafejidnjckaa
namespace Go.Proofs.Ytifafejidnjckaa
open Go Go.R
open Go.IntKind (i64 u64 u8 u32)
def Cr:bY:=gK [0,1,2,3] [] [8,7] [] []
def cK.f (m:Nat)(x0:ByteArray)(x1:List Int)(x2:ab):Option (Bool):=(fY.f m x0).bind fun x3=>if x3=true then (if (decide ((x1.length:Int)≥(1:Int)))=true then (if (decide ((x1.length:Int)≤(8:Int)))=true then ((eW.f m x1 (fun y0=>cL.f m y0 x2)).bind fun x4=>some (!x4)) else (some false)) else (some false)) else (some false)
def cK.fin (L:Mem)(r:Bool)(s:St):Prop:=∃av,aM Try.prog (s.open Cr) Try.f61.results.toList=some av∧fj s.h av (.bool r)
def Tu (cf:CallF)(m:Nat):Prop:=∀(x0:ByteArray) (x1:List Int) (x2:ab) (r:Bool),cK.f m x0 x1 x2=some r→∀h xs,aQ bJ h xs [.fp [.str x0] 0,.fp [af.fz x1] 0,.fp [.fp [.bool x2.ak,ai.fz x2.aa,af.fz x2.ae] 0] 0]→cf 61 xs h=some (.bool r,h)
section
variable {cf:CallF}{m:Nat}
theorem kY {aW:FuncId→bY}(ha:aW 61=Cr)(qG:OE cf m)(Ge:OD cf m)(QC:S5 cf m)(x0:ByteArray)(x1:List Int)(x2:ab)(h:AHeap)(L:Mem)  (o:Has h (L)){out:Bool}(H:cK.f m x0 x1 x2=some out) :
  ∃r h',bb Try.prog aW cf m 61 [.fp [.str x0] 0,.fp [af.fz x1] 0,.fp [.fp [.bool x2.ak,ai.fz x2.aa,af.fz x2.ae] 0] 0] h=some (r,h')∧fj h' r (.bool out):=by
 refine ar (fn:=Try.f61) ha Try.func61 (by kernel_rfl) (by kernel_rfl) ?_
 refine aG (Q:=fun s=>cK.fin L out s) (fun _ _ h=>h) ?_
 have H:_=some out:=H
 unfold cK.f at H
 show dy _ cf Cr m _ ⟨[.fp [.str x0] 0,.fp [af.fz x1] 0,.fp [.fp [.bool x2.ak,ai.fz x2.aa,af.fz x2.ae] 0] 0,.any],[],h⟩ _
 refine q1 <| qq ?_
 obtain⟨x3,e0,H⟩:=bj H
 rcases ig H with⟨c0,H⟩| ⟨c0,H⟩
 ·rcases ig H with⟨c1,H⟩| ⟨c1,H⟩
  ·rcases ig H with⟨c2,H⟩| ⟨c2,H⟩
   ·obtain⟨x4,e1,H⟩:=bj H
    obtain rfl:=oi H
    exact qr [.a 1 (qG _ _ e0 h _ (fq (ah (cq) (aw)))),.b 2 c0,.b 7 c1,.b 12 c2,.a 15 (Ge _ _ _ e1 62 [.fp [.fp [.bool x2.ak,ai.fz x2.aa,af.fz x2.ae] 0] 0] (fun h' tH y0 r hr hx=>QC y0 _ r hr h' tH hx) (fun h_=>iX (ah (fh (pure_cons (l8 (pure_cons (cp) (pure_cons (bK.bo (E:=ai) (l:=x2.aa)) (pure_cons (bK.bo (E:=af) (l:=x2.ae)) (pure_nil))))) (pure_nil))) (aw))) h _ (fq (ah (dW (E:=af)) (ah (rq (ah (fh (pure_cons (l8 (pure_cons (cp) (pure_cons (bK.bo (E:=ai) (l:=x2.aa)) (pure_cons (bK.bo (E:=af) (l:=x2.ae)) (pure_nil))))) (pure_nil))) (aw))) (aw)))))] <| qt <| ⟨.inl rfl,cX (.bool (!x4)) h (cV (aA))⟩
   ·obtain rfl:=oi H
    exact qr [.a 1 (qG _ _ e0 h _ (fq (ah (cq) (aw)))),.b 2 c0,.b 7 c1,.b 12 c2] <| qt <| ⟨.inl rfl,cX (.bool false) h (cV (aA))⟩
  ·obtain rfl:=oi H
   exact qr [.a 1 (qG _ _ e0 h _ (fq (ah (cq) (aw)))),.b 2 c0,.b 7 c1] <| qt <| ⟨.inl rfl,cX (.bool false) h (cV (aA))⟩
 ·obtain rfl:=oi H
  exact qr [.a 1 (qG _ _ e0 h _ (fq (ah (cq) (aw)))),.b 2 c0] <| qt <| ⟨.inl rfl,cX (.bool false) h (cV (aA))⟩
end
end Go.Proofs.Ytifafejidnjckaa
