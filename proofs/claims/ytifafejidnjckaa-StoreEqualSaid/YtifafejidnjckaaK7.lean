/- Part of the proof: Q32, Q37, Q41, Q42, Q47, Q48, Q51, Q54, Q55, Q59, Q62, Q64, Q68, Q71, Q73, Q75, Q78, Q79, Q81, Q85, Q90, Q95, Q96, Q97, Q98, Q102, Q105. -/
import Derived.Test.YtifafejidnjckaaK6
set_option linter.unusedVariables false
set_option linter.unusedSimpArgs false
set_option maxRecDepth 100000
open ByteArray renaming mk → Yv
open Eq renaming trans → YY
open List renaming length_set → XV
namespace Go.Proofs.Ytifafejidnjckaa
open Go Go.R
open Go.IntKind (i64 u64 u8 u32)
def yS:bY:=gK [0,1,5,6,7,8,9] [] [70,6,66,70,70] [] []
def bp.l0 (m:Nat)(aJ:List Int):Nat→Int→ab→Option (Int × ab)
 | 0,_,_=>none
 | k+1,x0,s1=>if (decide (x0<(aJ.length:Int)))=true then ((ix aJ x0).bind fun v0=>(ix s1.ae v0).bind fun v1=>bp.l0 m aJ k (i64.wrap (x0+(1:Int))) (ab.mk s1.ak s1.aa (s1.ae.set v0.toNat v0))) else (some ((x0,s1)))
def bp.f (m:Nat)(s0:ab)(aJ:List Int):Option (ab):=(bp.l0 m aJ m (0:Int) s0).bind fun bQ=>match bQ with | (x1,s2)=>some s2
def bp.fin (L:Mem)(aq:Nat)(an:Nat)(ao:Nat)(s0:ab)(aJ:List Int)(r:ab)(s:St):Prop:=∃aD aE:Nat,aM Try.prog (s.open yS) Try.f32.results.toList=some (.tup [])∧Has s.h ((aq,.ob [.bool r.ak,.rs aD 0 r.aa.length 4,.rs aE 0 r.ae.length 1])::(aD,.sl r.aa.length 4 (ai.l r.aa))::(aE,.sl r.ae.length 1 (af.l r.ae))::L)
def P5 (cf:CallF)(m:Nat):Prop:=∀(s0:ab) (aJ:List Int) (r:ab),bp.f m s0 aJ=some r→∀h L (aq:Nat) (an:Nat) (ao:Nat),Has h ((aq,.ob [.bool s0.ak,.rs an 0 s0.aa.length 4,.rs ao 0 s0.ae.length 1])::(an,.sl s0.aa.length 4 (ai.l s0.aa))::(ao,.sl s0.ae.length 1 (af.l s0.ae))::L)→∀xs,xs.map aO=[.ptr aq 0,af.fz aJ]→∃aD aE h',cf 32 xs h=some (.tup [],h')∧Has h' ((aq,.ob [.bool r.ak,.rs aD 0 r.aa.length 4,.rs aE 0 r.ae.length 1])::(aD,.sl r.aa.length 4 (ai.l r.aa))::(aE,.sl r.ae.length 1 (af.l r.ae))::L)
section
variable {cf:CallF}{m:Nat}
theorem bp.cO (L:Mem)(aq:Nat)(an:Nat)(ao:Nat)(s0:ab)(aJ:List Int)   : dF Try.prog cf yS m (sub [1,0,0] (bW Try.f32)) (fun k (σ:Int × ab)=>bp.l0 m aJ k σ.1 σ.2) (fun σ s=>match σ with | (x0,s1)=>∃aH ck h0,s=⟨[.ptr aq 0,.any,.any,af.fz aJ,.int .i64 (aJ.length:Int),.int .i64 x0,.any],[],h0⟩∧Has h0 ((aq,.ob [.bool s1.ak,.rs aH 0 s1.aa.length 4,.rs ck 0 s1.ae.length 1])::(aH,.sl s1.aa.length 4 (ai.l s1.aa))::(ck,.sl s1.ae.length 1 (af.l s1.ae))::L)) (fun out e s=>(e = .exit 0∧∃x0 s1,(x0,s1)=out∧∃nr FY DZ AF D0 aH ck h0,s=⟨[nr,.any,.any,FY,DZ,AF,D0],[],h0⟩∧Has h0 ((aq,.ob [.bool s1.ak,.rs aH 0 s1.aa.length 4,.rs ck 0 s1.ae.length 1])::(aH,.sl s1.aa.length 4 (ai.l s1.aa))::(ck,.sl s1.ae.length 1 (af.l s1.ae))::L))):=by
 refine k8 (fun _=>rfl) ?_
 rintro k ⟨x0,s1⟩ s out ⟨aH,ck,h0,rfl,o0⟩ H
 have H:bp.l0 m aJ (k+1) x0 s1=some out:=H
 refine q1 <| qq <| qc H (fun c0 H=>?_) (fun c0 H=>?_)
 ·refine qk <| qq <| qb 1 <| qq ?_
  obtain⟨v0,e0,H⟩:=bj H
  refine qr [.v 0 (fe (k:=.i64) (E:=af) (l:=aJ) gg e0),.v 1 (ie  (E:=af) (l:=aJ) h0 A3 e0 rfl)] ?_
  obtain⟨v1,e1,H⟩:=bj H
  obtain⟨h1,e2,o1⟩:=fG (P:=Try.prog) (tf:=3) (E:=af) (l:=s1.ae) (q:=2) (v:=v0) (x:=.int .i64 v0) o0 rfl Z3 e1 rfl rfl
  exact qr [.v 3 (show bC Try.prog h0 33 (.ptr aq 2)=some (.rs ck 0 s1.ae.length 1) from cj (q:=0) (cs:=[.bool s1.ak,.rs aH 0 s1.aa.length 4,.rs ck 0 s1.ae.length 1]) o0 rfl (by kernel_rfl)),.v 6 (bm (k:=.i64) (E:=af) (l:=s1.ae) (q:=2) gg o0 rfl e1),.w 7 e2] <| q0 <| ⟨(i64.wrap (x0+(1:Int)),(ab.mk s1.ak s1.aa (s1.ae.set v0.toNat v0))),⟨aH,ck,h1,(YY (b:=⟨[.ptr aq 0,.any,.any,af.fz aJ,.int .i64 (aJ.length:Int),.int .i64 (i64.wrap (x0+(1:Int))),.any],[],h1⟩) (by kernel_rfl) (by simp only [XV])),(by have o:Has h1 ((aq,.ob [.bool s1.ak,.rs aH 0 s1.aa.length 4,.rs ck 0 s1.ae.length 1])::(aH,.sl s1.aa.length 4 (ai.l s1.aa))::(ck,.sl s1.ae.length 1 (af.l (s1.ae.set v0.toNat v0)))::L):=o1; simpa only [XV] using o)⟩,H⟩
 ·exact qx 0 <| ⟨rfl,x0,s1,oi H,.ptr aq 0,af.fz aJ,.int .i64 (aJ.length:Int),.int .i64 x0,.bool (decide (x0<(aJ.length:Int))),aH,ck,h0,by kernel_rfl,o0⟩
theorem mE {aW:FuncId→bY}(ha:aW 32=yS)  (s0:ab)(aJ:List Int)(h:AHeap)(L:Mem)(aq:Nat)(an:Nat)(ao:Nat)  (o:Has h ((aq,.ob [.bool s0.ak,.rs an 0 s0.aa.length 4,.rs ao 0 s0.ae.length 1])::(an,.sl s0.aa.length 4 (ai.l s0.aa))::(ao,.sl s0.ae.length 1 (af.l s0.ae))::L)){out:ab}(H:bp.f m s0 aJ=some out) :
  ∃r h',bb Try.prog aW cf m 32 [.ptr aq 0,af.fz aJ] h=some (r,h')∧∃aD aE:Nat,r = .tup []∧Has h' ((aq,.ob [.bool out.ak,.rs aD 0 out.aa.length 4,.rs aE 0 out.ae.length 1])::(aD,.sl out.aa.length 4 (ai.l out.aa))::(aE,.sl out.ae.length 1 (af.l out.ae))::L):=by
 refine ar (fn:=Try.f32) ha Try.func32 (by kernel_rfl) (by kernel_rfl) ?_
 refine aG (Q:=fun s=>bp.fin L aq an ao s0 aJ out s) (fun _ _ ⟨h1,aD,aE,h2,h3⟩=>⟨h1,_,h2,aD,aE,rfl,h3⟩) ?_
 have H:_=some out:=H
 unfold bp.f at H
 show dy _ cf yS m _ ⟨.ptr aq 0::af.fz aJ::Aw [],[],h⟩ _
 refine q1 <| qb 0 ?_
 obtain⟨bQ,e3,H⟩:=bj H
 refine ql (bp.cO L aq an ao s0 aJ   ((0:Int),s0) _ _ ⟨an,ao,h,by kernel_rfl,o⟩ e3) ?_
 rintro e s ⟨rfl,x1,s2,rfl,g0,g1,g2,g3,g4,dX,dP,h2,rfl,o2⟩
 try dsimp only at H
 obtain rfl:=oi H
 exact⟨.inr rfl,⟨dX,dP,by kernel_rfl,he o2⟩⟩
end
end Go.Proofs.Ytifafejidnjckaa
namespace Go.Proofs.Ytifafejidnjckaa
open Go Go.R
open Go.IntKind (i64 u64 u8 u32)
def BU:bY:=gK [0,2] [] [2,1] [] []
def bL.f (m:Nat)(s0:ab):Option (Bool):=some s0.ak
def bL.fin (L:Mem)(r:Bool)(s:St):Prop:=∃av,aM Try.prog (s.open BU) Try.f37.results.toList=some av∧fj s.h av (.bool r)
def Ns (cf:CallF)(m:Nat):Prop:=∀(s0:ab) (r:Bool),bL.f m s0=some r→∀h xs,aQ bJ h xs [.fp [.bool s0.ak,ai.fz s0.aa,af.fz s0.ae] 0]→cf 37 xs h=some (.bool r,h)
section
variable {cf:CallF}{m:Nat}
theorem mF {aW:FuncId→bY}(ha:aW 37=BU)  (s0:ab)(h:AHeap)(L:Mem)  (o:Has h (L)){out:Bool}(H:bL.f m s0=some out) :
  ∃r h',bb Try.prog aW cf m 37 [.fp [.bool s0.ak,ai.fz s0.aa,af.fz s0.ae] 0] h=some (r,h')∧fj h' r (.bool out):=by
 refine ar (fn:=Try.f37) ha Try.func37 (by kernel_rfl) (by kernel_rfl) ?_
 refine aG (Q:=fun s=>bL.fin L out s) (fun _ _ h=>h) ?_
 have H:_=some out:=H
 unfold bL.f at H
 show dy _ cf BU m _ ⟨[.fp [.bool s0.ak,ai.fz s0.aa,af.fz s0.ae] 0,.any],[],h⟩ _
 obtain rfl:=oi H
 exact q1 <| qq <| q0 <| qt <| ⟨.inl rfl,cX (.bool s0.ak) h (cV (aA))⟩
end
end Go.Proofs.Ytifafejidnjckaa
namespace Go.Proofs.Ytifafejidnjckaa
open Go Go.R
open Go.IntKind (i64 u64 u8 u32)
def yT:bY:=gK [0,1,4,13] [] [12,4,12,11] [] []
def be.l0 (m:Nat)(s0:ab):Nat→Int→Option (Int)
 | 0,_=>none
 | k+1,n1=>(ix s0.ae n1).bind fun v0=>if (!(v0==n1))=true then ((ix s0.ae n1).bind fun v1=>be.l0 m s0 k v1) else (some (n1))
def be.f (m:Nat)(s0:ab)(n0:Int):Option (Int):=(be.l0 m s0 m n0).bind fun bQ=>match bQ with | n2=>some n2
def be.fin (L:Mem)(r:Int)(s:St):Prop:=∃av,aM Try.prog (s.open yT) Try.f41.results.toList=some av∧fj s.h av (.int .i64 r)
def Hz (cf:CallF)(m:Nat):Prop:=∀(s0:ab) (n0:Int) (r:Int),be.f m s0 n0=some r→∀h xs,aQ bJ h xs [.fp [.bool s0.ak,ai.fz s0.aa,af.fz s0.ae] 0,.int .i64 n0]→cf 41 xs h=some (.int .i64 r,h)
section
variable {cf:CallF}{m:Nat}
theorem be.cO (L:Mem)(s0:ab)   : dF Try.prog cf yT m (sub [1,0,0,0] (bW Try.f41)) (fun k (σ:Int)=>be.l0 m s0 k σ) (fun σ s=>match σ with | n1=>∃h0,s=⟨[.fp [.bool s0.ak,ai.fz s0.aa,af.fz s0.ae] 0,.int .i64 n1,.any,.any],[],h0⟩∧Has h0 (L)) (fun out e s=>(e = .exit 0∧∃n1,n1=out∧∃nr tE h0,s=⟨[nr,.int .i64 n1,.any,tE],[],h0⟩∧Has h0 (L))):=by
 refine k8 (fun _=>rfl) ?_
 rintro k n1 s out ⟨h0,rfl,o0⟩ H
 have H:be.l0 m s0 (k+1) n1=some out:=H
 refine qq <| qq ?_
 obtain⟨v0,e0,H⟩:=bj H
 refine qr [.v 5 (fe (k:=.i64) (E:=af) (l:=s0.ae) gg e0),.v 6 (ie  (E:=af) (l:=s0.ae) h0 A3 e0 rfl)] <| qc H (fun c0 H=>?_) (fun c0 H=>?_)
 ·refine qk <| qb 1 ?_
  obtain⟨v1,e1,H⟩:=bj H
  exact qr [.v 5 (fe (k:=.i64) (E:=af) (l:=s0.ae) gg e1),.v 6 (ie  (E:=af) (l:=s0.ae) h0 A3 e1 rfl)] <| ⟨v1,⟨h0,by kernel_rfl,o0⟩,H⟩
 ·exact qx 0 <| ⟨rfl,n1,oi H,.fp [.bool s0.ak,ai.fz s0.aa,af.fz s0.ae] 0,.bool (!(v0==n1)),h0,by kernel_rfl,o0⟩
theorem nt {aW:FuncId→bY}(ha:aW 41=yT)  (s0:ab)(n0:Int)(h:AHeap)(L:Mem)  (o:Has h (L)){out:Int}(H:be.f m s0 n0=some out) :
  ∃r h',bb Try.prog aW cf m 41 [.fp [.bool s0.ak,ai.fz s0.aa,af.fz s0.ae] 0,.int .i64 n0] h=some (r,h')∧fj h' r (.int .i64 out):=by
 refine ar (fn:=Try.f41) ha Try.func41 (by kernel_rfl) (by kernel_rfl) ?_
 refine aG (Q:=fun s=>be.fin L out s) (fun _ _ h=>h) ?_
 have H:_=some out:=H
 unfold be.f at H
 show dy _ cf yT m _ ⟨[.fp [.bool s0.ak,ai.fz s0.aa,af.fz s0.ae] 0,.int .i64 n0,.any,.any],[],h⟩ _
 refine q1 <| qq <| qb 0 ?_
 obtain⟨bQ,e2,H⟩:=bj H
 refine ql (be.cO L s0   n0 _ _ ⟨h,by kernel_rfl,o⟩ e2) ?_
 rintro e s ⟨rfl,n2,rfl,g0,g1,h1,rfl,o1⟩
 try dsimp only at H
 obtain rfl:=oi H
 exact q1 <| qt <| ⟨.inl rfl,cX (.int .i64 n2) h1 (cV (dc))⟩
end
end Go.Proofs.Ytifafejidnjckaa
namespace Go.Proofs.Ytifafejidnjckaa
open Go Go.R
open Go.IntKind (i64 u64 u8 u32)
def vu:bY:=gK [0,1,4,5,6,7,9,10,23,36,37,38,39,48] [14] [16380,16374,16358,16326,16070,16326,12742,8646,12678,12614,4422,12614,12742,12742,16379] [] []
def aK.l1 (m:Nat)(s0:ab)(v2:aj):Nat→(List Int)→(List (Int × Bool))→Int→Option ((List Int) × (List (Int × Bool)) × Int)
 | 0,_,_,_=>none
 | k+1,cw,fR,x1=>if (decide (x1<(v2.args.length:Int)))=true then ((ix v2.args x1).bind fun v3=>(be.f m s0 v3).bind fun x2=>if (!((uJ fR x2).1))=true then ((app 8 cw ([x2])).bind fun x3=>aK.l1 m s0 v2 k x3 (zL fR x2 true) (i64.wrap (x1+(1:Int)))) else (aK.l1 m s0 v2 k cw fR (i64.wrap (x1+(1:Int))))) else (some ((cw,fR,x1)))
def aK.l0 (m:Nat)(s0:ab):Nat→(List Int)→(List (Int × Bool))→Int→Option ((List Int) × (List (Int × Bool)) × Int)
 | 0,_,_,_=>none
 | k+1,bQ,en,k0=>if (decide (k0<(bQ.length:Int)))=true then ((ix bQ k0).bind fun v1=>(ix s0.aa v1).bind fun v2=>(aK.l1 m s0 v2 m bQ en (0:Int)).bind fun yU=>match yU with | (km,FZ,x4)=>aK.l0 m s0 k km FZ (i64.wrap (k0+(1:Int)))) else (some ((bQ,en,k0)))
def aK.f (m:Nat)(s0:ab)(n0:Int):Option ((List Int)):=(be.f m s0 n0).bind fun x0=>(ix ([x0]) (0:Int)).bind fun v0=>(aK.l0 m s0 m ([x0]) (zL ([]:List (Int × Bool)) v0 true) (0:Int)).bind fun F0=>match F0 with | (dk,Nt,k1)=>some dk
def aK.fin (L:Mem)  (r:(List Int))(s:St):Prop:=∃dh:Nat,aM Try.prog (s.open vu) Try.f42.results.toList=some (.rs dh 0 r.length 1)∧Has s.h ((dh,.sl r.length 1 (af.l r))::L)
def SZ (cf:CallF)(m:Nat):Prop:=∀(s0:ab) (n0:Int) (r:(List Int)),aK.f m s0 n0=some r→∀h L xs,Has h L→aQ bJ h xs [.fp [.bool s0.ak,ai.fz s0.aa,af.fz s0.ae] 0,.int .i64 n0]→∃dh h',cf 42 xs h=some (.rs dh 0 r.length 1,h')∧Has h' ((dh,.sl r.length 1 (af.l r))::L)∧∀j,j<h.next→h.ver j=h'.ver j
section
variable {cf:CallF}{m:Nat}
theorem aK.ko (L:Mem)(s0:ab)(ck:Nat)(k0:Int)(v2:aj)  (l9:Hz cf m):dF Try.prog cf vu m (sub [1,1,1,0,1,0,0,1,0,0,1,0,0] (bW Try.f42)) (fun k (σ:(List Int) × (List (Int × Bool)) × Int)=>aK.l1 m s0 v2 k σ.1 σ.2.1 σ.2.2) (fun σ s=>match σ with | (cw,fR,x1)=>∃dP h4,s=⟨.fp [.bool s0.ak,ai.fz s0.aa,af.fz s0.ae] 0 :: .any :: .any :: .rs dP 0 cw.length 1 :: .mp ck :: .int .i64 k0::nS [af.fz v2.args,.int .i64 (v2.args.length:Int),.int .i64 x1,.any,.any],[none],h4⟩∧Has h4 ((ck,.mp (AB fR))::(dP,.sl cw.length 1 (af.l cw))::L)) (fun out e s=>(e = .exit 2∧∃cw fR x1,(cw,fR,x1)=out∧∃KF AG AH F3 dP h4,s=⟨.fp [.bool s0.ak,ai.fz s0.aa,af.fz s0.ae] 0 :: .any :: .any :: .rs dP 0 cw.length 1 :: .mp ck :: .int .i64 k0::nS [KF,AG,AH,F3,.any],[none],h4⟩∧Has h4 ((ck,.mp (AB fR))::(dP,.sl cw.length 1 (af.l cw))::L))):=by
 refine k8 (fun _=>rfl) ?_
 rintro k ⟨cw,fR,x1⟩ s out ⟨dP,h4,rfl,o4⟩ H
 have H:aK.l1 m s0 v2 (k+1) cw fR x1=some out:=H
 refine q1 <| qq <| qc H (fun c1 H=>?_) (fun c1 H=>?_)
 ·refine qk <| qq <| qb 3 <| qq ?_
  obtain⟨v3,e7,H⟩:=bj H
  refine qr [.v 0 (fe (k:=.i64) (E:=af) (l:=v2.args) gg e7),.v 1 (ie  (E:=af) (l:=v2.args) h4 A3 e7 rfl)] <| qq ?_
  obtain⟨x2,e8,H⟩:=bj H
  refine qr [.a 2 (l9 _ _ _ e8 h4 _ (fq (ah (fh (pure_cons (cp) (pure_cons (bK.bo (E:=ai) (l:=s0.aa)) (pure_cons (bK.bo (E:=af) (l:=s0.ae)) (pure_nil))))) (ah (aT) (aw)))))] <| qq <| qr [.v 2 (show eR Try.prog h4 96 (.mp ck) (.int .i64 x2) false=some (.bool ((uJ fR x2).1)) from (PT (q:=0) (l:=fR) (k:=x2) KE o4 rfl).2)] <| qc H (fun c2 H=>?_) (fun c2 H=>?_)
  ·refine qq ?_
   obtain⟨h5,e9,o5⟩:=Nl (q:=0) (l:=fR) (k:=x2) (v:=true) KE o4 rfl
   refine qr [.w 2 e9] ?_
   obtain⟨x3,rv,H⟩:=bj H
   obtain⟨dQ,h6,uv,o6⟩:=iW (P:=Try.prog) (E:=af) (l:=cw) (q:=1) (t2:=33) (x:=.fz [.int .i64 x2] 1 true) (l2:=([x2])) gg o5 rfl (by kernel_rfl) rfl rv
   exact qr [.a 3 uv] <| q0 <| ⟨(x3,zL fR x2 true,i64.wrap (x1+(1:Int))),⟨dQ,h6,by kernel_rfl,o6⟩,H⟩
  ·exact qk <| q0 <| ⟨(cw,fR,i64.wrap (x1+(1:Int))),⟨dP,h4,by kernel_rfl,o4⟩,H⟩
 ·exact qx 2 <| ⟨rfl,cw,fR,x1,oi H,af.fz v2.args,.int .i64 (v2.args.length:Int),.int .i64 x1,.bool (decide (x1<(v2.args.length:Int))),dP,h4,by kernel_rfl,o4⟩
theorem aK.cO (L:Mem)(s0:ab)(ck:Nat)  (l9:Hz cf m):dF Try.prog cf vu m (sub [1,1,1,0,1,0,0] (bW Try.f42)) (fun k (σ:(List Int) × (List (Int × Bool)) × Int)=>aK.l0 m s0 k σ.1 σ.2.1 σ.2.2) (fun σ s=>match σ with | (bQ,en,k0)=>∃dX h3,s=⟨.fp [.bool s0.ak,ai.fz s0.aa,af.fz s0.ae] 0 :: .any :: .any :: .rs dX 0 bQ.length 1 :: .mp ck :: .int .i64 k0::vj [],[none],h3⟩∧Has h3 ((ck,.mp (AB en))::(dX,.sl bQ.length 1 (af.l bQ))::L)) (fun out e s=>(e = .exit 0∧∃bQ en k0,(bQ,en,k0)=out∧∃nr FY DZ F4 dX h3,s=⟨nr :: .any :: .any :: .rs dX 0 bQ.length 1::FY::DZ :: .any :: .any::F4::Aw [],[none],h3⟩∧Has h3 ((ck,.mp (AB en))::(dX,.sl bQ.length 1 (af.l bQ))::L))):=by
 refine k8 (fun _=>rfl) ?_
 rintro k ⟨bQ,en,k0⟩ s out ⟨dX,h3,rfl,o3⟩ H
 have H:aK.l0 m s0 (k+1) bQ en k0=some out:=H
 refine qq <| qq <| q0 <| qc H (fun c0 H=>?_) (fun c0 H=>?_)
 ·refine qk <| qq <| qb 1 <| qq ?_
  obtain⟨v1,e5,H⟩:=bj H
  obtain⟨v2,e6,H⟩:=bj H
  refine qr [.v 6 (bm (k:=.i64) (E:=af) (l:=bQ) (q:=1) gg o3 rfl e5),.v 7 (cM  (E:=af) (l:=bQ) (q:=1) o3 rfl A3 e5 rfl),.v 8 (fe (k:=.i64) (E:=ai) (l:=s0.aa) uK e6),.v 10 (qw  (E:=ai) (l:=s0.aa) (off:=3) h3 SQ e6 rfl)] <| qb 2 ?_
  obtain⟨yU,w7,H⟩:=bj H
  refine ql (aK.ko L s0 ck k0 v2  l9 (bQ,en,(0:Int)) _ _ ⟨dX,h3,by kernel_rfl,o3⟩ w7) ?_
  rintro e s ⟨rfl,km,FZ,x4,rfl,g0,g1,g2,g3,eZ,h7,rfl,o7⟩
  try dsimp only at H
  exact q0 <| ⟨(km,FZ,i64.wrap (k0+(1:Int))),⟨eZ,h7,by kernel_rfl,o7⟩,H⟩
 ·exact qx 0 <| ⟨rfl,bQ,en,k0,oi H,.fp [.bool s0.ak,ai.fz s0.aa,af.fz s0.ae] 0,.mp ck,.int .i64 k0,.bool (decide (k0<(bQ.length:Int))),dX,h3,by kernel_rfl,o3⟩
theorem ma {aW:FuncId→bY}(ha:aW 42=vu)(l9:Hz cf m)(s0:ab)(n0:Int)(h:AHeap)(L:Mem)  (o:Has h (L)){out:(List Int)}(H:aK.f m s0 n0=some out) :
  ∃r h',bb Try.prog aW cf m 42 [.fp [.bool s0.ak,ai.fz s0.aa,af.fz s0.ae] 0,.int .i64 n0] h=some (r,h')∧∃dh:Nat,r = .rs dh 0 out.length 1∧Has h' ((dh,.sl out.length 1 (af.l out))::L):=by
 refine ar (fn:=Try.f42) ha Try.func42 (by kernel_rfl) (by kernel_rfl) ?_
 refine aG (Q:=fun s=>aK.fin L out s) (fun _ _ ⟨h1,dh,h2,h3⟩=>⟨h1,_,h2,dh,rfl,h3⟩) ?_
 have H:_=some out:=H
 unfold aK.f at H
 show dy _ cf vu m _ ⟨.fp [.bool s0.ak,ai.fz s0.aa,af.fz s0.ae] 0 :: .int .i64 n0::uH [],[none],h⟩ _
 refine q1 <| qq ?_
 obtain⟨x0,e0,H⟩:=bj H
 obtain⟨aH,h0,e1,o0⟩:=BI (E:=af) (l:=[x0]) (cs:=[.int .i64 x0]) o (by kernel_rfl)
 refine qr [.a 2 (l9 _ _ _ e0 h _ (fq (ah (fh (pure_cons (cp) (pure_cons (bK.bo (E:=ai) (l:=s0.aa)) (pure_cons (bK.bo (E:=af) (l:=s0.ae)) (pure_nil))))) (ah (aT) (aw))))),.a 3 e1] <| qq ?_
 obtain⟨ck,h1,e2,o1⟩:=wS o0
 obtain⟨v0,e3,H⟩:=bj H
 obtain⟨h2,e4,o2⟩:=Nl (q:=0) (l:=([]:List (Int × Bool))) (k:=v0) (v:=true) KE o1 rfl
 refine qr [.m 0 e2,.v 2 (bm (k:=.i64) (E:=af) (l:=([x0])) (q:=1) gg o1 rfl e3),.v 3 (cM  (E:=af) (l:=([x0])) (q:=1) o1 rfl A3 e3 rfl),.w 4 e4] <| qq <| qq <| q0 <| qb 0 ?_
 obtain⟨F0,w8,H⟩:=bj H
 refine ql (aK.cO L s0 ck  l9 ([x0],zL ([]:List (Int × Bool)) v0 true,(0:Int)) _ _ ⟨aH,h2,(YY (b:=⟨.fp [.bool s0.ak,ai.fz s0.aa,af.fz s0.ae] 0 :: .any :: .any :: .rs aH 0 (([x0]:List Int).length) 1 :: .mp ck :: .int .i64 (0:Int)::vj [],[none],h2⟩) (by kernel_rfl) (by simp only [XV])),(by have o:Has h2 ((ck,.mp (AB (zL ([]:List (Int × Bool)) v0 true)))::(aH,.sl (([x0]:List Int).length) 1 (af.l ([x0])))::L):=o2; simpa only [XV] using o)⟩ w8) ?_
 rintro e s ⟨rfl,dk,Nt,k1,rfl,g4,g5,g6,g7,ju,h8,rfl,o8⟩
 try dsimp only at H
 refine q1 ?_
 have o9:Has h8 ((ju,.sl dk.length 1 (af.l dk))::L):=Has.del o8 0
 obtain rfl:=oi H
 exact qt <| ⟨.inl rfl,⟨ju,by kernel_rfl,he o9⟩⟩
end
end Go.Proofs.Ytifafejidnjckaa
namespace Go.Proofs.Ytifafejidnjckaa
open Go Go.R
open Go.IntKind (i64 u64 u8 u32)
def BV:bY:=gK [0,1,2,5,6,7,8,9,13,17,31] [5] [2036,1908,1999,1782,1999,1526,1999,1974,950,1974,1983,1999] [] []
def cm.f (m:Nat)(s0:ab)(F5:Option (Bool))(n0:aj):Option (Int × Int × ab):=(bL.f m s0).bind fun x0=>if (!x0)=true then (some ((0:Int),(6:Int),s0)) else ((F5 ).bind fun r0=>if (!r0)=true then (some ((0:Int),(1:Int),s0)) else (if (decide ((s0.aa.length:Int)≥(8000:Int)))=true then (some ((0:Int),(7:Int),s0)) else (jn (fun (σ:Int)=>match σ with | n1=>(app 56 s0.aa ([(aj.mk n0.kind n1 n0.label n0.args)])).bind fun x1=>(app 8 s0.ae ([(s0.aa.length:Int)])).bind fun x2=>some ((s0.aa.length:Int),(0:Int),(ab.mk s0.ak x1 x2))) fun zM=>(if (n0.kind==(0:Int))=true then (zM (s0.aa.length:Int)) else (zM n0.int)))))
def cm.fin (L:Mem)(aq:Nat)(an:Nat)(ao:Nat)(s0:ab)(F5:Option (Bool))(n0:aj)(r:Int × Int × ab)(s:St):Prop:=∃aD aE:Nat,aM Try.prog (s.open BV) Try.f47.results.toList=some (.tup [.int .i64 r.1,.int .i64 r.2.1])∧Has s.h ((aq,.ob [.bool r.2.2.ak,.rs aD 0 r.2.2.aa.length 4,.rs aE 0 r.2.2.ae.length 1])::(aD,.sl r.2.2.aa.length 4 (ai.l r.2.2.aa))::(aE,.sl r.2.2.ae.length 1 (af.l r.2.2.ae))::L)
def Ma (cf:CallF)(m:Nat):Prop:=∀(s0:ab) (F5:Option (Bool)) (n0:aj) (r:Int × Int × ab),cm.f m s0 F5 n0=some r→∀h L (aq:Nat) (an:Nat) (ao:Nat),Has h ((aq,.ob [.bool s0.ak,.rs an 0 s0.aa.length 4,.rs ao 0 s0.ae.length 1])::(an,.sl s0.aa.length 4 (ai.l s0.aa))::(ao,.sl s0.ae.length 1 (af.l s0.ae))::L)→∀(fk:FuncId) (aV cb:List AV),(aO (.fn fk aV) = .fn fk aV)→(∀(h:AHeap) (xs:List AV)  r,F5  = some r→aQ bJ h xs ([]++cb)→cf fk xs h=some (.bool r,h))→(∀h K,Has h (K++((aq,.ob [.bool s0.ak,.rs an 0 s0.aa.length 4,.rs ao 0 s0.ae.length 1])::(an,.sl s0.aa.length 4 (ai.l s0.aa))::(ao,.sl s0.ae.length 1 (af.l s0.ae))::L))→aQ cz h aV cb)→(∀h,aQ cz h cb cb)→∀xs,xs.map aO=[.ptr aq 0,.fn fk aV,.agg [.int .i64 n0.kind,.int .i64 n0.int,.str n0.label,af.fz n0.args]]→∃aD aE h',cf 47 xs h=some (.tup [.int .i64 r.1,.int .i64 r.2.1],h')∧Has h' ((aq,.ob [.bool r.2.2.ak,.rs aD 0 r.2.2.aa.length 4,.rs aE 0 r.2.2.ae.length 1])::(aD,.sl r.2.2.aa.length 4 (ai.l r.2.2.aa))::(aE,.sl r.2.2.ae.length 1 (af.l r.2.2.ae))::L)
section
variable {cf:CallF}{m:Nat}
theorem nu {aW:FuncId→bY}(ha:aW 47=BV)(AI:Ns cf m)(s0:ab)(F5:Option (Bool))(n0:aj)(h:AHeap)(L:Mem)(aq:Nat)(an:Nat)(ao:Nat)(fk:FuncId)(aV cb:List AV)  (rN:aO (.fn fk aV) = .fn fk aV)(hZ:∀(h:AHeap) (xs:List AV)  r,F5  = some r→aQ bJ h xs ([]++cb)→cf fk xs h=some (.bool r,h))(pJ:∀h K,Has h (K++((aq,.ob [.bool s0.ak,.rs an 0 s0.aa.length 4,.rs ao 0 s0.ae.length 1])::(an,.sl s0.aa.length 4 (ai.l s0.aa))::(ao,.sl s0.ae.length 1 (af.l s0.ae))::L))→aQ cz h aV cb)(ia:∀h,aQ cz h cb cb)(o:Has h ((aq,.ob [.bool s0.ak,.rs an 0 s0.aa.length 4,.rs ao 0 s0.ae.length 1])::(an,.sl s0.aa.length 4 (ai.l s0.aa))::(ao,.sl s0.ae.length 1 (af.l s0.ae))::L)){out:Int × Int × ab}(H:cm.f m s0 F5 n0=some out) :
  ∃r h',bb Try.prog aW cf m 47 [.ptr aq 0,.fn fk aV,.agg [.int .i64 n0.kind,.int .i64 n0.int,.str n0.label,af.fz n0.args]] h=some (r,h')∧∃aD aE:Nat,r = .tup [.int .i64 out.1,.int .i64 out.2.1]∧Has h' ((aq,.ob [.bool out.2.2.ak,.rs aD 0 out.2.2.aa.length 4,.rs aE 0 out.2.2.ae.length 1])::(aD,.sl out.2.2.aa.length 4 (ai.l out.2.2.aa))::(aE,.sl out.2.2.ae.length 1 (af.l out.2.2.ae))::L):=by
 refine ar (fn:=Try.f47) ha Try.func47 (by kernel_rfl) (by kernel_rfl) ?_
 refine aG (Q:=fun s=>cm.fin L aq an ao s0 F5 n0 out s) (fun _ _ ⟨h1,aD,aE,h2,h3⟩=>⟨h1,_,h2,aD,aE,rfl,h3⟩) ?_
 have H:_=some out:=H
 unfold cm.f at H
 show dy _ cf BV m _ ⟨.ptr aq 0 :: .fn fk aV :: .agg [.int .i64 n0.kind,.int .i64 n0.int,.str n0.label,af.fz n0.args]::vj [],[none],h⟩ _
 refine q1 <| qq <| qb 0 <| qq ?_
 obtain⟨x0,e0,H⟩:=bj H
 refine qr [.a 1 (AI _ _ e0 h _ (fq (ah (dV (q:=0) o rfl (ah (fB) (ah (dK (E:=ai) (l:=s0.aa) (q:=1) o rfl (fun _=>rfl)) (ah (dK (E:=af) (l:=s0.ae) (q:=2) o rfl (fun _=>rfl)) (aw))))) (aw))))] <| qc H (fun c0 H=>?_) (fun c0 H=>?_)
 ·obtain rfl:=oi H
  exact q1 <| qt <| ⟨.inl rfl,⟨an,ao,by kernel_rfl,he o⟩⟩
 ·refine qq ?_
  obtain⟨r0,e1,H⟩:=bj H
  refine qr [.a 1 (hZ _ _ _ e1 (Ir (aw) (pJ h [] o)))] <| qc H (fun c1 H=>?_) (fun c1 H=>?_)
  ·obtain rfl:=oi H
   exact q1 <| qt <| ⟨.inl rfl,⟨an,ao,by kernel_rfl,he o⟩⟩
  ·refine qs [.v 3 (show bC Try.prog h 40 (.ptr aq 1)=some (.rs an 0 s0.aa.length 4) from cj (q:=0) (cs:=[.bool s0.ak,.rs an 0 s0.aa.length 4,.rs ao 0 s0.ae.length 1]) o rfl (by kernel_rfl))] <| qc H (fun c2 H=>?_) (fun c2 H=>?_)
   ·obtain rfl:=oi H
    exact q1 <| qt <| ⟨.inl rfl,⟨an,ao,by kernel_rfl,he o⟩⟩
   ·refine qk <| qq <| qr [.v 3 (show bC Try.prog h 40 (.ptr aq 1)=some (.rs an 0 s0.aa.length 4) from cj (q:=0) (cs:=[.bool s0.ak,.rs an 0 s0.aa.length 4,.rs ao 0 s0.ae.length 1]) o rfl (by kernel_rfl))] ?_
    obtain⟨zM,Jx,H⟩:=pF H
    refine qj (S:=fun (σ:Int) s=>match σ with | n1=>∃(g0:AV) (h0:AHeap),s=⟨.ptr aq 0 :: .any :: .any :: .lp 5 0 :: .any :: .any :: .int .i64 (s0.aa.length:Int)::nS [g0],[some [.int .i64 n0.kind,.int .i64 n1,.str n0.label,af.fz n0.args]],h0⟩∧Has h0 ((aq,.ob [.bool s0.ak,.rs an 0 s0.aa.length 4,.rs ao 0 s0.ae.length 1])::(an,.sl s0.aa.length 4 (ai.l s0.aa))::(ao,.sl s0.ae.length 1 (af.l s0.ae))::L)) zM H ?_ ?_
    ·rintro n1 s ⟨g0,h0,rfl,o0⟩ H
     have H:=(Jx _).symm.trans H
     try dsimp only at H
     refine qq ?_
     obtain⟨x1,e2,H⟩:=bj H
     obtain⟨aH,h1,e3,o1⟩:=iW (P:=Try.prog) (E:=ai) (l:=s0.aa) (q:=1) (t2:=40) (x:=.fz [.int .i64 n0.kind,.int .i64 n1,.str n0.label,af.fz n0.args] 1 true) (l2:=([(aj.mk n0.kind n1 n0.label n0.args)])) uK o0 rfl (by kernel_rfl) rfl e2
     obtain⟨x2,e4,H⟩:=bj H
     obtain⟨ck,h2,e5,o2⟩:=iW (P:=Try.prog) (E:=af) (l:=s0.ae) (q:=2) (t2:=33) (x:=.fz [.int .i64 (s0.aa.length:Int)] 1 true) (l2:=([(s0.aa.length:Int)])) gg o1 rfl (by kernel_rfl) rfl e4
     obtain⟨h3,e6,o3⟩:=ov (P:=Try.prog) (t:=40) (off:=1) (q:=0) (cs:=[.bool s0.ak,.rs an 0 s0.aa.length 4,.rs ao 0 s0.ae.length 1]) (fI:=[.bool s0.ak,.rs aH 0 x1.length 4,.rs ao 0 s0.ae.length 1]) (x:=.rs aH 0 x1.length 4) o2 rfl (by kernel_rfl)
     obtain⟨h4,e7,o4⟩:=ov (P:=Try.prog) (t:=33) (off:=2) (q:=0) (cs:=[.bool s0.ak,.rs aH 0 x1.length 4,.rs ao 0 s0.ae.length 1]) (fI:=[.bool s0.ak,.rs aH 0 x1.length 4,.rs ck 0 x2.length 1]) (x:=.rs ck 0 x2.length 1) o3 rfl (by kernel_rfl)
     obtain rfl:=oi H
     exact Nj [] [.v 5 (show bC Try.prog h0 40 (.ptr aq 1)=some (.rs an 0 s0.aa.length 4) from cj (q:=0) (cs:=[.bool s0.ak,.rs an 0 s0.aa.length 4,.rs ao 0 s0.ae.length 1]) o0 rfl (by kernel_rfl)),.a 8 e3,.v 12 (show bC Try.prog h1 33 (.ptr aq 2)=some (.rs ao 0 s0.ae.length 1) from cj (q:=0) (cs:=[.bool s0.ak,.rs an 0 s0.aa.length 4,.rs ao 0 s0.ae.length 1]) o1 rfl (by kernel_rfl)),.a 15 e5,.w 18 e6,.w 21 e7] [.mk (AA o0 (q:=1) rfl (q2:=0) rfl (by decide) e3)] <| qq <| q0 <| qt <| ⟨.inl rfl,⟨aH,ck,by kernel_rfl,he o4⟩⟩
    clear Jx
    intro uM
    refine q1 <| qc H (fun c3 H=>?_) (fun c3 H=>?_)
    ·exact q0 <| uM (s0.aa.length:Int) _ ⟨.any,h,by kernel_rfl,o⟩ H
    ·exact qk <| uM n0.int _ ⟨.bool (n0.kind==(0:Int)),h,by kernel_rfl,o⟩ H
end
end Go.Proofs.Ytifafejidnjckaa
namespace Go.Proofs.Ytifafejidnjckaa
open Go Go.R
open Go.IntKind (i64 u64 u8 u32)
def BW:bY:=gK [0] [] [1] [] []
def eo.f (m:Nat)  : Option (Bool):=some true
def eo.fin (L:Mem)(r:Bool)(s:St):Prop:=∃av,aM Try.prog (s.open BW) Try.f48.results.toList=some av∧fj s.h av (.bool r)
def S3 (cf:CallF)(m:Nat):Prop:=∀ (r:Bool),eo.f m  = some r→∀h xs,aQ bJ h xs []→cf 48 xs h=some (.bool r,h)
section
variable {cf:CallF}{m:Nat}
theorem mb {aW:FuncId→bY}(ha:aW 48=BW)   (h:AHeap)(L:Mem)  (o:Has h (L)){out:Bool}(H:eo.f m  = some out) :
  ∃r h',bb Try.prog aW cf m 48 [] h=some (r,h')∧fj h' r (.bool out):=by
 refine ar (fn:=Try.f48) ha Try.func48 (by kernel_rfl) (by kernel_rfl) ?_
 refine aG (Q:=fun s=>eo.fin L out s) (fun _ _ h=>h) ?_
 have H:_=some out:=H
 unfold eo.f at H
 show dy _ cf BW m _ ⟨[.any],[],h⟩ _
 obtain rfl:=oi H
 exact q1 <| qq <| q0 <| qt <| ⟨.inl rfl,cX (.bool true) h (cV (aA))⟩
end
end Go.Proofs.Ytifafejidnjckaa
namespace Go.Proofs.Ytifafejidnjckaa
open Go Go.R
open Go.IntKind (i64 u64 u8 u32)
def BX:bY:=gK [0,1] [] [2,1] [] []
def dz.f (m:Nat)(x0:Int):Option (Bool):=if (decide (x0≥(-1099511627776:Int)))=true then (some (decide (x0≤(1099511627776:Int)))) else (some false)
def dz.fin (L:Mem)(r:Bool)(s:St):Prop:=∃av,aM Try.prog (s.open BX) Try.f51.results.toList=some av∧fj s.h av (.bool r)
def S4 (cf:CallF)(m:Nat):Prop:=∀(x0:Int) (r:Bool),dz.f m x0=some r→∀h xs,aQ bJ h xs [.fp [.int .i64 x0] 0]→cf 51 xs h=some (.bool r,h)
section
variable {cf:CallF}{m:Nat}
theorem mc {aW:FuncId→bY}(ha:aW 51=BX)  (x0:Int)(h:AHeap)(L:Mem)  (o:Has h (L)){out:Bool}(H:dz.f m x0=some out) :
  ∃r h',bb Try.prog aW cf m 51 [.fp [.int .i64 x0] 0] h=some (r,h')∧fj h' r (.bool out):=by
 refine ar (fn:=Try.f51) ha Try.func51 (by kernel_rfl) (by kernel_rfl) ?_
 refine aG (Q:=fun s=>dz.fin L out s) (fun _ _ h=>h) ?_
 have H:_=some out:=H
 unfold dz.f at H
 show dy _ cf BX m _ ⟨[.fp [.int .i64 x0] 0,.any],[],h⟩ _
 refine q1 <| qq ?_
 rcases ig H with⟨c0,H⟩| ⟨c0,H⟩
 ·obtain rfl:=oi H
  exact qr [.b 2 c0] <| qt <| ⟨.inl rfl,cX (.bool (decide (x0≤(1099511627776:Int)))) h (cV (aA))⟩
 ·obtain rfl:=oi H
  exact qr [.b 2 c0] <| qt <| ⟨.inl rfl,cX (.bool false) h (cV (aA))⟩
end
end Go.Proofs.Ytifafejidnjckaa
namespace Go.Proofs.Ytifafejidnjckaa
open Go Go.R
open Go.IntKind (i64 u64 u8 u32)
def BY:bY:=gK [0,1,4] [] [4,3] [] []
def cP.f (m:Nat)(s0:ab)(n0:Int):Option (Bool):=if (decide (n0≥(0:Int)))=true then (some (decide (n0<(s0.aa.length:Int)))) else (some false)
def cP.fin (L:Mem)(r:Bool)(s:St):Prop:=∃av,aM Try.prog (s.open BY) Try.f54.results.toList=some av∧fj s.h av (.bool r)
def P6 (cf:CallF)(m:Nat):Prop:=∀(s0:ab) (n0:Int) (r:Bool),cP.f m s0 n0=some r→∀h xs,aQ bJ h xs [.fp [.bool s0.ak,ai.fz s0.aa,af.fz s0.ae] 0,.int .i64 n0]→cf 54 xs h=some (.bool r,h)
section
variable {cf:CallF}{m:Nat}
theorem me {aW:FuncId→bY}(ha:aW 54=BY)  (s0:ab)(n0:Int)(h:AHeap)(L:Mem)  (o:Has h (L)){out:Bool}(H:cP.f m s0 n0=some out) :
  ∃r h',bb Try.prog aW cf m 54 [.fp [.bool s0.ak,ai.fz s0.aa,af.fz s0.ae] 0,.int .i64 n0] h=some (r,h')∧fj h' r (.bool out):=by
 refine ar (fn:=Try.f54) ha Try.func54 (by kernel_rfl) (by kernel_rfl) ?_
 refine aG (Q:=fun s=>cP.fin L out s) (fun _ _ h=>h) ?_
 have H:_=some out:=H
 unfold cP.f at H
 show dy _ cf BY m _ ⟨[.fp [.bool s0.ak,ai.fz s0.aa,af.fz s0.ae] 0,.int .i64 n0,.any],[],h⟩ _
 refine q1 <| qq ?_
 rcases ig H with⟨c0,H⟩| ⟨c0,H⟩
 ·obtain rfl:=oi H
  exact qr [.b 2 c0] <| qt <| ⟨.inl rfl,cX (.bool (decide (n0<(s0.aa.length:Int)))) h (cV (aA))⟩
 ·obtain rfl:=oi H
  exact qr [.b 2 c0] <| qt <| ⟨.inl rfl,cX (.bool false) h (cV (aA))⟩
end
end Go.Proofs.Ytifafejidnjckaa
namespace Go.Proofs.Ytifafejidnjckaa
open Go Go.R
open Go.IntKind (i64 u64 u8 u32)
def BZ:bY:=gK [0,1,2,3,4] [2,3] [19,15] [] []
def fK.f (m:Nat)(a0:aj)(b0:aj):Option (Bool):=if (!(a0.kind==b0.kind))=true then (some true) else (if (!(a0.int==b0.int))=true then (some true) else (if (!(a0.label.data.toList==b0.label.data.toList))=true then (some true) else (some (!((a0.args.length:Int)==(b0.args.length:Int))))))
def fK.fin (L:Mem)(r:Bool)(s:St):Prop:=∃av,aM Try.prog (s.open BZ) Try.f55.results.toList=some av∧fj s.h av (.bool r)
def P7 (cf:CallF)(m:Nat):Prop:=∀(a0:aj) (b0:aj) (r:Bool),fK.f m a0 b0=some r→∀h xs,aQ bJ h xs [.agg [.int .i64 a0.kind,.int .i64 a0.int,.str a0.label,af.fz a0.args],.agg [.int .i64 b0.kind,.int .i64 b0.int,.str b0.label,af.fz b0.args]]→cf 55 xs h=some (.bool r,h)
section
variable {cf:CallF}{m:Nat}
theorem pK {aW:FuncId→bY}(ha:aW 55=BZ)  (a0:aj)(b0:aj)(h:AHeap)(L:Mem)  (o:Has h (L)){out:Bool}(H:fK.f m a0 b0=some out) :
  ∃r h',bb Try.prog aW cf m 55 [.agg [.int .i64 a0.kind,.int .i64 a0.int,.str a0.label,af.fz a0.args],.agg [.int .i64 b0.kind,.int .i64 b0.int,.str b0.label,af.fz b0.args]] h=some (r,h')∧fj h' r (.bool out):=by
 refine ar (fn:=Try.f55) ha Try.func55 (by kernel_rfl) (by kernel_rfl) ?_
 refine aG (Q:=fun s=>fK.fin L out s) (fun _ _ h=>h) ?_
 have H:_=some out:=H
 unfold fK.f at H
 show dy _ cf BZ m _ ⟨.agg [.int .i64 a0.kind,.int .i64 a0.int,.str a0.label,af.fz a0.args] :: .agg [.int .i64 b0.kind,.int .i64 b0.int,.str b0.label,af.fz b0.args]::nS [],[none,none],h⟩ _
 refine q1 <| qq ?_
 rcases ig H with⟨c0,H⟩| ⟨c0,H⟩
 ·obtain rfl:=oi H
  exact qr [.b 5 c0] <| qt <| ⟨.inl rfl,cX (.bool true) h (cV (aA))⟩
 ·rcases ig H with⟨c1,H⟩| ⟨c1,H⟩
  ·obtain rfl:=oi H
   exact qr [.b 5 c0,.b 12 c1] <| qt <| ⟨.inl rfl,cX (.bool true) h (cV (aA))⟩
  ·rcases ig H with⟨c2,H⟩| ⟨c2,H⟩
   ·obtain rfl:=oi H
    exact qr [.b 5 c0,.b 12 c1,.b 19 c2] <| qt <| ⟨.inl rfl,cX (.bool true) h (cV (aA))⟩
   ·obtain rfl:=oi H
    exact qr [.b 5 c0,.b 12 c1,.b 19 c2] <| qt <| ⟨.inl rfl,cX (.bool (!((a0.args.length:Int)==(b0.args.length:Int)))) h (cV (aA))⟩
end
end Go.Proofs.Ytifafejidnjckaa
namespace Go.Proofs.Ytifafejidnjckaa
open Go Go.R
open Go.IntKind (i64 u64 u8 u32)
def B0:bY:=gK [0,1,4] [] [4,3] [] []
def cr.f (m:Nat)(s0:ab)(n0:Int):Option (Bool):=(ix s0.aa n0).bind fun v0=>some (v0.kind==(0:Int))
def cr.fin (L:Mem)(r:Bool)(s:St):Prop:=∃av,aM Try.prog (s.open B0) Try.f59.results.toList=some av∧fj s.h av (.bool r)
def P8 (cf:CallF)(m:Nat):Prop:=∀(s0:ab) (n0:Int) (r:Bool),cr.f m s0 n0=some r→∀h xs,aQ bJ h xs [.fp [.bool s0.ak,ai.fz s0.aa,af.fz s0.ae] 0,.int .i64 n0]→cf 59 xs h=some (.bool r,h)
section
variable {cf:CallF}{m:Nat}
theorem mG {aW:FuncId→bY}(ha:aW 59=B0)  (s0:ab)(n0:Int)(h:AHeap)(L:Mem)  (o:Has h (L)){out:Bool}(H:cr.f m s0 n0=some out) :
  ∃r h',bb Try.prog aW cf m 59 [.fp [.bool s0.ak,ai.fz s0.aa,af.fz s0.ae] 0,.int .i64 n0] h=some (r,h')∧fj h' r (.bool out):=by
 refine ar (fn:=Try.f59) ha Try.func59 (by kernel_rfl) (by kernel_rfl) ?_
 refine aG (Q:=fun s=>cr.fin L out s) (fun _ _ h=>h) ?_
 have H:_=some out:=H
 unfold cr.f at H
 show dy _ cf B0 m _ ⟨[.fp [.bool s0.ak,ai.fz s0.aa,af.fz s0.ae] 0,.int .i64 n0,.any],[],h⟩ _
 refine q1 <| qq ?_
 obtain⟨v0,e0,H⟩:=bj H
 obtain rfl:=oi H
 exact qr [.v 5 (fe (k:=.i64) (E:=ai) (l:=s0.aa) uK e0),.v 7 (qw  (E:=ai) (l:=s0.aa) (off:=0) h A3 e0 rfl)] <| qt <| ⟨.inl rfl,cX (.bool (v0.kind==(0:Int))) h (cV (aA))⟩
end
end Go.Proofs.Ytifafejidnjckaa
namespace Go.Proofs.Ytifafejidnjckaa
open Go Go.R
open Go.IntKind (i64 u64 u8 u32)
def B3:bY:=gK [0,1,3] [] [4,3] [] []
def cL.f (m:Nat)(a0:Int)(x0:ab):Option (Bool):=(cP.f m x0 a0).bind fun x1=>some (!x1)
def cL.fin (L:Mem)(r:Bool)(s:St):Prop:=∃av,aM Try.prog (s.open B3) Try.f62.results.toList=some av∧fj s.h av (.bool r)
def S5 (cf:CallF)(m:Nat):Prop:=∀(a0:Int) (x0:ab) (r:Bool),cL.f m a0 x0=some r→∀h xs,aQ bJ h xs [.int .i64 a0,.fp [.fp [.bool x0.ak,ai.fz x0.aa,af.fz x0.ae] 0] 0]→cf 62 xs h=some (.bool r,h)
section
variable {cf:CallF}{m:Nat}
theorem kp {aW:FuncId→bY}(ha:aW 62=B3)(KG:P6 cf m)(a0:Int)(x0:ab)(h:AHeap)(L:Mem)  (o:Has h (L)){out:Bool}(H:cL.f m a0 x0=some out) :
  ∃r h',bb Try.prog aW cf m 62 [.int .i64 a0,.fp [.fp [.bool x0.ak,ai.fz x0.aa,af.fz x0.ae] 0] 0] h=some (r,h')∧fj h' r (.bool out):=by
 refine ar (fn:=Try.f62) ha Try.func62 (by kernel_rfl) (by kernel_rfl) ?_
 refine aG (Q:=fun s=>cL.fin L out s) (fun _ _ h=>h) ?_
 have H:_=some out:=H
 unfold cL.f at H
 show dy _ cf B3 m _ ⟨[.int .i64 a0,.fp [.fp [.bool x0.ak,ai.fz x0.aa,af.fz x0.ae] 0] 0,.any],[],h⟩ _
 refine q1 <| qq ?_
 obtain⟨x1,e0,H⟩:=bj H
 obtain rfl:=oi H
 exact qr [.a 2 (KG _ _ _ e0 h _ (fq (ah (fh (pure_cons (cp) (pure_cons (bK.bo (E:=ai) (l:=x0.aa)) (pure_cons (bK.bo (E:=af) (l:=x0.ae)) (pure_nil))))) (ah (aT) (aw)))))] <| qt <| ⟨.inl rfl,cX (.bool (!x1)) h (cV (aA))⟩
end
end Go.Proofs.Ytifafejidnjckaa
namespace Go.Proofs.Ytifafejidnjckaa
open Go Go.R
open Go.IntKind (i64 u64 u8 u32)
def B4:bY:=gK [0,2] [] [2,1] [] []
def gw.f (m:Nat)(s0:ByteArray):Option (Bool):=if (s0.data.toList==(Yv #[112,114,111,99]).data.toList)=true then (some true) else (if (s0.data.toList==(Yv #[99,101,108,108]).data.toList)=true then (some true) else (some (s0.data.toList==(Yv #[112,111,114,116]).data.toList)))
def gw.fin (L:Mem)(r:Bool)(s:St):Prop:=∃av,aM Try.prog (s.open B4) Try.f64.results.toList=some av∧fj s.h av (.bool r)
def P9 (cf:CallF)(m:Nat):Prop:=∀(s0:ByteArray) (r:Bool),gw.f m s0=some r→∀h xs,aQ bJ h xs [.str s0]→cf 64 xs h=some (.bool r,h)
section
variable {cf:CallF}{m:Nat}
theorem rO {aW:FuncId→bY}(ha:aW 64=B4)  (s0:ByteArray)(h:AHeap)(L:Mem)  (o:Has h (L)){out:Bool}(H:gw.f m s0=some out) :
  ∃r h',bb Try.prog aW cf m 64 [.str s0] h=some (r,h')∧fj h' r (.bool out):=by
 refine ar (fn:=Try.f64) ha Try.func64 (by kernel_rfl) (by kernel_rfl) ?_
 refine aG (Q:=fun s=>gw.fin L out s) (fun _ _ h=>h) ?_
 have H:_=some out:=H
 unfold gw.f at H
 show dy _ cf B4 m _ ⟨[.str s0,.any],[],h⟩ _
 refine q1 <| qq ?_
 rcases ig H with⟨c0,H⟩| ⟨c0,H⟩
 ·obtain rfl:=oi H
  exact qr [.b 2 c0] <| qt <| ⟨.inl rfl,cX (.bool true) h (cV (aA))⟩
 ·rcases ig H with⟨c1,H⟩| ⟨c1,H⟩
  ·obtain rfl:=oi H
   exact qr [.b 2 c0,.b 6 c1] <| qt <| ⟨.inl rfl,cX (.bool true) h (cV (aA))⟩
  ·obtain rfl:=oi H
   exact qr [.b 2 c0,.b 6 c1] <| qt <| ⟨.inl rfl,cX (.bool (s0.data.toList==(Yv #[112,111,114,116]).data.toList)) h (cV (aA))⟩
end
end Go.Proofs.Ytifafejidnjckaa
namespace Go.Proofs.Ytifafejidnjckaa
open Go Go.R
open Go.IntKind (i64 u64 u8 u32)
def yV:bY:=gK [0,1,2,6,7,8,9,14,15,16,17,18,30] [8,9] [8184,8056,8183,6393,4345,6345,6297,2297,8183,6393,8183] [] []
def aF.l0 (m:Nat)(s0:List aj)(s1:List aj)(eq0:aj→aj→Option (Bool)):Nat→Int→Option (Sum Bool (Int))
 | 0,_=>none
 | k+1,x0=>if (decide (x0<(s0.length:Int)))=true then ((ix s0 x0).bind fun v0=>(ix s1 x0).bind fun v1=>(eq0 v0 v1).bind fun r0=>if (!r0)=true then (some (.inl false)) else (aF.l0 m s0 s1 eq0 k (i64.wrap (x0+(1:Int))))) else (some (.inr x0))
def aF.f (m:Nat)(s0:List aj)(s1:List aj)(eq0:aj→aj→Option (Bool)):Option (Bool):=if (!((s0.length:Int)==(s1.length:Int)))=true then (some false) else ((aF.l0 m s0 s1 eq0 m (0:Int)).bind fun bQ=>match bQ with | .inl r1=>some r1 | .inr x1=>some true)
def aF.fin (L:Mem)(r:Bool)(s:St):Prop:=∃av,aM Try.prog (s.open yV) Try.f68.results.toList=some av∧fj s.h av (.bool r)
def S9 (cf:CallF)(m:Nat):Prop:=∀(s0:List aj) (s1:List aj) (eq0:aj→aj→Option (Bool)) (r:Bool),aF.f m s0 s1 eq0=some r→∀(jk:FuncId) (bZ:List AV),(∀(h:AHeap) (xs:List AV) (a0:aj) (a1:aj) r,eq0 a0 a1=some r→aQ bJ h xs ([.agg [.int .i64 a0.kind,.int .i64 a0.int,.str a0.label,af.fz a0.args],.agg [.int .i64 a1.kind,.int .i64 a1.int,.str a1.label,af.fz a1.args]]++bZ)→cf jk xs h=some (.bool r,h))→(∀h,aQ cz h bZ bZ)→∀h xs,aQ bJ h xs [ai.fz s0,ai.fz s1,.fn jk bZ]→cf 68 xs h=some (.bool r,h)
section
variable {cf:CallF}{m:Nat}
theorem aF.cO (L:Mem)(jk:FuncId)(bZ:List AV)(s0:List aj)(s1:List aj)(eq0:aj→aj→Option (Bool))  (mH:∀(h:AHeap) (xs:List AV) (a0:aj) (a1:aj) r,eq0 a0 a1=some r→aQ bJ h xs ([.agg [.int .i64 a0.kind,.int .i64 a0.int,.str a0.label,af.fz a0.args],.agg [.int .i64 a1.kind,.int .i64 a1.int,.str a1.label,af.fz a1.args]]++bZ)→cf jk xs h=some (.bool r,h))(mI:∀h,aQ cz h bZ bZ)  : dF Try.prog cf yV m (sub [1,1,0,1,0,0] (bW Try.f68)) (fun k (σ:Int)=>aF.l0 m s0 s1 eq0 k σ) (fun σ s=>match σ with | x0=>∃h0,s=⟨.any::ai.fz s1 :: .fn jk bZ::Aw [ai.fz s0,.int .i64 (s0.length:Int),.int .i64 x0,.any,.any],[none,none],h0⟩∧Has h0 (L)) (fun out e s=>(e = .exit 0∧∃x0,.inr x0=out∧∃w6 KH KI Qa KJ Qb h0,s=⟨.any::w6::KH::Aw [KI,Qa,KJ,Qb,.any],[none,none],h0⟩∧Has h0 (L))∨(e = .ret∧∃r,.inl r=out∧aF.fin L r s)):=by
 refine k8 (fun _=>rfl) ?_
 rintro k x0 s out ⟨h0,rfl,o0⟩ H
 have H:aF.l0 m s0 s1 eq0 (k+1) x0=some out:=H
 refine q1 <| qq <| qc H (fun c1 H=>?_) (fun c1 H=>?_)
 ·refine qk <| qq <| qb 1 <| qq ?_
  obtain⟨v0,e0,H⟩:=bj H
  refine qr [.v 1 (fe (k:=.i64) (E:=ai) (l:=s0) uK e0),.v 2 (kj  (E:=ai) (l:=s0) h0 DX DY e0)] <| qq ?_
  obtain⟨v1,e1,H⟩:=bj H
  refine qr [.v 2 (fe (k:=.i64) (E:=ai) (l:=s1) uK e1),.v 3 (kj  (E:=ai) (l:=s1) h0 DX DY e1)] <| qq ?_
  obtain⟨r0,e2,H⟩:=bj H
  refine qr [.a 3 (mH _ _ _ _ _ e2 (Ir (ah (eh (ah (aT) (ah (aT) (ah (cq) (ah (dW (E:=af)) (aw)))))) (ah (eh (ah (aT) (ah (aT) (ah (cq) (ah (dW (E:=af)) (aw)))))) (aw))) (mI h0)))] <| qc H (fun c2 H=>?_) (fun c2 H=>?_)
  ·exact q1 <| qt <| Or.inr (⟨rfl,_,oi H,cX (.bool false) h0 (cV (aA))⟩)
  ·exact qk <| q0 <| ⟨i64.wrap (x0+(1:Int)),⟨h0,by kernel_rfl,o0⟩,H⟩
 ·exact qx 0 <| Or.inl (⟨rfl,x0,oi H,ai.fz s1,.fn jk bZ,ai.fz s0,.int .i64 (s0.length:Int),.int .i64 x0,.bool (decide (x0<(s0.length:Int))),h0,by kernel_rfl,o0⟩)
theorem jl {aW:FuncId→bY}(ha:aW 68=yV)  (s0:List aj)(s1:List aj)(eq0:aj→aj→Option (Bool))(h:AHeap)(L:Mem)(jk:FuncId)(bZ:List AV)  (mH:∀(h:AHeap) (xs:List AV) (a0:aj) (a1:aj) r,eq0 a0 a1=some r→aQ bJ h xs ([.agg [.int .i64 a0.kind,.int .i64 a0.int,.str a0.label,af.fz a0.args],.agg [.int .i64 a1.kind,.int .i64 a1.int,.str a1.label,af.fz a1.args]]++bZ)→cf jk xs h=some (.bool r,h))(mI:∀h,aQ cz h bZ bZ)(o:Has h (L)){out:Bool}(H:aF.f m s0 s1 eq0=some out) :
  ∃r h',bb Try.prog aW cf m 68 [ai.fz s0,ai.fz s1,.fn jk bZ] h=some (r,h')∧fj h' r (.bool out):=by
 refine ar (fn:=Try.f68) ha Try.func68 (by kernel_rfl) (by kernel_rfl) ?_
 refine aG (Q:=fun s=>aF.fin L out s) (fun _ _ h=>h) ?_
 have H:_=some out:=H
 unfold aF.f at H
 show dy _ cf yV m _ ⟨ai.fz s0::ai.fz s1 :: .fn jk bZ::Kp [],[none,none],h⟩ _
 refine q1 <| qq <| qq <| q0 <| qc H (fun c0 H=>?_) (fun c0 H=>?_)
 ·obtain rfl:=oi H
  exact q1 <| qt <| ⟨.inl rfl,cX (.bool false) h (cV (aA))⟩
 ·refine qk <| qq <| qq <| q0 <| qb 0 ?_
  obtain⟨bQ,e3,H⟩:=bj H
  refine ql (aF.cO L jk bZ s0 s1 eq0  mH mI  (0:Int) _ _ ⟨h,by kernel_rfl,o⟩ e3) ?_
  rintro e s (⟨rfl,x1,rfl,g0,g1,g2,g3,g4,g5,h1,rfl,o1⟩| ⟨rfl,r1,rfl,uL⟩)
  ·try dsimp only at H
   obtain rfl:=oi H
   exact q1 <| qt <| ⟨.inl rfl,cX (.bool true) h1 (cV (aA))⟩
  ·try dsimp only at H
   obtain rfl:=oi H
   exact⟨.inl rfl,uL⟩
end
end Go.Proofs.Ytifafejidnjckaa
namespace Go.Proofs.Ytifafejidnjckaa
open Go Go.R
open Go.IntKind (i64 u64 u8 u32)
def yW:bY:=gK [0,1,4,5,10,12,13,14,24] [] [508,492,507,412,284,404,156,507,412,507] [] []
def bG.l0 (m:Nat)(s0:List Int)(s1:List Int):Nat→Int→Option (Sum Bool (Int))
 | 0,_=>none
 | k+1,x0=>if (decide (x0<(s0.length:Int)))=true then ((ix s0 x0).bind fun v0=>(ix s1 x0).bind fun v1=>if (!(v0==v1))=true then (some (.inl false)) else (bG.l0 m s0 s1 k (i64.wrap (x0+(1:Int))))) else (some (.inr x0))
def bG.f (m:Nat)(s0:List Int)(s1:List Int):Option (Bool):=if (!((s0.length:Int)==(s1.length:Int)))=true then (some false) else ((bG.l0 m s0 s1 m (0:Int)).bind fun bQ=>match bQ with | .inl r0=>some r0 | .inr x1=>some true)
def bG.fin (L:Mem)(r:Bool)(s:St):Prop:=∃av,aM Try.prog (s.open yW) Try.f71.results.toList=some av∧fj s.h av (.bool r)
def Ta (cf:CallF)(m:Nat):Prop:=∀(s0:List Int) (s1:List Int) (r:Bool),bG.f m s0 s1=some r→∀h xs,aQ bJ h xs [af.fz s0,af.fz s1]→cf 71 xs h=some (.bool r,h)
section
variable {cf:CallF}{m:Nat}
theorem bG.cO (L:Mem)(s0:List Int)(s1:List Int)   : dF Try.prog cf yW m (sub [1,1,0,1,0,0] (bW Try.f71)) (fun k (σ:Int)=>bG.l0 m s0 s1 k σ) (fun σ s=>match σ with | x0=>∃h0,s=⟨af.fz s0::af.fz s1::nS [.int .i64 (s0.length:Int),.int .i64 x0,.any,.any],[],h0⟩∧Has h0 (L)) (fun out e s=>(e = .exit 0∧∃x0,.inr x0=out∧∃nr w6 KK tE AE h0,s=⟨nr::w6::nS [KK,tE,AE,.any],[],h0⟩∧Has h0 (L))∨(e = .ret∧∃r,.inl r=out∧bG.fin L r s)):=by
 refine k8 (fun _=>rfl) ?_
 rintro k x0 s out ⟨h0,rfl,o0⟩ H
 have H:bG.l0 m s0 s1 (k+1) x0=some out:=H
 refine q1 <| qq <| qc H (fun c1 H=>?_) (fun c1 H=>?_)
 ·refine qk <| qq <| qb 1 <| qq <| q0 <| qq ?_
  obtain⟨v0,e0,H⟩:=bj H
  obtain⟨v1,e1,H⟩:=bj H
  refine qr [.v 2 (fe (k:=.i64) (E:=af) (l:=s0) gg e0),.v 3 (ie  (E:=af) (l:=s0) h0 A3 e0 rfl),.v 6 (fe (k:=.i64) (E:=af) (l:=s1) gg e1),.v 7 (ie  (E:=af) (l:=s1) h0 A3 e1 rfl)] <| qc H (fun c2 H=>?_) (fun c2 H=>?_)
  ·exact q1 <| qt <| Or.inr (⟨rfl,_,oi H,cX (.bool false) h0 (cV (aA))⟩)
  ·exact qk <| q0 <| ⟨i64.wrap (x0+(1:Int)),⟨h0,by kernel_rfl,o0⟩,H⟩
 ·exact qx 0 <| Or.inl (⟨rfl,x0,oi H,af.fz s0,af.fz s1,.int .i64 (s0.length:Int),.int .i64 x0,.bool (decide (x0<(s0.length:Int))),h0,by kernel_rfl,o0⟩)
theorem oR {aW:FuncId→bY}(ha:aW 71=yW)  (s0:List Int)(s1:List Int)(h:AHeap)(L:Mem)  (o:Has h (L)){out:Bool}(H:bG.f m s0 s1=some out) :
  ∃r h',bb Try.prog aW cf m 71 [af.fz s0,af.fz s1] h=some (r,h')∧fj h' r (.bool out):=by
 refine ar (fn:=Try.f71) ha Try.func71 (by kernel_rfl) (by kernel_rfl) ?_
 refine aG (Q:=fun s=>bG.fin L out s) (fun _ _ h=>h) ?_
 have H:_=some out:=H
 unfold bG.f at H
 show dy _ cf yW m _ ⟨af.fz s0::af.fz s1::FE [],[],h⟩ _
 refine q1 <| qq <| qq <| q0 <| qc H (fun c0 H=>?_) (fun c0 H=>?_)
 ·obtain rfl:=oi H
  exact q1 <| qt <| ⟨.inl rfl,cX (.bool false) h (cV (aA))⟩
 ·refine qk <| qq <| qq <| q0 <| qb 0 ?_
  obtain⟨bQ,e2,H⟩:=bj H
  refine ql (bG.cO L s0 s1   (0:Int) _ _ ⟨h,by kernel_rfl,o⟩ e2) ?_
  rintro e s (⟨rfl,x1,rfl,g0,g1,g2,g3,g4,h1,rfl,o1⟩| ⟨rfl,r0,rfl,uL⟩)
  ·try dsimp only at H
   obtain rfl:=oi H
   exact q1 <| qt <| ⟨.inl rfl,cX (.bool true) h1 (cV (aA))⟩
  ·try dsimp only at H
   obtain rfl:=oi H
   exact⟨.inl rfl,uL⟩
end
end Go.Proofs.Ytifafejidnjckaa
namespace Go.Proofs.Ytifafejidnjckaa
open Go Go.R
open Go.IntKind (i64 u64 u8 u32)
def yX:bY:=gK [0,1,2,3,4,5,7,8,9,10,11,12,14,24,53,54,55,56] [11,1000048] [262080,261696,253760,262079,261568,261574,260567,260567,258519,144855,13783,140759,144855,144855,261631,262079] [] [(8,[(12,none,1)])]
def bf.l0 (m:Nat)(x1:List Int)(x3:bc)(rec:Int→(List (Int × Int))→(List Int)→bc→bc→Option (Int × (List (Int × Int)) × bc))(v2:aj):Nat→(List Int)→Int→(List (Int × Int))→bc→Option ((List Int) × Int × (List (Int × Int)) × bc)
 | 0,_,_,_,_=>none
 | k+1,dR,x6,x7,x8=>if (decide (x6<(v2.args.length:Int)))=true then ((ix v2.args x6).bind fun v3=>(rec v3 x7 x1 x8 x3).bind fun x9=>(app 8 dR ([x9.1])).bind fun kz=>bf.l0 m x1 x3 rec v2 k kz (i64.wrap (x6+(1:Int))) x9.2.1 x9.2.2) else (some ((dR,x6,x7,x8)))
def bf.b (m:Nat)(rec:Int→(List (Int × Int))→(List Int)→bc→bc→Option (Int × (List (Int × Int)) × bc))(i0:Int)(x0:List (Int × Int))(x1:List Int)(x2:bc)(x3:bc):Option (Int × (List (Int × Int)) × bc):=(ix x1 i0).bind fun v0=>if ((mz x0 v0).2)=true then (some ((mz x0 v0).1,x0,x2)) else ((ix x1 i0).bind fun v1=>(ix x3.nodes i0).bind fun v2=>(app 56 x2.nodes [aj.mk v2.kind v2.int v2.label ([]:List Int)]).bind fun x5=>(bf.l0 m x1 x3 rec v2 m ([]:List Int) (0:Int) (xG x0 v1 (x2.nodes.length:Int)) (bc.mk x5 x2.root)).bind fun bQ=>match bQ with | (yY,zN,n5,tF)=>(ix tF.nodes (x2.nodes.length:Int)).bind fun v4=>some ((x2.nodes.length:Int),n5,(bc.mk (tF.nodes.set (x2.nodes.length:Int).toNat (aj.mk v4.kind v4.int v4.label yY)) tF.root)))
def bf.f (m:Nat):Nat→Int→(List (Int × Int))→(List Int)→bc→bc→Option (Int × (List (Int × Int)) × bc)
 | 0,_,_,_,_,_=>none
 | k+1,i0,x0,x1,x2,x3=>bf.b m (bf.f m k) i0 x0 x1 x2 x3
def bf.fin (L:Mem)(dA:Nat)(dS:Nat)(dB:Nat)(dd:Nat)(eO:Nat)(eX:List Nat)(dG:Nat)(dp:Nat)(i0:Int)(x0:List (Int × Int))(x1:List Int)(x2:bc)(x3:bc)(r:Int × (List (Int × Int)) × bc)(s:St):Prop:=∃(mA:Nat) (iA:List Nat),aM Try.prog (s.open yX) Try.f73.results.toList=some (.int .i64 r.1)∧Has s.h ((dA,.ob [.mp dS])::(dS,.mp (lL r.2.1))::(dB,.ob [af.fz x1])::(dd,.ob [.rs mA 0 r.2.2.nodes.length 4,.int .i64 r.2.2.root])::(mA,.sl r.2.2.nodes.length 4 (dH.l (ba r.2.2.nodes iA)))::(dG,.ob [ai.fz x3.nodes,.int .i64 x3.root])::(dp,.ob [.fn 73 [.ptr dA 0,.ptr dB 0,.ptr dd 0,.ptr dG 0,.ptr dp 0]])::(eQ r.2.2.nodes iA++L))
def OB (cf:CallF)(m:Nat)(kk:Nat):Prop:=∀(i0:Int) (x0:List (Int × Int)) (x1:List Int) (x2:bc) (x3:bc) (r:Int × (List (Int × Int)) × bc),bf.f m kk i0 x0 x1 x2 x3=some r→∀h L (dA:Nat) (dS:Nat) (dB:Nat) (dd:Nat) (eO:Nat) (eX:List Nat) (dG:Nat) (dp:Nat),Has h ((dA,.ob [.mp dS])::(dS,.mp (lL x0))::(dB,.ob [af.fz x1])::(dd,.ob [.rs eO 0 x2.nodes.length 4,.int .i64 x2.root])::(eO,.sl x2.nodes.length 4 (dH.l (ba x2.nodes eX)))::(dG,.ob [ai.fz x3.nodes,.int .i64 x3.root])::(dp,.ob [.fn 73 [.ptr dA 0,.ptr dB 0,.ptr dd 0,.ptr dG 0,.ptr dp 0]])::(eQ x2.nodes eX++L))→∀xs,xs.map aO=[.int .i64 i0,.ptr dA 0,.ptr dB 0,.ptr dd 0,.ptr dG 0,.ptr dp 0]→∃(mA:Nat) (iA:List Nat) (h':AHeap),cf 73 xs h=some (.int .i64 r.1,h')∧Has h' ((dA,.ob [.mp dS])::(dS,.mp (lL r.2.1))::(dB,.ob [af.fz x1])::(dd,.ob [.rs mA 0 r.2.2.nodes.length 4,.int .i64 r.2.2.root])::(mA,.sl r.2.2.nodes.length 4 (dH.l (ba r.2.2.nodes iA)))::(dG,.ob [ai.fz x3.nodes,.int .i64 x3.root])::(dp,.ob [.fn 73 [.ptr dA 0,.ptr dB 0,.ptr dd 0,.ptr dG 0,.ptr dp 0]])::(eQ r.2.2.nodes iA++L))
section
variable {cf:CallF}{m:Nat}
theorem bf.cO (L:Mem)(dA:Nat)(dS:Nat)(dB:Nat)(dd:Nat)(eO:Nat)(eX:List Nat)(dG:Nat)(dp:Nat)(i0:Int)(x0:List (Int × Int))(x1:List Int)(x2:bc)(x3:bc)(v2:aj)  {kk:Nat}(F6:OB cf m kk)  : dF Try.prog cf yX m (sub [1,1,1,1,1,1,1,0,1,0,0] (bW Try.f73)) (fun k (σ:(List Int) × Int × (List (Int × Int)) × bc)=>bf.l0 m x1 x3 (bf.f m kk) v2 k σ.1 σ.2.1 σ.2.2.1 σ.2.2.2) (fun σ s=>match σ with | (dR,x6,x7,x8)=>∃ck dX w9 h3,s=⟨nS (.ptr dd 0 :: .any :: .ptr dp 0::nS [.int .i64 (x2.nodes.length:Int),.any,.rs ck 0 dR.length 1,.any,.any,af.fz v2.args,.int .i64 (v2.args.length:Int),.int .i64 x6,.any]),[none,none],h3⟩∧Has h3 ((ck,.sl dR.length 1 (af.l dR))::(dX,.sl x8.nodes.length 4 (dH.l (ba x8.nodes w9)))::(dA,.ob [.mp dS])::(dS,.mp (lL x7))::(dB,.ob [af.fz x1])::(dd,.ob [.rs dX 0 x8.nodes.length 4,.int .i64 x8.root])::(dG,.ob [ai.fz x3.nodes,.int .i64 x3.root])::(dp,.ob [.fn 73 [.ptr dA 0,.ptr dB 0,.ptr dd 0,.ptr dG 0,.ptr dp 0]])::(eQ x8.nodes w9++L))) (fun out e s=>(e = .exit 0∧∃dR x6 x7 x8,(dR,x6,x7,x8)=out∧∃Nr AJ Qc Qd Qe ck dX w9 h3,s=⟨nS (.ptr dd 0 :: .any::Nr::nS [.int .i64 (x2.nodes.length:Int),.any,.rs ck 0 dR.length 1,.any,.any,AJ,Qc,Qd,Qe]),[none,none],h3⟩∧Has h3 ((ck,.sl dR.length 1 (af.l dR))::(dX,.sl x8.nodes.length 4 (dH.l (ba x8.nodes w9)))::(dA,.ob [.mp dS])::(dS,.mp (lL x7))::(dB,.ob [af.fz x1])::(dd,.ob [.rs dX 0 x8.nodes.length 4,.int .i64 x8.root])::(dG,.ob [ai.fz x3.nodes,.int .i64 x3.root])::(dp,.ob [.fn 73 [.ptr dA 0,.ptr dB 0,.ptr dd 0,.ptr dG 0,.ptr dp 0]])::(eQ x8.nodes w9++L)))):=by
 refine k8 (fun _=>rfl) ?_
 rintro k ⟨dR,x6,x7,x8⟩ s out ⟨ck,dX,w9,h3,rfl,o5⟩ H
 have H:bf.l0 m x1 x3 (bf.f m kk) v2 (k+1) dR x6 x7 x8=some out:=H
 refine q1 <| qq <| qc H (fun c1 H=>?_) (fun c1 H=>?_)
 ·refine qk <| qq <| qb 1 <| qq ?_
  obtain⟨v3,e7,H⟩:=bj H
  refine qr [.v 0 (fe (k:=.i64) (E:=af) (l:=v2.args) gg e7),.v 1 (ie  (E:=af) (l:=v2.args) h3 A3 e7 rfl)] ?_
  obtain⟨x9,e8,H⟩:=bj H
  obtain⟨dP,KL,h4,e9,o6⟩:=F6 _ _ _ _ _ _ e8 h3 _ _ _ _ _ _ w9 _ _ ((Has.lA (pre:=[(dA,.ob [.mp dS]),(dS,.mp (lL x7)),(dB,.ob [af.fz x1]),(dd,.ob [.rs dX 0 x8.nodes.length 4,.int .i64 x8.root]),(dX,.sl x8.nodes.length 4 (dH.l (ba x8.nodes w9))),(dG,.ob [ai.fz x3.nodes,.int .i64 x3.root]),(dp,.ob [.fn 73 [.ptr dA 0,.ptr dB 0,.ptr dd 0,.ptr dG 0,.ptr dp 0]])]) (mid:=[(ck,.sl dR.length 1 (af.l dR))]) (Has.front (Has.front (Has.front (Has.front (Has.front (Has.front (Has.front (Has.front o5 0 rfl) 7 rfl) 7 rfl) 3 rfl) 7 rfl) 7 rfl) 7 rfl) 7 rfl)))  [.int .i64 v3,.ptr dA 0,.ptr dB 0,.ptr dd 0,.ptr dG 0,.ptr dp 0] (au (aP (bu)) (au (rfl) (au (rfl) (au (rfl) (au (rfl) (au (rfl) (bN)))))))
  have o7:=Has.lA (pre:=[(dA,.ob [.mp dS]),(dS,.mp (lL x9.2.1)),(dB,.ob [af.fz x1]),(dd,.ob [.rs dP 0 x9.2.2.nodes.length 4,.int .i64 x9.2.2.root]),(dP,.sl x9.2.2.nodes.length 4 (dH.l (ba x9.2.2.nodes KL))),(dG,.ob [ai.fz x3.nodes,.int .i64 x3.root]),(dp,.ob [.fn 73 [.ptr dA 0,.ptr dB 0,.ptr dd 0,.ptr dG 0,.ptr dp 0]])]) (N:=[(ck,.sl dR.length 1 (af.l dR))]) (mid:=eQ x9.2.2.nodes KL) o6
  obtain⟨kz,rv,H⟩:=bj H
  obtain⟨dQ,h5,uv,o8⟩:=iW (P:=Try.prog) (E:=af) (l:=dR) (q:=7) (t2:=33) (x:=.fz [.int .i64 x9.1] 1 true) (l2:=([x9.1])) gg o7 rfl (by kernel_rfl) rfl rv
  exact qr [.v 1 (show bC Try.prog h3 80 (.ptr dp 0)=some (.fn 73 [.ptr dA 0,.ptr dB 0,.ptr dd 0,.ptr dG 0,.ptr dp 0]) from cj (q:=7) (cs:=[.fn 73 [.ptr dA 0,.ptr dB 0,.ptr dd 0,.ptr dG 0,.ptr dp 0]]) o5 rfl (by kernel_rfl)),.a 3 e9,.a 5 uv] <| q0 <| ⟨(kz,i64.wrap (x6+(1:Int)),x9.2.1,x9.2.2),⟨dQ,dP,KL,h5,by kernel_rfl,(Has.front (Has.front (Has.front (Has.front (Has.front (Has.front (Has.front (Has.front o8 6 rfl) 6 rfl) 5 rfl) 5 rfl) 5 rfl) 5 rfl) 6 rfl) 7 rfl)⟩,H⟩
 ·exact qx 0 <| ⟨rfl,dR,x6,x7,x8,oi H,.ptr dp 0,af.fz v2.args,.int .i64 (v2.args.length:Int),.int .i64 x6,.bool (decide (x6<(v2.args.length:Int))),ck,dX,w9,h3,by kernel_rfl,o5⟩
theorem pL {aW:FuncId→bY}(ha:aW 73=yX)  (i0:Int)(x0:List (Int × Int))(x1:List Int)(x2:bc)(x3:bc)(h:AHeap)(L:Mem)(dA:Nat)(dS:Nat)(dB:Nat)(dd:Nat)(eO:Nat)(eX:List Nat)(dG:Nat)(dp:Nat)  {kk:Nat}(F6:OB cf m kk)(o:Has h ((dA,.ob [.mp dS])::(dS,.mp (lL x0))::(dB,.ob [af.fz x1])::(dd,.ob [.rs eO 0 x2.nodes.length 4,.int .i64 x2.root])::(eO,.sl x2.nodes.length 4 (dH.l (ba x2.nodes eX)))::(dG,.ob [ai.fz x3.nodes,.int .i64 x3.root])::(dp,.ob [.fn 73 [.ptr dA 0,.ptr dB 0,.ptr dd 0,.ptr dG 0,.ptr dp 0]])::(eQ x2.nodes eX++L))){out:Int × (List (Int × Int)) × bc}(H:bf.f m (kk+1) i0 x0 x1 x2 x3=some out) :
  ∃r h',bb Try.prog aW cf m 73 [.int .i64 i0,.ptr dA 0,.ptr dB 0,.ptr dd 0,.ptr dG 0,.ptr dp 0] h=some (r,h')∧∃(mA:Nat) (iA:List Nat),r = .int .i64 out.1∧Has h' ((dA,.ob [.mp dS])::(dS,.mp (lL out.2.1))::(dB,.ob [af.fz x1])::(dd,.ob [.rs mA 0 out.2.2.nodes.length 4,.int .i64 out.2.2.root])::(mA,.sl out.2.2.nodes.length 4 (dH.l (ba out.2.2.nodes iA)))::(dG,.ob [ai.fz x3.nodes,.int .i64 x3.root])::(dp,.ob [.fn 73 [.ptr dA 0,.ptr dB 0,.ptr dd 0,.ptr dG 0,.ptr dp 0]])::(eQ out.2.2.nodes iA++L)):=by
 refine ar (fn:=Try.f73) ha Try.func73 (by kernel_rfl) (by kernel_rfl) ?_
 refine aG (Q:=fun s=>bf.fin L dA dS dB dd eO eX dG dp i0 x0 x1 x2 x3 out s) (fun _ _ ⟨h1,mA,iA,h2,h3⟩=>⟨h1,_,h2,mA,iA,rfl,h3⟩) ?_
 have H:bf.b m (bf.f m kk) i0 x0 x1 x2 x3=some out:=H
 unfold bf.b at H
 show dy _ cf yX m _ ⟨.int .i64 i0 :: .ptr dA 0 :: .ptr dB 0 :: .ptr dd 0 :: .ptr dG 0 :: .ptr dp 0::uH [],[none,none],h⟩ _
 refine q1 <| qq <| qq ?_
 obtain⟨v0,e0,H⟩:=bj H
 refine qr [.v 0 (show bC Try.prog h 82 (.ptr dA 0)=some (.mp dS) from cj (q:=0) (cs:=[.mp dS]) o rfl (by kernel_rfl)),.v 1 (show bC Try.prog h 33 (.ptr dB 0)=some (af.fz x1) from cj (q:=2) (cs:=[af.fz x1]) o rfl (by kernel_rfl)),.v 3 (fe (k:=.i64) (E:=af) (l:=x1) gg e0),.v 4 (ie  (E:=af) (l:=x1) h A3 e0 rfl),.v 5 (show eR Try.prog h 82 (.mp dS) (.int .i64 v0) true=some (.tup [.int .i64 ((mz x0 v0).1),.bool ((mz x0 v0).2)]) from (M9 (q:=1) (l:=x0) (k:=v0) Iu o rfl).1)] <| qq <| q0 <| qc H (fun c0 H=>?_) (fun c0 H=>?_)
 ·obtain rfl:=oi H
  exact q1 <| qt <| ⟨.inl rfl,⟨eO,eX,by kernel_rfl,he o⟩⟩
 ·refine qk <| qq <| qr [.v 1 (show bC Try.prog h 40 (.ptr dd 0)=some (.rs eO 0 x2.nodes.length 4) from cj (q:=3) (cs:=[.rs eO 0 x2.nodes.length 4,.int .i64 x2.root]) o rfl (by kernel_rfl))] <| qq ?_
  obtain⟨v1,e1,H⟩:=bj H
  obtain⟨h0,e2,o0⟩:=Na (q:=1) (l:=x0) (k:=v1) (v:=(x2.nodes.length:Int)) Iu o rfl
  refine qr [.v 0 (show bC Try.prog h 82 (.ptr dA 0)=some (.mp dS) from cj (q:=0) (cs:=[.mp dS]) o rfl (by kernel_rfl)),.v 1 (show bC Try.prog h 33 (.ptr dB 0)=some (af.fz x1) from cj (q:=2) (cs:=[af.fz x1]) o rfl (by kernel_rfl)),.v 3 (fe (k:=.i64) (E:=af) (l:=x1) gg e1),.v 4 (ie  (E:=af) (l:=x1) h A3 e1 rfl),.w 6 e2] <| qq ?_
  obtain⟨v2,e3,H⟩:=bj H
  refine qr [.v 1 (show bC Try.prog h0 40 (.ptr dG 0)=some (ai.fz x3.nodes) from cj (q:=5) (cs:=[ai.fz x3.nodes,.int .i64 x3.root]) o0 rfl (by kernel_rfl)),.v 3 (fe (k:=.i64) (E:=ai) (l:=x3.nodes) uK e3),.v 4 (kj  (E:=ai) (l:=x3.nodes) h0 DX DY e3)] <| qq ?_
  have o1:Has h0 (((0),.sl (([]:List Int).length) 1 (af.l ([]:List Int)))::(dA,.ob [.mp dS])::(dS,.mp (lL (xG x0 v1 (x2.nodes.length:Int))))::(dB,.ob [af.fz x1])::(dd,.ob [.rs eO 0 x2.nodes.length 4,.int .i64 x2.root])::(eO,.sl x2.nodes.length 4 (dH.l (ba x2.nodes eX)))::(dG,.ob [ai.fz x3.nodes,.int .i64 x3.root])::(dp,.ob [.fn 73 [.ptr dA 0,.ptr dB 0,.ptr dd 0,.ptr dG 0,.ptr dp 0]])::(eQ x2.nodes eX++L)):=Has.nil o0 1
  obtain⟨x5,e4,H⟩:=bj H
  obtain⟨aH,dY,h1,e5,o2⟩:=Kq (P:=Try.prog) (t2:=40) (pre:=[(dA,.ob [.mp dS]),(dS,.mp (lL (xG x0 v1 (x2.nodes.length:Int)))),(dB,.ob [af.fz x1]),(dd,.ob [.rs eO 0 x2.nodes.length 4,.int .i64 x2.root]),(dG,.ob [ai.fz x3.nodes,.int .i64 x3.root]),(dp,.ob [.fn 73 [.ptr dA 0,.ptr dB 0,.ptr dd 0,.ptr dG 0,.ptr dp 0]])]) (ns:=x2.nodes) (ids:=eX) (kind:=v2.kind) (int:=v2.int) (label:=v2.label) (args:=([]:List Int)) (x:=.fz [.int .i64 v2.kind,.int .i64 v2.int,.str v2.label,.rs (0) 0 (([]:List Int).length) 1] 1 true) uK (Has.front (Has.front (Has.front (Has.front (Has.front (Has.front (Has.front (Has.front o1 7 rfl) 7 rfl) 6 rfl) 6 rfl) 6 rfl) 6 rfl) 6 rfl) 7 rfl) (by kernel_rfl) rfl e4
  obtain⟨h2,e6,o3⟩:=ov (P:=Try.prog) (t:=40) (off:=0) (q:=4) (cs:=[.rs eO 0 x2.nodes.length 4,.int .i64 x2.root]) (fI:=[.rs aH 0 x5.length 4,.int .i64 x2.root]) (x:=.rs aH 0 x5.length 4) o2 rfl (by kernel_rfl)
  refine qr [.v 1 (show bC Try.prog h0 40 (.ptr dd 0)=some (.rs eO 0 x2.nodes.length 4) from cj (q:=3) (cs:=[.rs eO 0 x2.nodes.length 4,.int .i64 x2.root]) o0 rfl (by kernel_rfl)),.a 10 e5,.w 12 e6] <| qq <| q0 ?_
  have o4:Has h2 ((((0)),.sl (([]:List Int).length) 1 (af.l ([]:List Int)))::(aH,.sl x5.length 4 (dH.l (ba x5 dY)))::(dA,.ob [.mp dS])::(dS,.mp (lL (xG x0 v1 (x2.nodes.length:Int))))::(dB,.ob [af.fz x1])::(dd,.ob [.rs aH 0 x5.length 4,.int .i64 x2.root])::(dG,.ob [ai.fz x3.nodes,.int .i64 x3.root])::(dp,.ob [.fn 73 [.ptr dA 0,.ptr dB 0,.ptr dd 0,.ptr dG 0,.ptr dp 0]])::(eQ x5 dY++L)):=Has.nil o3 1
  refine qq <| qq <| q0 <| qb 0 ?_
  obtain⟨bQ,w7,H⟩:=bj H
  refine ql (bf.cO L dA dS dB dd eO eX dG dp i0 x0 x1 x2 x3 v2  F6  (([]:List Int),(0:Int),xG x0 v1 (x2.nodes.length:Int),(bc.mk x5 x2.root)) _ _ ⟨((0)),aH,dY,h2,by kernel_rfl,o4⟩ w7) ?_
  rintro e s ⟨rfl,yY,zN,n5,tF,rfl,g0,g1,g2,g3,g4,eZ,ju,Iw,h6,rfl,o9⟩
  try dsimp only at H
  refine qq ?_
  obtain⟨v4,w8,H⟩:=bj H
  obtain⟨h7,AK,xa⟩:=It (P:=Try.prog) (tf:=33) (pre:=[(dA,.ob [.mp dS]),(dS,.mp (lL n5)),(dB,.ob [af.fz x1]),(dd,.ob [.rs ju 0 tF.nodes.length 4,.int .i64 tF.root]),(dG,.ob [ai.fz x3.nodes,.int .i64 x3.root]),(dp,.ob [.fn 73 [.ptr dA 0,.ptr dB 0,.ptr dd 0,.ptr dG 0,.ptr dp 0]])]) (args:=yY) (Has.front (Has.front (Has.front (Has.front (Has.front (Has.front (Has.front (Has.front o9 7 rfl) 7 rfl) 7 rfl) 7 rfl) 7 rfl) 7 rfl) 6 rfl) 7 rfl) Vo w8
  obtain rfl:=oi H
  exact qr [.v 1 (show bC Try.prog h6 40 (.ptr dd 0)=some (.rs ju 0 tF.nodes.length 4) from cj (q:=5) (cs:=[.rs ju 0 tF.nodes.length 4,.int .i64 tF.root]) o9 rfl (by kernel_rfl)),.v 4 (bm (k:=.i64) (E:=dH) (l:=(ba tF.nodes Iw)) (q:=1) uK o9 rfl (si w8)),.w 6 AK] <| qq <| q0 <| qt <| ⟨.inl rfl,⟨ju,(w5 tF.nodes Iw (x2.nodes.length:Int) eZ),by kernel_rfl,he (by have o:Has h7 ((dA,.ob [.mp dS])::(dS,.mp (lL n5))::(dB,.ob [af.fz x1])::(dd,.ob [.rs ju 0 tF.nodes.length 4,.int .i64 tF.root])::(ju,.sl tF.nodes.length 4 (dH.l (ba (tF.nodes.set (x2.nodes.length:Int).toNat (aj.mk v4.kind v4.int v4.label yY)) (w5 tF.nodes Iw (x2.nodes.length:Int) eZ))))::(dG,.ob [ai.fz x3.nodes,.int .i64 x3.root])::(dp,.ob [.fn 73 [.ptr dA 0,.ptr dB 0,.ptr dd 0,.ptr dG 0,.ptr dp 0]])::(eQ (tF.nodes.set (x2.nodes.length:Int).toNat (aj.mk v4.kind v4.int v4.label yY)) (w5 tF.nodes Iw (x2.nodes.length:Int) eZ)++L)):=(Has.front (Has.front (Has.front (Has.front (Has.front (Has.front (Has.front xa 6 rfl) 6 rfl) 2 rfl) 6 rfl) 6 rfl) 6 rfl) 6 rfl); simpa only [XV] using o)⟩⟩
end
end Go.Proofs.Ytifafejidnjckaa
namespace Go.Proofs.Ytifafejidnjckaa
open Go Go.R
open Go.IntKind (i64 u64 u8 u32)
def yZ:bY:=gK [0,1,4,5,7,8,9,16] [] [252,204,140,196,68,251,204,251] [] []
def cY.l0 (m:Nat)(s0:List Int)(f0:Int→Option (Bool)):Nat→Int→Option (Sum Int (Int))
 | 0,_=>none
 | k+1,x0=>if (decide (x0<(s0.length:Int)))=true then ((ix s0 x0).bind fun v0=>(f0 v0).bind fun r0=>if r0=true then (some (.inl x0)) else (cY.l0 m s0 f0 k (i64.wrap (x0+(1:Int))))) else (some (.inr x0))
def cY.f (m:Nat)(s0:List Int)(f0:Int→Option (Bool)):Option (Int):=(cY.l0 m s0 f0 m (0:Int)).bind fun bQ=>match bQ with | .inl r1=>some r1 | .inr x1=>some (-1:Int)
def cY.fin (L:Mem)(r:Int)(s:St):Prop:=∃av,aM Try.prog (s.open yZ) Try.f75.results.toList=some av∧fj s.h av (.int .i64 r)
def Qf (cf:CallF)(m:Nat):Prop:=∀(s0:List Int) (f0:Int→Option (Bool)) (r:Int),cY.f m s0 f0=some r→∀(fk:FuncId) (aV:List AV),(∀(h:AHeap) (xs:List AV) (a0:Int) r,f0 a0=some r→aQ bJ h xs ([.int .i64 a0]++aV)→cf fk xs h=some (.bool r,h))→(∀h,aQ cz h aV aV)→∀h xs,aQ bJ h xs [af.fz s0,.fn fk aV]→cf 75 xs h=some (.int .i64 r,h)
section
variable {cf:CallF}{m:Nat}
theorem cY.cO (L:Mem)(fk:FuncId)(aV:List AV)(s0:List Int)(f0:Int→Option (Bool))  (hZ:∀(h:AHeap) (xs:List AV) (a0:Int) r,f0 a0=some r→aQ bJ h xs ([.int .i64 a0]++aV)→cf fk xs h=some (.bool r,h))(ia:∀h,aQ cz h aV aV)  : dF Try.prog cf yZ m (sub [1,0,1,0,0] (bW Try.f75)) (fun k (σ:Int)=>cY.l0 m s0 f0 k σ) (fun σ s=>match σ with | x0=>∃h0,s=⟨[af.fz s0,.fn fk aV,.any,.any,.int .i64 (s0.length:Int),.int .i64 x0,.any,.any],[],h0⟩∧Has h0 (L)) (fun out e s=>(e = .exit 0∧∃x0,.inr x0=out∧∃nr w6 DZ AF D0 h0,s=⟨[nr,w6,.any,.any,DZ,AF,D0,.any],[],h0⟩∧Has h0 (L))∨(e = .ret∧∃r,.inl r=out∧cY.fin L r s)):=by
 refine k8 (fun _=>rfl) ?_
 rintro k x0 s out ⟨h0,rfl,o0⟩ H
 have H:cY.l0 m s0 f0 (k+1) x0=some out:=H
 refine q1 <| qq <| qc H (fun c0 H=>?_) (fun c0 H=>?_)
 ·refine qk <| qq <| qb 1 <| qq <| q0 <| qq ?_
  obtain⟨v0,e0,H⟩:=bj H
  obtain⟨r0,e1,H⟩:=bj H
  refine qr [.v 3 (fe (k:=.i64) (E:=af) (l:=s0) gg e0),.v 4 (ie  (E:=af) (l:=s0) h0 A3 e0 rfl),.a 5 (hZ _ _ _ _ e1 (Ir (ah (aT) (aw)) (ia h0)))] <| qc H (fun c1 H=>?_) (fun c1 H=>?_)
  ·exact q1 <| qt <| Or.inr (⟨rfl,_,oi H,cX (.int .i64 x0) h0 (cV (dc))⟩)
  ·exact qk <| q0 <| ⟨i64.wrap (x0+(1:Int)),⟨h0,by kernel_rfl,o0⟩,H⟩
 ·exact qx 0 <| Or.inl (⟨rfl,x0,oi H,af.fz s0,.fn fk aV,.int .i64 (s0.length:Int),.int .i64 x0,.bool (decide (x0<(s0.length:Int))),h0,by kernel_rfl,o0⟩)
theorem xb {aW:FuncId→bY}(ha:aW 75=yZ)  (s0:List Int)(f0:Int→Option (Bool))(h:AHeap)(L:Mem)(fk:FuncId)(aV:List AV)  (hZ:∀(h:AHeap) (xs:List AV) (a0:Int) r,f0 a0=some r→aQ bJ h xs ([.int .i64 a0]++aV)→cf fk xs h=some (.bool r,h))(ia:∀h,aQ cz h aV aV)(o:Has h (L)){out:Int}(H:cY.f m s0 f0=some out) :
  ∃r h',bb Try.prog aW cf m 75 [af.fz s0,.fn fk aV] h=some (r,h')∧fj h' r (.int .i64 out):=by
 refine ar (fn:=Try.f75) ha Try.func75 (by kernel_rfl) (by kernel_rfl) ?_
 refine aG (Q:=fun s=>cY.fin L out s) (fun _ _ h=>h) ?_
 have H:_=some out:=H
 unfold cY.f at H
 show dy _ cf yZ m _ ⟨af.fz s0 :: .fn fk aV::xH [],[],h⟩ _
 refine q1 <| qq <| qq <| q0 <| qb 0 ?_
 obtain⟨bQ,e2,H⟩:=bj H
 refine ql (cY.cO L fk aV s0 f0  hZ ia  (0:Int) _ _ ⟨h,by kernel_rfl,o⟩ e2) ?_
 rintro e s (⟨rfl,x1,rfl,g0,g1,g2,g3,g4,h1,rfl,o1⟩| ⟨rfl,r1,rfl,uL⟩)
 ·try dsimp only at H
  obtain rfl:=oi H
  exact q1 <| qt <| ⟨.inl rfl,cX (.int .i64 (-1:Int)) h1 (cV (dc))⟩
 ·try dsimp only at H
  obtain rfl:=oi H
  exact⟨.inl rfl,uL⟩
end
end Go.Proofs.Ytifafejidnjckaa
namespace Go.Proofs.Ytifafejidnjckaa
open Go Go.R
open Go.IntKind (i64 u64 u8 u32)
def y4:bY:=gK [0,1,4,5,7,8,9,16] [] [252,204,140,196,68,251,204,251] [] []
def fC.l0 (m:Nat)(s0:List aj)(f0:aj→Option (Bool)):Nat→Int→Option (Sum Int (Int))
 | 0,_=>none
 | k+1,x0=>if (decide (x0<(s0.length:Int)))=true then ((ix s0 x0).bind fun v0=>(f0 v0).bind fun r0=>if r0=true then (some (.inl x0)) else (fC.l0 m s0 f0 k (i64.wrap (x0+(1:Int))))) else (some (.inr x0))
def fC.f (m:Nat)(s0:List aj)(f0:aj→Option (Bool)):Option (Int):=(fC.l0 m s0 f0 m (0:Int)).bind fun bQ=>match bQ with | .inl r1=>some r1 | .inr x1=>some (-1:Int)
def fC.fin (L:Mem)(r:Int)(s:St):Prop:=∃av,aM Try.prog (s.open y4) Try.f78.results.toList=some av∧fj s.h av (.int .i64 r)
def Tb (cf:CallF)(m:Nat):Prop:=∀(s0:List aj) (f0:aj→Option (Bool)) (r:Int),fC.f m s0 f0=some r→∀(fk:FuncId) (aV:List AV),(∀(h:AHeap) (xs:List AV) (a0:aj) r,f0 a0=some r→aQ bJ h xs ([.agg [.int .i64 a0.kind,.int .i64 a0.int,.str a0.label,af.fz a0.args]]++aV)→cf fk xs h=some (.bool r,h))→(∀h,aQ cz h aV aV)→∀h xs,aQ bJ h xs [ai.fz s0,.fn fk aV]→cf 78 xs h=some (.int .i64 r,h)
section
variable {cf:CallF}{m:Nat}
theorem fC.cO (L:Mem)(fk:FuncId)(aV:List AV)(s0:List aj)(f0:aj→Option (Bool))  (hZ:∀(h:AHeap) (xs:List AV) (a0:aj) r,f0 a0=some r→aQ bJ h xs ([.agg [.int .i64 a0.kind,.int .i64 a0.int,.str a0.label,af.fz a0.args]]++aV)→cf fk xs h=some (.bool r,h))(ia:∀h,aQ cz h aV aV)  : dF Try.prog cf y4 m (sub [1,0,1,0,0] (bW Try.f78)) (fun k (σ:Int)=>fC.l0 m s0 f0 k σ) (fun σ s=>match σ with | x0=>∃h0,s=⟨[ai.fz s0,.fn fk aV,.any,.any,.int .i64 (s0.length:Int),.int .i64 x0,.any,.any],[],h0⟩∧Has h0 (L)) (fun out e s=>(e = .exit 0∧∃x0,.inr x0=out∧∃nr w6 DZ AF D0 h0,s=⟨[nr,w6,.any,.any,DZ,AF,D0,.any],[],h0⟩∧Has h0 (L))∨(e = .ret∧∃r,.inl r=out∧fC.fin L r s)):=by
 refine k8 (fun _=>rfl) ?_
 rintro k x0 s out ⟨h0,rfl,o0⟩ H
 have H:fC.l0 m s0 f0 (k+1) x0=some out:=H
 refine q1 <| qq <| qc H (fun c0 H=>?_) (fun c0 H=>?_)
 ·refine qk <| qq <| qb 1 <| qq <| q0 <| qq ?_
  obtain⟨v0,e0,H⟩:=bj H
  obtain⟨r0,e1,H⟩:=bj H
  refine qr [.v 3 (fe (k:=.i64) (E:=ai) (l:=s0) uK e0),.v 4 (kj  (E:=ai) (l:=s0) h0 DX DY e0),.a 5 (hZ _ _ _ _ e1 (Ir (ah (eh (ah (aT) (ah (aT) (ah (cq) (ah (dW (E:=af)) (aw)))))) (aw)) (ia h0)))] <| qc H (fun c1 H=>?_) (fun c1 H=>?_)
  ·exact q1 <| qt <| Or.inr (⟨rfl,_,oi H,cX (.int .i64 x0) h0 (cV (dc))⟩)
  ·exact qk <| q0 <| ⟨i64.wrap (x0+(1:Int)),⟨h0,by kernel_rfl,o0⟩,H⟩
 ·exact qx 0 <| Or.inl (⟨rfl,x0,oi H,ai.fz s0,.fn fk aV,.int .i64 (s0.length:Int),.int .i64 x0,.bool (decide (x0<(s0.length:Int))),h0,by kernel_rfl,o0⟩)
theorem xc {aW:FuncId→bY}(ha:aW 78=y4)  (s0:List aj)(f0:aj→Option (Bool))(h:AHeap)(L:Mem)(fk:FuncId)(aV:List AV)  (hZ:∀(h:AHeap) (xs:List AV) (a0:aj) r,f0 a0=some r→aQ bJ h xs ([.agg [.int .i64 a0.kind,.int .i64 a0.int,.str a0.label,af.fz a0.args]]++aV)→cf fk xs h=some (.bool r,h))(ia:∀h,aQ cz h aV aV)(o:Has h (L)){out:Int}(H:fC.f m s0 f0=some out) :
  ∃r h',bb Try.prog aW cf m 78 [ai.fz s0,.fn fk aV] h=some (r,h')∧fj h' r (.int .i64 out):=by
 refine ar (fn:=Try.f78) ha Try.func78 (by kernel_rfl) (by kernel_rfl) ?_
 refine aG (Q:=fun s=>fC.fin L out s) (fun _ _ h=>h) ?_
 have H:_=some out:=H
 unfold fC.f at H
 show dy _ cf y4 m _ ⟨ai.fz s0 :: .fn fk aV::xH [],[],h⟩ _
 refine q1 <| qq <| qq <| q0 <| qb 0 ?_
 obtain⟨bQ,e2,H⟩:=bj H
 refine ql (fC.cO L fk aV s0 f0  hZ ia  (0:Int) _ _ ⟨h,by kernel_rfl,o⟩ e2) ?_
 rintro e s (⟨rfl,x1,rfl,g0,g1,g2,g3,g4,h1,rfl,o1⟩| ⟨rfl,r1,rfl,uL⟩)
 ·try dsimp only at H
  obtain rfl:=oi H
  exact q1 <| qt <| ⟨.inl rfl,cX (.int .i64 (-1:Int)) h1 (cV (dc))⟩
 ·try dsimp only at H
  obtain rfl:=oi H
  exact⟨.inl rfl,uL⟩
end
end Go.Proofs.Ytifafejidnjckaa
namespace Go.Proofs.Ytifafejidnjckaa
open Go Go.R
open Go.IntKind (i64 u64 u8 u32)
def B5:bY:=gK [0,1,3] [] [4,3] [] []
def gU.f (m:Nat)(a0:Int)(x0:Int):Option (Bool):=if (decide (a0<(0:Int)))=true then (some true) else (some (decide (a0≥x0)))
def gU.fin (L:Mem)(r:Bool)(s:St):Prop:=∃av,aM Try.prog (s.open B5) Try.f79.results.toList=some av∧fj s.h av (.bool r)
def Tc (cf:CallF)(m:Nat):Prop:=∀(a0:Int) (x0:Int) (r:Bool),gU.f m a0 x0=some r→∀h xs,aQ bJ h xs [.int .i64 a0,.fp [.int .i64 x0] 0]→cf 79 xs h=some (.bool r,h)
section
variable {cf:CallF}{m:Nat}
theorem qD {aW:FuncId→bY}(ha:aW 79=B5)  (a0:Int)(x0:Int)(h:AHeap)(L:Mem)  (o:Has h (L)){out:Bool}(H:gU.f m a0 x0=some out) :
  ∃r h',bb Try.prog aW cf m 79 [.int .i64 a0,.fp [.int .i64 x0] 0] h=some (r,h')∧fj h' r (.bool out):=by
 refine ar (fn:=Try.f79) ha Try.func79 (by kernel_rfl) (by kernel_rfl) ?_
 refine aG (Q:=fun s=>gU.fin L out s) (fun _ _ h=>h) ?_
 have H:_=some out:=H
 unfold gU.f at H
 show dy _ cf B5 m _ ⟨[.int .i64 a0,.fp [.int .i64 x0] 0,.any],[],h⟩ _
 refine q1 <| qq ?_
 rcases ig H with⟨c0,H⟩| ⟨c0,H⟩
 ·obtain rfl:=oi H
  exact qr [.b 2 c0] <| qt <| ⟨.inl rfl,cX (.bool true) h (cV (aA))⟩
 ·obtain rfl:=oi H
  exact qr [.b 2 c0] <| qt <| ⟨.inl rfl,cX (.bool (decide (a0≥x0))) h (cV (aA))⟩
end
end Go.Proofs.Ytifafejidnjckaa
namespace Go.Proofs.Ytifafejidnjckaa
open Go Go.R
open Go.IntKind (i64 u64 u8 u32)
def y5:bY:=gK [0,2,3,5,6,7,8,9,14] [] [510,506,395,267,387,131,509,395,509] [] []
def cu.l0 (m:Nat)(gI:List Int):Nat→Int→Option (Sum Int (Int))
 | 0,_=>none
 | k+1,x0=>if (decide (x0<(gI.length:Int)))=true then ((ix gI x0).bind fun v0=>if (!(v0==(0:Int)))=true then (some (.inl v0)) else (cu.l0 m gI k (i64.wrap (x0+(1:Int))))) else (some (.inr x0))
def cu.f (m:Nat)(gI:List Int):Option (Int):=(cu.l0 m gI m (0:Int)).bind fun bQ=>match bQ with | .inl r0=>some r0 | .inr x1=>some (0:Int)
def cu.fin (L:Mem)(r:Int)(s:St):Prop:=∃av,aM Try.prog (s.open y5) Try.f81.results.toList=some av∧fj s.h av (.int .i64 r)
def Td (cf:CallF)(m:Nat):Prop:=∀(gI:List Int) (r:Int),cu.f m gI=some r→∀h xs,aQ bJ h xs [af.fz gI]→cf 81 xs h=some (.int .i64 r,h)
section
variable {cf:CallF}{m:Nat}
theorem cu.cO (L:Mem)(gI:List Int)   : dF Try.prog cf y5 m (sub [1,1,0,1,0,0] (bW Try.f81)) (fun k (σ:Int)=>cu.l0 m gI k σ) (fun σ s=>match σ with | x0=>∃h0,s=⟨[.any,.any,.int .i64 (0:Int),.any,af.fz gI,.int .i64 (gI.length:Int),.int .i64 x0,.any,.any],[],h0⟩∧Has h0 (L)) (fun out e s=>(e = .exit 0∧∃x0,.inr x0=out∧∃FY DZ AF D0 h0,s=⟨[.any,.any,.int .i64 (0:Int),.any,FY,DZ,AF,D0,.any],[],h0⟩∧Has h0 (L))∨(e = .ret∧∃r,.inl r=out∧cu.fin L r s)):=by
 refine k8 (fun _=>rfl) ?_
 rintro k x0 s out ⟨h0,rfl,o0⟩ H
 have H:cu.l0 m gI (k+1) x0=some out:=H
 refine q1 <| qq <| qc H (fun c0 H=>?_) (fun c0 H=>?_)
 ·refine qk <| qq <| qb 1 <| qq ?_
  obtain⟨v0,e0,H⟩:=bj H
  refine qr [.v 0 (fe (k:=.i64) (E:=af) (l:=gI) gg e0),.v 1 (ie  (E:=af) (l:=gI) h0 A3 e0 rfl)] <| qq <| q0 <| qc H (fun c1 H=>?_) (fun c1 H=>?_)
  ·exact q1 <| qt <| Or.inr (⟨rfl,_,oi H,cX (.int .i64 v0) h0 (cV (dc))⟩)
  ·exact qk <| q0 <| ⟨i64.wrap (x0+(1:Int)),⟨h0,by kernel_rfl,o0⟩,H⟩
 ·exact qx 0 <| Or.inl (⟨rfl,x0,oi H,af.fz gI,.int .i64 (gI.length:Int),.int .i64 x0,.bool (decide (x0<(gI.length:Int))),h0,by kernel_rfl,o0⟩)
theorem rP {aW:FuncId→bY}(ha:aW 81=y5)  (gI:List Int)(h:AHeap)(L:Mem)  (o:Has h (L)){out:Int}(H:cu.f m gI=some out) :
  ∃r h',bb Try.prog aW cf m 81 [af.fz gI] h=some (r,h')∧fj h' r (.int .i64 out):=by
 refine ar (fn:=Try.f81) ha Try.func81 (by kernel_rfl) (by kernel_rfl) ?_
 refine aG (Q:=fun s=>cu.fin L out s) (fun _ _ h=>h) ?_
 have H:_=some out:=H
 unfold cu.f at H
 show dy _ cf y5 m _ ⟨af.fz gI::vj [],[],h⟩ _
 refine q1 <| qq <| q0 <| qq <| qq <| q0 <| qb 0 ?_
 obtain⟨bQ,e1,H⟩:=bj H
 refine ql (cu.cO L gI   (0:Int) _ _ ⟨h,by kernel_rfl,o⟩ e1) ?_
 rintro e s (⟨rfl,x1,rfl,g0,g1,g2,g3,h1,rfl,o1⟩| ⟨rfl,r0,rfl,uL⟩)
 ·try dsimp only at H
  obtain rfl:=oi H
  exact q1 <| qt <| ⟨.inl rfl,cX (.int .i64 (0:Int)) h1 (cV (dc))⟩
 ·try dsimp only at H
  obtain rfl:=oi H
  exact⟨.inl rfl,uL⟩
end
end Go.Proofs.Ytifafejidnjckaa
namespace Go.Proofs.Ytifafejidnjckaa
open Go Go.R
open Go.IntKind (i64 u64 u8 u32)
def B6:bY:=gK [0,2] [] [2,1] [] []
def gk.f (m:Nat)(c0:Int):Option (Bool):=if (decide (c0≥(97:Int)))=true then (if (decide (c0≤(122:Int)))=true then (some true) else (if (decide (c0≥(65:Int)))=true then (if (decide (c0≤(90:Int)))=true then (some true) else (if (decide (c0≥(48:Int)))=true then (if (decide (c0≤(57:Int)))=true then (some true) else (some (c0==(95:Int)))) else (some (c0==(95:Int))))) else (if (decide (c0≥(48:Int)))=true then (if (decide (c0≤(57:Int)))=true then (some true) else (some (c0==(95:Int)))) else (some (c0==(95:Int)))))) else (if (decide (c0≥(65:Int)))=true then (if (decide (c0≤(90:Int)))=true then (some true) else (if (decide (c0≥(48:Int)))=true then (if (decide (c0≤(57:Int)))=true then (some true) else (some (c0==(95:Int)))) else (some (c0==(95:Int))))) else (if (decide (c0≥(48:Int)))=true then (if (decide (c0≤(57:Int)))=true then (some true) else (some (c0==(95:Int)))) else (some (c0==(95:Int)))))
def gk.fin (L:Mem)(r:Bool)(s:St):Prop:=∃av,aM Try.prog (s.open B6) Try.f85.results.toList=some av∧fj s.h av (.bool r)
def Qg (cf:CallF)(m:Nat):Prop:=∀(c0:Int) (r:Bool),gk.f m c0=some r→∀h xs,aQ bJ h xs [.int .u8 c0]→cf 85 xs h=some (.bool r,h)
section
variable {cf:CallF}{m:Nat}
theorem qE {aW:FuncId→bY}(ha:aW 85=B6)  (c0:Int)(h:AHeap)(L:Mem)  (o:Has h (L)){out:Bool}(H:gk.f m c0=some out) :
  ∃r h',bb Try.prog aW cf m 85 [.int .u8 c0] h=some (r,h')∧fj h' r (.bool out):=by
 refine ar (fn:=Try.f85) ha Try.func85 (by kernel_rfl) (by kernel_rfl) ?_
 refine aG (Q:=fun s=>gk.fin L out s) (fun _ _ h=>h) ?_
 have H:_=some out:=H
 unfold gk.f at H
 show dy _ cf B6 m _ ⟨[.int .u8 c0,.any],[],h⟩ _
 refine q1 <| qq ?_
 rcases ig H with⟨c1,H⟩| ⟨c1,H⟩
 ·rcases ig H with⟨c2,H⟩| ⟨c2,H⟩
  ·obtain rfl:=oi H
   exact qr [.b 2 c1,.b 6 c2] <| qt <| ⟨.inl rfl,cX (.bool true) h (cV (aA))⟩
  ·rcases ig H with⟨c3,H⟩| ⟨c3,H⟩
   ·rcases ig H with⟨c4,H⟩| ⟨c4,H⟩
    ·obtain rfl:=oi H
     exact qr [.b 2 c1,.b 6 c2,.b 9 c3,.b 14 c4] <| qt <| ⟨.inl rfl,cX (.bool true) h (cV (aA))⟩
    ·rcases ig H with⟨c5,H⟩| ⟨c5,H⟩
     ·rcases ig H with⟨c6,H⟩| ⟨c6,H⟩
      ·obtain rfl:=oi H
       exact qr [.b 2 c1,.b 6 c2,.b 9 c3,.b 14 c4,.b 17 c5,.b 22 c6] <| qt <| ⟨.inl rfl,cX (.bool true) h (cV (aA))⟩
      ·obtain rfl:=oi H
       exact qr [.b 2 c1,.b 6 c2,.b 9 c3,.b 14 c4,.b 17 c5,.b 22 c6] <| qt <| ⟨.inl rfl,cX (.bool (c0==(95:Int))) h (cV (aA))⟩
     ·obtain rfl:=oi H
      exact qr [.b 2 c1,.b 6 c2,.b 9 c3,.b 14 c4,.b 17 c5] <| qt <| ⟨.inl rfl,cX (.bool (c0==(95:Int))) h (cV (aA))⟩
   ·rcases ig H with⟨c7,H⟩| ⟨c7,H⟩
    ·rcases ig H with⟨c8,H⟩| ⟨c8,H⟩
     ·obtain rfl:=oi H
      exact qr [.b 2 c1,.b 6 c2,.b 9 c3,.b 17 c7,.b 22 c8] <| qt <| ⟨.inl rfl,cX (.bool true) h (cV (aA))⟩
     ·obtain rfl:=oi H
      exact qr [.b 2 c1,.b 6 c2,.b 9 c3,.b 17 c7,.b 22 c8] <| qt <| ⟨.inl rfl,cX (.bool (c0==(95:Int))) h (cV (aA))⟩
    ·obtain rfl:=oi H
     exact qr [.b 2 c1,.b 6 c2,.b 9 c3,.b 17 c7] <| qt <| ⟨.inl rfl,cX (.bool (c0==(95:Int))) h (cV (aA))⟩
 ·rcases ig H with⟨c9,H⟩| ⟨c9,H⟩
  ·rcases ig H with⟨Ix,H⟩| ⟨Ix,H⟩
   ·obtain rfl:=oi H
    exact qr [.b 2 c1,.b 9 c9,.b 14 Ix] <| qt <| ⟨.inl rfl,cX (.bool true) h (cV (aA))⟩
   ·rcases ig H with⟨vw,H⟩| ⟨vw,H⟩
    ·rcases ig H with⟨F7,H⟩| ⟨F7,H⟩
     ·obtain rfl:=oi H
      exact qr [.b 2 c1,.b 9 c9,.b 14 Ix,.b 17 vw,.b 22 F7] <| qt <| ⟨.inl rfl,cX (.bool true) h (cV (aA))⟩
     ·obtain rfl:=oi H
      exact qr [.b 2 c1,.b 9 c9,.b 14 Ix,.b 17 vw,.b 22 F7] <| qt <| ⟨.inl rfl,cX (.bool (c0==(95:Int))) h (cV (aA))⟩
    ·obtain rfl:=oi H
     exact qr [.b 2 c1,.b 9 c9,.b 14 Ix,.b 17 vw] <| qt <| ⟨.inl rfl,cX (.bool (c0==(95:Int))) h (cV (aA))⟩
  ·rcases ig H with⟨D1,H⟩| ⟨D1,H⟩
   ·rcases ig H with⟨F8,H⟩| ⟨F8,H⟩
    ·obtain rfl:=oi H
     exact qr [.b 2 c1,.b 9 c9,.b 17 D1,.b 22 F8] <| qt <| ⟨.inl rfl,cX (.bool true) h (cV (aA))⟩
    ·obtain rfl:=oi H
     exact qr [.b 2 c1,.b 9 c9,.b 17 D1,.b 22 F8] <| qt <| ⟨.inl rfl,cX (.bool (c0==(95:Int))) h (cV (aA))⟩
   ·obtain rfl:=oi H
    exact qr [.b 2 c1,.b 9 c9,.b 17 D1] <| qt <| ⟨.inl rfl,cX (.bool (c0==(95:Int))) h (cV (aA))⟩
end
end Go.Proofs.Ytifafejidnjckaa
namespace Go.Proofs.Ytifafejidnjckaa
open Go Go.R
open Go.IntKind (i64 u64 u8 u32)
end Go.Proofs.Ytifafejidnjckaa
namespace Go.Proofs.Ytifafejidnjckaa
open Go Go.R
open Go.IntKind (i64 u64 u8 u32)
end Go.Proofs.Ytifafejidnjckaa
namespace Go.Proofs.Ytifafejidnjckaa
open Go Go.R
open Go.IntKind (i64 u64 u8 u32)
end Go.Proofs.Ytifafejidnjckaa
namespace Go.Proofs.Ytifafejidnjckaa
open Go Go.R
open Go.IntKind (i64 u64 u8 u32)
def B7:bY:=gK [0,2] [] [2,1] [] []
def cmp_isNaN_int.f (m:Nat)(x0:Int):Option (Bool):=some (!(x0==x0))
def cmp_isNaN_int.fin (L:Mem)(r:Bool)(s:St):Prop:=∃av,aM Try.prog (s.open B7) Try.f97.results.toList=some av∧fj s.h av (.bool r)
def Te (cf:CallF)(m:Nat):Prop:=∀(x0:Int) (r:Bool),cmp_isNaN_int.f m x0=some r→∀h xs,aQ bJ h xs [.int .i64 x0]→cf 97 xs h=some (.bool r,h)
section
variable {cf:CallF}{m:Nat}
theorem oS {aW:FuncId→bY}(ha:aW 97=B7)  (x0:Int)(h:AHeap)(L:Mem)  (o:Has h (L)){out:Bool}(H:cmp_isNaN_int.f m x0=some out) :
  ∃r h',bb Try.prog aW cf m 97 [.int .i64 x0] h=some (r,h')∧fj h' r (.bool out):=by
 refine ar (fn:=Try.f97) ha Try.func97 (by kernel_rfl) (by kernel_rfl) ?_
 refine aG (Q:=fun s=>cmp_isNaN_int.fin L out s) (fun _ _ h=>h) ?_
 have H:_=some out:=H
 unfold cmp_isNaN_int.f at H
 show dy _ cf B7 m _ ⟨[.int .i64 x0,.any],[],h⟩ _
 obtain rfl:=oi H
 exact q1 <| qq <| q0 <| qt <| ⟨.inl rfl,cX (.bool (!(x0==x0))) h (cV (aA))⟩
end
end Go.Proofs.Ytifafejidnjckaa
namespace Go.Proofs.Ytifafejidnjckaa
open Go Go.R
open Go.IntKind (i64 u64 u8 u32)
def B8:bY:=gK [0,2] [] [2,1] [] []
def cmp_isNaN_string.f (m:Nat)(x0:ByteArray):Option (Bool):=some (!(x0.data.toList==x0.data.toList))
def cmp_isNaN_string.fin (L:Mem)(r:Bool)(s:St):Prop:=∃av,aM Try.prog (s.open B8) Try.f98.results.toList=some av∧fj s.h av (.bool r)
def Tf (cf:CallF)(m:Nat):Prop:=∀(x0:ByteArray) (r:Bool),cmp_isNaN_string.f m x0=some r→∀h xs,aQ bJ h xs [.str x0]→cf 98 xs h=some (.bool r,h)
section
variable {cf:CallF}{m:Nat}
theorem mJ {aW:FuncId→bY}(ha:aW 98=B8)  (x0:ByteArray)(h:AHeap)(L:Mem)  (o:Has h (L)){out:Bool}(H:cmp_isNaN_string.f m x0=some out) :
  ∃r h',bb Try.prog aW cf m 98 [.str x0] h=some (r,h')∧fj h' r (.bool out):=by
 refine ar (fn:=Try.f98) ha Try.func98 (by kernel_rfl) (by kernel_rfl) ?_
 refine aG (Q:=fun s=>cmp_isNaN_string.fin L out s) (fun _ _ h=>h) ?_
 have H:_=some out:=H
 unfold cmp_isNaN_string.f at H
 show dy _ cf B8 m _ ⟨[.str x0,.any],[],h⟩ _
 obtain rfl:=oi H
 exact q1 <| qq <| q0 <| qt <| ⟨.inl rfl,cX (.bool (!(x0.data.toList==x0.data.toList))) h (cV (aA))⟩
end
end Go.Proofs.Ytifafejidnjckaa
namespace Go.Proofs.Ytifafejidnjckaa
open Go Go.R
open Go.IntKind (i64 u64 u8 u32)
end Go.Proofs.Ytifafejidnjckaa
namespace Go.Proofs.Ytifafejidnjckaa
open Go Go.R
open Go.IntKind (i64 u64 u8 u32)
def qF:bY:=gK [0,1,2,3,8,9,14,34] [] [224,160,224,192,64,192,192] [] []
def aZ.l1 (m:Nat)(a0:Int)(aX:Int→Int→Option (Int)):Nat→(List Int)→Int→Option ((List Int) × Int)
 | 0,_,_=>none
 | k+1,dC,j0=>if (decide (j0 > a0))=true then ((ix dC j0).bind fun v0=>(ix dC (i64.wrap (j0 - (1:Int)))).bind fun v1=>(aX v0 v1).bind fun r0=>if (decide (r0<(0:Int)))=true then ((ix dC (i64.wrap (j0 - (1:Int)))).bind fun v2=>(ix dC j0).bind fun v3=>(ix dC j0).bind fun v4=>(ix (dC.set j0.toNat v2) (i64.wrap (j0 - (1:Int)))).bind fun v5=>aZ.l1 m a0 aX k ((dC.set j0.toNat v2).set (i64.wrap (j0 - (1:Int))).toNat v3) (i64.wrap (j0 - (1:Int)))) else (some ((dC,j0)))) else (some ((dC,j0)))
def aZ.l0 (m:Nat)(a0:Int)(b0:Int)(aX:Int→Int→Option (Int)):Nat→(List Int)→Int→Option ((List Int) × Int)
 | 0,_,_=>none
 | k+1,bB,i0=>if (decide (i0<b0))=true then ((aZ.l1 m a0 aX m bB i0).bind fun bQ=>match bQ with | (er,j1)=>aZ.l0 m a0 b0 aX k er (i64.wrap (i0+(1:Int)))) else (some ((bB,i0)))
def aZ.f (m:Nat)(ax:List Int)(a0:Int)(b0:Int)(aX:Int→Int→Option (Int)):Option ((List Int)):=(aZ.l0 m a0 b0 aX m ax (i64.wrap (a0+(1:Int)))).bind fun cw=>match cw with | (jO,i1)=>some jO
def aZ.fin (L:Mem)(aH:Nat)(ax:List Int)(a0:Int)(b0:Int)(aX:Int→Int→Option (Int))(r:(List Int))(s:St):Prop:=aM Try.prog (s.open qF) Try.f105.results.toList=some (.tup [])∧Has s.h ((aH,.sl ax.length 1 (af.l r))::L)
def KM (cf:CallF)(m:Nat):Prop:=∀(ax:List Int) (a0:Int) (b0:Int) (aX:Int→Int→Option (Int)) (r:(List Int)),aZ.f m ax a0 b0 aX=some r→∀h L (cH:Nat) (aH:Nat),Has h ((aH,.sl cH 1 (af.l ax))::L)→∀(rz:FuncId) (gm fw:List AV),(aO (.fn rz gm) = .fn rz gm)→(∀(h:AHeap) (xs:List AV) (a0:Int) (a1:Int) r,aX a0 a1=some r→aQ bJ h xs ([.int .i64 a0,.int .i64 a1]++fw)→cf rz xs h=some (.int .i64 r,h))→(∀h K,Has h (K++(L))→aQ cz h gm fw)→(∀h,aQ cz h fw fw)→∀xs,xs.map aO=[.rs aH 0 cH 1,.int .i64 a0,.int .i64 b0,.fn rz gm]→∃h',cf 105 xs h=some (.tup [],h')∧Has h' ((aH,.sl cH 1 (af.l r))::L)
section
variable {cf:CallF}{m:Nat}
theorem aZ.ko (L:Mem)(aH:Nat)(rz:FuncId)(gm fw:List AV)(ax:List Int)(a0:Int)(b0:Int)(aX:Int→Int→Option (Int))(i0:Int)  (D2:aO (.fn rz gm) = .fn rz gm)(AL:∀(h:AHeap) (xs:List AV) (a0:Int) (a1:Int) r,aX a0 a1=some r→aQ bJ h xs ([.int .i64 a0,.int .i64 a1]++fw)→cf rz xs h=some (.int .i64 r,h))(AM:∀h K,Has h (K++(L))→aQ cz h gm fw)(D3:∀h,aQ cz h fw fw)  : dF Try.prog cf qF m (sub [1,0,0,1,0,0,1,0,0] (bW Try.f105)) (fun k (σ:(List Int) × Int)=>aZ.l1 m a0 aX k σ.1 σ.2) (fun σ s=>match σ with | (dC,j0)=>∃h1,s=⟨[.rs aH 0 ax.length 1,.int .i64 a0,.int .i64 b0,.fn rz gm,.int .i64 i0,.int .i64 j0,.any,.any],[],h1⟩∧Has h1 ((aH,.sl ax.length 1 (af.l dC))::L)) (fun out e s=>(e = .exit 2∧∃dC j0,(dC,j0)=out∧∃D0 Qh h1,s=⟨[.rs aH 0 ax.length 1,.int .i64 a0,.int .i64 b0,.fn rz gm,.int .i64 i0,D0,.any,Qh],[],h1⟩∧Has h1 ((aH,.sl ax.length 1 (af.l dC))::L))):=by
 refine k8 (fun _=>rfl) ?_
 rintro k ⟨dC,j0⟩ s out ⟨h1,rfl,o1⟩ H
 have H:aZ.l1 m a0 aX (k+1) dC j0=some out:=H
 refine qq <| qq ?_
 rcases ig H with⟨c1,H⟩| ⟨c1,H⟩
 ·obtain⟨v0,e0,H⟩:=bj H
  obtain⟨v1,e1,H⟩:=bj H
  obtain⟨r0,e2,H⟩:=bj H
  refine qr [.b 3 c1,.v 7 (bm (k:=.i64) (E:=af) (l:=dC) (q:=0) gg o1 rfl e0),.v 8 (cM  (E:=af) (l:=dC) (q:=0) o1 rfl A3 e0 rfl),.v 12 (bm (k:=.i64) (E:=af) (l:=dC) (q:=0) gg o1 rfl e1),.v 13 (cM  (E:=af) (l:=dC) (q:=0) o1 rfl A3 e1 rfl),.a 14 (AL _ _ _ _ _ e2 (Ir (ah (aT) (ah (aT) (aw))) (AM h1 [(aH,.sl ax.length 1 (af.l dC))] o1)))] <| qc H (fun c2 H=>?_) (fun c2 H=>?_)
  ·refine qk <| qq <| qb 3 ?_
   obtain⟨v2,e3,H⟩:=bj H
   obtain⟨v3,e4,H⟩:=bj H
   obtain⟨v4,e5,H⟩:=bj H
   obtain⟨h2,e6,o2⟩:=fG (P:=Try.prog) (tf:=3) (E:=af) (l:=dC) (q:=0) (v:=v2) (x:=.int .i64 v2) o1 rfl Z3 e5 rfl rfl
   obtain⟨v5,e7,H⟩:=bj H
   obtain⟨h3,e8,o3⟩:=fG (P:=Try.prog) (tf:=3) (E:=af) (l:=(dC.set j0.toNat v2)) (q:=0) (v:=v3) (x:=.int .i64 v3) o2 rfl Z3 e7 rfl rfl
   exact qr [.v 8 (bm (k:=.i64) (E:=af) (l:=dC) (q:=0) gg o1 rfl e3),.v 9 (cM  (E:=af) (l:=dC) (q:=0) o1 rfl A3 e3 rfl),.v 12 (bm (k:=.i64) (E:=af) (l:=dC) (q:=0) gg o1 rfl e4),.v 13 (cM  (E:=af) (l:=dC) (q:=0) o1 rfl A3 e4 rfl),.v 14 (bm (k:=.i64) (E:=af) (l:=dC) (q:=0) gg o1 rfl e5),.w 15 e6,.v 16 (bm (k:=.i64) (E:=af) (l:=(dC.set j0.toNat v2)) (q:=0) gg o2 rfl e7),.w 17 e8] <| q0 <| ⟨((dC.set j0.toNat v2).set (i64.wrap (j0 - (1:Int))).toNat v3,i64.wrap (j0 - (1:Int))),⟨h3,by kernel_rfl,o3⟩,H⟩
  ·exact qx 2 <| ⟨rfl,dC,j0,oi H,.int .i64 j0,.bool (decide (r0<(0:Int))),h1,by kernel_rfl,o1⟩
 ·exact qr [.b 3 c1] <| Hy <| qx 2 <| ⟨rfl,dC,j0,oi H,.int .i64 j0,.bool false,h1,by kernel_rfl,o1⟩
theorem aZ.cO (L:Mem)(aH:Nat)(rz:FuncId)(gm fw:List AV)(ax:List Int)(a0:Int)(b0:Int)(aX:Int→Int→Option (Int))  (D2:aO (.fn rz gm) = .fn rz gm)(AL:∀(h:AHeap) (xs:List AV) (a0:Int) (a1:Int) r,aX a0 a1=some r→aQ bJ h xs ([.int .i64 a0,.int .i64 a1]++fw)→cf rz xs h=some (.int .i64 r,h))(AM:∀h K,Has h (K++(L))→aQ cz h gm fw)(D3:∀h,aQ cz h fw fw)  : dF Try.prog cf qF m (sub [1,0,0] (bW Try.f105)) (fun k (σ:(List Int) × Int)=>aZ.l0 m a0 b0 aX k σ.1 σ.2) (fun σ s=>match σ with | (bB,i0)=>∃h0,s=⟨.rs aH 0 ax.length 1 :: .int .i64 a0 :: .int .i64 b0 :: .fn rz gm :: .int .i64 i0::nS [],[],h0⟩∧Has h0 ((aH,.sl ax.length 1 (af.l bB))::L)) (fun out e s=>(e = .exit 0∧∃bB i0,(bB,i0)=out∧∃nr w6 KH Iv AF AE h0,s=⟨[nr,w6,KH,Iv,AF,.any,AE,.any],[],h0⟩∧Has h0 ((aH,.sl ax.length 1 (af.l bB))::L))):=by
 refine k8 (fun _=>rfl) ?_
 rintro k ⟨bB,i0⟩ s out ⟨h0,rfl,o0⟩ H
 have H:aZ.l0 m a0 b0 aX (k+1) bB i0=some out:=H
 refine qq <| qq <| q0 <| qc H (fun c0 H=>?_) (fun c0 H=>?_)
 ·refine qk <| qq <| qb 1 <| qq <| q0 <| qb 2 ?_
  obtain⟨bQ,e9,H⟩:=bj H
  refine ql (aZ.ko L aH rz gm fw ax a0 b0 aX i0  D2 AL AM D3  (bB,i0) _ _ ⟨h0,by kernel_rfl,o0⟩ e9) ?_
  rintro e s ⟨rfl,er,j1,rfl,g0,g1,h4,rfl,o4⟩
  try dsimp only at H
  exact q0 <| ⟨(er,i64.wrap (i0+(1:Int))),⟨h4,by kernel_rfl,o4⟩,H⟩
 ·exact qx 0 <| ⟨rfl,bB,i0,oi H,.rs aH 0 ax.length 1,.int .i64 a0,.int .i64 b0,.fn rz gm,.int .i64 i0,.bool (decide (i0<b0)),h0,by kernel_rfl,o0⟩
theorem n6 {aW:FuncId→bY}(ha:aW 105=qF)  (ax:List Int)(a0:Int)(b0:Int)(aX:Int→Int→Option (Int))(h:AHeap)(L:Mem)(aH:Nat)(rz:FuncId)(gm fw:List AV)  (D2:aO (.fn rz gm) = .fn rz gm)(AL:∀(h:AHeap) (xs:List AV) (a0:Int) (a1:Int) r,aX a0 a1=some r→aQ bJ h xs ([.int .i64 a0,.int .i64 a1]++fw)→cf rz xs h=some (.int .i64 r,h))(AM:∀h K,Has h (K++(L))→aQ cz h gm fw)(D3:∀h,aQ cz h fw fw)(o:Has h ((aH,.sl ax.length 1 (af.l ax))::L)){out:(List Int)}(H:aZ.f m ax a0 b0 aX=some out) :
  ∃r h',bb Try.prog aW cf m 105 [.rs aH 0 ax.length 1,.int .i64 a0,.int .i64 b0,.fn rz gm] h=some (r,h')∧r = .tup []∧Has h' ((aH,.sl ax.length 1 (af.l out))::L):=by
 refine ar (fn:=Try.f105) ha Try.func105 (by kernel_rfl) (by kernel_rfl) ?_
 refine aG (Q:=fun s=>aZ.fin L aH ax a0 b0 aX out s) (fun _ _ ⟨h1,h2,h3⟩=>⟨h1,_,h2,rfl,h3⟩) ?_
 have H:_=some out:=H
 unfold aZ.f at H
 show dy _ cf qF m _ ⟨.rs aH 0 ax.length 1 :: .int .i64 a0 :: .int .i64 b0 :: .fn rz gm::nZ [],[],h⟩ _
 refine q1 <| qb 0 ?_
 obtain⟨cw,rv,H⟩:=bj H
 refine ql (aZ.cO L aH rz gm fw ax a0 b0 aX  D2 AL AM D3  (ax,i64.wrap (a0+(1:Int))) _ _ ⟨h,by kernel_rfl,o⟩ rv) ?_
 rintro e s ⟨rfl,jO,i1,rfl,g2,g3,g4,g5,g6,g7,h5,rfl,o5⟩
 try dsimp only at H
 obtain rfl:=oi H
 exact⟨.inr rfl,⟨by kernel_rfl,he o5⟩⟩
end
end Go.Proofs.Ytifafejidnjckaa
