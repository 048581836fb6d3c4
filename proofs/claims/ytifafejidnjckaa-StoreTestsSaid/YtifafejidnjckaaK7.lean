/- Part of the proof: Q32, Q37, Q41, Q42, Q47, Q48, Q51, Q54, Q55, Q59, Q62, Q64, Q68, Q71, Q73, Q75, Q78, Q79, Q81, Q85, Q90, Q95, Q96, Q97, Q98, Q102, Q105. -/
import Derived.Test.YtifafejidnjckaaK6
set_option linter.unusedVariables false
set_option linter.unusedSimpArgs false
set_option maxRecDepth 100000
open ByteArray renaming mk → aaq
open Eq renaming trans → aaR
open List renaming length_set → ZO
namespace Go.Proofs.Ytifafejidnjckaa
open Go Go.R
open Go.IntKind (i64 u64 u8 u32)
def zk:b9:=gW [0,1,5,6,7,8,9] [] [70,6,66,70,70] [] []
def bu.l0 (m:Nat)(aJ:List Int):Nat→Int→ab→Option (Int × ab)
 | 0,_,_=>none
 | k+1,x0,s1=>if (decide (x0<(aJ.length:Int)))=true then ((ix aJ x0).bind fun v0=>(ix s1.ae v0).bind fun v1=>bu.l0 m aJ k (i64.wrap (x0+(1:Int))) (ab.mk s1.aj s1.aa (s1.ae.set v0.toNat v0))) else (some ((x0,s1)))
def bu.f (m:Nat)(s0:ab)(aJ:List Int):Option (ab):=(bu.l0 m aJ m (0:Int) s0).bind fun bM=>match bM with | (x1,s2)=>some s2
def bu.fin (L:Mem)(aq:Nat)(an:Nat)(ao:Nat)(s0:ab)(aJ:List Int)(r:ab)(s:St):Prop:=∃aC aD:Nat,aO Try.prog (s.open zk) Try.f32.results.toList=some (.tup [])∧Has s.h ((aq,.ob [.bool r.aj,.rs aC 0 r.aa.length 4,.rs aD 0 r.ae.length 1])::(aC,.sl r.aa.length 4 (ai.l r.aa))::(aD,.sl r.ae.length 1 (af.l r.ae))::L)
def QE (cf:CallF)(m:Nat):Prop:=∀(s0:ab) (aJ:List Int) (r:ab),bu.f m s0 aJ=some r→∀h L (aq:Nat) (an:Nat) (ao:Nat),Has h ((aq,.ob [.bool s0.aj,.rs an 0 s0.aa.length 4,.rs ao 0 s0.ae.length 1])::(an,.sl s0.aa.length 4 (ai.l s0.aa))::(ao,.sl s0.ae.length 1 (af.l s0.ae))::L)→∀xs,xs.map aS=[.ptr aq 0,af.fz aJ]→∃aC aD h',cf 32 xs h=some (.tup [],h')∧Has h' ((aq,.ob [.bool r.aj,.rs aC 0 r.aa.length 4,.rs aD 0 r.ae.length 1])::(aC,.sl r.aa.length 4 (ai.l r.aa))::(aD,.sl r.ae.length 1 (af.l r.ae))::L)
section
variable {cf:CallF}{m:Nat}
theorem bu.cQ (L:Mem)(aq:Nat)(an:Nat)(ao:Nat)(s0:ab)(aJ:List Int)   : dL Try.prog cf zk m (sub [1,0,0] (bZ Try.f32)) (fun k (σ:Int × ab)=>bu.l0 m aJ k σ.1 σ.2) (fun σ s=>match σ with | (x0,s1)=>∃aE cy h0,s=⟨[.ptr aq 0,.any,.any,af.fz aJ,.int .i64 (aJ.length:Int),.int .i64 x0,.any],[],h0⟩∧Has h0 ((aq,.ob [.bool s1.aj,.rs aE 0 s1.aa.length 4,.rs cy 0 s1.ae.length 1])::(aE,.sl s1.aa.length 4 (ai.l s1.aa))::(cy,.sl s1.ae.length 1 (af.l s1.ae))::L)) (fun out e s=>(e = .exit 0∧∃x0 s1,(x0,s1)=out∧∃mP Gy Gx A8 A9 aE cy h0,s=⟨[mP,.any,.any,Gy,Gx,A8,A9],[],h0⟩∧Has h0 ((aq,.ob [.bool s1.aj,.rs aE 0 s1.aa.length 4,.rs cy 0 s1.ae.length 1])::(aE,.sl s1.aa.length 4 (ai.l s1.aa))::(cy,.sl s1.ae.length 1 (af.l s1.ae))::L))):=by
 refine lg (fun _=>rfl) ?_
 rintro k ⟨x0,s1⟩ s out ⟨aE,cy,h0,rfl,o0⟩ H
 have H:bu.l0 m aJ (k+1) x0 s1=some out:=H
 refine q1 <| qq <| qc H (fun c0 H=>?_) (fun c0 H=>?_)
 ·refine qk <| qq <| qb 1 <| qq ?_
  obtain⟨v0,e0,H⟩:=bj H
  refine qr [.v 0 (fy (k:=.i64) (E:=af) (l:=aJ) gu e0),.v 1 (iz  (E:=af) (l:=aJ) h0 A3 e0 rfl)] ?_
  obtain⟨v1,e1,H⟩:=bj H
  obtain⟨h1,e2,o1⟩:=fS (P:=Try.prog) (tf:=3) (E:=af) (l:=s1.ae) (q:=2) (v:=v0) (x:=.int .i64 v0) o0 rfl Z3 e1 rfl rfl
  exact qr [.v 3 (show bE Try.prog h0 33 (.ptr aq 2)=some (.rs cy 0 s1.ae.length 1) from cq (q:=0) (cs:=[.bool s1.aj,.rs aE 0 s1.aa.length 4,.rs cy 0 s1.ae.length 1]) o0 rfl (by kernel_rfl)),.v 6 (bp (k:=.i64) (E:=af) (l:=s1.ae) (q:=2) gu o0 rfl e1),.w 7 e2] <| q0 <| ⟨(i64.wrap (x0+(1:Int)),(ab.mk s1.aj s1.aa (s1.ae.set v0.toNat v0))),⟨aE,cy,h1,(aaR (b:=⟨[.ptr aq 0,.any,.any,af.fz aJ,.int .i64 (aJ.length:Int),.int .i64 (i64.wrap (x0+(1:Int))),.any],[],h1⟩) (by kernel_rfl) (by simp only [ZO])),(by have o:Has h1 ((aq,.ob [.bool s1.aj,.rs aE 0 s1.aa.length 4,.rs cy 0 s1.ae.length 1])::(aE,.sl s1.aa.length 4 (ai.l s1.aa))::(cy,.sl s1.ae.length 1 (af.l (s1.ae.set v0.toNat v0)))::L):=o1; simpa only [ZO] using o)⟩,H⟩
 ·exact qx 0 <| ⟨rfl,x0,s1,oi H,.ptr aq 0,af.fz aJ,.int .i64 (aJ.length:Int),.int .i64 x0,.bool (decide (x0<(aJ.length:Int))),aE,cy,h0,by kernel_rfl,o0⟩
theorem mQ {aY:FuncId→b9}(ha:aY 32=zk)  (s0:ab)(aJ:List Int)(h:AHeap)(L:Mem)(aq:Nat)(an:Nat)(ao:Nat)  (o:Has h ((aq,.ob [.bool s0.aj,.rs an 0 s0.aa.length 4,.rs ao 0 s0.ae.length 1])::(an,.sl s0.aa.length 4 (ai.l s0.aa))::(ao,.sl s0.ae.length 1 (af.l s0.ae))::L)){out:ab}(H:bu.f m s0 aJ=some out) :
  ∃r h',bf Try.prog aY cf m 32 [.ptr aq 0,af.fz aJ] h=some (r,h')∧∃aC aD:Nat,r = .tup []∧Has h' ((aq,.ob [.bool out.aj,.rs aC 0 out.aa.length 4,.rs aD 0 out.ae.length 1])::(aC,.sl out.aa.length 4 (ai.l out.aa))::(aD,.sl out.ae.length 1 (af.l out.ae))::L):=by
 refine ar (fn:=Try.f32) ha Try.func32 (by kernel_rfl) (by kernel_rfl) ?_
 refine aH (Q:=fun s=>bu.fin L aq an ao s0 aJ out s) (fun _ _ ⟨h1,aC,aD,h2,h3⟩=>⟨h1,_,h2,aC,aD,rfl,h3⟩) ?_
 have H:_=some out:=H
 unfold bu.f at H
 show dK _ cf zk m _ ⟨.ptr aq 0::af.fz aJ::Ai [],[],h⟩ _
 refine q1 <| qb 0 ?_
 obtain⟨bM,e3,H⟩:=bj H
 refine ql (bu.cQ L aq an ao s0 aJ   ((0:Int),s0) _ _ ⟨an,ao,h,by kernel_rfl,o⟩ e3) ?_
 rintro e s ⟨rfl,x1,s2,rfl,g0,g1,g2,g3,g4,dY,cW,h2,rfl,o2⟩
 try dsimp only at H
 obtain rfl:=oi H
 exact⟨.inr rfl,⟨dY,cW,by kernel_rfl,he o2⟩⟩
end
end Go.Proofs.Ytifafejidnjckaa
namespace Go.Proofs.Ytifafejidnjckaa
open Go Go.R
open Go.IntKind (i64 u64 u8 u32)
def Cu:b9:=gW [0,2] [] [2,1] [] []
def bO.f (m:Nat)(s0:ab):Option (Bool):=some s0.aj
def bO.fin (L:Mem)(r:Bool)(s:St):Prop:=∃av,aO Try.prog (s.open Cu) Try.f37.results.toList=some av∧fG s.h av (.bool r)
def MB (cf:CallF)(m:Nat):Prop:=∀(s0:ab) (r:Bool),bO.f m s0=some r→∀h xs,aU bR h xs [.fp [.bool s0.aj,ai.fz s0.aa,af.fz s0.ae] 0]→cf 37 xs h=some (.bool r,h)
section
variable {cf:CallF}{m:Nat}
theorem mR {aY:FuncId→b9}(ha:aY 37=Cu)  (s0:ab)(h:AHeap)(L:Mem)  (o:Has h (L)){out:Bool}(H:bO.f m s0=some out) :
  ∃r h',bf Try.prog aY cf m 37 [.fp [.bool s0.aj,ai.fz s0.aa,af.fz s0.ae] 0] h=some (r,h')∧fG h' r (.bool out):=by
 refine ar (fn:=Try.f37) ha Try.func37 (by kernel_rfl) (by kernel_rfl) ?_
 refine aH (Q:=fun s=>bO.fin L out s) (fun _ _ h=>h) ?_
 have H:_=some out:=H
 unfold bO.f at H
 show dK _ cf Cu m _ ⟨[.fp [.bool s0.aj,ai.fz s0.aa,af.fz s0.ae] 0,.any],[],h⟩ _
 obtain rfl:=oi H
 exact q1 <| qq <| q0 <| qt <| ⟨.inl rfl,cV (.bool s0.aj) h (cP (az))⟩
end
end Go.Proofs.Ytifafejidnjckaa
namespace Go.Proofs.Ytifafejidnjckaa
open Go Go.R
open Go.IntKind (i64 u64 u8 u32)
def zl:b9:=gW [0,1,4,13] [] [12,4,12,11] [] []
def bh.l0 (m:Nat)(s0:ab):Nat→Int→Option (Int)
 | 0,_=>none
 | k+1,n1=>(ix s0.ae n1).bind fun v0=>if (!(v0==n1))=true then ((ix s0.ae n1).bind fun v1=>bh.l0 m s0 k v1) else (some (n1))
def bh.f (m:Nat)(s0:ab)(n0:Int):Option (Int):=(bh.l0 m s0 m n0).bind fun bM=>match bM with | n2=>some n2
def bh.fin (L:Mem)(r:Int)(s:St):Prop:=∃av,aO Try.prog (s.open zl) Try.f41.results.toList=some av∧fG s.h av (.int .i64 r)
def I3 (cf:CallF)(m:Nat):Prop:=∀(s0:ab) (n0:Int) (r:Int),bh.f m s0 n0=some r→∀h xs,aU bR h xs [.fp [.bool s0.aj,ai.fz s0.aa,af.fz s0.ae] 0,.int .i64 n0]→cf 41 xs h=some (.int .i64 r,h)
section
variable {cf:CallF}{m:Nat}
theorem bh.cQ (L:Mem)(s0:ab)   : dL Try.prog cf zl m (sub [1,0,0,0] (bZ Try.f41)) (fun k (σ:Int)=>bh.l0 m s0 k σ) (fun σ s=>match σ with | n1=>∃h0,s=⟨[.fp [.bool s0.aj,ai.fz s0.aa,af.fz s0.ae] 0,.int .i64 n1,.any,.any],[],h0⟩∧Has h0 (L)) (fun out e s=>(e = .exit 0∧∃n1,n1=out∧∃mP tO h0,s=⟨[mP,.int .i64 n1,.any,tO],[],h0⟩∧Has h0 (L))):=by
 refine lg (fun _=>rfl) ?_
 rintro k n1 s out ⟨h0,rfl,o0⟩ H
 have H:bh.l0 m s0 (k+1) n1=some out:=H
 refine qq <| qq ?_
 obtain⟨v0,e0,H⟩:=bj H
 refine qr [.v 5 (fy (k:=.i64) (E:=af) (l:=s0.ae) gu e0),.v 6 (iz  (E:=af) (l:=s0.ae) h0 A3 e0 rfl)] <| qc H (fun c0 H=>?_) (fun c0 H=>?_)
 ·refine qk <| qb 1 ?_
  obtain⟨v1,e1,H⟩:=bj H
  exact qr [.v 5 (fy (k:=.i64) (E:=af) (l:=s0.ae) gu e1),.v 6 (iz  (E:=af) (l:=s0.ae) h0 A3 e1 rfl)] <| ⟨v1,⟨h0,by kernel_rfl,o0⟩,H⟩
 ·exact qx 0 <| ⟨rfl,n1,oi H,.fp [.bool s0.aj,ai.fz s0.aa,af.fz s0.ae] 0,.bool (!(v0==n1)),h0,by kernel_rfl,o0⟩
theorem nH {aY:FuncId→b9}(ha:aY 41=zl)  (s0:ab)(n0:Int)(h:AHeap)(L:Mem)  (o:Has h (L)){out:Int}(H:bh.f m s0 n0=some out) :
  ∃r h',bf Try.prog aY cf m 41 [.fp [.bool s0.aj,ai.fz s0.aa,af.fz s0.ae] 0,.int .i64 n0] h=some (r,h')∧fG h' r (.int .i64 out):=by
 refine ar (fn:=Try.f41) ha Try.func41 (by kernel_rfl) (by kernel_rfl) ?_
 refine aH (Q:=fun s=>bh.fin L out s) (fun _ _ h=>h) ?_
 have H:_=some out:=H
 unfold bh.f at H
 show dK _ cf zl m _ ⟨[.fp [.bool s0.aj,ai.fz s0.aa,af.fz s0.ae] 0,.int .i64 n0,.any,.any],[],h⟩ _
 refine q1 <| qq <| qb 0 ?_
 obtain⟨bM,e2,H⟩:=bj H
 refine ql (bh.cQ L s0   n0 _ _ ⟨h,by kernel_rfl,o⟩ e2) ?_
 rintro e s ⟨rfl,n2,rfl,g0,g1,h1,rfl,o1⟩
 try dsimp only at H
 obtain rfl:=oi H
 exact q1 <| qt <| ⟨.inl rfl,cV (.int .i64 n2) h1 (cP (dr))⟩
end
end Go.Proofs.Ytifafejidnjckaa
namespace Go.Proofs.Ytifafejidnjckaa
open Go Go.R
open Go.IntKind (i64 u64 u8 u32)
def vM:b9:=gW [0,1,4,5,6,7,9,10,23,36,37,38,39,48] [14] [16380,16374,16358,16326,16070,16326,12742,8646,12678,12614,4422,12614,12742,12742,16379] [] []
def aL.l1 (m:Nat)(s0:ab)(v2:ak):Nat→(List Int)→(List (Int × Bool))→Int→Option ((List Int) × (List (Int × Bool)) × Int)
 | 0,_,_,_=>none
 | k+1,cD,gj,x1=>if (decide (x1<(v2.args.length:Int)))=true then ((ix v2.args x1).bind fun v3=>(bh.f m s0 v3).bind fun x2=>if (!((uV gj x2).1))=true then ((app 8 cD ([x2])).bind fun x3=>aL.l1 m s0 v2 k x3 (Ak gj x2 true) (i64.wrap (x1+(1:Int)))) else (aL.l1 m s0 v2 k cD gj (i64.wrap (x1+(1:Int))))) else (some ((cD,gj,x1)))
def aL.l0 (m:Nat)(s0:ab):Nat→(List Int)→(List (Int × Bool))→Int→Option ((List Int) × (List (Int × Bool)) × Int)
 | 0,_,_,_=>none
 | k+1,bM,eC,k0=>if (decide (k0<(bM.length:Int)))=true then ((ix bM k0).bind fun v1=>(ix s0.aa v1).bind fun v2=>(aL.l1 m s0 v2 m bM eC (0:Int)).bind fun zm=>match zm with | (j6,Gz,x4)=>aL.l0 m s0 k j6 Gz (i64.wrap (k0+(1:Int)))) else (some ((bM,eC,k0)))
def aL.f (m:Nat)(s0:ab)(n0:Int):Option ((List Int)):=(bh.f m s0 n0).bind fun x0=>(ix ([x0]) (0:Int)).bind fun v0=>(aL.l0 m s0 m ([x0]) (Ak ([]:List (Int × Bool)) v0 true) (0:Int)).bind fun GA=>match GA with | (dA,NT,k1)=>some dA
def aL.fin (L:Mem)  (r:(List Int))(s:St):Prop:=∃dw:Nat,aO Try.prog (s.open vM) Try.f42.results.toList=some (.rs dw 0 r.length 1)∧Has s.h ((dw,.sl r.length 1 (af.l r))::L)
def Ud (cf:CallF)(m:Nat):Prop:=∀(s0:ab) (n0:Int) (r:(List Int)),aL.f m s0 n0=some r→∀h L xs,Has h L→aU bR h xs [.fp [.bool s0.aj,ai.fz s0.aa,af.fz s0.ae] 0,.int .i64 n0]→∃dw h',cf 42 xs h=some (.rs dw 0 r.length 1,h')∧Has h' ((dw,.sl r.length 1 (af.l r))::L)∧∀j,j<h.next→h.ver j=h'.ver j
section
variable {cf:CallF}{m:Nat}
theorem aL.kz (L:Mem)(s0:ab)(cy:Nat)(k0:Int)(v2:ak)  (nI:I3 cf m):dL Try.prog cf vM m (sub [1,1,1,0,1,0,0,1,0,0,1,0,0] (bZ Try.f42)) (fun k (σ:(List Int) × (List (Int × Bool)) × Int)=>aL.l1 m s0 v2 k σ.1 σ.2.1 σ.2.2) (fun σ s=>match σ with | (cD,gj,x1)=>∃cW h4,s=⟨.fp [.bool s0.aj,ai.fz s0.aa,af.fz s0.ae] 0 :: .any :: .any :: .rs cW 0 cD.length 1 :: .mp cy :: .int .i64 k0::ov [af.fz v2.args,.int .i64 (v2.args.length:Int),.int .i64 x1,.any,.any],[none],h4⟩∧Has h4 ((cy,.mp (A6 gj))::(cW,.sl cD.length 1 (af.l cD))::L)) (fun out e s=>(e = .exit 2∧∃cD gj x1,(cD,gj,x1)=out∧∃Lj Ba Bb GB cW h4,s=⟨.fp [.bool s0.aj,ai.fz s0.aa,af.fz s0.ae] 0 :: .any :: .any :: .rs cW 0 cD.length 1 :: .mp cy :: .int .i64 k0::ov [Lj,Ba,Bb,GB,.any],[none],h4⟩∧Has h4 ((cy,.mp (A6 gj))::(cW,.sl cD.length 1 (af.l cD))::L))):=by
 refine lg (fun _=>rfl) ?_
 rintro k ⟨cD,gj,x1⟩ s out ⟨cW,h4,rfl,o4⟩ H
 have H:aL.l1 m s0 v2 (k+1) cD gj x1=some out:=H
 refine q1 <| qq <| qc H (fun c1 H=>?_) (fun c1 H=>?_)
 ·refine qk <| qq <| qb 3 <| qq ?_
  obtain⟨v3,e7,H⟩:=bj H
  refine qr [.v 0 (fy (k:=.i64) (E:=af) (l:=v2.args) gu e7),.v 1 (iz  (E:=af) (l:=v2.args) h4 A3 e7 rfl)] <| qq ?_
  obtain⟨x2,e8,H⟩:=bj H
  refine qr [.a 2 (nI _ _ _ e8 h4 _ (fw (ah (fK (pure_cons (cJ) (pure_cons (bQ.bA (E:=ai) (l:=s0.aa)) (pure_cons (bQ.bA (E:=af) (l:=s0.ae)) (pure_nil))))) (ah (aZ) (aw)))))] <| qq <| qr [.v 2 (show fh Try.prog h4 96 (.mp cy) (.int .i64 x2) false=some (.bool ((uV gj x2).1)) from (Qx (q:=0) (l:=gj) (k:=x2) Li o4 rfl).2)] <| qc H (fun c2 H=>?_) (fun c2 H=>?_)
  ·refine qq ?_
   obtain⟨h5,e9,o5⟩:=NM (q:=0) (l:=gj) (k:=x2) (v:=true) Li o4 rfl
   refine qr [.w 2 e9] ?_
   obtain⟨x3,rK,H⟩:=bj H
   obtain⟨dD,h6,uH,o6⟩:=iA (P:=Try.prog) (E:=af) (l:=cD) (q:=1) (t2:=33) (x:=.fz [.int .i64 x2] 1 true) (l2:=([x2])) gu o5 rfl (by kernel_rfl) rfl rK
   exact qr [.a 3 uH] <| q0 <| ⟨(x3,Ak gj x2 true,i64.wrap (x1+(1:Int))),⟨dD,h6,by kernel_rfl,o6⟩,H⟩
  ·exact qk <| q0 <| ⟨(cD,gj,i64.wrap (x1+(1:Int))),⟨cW,h4,by kernel_rfl,o4⟩,H⟩
 ·exact qx 2 <| ⟨rfl,cD,gj,x1,oi H,af.fz v2.args,.int .i64 (v2.args.length:Int),.int .i64 x1,.bool (decide (x1<(v2.args.length:Int))),cW,h4,by kernel_rfl,o4⟩
theorem aL.cQ (L:Mem)(s0:ab)(cy:Nat)  (nI:I3 cf m):dL Try.prog cf vM m (sub [1,1,1,0,1,0,0] (bZ Try.f42)) (fun k (σ:(List Int) × (List (Int × Bool)) × Int)=>aL.l0 m s0 k σ.1 σ.2.1 σ.2.2) (fun σ s=>match σ with | (bM,eC,k0)=>∃dY h3,s=⟨.fp [.bool s0.aj,ai.fz s0.aa,af.fz s0.ae] 0 :: .any :: .any :: .rs dY 0 bM.length 1 :: .mp cy :: .int .i64 k0::xf [],[none],h3⟩∧Has h3 ((cy,.mp (A6 eC))::(dY,.sl bM.length 1 (af.l bM))::L)) (fun out e s=>(e = .exit 0∧∃bM eC k0,(bM,eC,k0)=out∧∃mP Gy Gx Bc dY h3,s=⟨mP :: .any :: .any :: .rs dY 0 bM.length 1::Gy::Gx :: .any :: .any::Bc::Ai [],[none],h3⟩∧Has h3 ((cy,.mp (A6 eC))::(dY,.sl bM.length 1 (af.l bM))::L))):=by
 refine lg (fun _=>rfl) ?_
 rintro k ⟨bM,eC,k0⟩ s out ⟨dY,h3,rfl,o3⟩ H
 have H:aL.l0 m s0 (k+1) bM eC k0=some out:=H
 refine qq <| qq <| q0 <| qc H (fun c0 H=>?_) (fun c0 H=>?_)
 ·refine qk <| qq <| qb 1 <| qq ?_
  obtain⟨v1,e5,H⟩:=bj H
  obtain⟨v2,e6,H⟩:=bj H
  refine qr [.v 6 (bp (k:=.i64) (E:=af) (l:=bM) (q:=1) gu o3 rfl e5),.v 7 (di  (E:=af) (l:=bM) (q:=1) o3 rfl A3 e5 rfl),.v 8 (fy (k:=.i64) (E:=ai) (l:=s0.aa) uW e6),.v 10 (qJ  (E:=ai) (l:=s0.aa) (off:=3) h3 T3 e6 rfl)] <| qb 2 ?_
  obtain⟨zm,xq,H⟩:=bj H
  refine ql (aL.kz L s0 cy k0 v2  nI (bM,eC,(0:Int)) _ _ ⟨dY,h3,by kernel_rfl,o3⟩ xq) ?_
  rintro e s ⟨rfl,j6,Gz,x4,rfl,g0,g1,g2,g3,ff,h7,rfl,o7⟩
  try dsimp only at H
  exact q0 <| ⟨(j6,Gz,i64.wrap (k0+(1:Int))),⟨ff,h7,by kernel_rfl,o7⟩,H⟩
 ·exact qx 0 <| ⟨rfl,bM,eC,k0,oi H,.fp [.bool s0.aj,ai.fz s0.aa,af.fz s0.ae] 0,.mp cy,.int .i64 k0,.bool (decide (k0<(bM.length:Int))),dY,h3,by kernel_rfl,o3⟩
theorem mo {aY:FuncId→b9}(ha:aY 42=vM)(nI:I3 cf m)(s0:ab)(n0:Int)(h:AHeap)(L:Mem)  (o:Has h (L)){out:(List Int)}(H:aL.f m s0 n0=some out) :
  ∃r h',bf Try.prog aY cf m 42 [.fp [.bool s0.aj,ai.fz s0.aa,af.fz s0.ae] 0,.int .i64 n0] h=some (r,h')∧∃dw:Nat,r = .rs dw 0 out.length 1∧Has h' ((dw,.sl out.length 1 (af.l out))::L):=by
 refine ar (fn:=Try.f42) ha Try.func42 (by kernel_rfl) (by kernel_rfl) ?_
 refine aH (Q:=fun s=>aL.fin L out s) (fun _ _ ⟨h1,dw,h2,h3⟩=>⟨h1,_,h2,dw,rfl,h3⟩) ?_
 have H:_=some out:=H
 unfold aL.f at H
 show dK _ cf vM m _ ⟨.fp [.bool s0.aj,ai.fz s0.aa,af.fz s0.ae] 0 :: .int .i64 n0::uT [],[none],h⟩ _
 refine q1 <| qq ?_
 obtain⟨x0,e0,H⟩:=bj H
 obtain⟨aE,h0,e1,o0⟩:=Cd (E:=af) (l:=[x0]) (cs:=[.int .i64 x0]) o (by kernel_rfl)
 refine qr [.a 2 (nI _ _ _ e0 h _ (fw (ah (fK (pure_cons (cJ) (pure_cons (bQ.bA (E:=ai) (l:=s0.aa)) (pure_cons (bQ.bA (E:=af) (l:=s0.ae)) (pure_nil))))) (ah (aZ) (aw))))),.a 3 e1] <| qq ?_
 obtain⟨cy,h1,e2,o1⟩:=xd o0
 obtain⟨v0,e3,H⟩:=bj H
 obtain⟨h2,e4,o2⟩:=NM (q:=0) (l:=([]:List (Int × Bool))) (k:=v0) (v:=true) Li o1 rfl
 refine qr [.m 0 e2,.v 2 (bp (k:=.i64) (E:=af) (l:=([x0])) (q:=1) gu o1 rfl e3),.v 3 (di  (E:=af) (l:=([x0])) (q:=1) o1 rfl A3 e3 rfl),.w 4 e4] <| qq <| qq <| q0 <| qb 0 ?_
 obtain⟨GA,xr,H⟩:=bj H
 refine ql (aL.cQ L s0 cy  nI ([x0],Ak ([]:List (Int × Bool)) v0 true,(0:Int)) _ _ ⟨aE,h2,(aaR (b:=⟨.fp [.bool s0.aj,ai.fz s0.aa,af.fz s0.ae] 0 :: .any :: .any :: .rs aE 0 (([x0]:List Int).length) 1 :: .mp cy :: .int .i64 (0:Int)::xf [],[none],h2⟩) (by kernel_rfl) (by simp only [ZO])),(by have o:Has h2 ((cy,.mp (A6 (Ak ([]:List (Int × Bool)) v0 true)))::(aE,.sl (([x0]:List Int).length) 1 (af.l ([x0])))::L):=o2; simpa only [ZO] using o)⟩ xr) ?_
 rintro e s ⟨rfl,dA,NT,k1,rfl,g4,g5,g6,g7,gT,h8,rfl,o8⟩
 try dsimp only at H
 refine q1 ?_
 have o9:Has h8 ((gT,.sl dA.length 1 (af.l dA))::L):=Has.del o8 0
 obtain rfl:=oi H
 exact qt <| ⟨.inl rfl,⟨gT,by kernel_rfl,he o9⟩⟩
end
end Go.Proofs.Ytifafejidnjckaa
namespace Go.Proofs.Ytifafejidnjckaa
open Go Go.R
open Go.IntKind (i64 u64 u8 u32)
def Cv:b9:=gW [0,1,2,5,6,7,8,9,13,17,31] [5] [2036,1908,1999,1782,1999,1526,1999,1974,950,1974,1983,1999] [] []
def cC.f (m:Nat)(s0:ab)(GC:Option (Bool))(n0:ak):Option (Int × Int × ab):=(bO.f m s0).bind fun x0=>if (!x0)=true then (some ((0:Int),(6:Int),s0)) else ((GC ).bind fun r0=>if (!r0)=true then (some ((0:Int),(1:Int),s0)) else (if (decide ((s0.aa.length:Int)≥(8000:Int)))=true then (some ((0:Int),(7:Int),s0)) else (jn (fun (σ:Int)=>match σ with | n1=>(app 56 s0.aa ([(ak.mk n0.kind n1 n0.label n0.args)])).bind fun x1=>(app 8 s0.ae ([(s0.aa.length:Int)])).bind fun x2=>some ((s0.aa.length:Int),(0:Int),(ab.mk s0.aj x1 x2))) fun tP=>(if (n0.kind==(0:Int))=true then (tP (s0.aa.length:Int)) else (tP n0.int)))))
def cC.fin (L:Mem)(aq:Nat)(an:Nat)(ao:Nat)(s0:ab)(GC:Option (Bool))(n0:ak)(r:Int × Int × ab)(s:St):Prop:=∃aC aD:Nat,aO Try.prog (s.open Cv) Try.f47.results.toList=some (.tup [.int .i64 r.1,.int .i64 r.2.1])∧Has s.h ((aq,.ob [.bool r.2.2.aj,.rs aC 0 r.2.2.aa.length 4,.rs aD 0 r.2.2.ae.length 1])::(aC,.sl r.2.2.aa.length 4 (ai.l r.2.2.aa))::(aD,.sl r.2.2.ae.length 1 (af.l r.2.2.ae))::L)
def MC (cf:CallF)(m:Nat):Prop:=∀(s0:ab) (GC:Option (Bool)) (n0:ak) (r:Int × Int × ab),cC.f m s0 GC n0=some r→∀h L (aq:Nat) (an:Nat) (ao:Nat),Has h ((aq,.ob [.bool s0.aj,.rs an 0 s0.aa.length 4,.rs ao 0 s0.ae.length 1])::(an,.sl s0.aa.length 4 (ai.l s0.aa))::(ao,.sl s0.ae.length 1 (af.l s0.ae))::L)→∀(fH:FuncId) (aX cr:List AV),(aS (.fn fH aX) = .fn fH aX)→(∀(h:AHeap) (xs:List AV)  r,GC  = some r→aU bR h xs ([]++cr)→cf fH xs h=some (.bool r,h))→(∀h K,Has h (K++((aq,.ob [.bool s0.aj,.rs an 0 s0.aa.length 4,.rs ao 0 s0.ae.length 1])::(an,.sl s0.aa.length 4 (ai.l s0.aa))::(ao,.sl s0.ae.length 1 (af.l s0.ae))::L))→aU cM h aX cr)→(∀h,aU cM h cr cr)→∀xs,xs.map aS=[.ptr aq 0,.fn fH aX,.agg [.int .i64 n0.kind,.int .i64 n0.int,.str n0.label,af.fz n0.args]]→∃aC aD h',cf 47 xs h=some (.tup [.int .i64 r.1,.int .i64 r.2.1],h')∧Has h' ((aq,.ob [.bool r.2.2.aj,.rs aC 0 r.2.2.aa.length 4,.rs aD 0 r.2.2.ae.length 1])::(aC,.sl r.2.2.aa.length 4 (ai.l r.2.2.aa))::(aD,.sl r.2.2.ae.length 1 (af.l r.2.2.ae))::L)
section
variable {cf:CallF}{m:Nat}
theorem nJ {aY:FuncId→b9}(ha:aY 47=Cv)(xt:MB cf m)(s0:ab)(GC:Option (Bool))(n0:ak)(h:AHeap)(L:Mem)(aq:Nat)(an:Nat)(ao:Nat)(fH:FuncId)(aX cr:List AV)  (rY:aS (.fn fH aX) = .fn fH aX)(ir:∀(h:AHeap) (xs:List AV)  r,GC  = some r→aU bR h xs ([]++cr)→cf fH xs h=some (.bool r,h))(pY:∀h K,Has h (K++((aq,.ob [.bool s0.aj,.rs an 0 s0.aa.length 4,.rs ao 0 s0.ae.length 1])::(an,.sl s0.aa.length 4 (ai.l s0.aa))::(ao,.sl s0.ae.length 1 (af.l s0.ae))::L))→aU cM h aX cr)(iu:∀h,aU cM h cr cr)(o:Has h ((aq,.ob [.bool s0.aj,.rs an 0 s0.aa.length 4,.rs ao 0 s0.ae.length 1])::(an,.sl s0.aa.length 4 (ai.l s0.aa))::(ao,.sl s0.ae.length 1 (af.l s0.ae))::L)){out:Int × Int × ab}(H:cC.f m s0 GC n0=some out) :
  ∃r h',bf Try.prog aY cf m 47 [.ptr aq 0,.fn fH aX,.agg [.int .i64 n0.kind,.int .i64 n0.int,.str n0.label,af.fz n0.args]] h=some (r,h')∧∃aC aD:Nat,r = .tup [.int .i64 out.1,.int .i64 out.2.1]∧Has h' ((aq,.ob [.bool out.2.2.aj,.rs aC 0 out.2.2.aa.length 4,.rs aD 0 out.2.2.ae.length 1])::(aC,.sl out.2.2.aa.length 4 (ai.l out.2.2.aa))::(aD,.sl out.2.2.ae.length 1 (af.l out.2.2.ae))::L):=by
 refine ar (fn:=Try.f47) ha Try.func47 (by kernel_rfl) (by kernel_rfl) ?_
 refine aH (Q:=fun s=>cC.fin L aq an ao s0 GC n0 out s) (fun _ _ ⟨h1,aC,aD,h2,h3⟩=>⟨h1,_,h2,aC,aD,rfl,h3⟩) ?_
 have H:_=some out:=H
 unfold cC.f at H
 show dK _ cf Cv m _ ⟨.ptr aq 0 :: .fn fH aX :: .agg [.int .i64 n0.kind,.int .i64 n0.int,.str n0.label,af.fz n0.args]::xf [],[none],h⟩ _
 refine q1 <| qq <| qb 0 <| qq ?_
 obtain⟨x0,e0,H⟩:=bj H
 refine qr [.a 1 (xt _ _ e0 h _ (fw (ah (ez (q:=0) o rfl (ah (fW) (ah (cZ (E:=ai) (l:=s0.aa) (q:=1) o rfl (fun _=>rfl)) (ah (cZ (E:=af) (l:=s0.ae) (q:=2) o rfl (fun _=>rfl)) (aw))))) (aw))))] <| qc H (fun c0 H=>?_) (fun c0 H=>?_)
 ·obtain rfl:=oi H
  exact q1 <| qt <| ⟨.inl rfl,⟨an,ao,by kernel_rfl,he o⟩⟩
 ·refine qq ?_
  obtain⟨r0,e1,H⟩:=bj H
  refine qr [.a 1 (ir _ _ _ e1 (IZ (aw) (pY h [] o)))] <| qc H (fun c1 H=>?_) (fun c1 H=>?_)
  ·obtain rfl:=oi H
   exact q1 <| qt <| ⟨.inl rfl,⟨an,ao,by kernel_rfl,he o⟩⟩
  ·refine qs [.v 3 (show bE Try.prog h 40 (.ptr aq 1)=some (.rs an 0 s0.aa.length 4) from cq (q:=0) (cs:=[.bool s0.aj,.rs an 0 s0.aa.length 4,.rs ao 0 s0.ae.length 1]) o rfl (by kernel_rfl))] <| qc H (fun c2 H=>?_) (fun c2 H=>?_)
   ·obtain rfl:=oi H
    exact q1 <| qt <| ⟨.inl rfl,⟨an,ao,by kernel_rfl,he o⟩⟩
   ·refine qk <| qq <| qr [.v 3 (show bE Try.prog h 40 (.ptr aq 1)=some (.rs an 0 s0.aa.length 4) from cq (q:=0) (cs:=[.bool s0.aj,.rs an 0 s0.aa.length 4,.rs ao 0 s0.ae.length 1]) o rfl (by kernel_rfl))] ?_
    obtain⟨tP,GD,H⟩:=oa H
    refine qj (S:=fun (σ:Int) s=>match σ with | n1=>∃(g0:AV) (h0:AHeap),s=⟨.ptr aq 0 :: .any :: .any :: .lp 5 0 :: .any :: .any :: .int .i64 (s0.aa.length:Int)::ov [g0],[some [.int .i64 n0.kind,.int .i64 n1,.str n0.label,af.fz n0.args]],h0⟩∧Has h0 ((aq,.ob [.bool s0.aj,.rs an 0 s0.aa.length 4,.rs ao 0 s0.ae.length 1])::(an,.sl s0.aa.length 4 (ai.l s0.aa))::(ao,.sl s0.ae.length 1 (af.l s0.ae))::L)) tP H ?_ ?_
    ·rintro n1 s ⟨g0,h0,rfl,o0⟩ H
     have H:=(GD _).symm.trans H
     try dsimp only at H
     refine qq ?_
     obtain⟨x1,e2,H⟩:=bj H
     obtain⟨aE,h1,e3,o1⟩:=iA (P:=Try.prog) (E:=ai) (l:=s0.aa) (q:=1) (t2:=40) (x:=.fz [.int .i64 n0.kind,.int .i64 n1,.str n0.label,af.fz n0.args] 1 true) (l2:=([(ak.mk n0.kind n1 n0.label n0.args)])) uW o0 rfl (by kernel_rfl) rfl e2
     obtain⟨x2,e4,H⟩:=bj H
     obtain⟨cy,h2,e5,o2⟩:=iA (P:=Try.prog) (E:=af) (l:=s0.ae) (q:=2) (t2:=33) (x:=.fz [.int .i64 (s0.aa.length:Int)] 1 true) (l2:=([(s0.aa.length:Int)])) gu o1 rfl (by kernel_rfl) rfl e4
     obtain⟨h3,e6,o3⟩:=oI (P:=Try.prog) (t:=40) (off:=1) (q:=0) (cs:=[.bool s0.aj,.rs an 0 s0.aa.length 4,.rs ao 0 s0.ae.length 1]) (fU:=[.bool s0.aj,.rs aE 0 x1.length 4,.rs ao 0 s0.ae.length 1]) (x:=.rs aE 0 x1.length 4) o2 rfl (by kernel_rfl)
     obtain⟨h4,e7,o4⟩:=oI (P:=Try.prog) (t:=33) (off:=2) (q:=0) (cs:=[.bool s0.aj,.rs aE 0 x1.length 4,.rs ao 0 s0.ae.length 1]) (fU:=[.bool s0.aj,.rs aE 0 x1.length 4,.rs cy 0 x2.length 1]) (x:=.rs cy 0 x2.length 1) o3 rfl (by kernel_rfl)
     obtain rfl:=oi H
     exact Mz [] [.v 5 (show bE Try.prog h0 40 (.ptr aq 1)=some (.rs an 0 s0.aa.length 4) from cq (q:=0) (cs:=[.bool s0.aj,.rs an 0 s0.aa.length 4,.rs ao 0 s0.ae.length 1]) o0 rfl (by kernel_rfl)),.a 8 e3,.v 12 (show bE Try.prog h1 33 (.ptr aq 2)=some (.rs ao 0 s0.ae.length 1) from cq (q:=0) (cs:=[.bool s0.aj,.rs an 0 s0.aa.length 4,.rs ao 0 s0.ae.length 1]) o1 rfl (by kernel_rfl)),.a 15 e5,.w 18 e6,.w 21 e7] [.mk (A4 o0 (q:=1) rfl (q2:=0) rfl (by decide) e3)] <| qq <| q0 <| qt <| ⟨.inl rfl,⟨aE,cy,by kernel_rfl,he o4⟩⟩
    clear GD
    intro pd
    refine q1 <| qc H (fun c3 H=>?_) (fun c3 H=>?_)
    ·exact q0 <| pd (s0.aa.length:Int) _ ⟨.any,h,by kernel_rfl,o⟩ H
    ·exact qk <| pd n0.int _ ⟨.bool (n0.kind==(0:Int)),h,by kernel_rfl,o⟩ H
end
end Go.Proofs.Ytifafejidnjckaa
namespace Go.Proofs.Ytifafejidnjckaa
open Go Go.R
open Go.IntKind (i64 u64 u8 u32)
def Cw:b9:=gW [0] [] [1] [] []
def eD.f (m:Nat)  : Option (Bool):=some true
def eD.fin (L:Mem)(r:Bool)(s:St):Prop:=∃av,aO Try.prog (s.open Cw) Try.f48.results.toList=some av∧fG s.h av (.bool r)
def Ue (cf:CallF)(m:Nat):Prop:=∀ (r:Bool),eD.f m  = some r→∀h xs,aU bR h xs []→cf 48 xs h=some (.bool r,h)
section
variable {cf:CallF}{m:Nat}
theorem mq {aY:FuncId→b9}(ha:aY 48=Cw)   (h:AHeap)(L:Mem)  (o:Has h (L)){out:Bool}(H:eD.f m  = some out) :
  ∃r h',bf Try.prog aY cf m 48 [] h=some (r,h')∧fG h' r (.bool out):=by
 refine ar (fn:=Try.f48) ha Try.func48 (by kernel_rfl) (by kernel_rfl) ?_
 refine aH (Q:=fun s=>eD.fin L out s) (fun _ _ h=>h) ?_
 have H:_=some out:=H
 unfold eD.f at H
 show dK _ cf Cw m _ ⟨[.any],[],h⟩ _
 obtain rfl:=oi H
 exact q1 <| qq <| q0 <| qt <| ⟨.inl rfl,cV (.bool true) h (cP (az))⟩
end
end Go.Proofs.Ytifafejidnjckaa
namespace Go.Proofs.Ytifafejidnjckaa
open Go Go.R
open Go.IntKind (i64 u64 u8 u32)
def Cy:b9:=gW [0,1] [] [2,1] [] []
def dM.f (m:Nat)(x0:Int):Option (Bool):=if (decide (x0≥(-1099511627776:Int)))=true then (some (decide (x0≤(1099511627776:Int)))) else (some false)
def dM.fin (L:Mem)(r:Bool)(s:St):Prop:=∃av,aO Try.prog (s.open Cy) Try.f51.results.toList=some av∧fG s.h av (.bool r)
def Ug (cf:CallF)(m:Nat):Prop:=∀(x0:Int) (r:Bool),dM.f m x0=some r→∀h xs,aU bR h xs [.fp [.int .i64 x0] 0]→cf 51 xs h=some (.bool r,h)
section
variable {cf:CallF}{m:Nat}
theorem mr {aY:FuncId→b9}(ha:aY 51=Cy)  (x0:Int)(h:AHeap)(L:Mem)  (o:Has h (L)){out:Bool}(H:dM.f m x0=some out) :
  ∃r h',bf Try.prog aY cf m 51 [.fp [.int .i64 x0] 0] h=some (r,h')∧fG h' r (.bool out):=by
 refine ar (fn:=Try.f51) ha Try.func51 (by kernel_rfl) (by kernel_rfl) ?_
 refine aH (Q:=fun s=>dM.fin L out s) (fun _ _ h=>h) ?_
 have H:_=some out:=H
 unfold dM.f at H
 show dK _ cf Cy m _ ⟨[.fp [.int .i64 x0] 0,.any],[],h⟩ _
 refine q1 <| qq ?_
 rcases gS H with⟨c0,H⟩| ⟨c0,H⟩
 ·obtain rfl:=oi H
  exact qr [.b 2 c0] <| qt <| ⟨.inl rfl,cV (.bool (decide (x0≤(1099511627776:Int)))) h (cP (az))⟩
 ·obtain rfl:=oi H
  exact qr [.b 2 c0] <| qt <| ⟨.inl rfl,cV (.bool false) h (cP (az))⟩
end
end Go.Proofs.Ytifafejidnjckaa
namespace Go.Proofs.Ytifafejidnjckaa
open Go Go.R
open Go.IntKind (i64 u64 u8 u32)
def Cz:b9:=gW [0,1,4] [] [4,3] [] []
def dj.f (m:Nat)(s0:ab)(n0:Int):Option (Bool):=if (decide (n0≥(0:Int)))=true then (some (decide (n0<(s0.aa.length:Int)))) else (some false)
def dj.fin (L:Mem)(r:Bool)(s:St):Prop:=∃av,aO Try.prog (s.open Cz) Try.f54.results.toList=some av∧fG s.h av (.bool r)
def QF (cf:CallF)(m:Nat):Prop:=∀(s0:ab) (n0:Int) (r:Bool),dj.f m s0 n0=some r→∀h xs,aU bR h xs [.fp [.bool s0.aj,ai.fz s0.aa,af.fz s0.ae] 0,.int .i64 n0]→cf 54 xs h=some (.bool r,h)
section
variable {cf:CallF}{m:Nat}
theorem mu {aY:FuncId→b9}(ha:aY 54=Cz)  (s0:ab)(n0:Int)(h:AHeap)(L:Mem)  (o:Has h (L)){out:Bool}(H:dj.f m s0 n0=some out) :
  ∃r h',bf Try.prog aY cf m 54 [.fp [.bool s0.aj,ai.fz s0.aa,af.fz s0.ae] 0,.int .i64 n0] h=some (r,h')∧fG h' r (.bool out):=by
 refine ar (fn:=Try.f54) ha Try.func54 (by kernel_rfl) (by kernel_rfl) ?_
 refine aH (Q:=fun s=>dj.fin L out s) (fun _ _ h=>h) ?_
 have H:_=some out:=H
 unfold dj.f at H
 show dK _ cf Cz m _ ⟨[.fp [.bool s0.aj,ai.fz s0.aa,af.fz s0.ae] 0,.int .i64 n0,.any],[],h⟩ _
 refine q1 <| qq ?_
 rcases gS H with⟨c0,H⟩| ⟨c0,H⟩
 ·obtain rfl:=oi H
  exact qr [.b 2 c0] <| qt <| ⟨.inl rfl,cV (.bool (decide (n0<(s0.aa.length:Int)))) h (cP (az))⟩
 ·obtain rfl:=oi H
  exact qr [.b 2 c0] <| qt <| ⟨.inl rfl,cV (.bool false) h (cP (az))⟩
end
end Go.Proofs.Ytifafejidnjckaa
namespace Go.Proofs.Ytifafejidnjckaa
open Go Go.R
open Go.IntKind (i64 u64 u8 u32)
def CA:b9:=gW [0,1,2,3,4] [2,3] [19,15] [] []
def fX.f (m:Nat)(a0:ak)(b0:ak):Option (Bool):=if (!(a0.kind==b0.kind))=true then (some true) else (if (!(a0.int==b0.int))=true then (some true) else (if (!(a0.label.data.toList==b0.label.data.toList))=true then (some true) else (some (!((a0.args.length:Int)==(b0.args.length:Int))))))
def fX.fin (L:Mem)(r:Bool)(s:St):Prop:=∃av,aO Try.prog (s.open CA) Try.f55.results.toList=some av∧fG s.h av (.bool r)
def QG (cf:CallF)(m:Nat):Prop:=∀(a0:ak) (b0:ak) (r:Bool),fX.f m a0 b0=some r→∀h xs,aU bR h xs [.agg [.int .i64 a0.kind,.int .i64 a0.int,.str a0.label,af.fz a0.args],.agg [.int .i64 b0.kind,.int .i64 b0.int,.str b0.label,af.fz b0.args]]→cf 55 xs h=some (.bool r,h)
section
variable {cf:CallF}{m:Nat}
theorem pZ {aY:FuncId→b9}(ha:aY 55=CA)  (a0:ak)(b0:ak)(h:AHeap)(L:Mem)  (o:Has h (L)){out:Bool}(H:fX.f m a0 b0=some out) :
  ∃r h',bf Try.prog aY cf m 55 [.agg [.int .i64 a0.kind,.int .i64 a0.int,.str a0.label,af.fz a0.args],.agg [.int .i64 b0.kind,.int .i64 b0.int,.str b0.label,af.fz b0.args]] h=some (r,h')∧fG h' r (.bool out):=by
 refine ar (fn:=Try.f55) ha Try.func55 (by kernel_rfl) (by kernel_rfl) ?_
 refine aH (Q:=fun s=>fX.fin L out s) (fun _ _ h=>h) ?_
 have H:_=some out:=H
 unfold fX.f at H
 show dK _ cf CA m _ ⟨.agg [.int .i64 a0.kind,.int .i64 a0.int,.str a0.label,af.fz a0.args] :: .agg [.int .i64 b0.kind,.int .i64 b0.int,.str b0.label,af.fz b0.args]::ov [],[none,none],h⟩ _
 refine q1 <| qq ?_
 rcases gS H with⟨c0,H⟩| ⟨c0,H⟩
 ·obtain rfl:=oi H
  exact qr [.b 5 c0] <| qt <| ⟨.inl rfl,cV (.bool true) h (cP (az))⟩
 ·rcases gS H with⟨c1,H⟩| ⟨c1,H⟩
  ·obtain rfl:=oi H
   exact qr [.b 5 c0,.b 12 c1] <| qt <| ⟨.inl rfl,cV (.bool true) h (cP (az))⟩
  ·rcases gS H with⟨c2,H⟩| ⟨c2,H⟩
   ·obtain rfl:=oi H
    exact qr [.b 5 c0,.b 12 c1,.b 19 c2] <| qt <| ⟨.inl rfl,cV (.bool true) h (cP (az))⟩
   ·obtain rfl:=oi H
    exact qr [.b 5 c0,.b 12 c1,.b 19 c2] <| qt <| ⟨.inl rfl,cV (.bool (!((a0.args.length:Int)==(b0.args.length:Int)))) h (cP (az))⟩
end
end Go.Proofs.Ytifafejidnjckaa
namespace Go.Proofs.Ytifafejidnjckaa
open Go Go.R
open Go.IntKind (i64 u64 u8 u32)
def CB:b9:=gW [0,1,4] [] [4,3] [] []
def cE.f (m:Nat)(s0:ab)(n0:Int):Option (Bool):=(ix s0.aa n0).bind fun v0=>some (v0.kind==(0:Int))
def cE.fin (L:Mem)(r:Bool)(s:St):Prop:=∃av,aO Try.prog (s.open CB) Try.f59.results.toList=some av∧fG s.h av (.bool r)
def QH (cf:CallF)(m:Nat):Prop:=∀(s0:ab) (n0:Int) (r:Bool),cE.f m s0 n0=some r→∀h xs,aU bR h xs [.fp [.bool s0.aj,ai.fz s0.aa,af.fz s0.ae] 0,.int .i64 n0]→cf 59 xs h=some (.bool r,h)
section
variable {cf:CallF}{m:Nat}
theorem mS {aY:FuncId→b9}(ha:aY 59=CB)  (s0:ab)(n0:Int)(h:AHeap)(L:Mem)  (o:Has h (L)){out:Bool}(H:cE.f m s0 n0=some out) :
  ∃r h',bf Try.prog aY cf m 59 [.fp [.bool s0.aj,ai.fz s0.aa,af.fz s0.ae] 0,.int .i64 n0] h=some (r,h')∧fG h' r (.bool out):=by
 refine ar (fn:=Try.f59) ha Try.func59 (by kernel_rfl) (by kernel_rfl) ?_
 refine aH (Q:=fun s=>cE.fin L out s) (fun _ _ h=>h) ?_
 have H:_=some out:=H
 unfold cE.f at H
 show dK _ cf CB m _ ⟨[.fp [.bool s0.aj,ai.fz s0.aa,af.fz s0.ae] 0,.int .i64 n0,.any],[],h⟩ _
 refine q1 <| qq ?_
 obtain⟨v0,e0,H⟩:=bj H
 obtain rfl:=oi H
 exact qr [.v 5 (fy (k:=.i64) (E:=ai) (l:=s0.aa) uW e0),.v 7 (qJ  (E:=ai) (l:=s0.aa) (off:=0) h A3 e0 rfl)] <| qt <| ⟨.inl rfl,cV (.bool (v0.kind==(0:Int))) h (cP (az))⟩
end
end Go.Proofs.Ytifafejidnjckaa
namespace Go.Proofs.Ytifafejidnjckaa
open Go Go.R
open Go.IntKind (i64 u64 u8 u32)
def CC:b9:=gW [0,1,3] [] [4,3] [] []
def dd.f (m:Nat)(a0:Int)(x0:ab):Option (Bool):=(dj.f m x0 a0).bind fun x1=>some (!x1)
def dd.fin (L:Mem)(r:Bool)(s:St):Prop:=∃av,aO Try.prog (s.open CC) Try.f62.results.toList=some av∧fG s.h av (.bool r)
def Uh (cf:CallF)(m:Nat):Prop:=∀(a0:Int) (x0:ab) (r:Bool),dd.f m a0 x0=some r→∀h xs,aU bR h xs [.int .i64 a0,.fp [.fp [.bool x0.aj,ai.fz x0.aa,af.fz x0.ae] 0] 0]→cf 62 xs h=some (.bool r,h)
section
variable {cf:CallF}{m:Nat}
theorem kA {aY:FuncId→b9}(ha:aY 62=CC)(Lk:QF cf m)(a0:Int)(x0:ab)(h:AHeap)(L:Mem)  (o:Has h (L)){out:Bool}(H:dd.f m a0 x0=some out) :
  ∃r h',bf Try.prog aY cf m 62 [.int .i64 a0,.fp [.fp [.bool x0.aj,ai.fz x0.aa,af.fz x0.ae] 0] 0] h=some (r,h')∧fG h' r (.bool out):=by
 refine ar (fn:=Try.f62) ha Try.func62 (by kernel_rfl) (by kernel_rfl) ?_
 refine aH (Q:=fun s=>dd.fin L out s) (fun _ _ h=>h) ?_
 have H:_=some out:=H
 unfold dd.f at H
 show dK _ cf CC m _ ⟨[.int .i64 a0,.fp [.fp [.bool x0.aj,ai.fz x0.aa,af.fz x0.ae] 0] 0,.any],[],h⟩ _
 refine q1 <| qq ?_
 obtain⟨x1,e0,H⟩:=bj H
 obtain rfl:=oi H
 exact qr [.a 2 (Lk _ _ _ e0 h _ (fw (ah (fK (pure_cons (cJ) (pure_cons (bQ.bA (E:=ai) (l:=x0.aa)) (pure_cons (bQ.bA (E:=af) (l:=x0.ae)) (pure_nil))))) (ah (aZ) (aw)))))] <| qt <| ⟨.inl rfl,cV (.bool (!x1)) h (cP (az))⟩
end
end Go.Proofs.Ytifafejidnjckaa
namespace Go.Proofs.Ytifafejidnjckaa
open Go Go.R
open Go.IntKind (i64 u64 u8 u32)
def CD:b9:=gW [0,2] [] [2,1] [] []
def gK.f (m:Nat)(s0:ByteArray):Option (Bool):=if (s0.data.toList==(aaq #[112,114,111,99]).data.toList)=true then (some true) else (if (s0.data.toList==(aaq #[99,101,108,108]).data.toList)=true then (some true) else (some (s0.data.toList==(aaq #[112,111,114,116]).data.toList)))
def gK.fin (L:Mem)(r:Bool)(s:St):Prop:=∃av,aO Try.prog (s.open CD) Try.f64.results.toList=some av∧fG s.h av (.bool r)
def QI (cf:CallF)(m:Nat):Prop:=∀(s0:ByteArray) (r:Bool),gK.f m s0=some r→∀h xs,aU bR h xs [.str s0]→cf 64 xs h=some (.bool r,h)
section
variable {cf:CallF}{m:Nat}
theorem rZ {aY:FuncId→b9}(ha:aY 64=CD)  (s0:ByteArray)(h:AHeap)(L:Mem)  (o:Has h (L)){out:Bool}(H:gK.f m s0=some out) :
  ∃r h',bf Try.prog aY cf m 64 [.str s0] h=some (r,h')∧fG h' r (.bool out):=by
 refine ar (fn:=Try.f64) ha Try.func64 (by kernel_rfl) (by kernel_rfl) ?_
 refine aH (Q:=fun s=>gK.fin L out s) (fun _ _ h=>h) ?_
 have H:_=some out:=H
 unfold gK.f at H
 show dK _ cf CD m _ ⟨[.str s0,.any],[],h⟩ _
 refine q1 <| qq ?_
 rcases gS H with⟨c0,H⟩| ⟨c0,H⟩
 ·obtain rfl:=oi H
  exact qr [.b 2 c0] <| qt <| ⟨.inl rfl,cV (.bool true) h (cP (az))⟩
 ·rcases gS H with⟨c1,H⟩| ⟨c1,H⟩
  ·obtain rfl:=oi H
   exact qr [.b 2 c0,.b 6 c1] <| qt <| ⟨.inl rfl,cV (.bool true) h (cP (az))⟩
  ·obtain rfl:=oi H
   exact qr [.b 2 c0,.b 6 c1] <| qt <| ⟨.inl rfl,cV (.bool (s0.data.toList==(aaq #[112,111,114,116]).data.toList)) h (cP (az))⟩
end
end Go.Proofs.Ytifafejidnjckaa
namespace Go.Proofs.Ytifafejidnjckaa
open Go Go.R
open Go.IntKind (i64 u64 u8 u32)
def zn:b9:=gW [0,1,2,6,7,8,9,14,15,16,17,18,30] [8,9] [8184,8056,8183,6393,4345,6345,6297,2297,8183,6393,8183] [] []
def aG.l0 (m:Nat)(s0:List ak)(s1:List ak)(eq0:ak→ak→Option (Bool)):Nat→Int→Option (Sum Bool (Int))
 | 0,_=>none
 | k+1,x0=>if (decide (x0<(s0.length:Int)))=true then ((ix s0 x0).bind fun v0=>(ix s1 x0).bind fun v1=>(eq0 v0 v1).bind fun r0=>if (!r0)=true then (some (.inl false)) else (aG.l0 m s0 s1 eq0 k (i64.wrap (x0+(1:Int))))) else (some (.inr x0))
def aG.f (m:Nat)(s0:List ak)(s1:List ak)(eq0:ak→ak→Option (Bool)):Option (Bool):=if (!((s0.length:Int)==(s1.length:Int)))=true then (some false) else ((aG.l0 m s0 s1 eq0 m (0:Int)).bind fun bM=>match bM with | .inl r1=>some r1 | .inr x1=>some true)
def aG.fin (L:Mem)(r:Bool)(s:St):Prop:=∃av,aO Try.prog (s.open zn) Try.f68.results.toList=some av∧fG s.h av (.bool r)
def Ui (cf:CallF)(m:Nat):Prop:=∀(s0:List ak) (s1:List ak) (eq0:ak→ak→Option (Bool)) (r:Bool),aG.f m s0 s1 eq0=some r→∀(ju:FuncId) (ca:List AV),(∀(h:AHeap) (xs:List AV) (a0:ak) (a1:ak) r,eq0 a0 a1=some r→aU bR h xs ([.agg [.int .i64 a0.kind,.int .i64 a0.int,.str a0.label,af.fz a0.args],.agg [.int .i64 a1.kind,.int .i64 a1.int,.str a1.label,af.fz a1.args]]++ca)→cf ju xs h=some (.bool r,h))→(∀h,aU cM h ca ca)→∀h xs,aU bR h xs [ai.fz s0,ai.fz s1,.fn ju ca]→cf 68 xs h=some (.bool r,h)
section
variable {cf:CallF}{m:Nat}
theorem aG.cQ (L:Mem)(ju:FuncId)(ca:List AV)(s0:List ak)(s1:List ak)(eq0:ak→ak→Option (Bool))  (mT:∀(h:AHeap) (xs:List AV) (a0:ak) (a1:ak) r,eq0 a0 a1=some r→aU bR h xs ([.agg [.int .i64 a0.kind,.int .i64 a0.int,.str a0.label,af.fz a0.args],.agg [.int .i64 a1.kind,.int .i64 a1.int,.str a1.label,af.fz a1.args]]++ca)→cf ju xs h=some (.bool r,h))(mU:∀h,aU cM h ca ca)  : dL Try.prog cf zn m (sub [1,1,0,1,0,0] (bZ Try.f68)) (fun k (σ:Int)=>aG.l0 m s0 s1 eq0 k σ) (fun σ s=>match σ with | x0=>∃h0,s=⟨.any::ai.fz s1 :: .fn ju ca::Ai [ai.fz s0,.int .i64 (s0.length:Int),.int .i64 x0,.any,.any],[none,none],h0⟩∧Has h0 (L)) (fun out e s=>(e = .exit 0∧∃x0,.inr x0=out∧∃uY I4 Ll QJ Lm QK h0,s=⟨.any::uY::I4::Ai [Ll,QJ,Lm,QK,.any],[none,none],h0⟩∧Has h0 (L))∨(e = .ret∧∃r,.inl r=out∧aG.fin L r s)):=by
 refine lg (fun _=>rfl) ?_
 rintro k x0 s out ⟨h0,rfl,o0⟩ H
 have H:aG.l0 m s0 s1 eq0 (k+1) x0=some out:=H
 refine q1 <| qq <| qc H (fun c1 H=>?_) (fun c1 H=>?_)
 ·refine qk <| qq <| qb 1 <| qq ?_
  obtain⟨v0,e0,H⟩:=bj H
  refine qr [.v 1 (fy (k:=.i64) (E:=ai) (l:=s0) uW e0),.v 2 (jP  (E:=ai) (l:=s0) h0 Ez EA e0)] <| qq ?_
  obtain⟨v1,e1,H⟩:=bj H
  refine qr [.v 2 (fy (k:=.i64) (E:=ai) (l:=s1) uW e1),.v 3 (jP  (E:=ai) (l:=s1) h0 Ez EA e1)] <| qq ?_
  obtain⟨r0,e2,H⟩:=bj H
  refine qr [.a 3 (mT _ _ _ _ _ e2 (IZ (ah (eV (ah (aZ) (ah (aZ) (ah (cK) (ah (dU (E:=af)) (aw)))))) (ah (eV (ah (aZ) (ah (aZ) (ah (cK) (ah (dU (E:=af)) (aw)))))) (aw))) (mU h0)))] <| qc H (fun c2 H=>?_) (fun c2 H=>?_)
  ·exact q1 <| qt <| Or.inr (⟨rfl,_,oi H,cV (.bool false) h0 (cP (az))⟩)
  ·exact qk <| q0 <| ⟨i64.wrap (x0+(1:Int)),⟨h0,by kernel_rfl,o0⟩,H⟩
 ·exact qx 0 <| Or.inl (⟨rfl,x0,oi H,ai.fz s1,.fn ju ca,ai.fz s0,.int .i64 (s0.length:Int),.int .i64 x0,.bool (decide (x0<(s0.length:Int))),h0,by kernel_rfl,o0⟩)
theorem jw {aY:FuncId→b9}(ha:aY 68=zn)  (s0:List ak)(s1:List ak)(eq0:ak→ak→Option (Bool))(h:AHeap)(L:Mem)(ju:FuncId)(ca:List AV)  (mT:∀(h:AHeap) (xs:List AV) (a0:ak) (a1:ak) r,eq0 a0 a1=some r→aU bR h xs ([.agg [.int .i64 a0.kind,.int .i64 a0.int,.str a0.label,af.fz a0.args],.agg [.int .i64 a1.kind,.int .i64 a1.int,.str a1.label,af.fz a1.args]]++ca)→cf ju xs h=some (.bool r,h))(mU:∀h,aU cM h ca ca)(o:Has h (L)){out:Bool}(H:aG.f m s0 s1 eq0=some out) :
  ∃r h',bf Try.prog aY cf m 68 [ai.fz s0,ai.fz s1,.fn ju ca] h=some (r,h')∧fG h' r (.bool out):=by
 refine ar (fn:=Try.f68) ha Try.func68 (by kernel_rfl) (by kernel_rfl) ?_
 refine aH (Q:=fun s=>aG.fin L out s) (fun _ _ h=>h) ?_
 have H:_=some out:=H
 unfold aG.f at H
 show dK _ cf zn m _ ⟨ai.fz s0::ai.fz s1 :: .fn ju ca::Ge [],[none,none],h⟩ _
 refine q1 <| qq <| qq <| q0 <| qc H (fun c0 H=>?_) (fun c0 H=>?_)
 ·obtain rfl:=oi H
  exact q1 <| qt <| ⟨.inl rfl,cV (.bool false) h (cP (az))⟩
 ·refine qk <| qq <| qq <| q0 <| qb 0 ?_
  obtain⟨bM,e3,H⟩:=bj H
  refine ql (aG.cQ L ju ca s0 s1 eq0  mT mU  (0:Int) _ _ ⟨h,by kernel_rfl,o⟩ e3) ?_
  rintro e s (⟨rfl,x1,rfl,g0,g1,g2,g3,g4,g5,h1,rfl,o1⟩| ⟨rfl,r1,rfl,uX⟩)
  ·try dsimp only at H
   obtain rfl:=oi H
   exact q1 <| qt <| ⟨.inl rfl,cV (.bool true) h1 (cP (az))⟩
  ·try dsimp only at H
   obtain rfl:=oi H
   exact⟨.inl rfl,uX⟩
end
end Go.Proofs.Ytifafejidnjckaa
namespace Go.Proofs.Ytifafejidnjckaa
open Go Go.R
open Go.IntKind (i64 u64 u8 u32)
def zo:b9:=gW [0,1,4,5,10,12,13,14,24] [] [508,492,507,412,284,404,156,507,412,507] [] []
def bK.l0 (m:Nat)(s0:List Int)(s1:List Int):Nat→Int→Option (Sum Bool (Int))
 | 0,_=>none
 | k+1,x0=>if (decide (x0<(s0.length:Int)))=true then ((ix s0 x0).bind fun v0=>(ix s1 x0).bind fun v1=>if (!(v0==v1))=true then (some (.inl false)) else (bK.l0 m s0 s1 k (i64.wrap (x0+(1:Int))))) else (some (.inr x0))
def bK.f (m:Nat)(s0:List Int)(s1:List Int):Option (Bool):=if (!((s0.length:Int)==(s1.length:Int)))=true then (some false) else ((bK.l0 m s0 s1 m (0:Int)).bind fun bM=>match bM with | .inl r0=>some r0 | .inr x1=>some true)
def bK.fin (L:Mem)(r:Bool)(s:St):Prop:=∃av,aO Try.prog (s.open zo) Try.f71.results.toList=some av∧fG s.h av (.bool r)
def Uj (cf:CallF)(m:Nat):Prop:=∀(s0:List Int) (s1:List Int) (r:Bool),bK.f m s0 s1=some r→∀h xs,aU bR h xs [af.fz s0,af.fz s1]→cf 71 xs h=some (.bool r,h)
section
variable {cf:CallF}{m:Nat}
theorem bK.cQ (L:Mem)(s0:List Int)(s1:List Int)   : dL Try.prog cf zo m (sub [1,1,0,1,0,0] (bZ Try.f71)) (fun k (σ:Int)=>bK.l0 m s0 s1 k σ) (fun σ s=>match σ with | x0=>∃h0,s=⟨af.fz s0::af.fz s1::ov [.int .i64 (s0.length:Int),.int .i64 x0,.any,.any],[],h0⟩∧Has h0 (L)) (fun out e s=>(e = .exit 0∧∃x0,.inr x0=out∧∃mP uY Ln tO A7 h0,s=⟨mP::uY::ov [Ln,tO,A7,.any],[],h0⟩∧Has h0 (L))∨(e = .ret∧∃r,.inl r=out∧bK.fin L r s)):=by
 refine lg (fun _=>rfl) ?_
 rintro k x0 s out ⟨h0,rfl,o0⟩ H
 have H:bK.l0 m s0 s1 (k+1) x0=some out:=H
 refine q1 <| qq <| qc H (fun c1 H=>?_) (fun c1 H=>?_)
 ·refine qk <| qq <| qb 1 <| qq <| q0 <| qq ?_
  obtain⟨v0,e0,H⟩:=bj H
  obtain⟨v1,e1,H⟩:=bj H
  refine qr [.v 2 (fy (k:=.i64) (E:=af) (l:=s0) gu e0),.v 3 (iz  (E:=af) (l:=s0) h0 A3 e0 rfl),.v 6 (fy (k:=.i64) (E:=af) (l:=s1) gu e1),.v 7 (iz  (E:=af) (l:=s1) h0 A3 e1 rfl)] <| qc H (fun c2 H=>?_) (fun c2 H=>?_)
  ·exact q1 <| qt <| Or.inr (⟨rfl,_,oi H,cV (.bool false) h0 (cP (az))⟩)
  ·exact qk <| q0 <| ⟨i64.wrap (x0+(1:Int)),⟨h0,by kernel_rfl,o0⟩,H⟩
 ·exact qx 0 <| Or.inl (⟨rfl,x0,oi H,af.fz s0,af.fz s1,.int .i64 (s0.length:Int),.int .i64 x0,.bool (decide (x0<(s0.length:Int))),h0,by kernel_rfl,o0⟩)
theorem pe {aY:FuncId→b9}(ha:aY 71=zo)  (s0:List Int)(s1:List Int)(h:AHeap)(L:Mem)  (o:Has h (L)){out:Bool}(H:bK.f m s0 s1=some out) :
  ∃r h',bf Try.prog aY cf m 71 [af.fz s0,af.fz s1] h=some (r,h')∧fG h' r (.bool out):=by
 refine ar (fn:=Try.f71) ha Try.func71 (by kernel_rfl) (by kernel_rfl) ?_
 refine aH (Q:=fun s=>bK.fin L out s) (fun _ _ h=>h) ?_
 have H:_=some out:=H
 unfold bK.f at H
 show dK _ cf zo m _ ⟨af.fz s0::af.fz s1::En [],[],h⟩ _
 refine q1 <| qq <| qq <| q0 <| qc H (fun c0 H=>?_) (fun c0 H=>?_)
 ·obtain rfl:=oi H
  exact q1 <| qt <| ⟨.inl rfl,cV (.bool false) h (cP (az))⟩
 ·refine qk <| qq <| qq <| q0 <| qb 0 ?_
  obtain⟨bM,e2,H⟩:=bj H
  refine ql (bK.cQ L s0 s1   (0:Int) _ _ ⟨h,by kernel_rfl,o⟩ e2) ?_
  rintro e s (⟨rfl,x1,rfl,g0,g1,g2,g3,g4,h1,rfl,o1⟩| ⟨rfl,r0,rfl,uX⟩)
  ·try dsimp only at H
   obtain rfl:=oi H
   exact q1 <| qt <| ⟨.inl rfl,cV (.bool true) h1 (cP (az))⟩
  ·try dsimp only at H
   obtain rfl:=oi H
   exact⟨.inl rfl,uX⟩
end
end Go.Proofs.Ytifafejidnjckaa
namespace Go.Proofs.Ytifafejidnjckaa
open Go Go.R
open Go.IntKind (i64 u64 u8 u32)
def zp:b9:=gW [0,1,2,3,4,5,7,8,9,10,11,12,14,24,53,54,55,56] [11,1000048] [262080,261696,253760,262079,261568,261574,260567,260567,258519,144855,13783,140759,144855,144855,261631,262079] [] [(8,[(12,none,1)])]
def bk.l0 (m:Nat)(x1:List Int)(x3:bg)(rec:Int→(List (Int × Int))→(List Int)→bg→bg→Option (Int × (List (Int × Int)) × bg))(v2:ak):Nat→(List Int)→Int→(List (Int × Int))→bg→Option ((List Int) × Int × (List (Int × Int)) × bg)
 | 0,_,_,_,_=>none
 | k+1,dZ,x6,x7,x8=>if (decide (x6<(v2.args.length:Int)))=true then ((ix v2.args x6).bind fun v3=>(rec v3 x7 x1 x8 x3).bind fun x9=>(app 8 dZ ([x9.1])).bind fun cb=>bk.l0 m x1 x3 rec v2 k cb (i64.wrap (x6+(1:Int))) x9.2.1 x9.2.2) else (some ((dZ,x6,x7,x8)))
def bk.b (m:Nat)(rec:Int→(List (Int × Int))→(List Int)→bg→bg→Option (Int × (List (Int × Int)) × bg))(i0:Int)(x0:List (Int × Int))(x1:List Int)(x2:bg)(x3:bg):Option (Int × (List (Int × Int)) × bg):=(ix x1 i0).bind fun v0=>if ((mK x0 v0).2)=true then (some ((mK x0 v0).1,x0,x2)) else ((ix x1 i0).bind fun v1=>(ix x3.nodes i0).bind fun v2=>(app 56 x2.nodes [ak.mk v2.kind v2.int v2.label ([]:List Int)]).bind fun x5=>(bk.l0 m x1 x3 rec v2 m ([]:List Int) (0:Int) (yc x0 v1 (x2.nodes.length:Int)) (bg.mk x5 x2.root)).bind fun bM=>match bM with | (zq,zr,pf,tQ)=>(ix tQ.nodes (x2.nodes.length:Int)).bind fun v4=>some ((x2.nodes.length:Int),pf,(bg.mk (tQ.nodes.set (x2.nodes.length:Int).toNat (ak.mk v4.kind v4.int v4.label zq)) tQ.root)))
def bk.f (m:Nat):Nat→Int→(List (Int × Int))→(List Int)→bg→bg→Option (Int × (List (Int × Int)) × bg)
 | 0,_,_,_,_,_=>none
 | k+1,i0,x0,x1,x2,x3=>bk.b m (bk.f m k) i0 x0 x1 x2 x3
def bk.fin (L:Mem)(dN:Nat)(ec:Nat)(dO:Nat)(du:Nat)(eZ:Nat)(fA:List Nat)(dS:Nat)(dE:Nat)(i0:Int)(x0:List (Int × Int))(x1:List Int)(x2:bg)(x3:bg)(r:Int × (List (Int × Int)) × bg)(s:St):Prop:=∃(mL:Nat) (iL:List Nat),aO Try.prog (s.open zp) Try.f73.results.toList=some (.int .i64 r.1)∧Has s.h ((dN,.ob [.mp ec])::(ec,.mp (lW r.2.1))::(dO,.ob [af.fz x1])::(du,.ob [.rs mL 0 r.2.2.nodes.length 4,.int .i64 r.2.2.root])::(mL,.sl r.2.2.nodes.length 4 (b4.l (aK r.2.2.nodes iL)))::(dS,.ob [ai.fz x3.nodes,.int .i64 x3.root])::(dE,.ob [.fn 73 [.ptr dN 0,.ptr dO 0,.ptr du 0,.ptr dS 0,.ptr dE 0]])::(cz r.2.2.nodes iL++L))
def Pa (cf:CallF)(m:Nat)(kk:Nat):Prop:=∀(i0:Int) (x0:List (Int × Int)) (x1:List Int) (x2:bg) (x3:bg) (r:Int × (List (Int × Int)) × bg),bk.f m kk i0 x0 x1 x2 x3=some r→∀h L (dN:Nat) (ec:Nat) (dO:Nat) (du:Nat) (eZ:Nat) (fA:List Nat) (dS:Nat) (dE:Nat),Has h ((dN,.ob [.mp ec])::(ec,.mp (lW x0))::(dO,.ob [af.fz x1])::(du,.ob [.rs eZ 0 x2.nodes.length 4,.int .i64 x2.root])::(eZ,.sl x2.nodes.length 4 (b4.l (aK x2.nodes fA)))::(dS,.ob [ai.fz x3.nodes,.int .i64 x3.root])::(dE,.ob [.fn 73 [.ptr dN 0,.ptr dO 0,.ptr du 0,.ptr dS 0,.ptr dE 0]])::(cz x2.nodes fA++L))→∀xs,xs.map aS=[.int .i64 i0,.ptr dN 0,.ptr dO 0,.ptr du 0,.ptr dS 0,.ptr dE 0]→∃(mL:Nat) (iL:List Nat) (h':AHeap),cf 73 xs h=some (.int .i64 r.1,h')∧Has h' ((dN,.ob [.mp ec])::(ec,.mp (lW r.2.1))::(dO,.ob [af.fz x1])::(du,.ob [.rs mL 0 r.2.2.nodes.length 4,.int .i64 r.2.2.root])::(mL,.sl r.2.2.nodes.length 4 (b4.l (aK r.2.2.nodes iL)))::(dS,.ob [ai.fz x3.nodes,.int .i64 x3.root])::(dE,.ob [.fn 73 [.ptr dN 0,.ptr dO 0,.ptr du 0,.ptr dS 0,.ptr dE 0]])::(cz r.2.2.nodes iL++L))
section
variable {cf:CallF}{m:Nat}
theorem bk.cQ (L:Mem)(dN:Nat)(ec:Nat)(dO:Nat)(du:Nat)(eZ:Nat)(fA:List Nat)(dS:Nat)(dE:Nat)(i0:Int)(x0:List (Int × Int))(x1:List Int)(x2:bg)(x3:bg)(v2:ak)  {kk:Nat}(GF:Pa cf m kk)  : dL Try.prog cf zp m (sub [1,1,1,1,1,1,1,0,1,0,0] (bZ Try.f73)) (fun k (σ:(List Int) × Int × (List (Int × Int)) × bg)=>bk.l0 m x1 x3 (bk.f m kk) v2 k σ.1 σ.2.1 σ.2.2.1 σ.2.2.2) (fun σ s=>match σ with | (dZ,x6,x7,x8)=>∃cy dY xu h3,s=⟨ov (.ptr du 0 :: .any :: .ptr dE 0::ov [.int .i64 (x2.nodes.length:Int),.any,.rs cy 0 dZ.length 1,.any,.any,af.fz v2.args,.int .i64 (v2.args.length:Int),.int .i64 x6,.any]),[none,none],h3⟩∧Has h3 ((cy,.sl dZ.length 1 (af.l dZ))::(dY,.sl x8.nodes.length 4 (b4.l (aK x8.nodes xu)))::(dN,.ob [.mp ec])::(ec,.mp (lW x7))::(dO,.ob [af.fz x1])::(du,.ob [.rs dY 0 x8.nodes.length 4,.int .i64 x8.root])::(dS,.ob [ai.fz x3.nodes,.int .i64 x3.root])::(dE,.ob [.fn 73 [.ptr dN 0,.ptr dO 0,.ptr du 0,.ptr dS 0,.ptr dE 0]])::(cz x8.nodes xu++L))) (fun out e s=>(e = .exit 0∧∃dZ x6 x7 x8,(dZ,x6,x7,x8)=out∧∃NS Bd QL QM QN cy dY xu h3,s=⟨ov (.ptr du 0 :: .any::NS::ov [.int .i64 (x2.nodes.length:Int),.any,.rs cy 0 dZ.length 1,.any,.any,Bd,QL,QM,QN]),[none,none],h3⟩∧Has h3 ((cy,.sl dZ.length 1 (af.l dZ))::(dY,.sl x8.nodes.length 4 (b4.l (aK x8.nodes xu)))::(dN,.ob [.mp ec])::(ec,.mp (lW x7))::(dO,.ob [af.fz x1])::(du,.ob [.rs dY 0 x8.nodes.length 4,.int .i64 x8.root])::(dS,.ob [ai.fz x3.nodes,.int .i64 x3.root])::(dE,.ob [.fn 73 [.ptr dN 0,.ptr dO 0,.ptr du 0,.ptr dS 0,.ptr dE 0]])::(cz x8.nodes xu++L)))):=by
 refine lg (fun _=>rfl) ?_
 rintro k ⟨dZ,x6,x7,x8⟩ s out ⟨cy,dY,xu,h3,rfl,o5⟩ H
 have H:bk.l0 m x1 x3 (bk.f m kk) v2 (k+1) dZ x6 x7 x8=some out:=H
 refine q1 <| qq <| qc H (fun c1 H=>?_) (fun c1 H=>?_)
 ·refine qk <| qq <| qb 1 <| qq ?_
  obtain⟨v3,e7,H⟩:=bj H
  refine qr [.v 0 (fy (k:=.i64) (E:=af) (l:=v2.args) gu e7),.v 1 (iz  (E:=af) (l:=v2.args) h3 A3 e7 rfl)] ?_
  obtain⟨x9,e8,H⟩:=bj H
  obtain⟨cW,Lp,h4,e9,o6⟩:=GF _ _ _ _ _ _ e8 h3 _ _ _ _ _ _ xu _ _ ((Has.jg (pre:=[(dN,.ob [.mp ec]),(ec,.mp (lW x7)),(dO,.ob [af.fz x1]),(du,.ob [.rs dY 0 x8.nodes.length 4,.int .i64 x8.root]),(dY,.sl x8.nodes.length 4 (b4.l (aK x8.nodes xu))),(dS,.ob [ai.fz x3.nodes,.int .i64 x3.root]),(dE,.ob [.fn 73 [.ptr dN 0,.ptr dO 0,.ptr du 0,.ptr dS 0,.ptr dE 0]])]) (mid:=[(cy,.sl dZ.length 1 (af.l dZ))]) (Has.front (Has.front (Has.front (Has.front (Has.front (Has.front (Has.front (Has.front o5 0 rfl) 7 rfl) 7 rfl) 3 rfl) 7 rfl) 7 rfl) 7 rfl) 7 rfl)))  [.int .i64 v3,.ptr dN 0,.ptr dO 0,.ptr du 0,.ptr dS 0,.ptr dE 0] (au (aP (bm)) (au (rfl) (au (rfl) (au (rfl) (au (rfl) (au (rfl) (bN)))))))
  have o7:=Has.jg (pre:=[(dN,.ob [.mp ec]),(ec,.mp (lW x9.2.1)),(dO,.ob [af.fz x1]),(du,.ob [.rs cW 0 x9.2.2.nodes.length 4,.int .i64 x9.2.2.root]),(cW,.sl x9.2.2.nodes.length 4 (b4.l (aK x9.2.2.nodes Lp))),(dS,.ob [ai.fz x3.nodes,.int .i64 x3.root]),(dE,.ob [.fn 73 [.ptr dN 0,.ptr dO 0,.ptr du 0,.ptr dS 0,.ptr dE 0]])]) (N:=[(cy,.sl dZ.length 1 (af.l dZ))]) (mid:=cz x9.2.2.nodes Lp) o6
  obtain⟨cb,rK,H⟩:=bj H
  obtain⟨dD,h5,uH,o8⟩:=iA (P:=Try.prog) (E:=af) (l:=dZ) (q:=7) (t2:=33) (x:=.fz [.int .i64 x9.1] 1 true) (l2:=([x9.1])) gu o7 rfl (by kernel_rfl) rfl rK
  exact qr [.v 1 (show bE Try.prog h3 80 (.ptr dE 0)=some (.fn 73 [.ptr dN 0,.ptr dO 0,.ptr du 0,.ptr dS 0,.ptr dE 0]) from cq (q:=7) (cs:=[.fn 73 [.ptr dN 0,.ptr dO 0,.ptr du 0,.ptr dS 0,.ptr dE 0]]) o5 rfl (by kernel_rfl)),.a 3 e9,.a 5 uH] <| q0 <| ⟨(cb,i64.wrap (x6+(1:Int)),x9.2.1,x9.2.2),⟨dD,cW,Lp,h5,by kernel_rfl,(Has.front (Has.front (Has.front (Has.front (Has.front (Has.front (Has.front (Has.front o8 6 rfl) 6 rfl) 5 rfl) 5 rfl) 5 rfl) 5 rfl) 6 rfl) 7 rfl)⟩,H⟩
 ·exact qx 0 <| ⟨rfl,dZ,x6,x7,x8,oi H,.ptr dE 0,af.fz v2.args,.int .i64 (v2.args.length:Int),.int .i64 x6,.bool (decide (x6<(v2.args.length:Int))),cy,dY,xu,h3,by kernel_rfl,o5⟩
theorem p4 {aY:FuncId→b9}(ha:aY 73=zp)  (i0:Int)(x0:List (Int × Int))(x1:List Int)(x2:bg)(x3:bg)(h:AHeap)(L:Mem)(dN:Nat)(ec:Nat)(dO:Nat)(du:Nat)(eZ:Nat)(fA:List Nat)(dS:Nat)(dE:Nat)  {kk:Nat}(GF:Pa cf m kk)(o:Has h ((dN,.ob [.mp ec])::(ec,.mp (lW x0))::(dO,.ob [af.fz x1])::(du,.ob [.rs eZ 0 x2.nodes.length 4,.int .i64 x2.root])::(eZ,.sl x2.nodes.length 4 (b4.l (aK x2.nodes fA)))::(dS,.ob [ai.fz x3.nodes,.int .i64 x3.root])::(dE,.ob [.fn 73 [.ptr dN 0,.ptr dO 0,.ptr du 0,.ptr dS 0,.ptr dE 0]])::(cz x2.nodes fA++L))){out:Int × (List (Int × Int)) × bg}(H:bk.f m (kk+1) i0 x0 x1 x2 x3=some out) :
  ∃r h',bf Try.prog aY cf m 73 [.int .i64 i0,.ptr dN 0,.ptr dO 0,.ptr du 0,.ptr dS 0,.ptr dE 0] h=some (r,h')∧∃(mL:Nat) (iL:List Nat),r = .int .i64 out.1∧Has h' ((dN,.ob [.mp ec])::(ec,.mp (lW out.2.1))::(dO,.ob [af.fz x1])::(du,.ob [.rs mL 0 out.2.2.nodes.length 4,.int .i64 out.2.2.root])::(mL,.sl out.2.2.nodes.length 4 (b4.l (aK out.2.2.nodes iL)))::(dS,.ob [ai.fz x3.nodes,.int .i64 x3.root])::(dE,.ob [.fn 73 [.ptr dN 0,.ptr dO 0,.ptr du 0,.ptr dS 0,.ptr dE 0]])::(cz out.2.2.nodes iL++L)):=by
 refine ar (fn:=Try.f73) ha Try.func73 (by kernel_rfl) (by kernel_rfl) ?_
 refine aH (Q:=fun s=>bk.fin L dN ec dO du eZ fA dS dE i0 x0 x1 x2 x3 out s) (fun _ _ ⟨h1,mL,iL,h2,h3⟩=>⟨h1,_,h2,mL,iL,rfl,h3⟩) ?_
 have H:bk.b m (bk.f m kk) i0 x0 x1 x2 x3=some out:=H
 unfold bk.b at H
 show dK _ cf zp m _ ⟨.int .i64 i0 :: .ptr dN 0 :: .ptr dO 0 :: .ptr du 0 :: .ptr dS 0 :: .ptr dE 0::uT [],[none,none],h⟩ _
 refine q1 <| qq <| qq ?_
 obtain⟨v0,e0,H⟩:=bj H
 refine qr [.v 0 (show bE Try.prog h 82 (.ptr dN 0)=some (.mp ec) from cq (q:=0) (cs:=[.mp ec]) o rfl (by kernel_rfl)),.v 1 (show bE Try.prog h 33 (.ptr dO 0)=some (af.fz x1) from cq (q:=2) (cs:=[af.fz x1]) o rfl (by kernel_rfl)),.v 3 (fy (k:=.i64) (E:=af) (l:=x1) gu e0),.v 4 (iz  (E:=af) (l:=x1) h A3 e0 rfl),.v 5 (show fh Try.prog h 82 (.mp ec) (.int .i64 v0) true=some (.tup [.int .i64 ((mK x0 v0).1),.bool ((mK x0 v0).2)]) from (NB (q:=1) (l:=x0) (k:=v0) I2 o rfl).1)] <| qq <| q0 <| qc H (fun c0 H=>?_) (fun c0 H=>?_)
 ·obtain rfl:=oi H
  exact q1 <| qt <| ⟨.inl rfl,⟨eZ,fA,by kernel_rfl,he o⟩⟩
 ·refine qk <| qq <| qr [.v 1 (show bE Try.prog h 40 (.ptr du 0)=some (.rs eZ 0 x2.nodes.length 4) from cq (q:=3) (cs:=[.rs eZ 0 x2.nodes.length 4,.int .i64 x2.root]) o rfl (by kernel_rfl))] <| qq ?_
  obtain⟨v1,e1,H⟩:=bj H
  obtain⟨h0,e2,o0⟩:=NC (q:=1) (l:=x0) (k:=v1) (v:=(x2.nodes.length:Int)) I2 o rfl
  refine qr [.v 0 (show bE Try.prog h 82 (.ptr dN 0)=some (.mp ec) from cq (q:=0) (cs:=[.mp ec]) o rfl (by kernel_rfl)),.v 1 (show bE Try.prog h 33 (.ptr dO 0)=some (af.fz x1) from cq (q:=2) (cs:=[af.fz x1]) o rfl (by kernel_rfl)),.v 3 (fy (k:=.i64) (E:=af) (l:=x1) gu e1),.v 4 (iz  (E:=af) (l:=x1) h A3 e1 rfl),.w 6 e2] <| qq ?_
  obtain⟨v2,e3,H⟩:=bj H
  refine qr [.v 1 (show bE Try.prog h0 40 (.ptr dS 0)=some (ai.fz x3.nodes) from cq (q:=5) (cs:=[ai.fz x3.nodes,.int .i64 x3.root]) o0 rfl (by kernel_rfl)),.v 3 (fy (k:=.i64) (E:=ai) (l:=x3.nodes) uW e3),.v 4 (jP  (E:=ai) (l:=x3.nodes) h0 Ez EA e3)] <| qq ?_
  have o1:Has h0 (((0),.sl (([]:List Int).length) 1 (af.l ([]:List Int)))::(dN,.ob [.mp ec])::(ec,.mp (lW (yc x0 v1 (x2.nodes.length:Int))))::(dO,.ob [af.fz x1])::(du,.ob [.rs eZ 0 x2.nodes.length 4,.int .i64 x2.root])::(eZ,.sl x2.nodes.length 4 (b4.l (aK x2.nodes fA)))::(dS,.ob [ai.fz x3.nodes,.int .i64 x3.root])::(dE,.ob [.fn 73 [.ptr dN 0,.ptr dO 0,.ptr du 0,.ptr dS 0,.ptr dE 0]])::(cz x2.nodes fA++L)):=Has.nil o0 1
  obtain⟨x5,e4,H⟩:=bj H
  obtain⟨aE,en,h1,e5,o2⟩:=KT (P:=Try.prog) (t2:=40) (pre:=[(dN,.ob [.mp ec]),(ec,.mp (lW (yc x0 v1 (x2.nodes.length:Int)))),(dO,.ob [af.fz x1]),(du,.ob [.rs eZ 0 x2.nodes.length 4,.int .i64 x2.root]),(dS,.ob [ai.fz x3.nodes,.int .i64 x3.root]),(dE,.ob [.fn 73 [.ptr dN 0,.ptr dO 0,.ptr du 0,.ptr dS 0,.ptr dE 0]])]) (ns:=x2.nodes) (ids:=fA) (kind:=v2.kind) (int:=v2.int) (label:=v2.label) (args:=([]:List Int)) (x:=.fz [.int .i64 v2.kind,.int .i64 v2.int,.str v2.label,.rs (0) 0 (([]:List Int).length) 1] 1 true) uW (Has.front (Has.front (Has.front (Has.front (Has.front (Has.front (Has.front (Has.front o1 7 rfl) 7 rfl) 6 rfl) 6 rfl) 6 rfl) 6 rfl) 6 rfl) 7 rfl) (by kernel_rfl) rfl e4
  obtain⟨h2,e6,o3⟩:=oI (P:=Try.prog) (t:=40) (off:=0) (q:=4) (cs:=[.rs eZ 0 x2.nodes.length 4,.int .i64 x2.root]) (fU:=[.rs aE 0 x5.length 4,.int .i64 x2.root]) (x:=.rs aE 0 x5.length 4) o2 rfl (by kernel_rfl)
  refine qr [.v 1 (show bE Try.prog h0 40 (.ptr du 0)=some (.rs eZ 0 x2.nodes.length 4) from cq (q:=3) (cs:=[.rs eZ 0 x2.nodes.length 4,.int .i64 x2.root]) o0 rfl (by kernel_rfl)),.a 10 e5,.w 12 e6] <| qq <| q0 ?_
  have o4:Has h2 ((((0)),.sl (([]:List Int).length) 1 (af.l ([]:List Int)))::(aE,.sl x5.length 4 (b4.l (aK x5 en)))::(dN,.ob [.mp ec])::(ec,.mp (lW (yc x0 v1 (x2.nodes.length:Int))))::(dO,.ob [af.fz x1])::(du,.ob [.rs aE 0 x5.length 4,.int .i64 x2.root])::(dS,.ob [ai.fz x3.nodes,.int .i64 x3.root])::(dE,.ob [.fn 73 [.ptr dN 0,.ptr dO 0,.ptr du 0,.ptr dS 0,.ptr dE 0]])::(cz x5 en++L)):=Has.nil o3 1
  refine qq <| qq <| q0 <| qb 0 ?_
  obtain⟨bM,xq,H⟩:=bj H
  refine ql (bk.cQ L dN ec dO du eZ fA dS dE i0 x0 x1 x2 x3 v2  GF  (([]:List Int),(0:Int),yc x0 v1 (x2.nodes.length:Int),(bg.mk x5 x2.root)) _ _ ⟨((0)),aE,en,h2,by kernel_rfl,o4⟩ xq) ?_
  rintro e s ⟨rfl,zq,zr,pf,tQ,rfl,g0,g1,g2,g3,g4,ff,gT,I5,h6,rfl,o9⟩
  try dsimp only at H
  refine qq ?_
  obtain⟨v4,xr,H⟩:=bj H
  obtain⟨h7,Be,xw⟩:=I1 (P:=Try.prog) (tf:=33) (pre:=[(dN,.ob [.mp ec]),(ec,.mp (lW pf)),(dO,.ob [af.fz x1]),(du,.ob [.rs gT 0 tQ.nodes.length 4,.int .i64 tQ.root]),(dS,.ob [ai.fz x3.nodes,.int .i64 x3.root]),(dE,.ob [.fn 73 [.ptr dN 0,.ptr dO 0,.ptr du 0,.ptr dS 0,.ptr dE 0]])]) (args:=zq) (Has.front (Has.front (Has.front (Has.front (Has.front (Has.front (Has.front (Has.front o9 7 rfl) 7 rfl) 7 rfl) 7 rfl) 7 rfl) 7 rfl) 6 rfl) 7 rfl) Wt xr
  obtain rfl:=oi H
  exact qr [.v 1 (show bE Try.prog h6 40 (.ptr du 0)=some (.rs gT 0 tQ.nodes.length 4) from cq (q:=5) (cs:=[.rs gT 0 tQ.nodes.length 4,.int .i64 tQ.root]) o9 rfl (by kernel_rfl)),.v 4 (bp (k:=.i64) (E:=b4) (l:=(aK tQ.nodes I5)) (q:=1) uW o9 rfl (sy xr)),.w 6 Be] <| qq <| q0 <| qt <| ⟨.inl rfl,⟨gT,(xo tQ.nodes I5 (x2.nodes.length:Int) ff),by kernel_rfl,he (by have o:Has h7 ((dN,.ob [.mp ec])::(ec,.mp (lW pf))::(dO,.ob [af.fz x1])::(du,.ob [.rs gT 0 tQ.nodes.length 4,.int .i64 tQ.root])::(gT,.sl tQ.nodes.length 4 (b4.l (aK (tQ.nodes.set (x2.nodes.length:Int).toNat (ak.mk v4.kind v4.int v4.label zq)) (xo tQ.nodes I5 (x2.nodes.length:Int) ff))))::(dS,.ob [ai.fz x3.nodes,.int .i64 x3.root])::(dE,.ob [.fn 73 [.ptr dN 0,.ptr dO 0,.ptr du 0,.ptr dS 0,.ptr dE 0]])::(cz (tQ.nodes.set (x2.nodes.length:Int).toNat (ak.mk v4.kind v4.int v4.label zq)) (xo tQ.nodes I5 (x2.nodes.length:Int) ff)++L)):=(Has.front (Has.front (Has.front (Has.front (Has.front (Has.front (Has.front xw 6 rfl) 6 rfl) 2 rfl) 6 rfl) 6 rfl) 6 rfl) 6 rfl); simpa only [ZO] using o)⟩⟩
end
end Go.Proofs.Ytifafejidnjckaa
namespace Go.Proofs.Ytifafejidnjckaa
open Go Go.R
open Go.IntKind (i64 u64 u8 u32)
def zt:b9:=gW [0,1,4,5,7,8,9,16] [] [252,204,140,196,68,251,204,251] [] []
def dp.l0 (m:Nat)(s0:List Int)(f0:Int→Option (Bool)):Nat→Int→Option (Sum Int (Int))
 | 0,_=>none
 | k+1,x0=>if (decide (x0<(s0.length:Int)))=true then ((ix s0 x0).bind fun v0=>(f0 v0).bind fun r0=>if r0=true then (some (.inl x0)) else (dp.l0 m s0 f0 k (i64.wrap (x0+(1:Int))))) else (some (.inr x0))
def dp.f (m:Nat)(s0:List Int)(f0:Int→Option (Bool)):Option (Int):=(dp.l0 m s0 f0 m (0:Int)).bind fun bM=>match bM with | .inl r1=>some r1 | .inr x1=>some (-1:Int)
def dp.fin (L:Mem)(r:Int)(s:St):Prop:=∃av,aO Try.prog (s.open zt) Try.f75.results.toList=some av∧fG s.h av (.int .i64 r)
def QP (cf:CallF)(m:Nat):Prop:=∀(s0:List Int) (f0:Int→Option (Bool)) (r:Int),dp.f m s0 f0=some r→∀(fH:FuncId) (aX:List AV),(∀(h:AHeap) (xs:List AV) (a0:Int) r,f0 a0=some r→aU bR h xs ([.int .i64 a0]++aX)→cf fH xs h=some (.bool r,h))→(∀h,aU cM h aX aX)→∀h xs,aU bR h xs [af.fz s0,.fn fH aX]→cf 75 xs h=some (.int .i64 r,h)
section
variable {cf:CallF}{m:Nat}
theorem dp.cQ (L:Mem)(fH:FuncId)(aX:List AV)(s0:List Int)(f0:Int→Option (Bool))  (ir:∀(h:AHeap) (xs:List AV) (a0:Int) r,f0 a0=some r→aU bR h xs ([.int .i64 a0]++aX)→cf fH xs h=some (.bool r,h))(iu:∀h,aU cM h aX aX)  : dL Try.prog cf zt m (sub [1,0,1,0,0] (bZ Try.f75)) (fun k (σ:Int)=>dp.l0 m s0 f0 k σ) (fun σ s=>match σ with | x0=>∃h0,s=⟨[af.fz s0,.fn fH aX,.any,.any,.int .i64 (s0.length:Int),.int .i64 x0,.any,.any],[],h0⟩∧Has h0 (L)) (fun out e s=>(e = .exit 0∧∃x0,.inr x0=out∧∃mP uY Gx A8 A9 h0,s=⟨[mP,uY,.any,.any,Gx,A8,A9,.any],[],h0⟩∧Has h0 (L))∨(e = .ret∧∃r,.inl r=out∧dp.fin L r s)):=by
 refine lg (fun _=>rfl) ?_
 rintro k x0 s out ⟨h0,rfl,o0⟩ H
 have H:dp.l0 m s0 f0 (k+1) x0=some out:=H
 refine q1 <| qq <| qc H (fun c0 H=>?_) (fun c0 H=>?_)
 ·refine qk <| qq <| qb 1 <| qq <| q0 <| qq ?_
  obtain⟨v0,e0,H⟩:=bj H
  obtain⟨r0,e1,H⟩:=bj H
  refine qr [.v 3 (fy (k:=.i64) (E:=af) (l:=s0) gu e0),.v 4 (iz  (E:=af) (l:=s0) h0 A3 e0 rfl),.a 5 (ir _ _ _ _ e1 (IZ (ah (aZ) (aw)) (iu h0)))] <| qc H (fun c1 H=>?_) (fun c1 H=>?_)
  ·exact q1 <| qt <| Or.inr (⟨rfl,_,oi H,cV (.int .i64 x0) h0 (cP (dr))⟩)
  ·exact qk <| q0 <| ⟨i64.wrap (x0+(1:Int)),⟨h0,by kernel_rfl,o0⟩,H⟩
 ·exact qx 0 <| Or.inl (⟨rfl,x0,oi H,af.fz s0,.fn fH aX,.int .i64 (s0.length:Int),.int .i64 x0,.bool (decide (x0<(s0.length:Int))),h0,by kernel_rfl,o0⟩)
theorem xy {aY:FuncId→b9}(ha:aY 75=zt)  (s0:List Int)(f0:Int→Option (Bool))(h:AHeap)(L:Mem)(fH:FuncId)(aX:List AV)  (ir:∀(h:AHeap) (xs:List AV) (a0:Int) r,f0 a0=some r→aU bR h xs ([.int .i64 a0]++aX)→cf fH xs h=some (.bool r,h))(iu:∀h,aU cM h aX aX)(o:Has h (L)){out:Int}(H:dp.f m s0 f0=some out) :
  ∃r h',bf Try.prog aY cf m 75 [af.fz s0,.fn fH aX] h=some (r,h')∧fG h' r (.int .i64 out):=by
 refine ar (fn:=Try.f75) ha Try.func75 (by kernel_rfl) (by kernel_rfl) ?_
 refine aH (Q:=fun s=>dp.fin L out s) (fun _ _ h=>h) ?_
 have H:_=some out:=H
 unfold dp.f at H
 show dK _ cf zt m _ ⟨af.fz s0 :: .fn fH aX::yZ [],[],h⟩ _
 refine q1 <| qq <| qq <| q0 <| qb 0 ?_
 obtain⟨bM,e2,H⟩:=bj H
 refine ql (dp.cQ L fH aX s0 f0  ir iu  (0:Int) _ _ ⟨h,by kernel_rfl,o⟩ e2) ?_
 rintro e s (⟨rfl,x1,rfl,g0,g1,g2,g3,g4,h1,rfl,o1⟩| ⟨rfl,r1,rfl,uX⟩)
 ·try dsimp only at H
  obtain rfl:=oi H
  exact q1 <| qt <| ⟨.inl rfl,cV (.int .i64 (-1:Int)) h1 (cP (dr))⟩
 ·try dsimp only at H
  obtain rfl:=oi H
  exact⟨.inl rfl,uX⟩
end
end Go.Proofs.Ytifafejidnjckaa
namespace Go.Proofs.Ytifafejidnjckaa
open Go Go.R
open Go.IntKind (i64 u64 u8 u32)
def zu:b9:=gW [0,1,4,5,7,8,9,16] [] [252,204,140,196,68,251,204,251] [] []
def fO.l0 (m:Nat)(s0:List ak)(f0:ak→Option (Bool)):Nat→Int→Option (Sum Int (Int))
 | 0,_=>none
 | k+1,x0=>if (decide (x0<(s0.length:Int)))=true then ((ix s0 x0).bind fun v0=>(f0 v0).bind fun r0=>if r0=true then (some (.inl x0)) else (fO.l0 m s0 f0 k (i64.wrap (x0+(1:Int))))) else (some (.inr x0))
def fO.f (m:Nat)(s0:List ak)(f0:ak→Option (Bool)):Option (Int):=(fO.l0 m s0 f0 m (0:Int)).bind fun bM=>match bM with | .inl r1=>some r1 | .inr x1=>some (-1:Int)
def fO.fin (L:Mem)(r:Int)(s:St):Prop:=∃av,aO Try.prog (s.open zu) Try.f78.results.toList=some av∧fG s.h av (.int .i64 r)
def Uk (cf:CallF)(m:Nat):Prop:=∀(s0:List ak) (f0:ak→Option (Bool)) (r:Int),fO.f m s0 f0=some r→∀(fH:FuncId) (aX:List AV),(∀(h:AHeap) (xs:List AV) (a0:ak) r,f0 a0=some r→aU bR h xs ([.agg [.int .i64 a0.kind,.int .i64 a0.int,.str a0.label,af.fz a0.args]]++aX)→cf fH xs h=some (.bool r,h))→(∀h,aU cM h aX aX)→∀h xs,aU bR h xs [ai.fz s0,.fn fH aX]→cf 78 xs h=some (.int .i64 r,h)
section
variable {cf:CallF}{m:Nat}
theorem fO.cQ (L:Mem)(fH:FuncId)(aX:List AV)(s0:List ak)(f0:ak→Option (Bool))  (ir:∀(h:AHeap) (xs:List AV) (a0:ak) r,f0 a0=some r→aU bR h xs ([.agg [.int .i64 a0.kind,.int .i64 a0.int,.str a0.label,af.fz a0.args]]++aX)→cf fH xs h=some (.bool r,h))(iu:∀h,aU cM h aX aX)  : dL Try.prog cf zu m (sub [1,0,1,0,0] (bZ Try.f78)) (fun k (σ:Int)=>fO.l0 m s0 f0 k σ) (fun σ s=>match σ with | x0=>∃h0,s=⟨[ai.fz s0,.fn fH aX,.any,.any,.int .i64 (s0.length:Int),.int .i64 x0,.any,.any],[],h0⟩∧Has h0 (L)) (fun out e s=>(e = .exit 0∧∃x0,.inr x0=out∧∃mP uY Gx A8 A9 h0,s=⟨[mP,uY,.any,.any,Gx,A8,A9,.any],[],h0⟩∧Has h0 (L))∨(e = .ret∧∃r,.inl r=out∧fO.fin L r s)):=by
 refine lg (fun _=>rfl) ?_
 rintro k x0 s out ⟨h0,rfl,o0⟩ H
 have H:fO.l0 m s0 f0 (k+1) x0=some out:=H
 refine q1 <| qq <| qc H (fun c0 H=>?_) (fun c0 H=>?_)
 ·refine qk <| qq <| qb 1 <| qq <| q0 <| qq ?_
  obtain⟨v0,e0,H⟩:=bj H
  obtain⟨r0,e1,H⟩:=bj H
  refine qr [.v 3 (fy (k:=.i64) (E:=ai) (l:=s0) uW e0),.v 4 (jP  (E:=ai) (l:=s0) h0 Ez EA e0),.a 5 (ir _ _ _ _ e1 (IZ (ah (eV (ah (aZ) (ah (aZ) (ah (cK) (ah (dU (E:=af)) (aw)))))) (aw)) (iu h0)))] <| qc H (fun c1 H=>?_) (fun c1 H=>?_)
  ·exact q1 <| qt <| Or.inr (⟨rfl,_,oi H,cV (.int .i64 x0) h0 (cP (dr))⟩)
  ·exact qk <| q0 <| ⟨i64.wrap (x0+(1:Int)),⟨h0,by kernel_rfl,o0⟩,H⟩
 ·exact qx 0 <| Or.inl (⟨rfl,x0,oi H,ai.fz s0,.fn fH aX,.int .i64 (s0.length:Int),.int .i64 x0,.bool (decide (x0<(s0.length:Int))),h0,by kernel_rfl,o0⟩)
theorem xz {aY:FuncId→b9}(ha:aY 78=zu)  (s0:List ak)(f0:ak→Option (Bool))(h:AHeap)(L:Mem)(fH:FuncId)(aX:List AV)  (ir:∀(h:AHeap) (xs:List AV) (a0:ak) r,f0 a0=some r→aU bR h xs ([.agg [.int .i64 a0.kind,.int .i64 a0.int,.str a0.label,af.fz a0.args]]++aX)→cf fH xs h=some (.bool r,h))(iu:∀h,aU cM h aX aX)(o:Has h (L)){out:Int}(H:fO.f m s0 f0=some out) :
  ∃r h',bf Try.prog aY cf m 78 [ai.fz s0,.fn fH aX] h=some (r,h')∧fG h' r (.int .i64 out):=by
 refine ar (fn:=Try.f78) ha Try.func78 (by kernel_rfl) (by kernel_rfl) ?_
 refine aH (Q:=fun s=>fO.fin L out s) (fun _ _ h=>h) ?_
 have H:_=some out:=H
 unfold fO.f at H
 show dK _ cf zu m _ ⟨ai.fz s0 :: .fn fH aX::yZ [],[],h⟩ _
 refine q1 <| qq <| qq <| q0 <| qb 0 ?_
 obtain⟨bM,e2,H⟩:=bj H
 refine ql (fO.cQ L fH aX s0 f0  ir iu  (0:Int) _ _ ⟨h,by kernel_rfl,o⟩ e2) ?_
 rintro e s (⟨rfl,x1,rfl,g0,g1,g2,g3,g4,h1,rfl,o1⟩| ⟨rfl,r1,rfl,uX⟩)
 ·try dsimp only at H
  obtain rfl:=oi H
  exact q1 <| qt <| ⟨.inl rfl,cV (.int .i64 (-1:Int)) h1 (cP (dr))⟩
 ·try dsimp only at H
  obtain rfl:=oi H
  exact⟨.inl rfl,uX⟩
end
end Go.Proofs.Ytifafejidnjckaa
namespace Go.Proofs.Ytifafejidnjckaa
open Go Go.R
open Go.IntKind (i64 u64 u8 u32)
def CE:b9:=gW [0,1,3] [] [4,3] [] []
def hZ.f (m:Nat)(a0:Int)(x0:Int):Option (Bool):=if (decide (a0<(0:Int)))=true then (some true) else (some (decide (a0≥x0)))
def hZ.fin (L:Mem)(r:Bool)(s:St):Prop:=∃av,aO Try.prog (s.open CE) Try.f79.results.toList=some av∧fG s.h av (.bool r)
def Ul (cf:CallF)(m:Nat):Prop:=∀(a0:Int) (x0:Int) (r:Bool),hZ.f m a0 x0=some r→∀h xs,aU bR h xs [.int .i64 a0,.fp [.int .i64 x0] 0]→cf 79 xs h=some (.bool r,h)
section
variable {cf:CallF}{m:Nat}
theorem qP {aY:FuncId→b9}(ha:aY 79=CE)  (a0:Int)(x0:Int)(h:AHeap)(L:Mem)  (o:Has h (L)){out:Bool}(H:hZ.f m a0 x0=some out) :
  ∃r h',bf Try.prog aY cf m 79 [.int .i64 a0,.fp [.int .i64 x0] 0] h=some (r,h')∧fG h' r (.bool out):=by
 refine ar (fn:=Try.f79) ha Try.func79 (by kernel_rfl) (by kernel_rfl) ?_
 refine aH (Q:=fun s=>hZ.fin L out s) (fun _ _ h=>h) ?_
 have H:_=some out:=H
 unfold hZ.f at H
 show dK _ cf CE m _ ⟨[.int .i64 a0,.fp [.int .i64 x0] 0,.any],[],h⟩ _
 refine q1 <| qq ?_
 rcases gS H with⟨c0,H⟩| ⟨c0,H⟩
 ·obtain rfl:=oi H
  exact qr [.b 2 c0] <| qt <| ⟨.inl rfl,cV (.bool true) h (cP (az))⟩
 ·obtain rfl:=oi H
  exact qr [.b 2 c0] <| qt <| ⟨.inl rfl,cV (.bool (decide (a0≥x0))) h (cP (az))⟩
end
end Go.Proofs.Ytifafejidnjckaa
namespace Go.Proofs.Ytifafejidnjckaa
open Go Go.R
open Go.IntKind (i64 u64 u8 u32)
def zw:b9:=gW [0,2,3,5,6,7,8,9,14] [] [510,506,395,267,387,131,509,395,509] [] []
def cF.l0 (m:Nat)(gU:List Int):Nat→Int→Option (Sum Int (Int))
 | 0,_=>none
 | k+1,x0=>if (decide (x0<(gU.length:Int)))=true then ((ix gU x0).bind fun v0=>if (!(v0==(0:Int)))=true then (some (.inl v0)) else (cF.l0 m gU k (i64.wrap (x0+(1:Int))))) else (some (.inr x0))
def cF.f (m:Nat)(gU:List Int):Option (Int):=(cF.l0 m gU m (0:Int)).bind fun bM=>match bM with | .inl r0=>some r0 | .inr x1=>some (0:Int)
def cF.fin (L:Mem)(r:Int)(s:St):Prop:=∃av,aO Try.prog (s.open zw) Try.f81.results.toList=some av∧fG s.h av (.int .i64 r)
def Um (cf:CallF)(m:Nat):Prop:=∀(gU:List Int) (r:Int),cF.f m gU=some r→∀h xs,aU bR h xs [af.fz gU]→cf 81 xs h=some (.int .i64 r,h)
section
variable {cf:CallF}{m:Nat}
theorem cF.cQ (L:Mem)(gU:List Int)   : dL Try.prog cf zw m (sub [1,1,0,1,0,0] (bZ Try.f81)) (fun k (σ:Int)=>cF.l0 m gU k σ) (fun σ s=>match σ with | x0=>∃h0,s=⟨[.any,.any,.int .i64 (0:Int),.any,af.fz gU,.int .i64 (gU.length:Int),.int .i64 x0,.any,.any],[],h0⟩∧Has h0 (L)) (fun out e s=>(e = .exit 0∧∃x0,.inr x0=out∧∃Gy Gx A8 A9 h0,s=⟨[.any,.any,.int .i64 (0:Int),.any,Gy,Gx,A8,A9,.any],[],h0⟩∧Has h0 (L))∨(e = .ret∧∃r,.inl r=out∧cF.fin L r s)):=by
 refine lg (fun _=>rfl) ?_
 rintro k x0 s out ⟨h0,rfl,o0⟩ H
 have H:cF.l0 m gU (k+1) x0=some out:=H
 refine q1 <| qq <| qc H (fun c0 H=>?_) (fun c0 H=>?_)
 ·refine qk <| qq <| qb 1 <| qq ?_
  obtain⟨v0,e0,H⟩:=bj H
  refine qr [.v 0 (fy (k:=.i64) (E:=af) (l:=gU) gu e0),.v 1 (iz  (E:=af) (l:=gU) h0 A3 e0 rfl)] <| qq <| q0 <| qc H (fun c1 H=>?_) (fun c1 H=>?_)
  ·exact q1 <| qt <| Or.inr (⟨rfl,_,oi H,cV (.int .i64 v0) h0 (cP (dr))⟩)
  ·exact qk <| q0 <| ⟨i64.wrap (x0+(1:Int)),⟨h0,by kernel_rfl,o0⟩,H⟩
 ·exact qx 0 <| Or.inl (⟨rfl,x0,oi H,af.fz gU,.int .i64 (gU.length:Int),.int .i64 x0,.bool (decide (x0<(gU.length:Int))),h0,by kernel_rfl,o0⟩)
theorem r6 {aY:FuncId→b9}(ha:aY 81=zw)  (gU:List Int)(h:AHeap)(L:Mem)  (o:Has h (L)){out:Int}(H:cF.f m gU=some out) :
  ∃r h',bf Try.prog aY cf m 81 [af.fz gU] h=some (r,h')∧fG h' r (.int .i64 out):=by
 refine ar (fn:=Try.f81) ha Try.func81 (by kernel_rfl) (by kernel_rfl) ?_
 refine aH (Q:=fun s=>cF.fin L out s) (fun _ _ h=>h) ?_
 have H:_=some out:=H
 unfold cF.f at H
 show dK _ cf zw m _ ⟨af.fz gU::xf [],[],h⟩ _
 refine q1 <| qq <| q0 <| qq <| qq <| q0 <| qb 0 ?_
 obtain⟨bM,e1,H⟩:=bj H
 refine ql (cF.cQ L gU   (0:Int) _ _ ⟨h,by kernel_rfl,o⟩ e1) ?_
 rintro e s (⟨rfl,x1,rfl,g0,g1,g2,g3,h1,rfl,o1⟩| ⟨rfl,r0,rfl,uX⟩)
 ·try dsimp only at H
  obtain rfl:=oi H
  exact q1 <| qt <| ⟨.inl rfl,cV (.int .i64 (0:Int)) h1 (cP (dr))⟩
 ·try dsimp only at H
  obtain rfl:=oi H
  exact⟨.inl rfl,uX⟩
end
end Go.Proofs.Ytifafejidnjckaa
namespace Go.Proofs.Ytifafejidnjckaa
open Go Go.R
open Go.IntKind (i64 u64 u8 u32)
def CF:b9:=gW [0,2] [] [2,1] [] []
def gD.f (m:Nat)(c0:Int):Option (Bool):=if (decide (c0≥(97:Int)))=true then (if (decide (c0≤(122:Int)))=true then (some true) else (if (decide (c0≥(65:Int)))=true then (if (decide (c0≤(90:Int)))=true then (some true) else (if (decide (c0≥(48:Int)))=true then (if (decide (c0≤(57:Int)))=true then (some true) else (some (c0==(95:Int)))) else (some (c0==(95:Int))))) else (if (decide (c0≥(48:Int)))=true then (if (decide (c0≤(57:Int)))=true then (some true) else (some (c0==(95:Int)))) else (some (c0==(95:Int)))))) else (if (decide (c0≥(65:Int)))=true then (if (decide (c0≤(90:Int)))=true then (some true) else (if (decide (c0≥(48:Int)))=true then (if (decide (c0≤(57:Int)))=true then (some true) else (some (c0==(95:Int)))) else (some (c0==(95:Int))))) else (if (decide (c0≥(48:Int)))=true then (if (decide (c0≤(57:Int)))=true then (some true) else (some (c0==(95:Int)))) else (some (c0==(95:Int)))))
def gD.fin (L:Mem)(r:Bool)(s:St):Prop:=∃av,aO Try.prog (s.open CF) Try.f85.results.toList=some av∧fG s.h av (.bool r)
def QQ (cf:CallF)(m:Nat):Prop:=∀(c0:Int) (r:Bool),gD.f m c0=some r→∀h xs,aU bR h xs [.int .u8 c0]→cf 85 xs h=some (.bool r,h)
section
variable {cf:CallF}{m:Nat}
theorem qQ {aY:FuncId→b9}(ha:aY 85=CF)  (c0:Int)(h:AHeap)(L:Mem)  (o:Has h (L)){out:Bool}(H:gD.f m c0=some out) :
  ∃r h',bf Try.prog aY cf m 85 [.int .u8 c0] h=some (r,h')∧fG h' r (.bool out):=by
 refine ar (fn:=Try.f85) ha Try.func85 (by kernel_rfl) (by kernel_rfl) ?_
 refine aH (Q:=fun s=>gD.fin L out s) (fun _ _ h=>h) ?_
 have H:_=some out:=H
 unfold gD.f at H
 show dK _ cf CF m _ ⟨[.int .u8 c0,.any],[],h⟩ _
 refine q1 <| qq ?_
 rcases gS H with⟨c1,H⟩| ⟨c1,H⟩
 ·rcases gS H with⟨c2,H⟩| ⟨c2,H⟩
  ·obtain rfl:=oi H
   exact qr [.b 2 c1,.b 6 c2] <| qt <| ⟨.inl rfl,cV (.bool true) h (cP (az))⟩
  ·rcases gS H with⟨c3,H⟩| ⟨c3,H⟩
   ·rcases gS H with⟨c4,H⟩| ⟨c4,H⟩
    ·obtain rfl:=oi H
     exact qr [.b 2 c1,.b 6 c2,.b 9 c3,.b 14 c4] <| qt <| ⟨.inl rfl,cV (.bool true) h (cP (az))⟩
    ·rcases gS H with⟨c5,H⟩| ⟨c5,H⟩
     ·rcases gS H with⟨c6,H⟩| ⟨c6,H⟩
      ·obtain rfl:=oi H
       exact qr [.b 2 c1,.b 6 c2,.b 9 c3,.b 14 c4,.b 17 c5,.b 22 c6] <| qt <| ⟨.inl rfl,cV (.bool true) h (cP (az))⟩
      ·obtain rfl:=oi H
       exact qr [.b 2 c1,.b 6 c2,.b 9 c3,.b 14 c4,.b 17 c5,.b 22 c6] <| qt <| ⟨.inl rfl,cV (.bool (c0==(95:Int))) h (cP (az))⟩
     ·obtain rfl:=oi H
      exact qr [.b 2 c1,.b 6 c2,.b 9 c3,.b 14 c4,.b 17 c5] <| qt <| ⟨.inl rfl,cV (.bool (c0==(95:Int))) h (cP (az))⟩
   ·rcases gS H with⟨c7,H⟩| ⟨c7,H⟩
    ·rcases gS H with⟨c8,H⟩| ⟨c8,H⟩
     ·obtain rfl:=oi H
      exact qr [.b 2 c1,.b 6 c2,.b 9 c3,.b 17 c7,.b 22 c8] <| qt <| ⟨.inl rfl,cV (.bool true) h (cP (az))⟩
     ·obtain rfl:=oi H
      exact qr [.b 2 c1,.b 6 c2,.b 9 c3,.b 17 c7,.b 22 c8] <| qt <| ⟨.inl rfl,cV (.bool (c0==(95:Int))) h (cP (az))⟩
    ·obtain rfl:=oi H
     exact qr [.b 2 c1,.b 6 c2,.b 9 c3,.b 17 c7] <| qt <| ⟨.inl rfl,cV (.bool (c0==(95:Int))) h (cP (az))⟩
 ·rcases gS H with⟨c9,H⟩| ⟨c9,H⟩
  ·rcases gS H with⟨EB,H⟩| ⟨EB,H⟩
   ·obtain rfl:=oi H
    exact qr [.b 2 c1,.b 9 c9,.b 14 EB] <| qt <| ⟨.inl rfl,cV (.bool true) h (cP (az))⟩
   ·rcases gS H with⟨pg,H⟩| ⟨pg,H⟩
    ·rcases gS H with⟨GG,H⟩| ⟨GG,H⟩
     ·obtain rfl:=oi H
      exact qr [.b 2 c1,.b 9 c9,.b 14 EB,.b 17 pg,.b 22 GG] <| qt <| ⟨.inl rfl,cV (.bool true) h (cP (az))⟩
     ·obtain rfl:=oi H
      exact qr [.b 2 c1,.b 9 c9,.b 14 EB,.b 17 pg,.b 22 GG] <| qt <| ⟨.inl rfl,cV (.bool (c0==(95:Int))) h (cP (az))⟩
    ·obtain rfl:=oi H
     exact qr [.b 2 c1,.b 9 c9,.b 14 EB,.b 17 pg] <| qt <| ⟨.inl rfl,cV (.bool (c0==(95:Int))) h (cP (az))⟩
  ·rcases gS H with⟨sC,H⟩| ⟨sC,H⟩
   ·rcases gS H with⟨GH,H⟩| ⟨GH,H⟩
    ·obtain rfl:=oi H
     exact qr [.b 2 c1,.b 9 c9,.b 17 sC,.b 22 GH] <| qt <| ⟨.inl rfl,cV (.bool true) h (cP (az))⟩
    ·obtain rfl:=oi H
     exact qr [.b 2 c1,.b 9 c9,.b 17 sC,.b 22 GH] <| qt <| ⟨.inl rfl,cV (.bool (c0==(95:Int))) h (cP (az))⟩
   ·obtain rfl:=oi H
    exact qr [.b 2 c1,.b 9 c9,.b 17 sC] <| qt <| ⟨.inl rfl,cV (.bool (c0==(95:Int))) h (cP (az))⟩
end
end Go.Proofs.Ytifafejidnjckaa
namespace Go.Proofs.Ytifafejidnjckaa
open Go Go.R
open Go.IntKind (i64 u64 u8 u32)
end Go.Proofs.Ytifafejidnjckaa
namespace Go.Proofs.Ytifafejidnjckaa
open Go Go.R
open Go.IntKind (i64 u64 u8 u32)
end Go.Proofs.Ytifafejidnjckaa
namespace Go.Proofs.Ytifafejidnjckaa
open Go Go.R
open Go.IntKind (i64 u64 u8 u32)
end Go.Proofs.Ytifafejidnjckaa
namespace Go.Proofs.Ytifafejidnjckaa
open Go Go.R
open Go.IntKind (i64 u64 u8 u32)
def CG:b9:=gW [0,2] [] [2,1] [] []
def cmp_isNaN_int.f (m:Nat)(x0:Int):Option (Bool):=some (!(x0==x0))
def cmp_isNaN_int.fin (L:Mem)(r:Bool)(s:St):Prop:=∃av,aO Try.prog (s.open CG) Try.f97.results.toList=some av∧fG s.h av (.bool r)
def Un (cf:CallF)(m:Nat):Prop:=∀(x0:Int) (r:Bool),cmp_isNaN_int.f m x0=some r→∀h xs,aU bR h xs [.int .i64 x0]→cf 97 xs h=some (.bool r,h)
section
variable {cf:CallF}{m:Nat}
theorem ph {aY:FuncId→b9}(ha:aY 97=CG)  (x0:Int)(h:AHeap)(L:Mem)  (o:Has h (L)){out:Bool}(H:cmp_isNaN_int.f m x0=some out) :
  ∃r h',bf Try.prog aY cf m 97 [.int .i64 x0] h=some (r,h')∧fG h' r (.bool out):=by
 refine ar (fn:=Try.f97) ha Try.func97 (by kernel_rfl) (by kernel_rfl) ?_
 refine aH (Q:=fun s=>cmp_isNaN_int.fin L out s) (fun _ _ h=>h) ?_
 have H:_=some out:=H
 unfold cmp_isNaN_int.f at H
 show dK _ cf CG m _ ⟨[.int .i64 x0,.any],[],h⟩ _
 obtain rfl:=oi H
 exact q1 <| qq <| q0 <| qt <| ⟨.inl rfl,cV (.bool (!(x0==x0))) h (cP (az))⟩
end
end Go.Proofs.Ytifafejidnjckaa
namespace Go.Proofs.Ytifafejidnjckaa
open Go Go.R
open Go.IntKind (i64 u64 u8 u32)
def CH:b9:=gW [0,2] [] [2,1] [] []
def cmp_isNaN_string.f (m:Nat)(x0:ByteArray):Option (Bool):=some (!(x0.data.toList==x0.data.toList))
def cmp_isNaN_string.fin (L:Mem)(r:Bool)(s:St):Prop:=∃av,aO Try.prog (s.open CH) Try.f98.results.toList=some av∧fG s.h av (.bool r)
def Uo (cf:CallF)(m:Nat):Prop:=∀(x0:ByteArray) (r:Bool),cmp_isNaN_string.f m x0=some r→∀h xs,aU bR h xs [.str x0]→cf 98 xs h=some (.bool r,h)
section
variable {cf:CallF}{m:Nat}
theorem mV {aY:FuncId→b9}(ha:aY 98=CH)  (x0:ByteArray)(h:AHeap)(L:Mem)  (o:Has h (L)){out:Bool}(H:cmp_isNaN_string.f m x0=some out) :
  ∃r h',bf Try.prog aY cf m 98 [.str x0] h=some (r,h')∧fG h' r (.bool out):=by
 refine ar (fn:=Try.f98) ha Try.func98 (by kernel_rfl) (by kernel_rfl) ?_
 refine aH (Q:=fun s=>cmp_isNaN_string.fin L out s) (fun _ _ h=>h) ?_
 have H:_=some out:=H
 unfold cmp_isNaN_string.f at H
 show dK _ cf CH m _ ⟨[.str x0,.any],[],h⟩ _
 obtain rfl:=oi H
 exact q1 <| qq <| q0 <| qt <| ⟨.inl rfl,cV (.bool (!(x0.data.toList==x0.data.toList))) h (cP (az))⟩
end
end Go.Proofs.Ytifafejidnjckaa
namespace Go.Proofs.Ytifafejidnjckaa
open Go Go.R
open Go.IntKind (i64 u64 u8 u32)
end Go.Proofs.Ytifafejidnjckaa
namespace Go.Proofs.Ytifafejidnjckaa
open Go Go.R
open Go.IntKind (i64 u64 u8 u32)
def qR:b9:=gW [0,1,2,3,8,9,14,34] [] [224,160,224,192,64,192,192] [] []
def bb.l1 (m:Nat)(a0:Int)(a7:Int→Int→Option (Int)):Nat→(List Int)→Int→Option ((List Int) × Int)
 | 0,_,_=>none
 | k+1,dP,j0=>if (decide (j0 > a0))=true then ((ix dP j0).bind fun v0=>(ix dP (i64.wrap (j0 - (1:Int)))).bind fun v1=>(a7 v0 v1).bind fun r0=>if (decide (r0<(0:Int)))=true then ((ix dP (i64.wrap (j0 - (1:Int)))).bind fun v2=>(ix dP j0).bind fun v3=>(ix dP j0).bind fun v4=>(ix (dP.set j0.toNat v2) (i64.wrap (j0 - (1:Int)))).bind fun v5=>bb.l1 m a0 a7 k ((dP.set j0.toNat v2).set (i64.wrap (j0 - (1:Int))).toNat v3) (i64.wrap (j0 - (1:Int)))) else (some ((dP,j0)))) else (some ((dP,j0)))
def bb.l0 (m:Nat)(a0:Int)(b0:Int)(a7:Int→Int→Option (Int)):Nat→(List Int)→Int→Option ((List Int) × Int)
 | 0,_,_=>none
 | k+1,bF,i0=>if (decide (i0<b0))=true then ((bb.l1 m a0 a7 m bF i0).bind fun bM=>match bM with | (eF,j1)=>bb.l0 m a0 b0 a7 k eF (i64.wrap (i0+(1:Int)))) else (some ((bF,i0)))
def bb.f (m:Nat)(ax:List Int)(a0:Int)(b0:Int)(a7:Int→Int→Option (Int)):Option ((List Int)):=(bb.l0 m a0 b0 a7 m ax (i64.wrap (a0+(1:Int)))).bind fun cD=>match cD with | (jX,i1)=>some jX
def bb.fin (L:Mem)(aE:Nat)(ax:List Int)(a0:Int)(b0:Int)(a7:Int→Int→Option (Int))(r:(List Int))(s:St):Prop:=aO Try.prog (s.open qR) Try.f105.results.toList=some (.tup [])∧Has s.h ((aE,.sl ax.length 1 (af.l r))::L)
def Lq (cf:CallF)(m:Nat):Prop:=∀(ax:List Int) (a0:Int) (b0:Int) (a7:Int→Int→Option (Int)) (r:(List Int)),bb.f m ax a0 b0 a7=some r→∀h L (cX:Nat) (aE:Nat),Has h ((aE,.sl cX 1 (af.l ax))::L)→∀(rL:FuncId) (gE fL:List AV),(aS (.fn rL gE) = .fn rL gE)→(∀(h:AHeap) (xs:List AV) (a0:Int) (a1:Int) r,a7 a0 a1=some r→aU bR h xs ([.int .i64 a0,.int .i64 a1]++fL)→cf rL xs h=some (.int .i64 r,h))→(∀h K,Has h (K++(L))→aU cM h gE fL)→(∀h,aU cM h fL fL)→∀xs,xs.map aS=[.rs aE 0 cX 1,.int .i64 a0,.int .i64 b0,.fn rL gE]→∃h',cf 105 xs h=some (.tup [],h')∧Has h' ((aE,.sl cX 1 (af.l r))::L)
section
variable {cf:CallF}{m:Nat}
theorem bb.kz (L:Mem)(aE:Nat)(rL:FuncId)(gE fL:List AV)(ax:List Int)(a0:Int)(b0:Int)(a7:Int→Int→Option (Int))(i0:Int)  (EC:aS (.fn rL gE) = .fn rL gE)(Bf:∀(h:AHeap) (xs:List AV) (a0:Int) (a1:Int) r,a7 a0 a1=some r→aU bR h xs ([.int .i64 a0,.int .i64 a1]++fL)→cf rL xs h=some (.int .i64 r,h))(Bg:∀h K,Has h (K++(L))→aU cM h gE fL)(ED:∀h,aU cM h fL fL)  : dL Try.prog cf qR m (sub [1,0,0,1,0,0,1,0,0] (bZ Try.f105)) (fun k (σ:(List Int) × Int)=>bb.l1 m a0 a7 k σ.1 σ.2) (fun σ s=>match σ with | (dP,j0)=>∃h1,s=⟨[.rs aE 0 ax.length 1,.int .i64 a0,.int .i64 b0,.fn rL gE,.int .i64 i0,.int .i64 j0,.any,.any],[],h1⟩∧Has h1 ((aE,.sl ax.length 1 (af.l dP))::L)) (fun out e s=>(e = .exit 2∧∃dP j0,(dP,j0)=out∧∃A9 QR h1,s=⟨[.rs aE 0 ax.length 1,.int .i64 a0,.int .i64 b0,.fn rL gE,.int .i64 i0,A9,.any,QR],[],h1⟩∧Has h1 ((aE,.sl ax.length 1 (af.l dP))::L))):=by
 refine lg (fun _=>rfl) ?_
 rintro k ⟨dP,j0⟩ s out ⟨h1,rfl,o1⟩ H
 have H:bb.l1 m a0 a7 (k+1) dP j0=some out:=H
 refine qq <| qq ?_
 rcases gS H with⟨c1,H⟩| ⟨c1,H⟩
 ·obtain⟨v0,e0,H⟩:=bj H
  obtain⟨v1,e1,H⟩:=bj H
  obtain⟨r0,e2,H⟩:=bj H
  refine qr [.b 3 c1,.v 7 (bp (k:=.i64) (E:=af) (l:=dP) (q:=0) gu o1 rfl e0),.v 8 (di  (E:=af) (l:=dP) (q:=0) o1 rfl A3 e0 rfl),.v 12 (bp (k:=.i64) (E:=af) (l:=dP) (q:=0) gu o1 rfl e1),.v 13 (di  (E:=af) (l:=dP) (q:=0) o1 rfl A3 e1 rfl),.a 14 (Bf _ _ _ _ _ e2 (IZ (ah (aZ) (ah (aZ) (aw))) (Bg h1 [(aE,.sl ax.length 1 (af.l dP))] o1)))] <| qc H (fun c2 H=>?_) (fun c2 H=>?_)
  ·refine qk <| qq <| qb 3 ?_
   obtain⟨v2,e3,H⟩:=bj H
   obtain⟨v3,e4,H⟩:=bj H
   obtain⟨v4,e5,H⟩:=bj H
   obtain⟨h2,e6,o2⟩:=fS (P:=Try.prog) (tf:=3) (E:=af) (l:=dP) (q:=0) (v:=v2) (x:=.int .i64 v2) o1 rfl Z3 e5 rfl rfl
   obtain⟨v5,e7,H⟩:=bj H
   obtain⟨h3,e8,o3⟩:=fS (P:=Try.prog) (tf:=3) (E:=af) (l:=(dP.set j0.toNat v2)) (q:=0) (v:=v3) (x:=.int .i64 v3) o2 rfl Z3 e7 rfl rfl
   exact qr [.v 8 (bp (k:=.i64) (E:=af) (l:=dP) (q:=0) gu o1 rfl e3),.v 9 (di  (E:=af) (l:=dP) (q:=0) o1 rfl A3 e3 rfl),.v 12 (bp (k:=.i64) (E:=af) (l:=dP) (q:=0) gu o1 rfl e4),.v 13 (di  (E:=af) (l:=dP) (q:=0) o1 rfl A3 e4 rfl),.v 14 (bp (k:=.i64) (E:=af) (l:=dP) (q:=0) gu o1 rfl e5),.w 15 e6,.v 16 (bp (k:=.i64) (E:=af) (l:=(dP.set j0.toNat v2)) (q:=0) gu o2 rfl e7),.w 17 e8] <| q0 <| ⟨((dP.set j0.toNat v2).set (i64.wrap (j0 - (1:Int))).toNat v3,i64.wrap (j0 - (1:Int))),⟨h3,by kernel_rfl,o3⟩,H⟩
  ·exact qx 2 <| ⟨rfl,dP,j0,oi H,.int .i64 j0,.bool (decide (r0<(0:Int))),h1,by kernel_rfl,o1⟩
 ·exact qr [.b 3 c1] <| Gh <| qx 2 <| ⟨rfl,dP,j0,oi H,.int .i64 j0,.bool false,h1,by kernel_rfl,o1⟩
theorem bb.cQ (L:Mem)(aE:Nat)(rL:FuncId)(gE fL:List AV)(ax:List Int)(a0:Int)(b0:Int)(a7:Int→Int→Option (Int))  (EC:aS (.fn rL gE) = .fn rL gE)(Bf:∀(h:AHeap) (xs:List AV) (a0:Int) (a1:Int) r,a7 a0 a1=some r→aU bR h xs ([.int .i64 a0,.int .i64 a1]++fL)→cf rL xs h=some (.int .i64 r,h))(Bg:∀h K,Has h (K++(L))→aU cM h gE fL)(ED:∀h,aU cM h fL fL)  : dL Try.prog cf qR m (sub [1,0,0] (bZ Try.f105)) (fun k (σ:(List Int) × Int)=>bb.l0 m a0 b0 a7 k σ.1 σ.2) (fun σ s=>match σ with | (bF,i0)=>∃h0,s=⟨.rs aE 0 ax.length 1 :: .int .i64 a0 :: .int .i64 b0 :: .fn rL gE :: .int .i64 i0::ov [],[],h0⟩∧Has h0 ((aE,.sl ax.length 1 (af.l bF))::L)) (fun out e s=>(e = .exit 0∧∃bF i0,(bF,i0)=out∧∃mP uY I4 Gw A8 A7 h0,s=⟨[mP,uY,I4,Gw,A8,.any,A7,.any],[],h0⟩∧Has h0 ((aE,.sl ax.length 1 (af.l bF))::L))):=by
 refine lg (fun _=>rfl) ?_
 rintro k ⟨bF,i0⟩ s out ⟨h0,rfl,o0⟩ H
 have H:bb.l0 m a0 b0 a7 (k+1) bF i0=some out:=H
 refine qq <| qq <| q0 <| qc H (fun c0 H=>?_) (fun c0 H=>?_)
 ·refine qk <| qq <| qb 1 <| qq <| q0 <| qb 2 ?_
  obtain⟨bM,e9,H⟩:=bj H
  refine ql (bb.kz L aE rL gE fL ax a0 b0 a7 i0  EC Bf Bg ED  (bF,i0) _ _ ⟨h0,by kernel_rfl,o0⟩ e9) ?_
  rintro e s ⟨rfl,eF,j1,rfl,g0,g1,h4,rfl,o4⟩
  try dsimp only at H
  exact q0 <| ⟨(eF,i64.wrap (i0+(1:Int))),⟨h4,by kernel_rfl,o4⟩,H⟩
 ·exact qx 0 <| ⟨rfl,bF,i0,oi H,.rs aE 0 ax.length 1,.int .i64 a0,.int .i64 b0,.fn rL gE,.int .i64 i0,.bool (decide (i0<b0)),h0,by kernel_rfl,o0⟩
theorem ow {aY:FuncId→b9}(ha:aY 105=qR)  (ax:List Int)(a0:Int)(b0:Int)(a7:Int→Int→Option (Int))(h:AHeap)(L:Mem)(aE:Nat)(rL:FuncId)(gE fL:List AV)  (EC:aS (.fn rL gE) = .fn rL gE)(Bf:∀(h:AHeap) (xs:List AV) (a0:Int) (a1:Int) r,a7 a0 a1=some r→aU bR h xs ([.int .i64 a0,.int .i64 a1]++fL)→cf rL xs h=some (.int .i64 r,h))(Bg:∀h K,Has h (K++(L))→aU cM h gE fL)(ED:∀h,aU cM h fL fL)(o:Has h ((aE,.sl ax.length 1 (af.l ax))::L)){out:(List Int)}(H:bb.f m ax a0 b0 a7=some out) :
  ∃r h',bf Try.prog aY cf m 105 [.rs aE 0 ax.length 1,.int .i64 a0,.int .i64 b0,.fn rL gE] h=some (r,h')∧r = .tup []∧Has h' ((aE,.sl ax.length 1 (af.l out))::L):=by
 refine ar (fn:=Try.f105) ha Try.func105 (by kernel_rfl) (by kernel_rfl) ?_
 refine aH (Q:=fun s=>bb.fin L aE ax a0 b0 a7 out s) (fun _ _ ⟨h1,h2,h3⟩=>⟨h1,_,h2,rfl,h3⟩) ?_
 have H:_=some out:=H
 unfold bb.f at H
 show dK _ cf qR m _ ⟨.rs aE 0 ax.length 1 :: .int .i64 a0 :: .int .i64 b0 :: .fn rL gE::oZ [],[],h⟩ _
 refine q1 <| qb 0 ?_
 obtain⟨cD,rK,H⟩:=bj H
 refine ql (bb.cQ L aE rL gE fL ax a0 b0 a7  EC Bf Bg ED  (ax,i64.wrap (a0+(1:Int))) _ _ ⟨h,by kernel_rfl,o⟩ rK) ?_
 rintro e s ⟨rfl,jX,i1,rfl,g2,g3,g4,g5,g6,g7,h5,rfl,o5⟩
 try dsimp only at H
 obtain rfl:=oi H
 exact⟨.inr rfl,⟨by kernel_rfl,he o5⟩⟩
end
end Go.Proofs.Ytifafejidnjckaa
