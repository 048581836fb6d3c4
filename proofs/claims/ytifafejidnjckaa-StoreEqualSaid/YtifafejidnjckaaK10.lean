/- Part of the proof: Q83, Q89, Q72, Q76, Q46, Q43, Q21, Q36, Q17, Q12, Q3, Q4, Q5, Q6. -/
import Derived.Test.YtifafejidnjckaaK9
set_option linter.unusedVariables false
set_option linter.unusedSimpArgs false
set_option maxRecDepth 100000
open Eq renaming trans → YY
open List renaming length_set → XV, append_assoc → X3, cons_append → Yq, nil_append → Yr
namespace Go.Proofs.Ytifafejidnjckaa
open Go Go.R
open Go.IntKind (i64 u64 u8 u32)
def CK:bY:=gK [0,1] [] [3] [] []
def fM.f (m:Nat)(x0:List Int)(aX:Int→Int→Option (Int)):Option ((List Int)):=(bV.f m x0 (x0.length:Int) aX).bind fun x1=>some x1
def fM.fin (L:Mem)(aH:Nat)(x0:List Int)(aX:Int→Int→Option (Int))(r:(List Int))(s:St):Prop:=aM Try.prog (s.open CK) Try.f83.results.toList=some (.tup [])∧Has s.h ((aH,.sl x0.length 1 (af.l r))::L)
def TG (cf:CallF)(m:Nat):Prop:=∀(x0:List Int) (aX:Int→Int→Option (Int)) (r:(List Int)),fM.f m x0 aX=some r→∀h L (Gm:Nat) (aH:Nat),Has h ((aH,.sl Gm 1 (af.l x0))::L)→∀(fk:FuncId) (aV cb:List AV),(aO (.fn fk aV) = .fn fk aV)→(∀(h:AHeap) (xs:List AV) (a0:Int) (a1:Int) r,aX a0 a1=some r→aQ bJ h xs ([.int .i64 a0,.int .i64 a1]++cb)→cf fk xs h=some (.int .i64 r,h))→(∀h K,Has h (K++(L))→aQ cz h aV cb)→(∀h,aQ cz h cb cb)→∀xs,xs.map aO=[.rs aH 0 Gm 1,.fn fk aV]→∃h',cf 83 xs h=some (.tup [],h')∧Has h' ((aH,.sl Gm 1 (af.l r))::L)
section
variable {cf:CallF}{m:Nat}
theorem pS {aW:FuncId→bY}(ha:aW 83=CK)(QY:TD cf m)(x0:List Int)(aX:Int→Int→Option (Int))(h:AHeap)(L:Mem)(aH:Nat)(fk:FuncId)(aV cb:List AV)  (rN:aO (.fn fk aV) = .fn fk aV)(hZ:∀(h:AHeap) (xs:List AV) (a0:Int) (a1:Int) r,aX a0 a1=some r→aQ bJ h xs ([.int .i64 a0,.int .i64 a1]++cb)→cf fk xs h=some (.int .i64 r,h))(pJ:∀h K,Has h (K++(L))→aQ cz h aV cb)(ia:∀h,aQ cz h cb cb)(o:Has h ((aH,.sl x0.length 1 (af.l x0))::L)){out:(List Int)}(H:fM.f m x0 aX=some out) :
  ∃r h',bb Try.prog aW cf m 83 [.rs aH 0 x0.length 1,.fn fk aV] h=some (r,h')∧r = .tup []∧Has h' ((aH,.sl x0.length 1 (af.l out))::L):=by
 refine ar (fn:=Try.f83) ha Try.func83 (by kernel_rfl) (by kernel_rfl) ?_
 refine aG (Q:=fun s=>fM.fin L aH x0 aX out s) (fun _ _ ⟨h1,h2,h3⟩=>⟨h1,_,h2,rfl,h3⟩) ?_
 have H:_=some out:=H
 unfold fM.f at H
 show dy _ cf CK m _ ⟨[.rs aH 0 x0.length 1,.fn fk aV],[],h⟩ _
 obtain⟨x1,e0,H⟩:=bj H
 obtain⟨h0,e1,o0⟩:=QY _ _ _ _ e0 h _ _ _ (o) fk aV cb rN hZ (fun h' K' o'=>pJ h' (K'++[]) (by simpa only [X3,Yq,Yr] using o')) ia [.rs aH 0 x0.length 1,.int .i64 (x0.length:Int),.fn fk aV] (au (rfl) (au (aP (bu)) (au (rN) (bN))))
 obtain rfl:=oi H
 exact qr [.a 4 e1] <| ⟨.inr rfl,⟨by kernel_rfl,he o0⟩⟩
end
end Go.Proofs.Ytifafejidnjckaa
namespace Go.Proofs.Ytifafejidnjckaa
open Go Go.R
open Go.IntKind (i64 u64 u8 u32)
end Go.Proofs.Ytifafejidnjckaa
namespace Go.Proofs.Ytifafejidnjckaa
open Go Go.R
open Go.IntKind (i64 u64 u8 u32)
def pU:bY:=gK [0,1,2,3,4,5,6,7,8,9,10,11,12,13,14,15,17,22,23,24,37,38,39,40,61,73,74,75,76,87,88,89,90,110,126] [12] [34359738365,34359738357,34359345141,34358820853,34359345125,34359345141,34359345141,34359738357,34359738325,34359738261,34352398229,34344009621,34352397845,34335620757,34352397973,34352398229,34352398229,34359737757,34359736733,34124855709,33856420253,34124849565,34124841373,30366749085,26071781789,30366699933,30366749085,30366749085,34124779933,25534910877,34124845469,34124855709,34124855709,17179867613,34359738363,34359738269] [] []
def ay.l0 (m:Nat)(x0:List Int):Nat→(List Int)→Int→Option ((List Int) × Int)
 | 0,_,_=>none
 | k+1,fP,x1=>if (decide (x1<(x0.length:Int)))=true then ((ix fP x1).bind fun v0=>ay.l0 m x0 k (fP.set x1.toNat x1) (i64.wrap (x1+(1:Int)))) else (some ((fP,x1)))
def ay.l1 (m:Nat)(aN:List aj)(cd:List Int)(x3:(List Int)):Nat→(List Int)→Int→Int→Option ((List Int) × Int × Int)
 | 0,_,_,_=>none
 | k+1,cw,eT,x5=>if (decide (x5<(cd.length:Int)))=true then ((ix x3 x5).bind fun v1=>if (decide (x5 > (0:Int)))=true then ((ix x3 (i64.wrap (x5 - (1:Int)))).bind fun v2=>(ix aN v2).bind fun v3=>(ix aN v1).bind fun v4=>(dj.f m v3 v4).bind fun x6=>if (!(x6==(0:Int)))=true then ((ix cw v1).bind fun v5=>ay.l1 m aN cd x3 k (cw.set v1.toNat (i64.wrap (eT+(1:Int)))) (i64.wrap (eT+(1:Int))) (i64.wrap (x5+(1:Int)))) else ((ix cw v1).bind fun v6=>ay.l1 m aN cd x3 k (cw.set v1.toNat eT) eT (i64.wrap (x5+(1:Int))))) else ((ix cw v1).bind fun v7=>ay.l1 m aN cd x3 k (cw.set v1.toNat eT) eT (i64.wrap (x5+(1:Int))))) else (some ((cw,eT,x5)))
def ay.l4 (m:Nat)(dk:List Int)(v8:aj):Nat→(List Int)→Int→Option ((List Int) × Int)
 | 0,_,_=>none
 | k+1,k0,kz=>if (decide (kz<(v8.args.length:Int)))=true then ((ix v8.args kz).bind fun v10=>(ix dk v10).bind fun v11=>(ix k0 (i64.wrap (kz+(1:Int)))).bind fun v12=>ay.l4 m dk v8 k (k0.set (i64.wrap (kz+(1:Int))).toNat (i64.wrap (v11+(1:Int)))) (i64.wrap (kz+(1:Int)))) else (some ((k0,kz)))
def ay.l3 (m:Nat)(aN:List aj)(dk:List Int):Nat→(List (List Int × Int))→(List Int)→Int→Option ((List (List Int × Int)) × (List Int) × Int)
 | 0,_,_,_=>none
 | k+1,en,dT,x9=>if (decide (x9<(aN.length:Int)))=true then ((ix aN x9).bind fun v8=>(ix dk x9).bind fun v9=>(ay.l4 m dk v8 m ([i64.wrap (v9+(1:Int)),(0:Int),(0:Int),(0:Int),(0:Int),(0:Int),(0:Int),(0:Int),(0:Int)]) (0:Int)).bind fun F0=>match F0 with | (k1,zN)=>(Ic 9 en k1).bind fun r0=>if (!r0.2)=true then ((M4 9 en k1 (en.length:Int)).bind fun Lh=>(Ic 9 Lh k1).bind fun r1=>(ix dT x9).bind fun OF=>ay.l3 m aN dk k Lh (dT.set x9.toNat r1.1) (i64.wrap (x9+(1:Int)))) else ((Ic 9 en k1).bind fun r2=>(ix dT x9).bind fun Vt=>ay.l3 m aN dk k en (dT.set x9.toNat r2.1) (i64.wrap (x9+(1:Int))))) else (some ((en,dT,x9)))
def ay.l2 (m:Nat)(aN:List aj):Nat→(List Int)→Int→Option (Sum (List Int) ((List Int) × Int))
 | 0,_,_=>none
 | k+1,dk,jB=>(Ez 8 (aN.length:Int) (0:Int)).bind fun x8=>(ay.l3 m aN dk m ([]:List (List Int × Int)) x8 (0:Int)).bind fun NJ=>match NJ with | (fR,nD,n5)=>if ((fR.length:Int)==(i64.wrap (jB+(1:Int))))=true then (some (.inl dk)) else (ay.l2 m aN k nD (i64.wrap ((fR.length:Int) - (1:Int))))
def ay.f (m:Nat)(aN:List aj):Option ((List Int)):=(Ez 8 (aN.length:Int) (0:Int)).bind fun x0=>(ay.l0 m x0 m x0 (0:Int)).bind fun bQ=>match bQ with | (cd,x2)=>(fM.f m cd (fun y0 y1=>eA.f m y0 y1 aN)).bind fun x3=>(Ez 8 (aN.length:Int) (0:Int)).bind fun x4=>(ay.l1 m aN cd x3 m x4 (0:Int) (0:Int)).bind fun yU=>match yU with | (km,many1,x7)=>(ay.l2 m aN m km many1).bind fun NK=>match NK with | .inl r3=>some r3 | .inr (QZ,NL)=>none
def ay.fin (L:Mem)(r:(List Int))(s:St):Prop:=∃av,aM Try.prog (s.open pU) Try.f72.results.toList=some av∧fj s.h av (af.fz r)
def TH (cf:CallF)(m:Nat):Prop:=∀(aN:List aj) (r:(List Int)),ay.f m aN=some r→∀h xs,aQ bJ h xs [ai.fz aN]→cf 72 xs h=some (af.fz r,h)
section
variable {cf:CallF}{m:Nat}
theorem ay.cO (L:Mem)(aN:List aj)(aH:Nat)(x0:List Int)   : dF Try.prog cf pU m (sub [1,1,0,1,0,0] (bW Try.f72)) (fun k (σ:(List Int) × Int)=>ay.l0 m x0 k σ.1 σ.2) (fun σ s=>match σ with | (fP,x1)=>∃dX h2,s=⟨.any :: .ptr aH 0 :: .any :: .rs dX 0 fP.length 1::rK (.int .i64 (x0.length:Int) :: .int .i64 x1::If []),[none],h2⟩∧Has h2 ((dX,.sl fP.length 1 (af.l fP))::(aH,.ob [ai.fz aN])::L)) (fun out e s=>(e = .exit 0∧∃fP x1,(fP,x1)=out∧∃AN F4 Q0 dX h2,s=⟨.any :: .ptr aH 0 :: .any :: .rs dX 0 fP.length 1::rK (AN::F4::Q0::PD []),[none],h2⟩∧Has h2 ((dX,.sl fP.length 1 (af.l fP))::(aH,.ob [ai.fz aN])::L))):=by
 refine k8 (fun _=>rfl) ?_
 rintro k ⟨fP,x1⟩ s out ⟨dX,h2,rfl,o2⟩ H
 have H:ay.l0 m x0 (k+1) fP x1=some out:=H
 refine q1 <| qq <| qc H (fun c0 H=>?_) (fun c0 H=>?_)
 ·refine qk <| qq <| qb 1 <| qq <| q0 ?_
  obtain⟨v0,e3,H⟩:=bj H
  obtain⟨h3,e4,o3⟩:=fG (P:=Try.prog) (tf:=3) (E:=af) (l:=fP) (q:=0) (v:=x1) (x:=.int .i64 x1) o2 rfl Z3 e3 rfl rfl
  exact qr [.v 3 (bm (k:=.i64) (E:=af) (l:=fP) (q:=0) gg o2 rfl e3),.w 4 e4] <| q0 <| ⟨(fP.set x1.toNat x1,i64.wrap (x1+(1:Int))),⟨dX,h3,(YY (b:=⟨.any :: .ptr aH 0 :: .any :: .rs dX 0 fP.length 1::rK (.int .i64 (x0.length:Int) :: .int .i64 (i64.wrap (x1+(1:Int)))::If []),[none],h3⟩) (by kernel_rfl) (by simp only [XV])),(by have o:Has h3 ((dX,.sl fP.length 1 (af.l (fP.set x1.toNat x1)))::(aH,.ob [ai.fz aN])::L):=o3; simpa only [XV] using o)⟩,H⟩
 ·exact qx 0 <| ⟨rfl,fP,x1,oi H,.int .i64 (x0.length:Int),.int .i64 x1,.bool (decide (x1<(x0.length:Int))),dX,h2,by kernel_rfl,o2⟩
theorem ay.ko (L:Mem)(aN:List aj)(aH:Nat)(dP:Nat)(cd:List Int)(dP:Nat)(x3:(List Int))  (zb:NA cf m):dF Try.prog cf pU m (sub [1,1,1,1,1,1,0,1,0,0] (bW Try.f72)) (fun k (σ:(List Int) × Int × Int)=>ay.l1 m aN cd x3 k σ.1 σ.2.1 σ.2.2) (fun σ s=>match σ with | (cw,eT,x5)=>∃eZ h7,s=⟨.any :: .ptr aH 0 :: .any :: .rs dP 0 cd.length 1 :: .any :: .rs eZ 0 cw.length 1 :: .int .i64 eT::rK (.rs dP 0 cd.length 1 :: .int .i64 (cd.length:Int) :: .int .i64 x5::uH []),[none],h7⟩∧Has h7 ((eZ,.sl cw.length 1 (af.l cw))::(dP,.sl cd.length 1 (af.l x3))::(aH,.ob [ai.fz aN])::L)) (fun out e s=>(e = .exit 2∧∃cw eT x5,(cw,eT,x5)=out∧∃Iv AG AH F3 Gn eZ h7,s=⟨.any :: .ptr aH 0 :: .any::Iv :: .any :: .rs eZ 0 cw.length 1 :: .int .i64 eT::rK (AG::AH::F3::Gn::rJ []),[none],h7⟩∧Has h7 ((eZ,.sl cw.length 1 (af.l cw))::(dP,.sl cd.length 1 (af.l x3))::(aH,.ob [ai.fz aN])::L))):=by
 refine k8 (fun _=>rfl) ?_
 rintro k ⟨cw,eT,x5⟩ s out ⟨eZ,h7,rfl,o7⟩ H
 have H:ay.l1 m aN cd x3 (k+1) cw eT x5=some out:=H
 refine q1 <| qq <| qc H (fun c1 H=>?_) (fun c1 H=>?_)
 ·refine qk <| qq <| qb 3 <| qq ?_
  obtain⟨v1,rv,H⟩:=bj H
  refine qr [.v 1 (bm (k:=.i64) (E:=af) (l:=x3) (q:=1) gg o7 rfl rv),.v 2 (cM  (E:=af) (l:=x3) (q:=1) o7 rfl A3 rv rfl)] <| qq <| qq ?_
  rcases ig H with⟨c2,H⟩| ⟨c2,H⟩
  ·obtain⟨v2,uv,H⟩:=bj H
   obtain⟨v3,w7,H⟩:=bj H
   obtain⟨v4,w8,H⟩:=bj H
   obtain⟨x6,AK,H⟩:=bj H
   refine qr [.b 2 c2,.v 3 (show bC Try.prog h7 40 (.ptr aH 0)=some (ai.fz aN) from cj (q:=2) (cs:=[ai.fz aN]) o7 rfl (by kernel_rfl)),.v 7 (bm (k:=.i64) (E:=af) (l:=x3) (q:=1) gg o7 rfl uv),.v 8 (cM  (E:=af) (l:=x3) (q:=1) o7 rfl A3 uv rfl),.v 9 (fe (k:=.i64) (E:=ai) (l:=aN) uK w7),.v 10 (kj  (E:=ai) (l:=aN) h7 DX DY w7),.v 11 (show bC Try.prog h7 40 (.ptr aH 0)=some (ai.fz aN) from cj (q:=2) (cs:=[ai.fz aN]) o7 rfl (by kernel_rfl)),.v 13 (fe (k:=.i64) (E:=ai) (l:=aN) uK w8),.v 14 (kj  (E:=ai) (l:=aN) h7 DX DY w8),.a 15 (zb _ _ _ AK h7 _ (fq (ah (eh (ah (aT) (ah (aT) (ah (cq) (ah (dW (E:=af)) (aw)))))) (ah (eh (ah (aT) (ah (aT) (ah (cq) (ah (dW (E:=af)) (aw)))))) (aw)))))] ?_
   refine qc H (fun c3 H=>?_) (fun c3 H=>?_)
   ·refine q0 ?_
    obtain⟨v5,zO,H⟩:=bj H
    obtain⟨h8,D5,o8⟩:=fG (P:=Try.prog) (tf:=3) (E:=af) (l:=cw) (q:=0) (v:=(i64.wrap (eT+(1:Int)))) (x:=.int .i64 (i64.wrap (eT+(1:Int)))) o7 rfl Z3 zO rfl rfl
    exact qr [.v 3 (bm (k:=.i64) (E:=af) (l:=cw) (q:=0) gg o7 rfl zO),.w 4 D5] <| q0 <| ⟨(cw.set v1.toNat (i64.wrap (eT+(1:Int))),i64.wrap (eT+(1:Int)),i64.wrap (x5+(1:Int))),⟨eZ,h8,(YY (b:=⟨.any :: .ptr aH 0 :: .any :: .rs dP 0 cd.length 1 :: .any :: .rs eZ 0 cw.length 1 :: .int .i64 (i64.wrap (eT+(1:Int)))::rK (.rs dP 0 cd.length 1 :: .int .i64 (cd.length:Int) :: .int .i64 (i64.wrap (x5+(1:Int)))::uH []),[none],h8⟩) (by kernel_rfl) (by simp only [XV])),(by have o:Has h8 ((eZ,.sl cw.length 1 (af.l (cw.set v1.toNat (i64.wrap (eT+(1:Int))))))::(dP,.sl cd.length 1 (af.l x3))::(aH,.ob [ai.fz aN])::L):=o8; simpa only [XV] using o)⟩,H⟩
   ·refine qk ?_
    obtain⟨v6,D6,H⟩:=bj H
    obtain⟨h9,Gh,o9⟩:=fG (P:=Try.prog) (tf:=3) (E:=af) (l:=cw) (q:=0) (v:=eT) (x:=.int .i64 eT) o7 rfl Z3 D6 rfl rfl
    exact qr [.v 3 (bm (k:=.i64) (E:=af) (l:=cw) (q:=0) gg o7 rfl D6),.w 4 Gh] <| q0 <| ⟨(cw.set v1.toNat eT,eT,i64.wrap (x5+(1:Int))),⟨eZ,h9,(YY (b:=⟨.any :: .ptr aH 0 :: .any :: .rs dP 0 cd.length 1 :: .any :: .rs eZ 0 cw.length 1 :: .int .i64 eT::rK (.rs dP 0 cd.length 1 :: .int .i64 (cd.length:Int) :: .int .i64 (i64.wrap (x5+(1:Int)))::uH []),[none],h9⟩) (by kernel_rfl) (by simp only [XV])),(by have o:Has h9 ((eZ,.sl cw.length 1 (af.l (cw.set v1.toNat eT)))::(dP,.sl cd.length 1 (af.l x3))::(aH,.ob [ai.fz aN])::L):=o9; simpa only [XV] using o)⟩,H⟩
  ·refine qr [.b 2 c2] <| Hy <| qk ?_
   obtain⟨v7,D7,H⟩:=bj H
   obtain⟨h10,Iz,xa⟩:=fG (P:=Try.prog) (tf:=3) (E:=af) (l:=cw) (q:=0) (v:=eT) (x:=.int .i64 eT) o7 rfl Z3 D7 rfl rfl
   exact qr [.v 3 (bm (k:=.i64) (E:=af) (l:=cw) (q:=0) gg o7 rfl D7),.w 4 Iz] <| q0 <| ⟨(cw.set v1.toNat eT,eT,i64.wrap (x5+(1:Int))),⟨eZ,h10,(YY (b:=⟨.any :: .ptr aH 0 :: .any :: .rs dP 0 cd.length 1 :: .any :: .rs eZ 0 cw.length 1 :: .int .i64 eT::rK (.rs dP 0 cd.length 1 :: .int .i64 (cd.length:Int) :: .int .i64 (i64.wrap (x5+(1:Int)))::uH []),[none],h10⟩) (by kernel_rfl) (by simp only [XV])),(by have o:Has h10 ((eZ,.sl cw.length 1 (af.l (cw.set v1.toNat eT)))::(dP,.sl cd.length 1 (af.l x3))::(aH,.ob [ai.fz aN])::L):=xa; simpa only [XV] using o)⟩,H⟩
 ·exact qx 2 <| ⟨rfl,cw,eT,x5,oi H,.rs dP 0 cd.length 1,.rs dP 0 cd.length 1,.int .i64 (cd.length:Int),.int .i64 x5,.bool (decide (x5<(cd.length:Int))),eZ,h7,(YY (b:=⟨.any :: .ptr aH 0 :: .any :: .rs dP 0 cd.length 1 :: .any :: .rs eZ 0 cw.length 1 :: .int .i64 eT::rK (.rs dP 0 cd.length 1 :: .int .i64 (cd.length:Int) :: .int .i64 x5 :: .bool (decide (x5<(cd.length:Int)))::rJ []),[none],h7⟩) (by kernel_rfl) (by simp only [XV])),(by have o:Has h7 ((eZ,.sl cw.length 1 (af.l cw))::(dP,.sl cd.length 1 (af.l x3))::(aH,.ob [ai.fz aN])::L):=o7; simpa only [XV] using o)⟩
theorem ay.Gk (L:Mem)(aN:List aj)(aH:Nat)(iN:Nat)(dk:List Int)(jB:Int)(iN:Nat)(kr:Nat)(cU:Nat)(en:List (List Int × Int))(dT:List Int)(x9:Int)(cU:Nat)(v8:aj)(jI:Nat)   : dF Try.prog cf pU m (sub [1,1,1,1,1,1,1,0,0,0,1,1,0,1,0,0,1,1,0,0,1,1,0,1,0,0] (bW Try.f72)) (fun k (σ:(List Int) × Int)=>ay.l4 m dk v8 k σ.1 σ.2) (fun σ s=>match σ with | (k0,kz)=>∃h18,s=⟨.any :: .ptr aH 0::nS (.rs iN 0 dk.length 1 :: .int .i64 jB :: .any :: .any :: .mp kr :: .rs cU 0 dT.length 1 :: .int .i64 x9 :: .any :: .ptr jI 0::rJ (ai.fz aN :: .int .i64 (aN.length:Int) :: .int .i64 x9 :: .any::af.fz v8.args :: .int .i64 (v8.args.length:Int) :: .int .i64 kz::nS [])),[none],h18⟩∧Has h18 ((jI,.sl 9 1 (af.l k0))::(cU,.sl dT.length 1 (af.l dT))::(kr,.mp (uG en))::(iN,.sl dk.length 1 (af.l dk))::(aH,.ob [ai.fz aN])::L)) (fun out e s=>(e = .exit 8∧∃k0 kz,(k0,kz)=out∧∃Q8 Q9 Ra Rb h18,s=⟨.any :: .ptr aH 0::nS (.rs iN 0 dk.length 1 :: .int .i64 jB :: .any :: .any :: .mp kr :: .rs cU 0 dT.length 1 :: .int .i64 x9 :: .any :: .ptr jI 0::rJ [ai.fz aN,.int .i64 (aN.length:Int),.int .i64 x9,.any,Q8,Q9,Ra,Rb,.any,.any]),[none],h18⟩∧Has h18 ((jI,.sl 9 1 (af.l k0))::(cU,.sl dT.length 1 (af.l dT))::(kr,.mp (uG en))::(iN,.sl dk.length 1 (af.l dk))::(aH,.ob [ai.fz aN])::L))):=by
 refine k8 (fun _=>rfl) ?_
 rintro k ⟨k0,kz⟩ s out ⟨h18,rfl,AR⟩ H
 have H:ay.l4 m dk v8 (k+1) k0 kz=some out:=H
 refine q1 <| qq <| qc H (fun c6 H=>?_) (fun c6 H=>?_)
 ·refine qk <| qq <| qb 9 <| qq ?_
  obtain⟨v10,OJ,H⟩:=bj H
  refine qr [.v 1 (fe (k:=.i64) (E:=af) (l:=v8.args) gg OJ),.v 2 (ie  (E:=af) (l:=v8.args) h18 A3 OJ rfl)] ?_
  obtain⟨v11,OH,H⟩:=bj H
  obtain⟨v12,OI,H⟩:=bj H
  obtain⟨h19,Vu,Li⟩:=fG (P:=Try.prog) (tf:=3) (E:=af) (l:=k0) (q:=0) (v:=(i64.wrap (v11+(1:Int)))) (x:=.int .i64 (i64.wrap (v11+(1:Int)))) AR rfl Z3 OI rfl rfl
  exact qr [.v 4 (bm (k:=.i64) (E:=af) (l:=dk) (q:=3) gg AR rfl OH),.v 5 (cM  (E:=af) (l:=dk) (q:=3) AR rfl A3 OH rfl),.v 7 (Kn (k:=.i64) (q:=0) (l:=k0) vt AR rfl OI),.w 8 Vu] <| q0 <| ⟨(k0.set (i64.wrap (kz+(1:Int))).toNat (i64.wrap (v11+(1:Int))),i64.wrap (kz+(1:Int))),⟨h19,by kernel_rfl,Li⟩,H⟩
 ·exact qx 8 <| ⟨rfl,k0,kz,oi H,af.fz v8.args,.int .i64 (v8.args.length:Int),.int .i64 kz,.bool (decide (kz<(v8.args.length:Int))),h18,by kernel_rfl,AR⟩
theorem ay.Gj (L:Mem)(aN:List aj)(aH:Nat)(iN:Nat)(dk:List Int)(jB:Int)(iN:Nat)(kr:Nat)   : dF Try.prog cf pU m (sub [1,1,1,1,1,1,1,0,0,0,1,1,0,1,0,0] (bW Try.f72)) (fun k (σ:(List (List Int × Int)) × (List Int) × Int)=>ay.l3 m aN dk k σ.1 σ.2.1 σ.2.2) (fun σ s=>match σ with | (en,dT,x9)=>∃cU h15,s=⟨.any :: .ptr aH 0::nS (.rs iN 0 dk.length 1 :: .int .i64 jB :: .any :: .any :: .mp kr :: .rs cU 0 dT.length 1::yE (ai.fz aN :: .int .i64 (aN.length:Int) :: .int .i64 x9::FE [])),[none],h15⟩∧Has h15 ((cU,.sl dT.length 1 (af.l dT))::(kr,.mp (uG en))::(iN,.sl dk.length 1 (af.l dk))::(aH,.ob [ai.fz aN])::L)) (fun out e s=>(e = .exit 6∧∃en dT x9,(en,dT,x9)=out∧∃Rc Re Rf Rh cU h15,s=⟨.any :: .ptr aH 0::nS (.rs iN 0 dk.length 1 :: .int .i64 jB :: .any :: .any :: .mp kr :: .rs cU 0 dT.length 1::yE (Rc::Re::Rf::Rh::xH [])),[none],h15⟩∧Has h15 ((cU,.sl dT.length 1 (af.l dT))::(kr,.mp (uG en))::(iN,.sl dk.length 1 (af.l dk))::(aH,.ob [ai.fz aN])::L))):=by
 refine k8 (fun _=>rfl) ?_
 rintro k ⟨en,dT,x9⟩ s out ⟨cU,h15,rfl,xJ⟩ H
 have H:ay.l3 m aN dk (k+1) en dT x9=some out:=H
 refine q1 <| qq <| qc H (fun c5 H=>?_) (fun c5 H=>?_)
 ·refine qk <| qq <| qb 7 <| qq ?_
  obtain⟨v8,Jz,H⟩:=bj H
  refine qr [.v 1 (fe (k:=.i64) (E:=ai) (l:=aN) uK Jz),.v 2 (kj  (E:=ai) (l:=aN) h15 DX DY Jz)] <| qq ?_
  obtain⟨v9,Md,H⟩:=bj H
  obtain⟨jI,h16,QI,vA⟩:=Ie (cs:=[.int .i64 (0:Int),.int .i64 (0:Int),.int .i64 (0:Int),.int .i64 (0:Int),.int .i64 (0:Int),.int .i64 (0:Int),.int .i64 (0:Int),.int .i64 (0:Int),.int .i64 (0:Int)]) (l:=[(0:Int),(0:Int),(0:Int),(0:Int),(0:Int),(0:Int),(0:Int),(0:Int),(0:Int)]) xJ (by kernel_rfl)
  obtain⟨h17,QH,Cw⟩:=Ko (q:=0) (l:=([(0:Int),(0:Int),(0:Int),(0:Int),(0:Int),(0:Int),(0:Int),(0:Int),(0:Int)])) (l':=[i64.wrap (v9+(1:Int)),(0:Int),(0:Int),(0:Int),(0:Int),(0:Int),(0:Int),(0:Int),(0:Int)]) (x:=.agg [.int .i64 (i64.wrap (v9+(1:Int))),.int .i64 (0:Int),.int .i64 (0:Int),.int .i64 (0:Int),.int .i64 (0:Int),.int .i64 (0:Int),.int .i64 (0:Int),.int .i64 (0:Int),.int .i64 (0:Int)]) vt vA rfl rfl rfl
  refine qr [.v 2 (bm (k:=.i64) (E:=af) (l:=dk) (q:=2) gg xJ rfl Md),.v 3 (cM  (E:=af) (l:=dk) (q:=2) xJ rfl A3 Md rfl),.a 6 QI,.w 7 QH] <| qq <| qq <| q0 <| qb 8 ?_
  obtain⟨F0,Vv,H⟩:=bj H
  refine ql (ay.Gk L aN aH iN dk jB iN kr cU en dT x9 cU v8 jI   ([i64.wrap (v9+(1:Int)),(0:Int),(0:Int),(0:Int),(0:Int),(0:Int),(0:Int),(0:Int),(0:Int)],(0:Int)) _ _ ⟨h17,by kernel_rfl,Cw⟩ Vv) ?_
  rintro e s ⟨rfl,k1,zN,rfl,g13,g14,g15,g16,h20,rfl,CL⟩
  try dsimp only at H
  refine qq <| qq ?_
  obtain⟨r0,Vw,H⟩:=bj H
  refine qr [.v 1 (show bC Try.prog h20 115 (.ptr jI 0)=some (.agg (af.l k1)) from wT (q:=0) (l:=k1) vt CL rfl),.v 2 (show eR Try.prog h20 113 (.mp kr) (.agg (af.l k1)) true=some (.tup [.int .i64 r0.1,.bool r0.2]) from (Kl (q:=2) (l:=en) (k:=k1) BR CL rfl Vw).1)] <| qq <| q0 <| qc H (fun c7 H=>?_) (fun c7 H=>?_)
  ·obtain⟨Lh,Vx,H⟩:=bj H
   obtain⟨h21,Vy,HC⟩:=PC (q:=2) (l:=en) (k:=k1) (v:=(en.length:Int)) BR CL rfl Vx
   refine qr [.v 1 (show bC Try.prog h20 115 (.ptr jI 0)=some (.agg (af.l k1)) from wT (q:=0) (l:=k1) vt CL rfl),.v 3 (show sv Try.prog h20 113 (.mp kr)=some (.int .i64 (en.length:Int)) from Km (q:=2) (l:=en) FX CL rfl),.w 4 Vy] ?_
   obtain⟨r1,Vz,H⟩:=bj H
   obtain⟨OF,TI,H⟩:=bj H
   obtain⟨h22,VA,NM⟩:=fG (P:=Try.prog) (tf:=3) (E:=af) (l:=dT) (q:=1) (v:=r1.1) (x:=.int .i64 r1.1) HC rfl Z3 TI rfl rfl
   refine qr [.v 3 (show bC Try.prog h21 115 (.ptr jI 0)=some (.agg (af.l k1)) from wT (q:=0) (l:=k1) vt HC rfl),.v 4 (show eR Try.prog h21 113 (.mp kr) (.agg (af.l k1)) false=some (.int .i64 r1.1) from (Kl (q:=2) (l:=Lh) (k:=k1) BR HC rfl Vz).2),.v 5 (bm (k:=.i64) (E:=af) (l:=dT) (q:=1) gg HC rfl TI),.w 6 VA] ?_
   have Ri:Has h22 ((cU,.sl dT.length 1 (af.l (dT.set x9.toNat r1.1)))::(kr,.mp (uG Lh))::(iN,.sl dk.length 1 (af.l dk))::(aH,.ob [ai.fz aN])::L):=Has.del NM 0
   exact q0 <| ⟨(Lh,dT.set x9.toNat r1.1,i64.wrap (x9+(1:Int))),⟨cU,h22,(YY (b:=⟨.any :: .ptr aH 0::nS (.rs iN 0 dk.length 1 :: .int .i64 jB :: .any :: .any :: .mp kr :: .rs cU 0 dT.length 1::yE (ai.fz aN :: .int .i64 (aN.length:Int) :: .int .i64 (i64.wrap (x9+(1:Int)))::FE [])),[none],h22⟩) (by kernel_rfl) (by simp only [XV])),(by have o:Has h22 ((cU,.sl dT.length 1 (af.l (dT.set x9.toNat r1.1)))::(kr,.mp (uG Lh))::(iN,.sl dk.length 1 (af.l dk))::(aH,.ob [ai.fz aN])::L):=Ri; simpa only [XV] using o)⟩,H⟩
  ·refine qk ?_
   obtain⟨r2,VB,H⟩:=bj H
   obtain⟨Vt,TJ,H⟩:=bj H
   obtain⟨h23,VC,TK⟩:=fG (P:=Try.prog) (tf:=3) (E:=af) (l:=dT) (q:=1) (v:=r2.1) (x:=.int .i64 r2.1) CL rfl Z3 TJ rfl rfl
   refine qr [.v 3 (show bC Try.prog h20 115 (.ptr jI 0)=some (.agg (af.l k1)) from wT (q:=0) (l:=k1) vt CL rfl),.v 4 (show eR Try.prog h20 113 (.mp kr) (.agg (af.l k1)) false=some (.int .i64 r2.1) from (Kl (q:=2) (l:=en) (k:=k1) BR CL rfl VB).2),.v 5 (bm (k:=.i64) (E:=af) (l:=dT) (q:=1) gg CL rfl TJ),.w 6 VC] ?_
   have Rj:Has h23 ((cU,.sl dT.length 1 (af.l (dT.set x9.toNat r2.1)))::(kr,.mp (uG en))::(iN,.sl dk.length 1 (af.l dk))::(aH,.ob [ai.fz aN])::L):=Has.del TK 0
   exact q0 <| ⟨(en,dT.set x9.toNat r2.1,i64.wrap (x9+(1:Int))),⟨cU,h23,(YY (b:=⟨.any :: .ptr aH 0::nS (.rs iN 0 dk.length 1 :: .int .i64 jB :: .any :: .any :: .mp kr :: .rs cU 0 dT.length 1::yE (ai.fz aN :: .int .i64 (aN.length:Int) :: .int .i64 (i64.wrap (x9+(1:Int)))::FE [])),[none],h23⟩) (by kernel_rfl) (by simp only [XV])),(by have o:Has h23 ((cU,.sl dT.length 1 (af.l (dT.set x9.toNat r2.1)))::(kr,.mp (uG en))::(iN,.sl dk.length 1 (af.l dk))::(aH,.ob [ai.fz aN])::L):=Rj; simpa only [XV] using o)⟩,H⟩
 ·exact qx 6 <| ⟨rfl,en,dT,x9,oi H,ai.fz aN,.int .i64 (aN.length:Int),.int .i64 x9,.bool (decide (x9<(aN.length:Int))),cU,h15,by kernel_rfl,xJ⟩
theorem ay.pP (L:Mem)(aN:List aj)(aH:Nat)   : dF Try.prog cf pU m (sub [1,1,1,1,1,1,1,0,0] (bW Try.f72)) (fun k (σ:(List Int) × Int)=>ay.l2 m aN k σ.1 σ.2) (fun σ s=>match σ with | (dk,jB)=>∃g8 g9 g10 g11 g12 iN h12,s=⟨.any :: .ptr aH 0 :: .any::g8 :: .any :: .rs iN 0 dk.length 1 :: .int .i64 jB::rK (g9::g10::g11::g12::rJ []),[none],h12⟩∧Has h12 ((iN,.sl dk.length 1 (af.l dk))::(aH,.ob [ai.fz aN])::L)) (fun out e s=>(e = .exit 4∧∃dk jB,.inr (dk,jB)=out∧∃w6 Iv Nr FY AG AH F3 Gn iN h12,s=⟨.any::w6 :: .any::Iv :: .any::Nr::FY::rK (AG::AH::F3::Gn::rJ []),[none],h12⟩∧Has h12 ((iN,.sl dk.length 1 (af.l dk))::(aH,.ob [ai.fz aN])::L))∨(e = .ret∧∃r,.inl r=out∧ay.fin L r s)):=by
 refine k8 (fun _=>rfl) ?_
 rintro k ⟨dk,jB⟩ s out ⟨g8,g9,g10,g11,g12,iN,h12,rfl,uO⟩ H
 have H:ay.l2 m aN (k+1) dk jB=some out:=H
 refine qb 5 <| qq ?_
 obtain⟨kr,h13,HB,tL⟩:=wS uO
 refine qr [.m 0 HB] <| qq ?_
 obtain⟨x8,Jy,H⟩:=bj H
 obtain⟨iF,h14,KX,D8⟩:=wO (P:=Try.prog) (E:=af) (z:=(0:Int)) (zv:=.int .i64 (0:Int)) gg tL 3 rfl rfl rfl rfl Jy
 refine qr [.v 0 (show bC Try.prog h13 40 (.ptr aH 0)=some (ai.fz aN) from cj (q:=2) (cs:=[ai.fz aN]) tL rfl (by kernel_rfl)),.a 2 KX] <| qq <| qq <| qr [.v 0 (show bC Try.prog h14 40 (.ptr aH 0)=some (ai.fz aN) from cj (q:=3) (cs:=[ai.fz aN]) D8 rfl (by kernel_rfl))] <| qb 6 ?_
 obtain⟨NJ,VD,H⟩:=bj H
 refine ql (ay.Gj L aN aH iN dk jB iN kr   (([]:List (List Int × Int)),x8,(0:Int)) _ _ ⟨iF,h14,by kernel_rfl,D8⟩ VD) ?_
 rintro e s ⟨rfl,fR,nD,n5,rfl,g17,g18,g19,g20,kX,h24,rfl,Me⟩
 try dsimp only at H
 refine qq <| qq <| qr [.v 1 (show sv Try.prog h24 113 (.mp kr)=some (.int .i64 (fR.length:Int)) from Km (q:=1) (l:=fR) FX Me rfl)] <| qc H (fun c8 H=>?_) (fun c8 H=>?_)
 ·refine q1 ?_
  have Rk:Has h24 ((kX,.sl nD.length 1 (af.l nD))::(kr,.mp (uG fR))::(iN,.sl dk.length 1 (af.l dk))::L):=Has.del Me 3
  have TL:Has h24 ((kX,.sl nD.length 1 (af.l nD))::(iN,.sl dk.length 1 (af.l dk))::L):=Has.del Rk 1
  have Rm:Has h24 ((iN,.sl dk.length 1 (af.l dk))::L):=Has.del TL 0
  exact qt <| Or.inr (⟨rfl,_,oi H,cX (.rs iN 0 dk.length 1) h24 (cV (M3 (E:=af) (l:=dk) (q:=0) Rm rfl (fun _=>rfl)))⟩)
 ·refine qk <| qr [.v 2 (show sv Try.prog h24 113 (.mp kr)=some (.int .i64 (fR.length:Int)) from Km (q:=1) (l:=fR) FX Me rfl)] ?_
  have Rn:Has h24 ((kX,.sl nD.length 1 (af.l nD))::(kr,.mp (uG fR))::(aH,.ob [ai.fz aN])::L):=Has.del Me 2
  have Ro:Has h24 ((kX,.sl nD.length 1 (af.l nD))::(aH,.ob [ai.fz aN])::L):=Has.del Rn 1
  exact⟨(nD,i64.wrap ((fR.length:Int) - (1:Int))),⟨.any,.any,.any,.any,.any,kX,h24,by kernel_rfl,Ro⟩,H⟩
theorem pV {aW:FuncId→bY}(ha:aW 72=pU)(zb:NA cf m)(Rp:TG cf m)(Rq:Tw cf m)(aN:List aj)(h:AHeap)(L:Mem)  (o:Has h (L)){out:(List Int)}(H:ay.f m aN=some out) :
  ∃r h',bb Try.prog aW cf m 72 [ai.fz aN] h=some (r,h')∧fj h' r (af.fz out):=by
 refine ar (fn:=Try.f72) ha Try.func72 (by kernel_rfl) (by kernel_rfl) ?_
 refine aG (Q:=fun s=>ay.fin L out s) (fun _ _ h=>h) ?_
 have H:_=some out:=H
 unfold ay.f at H
 show dy _ cf pU m _ ⟨ai.fz aN::PM [],[none],h⟩ _
 refine qq ?_
 obtain⟨aH,h0,e0,o0⟩:=gL (cs:=[ai.fz aN]) o (by kernel_rfl)
 refine qr [.a 0 e0] <| qq ?_
 obtain⟨x0,e1,H⟩:=bj H
 obtain⟨ck,h1,e2,o1⟩:=wO (P:=Try.prog) (E:=af) (z:=(0:Int)) (zv:=.int .i64 (0:Int)) gg o0 3 rfl rfl rfl rfl e1
 refine qr [.v 0 (show bC Try.prog h0 40 (.ptr aH 0)=some (ai.fz aN) from cj (q:=0) (cs:=[ai.fz aN]) o0 rfl (by kernel_rfl)),.a 2 e2] <| qq <| qq <| q0 <| qb 0 ?_
 obtain⟨bQ,e5,H⟩:=bj H
 refine ql (ay.cO L aN aH x0   (x0,(0:Int)) _ _ ⟨ck,h1,by kernel_rfl,o1⟩ e5) ?_
 rintro e s ⟨rfl,cd,x2,rfl,g0,g1,g2,dP,h4,rfl,o4⟩
 try dsimp only at H
 refine qq ?_
 obtain⟨x3,e6,H⟩:=bj H
 obtain⟨h5,e7,o5⟩:=Rp _ _ _ e6 h4 _ _ _ (o4) 84 [.ptr aH 0] [.fp [ai.fz aN] 0] rfl (fun h' tH y0 y1 r hr hx=>Rq y0 y1 _ r hr h' tH hx) (fun h' K' o'=>iX (ah (dV (q:=(K'.length+0)) o' (jH rfl) (ah (dW (E:=ai)) (aw))) (aw))) (fun h_=>iX (ah (fh (pure_cons (bK.bo (E:=ai) (l:=aN)) (pure_nil))) (aw))) [.rs dP 0 cd.length 1,.fn 84 [.ptr aH 0]] (au (rfl) (au (rfl) (bN)))
 refine qr [.a 2 e7] <| qq ?_
 obtain⟨x4,e8,H⟩:=bj H
 obtain⟨dQ,h6,e9,o6⟩:=wO (P:=Try.prog) (E:=af) (z:=(0:Int)) (zv:=.int .i64 (0:Int)) gg o5 3 rfl rfl rfl rfl e8
 refine qr [.v 0 (show bC Try.prog h5 40 (.ptr aH 0)=some (ai.fz aN) from cj (q:=1) (cs:=[ai.fz aN]) o5 rfl (by kernel_rfl)),.a 2 e9] <| qq <| q0 <| qq <| qq <| q0 <| qb 2 ?_
 obtain⟨yU,HA,H⟩:=bj H
 refine ql (ay.ko L aN aH dP cd dP x3  zb (x4,(0:Int),(0:Int)) _ _ ⟨dQ,h6,(YY (b:=⟨.any :: .ptr aH 0 :: .any :: .rs dP 0 cd.length 1 :: .any :: .rs dQ 0 x4.length 1 :: .int .i64 (0:Int)::rK (.rs dP 0 cd.length 1 :: .int .i64 (cd.length:Int) :: .int .i64 (0:Int)::uH []),[none],h6⟩) (by kernel_rfl) (by simp only [XV])),(by have o:Has h6 ((dQ,.sl x4.length 1 (af.l x4))::(dP,.sl cd.length 1 (af.l x3))::(aH,.ob [ai.fz aN])::L):=o6; simpa only [XV] using o)⟩ HA) ?_
 rintro e s ⟨rfl,km,many1,x7,rfl,g3,g4,g5,g6,g7,ju,h11,rfl,xf⟩
 try dsimp only at H
 refine qb 4 ?_
 have za:Has h11 ((ju,.sl km.length 1 (af.l km))::(aH,.ob [ai.fz aN])::L):=Has.del xf 1
 obtain⟨NK,VE,H⟩:=bj H
 refine ql (ay.pP L aN aH   (km,many1) _ _ ⟨g3,g4,g5,g6,g7,ju,h11,by kernel_rfl,za⟩ VE) ?_
 rintro e s (⟨rfl,QZ,NL,rfl,g21,g22,g23,g24,Xr,Xs,Xt,Xu,nz,h25,rfl,VF⟩| ⟨rfl,r3,rfl,uL⟩)
 ·try dsimp only at H
  cases H
 ·try dsimp only at H
  obtain rfl:=oi H
  exact⟨.inl rfl,uL⟩
end
end Go.Proofs.Ytifafejidnjckaa
namespace Go.Proofs.Ytifafejidnjckaa
open Go Go.R
open Go.IntKind (i64 u64 u8 u32)
end Go.Proofs.Ytifafejidnjckaa
namespace Go.Proofs.Ytifafejidnjckaa
open Go Go.R
open Go.IntKind (i64 u64 u8 u32)
def CM:bY:=gK [0,1,2,3,4,5,6] [2,4000005] [121,113,97,65,1,25,91,123] [] [(0,[(2,some 0,4)])]
def dw.f (m:Nat)(t0:bc):Option (bc):=(ay.f m t0.nodes).bind fun x0=>(bf.f m m t0.root ([]:List (Int × Int)) x0 (bc.mk ([]:List aj) (0:Int)) t0).bind fun x1=>some x1.2.2
def dw.fin (L:Mem)  (r:bc)(s:St):Prop:=∃(dh:Nat) (dY:List Nat),aM Try.prog (s.open CM) Try.f46.results.toList=some (.agg [.rs dh 0 r.nodes.length 4,.int .i64 r.root])∧Has s.h ((dh,.sl r.nodes.length 4 (dH.l (ba r.nodes dY)))::(eQ r.nodes dY++L))
def Rr (cf:CallF)(m:Nat):Prop:=∀(t0:bc) (r:bc),dw.f m t0=some r→∀h L xs,Has h L→aQ bJ h xs [.agg [ai.fz t0.nodes,.int .i64 t0.root]]→∃(dh:Nat) (dY:List Nat) (h':AHeap),cf 46 xs h=some (.agg [.rs dh 0 r.nodes.length 4,.int .i64 r.root],h')∧Has h' ((dh,.sl r.nodes.length 4 (dH.l (ba r.nodes dY)))::(eQ r.nodes dY++L))∧∀j,j<h.next→h.ver j=h'.ver j
section
variable {cf:CallF}{m:Nat}
theorem rX {aW:FuncId→bY}(ha:aW 46=CM)(Rs:TH cf m)(F6:OB cf m m)(t0:bc)(h:AHeap)(L:Mem)  (o:Has h (L)){out:bc}(H:dw.f m t0=some out) :
  ∃r h',bb Try.prog aW cf m 46 [.agg [ai.fz t0.nodes,.int .i64 t0.root]] h=some (r,h')∧∃(dh:Nat) (dY:List Nat),r = .agg [.rs dh 0 out.nodes.length 4,.int .i64 out.root]∧Has h' ((dh,.sl out.nodes.length 4 (dH.l (ba out.nodes dY)))::(eQ out.nodes dY++L)):=by
 refine ar (fn:=Try.f46) ha Try.func46 (by kernel_rfl) (by kernel_rfl) ?_
 refine aG (Q:=fun s=>dw.fin L out s) (fun _ _ ⟨h1,dh,dY,h2,h3⟩=>⟨h1,_,h2,dh,dY,rfl,h3⟩) ?_
 have H:_=some out:=H
 unfold dw.f at H
 show dy _ cf CM m _ ⟨.agg [ai.fz t0.nodes,.int .i64 t0.root]::xH [],[none,none],h⟩ _
 refine qq ?_
 obtain⟨aH,h0,e0,o0⟩:=gL (cs:=[ai.fz t0.nodes,.int .i64 t0.root]) o (by kernel_rfl)
 refine qr [.a 0 e0] ?_
 have o1:Has h0 (((0),.sl (([]:List aj).length) 4 (dH.l (ba ([]:List aj) ([]:List Nat))))::(aH,.ob [ai.fz t0.nodes,.int .i64 t0.root])::L):=Has.nil o0 4
 refine qq ?_
 obtain⟨x0,e1,H⟩:=bj H
 obtain⟨ck,h1,e2,o2⟩:=gL (cs:=[.nils]) o1 (by kernel_rfl)
 obtain⟨h2,e3,o3⟩:=ov (P:=Try.prog) (t:=33) (off:=0) (q:=0) (cs:=[.nils]) (fI:=[af.fz x0]) (x:=af.fz x0) o2 rfl (by kernel_rfl)
 refine qr [.v 1 (show bC Try.prog h0 40 (.ptr aH 0)=some (ai.fz t0.nodes) from cj (q:=1) (cs:=[ai.fz t0.nodes,.int .i64 t0.root]) o1 rfl (by kernel_rfl)),.a 2 (Rs _ _ e1 h0 _ (fq (ah (dW (E:=ai)) (aw)))),.a 3 e2,.w 4 e3] <| qq ?_
 obtain⟨dX,h3,e4,o4⟩:=wS o3
 obtain⟨dP,h4,e5,o5⟩:=gL (cs:=[.mC]) o4 (by kernel_rfl)
 obtain⟨h5,e6,o6⟩:=ov (P:=Try.prog) (t:=82) (off:=0) (q:=0) (cs:=[.mC]) (fI:=[.mp dX]) (x:=.mp dX) o5 rfl (by kernel_rfl)
 refine qr [.m 0 e4,.a 1 e5,.w 2 e6] <| qq ?_
 have o7:Has h5 ((((0)),.sl (([]:List aj).length) 4 (ai.l ([]:List aj)))::(dP,.ob [.mp dX])::(dX,.mp (lL ([]:List (Int × Int))))::(ck,.ob [af.fz x0])::((0),.sl (([]:List aj).length) 4 (dH.l (ba ([]:List aj) ([]:List Nat))))::(aH,.ob [ai.fz t0.nodes,.int .i64 t0.root])::L):=Has.nil o6 4
 obtain⟨dQ,h6,e7,o8⟩:=gL (cs:=[.rs ((0)) 0 (([]:List aj).length) 4,.int .i64 (0:Int)]) o7 (by kernel_rfl)
 refine qr [.a 0 e7] <| qq ?_
 obtain⟨eZ,h7,e8,o9⟩:=gL (cs:=[.oZ]) o8 (by kernel_rfl)
 refine qr [.a 0 e8] <| qq ?_
 obtain⟨h8,e9,xa⟩:=ov (P:=Try.prog) (t:=80) (off:=0) (q:=0) (cs:=[.oZ]) (fI:=[.fn 73 [.ptr dP 0,.ptr ck 0,.ptr dQ 0,.ptr aH 0,.ptr eZ 0]]) (x:=.fn 73 [.ptr dP 0,.ptr ck 0,.ptr dQ 0,.ptr aH 0,.ptr eZ 0]) o9 rfl (by kernel_rfl)
 refine qr [.w 1 e9] <| qq ?_
 obtain⟨x1,rv,H⟩:=bj H
 obtain⟨ju,dY,h9,uv,xf⟩:=F6 _ _ _ _ _ _ rv h8 _ _ _ _ _ _ ([]:List Nat) _ _ ((Has.front (Has.front (Has.front (Has.front (Has.front (Has.front (Has.front (Has.front xa 6 rfl) 1 rfl) 7 rfl) 4 rfl) 4 rfl) 7 rfl) 7 rfl) 7 rfl))  [.int .i64 t0.root,.ptr dP 0,.ptr ck 0,.ptr dQ 0,.ptr aH 0,.ptr eZ 0] (au (aP (bu)) (au (rfl) (au (rfl) (au (rfl) (au (rfl) (au (rfl) (bN)))))))
 have za:=Has.lA (pre:=[(dP,.ob [.mp dX]),(dX,.mp (lL x1.2.1)),(ck,.ob [af.fz x0]),(dQ,.ob [.rs ju 0 x1.2.2.nodes.length 4,.int .i64 x1.2.2.root]),(ju,.sl x1.2.2.nodes.length 4 (dH.l (ba x1.2.2.nodes dY))),(aH,.ob [ai.fz t0.nodes,.int .i64 t0.root]),(eZ,.ob [.fn 73 [.ptr dP 0,.ptr ck 0,.ptr dQ 0,.ptr aH 0,.ptr eZ 0]])]) (N:=[((0),.sl (([]:List aj).length) 4 (dH.l (ba ([]:List aj) ([]:List Nat))))]) (mid:=eQ x1.2.2.nodes dY) xf
 refine qr [.v 0 (show bC Try.prog h8 80 (.ptr eZ 0)=some (.fn 73 [.ptr dP 0,.ptr ck 0,.ptr dQ 0,.ptr aH 0,.ptr eZ 0]) from cj (q:=0) (cs:=[.fn 73 [.ptr dP 0,.ptr ck 0,.ptr dQ 0,.ptr aH 0,.ptr eZ 0]]) xa rfl (by kernel_rfl)),.v 2 (show bC Try.prog h8 3 (.ptr aH 1)=some (.int .i64 t0.root) from cj (q:=7) (cs:=[ai.fz t0.nodes,.int .i64 t0.root]) xa rfl (by kernel_rfl)),.a 3 uv] ?_
 have uO:Has h9 ((dP,.ob [.mp dX])::(dX,.mp (lL x1.2.1))::(ck,.ob [af.fz x0])::(dQ,.ob [.rs ju 0 x1.2.2.nodes.length 4,.int .i64 x1.2.2.root])::(ju,.sl x1.2.2.nodes.length 4 (dH.l (ba x1.2.2.nodes dY)))::(aH,.ob [ai.fz t0.nodes,.int .i64 t0.root])::((0),.sl (([]:List aj).length) 4 (dH.l (ba ([]:List aj) ([]:List Nat))))::(eQ x1.2.2.nodes dY++L)):=Has.del za 6
 have tL:Has h9 ((dP,.ob [.mp dX])::(dX,.mp (lL x1.2.1))::(ck,.ob [af.fz x0])::(dQ,.ob [.rs ju 0 x1.2.2.nodes.length 4,.int .i64 x1.2.2.root])::(ju,.sl x1.2.2.nodes.length 4 (dH.l (ba x1.2.2.nodes dY)))::((0),.sl (([]:List aj).length) 4 (dH.l (ba ([]:List aj) ([]:List Nat))))::(eQ x1.2.2.nodes dY++L)):=Has.del uO 5
 have D8:Has h9 ((dP,.ob [.mp dX])::(dX,.mp (lL x1.2.1))::(dQ,.ob [.rs ju 0 x1.2.2.nodes.length 4,.int .i64 x1.2.2.root])::(ju,.sl x1.2.2.nodes.length 4 (dH.l (ba x1.2.2.nodes dY)))::((0),.sl (([]:List aj).length) 4 (dH.l (ba ([]:List aj) ([]:List Nat))))::(eQ x1.2.2.nodes dY++L)):=Has.del tL 2
 have xJ:Has h9 ((dP,.ob [.mp dX])::(dQ,.ob [.rs ju 0 x1.2.2.nodes.length 4,.int .i64 x1.2.2.root])::(ju,.sl x1.2.2.nodes.length 4 (dH.l (ba x1.2.2.nodes dY)))::((0),.sl (([]:List aj).length) 4 (dH.l (ba ([]:List aj) ([]:List Nat))))::(eQ x1.2.2.nodes dY++L)):=Has.del D8 1
 have vA:Has h9 ((dQ,.ob [.rs ju 0 x1.2.2.nodes.length 4,.int .i64 x1.2.2.root])::(ju,.sl x1.2.2.nodes.length 4 (dH.l (ba x1.2.2.nodes dY)))::((0),.sl (([]:List aj).length) 4 (dH.l (ba ([]:List aj) ([]:List Nat))))::(eQ x1.2.2.nodes dY++L)):=Has.del xJ 0
 refine qs [.v 0 (show bC Try.prog h9 42 (.ptr dQ 0)=some (.agg [.rs ju 0 x1.2.2.nodes.length 4,.int .i64 x1.2.2.root]) from cj (q:=0) (cs:=[.rs ju 0 x1.2.2.nodes.length 4,.int .i64 x1.2.2.root]) vA rfl (by kernel_rfl))] ?_
 have Cw:Has h9 ((dQ,.ob [.rs ju 0 x1.2.2.nodes.length 4,.int .i64 x1.2.2.root])::(ju,.sl x1.2.2.nodes.length 4 (dH.l (ba x1.2.2.nodes dY)))::(eQ x1.2.2.nodes dY++L)):=Has.del vA 2
 have AR:Has h9 ((ju,.sl x1.2.2.nodes.length 4 (dH.l (ba x1.2.2.nodes dY)))::(eQ x1.2.2.nodes dY++L)):=Has.del Cw 0
 obtain rfl:=oi H
 exact qt <| ⟨.inl rfl,⟨ju,dY,by kernel_rfl,he AR⟩⟩
end
end Go.Proofs.Ytifafejidnjckaa
namespace Go.Proofs.Ytifafejidnjckaa
open Go Go.R
open Go.IntKind (i64 u64 u8 u32)
def CN:bY:=gK [0,1,2,3,6] [1,2] [25,9,19,19] [] [(0,[(2,some 0,4)]),(2,[(2,some 0,4)])]
def fy.f (m:Nat)(t0:bc):Option (bc × Int):=(fO.f m t0).bind fun x0=>if (!x0)=true then (some ((bc.mk ([]:List aj) (0:Int)),(2:Int))) else ((dw.f m t0).bind fun x1=>some (x1,(0:Int)))
def fy.fin (L:Mem)  (r:bc × Int)(s:St):Prop:=∃(dh:Nat) (dY:List Nat),aM Try.prog (s.open CN) Try.f43.results.toList=some (.tup [.agg [.rs dh 0 r.1.nodes.length 4,.int .i64 r.1.root],.int .i64 r.2])∧Has s.h ((dh,.sl r.1.nodes.length 4 (dH.l (ba r.1.nodes dY)))::(eQ r.1.nodes dY++L))
def Rt (cf:CallF)(m:Nat):Prop:=∀(t0:bc) (r:bc × Int),fy.f m t0=some r→∀h L xs,Has h L→aQ bJ h xs [.agg [ai.fz t0.nodes,.int .i64 t0.root]]→∃(dh:Nat) (dY:List Nat) (h':AHeap),cf 43 xs h=some (.tup [.agg [.rs dh 0 r.1.nodes.length 4,.int .i64 r.1.root],.int .i64 r.2],h')∧Has h' ((dh,.sl r.1.nodes.length 4 (dH.l (ba r.1.nodes dY)))::(eQ r.1.nodes dY++L))∧∀j,j<h.next→h.ver j=h'.ver j
section
variable {cf:CallF}{m:Nat}
theorem rY {aW:FuncId→bY}(ha:aW 43=CN)(Gp:QS cf m)(IB:Rr cf m)(t0:bc)(h:AHeap)(L:Mem)  (o:Has h (L)){out:bc × Int}(H:fy.f m t0=some out) :
  ∃r h',bb Try.prog aW cf m 43 [.agg [ai.fz t0.nodes,.int .i64 t0.root]] h=some (r,h')∧∃(dh:Nat) (dY:List Nat),r = .tup [.agg [.rs dh 0 out.1.nodes.length 4,.int .i64 out.1.root],.int .i64 out.2]∧Has h' ((dh,.sl out.1.nodes.length 4 (dH.l (ba out.1.nodes dY)))::(eQ out.1.nodes dY++L)):=by
 refine ar (fn:=Try.f43) ha Try.func43 (by kernel_rfl) (by kernel_rfl) ?_
 refine aG (Q:=fun s=>fy.fin L out s) (fun _ _ ⟨h1,dh,dY,h2,h3⟩=>⟨h1,_,h2,dh,dY,rfl,h3⟩) ?_
 have H:_=some out:=H
 unfold fy.f at H
 show dy _ cf CN m _ ⟨.agg [ai.fz t0.nodes,.int .i64 t0.root]::nZ [],[none,none],h⟩ _
 refine q1 ?_
 have o0:Has h (((0),.sl (([]:List aj).length) 4 (dH.l (ba ([]:List aj) ([]:List Nat))))::L):=Has.nil o 4
 refine qq <| qq ?_
 obtain⟨x0,e0,H⟩:=bj H
 refine qr [.a 1 (Gp _ _ e0 h _ (fq (ah (eh (ah (dW (E:=ai)) (ah (aT) (aw)))) (aw))))] <| qc H (fun c0 H=>?_) (fun c0 H=>?_)
 ·refine q1 ?_
  have o1:Has h ((((0)),.sl (([]:List aj).length) 4 (dH.l (ba ([]:List aj) ([]:List Nat))))::((0),.sl (([]:List aj).length) 4 (dH.l (ba ([]:List aj) ([]:List Nat))))::L):=Has.nil o0 4
  have o2:Has h ((((0)),.sl (([]:List aj).length) 4 (dH.l (ba ([]:List aj) ([]:List Nat))))::L):=Has.del o1 1
  obtain rfl:=oi H
  exact qt <| ⟨.inl rfl,⟨((0)),([]:List Nat),by kernel_rfl,he o2⟩⟩
 ·refine qk <| qq ?_
  obtain⟨x1,e1,H⟩:=bj H
  obtain⟨aH,b6,h0,e2,o3,ES⟩:=IB _ _ e1 h _ _ o0 (fq (ah (eh (ah (dW (E:=ai)) (ah (aT) (aw)))) (aw)))
  have o4:=Has.lA (pre:=[(aH,.sl x1.nodes.length 4 (dH.l (ba x1.nodes b6)))]) (N:=[((0),.sl (([]:List aj).length) 4 (dH.l (ba ([]:List aj) ([]:List Nat))))]) (mid:=eQ x1.nodes b6) o3
  refine qr [.a 1 e2] ?_
  have o5:Has h0 ((aH,.sl x1.nodes.length 4 (dH.l (ba x1.nodes b6)))::(eQ x1.nodes b6++L)):=Has.del o4 1
  obtain rfl:=oi H
  exact qt <| ⟨.inl rfl,⟨aH,b6,by kernel_rfl,he o5⟩⟩
end
end Go.Proofs.Ytifafejidnjckaa
namespace Go.Proofs.Ytifafejidnjckaa
open Go Go.R
open Go.IntKind (i64 u64 u8 u32)
def tS:bY:=gK [0,1,4,5,6,7,8,9,10,11,13,14,15,16,22,29,30,31,32,40,41,42,43,50,51,52,53] [4,11,14] [134217720,134217704,134201320,134217715,134217690,134217626,133988250,133726106,133987866,133988250,133988250,134217114,130547130,126352826,130546106,130545082,71824826,4715962,71812538,71824826,71824826,130547130,130547130,134217715] [(21,[(14,some 3,0)])] [(0,[(4,some 0,4)]),(3,[(4,some 0,4)]),(11,[(11,some 0,4)]),(15,[(14,some 3,1)])]
def az.l0 (m:Nat)(x1:(List Int)):Nat→(List (Int × Int))→Int→Option ((List (Int × Int)) × Int)
 | 0,_,_=>none
 | k+1,jJ,x2=>if (decide (x2<(x1.length:Int)))=true then ((ix x1 x2).bind fun v0=>az.l0 m x1 k (xG jJ v0 x2) (i64.wrap (x2+(1:Int)))) else (some ((jJ,x2)))
def az.l2 (m:Nat)(dM:List (Int × Int))(x5:aj):Nat→(List Int)→Int→Option ((List Int) × Int)
 | 0,_,_=>none
 | k+1,x6,x7=>if (decide (x7<(x5.args.length:Int)))=true then ((ix x6 x7).bind fun v2=>(ix x6 x7).bind fun v3=>az.l2 m dM x5 k (x6.set x7.toNat ((mz dM v2).1)) (i64.wrap (x7+(1:Int)))) else (some ((x6,x7)))
def az.l1 (m:Nat)(s0:ab)(x1:(List Int))(dM:List (Int × Int)):Nat→Int→(List aj)→Int→Option (Int × (List aj) × Int)
 | 0,_,_,_=>none
 | k+1,x4,t0,t1=>if (decide (x4<(x1.length:Int)))=true then ((ix x1 x4).bind fun v1=>(bg.f m s0 v1).bind fun x5=>(az.l2 m dM x5 m x5.args (0:Int)).bind fun cw=>match cw with | (x8,x9)=>(app 56 t0 ([(aj.mk x5.kind x5.int x5.label x8)])).bind fun kz=>az.l1 m s0 x1 dM k (i64.wrap (x4+(1:Int))) kz t1) else (some ((x4,t0,t1)))
def az.f (m:Nat)(s0:ab)(n0:Int):Option (bc × Int):=(bT.f m s0 ([n0])).bind fun x0=>if (!(x0==(0:Int)))=true then (some ((bc.mk ([]:List aj) (0:Int)),x0)) else ((aK.f m s0 n0).bind fun x1=>(az.l0 m x1 m ([]:List (Int × Int)) (0:Int)).bind fun bQ=>match bQ with | (dM,x3)=>(az.l1 m s0 x1 dM m (0:Int) ([]:List aj) (0:Int)).bind fun km=>match km with | (zN,t2,t3)=>(fy.f m (bc.mk t2 t3)).bind fun n5=>some (n5.1,n5.2))
def az.fin (L:Mem)  (r:bc × Int)(s:St):Prop:=∃(dh:Nat) (dY:List Nat),aM Try.prog (s.open tS) Try.f21.results.toList=some (.tup [.agg [.rs dh 0 r.1.nodes.length 4,.int .i64 r.1.root],.int .i64 r.2])∧Has s.h ((dh,.sl r.1.nodes.length 4 (dH.l (ba r.1.nodes dY)))::(eQ r.1.nodes dY++L))
def TM (cf:CallF)(m:Nat):Prop:=∀(s0:ab) (n0:Int) (r:bc × Int),az.f m s0 n0=some r→∀h L xs,Has h L→aQ bJ h xs [.fp [.bool s0.ak,ai.fz s0.aa,af.fz s0.ae] 0,.int .i64 n0]→∃(dh:Nat) (dY:List Nat) (h':AHeap),cf 21 xs h=some (.tup [.agg [.rs dh 0 r.1.nodes.length 4,.int .i64 r.1.root],.int .i64 r.2],h')∧Has h' ((dh,.sl r.1.nodes.length 4 (dH.l (ba r.1.nodes dY)))::(eQ r.1.nodes dY++L))∧∀j,j<h.next→h.ver j=h'.ver j
section
variable {cf:CallF}{m:Nat}
theorem az.cO (L:Mem)(s0:ab)(x1:(List Int))(aH:Nat)(ck:Nat)   : dF Try.prog cf tS m (sub [1,1,1,1,0,1,0,0] (bW Try.f21)) (fun k (σ:(List (Int × Int)) × Int)=>az.l0 m x1 k σ.1 σ.2) (fun σ s=>match σ with | (jJ,x2)=>∃h2,s=⟨.fp [.bool s0.ak,ai.fz s0.aa,af.fz s0.ae] 0 :: .any :: .lp 4 0 :: .any :: .any :: .rs aH 0 x1.length 1 :: .mp ck::vj (.rs aH 0 x1.length 1 :: .int .i64 (x1.length:Int) :: .int .i64 x2::Oz []),[some [.rs (0) 0 (([]:List aj).length) 4,.int .i64 (0:Int)],none,none],h2⟩∧Has h2 ((ck,.mp (lL jJ))::(aH,.sl x1.length 1 (af.l x1))::((0),.sl (([]:List aj).length) 4 (dH.l (ba ([]:List aj) ([]:List Nat))))::L)) (fun out e s=>(e = .exit 0∧∃jJ x2,(jJ,x2)=out∧∃KT Gd KU Ru h2,s=⟨.fp [.bool s0.ak,ai.fz s0.aa,af.fz s0.ae] 0 :: .any :: .lp 4 0 :: .any :: .any :: .rs aH 0 x1.length 1 :: .mp ck::vj (KT::Gd::KU::Ru::vj []),[some [.rs (0) 0 (([]:List aj).length) 4,.int .i64 (0:Int)],none,none],h2⟩∧Has h2 ((ck,.mp (lL jJ))::(aH,.sl x1.length 1 (af.l x1))::((0),.sl (([]:List aj).length) 4 (dH.l (ba ([]:List aj) ([]:List Nat))))::L))):=by
 refine k8 (fun _=>rfl) ?_
 rintro k ⟨jJ,x2⟩ s out ⟨h2,rfl,o5⟩ H
 have H:az.l0 m x1 (k+1) jJ x2=some out:=H
 refine q1 <| qq <| qc H (fun c1 H=>?_) (fun c1 H=>?_)
 ·refine qk <| qq <| qb 1 <| qq ?_
  obtain⟨v0,e4,H⟩:=bj H
  refine qr [.v 1 (bm (k:=.i64) (E:=af) (l:=x1) (q:=1) gg o5 rfl e4),.v 2 (cM  (E:=af) (l:=x1) (q:=1) o5 rfl A3 e4 rfl)] ?_
  obtain⟨h3,e5,o6⟩:=Na (q:=0) (l:=jJ) (k:=v0) (v:=x2) Iu o5 rfl
  exact qr [.w 3 e5] <| q0 <| ⟨(xG jJ v0 x2,i64.wrap (x2+(1:Int))),⟨h3,by kernel_rfl,o6⟩,H⟩
 ·exact qx 0 <| ⟨rfl,jJ,x2,oi H,.rs aH 0 x1.length 1,.int .i64 (x1.length:Int),.int .i64 x2,.bool (decide (x2<(x1.length:Int))),h2,by kernel_rfl,o5⟩
theorem az.pP (L:Mem)(s0:ab)(x1:(List Int))(aH:Nat)(ck:Nat)(dM:List (Int × Int))(dX:Nat)(x4:Int)(t0:List aj)(t1:Int)(dX:Nat)(x5:aj)   : dF Try.prog cf tS m (sub [1,1,1,1,1,1,0,1,0,0,1,1,0,0,1,1,0,1,0,0] (bW Try.f21)) (fun k (σ:(List Int) × Int)=>az.l2 m dM x5 k σ.1 σ.2) (fun σ s=>match σ with | (x6,x7)=>∃dQ h7,s=⟨.fp [.bool s0.ak,ai.fz s0.aa,af.fz s0.ae] 0 :: .any :: .lp 4 0::nS (.mp ck :: .any :: .any :: .lp 11 0 :: .any :: .lp 14 0::FE [.rs aH 0 x1.length 1,.int .i64 (x1.length:Int),.int .i64 x4,.any,.rs dQ 0 x6.length 1,.int .i64 (x5.args.length:Int),.int .i64 x7,.any]),[some [.rs (0) 0 (([]:List aj).length) 4,.int .i64 (0:Int)],some [.rs dX 0 t0.length 4,.int .i64 t1],some [.int .i64 x5.kind,.int .i64 x5.int,.str x5.label,.rs dQ 0 x6.length 1]],h7⟩∧Has h7 ((dQ,.sl x6.length 1 (af.l x6))::(dX,.sl t0.length 4 (ai.l t0))::(ck,.mp (lL dM))::(aH,.sl x1.length 1 (af.l x1))::((0),.sl (([]:List aj).length) 4 (dH.l (ba ([]:List aj) ([]:List Nat))))::L)) (fun out e s=>(e = .exit 4∧∃x6 x7,(x6,x7)=out∧∃Rv Gq Gr AJ dQ h7,s=⟨.fp [.bool s0.ak,ai.fz s0.aa,af.fz s0.ae] 0 :: .any :: .lp 4 0::nS (.mp ck :: .any :: .any :: .lp 11 0 :: .any :: .lp 14 0::FE [.rs aH 0 x1.length 1,.int .i64 (x1.length:Int),.int .i64 x4,.any,Rv,Gq,Gr,AJ]),[some [.rs (0) 0 (([]:List aj).length) 4,.int .i64 (0:Int)],some [.rs dX 0 t0.length 4,.int .i64 t1],some [.int .i64 x5.kind,.int .i64 x5.int,.str x5.label,.rs dQ 0 x6.length 1]],h7⟩∧Has h7 ((dQ,.sl x6.length 1 (af.l x6))::(dX,.sl t0.length 4 (ai.l t0))::(ck,.mp (lL dM))::(aH,.sl x1.length 1 (af.l x1))::((0),.sl (([]:List aj).length) 4 (dH.l (ba ([]:List aj) ([]:List Nat))))::L))):=by
 refine k8 (fun _=>rfl) ?_
 rintro k ⟨x6,x7⟩ s out ⟨dQ,h7,rfl,xf⟩ H
 have H:az.l2 m dM x5 (k+1) x6 x7=some out:=H
 refine q1 <| qq <| qc H (fun c3 H=>?_) (fun c3 H=>?_)
 ·refine qk <| qq <| qb 5 <| qq ?_
  obtain⟨v2,rv,H⟩:=bj H
  refine qr [.v 1 (bm (k:=.i64) (E:=af) (l:=x6) (q:=0) gg xf rfl rv),.v 2 (cM  (E:=af) (l:=x6) (q:=0) xf rfl A3 rv rfl)] ?_
  obtain⟨v3,uv,H⟩:=bj H
  obtain⟨h8,w7,za⟩:=fG (P:=Try.prog) (tf:=3) (E:=af) (l:=x6) (q:=0) (v:=((mz dM v2).1)) (x:=.int .i64 ((mz dM v2).1)) xf rfl Z3 uv rfl rfl
  exact qr [.v 5 (show eR Try.prog h7 82 (.mp ck) (.int .i64 v2) false=some (.int .i64 ((mz dM v2).1)) from (M9 (q:=2) (l:=dM) (k:=v2) Iu xf rfl).2),.v 6 (bm (k:=.i64) (E:=af) (l:=x6) (q:=0) gg xf rfl uv),.w 7 w7] <| q0 <| ⟨(x6.set x7.toNat ((mz dM v2).1),i64.wrap (x7+(1:Int))),⟨dQ,h8,(YY (b:=⟨.fp [.bool s0.ak,ai.fz s0.aa,af.fz s0.ae] 0 :: .any :: .lp 4 0::nS (.mp ck :: .any :: .any :: .lp 11 0 :: .any :: .lp 14 0::FE [.rs aH 0 x1.length 1,.int .i64 (x1.length:Int),.int .i64 x4,.any,.rs dQ 0 x6.length 1,.int .i64 (x5.args.length:Int),.int .i64 (i64.wrap (x7+(1:Int))),.any]),[some [.rs (0) 0 (([]:List aj).length) 4,.int .i64 (0:Int)],some [.rs dX 0 t0.length 4,.int .i64 t1],some [.int .i64 x5.kind,.int .i64 x5.int,.str x5.label,.rs dQ 0 x6.length 1]],h8⟩) (by kernel_rfl) (by simp only [XV])),(by have o:Has h8 ((dQ,.sl x6.length 1 (af.l (x6.set x7.toNat ((mz dM v2).1))))::(dX,.sl t0.length 4 (ai.l t0))::(ck,.mp (lL dM))::(aH,.sl x1.length 1 (af.l x1))::((0),.sl (([]:List aj).length) 4 (dH.l (ba ([]:List aj) ([]:List Nat))))::L):=za; simpa only [XV] using o)⟩,H⟩
 ·exact qx 4 <| ⟨rfl,x6,x7,oi H,.rs dQ 0 x6.length 1,.int .i64 (x5.args.length:Int),.int .i64 x7,.bool (decide (x7<(x5.args.length:Int))),dQ,h7,by kernel_rfl,xf⟩
theorem az.ko (L:Mem)(s0:ab)(x1:(List Int))(aH:Nat)(ck:Nat)(dM:List (Int × Int))  (Gl:OC cf m):dF Try.prog cf tS m (sub [1,1,1,1,1,1,0,1,0,0] (bW Try.f21)) (fun k (σ:Int × (List aj) × Int)=>az.l1 m s0 x1 dM k σ.1 σ.2.1 σ.2.2) (fun σ s=>match σ with | (x4,t0,t1)=>∃dX h5,s=⟨.fp [.bool s0.ak,ai.fz s0.aa,af.fz s0.ae] 0 :: .any :: .lp 4 0::nS (.mp ck :: .any :: .any :: .lp 11 0::Oz (.rs aH 0 x1.length 1 :: .int .i64 (x1.length:Int) :: .int .i64 x4::Aw [])),[some [.rs (0) 0 (([]:List aj).length) 4,.int .i64 (0:Int)],some [.rs dX 0 t0.length 4,.int .i64 t1],none],h5⟩∧Has h5 ((dX,.sl t0.length 4 (ai.l t0))::(ck,.mp (lL dM))::(aH,.sl x1.length 1 (af.l x1))::((0),.sl (([]:List aj).length) 4 (dH.l (ba ([]:List aj) ([]:List Nat))))::L)) (fun out e s=>(e = .exit 2∧∃x4 t0 t1,(x4,t0,t1)=out∧∃nr AF Gn Rw Rx Ry dX h5,s=⟨nr :: .any :: .lp 4 0::nS (AF :: .any :: .any :: .lp 11 0::Oz (Gn::Rw::Rx::Ry::nZ [])),[some [.rs (0) 0 (([]:List aj).length) 4,.int .i64 (0:Int)],some [.rs dX 0 t0.length 4,.int .i64 t1],none],h5⟩∧Has h5 ((dX,.sl t0.length 4 (ai.l t0))::(ck,.mp (lL dM))::(aH,.sl x1.length 1 (af.l x1))::((0),.sl (([]:List aj).length) 4 (dH.l (ba ([]:List aj) ([]:List Nat))))::L))):=by
 refine k8 (fun _=>rfl) ?_
 rintro k ⟨x4,t0,t1⟩ s out ⟨dX,h5,rfl,o9⟩ H
 have H:az.l1 m s0 x1 dM (k+1) x4 t0 t1=some out:=H
 refine q1 <| qq <| qc H (fun c2 H=>?_) (fun c2 H=>?_)
 ·refine qk <| qq <| qb 3 <| qq ?_
  obtain⟨v1,e7,H⟩:=bj H
  refine qr [.v 0 (bm (k:=.i64) (E:=af) (l:=x1) (q:=2) gg o9 rfl e7),.v 1 (cM  (E:=af) (l:=x1) (q:=2) o9 rfl A3 e7 rfl)] <| qq ?_
  obtain⟨x5,e8,H⟩:=bj H
  obtain⟨dP,h6,e9,xa,JS⟩:=Gl _ _ _ e8 h5 _ _ o9 (fq (ah (fh (pure_cons (cp) (pure_cons (bK.bo (E:=ai) (l:=s0.aa)) (pure_cons (bK.bo (E:=af) (l:=s0.ae)) (pure_nil))))) (ah (aT) (aw))))
  refine qr [.a 2 e9] <| qq <| qq <| q0 <| qb 4 ?_
  obtain⟨cw,w8,H⟩:=bj H
  refine ql (az.pP L s0 x1 aH ck dM dX x4 t0 t1 dX x5   (x5.args,(0:Int)) _ _ ⟨dP,h6,by kernel_rfl,xa⟩ w8) ?_
  rintro e s ⟨rfl,x8,x9,rfl,g4,g5,g6,g7,eZ,h9,rfl,uO⟩
  try dsimp only at H
  obtain⟨h10,AK,tL⟩:=qy (E:=af) (l:=x8) (q:=0) uO rfl
  obtain⟨kz,zO,H⟩:=bj H
  obtain⟨ju,h11,D5,D8⟩:=iW (P:=Try.prog) (E:=ai) (l:=t0) (q:=0) (t2:=40) (x:=.fz [.int .i64 x5.kind,.int .i64 x5.int,.str x5.label,af.fz x8] 1 true) (l2:=([(aj.mk x5.kind x5.int x5.label x8)])) uK tL rfl (by kernel_rfl) rfl zO
  exact L8 [.a 0 AK] [.a 4 D5] <| q0 <| ⟨(i64.wrap (x4+(1:Int)),kz,t1),⟨ju,h11,by kernel_rfl,D8⟩,H⟩
 ·exact qx 2 <| ⟨rfl,x4,t0,t1,oi H,.fp [.bool s0.ak,ai.fz s0.aa,af.fz s0.ae] 0,.mp ck,.rs aH 0 x1.length 1,.int .i64 (x1.length:Int),.int .i64 x4,.bool (decide (x4<(x1.length:Int))),dX,h5,by kernel_rfl,o9⟩
theorem mP {aW:FuncId→bY}(ha:aW 21=tS)(xg:Mb cf m)(Gl:OC cf m)(Rz:SZ cf m)(Lj:Rt cf m)(s0:ab)(n0:Int)(h:AHeap)(L:Mem)  (o:Has h (L)){out:bc × Int}(H:az.f m s0 n0=some out) :
  ∃r h',bb Try.prog aW cf m 21 [.fp [.bool s0.ak,ai.fz s0.aa,af.fz s0.ae] 0,.int .i64 n0] h=some (r,h')∧∃(dh:Nat) (dY:List Nat),r = .tup [.agg [.rs dh 0 out.1.nodes.length 4,.int .i64 out.1.root],.int .i64 out.2]∧Has h' ((dh,.sl out.1.nodes.length 4 (dH.l (ba out.1.nodes dY)))::(eQ out.1.nodes dY++L)):=by
 refine ar (fn:=Try.f21) ha Try.func21 (by kernel_rfl) (by kernel_rfl) ?_
 refine aG (Q:=fun s=>az.fin L out s) (fun _ _ ⟨h1,dh,dY,h2,h3⟩=>⟨h1,_,h2,dh,dY,rfl,h3⟩) ?_
 have H:_=some out:=H
 unfold az.f at H
 show dy _ cf tS m _ ⟨.fp [.bool s0.ak,ai.fz s0.aa,af.fz s0.ae] 0 :: .int .i64 n0::Nc [],[none,none,none],h⟩ _
 refine q1 ?_
 have o0:Has h (((0),.sl (([]:List aj).length) 4 (dH.l (ba ([]:List aj) ([]:List Nat))))::L):=Has.nil o 4
 refine qq <| qq ?_
 obtain⟨x0,e0,H⟩:=bj H
 refine qr [.a 3 (xg _ _ _ e0 h _ (fq (ah (fh (pure_cons (cp) (pure_cons (bK.bo (E:=ai) (l:=s0.aa)) (pure_cons (bK.bo (E:=af) (l:=s0.ae)) (pure_nil))))) (ah (oL (E:=af) (l:=[n0]) (cs:=[.int .i64 n0]) (b:=true) (by kernel_rfl) (by kernel_rfl) rfl) (aw)))))] <| qq <| q0 <| qc H (fun c0 H=>?_) (fun c0 H=>?_)
 ·refine q1 ?_
  have o1:Has h ((((0)),.sl (([]:List aj).length) 4 (dH.l (ba ([]:List aj) ([]:List Nat))))::((0),.sl (([]:List aj).length) 4 (dH.l (ba ([]:List aj) ([]:List Nat))))::L):=Has.nil o0 4
  have o2:Has h ((((0)),.sl (([]:List aj).length) 4 (dH.l (ba ([]:List aj) ([]:List Nat))))::L):=Has.del o1 1
  obtain rfl:=oi H
  exact qt <| ⟨.inl rfl,⟨((0)),([]:List Nat),by kernel_rfl,he o2⟩⟩
 ·refine qk <| qq ?_
  obtain⟨x1,e1,H⟩:=bj H
  obtain⟨aH,h0,e2,o3,ES⟩:=Rz _ _ _ e1 h _ _ o0 (fq (ah (fh (pure_cons (cp) (pure_cons (bK.bo (E:=ai) (l:=s0.aa)) (pure_cons (bK.bo (E:=af) (l:=s0.ae)) (pure_nil))))) (ah (aT) (aw))))
  refine qr [.a 2 e2] <| qq ?_
  obtain⟨ck,h1,e3,o4⟩:=wS o3
  refine qr [.m 0 e3] <| qq <| qq <| q0 <| qb 0 ?_
  obtain⟨bQ,e6,H⟩:=bj H
  refine ql (az.cO L s0 x1 aH ck   (([]:List (Int × Int)),(0:Int)) _ _ ⟨h1,by kernel_rfl,o4⟩ e6) ?_
  rintro e s ⟨rfl,dM,x3,rfl,g0,g1,g2,g3,h4,rfl,o7⟩
  try dsimp only at H
  refine q1 ?_
  have o8:Has h4 (((((0))),.sl (([]:List aj).length) 4 (ai.l ([]:List aj)))::(ck,.mp (lL dM))::(aH,.sl x1.length 1 (af.l x1))::((0),.sl (([]:List aj).length) 4 (dH.l (ba ([]:List aj) ([]:List Nat))))::L):=Has.nil o7 4
  refine qq <| qq <| q0 <| qb 2 ?_
  obtain⟨km,D6,H⟩:=bj H
  refine ql (az.ko L s0 x1 aH ck dM  Gl ((0:Int),([]:List aj),(0:Int)) _ _ ⟨(((0))),h4,by kernel_rfl,o8⟩ D6) ?_
  rintro e s ⟨rfl,zN,t2,t3,rfl,g8,g9,g10,g11,g12,g13,iN,h12,rfl,xJ⟩
  try dsimp only at H
  refine qq ?_
  obtain⟨n5,Gh,H⟩:=bj H
  obtain⟨kr,ku,h13,D7,vA,HI⟩:=Lj _ _ Gh h12 _ _ xJ (fq (ah (eh (ah (dK (E:=ai) (l:=t2) (q:=0) xJ rfl (fun _=>rfl)) (ah (aT) (aw)))) (aw)))
  have Cw:=Has.lA (pre:=[(kr,.sl n5.1.nodes.length 4 (dH.l (ba n5.1.nodes ku)))]) (N:=[(iN,.sl t2.length 4 (ai.l t2)),(ck,.mp (lL dM)),(aH,.sl x1.length 1 (af.l x1)),((0),.sl (([]:List aj).length) 4 (dH.l (ba ([]:List aj) ([]:List Nat))))]) (mid:=eQ n5.1.nodes ku) vA
  refine qr [.a 1 D7] ?_
  have AR:Has h13 ((kr,.sl n5.1.nodes.length 4 (dH.l (ba n5.1.nodes ku)))::(iN,.sl t2.length 4 (ai.l t2))::(ck,.mp (lL dM))::(aH,.sl x1.length 1 (af.l x1))::(eQ n5.1.nodes ku++L)):=Has.del Cw 4
  have Li:Has h13 ((kr,.sl n5.1.nodes.length 4 (dH.l (ba n5.1.nodes ku)))::(iN,.sl t2.length 4 (ai.l t2))::(ck,.mp (lL dM))::(eQ n5.1.nodes ku++L)):=Has.del AR 3
  have CL:Has h13 ((kr,.sl n5.1.nodes.length 4 (dH.l (ba n5.1.nodes ku)))::(iN,.sl t2.length 4 (ai.l t2))::(eQ n5.1.nodes ku++L)):=Has.del Li 2
  have HC:Has h13 ((kr,.sl n5.1.nodes.length 4 (dH.l (ba n5.1.nodes ku)))::(eQ n5.1.nodes ku++L)):=Has.del CL 1
  obtain rfl:=oi H
  exact qt <| ⟨.inl rfl,⟨kr,ku,by kernel_rfl,he HC⟩⟩
end
end Go.Proofs.Ytifafejidnjckaa
namespace Go.Proofs.Ytifafejidnjckaa
open Go Go.R
open Go.IntKind (i64 u64 u8 u32)
def tT:bY:=gK [0,1,3,4,5,6,7,8,9,10,11,14,21,33,35,36,37,38,44,51,52,53] [3,6,10] [4194298,4192250,4194279,4194206,4190110,4194279,4194142,4185950,4194279,4079486,3948414,4078718,3816574,4078718,2505854,408702,2504830,2505854,2505854,4079486,4079486,4194279] [(19,[(10,some 3,0)])] [(3,[(6,some 0,4)]),(11,[(10,some 3,1)])]
def aC.l1 (m:Nat)(s0:ab)(v0:aj):Nat→Int→(List Int)→ab→Option (Int × (List Int) × ab)
 | 0,_,_,_=>none
 | k+1,x3,n0,s2=>if (decide (x3<(v0.args.length:Int)))=true then ((ix n0 x3).bind fun v1=>(ix n0 x3).bind fun v2=>aC.l1 m s0 v0 k (i64.wrap (x3+(1:Int))) (n0.set x3.toNat (i64.wrap (v1+(s0.aa.length:Int)))) s2) else (some ((x3,n0,s2)))
def aC.l2 (m:Nat)(s0:ab)(v0:aj):Nat→Int→(List Int)→ab→Option (Int × (List Int) × ab)
 | 0,_,_,_=>none
 | k+1,x7,n2,s4=>if (decide (x7<(v0.args.length:Int)))=true then ((ix n2 x7).bind fun v3=>(ix n2 x7).bind fun v4=>aC.l2 m s0 v0 k (i64.wrap (x7+(1:Int))) (n2.set x7.toNat (i64.wrap (v3+(s0.aa.length:Int)))) s4) else (some ((x7,n2,s4)))
def aC.l0 (m:Nat)(s0:ab)(x1:bc × Int):Nat→Int→ab→Option (Int × ab)
 | 0,_,_=>none
 | k+1,x2,s1=>if (decide (x2<(x1.1.nodes.length:Int)))=true then ((ix x1.1.nodes x2).bind fun v0=>if (v0.kind==(0:Int))=true then ((aC.l1 m s0 v0 m (0:Int) v0.args s1).bind fun bQ=>match bQ with | (x4,n1,s3)=>(app 56 s3.aa ([(aj.mk v0.kind (i64.wrap ((s0.aa.length:Int)+x2)) v0.label n1)])).bind fun x5=>(app 8 s3.ae ([i64.wrap ((s0.aa.length:Int)+x2)])).bind fun x6=>aC.l0 m s0 x1 k (i64.wrap (x2+(1:Int))) (ab.mk s3.ak x5 x6)) else ((aC.l2 m s0 v0 m (0:Int) v0.args s1).bind fun cw=>match cw with | (x8,n3,s5)=>(app 56 s5.aa ([(aj.mk v0.kind v0.int v0.label n3)])).bind fun x9=>(app 8 s5.ae ([i64.wrap ((s0.aa.length:Int)+x2)])).bind fun kz=>aC.l0 m s0 x1 k (i64.wrap (x2+(1:Int))) (ab.mk s5.ak x9 kz))) else (some ((x2,s1)))
def aC.f (m:Nat)(s0:ab)(t0:bc):Option (Int × Int × ab):=(bL.f m s0).bind fun x0=>if (!x0)=true then (some ((0:Int),(6:Int),s0)) else ((fy.f m t0).bind fun x1=>if (!(x1.2==(0:Int)))=true then (some ((0:Int),x1.2,s0)) else (if (decide ((i64.wrap ((s0.aa.length:Int)+(x1.1.nodes.length:Int))) > (8000:Int)))=true then (some ((0:Int),(7:Int),s0)) else ((aC.l0 m s0 x1 m (0:Int) s0).bind fun km=>match km with | (zN,s6)=>some ((s0.aa.length:Int),(0:Int),s6))))
def aC.fin (L:Mem)(aq:Nat)(an:Nat)(ao:Nat)(s0:ab)(t0:bc)(r:Int × Int × ab)(s:St):Prop:=∃aD aE:Nat,aM Try.prog (s.open tT) Try.f36.results.toList=some (.tup [.int .i64 r.1,.int .i64 r.2.1])∧Has s.h ((aq,.ob [.bool r.2.2.ak,.rs aD 0 r.2.2.aa.length 4,.rs aE 0 r.2.2.ae.length 1])::(aD,.sl r.2.2.aa.length 4 (ai.l r.2.2.aa))::(aE,.sl r.2.2.ae.length 1 (af.l r.2.2.ae))::L)
def TO (cf:CallF)(m:Nat):Prop:=∀(s0:ab) (t0:bc) (r:Int × Int × ab),aC.f m s0 t0=some r→∀h L (aq:Nat) (an:Nat) (ao:Nat),Has h ((aq,.ob [.bool s0.ak,.rs an 0 s0.aa.length 4,.rs ao 0 s0.ae.length 1])::(an,.sl s0.aa.length 4 (ai.l s0.aa))::(ao,.sl s0.ae.length 1 (af.l s0.ae))::L)→∀xs,xs.map aO=[.ptr aq 0,.agg [ai.fz t0.nodes,.int .i64 t0.root]]→∃aD aE h',cf 36 xs h=some (.tup [.int .i64 r.1,.int .i64 r.2.1],h')∧Has h' ((aq,.ob [.bool r.2.2.ak,.rs aD 0 r.2.2.aa.length 4,.rs aE 0 r.2.2.ae.length 1])::(aD,.sl r.2.2.aa.length 4 (ai.l r.2.2.aa))::(aE,.sl r.2.2.ae.length 1 (af.l r.2.2.ae))::L)
section
variable {cf:CallF}{m:Nat}
theorem aC.ko (L:Mem)(aq:Nat)(an:Nat)(ao:Nat)(s0:ab)(t0:bc)(x1:bc × Int)(aH:Nat)(b6:List Nat)(x2:Int)(v0:aj)   : dF Try.prog cf tT m (sub [1,1,1,1,1,1,0,1,0,0,1,1,0,0,1,1,0,1,0,0] (bW Try.f36)) (fun k (σ:Int × (List Int) × ab)=>aC.l1 m s0 v0 k σ.1 σ.2.1 σ.2.2) (fun σ s=>match σ with | (x3,n0,s2)=>∃dP dQ eZ h2,s=⟨.ptr aq 0::xH (.int .i64 (s0.aa.length:Int) :: .int .i64 x2 :: .lp 10 0::nZ [.rs aH 0 x1.1.nodes.length 4,.int .i64 (x1.1.nodes.length:Int),.int .i64 x2,.any,.any,.int .i64 (v0.args.length:Int),.int .i64 x3,.any]),[none,none,some [.int .i64 v0.kind,.int .i64 (i64.wrap ((s0.aa.length:Int)+x2)),.str v0.label,.rs dP 0 n0.length 1]],h2⟩∧Has h2 ((dP,.sl n0.length 1 (af.l n0))::(aH,.sl x1.1.nodes.length 4 (dH.l (ba x1.1.nodes b6)))::(aq,.ob [.bool s2.ak,.rs dQ 0 s2.aa.length 4,.rs eZ 0 s2.ae.length 1])::(dQ,.sl s2.aa.length 4 (ai.l s2.aa))::(eZ,.sl s2.ae.length 1 (af.l s2.ae))::(eQ (x1.1.nodes.drop ((i64.wrap (x2+(1:Int))).toNat)) (b6.drop ((i64.wrap (x2+(1:Int))).toNat))++L))) (fun out e s=>(e = .exit 2∧∃x3 n0 s2,(x3,n0,s2)=out∧∃Gq Gr AJ dP dQ eZ h2,s=⟨.ptr aq 0::xH (.int .i64 (s0.aa.length:Int) :: .int .i64 x2 :: .lp 10 0::nZ [.rs aH 0 x1.1.nodes.length 4,.int .i64 (x1.1.nodes.length:Int),.int .i64 x2,.any,.any,Gq,Gr,AJ]),[none,none,some [.int .i64 v0.kind,.int .i64 (i64.wrap ((s0.aa.length:Int)+x2)),.str v0.label,.rs dP 0 n0.length 1]],h2⟩∧Has h2 ((dP,.sl n0.length 1 (af.l n0))::(aH,.sl x1.1.nodes.length 4 (dH.l (ba x1.1.nodes b6)))::(aq,.ob [.bool s2.ak,.rs dQ 0 s2.aa.length 4,.rs eZ 0 s2.ae.length 1])::(dQ,.sl s2.aa.length 4 (ai.l s2.aa))::(eZ,.sl s2.ae.length 1 (af.l s2.ae))::(eQ (x1.1.nodes.drop ((i64.wrap (x2+(1:Int))).toNat)) (b6.drop ((i64.wrap (x2+(1:Int))).toNat))++L)))):=by
 refine k8 (fun _=>rfl) ?_
 rintro k ⟨x3,n0,s2⟩ s out ⟨dP,dQ,eZ,h2,rfl,o6⟩ H
 have H:aC.l1 m s0 v0 (k+1) x3 n0 s2=some out:=H
 refine q1 <| qq <| qc H (fun c5 H=>?_) (fun c5 H=>?_)
 ·refine qk <| qq <| qb 3 <| qq <| q0 ?_
  obtain⟨v1,e4,H⟩:=bj H
  obtain⟨v2,e5,H⟩:=bj H
  obtain⟨h3,e6,o7⟩:=fG (P:=Try.prog) (tf:=3) (E:=af) (l:=n0) (q:=0) (v:=(i64.wrap (v1+(s0.aa.length:Int)))) (x:=.int .i64 (i64.wrap (v1+(s0.aa.length:Int)))) o6 rfl Z3 e5 rfl rfl
  exact qr [.v 3 (bm (k:=.i64) (E:=af) (l:=n0) (q:=0) gg o6 rfl e4),.v 4 (cM  (E:=af) (l:=n0) (q:=0) o6 rfl A3 e4 rfl),.v 7 (bm (k:=.i64) (E:=af) (l:=n0) (q:=0) gg o6 rfl e5),.w 8 e6] <| q0 <| ⟨(i64.wrap (x3+(1:Int)),n0.set x3.toNat (i64.wrap (v1+(s0.aa.length:Int))),s2),⟨dP,dQ,eZ,h3,(YY (b:=⟨.ptr aq 0::xH (.int .i64 (s0.aa.length:Int) :: .int .i64 x2 :: .lp 10 0::nZ [.rs aH 0 x1.1.nodes.length 4,.int .i64 (x1.1.nodes.length:Int),.int .i64 x2,.any,.any,.int .i64 (v0.args.length:Int),.int .i64 (i64.wrap (x3+(1:Int))),.any]),[none,none,some [.int .i64 v0.kind,.int .i64 (i64.wrap ((s0.aa.length:Int)+x2)),.str v0.label,.rs dP 0 n0.length 1]],h3⟩) (by kernel_rfl) (by simp only [XV])),(by have o:Has h3 ((dP,.sl n0.length 1 (af.l (n0.set x3.toNat (i64.wrap (v1+(s0.aa.length:Int))))))::(aH,.sl x1.1.nodes.length 4 (dH.l (ba x1.1.nodes b6)))::(aq,.ob [.bool s2.ak,.rs dQ 0 s2.aa.length 4,.rs eZ 0 s2.ae.length 1])::(dQ,.sl s2.aa.length 4 (ai.l s2.aa))::(eZ,.sl s2.ae.length 1 (af.l s2.ae))::(eQ (x1.1.nodes.drop ((i64.wrap (x2+(1:Int))).toNat)) (b6.drop ((i64.wrap (x2+(1:Int))).toNat))++L)):=o7; simpa only [XV] using o)⟩,H⟩
 ·exact qx 2 <| ⟨rfl,x3,n0,s2,oi H,.int .i64 (v0.args.length:Int),.int .i64 x3,.bool (decide (x3<(v0.args.length:Int))),dP,dQ,eZ,h2,by kernel_rfl,o6⟩
theorem aC.pP (L:Mem)(aq:Nat)(an:Nat)(ao:Nat)(s0:ab)(t0:bc)(x1:bc × Int)(aH:Nat)(b6:List Nat)(x2:Int)(v0:aj)   : dF Try.prog cf tT m (sub [1,1,1,1,1,1,0,1,0,0,1,1,0,0,1,1,0,1,0,0] (bW Try.f36)) (fun k (σ:Int × (List Int) × ab)=>aC.l2 m s0 v0 k σ.1 σ.2.1 σ.2.2) (fun σ s=>match σ with | (x7,n2,s4)=>∃jI kX nz h10,s=⟨.ptr aq 0::xH (.int .i64 (s0.aa.length:Int) :: .int .i64 x2 :: .lp 10 0::nZ [.rs aH 0 x1.1.nodes.length 4,.int .i64 (x1.1.nodes.length:Int),.int .i64 x2,.any,.any,.int .i64 (v0.args.length:Int),.int .i64 x7,.any]),[none,none,some [.int .i64 v0.kind,.int .i64 v0.int,.str v0.label,.rs jI 0 n2.length 1]],h10⟩∧Has h10 ((jI,.sl n2.length 1 (af.l n2))::(aH,.sl x1.1.nodes.length 4 (dH.l (ba x1.1.nodes b6)))::(aq,.ob [.bool s4.ak,.rs kX 0 s4.aa.length 4,.rs nz 0 s4.ae.length 1])::(kX,.sl s4.aa.length 4 (ai.l s4.aa))::(nz,.sl s4.ae.length 1 (af.l s4.ae))::(eQ (x1.1.nodes.drop ((i64.wrap (x2+(1:Int))).toNat)) (b6.drop ((i64.wrap (x2+(1:Int))).toNat))++L))) (fun out e s=>(e = .exit 2∧∃x7 n2 s4,(x7,n2,s4)=out∧∃Gq Gr AJ jI kX nz h10,s=⟨.ptr aq 0::xH (.int .i64 (s0.aa.length:Int) :: .int .i64 x2 :: .lp 10 0::nZ [.rs aH 0 x1.1.nodes.length 4,.int .i64 (x1.1.nodes.length:Int),.int .i64 x2,.any,.any,Gq,Gr,AJ]),[none,none,some [.int .i64 v0.kind,.int .i64 v0.int,.str v0.label,.rs jI 0 n2.length 1]],h10⟩∧Has h10 ((jI,.sl n2.length 1 (af.l n2))::(aH,.sl x1.1.nodes.length 4 (dH.l (ba x1.1.nodes b6)))::(aq,.ob [.bool s4.ak,.rs kX 0 s4.aa.length 4,.rs nz 0 s4.ae.length 1])::(kX,.sl s4.aa.length 4 (ai.l s4.aa))::(nz,.sl s4.ae.length 1 (af.l s4.ae))::(eQ (x1.1.nodes.drop ((i64.wrap (x2+(1:Int))).toNat)) (b6.drop ((i64.wrap (x2+(1:Int))).toNat))++L)))):=by
 refine k8 (fun _=>rfl) ?_
 rintro k ⟨x7,n2,s4⟩ s out ⟨jI,kX,nz,h10,rfl,tL⟩ H
 have H:aC.l2 m s0 v0 (k+1) x7 n2 s4=some out:=H
 refine q1 <| qq <| qc H (fun c6 H=>?_) (fun c6 H=>?_)
 ·refine qk <| qq <| qb 3 <| qq <| q0 ?_
  obtain⟨v3,zO,H⟩:=bj H
  obtain⟨v4,D5,H⟩:=bj H
  obtain⟨h11,D6,D8⟩:=fG (P:=Try.prog) (tf:=3) (E:=af) (l:=n2) (q:=0) (v:=(i64.wrap (v3+(s0.aa.length:Int)))) (x:=.int .i64 (i64.wrap (v3+(s0.aa.length:Int)))) tL rfl Z3 D5 rfl rfl
  exact qr [.v 3 (bm (k:=.i64) (E:=af) (l:=n2) (q:=0) gg tL rfl zO),.v 4 (cM  (E:=af) (l:=n2) (q:=0) tL rfl A3 zO rfl),.v 7 (bm (k:=.i64) (E:=af) (l:=n2) (q:=0) gg tL rfl D5),.w 8 D6] <| q0 <| ⟨(i64.wrap (x7+(1:Int)),n2.set x7.toNat (i64.wrap (v3+(s0.aa.length:Int))),s4),⟨jI,kX,nz,h11,(YY (b:=⟨.ptr aq 0::xH (.int .i64 (s0.aa.length:Int) :: .int .i64 x2 :: .lp 10 0::nZ [.rs aH 0 x1.1.nodes.length 4,.int .i64 (x1.1.nodes.length:Int),.int .i64 x2,.any,.any,.int .i64 (v0.args.length:Int),.int .i64 (i64.wrap (x7+(1:Int))),.any]),[none,none,some [.int .i64 v0.kind,.int .i64 v0.int,.str v0.label,.rs jI 0 n2.length 1]],h11⟩) (by kernel_rfl) (by simp only [XV])),(by have o:Has h11 ((jI,.sl n2.length 1 (af.l (n2.set x7.toNat (i64.wrap (v3+(s0.aa.length:Int))))))::(aH,.sl x1.1.nodes.length 4 (dH.l (ba x1.1.nodes b6)))::(aq,.ob [.bool s4.ak,.rs kX 0 s4.aa.length 4,.rs nz 0 s4.ae.length 1])::(kX,.sl s4.aa.length 4 (ai.l s4.aa))::(nz,.sl s4.ae.length 1 (af.l s4.ae))::(eQ (x1.1.nodes.drop ((i64.wrap (x2+(1:Int))).toNat)) (b6.drop ((i64.wrap (x2+(1:Int))).toNat))++L)):=D8; simpa only [XV] using o)⟩,H⟩
 ·exact qx 2 <| ⟨rfl,x7,n2,s4,oi H,.int .i64 (v0.args.length:Int),.int .i64 x7,.bool (decide (x7<(v0.args.length:Int))),jI,kX,nz,h10,by kernel_rfl,tL⟩
theorem aC.cO (L:Mem)(aq:Nat)(an:Nat)(ao:Nat)(s0:ab)(t0:bc)(x1:bc × Int)(aH:Nat)(b6:List Nat)   : dF Try.prog cf tT m (sub [1,1,1,1,1,1,0,1,0,0] (bW Try.f36)) (fun k (σ:Int × ab)=>aC.l0 m s0 x1 k σ.1 σ.2) (fun σ s=>match σ with | (x2,s1)=>∃ck dX h1,s=⟨.ptr aq 0::xH (.int .i64 (s0.aa.length:Int)::xH (.rs aH 0 x1.1.nodes.length 4 :: .int .i64 (x1.1.nodes.length:Int) :: .int .i64 x2::Aw [])),[none,none,none],h1⟩∧Has h1 ((aH,.sl x1.1.nodes.length 4 (dH.l (ba x1.1.nodes b6)))::(aq,.ob [.bool s1.ak,.rs ck 0 s1.aa.length 4,.rs dX 0 s1.ae.length 1])::(ck,.sl s1.aa.length 4 (ai.l s1.aa))::(dX,.sl s1.ae.length 1 (af.l s1.ae))::(eQ (x1.1.nodes.drop x2.toNat) (b6.drop x2.toNat)++L))) (fun out e s=>(e = .exit 0∧∃x2 s1,(x2,s1)=out∧∃nr Lg KF AG AH ck dX h1,s=⟨nr::xH (.int .i64 (s0.aa.length:Int)::xH (Lg::KF::AG::AH::nZ [])),[none,none,none],h1⟩∧Has h1 ((aH,.sl x1.1.nodes.length 4 (dH.l (ba x1.1.nodes b6)))::(aq,.ob [.bool s1.ak,.rs ck 0 s1.aa.length 4,.rs dX 0 s1.ae.length 1])::(ck,.sl s1.aa.length 4 (ai.l s1.aa))::(dX,.sl s1.ae.length 1 (af.l s1.ae))::(eQ (x1.1.nodes.drop x2.toNat) (b6.drop x2.toNat)++L)))):=by
 refine k8 (fun _=>rfl) ?_
 rintro k ⟨x2,s1⟩ s out ⟨ck,dX,h1,rfl,o4⟩ H
 have H:aC.l0 m s0 x1 (k+1) x2 s1=some out:=H
 refine q1 <| qq <| qc H (fun c3 H=>?_) (fun c3 H=>?_)
 ·refine qk <| qq <| qb 1 <| qq ?_
  obtain⟨v0,e3,H⟩:=bj H
  have o5:=FW (pre:=[(aH,.sl x1.1.nodes.length 4 (dH.l (ba x1.1.nodes b6))),(aq,.ob [.bool s1.ak,.rs ck 0 s1.aa.length 4,.rs dX 0 s1.ae.length 1]),(ck,.sl s1.aa.length 4 (ai.l s1.aa)),(dX,.sl s1.ae.length 1 (af.l s1.ae))]) (q:=0) (ns:=x1.1.nodes) (ids:=b6) o4 rfl e3
  refine qr [.v 1 (bm (k:=.i64) (E:=dH) (l:=(ba x1.1.nodes b6)) (q:=0) uK o4 rfl (si e3)),.v 2 (wP  (E:=dH) (l:=(ba x1.1.nodes b6)) (q:=0) o4 rfl DX DY (si e3))] <| qq <| qq <| q0 <| qc H (fun c4 H=>?_) (fun c4 H=>?_)
  ·refine q0 <| qq <| qq <| q0 <| qb 2 ?_
   obtain⟨bQ,e7,H⟩:=bj H
   refine ql (aC.ko L aq an ao s0 t0 x1 aH b6 x2 v0   ((0:Int),v0.args,s1) _ _ ⟨(L7 b6 x2),ck,dX,h1,by kernel_rfl,o5⟩ e7) ?_
   rintro e s ⟨rfl,x4,n1,s3,rfl,g0,g1,g2,ju,iN,kr,h4,rfl,o8⟩
   try dsimp only at H
   obtain⟨h5,e8,o9⟩:=qy (E:=af) (l:=n1) (q:=0) o8 rfl
   obtain⟨x5,e9,H⟩:=bj H
   obtain⟨iF,h6,rv,xa⟩:=iW (P:=Try.prog) (E:=ai) (l:=s3.aa) (q:=2) (t2:=40) (x:=.fz [.int .i64 v0.kind,.int .i64 (i64.wrap ((s0.aa.length:Int)+x2)),.str v0.label,af.fz n1] 1 true) (l2:=([(aj.mk v0.kind (i64.wrap ((s0.aa.length:Int)+x2)) v0.label n1)])) uK o9 rfl (by kernel_rfl) rfl e9
   obtain⟨x6,uv,H⟩:=bj H
   obtain⟨cU,h7,w7,xf⟩:=iW (P:=Try.prog) (E:=af) (l:=s3.ae) (q:=3) (t2:=33) (x:=.fz [.int .i64 (i64.wrap ((s0.aa.length:Int)+x2))] 1 true) (l2:=([i64.wrap ((s0.aa.length:Int)+x2)])) gg xa rfl (by kernel_rfl) rfl uv
   obtain⟨h8,w8,za⟩:=ov (P:=Try.prog) (t:=40) (off:=1) (q:=1) (cs:=[.bool s3.ak,.rs iN 0 s3.aa.length 4,.rs kr 0 s3.ae.length 1]) (fI:=[.bool s3.ak,.rs iF 0 x5.length 4,.rs kr 0 s3.ae.length 1]) (x:=.rs iF 0 x5.length 4) xf rfl (by kernel_rfl)
   obtain⟨h9,AK,uO⟩:=ov (P:=Try.prog) (t:=33) (off:=2) (q:=1) (cs:=[.bool s3.ak,.rs iF 0 x5.length 4,.rs kr 0 s3.ae.length 1]) (fI:=[.bool s3.ak,.rs iF 0 x5.length 4,.rs cU 0 x6.length 1]) (x:=.rs cU 0 x6.length 1) za rfl (by kernel_rfl)
   exact Nj [.a 0 e8] [.v 5 (show bC Try.prog h5 40 (.ptr aq 1)=some (.rs iN 0 s3.aa.length 4) from cj (q:=1) (cs:=[.bool s3.ak,.rs iN 0 s3.aa.length 4,.rs kr 0 s3.ae.length 1]) o9 rfl (by kernel_rfl)),.a 8 rv,.v 12 (show bC Try.prog h6 33 (.ptr aq 2)=some (.rs kr 0 s3.ae.length 1) from cj (q:=1) (cs:=[.bool s3.ak,.rs iN 0 s3.aa.length 4,.rs kr 0 s3.ae.length 1]) xa rfl (by kernel_rfl)),.a 17 w7,.w 20 w8,.w 23 AK] [.mk (AA o9 (q:=2) rfl (q2:=1) rfl (by decide) rv)] <| q0 <| ⟨(i64.wrap (x2+(1:Int)),(ab.mk s3.ak x5 x6)),⟨iF,cU,h9,by kernel_rfl,uO⟩,H⟩
  ·refine qk <| qq <| qq <| q0 <| qb 2 ?_
   obtain⟨cw,Gh,H⟩:=bj H
   refine ql (aC.pP L aq an ao s0 t0 x1 aH b6 x2 v0   ((0:Int),v0.args,s1) _ _ ⟨(L7 b6 x2),ck,dX,h1,by kernel_rfl,o5⟩ Gh) ?_
   rintro e s ⟨rfl,x8,n3,s5,rfl,g3,g4,g5,D4,AO,rT,h12,rfl,xJ⟩
   try dsimp only at H
   obtain⟨h13,D7,vA⟩:=qy (E:=af) (l:=n3) (q:=0) xJ rfl
   obtain⟨x9,Iz,H⟩:=bj H
   obtain⟨tK,h14,HA,Cw⟩:=iW (P:=Try.prog) (E:=ai) (l:=s5.aa) (q:=2) (t2:=40) (x:=.fz [.int .i64 v0.kind,.int .i64 v0.int,.str v0.label,af.fz n3] 1 true) (l2:=([(aj.mk v0.kind v0.int v0.label n3)])) uK vA rfl (by kernel_rfl) rfl Iz
   obtain⟨kz,HB,H⟩:=bj H
   obtain⟨Gi,h15,Jy,AR⟩:=iW (P:=Try.prog) (E:=af) (l:=s5.ae) (q:=3) (t2:=33) (x:=.fz [.int .i64 (i64.wrap ((s0.aa.length:Int)+x2))] 1 true) (l2:=([i64.wrap ((s0.aa.length:Int)+x2)])) gg Cw rfl (by kernel_rfl) rfl HB
   obtain⟨h16,KX,Li⟩:=ov (P:=Try.prog) (t:=40) (off:=1) (q:=1) (cs:=[.bool s5.ak,.rs AO 0 s5.aa.length 4,.rs rT 0 s5.ae.length 1]) (fI:=[.bool s5.ak,.rs tK 0 x9.length 4,.rs rT 0 s5.ae.length 1]) (x:=.rs tK 0 x9.length 4) AR rfl (by kernel_rfl)
   obtain⟨h17,Jz,CL⟩:=ov (P:=Try.prog) (t:=33) (off:=2) (q:=1) (cs:=[.bool s5.ak,.rs tK 0 x9.length 4,.rs rT 0 s5.ae.length 1]) (fI:=[.bool s5.ak,.rs tK 0 x9.length 4,.rs Gi 0 kz.length 1]) (x:=.rs Gi 0 kz.length 1) Li rfl (by kernel_rfl)
   exact Nj [.a 0 D7] [.v 5 (show bC Try.prog h13 40 (.ptr aq 1)=some (.rs AO 0 s5.aa.length 4) from cj (q:=1) (cs:=[.bool s5.ak,.rs AO 0 s5.aa.length 4,.rs rT 0 s5.ae.length 1]) vA rfl (by kernel_rfl)),.a 8 HA,.v 12 (show bC Try.prog h14 33 (.ptr aq 2)=some (.rs rT 0 s5.ae.length 1) from cj (q:=1) (cs:=[.bool s5.ak,.rs AO 0 s5.aa.length 4,.rs rT 0 s5.ae.length 1]) Cw rfl (by kernel_rfl)),.a 17 Jy,.w 20 KX,.w 23 Jz] [.mk (AA vA (q:=2) rfl (q2:=1) rfl (by decide) HA)] <| q0 <| ⟨(i64.wrap (x2+(1:Int)),(ab.mk s5.ak x9 kz)),⟨tK,Gi,h17,by kernel_rfl,CL⟩,H⟩
 ·exact qx 0 <| ⟨rfl,x2,s1,oi H,.ptr aq 0,.rs aH 0 x1.1.nodes.length 4,.int .i64 (x1.1.nodes.length:Int),.int .i64 x2,.bool (decide (x2<(x1.1.nodes.length:Int))),ck,dX,h1,by kernel_rfl,o4⟩
theorem nE {aW:FuncId→bY}(ha:aW 36=tT)(AI:Ns cf m)(Lj:Rt cf m)(s0:ab)(t0:bc)(h:AHeap)(L:Mem)(aq:Nat)(an:Nat)(ao:Nat)  (o:Has h ((aq,.ob [.bool s0.ak,.rs an 0 s0.aa.length 4,.rs ao 0 s0.ae.length 1])::(an,.sl s0.aa.length 4 (ai.l s0.aa))::(ao,.sl s0.ae.length 1 (af.l s0.ae))::L)){out:Int × Int × ab}(H:aC.f m s0 t0=some out) :
  ∃r h',bb Try.prog aW cf m 36 [.ptr aq 0,.agg [ai.fz t0.nodes,.int .i64 t0.root]] h=some (r,h')∧∃aD aE:Nat,r = .tup [.int .i64 out.1,.int .i64 out.2.1]∧Has h' ((aq,.ob [.bool out.2.2.ak,.rs aD 0 out.2.2.aa.length 4,.rs aE 0 out.2.2.ae.length 1])::(aD,.sl out.2.2.aa.length 4 (ai.l out.2.2.aa))::(aE,.sl out.2.2.ae.length 1 (af.l out.2.2.ae))::L):=by
 refine ar (fn:=Try.f36) ha Try.func36 (by kernel_rfl) (by kernel_rfl) ?_
 refine aG (Q:=fun s=>aC.fin L aq an ao s0 t0 out s) (fun _ _ ⟨h1,aD,aE,h2,h3⟩=>⟨h1,_,h2,aD,aE,rfl,h3⟩) ?_
 have H:_=some out:=H
 unfold aC.f at H
 show dy _ cf tT m _ ⟨.ptr aq 0 :: .agg [ai.fz t0.nodes,.int .i64 t0.root]::PF [],[none,none,none],h⟩ _
 refine q1 <| qq <| qq ?_
 obtain⟨x0,e0,H⟩:=bj H
 refine qr [.a 1 (AI _ _ e0 h _ (fq (ah (dV (q:=0) o rfl (ah (fB) (ah (dK (E:=ai) (l:=s0.aa) (q:=1) o rfl (fun _=>rfl)) (ah (dK (E:=af) (l:=s0.ae) (q:=2) o rfl (fun _=>rfl)) (aw))))) (aw))))] <| qc H (fun c0 H=>?_) (fun c0 H=>?_)
 ·obtain rfl:=oi H
  exact q1 <| qt <| ⟨.inl rfl,⟨an,ao,by kernel_rfl,he o⟩⟩
 ·refine qk <| qq ?_
  obtain⟨x1,e1,H⟩:=bj H
  obtain⟨aH,b6,h0,e2,o0,ES⟩:=Lj _ _ e1 h _ _ o (fq (ah (eh (ah (dW (E:=ai)) (ah (aT) (aw)))) (aw)))
  have o1:=Has.lA (pre:=[(aH,.sl x1.1.nodes.length 4 (dH.l (ba x1.1.nodes b6)))]) (N:=[(aq,.ob [.bool s0.ak,.rs an 0 s0.aa.length 4,.rs ao 0 s0.ae.length 1]),(an,.sl s0.aa.length 4 (ai.l s0.aa)),(ao,.sl s0.ae.length 1 (af.l s0.ae))]) (mid:=eQ x1.1.nodes b6) o0
  refine qr [.a 1 e2] <| qq <| qq <| q0 <| qc H (fun c1 H=>?_) (fun c1 H=>?_)
  ·refine q1 ?_
   have o2:Has h0 ((aq,.ob [.bool s0.ak,.rs an 0 s0.aa.length 4,.rs ao 0 s0.ae.length 1])::(an,.sl s0.aa.length 4 (ai.l s0.aa))::(ao,.sl s0.ae.length 1 (af.l s0.ae))::L):=Has.gone (pre:=[(aq,.ob [.bool s0.ak,.rs an 0 s0.aa.length 4,.rs ao 0 s0.ae.length 1]),(an,.sl s0.aa.length 4 (ai.l s0.aa)),(ao,.sl s0.ae.length 1 (af.l s0.ae))]) (Has.del o1 0)
   obtain rfl:=oi H
   exact qt <| ⟨.inl rfl,⟨an,ao,by kernel_rfl,he o2⟩⟩
  ·refine qk <| qq <| qr [.v 3 (show bC Try.prog h0 40 (.ptr aq 1)=some (.rs an 0 s0.aa.length 4) from cj (q:=1) (cs:=[.bool s0.ak,.rs an 0 s0.aa.length 4,.rs ao 0 s0.ae.length 1]) o1 rfl (by kernel_rfl))] <| qq <| qq <| q0 <| qc H (fun c2 H=>?_) (fun c2 H=>?_)
   ·refine q1 ?_
    have o3:Has h0 ((aq,.ob [.bool s0.ak,.rs an 0 s0.aa.length 4,.rs ao 0 s0.ae.length 1])::(an,.sl s0.aa.length 4 (ai.l s0.aa))::(ao,.sl s0.ae.length 1 (af.l s0.ae))::L):=Has.gone (pre:=[(aq,.ob [.bool s0.ak,.rs an 0 s0.aa.length 4,.rs ao 0 s0.ae.length 1]),(an,.sl s0.aa.length 4 (ai.l s0.aa)),(ao,.sl s0.ae.length 1 (af.l s0.ae))]) (Has.del o1 0)
    obtain rfl:=oi H
    exact qt <| ⟨.inl rfl,⟨an,ao,by kernel_rfl,he o3⟩⟩
   ·refine qk <| qq <| qq <| q0 <| qb 0 ?_
    obtain⟨km,Md,H⟩:=bj H
    refine ql (aC.cO L aq an ao s0 t0 x1 aH b6   ((0:Int),s0) _ _ ⟨an,ao,h0,by kernel_rfl,o1⟩ Md) ?_
    rintro e s ⟨rfl,zN,s6,rfl,g6,g7,g8,g9,g10,AP,AQ,h18,rfl,HC⟩
    try dsimp only at H
    refine q1 ?_
    have NM:Has h18 ((aq,.ob [.bool s6.ak,.rs AP 0 s6.aa.length 4,.rs AQ 0 s6.ae.length 1])::(AP,.sl s6.aa.length 4 (ai.l s6.aa))::(AQ,.sl s6.ae.length 1 (af.l s6.ae))::L):=Has.gone (pre:=[(aq,.ob [.bool s6.ak,.rs AP 0 s6.aa.length 4,.rs AQ 0 s6.ae.length 1]),(AP,.sl s6.aa.length 4 (ai.l s6.aa)),(AQ,.sl s6.ae.length 1 (af.l s6.ae))]) (Has.del HC 0)
    obtain rfl:=oi H
    exact qt <| ⟨.inl rfl,⟨AP,AQ,by kernel_rfl,he NM⟩⟩
end
end Go.Proofs.Ytifafejidnjckaa
namespace Go.Proofs.Ytifafejidnjckaa
open Go Go.R
open Go.IntKind (i64 u64 u8 u32)
def CO:bY:=gK [0,1,3,4,5,7,8,15,24,33,44,55,64,75] [3] [16378,16362,16330,16266,16367,16202,16367,16074,16367,15818,16367,15306,16367,14282,16367,12234,16367,8170,16367,16375] [] []
def fZ.f (m:Nat)(s0:ab)(x0:aS):Option (Int × ab):=if (x0.fu==(0:Int))=true then ((eU.f m s0).bind fun x1=>some (x1.2.1,x1.2.2)) else (if (x0.fu==(1:Int))=true then ((eV.f m s0 x0.tC).bind fun x2=>some (x2.2.1,x2.2.2)) else (if (x0.fu==(2:Int))=true then ((eL.f m s0 x0.eS).bind fun x3=>some (x3.2.1,x3.2.2)) else (if (x0.fu==(3:Int))=true then ((eB.f m s0 x0.eS x0.fX).bind fun x4=>some (x4.2.1,x4.2.2)) else (if (x0.fu==(4:Int))=true then ((eK.f m s0 x0.eS x0.tC).bind fun x5=>some (x5.2.1,x5.2.2)) else (if (x0.fu==(5:Int))=true then ((aC.f m s0 x0.yP).bind fun x6=>some (x6.2.1,x6.2.2)) else (if (x0.fu==(6:Int))=true then ((bU.f m s0 x0.tC x0.EB).bind fun x7=>some (x7.2.1,x7.2.2)) else (if (x0.fu==(7:Int))=true then ((b7.f m s0 x0.tC x0.EB).bind fun x8=>some (x8.2.2.1,x8.2.2.2)) else (some ((0:Int),s0)))))))))
def fZ.fin (L:Mem)(aq:Nat)(an:Nat)(ao:Nat)(s0:ab)(x0:aS)(r:Int × ab)(s:St):Prop:=∃aD aE:Nat,aM Try.prog (s.open CO) Try.f17.results.toList=some (.int .i64 r.1)∧Has s.h ((aq,.ob [.bool r.2.ak,.rs aD 0 r.2.aa.length 4,.rs aE 0 r.2.ae.length 1])::(aD,.sl r.2.aa.length 4 (ai.l r.2.aa))::(aE,.sl r.2.ae.length 1 (af.l r.2.ae))::L)
def RA (cf:CallF)(m:Nat):Prop:=∀(s0:ab) (x0:aS) (r:Int × ab),fZ.f m s0 x0=some r→∀h L (aq:Nat) (an:Nat) (ao:Nat),Has h ((aq,.ob [.bool s0.ak,.rs an 0 s0.aa.length 4,.rs ao 0 s0.ae.length 1])::(an,.sl s0.aa.length 4 (ai.l s0.aa))::(ao,.sl s0.ae.length 1 (af.l s0.ae))::L)→∀xs,xs.map aO=[.ptr aq 0,.agg [.int .i64 x0.fu,.int .i64 x0.tC,.int .i64 x0.EB,.str x0.eS,af.fz x0.fX,ai.fz x0.yP.nodes,.int .i64 x0.yP.root]]→∃aD aE h',cf 17 xs h=some (.int .i64 r.1,h')∧Has h' ((aq,.ob [.bool r.2.ak,.rs aD 0 r.2.aa.length 4,.rs aE 0 r.2.ae.length 1])::(aD,.sl r.2.aa.length 4 (ai.l r.2.aa))::(aE,.sl r.2.ae.length 1 (af.l r.2.ae))::L)
section
variable {cf:CallF}{m:Nat}
theorem uQ {aW:FuncId→bY}(ha:aW 17=CO)(Lk:QJ cf m)(Ll:QL cf m)(RB:Tg cf m)(RC:TE cf m)(RD:Th cf m)(RE:Tz cf m)(RF:Tt cf m)(RG:TO cf m)(s0:ab)(x0:aS)(h:AHeap)(L:Mem)(aq:Nat)(an:Nat)(ao:Nat)  (o:Has h ((aq,.ob [.bool s0.ak,.rs an 0 s0.aa.length 4,.rs ao 0 s0.ae.length 1])::(an,.sl s0.aa.length 4 (ai.l s0.aa))::(ao,.sl s0.ae.length 1 (af.l s0.ae))::L)){out:Int × ab}(H:fZ.f m s0 x0=some out) :
  ∃r h',bb Try.prog aW cf m 17 [.ptr aq 0,.agg [.int .i64 x0.fu,.int .i64 x0.tC,.int .i64 x0.EB,.str x0.eS,af.fz x0.fX,ai.fz x0.yP.nodes,.int .i64 x0.yP.root]] h=some (r,h')∧∃aD aE:Nat,r = .int .i64 out.1∧Has h' ((aq,.ob [.bool out.2.ak,.rs aD 0 out.2.aa.length 4,.rs aE 0 out.2.ae.length 1])::(aD,.sl out.2.aa.length 4 (ai.l out.2.aa))::(aE,.sl out.2.ae.length 1 (af.l out.2.ae))::L):=by
 refine ar (fn:=Try.f17) ha Try.func17 (by kernel_rfl) (by kernel_rfl) ?_
 refine aG (Q:=fun s=>fZ.fin L aq an ao s0 x0 out s) (fun _ _ ⟨h1,aD,aE,h2,h3⟩=>⟨h1,_,h2,aD,aE,rfl,h3⟩) ?_
 have H:_=some out:=H
 unfold fZ.f at H
 show dy _ cf CO m _ ⟨.ptr aq 0 :: .agg [.int .i64 x0.fu,.int .i64 x0.tC,.int .i64 x0.EB,.str x0.eS,af.fz x0.fX,ai.fz x0.yP.nodes,.int .i64 x0.yP.root]::uH [],[none],h⟩ _
 refine q1 <| qq <| q0 <| qq <| qq <| q0 <| qb 0 <| qq <| q0 <| qc H (fun c0 H=>?_) (fun c0 H=>?_)
 ·obtain⟨x1,e0,H⟩:=bj H
  obtain⟨aH,ck,h0,e1,o0⟩:=RB _ _ e0 h _ _ _ _ (o)  [.ptr aq 0] (au (rfl) (bN))
  obtain rfl:=oi H
  exact qr [.a 1 e1] <| qq <| q0 <| qt <| ⟨.inl rfl,⟨aH,ck,by kernel_rfl,he o0⟩⟩
 ·refine q1 <| qc H (fun c1 H=>?_) (fun c1 H=>?_)
  ·obtain⟨x2,e2,H⟩:=bj H
   obtain⟨dX,dP,h1,e3,o1⟩:=RD _ _ _ e2 h _ _ _ _ (o)  [.ptr aq 0,.int .i64 x0.tC] (au (rfl) (au (aP (bu)) (bN)))
   obtain rfl:=oi H
   exact qr [.a 3 e3] <| qq <| q0 <| qt <| ⟨.inl rfl,⟨dX,dP,by kernel_rfl,he o1⟩⟩
  ·refine q1 <| qc H (fun c2 H=>?_) (fun c2 H=>?_)
   ·obtain⟨x3,e4,H⟩:=bj H
    obtain⟨dQ,eZ,h2,e5,o2⟩:=RC _ _ _ e4 h _ _ _ _ (o)  [.ptr aq 0,.str x0.eS] (au (rfl) (au (aP (lZ)) (bN)))
    obtain rfl:=oi H
    exact qr [.a 3 e5] <| qq <| q0 <| qt <| ⟨.inl rfl,⟨dQ,eZ,by kernel_rfl,he o2⟩⟩
   ·refine q1 <| qc H (fun c3 H=>?_) (fun c3 H=>?_)
    ·obtain⟨x4,e6,H⟩:=bj H
     obtain⟨ju,iN,h3,e7,o3⟩:=RE _ _ _ _ e6 h _ _ _ _ (o)  [.ptr aq 0,.str x0.eS,af.fz x0.fX] (au (rfl) (au (aP (lZ)) (au (aP (rl (E:=af))) (bN))))
     obtain rfl:=oi H
     exact qr [.a 5 e7] <| qq <| q0 <| qt <| ⟨.inl rfl,⟨ju,iN,by kernel_rfl,he o3⟩⟩
    ·refine q1 <| qc H (fun c4 H=>?_) (fun c4 H=>?_)
     ·obtain⟨x5,e8,H⟩:=bj H
      obtain⟨kr,iF,h4,e9,o4⟩:=RF _ _ _ _ e8 h _ _ _ _ (o)  [.ptr aq 0,.str x0.eS,.int .i64 x0.tC] (au (rfl) (au (aP (lZ)) (au (aP (bu)) (bN))))
      obtain rfl:=oi H
      exact qr [.a 5 e9] <| qq <| q0 <| qt <| ⟨.inl rfl,⟨kr,iF,by kernel_rfl,he o4⟩⟩
     ·refine q1 <| qc H (fun c5 H=>?_) (fun c5 H=>?_)
      ·obtain⟨x6,rv,H⟩:=bj H
       obtain⟨cU,jI,h5,uv,o5⟩:=RG _ _ _ rv h _ _ _ _ (o)  [.ptr aq 0,.agg [ai.fz x0.yP.nodes,.int .i64 x0.yP.root]] (au (rfl) (au (aP (oN (cN (rl (E:=ai)) (cN (bu) (oM))))) (bN)))
       obtain rfl:=oi H
       exact qr [.a 3 uv] <| qq <| q0 <| qt <| ⟨.inl rfl,⟨cU,jI,by kernel_rfl,he o5⟩⟩
      ·refine q1 <| qc H (fun c6 H=>?_) (fun c6 H=>?_)
       ·obtain⟨x7,w7,H⟩:=bj H
        obtain⟨kX,nz,D4,h6,w8,o6⟩:=Lk _ _ _ _ w7 h _ _ _ _ (o)  [.ptr aq 0,.int .i64 x0.tC,.int .i64 x0.EB] (au (rfl) (au (aP (bu)) (au (aP (bu)) (bN))))
        refine qr [.a 5 w8] ?_
        have o7:Has h6 ((aq,.ob [.bool x7.2.2.ak,.rs nz 0 x7.2.2.aa.length 4,.rs D4 0 x7.2.2.ae.length 1])::(nz,.sl x7.2.2.aa.length 4 (ai.l x7.2.2.aa))::(D4,.sl x7.2.2.ae.length 1 (af.l x7.2.2.ae))::L):=Has.del o6 0
        obtain rfl:=oi H
        exact q1 <| qt <| ⟨.inl rfl,⟨nz,D4,by kernel_rfl,he o7⟩⟩
       ·refine q1 <| qc H (fun c7 H=>?_) (fun c7 H=>?_)
        ·obtain⟨x8,AK,H⟩:=bj H
         obtain⟨AO,rT,tK,h7,zO,o8⟩:=Ll _ _ _ _ AK h _ _ _ _ (o)  [.ptr aq 0,.int .i64 x0.tC,.int .i64 x0.EB] (au (rfl) (au (aP (bu)) (au (aP (bu)) (bN))))
         refine qr [.a 5 zO] ?_
         have o9:Has h7 ((aq,.ob [.bool x8.2.2.2.ak,.rs rT 0 x8.2.2.2.aa.length 4,.rs tK 0 x8.2.2.2.ae.length 1])::(rT,.sl x8.2.2.2.aa.length 4 (ai.l x8.2.2.2.aa))::(tK,.sl x8.2.2.2.ae.length 1 (af.l x8.2.2.2.ae))::L):=Has.del o8 0
         obtain rfl:=oi H
         exact q1 <| qt <| ⟨.inl rfl,⟨rT,tK,by kernel_rfl,he o9⟩⟩
        ·obtain rfl:=oi H
         exact qk <| qq <| q0 <| qt <| ⟨.inl rfl,⟨an,ao,by kernel_rfl,he o⟩⟩
end
end Go.Proofs.Ytifafejidnjckaa
namespace Go.Proofs.Ytifafejidnjckaa
open Go Go.R
open Go.IntKind (i64 u64 u8 u32)
def zc:bY:=gK [0,2,3,4,9] [] [30,26,18,2,18,18,29] [] []
def cg.l0 (m:Nat)(l0:List aS):Nat→Int→ab→Option (Int × ab)
 | 0,_,_=>none
 | k+1,i0,p7=>if (decide (i0<(l0.length:Int)))=true then ((ix l0 i0).bind fun v0=>(fZ.f m p7 v0).bind fun x1=>cg.l0 m l0 k (i64.wrap (i0+(1:Int))) x1.2) else (some ((i0,p7)))
def cg.f (m:Nat)(l0:List aS):Option (ab):=(jj.f m ).bind fun x0=>(cg.l0 m l0 m (0:Int) x0).bind fun bQ=>match bQ with | (i1,xF)=>some xF
def cg.fin (L:Mem)(l0:List aS)(r:ab)(s:St):Prop:=∃dh gG gH:Nat,aM Try.prog (s.open zc) Try.f12.results.toList=some (.ptr dh 0)∧Has s.h ((dh,.ob [.bool r.ak,.rs gG 0 r.aa.length 4,.rs gH 0 r.ae.length 1])::(gG,.sl r.aa.length 4 (ai.l r.aa))::(gH,.sl r.ae.length 1 (af.l r.ae))::L)
def TP (cf:CallF)(m:Nat):Prop:=∀(l0:List aS) (r:ab),cg.f m l0=some r→∀h L,Has h (L)→∀xs,xs.map aO=[bh.fz l0]→∃dh gG gH h',cf 12 xs h=some (.ptr dh 0,h')∧Has h' ((dh,.ob [.bool r.ak,.rs gG 0 r.aa.length 4,.rs gH 0 r.ae.length 1])::(gG,.sl r.aa.length 4 (ai.l r.aa))::(gH,.sl r.ae.length 1 (af.l r.ae))::L)
section
variable {cf:CallF}{m:Nat}
theorem cg.cO (L:Mem)(l0:List aS)(aH:Nat)  (Lm:RA cf m):dF Try.prog cf zc m (sub [1,1,0,1,0,0] (bW Try.f12)) (fun k (σ:Int × ab)=>cg.l0 m l0 k σ.1 σ.2) (fun σ s=>match σ with | (i0,p7)=>∃dP dQ h1,s=⟨[bh.fz l0,.any,.ptr aH 0,.int .i64 i0,.any],[],h1⟩∧Has h1 ((aH,.ob [.bool p7.ak,.rs dP 0 p7.aa.length 4,.rs dQ 0 p7.ae.length 1])::(dP,.sl p7.aa.length 4 (ai.l p7.aa))::(dQ,.sl p7.ae.length 1 (af.l p7.ae))::L)) (fun out e s=>(e = .exit 0∧∃i0 p7,(i0,p7)=out∧∃nr NF D0 dP dQ h1,s=⟨[nr,.any,.ptr aH 0,NF,D0],[],h1⟩∧Has h1 ((aH,.ob [.bool p7.ak,.rs dP 0 p7.aa.length 4,.rs dQ 0 p7.ae.length 1])::(dP,.sl p7.aa.length 4 (ai.l p7.aa))::(dQ,.sl p7.ae.length 1 (af.l p7.ae))::L))):=by
 refine k8 (fun _=>rfl) ?_
 rintro k ⟨i0,p7⟩ s out ⟨dP,dQ,h1,rfl,o1⟩ H
 have H:cg.l0 m l0 (k+1) i0 p7=some out:=H
 refine qq <| qq <| q0 <| qc H (fun c0 H=>?_) (fun c0 H=>?_)
 ·refine qk <| qq <| qb 1 ?_
  obtain⟨v0,e2,H⟩:=bj H
  obtain⟨x1,e3,H⟩:=bj H
  obtain⟨eZ,ju,h2,e4,o2⟩:=Lm _ _ _ e3 h1 _ _ _ _ (o1)  [.ptr aH 0,.agg [.int .i64 v0.fu,.int .i64 v0.tC,.int .i64 v0.EB,.str v0.eS,af.fz v0.fX,ai.fz v0.yP.nodes,.int .i64 v0.yP.root]] (au (rfl) (au (aP (oN (cN (bu) (cN (bu) (cN (bu) (cN (lZ) (cN (rl (E:=af)) (cN (rl (E:=ai)) (cN (bu) (oM)))))))))) (bN)))
  exact qr [.v 3 (fe (k:=.i64) (E:=bh) (l:=l0) OA e2),.v 4 (kj  (E:=bh) (l:=l0) h1 Vn Vp e2),.a 5 e4] <| q0 <| ⟨(i64.wrap (i0+(1:Int)),x1.2),⟨eZ,ju,h2,by kernel_rfl,o2⟩,H⟩
 ·exact qx 0 <| ⟨rfl,i0,p7,oi H,bh.fz l0,.int .i64 i0,.bool (decide (i0<(l0.length:Int))),dP,dQ,h1,by kernel_rfl,o1⟩
theorem rZ {aW:FuncId→bY}(ha:aW 12=zc)(Lm:RA cf m)(RH:SY cf m)(l0:List aS)(h:AHeap)(L:Mem)  (o:Has h (L)){out:ab}(H:cg.f m l0=some out) :
  ∃r h',bb Try.prog aW cf m 12 [bh.fz l0] h=some (r,h')∧∃dh gG gH:Nat,r = .ptr dh 0∧Has h' ((dh,.ob [.bool out.ak,.rs gG 0 out.aa.length 4,.rs gH 0 out.ae.length 1])::(gG,.sl out.aa.length 4 (ai.l out.aa))::(gH,.sl out.ae.length 1 (af.l out.ae))::L):=by
 refine ar (fn:=Try.f12) ha Try.func12 (by kernel_rfl) (by kernel_rfl) ?_
 refine aG (Q:=fun s=>cg.fin L l0 out s) (fun _ _ ⟨h1,dh,gG,gH,h2,h3⟩=>⟨h1,_,h2,dh,gG,gH,rfl,h3⟩) ?_
 have H:_=some out:=H
 unfold cg.f at H
 show dy _ cf zc m _ ⟨bh.fz l0::nZ [],[],h⟩ _
 refine q1 <| qq ?_
 obtain⟨x0,e0,H⟩:=bj H
 obtain⟨aH,ck,dX,h0,e1,o0⟩:=RH _ e0 h _  (o)  [] (bN)
 refine qr [.a 0 e1] <| qq <| qq <| q0 <| qb 0 ?_
 obtain⟨bQ,e5,H⟩:=bj H
 refine ql (cg.cO L l0 aH  Lm ((0:Int),x0) _ _ ⟨ck,dX,h0,by kernel_rfl,o0⟩ e5) ?_
 rintro e s ⟨rfl,i1,xF,rfl,g0,g1,g2,iN,kr,h3,rfl,o3⟩
 try dsimp only at H
 obtain rfl:=oi H
 exact q1 <| qt <| ⟨.inl rfl,⟨aH,iN,kr,by kernel_rfl,he o3⟩⟩
end
end Go.Proofs.Ytifafejidnjckaa
namespace Go.Proofs.Ytifafejidnjckaa
open Go Go.R
open Go.IntKind (i64 u64 u8 u32)
end Go.Proofs.Ytifafejidnjckaa
namespace Go.Proofs.Ytifafejidnjckaa
open Go Go.R
open Go.IntKind (i64 u64 u8 u32)
end Go.Proofs.Ytifafejidnjckaa
namespace Go.Proofs.Ytifafejidnjckaa
open Go Go.R
open Go.IntKind (i64 u64 u8 u32)
end Go.Proofs.Ytifafejidnjckaa
namespace Go.Proofs.Ytifafejidnjckaa
open Go Go.R
open Go.IntKind (i64 u64 u8 u32)
def cR.l0 (m:Nat)(fS:List aS)(kN:Bool):Nat→Int→ab→ab→Option (Int × ab × ab)
 | 0,_,_,_=>none
 | k+1,i0,xF,IC=>if (decide (i0<(fS.length:Int)))=true then (if kN=true then ((ix fS i0).bind fun v0=>(fZ.f m IC v0).bind fun x7=>cR.l0 m fS kN k (i64.wrap (i0+(1:Int))) xF x7.2) else ((ix fS i0).bind fun v1=>(fZ.f m xF v1).bind fun x8=>cR.l0 m fS kN k (i64.wrap (i0+(1:Int))) x8.2 IC)) else (some ((i0,xF,IC)))
def cR.l1 (m:Nat)(fS:List aS)(kN:Bool):Nat→Int→ab→ab→Option (Int × ab × ab)
 | 0,_,_,_=>none
 | k+1,i2,RJ,RK=>if (decide (i2<(fS.length:Int)))=true then (if kN=true then ((ix fS i2).bind fun v2=>(fZ.f m RK v2).bind fun VG=>cR.l1 m fS kN k (i64.wrap (i2+(1:Int))) RJ VG.2) else ((ix fS i2).bind fun v3=>(fZ.f m RJ v3).bind fun VH=>cR.l1 m fS kN k (i64.wrap (i2+(1:Int))) VH.2 RK)) else (some ((i2,RJ,RK)))
def cR.f (m:Nat)(l0:List aS)(fS:List aS)(kN:Bool):Option (Bool):=(bH.f m l0).bind fun x0=>if x0=true then ((dO.f m).bind fun x1=>some x1) else ((bH.f m fS).bind fun x2=>if x2=true then ((dO.f m).bind fun x3=>some x3) else ((cg.f m l0).bind fun x4=>(cg.f m l0).bind fun x5=>(pM.f m x4).bind fun x6=>PS x6.1 (some false) fun p7=>if kN=true then ((cR.l0 m fS kN m (0:Int) p7 x6.2).bind fun bQ=>match bQ with | (i1,TQ,Xv)=>(bS.f m TQ).bind fun x9=>(bS.f m x5).bind fun kz=>if (x9==kz)=true then ((gX.f m TQ).bind fun zN=>(gX.f m x5).bind fun n5=>(ca.f m zN n5).bind fun tF=>if tF=true then ((dO.f m).bind fun NN=>some NN) else (some false)) else (some false)) else ((cR.l1 m fS kN m (0:Int) p7 x6.2).bind fun cw=>match cw with | (i3,Xw,TR)=>(bS.f m TR).bind fun VI=>(bS.f m x5).bind fun VJ=>if (VI==VJ)=true then ((gX.f m TR).bind fun VK=>(gX.f m x5).bind fun VL=>(ca.f m VK VL).bind fun VM=>if VM=true then ((dO.f m).bind fun VN=>some VN) else (some false)) else (some false))))
def S6 (cf:CallF)(m:Nat):Prop:=∀(l0:List aS) (fS:List aS) (kN:Bool) (r:Bool),cR.f m l0 fS kN=some r→∀h xs,aQ bJ h xs [bh.fz l0,bh.fz fS,.bool kN]→cf 6 xs h=some (.bool r,h)
end Go.Proofs.Ytifafejidnjckaa
