/- Part of the proof: Q12, Q3, Q4, Q5, Q6, Q7, QA, PA1, PA2, PA3, PA4, PA5, PA6, PR1, PS1, PT6, PS2, PS3. -/
import Derived.Test.YtifafejidnjckaaK10
set_option linter.unusedVariables false
set_option linter.unusedSimpArgs false
set_option maxRecDepth 100000
open Bool renaming and_eq_true → ZF, false_eq_true → ZN, or_eq_true → aar, not_true → aaC, true_and → aba
open Int renaming toNat_natCast → ZQ, natCast_nonneg → aaY
open List renaming getElem?_eq_getElem → ZG, getElem?_eq_some_iff → ZH, mem_of_getElem? → ZK, length_append → ZM, length_set → ZO, drop_eq_getElem_cons → ZP, length_map → ZR, getElem?_append_left → ZS, getElem?_append_right → ZT, length_cons → ZU, append_assoc → ZV, getD_eq_getElem?_getD → ZW, mem_cons → ZZ, map_cons → Z0, getElem?_eq_none → Z5, map_append → Z7, length_nil → Z8, mem_append → aaa, getElem?_cons_zero → aag, mem_map → aah, drop_zero → aam, all_cons → aao, mem_append_left → aat, getElem?_of_mem → aav, getElem?_cons_succ → aaK, ext_getElem? → aaL, drop_eq_nil_of_le → aaU, append_nil → aa2, getElem?_set → aa4
open Nat renaming le_refl → ZI, zero_add → Z2, zero_le → aai, sub_self → aaJ, add_zero → aaW
open Option renaming bind_some → ZB
open Option.some renaming injEq → ZE, inj → aaf
namespace Go.Proofs.Ytifafejidnjckaa
open Go Go.R
open Go.IntKind (i64 u64 u8 u32)
def zF:b9:=gW [0,2,3,4,9] [] [30,26,18,2,18,18,29] [] []
def cw.l0 (m:Nat)(l0:List aN):Nat→Int→ab→Option (Int × ab)
 | 0,_,_=>none
 | k+1,i0,pj=>if (decide (i0<(l0.length:Int)))=true then ((ix l0 i0).bind fun v0=>(gd.f m pj v0).bind fun x1=>cw.l0 m l0 k (i64.wrap (i0+(1:Int))) x1.2) else (some ((i0,pj)))
def cw.f (m:Nat)(l0:List aN):Option (ab):=(jt.f m ).bind fun x0=>(cw.l0 m l0 m (0:Int) x0).bind fun bM=>match bM with | (i1,k8)=>some k8
def cw.fin (L:Mem)(l0:List aN)(r:ab)(s:St):Prop:=∃dw eK eL:Nat,aO Try.prog (s.open zF) Try.f12.results.toList=some (.ptr dw 0)∧Has s.h ((dw,.ob [.bool r.aj,.rs eK 0 r.aa.length 4,.rs eL 0 r.ae.length 1])::(eK,.sl r.aa.length 4 (ai.l r.aa))::(eL,.sl r.ae.length 1 (af.l r.ae))::L)
def UT (cf:CallF)(m:Nat):Prop:=∀(l0:List aN) (r:ab),cw.f m l0=some r→∀h L,Has h (L)→∀xs,xs.map aS=[aT.fz l0]→∃dw eK eL h',cf 12 xs h=some (.ptr dw 0,h')∧Has h' ((dw,.ob [.bool r.aj,.rs eK 0 r.aa.length 4,.rs eL 0 r.ae.length 1])::(eK,.sl r.aa.length 4 (ai.l r.aa))::(eL,.sl r.ae.length 1 (af.l r.ae))::L)
section
variable {cf:CallF}{m:Nat}
theorem cw.cQ (L:Mem)(l0:List aN)(aE:Nat)  (Bp:Oe cf m):dL Try.prog cf zF m (sub [1,1,0,1,0,0] (bZ Try.f12)) (fun k (σ:Int × ab)=>cw.l0 m l0 k σ.1 σ.2) (fun σ s=>match σ with | (i0,pj)=>∃cW dD h1,s=⟨[aT.fz l0,.any,.ptr aE 0,.int .i64 i0,.any],[],h1⟩∧Has h1 ((aE,.ob [.bool pj.aj,.rs cW 0 pj.aa.length 4,.rs dD 0 pj.ae.length 1])::(cW,.sl pj.aa.length 4 (ai.l pj.aa))::(dD,.sl pj.ae.length 1 (af.l pj.ae))::L)) (fun out e s=>(e = .exit 0∧∃i0 pj,(i0,pj)=out∧∃mP LA A9 cW dD h1,s=⟨[mP,.any,.ptr aE 0,LA,A9],[],h1⟩∧Has h1 ((aE,.ob [.bool pj.aj,.rs cW 0 pj.aa.length 4,.rs dD 0 pj.ae.length 1])::(cW,.sl pj.aa.length 4 (ai.l pj.aa))::(dD,.sl pj.ae.length 1 (af.l pj.ae))::L))):=by
 refine lg (fun _=>rfl) ?_
 rintro k ⟨i0,pj⟩ s out ⟨cW,dD,h1,rfl,o1⟩ H
 have H:cw.l0 m l0 (k+1) i0 pj=some out:=H
 refine qq <| qq <| q0 <| qc H (fun c0 H=>?_) (fun c0 H=>?_)
 ·refine qk <| qq <| qb 1 ?_
  obtain⟨v0,e2,H⟩:=bj H
  obtain⟨x1,e3,H⟩:=bj H
  obtain⟨ff,gT,h2,e4,o2⟩:=Bp _ _ _ e3 h1 _ _ _ _ (o1)  [.ptr aE 0,.agg [.int .i64 v0.fC,.int .i64 v0.sB,.int .i64 v0.Ey,.str v0.eY,af.fz v0.gf,ai.fz v0.xp.nodes,.int .i64 v0.xp.root]] (au (rfl) (au (aP (nE (cd (bm) (cd (bm) (cd (bm) (cd (lf) (cd (oH (E:=af)) (cd (oH (E:=ai)) (cd (bm) (nD)))))))))) (bN)))
  exact qr [.v 3 (fy (k:=.i64) (E:=aT) (l:=l0) NR e2),.v 4 (jP  (E:=aT) (l:=l0) h1 T5 T6 e2),.a 5 e4] <| q0 <| ⟨(i64.wrap (i0+(1:Int)),x1.2),⟨ff,gT,h2,by kernel_rfl,o2⟩,H⟩
 ·exact qx 0 <| ⟨rfl,i0,pj,oi H,aT.fz l0,.int .i64 i0,.bool (decide (i0<(l0.length:Int))),cW,dD,h1,by kernel_rfl,o1⟩
theorem sh {aY:FuncId→b9}(ha:aY 12=zF)(Bp:Oe cf m)(Sq:Uc cf m)(l0:List aN)(h:AHeap)(L:Mem)  (o:Has h (L)){out:ab}(H:cw.f m l0=some out) :
  ∃r h',bf Try.prog aY cf m 12 [aT.fz l0] h=some (r,h')∧∃dw eK eL:Nat,r = .ptr dw 0∧Has h' ((dw,.ob [.bool out.aj,.rs eK 0 out.aa.length 4,.rs eL 0 out.ae.length 1])::(eK,.sl out.aa.length 4 (ai.l out.aa))::(eL,.sl out.ae.length 1 (af.l out.ae))::L):=by
 refine ar (fn:=Try.f12) ha Try.func12 (by kernel_rfl) (by kernel_rfl) ?_
 refine aH (Q:=fun s=>cw.fin L l0 out s) (fun _ _ ⟨h1,dw,eK,eL,h2,h3⟩=>⟨h1,_,h2,dw,eK,eL,rfl,h3⟩) ?_
 have H:_=some out:=H
 unfold cw.f at H
 show dK _ cf zF m _ ⟨aT.fz l0::oZ [],[],h⟩ _
 refine q1 <| qq ?_
 obtain⟨x0,e0,H⟩:=bj H
 obtain⟨aE,cy,dY,h0,e1,o0⟩:=Sq _ e0 h _  (o)  [] (bN)
 refine qr [.a 0 e1] <| qq <| qq <| q0 <| qb 0 ?_
 obtain⟨bM,e5,H⟩:=bj H
 refine ql (cw.cQ L l0 aE  Bp ((0:Int),x0) _ _ ⟨cy,dY,h0,by kernel_rfl,o0⟩ e5) ?_
 rintro e s ⟨rfl,i1,k8,rfl,g0,g1,g2,fi,kC,h3,rfl,o3⟩
 try dsimp only at H
 obtain rfl:=oi H
 exact q1 <| qt <| ⟨.inl rfl,⟨aE,fi,kC,by kernel_rfl,he o3⟩⟩
end
end Go.Proofs.Ytifafejidnjckaa
namespace Go.Proofs.Ytifafejidnjckaa
open Go Go.R
open Go.IntKind (i64 u64 u8 u32)
end Go.Proofs.Ytifafejidnjckaa
namespace Go.Proofs.Ytifafejidnjckaa
open Go Go.R
open Go.IntKind (i64 u64 u8 u32)
end Go.Proofs.Ytifafejidnjckaa
namespace Go.Proofs.Ytifafejidnjckaa
open Go Go.R
open Go.IntKind (i64 u64 u8 u32)
end Go.Proofs.Ytifafejidnjckaa
namespace Go.Proofs.Ytifafejidnjckaa
open Go Go.R
open Go.IntKind (i64 u64 u8 u32)
def dn.l0 (m:Nat)(cH:List aN)(kW:Bool):Nat→Int→ab→ab→Option (Int × ab × ab)
 | 0,_,_,_=>none
 | k+1,i0,k8,xF=>if (decide (i0<(cH.length:Int)))=true then (if kW=true then ((ix cH i0).bind fun v0=>(gd.f m xF v0).bind fun x7=>dn.l0 m cH kW k (i64.wrap (i0+(1:Int))) k8 x7.2) else ((ix cH i0).bind fun v1=>(gd.f m k8 v1).bind fun x8=>dn.l0 m cH kW k (i64.wrap (i0+(1:Int))) x8.2 xF)) else (some ((i0,k8,xF)))
def dn.l1 (m:Nat)(cH:List aN)(kW:Bool):Nat→Int→ab→ab→Option (Int × ab × ab)
 | 0,_,_,_=>none
 | k+1,i2,Sr,Ss=>if (decide (i2<(cH.length:Int)))=true then (if kW=true then ((ix cH i2).bind fun v2=>(gd.f m Ss v2).bind fun jI=>dn.l1 m cH kW k (i64.wrap (i2+(1:Int))) Sr jI.2) else ((ix cH i2).bind fun v3=>(gd.f m Sr v3).bind fun Pj=>dn.l1 m cH kW k (i64.wrap (i2+(1:Int))) Pj.2 Ss)) else (some ((i2,Sr,Ss)))
def dn.f (m:Nat)(l0:List aN)(cH:List aN)(kW:Bool):Option (Bool):=(bJ.f m l0).bind fun x0=>if x0=true then ((dt.f m).bind fun x1=>some x1) else ((bJ.f m cH).bind fun x2=>if x2=true then ((dt.f m).bind fun x3=>some x3) else ((cw.f m l0).bind fun x4=>(cw.f m l0).bind fun x5=>(dk.f m x4).bind fun x6=>Ev x6.1 (some false) fun pj=>if kW=true then ((dn.l0 m cH kW m (0:Int) pj x6.2).bind fun bM=>match bM with | (i1,UU,Zg)=>(cG.f m UU).bind fun x9=>(cG.f m x5).bind fun cb=>if (x9==cb)=true then ((bY.f m UU).bind fun zr=>(bY.f m x5).bind fun pf=>(cj.f m zr pf).bind fun tQ=>if tQ=true then ((dt.f m).bind fun a6=>some a6) else (some false)) else (some false)) else ((dn.l1 m cH kW m (0:Int) pj x6.2).bind fun cD=>match cD with | (i3,Zh,UW)=>(cG.f m UW).bind fun Pk=>(cG.f m x5).bind fun vd=>if (Pk==vd)=true then ((bY.f m UW).bind fun Of=>(bY.f m x5).bind fun WI=>(cj.f m Of WI).bind fun WJ=>if WJ=true then ((dt.f m).bind fun WK=>some WK) else (some false)) else (some false))))
def S6 (cf:CallF)(m:Nat):Prop:=∀(l0:List aN) (cH:List aN) (kW:Bool) (r:Bool),dn.f m l0 cH kW=some r→∀h xs,aU bR h xs [aT.fz l0,aT.fz cH,.bool kW]→cf 6 xs h=some (.bool r,h)
end Go.Proofs.Ytifafejidnjckaa
namespace Go.Proofs.Ytifafejidnjckaa
open Go Go.R
open Go.IntKind (i64 u64 u8 u32)
def iM.l0 (m:Nat)(n0:Int)(cH:List aN)(x5:ak × Int):Nat→Int→ab→Option (Sum Bool (Int × ab))
 | 0,_,_=>none
 | k+1,i0,pj=>if (decide (i0<(cH.length:Int)))=true then ((ix cH i0).bind fun v0=>(gd.f m pj v0).bind fun x8=>(kV.f m x8.2 n0).bind fun x9=>if (!(x9.2==(0:Int)))=true then (some (.inl false)) else (if (!(x9.1.kind==x5.1.kind))=true then (some (.inl false)) else (if (!(x9.1.int==x5.1.int))=true then (some (.inl false)) else (if (!(x9.1.label.data.toList==x5.1.label.data.toList))=true then (some (.inl false)) else (if (!((x9.1.args.length:Int)==(x5.1.args.length:Int)))=true then (some (.inl false)) else (iM.l0 m n0 cH x5 k (i64.wrap (i0+(1:Int))) x8.2)))))) else (some (.inr (i0,pj)))
def iM.f (m:Nat)(l0:List aN)(n0:Int)(cH:List aN):Option (Bool):=(bJ.f m l0).bind fun x0=>if x0=true then ((dt.f m).bind fun x1=>some x1) else ((bJ.f m cH).bind fun x2=>if x2=true then ((dt.f m).bind fun x3=>some x3) else ((cw.f m l0).bind fun x4=>(kV.f m x4 n0).bind fun x5=>if (!(x5.2==(0:Int)))=true then ((dt.f m).bind fun x6=>some x6) else (if (x5.1.kind==(0:Int))=true then ((dt.f m).bind fun x7=>some x7) else ((iM.l0 m n0 cH x5 m (0:Int) x4).bind fun bM=>match bM with | .inl r0=>some r0 | .inr (i1,k8)=>(dt.f m).bind fun cb=>some cb))))
def S7 (cf:CallF)(m:Nat):Prop:=∀(l0:List aN) (n0:Int) (cH:List aN) (r:Bool),iM.f m l0 n0 cH=some r→∀h xs,aU bR h xs [aT.fz l0,.int .i64 n0,aT.fz cH]→cf 7 xs h=some (.bool r,h)
end Go.Proofs.Ytifafejidnjckaa
namespace Go.Uf
open Go Go.R
open Go.IntKind (i64 u64 u8 u32)
def iY (to:List Int)(n:Int):Int:=to.getD n.toNat n
def ie (to:List Int):Nat→Int→Int
 | 0,n=>n
 | k+1,n=>iY to (ie to k n)
def EH:List Int→Nat→Nat
 | [],_=>0
 | x::l,i=>(if x=(i:Int) then 0 else 1)+EH l (i+1)
def rM (to:List Int):Nat:=EH to 0
def rp (to:List Int)(n:Int):Int:=ie to (rM to) n
def Rg (len:Nat)(n:Int):Prop:=0≤n∧n<len
instance (len:Nat) (n:Int):Decidable (Rg len n):=inferInstanceAs (Decidable (_∧_))
structure Ib (to:List Int):Prop where
 rg:∀n,Rg to.length n→Rg to.length (iY to n)
 rt:∀n,Rg to.length n→iY to (rp to n)=rp to n
theorem GX:∀(l:List Int) (i:Nat),EH l i≤l.length
 | [],_=>ZI _
 | x::l,i=>by
  have:=GX l (i+1)
  simp only [EH,ZU]
  split<;>omega
theorem xG (to:List Int):rM to≤to.length:=GX to 0
theorem Dm:∀(l:List Int) (i j:Nat) (b:Int),l[j]? = some ((i+j:Nat):Int)→b≠((i+j:Nat):Int)→EH (l.set j b) i=EH l i+1
 | [],_,_,_,h,_=>by simp at h
 | x::l,i,0,b,h,hb=>by
  simp only [aag,ZE,aaW] at h hb
  simp only [List.set_cons_zero,EH,h,if_true]
  rw [if_neg hb]; omega
 | x::l,i,j+1,b,h,hb=>by
  simp only [aaK] at h
  have e:i+(j+1)=i+1+j:=by omega
  rw [e] at h hb
  have:=Dm l (i+1) j b h hb
  simp only [List.set_cons_succ,EH,this]; omega
theorem Dn:∀(l:List Int) (i:Nat),EH (l++[((i+l.length:Nat):Int)]) i=EH l i
 | [],i=>by simp [EH]
 | x::l,i=>by
  have:=Dn l (i+1)
  have e:i+(x::l).length=i+1+l.length:=by simp only [ZU]; omega
  rw [e]
  show _+EH (l++_) (i+1)=_+EH l (i+1)
  rw [this]
section
variable {to:List Int}{a b n:Int}
theorem sD (h:Rg to.length n):to[n.toNat]? = some (iY to n):=by
 have hl:n.toNat<to.length:=by have:=h.1; have:=h.2; omega
 unfold iY
 rw [ZW,ZG hl]; rfl
theorem xH (h:Rg to.length n):ix to n=some (iY to n):=by
 unfold ix; rw [if_pos h.1,sD h]
theorem uh (o:Ib to)(h:Rg to.length n):∀k,Rg to.length (ie to k n)
 | 0=>h
 | k+1=>o.rg _ (uh o h k)
theorem GY (o:Ib to)(h:Rg to.length n):Rg to.length (rp to n):=uh o h _
theorem zG (h:iY to n=n):∀k,ie to k n=n
 | 0=>rfl
 | k+1=>by show iY to (ie to k n)=n; rw [zG h k,h]
theorem mE (h:iY to n=n):rp to n=n:=zG h _
theorem zH {d:Nat}(h:iY to (ie to d n)=ie to d n):∀e,ie to (d+e) n=ie to d n
 | 0=>rfl
 | e+1=>by show iY to (ie to (d+e) n)=_; rw [zH h e,h]
theorem Jb {d:Nat}(hd:d≤rM to)(h:iY to (ie to d n)=ie to d n):rp to n=ie to d n:=by
 have:=zH h (rM to - d)
 rw [Nat.add_sub_cancel' hd] at this
 exact this
theorem xI (ha:Rg to.length a):∀n,iY (to.set a.toNat b) n=if n.toNat=a.toNat then b else iY to n:=by
 intro n
 have hl:a.toNat<to.length:=by have:=ha.1; have:=ha.2; omega
 unfold iY
 rw [ZW,ZW,aa4]
 by_cases h:n.toNat=a.toNat
 ·rw [if_pos h.symm,if_pos hl,if_pos h]; rfl
 ·rw [if_neg (fun e=>h e.symm),if_neg h]
theorem Dp (ha:Rg to.length a)(h1:iY to a=a)(hne:b≠a):rM (to.set a.toNat b)=rM to+1:=by
 have h0:=ha.1
 refine Dm to 0 a.toNat b ?_ ?_
 ·rw [sD ha,h1]; congr 1; omega
 ·intro e; apply hne; rw [e]; omega
theorem Og (o:Ib to)(ha:Rg to.length a)(hb:Rg to.length b)(h1:iY to a=a)(h2:iY to b=b)(hne:b≠a) :
  Ib (to.set a.toNat b)∧∀n,Rg to.length n→rp (to.set a.toNat b) n=if rp to n=a then b else rp to n:=by
 have hl:(to.set a.toNat b).length=to.length:=ZO
 have hs:∀n,Rg to.length n→iY (to.set a.toNat b) n=if n=a then b else iY to n:=fun n hn=>by
  rw [xI ha]
  by_cases h:n=a
  ·subst h; simp
  ·rw [if_neg h,if_neg (fun e=>h (by have:=hn.1; have:=ha.1; omega))]
 have uG:iY (to.set a.toNat b) b=b:=by rw [hs b hb,if_neg hne,h2]
 have key:∀n,Rg to.length n→∀d,ie (to.set a.toNat b) d n=ie to d n∨(ie (to.set a.toNat b) d n=b∧ie to d n=a):=fun n hn d=>by
  induction d with
  | zero=>exact .inl rfl
  | succ d ih=>
   show iY _ (ie _ d n)=iY to (ie to d n)∨(iY _ (ie _ d n)=b∧iY to (ie to d n)=a)
   rcases ih with ih | ⟨ih,WL⟩
   ·rw [ih,hs _ (uh o hn d)]
    by_cases h:ie to d n=a
    ·rw [if_pos h,h,h1]; exact .inr ⟨rfl,rfl⟩
    ·rw [if_neg h]; exact .inl rfl
   ·rw [ih,WL,h1,uG]; exact .inr ⟨rfl,rfl⟩
 have UX:∀n,Rg to.length n→rp (to.set a.toNat b) n=if rp to n=a then b else rp to n:=fun n hn=>by
  show ie _ (rM (to.set a.toNat b)) n=_
  rw [Dp ha h1 hne]
  have hr:=o.rt n hn
  have WM:=GY o hn
  show iY _ (ie _ (rM to) n)=_
  rcases key n hn (rM to) with h | ⟨h,h3⟩
  ·rw [h]
   show iY _ (rp to n)=_
   rw [hs _ WM,hr]
  ·have h3:rp to n=a:=h3
   rw [h,uG,if_pos h3]
 refine⟨⟨fun n hn=>?_,fun n hn=>?_⟩,UX⟩
 ·rw [hl] at hn ⊢
  rw [hs n hn]
  split
  ·exact hb
  ·exact o.rg n hn
 ·rw [hl] at hn
  rw [UX n hn]
  by_cases h:rp to n=a
  ·rw [if_pos h,uG]
  ·rw [if_neg h,hs _ (GY o hn),if_neg h,o.rt n hn]
theorem Oh (o:Ib to):Ib (to++[(to.length:Int)])∧(∀n,Rg to.length n→rp (to++[(to.length:Int)]) n=rp to n)∧rp (to++[(to.length:Int)]) (to.length:Int)=(to.length:Int):=by
 have hl:(to++[(to.length:Int)]).length=to.length+1:=by simp
 have hn:rM (to++[(to.length:Int)])=rM to:=by
  have:=Dn to 0
  rw [Z2] at this
  exact this
 have hs:∀n,Rg to.length n→iY (to++[(to.length:Int)]) n=iY to n:=fun n h=>by
  have:n.toNat<to.length:=by have:=h.1; have:=h.2; omega
  unfold iY
  rw [ZW,ZW,ZS this]
 have hz:iY (to++[(to.length:Int)]) (to.length:Int)=(to.length:Int):=by
  unfold iY
  rw [ZW,ZQ,ZT (ZI _),aaJ]; rfl
 have hi:∀n,Rg to.length n→∀k,ie (to++[(to.length:Int)]) k n=ie to k n:=fun n h k=>by
  induction k with
  | zero=>rfl
  | succ k ih=>show iY _ (ie _ k n)=iY to (ie to k n); rw [ih,hs _ (uh o h k)]
 have hr:∀n,Rg to.length n→rp (to++[(to.length:Int)]) n=rp to n:=fun n h=>by
  unfold rp; rw [hn]; exact hi n h _
 have hc:∀n,Rg (to.length+1) n→Rg to.length n∨n=to.length:=fun n h=>by
  unfold Rg at h ⊢; omega
 refine⟨⟨fun n h=>?_,fun n h=>?_⟩,hr,mE hz⟩
 ·rw [hl] at h ⊢
  rcases hc n h with h | rfl
  ·rw [hs n h]; have:=o.rg n h; unfold Rg at this ⊢; omega
  ·rw [hz]; exact h
 ·rw [hl] at h
  rcases hc n h with h | rfl
  ·rw [hr n h,hs _ (GY o h),o.rt n h]
  ·rw [mE hz,hz]
end
theorem Jc:Ib []:=⟨fun n h=>by have:=h.1; have:=h.2; simp at this; omega,fun n h=>by have:=h.1; have:=h.2; simp at this; omega⟩
end Go.Uf
namespace Go.Uf
open Go Go.R
open Go.IntKind (i64 u64 u8 u32)
def de (N:List ak)(n:Int):ak:=N.getD n.toNat ⟨0,0,⟨#[]⟩,[]⟩
def gA (N:List ak)(n:Int):Prop:=(de N n).kind≠0
instance (N:List ak) (n:Int):Decidable (gA N n):=inferInstanceAs (Decidable (_≠_))
def Bt (N:List ak)(a b:Int):Prop:=(gA N a∧¬gA N b)∨((gA N a↔gA N b)∧a≤b)
def iv (a b:ak):Prop:=a.kind=b.kind∧a.int=b.int∧a.label.data.toList=b.label.data.toList∧a.args.length=b.args.length
structure Cn (N:List ak)(R:Int→Int):Prop where
 rg:∀n,Rg N.length n→Rg N.length (R n)
 id:∀n,Rg N.length n→R (R n)=R n
 bt:∀n,Rg N.length n→Bt N (R n) n
def Cl (N:List ak)(T:Int→Int):Prop:=∀x y,Rg N.length x→Rg N.length y→T x=T y→gA N x→gA N y→iv (de N x) (de N y)∧∀(i:Nat) (a b:Int),(de N x).args[i]? = some a→(de N y).args[i]? = some b→T a=T b
def gN (N:List ak)(R T:Int→Int):Prop:=∀x y,Rg N.length x→Rg N.length y→R x=R y→T x=T y
def si (N:List ak)(R:Int→Int)(L:List (Int × Int)):Prop:=∀T,gN N R T→(∀p∈L,T p.1=T p.2)→∀x y,Rg N.length x→Rg N.length y→R x=R y→gA N x→gA N y→iv (de N x) (de N y)∧∀(i:Nat) (a b:Int),(de N x).args[i]? = some a→(de N y).args[i]? = some b→T a=T b
def GZ (N:List ak):Prop:=∀v∈N,v.args.length≤8∧∀a∈v.args,Rg N.length a
section
variable {N:List ak}{R T:Int→Int}{a b x y n:Int}
theorem xJ (h:Rg N.length n):N[n.toNat]? = some (de N n):=by
 have hl:n.toNat<N.length:=by have:=h.1; have:=h.2; omega
 unfold de
 rw [ZW,ZG hl]; rfl
theorem ui (h:Rg N.length n):ix N n=some (de N n):=by
 unfold ix; rw [if_pos h.1,xJ h]
theorem fm (h:Rg N.length n):de N n∈N:=ZK (xJ h)
theorem Bt.antisymm (h1:Bt N a b)(h2:Bt N b a):a=b:=by
 unfold Bt at h1 h2
 rcases h1 with h1 | h1<;>rcases h2 with h2 | h2
 ·exact absurd h1.1 h2.2
 ·exact absurd (h2.1.2 h1.1) h1.2
 ·exact absurd (h1.1.2 h2.1) h2.2
 ·omega
theorem Bt.trans {c:Int}(h1:Bt N a b)(h2:Bt N b c):Bt N a c:=by
 unfold Bt at h1 h2 ⊢
 rcases h1 with h1 | h1<;>rcases h2 with h2 | h2
 ·exact absurd h2.1 h1.2
 ·exact .inl ⟨h1.1,fun h=>h1.2 (h2.1.2 h)⟩
 ·exact .inl ⟨h1.1.2 h2.1,h2.2⟩
 ·exact .inr ⟨h1.1.trans h2.1,by omega⟩
theorem Bt.refl:Bt N a a:=.inr ⟨Iff.rfl,Int.le_refl _⟩
theorem Cn.val (c:Cn N R)(h:Rg N.length n)(v:gA N n):gA N (R n):=by
 rcases c.bt n h with h1 | h1
 ·exact h1.1
 ·exact h1.1.2 v
def kL (N:List ak)(a b:Int):Int × Int:=if gA N a↔gA N b then (if a<b then (b,a) else (a,b)) else (if gA N b then (a,b) else (b,a))
theorem vP (a b:Int):Bt N (kL N a b).2 (kL N a b).1∧((kL N a b).1=a∧(kL N a b).2=b∨(kL N a b).1=b∧(kL N a b).2=a):=by
 unfold kL
 by_cases h:gA N a↔gA N b
 ·rw [if_pos h]
  by_cases h2:a<b
  ·rw [if_pos h2]; exact⟨.inr ⟨h,by dsimp only; omega⟩,.inr ⟨rfl,rfl⟩⟩
  ·rw [if_neg h2]; exact⟨.inr ⟨h.symm,by dsimp only; omega⟩,.inl ⟨rfl,rfl⟩⟩
 ·rw [if_neg h]
  by_cases h2:gA N b
  ·rw [if_pos h2]; exact⟨.inl ⟨h2,fun h3=>h ⟨fun _=>h2,fun _=>h3⟩⟩,.inl ⟨rfl,rfl⟩⟩
  ·rw [if_neg h2]
   refine⟨.inl ⟨?_,h2⟩,.inr ⟨rfl,rfl⟩⟩
   by_cases h3:gA N a
   ·exact h3
   ·exact absurd ⟨fun h4=>absurd h4 h3,fun h4=>absurd h4 h2⟩ h
def ub (R:Int→Int)(q:Int × Int)(n:Int):Int:=if R n=q.1 then q.2 else R n
theorem LP (c:Cn N R){q:Int × Int}(h1:Rg N.length q.1)(h2:Rg N.length q.2)(r1:R q.1=q.1)(r2:R q.2=q.2)(hne:q.2≠q.1)(hb:Bt N q.2 q.1):Cn N (ub R q):=by
 refine⟨fun n hn=>?_,fun n hn=>?_,fun n hn=>?_⟩
 ·unfold ub; split
  ·exact h2
  ·exact c.rg n hn
 ·unfold ub
  by_cases h:R n=q.1
  ·rw [if_pos h,r2,if_neg hne]
  ·rw [if_neg h,c.id n hn,if_neg h]
 ·unfold ub
  split
  ·rename_i h
   have:=c.bt n hn
   rw [h] at this
   exact hb.trans this
  ·exact c.bt n hn
theorem Dq {q:Int × Int}:gN N R (ub R q):=fun x y _ _ h=>by unfold ub; rw [h]
theorem xK {q:Int × Int}(ha:R a=q.1)(hb:R b=q.2)(hne:q.2≠q.1):ub R q a=ub R q b:=by
 unfold ub; rw [if_pos ha,hb,if_neg hne]
theorem EI (c:Cn N R){q:Int × Int}(h1:Rg N.length q.1)(h2:Rg N.length q.2)(s:gN N R T)(h:T q.1=T q.2):gN N (ub R q) T:=by
 have key:∀x,Rg N.length x→T (ub R q x)=T x:=fun x hx=>by
  have e:T (R x)=T x:=s _ _ (c.rg x hx) hx (c.id x hx)
  unfold ub
  split
  ·rename_i h3; rw [←h,←h3,e]
  ·exact e
 intro x y hx hy he
 rw [←key x hx,←key y hy,he]
theorem EJ {p:Int × Int}{L:List (Int × Int)}(h:si N R (p::L))(Oi:Rg N.length p.1)(Oj:Rg N.length p.2)(he:R p.1=R p.2):si N R L:=fun T s hL=>h T s fun q hq=>by
 rcases ZZ.1 hq with rfl | hq
 ·exact s _ _ Oi Oj he
 ·exact hL q hq
theorem EK (c:Cn N R){p q:Int × Int}{L M:List (Int × Int)}(h:si N R (p::L))(Oi:Rg N.length p.1)(Oj:Rg N.length p.2)
  (hq:(q.1=R p.1∧q.2=R p.2)∨(q.1=R p.2∧q.2=R p.1)) (hne:q.2≠q.1)
  (hM:gA N (R p.1)→gA N (R p.2)→iv (de N (R p.1)) (de N (R p.2))∧∀(i:Nat) (a b:Int),(de N (R p.1)).args[i]? = some a→(de N (R p.2)).args[i]? = some b→(a,b)∈M):si N (ub R q) (L++M):=by
 intro T s hL x y hx hy he vx vy
 have s0:gN N R T:=fun x y hx hy h=>s x y hx hy (Dq x y hx hy h)
 have g1:=c.rg _ Oi
 have g2:=c.rg _ Oj
 have tp:T p.1=T p.2:=s _ _ Oi Oj (by
  rcases hq with⟨h1,h2⟩| ⟨h1,h2⟩
  ·exact xK h1.symm h2.symm hne
  ·exact (xK h1.symm h2.symm hne).symm)
 have old:=h T s0 (fun q hq=>by
  rcases ZZ.1 hq with rfl | hq
  ·exact tp
  ·exact hL q (aat _ hq))
 have mid:∀x y,Rg N.length x→Rg N.length y→R x=R p.1→R y=R p.2→gA N x→gA N y→iv (de N x) (de N y)∧∀(i:Nat) (a b:Int),(de N x).args[i]? = some a→(de N y).args[i]? = some b→T a=T b:=by
  intro x y hx hy e1 e2 vx vy
  have v1:gA N (R p.1):=e1 ▸ c.val hx vx
  have v2:gA N (R p.2):=e2 ▸ c.val hy vy
  obtain⟨t0,m0⟩:=hM v1 v2
  obtain⟨t1,m1⟩:=old x (R p.1) hx g1 (by rw [c.id _ Oi,e1]) vx v1
  obtain⟨t2,m2⟩:=old (R p.2) y g2 hy (by rw [c.id _ Oj,e2]) v2 vy
  refine⟨⟨t1.1.trans (t0.1.trans t2.1),t1.2.1.trans (t0.2.1.trans t2.2.1),t1.2.2.1.trans (t0.2.2.1.trans t2.2.2.1),t1.2.2.2.trans (t0.2.2.2.trans t2.2.2.2)⟩,fun i a b ha hb=>?_⟩
  have l1:i<(de N (R p.1)).args.length:=by rw [←t1.2.2.2]; exact (ZH.1 ha).1
  have l2:i<(de N (R p.2)).args.length:=by rw [←t0.2.2.2]; exact l1
  have k1:=ZG l1
  have k2:=ZG l2
  rw [m1 i _ _ ha k1,←m2 i _ _ k2 hb]
  exact hL _ (List.mem_append_right _ (m0 i _ _ k1 k2))
 have sym:∀x y,iv (de N x) (de N y)∧(∀(i:Nat) (a b:Int),(de N x).args[i]? = some a→(de N y).args[i]? = some b→T a=T b)→iv (de N y) (de N x)∧∀(i:Nat) (a b:Int),(de N y).args[i]? = some a→(de N x).args[i]? = some b→T a=T b:=by
  rintro x y ⟨t,m⟩
  exact⟨⟨t.1.symm,t.2.1.symm,t.2.2.1.symm,t.2.2.2.symm⟩,fun i a b ha hb=>(m i b a hb ha).symm⟩
 by_cases e:R x=R y
 ·exact old x y hx hy e vx vy
 unfold ub at he
 by_cases ex:R x=q.1<;>by_cases ey:R y=q.1
 ·exact absurd (ex.trans ey.symm) e
 ·rw [if_pos ex,if_neg ey] at he
  rcases hq with⟨h1,h2⟩| ⟨h1,h2⟩
  ·exact mid x y hx hy (ex.trans h1) (he.symm.trans h2) vx vy
  ·exact sym _ _ (mid y x hy hx (he.symm.trans h2) (ex.trans h1) vy vx)
 ·rw [if_neg ex,if_pos ey] at he
  rcases hq with⟨h1,h2⟩| ⟨h1,h2⟩
  ·exact sym _ _ (mid y x hy hx (ey.trans h1) (he.trans h2) vy vx)
  ·exact mid x y hx hy (he.trans h2) (ey.trans h1) vx vy
 ·rw [if_neg ex,if_neg ey] at he
  exact absurd he e
theorem G0 (h:si N R []):Cl N R:=fun x y hx hy e vx vy=>h R (fun _ _ _ _ h=>h) (fun _ h=>by cases h) x y hx hy e vx vy
theorem Jd {L:List (Int × Int)}(h:Cl N R)(ha:GZ N):si N R L:=fun T s _ x y hx hy e vx vy=>by
 obtain⟨t,m⟩:=h x y hx hy e vx vy
 exact⟨t,fun i a b h1 h2=>s _ _ ((ha _ (fm hx)).2 a (ZK h1)) ((ha _ (fm hy)).2 b (ZK h2)) (m i a b h1 h2)⟩
end
end Go.Uf
namespace Go.Uf
open Go Go.R
open Go.IntKind (i64 u64 u8 u32)
theorem Ol (x:Int):i64.wrap x=if x % 18446744073709551616≥9223372036854775808 then x % 18446744073709551616 - 18446744073709551616 else x % 18446744073709551616:=by
 unfold IntKind.wrap; simp [IntKind.signed,IntKind.bits]
theorem jT {x:Int}(h0 : -9223372036854775808≤x)(h1:x<9223372036854775808):i64.wrap x=x:=by
 rw [Ol]; split<;>omega
theorem uj {α:Type}{l:List α}{i:Nat}{a:α}(h:l[i]? = some a):ix l (i:Int)=some a:=by
 unfold ix; rw [if_pos (aaY _),ZQ,h]
theorem xL {α:Type}{b:Nat}{l l2:List α}(h:(l.length+l2.length)*(b+1)≤1099511627776):app b l l2=some (l++l2):=by
 unfold app; rw [if_pos h]
end Go.Uf
namespace Go.Proofs.Ytifafejidnjckaa
open Go Go.R Go.Uf
open Go.IntKind (i64 u64 u8 u32)
structure Inv (s:ab):Prop where
 made:s.aj=true
 len:s.ae.length=s.aa.length
 max:s.aa.length≤8000
 ok:Ib s.ae
 cn:Cn s.aa (rp s.ae)
 args:GZ s.aa
section
variable {m:Nat}{s:ab}{a b n:Int}
theorem Inv.rg (v:Inv s)(h:Rg s.aa.length n):Rg s.ae.length n:=by rw [v.len]; exact h
theorem G1 (v:Inv s)(h:Rg s.aa.length n):∀(k d:Nat),d≤rM s.ae→rM s.ae<k+d→bh.l0 m s k (ie s.ae d n)=some (rp s.ae n)
 | 0,d,h1,h2=>by omega
 | k+1,d,h1,h2=>by
  have hr:=uh v.ok (v.rg h) d
  simp only [bh.l0,xH hr,ZB]
  by_cases he:iY s.ae (ie s.ae d n)=ie s.ae d n
  ·rw [Jb h1 he]
   simp [he]
  ·have hd:d<rM s.ae:=by
    rcases Nat.lt_or_ge d (rM s.ae) with h3 | h3
    ·exact h3
    ·have h4:d=rM s.ae:=by omega
     exact absurd (h4 ▸ v.ok.rt n (v.rg h)) he
   have:=G1 v h k (d+1) hd (by omega)
   simp only [ie] at this
   rw [this]
   have hb:(iY s.ae (ie s.ae d n)==ie s.ae d n)=false:=by simpa using he
   simp [hb]
theorem vQ (hm:16000≤m)(v:Inv s)(h:Rg s.aa.length n):bh.f m s n=some (rp s.ae n):=by
 have h1:=xG s.ae
 have h2:=v.len
 have h3:=v.max
 have:=G1 (m:=m) v h m 0 (aai _) (by omega)
 simp only [ie] at this
 simp only [bh.f,this,ZB]
theorem Bq (h:Rg s.aa.length n):cE.f m s n=some ((de s.aa n).kind==0):=by
 simp only [cE.f,ui h,ZB]
theorem LQ (h1:Rg s.aa.length a)(h2:Rg s.aa.length b)(hl:s.ae.length=s.aa.length):cY.f m s a b=some ((kL s.aa a b).1,⟨s.aj,s.aa,s.ae.set (kL s.aa a b).1.toNat (kL s.aa a b).2⟩):=by
 have i1:ix s.ae a=some (iY s.ae a):=xH (by rw [hl]; exact h1)
 have i2:ix s.ae b=some (iY s.ae b):=xH (by rw [hl]; exact h2)
 simp only [cY.f,jn,Bq h1,Bq h2,ZB,i1,i2]
 unfold kL gA
 by_cases ha:(de s.aa a).kind=0<;>by_cases hb:(de s.aa b).kind=0<;>by_cases Nk:a<b
 all_goals
  first
  | have ea:((de s.aa a).kind==0)=true:=by simpa using ha
  | have ea:((de s.aa a).kind==0)=false:=by simpa using ha
 all_goals
  first
  | have eb:((de s.aa b).kind==0)=true:=by simpa using hb
  | have eb:((de s.aa b).kind==0)=false:=by simpa using hb
 all_goals simp [ha,hb,Nk,i1,i2,ea,eb]
theorem Dr:dj.f m s n=some (decide (Rg s.aa.length n)):=by
 unfold dj.f Rg
 by_cases h1:n≥0<;>by_cases h2:n<(s.aa.length:Int)<;>simp [h1,h2]
theorem Inv.join (v:Inv s)(h1:Rg s.aa.length a)(h2:Rg s.aa.length b)(r1:rp s.ae a=a)(r2:rp s.ae b=b)(hne:a≠b) :
  Inv ⟨s.aj,s.aa,s.ae.set (kL s.aa a b).1.toNat (kL s.aa a b).2⟩∧(∀n,Rg s.aa.length n→rp (s.ae.set (kL s.aa a b).1.toNat (kL s.aa a b).2) n=ub (rp s.ae) (kL s.aa a b) n)∧rM (s.ae.set (kL s.aa a b).1.toNat (kL s.aa a b).2)=rM s.ae+1:=by
 obtain⟨hb,hq⟩:=vP (N:=s.aa) a b
 generalize kL s.aa a b=q at *
 have g:Rg s.aa.length q.1∧Rg s.aa.length q.2∧rp s.ae q.1=q.1∧rp s.ae q.2=q.2∧q.2≠q.1:=by
  rcases hq with⟨e1,e2⟩| ⟨e1,e2⟩
  ·rw [e1,e2]; exact⟨h1,h2,r1,r2,fun h=>hne h.symm⟩
  ·rw [e1,e2]; exact⟨h2,h1,r2,r1,hne⟩
 obtain⟨g1,g2,g3,g4,g5⟩:=g
 have s1:iY s.ae q.1=q.1:=by have:=v.ok.rt _ (v.rg g1); rwa [g3] at this
 have s2:iY s.ae q.2=q.2:=by have:=v.ok.rt _ (v.rg g2); rwa [g4] at this
 obtain⟨j1,j2⟩:=Uf.Og v.ok (v.rg g1) (v.rg g2) s1 s2 g5
 have j3:∀n,Rg s.aa.length n→rp (s.ae.set q.1.toNat q.2) n=ub (rp s.ae) q n:=fun n hn=>j2 n (v.rg hn)
 have c:=LP v.cn g1 g2 g3 g4 g5 hb
 refine⟨⟨v.made,by show (List.set _ _ _).length=_; rw [ZO]; exact v.len,v.max,j1,⟨fun n hn=>?_,fun n hn=>?_,fun n hn=>?_⟩,v.args⟩,j3,Dp (v.rg g1) s1 g5⟩
 ·show Rg _ (rp (s.ae.set q.1.toNat q.2) n)
  rw [j3 n hn]; exact c.rg n hn
 ·show rp (s.ae.set q.1.toNat q.2) (rp (s.ae.set q.1.toNat q.2) n)=_
  rw [j3 n hn,j3 _ (c.rg n hn),c.id n hn]
 ·show Bt _ (rp (s.ae.set q.1.toNat q.2) n) n
  rw [j3 n hn]; exact c.bt n hn
theorem G2 (x y:ak):∃d,fX.f m x y=some d∧(d=false↔iv x y):=by
 unfold fX.f iv
 have h5:(((x.args.length:Int)==(y.args.length:Int))=true)↔x.args.length=y.args.length:=by rw [beq_iff_eq]; omega
 by_cases h1:x.kind=y.kind
 ·by_cases h2:x.int=y.int
  ·by_cases h3:x.label.data.toList=y.label.data.toList
   ·refine⟨!((x.args.length:Int)==(y.args.length:Int)),by simp [h1,h2,h3],?_⟩
    rw [Bool.not_eq_false',h5]
    exact⟨fun h=>⟨h1,h2,h3,h⟩,fun h=>h.2.2.2⟩
   ·have h6:¬x.label.data=y.label.data:=fun h=>h3 (by rw [h])
    exact⟨true,by simp [h1,h2,h6],by simp [h6]⟩
  ·exact⟨true,by simp [h1,h2],by simp [h2]⟩
 ·exact⟨true,by simp [h1],by simp [h1]⟩
end
end Go.Proofs.Ytifafejidnjckaa
namespace Go.Proofs.Ytifafejidnjckaa
open Go Go.R Go.Uf
open Go.IntKind (i64 u64 u8 u32)
def yf (p:bo):Int × Int:=(p.kK,p.lX)
def sj (a b:List Int):List bo:=(a.zip b).map fun p=>⟨p.1,p.2⟩
theorem vR {m:Nat}{v2 v3:ak}{s:ab}(hl:v2.args.length=v3.args.length)(h8:v2.args.length≤8):∀(k:Nat) (left:List bo) (i:Nat),i≤v2.args.length→v2.args.length - i<k→left.length+8≤1000000+i→
  aB.l1 m v2 v3 k left (i:Int) s=some (left++sj (v2.args.drop i) (v3.args.drop i),(v2.args.length:Int),s)
 | 0,left,i,h1,h2,_=>by omega
 | k+1,left,i,h1,h2,h3=>by
  simp only [aB.l1]
  by_cases hi:i<v2.args.length
  ·have UY:i<v3.args.length:=by omega
   have e2:=ZG hi
   have e3:=ZG UY
   have d:decide ((i:Int)<(v2.args.length:Int))=true:=by rw [decide_eq_true_eq]; omega
   have ea:app 16 left [(⟨v2.args[i],v3.args[i]⟩:bo)]=some (left++[⟨v2.args[i],v3.args[i]⟩]):=xL (by
    simp only [ZU,Z8]; omega)
   have ew:i64.wrap ((i:Int)+1)=((i+1:Nat):Int):=by rw [jT (by omega) (by omega)]; omega
   rw [if_pos d,uj e2,uj e3]
   simp only [ZB,ea,ew]
   rw [vR hl h8 k _ (i+1) (by omega) (by omega) (by simp only [ZM,ZU,Z8]; omega)]
   have e4:sj (v2.args.drop i) (v3.args.drop i)=⟨v2.args[i],v3.args[i]⟩::sj (v2.args.drop (i+1)) (v3.args.drop (i+1)):=by
    unfold sj
    rw [ZP hi,ZP UY]; rfl
   rw [e4,ZV]; rfl
  ·have d:decide ((i:Int)<(v2.args.length:Int))=false:=by rw [decide_eq_false_iff_not]; omega
   have e:i=v2.args.length:=by omega
   rw [if_neg (by rw [d]; decide),e]
   simp [sj]
def Ds (s s':ab)(l:List Int):Prop:=s'.aj=s.aj∧s'.aa=s.aa∧s'.ae.length=s.ae.length∧(∀n∈l,Rg s.ae.length n∧iY s.ae n=n)∧(∀n,Rg s.ae.length n→n∉l→iY s'.ae n=iY s.ae n)∧∀n∈l,iY s'.ae n≠n
theorem Ds.refl (s:ab):Ds s s []:=⟨rfl,rfl,rfl,fun n h=>absurd h (by simp),fun _ _ _=>rfl,fun n h=>absurd h (by simp)⟩
theorem Ds.step {s s':ab}{l:List Int}{a b:Int}(ha:Rg s.ae.length a)(hr:iY s.ae a=a)(hne:b≠a)(u:Ds ⟨s.aj,s.aa,s.ae.set a.toNat b⟩ s' l):Ds s s' (a::l):=by
 obtain⟨u1,u2,u3,u4,u5,u6⟩:=u
 have hl:(s.ae.set a.toNat b).length=s.ae.length:=ZO
 have hs:=xI (b:=b) ha
 have e:∀n,Rg s.ae.length n→n≠a→iY (s.ae.set a.toNat b) n=iY s.ae n:=fun n hn h=>by
  rw [hs,if_neg (fun e=>h (by have:=hn.1; have:=ha.1; omega))]
 refine⟨u1,u2,u3.trans hl,fun n hn=>?_,fun n hn hm=>?_,fun n hn=>?_⟩
 ·rcases ZZ.1 hn with rfl | hn
  ·exact⟨ha,hr⟩
  ·obtain⟨g1,g2⟩:=u4 n hn
   have g1:Rg (s.ae.set a.toNat b).length n:=g1
   have g2:iY (s.ae.set a.toNat b) n=n:=g2
   rw [hl] at g1
   refine⟨g1,?_⟩
   by_cases h:n=a
   ·subst h; exact hr
   ·rw [e n g1 h] at g2; exact g2
 ·simp only [ZZ,not_or] at hm
  have:=u5 n (by show Rg (s.ae.set a.toNat b).length n; rw [hl]; exact hn) hm.2
  rw [this]
  exact e n hn hm.1
 ·rcases ZZ.1 hn with rfl | hn
  ·by_cases hin:n∈l
   ·exact u6 n hin
   ·have:=u5 n (by show Rg (s.ae.set n.toNat b).length n; rw [hl]; exact ha) hin
    rw [this]
    show iY (s.ae.set n.toNat b) n≠n
    rw [hs,if_pos rfl]
    exact hne
  ·exact u6 n hn
def Dt (s:ab)(L:List (Int × Int))(ch:List Int):Sum ((List Int) × Bool × ab) ((List Int) × (List bo) × Int × ab)→Prop
 | .inl (G3,b,s')=>b=false∧∃l,G3=ch++l∧Ds s s' l∧Inv s'∧(ch++l).length≤8000∧∀T,Cl s.aa T→gN s.aa (rp s.ae) T→(∀p∈L,T p.1=T p.2)→False
 | .inr (G3,_,_,s')=>∃l,G3=ch++l∧Ds s s' l∧Inv s'∧(ch++l).length≤8000∧Cl s.aa (rp s'.ae)∧gN s.aa (rp s.ae) (rp s'.ae)∧(∀p∈L,rp s'.ae p.1=rp s'.ae p.2)∧∀T,Cl s.aa T→gN s.aa (rp s.ae) T→(∀p∈L,T p.1=T p.2)→gN s.aa (rp s'.ae) T
end Go.Proofs.Ytifafejidnjckaa
namespace Go.Uf
open Go Go.R
open Go.IntKind (i64 u64 u8 u32)
theorem gN.trans {N:List ak}{R S T:Int→Int}(a:gN N R S)(b:gN N S T):gN N R T:=fun x y hx hy h=>b x y hx hy (a x y hx hy h)
theorem gN.congr {N:List ak}{R S T:Int→Int}(e:∀n,Rg N.length n→R n=S n)(b:gN N S T):gN N R T:=fun x y hx hy h=>b x y hx hy (by rw [←e x hx,←e y hy,h])
theorem gN.LR {N:List ak}{R S T:Int→Int}(e:∀n,Rg N.length n→S n=T n)(b:gN N R S):gN N R T:=fun x y hx hy h=>by rw [←e x hx,←e y hy]; exact b x y hx hy h
theorem si.congr {N:List ak}{R S:Int→Int}{L:List (Int × Int)}(e:∀n,Rg N.length n→R n=S n)(p:si N S L):si N R L:=fun T s hL x y hx hy h=>p T (s.congr fun n hn=>(e n hn).symm) hL x y hx hy (by rw [←e x hx,←e y hy,h])
end Go.Uf
namespace Go.Proofs.Ytifafejidnjckaa
open Go Go.R Go.Uf
open Go.IntKind (i64 u64 u8 u32)
section
variable {s:ab}
theorem Je {ch:List Int}{left M:List bo}{i:Nat}{p:bo}{q:Int × Int}{out:Sum ((List Int) × Bool × ab) ((List Int) × (List bo) × Int × ab)}
  (v:Inv s) (hp:left[i]? = some p) (h1:Rg s.aa.length p.kK) (h2:Rg s.aa.length p.lX)
  (hq:(q.1=rp s.ae p.kK∧q.2=rp s.ae p.lX)∨(q.1=rp s.ae p.lX∧q.2=rp s.ae p.kK)) (hne:q.2≠q.1)
  (hr:∀n,Rg s.aa.length n→rp (s.ae.set q.1.toNat q.2) n=ub (rp s.ae) q n)
  (hM:∀T,Cl s.aa T→T (rp s.ae p.kK)=T (rp s.ae p.lX)→∀x∈M,T x.kK=T x.lX)
  (h:Dt ⟨s.aj,s.aa,s.ae.set q.1.toNat q.2⟩ (((left++M).drop (i+1)).map yf) (ch++[q.1]) out):Dt s ((left.drop i).map yf) ch out:=by
 have hi:i<left.length:=(ZH.1 hp).1
 have PM:left[i]=p:=(ZH.1 hp).2
 have ed:left.drop i=p::left.drop (i+1):=by rw [ZP hi,PM]
 have LS:(left++M).drop (i+1)=left.drop (i+1)++M:=List.drop_append_of_le_length (by omega)
 have g1:=v.cn.rg _ h1
 have g2:=v.cn.rg _ h2
 have gq:Rg s.aa.length q.1∧Rg s.aa.length q.2∧rp s.ae q.1=q.1∧rp s.ae q.2=q.2:=by
  rcases hq with⟨e1,e2⟩| ⟨e1,e2⟩
  ·rw [e1,e2]; exact⟨g1,g2,v.cn.id _ h1,v.cn.id _ h2⟩
  ·rw [e1,e2]; exact⟨g2,g1,v.cn.id _ h2,v.cn.id _ h1⟩
 obtain⟨q1,q2,q3,q4⟩:=gq
 have k8:iY s.ae q.1=q.1:=by have:=v.ok.rt _ (v.rg q1); rwa [q3] at this
 have WN:gN s.aa (rp s.ae) (rp (s.ae.set q.1.toNat q.2)):=gN.LR (fun n hn=>(hr n hn).symm) Dq
 have WO:rp (s.ae.set q.1.toNat q.2) p.kK=rp (s.ae.set q.1.toNat q.2) p.lX:=by
  rw [hr _ h1,hr _ h2]
  rcases hq with⟨e1,e2⟩| ⟨e1,e2⟩
  ·exact xK e1.symm e2.symm hne
  ·exact (xK e1.symm e2.symm hne).symm
 have Om:∀T,Cl s.aa T→gN s.aa (rp s.ae) T→(∀x∈(left.drop i).map yf,T x.1=T x.2)→gN s.aa (rp (s.ae.set q.1.toNat q.2)) T∧∀x∈((left++M).drop (i+1)).map yf,T x.1=T x.2:=by
  intro T cT sT hT
  have tp:T p.kK=T p.lX:=hT (yf p) (by rw [ed]; simp)
  have ta:T (rp s.ae p.kK)=T p.kK:=sT _ _ g1 h1 (v.cn.id _ h1)
  have tb:T (rp s.ae p.lX)=T p.lX:=sT _ _ g2 h2 (v.cn.id _ h2)
  have tt:T (rp s.ae p.kK)=T (rp s.ae p.lX):=by rw [ta,tb,tp]
  refine⟨gN.congr hr (EI v.cn q1 q2 sT ?_),fun x hx=>?_⟩
  ·rcases hq with⟨e1,e2⟩| ⟨e1,e2⟩
   ·rw [e1,e2]; exact tt
   ·rw [e1,e2]; exact tt.symm
  ·rw [LS,Z7] at hx
   rcases aaa.1 hx with hx | hx
   ·exact hT x (by rw [ed]; simp only [Z0]; exact List.mem_cons_of_mem _ hx)
   ·obtain⟨y,hy,rfl⟩:=aah.1 hx
    exact hM T cT tt y hy
 match out,h with
 | .inl (G3,b,s'),⟨hb,l,e,u,v',hl,hT⟩=>
  exact⟨hb,q.1::l,by rw [e]; simp,Ds.step (v.rg q1) k8 hne u,v',by simpa using hl,fun T cT sT pT=>by
   obtain⟨k1,k2⟩:=Om T cT sT pT
   exact hT T cT k1 k2⟩
 | .inr (G3,J6,i',s'),⟨l,e,u,v',hl,hc,hs,Pl,hT⟩=>
  refine⟨q.1::l,by rw [e]; simp,Ds.step (v.rg q1) k8 hne u,v',by simpa using hl,hc,WN.trans hs,fun x hx=>?_,fun T cT sT pT=>?_⟩
  ·rw [ed] at hx
   simp only [Z0] at hx
   rcases ZZ.1 hx with rfl | hx
   ·exact hs _ _ h1 h2 WO
   ·exact Pl x (by rw [LS,Z7]; exact aat _ hx)
  ·obtain⟨k1,k2⟩:=Om T cT sT pT
   exact hT T cT k1 k2
theorem Du {a b:List Int}{x:bo}(h:x∈sj a b):∃i:Nat,a[i]? = some x.kK∧b[i]? = some x.lX:=by
 unfold sj at h
 obtain⟨p,hp,rfl⟩:=aah.1 h
 obtain⟨i,hi⟩:=aav hp
 rw [List.getElem?_zip_eq_some] at hi
 exact⟨i,hi⟩
theorem Jf {a b:List Int}{i:Nat}{x y:Int}(h1:a[i]? = some x)(h2:b[i]? = some y):(x,y)∈(sj a b).map yf:=by
 unfold sj
 rw [List.map_map]
 refine aah.2 ⟨(x,y),?_,rfl⟩
 exact ZK (i:=i) (List.getElem?_zip_eq_some.2 ⟨h1,h2⟩)
theorem qT {m:Nat}(hm:16000≤m):∀(k:Nat) (s:ab) (ch:List Int) (left:List bo) (i:Nat),i≤left.length→9*(s.aa.length - rM s.ae)+(left.length - i)<k→left.length≤1+8*rM s.ae→ch.length≤rM s.ae→Inv s→
  (∀p∈left,Rg s.aa.length p.kK∧Rg s.aa.length p.lX)→si s.aa (rp s.ae) ((left.drop i).map yf)→∃out,aB.l0 m k ch left (i:Int) s=some out∧Dt s ((left.drop i).map yf) ch out
 | 0,s,ch,left,i,h1,h2,h3,h4,v,hin,hp=>by omega
 | k+1,s,ch,left,i,h1,h2,h3,h4,v,hin,hp=>by
  have n1:=xG s.ae
  have n2:=v.len
  have n3:=v.max
  simp only [aB.l0]
  by_cases hi:i<left.length
  rotate_left
  ·have d:decide ((i:Int)<(left.length:Int))=false:=by rw [decide_eq_false_iff_not]; omega
   rw [if_neg (by rw [d]; decide)]
   have hd:left.drop i=[]:=aaU (by omega)
   rw [hd] at hp ⊢
   exact⟨_,rfl,[],by simp,Ds.refl s,v,by simp; omega,G0 hp,fun _ _ _ _ h=>h,fun x hx=>by simp at hx,fun T _ s _=>s⟩
  have d:decide ((i:Int)<(left.length:Int))=true:=by rw [decide_eq_true_eq]; omega
  have ep:=ZG hi
  generalize left[i]=p at ep
  obtain⟨ra,rb⟩:=hin p (ZK ep)
  have ed:left.drop i=p::left.drop (i+1):=by
   rw [ZP hi]; congr 1
   exact (ZH.1 ep).2
  have ew:i64.wrap ((i:Int)+1)=((i+1:Nat):Int):=by rw [jT (by omega) (by omega)]; omega
  rw [if_pos d,uj ep]
  simp only [ZB,vQ hm v ra,vQ hm v rb,ew]
  have ga:=v.cn.rg _ ra
  have gb:=v.cn.rg _ rb
  have Pl:si s.aa (rp s.ae) (yf p::(left.drop (i+1)).map yf):=by rw [ed] at hp; exact hp
  by_cases he:rp s.ae p.kK=rp s.ae p.lX
  ·have c1:(rp s.ae p.kK==rp s.ae p.kK&&rp s.ae p.lX==rp s.ae p.kK)=true:=by simp [he]
   rw [if_pos c1]
   obtain⟨out,e1,e2⟩:=qT hm k s ch left (i+1) (by omega) (by omega) h3 h4 v hin (EJ Pl ra rb he)
   refine⟨out,e1,?_⟩
   match out,e2 with
   | .inl (G3,b,s'),⟨hb,l,e,u,v',hl,hT⟩=>
    exact⟨hb,l,e,u,v',hl,fun T cT sT pT=>hT T cT sT fun x hx=>pT x (by rw [ed]; simp only [Z0]; exact List.mem_cons_of_mem _ hx)⟩
   | .inr (G3,J6,i',s'),⟨l,e,u,v',hl,hc,hs,hq,hT⟩=>
    refine⟨l,e,u,v',hl,hc,hs,fun x hx=>?_,fun T cT sT pT=>hT T cT sT fun x hx=>pT x (by rw [ed]; simp only [Z0]; exact List.mem_cons_of_mem _ hx)⟩
    rw [ed] at hx
    simp only [Z0] at hx
    rcases ZZ.1 hx with rfl | hx
    ·exact hs _ _ ra rb he
    ·exact hq x hx
  ·have c1:¬(rp s.ae p.kK==rp s.ae p.kK&&rp s.ae p.lX==rp s.ae p.kK)=true:=by
    simp only [BEq.rfl,aba,beq_iff_eq]; exact fun h=>he h.symm
   rw [if_neg c1]
   simp only [ui ga,ui gb,ZB]
   obtain⟨jv,jr,jn⟩:=v.join ga gb (v.cn.id _ ra) (v.cn.id _ rb) he
   have ej:=LQ (m:=m) ga gb v.len
   obtain⟨ob,oq⟩:=vP (N:=s.aa) (rp s.ae p.kK) (rp s.ae p.lX)
   have hne:(kL s.aa (rp s.ae p.kK) (rp s.ae p.lX)).2≠(kL s.aa (rp s.ae p.kK) (rp s.ae p.lX)).1:=by
    rcases oq with⟨e1,e2⟩| ⟨e1,e2⟩
    ·rw [e1,e2]; exact fun h=>he h.symm
    ·rw [e1,e2]; exact he
   generalize kL s.aa (rp s.ae p.kK) (rp s.ae p.lX)=q at *
   have UZ:(q.1=rp s.ae p.kK∧q.2=rp s.ae p.lX)∨(q.1=rp s.ae p.lX∧q.2=rp s.ae p.kK):=oq
   have n4:=xG (s.ae.set q.1.toNat q.2)
   rw [ZO,jn] at n4
   have U0:∀M:List bo,M.length≤8→(∀x∈M,Rg s.aa.length x.kK∧Rg s.aa.length x.lX)→
     (∀T,Cl s.aa T→T (rp s.ae p.kK)=T (rp s.ae p.lX)→∀x∈M,T x.kK=T x.lX)→
     (gA s.aa (rp s.ae p.kK)→gA s.aa (rp s.ae p.lX)→iv (de s.aa (rp s.ae p.kK)) (de s.aa (rp s.ae p.lX))∧∀(i:Nat) (a b:Int),(de s.aa (rp s.ae p.kK)).args[i]? = some a→(de s.aa (rp s.ae p.lX)).args[i]? = some b→(a,b)∈M.map yf)→
     ∃out,((app 8 ch [q.1]).bind fun x=>aB.l0 m k x (left++M) ((i+1:Nat):Int) ⟨s.aj,s.aa,s.ae.set q.1.toNat q.2⟩)=some out∧Dt s ((left.drop i).map yf) ch out:=by
    intro M Zi WQ WR WS
    rw [xL (by simp only [ZU,Z8]; omega),ZB]
    have LS:((left++M).drop (i+1)).map yf=(left.drop (i+1)).map yf++M.map yf:=by
     rw [List.drop_append_of_le_length (by omega),Z7]
    have jn:rM (s.ae.set q.1.toNat q.2)=rM s.ae+1:=jn
    obtain⟨out,e1,e2⟩:=qT hm k ⟨s.aj,s.aa,s.ae.set q.1.toNat q.2⟩ (ch++[q.1]) (left++M) (i+1) (by rw [ZM]; omega)
     (by show 9*(s.aa.length - rM (s.ae.set q.1.toNat q.2))+_<k; rw [jn,ZM]; omega) (by show _≤1+8*rM (s.ae.set q.1.toNat q.2); rw [jn,ZM]; omega)
     (by show _≤rM (s.ae.set q.1.toNat q.2); rw [jn,ZM]; simp only [ZU,Z8]; omega) jv
     (fun x hx=>(aaa.1 hx).elim (hin x) (WQ x)) (by
      rw [LS]
      exact si.congr jr (EK v.cn (p:=yf p) Pl ra rb UZ hne WS))
    exact⟨out,e1,Je v ep ra rb UZ hne jr WR e2⟩
   have LU:=U0 [] (by simp) (fun x hx=>by simp at hx) (fun T _ _ x hx=>by simp at hx)
   rw [aa2] at LU
   by_cases k1:(de s.aa (rp s.ae p.kK)).kind=0
   ·have b1:(!((de s.aa (rp s.ae p.kK)).kind==(0:Int)))=false:=by rw [k1]; rfl
    rw [b1,if_neg (by decide),ej]
    exact LU fun h=>absurd k1 h
   have b1:(!((de s.aa (rp s.ae p.kK)).kind==(0:Int)))=true:=by simpa using k1
   rw [b1,if_pos rfl]
   by_cases k2:(de s.aa (rp s.ae p.lX)).kind=0
   ·have b2:(!((de s.aa (rp s.ae p.lX)).kind==(0:Int)))=false:=by rw [k2]; rfl
    rw [b2,if_neg (by decide),ej]
    exact LU fun _ h=>absurd k2 h
   have b2:(!((de s.aa (rp s.ae p.lX)).kind==(0:Int)))=true:=by simpa using k2
   rw [b2,if_pos rfl]
   obtain⟨df,WT,LS⟩:=G2 (m:=m) (de s.aa (rp s.ae p.kK)) (de s.aa (rp s.ae p.lX))
   rw [WT,ZB]
   cases df with
   | true=>
    refine⟨_,rfl,rfl,[],by simp,Ds.refl s,v,by simp; omega,fun T cT sT pT=>?_⟩
    have tp:T p.kK=T p.lX:=pT (yf p) (by rw [ed]; simp)
    have ta:T (rp s.ae p.kK)=T p.kK:=sT _ _ ga ra (v.cn.id _ ra)
    have tb:T (rp s.ae p.lX)=T p.lX:=sT _ _ gb rb (v.cn.id _ rb)
    have:=(cT _ _ ga gb (by rw [ta,tb,tp]) k1 k2).1
    have:=LS.2 this
    cases this
   | false=>
    have tp:=LS.1 rfl
    have a8:=(v.args _ (fm ga)).1
    have el:aB.l1 m (de s.aa (rp s.ae p.kK)) (de s.aa (rp s.ae p.lX)) m left 0 s=some (left++sj ((de s.aa (rp s.ae p.kK)).args.drop 0) ((de s.aa (rp s.ae p.lX)).args.drop 0),((de s.aa (rp s.ae p.kK)).args.length:Int),s):=vR tp.2.2.2 a8 m left 0 (aai _) (by omega) (by omega)
    rw [if_neg (by decide),el]
    simp only [ZB,aam,ej]
    refine U0 (sj (de s.aa (rp s.ae p.kK)).args (de s.aa (rp s.ae p.lX)).args) ?_ (fun x hx=>?_) (fun T cT hT x hx=>?_) (fun _ _=>⟨tp,fun i a b ha hb=>Jf ha hb⟩)
    ·unfold sj; rw [ZR,List.length_zip]; omega
    ·obtain⟨j,j1,j2⟩:=Du hx
     exact⟨(v.args _ (fm ga)).2 _ (ZK j1),(v.args _ (fm gb)).2 _ (ZK j2)⟩
    ·obtain⟨j,j1,j2⟩:=Du hx
     exact (cT _ _ ga gb hT k1 k2).2 j _ _ j1 j2
end
end Go.Proofs.Ytifafejidnjckaa
namespace Go.Proofs.Ytifafejidnjckaa
open Go Go.R Go.Uf
open Go.IntKind (i64 u64 u8 u32)
section
variable {m:Nat}{s s':ab}
theorem vS {a b:ab}(h1:a.aj=b.aj)(h2:a.aa=b.aa)(h3:a.ae=b.ae):a=b:=by
 cases a; cases b; cases h1; cases h2; cases h3; rfl
theorem LV {a b:List Int}(hl:a.length=b.length)(h:∀n,Rg b.length n→iY a n=iY b n):a=b:=by
 refine aaL fun i=>?_
 by_cases hi:i<b.length
 ·have r:Rg b.length (i:Int):=⟨aaY _,by omega⟩
  have e1:=sD (to:=b) r
  have e2:=sD (to:=a) (n:=(i:Int)) (by rw [hl]; exact r)
  rw [ZQ] at e1 e2
  rw [e1,e2,h _ r]
 ·rw [Z5 (by omega),Z5 (by omega)]
theorem Dv (l:List Int)(hl:l.length≤8000)(s:ab)(hs:∀n∈l,Rg s.ae.length n∧iY s.ae n=n):∀(k:Nat) (i:Nat) (s':ab),i≤l.length→l.length - i<k→s'.aj=s.aj→s'.aa=s.aa→s'.ae.length=s.ae.length→(∀n,Rg s.ae.length n→n∉l.drop i→iY s'.ae n=iY s.ae n)→
  bu.l0 m l k (i:Int) s'=some ((l.length:Int),s)
 | 0,i,s',h1,h2,_,_,_,_=>by omega
 | k+1,i,s',h1,h2,e1,e2,e3,h=>by
  simp only [bu.l0]
  by_cases hi:i<l.length
  ·have d:decide ((i:Int)<(l.length:Int))=true:=by rw [decide_eq_true_eq]; omega
   have el:=ZG hi
   have ed:l.drop i=l[i]::l.drop (i+1):=ZP hi
   generalize l[i]=n at el ed
   obtain⟨rn,sn⟩:=hs n (ZK el)
   have U1:Rg s'.ae.length n:=by rw [e3]; exact rn
   have ew:i64.wrap ((i:Int)+1)=((i+1:Nat):Int):=by rw [jT (by omega) (by omega)]; omega
   rw [if_pos d,uj el]
   simp only [ZB,xH U1,ew]
   refine Dv l hl s hs k (i+1) _ (by omega) (by omega) e1 e2 (by show (List.set _ _ _).length=_; rw [ZO,e3]) (fun x hx hm=>?_)
   show iY (s'.ae.set n.toNat n) x=_
   rw [xI U1]
   by_cases he:x.toNat=n.toNat
   ·have:x=n:=by have:=hx.1; have:=rn.1; omega
    rw [if_pos he,this,sn]
   ·rw [if_neg he]
    refine h x hx ?_
    rw [ed]
    simp only [ZZ,not_or]
    exact⟨fun e=>he (by rw [e]),hm⟩
  ·have d:decide ((i:Int)<(l.length:Int))=false:=by rw [decide_eq_false_iff_not]; omega
   rw [if_neg (by rw [d]; decide)]
   have hd:l.drop i=[]:=aaU (by omega)
   have:s'=s:=vS e1 e2 (LV e3 fun n hn=>h n hn (by rw [hd]; simp))
   rw [this]
   congr 2; omega
theorem xM (hm:16000≤m){l:List Int}(hl:l.length≤8000)(u:Ds s s' l):bu.f m s' l=some s:=by
 obtain⟨u1,u2,u3,u4,u5,_⟩:=u
 have:=Dv (m:=m) l hl s u4 m 0 s' (aai _) (by omega) u1 u2 u3 (by rw [aam]; exact u5)
 have this:bu.l0 m l m 0 s'=some ((l.length:Int),s):=this
 simp only [bu.f,this,ZB]
theorem zI {f:Int→Option Bool}{g:Int→Bool}(l:List Int)(hl:l.length≤1000000)(hf:∀x∈l,f x=some (g x)):∀(k i:Nat),i≤l.length→l.length - i<k→
  (∃j:Nat,dp.l0 m l f k (i:Int)=some (.inl (j:Int))∧i≤j∧j<l.length∧(∀x,l[j]? = some x→g x=true)∧∀q,i≤q→q<j→∀x,l[q]? = some x→g x=false)∨
  (∃z,dp.l0 m l f k (i:Int)=some (.inr z)∧∀q,i≤q→∀x,l[q]? = some x→g x=false)
 | 0,i,h1,h2=>by omega
 | k+1,i,h1,h2=>by
  simp only [dp.l0]
  by_cases hi:i<l.length
  ·have d:decide ((i:Int)<(l.length:Int))=true:=by rw [decide_eq_true_eq]; omega
   have el:=ZG hi
   generalize l[i]=n at el
   have ew:i64.wrap ((i:Int)+1)=((i+1:Nat):Int):=by rw [jT (by omega) (by omega)]; omega
   rw [if_pos d,uj el]
   simp only [ZB,hf n (ZK el),ew]
   cases hg:g n with
   | true=>
    left
    refine⟨i,by simp,ZI _,hi,fun x hx=>?_,fun q h3 h4=>by omega⟩
    rw [el] at hx; cases hx; exact hg
   | false=>
    rw [if_neg (by decide)]
    have iY:∀q,i≤q→q≠i→i+1≤q:=fun q h3 h4=>by omega
    rcases zI l hl hf k (i+1) (by omega) (by omega) with⟨j,e,j1,j2,j3,j4⟩| ⟨z,e,j4⟩
    ·left
     refine⟨j,e,by omega,j2,j3,fun q h3 h4 x hx=>?_⟩
     by_cases hq:q=i
     ·subst hq; rw [el] at hx; cases hx; exact hg
     ·exact j4 q (iY q h3 hq) h4 x hx
    ·right
     refine⟨z,e,fun q h3 x hx=>?_⟩
     by_cases hq:q=i
     ·subst hq; rw [el] at hx; cases hx; exact hg
     ·exact j4 q (iY q h3 hq) x hx
  ·have d:decide ((i:Int)<(l.length:Int))=false:=by rw [decide_eq_false_iff_not]; omega
   rw [if_neg (by rw [d]; decide)]
   right
   refine⟨_,rfl,fun q h3 x hx=>?_⟩
   rw [Z5 (by omega)] at hx; cases hx
theorem Dw {f:Int→Option Bool}{g:Int→Bool}(hm:2000000≤m)(l:List Int)(hl:l.length≤1000000)(hf:∀x∈l,f x=some (g x)) :
  (∃j:Nat,dp.f m l f=some (j:Int)∧j<l.length∧(∀x,l[j]? = some x→g x=true)∧∀q,q<j→∀x,l[q]? = some x→g x=false)∨
  (dp.f m l f=some (-1)∧∀x∈l,g x=false):=by
 rcases zI (m:=m) l hl hf m 0 (aai _) (by omega) with⟨j,e,j1,j2,j3,j4⟩| ⟨z,e,j4⟩
 ·left
  have e:dp.l0 m l f m 0=_:=e
  refine⟨j,by simp only [dp.f,e,ZB],j2,j3,fun q=>j4 q (aai _)⟩
 ·right
  have e:dp.l0 m l f m 0=_:=e
  refine⟨by simp only [dp.f,e,ZB],fun x hx=>?_⟩
  obtain⟨q,hq⟩:=aav hx
  exact j4 q (aai _) x hq
theorem uk {f:Int→Option Bool}{g:Int→Bool}(hm:2000000≤m)(l:List Int)(hl:l.length≤1000000)(hf:∀x∈l,f x=some (g x)):fu.f m l f=some (l.any g):=by
 unfold fu.f
 rcases Dw hm l hl hf with⟨j,e,j1,j2,_⟩| ⟨e,h⟩
 ·rw [e,ZB]
  have h1:=ZG j1
  have:l.any g=true:=List.any_eq_true.2 ⟨_,ZK h1,j2 _ h1⟩
  rw [this]
  rw [show decide ((j:Int)≥0)=true by rw [decide_eq_true_eq]; omega]
 ·rw [e,ZB]
  have:l.any g=false:=by
   rw [List.any_eq_false]
   intro x hx; simp [h x hx]
  rw [this]; rfl
theorem og (hm:2000000≤m)(hs:s.aj=true)(l:List Int)(hl:l.length≤1000000):b5.f m s l=some (if l.all (fun n=>decide (Rg s.aa.length n)) then 0 else 1):=by
 unfold b5.f bO.f
 rw [hs]
 simp only [ZB,aaC,ZN,if_false]
 rw [uk hm l hl (g:=fun n=>!decide (Rg s.aa.length n)) (fun x _=>by simp only [dG.f,Dr,ZB])]
 rw [ZB]
 have:(l.any fun n=>!decide (Rg s.aa.length n)) = !(l.all fun n=>decide (Rg s.aa.length n)):=by
  induction l with
  | nil=>rfl
  | cons a l ih=>simp only [List.any_cons,aao,Bool.not_and,ih (by simp only [ZU] at hl; omega)]
 rw [this]
 cases (l.all fun n=>decide (Rg s.aa.length n))<;>rfl
end
end Go.Proofs.Ytifafejidnjckaa
namespace Go.R
open Go
open Go.IntKind (i64 u64 u8 u32)
theorem G4 (x:Int):u64.wrap x=x % 18446744073709551616:=by
 unfold IntKind.wrap; simp [IntKind.signed,IntKind.bits]
theorem LW {x:Int}(h0:0≤x)(h1:x<18446744073709551616):u64.wrap x=x:=by
 rw [G4,Int.emod_eq_of_lt h0 h1]
theorem G5 (x:Int):i64.wrap x=if x % 18446744073709551616≥9223372036854775808 then x % 18446744073709551616 - 18446744073709551616 else x % 18446744073709551616:=by
 unfold IntKind.wrap; simp [IntKind.signed,IntKind.bits]
theorem bU {x:Int}(h0 : -9223372036854775808≤x)(h1:x<9223372036854775808):i64.wrap x=x:=by
 rw [G5]; split<;>omega
end Go.R
namespace Go.Proofs.Ytifafejidnjckaa
open Go Go.R
open Go.IntKind (i64 u64 u8 u32)
def gt (l:List Int)(k:Nat):Int:=l.getD k 0
theorem eQ {l:List Int}{k:Nat}(h:k<l.length):l[k]? = some (gt l k):=by
 unfold gt; rw [ZW,ZG h]; rfl
theorem b8 {l:List Int}{k:Nat}(h:k<l.length):gt l k∈l:=ZK (eQ h)
theorem gw {l:List Int}{k:Nat}(h:k<l.length):ix l (k:Int)=some (gt l k):=by
 unfold ix; rw [if_pos (by omega),ZQ,eQ h]
theorem Br {l:List Int}{i:Int}{k:Nat}(hi:i=(k:Int))(h:k<l.length):ix l i=some (gt l k):=by rw [hi,gw h]
theorem qU {l:List Int}{i k:Nat}{x:Int}(hi:i<l.length):gt (l.set i x) k=if k=i then x else gt l k:=by
 unfold gt
 simp only [ZW,aa4]
 by_cases h:i=k
 ·subst h; simp [hi]
 ·rw [if_neg h,if_neg (by omega)]
theorem LX {l r:List Int}(hl:l.length=r.length)(h:∀k,k<l.length→gt l k=gt r k):l=r:=by
 apply aaL fun k=>?_
 by_cases hk:k<l.length
 ·rw [eQ hk,eQ (hl ▸ hk),h k hk]
 ·rw [Z5 (by omega),Z5 (by omega)]
def swp (l:List Int)(i j:Nat):List Int:=(l.set i (gt l j)).set j (gt l i)
theorem qf {l:List Int}{i j:Nat}(hi:i<l.length)(hj:j<l.length):(swp l i j).Perm l:=by
 have h1:gt l j=l[j]:=by have:=eQ hj; rw [ZG hj] at this; exact (aaf this).symm
 have h2:gt l i=l[i]:=by have:=eQ hi; rw [ZG hi] at this; exact (aaf this).symm
 unfold swp; rw [h1,h2]; exact List.set_set_perm hi hj
theorem mF {l:List Int}{i j k:Nat}(hi:i<l.length)(hj:j<l.length):gt (swp l i j) k=if k=j then gt l i else if k=i then gt l j else gt l k:=by
 unfold swp
 rw [qU (by simpa using hj),qU hi]
theorem um {l:List Int}{i j:Nat}:(swp l i j).length=l.length:=by simp [swp]
theorem zJ {a b:Nat}(h:a+b<9223372036854775808):i64.wrap (jL .u64 (u64.wrap (i64.wrap ((a:Int)+(b:Int)))) 1)=(((a+b) / 2:Nat):Int):=by
 rw [bU (x:=(a:Int)+b) (by omega) (by omega),LW (by omega) (by omega)]
 have:jL .u64 ((a:Int)+(b:Int)) 1=(((a+b) / 2:Nat):Int):=by
  unfold jL
  rw [Int.fdiv_eq_ediv_of_nonneg _ (by decide)]
  show ((a:Int)+(b:Int)) / 2=_
  omega
 rw [this,bU (by omega) (by omega)]
theorem G6 {m:Nat}{l:List Int}{a b n:Nat}(h1:a+n≤b)(h2:b+n≤l.length)(hl:l.length<2 ^ 40):∀(f i:Nat) (d:List Int),n - i<f→i≤n→d.Perm l→
  (∀k,gt d k=if a≤k∧k<a+i then gt l (k - a+b) else if b≤k∧k<b+i then gt l (k - b+a) else gt l k)→
  ∃d' x,ck.l0 m (a:Int) (b:Int) (n:Int) f d (i:Int)=some (d',x)∧d'.Perm l∧(∀k,gt d' k=if a≤k∧k<a+n then gt l (k - a+b) else if b≤k∧k<b+n then gt l (k - b+a) else gt l k)
 | 0,i,d,hf,_,_,_=>absurd hf (by omega)
 | f+1,i,d,hf,hi,hp,hg=>by
  have uI:(2:Nat) ^ 40=1099511627776:=by decide
  have Su:=hp.length_eq
  unfold ck.l0
  by_cases h:i<n
  ·have e1:i64.wrap ((b:Int)+(i:Int))=((b+i:Nat):Int):=by rw [bU (by omega) (by omega)]; omega
   have e2:i64.wrap ((a:Int)+(i:Int))=((a+i:Nat):Int):=by rw [bU (by omega) (by omega)]; omega
   have e3:i64.wrap ((i:Int)+1)=((i+1:Nat):Int):=by rw [bU (by omega) (by omega)]; omega
   rw [if_pos (by simp; omega),e1,e2,e3,gw (by omega),gw (by omega),ZQ,ZQ,ZB,ZB,ZB,gw (by simp; omega),ZB]
   show ∃d' x,ck.l0 m (a:Int) (b:Int) (n:Int) f (swp d (a+i) (b+i)) ((i+1:Nat):Int)=some (d',x)∧_
   refine G6 h1 h2 hl f (i+1) _ (by omega) (by omega) ((qf (by omega) (by omega)).trans hp) fun k=>?_
   rw [mF (by omega) (by omega),hg,hg,hg]
   by_cases k1:k=b+i
   ·subst k1
    rw [if_pos rfl,if_neg (by omega),if_neg (by omega),if_neg (by omega),if_pos (by omega)]
    congr 1; omega
   ·rw [if_neg k1]
    by_cases k2:k=a+i
    ·subst k2
     rw [if_pos rfl,if_neg (by omega),if_neg (by omega),if_pos (by omega)]
     congr 1; omega
    ·rw [if_neg k2]
     by_cases k3:a≤k∧k<a+i
     ·rw [if_pos k3,if_pos (by omega)]
     ·rw [if_neg k3,if_neg (show ¬(a≤k∧k<a+(i+1)) by omega)]
      by_cases k4:b≤k∧k<b+i
      ·rw [if_pos k4,if_pos (by omega)]
      ·rw [if_neg k4,if_neg (by omega)]
  ·have:i=n:=by omega
   subst this
   exact⟨d,i,by rw [if_neg (by simp)],hp,hg⟩
theorem uo {m:Nat}{l:List Int}{a b n:Nat}{cmp:Int→Int→Option Int}(h1:a+n≤b)(h2:b+n≤l.length)(hl:l.length<2 ^ 40)(hm:n<m) :
  ∃d',ck.f m l (a:Int) (b:Int) (n:Int) cmp=some d'∧d'.Perm l∧(∀k,gt d' k=if a≤k∧k<a+n then gt l (k - a+b) else if b≤k∧k<b+n then gt l (k - b+a) else gt l k):=by
 obtain⟨d',x,e,hp,hg⟩:=G6 (m:=m) h1 h2 hl m 0 l (by omega) (by omega) (List.Perm.refl _) (fun k=>by rw [if_neg (by omega),if_neg (by omega)])
 have e:ck.l0 m (a:Int) (b:Int) (n:Int) m l 0=_:=e
 exact⟨d',by unfold ck.f; rw [e]; rfl,hp,hg⟩
def MF (l d:List Int)(p i j:Nat):Prop:=d.Perm l∧(∀k,k<j→gt d (p+k)=gt l (p+i+k))∧(∀k,k<i→gt d (p+j+k)=gt l (p+k))∧∀k,k<p∨p+i+j≤k→gt d k=gt l k
theorem Bs {m:Nat}{q:Nat}{cmp:Int→Int→Option Int}(hm:2 ^ 41≤m):∀(f i j:Nat) (l:List Int),i+j<f→0<i→0<j→i≤q→q+j≤l.length→l.length<2 ^ 40→
  ∃(d':List Int) (x:Nat) (d:List Int),fP.l0 m (q:Int) cmp f l (i:Int) (j:Int)=some (d',(x:Int),(x:Int))∧ck.f m d' (i64.wrap ((q:Int) - (x:Int))) (q:Int) (x:Int) cmp=some d∧MF l d (q - i) i j
 | 0,i,j,l,hf,_,_,_,_,_=>absurd hf (by omega)
 | f+1,i,j,l,hf,hi,hj,hq,hl,hs=>by
  have uI:(2:Nat) ^ 40=1099511627776:=by decide
  have ve:(2:Nat) ^ 41=2199023255552:=by decide
  unfold fP.l0
  have e1:i64.wrap ((q:Int) - (i:Int))=((q - i:Nat):Int):=by rw [bU (by omega) (by omega)]; omega
  by_cases h:i=j
  ·subst h
   rw [if_neg (by simp)]
   obtain⟨d,e,hp,hg⟩:=uo (m:=m) (l:=l) (a:=q - i) (b:=q) (n:=i) (cmp:=cmp) (by omega) (by omega) hs (by omega)
   refine⟨l,i,d,rfl,by rw [e1,e],hp,fun k hk=>?_,fun k hk=>?_,fun k hk=>?_⟩
   ·rw [hg,if_pos (by omega)]; congr 1; omega
   ·rw [hg,if_neg (by omega),if_pos (by omega)]; congr 1; omega
   ·rw [hg,if_neg (by omega),if_neg (by omega)]
  ·rw [if_pos (by simp; omega)]
   by_cases h2:j<i
   ·obtain⟨d1,e,hp,hg⟩:=uo (m:=m) (l:=l) (a:=q - i) (b:=q) (n:=j) (cmp:=cmp) (by omega) (by omega) hs (by omega)
    have hd:=hp.length_eq
    have e2:i64.wrap ((i:Int) - (j:Int))=((i - j:Nat):Int):=by rw [bU (by omega) (by omega)]; omega
    rw [if_pos (by simp; omega),e1,e,ZB,e2]
    obtain⟨d',x,d,k1,k2,k3,k4,k5,k6⟩:=Bs (q:=q) (cmp:=cmp) hm f (i - j) j d1 (by omega) (by omega) hj (by omega) (by omega) (by omega)
    refine⟨d',x,d,k1,k2,k3.trans hp,fun k hk=>?_,fun k hk=>?_,fun k hk=>?_⟩
    ·rw [k6 _ (by omega),hg,if_pos (by omega)]; congr 1; omega
    ·by_cases Sv:k<j
     ·have:=k4 k Sv
      rw [show q - (i - j)+k=q - i+j+k by omega,hg,if_neg (by omega),if_pos (by omega)] at this
      rw [this]; congr 1; omega
     ·have:=k5 (k - j) (by omega)
      rw [show q - (i - j)+j+(k - j)=q - i+j+k by omega,hg,if_neg (by omega),if_neg (by omega)] at this
      rw [this]; congr 1; omega
    ·rw [k6 _ (by omega),hg,if_neg (by omega),if_neg (by omega)]
   ·have e2:i64.wrap (i64.wrap ((q:Int)+(j:Int)) - (i:Int))=((q+j - i:Nat):Int):=by rw [bU (x:=(q:Int)+j) (by omega) (by omega),bU (by omega) (by omega)]; omega
    have e3:i64.wrap ((j:Int) - (i:Int))=((j - i:Nat):Int):=by rw [bU (by omega) (by omega)]; omega
    obtain⟨d1,e,hp,hg⟩:=uo (m:=m) (l:=l) (a:=q - i) (b:=q+j - i) (n:=i) (cmp:=cmp) (by omega) (by omega) hs (by omega)
    have hd:=hp.length_eq
    rw [if_neg (by simp; omega),e1,e2,e,ZB,e3]
    obtain⟨d',x,d,k1,k2,k3,k4,k5,k6⟩:=Bs (q:=q) (cmp:=cmp) hm f i (j - i) d1 (by omega) hi (by omega) hq (by omega) (by omega)
    refine⟨d',x,d,k1,k2,k3.trans hp,fun k hk=>?_,fun k hk=>?_,fun k hk=>?_⟩
    ·by_cases Sv:k<j - i
     ·rw [k4 k Sv,hg,if_neg (by omega),if_neg (by omega)]
     ·have:=k5 (k - (j - i)) (by omega)
      rw [show q - i+(j - i)+(k - (j - i))=q - i+k by omega,hg,if_pos (by omega)] at this
      rw [this]; congr 1; omega
    ·rw [k6 _ (by omega),hg,if_neg (by omega),if_pos (by omega)]; congr 1; omega
    ·rw [k6 _ (by omega),hg,if_neg (by omega),if_neg (by omega)]
theorem G7 {m:Nat}{a q b:Nat}{cmp:Int→Int→Option Int}{l:List Int}(hm:2 ^ 41≤m)(h1:a<q)(h2:q<b)(h3:b≤l.length)(hs:l.length<2 ^ 40) :
  ∃d,fP.f m l (a:Int) (q:Int) (b:Int) cmp=some d∧MF l d a (q - a) (b - q):=by
 have uI:(2:Nat) ^ 40=1099511627776:=by decide
 have ve:(2:Nat) ^ 41=2199023255552:=by decide
 obtain⟨d',x,d,k1,k2,k3⟩:=Bs (q:=q) (cmp:=cmp) hm m (q - a) (b - q) l (by omega) (by omega) (by omega) (by omega) (by omega) hs
 rw [show q - (q - a)=a by omega] at k3
 refine⟨d,?_,k3⟩
 unfold fP.f
 rw [show i64.wrap ((q:Int) - (a:Int))=((q - a:Nat):Int) by rw [bU (by omega) (by omega)]; omega,show i64.wrap ((b:Int) - (q:Int))=((b - q:Nat):Int) by rw [bU (by omega) (by omega)]; omega,k1,ZB]
 dsimp only
 rw [k2]; rfl
end Go.Proofs.Ytifafejidnjckaa
namespace Go.Proofs.Ytifafejidnjckaa
open Go Go.R
open Go.IntKind (i64 u64 u8 u32)
def om (c:Int):Bool:=decide (97≤c∧c≤122)||decide (65≤c∧c≤90)||decide (48≤c∧c≤57)||c==95
theorem zK {m:Nat}(c:Int):gD.f m c=some (om c):=by
 unfold gD.f
 by_cases h1:97≤c<;>by_cases h2:c≤122<;>by_cases h3:65≤c<;>by_cases h4:c≤90<;>by_cases h5:48≤c<;>by_cases h6:c≤57<;>simp [om,h1,h2,h3,h4,h5,h6]<;>omega
theorem Dx {s:ByteArray}{i:Nat}(h:i<s.size):∃c:UInt8,s.data.toList[i]? = some c∧bt s (i:Int)=some (c.toNat:Int):=by
 have h':i<s.data.toList.length:=by simpa using h
 refine⟨s.data.toList[i],ZG h',?_⟩
 unfold bt; rw [if_pos (by omega),ZQ,ZG h']; rfl
theorem Dy {m:Nat}{s:ByteArray}(hs:s.size≤16):∀(f i:Nat),s.size - i<f→i≤s.size→
  ∃o,dC.l0 m s f (i:Int)=some o∧((∃x,o = .inr x)∧((s.data.toList.drop i).all fun c=>om (c.toNat:Int))=true∨o = .inl false∧((s.data.toList.drop i).all fun c=>om (c.toNat:Int))=false)
 | 0,i,hf,_=>absurd hf (by omega)
 | f+1,i,hf,hi=>by
  unfold dC.l0
  by_cases h:i<s.size
  ·obtain⟨c,hc,hb⟩:=Dx h
   obtain⟨h4,h5⟩:=ZH.1 hc
   have hd:s.data.toList.drop i=c::s.data.toList.drop (i+1):=by rw [←h5]; exact ZP h4
   rw [if_pos (by simp only [decide_eq_true_eq]; omega),hb,ZB,zK,ZB,hd,aao]
   cases hl:om (c.toNat:Int) with
   | false=>exact⟨_,rfl,.inr ⟨rfl,rfl⟩⟩
   | true=>
    obtain⟨o,h1,h2⟩:=Dy (m:=m) hs f (i+1) (by omega) (by omega)
    rw [if_neg (by simp),bU (by omega) (by omega),show (i:Int)+1=((i+1:Nat):Int) by omega,h1]
    exact⟨o,rfl,by simpa using h2⟩
  ·refine⟨_,by rw [if_neg (by simp only [decide_eq_true_eq]; omega)],.inl ⟨⟨_,rfl⟩,?_⟩⟩
   rw [aaU (by simp; omega)]; rfl
def Dz (s:ByteArray)(lo hi:Int):Bool:=match s.data.toList with
 | []=>false
 | c::cs=>decide (cs.length≤15)&&decide (lo≤(c.toNat:Int))&&decide ((c.toNat:Int)≤hi)&&((c::cs).all fun c=>om (c.toNat:Int))
theorem EL {m:Nat}(hm:20≤m)(s:ByteArray)(lo hi:Int):dC.f m s lo hi=some (Dz s lo hi):=by
 have hsz:s.size=s.data.toList.length:=by simp
 unfold dC.f Dz
 cases hl:s.data.toList with
 | nil=>rw [if_pos (by rw [hl,Z8] at hsz; simp only [decide_eq_true_eq]; omega)]
 | cons c cs=>
  rw [hl,ZU] at hsz
  rw [if_neg (by simp only [decide_eq_true_eq]; omega)]
  dsimp only
  by_cases h16:cs.length≤15
  ·obtain⟨c',h1,h2⟩:=Dx (s:=s) (i:=0) (by omega)
   rw [hl] at h1
   simp only [aag,ZE] at h1
   subst h1
   have h2:bt s 0=_:=h2
   rw [if_neg (by simp only [decide_eq_true_eq]; omega),h2,ZB]
   by_cases h3:(c.toNat:Int)<lo
   ·rw [if_pos (by simpa using h3)]
    simp only [ZE]
    rw [show decide (lo≤(c.toNat:Int))=false by simp; omega]; simp
   rw [if_neg (by simpa using h3),ZB]
   by_cases h4:(c.toNat:Int) > hi
   ·rw [if_pos (by simpa using h4)]
    simp only [ZE]
    rw [show decide ((c.toNat:Int)≤hi)=false by simp; omega]; simp
   rw [if_neg (by simpa using h4)]
   obtain⟨o,k1,k2⟩:=Dy (m:=m) (s:=s) (by omega) m 0 (by omega) (by omega)
   have k1:dC.l0 m s m 0=_:=k1
   rw [k1,ZB]
   rw [aam,hl] at k2
   rw [show decide (lo≤(c.toNat:Int))=true by simp; omega,show decide ((c.toNat:Int)≤hi)=true by simp; omega,show decide (cs.length≤15)=true by simpa using h16]
   simp only [aba]
   rcases k2 with⟨⟨x,rfl⟩,k⟩| ⟨rfl,k⟩
   ·rw [k]
   ·rw [k]
  ·rw [if_pos (by simp only [decide_eq_true_eq]; omega),show decide (cs.length≤15)=false by simp; omega]; rfl
def oK (s:ByteArray):Bool:=s.data.toList==[124]||s.data.toList==[35]||Dz s 97 122
theorem oo {m:Nat}(hm:20≤m)(s:ByteArray):gv.f m s=some (oK s):=by
 unfold gv.f oK
 show (if (s.data.toList==[124])=true then _ else if (s.data.toList==[35])=true then _ else _)=_
 cases h1:s.data.toList==[124] with
 | true=>rfl
 | false=>
  cases h2:s.data.toList==[35] with
  | true=>rfl
  | false=>rw [EL hm]; rfl
theorem vT {s:ByteArray}(h:oK s=true):1≤s.size∧s.size≤16:=by
 have hsz:s.size=s.data.toList.length:=by simp
 unfold oK at h
 simp only [aar,beq_iff_eq] at h
 rcases h with (h | h) | h
 ·rw [h] at hsz; simp at hsz; omega
 ·rw [h] at hsz; simp at hsz; omega
 ·unfold Dz at h
  split at h
  ·cases h
  ·rename_i c cs hl
   rw [hl] at hsz
   simp only [ZF,decide_eq_true_eq] at h
   simp at hsz; omega
def zL (s:ByteArray):Bool:=s.data.toList==[112,114,111,99]||s.data.toList==[99,101,108,108]||s.data.toList==[112,111,114,116]
theorem vU {m:Nat}(s:ByteArray):gK.f m s=some (zL s):=by
 unfold gK.f zL
 show (if (s.data.toList==[112,114,111,99])=true then _ else if (s.data.toList==[99,101,108,108])=true then _ else some (s.data.toList==[112,111,114,116]))=_
 cases h1:s.data.toList==[112,114,111,99] with
 | true=>rfl
 | false=>
  cases h2:s.data.toList==[99,101,108,108] with
  | true=>rfl
  | false=>rfl
theorem G8 {m:Nat}{s:List Int}{f0:Int→Option Bool}{g:Int→Bool}(hs:s.length<2 ^ 40)(C:∀x∈s,f0 x=some (g x)):∀(f i:Nat),s.length - i<f→i≤s.length→
  ∃o,dp.l0 m s f0 f (i:Int)=some o∧((∃x,o = .inr x)∧(s.drop i).any g=false∨(∃x:Nat,o = .inl (x:Int))∧(s.drop i).any g=true)
 | 0,i,hf,_=>absurd hf (by omega)
 | f+1,i,hf,hi=>by
  have uI:(2:Nat) ^ 40=1099511627776:=by decide
  unfold dp.l0
  by_cases h:i<s.length
  ·have hx:ix s (i:Int)=some s[i]:=by unfold ix; rw [if_pos (by omega)]; simp [h]
   rw [if_pos (by simp only [decide_eq_true_eq]; omega),hx,ZB,C _ (List.getElem_mem h),ZB,ZP h,List.any_cons]
   cases g s[i] with
   | true=>exact⟨_,rfl,.inr ⟨⟨i,rfl⟩,rfl⟩⟩
   | false=>
    obtain⟨o,h1,h2⟩:=G8 (m:=m) hs C f (i+1) (by omega) (by omega)
    rw [if_neg (by simp),bU (by omega) (by omega),show (i:Int)+1=((i+1:Nat):Int) by omega,h1]
    exact⟨o,rfl,by simpa using h2⟩
  ·refine⟨_,by rw [if_neg (by simp only [decide_eq_true_eq]; omega)],.inl ⟨⟨_,rfl⟩,?_⟩⟩
   rw [aaU (by omega)]; rfl
theorem EM {m:Nat}{s:List Int}{f0:Int→Option Bool}{g:Int→Bool}(hs:s.length<2 ^ 40)(hm:s.length<m)(C:∀x∈s,f0 x=some (g x)):fu.f m s f0=some (s.any g):=by
 obtain⟨o,h1,h2⟩:=G8 (m:=m) hs C m 0 (by omega) (by omega)
 have h1:dp.l0 m s f0 m 0=_:=h1
 unfold fu.f dp.f
 rw [h1,ZB]
 rw [aam] at h2
 rcases h2 with⟨⟨x,rfl⟩,k⟩| ⟨⟨x,rfl⟩,k⟩
 ·rw [k]; rfl
 ·rw [k]
  simp only [ZB,ZE]
  simp
theorem G9 {m:Nat}{s:List ak}{f0:ak→Option Bool}{g:ak→Bool}(hs:s.length<2 ^ 40)(C:∀x∈s,f0 x=some (g x)):∀(f i:Nat),s.length - i<f→i≤s.length→
  ∃o,fO.l0 m s f0 f (i:Int)=some o∧((∃x,o = .inr x)∧(s.drop i).any g=false∨(∃x:Nat,o = .inl (x:Int))∧(s.drop i).any g=true)
 | 0,i,hf,_=>absurd hf (by omega)
 | f+1,i,hf,hi=>by
  have uI:(2:Nat) ^ 40=1099511627776:=by decide
  unfold fO.l0
  by_cases h:i<s.length
  ·have hx:ix s (i:Int)=some s[i]:=by unfold ix; rw [if_pos (by omega)]; simp [h]
   rw [if_pos (by simp only [decide_eq_true_eq]; omega),hx,ZB,C _ (List.getElem_mem h),ZB,ZP h,List.any_cons]
   cases g s[i] with
   | true=>exact⟨_,rfl,.inr ⟨⟨i,rfl⟩,rfl⟩⟩
   | false=>
    obtain⟨o,h1,h2⟩:=G9 (m:=m) hs C f (i+1) (by omega) (by omega)
    rw [if_neg (by simp),bU (by omega) (by omega),show (i:Int)+1=((i+1:Nat):Int) by omega,h1]
    exact⟨o,rfl,by simpa using h2⟩
  ·refine⟨_,by rw [if_neg (by simp only [decide_eq_true_eq]; omega)],.inl ⟨⟨_,rfl⟩,?_⟩⟩
   rw [aaU (by omega)]; rfl
theorem EN {m:Nat}{s:List ak}{f0:ak→Option Bool}{g:ak→Bool}(hs:s.length<2 ^ 40)(hm:s.length<m)(C:∀x∈s,f0 x=some (g x)):ib.f m s f0=some (s.any g):=by
 obtain⟨o,h1,h2⟩:=G9 (m:=m) hs C m 0 (by omega) (by omega)
 have h1:fO.l0 m s f0 m 0=_:=h1
 unfold ib.f fO.f
 rw [h1,ZB]
 rw [aam] at h2
 rcases h2 with⟨⟨x,rfl⟩,k⟩| ⟨⟨x,rfl⟩,k⟩
 ·rw [k]; rfl
 ·rw [k]
  simp only [ZB,ZE]
  simp
def fN (n:ak)(size:Int):Bool:=
 if n.kind=0 then decide (0≤n.int)&&n.label.data.toList==[]&&n.args.isEmpty
 else if n.kind=1 then decide (-1099511627776≤n.int)&&decide (n.int≤1099511627776)&&n.label.data.toList==[]&&n.args.isEmpty
 else if n.kind=2 then n.int==0&&oK n.label&&n.args.isEmpty
 else if n.kind=3 then n.int==0&&oK n.label&&decide (1≤n.args.length)&&decide (n.args.length≤8)&&n.args.all fun a=>decide (0≤a)&&decide (a<size)
 else if n.kind=4 then decide (0≤n.int)&&zL n.label&&n.args.isEmpty
 else false
theorem Jg (l:List Int):((l.length:Int)==(0:Int))=l.isEmpty:=by cases l<;>simp; omega
theorem EO {m:Nat}(hm:20≤m)(n:ak)(size:Int):iX.f m n size=some (fN n size):=by
 unfold iX.f fN
 by_cases k0:n.kind=0
 ·rw [if_pos (by simpa using k0),if_pos k0]
  by_cases h1:0≤n.int
  ·rw [if_pos (by simpa using h1),show decide (0≤n.int)=true by simpa using h1]
   show (if (n.label.data.toList==[])=true then _ else _)=_
   cases n.label.data.toList==[] with
   | true=>rw [if_pos rfl,Jg]; rfl
   | false=>rfl
  ·rw [if_neg (by simpa using h1),show decide (0≤n.int)=false by simp; omega]; rfl
 rw [if_neg (by simpa using k0),if_neg k0]
 by_cases k1:n.kind=1
 ·rw [if_pos (by simpa using k1),if_pos k1]
  by_cases h1 : -1099511627776≤n.int
  ·rw [if_pos (by simpa using h1),show decide (-1099511627776≤n.int)=true by simpa using h1]
   by_cases h3:n.int≤1099511627776
   ·rw [if_pos (by simpa using h3),show decide (n.int≤1099511627776)=true by simpa using h3]
    show (if (n.label.data.toList==[])=true then _ else _)=_
    cases n.label.data.toList==[] with
    | true=>rw [if_pos rfl,Jg]; rfl
    | false=>rfl
   ·rw [if_neg (by simpa using h3),show decide (n.int≤1099511627776)=false by simp; omega]; rfl
  ·rw [if_neg (by simpa using h1),show decide (-1099511627776≤n.int)=false by simp; omega]; rfl
 rw [if_neg (by simpa using k1),if_neg k1]
 by_cases k2:n.kind=2
 ·rw [if_pos (by simpa using k2),if_pos k2]
  cases h1:n.int==0 with
  | false=>rfl
  | true=>
   rw [if_pos rfl,oo hm,ZB]
   cases oK n.label with
   | false=>rfl
   | true=>rw [if_pos rfl,Jg]; rfl
 rw [if_neg (by simpa using k2),if_neg k2]
 by_cases k3:n.kind=3
 ·rw [if_pos (by simpa using k3),if_pos k3]
  cases h1:n.int==0 with
  | false=>rfl
  | true=>
   rw [if_pos rfl,oo hm,ZB]
   cases oK n.label with
   | false=>rfl
   | true=>
    rw [if_pos rfl]
    by_cases g1:1≤n.args.length
    ·rw [if_pos (by simp only [decide_eq_true_eq]; omega),show decide (1≤n.args.length)=true by simpa using g1]
     by_cases g2:n.args.length≤8
     ·rw [if_pos (by simp only [decide_eq_true_eq]; omega),show decide (n.args.length≤8)=true by simpa using g2]
      rw [EM (g:=fun a=>!(decide (0≤a)&&decide (a<size))) (by omega) (by omega) (fun a _=>by
       unfold hZ.f
       by_cases w:a<0
       ·rw [if_pos (by simpa using w),show decide (0≤a)=false by simp; omega]; rfl
       ·rw [if_neg (by simpa using w),show decide (0≤a)=true by simp; omega]
        by_cases w2:a<size
        ·rw [show decide (a≥size)=false from decide_eq_false (by omega),show decide (a<size)=true from decide_eq_true w2]; rfl
        ·rw [show decide (a≥size)=true from decide_eq_true (by omega),show decide (a<size)=false from decide_eq_false w2]; rfl),ZB]
      simp [List.not_any_eq_all_not]
     ·rw [if_neg (by simp only [decide_eq_true_eq]; omega),show decide (n.args.length≤8)=false from decide_eq_false g2]; rfl
    ·rw [if_neg (by simp only [decide_eq_true_eq]; omega),show decide (1≤n.args.length)=false from decide_eq_false g1]; rfl
 rw [if_neg (by simpa using k3),if_neg k3]
 by_cases k4:n.kind=4
 ·rw [if_pos (by simpa using k4),if_pos k4]
  by_cases h1:0≤n.int
  ·rw [if_pos (by simpa using h1),show decide (0≤n.int)=true by simpa using h1,vU,ZB]
   cases zL n.label with
   | false=>rfl
   | true=>rw [if_pos rfl,Jg]; rfl
  ·rw [if_neg (by simpa using h1),show decide (0≤n.int)=false by simp; omega]; rfl
 rw [if_neg (by simpa using k4),if_neg k4]
end Go.Proofs.Ytifafejidnjckaa
namespace Go.Proofs.Ytifafejidnjckaa
open Go Go.R
open Go.IntKind (i64 u64 u8 u32)
structure Mv (lo hi:Nat)(l d:List Int):Prop where
 perm:d.Perm l
 out:∀k,k<lo∨hi≤k→gt d k=gt l k
 im:∀k,lo≤k→k<hi→∃k',lo≤k'∧k'<hi∧gt d k=gt l k'
theorem Mv.refl {lo hi:Nat}{l:List Int}:Mv lo hi l l:=⟨List.Perm.refl _,fun _ _=>rfl,fun k h1 h2=>⟨k,h1,h2,rfl⟩⟩
theorem Mv.trans {lo hi:Nat}{l d e:List Int}(a:Mv lo hi l d)(b:Mv lo hi d e):Mv lo hi l e:=
 ⟨b.perm.trans a.perm,fun k hk=>(b.out k hk).trans (a.out k hk),fun k h1 h2=>by
  obtain⟨k',g1,g2,g3⟩:=b.im k h1 h2
  obtain⟨WU,g4,g5,g6⟩:=a.im k' g1 g2
  exact⟨WU,g4,g5,g3.trans g6⟩⟩
theorem Mv.length {lo hi:Nat}{l d:List Int}(a:Mv lo hi l d):d.length=l.length:=a.perm.length_eq
theorem Mv.wide {lo hi HV jY:Nat}{l d:List Int}(a:Mv lo hi l d)(h1:HV≤lo)(h2:hi≤jY):Mv HV jY l d:=
 ⟨a.perm,fun k hk=>a.out k (by omega),fun k h3 h4=>by
  by_cases h:lo≤k∧k<hi
  ·obtain⟨k',g1,g2,g3⟩:=a.im k h.1 h.2
   exact⟨k',by omega,by omega,g3⟩
  ·exact⟨k,h3,h4,a.out k (by omega)⟩⟩
theorem Bu {lo hi i j:Nat}{l:List Int}(OY:lo≤i)(BM:i<hi)(Pf:lo≤j)(H3:j<hi)(h:hi≤l.length):Mv lo hi l (swp l i j):=
 ⟨qf (by omega) (by omega),fun k hk=>by rw [mF (by omega) (by omega),if_neg (by omega),if_neg (by omega)],fun k h1 h2=>by
  rw [mF (by omega) (by omega)]
  split
  ·exact⟨i,OY,BM,rfl⟩
  split
  ·exact⟨j,Pf,H3,rfl⟩
  ·exact⟨k,h1,h2,rfl⟩⟩
def Cm (cmp:Int→Int→Option Int)(c:Int→Int→Int)(l:List Int):Prop:=∀x∈l,∀y∈l,cmp x y=some (c x y)
theorem Cm.perm {cmp c l d}(h:Cm cmp c l)(p:List.Perm d l):Cm cmp c d:=fun x hx y hy=>h x (p.mem_iff.1 hx) y (p.mem_iff.1 hy)
theorem Cm.at {cmp c}{l:List Int}(h:Cm cmp c l){i j:Nat}(hi:i<l.length)(hj:j<l.length):cmp (gt l i) (gt l j)=some (c (gt l i) (gt l j)):=h _ (b8 hi) _ (b8 hj)
structure Ord (c:Int→Int→Int)(l:List Int):Prop where
 tr:∀x∈l,∀y∈l,∀z∈l,0≤c y x→0≤c z y→0≤c z x
 MG:∀x∈l,∀y∈l,c x y<0→0≤c y x
theorem Ord.perm {c l d}(h:Ord c l)(p:List.Perm d l):Ord c d:=⟨fun x hx y hy z hz=>h.tr x (p.mem_iff.1 hx) y (p.mem_iff.1 hy) z (p.mem_iff.1 hz),fun x hx y hy=>h.MG x (p.mem_iff.1 hx) y (p.mem_iff.1 hy)⟩
def Sg (c:Int→Int→Int)(l:List Int)(a b:Nat):Prop:=∀i j,a≤i→i<j→j<b→0≤c (gt l j) (gt l i)
theorem Ha {m:Nat}{a i:Nat}{cmp:Int→Int→Option Int}{c:Int→Int→Int}:∀(f j:Nat) (d:List Int),j - a<f→a≤j→j≤i→i<d.length→d.length<2 ^ 40→Cm cmp c d→
  ∃d' x,bb.l1 m (a:Int) cmp f d (j:Int)=some (d',x)∧Mv a (i+1) d d'∧
   (Ord c d→(∀x y,a≤x→x<y→y≤i→x≠j→y≠j→0≤c (gt d y) (gt d x))→(∀y,j<y→y≤i→0≤c (gt d y) (gt d j))→Sg c d' a (i+1))
 | 0,j,d,hf,_,_,_,_,_=>absurd hf (by omega)
 | f+1,j,d,hf,h1,h2,h3,hs,C=>by
  have uI:(2:Nat) ^ 40=1099511627776:=by decide
  unfold bb.l1
  by_cases h:a<j
  ·have e1:i64.wrap ((j:Int) - 1)=((j - 1:Nat):Int):=by rw [bU (by omega) (by omega)]; omega
   rw [if_pos (by simp; omega),e1,gw (by omega),gw (by omega),ZB,ZB,C.at (by omega) (by omega),ZB]
   by_cases hc:c (gt d j) (gt d (j - 1))<0
   ·rw [if_pos (by simpa using hc),ZB,ZB,ZB,ZQ,ZQ,gw (by simp; omega),ZB]
    obtain⟨d',x,k1,k2,k3⟩:=Ha (m:=m) (a:=a) (i:=i) (cmp:=cmp) (c:=c) f (j - 1) (swp d j (j - 1)) (by omega) (by omega) (by omega) (by rw [um]; omega) (by rw [um]; omega) (C.perm (qf (by omega) (by omega)))
    refine⟨d',x,k1,(Bu (by omega) (by omega) (by omega) (by omega) (by omega)).trans k2,fun O g1 g2=>k3 (O.perm (qf (by omega) (by omega))) (fun x y x1 x2 x3 x4 x5=>?_) (fun y y1 y2=>?_)⟩
    ·rw [mF (by omega) (by omega),mF (by omega) (by omega),if_neg x5,if_neg x4]
     by_cases hy:y=j
     ·subst hy
      rw [if_pos rfl,if_neg (by omega)]
      exact g1 _ _ (by omega) (by omega) (by omega) (by omega) (by omega)
     ·rw [if_neg hy]
      by_cases hx:x=j
      ·subst hx
       rw [if_pos rfl]
       exact g1 _ _ (by omega) (by omega) (by omega) (by omega) (by omega)
      ·rw [if_neg hx]
       exact g1 _ _ (by omega) (by omega) (by omega) (by omega) (by omega)
    ·rw [mF (by omega) (by omega),mF (by omega) (by omega),if_neg (by omega),if_pos rfl]
     by_cases hy:y=j
     ·subst hy
      rw [if_pos rfl]
      exact O.MG _ (b8 (by omega)) _ (b8 (by omega)) hc
     ·rw [if_neg hy]
      exact g2 _ (by omega) (by omega)
   ·rw [if_neg (by simpa using hc)]
    refine⟨d,j,rfl,Mv.refl,fun O g1 g2 x y x1 x2 x3=>?_⟩
    have hc:0≤c (gt d j) (gt d (j - 1)):=by omega
    by_cases hx:x=j
    ·subst hx; exact g2 _ x2 (by omega)
    ·by_cases hy:y=j
     ·subst hy
      by_cases hx1:x=y - 1
      ·subst hx1; exact hc
      ·exact O.tr _ (b8 (by omega)) (gt d (y - 1)) (b8 (by omega)) _ (b8 (by omega)) (g1 _ _ x1 (by omega) (by omega) hx (by omega)) hc
     ·exact g1 _ _ x1 x2 (by omega) hx hy
  ·have:j=a:=by omega
   subst this
   rw [if_neg (by simp)]
   refine⟨d,j,rfl,Mv.refl,fun O g1 g2 x y x1 x2 x3=>?_⟩
   by_cases hx:x=j
   ·subst hx; exact g2 _ x2 (by omega)
   ·exact g1 _ _ x1 x2 (by omega) hx (by omega)
theorem Hb {m:Nat}{a b:Nat}{cmp:Int→Int→Option Int}{c:Int→Int→Int}(hm:2 ^ 41≤m):∀(f i:Nat) (d:List Int),b - i<f→a<i→b≤d.length→d.length<2 ^ 40→Cm cmp c d→
  ∃d' x,bb.l0 m (a:Int) (b:Int) cmp f d (i:Int)=some (d',x)∧Mv a b d d'∧(Ord c d→Sg c d a i→Sg c d' a b)
 | 0,i,d,hf,_,_,_,_=>absurd hf (by omega)
 | f+1,i,d,hf,h1,h2,hs,C=>by
  have uI:(2:Nat) ^ 40=1099511627776:=by decide
  have ve:(2:Nat) ^ 41=2199023255552:=by decide
  unfold bb.l0
  by_cases h:i<b
  ·obtain⟨d1,x1,k1,k2,k3⟩:=Ha (m:=m) (a:=a) (i:=i) (cmp:=cmp) (c:=c) m i d (by omega) (by omega) (by omega) (by omega) hs C
   have e3:i64.wrap ((i:Int)+1)=((i+1:Nat):Int):=by rw [bU (by omega) (by omega)]; omega
   rw [if_pos (by simp; omega),k1,ZB]
   dsimp only
   rw [e3]
   have hl:=k2.length
   obtain⟨d',x,g1,g2,g3⟩:=Hb (a:=a) (b:=b) (cmp:=cmp) (c:=c) hm f (i+1) d1 (by omega) (by omega) (by omega) (by omega) (C.perm k2.perm)
   exact⟨d',x,g1,(k2.wide (ZI _) (by omega)).trans g2,fun O S=>g3 (O.perm k2.perm) (k3 O (fun x y q1 q2 q3 q4 q5=>S x y q1 q2 (by omega)) (fun y q1 q2=>absurd q1 (by omega)))⟩
  ·exact⟨d,i,by rw [if_neg (by simp; omega)],Mv.refl,fun O S x y q1 q2 q3=>S x y q1 q2 (by omega)⟩
theorem zM {m:Nat}{a b:Nat}{cmp:Int→Int→Option Int}{c:Int→Int→Int}(hm:2 ^ 41≤m){l:List Int}(ha:a≤l.length)(hb:b≤l.length)(hs:l.length<2 ^ 40)(C:Cm cmp c l) :
  ∃d,bb.f m l (a:Int) (b:Int) cmp=some d∧Mv a b l d∧(Ord c l→Sg c d a b):=by
 have uI:(2:Nat) ^ 40=1099511627776:=by decide
 have ve:(2:Nat) ^ 41=2199023255552:=by decide
 have e3:i64.wrap ((a:Int)+1)=((a+1:Nat):Int):=by rw [bU (by omega) (by omega)]; omega
 obtain⟨d',x,g1,g2,g3⟩:=Hb (a:=a) (b:=b) (cmp:=cmp) (c:=c) hm m (a+1) l (by omega) (by omega) hb hs C
 exact⟨d',by unfold bb.f; rw [e3,g1]; rfl,g2,fun O=>g3 O fun x y q1 q2 q3=>absurd q3 (by omega)⟩
end Go.Proofs.Ytifafejidnjckaa
namespace Go.Proofs.Ytifafejidnjckaa
open Go Go.R
open Go.IntKind (i64 u64 u8 u32)
theorem Hc {α β:Type}{B:α→Option β}{c1 c2:Bool}{X:Option α}{d0:α}{G:β→Prop}(D:α→Prop)(h1:c1=true→c2=true→∃x,X=some x∧D x)(h0:¬(c1=true∧c2=true)→D d0)
  (h:∀x,D x→∃d,B x=some d∧G d):∃d,jn B (fun j=>if c1=true then (if c2=true then (X.bind fun x0=>j x0) else j d0) else j d0)=some d∧G d:=by
 unfold jn
 dsimp only
 by_cases a1:c1=true
 ·by_cases a2:c2=true
  ·obtain⟨x,e,hx⟩:=h1 a1 a2
   rw [if_pos a1,if_pos a2,e]; exact h x hx
  ·rw [if_pos a1,if_neg a2]; exact h _ (h0 fun z=>a2 z.2)
 ·rw [if_neg a1]; exact h _ (h0 fun z=>a1 z.1)
theorem Sw {α:Type}{c1 c2:Bool}{X:Option α}{d0:α}{G:α→Prop}(h1:c1=true→c2=true→∃x,X=some x∧G x)(h0:¬(c1=true∧c2=true)→G d0) :
  ∃d,(if c1=true then (if c2=true then (X.bind fun x0=>some x0) else some d0) else some d0)=some d∧G d:=by
 by_cases a1:c1=true
 ·by_cases a2:c2=true
  ·obtain⟨x,e,hx⟩:=h1 a1 a2
   rw [if_pos a1,if_pos a2,e]; exact⟨x,rfl,hx⟩
  ·rw [if_pos a1,if_neg a2]; exact⟨_,rfl,h0 fun z=>a2 z.2⟩
 ·rw [if_neg a1]; exact⟨_,rfl,h0 fun z=>a1 z.1⟩
theorem LY {α β:Type}{B:α→Option β}{c:Bool}{x y:α}{G:β→Prop}(h:∀z,(c=true∧z=x)∨(c=false∧z=y)→∃d,B z=some d∧G d):∃d,jn B (fun j=>if c=true then j x else j y)=some d∧G d:=by
 unfold jn
 dsimp only
 cases c with
 | true=>exact h _ (.inl ⟨rfl,rfl⟩)
 | false=>exact h _ (.inr ⟨rfl,rfl⟩)
theorem Ord.refl {c:Int→Int→Int}{l:List Int}(O:Ord c l){x:Int}(hx:x∈l):0≤c x x:=by
 by_cases h:c x x<0
 ·exact O.MG x hx x hx h
 ·omega
theorem Sg.le {c:Int→Int→Int}{l:List Int}{a b:Nat}(S:Sg c l a b)(O:Ord c l){i j:Nat}(h1:a≤i)(h2:i≤j)(h3:j<b)(h4:b≤l.length):0≤c (gt l j) (gt l i):=by
 by_cases h:i=j
 ·subst h; exact O.refl (b8 (by omega))
 ·exact S i j h1 (by omega) h3
section
variable {m:Nat}{cmp:Int→Int→Option Int}{c:Int→Int→Int}
theorem Bv {l:List Int}{a:Nat}(ha:a<l.length)(hs:l.length<2 ^ 40)(C:Cm cmp c l):∀(f i j:Nat),j - i<f→i≤j→j≤l.length→
  ∃x:Nat,aM.l0 m l (a:Int) cmp f (i:Int) (j:Int)=some ((x:Int),(x:Int))∧i≤x∧x≤j∧(i<x→c (gt l (x - 1)) (gt l a)<0)∧(x<j→0≤c (gt l x) (gt l a))
 | 0,i,j,hf,_,_=>absurd hf (by omega)
 | f+1,i,j,hf,h1,h2=>by
  have uI:(2:Nat) ^ 40=1099511627776:=by decide
  unfold aM.l0
  by_cases h:i<j
  ·have hh:=zJ (a:=i) (b:=j) (by omega)
   rw [if_pos (by simp; omega),hh,gw (by omega),gw ha,ZB,ZB,C.at (by omega) ha,ZB]
   by_cases g:c (gt l ((i+j) / 2)) (gt l a)<0
   ·obtain⟨x,e,x1,x2,x3,x4⟩:=Bv ha hs C f ((i+j) / 2+1) j (by omega) (by omega) h2
    rw [if_pos (by simpa using g),bU (by omega) (by omega),show (((i+j) / 2:Nat):Int)+1=(((i+j) / 2+1:Nat):Int) by omega,e]
    refine⟨x,rfl,by omega,x2,fun _=>?_,x4⟩
    by_cases hx:x=(i+j) / 2+1
    ·rw [hx]; simpa using g
    ·exact x3 (by omega)
   ·obtain⟨x,e,x1,x2,x3,x4⟩:=Bv ha hs C f i ((i+j) / 2) (by omega) (by omega) (by omega)
    rw [if_neg (by simpa using g),e]
    refine⟨x,rfl,x1,by omega,x3,fun _=>?_⟩
    by_cases hx:x=(i+j) / 2
    ·rw [hx]; omega
    ·exact x4 (by omega)
  ·have:i=j:=by omega
   subst this
   exact⟨i,by rw [if_neg (by simp)],ZI _,ZI _,fun h=>absurd h (by omega),fun h=>absurd h (by omega)⟩
theorem Bw {l:List Int}{q:Nat}(hq:q<l.length)(hs:l.length<2 ^ 40)(C:Cm cmp c l):∀(f i j:Nat),j - i<f→i≤j→j≤l.length→
  ∃x:Nat,aM.l2 m l (q:Int) cmp f (i:Int) (j:Int)=some ((x:Int),(x:Int))∧i≤x∧x≤j∧(i<x→0≤c (gt l q) (gt l (x - 1)))∧(x<j→c (gt l q) (gt l x)<0)
 | 0,i,j,hf,_,_=>absurd hf (by omega)
 | f+1,i,j,hf,h1,h2=>by
  have uI:(2:Nat) ^ 40=1099511627776:=by decide
  unfold aM.l2
  by_cases h:i<j
  ·have hh:=zJ (a:=i) (b:=j) (by omega)
   rw [if_pos (by simp; omega),hh,gw hq,gw (by omega),ZB,ZB,C.at hq (by omega),ZB]
   by_cases g:c (gt l q) (gt l ((i+j) / 2))<0
   ·obtain⟨x,e,x1,x2,x3,x4⟩:=Bw hq hs C f i ((i+j) / 2) (by omega) (by omega) (by omega)
    rw [if_neg (by simpa using g),e]
    refine⟨x,rfl,x1,by omega,x3,fun _=>?_⟩
    by_cases hx:x=(i+j) / 2
    ·rw [hx]; omega
    ·exact x4 (by omega)
   ·obtain⟨x,e,x1,x2,x3,x4⟩:=Bw hq hs C f ((i+j) / 2+1) j (by omega) (by omega) h2
    rw [if_pos (by simpa using g),bU (by omega) (by omega),show (((i+j) / 2:Nat):Int)+1=(((i+j) / 2+1:Nat):Int) by omega,e]
    refine⟨x,rfl,by omega,x2,fun _=>?_,x4⟩
    by_cases hx:x=(i+j) / 2+1
    ·rw [hx]; simp; omega
    ·exact x3 (by omega)
  ·have:i=j:=by omega
   subst this
   exact⟨i,by rw [if_neg (by simp)],ZI _,ZI _,fun h=>absurd h (by omega),fun h=>absurd h (by omega)⟩
theorem Hd {l:List Int}{a x:Nat}(hx:x≤l.length)(Sx:a<x)(hs:l.length<2 ^ 40):∀(f k:Nat) (d:List Int),x - k<f→a≤k→k<x→Mv a x l d→
  (∀t,gt d t=if a≤t∧t<k then gt l (t+1) else if t=k then gt l a else gt l t)→
  ∃d' y,aM.l1 m (x:Int) f d (k:Int)=some (d',y)∧Mv a x l d'∧∀t,gt d' t=if a≤t∧t+1<x then gt l (t+1) else if t+1=x then gt l a else gt l t
 | 0,k,d,hf,_,_,_,_=>absurd hf (by omega)
 | f+1,k,d,hf,h1,h2,M,hg=>by
  have uI:(2:Nat) ^ 40=1099511627776:=by decide
  have hl:=M.length
  unfold aM.l1
  have e0:i64.wrap ((x:Int) - 1)=((x - 1:Nat):Int):=by rw [bU (by omega) (by omega)]; omega
  rw [e0]
  by_cases h:k<x - 1
  ·have e1:i64.wrap ((k:Int)+1)=((k+1:Nat):Int):=by rw [bU (by omega) (by omega)]; omega
   rw [if_pos (by simp; omega),e1,gw (by omega),gw (by omega),ZB,ZB,ZB,ZQ,ZQ,gw (by simp; omega),ZB]
   refine Hd hx Sx hs f (k+1) (swp d k (k+1)) (by omega) (by omega) (by omega) (M.trans (Bu (by omega) (by omega) (by omega) (by omega) (by omega))) fun t=>?_
   rw [mF (by omega) (by omega),hg k,hg (k+1),hg t]
   by_cases t1:t=k+1
   ·subst t1; rw [if_pos rfl,if_neg (by omega),if_pos rfl,if_neg (by omega),if_pos rfl]
   ·rw [if_neg t1]
    by_cases t2:t=k
    ·subst t2; rw [if_pos rfl,if_neg (by omega),if_neg (by omega),if_pos (by omega)]
    ·rw [if_neg t2,if_neg t2,if_neg t1]
     by_cases t3:a≤t∧t<k
     ·rw [if_pos t3,if_pos (by omega)]
     ·rw [if_neg t3,if_neg (by omega)]
  ·refine⟨d,k,by rw [if_neg (by simp; omega)],M,fun t=>?_⟩
   rw [hg]
   by_cases t3:a≤t∧t<k
   ·rw [if_pos t3,if_pos (by omega)]
   ·rw [if_neg t3,if_neg (show ¬(a≤t∧t+1<x) by omega)]
    by_cases t4:t=k
    ·rw [if_pos t4,if_pos (by omega)]
    ·rw [if_neg t4,if_neg (by omega)]
theorem He {l:List Int}{q x:Nat}(hx:q<l.length)(Sx:x≤q)(hs:l.length<2 ^ 40):∀(f k:Nat) (d:List Int),k - x<f→x≤k→k≤q→Mv x (q+1) l d→
  (∀t,gt d t=if k<t∧t≤q then gt l (t - 1) else if t=k then gt l q else gt l t)→
  ∃d' y,aM.l3 m (x:Int) f d (k:Int)=some (d',y)∧Mv x (q+1) l d'∧∀t,gt d' t=if x<t∧t≤q then gt l (t - 1) else if t=x then gt l q else gt l t
 | 0,k,d,hf,_,_,_,_=>absurd hf (by omega)
 | f+1,k,d,hf,h1,h2,M,hg=>by
  have uI:(2:Nat) ^ 40=1099511627776:=by decide
  have hl:=M.length
  unfold aM.l3
  by_cases h:x<k
  ·have e1:i64.wrap ((k:Int) - 1)=((k - 1:Nat):Int):=by rw [bU (by omega) (by omega)]; omega
   rw [if_pos (by simp; omega),e1,gw (by omega),gw (by omega),ZB,ZB,ZB,ZQ,ZQ,gw (by simp; omega),ZB]
   refine He hx Sx hs f (k - 1) (swp d k (k - 1)) (by omega) (by omega) (by omega) (M.trans (Bu (by omega) (by omega) (by omega) (by omega) (by omega))) fun t=>?_
   rw [mF (by omega) (by omega),hg k,hg (k - 1),hg t]
   by_cases t1:t=k - 1
   ·subst t1; rw [if_pos rfl,if_neg (by omega),if_pos rfl,if_neg (by omega),if_pos rfl]
   ·rw [if_neg t1]
    by_cases t2:t=k
    ·subst t2; rw [if_pos rfl,if_neg (by omega),if_neg (by omega),if_pos (by omega)]
    ·rw [if_neg t2,if_neg t2,if_neg t1]
     by_cases t3:k<t∧t≤q
     ·rw [if_pos t3,if_pos (by omega)]
     ·rw [if_neg t3,if_neg (by omega)]
  ·have:k=x:=by omega
   subst this
   exact⟨d,k,by rw [if_neg (by simp)],M,hg⟩
theorem Bx {l:List Int}{a b q:Nat}(Nk:a+b<2 ^ 42)(hs:l.length<2 ^ 40)(C:Cm cmp c l):∀(f s r:Nat),r - s<f→s≤r→r≤l.length→r≤(a+b) / 2+q→(a+b) / 2+q≤l.length+s→
  ∃x:Nat,aM.l4 m l (a:Int) (q:Int) (b:Int) cmp f (s:Int) (r:Int)=some ((x:Int),(x:Int))∧s≤x∧x≤r∧(s<x→0≤c (gt l ((a+b) / 2+q - x)) (gt l (x - 1)))∧(x<r→c (gt l ((a+b) / 2+q - x - 1)) (gt l x)<0)
 | 0,i,j,hf,_,_,_,_=>absurd hf (by omega)
 | f+1,s,r,hf,h1,h2,h3,h4=>by
  have uI:(2:Nat) ^ 40=1099511627776:=by decide
  have Sy:(2:Nat) ^ 42=4398046511104:=by decide
  unfold aM.l4
  by_cases h:s<r
  ·have hh:=zJ (a:=s) (b:=r) (by omega)
   have Nk:=zJ (a:=a) (b:=b) (by omega)
   have e1:i64.wrap (i64.wrap (i64.wrap ((((a+b) / 2:Nat):Int)+(q:Int)) - 1) - (((s+r) / 2:Nat):Int))=(((a+b) / 2+q - (s+r) / 2 - 1:Nat):Int):=by
    rw [bU (x:=(((a+b) / 2:Nat):Int)+(q:Int)) (by omega) (by omega),bU (x:=(((a+b) / 2:Nat):Int)+(q:Int) - 1) (by omega) (by omega),bU (by omega) (by omega)]
    omega
   rw [if_pos (by simp; omega),hh,Nk,e1,gw (by omega),gw (by omega),ZB,ZB,C.at (by omega) (by omega),ZB]
   by_cases g:c (gt l ((a+b) / 2+q - (s+r) / 2 - 1)) (gt l ((s+r) / 2))<0
   ·obtain⟨x,e,x1,x2,x3,x4⟩:=Bx (a:=a) (b:=b) (q:=q) (by omega) hs C f s ((s+r) / 2) (by omega) (by omega) (by omega) (by omega) (by omega)
    rw [if_neg (by simpa using g),e]
    refine⟨x,rfl,x1,by omega,x3,fun _=>?_⟩
    by_cases hx:x=(s+r) / 2
    ·rw [hx]; exact g
    ·exact x4 (by omega)
   ·obtain⟨x,e,x1,x2,x3,x4⟩:=Bx (a:=a) (b:=b) (q:=q) (by omega) hs C f ((s+r) / 2+1) r (by omega) (by omega) h2 h3 (by omega)
    rw [if_pos (by simpa using g),bU (by omega) (by omega),show (((s+r) / 2:Nat):Int)+1=(((s+r) / 2+1:Nat):Int) by omega,e]
    refine⟨x,rfl,by omega,x2,fun _=>?_,x4⟩
    by_cases hx:x=(s+r) / 2+1
    ·rw [hx,show (a+b) / 2+q - ((s+r) / 2+1)=(a+b) / 2+q - (s+r) / 2 - 1 by omega,Nat.add_sub_cancel]; omega
    ·exact x3 (by omega)
  ·have:s=r:=by omega
   subst this
   exact⟨s,by rw [if_neg (by simp)],ZI _,ZI _,fun h=>absurd h (by omega),fun h=>absurd h (by omega)⟩
end
end Go.Proofs.Ytifafejidnjckaa
