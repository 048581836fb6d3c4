/- Part of the proof: PC5, Q9, PC7, PFA, RCL, PdS, QJ0, QJ13. -/
import Derived.Test.YtifafejidnjckaaK13
import Derived.Test.YtifafejidnjckaaChecked
set_option linter.unusedVariables false
set_option linter.unusedSimpArgs false
set_option maxRecDepth 100000
open Bool renaming and_eq_true → ZF, false_eq_true → ZN, not_true → aaC
open List renaming getElem?_eq_getElem → ZG, getElem?_eq_some_iff → ZH, mem_of_getElem? → ZK, length_map → ZR, getD_eq_getElem?_getD → ZW, mem_cons → ZZ, length_nil → Z8, cons_append → aak, drop_zero → aam, all_cons → aao, getElem?_map → aau
open Nat renaming le_refl → ZI, zero_add → Z2, lt_of_lt_of_le → Z4, zero_le → aai, beq → aaj, eq_of_beq_eq_true → aaH, ble → aaZ, zero_lt_one → aa1
open Option renaming bind_some → ZB, bind_eq_some_iff → ZC, map_eq_some_iff → ZD
open Option.some renaming inj → aaf
namespace Go.Proofs.Ytifafejidnjckaa
open Go Go.R Go.Uf
open Go.IntKind (i64 u64 u8 u32)
section
variable {m:Nat}{s:ab}{a b:Int}
theorem qh {l:List Int}{i u:Int}(h:l[i.toNat]? = some u):nd (TN s l) i=we s l u:=by
 unfold nd TN
 rw [ZW,aau,h]
 rfl
theorem OG {l:List Int}{k:Nat}{x:Int}(h:l[k]? = some x):gt l k=x:=by
 unfold gt
 rw [ZW,h]; rfl
theorem HL {l:List Int}{i u:Int}(h0:0≤i)(h:l[i.toNat]? = some u):i<l.length:=by
 have:=(ZH.1 h).1
 omega
theorem sI {l:List Int}{u x:Int}{k:Nat}(h:(de s.aa u).args[k]? = some x):gt (we s l u).args k=uC l (rp s.ae x):=by
 apply OG
 show ((de s.aa u).args.map fun a=>uC l (rp s.ae a))[k]? = _
 rw [aau,h]; rfl
theorem HM {p q:Int}{l1 l2:List Int}(h1:Reach s p l1)(h2:Reach s q l2):Ff ⟨TN s l1,0⟩ ⟨TN s l2,0⟩↔Sb s p q:=by
 have SP:(TN s l1).length=l1.length:=ZR ..
 have SQ:(TN s l2).length=l2.length:=ZR ..
 constructor
 ·rintro⟨R,B,r⟩
  have B:xW (TN s l1) (TN s l2) R:=B
  refine⟨fun u w=>∃i j,R i j∧l1[i.toNat]? = some u∧l2[j.toNat]? = some w,⟨?_,?_,?_⟩,0,0,r,h1.hd,h2.hd⟩
  ·rintro u w ⟨i,j,h,g1,g2⟩
   obtain⟨u1,u2,_⟩:=h1.rt u (ZK g1)
   obtain⟨w1,w2,_⟩:=h2.rt w (ZK g2)
   exact⟨⟨u1,u2⟩,w1,w2⟩
  ·rintro u w ⟨i,j,h,g1,g2⟩
   have:=B.top _ _ h
   rw [qh g1,qh g2] at this
   have:=this.SO
   unfold we iv at this
   simp only [ZR] at this
   exact this
  ·rintro u w ⟨i,j,h,g1,g2⟩ k x y hx hy
   have hk:=(ZH.1 hx).1
   have:=B.arg _ _ h k (by rw [qh g1]; show k<(List.map _ _).length; rw [ZR]; exact hk)
   rw [qh g1,qh g2,sI hx,sI hy] at this
   exact⟨_,_,this,nV (h1.cl u (ZK g1) x (ZK hx)),nV (h2.cl w (ZK g2) y (ZK hy))⟩
 ·intro h
  refine⟨fun i j=>(0≤i∧0≤j)∧∃u w,l1[i.toNat]? = some u∧l2[j.toNat]? = some w∧Sb s u w,⟨?_,?_,?_⟩,⟨Int.le_refl 0,Int.le_refl 0⟩,p,q,h1.hd,h2.hd,h⟩
  ·rintro i j ⟨⟨i0,j0⟩,u,w,g1,g2,_⟩
   show (0≤i∧i<(TN s l1).length)∧0≤j∧j<(TN s l2).length
   rw [SP,SQ]
   exact⟨⟨i0,HL i0 g1⟩,j0,HL j0 g2⟩
  ·rintro i j ⟨_,u,w,g1,g2,hb⟩
   show Alike (nd (TN s l1) i) (nd (TN s l2) j)
   rw [qh g1,qh g2]
   apply BF
   have:=hb.top
   unfold we iv
   unfold iv at this
   simp only [ZR]
   exact this
  ·rintro i j ⟨_,u,w,g1,g2,hb⟩ k hk
   show (0≤gt (nd (TN s l1) i).args k∧0≤gt (nd (TN s l2) j).args k)∧_
   have hk:k<(nd (TN s l1) i).args.length:=hk
   show _∧∃x y,l1[(gt (nd (TN s l1) i).args k).toNat]? = some x∧l2[(gt (nd (TN s l2) j).args k).toNat]? = some y∧Sb s x y
   rw [qh g1] at hk ⊢
   rw [qh g2]
   have hk:k<(List.map _ (de s.aa u).args).length:=hk
   rw [ZR] at hk
   have hl:=hb.top.2.2.2
   have gx:=ZG hk
   have gy:=ZG (l:=(de s.aa w).args) (i:=k) (by omega)
   rw [sI gx,sI gy]
   have m1:=h1.cl u (ZK g1) _ (ZK gx)
   have m2:=h2.cl w (ZK g2) _ (ZK gy)
   exact⟨⟨(sH m1).1,(sH m2).1⟩,_,_,nV m1,nV m2,hb.arg gx gy⟩
theorem wj (hm:2 ^ 41≤m){t z:bg}(ht:gz t=true)(h:dJ.f m t=some z):Ff t z:=by
 obtain⟨z',R,e,_,_,B,r⟩:=lT hm ht
 rw [h] at e
 cases aaf e
 exact⟨R,B,r⟩
theorem Jw (hm:2 ^ 41≤m)(v:Inv2 s)(ra:Rg s.aa.length a)(rb:Rg s.aa.length b):∃x y c,ay.f m s a=some (x,0)∧ay.f m s b=some (y,0)∧iw.f m x y=some (c,0)∧(c=true↔Sb s (rp s.ae a) (rp s.ae b)):=by
 obtain⟨l1,x,h1,v1,e1,f1,w1⟩:=xY hm v ra
 obtain⟨l2,y,h2,v2,e2,f2,w2⟩:=xY hm v rb
 obtain⟨c,e3,hc⟩:=Mb hm w1 w2
 have q1:=wj hm v1 e1
 have q2:=wj hm v2 e2
 refine⟨x,y,c,f1,f2,e3,hc.trans ⟨fun h=>?_,fun h=>?_⟩⟩
 ·exact (HM h1 h2).1 ((q1.trans h).trans q2.symm)
 ·exact (q1.symm.trans ((HM h1 h2).2 h)).trans q2
end
end Go.Proofs.Ytifafejidnjckaa
namespace Go.Proofs.Ytifafejidnjckaa
open Go Go.R
open Go.IntKind (i64 u64 u8 u32)
def HN:b9:=gW [0,1,2,3,8,9,10,11,12,13,14,15,16,17,18,20,21,22,23,24,32,50,68,134,142,161] [14,16] [67108848,66060272,67108847,67108817,67108753,67107857,65010769,67108847,67104849,67092561,62908497,67108847,67091537,67058769,66894929,58720081,67108847,66846545,50069329,66846545,66846545,66322257,33292113,67108847,67108847] [] [(8,[(14,some 0,4)]),(9,[(16,some 0,4)])]
def bB.l0 (m:Nat)(a0:Int)(b0:Int)(cH:List aN)(x6:Int × (List Int) × Int × ab):Nat→Int→ab→Option (Sum Bool (Int × ab))
 | 0,_,_=>none
 | k+1,i0,k8=>if (decide (i0<(cH.length:Int)))=true then (if (decide (x6.1≥(0:Int)))=true then ((ix cH i0).bind fun v0=>(gd.f m k8 v0).bind fun Pk=>(bT.f m Pk.2 a0 b0).bind fun vd=>if (!(vd.1==x6.1))=true then (some (.inl false)) else (bB.l0 m a0 b0 cH x6 k (i64.wrap (i0+(1:Int))) vd.2.2.2)) else (some (.inr (i0,k8)))) else (some (.inr (i0,k8)))
def bB.f (m:Nat)(l0:List aN)(a0:Int)(b0:Int)(cH:List aN):Option (Bool):=(bJ.f m l0).bind fun x0=>if x0=true then ((dt.f m).bind fun x1=>some x1) else ((bJ.f m cH).bind fun x2=>if x2=true then ((dt.f m).bind fun x3=>some x3) else ((cw.f m l0).bind fun x4=>(bY.f m x4).bind fun x5=>(bT.f m x4 a0 b0).bind fun x6=>(bY.f m x6.2.2.2).bind fun x7=>(cj.f m x7 x5).bind fun x8=>if (!x8)=true then (some false) else ((ay.f m x6.2.2.2 a0).bind fun x9=>(ay.f m x6.2.2.2 b0).bind fun cb=>if (!(x9.2==(0:Int)))=true then (if (x6.2.2.1==(1:Int))=true then (if (x6.1==(0:Int))=true then ((dt.f m).bind fun zr=>some zr) else (some false)) else (some false)) else (if (!(cb.2==(0:Int)))=true then (if (x6.2.2.1==(1:Int))=true then (if (x6.1==(0:Int))=true then ((dt.f m).bind fun pf=>some pf) else (some false)) else (some false)) else ((iw.f m x9.1 cb.1).bind fun tQ=>(dk.f m x6.2.2.2).bind fun a6=>Ev a6.1 none fun pj=>(b6.f m pj a0 b0).bind fun jI=>jn (fun (σ:Unit)=>match σ with | _=>(bB.l0 m a0 b0 cH x6 m (0:Int) a6.2).bind fun bM=>match bM with | .inl r0=>some r0 | .inr (i1,xF)=>(dt.f m).bind fun Of=>some Of) fun tP=>(if (!(x6.2.2.1==(0:Int)))=true then (some false) else (if (!((x6.1==(1:Int))==tQ.1))=true then (some false) else (if (!((x6.1==(0:Int))==(jI.2.1==(8:Int))))=true then (some false) else (if (x6.1==(-1:Int))=true then ((cj.f m x6.2.1 jI.1).bind fun Pj=>if (!Pj)=true then (some false) else (if (!(x6.1==(-1:Int)))=true then (if (decide ((x6.2.1.length:Int) > (0:Int)))=true then (some false) else (if (decide (x6.1<(-1:Int)))=true then (some false) else (if (decide (x6.1 > (1:Int)))=true then (some false) else (tP ())))) else (if (decide (x6.1<(-1:Int)))=true then (some false) else (if (decide (x6.1 > (1:Int)))=true then (some false) else (tP ()))))) else (if (!(x6.1==(-1:Int)))=true then (if (decide ((x6.2.1.length:Int) > (0:Int)))=true then (some false) else (if (decide (x6.1<(-1:Int)))=true then (some false) else (if (decide (x6.1 > (1:Int)))=true then (some false) else (tP ())))) else (if (decide (x6.1<(-1:Int)))=true then (some false) else (if (decide (x6.1 > (1:Int)))=true then (some false) else (tP ())))))))))))))
def bB.fin (L:Mem)(r:Bool)(s:St):Prop:=∃av,aO Try.prog (s.open HN) Try.f9.results.toList=some av∧fG s.h av (.bool r)
def S9 (cf:CallF)(m:Nat):Prop:=∀(l0:List aN) (a0:Int) (b0:Int) (cH:List aN) (r:Bool),bB.f m l0 a0 b0 cH=some r→∀h xs,aU bR h xs [aT.fz l0,.int .i64 a0,.int .i64 b0,aT.fz cH]→cf 9 xs h=some (.bool r,h)
section
variable {cf:CallF}{m:Nat}
theorem bB.cQ (L:Mem)(l0:List aN)(a0:Int)(b0:Int)(cH:List aN)(aE:Nat)(x6:Int × (List Int) × Int × ab)  (Bp:Oe cf m)(EG:Ph cf m):dL Try.prog cf HN m (sub [1,1,1,1,1,1,1,1,1,1,1,1,1,0,1,0,0] (bZ Try.f9)) (fun k (σ:Int × ab)=>bB.l0 m a0 b0 cH x6 k σ.1 σ.2) (fun σ s=>match σ with | (i0,k8)=>∃xD tW h8,s=⟨.any :: .int .i64 a0 :: .int .i64 b0::aT.fz cH :: .any :: .ptr aE 0 :: .any :: .int .i64 x6.1::Ge (.int .i64 i0::En []),[none,none],h8⟩∧Has h8 ((aE,.ob [.bool k8.aj,.rs xD 0 k8.aa.length 4,.rs tW 0 k8.ae.length 1])::(xD,.sl k8.aa.length 4 (ai.l k8.aa))::(tW,.sl k8.ae.length 1 (af.l k8.ae))::L)) (fun out e s=>(e = .exit 0∧∃i0 k8,.inr (i0,k8)=out∧∃uY I4 Gw A9 GL Bc OH xD tW h8,s=⟨.any::uY::I4::Gw :: .any::A9 :: .any::GL::Ge (Bc::Ai [OH,.any]),[none,none],h8⟩∧Has h8 ((aE,.ob [.bool k8.aj,.rs xD 0 k8.aa.length 4,.rs tW 0 k8.ae.length 1])::(xD,.sl k8.aa.length 4 (ai.l k8.aa))::(tW,.sl k8.ae.length 1 (af.l k8.ae))::L))∨(e = .ret∧∃r,.inl r=out∧bB.fin L r s)):=by
 refine lg (fun _=>rfl) ?_
 rintro k ⟨i0,k8⟩ s out ⟨xD,tW,h8,rfl,Mc⟩ H
 have H:bB.l0 m a0 b0 cH x6 (k+1) i0 k8=some out:=H
 refine qq <| qq ?_
 rcases gS H with⟨SS,H⟩| ⟨SS,H⟩
 ·refine qr [.b 4 SS] <| qc H (fun Xf H=>?_) (fun Xf H=>?_)
  ·refine qk <| qq <| qb 1 <| qq ?_
   obtain⟨v0,H8,H⟩:=bj H
   obtain⟨Pk,H9,H⟩:=bj H
   obtain⟨I7,I8,h9,J5,SU⟩:=Bp _ _ _ H9 h8 _ _ _ _ (Mc)  [.ptr aE 0,.agg [.int .i64 v0.fC,.int .i64 v0.sB,.int .i64 v0.Ey,.str v0.eY,af.fz v0.gf,ai.fz v0.xp.nodes,.int .i64 v0.xp.root]] (au (rfl) (au (aP (nE (cd (bm) (cd (bm) (cd (bm) (cd (lf) (cd (oH (E:=af)) (cd (oH (E:=ai)) (cd (bm) (nD)))))))))) (bN)))
   refine qr [.v 3 (fy (k:=.i64) (E:=aT) (l:=cH) NR H8),.v 4 (jP  (E:=aT) (l:=cH) h8 T5 T6 H8),.a 5 J5] <| qq ?_
   obtain⟨vd,N8,H⟩:=bj H
   obtain⟨Xg,EX,HO,h10,N7,SV⟩:=EG _ _ _ _ N8 h9 _ _ _ _ (SU)  [.ptr aE 0,.int .i64 a0,.int .i64 b0] (au (rfl) (au (aP (bm)) (au (aP (bm)) (bN))))
   refine qr [.a 3 N7] ?_
   have OI:Has h10 ((aE,.ob [.bool vd.2.2.2.aj,.rs EX 0 vd.2.2.2.aa.length 4,.rs HO 0 vd.2.2.2.ae.length 1])::(EX,.sl vd.2.2.2.aa.length 4 (ai.l vd.2.2.2.aa))::(HO,.sl vd.2.2.2.ae.length 1 (af.l vd.2.2.2.ae))::L):=Has.del SV 0
   refine q1 <| qc H (fun Xh H=>?_) (fun Xh H=>?_)
   ·refine q1 ?_
    have SW:Has h10 ((aE,.ob [.bool vd.2.2.2.aj,.rs EX 0 vd.2.2.2.aa.length 4,.rs HO 0 vd.2.2.2.ae.length 1])::(EX,.sl vd.2.2.2.aa.length 4 (ai.l vd.2.2.2.aa))::L):=Has.del OI 2
    have SX:Has h10 ((aE,.ob [.bool vd.2.2.2.aj,.rs EX 0 vd.2.2.2.aa.length 4,.rs HO 0 vd.2.2.2.ae.length 1])::L):=Has.del SW 1
    have Xi:Has h10 (L):=Has.del SX 0
    exact qt <| Or.inr (⟨rfl,_,oi H,cV (.bool false) h10 (cP (az))⟩)
   ·exact qk <| q0 <| ⟨(i64.wrap (i0+(1:Int)),vd.2.2.2),⟨EX,HO,h10,by kernel_rfl,OI⟩,H⟩
  ·exact qx 0 <| Or.inl (⟨rfl,i0,k8,oi H,.int .i64 a0,.int .i64 b0,aT.fz cH,.ptr aE 0,.int .i64 x6.1,.int .i64 i0,.bool (decide (x6.1≥(0:Int))),xD,tW,h8,by kernel_rfl,Mc⟩)
 ·exact qr [.b 4 SS] <| Gh <| qx 0 <| Or.inl (⟨rfl,i0,k8,oi H,.int .i64 a0,.int .i64 b0,aT.fz cH,.ptr aE 0,.int .i64 x6.1,.int .i64 i0,.bool false,xD,tW,h8,by kernel_rfl,Mc⟩)
theorem ng {aY:FuncId→b9}(ha:aY 9=HN)(Md:Ua cf m)(HP:T7 cf m)(SY:UT cf m)(BG:Ub cf m)(OJ:UK cf m)(LO:Ru cf m)(Bp:Oe cf m)(OK:Up cf m)(OL:UR cf m)(SZ:Vb cf m)(EG:Ph cf m)(l0:List aN)(a0:Int)(b0:Int)(cH:List aN)(h:AHeap)(L:Mem)  (o:Has h (L)){out:Bool}(H:bB.f m l0 a0 b0 cH=some out) :
  ∃r h',bf Try.prog aY cf m 9 [aT.fz l0,.int .i64 a0,.int .i64 b0,aT.fz cH] h=some (r,h')∧fG h' r (.bool out):=by
 refine ar (fn:=Try.f9) ha Try.func9 (by kernel_rfl) (by kernel_rfl) ?_
 refine aH (Q:=fun s=>bB.fin L out s) (fun _ _ h=>h) ?_
 have H:_=some out:=H
 unfold bB.f at H
 show dK _ cf HN m _ ⟨aT.fz l0 :: .int .i64 a0 :: .int .i64 b0::aT.fz cH::Qo [],[none,none],h⟩ _
 refine q1 <| qq <| qq ?_
 obtain⟨x0,e0,H⟩:=bj H
 rcases gS H with⟨c0,H⟩| ⟨c0,H⟩
 ·refine qr [.a 1 (Md _ _ e0 h _ (fw (ah (dU (E:=aT)) (aw)))),.b 2 c0] <| za <| qq ?_
  obtain⟨x1,e1,H⟩:=bj H
  obtain rfl:=oi H
  exact qr [.a 0 (HP _ e1 h _ (fw (aw)))] <| qt <| ⟨.inl rfl,cV (.bool x1) h (cP (az))⟩
 ·obtain⟨x2,e2,H⟩:=bj H
  refine qr [.a 1 (Md _ _ e0 h _ (fw (ah (dU (E:=aT)) (aw)))),.b 2 c0,.a 4 (Md _ _ e2 h _ (fw (ah (dU (E:=aT)) (aw))))] <| qc H (fun c2 H=>?_) (fun c2 H=>?_)
  ·refine qq ?_
   obtain⟨x3,e3,H⟩:=bj H
   obtain rfl:=oi H
   exact qr [.a 0 (HP _ e3 h _ (fw (aw)))] <| qt <| ⟨.inl rfl,cV (.bool x3) h (cP (az))⟩
  ·refine qk <| qq ?_
   obtain⟨x4,e4,H⟩:=bj H
   obtain⟨aE,cy,dY,h0,e5,o0⟩:=SY _ _ e4 h _  (o)  [aT.fz l0] (au (aP (oH (E:=aT))) (bN))
   refine qr [.a 1 e5] <| qq ?_
   obtain⟨x5,e6,H⟩:=bj H
   refine qr [.a 1 (OJ _ _ e6 h0 _ (fw (ah (ez (q:=0) o0 rfl (ah (fW) (ah (cZ (E:=ai) (l:=x4.aa) (q:=1) o0 rfl (fun _=>rfl)) (ah (cZ (E:=af) (l:=x4.ae) (q:=2) o0 rfl (fun _=>rfl)) (aw))))) (aw))))] <| qq ?_
   obtain⟨x6,e7,H⟩:=bj H
   obtain⟨cW,dD,ff,h1,e8,o1⟩:=EG _ _ _ _ e7 h0 _ _ _ _ (o0)  [.ptr aE 0,.int .i64 a0,.int .i64 b0] (au (rfl) (au (aP (bm)) (au (aP (bm)) (bN))))
   refine qr [.a 3 e8] <| qq <| qq ?_
   obtain⟨x7,e9,H⟩:=bj H
   obtain⟨x8,rK,H⟩:=bj H
   refine qr [.a 1 (OJ _ _ e9 h1 _ (fw (ah (ez (q:=1) o1 rfl (ah (fW) (ah (cZ (E:=ai) (l:=x6.2.2.2.aa) (q:=2) o1 rfl (fun _=>rfl)) (ah (cZ (E:=af) (l:=x6.2.2.2.ae) (q:=3) o1 rfl (fun _=>rfl)) (aw))))) (aw)))),.a 3 (BG _ _ _ rK h1 _ (fw (ah (dU (E:=af)) (ah (dU (E:=af)) (aw)))))] <| qc H (fun c3 H=>?_) (fun c3 H=>?_)
   ·refine q1 ?_
    have o2:Has h1 ((cW,.sl x6.2.1.length 1 (af.l x6.2.1))::(aE,.ob [.bool x6.2.2.2.aj,.rs dD 0 x6.2.2.2.aa.length 4,.rs ff 0 x6.2.2.2.ae.length 1])::(dD,.sl x6.2.2.2.aa.length 4 (ai.l x6.2.2.2.aa))::L):=Has.del o1 3
    have o3:Has h1 ((cW,.sl x6.2.1.length 1 (af.l x6.2.1))::(aE,.ob [.bool x6.2.2.2.aj,.rs dD 0 x6.2.2.2.aa.length 4,.rs ff 0 x6.2.2.2.ae.length 1])::L):=Has.del o2 2
    have o4:Has h1 ((cW,.sl x6.2.1.length 1 (af.l x6.2.1))::L):=Has.del o3 1
    have o5:Has h1 (L):=Has.del o4 0
    obtain rfl:=oi H
    exact qt <| ⟨.inl rfl,cV (.bool false) h1 (cP (az))⟩
   ·refine qk <| qq ?_
    obtain⟨x9,uH,H⟩:=bj H
    obtain⟨gT,bq,h2,xq,o6,HX⟩:=OL _ _ _ uH h1 _ _ o1 (fw (ah (ez (q:=1) o1 rfl (ah (fW) (ah (cZ (E:=ai) (l:=x6.2.2.2.aa) (q:=2) o1 rfl (fun _=>rfl)) (ah (cZ (E:=af) (l:=x6.2.2.2.ae) (q:=3) o1 rfl (fun _=>rfl)) (aw))))) (ah (aZ) (aw))))
    have o7:=Has.jg (pre:=[(gT,.sl x9.1.nodes.length 4 (b4.l (aK x9.1.nodes bq)))]) (N:=[(cW,.sl x6.2.1.length 1 (af.l x6.2.1)),(aE,.ob [.bool x6.2.2.2.aj,.rs dD 0 x6.2.2.2.aa.length 4,.rs ff 0 x6.2.2.2.ae.length 1]),(dD,.sl x6.2.2.2.aa.length 4 (ai.l x6.2.2.2.aa)),(ff,.sl x6.2.2.2.ae.length 1 (af.l x6.2.2.2.ae))]) (mid:=cz x9.1.nodes bq) o6
    refine qr [.a 2 xq] <| qq ?_
    obtain⟨cb,xr,H⟩:=bj H
    obtain⟨fi,aW,h3,Be,o8,Km⟩:=OL _ _ _ xr h2 _ _ o7 (fw (ah (ez (q:=2) o7 rfl (ah (fW) (ah (cZ (E:=ai) (l:=x6.2.2.2.aa) (q:=3) o7 rfl (fun _=>rfl)) (ah (cZ (E:=af) (l:=x6.2.2.2.ae) (q:=4) o7 rfl (fun _=>rfl)) (aw))))) (ah (aZ) (aw))))
    have o9:=Has.jg (pre:=[(fi,.sl cb.1.nodes.length 4 (b4.l (aK cb.1.nodes aW)))]) (N:=[(gT,.sl x9.1.nodes.length 4 (b4.l (aK x9.1.nodes bq))),(cW,.sl x6.2.1.length 1 (af.l x6.2.1)),(aE,.ob [.bool x6.2.2.2.aj,.rs dD 0 x6.2.2.2.aa.length 4,.rs ff 0 x6.2.2.2.ae.length 1]),(dD,.sl x6.2.2.2.aa.length 4 (ai.l x6.2.2.2.aa)),(ff,.sl x6.2.2.2.ae.length 1 (af.l x6.2.2.2.ae))]) (mid:=cz cb.1.nodes aW) o8
    refine qr [.a 2 Be] <| qq <| qq ?_
    rcases gS H with⟨c4,H⟩| ⟨c4,H⟩
    ·refine qr [.b 2 c4] <| za <| qq ?_
     rcases gS H with⟨c6,H⟩| ⟨c6,H⟩
     ·rcases gS H with⟨c7,H⟩| ⟨c7,H⟩
      ·obtain⟨zr,Al,H⟩:=bj H
       refine qr [.b 2 c6,.b 6 c7,.a 7 (HP _ Al h3 _ (fw (aw)))] ?_
       have xw:Has h3 ((fi,.sl cb.1.nodes.length 4 (b4.l (aK cb.1.nodes aW)))::(gT,.sl x9.1.nodes.length 4 (b4.l (aK x9.1.nodes bq)))::(cW,.sl x6.2.1.length 1 (af.l x6.2.1))::(aE,.ob [.bool x6.2.2.2.aj,.rs dD 0 x6.2.2.2.aa.length 4,.rs ff 0 x6.2.2.2.ae.length 1])::(dD,.sl x6.2.2.2.aa.length 4 (ai.l x6.2.2.2.aa))::(cz cb.1.nodes aW++(cz x9.1.nodes bq++L))):=Has.del o9 5
       have xC:Has h3 ((fi,.sl cb.1.nodes.length 4 (b4.l (aK cb.1.nodes aW)))::(gT,.sl x9.1.nodes.length 4 (b4.l (aK x9.1.nodes bq)))::(cW,.sl x6.2.1.length 1 (af.l x6.2.1))::(aE,.ob [.bool x6.2.2.2.aj,.rs dD 0 x6.2.2.2.aa.length 4,.rs ff 0 x6.2.2.2.ae.length 1])::(cz cb.1.nodes aW++(cz x9.1.nodes bq++L))):=Has.del xw 4
       have CW:Has h3 ((fi,.sl cb.1.nodes.length 4 (b4.l (aK cb.1.nodes aW)))::(gT,.sl x9.1.nodes.length 4 (b4.l (aK x9.1.nodes bq)))::(cW,.sl x6.2.1.length 1 (af.l x6.2.1))::(cz cb.1.nodes aW++(cz x9.1.nodes bq++L))):=Has.del xC 3
       have u9:Has h3 ((fi,.sl cb.1.nodes.length 4 (b4.l (aK cb.1.nodes aW)))::(gT,.sl x9.1.nodes.length 4 (b4.l (aK x9.1.nodes bq)))::(cz cb.1.nodes aW++(cz x9.1.nodes bq++L))):=Has.del CW 2
       have va:Has h3 ((fi,.sl cb.1.nodes.length 4 (b4.l (aK cb.1.nodes aW)))::(cz cb.1.nodes aW++L)):=Has.gone (pre:=[(fi,.sl cb.1.nodes.length 4 (b4.l (aK cb.1.nodes aW)))]) (ns:=x9.1.nodes) (ids:=bq) (Has.jg (pre:=[(fi,.sl cb.1.nodes.length 4 (b4.l (aK cb.1.nodes aW)))]) (mid:=cz cb.1.nodes aW) (N:=cz x9.1.nodes bq) (Has.del u9 1))
       have Fb:Has h3 (L):=Has.gone (pre:=[]) (Has.del va 0)
       obtain rfl:=oi H
       exact qt <| ⟨.inl rfl,cV (.bool zr) h3 (cP (az))⟩
      ·refine qr [.b 2 c6,.b 6 c7] ?_
       have ye:Has h3 ((fi,.sl cb.1.nodes.length 4 (b4.l (aK cb.1.nodes aW)))::(gT,.sl x9.1.nodes.length 4 (b4.l (aK x9.1.nodes bq)))::(cW,.sl x6.2.1.length 1 (af.l x6.2.1))::(aE,.ob [.bool x6.2.2.2.aj,.rs dD 0 x6.2.2.2.aa.length 4,.rs ff 0 x6.2.2.2.ae.length 1])::(dD,.sl x6.2.2.2.aa.length 4 (ai.l x6.2.2.2.aa))::(cz cb.1.nodes aW++(cz x9.1.nodes bq++L))):=Has.del o9 5
       have C5:Has h3 ((fi,.sl cb.1.nodes.length 4 (b4.l (aK cb.1.nodes aW)))::(gT,.sl x9.1.nodes.length 4 (b4.l (aK x9.1.nodes bq)))::(cW,.sl x6.2.1.length 1 (af.l x6.2.1))::(aE,.ob [.bool x6.2.2.2.aj,.rs dD 0 x6.2.2.2.aa.length 4,.rs ff 0 x6.2.2.2.ae.length 1])::(cz cb.1.nodes aW++(cz x9.1.nodes bq++L))):=Has.del ye 4
       have C4:Has h3 ((fi,.sl cb.1.nodes.length 4 (b4.l (aK cb.1.nodes aW)))::(gT,.sl x9.1.nodes.length 4 (b4.l (aK x9.1.nodes bq)))::(cW,.sl x6.2.1.length 1 (af.l x6.2.1))::(cz cb.1.nodes aW++(cz x9.1.nodes bq++L))):=Has.del C5 3
       have Bm:Has h3 ((fi,.sl cb.1.nodes.length 4 (b4.l (aK cb.1.nodes aW)))::(gT,.sl x9.1.nodes.length 4 (b4.l (aK x9.1.nodes bq)))::(cz cb.1.nodes aW++(cz x9.1.nodes bq++L))):=Has.del C4 2
       have LL:Has h3 ((fi,.sl cb.1.nodes.length 4 (b4.l (aK cb.1.nodes aW)))::(cz cb.1.nodes aW++L)):=Has.gone (pre:=[(fi,.sl cb.1.nodes.length 4 (b4.l (aK cb.1.nodes aW)))]) (ns:=x9.1.nodes) (ids:=bq) (Has.jg (pre:=[(fi,.sl cb.1.nodes.length 4 (b4.l (aK cb.1.nodes aW)))]) (mid:=cz cb.1.nodes aW) (N:=cz x9.1.nodes bq) (Has.del Bm 1))
       have Di:Has h3 (L):=Has.gone (pre:=[]) (Has.del LL 0)
       obtain rfl:=oi H
       exact qt <| ⟨.inl rfl,cV (.bool false) h3 (cP (az))⟩
     ·refine qr [.b 2 c6] ?_
      have Ia:Has h3 ((fi,.sl cb.1.nodes.length 4 (b4.l (aK cb.1.nodes aW)))::(gT,.sl x9.1.nodes.length 4 (b4.l (aK x9.1.nodes bq)))::(cW,.sl x6.2.1.length 1 (af.l x6.2.1))::(aE,.ob [.bool x6.2.2.2.aj,.rs dD 0 x6.2.2.2.aa.length 4,.rs ff 0 x6.2.2.2.ae.length 1])::(dD,.sl x6.2.2.2.aa.length 4 (ai.l x6.2.2.2.aa))::(cz cb.1.nodes aW++(cz x9.1.nodes bq++L))):=Has.del o9 5
      have Oc:Has h3 ((fi,.sl cb.1.nodes.length 4 (b4.l (aK cb.1.nodes aW)))::(gT,.sl x9.1.nodes.length 4 (b4.l (aK x9.1.nodes bq)))::(cW,.sl x6.2.1.length 1 (af.l x6.2.1))::(aE,.ob [.bool x6.2.2.2.aj,.rs dD 0 x6.2.2.2.aa.length 4,.rs ff 0 x6.2.2.2.ae.length 1])::(cz cb.1.nodes aW++(cz x9.1.nodes bq++L))):=Has.del Ia 4
      have RU:Has h3 ((fi,.sl cb.1.nodes.length 4 (b4.l (aK cb.1.nodes aW)))::(gT,.sl x9.1.nodes.length 4 (b4.l (aK x9.1.nodes bq)))::(cW,.sl x6.2.1.length 1 (af.l x6.2.1))::(cz cb.1.nodes aW++(cz x9.1.nodes bq++L))):=Has.del Oc 3
      have RV:Has h3 ((fi,.sl cb.1.nodes.length 4 (b4.l (aK cb.1.nodes aW)))::(gT,.sl x9.1.nodes.length 4 (b4.l (aK x9.1.nodes bq)))::(cz cb.1.nodes aW++(cz x9.1.nodes bq++L))):=Has.del RU 2
      have RW:Has h3 ((fi,.sl cb.1.nodes.length 4 (b4.l (aK cb.1.nodes aW)))::(cz cb.1.nodes aW++L)):=Has.gone (pre:=[(fi,.sl cb.1.nodes.length 4 (b4.l (aK cb.1.nodes aW)))]) (ns:=x9.1.nodes) (ids:=bq) (Has.jg (pre:=[(fi,.sl cb.1.nodes.length 4 (b4.l (aK cb.1.nodes aW)))]) (mid:=cz cb.1.nodes aW) (N:=cz x9.1.nodes bq) (Has.del RV 1))
      have Od:Has h3 (L):=Has.gone (pre:=[]) (Has.del RW 0)
      obtain rfl:=oi H
      exact qt <| ⟨.inl rfl,cV (.bool false) h3 (cP (az))⟩
    ·refine qr [.b 2 c4] <| qc H (fun c8 H=>?_) (fun c8 H=>?_)
     ·refine qq ?_
      rcases gS H with⟨c9,H⟩| ⟨c9,H⟩
      ·rcases gS H with⟨EB,H⟩| ⟨EB,H⟩
       ·obtain⟨pf,EE,H⟩:=bj H
        refine qr [.b 2 c9,.b 6 EB,.a 7 (HP _ EE h3 _ (fw (aw)))] ?_
        have RX:Has h3 ((fi,.sl cb.1.nodes.length 4 (b4.l (aK cb.1.nodes aW)))::(gT,.sl x9.1.nodes.length 4 (b4.l (aK x9.1.nodes bq)))::(cW,.sl x6.2.1.length 1 (af.l x6.2.1))::(aE,.ob [.bool x6.2.2.2.aj,.rs dD 0 x6.2.2.2.aa.length 4,.rs ff 0 x6.2.2.2.ae.length 1])::(dD,.sl x6.2.2.2.aa.length 4 (ai.l x6.2.2.2.aa))::(cz cb.1.nodes aW++(cz x9.1.nodes bq++L))):=Has.del o9 5
        have RY:Has h3 ((fi,.sl cb.1.nodes.length 4 (b4.l (aK cb.1.nodes aW)))::(gT,.sl x9.1.nodes.length 4 (b4.l (aK x9.1.nodes bq)))::(cW,.sl x6.2.1.length 1 (af.l x6.2.1))::(aE,.ob [.bool x6.2.2.2.aj,.rs dD 0 x6.2.2.2.aa.length 4,.rs ff 0 x6.2.2.2.ae.length 1])::(cz cb.1.nodes aW++(cz x9.1.nodes bq++L))):=Has.del RX 4
        have RZ:Has h3 ((fi,.sl cb.1.nodes.length 4 (b4.l (aK cb.1.nodes aW)))::(gT,.sl x9.1.nodes.length 4 (b4.l (aK x9.1.nodes bq)))::(cW,.sl x6.2.1.length 1 (af.l x6.2.1))::(cz cb.1.nodes aW++(cz x9.1.nodes bq++L))):=Has.del RY 3
        have R0:Has h3 ((fi,.sl cb.1.nodes.length 4 (b4.l (aK cb.1.nodes aW)))::(gT,.sl x9.1.nodes.length 4 (b4.l (aK x9.1.nodes bq)))::(cz cb.1.nodes aW++(cz x9.1.nodes bq++L))):=Has.del RZ 2
        have R5:Has h3 ((fi,.sl cb.1.nodes.length 4 (b4.l (aK cb.1.nodes aW)))::(cz cb.1.nodes aW++L)):=Has.gone (pre:=[(fi,.sl cb.1.nodes.length 4 (b4.l (aK cb.1.nodes aW)))]) (ns:=x9.1.nodes) (ids:=bq) (Has.jg (pre:=[(fi,.sl cb.1.nodes.length 4 (b4.l (aK cb.1.nodes aW)))]) (mid:=cz cb.1.nodes aW) (N:=cz x9.1.nodes bq) (Has.del R0 1))
        have WH:Has h3 (L):=Has.gone (pre:=[]) (Has.del R5 0)
        obtain rfl:=oi H
        exact qt <| ⟨.inl rfl,cV (.bool pf) h3 (cP (az))⟩
       ·refine qr [.b 2 c9,.b 6 EB] ?_
        have Xj:Has h3 ((fi,.sl cb.1.nodes.length 4 (b4.l (aK cb.1.nodes aW)))::(gT,.sl x9.1.nodes.length 4 (b4.l (aK x9.1.nodes bq)))::(cW,.sl x6.2.1.length 1 (af.l x6.2.1))::(aE,.ob [.bool x6.2.2.2.aj,.rs dD 0 x6.2.2.2.aa.length 4,.rs ff 0 x6.2.2.2.ae.length 1])::(dD,.sl x6.2.2.2.aa.length 4 (ai.l x6.2.2.2.aa))::(cz cb.1.nodes aW++(cz x9.1.nodes bq++L))):=Has.del o9 5
        have Xk:Has h3 ((fi,.sl cb.1.nodes.length 4 (b4.l (aK cb.1.nodes aW)))::(gT,.sl x9.1.nodes.length 4 (b4.l (aK x9.1.nodes bq)))::(cW,.sl x6.2.1.length 1 (af.l x6.2.1))::(aE,.ob [.bool x6.2.2.2.aj,.rs dD 0 x6.2.2.2.aa.length 4,.rs ff 0 x6.2.2.2.ae.length 1])::(cz cb.1.nodes aW++(cz x9.1.nodes bq++L))):=Has.del Xj 4
        have Xl:Has h3 ((fi,.sl cb.1.nodes.length 4 (b4.l (aK cb.1.nodes aW)))::(gT,.sl x9.1.nodes.length 4 (b4.l (aK x9.1.nodes bq)))::(cW,.sl x6.2.1.length 1 (af.l x6.2.1))::(cz cb.1.nodes aW++(cz x9.1.nodes bq++L))):=Has.del Xk 3
        have Xm:Has h3 ((fi,.sl cb.1.nodes.length 4 (b4.l (aK cb.1.nodes aW)))::(gT,.sl x9.1.nodes.length 4 (b4.l (aK x9.1.nodes bq)))::(cz cb.1.nodes aW++(cz x9.1.nodes bq++L))):=Has.del Xl 2
        have Xn:Has h3 ((fi,.sl cb.1.nodes.length 4 (b4.l (aK cb.1.nodes aW)))::(cz cb.1.nodes aW++L)):=Has.gone (pre:=[(fi,.sl cb.1.nodes.length 4 (b4.l (aK cb.1.nodes aW)))]) (ns:=x9.1.nodes) (ids:=bq) (Has.jg (pre:=[(fi,.sl cb.1.nodes.length 4 (b4.l (aK cb.1.nodes aW)))]) (mid:=cz cb.1.nodes aW) (N:=cz x9.1.nodes bq) (Has.del Xm 1))
        have Zp:Has h3 (L):=Has.gone (pre:=[]) (Has.del Xn 0)
        obtain rfl:=oi H
        exact qt <| ⟨.inl rfl,cV (.bool false) h3 (cP (az))⟩
      ·refine qr [.b 2 c9] ?_
       have Xo:Has h3 ((fi,.sl cb.1.nodes.length 4 (b4.l (aK cb.1.nodes aW)))::(gT,.sl x9.1.nodes.length 4 (b4.l (aK x9.1.nodes bq)))::(cW,.sl x6.2.1.length 1 (af.l x6.2.1))::(aE,.ob [.bool x6.2.2.2.aj,.rs dD 0 x6.2.2.2.aa.length 4,.rs ff 0 x6.2.2.2.ae.length 1])::(dD,.sl x6.2.2.2.aa.length 4 (ai.l x6.2.2.2.aa))::(cz cb.1.nodes aW++(cz x9.1.nodes bq++L))):=Has.del o9 5
       have Xp:Has h3 ((fi,.sl cb.1.nodes.length 4 (b4.l (aK cb.1.nodes aW)))::(gT,.sl x9.1.nodes.length 4 (b4.l (aK x9.1.nodes bq)))::(cW,.sl x6.2.1.length 1 (af.l x6.2.1))::(aE,.ob [.bool x6.2.2.2.aj,.rs dD 0 x6.2.2.2.aa.length 4,.rs ff 0 x6.2.2.2.ae.length 1])::(cz cb.1.nodes aW++(cz x9.1.nodes bq++L))):=Has.del Xo 4
       have Xq:Has h3 ((fi,.sl cb.1.nodes.length 4 (b4.l (aK cb.1.nodes aW)))::(gT,.sl x9.1.nodes.length 4 (b4.l (aK x9.1.nodes bq)))::(cW,.sl x6.2.1.length 1 (af.l x6.2.1))::(cz cb.1.nodes aW++(cz x9.1.nodes bq++L))):=Has.del Xp 3
       have Xr:Has h3 ((fi,.sl cb.1.nodes.length 4 (b4.l (aK cb.1.nodes aW)))::(gT,.sl x9.1.nodes.length 4 (b4.l (aK x9.1.nodes bq)))::(cz cb.1.nodes aW++(cz x9.1.nodes bq++L))):=Has.del Xq 2
       have Xs:Has h3 ((fi,.sl cb.1.nodes.length 4 (b4.l (aK cb.1.nodes aW)))::(cz cb.1.nodes aW++L)):=Has.gone (pre:=[(fi,.sl cb.1.nodes.length 4 (b4.l (aK cb.1.nodes aW)))]) (ns:=x9.1.nodes) (ids:=bq) (Has.jg (pre:=[(fi,.sl cb.1.nodes.length 4 (b4.l (aK cb.1.nodes aW)))]) (mid:=cz cb.1.nodes aW) (N:=cz x9.1.nodes bq) (Has.del Xr 1))
       have Zq:Has h3 (L):=Has.gone (pre:=[]) (Has.del Xs 0)
       obtain rfl:=oi H
       exact qt <| ⟨.inl rfl,cV (.bool false) h3 (cP (az))⟩
     ·refine qk <| qq ?_
      obtain⟨tQ,EF,H⟩:=bj H
      refine qr [.a 2 (SZ _ _ _ EF h3 _ (fw (ah (eV (ah (xi (pre:=[(fi,.sl cb.1.nodes.length 4 (b4.l (aK cb.1.nodes aW))),(gT,.sl x9.1.nodes.length 4 (b4.l (aK x9.1.nodes bq))),(cW,.sl x6.2.1.length 1 (af.l x6.2.1)),(aE,.ob [.bool x6.2.2.2.aj,.rs dD 0 x6.2.2.2.aa.length 4,.rs ff 0 x6.2.2.2.ae.length 1]),(dD,.sl x6.2.2.2.aa.length 4 (ai.l x6.2.2.2.aa)),(ff,.sl x6.2.2.2.ae.length 1 (af.l x6.2.2.2.ae))]) (ns:=x9.1.nodes) (ids:=bq) (q:=1) (Has.jg (pre:=[(fi,.sl cb.1.nodes.length 4 (b4.l (aK cb.1.nodes aW))),(gT,.sl x9.1.nodes.length 4 (b4.l (aK x9.1.nodes bq))),(cW,.sl x6.2.1.length 1 (af.l x6.2.1)),(aE,.ob [.bool x6.2.2.2.aj,.rs dD 0 x6.2.2.2.aa.length 4,.rs ff 0 x6.2.2.2.ae.length 1]),(dD,.sl x6.2.2.2.aa.length 4 (ai.l x6.2.2.2.aa)),(ff,.sl x6.2.2.2.ae.length 1 (af.l x6.2.2.2.ae))]) (mid:=cz cb.1.nodes aW) (N:=cz x9.1.nodes bq) o9) rfl) (ah (aZ) (aw)))) (ah (eV (ah (xi (pre:=[(fi,.sl cb.1.nodes.length 4 (b4.l (aK cb.1.nodes aW))),(gT,.sl x9.1.nodes.length 4 (b4.l (aK x9.1.nodes bq))),(cW,.sl x6.2.1.length 1 (af.l x6.2.1)),(aE,.ob [.bool x6.2.2.2.aj,.rs dD 0 x6.2.2.2.aa.length 4,.rs ff 0 x6.2.2.2.ae.length 1]),(dD,.sl x6.2.2.2.aa.length 4 (ai.l x6.2.2.2.aa)),(ff,.sl x6.2.2.2.ae.length 1 (af.l x6.2.2.2.ae))]) (ns:=cb.1.nodes) (ids:=aW) (q:=0) o9 rfl) (ah (aZ) (aw)))) (aw)))))] ?_
      have Xt:Has h3 ((fi,.sl cb.1.nodes.length 4 (b4.l (aK cb.1.nodes aW)))::(cW,.sl x6.2.1.length 1 (af.l x6.2.1))::(aE,.ob [.bool x6.2.2.2.aj,.rs dD 0 x6.2.2.2.aa.length 4,.rs ff 0 x6.2.2.2.ae.length 1])::(dD,.sl x6.2.2.2.aa.length 4 (ai.l x6.2.2.2.aa))::(ff,.sl x6.2.2.2.ae.length 1 (af.l x6.2.2.2.ae))::(cz cb.1.nodes aW++L)):=Has.gone (pre:=[(fi,.sl cb.1.nodes.length 4 (b4.l (aK cb.1.nodes aW))),(cW,.sl x6.2.1.length 1 (af.l x6.2.1)),(aE,.ob [.bool x6.2.2.2.aj,.rs dD 0 x6.2.2.2.aa.length 4,.rs ff 0 x6.2.2.2.ae.length 1]),(dD,.sl x6.2.2.2.aa.length 4 (ai.l x6.2.2.2.aa)),(ff,.sl x6.2.2.2.ae.length 1 (af.l x6.2.2.2.ae))]) (ns:=x9.1.nodes) (ids:=bq) (Has.jg (pre:=[(fi,.sl cb.1.nodes.length 4 (b4.l (aK cb.1.nodes aW))),(cW,.sl x6.2.1.length 1 (af.l x6.2.1)),(aE,.ob [.bool x6.2.2.2.aj,.rs dD 0 x6.2.2.2.aa.length 4,.rs ff 0 x6.2.2.2.ae.length 1]),(dD,.sl x6.2.2.2.aa.length 4 (ai.l x6.2.2.2.aa)),(ff,.sl x6.2.2.2.ae.length 1 (af.l x6.2.2.2.ae))]) (mid:=cz cb.1.nodes aW) (N:=cz x9.1.nodes bq) (Has.del o9 1))
      have Ve:Has h3 ((cW,.sl x6.2.1.length 1 (af.l x6.2.1))::(aE,.ob [.bool x6.2.2.2.aj,.rs dD 0 x6.2.2.2.aa.length 4,.rs ff 0 x6.2.2.2.ae.length 1])::(dD,.sl x6.2.2.2.aa.length 4 (ai.l x6.2.2.2.aa))::(ff,.sl x6.2.2.2.ae.length 1 (af.l x6.2.2.2.ae))::L):=Has.gone (pre:=[(cW,.sl x6.2.1.length 1 (af.l x6.2.1)),(aE,.ob [.bool x6.2.2.2.aj,.rs dD 0 x6.2.2.2.aa.length 4,.rs ff 0 x6.2.2.2.ae.length 1]),(dD,.sl x6.2.2.2.aa.length 4 (ai.l x6.2.2.2.aa)),(ff,.sl x6.2.2.2.ae.length 1 (af.l x6.2.2.2.ae))]) (Has.del Xt 0)
      refine qq ?_
      obtain⟨a6,Fa,H⟩:=bj H
      rcases Ew H with⟨hn0,H⟩| ⟨pj,hn0,H⟩
      ·obtain⟨kC,E9,iQ,jR,lN,h4,CV,Xu⟩:=OK _ _ Fa h3 _ _ _ _ ((Has.front (Has.front (Has.front (Has.front Ve 0 rfl) 3 rfl) 3 rfl) 3 rfl))  [.ptr aE 0] (au (rfl) (bN))
       rw [hn0] at CV Xu
       refine qr [.a 1 CV] <| qq ?_
       cases H
      ·obtain⟨ln,Bk,zB,bL,bS,h5,H5,Vf⟩:=OK _ _ Fa h3 _ _ _ _ ((Has.front (Has.front (Has.front (Has.front Ve 0 rfl) 3 rfl) 3 rfl) 3 rfl))  [.ptr aE 0] (au (rfl) (bN))
       rw [hn0] at H5 Vf
       refine qr [.a 1 H5] <| qq ?_
       obtain⟨jI,H6,H⟩:=bj H
       obtain⟨kD,tV,u7,h6,H7,Xv⟩:=LO _ _ _ _ H6 h5 _ _ _ _ (Vf)  [.ptr ln 0,.int .i64 a0,.int .i64 b0] (au (rfl) (au (aP (bm)) (au (aP (bm)) (bN))))
       refine qr [.a 3 H7] ?_
       have Xw:Has h6 ((kD,.sl jI.1.length 1 (af.l jI.1))::(ln,.ob [.bool jI.2.2.aj,.rs tV 0 jI.2.2.aa.length 4,.rs u7 0 jI.2.2.ae.length 1])::(tV,.sl jI.2.2.aa.length 4 (ai.l jI.2.2.aa))::(aE,.ob [.bool a6.2.aj,.rs bL 0 a6.2.aa.length 4,.rs bS 0 a6.2.ae.length 1])::(bL,.sl a6.2.aa.length 4 (ai.l a6.2.aa))::(bS,.sl a6.2.ae.length 1 (af.l a6.2.ae))::(cW,.sl x6.2.1.length 1 (af.l x6.2.1))::L):=Has.del Xv 3
       have Xx:Has h6 ((kD,.sl jI.1.length 1 (af.l jI.1))::(ln,.ob [.bool jI.2.2.aj,.rs tV 0 jI.2.2.aa.length 4,.rs u7 0 jI.2.2.ae.length 1])::(aE,.ob [.bool a6.2.aj,.rs bL 0 a6.2.aa.length 4,.rs bS 0 a6.2.ae.length 1])::(bL,.sl a6.2.aa.length 4 (ai.l a6.2.aa))::(bS,.sl a6.2.ae.length 1 (af.l a6.2.ae))::(cW,.sl x6.2.1.length 1 (af.l x6.2.1))::L):=Has.del Xw 2
       have rN:Has h6 ((kD,.sl jI.1.length 1 (af.l jI.1))::(aE,.ob [.bool a6.2.aj,.rs bL 0 a6.2.aa.length 4,.rs bS 0 a6.2.ae.length 1])::(bL,.sl a6.2.aa.length 4 (ai.l a6.2.aa))::(bS,.sl a6.2.ae.length 1 (af.l a6.2.ae))::(cW,.sl x6.2.1.length 1 (af.l x6.2.1))::L):=Has.del Xx 1
       obtain⟨tP,GD,H⟩:=oa H
       refine qj (S:=fun (σ:Unit) s=>match σ with | _=>∃(h7:AHeap),s=⟨.any :: .int .i64 a0 :: .int .i64 b0::aT.fz cH :: .any :: .ptr aE 0 :: .any :: .int .i64 x6.1::NF [.bool (decide (x6.1 > (1:Int))),.any,.any],[none,none],h7⟩∧Has h7 ((aE,.ob [.bool a6.2.aj,.rs bL 0 a6.2.aa.length 4,.rs bS 0 a6.2.ae.length 1])::(bL,.sl a6.2.aa.length 4 (ai.l a6.2.aa))::(bS,.sl a6.2.ae.length 1 (af.l a6.2.ae))::L)) tP H ?_ ?_
       ·rintro _ s ⟨h7,rfl,S3⟩ H
        have H:=(GD _).symm.trans H
        try dsimp only at H
        refine qq <| qq <| q0 <| qb 0 ?_
        obtain⟨bM,ME,H⟩:=bj H
        refine ql (bB.cQ L l0 a0 b0 cH aE x6  Bp EG ((0:Int),a6.2) _ _ ⟨bL,bS,h7,by kernel_rfl,S3⟩ ME) ?_
        rintro e s (⟨rfl,i1,xF,rfl,g0,g1,g2,g3,g4,g5,g6,Me,OM,h11,rfl,S4⟩| ⟨rfl,r0,rfl,uX⟩)
        ·try dsimp only at H
         refine qq ?_
         obtain⟨Of,MD,H⟩:=bj H
         refine qr [.a 0 (HP _ MD h11 _ (fw (aw)))] ?_
         have S5:Has h11 ((aE,.ob [.bool xF.aj,.rs Me 0 xF.aa.length 4,.rs OM 0 xF.ae.length 1])::(Me,.sl xF.aa.length 4 (ai.l xF.aa))::L):=Has.del S4 2
         have S8:Has h11 ((aE,.ob [.bool xF.aj,.rs Me 0 xF.aa.length 4,.rs OM 0 xF.ae.length 1])::L):=Has.del S5 1
         have Xy:Has h11 (L):=Has.del S8 0
         obtain rfl:=oi H
         exact qt <| ⟨.inl rfl,cV (.bool Of) h11 (cP (az))⟩
        ·try dsimp only at H
         obtain rfl:=oi H
         exact⟨.inl rfl,uX⟩
       clear GD
       intro pd
       refine qq ?_
       rcases gS H with⟨pg,H⟩| ⟨pg,H⟩
       ·refine qr [.b 2 pg] ?_
        have Xz:Has h6 ((kD,.sl jI.1.length 1 (af.l jI.1))::(aE,.ob [.bool a6.2.aj,.rs bL 0 a6.2.aa.length 4,.rs bS 0 a6.2.ae.length 1])::(bL,.sl a6.2.aa.length 4 (ai.l a6.2.aa))::(bS,.sl a6.2.ae.length 1 (af.l a6.2.ae))::L):=Has.del rN 4
        have XA:Has h6 ((aE,.ob [.bool a6.2.aj,.rs bL 0 a6.2.aa.length 4,.rs bS 0 a6.2.ae.length 1])::(bL,.sl a6.2.aa.length 4 (ai.l a6.2.aa))::(bS,.sl a6.2.ae.length 1 (af.l a6.2.ae))::L):=Has.del Xz 0
        refine za <| qq <| q0 ?_
        have XB:Has h6 ((aE,.ob [.bool a6.2.aj,.rs bL 0 a6.2.aa.length 4,.rs bS 0 a6.2.ae.length 1])::(bL,.sl a6.2.aa.length 4 (ai.l a6.2.aa))::L):=Has.del XA 2
        have XC:Has h6 ((aE,.ob [.bool a6.2.aj,.rs bL 0 a6.2.aa.length 4,.rs bS 0 a6.2.ae.length 1])::L):=Has.del XB 1
        have Zr:Has h6 (L):=Has.del XC 0
        obtain rfl:=oi H
        exact qt <| ⟨.inl rfl,cV (.bool false) h6 (cP (az))⟩
       ·rcases gS H with⟨sC,H⟩| ⟨sC,H⟩
        ·refine qr [.b 2 pg,.b 8 sC] ?_
         have XD:Has h6 ((kD,.sl jI.1.length 1 (af.l jI.1))::(aE,.ob [.bool a6.2.aj,.rs bL 0 a6.2.aa.length 4,.rs bS 0 a6.2.ae.length 1])::(bL,.sl a6.2.aa.length 4 (ai.l a6.2.aa))::(bS,.sl a6.2.ae.length 1 (af.l a6.2.ae))::L):=Has.del rN 4
         have XE:Has h6 ((aE,.ob [.bool a6.2.aj,.rs bL 0 a6.2.aa.length 4,.rs bS 0 a6.2.ae.length 1])::(bL,.sl a6.2.aa.length 4 (ai.l a6.2.aa))::(bS,.sl a6.2.ae.length 1 (af.l a6.2.ae))::L):=Has.del XD 0
         refine za <| qq <| q0 ?_
         have XF:Has h6 ((aE,.ob [.bool a6.2.aj,.rs bL 0 a6.2.aa.length 4,.rs bS 0 a6.2.ae.length 1])::(bL,.sl a6.2.aa.length 4 (ai.l a6.2.aa))::L):=Has.del XE 2
         have XG:Has h6 ((aE,.ob [.bool a6.2.aj,.rs bL 0 a6.2.aa.length 4,.rs bS 0 a6.2.ae.length 1])::L):=Has.del XF 1
         have Zs:Has h6 (L):=Has.del XG 0
         obtain rfl:=oi H
         exact qt <| ⟨.inl rfl,cV (.bool false) h6 (cP (az))⟩
        ·rcases gS H with⟨zC,H⟩| ⟨zC,H⟩
         ·refine qr [.b 2 pg,.b 8 sC,.b 15 zC] ?_
          have XH:Has h6 ((kD,.sl jI.1.length 1 (af.l jI.1))::(aE,.ob [.bool a6.2.aj,.rs bL 0 a6.2.aa.length 4,.rs bS 0 a6.2.ae.length 1])::(bL,.sl a6.2.aa.length 4 (ai.l a6.2.aa))::(bS,.sl a6.2.ae.length 1 (af.l a6.2.ae))::L):=Has.del rN 4
          have XI:Has h6 ((aE,.ob [.bool a6.2.aj,.rs bL 0 a6.2.aa.length 4,.rs bS 0 a6.2.ae.length 1])::(bL,.sl a6.2.aa.length 4 (ai.l a6.2.aa))::(bS,.sl a6.2.ae.length 1 (af.l a6.2.ae))::L):=Has.del XH 0
          refine za <| qq <| q0 ?_
          have XJ:Has h6 ((aE,.ob [.bool a6.2.aj,.rs bL 0 a6.2.aa.length 4,.rs bS 0 a6.2.ae.length 1])::(bL,.sl a6.2.aa.length 4 (ai.l a6.2.aa))::L):=Has.del XI 2
          have XK:Has h6 ((aE,.ob [.bool a6.2.aj,.rs bL 0 a6.2.aa.length 4,.rs bS 0 a6.2.ae.length 1])::L):=Has.del XJ 1
          have Zt:Has h6 (L):=Has.del XK 0
          obtain rfl:=oi H
          exact qt <| ⟨.inl rfl,cV (.bool false) h6 (cP (az))⟩
         ·rcases gS H with⟨vO,H⟩| ⟨vO,H⟩
          ·obtain⟨Pj,Bl,H⟩:=bj H
           rcases gS H with⟨I9,H⟩| ⟨I9,H⟩
           ·refine qr [.b 2 pg,.b 8 sC,.b 15 zC,.b 18 vO,.a 21 (BG _ _ _ Bl h6 _ (fw (ah (cZ (E:=af) (l:=x6.2.1) (q:=4) rN rfl (fun _=>rfl)) (ah (cZ (E:=af) (l:=jI.1) (q:=0) rN rfl (fun _=>rfl)) (aw))))),.b 25 I9] ?_
            have XL:Has h6 ((kD,.sl jI.1.length 1 (af.l jI.1))::(aE,.ob [.bool a6.2.aj,.rs bL 0 a6.2.aa.length 4,.rs bS 0 a6.2.ae.length 1])::(bL,.sl a6.2.aa.length 4 (ai.l a6.2.aa))::(bS,.sl a6.2.ae.length 1 (af.l a6.2.ae))::L):=Has.del rN 4
            have XM:Has h6 ((aE,.ob [.bool a6.2.aj,.rs bL 0 a6.2.aa.length 4,.rs bS 0 a6.2.ae.length 1])::(bL,.sl a6.2.aa.length 4 (ai.l a6.2.aa))::(bS,.sl a6.2.ae.length 1 (af.l a6.2.ae))::L):=Has.del XL 0
            refine za <| qq <| q0 ?_
            have XN:Has h6 ((aE,.ob [.bool a6.2.aj,.rs bL 0 a6.2.aa.length 4,.rs bS 0 a6.2.ae.length 1])::(bL,.sl a6.2.aa.length 4 (ai.l a6.2.aa))::L):=Has.del XM 2
            have XO:Has h6 ((aE,.ob [.bool a6.2.aj,.rs bL 0 a6.2.aa.length 4,.rs bS 0 a6.2.ae.length 1])::L):=Has.del XN 1
            have Zu:Has h6 (L):=Has.del XO 0
            obtain rfl:=oi H
            exact qt <| ⟨.inl rfl,cV (.bool false) h6 (cP (az))⟩
           ·rcases gS H with⟨MI,H⟩| ⟨MI,H⟩
            ·rcases gS H with⟨Pq,H⟩| ⟨Pq,H⟩
             ·refine qr [.b 2 pg,.b 8 sC,.b 15 zC,.b 18 vO,.a 21 (BG _ _ _ Bl h6 _ (fw (ah (cZ (E:=af) (l:=x6.2.1) (q:=4) rN rfl (fun _=>rfl)) (ah (cZ (E:=af) (l:=jI.1) (q:=0) rN rfl (fun _=>rfl)) (aw))))),.b 25 I9,.b 28 MI,.b 34 Pq] ?_
              have XP:Has h6 ((kD,.sl jI.1.length 1 (af.l jI.1))::(aE,.ob [.bool a6.2.aj,.rs bL 0 a6.2.aa.length 4,.rs bS 0 a6.2.ae.length 1])::(bL,.sl a6.2.aa.length 4 (ai.l a6.2.aa))::(bS,.sl a6.2.ae.length 1 (af.l a6.2.ae))::L):=Has.del rN 4
              have XQ:Has h6 ((aE,.ob [.bool a6.2.aj,.rs bL 0 a6.2.aa.length 4,.rs bS 0 a6.2.ae.length 1])::(bL,.sl a6.2.aa.length 4 (ai.l a6.2.aa))::(bS,.sl a6.2.ae.length 1 (af.l a6.2.ae))::L):=Has.del XP 0
              refine za <| qq <| q0 ?_
              have XR:Has h6 ((aE,.ob [.bool a6.2.aj,.rs bL 0 a6.2.aa.length 4,.rs bS 0 a6.2.ae.length 1])::(bL,.sl a6.2.aa.length 4 (ai.l a6.2.aa))::L):=Has.del XQ 2
              have XS:Has h6 ((aE,.ob [.bool a6.2.aj,.rs bL 0 a6.2.aa.length 4,.rs bS 0 a6.2.ae.length 1])::L):=Has.del XR 1
              have Zv:Has h6 (L):=Has.del XS 0
              obtain rfl:=oi H
              exact qt <| ⟨.inl rfl,cV (.bool false) h6 (cP (az))⟩
             ·rcases gS H with⟨Ta,H⟩| ⟨Ta,H⟩
              ·refine qr [.b 2 pg,.b 8 sC,.b 15 zC,.b 18 vO,.a 21 (BG _ _ _ Bl h6 _ (fw (ah (cZ (E:=af) (l:=x6.2.1) (q:=4) rN rfl (fun _=>rfl)) (ah (cZ (E:=af) (l:=jI.1) (q:=0) rN rfl (fun _=>rfl)) (aw))))),.b 25 I9,.b 28 MI,.b 34 Pq,.b 38 Ta] ?_
               have XT:Has h6 ((kD,.sl jI.1.length 1 (af.l jI.1))::(aE,.ob [.bool a6.2.aj,.rs bL 0 a6.2.aa.length 4,.rs bS 0 a6.2.ae.length 1])::(bL,.sl a6.2.aa.length 4 (ai.l a6.2.aa))::(bS,.sl a6.2.ae.length 1 (af.l a6.2.ae))::L):=Has.del rN 4
               have XU:Has h6 ((aE,.ob [.bool a6.2.aj,.rs bL 0 a6.2.aa.length 4,.rs bS 0 a6.2.ae.length 1])::(bL,.sl a6.2.aa.length 4 (ai.l a6.2.aa))::(bS,.sl a6.2.ae.length 1 (af.l a6.2.ae))::L):=Has.del XT 0
               refine za <| qq <| q0 ?_
               have XV:Has h6 ((aE,.ob [.bool a6.2.aj,.rs bL 0 a6.2.aa.length 4,.rs bS 0 a6.2.ae.length 1])::(bL,.sl a6.2.aa.length 4 (ai.l a6.2.aa))::L):=Has.del XU 2
               have XW:Has h6 ((aE,.ob [.bool a6.2.aj,.rs bL 0 a6.2.aa.length 4,.rs bS 0 a6.2.ae.length 1])::L):=Has.del XV 1
               have Zw:Has h6 (L):=Has.del XW 0
               obtain rfl:=oi H
               exact qt <| ⟨.inl rfl,cV (.bool false) h6 (cP (az))⟩
              ·refine qr [.b 2 pg,.b 8 sC,.b 15 zC,.b 18 vO,.a 21 (BG _ _ _ Bl h6 _ (fw (ah (cZ (E:=af) (l:=x6.2.1) (q:=4) rN rfl (fun _=>rfl)) (ah (cZ (E:=af) (l:=jI.1) (q:=0) rN rfl (fun _=>rfl)) (aw))))),.b 25 I9,.b 28 MI,.b 34 Pq,.b 38 Ta] ?_
               have XX:Has h6 ((kD,.sl jI.1.length 1 (af.l jI.1))::(aE,.ob [.bool a6.2.aj,.rs bL 0 a6.2.aa.length 4,.rs bS 0 a6.2.ae.length 1])::(bL,.sl a6.2.aa.length 4 (ai.l a6.2.aa))::(bS,.sl a6.2.ae.length 1 (af.l a6.2.ae))::L):=Has.del rN 4
               have Vh:Has h6 ((aE,.ob [.bool a6.2.aj,.rs bL 0 a6.2.aa.length 4,.rs bS 0 a6.2.ae.length 1])::(bL,.sl a6.2.aa.length 4 (ai.l a6.2.aa))::(bS,.sl a6.2.ae.length 1 (af.l a6.2.ae))::L):=Has.del XX 0
               refine qc H (fun XY H=>?_) (fun XY H=>?_)
               ·refine q1 ?_
                have XZ:Has h6 ((aE,.ob [.bool a6.2.aj,.rs bL 0 a6.2.aa.length 4,.rs bS 0 a6.2.ae.length 1])::(bL,.sl a6.2.aa.length 4 (ai.l a6.2.aa))::L):=Has.del Vh 2
                have X0:Has h6 ((aE,.ob [.bool a6.2.aj,.rs bL 0 a6.2.aa.length 4,.rs bS 0 a6.2.ae.length 1])::L):=Has.del XZ 1
                have Zx:Has h6 (L):=Has.del X0 0
                obtain rfl:=oi H
                exact qt <| ⟨.inl rfl,cV (.bool false) h6 (cP (az))⟩
               ·exact qk <| pd () _ ⟨h6,by kernel_rfl,Vh⟩ H
            ·rcases gS H with⟨Tb,H⟩| ⟨Tb,H⟩
             ·refine qr [.b 2 pg,.b 8 sC,.b 15 zC,.b 18 vO,.a 21 (BG _ _ _ Bl h6 _ (fw (ah (cZ (E:=af) (l:=x6.2.1) (q:=4) rN rfl (fun _=>rfl)) (ah (cZ (E:=af) (l:=jI.1) (q:=0) rN rfl (fun _=>rfl)) (aw))))),.b 25 I9,.b 28 MI,.b 38 Tb] ?_
              have X1:Has h6 ((kD,.sl jI.1.length 1 (af.l jI.1))::(aE,.ob [.bool a6.2.aj,.rs bL 0 a6.2.aa.length 4,.rs bS 0 a6.2.ae.length 1])::(bL,.sl a6.2.aa.length 4 (ai.l a6.2.aa))::(bS,.sl a6.2.ae.length 1 (af.l a6.2.ae))::L):=Has.del rN 4
              have X2:Has h6 ((aE,.ob [.bool a6.2.aj,.rs bL 0 a6.2.aa.length 4,.rs bS 0 a6.2.ae.length 1])::(bL,.sl a6.2.aa.length 4 (ai.l a6.2.aa))::(bS,.sl a6.2.ae.length 1 (af.l a6.2.ae))::L):=Has.del X1 0
              refine za <| qq <| q0 ?_
              have X3:Has h6 ((aE,.ob [.bool a6.2.aj,.rs bL 0 a6.2.aa.length 4,.rs bS 0 a6.2.ae.length 1])::(bL,.sl a6.2.aa.length 4 (ai.l a6.2.aa))::L):=Has.del X2 2
              have X4:Has h6 ((aE,.ob [.bool a6.2.aj,.rs bL 0 a6.2.aa.length 4,.rs bS 0 a6.2.ae.length 1])::L):=Has.del X3 1
              have Zy:Has h6 (L):=Has.del X4 0
              obtain rfl:=oi H
              exact qt <| ⟨.inl rfl,cV (.bool false) h6 (cP (az))⟩
             ·refine qr [.b 2 pg,.b 8 sC,.b 15 zC,.b 18 vO,.a 21 (BG _ _ _ Bl h6 _ (fw (ah (cZ (E:=af) (l:=x6.2.1) (q:=4) rN rfl (fun _=>rfl)) (ah (cZ (E:=af) (l:=jI.1) (q:=0) rN rfl (fun _=>rfl)) (aw))))),.b 25 I9,.b 28 MI,.b 38 Tb] ?_
              have X5:Has h6 ((kD,.sl jI.1.length 1 (af.l jI.1))::(aE,.ob [.bool a6.2.aj,.rs bL 0 a6.2.aa.length 4,.rs bS 0 a6.2.ae.length 1])::(bL,.sl a6.2.aa.length 4 (ai.l a6.2.aa))::(bS,.sl a6.2.ae.length 1 (af.l a6.2.ae))::L):=Has.del rN 4
              have Vi:Has h6 ((aE,.ob [.bool a6.2.aj,.rs bL 0 a6.2.aa.length 4,.rs bS 0 a6.2.ae.length 1])::(bL,.sl a6.2.aa.length 4 (ai.l a6.2.aa))::(bS,.sl a6.2.ae.length 1 (af.l a6.2.ae))::L):=Has.del X5 0
              refine qc H (fun X6 H=>?_) (fun X6 H=>?_)
              ·refine q1 ?_
               have X7:Has h6 ((aE,.ob [.bool a6.2.aj,.rs bL 0 a6.2.aa.length 4,.rs bS 0 a6.2.ae.length 1])::(bL,.sl a6.2.aa.length 4 (ai.l a6.2.aa))::L):=Has.del Vi 2
               have X8:Has h6 ((aE,.ob [.bool a6.2.aj,.rs bL 0 a6.2.aa.length 4,.rs bS 0 a6.2.ae.length 1])::L):=Has.del X7 1
               have Zz:Has h6 (L):=Has.del X8 0
               obtain rfl:=oi H
               exact qt <| ⟨.inl rfl,cV (.bool false) h6 (cP (az))⟩
              ·exact qk <| pd () _ ⟨h6,by kernel_rfl,Vi⟩ H
          ·rcases gS H with⟨MJ,H⟩| ⟨MJ,H⟩
           ·rcases gS H with⟨Pt,H⟩| ⟨Pt,H⟩
            ·refine qr [.b 2 pg,.b 8 sC,.b 15 zC,.b 18 vO,.b 28 MJ,.b 34 Pt] ?_
             have X9:Has h6 ((kD,.sl jI.1.length 1 (af.l jI.1))::(aE,.ob [.bool a6.2.aj,.rs bL 0 a6.2.aa.length 4,.rs bS 0 a6.2.ae.length 1])::(bL,.sl a6.2.aa.length 4 (ai.l a6.2.aa))::(bS,.sl a6.2.ae.length 1 (af.l a6.2.ae))::L):=Has.del rN 4
             have Tc:Has h6 ((aE,.ob [.bool a6.2.aj,.rs bL 0 a6.2.aa.length 4,.rs bS 0 a6.2.ae.length 1])::(bL,.sl a6.2.aa.length 4 (ai.l a6.2.aa))::(bS,.sl a6.2.ae.length 1 (af.l a6.2.ae))::L):=Has.del X9 0
             refine za <| qq <| q0 ?_
             have Td:Has h6 ((aE,.ob [.bool a6.2.aj,.rs bL 0 a6.2.aa.length 4,.rs bS 0 a6.2.ae.length 1])::(bL,.sl a6.2.aa.length 4 (ai.l a6.2.aa))::L):=Has.del Tc 2
             have Te:Has h6 ((aE,.ob [.bool a6.2.aj,.rs bL 0 a6.2.aa.length 4,.rs bS 0 a6.2.ae.length 1])::L):=Has.del Td 1
             have Ya:Has h6 (L):=Has.del Te 0
             obtain rfl:=oi H
             exact qt <| ⟨.inl rfl,cV (.bool false) h6 (cP (az))⟩
            ·rcases gS H with⟨Tf,H⟩| ⟨Tf,H⟩
             ·refine qr [.b 2 pg,.b 8 sC,.b 15 zC,.b 18 vO,.b 28 MJ,.b 34 Pt,.b 38 Tf] ?_
              have Tg:Has h6 ((kD,.sl jI.1.length 1 (af.l jI.1))::(aE,.ob [.bool a6.2.aj,.rs bL 0 a6.2.aa.length 4,.rs bS 0 a6.2.ae.length 1])::(bL,.sl a6.2.aa.length 4 (ai.l a6.2.aa))::(bS,.sl a6.2.ae.length 1 (af.l a6.2.ae))::L):=Has.del rN 4
              have Th:Has h6 ((aE,.ob [.bool a6.2.aj,.rs bL 0 a6.2.aa.length 4,.rs bS 0 a6.2.ae.length 1])::(bL,.sl a6.2.aa.length 4 (ai.l a6.2.aa))::(bS,.sl a6.2.ae.length 1 (af.l a6.2.ae))::L):=Has.del Tg 0
              refine za <| qq <| q0 ?_
              have Tk:Has h6 ((aE,.ob [.bool a6.2.aj,.rs bL 0 a6.2.aa.length 4,.rs bS 0 a6.2.ae.length 1])::(bL,.sl a6.2.aa.length 4 (ai.l a6.2.aa))::L):=Has.del Th 2
              have Tl:Has h6 ((aE,.ob [.bool a6.2.aj,.rs bL 0 a6.2.aa.length 4,.rs bS 0 a6.2.ae.length 1])::L):=Has.del Tk 1
              have Yb:Has h6 (L):=Has.del Tl 0
              obtain rfl:=oi H
              exact qt <| ⟨.inl rfl,cV (.bool false) h6 (cP (az))⟩
             ·refine qr [.b 2 pg,.b 8 sC,.b 15 zC,.b 18 vO,.b 28 MJ,.b 34 Pt,.b 38 Tf] ?_
              have Tm:Has h6 ((kD,.sl jI.1.length 1 (af.l jI.1))::(aE,.ob [.bool a6.2.aj,.rs bL 0 a6.2.aa.length 4,.rs bS 0 a6.2.ae.length 1])::(bL,.sl a6.2.aa.length 4 (ai.l a6.2.aa))::(bS,.sl a6.2.ae.length 1 (af.l a6.2.ae))::L):=Has.del rN 4
              have ON:Has h6 ((aE,.ob [.bool a6.2.aj,.rs bL 0 a6.2.aa.length 4,.rs bS 0 a6.2.ae.length 1])::(bL,.sl a6.2.aa.length 4 (ai.l a6.2.aa))::(bS,.sl a6.2.ae.length 1 (af.l a6.2.ae))::L):=Has.del Tm 0
              refine qc H (fun Yc H=>?_) (fun Yc H=>?_)
              ·refine q1 ?_
               have Tn:Has h6 ((aE,.ob [.bool a6.2.aj,.rs bL 0 a6.2.aa.length 4,.rs bS 0 a6.2.ae.length 1])::(bL,.sl a6.2.aa.length 4 (ai.l a6.2.aa))::L):=Has.del ON 2
               have To:Has h6 ((aE,.ob [.bool a6.2.aj,.rs bL 0 a6.2.aa.length 4,.rs bS 0 a6.2.ae.length 1])::L):=Has.del Tn 1
               have Yd:Has h6 (L):=Has.del To 0
               obtain rfl:=oi H
               exact qt <| ⟨.inl rfl,cV (.bool false) h6 (cP (az))⟩
              ·exact qk <| pd () _ ⟨h6,by kernel_rfl,ON⟩ H
           ·rcases gS H with⟨Tp,H⟩| ⟨Tp,H⟩
            ·refine qr [.b 2 pg,.b 8 sC,.b 15 zC,.b 18 vO,.b 28 MJ,.b 38 Tp] ?_
             have Tq:Has h6 ((kD,.sl jI.1.length 1 (af.l jI.1))::(aE,.ob [.bool a6.2.aj,.rs bL 0 a6.2.aa.length 4,.rs bS 0 a6.2.ae.length 1])::(bL,.sl a6.2.aa.length 4 (ai.l a6.2.aa))::(bS,.sl a6.2.ae.length 1 (af.l a6.2.ae))::L):=Has.del rN 4
             have Tr:Has h6 ((aE,.ob [.bool a6.2.aj,.rs bL 0 a6.2.aa.length 4,.rs bS 0 a6.2.ae.length 1])::(bL,.sl a6.2.aa.length 4 (ai.l a6.2.aa))::(bS,.sl a6.2.ae.length 1 (af.l a6.2.ae))::L):=Has.del Tq 0
             refine za <| qq <| q0 ?_
             have Ts:Has h6 ((aE,.ob [.bool a6.2.aj,.rs bL 0 a6.2.aa.length 4,.rs bS 0 a6.2.ae.length 1])::(bL,.sl a6.2.aa.length 4 (ai.l a6.2.aa))::L):=Has.del Tr 2
             have Tt:Has h6 ((aE,.ob [.bool a6.2.aj,.rs bL 0 a6.2.aa.length 4,.rs bS 0 a6.2.ae.length 1])::L):=Has.del Ts 1
             have Ye:Has h6 (L):=Has.del Tt 0
             obtain rfl:=oi H
             exact qt <| ⟨.inl rfl,cV (.bool false) h6 (cP (az))⟩
            ·refine qr [.b 2 pg,.b 8 sC,.b 15 zC,.b 18 vO,.b 28 MJ,.b 38 Tp] ?_
             have Tu:Has h6 ((kD,.sl jI.1.length 1 (af.l jI.1))::(aE,.ob [.bool a6.2.aj,.rs bL 0 a6.2.aa.length 4,.rs bS 0 a6.2.ae.length 1])::(bL,.sl a6.2.aa.length 4 (ai.l a6.2.aa))::(bS,.sl a6.2.ae.length 1 (af.l a6.2.ae))::L):=Has.del rN 4
             have OO:Has h6 ((aE,.ob [.bool a6.2.aj,.rs bL 0 a6.2.aa.length 4,.rs bS 0 a6.2.ae.length 1])::(bL,.sl a6.2.aa.length 4 (ai.l a6.2.aa))::(bS,.sl a6.2.ae.length 1 (af.l a6.2.ae))::L):=Has.del Tu 0
             refine qc H (fun Yf H=>?_) (fun Yf H=>?_)
             ·refine q1 ?_
              have Tv:Has h6 ((aE,.ob [.bool a6.2.aj,.rs bL 0 a6.2.aa.length 4,.rs bS 0 a6.2.ae.length 1])::(bL,.sl a6.2.aa.length 4 (ai.l a6.2.aa))::L):=Has.del OO 2
              have Tw:Has h6 ((aE,.ob [.bool a6.2.aj,.rs bL 0 a6.2.aa.length 4,.rs bS 0 a6.2.ae.length 1])::L):=Has.del Tv 1
              have Yg:Has h6 (L):=Has.del Tw 0
              obtain rfl:=oi H
              exact qt <| ⟨.inl rfl,cV (.bool false) h6 (cP (az))⟩
             ·exact qk <| pd () _ ⟨h6,by kernel_rfl,OO⟩ H
end
end Go.Proofs.Ytifafejidnjckaa
namespace Go.Proofs.Ytifafejidnjckaa
open Go Go.R Go.Uf
open Go.IntKind (i64 u64 u8 u32)
section
variable {m:Nat}{s t:ab}{a b:Int}
theorem Sb.keep (v:Inv2 s)(v':Inv2 t)(k:jK s t){p q:Int}(h:Sb s p q):Sb t (rp t.ae p) (rp t.ae q):=by
 have c:=v.inv.cn
 have c':=v'.inv.cn
 obtain⟨k1,_,k3,k4⟩:=k
 have up:∀{n:Int},Rg s.aa.length n→Rg t.aa.length n:=fun hn=>⟨hn.1,by have:=hn.2; omega⟩
 have lY:∀{u w:Int},Sb s u w→Rg s.aa.length u∧Rg s.aa.length w:=fun h=>by
  obtain⟨Q,B,q⟩:=h
  exact⟨(B.lY _ _ q).1.1,(B.lY _ _ q).2.1⟩
 have val:∀{u:Int},Rg s.aa.length u→(de s.aa u).kind≠0→iv (de s.aa u) (de t.aa (rp t.ae u))∧∀(i:Nat) (x y:Int),(de s.aa u).args[i]? = some x→(de t.aa (rp t.ae u)).args[i]? = some y→rp t.ae x=rp t.ae y:=fun {u} hu hk=>by
  have e:=k3 u hu
  have JI:gA t.aa u:=by unfold gA; rw [e]; exact hk
  have:=v'.cl u (rp t.ae u) (up hu) (c'.rg u (up hu)) (c'.id u (up hu)).symm JI (c'.val (up hu) JI)
  rwa [e] at this
 refine⟨fun x y=>(x=y∧Rg t.aa.length x∧rp t.ae x=x)∨∃u w,Sb s u w∧x=rp t.ae u∧y=rp t.ae w,⟨?_,?_,?_⟩,.inr ⟨p,q,h,rfl,rfl⟩⟩
 ·rintro x y (⟨e,h1,h2⟩| ⟨u,w,h,rfl,rfl⟩)
  ·subst e; exact⟨⟨h1,h2⟩,h1,h2⟩
  ·obtain⟨hu,hw⟩:=lY h
   exact⟨⟨c'.rg _ (up hu),c'.id _ (up hu)⟩,c'.rg _ (up hw),c'.id _ (up hw)⟩
 ·rintro x y (⟨e,h1,h2⟩| ⟨u,w,h,rfl,rfl⟩)
  ·subst e; exact iv.refl _
  ·obtain⟨hu,hw⟩:=lY h
   by_cases hk:(de s.aa u).kind=0
   ·have:=h.var v hk
    subst this; exact iv.refl _
   ·have qA:(de s.aa w).kind≠0:=by rw [←h.top.1]; exact hk
    exact kG (q6 (val hu hk).1) (kG h.top (val hw qA).1)
 ·rintro x y (⟨e,h1,h2⟩| ⟨u,w,h,rfl,rfl⟩) i p1 q1 hp hq
  ·subst e
   rw [hp] at hq; cases hq
   have:=(v'.inv.args _ (fm h1)).2 p1 (ZK hp)
   exact .inl ⟨rfl,c'.rg _ this,c'.id _ this⟩
  ·obtain⟨hu,hw⟩:=lY h
   by_cases hk:(de s.aa u).kind=0
   ·have:=h.var v hk
    subst this
    rw [hp] at hq; cases hq
    have:=(v'.inv.args _ (fm (c'.rg _ (up hu)))).2 p1 (ZK hp)
    exact .inl ⟨rfl,c'.rg _ this,c'.id _ this⟩
   ·have qA:(de s.aa w).kind≠0:=by rw [←h.top.1]; exact hk
    obtain⟨a1,a2⟩:=val hu hk
    obtain⟨b1,b2⟩:=val hw qA
    have hi:=(ZH.1 hp).1
    have hj:=(ZH.1 hq).1
    have la:=a1.2.2.2
    have lb:=b1.2.2.2
    have ga:=ZG (l:=(de s.aa u).args) (i:=i) (by omega)
    have gb:=ZG (l:=(de s.aa w).args) (i:=i) (by omega)
    have ra:=(v.inv.args _ (fm hu)).2 _ (ZK ga)
    have rb:=(v.inv.args _ (fm hw)).2 _ (ZK gb)
    refine .inr ⟨_,_,h.arg ga gb,?_,?_⟩
    ·rw [←a2 i _ _ ga hp]; exact (k4 _ _ (c.rg _ ra) ra (c.id _ ra)).symm
    ·rw [←b2 i _ _ gb hq]; exact (k4 _ _ (c.rg _ rb) rb (c.id _ rb)).symm
theorem Jv.keep (v:Inv2 s)(v':Inv2 t)(k:jK s t){l l':List Int}{s1 t1:ab}{ok:Bool}(E:Jv s a b l false s1)(F:Jv t a b l' ok t1):ok=false:=by
 cases ok with
 | false=>rfl
 | true=>
  obtain⟨k1,_,k3,k4⟩:=k
  have up:∀{n:Int},Rg s.aa.length n→Rg t.aa.length n:=fun hn=>⟨hn.1,by have:=hn.2; omega⟩
  obtain⟨f1,f2,f3,_⟩:=F.yes rfl
  refine (E.no rfl (rp t1.ae) (fun x y hx hy h vx vy=>?_) (fun x y hx hy h=>f2 x y (up hx) (up hy) (k4 x y hx hy h)) f3).elim
  have e1:=k3 x hx
  have e2:=k3 y hy
  have:=f1 x y (up hx) (up hy) h (by unfold gA; rw [e1]; exact vx) (by unfold gA; rw [e2]; exact vy)
  rwa [e1,e2] at this
theorem BH (k:jK s t)(h:iy s [a,b]=true):iy t [a,b]=true:=by
 obtain⟨ra,rb⟩:=qY h
 have:=k.1
 simp only [iy,aao,List.all_nil,Bool.and_true,ZF,decide_eq_true_eq]
 exact⟨⟨ra.1,by have:=ra.2; omega⟩,rb.1,by have:=rb.2; omega⟩
theorem EY (hm:2000000≤m)(v:Inv2 s)(v':Inv2 t)(k:jK s t)(hn:iy s [a,b]=true){l:List Int}{ok:Bool}{s1:ab}(E:Jv s a b l ok s1)(h:ok=false∨xS s.aa l=[]) :
  bT.f m t a b=some (if ok=true then 1 else 0,[],0,t):=by
 obtain⟨ra,rb⟩:=qY hn
 rcases DR hm v' a b with⟨h',_⟩| ⟨_,l2,SK,s2,F,f,_⟩
 ·rw [BH k hn] at h'; cases h'
 ·rw [f]
  cases ok with
  | false=>
   have:=Jv.keep v v' k E F
   subst this
   rfl
  | true=>
   have hb:xS s.aa l=[]:=h.resolve_left (by decide)
   have hS:=((E.same v ra rb).1 ⟨rfl,hb⟩).keep v v' k
   have c:=v.inv.cn
   rw [k.2.2.2 _ _ (c.rg a ra) ra (c.id a ra),k.2.2.2 _ _ (c.rg b rb) rb (c.id b rb)] at hS
   obtain⟨o1,o2⟩:=(F.same v' (k.up ra) (k.up rb)).2 hS
   rw [if_pos o1,if_pos o2,if_pos rfl]
theorem z6 (hm:2 ^ 41≤m)(v:Inv2 s)(hn:iy s [a,b]=true){l:List Int}{ok:Bool}{s1:ab}(E:Jv s a b l ok s1)(more:List aN)(hl:Small more)(x:Int × List Int × Int × ab)
  (hx:x.1=if ok=true then (if xS s.aa l=[] then 1 else -1) else 0):∀(k i:Nat) (t:ab),i≤more.length→more.length - i<k→Inv2 t→jK s t→∃z,bB.l0 m a b more x k (i:Int) t=some (.inr z)
 | 0,i,t,h1,h2,_,_=>by omega
 | k+1,i,t,h1,h2,v',kp=>by
  have ve:(2:Nat) ^ 41=2199023255552:=by decide
  have h60:=hl.1
  simp only [bB.l0]
  by_cases hi:i<more.length
  ·have d:decide ((i:Int)<(more.length:Int))=true:=by rw [decide_eq_true_eq]; omega
   rw [if_pos d]
   by_cases hc:ok=false∨xS s.aa l=[]
   ·have HW:x.1=if ok=true then 1 else 0:=by
     rw [hx]
     rcases hc with h | h
     ·subst h; rfl
     ·rw [if_pos h]
    have Yh:0≤x.1:=by rw [HW]; split<;>decide
    have eg:=ZG hi
    generalize more[i]=y at eg
    have ew:i64.wrap ((i:Int)+1)=((i+1:Nat):Int):=by rw [jT (by omega) (by omega)]; omega
    obtain⟨e,t',e1,d1,d2,_⟩:=OD hm v' y (hl.2 y (ZK eg))
    have Vj:=kp.trans d2
    rw [if_pos (by rw [decide_eq_true_eq]; exact Yh),uj eg,ZB,e1,ZB]
    simp only []
    rw [EY (show 2000000≤m by omega) v d1 Vj hn E hc,ZB,HW]
    simp only [BEq.rfl,aaC,ZN,if_false,ew]
    exact z6 hm v hn E more hl x hx k (i+1) t' (by omega) (by omega) d1 Vj
   ·have:x.1 = -1:=by
     rw [hx]
     cases ok with
     | false=>exact absurd (.inl rfl) hc
     | true=>rw [if_pos rfl,if_neg fun h=>hc (.inr h)]
    rw [if_neg (by rw [this]; decide)]
    exact⟨_,rfl⟩
  ·have d:decide ((i:Int)<(more.length:Int))=false:=by rw [decide_eq_false_iff_not]; omega
   rw [if_neg (by rw [d]; decide)]
   exact⟨_,rfl⟩
theorem BI (hm:2 ^ 63≤m)(l:List aN)(a b:Int)(more:List aN)(h1:l.length<2 ^ 63)(h2:more.length<2 ^ 63):bB.f m l a b more=some true:=by
 have ve:(2:Nat) ^ 41=2199023255552:=by decide
 have ZA:(2:Nat) ^ 63=9223372036854775808:=by decide
 have oR:2 ^ 41≤m:=by omega
 unfold bB.f
 obtain⟨q,e1,g1⟩:=DF hm l h1
 rw [e1,ZB]
 cases q with
 | true=>rfl
 | false=>
  obtain⟨q,e2,g2⟩:=DF hm more h2
  rw [if_neg (by decide),e2,ZB]
  cases q with
  | true=>rfl
  | false=>
   obtain⟨s,e3,v⟩:=L9 oR l (g1 rfl)
   have eR:=Ma (m:=m) (by omega) v.inv
   have eI:=wa (m:=m) (zX s) (HE v.inv) hm
   rw [if_neg (by decide),e3,ZB,eR,ZB]
   rcases DR (show 2000000≤m by omega) v a b with⟨hn,f,_⟩| ⟨hn,l1,ok,s1,E,f,g⟩
   ·rw [f,ZB]
    simp only []
    rw [eR,ZB,eI,ZB,if_neg (by decide)]
    by_cases ra:Rg s.aa.length a
    ·by_cases rb:Rg s.aa.length b
     ·exfalso
      simp only [iy,aao,List.all_nil,Bool.and_true,decide_eq_true ra,decide_eq_true rb] at hn
      cases hn
     ·obtain⟨l2,z,_,_,_,f2,_⟩:=xY oR v ra
      rw [f2,ZB,uD oR v rb,ZB]
      rfl
    ·have:∃y,ay.f m s b=some y:=by
      by_cases rb:Rg s.aa.length b
      ·obtain⟨l2,z,_,_,_,f2,_⟩:=xY oR v rb
       exact⟨_,f2⟩
      ·exact⟨_,uD oR v rb⟩
     obtain⟨y,f2⟩:=this
     rw [uD oR v ra,ZB,f2,ZB]
     rfl
   ·obtain⟨ra,rb⟩:=qY hn
    obtain⟨x,y,c,t1,t2,t3,hc⟩:=Jw oR v ra rb
    have hS:=E.same v ra rb
    have hl:(xS s.aa l1).length<2 ^ 63:=by
     have:(xS s.aa l1).length=(l1.filter fun n=>(de s.aa n).kind==0).length:=kc _
     have:=List.length_filter_le (fun n=>(de s.aa n).kind==0) l1
     have:=E.len
     omega
    have loop:∀x:Int × List Int × Int × ab,(x.1=if ok=true then (if xS s.aa l1=[] then 1 else -1) else 0)→∃z,bB.l0 m a b more x m 0 s=some (.inr z):=fun x hx=>
     z6 oR v hn E more (g2 rfl) x hx m 0 s (aai _) (by have:=(g2 rfl).1; omega) v (jK.refl s)
    rw [f,ZB]
    cases ok with
    | false=>
     have hcf:c=false:=by
      cases c with
      | false=>rfl
      | true=>have:=(hS.2 (hc.1 rfl)).1; cases this
     subst hcf
     obtain⟨z,el⟩:=loop (0,[],0,s) rfl
     simp only [ZN,if_false] at g ⊢
     simp only [eR,eI,t1,t2,t3,xX v.inv,Ev,g,jn,el,ZB]
     rfl
    | true=>
     by_cases hb:xS s.aa l1=[]
     ·have Yi:c=true:=hc.2 (hS.1 ⟨rfl,hb⟩)
      subst Yi
      obtain⟨z,el⟩:=loop (1,[],0,s) (by rw [if_pos rfl,if_pos hb])
      simp only [if_pos hb,if_true] at g ⊢
      simp only [eR,eI,t1,t2,t3,xX v.inv,Ev,g,jn,el,ZB]
      rfl
     ·have hcf:c=false:=by
       cases c with
       | false=>rfl
       | true=>exact absurd (hS.2 (hc.1 rfl)).2 hb
      subst hcf
      obtain⟨z,el⟩:=loop (-1,xS s.aa l1,0,s) (by rw [if_pos rfl,if_neg hb])
      have Yj:=wa (m:=m) (xS s.aa l1) hl hm
      simp only [if_neg hb,if_true] at g ⊢
      simp only [eR,eI,Yj,t1,t2,t3,xX v.inv,Ev,g,jn,el,ZB]
      rfl
end
end Go.Proofs.Ytifafejidnjckaa
namespace Go.Proofs.Ytifafejidnjckaa
open Go Go.R
open Go.IntKind (i64 u64 u8 u32)
def Nf (xs ys:List AV):Prop:=dq xs=true∧dX xs=ys
theorem wk:∀a b:List AV,dq (a++b)=(dq a&&dq b)
 | [],b=>rfl
 | x::a,b=>by rw [aak,dq,dq,wk,Bool.and_assoc]
theorem wo:∀a b:List AV,dX (a++b)=dX a++dX b
 | [],b=>rfl
 | x::a,b=>by rw [aak,dX,dX,wo,aak]
theorem Nf.app {a b c d:List AV}(h:Nf a c)(k:Nf b d):Nf (a++b) (c++d):=⟨by rw [wk,h.1,k.1]; rfl,by rw [wo,h.2,k.2]⟩
theorem Nf.nil:Nf [] []:=⟨rfl,rfl⟩
theorem Nf.cons {x y:AV}{b d:List AV}(h:x.eT=true)(h2:x.jM=y)(k:Nf b d):Nf (x::b) (y::d):=⟨by simp [dq,h,k.1],by simp [dX,h2,k.2]⟩
theorem z7 {α:Type}{E:bQ α}{Pr:α→Prop}:∀{els:List (List AV)},(∀el∈els,∃a,Nf el (E.f a)∧Pr a)→∃l:List α,Nf els.flatten (E.l l)∧l.length=els.length∧∀a∈l,Pr a
 | [],_=>⟨[],Nf.nil,rfl,fun a ha=>by cases ha⟩
 | el::els,h=>by
  obtain⟨a,h1,h2⟩:=h el (by simp)
  obtain⟨l,h3,h4,h5⟩:=z7 (E:=E) (Pr:=Pr) (els:=els) fun e he=>h e (by simp [he])
  refine⟨a::l,?_,by simp [h4],fun x hx=>?_⟩
  ·rw [List.flatten_cons,bQ.fB]; exact h1.app h3
  ·rcases ZZ.1 hx with rfl | hx
   ·exact h2
   ·exact h5 x hx
def z8 {α:Type}(E:bQ α)(x:AV)(l:List α):Prop:=x.eT=true∧x.jM=E.fz l∧(x = .nils∨∃cs n b,x = .fz cs n b)∧l.length≤maxLen
theorem z8.fr {α:Type}{E:bQ α}{x:AV}{l:List α}(h:z8 E x l)(hp:AHeap):kJ 0 hp x (E.fz l):=mi h.1 (by rcases h.2.2.1 with rfl | ⟨cs,n,b,rfl⟩<;>exact fun _=>rfl) h.2.1
theorem BJ {α:Type}{E:bQ α}{Pr:α→Prop}{n t e:Nat}{xs:List AV}(ht:Try.prog.underlying t=some (.slice e))(h:Fits Try.prog (n+1) t xs)
  (he:∀el,Fits Try.prog n e el→∃a,Nf el (E.f a)∧Pr a):∃x l,xs=[x]∧z8 E x l∧∀a∈l,Pr a:=by
 unfold Fits at h
 rw [ht] at h
 rcases h with rfl | ⟨els,rfl,h1,h⟩
 ·exact⟨_,[],rfl,⟨rfl,rfl,.inl rfl,aai _⟩,fun a ha=>by cases ha⟩
 ·obtain⟨l,⟨h2,h3⟩,h4,h5⟩:=z7 (E:=E) (Pr:=Pr) fun el Nt=>he el (h el Nt).2
  refine⟨_,l,rfl,⟨by simpa [AV.eT] using h2,?_,.inr ⟨_,_,_,rfl⟩,by omega⟩,h5⟩
  show AV.fz (dX els.flatten) els.length false=_
  rw [h3,←h4]; rfl
theorem nW {n:Nat}{xs:List AV}(h:Fits Try.prog (n+1) 3 xs):∃z:Int,xs=[.int .i64 z]:=by
 unfold Fits at h
 rw [Try.underlying3] at h
 obtain⟨z,rfl,_⟩:=h
 exact⟨z,rfl⟩
theorem DS {n:Nat}{xs:List AV}(h:Fits Try.prog (n+1) 9 xs):∃s:ByteArray,xs=[.str s]:=by
 unfold Fits at h
 rw [Try.underlying9] at h
 obtain⟨s,hs,_⟩:=h
 exact⟨s,hs⟩
theorem Aa {n:Nat}{xs:List AV}(h:Fits Try.prog (n+2) 33 xs):∃x l,xs=[x]∧z8 af x l:=by
 obtain⟨x,l,e,h,_⟩:=BJ (E:=af) (Pr:=fun _=>True) Try.underlying33 h fun el h=>by
  obtain⟨z,rfl⟩:=nW h
  exact⟨z,⟨rfl,rfl⟩,trivial⟩
 exact⟨x,l,e,h⟩
theorem HQ {n:Nat}{xs:List AV}(h:Fits Try.prog (n+3) 51 xs):∃v:ak,Nf xs (ai.f v):=by
 unfold Fits at h
 rw [Try.underlying51] at h
 obtain⟨a,b,rfl,_,h1,h⟩:=h
 obtain⟨c,d,rfl,_,h2,h⟩:=h
 obtain⟨e,f,rfl,_,h3,h⟩:=h
 obtain⟨g,k,rfl,_,h4,h⟩:=h
 have h:k=[]:=h
 subst h
 obtain⟨z1,rfl⟩:=nW h1
 obtain⟨z2,rfl⟩:=nW h2
 obtain⟨s,rfl⟩:=DS h3
 obtain⟨x,l,rfl,hx⟩:=Aa h4
 exact⟨⟨z1,z2,s,l⟩,Nf.cons rfl rfl (Nf.cons rfl rfl (Nf.cons rfl rfl (Nf.cons hx.1 hx.2.1 Nf.nil)))⟩
theorem EZ {n:Nat}{xs:List AV}(h:Fits Try.prog (n+4) 40 xs):∃x l,xs=[x]∧z8 ai x l:=by
 obtain⟨x,l,e,h,_⟩:=BJ (E:=ai) (Pr:=fun _=>True) Try.underlying40 h fun el h=>by
  obtain⟨v,hv⟩:=HQ h
  exact⟨v,hv,trivial⟩
 exact⟨x,l,e,h⟩
def HR (xs:List AV)(x:aN):Prop:=∃A T,xs=[.int .i64 x.fC,.int .i64 x.sB,.int .i64 x.Ey,.str x.eY,A,T,.int .i64 x.xp.root]∧z8 af A x.gf∧z8 ai T x.xp.nodes
theorem Jx {n:Nat}{xs:List AV}(h:Fits Try.prog (n+6) 44 xs):∃x,HR xs x:=by
 unfold Fits at h
 rw [Try.underlying44] at h
 obtain⟨a,b,rfl,_,h1,h⟩:=h
 obtain⟨c,d,rfl,_,h2,h⟩:=h
 obtain⟨e,f,rfl,_,h3,h⟩:=h
 obtain⟨g,k,rfl,_,h4,h⟩:=h
 obtain⟨i,j,rfl,_,h5,h⟩:=h
 obtain⟨o,p,rfl,_,h6,h⟩:=h
 have h:p=[]:=h
 subst h
 obtain⟨z1,rfl⟩:=nW h1
 obtain⟨z2,rfl⟩:=nW h2
 obtain⟨z3,rfl⟩:=nW h3
 obtain⟨s,rfl⟩:=DS h4
 obtain⟨x,l,rfl,hx⟩:=Aa h5
 have h6:Fits Try.prog (n+5) 42 o:=h6
 unfold Fits at h6
 rw [Try.underlying42] at h6
 obtain⟨q,r,rfl,_,h7,h6⟩:=h6
 obtain⟨t,u,rfl,_,h8,h6⟩:=h6
 have h6:u=[]:=h6
 subst h6
 obtain⟨y,ns,rfl,hy⟩:=EZ h7
 obtain⟨z4,rfl⟩:=nW h8
 exact⟨⟨z1,z2,z3,s,l,⟨ns,z4⟩⟩,x,y,rfl,hx,hy⟩
theorem HR.nf {xs:List AV}{x:aN}(h:HR xs x):Nf xs (aT.f x):=by
 obtain⟨A,T,rfl,hA,hT⟩:=h
 exact Nf.cons rfl rfl (Nf.cons rfl rfl (Nf.cons rfl rfl (Nf.cons rfl rfl (Nf.cons hA.1 hA.2.1 (Nf.cons hT.1 hT.2.1 (Nf.cons rfl rfl Nf.nil))))))
theorem HS {n:Nat}{xs:List AV}(h:Fits Try.prog (n+7) 22 xs):∃x l,xs=[x]∧z8 aT x l:=by
 obtain⟨x,l,e,h,_⟩:=BJ (E:=aT) (Pr:=fun _=>True) Try.underlying22 h fun el h=>by
  obtain⟨v,hv⟩:=Jx h
  exact⟨v,hv.nf,trivial⟩
 exact⟨x,l,e,h⟩
theorem E0:maxLen<2 ^ 63:=by decide
theorem Ab {n:Nat}{xs:List AV}(h:Fits Try.prog (n+7) 22 xs):∃l:List aN,l.length<2 ^ 63∧∀hp,kJ 10 hp (jW Try.prog 22 xs) (aT.fz l):=by
 obtain⟨x,l,rfl,hx⟩:=HS h
 have e1:jW Try.prog 22 [x]=x:=by unfold jW; rw [Try.underlying22]; rfl
 rw [e1]
 exact⟨l,Nat.lt_of_le_of_lt hx.2.2.2 E0,fun hp=>(hx.fr hp).mono (by decide)⟩
theorem DT {n:Nat}{xs:List AV}(h:Fits Try.prog (n+1) 3 xs):∃z:Int,∀hp,kJ 10 hp (jW Try.prog 3 xs) (.int .i64 z):=by
 obtain⟨z,rfl⟩:=nW h
 have e1:jW Try.prog 3 [.int .i64 z] = .int .i64 z:=by unfold jW; rw [Try.underlying3]; rfl
 rw [e1]
 exact⟨z,fun hp=>aZ.mono (by decide)⟩
theorem E1 {P:Program}{m:Nat}{t u v w:TypeId}{w0:List AV}(h:pR P m [t,u,v,w] w0):∃xs ys zs ws,w0=[jW P t xs,jW P u ys,jW P v zs,jW P w ws]∧Fits P m t xs∧Fits P m u ys∧Fits P m v zs∧Fits P m w ws:=by
 match w0,h with
 | [_,_,_,_],⟨⟨xs,h1,f1⟩,⟨ys,h2,f2⟩,⟨zs,h3,f3⟩,⟨ws,h4,f4⟩,_⟩=>exact⟨xs,ys,zs,ws,by rw [h1,h2,h3,h4],f1,f2,f3,f4⟩
end Go.Proofs.Ytifafejidnjckaa
namespace Go.R
open Go
def Kd:AHeap:={get:=fun _=>none,ver:=fun _=>0,next:=2}
section
variable {P:Program}
theorem alone {cf:CallF}(hcf:CallOK P cf){f:FuncId}{us:List AV}{h0:AHeap}{r1:AV}{h1:AHeap}(hx:cf f us h0=some (r1,h1))(hg:∀id,h0.get id=none)(HX:∀id,h0.ver id<h0.next)
  {L0:Nat→Prop} {c:Cx} {vs:List Value} (hb0:c.base≤c.w.heap.size) (hrel:HRel c L0) (tm:VRs ⟨fun _=>(0,0),h0,c.w,c.w.heap.size⟩ L0 us vs) {r:AV} (hr:∀(c1 d:Cx) (v:Value),VR c1 L0 r1 v→VR d L0 r v) :
  Calls P f vs.toArray c.w fun e w'=>∃c' v,e = .returned v∧c'.w=w'∧c'.h=c.h∧VR c' L0 r v∧HRel c' L0∧Ext c none0 c' none0:=by
 obtain⟨hin,hcall⟩:=hcf f us h0 r1 h1 hx
 let c0:Cx:=⟨fun _=>(0,0),h0,c.w,c.w.heap.size⟩
 have hnl:∀id,¬Live c0.h id:=fun id hl=>by have:=hl.2; rw [show c0.h.get id=none from hg id] at this; cases this
 have ya:∀id o,¬c0.h.get id=some o:=fun id o ho=>by rw [show c0.h.get id=none from hg id] at ho; cases ho
 have tl:HRel c0 L0:=⟨fun id o ho=>absurd ho (ya id o),fun id o ho=>absurd ho (ya id o),fun id _ hl _ _=>absurd hl (hnl id),fun id hl=>absurd hl (hnl id),hrel.bd,fun id hl=>absurd hl (hnl id),HX⟩
 refine (hcall L0 c0 vs rfl (ZI _) tl tm).mono ?_
 rintro e w' ⟨c1,v,rfl,rfl,Mw,hv,hrel1,e1⟩
 let d:Cx:=⟨c.β,c.h,c1.w,c.base⟩
 have hk:∀b,b<c.w.heap.size→c1.w.heap[b]? = c.w.heap[b]?:=fun b hb=>e1.exact b hb
 have ed:Ext c none0 d none0:=⟨ZI _,fun id _ hl=>⟨hl,rfl,iC.len (c:=c) (c':=d) (.inl (hk _ (hrel.block hl)))⟩,e1.size,fun b hb _ _=>.inl (hk b hb),fun b hb=>hk b (Z4 hb hb0),rfl,fun id hl=>.inr ⟨id,hl,rfl⟩,fun _ h=>h,fun _ h=>.inl h,e1.os,e1.tape,e1.output⟩
 refine⟨d,v,rfl,rfl,rfl,hr c1 d v hv,⟨hrel.lt,fun id o ho=>?_,hrel.inj,hrel.out,fun b hb=>Z4 (hrel.bd b hb) e1.size,hrel.low,hrel.ver⟩,ed⟩
 have hl:Live c.h id:=⟨hrel.lt _ _ ho,by rw [ho]; rfl⟩
 have:=(hrel.obj id o ho)
 have h2:=pz.ext (L0:=L0) ed (b:=(c.β id).1) (base:=(c.β id).2) (o:=o) (by rw [iF]; exact this) (hk _ (hrel.block hl))
 rw [iF] at h2
 exact h2
def Mf (P:Program)(t:TypeId)(z:Nat):Bool:=
 match P.underlying t with
 | some (.slice e)=>match P.info? e with
  | some i=>aaj i.size z&&aaZ i.bytes 1000&&JE i
  | none=>false
 | _=>false
theorem Ac {t:TypeId}{z:Nat}(T:Mf P t z=true)(hz:z≠0){h:AHeap}{x:AV}{n:Nat}{cs:List AV}(hn:n≠0)(hb:n*1024≤1099511627776)(hx:gm h z x=some (cs,n))(hs:ja P t x=true):ei P h t t (.fz [] 0 true) x=some (.rs h.next 0 n z,h.alloc (.cells cs)):=by
 unfold Mf at T
 split at T
 rotate_left
 ·cases T
 rename_i e he
 split at T
 rotate_left
 ·cases T
 rename_i i hi
 simp only [ZF] at T
 obtain⟨⟨h1,h2⟩,h3⟩:=T
 have h1:=aaH h1
 have h2:=Nat.le_of_ble_eq_true h2
 subst h1
 have hq:n*i.bytes≤n*1000:=Nat.mul_le_mul_left n h2
 simp only [ei,he,ZB,hi,hx]
 rw [if_neg (by simp [hz,hs,h3]),if_neg (by simp only [gX,Z2,Z8]; omega),if_neg hn]
 simp
theorem wq {z:Nat}:∀args h r h',zb z args h=some (r,h')→Steady h h':=by
 intro args h r h' hs
 unfold zb at hs
 split at hs
 ·cases hs; exact Steady.refl _
 ·split at hs
  ·cases hs; exact Steady.refl _
  ·split at hs
   ·cases hs; exact Steady.put _ _ _
   ·cases hs
 ·split at hs
  ·cases hs; exact Steady.refl _
  ·rw [ZC] at hs
   obtain⟨ob,_,hs⟩:=hs
   split at hs
   ·split at hs
    ·cases hs; exact Steady.put _ _ _
    ·cases hs
   ·cases hs
 ·cases hs
theorem Ke {cf:CallF}(hcf:CallOK P cf){F:FuncId}{t:TypeId}{z:Nat}(T:Mf P t z=true)(hz:z≠0)
  (h0:cf F [.nils] bD=some (.nils,bD)) (h1:cf F [.rs 1 0 0 z] Kd=some (.rs 0 0 0 z,Kd))
  (h2:∀(c:AV) (cs:List AV) (n:Nat) (ex:Bool) (h:AHeap) (i k w:Nat) (h':AHeap),ei P h t t (.fz [] 0 true) (.fz (c::cs) n ex)=some (.rs i 0 k w,h')→cf F [.fz (c::cs) n ex] h=some (.rs i 0 k w,h'))
  (h3:∀(j n q:Nat) (h:AHeap) (i k w:Nat) (h':AHeap),ei P h t t (.fz [] 0 true) (.rs (j+1) 0 n q)=some (.rs i 0 k w,h')→cf F [.rs (j+1) 0 n q] h=some (.rs i 0 k w,h'))
  (gZ:∀x,(∀st,x≠.str st)→ja P t x=true) :
  CallOK P fun f' args h=>if f'=F then zb z args h else none:=by
 intro f args h r h' hc
 dsimp only at hc
 split at hc
 rotate_left
 ·cases hc
 rename_i hf
 subst hf
 refine⟨(hcf f _ _ _ _ h0).1,fun L0 c vs hh hb0 hrel hargs=>?_⟩
 have empty:∀(v:Value),(∃a cap,v = .slice a 0 cap∧(a=none→cap=0))→Calls P f #[v] c.w fun e w'=>∃c' v,e = .returned v∧c'.w=w'∧c'.h=c.h∧VR c' L0 (.rs 0 0 0 z) v∧HRel c' L0∧Ext c none0 c' none0:=by
  rintro v ⟨a,cap,rfl,ha⟩
  cases a with
  | none=>
   have:=ha rfl
   subst this
   refine alone (vs:=[.slice none 0 0]) hcf h0 (fun _=>rfl) (fun _=>aa1) hb0 hrel ⟨rfl,trivial⟩ (fun c1 d v hv=>?_)
   simp only [VR] at hv ⊢
   exact .inl ⟨trivial,trivial,trivial,none,hv⟩
  | some ad=>
   refine alone (vs:=[.slice (some ad) 0 cap]) hcf h1 (fun _=>rfl) (fun _=>Nat.zero_lt_succ 1) hb0 hrel ⟨?_,trivial⟩ (fun c1 d v hv=>?_)
   ·simp only [VR]
    exact .inr ⟨by decide,by decide,some ad,cap,rfl,aai _,rfl,fun hl=>by have:=hl.2; cases this⟩
   ·simp only [VR] at hv ⊢
    rcases hv with hv | hv
    ·exact .inl hv
    ·exact absurd rfl hv.1
 match args,vs,hargs with
 | [],_,_=>simp [zb] at hc
 | x::y::l,_,_=>cases x<;>simp [zb] at hc
 | [x],[v],hargs=>
  have hx:VR c L0 x v:=hargs.1
  cases x<;>simp only [zb] at hc<;>try (cases hc; done)
  ·cases hc
   simp only [VR] at hx
   rw [←hh]
   exact empty v ⟨none,0,hx,fun _=>rfl⟩
  ·rename_i cs n ex
   split at hc
   ·rename_i hn
    cases hc
    subst hn
    simp only [VR] at hx
    obtain⟨a,cap,e,_,_,hs,_⟩:=hx
    rw [←hh]
    refine empty v ⟨a,cap,e,fun ha=>?_⟩
    rcases hs with hs | hs
    ·rw [ha] at hs; cases hs
    ·exact hs.2
   ·rename_i hn
    split at hc
    rotate_left
    ·cases hc
    rename_i hq
    cases hc
    cases cs with
    | nil=>
     have h4:0=n*z:=hq.1
     rcases Nat.mul_eq_zero.1 h4.symm with h5 | h5
     ·exact absurd h5 hn
     ·exact absurd h5 hz
    | cons c1 cs=>
     have HW:gm h z (.fz (c1::cs) n ex)=some ((c1::cs).map kg,n):=by
      simp only [gm,fc]; rw [if_pos hq.1]; rfl
     have:=h2 c1 cs n ex h _ _ _ _ (Ac T hz hn hq.2 HW (gZ _ (by rintro st h; cases h)))
     exact (hcf _ _ _ _ _ this).2 L0 c [v] hh hb0 hrel ⟨hx,trivial⟩
  ·rename_i id off n q
   cases off with
   | succ off=>simp [zb] at hc
   | zero=>
   simp only [zb] at hc
   split at hc
   ·rename_i hn
    cases hc
    subst hn
    simp only [VR] at hx
    rw [←hh]
    rcases hx with⟨_,_,_,a,e⟩| ⟨_,_,a,cap,e,_,hs,_⟩
    ·exact empty v ⟨a,0,e,fun _=>rfl⟩
    ·refine empty v ⟨a,cap,e,fun ha=>?_⟩
     rw [ha] at hs; cases hs
   ·rename_i hn
    rw [ZC] at hc
    obtain⟨ob,ho,hc⟩:=hc
    split at hc
    rotate_left
    ·cases hc
    rename_i cs
    split at hc
    rotate_left
    ·cases hc
    rename_i hq
    cases hc
    have hid:id≠0:=by
     simp only [VR] at hx
     rcases hx with hx | hx
     ·exact absurd hx.2.2.1 hn
     ·exact hx.1
    obtain⟨j,rfl⟩:∃j,id=j+1:=⟨id - 1,by omega⟩
    have HW:gm h z (.rs (j+1) 0 n q)=some ((cs.take (n*z)).map kg,n):=by
     simp only [gm,fc]
     rw [if_neg (fun hz=>hz.elim hid fun hz=>hn hz.1),ho]
     simp only [ZB]
     rw [if_pos ⟨hq.1,by omega⟩,aam]; rfl
    have:=h3 j n q h _ _ _ _ (Ac T hz hn hq.2.2 HW (gZ _ (by rintro st h; cases h)))
    exact (hcf _ _ _ _ _ this).2 L0 c [v] hh hb0 hrel ⟨hx,trivial⟩
 | [x],[],hargs=>exact hargs.elim
 | [x],_::_::_,hargs=>exact hargs.2.elim
end
end Go.R
namespace Go.Proofs.Ytifafejidnjckaa
open Go Go.R Go.Shelf
open Go.IntKind (i64 u64 u8 u32)
theorem fits:Fit Try.prog:=KF (by kernel_rfl) (by kernel_rfl)
def Mg:Ren:={f:=(fun x=>match x with | 189=>60 | 125=>77 | 257=>76 | 128=>95 | 129=>96 | 294=>86 | 295=>87 | 296=>88 | 297=>89 | 298=>90 | 299=>91 | 216=>92 | 300=>93 | 301=>94 | 328=>100 | 329=>101 | 330=>102 | 331=>103 | 332=>104 | 215=>97 | 343=>107 | n=>n),t:=(fun x=>match x with | 28=>33 | 3=>3 | 46=>108 | 0=>0 | 51=>126 | 53=>128 | 4=>4 | 183=>119 | 182=>118 | 131=>103 | 5=>5 | 9=>9 | 218=>130 | 222=>134 | 228=>138 | 229=>139 | n=>n),g:=(fun n=>n)}
theorem OP:Lays.n189 Try.prog Mg:={
 mixed:=by kernel_rfl,
 f125:=Try.func77.trans (congrArg some (by kernel_rfl)),
 f128:=Try.func95.trans (congrArg some (by kernel_rfl)),
 f129:=Try.func96.trans (congrArg some (by kernel_rfl)),
 f189:=Try.func60.trans (congrArg some (by kernel_rfl)),
 f215:=Try.func97.trans (congrArg some (by kernel_rfl)),
 f216:=Try.func92.trans (congrArg some (by kernel_rfl)),
 f257:=Try.func76.trans (congrArg some (by kernel_rfl)),
 f294:=Try.func86.trans (congrArg some (by kernel_rfl)),
 f295:=Try.func87.trans (congrArg some (by kernel_rfl)),
 f296:=Try.func88.trans (congrArg some (by kernel_rfl)),
 f297:=Try.func89.trans (congrArg some (by kernel_rfl)),
 f298:=Try.func90.trans (congrArg some (by kernel_rfl)),
 f299:=Try.func91.trans (congrArg some (by kernel_rfl)),
 f300:=Try.func93.trans (congrArg some (by kernel_rfl)),
 f301:=Try.func94.trans (congrArg some (by kernel_rfl)),
 f328:=Try.func100.trans (congrArg some (by kernel_rfl)),
 f329:=Try.func101.trans (congrArg some (by kernel_rfl)),
 f330:=Try.func102.trans (congrArg some (by kernel_rfl)),
 f331:=Try.func103.trans (congrArg some (by kernel_rfl)),
 f332:=Try.func104.trans (congrArg some (by kernel_rfl)),
 f343:=Try.func107.trans (congrArg some (by kernel_rfl)),
 t0:=Try.underlying0,
 a0:=Try.isAgg0,
 z0:=Try.sizeOf0,
 v0:=Try.zeroValue0,
 t3:=Try.underlying3,
 a3:=Try.isAgg3,
 z3:=Try.sizeOf3,
 v3:=Try.zeroValue3,
 t4:=Try.underlying4,
 a4:=Try.isAgg4,
 z4:=Try.sizeOf4,
 v4:=Try.zeroValue4,
 t5:=Try.underlying5,
 a5:=Try.isAgg5,
 z5:=Try.sizeOf5,
 v5:=Try.zeroValue5,
 t9:=Try.underlying9,
 a9:=Try.isAgg9,
 z9:=Try.sizeOf9,
 v9:=Try.zeroValue9,
 t28:=Try.underlying33,
 a28:=Try.isAgg33,
 z28:=Try.sizeOf33,
 v28:=Try.zeroValue33,
 t46:=Try.underlying108,
 a46:=Try.isAgg108,
 z46:=Try.sizeOf108,
 v46:=Try.zeroValue108,
 t51:=Try.underlying126,
 a51:=Try.isAgg126,
 z51:=Try.sizeOf126,
 v51:=Try.zeroValue126,
 t53:=Try.underlying128,
 a53:=Try.isAgg128,
 z53:=Try.sizeOf128,
 v53:=Try.zeroValue128,
 t131:=Try.underlying103,
 a131:=Try.isAgg103,
 z131:=Try.sizeOf103,
 v131:=Try.zeroValue103,
 t182:=Try.underlying118,
 a182:=Try.isAgg118,
 z182:=Try.sizeOf118,
 v182:=Try.zeroValue118,
 t183:=Try.underlying119,
 a183:=Try.isAgg119,
 z183:=Try.sizeOf119,
 v183:=Try.zeroValue119,
 t218:=Try.underlying130,
 a218:=Try.isAgg130,
 z218:=Try.sizeOf130,
 v218:=Try.zeroValue130,
 t222:=Try.underlying134,
 a222:=Try.isAgg134,
 z222:=Try.sizeOf134,
 v222:=Try.zeroValue134,
 t228:=Try.underlying138,
 a228:=Try.isAgg138,
 z228:=Try.sizeOf138,
 v228:=Try.zeroValue138,
 t229:=Try.underlying139,
 a229:=Try.isAgg139,
 z229:=Try.sizeOf139,
 v229:=Try.zeroValue139}
theorem Mh:∀(vs:Array Value) (w:World),(callFunc (Mg.f 189) vs).run Try.prog w = .ok (.enter (Mg.f 189) vs) w:=
 nv (c:=bZ Try.f60) Try.func60 (by kernel_rfl) (by decide +kernel)
def q7:b9:=gW [0,2,4] [] [] [] []
def oL:oz:={aY:=fun _=>q7,intr:=fun _=>none,pure:=fun _=>none}
noncomputable def OQ:CallF:=bf Try.prog oL.aY (fD Try.prog oL 10 0) 10
theorem HT:CallOK Try.prog OQ:=yD fits (pQ fits n6 10 0) (yI fits.mixed (pQ fits n6 10 0) (mg n6 10 0)) 10
theorem Jy (c:AV)(cs:List AV)(n:Nat)(ex:Bool)(h:AHeap)(i k w:Nat)(h':AHeap)(e:ei Try.prog h 40 40 (.fz [] 0 true) (.fz (c::cs) n ex)=some (.rs i 0 k w,h')):OQ 38 [.fz (c::cs) n ex] h=some (.rs i 0 k w,h'):=by
 have key:∃r h2,bf Try.prog oL.aY (fD Try.prog oL 10 0) 10 38 [.fz (c::cs) n ex] h=some (r,h2)∧r = .rs i 0 k w∧h2=h':=by
  refine ar (fn:=Try.f38) (A:=q7) rfl Try.func38 (by kernel_rfl) (by kernel_rfl) ?_
  refine aH (Q:=fun s=>aO Try.prog (s.open q7) Try.f38.results.toList=some (.rs i 0 k w)∧s.h=h') (fun _ _ ⟨h1,h2,h3⟩=>⟨h1,_,h2,rfl,h3⟩) ?_
  show dK _ _ q7 _ _ ⟨[.fz (c::cs) n ex,.any,.any],[],h⟩ _
  refine q1 <| qq <| q1 <| Gh <| qk <| qs [.a 2 e] <| qt <| ⟨.inl rfl,by kernel_rfl,by kernel_rfl⟩
 obtain⟨r,h2,hb,rfl,rfl⟩:=key
 exact hb
theorem Jz (j n q:Nat)(h:AHeap)(i k w:Nat)(h':AHeap)(e:ei Try.prog h 40 40 (.fz [] 0 true) (.rs (j+1) 0 n q)=some (.rs i 0 k w,h')):OQ 38 [.rs (j+1) 0 n q] h=some (.rs i 0 k w,h'):=by
 have key:∃r h2,bf Try.prog oL.aY (fD Try.prog oL 10 0) 10 38 [.rs (j+1) 0 n q] h=some (r,h2)∧r = .rs i 0 k w∧h2=h':=by
  refine ar (fn:=Try.f38) (A:=q7) rfl Try.func38 (by kernel_rfl) (by kernel_rfl) ?_
  refine aH (Q:=fun s=>aO Try.prog (s.open q7) Try.f38.results.toList=some (.rs i 0 k w)∧s.h=h') (fun _ _ ⟨h1,h2,h3⟩=>⟨h1,_,h2,rfl,h3⟩) ?_
  show dK _ _ q7 _ _ ⟨[.rs (j+1) 0 n q,.any,.any],[],h⟩ _
  refine q1 <| qq <| q1 <| Gh <| qk <| qs [.a 2 e] <| qt <| ⟨.inl rfl,by kernel_rfl,by kernel_rfl⟩
 obtain⟨r,h2,hb,rfl,rfl⟩:=key
 exact hb
theorem OR:∀x,(∀st,x≠.str st)→ja Try.prog 40 x=true:=by
 intro x hx
 cases x<;>first | exact absurd rfl (hx _) | kernel_rfl
theorem JA:CallOK Try.prog fun f args h=>if f=38 then zb 4 args h else none:=
 Ke HT (F:=38) (t:=40) (z:=4) (by kernel_rfl) (by decide) (by kernel_rfl) (by kernel_rfl) Jy Jz OR
theorem JB (c:AV)(cs:List AV)(n:Nat)(ex:Bool)(h:AHeap)(i k w:Nat)(h':AHeap)(e:ei Try.prog h 33 33 (.fz [] 0 true) (.fz (c::cs) n ex)=some (.rs i 0 k w,h')):OQ 39 [.fz (c::cs) n ex] h=some (.rs i 0 k w,h'):=by
 have key:∃r h2,bf Try.prog oL.aY (fD Try.prog oL 10 0) 10 39 [.fz (c::cs) n ex] h=some (r,h2)∧r = .rs i 0 k w∧h2=h':=by
  refine ar (fn:=Try.f39) (A:=q7) rfl Try.func39 (by kernel_rfl) (by kernel_rfl) ?_
  refine aH (Q:=fun s=>aO Try.prog (s.open q7) Try.f39.results.toList=some (.rs i 0 k w)∧s.h=h') (fun _ _ ⟨h1,h2,h3⟩=>⟨h1,_,h2,rfl,h3⟩) ?_
  show dK _ _ q7 _ _ ⟨[.fz (c::cs) n ex,.any,.any],[],h⟩ _
  refine q1 <| qq <| q1 <| Gh <| qk <| qs [.a 2 e] <| qt <| ⟨.inl rfl,by kernel_rfl,by kernel_rfl⟩
 obtain⟨r,h2,hb,rfl,rfl⟩:=key
 exact hb
theorem JC (j n q:Nat)(h:AHeap)(i k w:Nat)(h':AHeap)(e:ei Try.prog h 33 33 (.fz [] 0 true) (.rs (j+1) 0 n q)=some (.rs i 0 k w,h')):OQ 39 [.rs (j+1) 0 n q] h=some (.rs i 0 k w,h'):=by
 have key:∃r h2,bf Try.prog oL.aY (fD Try.prog oL 10 0) 10 39 [.rs (j+1) 0 n q] h=some (r,h2)∧r = .rs i 0 k w∧h2=h':=by
  refine ar (fn:=Try.f39) (A:=q7) rfl Try.func39 (by kernel_rfl) (by kernel_rfl) ?_
  refine aH (Q:=fun s=>aO Try.prog (s.open q7) Try.f39.results.toList=some (.rs i 0 k w)∧s.h=h') (fun _ _ ⟨h1,h2,h3⟩=>⟨h1,_,h2,rfl,h3⟩) ?_
  show dK _ _ q7 _ _ ⟨[.rs (j+1) 0 n q,.any,.any],[],h⟩ _
  refine q1 <| qq <| q1 <| Gh <| qk <| qs [.a 2 e] <| qt <| ⟨.inl rfl,by kernel_rfl,by kernel_rfl⟩
 obtain⟨r,h2,hb,rfl,rfl⟩:=key
 exact hb
theorem OS:∀x,(∀st,x≠.str st)→ja Try.prog 33 x=true:=by
 intro x hx
 cases x<;>first | exact absurd rfl (hx _) | kernel_rfl
theorem JD:CallOK Try.prog fun f args h=>if f=39 then zb 1 args h else none:=
 Ke HT (F:=39) (t:=33) (z:=1) (by kernel_rfl) (by decide) (by kernel_rfl) (by kernel_rfl) JB JC OS
noncomputable def Kf:FuncId→Option (List AV→AHeap→Option (AV × AHeap)):=fun f=>if f=60 then some KV else if f=38 then some (zb 4) else if f=39 then some (zb 1) else none
theorem HU:IntrOK Try.prog Kf:=intr_cons (f0:=60) (NK OP Mh) Et (intr_cons (f0:=38) JA wq (intr_cons (f0:=39) JD wq n6))
end Go.Proofs.Ytifafejidnjckaa
namespace Go.Proofs.Ytifafejidnjckaa
open Go Go.R
open Go.IntKind (i64 u64 u8 u32)
def cN:Nat→b9
 | 9=>HN
 | 10=>zi
 | 11=>{keep:=[0,1,2,3,4,5,6,7,8,9,10,11,12,13,14,16,17,19,22,25],aI:=[]}
 | 12=>zF
 | 14=>zj
 | 15=>zE
 | 16=>C6
 | 17=>Dl
 | 18=>CI
 | 19=>CJ
 | 21=>uf
 | 22=>DO
 | 23=>C7
 | 24=>C8
 | 26=>Cs
 | 27=>CK
 | 28=>De
 | 29=>CL
 | 30=>CU
 | 31=>vN
 | 32=>zk
 | 33=>CX
 | 34=>C9
 | 35=>CY
 | 36=>ug
 | 37=>Cu
 | 40=>zx
 | 41=>zl
 | 42=>vM
 | 43=>Dk
 | 44=>Df
 | 45=>Dg
 | 46=>Dj
 | 47=>Cv
 | 48=>Cw
 | 49=>Da
 | 50=>CZ
 | 51=>Cy
 | 52=>CM
 | 53=>CN
 | 54=>Cz
 | 55=>CA
 | 56=>CO
 | 57=>zy
 | 58=>CP
 | 59=>CB
 | 60=>{keep:=[0,2],aI:=[]}
 | 61=>C0
 | 62=>CC
 | 63=>CQ
 | 64=>CD
 | 65=>CR
 | 66=>Db
 | 67=>C1
 | 68=>zn
 | 69=>Dc
 | 70=>C2
 | 71=>zo
 | 72=>qd
 | 73=>zp
 | 74=>zz
 | 75=>zt
 | 78=>zu
 | 79=>CE
 | 80=>CS
 | 81=>zw
 | 82=>CT
 | 83=>Dh
 | 84=>C3
 | 85=>CF
 | 97=>CG
 | 98=>CH
 | 99=>ud
 | 105=>qR
 | 106=>mB
 | 108=>tU
 | 109=>tR
 | _=>{keep:=[],aI:=[]}
def bc:Nat:=18014398509481984
theorem be:hH+bR≤bc:=by decide
def OT:Nat→Option Nat
 | 9=>some bc
 | 10=>some bc
 | 11=>some bc
 | 14=>some bc
 | 15=>some bc
 | 18=>some bc
 | 21=>some bc
 | 22=>some bc
 | 24=>some bc
 | 30=>some bc
 | 33=>some bc
 | 37=>some bc
 | 40=>some bc
 | 41=>some bc
 | 42=>some bc
 | 43=>some bc
 | 44=>some bc
 | 45=>some bc
 | 46=>some bc
 | 48=>some bc
 | 49=>some bc
 | 50=>some bc
 | 51=>some bc
 | 52=>some bc
 | 53=>some bc
 | 54=>some bc
 | 55=>some bc
 | 58=>some bc
 | 59=>some bc
 | 61=>some bc
 | 62=>some bc
 | 63=>some bc
 | 64=>some bc
 | 65=>some bc
 | 66=>some bc
 | 67=>some bc
 | 68=>some bc
 | 69=>some bc
 | 70=>some bc
 | 71=>some bc
 | 72=>some bc
 | 74=>some bc
 | 75=>some bc
 | 78=>some bc
 | 79=>some bc
 | 80=>some bc
 | 81=>some bc
 | 82=>some bc
 | 84=>some bc
 | 85=>some bc
 | 97=>some bc
 | 98=>some bc
 | _=>none
def Mi:Nat→Bool
 | 21=>true
 | 33=>true
 | 40=>true
 | 42=>true
 | 43=>true
 | 46=>true
 | _=>false
def M:Nat:=18446744073709551616
noncomputable def bG:oz:={aY:=cN,intr:=Kf,pure:=OT,fe:=Mi}
noncomputable def cO:CallF:=jj Try.prog bG M
theorem Mj:CallOK Try.prog cO:=Gg fits (T:=bG) HU
theorem Yk:T9 cO M:=fun args h=>pa (T:=bG) rfl
theorem Yl:T8 cO M:=fun args h=>pa (T:=bG) rfl
theorem Tz:O9 cO M:=fun args h=>pa (T:=bG) rfl
end Go.Proofs.Ytifafejidnjckaa
namespace Go.Proofs.Ytifafejidnjckaa
open Go Go.R
open Go.IntKind (i64 u64 u8 u32)
theorem E2:(bf Try.prog cN (fD Try.prog bG M 98) M 11 [] bD).map (fun x=>x.1)=some (.bool true):=by kernel_rfl
theorem Ym:T7 cO M:=by
 intro r H h xs hx
 have H:some true=some r:=H
 cases H
 obtain⟨⟨x,h'⟩,hb,e⟩:=ZD.1 E2
 dsimp only at e
 subst e
 obtain⟨l,h1,h2⟩:=kb (P:=Try.prog) cN M 11 [] bD _ _ hb
 have hb:=h2 cO fun e he=>lH.2 ⟨_,h1 e he⟩
 exact br (T:=bG) (deep:=bc) rfl rfl rfl be hx ⟨_,_,hb,cP (az)⟩
end Go.Proofs.Ytifafejidnjckaa
