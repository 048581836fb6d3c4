/- Part of the proof: PT7, Q67, PT8, PT9, Q68, Q47, PT10, PB1. -/
import Derived.Test.YtmekcfdllhphlaaDoorK7
set_option linter.unusedVariables false
set_option linter.unusedSimpArgs false
set_option maxRecDepth 100000
open Bool renaming and_eq_true → WV, false_eq_true → W9, or_eq_true → XG
open Eq renaming trans → XN
open Int renaming toNat_natCast → WX
open List renaming length_set → WY, getElem?_eq_some_iff → WZ, length_append → W3, mem_singleton → W4, getElem?_eq_getElem → W5, drop_eq_getElem_cons → W6, append_assoc → W7, mem_append → W8, getD_eq_getElem?_getD → Xb, replicate → Xc, mem_map → Xd, map_cons → Xe, length_cons → Xf, getElem?_append_right → Xg, cons_append → Xj, map_append → Xm, mem_cons → Xo, getElem?_map → Xq, drop_zero → Xr, getElem?_append_left → Xu, length_map → Xy, mem_append_left → XA, length_nil → XL, getElem_mem → XM, all_cons → XO, idxOf_lt_length_of_mem → XS, mem_of_getElem? → XT, take_add_one → XU, map_congr_left → XV, take_length → XX, idxOf_append → X3, nodup_append → X4, getElem?_set_self → Yg, set_append_right → Yl, getElem?_set_ne → Ym
open Nat renaming le_refl → WU, zero_add → Xh, sub_self → Yo
open Ne renaming symm → X9
open Option renaming bind_some → WQ
open Option.some renaming inj → Xn
open Or renaming inr → XZ
open Prod.mk renaming injEq → W2
open UInt8 renaming lt_iff_toNat_lt → Yb
namespace Go.Proofs.YtmekcfdllhphlaaDoor
open Go Go.R
open Go.IntKind (i64 u64 u8 u32)
def dT (t:au):Bool:=decide (1≤t.nodes.length)&&decide (t.nodes.length≤8000)&&decide (0≤t.root)&&decide (t.root<t.nodes.length)&&t.nodes.all fun n=>kl n t.nodes.length
theorem ly {m:Nat}(hm:2 ^ 30≤m)(t:au):ff.f m t=some (dT t):=by
 have nb:(2:Nat) ^ 30=1073741824:=by decide
 have ot:(2:Nat) ^ 40=1099511627776:=by decide
 unfold ff.f dT
 by_cases h1:1≤t.nodes.length
 ·rw [if_pos (by simp only [decide_eq_true_eq]; omega),decide_eq_true h1]
  by_cases h2:t.nodes.length≤8000
  ·rw [if_pos (by simp only [decide_eq_true_eq]; omega),decide_eq_true h2]
   by_cases h3:0≤t.root
   ·rw [if_pos (by simp only [decide_eq_true_eq]; omega),decide_eq_true h3]
    by_cases h4:t.root<t.nodes.length
    ·rw [if_pos (by simp only [decide_eq_true_eq]; omega),decide_eq_true h4]
     rw [vH (g:=fun n=>!(kl n t.nodes.length)) (by omega) (by omega) (fun n _=>by unfold fN.f; rw [DA (by omega)]; rfl),WQ]
     simp [List.not_any_eq_all_not]
    ·rw [if_neg (by simp only [decide_eq_true_eq]; omega),decide_eq_false h4]; rfl
   ·rw [if_neg (by simp only [decide_eq_true_eq]; omega),decide_eq_false h3]; rfl
  ·rw [if_neg (by simp only [decide_eq_true_eq]; omega),decide_eq_false h2]; rfl
 ·rw [if_neg (by simp only [decide_eq_true_eq]; omega),decide_eq_false h1]; rfl
def cI (x y:Int):Int:=if x<y then -1 else if y<x then 1 else 0
def cS (x y:ByteArray):Int:=if Op.bytesLess x.data.toList y.data.toList=true then -1 else if (!EX x y)=true then 1 else 0
def DH (x y:Int):Int:=if x=0 then y else x
def cT (a b:ae):Int:=if a.kind=b.kind then (if a.kind=3 then DH (cI a.args.length b.args.length) (cS a.label b.label) else DH (cS a.label b.label) (cI a.int b.int)) else cI a.kind b.kind
theorem xi {m:Nat}(x y:Int):cR.f m x y=some (cI x y):=by
 unfold cR.f ej.f cI
 simp only [beq_self_eq_true,Bool.not_true,WQ,W9,if_false]
 by_cases h:x<y
 ·rw [if_pos (by simpa using h),if_pos h]
 ·rw [if_neg (by simpa using h),if_neg h]
  by_cases h2:y<x
  ·rw [if_pos (by simpa using h2),if_pos h2]
  ·rw [if_neg (by simpa using h2),if_neg h2]
theorem Cb {m:Nat}(x y:ByteArray):cq.f m x y=some (cS x y):=by
 unfold cq.f dh.f cS
 simp only [beq_self_eq_true,Bool.not_true,WQ,W9,if_false]
 split
 ·rfl
 ·split
  ·rfl
  ·rfl
theorem yZ {m:Nat}(hm:3≤m)(x y:Int):cj.f m [x,y]=some (DH x y):=by
 obtain⟨k,rfl⟩:∃k,m=k+3:=⟨m - 3,by omega⟩
 unfold cj.f DH
 have e1:i64.wrap ((0:Int)+1)=1:=by decide
 have e2:i64.wrap ((1:Int)+1)=2:=by decide
 have a0:ix [x,y] 0=some x:=rfl
 have a1:ix [x,y] 1=some y:=rfl
 unfold cj.l0
 rw [if_pos (by simp),a0,WQ]
 by_cases h:x=0
 ·subst h
  rw [if_neg (by simp),e1,if_pos rfl]
  unfold cj.l0
  rw [if_pos (by simp),a1,WQ]
  by_cases h2:y=0
  ·subst h2
   rw [if_neg (by simp),e2]
   unfold cj.l0
   rw [if_neg (by simp)]; rfl
  ·rw [if_pos (by simpa using h2)]; rfl
 ·rw [if_pos (by simpa using h),if_neg h]; rfl
theorem xj {m:Nat}(hm:3≤m)(a b:ae):cU.f m a b=some (cT a b):=by
 unfold cU.f cT
 by_cases h:a.kind=b.kind
 ·rw [if_neg (by simp [h]),if_pos h]
  by_cases h3:a.kind=3
  ·rw [if_pos (by simpa using h3),if_pos h3,xi,Cb,WQ,WQ,yZ hm]; rfl
  ·rw [if_neg (by simpa using h3),if_neg h3,xi,Cb,WQ,WQ,yZ hm]; rfl
 ·rw [if_pos (by simpa using h),if_neg h,xi]; rfl
def nd (l:List ae)(i:Int):ae:=l.getD i.toNat ⟨0,0,⟨#[]⟩,[]⟩
theorem hZ {l:List ae}{i:Int}(h0:0≤i)(h1:i<l.length):ix l i=some (nd l i):=by
 unfold ix nd
 have h:i.toNat<l.length:=by omega
 rw [if_pos h0,Xb,W5 h]; rfl
theorem fu {l:List ae}{i:Int}(h0:0≤i)(h1:i<l.length):nd l i∈l:=by
 have:=hZ h0 h1
 unfold ix at this
 rw [if_pos h0] at this
 exact XT this
theorem FM {m:Nat}(hm:3≤m){l:List ae}{i j:Int}(h0:0≤i)(h1:i<l.length)(h2:0≤j)(h3:j<l.length):dt.f m i j l=some (cT (nd l i) (nd l j)):=by
 unfold dt.f
 rw [hZ h0 h1,hZ h2 h3,WQ,WQ,xj hm]; rfl
end Go.Proofs.YtmekcfdllhphlaaDoor
namespace Go.Proofs.YtmekcfdllhphlaaDoor
open Go Go.R
open Go.IntKind (i64 u64 u8 u32)
def pq:cd:=gh [0,1,2,3,4,5,6,7,8,9,10,11,12,13,14,15,17,22,23,24,37,38,39,40,61,73,74,75,76,87,88,89,90,110,126] [12] [34359738365,34359738357,34359345141,34358820853,34359345125,34359345141,34359345141,34359738357,34359738325,34359738261,34352398229,34344009621,34352397845,34335620757,34352397973,34352398229,34352398229,34359737757,34359736733,34124855709,33856420253,34124849565,34124841373,30366749085,26071781789,30366699933,30366749085,30366749085,34124779933,25534910877,34124845469,34124855709,34124855709,17179867613,34359738363,34359738269] [] []
def aw.l0 (m:Nat)(x0:List Int):Nat→(List Int)→Int→Option ((List Int) × Int)
 | 0,_,_=>none
 | k+1,fh,x1=>if (decide (x1<(x0.length:Int)))=true then ((ix fh x1).bind fun v0=>aw.l0 m x0 k (fh.set x1.toNat x1) (i64.wrap (x1+(1:Int)))) else (some ((fh,x1)))
def aw.l1 (m:Nat)(az:List ae)(b5:List Int)(x3:(List Int)):Nat→(List Int)→Int→Int→Option ((List Int) × Int × Int)
 | 0,_,_,_=>none
 | k+1,cD,dP,x5=>if (decide (x5<(b5.length:Int)))=true then ((ix x3 x5).bind fun v1=>if (decide (x5 > (0:Int)))=true then ((ix x3 (i64.wrap (x5 - (1:Int)))).bind fun v2=>(ix az v2).bind fun v3=>(ix az v1).bind fun v4=>(cU.f m v3 v4).bind fun x6=>if (!(x6==(0:Int)))=true then ((ix cD v1).bind fun v5=>aw.l1 m az b5 x3 k (cD.set v1.toNat (i64.wrap (dP+(1:Int)))) (i64.wrap (dP+(1:Int))) (i64.wrap (x5+(1:Int)))) else ((ix cD v1).bind fun v6=>aw.l1 m az b5 x3 k (cD.set v1.toNat dP) dP (i64.wrap (x5+(1:Int))))) else ((ix cD v1).bind fun v7=>aw.l1 m az b5 x3 k (cD.set v1.toNat dP) dP (i64.wrap (x5+(1:Int))))) else (some ((cD,dP,x5)))
def aw.l4 (m:Nat)(cN:List Int)(v8:ae):Nat→(List Int)→Int→Option ((List Int) × Int)
 | 0,_,_=>none
 | k+1,k0,mB=>if (decide (mB<(v8.args.length:Int)))=true then ((ix v8.args mB).bind fun v10=>(ix cN v10).bind fun v11=>(ix k0 (i64.wrap (mB+(1:Int)))).bind fun v12=>aw.l4 m cN v8 k (k0.set (i64.wrap (mB+(1:Int))).toNat (i64.wrap (v11+(1:Int)))) (i64.wrap (mB+(1:Int)))) else (some ((k0,mB)))
def aw.l3 (m:Nat)(az:List ae)(cN:List Int):Nat→(List (List Int × Int))→(List Int)→Int→Option ((List (List Int × Int)) × (List Int) × Int)
 | 0,_,_,_=>none
 | k+1,fw,bQ,x9=>if (decide (x9<(az.length:Int)))=true then ((ix az x9).bind fun v8=>(ix cN x9).bind fun v9=>(aw.l4 m cN v8 m ([i64.wrap (v9+(1:Int)),(0:Int),(0:Int),(0:Int),(0:Int),(0:Int),(0:Int),(0:Int),(0:Int)]) (0:Int)).bind fun y4=>match y4 with | (k1,Hi)=>(HT 9 fw k1).bind fun r0=>if (!r0.2)=true then ((MD 9 fw k1 (fw.length:Int)).bind fun KD=>(HT 9 KD k1).bind fun r1=>(ix bQ x9).bind fun H7=>aw.l3 m az cN k KD (bQ.set x9.toNat r1.1) (i64.wrap (x9+(1:Int)))) else ((HT 9 fw k1).bind fun r2=>(ix bQ x9).bind fun zV=>aw.l3 m az cN k fw (bQ.set x9.toNat r2.1) (i64.wrap (x9+(1:Int))))) else (some ((fw,bQ,x9)))
def aw.l2 (m:Nat)(az:List ae):Nat→(List Int)→Int→Option (Sum (List Int) ((List Int) × Int))
 | 0,_,_=>none
 | k+1,cN,ju=>(uM 8 (az.length:Int) (0:Int)).bind fun x8=>(aw.l3 m az cN m ([]:List (List Int × Int)) x8 (0:Int)).bind fun gG=>match gG with | (nA,cO,H9)=>if ((nA.length:Int)==(i64.wrap (ju+(1:Int))))=true then (some (.inl cN)) else (aw.l2 m az k cO (i64.wrap ((nA.length:Int) - (1:Int))))
def aw.f (m:Nat)(az:List ae):Option ((List Int)):=(uM 8 (az.length:Int) (0:Int)).bind fun x0=>(aw.l0 m x0 m x0 (0:Int)).bind fun bo=>match bo with | (b5,x2)=>(eW.f m b5 (fun y0 y1=>dt.f m y0 y1 az)).bind fun x3=>(uM 8 (az.length:Int) (0:Int)).bind fun x4=>(aw.l1 m az b5 x3 m x4 (0:Int) (0:Int)).bind fun pf=>match pf with | (jt,many1,x7)=>(aw.l2 m az m jt many1).bind fun FN=>match FN with | .inl r3=>some r3 | .inr (mC,Nj)=>none
def aw.fin (L:Mem)(r:(List Int))(s:St):Prop:=∃av,aI Tryd.prog (s.open pq) Tryd.f67.results.toList=some av∧fA s.h av (aa.fz r)
def SO (cf:CallF)(m:Nat):Prop:=∀(az:List ae) (r:(List Int)),aw.f m az=some r→∀h xs,eA eQ h xs [af.fz az]→cf 67 xs h=some (aa.fz r,h)
section
variable {cf:CallF}{m:Nat}
theorem aw.bG (L:Mem)(az:List ae)(aA:Nat)(x0:List Int)   : bI Tryd.prog cf pq m (sub [1,1,0,1,0,0] (codeOf Tryd.f67)) (fun k (σ:(List Int) × Int)=>aw.l0 m x0 k σ.1 σ.2) (fun σ s=>match σ with | (fh,x1)=>∃di h2,s=⟨.any :: .ptr aA 0 :: .any :: .rs di 0 fh.length 1::nV (.int .i64 (x0.length:Int) :: .int .i64 x1::E8 []),[none],h2⟩∧Has h2 ((di,.sl fh.length 1 (aa.l fh))::(aA,.ob [af.fz az])::L)) (fun out e s=>(e = .exit 0∧∃fh x1,(fh,x1)=out∧∃AH Qa KE di h2,s=⟨.any :: .ptr aA 0 :: .any :: .rs di 0 fh.length 1::nV (AH::Qa::KE::H0 []),[none],h2⟩∧Has h2 ((di,.sl fh.length 1 (aa.l fh))::(aA,.ob [af.fz az])::L))):=by
 refine hX (fun _=>rfl) ?_
 rintro k ⟨fh,x1⟩ s out ⟨di,h2,rfl,o2⟩ H
 have H:aw.l0 m x0 (k+1) fh x1=some out:=H
 refine q1 <| qq <| qc H (fun c0 H=>?_) (fun c0 H=>?_)
 ·refine qk <| qq <| qb 1 <| qq <| q0 ?_
  obtain⟨v0,e3,H⟩:=aJ H
  obtain⟨h3,e4,o3⟩:=dK (P:=Tryd.prog) (tf:=3) (E:=aa) (l:=fh) (q:=0) (v:=x1) (x:=.int .i64 x1) o2 rfl Z3 e3 rfl rfl
  exact qr [.v 3 (aG (k:=.i64) (E:=aa) (l:=fh) (q:=0) dA o2 rfl e3),.w 4 e4] <| q0 <| ⟨(fh.set x1.toNat x1,i64.wrap (x1+(1:Int))),⟨di,h3,(XN (b:=⟨.any :: .ptr aA 0 :: .any :: .rs di 0 fh.length 1::nV (.int .i64 (x0.length:Int) :: .int .i64 (i64.wrap (x1+(1:Int)))::E8 []),[none],h3⟩) (by kernel_rfl) (by simp only [WY])),(by have o:Has h3 ((di,.sl fh.length 1 (aa.l (fh.set x1.toNat x1)))::(aA,.ob [af.fz az])::L):=o3; simpa only [WY] using o)⟩,H⟩
 ·exact qx 0 <| ⟨rfl,fh,x1,oi H,.int .i64 (x0.length:Int),.int .i64 x1,.bool (decide (x1<(x0.length:Int))),di,h2,by kernel_rfl,o2⟩
theorem aw.fW (L:Mem)(az:List ae)(aA:Nat)(fy:Nat)(b5:List Int)(fy:Nat)(x3:(List Int))  (yY:Ng cf m):bI Tryd.prog cf pq m (sub [1,1,1,1,1,1,0,1,0,0] (codeOf Tryd.f67)) (fun k (σ:(List Int) × Int × Int)=>aw.l1 m az b5 x3 k σ.1 σ.2.1 σ.2.2) (fun σ s=>match σ with | (cD,dP,x5)=>∃gW h7,s=⟨.any :: .ptr aA 0 :: .any :: .rs fy 0 b5.length 1 :: .any :: .rs gW 0 cD.length 1 :: .int .i64 dP::nV (.rs fy 0 b5.length 1 :: .int .i64 (b5.length:Int) :: .int .i64 x5::mX []),[none],h7⟩∧Has h7 ((gW,.sl cD.length 1 (aa.l cD))::(fy,.sl b5.length 1 (aa.l x3))::(aA,.ob [af.fz az])::L)) (fun out e s=>(e = .exit 2∧∃cD dP x5,(cD,dP,x5)=out∧∃uP FO FP FQ FR gW h7,s=⟨.any :: .ptr aA 0 :: .any::uP :: .any :: .rs gW 0 cD.length 1 :: .int .i64 dP::nV (FO::FP::FQ::FR::oY []),[none],h7⟩∧Has h7 ((gW,.sl cD.length 1 (aa.l cD))::(fy,.sl b5.length 1 (aa.l x3))::(aA,.ob [af.fz az])::L))):=by
 refine hX (fun _=>rfl) ?_
 rintro k ⟨cD,dP,x5⟩ s out ⟨gW,h7,rfl,o7⟩ H
 have H:aw.l1 m az b5 x3 (k+1) cD dP x5=some out:=H
 refine q1 <| qq <| qc H (fun c1 H=>?_) (fun c1 H=>?_)
 ·refine qk <| qq <| qb 3 <| qq ?_
  obtain⟨v1,pe,H⟩:=aJ H
  refine qr [.v 1 (aG (k:=.i64) (E:=aa) (l:=x3) (q:=1) dA o7 rfl pe),.v 2 (be  (E:=aa) (l:=x3) (q:=1) o7 rfl A3 pe rfl)] <| qq <| qq ?_
  rcases dF H with⟨c2,H⟩| ⟨c2,H⟩
  ·obtain⟨v2,sj,H⟩:=aJ H
   obtain⟨v3,uA,H⟩:=aJ H
   obtain⟨v4,uB,H⟩:=aJ H
   obtain⟨x6,uS,H⟩:=aJ H
   refine qr [.b 2 c2,.v 3 (show bh Tryd.prog h7 29 (.ptr aA 0)=some (af.fz az) from cm (q:=2) (cs:=[af.fz az]) o7 rfl (by kernel_rfl)),.v 7 (aG (k:=.i64) (E:=aa) (l:=x3) (q:=1) dA o7 rfl sj),.v 8 (be  (E:=aa) (l:=x3) (q:=1) o7 rfl A3 sj rfl),.v 9 (bD (k:=.i64) (E:=af) (l:=az) lG uA),.v 10 (dE  (E:=af) (l:=az) h7 sf sh uA),.v 11 (show bh Tryd.prog h7 29 (.ptr aA 0)=some (af.fz az) from cm (q:=2) (cs:=[af.fz az]) o7 rfl (by kernel_rfl)),.v 13 (bD (k:=.i64) (E:=af) (l:=az) lG uB),.v 14 (dE  (E:=af) (l:=az) h7 sf sh uB),.a 15 (yY _ _ _ uS h7 _ (gf (ab (cg (ab (aH) (ab (aH) (ab (bJ) (ab (b4 (E:=aa)) (ax)))))) (ab (cg (ab (aH) (ab (aH) (ab (bJ) (ab (b4 (E:=aa)) (ax)))))) (ax)))))] ?_
   refine qc H (fun c3 H=>?_) (fun c3 H=>?_)
   ·refine q0 ?_
    obtain⟨v5,uC,H⟩:=aJ H
    obtain⟨h8,xP,o8⟩:=dK (P:=Tryd.prog) (tf:=3) (E:=aa) (l:=cD) (q:=0) (v:=(i64.wrap (dP+(1:Int)))) (x:=.int .i64 (i64.wrap (dP+(1:Int)))) o7 rfl Z3 uC rfl rfl
    exact qr [.v 3 (aG (k:=.i64) (E:=aa) (l:=cD) (q:=0) dA o7 rfl uC),.w 4 xP] <| q0 <| ⟨(cD.set v1.toNat (i64.wrap (dP+(1:Int))),i64.wrap (dP+(1:Int)),i64.wrap (x5+(1:Int))),⟨gW,h8,(XN (b:=⟨.any :: .ptr aA 0 :: .any :: .rs fy 0 b5.length 1 :: .any :: .rs gW 0 cD.length 1 :: .int .i64 (i64.wrap (dP+(1:Int)))::nV (.rs fy 0 b5.length 1 :: .int .i64 (b5.length:Int) :: .int .i64 (i64.wrap (x5+(1:Int)))::mX []),[none],h8⟩) (by kernel_rfl) (by simp only [WY])),(by have o:Has h8 ((gW,.sl cD.length 1 (aa.l (cD.set v1.toNat (i64.wrap (dP+(1:Int))))))::(fy,.sl b5.length 1 (aa.l x3))::(aA,.ob [af.fz az])::L):=o8; simpa only [WY] using o)⟩,H⟩
   ·refine qk ?_
    obtain⟨v6,xd,H⟩:=aJ H
    obtain⟨h9,B1,o9⟩:=dK (P:=Tryd.prog) (tf:=3) (E:=aa) (l:=cD) (q:=0) (v:=dP) (x:=.int .i64 dP) o7 rfl Z3 xd rfl rfl
    exact qr [.v 3 (aG (k:=.i64) (E:=aa) (l:=cD) (q:=0) dA o7 rfl xd),.w 4 B1] <| q0 <| ⟨(cD.set v1.toNat dP,dP,i64.wrap (x5+(1:Int))),⟨gW,h9,(XN (b:=⟨.any :: .ptr aA 0 :: .any :: .rs fy 0 b5.length 1 :: .any :: .rs gW 0 cD.length 1 :: .int .i64 dP::nV (.rs fy 0 b5.length 1 :: .int .i64 (b5.length:Int) :: .int .i64 (i64.wrap (x5+(1:Int)))::mX []),[none],h9⟩) (by kernel_rfl) (by simp only [WY])),(by have o:Has h9 ((gW,.sl cD.length 1 (aa.l (cD.set v1.toNat dP)))::(fy,.sl b5.length 1 (aa.l x3))::(aA,.ob [af.fz az])::L):=o9; simpa only [WY] using o)⟩,H⟩
  ·refine qr [.b 2 c2] <| Ds <| qk ?_
   obtain⟨v7,xe,H⟩:=aJ H
   obtain⟨h10,B2,uQ⟩:=dK (P:=Tryd.prog) (tf:=3) (E:=aa) (l:=cD) (q:=0) (v:=dP) (x:=.int .i64 dP) o7 rfl Z3 xe rfl rfl
   exact qr [.v 3 (aG (k:=.i64) (E:=aa) (l:=cD) (q:=0) dA o7 rfl xe),.w 4 B2] <| q0 <| ⟨(cD.set v1.toNat dP,dP,i64.wrap (x5+(1:Int))),⟨gW,h10,(XN (b:=⟨.any :: .ptr aA 0 :: .any :: .rs fy 0 b5.length 1 :: .any :: .rs gW 0 cD.length 1 :: .int .i64 dP::nV (.rs fy 0 b5.length 1 :: .int .i64 (b5.length:Int) :: .int .i64 (i64.wrap (x5+(1:Int)))::mX []),[none],h10⟩) (by kernel_rfl) (by simp only [WY])),(by have o:Has h10 ((gW,.sl cD.length 1 (aa.l (cD.set v1.toNat dP)))::(fy,.sl b5.length 1 (aa.l x3))::(aA,.ob [af.fz az])::L):=uQ; simpa only [WY] using o)⟩,H⟩
 ·exact qx 2 <| ⟨rfl,cD,dP,x5,oi H,.rs fy 0 b5.length 1,.rs fy 0 b5.length 1,.int .i64 (b5.length:Int),.int .i64 x5,.bool (decide (x5<(b5.length:Int))),gW,h7,(XN (b:=⟨.any :: .ptr aA 0 :: .any :: .rs fy 0 b5.length 1 :: .any :: .rs gW 0 cD.length 1 :: .int .i64 dP::nV (.rs fy 0 b5.length 1 :: .int .i64 (b5.length:Int) :: .int .i64 x5 :: .bool (decide (x5<(b5.length:Int)))::oY []),[none],h7⟩) (by kernel_rfl) (by simp only [WY])),(by have o:Has h7 ((gW,.sl cD.length 1 (aa.l cD))::(fy,.sl b5.length 1 (aa.l x3))::(aA,.ob [af.fz az])::L):=o7; simpa only [WY] using o)⟩
theorem aw.tO (L:Mem)(az:List ae)(aA:Nat)(iB:Nat)(cN:List Int)(ju:Int)(iB:Nat)(kT:Nat)(eT:Nat)(fw:List (List Int × Int))(bQ:List Int)(x9:Int)(eT:Nat)(v8:ae)(nY:Nat)   : bI Tryd.prog cf pq m (sub [1,1,1,1,1,1,1,0,0,0,1,1,0,1,0,0,1,1,0,0,1,1,0,1,0,0] (codeOf Tryd.f67)) (fun k (σ:(List Int) × Int)=>aw.l4 m cN v8 k σ.1 σ.2) (fun σ s=>match σ with | (k0,mB)=>∃h18,s=⟨.any :: .ptr aA 0::kz (.rs iB 0 cN.length 1 :: .int .i64 ju :: .any :: .any :: .mp kT :: .rs eT 0 bQ.length 1 :: .int .i64 x9 :: .any :: .ptr nY 0::oY (af.fz az :: .int .i64 (az.length:Int) :: .int .i64 x9 :: .any::aa.fz v8.args :: .int .i64 (v8.args.length:Int) :: .int .i64 mB::kz [])),[none],h18⟩∧Has h18 ((nY,.sl 9 1 (aa.l k0))::(eT,.sl bQ.length 1 (aa.l bQ))::(kT,.mp (uN fw))::(iB,.sl cN.length 1 (aa.l cN))::(aA,.ob [af.fz az])::L)) (fun out e s=>(e = .exit 8∧∃k0 mB,(k0,mB)=out∧∃Qb Qc Qd Qe h18,s=⟨.any :: .ptr aA 0::kz (.rs iB 0 cN.length 1 :: .int .i64 ju :: .any :: .any :: .mp kT :: .rs eT 0 bQ.length 1 :: .int .i64 x9 :: .any :: .ptr nY 0::oY [af.fz az,.int .i64 (az.length:Int),.int .i64 x9,.any,Qb,Qc,Qd,Qe,.any,.any]),[none],h18⟩∧Has h18 ((nY,.sl 9 1 (aa.l k0))::(eT,.sl bQ.length 1 (aa.l bQ))::(kT,.mp (uN fw))::(iB,.sl cN.length 1 (aa.l cN))::(aA,.ob [af.fz az])::L))):=by
 refine hX (fun _=>rfl) ?_
 rintro k ⟨k0,mB⟩ s out ⟨h18,rfl,DE⟩ H
 have H:aw.l4 m cN v8 (k+1) k0 mB=some out:=H
 refine q1 <| qq <| qc H (fun c6 H=>?_) (fun c6 H=>?_)
 ·refine qk <| qq <| qb 9 <| qq ?_
  obtain⟨v10,FD,H⟩:=aJ H
  refine qr [.v 1 (bD (k:=.i64) (E:=aa) (l:=v8.args) dA FD),.v 2 (dd  (E:=aa) (l:=v8.args) h18 A3 FD rfl)] ?_
  obtain⟨v11,FB,H⟩:=aJ H
  obtain⟨v12,H8,H⟩:=aJ H
  obtain⟨h19,KF,KG⟩:=dK (P:=Tryd.prog) (tf:=3) (E:=aa) (l:=k0) (q:=0) (v:=(i64.wrap (v11+(1:Int)))) (x:=.int .i64 (i64.wrap (v11+(1:Int)))) DE rfl Z3 H8 rfl rfl
  exact qr [.v 4 (aG (k:=.i64) (E:=aa) (l:=cN) (q:=3) dA DE rfl FB),.v 5 (be  (E:=aa) (l:=cN) (q:=3) DE rfl A3 FB rfl),.v 7 (Ke (k:=.i64) (q:=0) (l:=k0) vD DE rfl H8),.w 8 KF] <| q0 <| ⟨(k0.set (i64.wrap (mB+(1:Int))).toNat (i64.wrap (v11+(1:Int))),i64.wrap (mB+(1:Int))),⟨h19,by kernel_rfl,KG⟩,H⟩
 ·exact qx 8 <| ⟨rfl,k0,mB,oi H,aa.fz v8.args,.int .i64 (v8.args.length:Int),.int .i64 mB,.bool (decide (mB<(v8.args.length:Int))),h18,by kernel_rfl,DE⟩
theorem aw.tN (L:Mem)(az:List ae)(aA:Nat)(iB:Nat)(cN:List Int)(ju:Int)(iB:Nat)(kT:Nat)   : bI Tryd.prog cf pq m (sub [1,1,1,1,1,1,1,0,0,0,1,1,0,1,0,0] (codeOf Tryd.f67)) (fun k (σ:(List (List Int × Int)) × (List Int) × Int)=>aw.l3 m az cN k σ.1 σ.2.1 σ.2.2) (fun σ s=>match σ with | (fw,bQ,x9)=>∃eT h15,s=⟨.any :: .ptr aA 0::kz (.rs iB 0 cN.length 1 :: .int .i64 ju :: .any :: .any :: .mp kT :: .rs eT 0 bQ.length 1::rA (af.fz az :: .int .i64 (az.length:Int) :: .int .i64 x9::Dm [])),[none],h15⟩∧Has h15 ((eT,.sl bQ.length 1 (aa.l bQ))::(kT,.mp (uN fw))::(iB,.sl cN.length 1 (aa.l cN))::(aA,.ob [af.fz az])::L)) (fun out e s=>(e = .exit 6∧∃fw bQ x9,(fw,bQ,x9)=out∧∃Qf Qg Qh Qi eT h15,s=⟨.any :: .ptr aA 0::kz (.rs iB 0 cN.length 1 :: .int .i64 ju :: .any :: .any :: .mp kT :: .rs eT 0 bQ.length 1::rA (Qf::Qg::Qh::Qi::Hf [])),[none],h15⟩∧Has h15 ((eT,.sl bQ.length 1 (aa.l bQ))::(kT,.mp (uN fw))::(iB,.sl cN.length 1 (aa.l cN))::(aA,.ob [af.fz az])::L))):=by
 refine hX (fun _=>rfl) ?_
 rintro k ⟨fw,bQ,x9⟩ s out ⟨eT,h15,rfl,lR⟩ H
 have H:aw.l3 m az cN (k+1) fw bQ x9=some out:=H
 refine q1 <| qq <| qc H (fun c5 H=>?_) (fun c5 H=>?_)
 ·refine qk <| qq <| qb 7 <| qq ?_
  obtain⟨v8,FA,H⟩:=aJ H
  refine qr [.v 1 (bD (k:=.i64) (E:=af) (l:=az) lG FA),.v 2 (dE  (E:=af) (l:=az) h15 sf sh FA)] <| qq ?_
  obtain⟨v9,FE,H⟩:=aJ H
  obtain⟨nY,h16,Hh,AI⟩:=HV (cs:=[.int .i64 (0:Int),.int .i64 (0:Int),.int .i64 (0:Int),.int .i64 (0:Int),.int .i64 (0:Int),.int .i64 (0:Int),.int .i64 (0:Int),.int .i64 (0:Int),.int .i64 (0:Int)]) (l:=[(0:Int),(0:Int),(0:Int),(0:Int),(0:Int),(0:Int),(0:Int),(0:Int),(0:Int)]) lR (by kernel_rfl)
  obtain⟨h17,FC,DD⟩:=Kf (q:=0) (l:=([(0:Int),(0:Int),(0:Int),(0:Int),(0:Int),(0:Int),(0:Int),(0:Int),(0:Int)])) (l':=[i64.wrap (v9+(1:Int)),(0:Int),(0:Int),(0:Int),(0:Int),(0:Int),(0:Int),(0:Int),(0:Int)]) (x:=.agg [.int .i64 (i64.wrap (v9+(1:Int))),.int .i64 (0:Int),.int .i64 (0:Int),.int .i64 (0:Int),.int .i64 (0:Int),.int .i64 (0:Int),.int .i64 (0:Int),.int .i64 (0:Int),.int .i64 (0:Int)]) vD AI rfl rfl rfl
  refine qr [.v 2 (aG (k:=.i64) (E:=aa) (l:=cN) (q:=2) dA lR rfl FE),.v 3 (be  (E:=aa) (l:=cN) (q:=2) lR rfl A3 FE rfl),.a 6 Hh,.w 7 FC] <| qq <| qq <| q0 <| qb 8 ?_
  obtain⟨y4,Hj,H⟩:=aJ H
  refine ql (aw.tO L az aA iB cN ju iB kT eT fw bQ x9 eT v8 nY   ([i64.wrap (v9+(1:Int)),(0:Int),(0:Int),(0:Int),(0:Int),(0:Int),(0:Int),(0:Int),(0:Int)],(0:Int)) _ _ ⟨h17,by kernel_rfl,DD⟩ Hj) ?_
  rintro e s ⟨rfl,k1,Hi,rfl,g13,g14,g15,g16,h20,rfl,xk⟩
  try dsimp only at H
  refine qq <| qq ?_
  obtain⟨r0,LF,H⟩:=aJ H
  refine qr [.v 1 (show bh Tryd.prog h20 116 (.ptr nY 0)=some (.agg (aa.l k1)) from wU (q:=0) (l:=k1) vD xk rfl),.v 2 (show fG Tryd.prog h20 114 (.mp kT) (.agg (aa.l k1)) true=some (.tup [.int .i64 r0.1,.bool r0.2]) from (Kc (q:=2) (l:=fw) (k:=k1) BR xk rfl LF).1)] <| qq <| q0 <| qc H (fun c7 H=>?_) (fun c7 H=>?_)
  ·obtain⟨KD,LG,H⟩:=aJ H
   obtain⟨h21,Nk,FT⟩:=Pz (q:=2) (l:=fw) (k:=k1) (v:=(fw.length:Int)) BR xk rfl LG
   refine qr [.v 1 (show bh Tryd.prog h20 116 (.ptr nY 0)=some (.agg (aa.l k1)) from wU (q:=0) (l:=k1) vD xk rfl),.v 3 (show sr Tryd.prog h20 114 (.mp kT)=some (.int .i64 (fw.length:Int)) from Kd (q:=2) (l:=fw) Fk xk rfl),.w 4 Nk] ?_
   obtain⟨r1,Nl,H⟩:=aJ H
   obtain⟨H7,KH,H⟩:=aJ H
   obtain⟨h22,LH,D7⟩:=dK (P:=Tryd.prog) (tf:=3) (E:=aa) (l:=bQ) (q:=1) (v:=r1.1) (x:=.int .i64 r1.1) FT rfl Z3 KH rfl rfl
   refine qr [.v 3 (show bh Tryd.prog h21 116 (.ptr nY 0)=some (.agg (aa.l k1)) from wU (q:=0) (l:=k1) vD FT rfl),.v 4 (show fG Tryd.prog h21 114 (.mp kT) (.agg (aa.l k1)) false=some (.int .i64 r1.1) from (Kc (q:=2) (l:=KD) (k:=k1) BR FT rfl Nl).2),.v 5 (aG (k:=.i64) (E:=aa) (l:=bQ) (q:=1) dA FT rfl KH),.w 6 LH] ?_
   have Ia:Has h22 ((eT,.sl bQ.length 1 (aa.l (bQ.set x9.toNat r1.1)))::(kT,.mp (uN KD))::(iB,.sl cN.length 1 (aa.l cN))::(aA,.ob [af.fz az])::L):=Has.del D7 0
   exact q0 <| ⟨(KD,bQ.set x9.toNat r1.1,i64.wrap (x9+(1:Int))),⟨eT,h22,(XN (b:=⟨.any :: .ptr aA 0::kz (.rs iB 0 cN.length 1 :: .int .i64 ju :: .any :: .any :: .mp kT :: .rs eT 0 bQ.length 1::rA (af.fz az :: .int .i64 (az.length:Int) :: .int .i64 (i64.wrap (x9+(1:Int)))::Dm [])),[none],h22⟩) (by kernel_rfl) (by simp only [WY])),(by have o:Has h22 ((eT,.sl bQ.length 1 (aa.l (bQ.set x9.toNat r1.1)))::(kT,.mp (uN KD))::(iB,.sl cN.length 1 (aa.l cN))::(aA,.ob [af.fz az])::L):=Ia; simpa only [WY] using o)⟩,H⟩
  ·refine qk ?_
   obtain⟨r2,Nn,H⟩:=aJ H
   obtain⟨zV,Ib,H⟩:=aJ H
   obtain⟨h23,Ja,No⟩:=dK (P:=Tryd.prog) (tf:=3) (E:=aa) (l:=bQ) (q:=1) (v:=r2.1) (x:=.int .i64 r2.1) xk rfl Z3 Ib rfl rfl
   refine qr [.v 3 (show bh Tryd.prog h20 116 (.ptr nY 0)=some (.agg (aa.l k1)) from wU (q:=0) (l:=k1) vD xk rfl),.v 4 (show fG Tryd.prog h20 114 (.mp kT) (.agg (aa.l k1)) false=some (.int .i64 r2.1) from (Kc (q:=2) (l:=fw) (k:=k1) BR xk rfl Nn).2),.v 5 (aG (k:=.i64) (E:=aa) (l:=bQ) (q:=1) dA xk rfl Ib),.w 6 Ja] ?_
   have nc:Has h23 ((eT,.sl bQ.length 1 (aa.l (bQ.set x9.toNat r2.1)))::(kT,.mp (uN fw))::(iB,.sl cN.length 1 (aa.l cN))::(aA,.ob [af.fz az])::L):=Has.del No 0
   exact q0 <| ⟨(fw,bQ.set x9.toNat r2.1,i64.wrap (x9+(1:Int))),⟨eT,h23,(XN (b:=⟨.any :: .ptr aA 0::kz (.rs iB 0 cN.length 1 :: .int .i64 ju :: .any :: .any :: .mp kT :: .rs eT 0 bQ.length 1::rA (af.fz az :: .int .i64 (az.length:Int) :: .int .i64 (i64.wrap (x9+(1:Int)))::Dm [])),[none],h23⟩) (by kernel_rfl) (by simp only [WY])),(by have o:Has h23 ((eT,.sl bQ.length 1 (aa.l (bQ.set x9.toNat r2.1)))::(kT,.mp (uN fw))::(iB,.sl cN.length 1 (aa.l cN))::(aA,.ob [af.fz az])::L):=nc; simpa only [WY] using o)⟩,H⟩
 ·exact qx 6 <| ⟨rfl,fw,bQ,x9,oi H,af.fz az,.int .i64 (az.length:Int),.int .i64 x9,.bool (decide (x9<(az.length:Int))),eT,h15,by kernel_rfl,lR⟩
theorem aw.ph (L:Mem)(az:List ae)(aA:Nat)   : bI Tryd.prog cf pq m (sub [1,1,1,1,1,1,1,0,0] (codeOf Tryd.f67)) (fun k (σ:(List Int) × Int)=>aw.l2 m az k σ.1 σ.2) (fun σ s=>match σ with | (cN,ju)=>∃g8 g9 g10 g11 g12 iB h12,s=⟨.any :: .ptr aA 0 :: .any::g8 :: .any :: .rs iB 0 cN.length 1 :: .int .i64 ju::nV (g9::g10::g11::g12::oY []),[none],h12⟩∧Has h12 ((iB,.sl cN.length 1 (aa.l cN))::(aA,.ob [af.fz az])::L)) (fun out e s=>(e = .exit 4∧∃cN ju,.inr (cN,ju)=out∧∃rB uP y5 DF FO FP FQ FR iB h12,s=⟨.any::rB :: .any::uP :: .any::y5::DF::nV (FO::FP::FQ::FR::oY []),[none],h12⟩∧Has h12 ((iB,.sl cN.length 1 (aa.l cN))::(aA,.ob [af.fz az])::L))∨(e = .ret∧∃r,.inl r=out∧aw.fin L r s)):=by
 refine hX (fun _=>rfl) ?_
 rintro k ⟨cN,ju⟩ s out ⟨g8,g9,g10,g11,g12,iB,h12,rfl,lM⟩ H
 have H:aw.l2 m az (k+1) cN ju=some out:=H
 refine qb 5 <| qq ?_
 obtain⟨kT,h13,D4,yP⟩:=E4 lM
 refine qr [.m 0 D4] <| qq ?_
 obtain⟨x8,Fz,H⟩:=aJ H
 obtain⟨xQ,h14,D5,zU⟩:=nS (P:=Tryd.prog) (E:=aa) (z:=(0:Int)) (zv:=.int .i64 (0:Int)) dA yP 3 rfl rfl rfl rfl Fz
 refine qr [.v 0 (show bh Tryd.prog h13 29 (.ptr aA 0)=some (af.fz az) from cm (q:=2) (cs:=[af.fz az]) yP rfl (by kernel_rfl)),.a 2 D5] <| qq <| qq <| qr [.v 0 (show bh Tryd.prog h14 29 (.ptr aA 0)=some (af.fz az) from cm (q:=3) (cs:=[af.fz az]) zU rfl (by kernel_rfl))] <| qb 6 ?_
 obtain⟨gG,Jb,H⟩:=aJ H
 refine ql (aw.tN L az aA iB cN ju iB kT   (([]:List (List Int × Int)),x8,(0:Int)) _ _ ⟨xQ,h14,by kernel_rfl,zU⟩ Jb) ?_
 rintro e s ⟨rfl,nA,cO,H9,rfl,g17,g18,g19,g20,fO,h24,rfl,Jc⟩
 try dsimp only at H
 refine qq <| qq <| qr [.v 1 (show sr Tryd.prog h24 114 (.mp kT)=some (.int .i64 (nA.length:Int)) from Kd (q:=1) (l:=nA) Fk Jc rfl)] <| qc H (fun c8 H=>?_) (fun c8 H=>?_)
 ·refine q1 ?_
  have Hk:Has h24 ((fO,.sl cO.length 1 (aa.l cO))::(kT,.mp (uN nA))::(iB,.sl cN.length 1 (aa.l cN))::L):=Has.del Jc 3
  have Np:Has h24 ((fO,.sl cO.length 1 (aa.l cO))::(iB,.sl cN.length 1 (aa.l cN))::L):=Has.del Hk 1
  have Nq:Has h24 ((iB,.sl cN.length 1 (aa.l cN))::L):=Has.del Np 0
  exact qt <| XZ (⟨rfl,_,oi H,ca (.rs iB 0 cN.length 1) h24 (b8 (yG (E:=aa) (l:=cN) (q:=0) Nq rfl (fun _=>rfl)))⟩)
 ·refine qk <| qr [.v 2 (show sr Tryd.prog h24 114 (.mp kT)=some (.int .i64 (nA.length:Int)) from Kd (q:=1) (l:=nA) Fk Jc rfl)] ?_
  have Oq:Has h24 ((fO,.sl cO.length 1 (aa.l cO))::(kT,.mp (uN nA))::(aA,.ob [af.fz az])::L):=Has.del Jc 2
  have Qj:Has h24 ((fO,.sl cO.length 1 (aa.l cO))::(aA,.ob [af.fz az])::L):=Has.del Oq 1
  exact⟨(cO,i64.wrap ((nA.length:Int) - (1:Int))),⟨.any,.any,.any,.any,.any,fO,h24,by kernel_rfl,Qj⟩,H⟩
theorem pt {aS:FuncId→cd}(ha:aS 67=pq)(yY:Ng cf m)(Qk:SI cf m)(Ql:SN cf m)(az:List ae)(h:AHeap)(L:Mem)  (o:Has h (L)){out:(List Int)}(H:aw.f m az=some out) :
  ∃r h',aZ Tryd.prog aS cf m 67 [af.fz az] h=some (r,h')∧fA h' r (aa.fz out):=by
 refine aj (fn:=Tryd.f67) ha Tryd.func67 (by kernel_rfl) (by kernel_rfl) ?_
 refine aD (Q:=fun s=>aw.fin L out s) (fun _ _ h=>h) ?_
 have H:_=some out:=H
 unfold aw.f at H
 show de _ cf pq m _ ⟨af.fz az::PF [],[none],h⟩ _
 refine qq ?_
 obtain⟨aA,h0,e0,o0⟩:=ku (cs:=[af.fz az]) o (by kernel_rfl)
 refine qr [.a 0 e0] <| qq ?_
 obtain⟨x0,e1,H⟩:=aJ H
 obtain⟨gH,h1,e2,o1⟩:=nS (P:=Tryd.prog) (E:=aa) (z:=(0:Int)) (zv:=.int .i64 (0:Int)) dA o0 3 rfl rfl rfl rfl e1
 refine qr [.v 0 (show bh Tryd.prog h0 29 (.ptr aA 0)=some (af.fz az) from cm (q:=0) (cs:=[af.fz az]) o0 rfl (by kernel_rfl)),.a 2 e2] <| qq <| qq <| q0 <| qb 0 ?_
 obtain⟨bo,e5,H⟩:=aJ H
 refine ql (aw.bG L az aA x0   (x0,(0:Int)) _ _ ⟨gH,h1,by kernel_rfl,o1⟩ e5) ?_
 rintro e s ⟨rfl,b5,x2,rfl,g0,g1,g2,fy,h4,rfl,o4⟩
 try dsimp only at H
 refine qq ?_
 obtain⟨x3,e6,H⟩:=aJ H
 obtain⟨h5,e7,o5⟩:=Qk _ _ _ e6 h4 _ _ _ (o4) 85 [.ptr aA 0] rfl (fun h' K' o' y0 y1 r hr=>Ql y0 y1 _ r hr h' _ (K'.length+0) _ o' (Kb rfl)) [.rs fy 0 b5.length 1,.fn 85 [.ptr aA 0]] (an (rfl) (an (rfl) (bg)))
 refine qr [.a 2 e7] <| qq ?_
 obtain⟨x4,e8,H⟩:=aJ H
 obtain⟨gZ,h6,e9,o6⟩:=nS (P:=Tryd.prog) (E:=aa) (z:=(0:Int)) (zv:=.int .i64 (0:Int)) dA o5 3 rfl rfl rfl rfl e8
 refine qr [.v 0 (show bh Tryd.prog h5 29 (.ptr aA 0)=some (af.fz az) from cm (q:=1) (cs:=[af.fz az]) o5 rfl (by kernel_rfl)),.a 2 e9] <| qq <| q0 <| qq <| qq <| q0 <| qb 2 ?_
 obtain⟨pf,D6,H⟩:=aJ H
 refine ql (aw.fW L az aA fy b5 fy x3  yY (x4,(0:Int),(0:Int)) _ _ ⟨gZ,h6,(XN (b:=⟨.any :: .ptr aA 0 :: .any :: .rs fy 0 b5.length 1 :: .any :: .rs gZ 0 x4.length 1 :: .int .i64 (0:Int)::nV (.rs fy 0 b5.length 1 :: .int .i64 (b5.length:Int) :: .int .i64 (0:Int)::mX []),[none],h6⟩) (by kernel_rfl) (by simp only [WY])),(by have o:Has h6 ((gZ,.sl x4.length 1 (aa.l x4))::(fy,.sl b5.length 1 (aa.l x3))::(aA,.ob [af.fz az])::L):=o6; simpa only [WY] using o)⟩ D6) ?_
 rintro e s ⟨rfl,jt,many1,x7,rfl,g3,g4,g5,g6,g7,gX,h11,rfl,vE⟩
 try dsimp only at H
 refine qb 4 ?_
 have tK:Has h11 ((gX,.sl jt.length 1 (aa.l jt))::(aA,.ob [af.fz az])::L):=Has.del vE 1
 obtain⟨FN,LI,H⟩:=aJ H
 refine ql (aw.ph L az aA   (jt,many1) _ _ ⟨g3,g4,g5,g6,g7,gX,h11,by kernel_rfl,tK⟩ LI) ?_
 rintro e s (⟨rfl,mC,Nj,rfl,g21,g22,g23,g24,WA,WB,WC,WD,gY,h25,rfl,WE⟩| ⟨rfl,r3,rfl,mw⟩)
 ·try dsimp only at H
  cases H
 ·try dsimp only at H
  obtain rfl:=oi H
  exact⟨.inl rfl,mw⟩
end
end Go.Proofs.YtmekcfdllhphlaaDoor
namespace Go.Proofs.YtmekcfdllhphlaaDoor
open Go Go.R
open Go.IntKind (i64 u64 u8 u32)
def key (out:List Int)(n:ae)(i:Nat):List Int:=(gt out i+1)::((n.args.map fun a=>gt out a.toNat+1)++Xc (8 - n.args.length) 0)
def enum:List (List Int)→Nat→List (List Int × Int)
 | [],_=>[]
 | k::ks,s=>(k,(s:Int))::enum ks (s+1)
theorem mD:∀(ks:List (List Int)) (s:Nat),(enum ks s).length=ks.length
 | [],_=>rfl
 | k::ks,s=>by simp [enum,mD ks]
theorem tR:∀(ks:List (List Int)) (s:Nat) (k:List Int),tg (enum ks s) k=if k∈ks then (((s+ks.idxOf k:Nat):Int),true) else (0,false)
 | [],s,k=>rfl
 | a::ks,s,k=>by
  simp only [enum,tg,tR ks (s+1) k,Xo,List.idxOf_cons]
  by_cases h:k=a
  ·subst h; simp
  ·have h':(a==k)=false:=by simpa using fun z:a=k=>h z.symm
   rw [if_neg h,h']
   by_cases h2:k∈ks
   ·simp only [h2,if_true,or_true,cond_false]
    simp only [W2,and_true]
    omega
   ·simp [h2,h]
theorem y6:∀(ks:List (List Int)) (s:Nat) (k:List Int),k∉ks→AA (enum ks s) k ((s+ks.length:Nat):Int)=enum (ks++[k]) s
 | [],s,k,_=>rfl
 | a::ks,s,k,h=>by
  have h1:k≠a:=fun z=>h (by simp [z])
  have h2:k∉ks:=fun z=>h (by simp [z])
  simp only [enum,AA,Xj,if_neg h1,Xf]
  rw [show s+(ks.length+1)=s+1+ks.length by omega,y6 ks (s+1) k h2]
theorem mW {n:Nat}:∀(ks:List (List Int)) (s:Nat) (k:List Int),k.length=n→(∀a∈ks,a.length=n)→te n (enum ks s) k=true
 | [],s,k,h,_=>by simp [te,enum,h]
 | a::ks,s,k,h,h2=>by
  have:=mW ks (s+1) k h fun a ha=>h2 a (by simp [ha])
  simp only [te,WV,beq_iff_eq,h,true_and] at this ⊢
  simp only [enum,XO,WV,beq_iff_eq]
  exact⟨h2 a (by simp),this⟩
structure Part (n:Nat)(out:List Int)(many:Nat):Prop where
 len:out.length=n
 nB:∀i,i<n→0≤gt out i∧gt out i≤many
 SP:∀v:Nat,v≤many→∃i,i<n∧gt out i=v
structure qv (l:List ae)(out:List Int)(p:Nat)(ks:List (List Int)):Prop where
 Hl:ks.Nodup
 mem:∀k,k∈ks↔∃i,i<p∧key out (nd l i) i=k
def kU (l:List ae):Prop:=l.length≤8000∧∀n∈l,n.args.length≤8∧∀a∈n.args,0≤a∧a<l.length
theorem Ic {a:Int}{L:List Int}{t:Nat}{v:Int}(hL:L.length=t)(ht:t<8):(a::(L++Xc (8 - t) 0)).set (t+1) v=a::((L++[v])++Xc (8 - (t+1)) 0):=by
 rw [List.set_cons_succ,Yl _ _ (by omega),hL,Yo,show 8 - t=(8 - (t+1))+1 by omega,List.replicate_succ,List.set_cons_zero,W7]
 rfl
theorem FU {m:Nat}{out:List Int}{n:ae}(h8:n.args.length≤8)(ha:∀a∈n.args,0≤a∧a<out.length)(ho:∀i,i<out.length→0≤gt out i∧gt out i<2 ^ 40)(o:Int):∀(f t:Nat),n.args.length - t<f→t≤n.args.length→
  ∃x,aw.l4 m out n f (o::(((n.args.take t).map fun a=>gt out a.toNat+1)++Xc (8 - t) 0)) (t:Int)=some (o::((n.args.map fun a=>gt out a.toNat+1)++Xc (8 - n.args.length) 0),x)
 | 0,t,hf,_=>absurd hf (by omega)
 | f+1,t,hf,ht=>by
  have ot:(2:Nat) ^ 40=1099511627776:=by decide
  have i40:(2:Int) ^ 40=1099511627776:=by decide
  unfold aw.l4
  by_cases h:t<n.args.length
  ·have hx:ix n.args (t:Int)=some (gt n.args t):=cE h
   obtain⟨b0,b1⟩:=ha _ (aM h)
   obtain⟨c0,c1⟩:=ho (gt n.args t).toNat (by omega)
   have hy:ix out (gt n.args t)=some (gt out (gt n.args t).toNat):=fZ (by omega) (by omega)
   have e1:i64.wrap ((t:Int)+1)=((t+1:Nat):Int):=by rw [aE (by omega) (by omega)]; omega
   have hT:((n.args.take t).map fun a=>gt out a.toNat+1).length=t:=by simp; omega
   have hz:∃z,ix (o::(((n.args.take t).map fun a=>gt out a.toNat+1)++Xc (8 - t) 0)) ((t+1:Nat):Int)=some z:=⟨_,cE (by simp; omega)⟩
   obtain⟨z,hz⟩:=hz
   obtain⟨x,ih⟩:=FU (m:=m) h8 ha ho o f (t+1) (by omega) (by omega)
   have hT1:n.args.take (t+1)=n.args.take t++[gt n.args t]:=by rw [XU,bp h]; rfl
   rw [hT1,Xm] at ih
   rw [if_pos (by simp only [decide_eq_true_eq]; omega),hx,WQ,hy,WQ,e1,hz,WQ,WX,aE (x:=gt out (gt n.args t).toNat+1) (by omega) (by omega),Ic hT (by omega)]
   exact⟨x,ih⟩
  ·have:t=n.args.length:=by omega
   subst this
   exact⟨_,by rw [if_neg (by simp),XX]⟩
theorem tS {out:List Int}{n:ae}{i:Nat}(h8:n.args.length≤8):(key out n i).length=9:=by simp [key]; omega
theorem y7 {l:List ae}(ok:kU l){i:Nat}(h:i<l.length):(nd l i).args.length≤8∧∀a∈(nd l i).args,0≤a∧a<l.length:=ok.2 _ (fu (by omega) (by omega))
theorem AO {m:Nat}(hm:2 ^ 30≤m){l:List ae}{out:List Int}{many:Nat}(ok:kU l)(P:Part l.length out many)(Jd:many<2 ^ 30):∀(f p:Nat) (ks:List (List Int)) (next:List Int),l.length - p<f→p≤l.length→qv l out p ks→next.length=l.length→
  (∀i,i<p→gt next i=(ks.idxOf (key out (nd l i) i):Int))→
  ∃Qm next' x,aw.l3 m l out f (enum ks 0) next (p:Int)=some (enum Qm 0,next',x)∧qv l out l.length Qm∧next'.length=l.length∧∀i,i<l.length→gt next' i=(Qm.idxOf (key out (nd l i) i):Int)
 | 0,p,ks,next,hf,_,_,_,_=>absurd hf (by omega)
 | f+1,p,ks,next,hf,hp,K,hn,hg=>by
  have nb:(2:Nat) ^ 30=1073741824:=by decide
  have ot:(2:Nat) ^ 40=1099511627776:=by decide
  have i40:(2:Int) ^ 40=1099511627776:=by decide
  have h8000:=ok.1
  have HA:=P.len
  unfold aw.l3
  by_cases h:p<l.length
  ·obtain⟨n1,n2⟩:=y7 ok h
   obtain⟨r0,r1⟩:=P.nB p h
   have e1:i64.wrap ((p:Int)+1)=((p+1:Nat):Int):=by rw [aE (by omega) (by omega)]; omega
   obtain⟨x,hk⟩:=FU (m:=m) (out:=out) (n:=nd l p) n1 (by rw [HA]; exact n2) (fun i hi=>by have:=P.nB i (by omega); omega) (gt out p+1) m 0 (by omega) (by omega)
   have hk:aw.l4 m out (nd l p) m [gt out p+1,0,0,0,0,0,0,0,0] 0=some (key out (nd l p) p,x):=hk
   have Ot:=tS (out:=out) (i:=p) n1
   have Ai:∀a∈ks,a.length=9:=fun a ha=>by
    obtain⟨i,hi,rfl⟩:=(K.mem a).1 ha
    exact tS (y7 ok (by omega)).1
   have KI:∃z,ix next (p:Int)=some z:=⟨_,cE (by omega)⟩
   obtain⟨z,hz⟩:=KI
   rw [if_pos (by simp only [decide_eq_true_eq]; omega),hZ (by omega) (by omega),WQ,cE (by omega),WQ,aE (x:=gt out p+1) (by omega) (by omega),hk,WQ]
   dsimp only
   have hG:HT 9 (enum ks 0) (key out (nd l p) p)=some (if key out (nd l p) p∈ks then (((ks.idxOf (key out (nd l p) p):Nat):Int),true) else (0,false)):=by
    unfold HT; rw [if_pos (mW _ _ _ Ot Ai),tR,Xh]
   rw [hG,WQ,e1,hz]
   by_cases hin:key out (nd l p) p∈ks
   ·rw [if_pos hin,if_neg (by simp),WQ,WQ,WX]
    refine AO hm ok P Jd f (p+1) ks _ (by omega) (by omega) ⟨K.Hl,fun k=>⟨fun hk=>?_,fun ⟨i,hi,pY⟩=>?_⟩⟩ (by simpa using hn) (fun i hi=>?_)
    ·obtain⟨i,hi,h⟩:=(K.mem k).1 hk; exact⟨i,by omega,h⟩
    ·by_cases Ie:i=p
     ·subst Ie; rw [←pY]; exact hin
     ·exact (K.mem k).2 ⟨i,by omega,pY⟩
    ·rw [eC (by omega)]
     by_cases Ie:i=p
     ·subst Ie; rw [if_pos rfl]
     ·rw [if_neg Ie]; exact hg i (by omega)
   ·have hS:MD 9 (enum ks 0) (key out (nd l p) p) (((enum ks 0).length:Nat):Int)=some (enum (ks++[key out (nd l p) p]) 0):=by
     unfold MD; rw [if_pos (mW _ _ _ Ot Ai),mD]
     have:=y6 ks 0 _ hin
     rw [Xh] at this
     rw [this]
    have hid:(ks++[key out (nd l p) p]).idxOf (key out (nd l p) p)=ks.length:=by
     rw [X3,if_neg hin,List.idxOf_cons_self,Xh]
    have U4:HT 9 (enum (ks++[key out (nd l p) p]) 0) (key out (nd l p) p)=some (((ks.length:Nat):Int),true):=by
     unfold HT
     rw [if_pos (mW _ _ _ Ot (fun a ha=>by rcases W8.1 ha with ha | ha; exact Ai a ha; simp only [W4] at ha; rw [ha]; exact Ot)),tR,if_pos (by simp),Xh,hid]
    rw [if_neg hin,if_pos (by simp),hS,WQ,U4,WQ,WQ,WX]
    refine AO hm ok P Jd f (p+1) (ks++[key out (nd l p) p]) _ (by omega) (by omega) ⟨?_,fun k=>⟨fun hk=>?_,fun ⟨i,hi,pY⟩=>?_⟩⟩ (by simpa using hn) (fun i hi=>?_)
    ·rw [X4]
     refine⟨K.Hl,by simp,fun a ha b hb=>?_⟩
     simp only [W4] at hb
     subst hb; intro e; subst e; exact hin ha
    ·rcases W8.1 hk with hk | hk
     ·obtain⟨i,hi,h⟩:=(K.mem k).1 hk; exact⟨i,by omega,h⟩
     ·simp only [W4] at hk; exact⟨p,by omega,hk.symm⟩
    ·by_cases Ie:i=p
     ·subst Ie; rw [←pY]; simp
     ·exact XA _ ((K.mem k).2 ⟨i,by omega,pY⟩)
    ·rw [eC (by omega)]
     by_cases Ie:i=p
     ·subst Ie; rw [if_pos rfl,hid]
     ·rw [if_neg Ie,X3,if_pos ((K.mem _).2 ⟨i,by omega,rfl⟩)]; exact hg i (by omega)
  ·have:p=l.length:=by omega
   subst this
   exact⟨ks,next,_,by rw [if_neg (by simp)],K,hn,hg⟩
theorem If {l:List ae}{out:List Int}{ks:List (List Int)}(K:qv l out l.length ks):ks.length≤l.length:=by
 have:=K.Hl.length_le_of_subset (l₂:=(List.range l.length).map fun i:Nat=>key out (nd l i) i) (fun k hk=>by
  obtain⟨i,hi,h⟩:=(K.mem k).1 hk
  exact Xd.2 ⟨i,List.mem_range.2 hi,h⟩)
 simpa using this
theorem Cc {l:List ae}{out:List Int}{many:Nat}{ks:List (List Int)}(P:Part l.length out many)(K:qv l out l.length ks):many+1≤ks.length:=by
 have hn:((List.range (many+1)).map fun v:Nat=>((v:Int)+1)).Nodup:=by
  unfold List.Nodup
  rw [List.pairwise_map]
  exact List.Pairwise.imp (fun h=>by omega) List.nodup_range
 have:=hn.length_le_of_subset (l₂:=ks.map fun k=>k.headD 0) (fun x hx=>by
  obtain⟨v,hv,rfl⟩:=Xd.1 hx
  obtain⟨i,hi,h⟩:=P.SP v (by have:=List.mem_range.1 hv; omega)
  exact Xd.2 ⟨_,(K.mem _).2 ⟨i,hi,rfl⟩,by simp [key,h]⟩)
 simpa using this
theorem DI {l:List ae}{out next:List Int}{many:Nat}{ks:List (List Int)}(P:Part l.length out many)(K:qv l out l.length ks)(hn:next.length=l.length)(hg:∀i,i<l.length→gt next i=(ks.idxOf (key out (nd l i) i):Int)):Part l.length next (ks.length - 1):=by
 have:=Cc P K
 refine⟨hn,fun i hi=>?_,fun v hv=>?_⟩
 ·have:=XS ((K.mem _).2 ⟨i,hi,rfl⟩)
  rw [hg i hi]; omega
 ·have hv:v<ks.length:=by omega
  obtain⟨i,hi,h⟩:=(K.mem _).1 (XM hv)
  refine⟨i,hi,?_⟩
  rw [hg i hi,h,K.Hl.idxOf_getElem]
theorem FV {m:Nat}(hm:2 ^ 30≤m){l:List ae}(ok:kU l)(Inv:List Int→Prop)
  (hI:∀out many ks next,Part l.length out many→Inv out→qv l out l.length ks→next.length=l.length→(∀i,i<l.length→gt next i=(ks.idxOf (key out (nd l i) i):Int))→Inv next):∀(f:Nat) (out:List Int) (many:Nat),l.length - many<f→many<l.length→Part l.length out many→Inv out→
  ∃r Je ks,aw.l2 m l f out (many:Int)=some (.inl r)∧Part l.length r Je∧Inv r∧qv l r l.length ks∧ks.length=Je+1
 | 0,out,many,hf,_,_,_=>absurd hf (by omega)
 | f+1,out,many,hf,hlt,P,I=>by
  have nb:(2:Nat) ^ 30=1073741824:=by decide
  have h8000:=ok.1
  unfold aw.l2
  have e0:uM 8 (l.length:Int) (0:Int)=some (Xc l.length 0):=by unfold uM; rw [if_pos ⟨by omega,by rw [WX]; omega⟩,WX]
  obtain⟨ks,next,x,h1,K,hn,hg⟩:=AO hm ok P (by omega) m 0 [] (Xc l.length 0) (by omega) (by omega) ⟨by simp,fun k=>⟨fun h=>by simp at h,fun ⟨i,hi,_⟩=>absurd hi (by omega)⟩⟩ (by simp) (fun i hi=>absurd hi (by omega))
  have h1:aw.l3 m l out m [] (Xc l.length 0) 0=_:=h1
  have g1:=If K
  have g2:=Cc P K
  rw [e0,WQ,h1,WQ]
  dsimp only
  rw [mD,aE (x:=(many:Int)+1) (by omega) (by omega),aE (x:=(ks.length:Int) - 1) (by omega) (by omega)]
  by_cases h:ks.length=many+1
  ·rw [if_pos (by simp; omega)]
   exact⟨out,many,ks,rfl,P,I,K,h⟩
  ·rw [if_neg (by simp; omega),show (ks.length:Int) - 1=((ks.length - 1:Nat):Int) by omega]
   exact FV hm ok Inv hI f next (ks.length - 1) (by omega) (by omega) (DI P K hn hg) (hI _ _ _ _ P I K hn hg)
end Go.Proofs.YtmekcfdllhphlaaDoor
namespace Go.Proofs.YtmekcfdllhphlaaDoor
open Go Go.R
open Go.IntKind (i64 u64 u8 u32)
def ints (n:Nat):List Int:=(List.range n).map fun k:Nat=>(k:Int)
theorem dM (n:Nat):(ints n).length=n:=by simp [ints]
theorem Ig {n k:Nat}(h:k<n):gt (ints n) k=k:=by
 have h1:=bp (l:=ints n) (k:=k) (by rw [dM]; exact h)
 have h2:(ints n)[k]? = some (k:Int):=by
  unfold ints
  rw [Xq,W5 (by simpa using h)]
  simp
 rw [h2] at h1; exact (Xn h1).symm
theorem iM {n:Nat}{x:Int}:x∈ints n↔0≤x∧x<n:=by
 unfold ints
 rw [Xd]
 constructor
 ·rintro⟨k,hk,rfl⟩; have:=List.mem_range.1 hk; omega
 ·intro h; exact⟨x.toNat,List.mem_range.2 (by omega),by omega⟩
theorem AP (n:Nat):(ints n).Nodup:=by
 unfold ints List.Nodup
 rw [List.pairwise_map]
 exact List.Pairwise.imp (fun h=>by omega) List.nodup_range
theorem tT {l:List Int}(h:l.Nodup){i j:Nat}(hi:i<l.length)(hj:j<l.length)(e:gt l i=gt l j):i=j:=by
 have h1:=bp hi
 have h2:=bp hj
 rw [W5 hi] at h1
 rw [W5 hj] at h2
 have h1:=Xn h1
 have h2:=Xn h2
 exact (List.getElem_inj (h₀:=hi) (h₁:=hj) h).1 (by rw [h1,h2,e])
theorem eU {l:List Int}{x:Int}(h:x∈l):∃k,k<l.length∧gt l k=x:=by
 obtain⟨k,hk,e⟩:=List.getElem_of_mem h
 refine⟨k,hk,?_⟩
 have h1:=bp hk
 rw [W5 hk,e] at h1
 exact (Xn h1).symm
theorem FW {m:Nat}{z:List Int}(hz:z.length<2 ^ 40):∀(f i:Nat) (d:List Int),z.length - i<f→i≤z.length→d.length=z.length→(∀k,k<i→gt d k=k)→
  ∃x,aw.l0 m z f d (i:Int)=some (ints z.length,x)
 | 0,i,d,hf,_,_,_=>absurd hf (by omega)
 | f+1,i,d,hf,hi,hd,hg=>by
  have ot:(2:Nat) ^ 40=1099511627776:=by decide
  unfold aw.l0
  by_cases h:i<z.length
  ·obtain⟨v,hv⟩:∃v,ix d (i:Int)=some v:=⟨_,cE (by omega)⟩
   rw [if_pos (by simp only [decide_eq_true_eq]; omega),hv,WQ,WX,aE (by omega) (by omega),show (i:Int)+1=((i+1:Nat):Int) by omega]
   refine FW hz f (i+1) _ (by omega) (by omega) (by simpa using hd) fun k hk=>?_
   rw [eC (by omega)]
   by_cases e:k=i
   ·subst e; rw [if_pos rfl]
   ·rw [if_neg e]; exact hg k (by omega)
  ·refine⟨i,?_⟩
   rw [if_neg (by simp only [decide_eq_true_eq]; omega)]
   have:d=ints z.length:=Fm (by rw [dM,hd]) fun k hk=>by rw [hg k (by omega),Ig (by omega)]
   rw [this]
def rk (l:List ae)(d:List Int):Nat→Nat
 | 0=>0
 | k+1=>rk l d k+if cT (nd l (gt d k)) (nd l (gt d (k+1)))=0 then 0 else 1
theorem FX (l:List ae)(d:List Int):∀k,rk l d k≤k
 | 0=>WU _
 | k+1=>by have:=FX l d k; unfold rk; split<;>omega
theorem xl (l:List ae)(d:List Int)(i:Nat):∀j,i≤j→rk l d i≤rk l d j
 | 0,h=>by
   have:i=0:=by omega
   subst this; exact WU _
 | j+1,h=>by
  by_cases e:i=j+1
  ·subst e; exact WU _
  ·have:=xl l d i j (by omega)
   show _≤rk l d j+_
   omega
theorem FY (l:List ae)(d:List Int):∀(j v:Nat),v≤rk l d j→∃k,k≤j∧rk l d k=v
 | 0,v,h=>⟨0,WU _,by unfold rk at h ⊢; omega⟩
 | j+1,v,h=>by
  by_cases e:v=rk l d (j+1)
  ·exact⟨j+1,WU _,e.symm⟩
  ·have h2:rk l d (j+1)≤rk l d j+1:=by show rk l d j+_≤_; split<;>omega
   obtain⟨k,hk,e⟩:=FY l d j v (by omega)
   exact⟨k,by omega,e⟩
theorem FZ {m:Nat}(hm:3≤m){l:List ae}{o d:List Int}(hl:l.length≤8000)(ho:o.length=l.length)(hp:d.Perm (ints l.length)):∀(f p:Nat) (out:List Int),l.length - p<f→p≤l.length→out.length=l.length→(∀k,k<p→gt out (gt d k).toNat=rk l d k)→
  ∃KJ x,aw.l1 m l o d f out ((rk l d (p - 1):Nat):Int) (p:Int)=some (KJ,((rk l d (l.length - 1):Nat):Int),x)∧KJ.length=l.length∧∀k,k<l.length→gt KJ (gt d k).toNat=rk l d k
 | 0,p,out,hf,_,_,_=>absurd hf (by omega)
 | f+1,p,out,hf,Ae,Nr,hg=>by
  have PM:d.length=l.length:=by rw [hp.length_eq,dM]
  have hd:∀k,k<l.length→0≤gt d k∧gt d k<l.length:=fun k hk=>iM.1 (hp.mem_iff.1 (aM (by omega)))
  have AQ:d.Nodup:=hp.symm.nodup (AP _)
  unfold aw.l1
  by_cases h:p<l.length
  ·obtain⟨d0,d1⟩:=hd p h
   have Al:∀k,k<p+1→gt (out.set (gt d p).toNat ((rk l d p:Nat):Int)) (gt d k).toNat=rk l d k:=fun k hk=>by
    rw [eC (by omega)]
    by_cases e:k=p
    ·subst e; rw [if_pos rfl]
    ·have:gt d k≠gt d p:=fun h=>e (tT AQ (by omega) (by omega) h)
     have:=hd k (by omega)
     rw [if_neg (by omega)]; exact hg k (by omega)
   obtain⟨z,hz⟩:∃z,ix out (gt d p)=some z:=⟨_,fZ (k:=(gt d p).toNat) (by omega) (by omega)⟩
   have e1:i64.wrap ((p:Int)+1)=((p+1:Nat):Int):=by rw [aE (by omega) (by omega)]; omega
   have hr:=FX l d p
   have IH:=FZ hm hl ho hp f (p+1) (out.set (gt d p).toNat ((rk l d p:Nat):Int)) (by omega) (by omega) (by simpa using Nr) Al
   rw [show p+1 - 1=p by omega] at IH
   rw [if_pos (by simp only [decide_eq_true_eq]; omega),cE (by omega),WQ]
   by_cases h0:0<p
   ·obtain⟨q,rfl⟩:∃q,p=q+1:=⟨p - 1,by omega⟩
    obtain⟨q0,q1⟩:=hd q (by omega)
    rw [show q+1 - 1=q by omega]
    have e2:i64.wrap (((q+1:Nat):Int) - 1)=(q:Int):=by rw [aE (by omega) (by omega)]; omega
    rw [if_pos (by simp only [decide_eq_true_eq]; omega),e2,cE (by omega),WQ,hZ q0 q1,WQ,hZ d0 d1,WQ,xj hm,WQ,hz,e1]
    by_cases hc:cT (nd l (gt d q)) (nd l (gt d (q+1)))=0
    ·have Qn:rk l d (q+1)=rk l d q:=by show rk l d q+_=_; rw [if_pos hc]; omega
     rw [if_neg (by simp [hc]),WQ]
     rw [Qn] at IH; exact IH
    ·have Qn:rk l d (q+1)=rk l d q+1:=by show rk l d q+_=_; rw [if_neg hc]
     rw [if_pos (by simpa using hc),WQ,aE (by omega) (by omega)]
     rw [Qn] at IH; exact IH
   ·have:p=0:=by omega
    subst this
    rw [if_neg (by simp),hz,WQ,e1]
    exact IH
  ·have:p=l.length:=by omega
   subst this
   exact⟨out,_,by rw [if_neg (by simp only [decide_eq_true_eq]; omega)],Nr,hg⟩
theorem Ih {m:Nat}(hm:3≤m)(l:List ae):Cm (fun y0 y1=>dt.f m y0 y1 l) (fun x y=>cT (nd l x) (nd l y)) (ints l.length):=fun x hx y hy=>by
 have hx:=iM.1 hx
 have hy:=iM.1 hy
 exact FM hm hx.1 hx.2 hy.1 hy.2
theorem xm {m:Nat}(hm:2 ^ 41≤m){l:List ae}(ok:kU l)(h1:1≤l.length)(Inv:List Int→Prop)
  (hI0:∀d out,d.Perm (ints l.length)→(Ord (fun x y=>cT (nd l x) (nd l y)) (ints l.length)→Sg (fun x y=>cT (nd l x) (nd l y)) d 0 l.length)→(∀k,k<l.length→gt out (gt d k).toNat=rk l d k)→Inv out)
  (hI:∀out many ks next,Part l.length out many→Inv out→qv l out l.length ks→next.length=l.length→(∀i,i<l.length→gt next i=(ks.idxOf (key out (nd l i) i):Int))→Inv next) :
  ∃r many ks,aw.f m l=some r∧Part l.length r many∧Inv r∧qv l r l.length ks∧ks.length=many+1:=by
 have ot:(2:Nat) ^ 40=1099511627776:=by decide
 have rD:(2:Nat) ^ 41=2199023255552:=by decide
 have nb:(2:Nat) ^ 30=1073741824:=by decide
 have h8000:=ok.1
 have e0:uM 8 (l.length:Int) (0:Int)=some (Xc l.length 0):=by unfold uM; rw [if_pos ⟨by omega,by rw [WX]; omega⟩,WX]
 unfold aw.f
 obtain⟨x,k1⟩:=FW (m:=m) (z:=Xc l.length 0) (by simp; omega) m 0 (Xc l.length 0) (by simp; omega) (by omega) rfl (fun k hk=>absurd hk (by omega))
 have k1:aw.l0 m (Xc l.length 0) m (Xc l.length 0) 0=_:=k1
 rw [List.length_replicate] at k1
 rw [e0,WQ,k1,WQ]
 dsimp only
 obtain⟨d,k2,hp,hs⟩:=DG hm (l:=ints l.length) (by rw [dM]; omega) (Ih (m:=m) (by omega) l)
 rw [k2,WQ,WQ]
 obtain⟨out,x,k3,ho,hg⟩:=FZ (m:=m) (l:=l) (o:=ints l.length) (d:=d) (by omega) h8000 (dM _) hp m 0 (Xc l.length 0) (by omega) (by omega) (by simp) (fun k hk=>absurd hk (by omega))
 have k3:aw.l1 m l (ints l.length) d m (Xc l.length 0) 0 0=_:=k3
 rw [k3,WQ]
 dsimp only
 rw [dM] at hs
 have PM:d.length=l.length:=by rw [hp.length_eq,dM]
 have hP:Part l.length out (rk l d (l.length - 1)):=by
  refine⟨ho,fun i hi=>?_,fun v hv=>?_⟩
  ·obtain⟨k,hk,e⟩:=eU (hp.mem_iff.2 (iM.2 (show 0≤(i:Int)∧(i:Int)<l.length by omega)))
   have:=hg k (by omega)
   rw [e,WX] at this
   have h2:=xl l d k (l.length - 1) (by omega)
   omega
  ·obtain⟨k,hk,e⟩:=FY l d _ v hv
   have Hu:k<l.length:=by omega
   have:=iM.1 (hp.mem_iff.1 (aM (l:=d) (k:=k) (by omega)))
   exact⟨(gt d k).toNat,by omega,by rw [hg k Hu,e]⟩
 have Ns:=FX l d (l.length - 1)
 obtain⟨r,many,ks,k4,P,I,K,Ai⟩:=FV (m:=m) (by omega) ok Inv hI m out (rk l d (l.length - 1)) (by omega) (by omega) hP (hI0 d out hp hs hg)
 rw [k4]
 exact⟨r,many,ks,rfl,P,I,K,Ai⟩
end Go.Proofs.YtmekcfdllhphlaaDoor
namespace Go.Proofs.YtmekcfdllhphlaaDoor
open Go Go.R
open Go.IntKind (i64 u64 u8 u32)
def y8:cd:=gh [0,1,2,3,4,5,7,8,9,10,11,12,14,24,53,54,55,56] [11] [262080,261696,253760,262079,261568,261574,260567,260567,258519,144855,13783,140759,144855,144855,261631,262079] [(14,[(12,none,0)])] [(8,[(12,none,1)])]
def aU.l0 (m:Nat)(x1:List Int)(x3:au)(rec:Int→(List (Int × Int))→(List Int)→au→au→Option (Int × (List (Int × Int)) × au))(v2:ae):Nat→(List Int)→Int→(List (Int × Int))→au→Option ((List Int) × Int × (List (Int × Int)) × au)
 | 0,_,_,_,_=>none
 | k+1,eD,x6,x7,x8=>if (decide (x6<(v2.args.length:Int)))=true then ((ix v2.args x6).bind fun v3=>(rec v3 x7 x1 x8 x3).bind fun x9=>(app 8 eD ([x9.1])).bind fun mB=>aU.l0 m x1 x3 rec v2 k mB (i64.wrap (x6+(1:Int))) x9.2.1 x9.2.2) else (some ((eD,x6,x7,x8)))
def aU.b (m:Nat)(rec:Int→(List (Int × Int))→(List Int)→au→au→Option (Int × (List (Int × Int)) × au))(i0:Int)(x0:List (Int × Int))(x1:List Int)(x2:au)(x3:au):Option (Int × (List (Int × Int)) × au):=(ix x1 i0).bind fun v0=>if ((yH x0 v0).2)=true then (some ((yH x0 v0).1,x0,x2)) else ((ix x1 i0).bind fun v1=>(ix x3.nodes i0).bind fun v2=>(app 56 x2.nodes ([(ae.mk v2.kind v2.int v2.label ([]))])).bind fun x5=>(aU.l0 m x1 x3 rec v2 m ([]:List Int) (0:Int) (E1 x0 v1 (x2.nodes.length:Int)) (au.mk x5 x2.root)).bind fun bo=>match bo with | (mE,Hi,H9,AR)=>(ix AR.nodes (x2.nodes.length:Int)).bind fun v4=>some ((x2.nodes.length:Int),H9,(au.mk (AR.nodes.set (x2.nodes.length:Int).toNat (ae.mk v4.kind v4.int v4.label mE)) AR.root)))
def aU.f (m:Nat):Nat→Int→(List (Int × Int))→(List Int)→au→au→Option (Int × (List (Int × Int)) × au)
 | 0,_,_,_,_,_=>none
 | k+1,i0,x0,x1,x2,x3=>aU.b m (aU.f m k) i0 x0 x1 x2 x3
def aU.fin (L:Mem)(bR:Nat)(eF:Nat)(dQ:Nat)(dB:Nat)(eO:Nat)(dY:Nat)(dN:Nat)(i0:Int)(x0:List (Int × Int))(x1:List Int)(x2:au)(x3:au)(r:Int × (List (Int × Int)) × au)(s:St):Prop:=∃lI:Nat,aI Tryd.prog (s.open y8) Tryd.f68.results.toList=some (.int .i64 r.1)∧Has s.h ((bR,.ob [.mp eF])::(eF,.mp (th r.2.1))::(dQ,.ob [aa.fz x1])::(dB,.ob [.rs lI 0 r.2.2.nodes.length 4,.int .i64 r.2.2.root])::(lI,.sl r.2.2.nodes.length 4 (af.l r.2.2.nodes))::(dY,.ob [af.fz x3.nodes,.int .i64 x3.root])::(dN,.ob [.fn 68 [.ptr bR 0,.ptr dQ 0,.ptr dB 0,.ptr dY 0,.ptr dN 0]])::L)
def Ou (cf:CallF)(m:Nat)(kk:Nat):Prop:=∀(i0:Int) (x0:List (Int × Int)) (x1:List Int) (x2:au) (x3:au) (r:Int × (List (Int × Int)) × au),aU.f m kk i0 x0 x1 x2 x3=some r→∀h L (bR:Nat) (eF:Nat) (dQ:Nat) (dB:Nat) (eO:Nat) (dY:Nat) (dN:Nat),Has h ((bR,.ob [.mp eF])::(eF,.mp (th x0))::(dQ,.ob [aa.fz x1])::(dB,.ob [.rs eO 0 x2.nodes.length 4,.int .i64 x2.root])::(eO,.sl x2.nodes.length 4 (af.l x2.nodes))::(dY,.ob [af.fz x3.nodes,.int .i64 x3.root])::(dN,.ob [.fn 68 [.ptr bR 0,.ptr dQ 0,.ptr dB 0,.ptr dY 0,.ptr dN 0]])::L)→∀xs,xs.map ay=[.int .i64 i0,.ptr bR 0,.ptr dQ 0,.ptr dB 0,.ptr dY 0,.ptr dN 0]→∃lI h',cf 68 xs h=some (.int .i64 r.1,h')∧Has h' ((bR,.ob [.mp eF])::(eF,.mp (th r.2.1))::(dQ,.ob [aa.fz x1])::(dB,.ob [.rs lI 0 r.2.2.nodes.length 4,.int .i64 r.2.2.root])::(lI,.sl r.2.2.nodes.length 4 (af.l r.2.2.nodes))::(dY,.ob [af.fz x3.nodes,.int .i64 x3.root])::(dN,.ob [.fn 68 [.ptr bR 0,.ptr dQ 0,.ptr dB 0,.ptr dY 0,.ptr dN 0]])::L)
section
variable {cf:CallF}{m:Nat}
theorem aU.bG (L:Mem)(bR:Nat)(eF:Nat)(dQ:Nat)(dB:Nat)(eO:Nat)(dY:Nat)(dN:Nat)(i0:Int)(x0:List (Int × Int))(x1:List Int)(x2:au)(x3:au)(v2:ae)  {kk:Nat}(F0:Ou cf m kk)  : bI Tryd.prog cf y8 m (sub [1,1,1,1,1,1,1,0,1,0,0] (codeOf Tryd.f68)) (fun k (σ:(List Int) × Int × (List (Int × Int)) × au)=>aU.l0 m x1 x3 (aU.f m kk) v2 k σ.1 σ.2.1 σ.2.2.1 σ.2.2.2) (fun σ s=>match σ with | (eD,x6,x7,x8)=>∃gH di h3,s=⟨kz (.ptr dB 0 :: .any :: .ptr dN 0::kz [.int .i64 (x2.nodes.length:Int),.any,.rs gH 0 eD.length 1,.any,.any,aa.fz v2.args,.int .i64 (v2.args.length:Int),.int .i64 x6,.any]),[none],h3⟩∧Has h3 ((gH,.sl eD.length 1 (aa.l eD))::(bR,.ob [.mp eF])::(eF,.mp (th x7))::(dQ,.ob [aa.fz x1])::(dB,.ob [.rs di 0 x8.nodes.length 4,.int .i64 x8.root])::(di,.sl x8.nodes.length 4 (af.l x8.nodes))::(dY,.ob [af.fz x3.nodes,.int .i64 x3.root])::(dN,.ob [.fn 68 [.ptr bR 0,.ptr dQ 0,.ptr dB 0,.ptr dY 0,.ptr dN 0]])::L)) (fun out e s=>(e = .exit 0∧∃eD x6 x7 x8,(eD,x6,x7,x8)=out∧∃y5 F3 F4 F5 KK gH di h3,s=⟨kz (.ptr dB 0 :: .any::y5::kz [.int .i64 (x2.nodes.length:Int),.any,.rs gH 0 eD.length 1,.any,.any,F3,F4,F5,KK]),[none],h3⟩∧Has h3 ((gH,.sl eD.length 1 (aa.l eD))::(bR,.ob [.mp eF])::(eF,.mp (th x7))::(dQ,.ob [aa.fz x1])::(dB,.ob [.rs di 0 x8.nodes.length 4,.int .i64 x8.root])::(di,.sl x8.nodes.length 4 (af.l x8.nodes))::(dY,.ob [af.fz x3.nodes,.int .i64 x3.root])::(dN,.ob [.fn 68 [.ptr bR 0,.ptr dQ 0,.ptr dB 0,.ptr dY 0,.ptr dN 0]])::L))):=by
 refine hX (fun _=>rfl) ?_
 rintro k ⟨eD,x6,x7,x8⟩ s out ⟨gH,di,h3,rfl,o4⟩ H
 have H:aU.l0 m x1 x3 (aU.f m kk) v2 (k+1) eD x6 x7 x8=some out:=H
 refine q1 <| qq <| qc H (fun c1 H=>?_) (fun c1 H=>?_)
 ·refine qk <| qq <| qb 1 <| qq ?_
  obtain⟨v3,e7,H⟩:=aJ H
  refine qr [.v 0 (bD (k:=.i64) (E:=aa) (l:=v2.args) dA e7),.v 1 (dd  (E:=aa) (l:=v2.args) h3 A3 e7 rfl)] ?_
  obtain⟨x9,e8,H⟩:=aJ H
  obtain⟨fy,h4,e9,o5⟩:=F0 _ _ _ _ _ _ e8 h3 _ _ _ _ _ _ _ _ ((Has.front (Has.front (Has.front (Has.front (Has.front (Has.front (Has.front (Has.front o4 0 rfl) 7 rfl) 7 rfl) 7 rfl) 7 rfl) 7 rfl) 7 rfl) 7 rfl))  [.int .i64 v3,.ptr bR 0,.ptr dQ 0,.ptr dB 0,.ptr dY 0,.ptr dN 0] (an (aO (bC)) (an (rfl) (an (rfl) (an (rfl) (an (rfl) (an (rfl) (bg)))))))
  obtain⟨mB,pe,H⟩:=aJ H
  obtain⟨gZ,h5,sj,o6⟩:=fY (P:=Tryd.prog) (E:=aa) (l:=eD) (q:=7) (t2:=42) (x:=.fz [.int .i64 x9.1] 1 true) (l2:=([x9.1])) dA o5 rfl (by kernel_rfl) rfl pe
  exact qr [.v 1 (show bh Tryd.prog h3 99 (.ptr dN 0)=some (.fn 68 [.ptr bR 0,.ptr dQ 0,.ptr dB 0,.ptr dY 0,.ptr dN 0]) from cm (q:=7) (cs:=[.fn 68 [.ptr bR 0,.ptr dQ 0,.ptr dB 0,.ptr dY 0,.ptr dN 0]]) o4 rfl (by kernel_rfl)),.a 3 e9,.a 5 sj] <| q0 <| ⟨(mB,i64.wrap (x6+(1:Int)),x9.2.1,x9.2.2),⟨gZ,fy,h5,by kernel_rfl,(Has.front (Has.front (Has.front (Has.front (Has.front (Has.front (Has.front (Has.front o6 6 rfl) 6 rfl) 6 rfl) 6 rfl) 6 rfl) 6 rfl) 6 rfl) 7 rfl)⟩,H⟩
 ·exact qx 0 <| ⟨rfl,eD,x6,x7,x8,oi H,.ptr dN 0,aa.fz v2.args,.int .i64 (v2.args.length:Int),.int .i64 x6,.bool (decide (x6<(v2.args.length:Int))),gH,di,h3,by kernel_rfl,o4⟩
theorem pv {aS:FuncId→cd}(ha:aS 68=y8)  (i0:Int)(x0:List (Int × Int))(x1:List Int)(x2:au)(x3:au)(h:AHeap)(L:Mem)(bR:Nat)(eF:Nat)(dQ:Nat)(dB:Nat)(eO:Nat)(dY:Nat)(dN:Nat)  {kk:Nat}(F0:Ou cf m kk)(o:Has h ((bR,.ob [.mp eF])::(eF,.mp (th x0))::(dQ,.ob [aa.fz x1])::(dB,.ob [.rs eO 0 x2.nodes.length 4,.int .i64 x2.root])::(eO,.sl x2.nodes.length 4 (af.l x2.nodes))::(dY,.ob [af.fz x3.nodes,.int .i64 x3.root])::(dN,.ob [.fn 68 [.ptr bR 0,.ptr dQ 0,.ptr dB 0,.ptr dY 0,.ptr dN 0]])::L)){out:Int × (List (Int × Int)) × au}(H:aU.f m (kk+1) i0 x0 x1 x2 x3=some out) :
  ∃r h',aZ Tryd.prog aS cf m 68 [.int .i64 i0,.ptr bR 0,.ptr dQ 0,.ptr dB 0,.ptr dY 0,.ptr dN 0] h=some (r,h')∧∃lI:Nat,r = .int .i64 out.1∧Has h' ((bR,.ob [.mp eF])::(eF,.mp (th out.2.1))::(dQ,.ob [aa.fz x1])::(dB,.ob [.rs lI 0 out.2.2.nodes.length 4,.int .i64 out.2.2.root])::(lI,.sl out.2.2.nodes.length 4 (af.l out.2.2.nodes))::(dY,.ob [af.fz x3.nodes,.int .i64 x3.root])::(dN,.ob [.fn 68 [.ptr bR 0,.ptr dQ 0,.ptr dB 0,.ptr dY 0,.ptr dN 0]])::L):=by
 refine aj (fn:=Tryd.f68) ha Tryd.func68 (by kernel_rfl) (by kernel_rfl) ?_
 refine aD (Q:=fun s=>aU.fin L bR eF dQ dB eO dY dN i0 x0 x1 x2 x3 out s) (fun _ _ ⟨h1,lI,h2,h3⟩=>⟨h1,_,h2,lI,rfl,h3⟩) ?_
 have H:aU.b m (aU.f m kk) i0 x0 x1 x2 x3=some out:=H
 unfold aU.b at H
 show de _ cf y8 m _ ⟨.int .i64 i0 :: .ptr bR 0 :: .ptr dQ 0 :: .ptr dB 0 :: .ptr dY 0 :: .ptr dN 0::mX [],[none],h⟩ _
 refine q1 <| qq <| qq ?_
 obtain⟨v0,e0,H⟩:=aJ H
 refine qr [.v 0 (show bh Tryd.prog h 98 (.ptr bR 0)=some (.mp eF) from cm (q:=0) (cs:=[.mp eF]) o rfl (by kernel_rfl)),.v 1 (show bh Tryd.prog h 42 (.ptr dQ 0)=some (aa.fz x1) from cm (q:=2) (cs:=[aa.fz x1]) o rfl (by kernel_rfl)),.v 3 (bD (k:=.i64) (E:=aa) (l:=x1) dA e0),.v 4 (dd  (E:=aa) (l:=x1) h A3 e0 rfl),.v 5 (show fG Tryd.prog h 98 (.mp eF) (.int .i64 v0) true=some (.tup [.int .i64 ((yH x0 v0).1),.bool ((yH x0 v0).2)]) from (Px (q:=1) (l:=x0) (k:=v0) MO o rfl).1)] <| qq <| q0 <| qc H (fun c0 H=>?_) (fun c0 H=>?_)
 ·obtain rfl:=oi H
  exact q1 <| qt <| ⟨.inl rfl,⟨eO,by kernel_rfl,he o⟩⟩
 ·refine qk <| qq <| qr [.v 1 (show bh Tryd.prog h 29 (.ptr dB 0)=some (.rs eO 0 x2.nodes.length 4) from cm (q:=3) (cs:=[.rs eO 0 x2.nodes.length 4,.int .i64 x2.root]) o rfl (by kernel_rfl))] <| qq ?_
  obtain⟨v1,e1,H⟩:=aJ H
  obtain⟨h0,e2,o0⟩:=Py (q:=1) (l:=x0) (k:=v1) (v:=(x2.nodes.length:Int)) MO o rfl
  refine qr [.v 0 (show bh Tryd.prog h 98 (.ptr bR 0)=some (.mp eF) from cm (q:=0) (cs:=[.mp eF]) o rfl (by kernel_rfl)),.v 1 (show bh Tryd.prog h 42 (.ptr dQ 0)=some (aa.fz x1) from cm (q:=2) (cs:=[aa.fz x1]) o rfl (by kernel_rfl)),.v 3 (bD (k:=.i64) (E:=aa) (l:=x1) dA e1),.v 4 (dd  (E:=aa) (l:=x1) h A3 e1 rfl),.w 6 e2] <| qq ?_
  obtain⟨v2,e3,H⟩:=aJ H
  refine qr [.v 1 (show bh Tryd.prog h0 29 (.ptr dY 0)=some (af.fz x3.nodes) from cm (q:=5) (cs:=[af.fz x3.nodes,.int .i64 x3.root]) o0 rfl (by kernel_rfl)),.v 3 (bD (k:=.i64) (E:=af) (l:=x3.nodes) lG e3),.v 4 (dE  (E:=af) (l:=x3.nodes) h0 sf sh e3)] <| qq ?_
  obtain⟨x5,e4,H⟩:=aJ H
  obtain⟨aA,h1,e5,o1⟩:=fY (P:=Tryd.prog) (E:=af) (l:=x2.nodes) (q:=4) (t2:=29) (x:=.fz [.int .i64 v2.kind,.int .i64 v2.int,.str v2.label,.nils] 1 true) (l2:=([(ae.mk v2.kind v2.int v2.label ([]))])) lG o0 rfl (by kernel_rfl) rfl e4
  obtain⟨h2,e6,o2⟩:=kN (P:=Tryd.prog) (t:=29) (off:=0) (q:=3) (cs:=[.rs eO 0 x2.nodes.length 4,.int .i64 x2.root]) (fH:=[.rs aA 0 x5.length 4,.int .i64 x2.root]) (x:=.rs aA 0 x5.length 4) o1 rfl (by kernel_rfl)
  refine qr [.v 1 (show bh Tryd.prog h0 29 (.ptr dB 0)=some (.rs eO 0 x2.nodes.length 4) from cm (q:=3) (cs:=[.rs eO 0 x2.nodes.length 4,.int .i64 x2.root]) o0 rfl (by kernel_rfl)),.a 10 e5,.w 12 e6] <| qq <| q0 ?_
  have o3:Has h2 (((0),.sl (([]:List Int).length) 1 (aa.l ([]:List Int)))::(bR,.ob [.mp eF])::(eF,.mp (th (E1 x0 v1 (x2.nodes.length:Int))))::(dQ,.ob [aa.fz x1])::(dB,.ob [.rs aA 0 x5.length 4,.int .i64 x2.root])::(aA,.sl x5.length 4 (af.l x5))::(dY,.ob [af.fz x3.nodes,.int .i64 x3.root])::(dN,.ob [.fn 68 [.ptr bR 0,.ptr dQ 0,.ptr dB 0,.ptr dY 0,.ptr dN 0]])::L):=Has.nil o2 1
  refine qq <| qq <| q0 <| qb 0 ?_
  obtain⟨bo,uA,H⟩:=aJ H
  refine ql (aU.bG L bR eF dQ dB eO dY dN i0 x0 x1 x2 x3 v2  F0  (([]:List Int),(0:Int),E1 x0 v1 (x2.nodes.length:Int),(au.mk x5 x2.root)) _ _ ⟨(0),aA,h2,by kernel_rfl,o3⟩ uA) ?_
  rintro e s ⟨rfl,mE,Hi,H9,AR,rfl,g0,g1,g2,g3,g4,gW,gX,h6,rfl,o7⟩
  try dsimp only at H
  refine qq ?_
  obtain⟨h7,uB,o8⟩:=ja (E:=aa) (l:=mE) (q:=0) o7 rfl
  obtain⟨v4,uS,H⟩:=aJ H
  obtain⟨h8,uC,o9⟩:=HO (P:=Tryd.prog) (tf:=42) (E:=af) (l:=AR.nodes) (q:=4) (off:=3) (v:=(ae.mk v4.kind v4.int v4.label mE)) (x:=aa.fz mE) o8 rfl U1 uS rfl rfl (by decide) rfl
  obtain rfl:=oi H
  exact zT [.a 0 uB] [.v 1 (show bh Tryd.prog h7 29 (.ptr dB 0)=some (.rs gX 0 AR.nodes.length 4) from cm (q:=3) (cs:=[.rs gX 0 AR.nodes.length 4,.int .i64 AR.root]) o8 rfl (by kernel_rfl)),.v 4 (aG (k:=.i64) (E:=af) (l:=AR.nodes) (q:=4) lG o8 rfl uS),.w 6 uC] <| qq <| q0 <| qt <| ⟨.inl rfl,⟨gX,by kernel_rfl,he (by have o:Has h8 ((bR,.ob [.mp eF])::(eF,.mp (th H9))::(dQ,.ob [aa.fz x1])::(dB,.ob [.rs gX 0 AR.nodes.length 4,.int .i64 AR.root])::(gX,.sl AR.nodes.length 4 (af.l (AR.nodes.set (x2.nodes.length:Int).toNat (ae.mk v4.kind v4.int v4.label mE))))::(dY,.ob [af.fz x3.nodes,.int .i64 x3.root])::(dN,.ob [.fn 68 [.ptr bR 0,.ptr dQ 0,.ptr dB 0,.ptr dY 0,.ptr dN 0]])::L):=o9; simpa only [WY] using o)⟩⟩
end
end Go.Proofs.YtmekcfdllhphlaaDoor
namespace Go.Proofs.YtmekcfdllhphlaaDoor
open Go Go.R
open Go.IntKind (i64 u64 u8 u32)
def Cd:cd:=gh [0,1,2,3,4,5,6] [2,4000005] [121,113,97,65,1,25,91,123] [] [(0,[(2,some 0,4)])]
def ck.f (m:Nat)(t0:au):Option (au):=(aw.f m t0.nodes).bind fun x0=>(aU.f m m t0.root ([]:List (Int × Int)) x0 (au.mk ([]:List ae) (0:Int)) t0).bind fun x1=>some x1.2.2
def ck.fin (L:Mem)(r:au)(s:St):Prop:=∃av,aI Tryd.prog (s.open Cd) Tryd.f47.results.toList=some av∧yD s.h av (.agg [af.fz r.nodes,.int .i64 r.root])
def Qo (cf:CallF)(m:Nat):Prop:=∀(t0:au) (r:au),ck.f m t0=some r→∀h xs,ml xs [.agg [af.fz t0.nodes,.int .i64 t0.root]]→cf 47 xs h=some (.agg [af.fz r.nodes,.int .i64 r.root],h)
section
variable {cf:CallF}{m:Nat}
theorem rN {aS:FuncId→cd}(ha:aS 47=Cd)(Qp:SO cf m)(F0:Ou cf m m)(t0:au)(h:AHeap)(L:Mem)  (o:Has h (L)){out:au}(H:ck.f m t0=some out) :
  ∃r h',aZ Tryd.prog aS cf m 47 [.agg [af.fz t0.nodes,.int .i64 t0.root]] h=some (r,h')∧yD h' r (.agg [af.fz out.nodes,.int .i64 out.root]):=by
 refine aj (fn:=Tryd.f47) ha Tryd.func47 (by kernel_rfl) (by kernel_rfl) ?_
 refine aD (Q:=fun s=>ck.fin L out s) (fun _ _ h=>h) ?_
 have H:_=some out:=H
 unfold ck.f at H
 show de _ cf Cd m _ ⟨.agg [af.fz t0.nodes,.int .i64 t0.root]::Hf [],[none,none],h⟩ _
 refine qq ?_
 obtain⟨aA,h0,e0,o0⟩:=ku (cs:=[af.fz t0.nodes,.int .i64 t0.root]) o (by kernel_rfl)
 refine qr [.a 0 e0] ?_
 have o1:Has h0 (((0),.sl (([]:List ae).length) 4 (af.l ([]:List ae)))::(aA,.ob [af.fz t0.nodes,.int .i64 t0.root])::L):=Has.nil o0 4
 refine qq ?_
 obtain⟨x0,e1,H⟩:=aJ H
 obtain⟨gH,h1,e2,o2⟩:=ku (cs:=[.nils]) o1 (by kernel_rfl)
 obtain⟨h2,e3,o3⟩:=kN (P:=Tryd.prog) (t:=42) (off:=0) (q:=0) (cs:=[.nils]) (fH:=[aa.fz x0]) (x:=aa.fz x0) o2 rfl (by kernel_rfl)
 refine qr [.v 1 (show bh Tryd.prog h0 29 (.ptr aA 0)=some (af.fz t0.nodes) from cm (q:=1) (cs:=[af.fz t0.nodes,.int .i64 t0.root]) o1 rfl (by kernel_rfl)),.a 2 (Qp _ _ e1 h0 _ (gf (ab (b4 (E:=af)) (ax)))),.a 3 e2,.w 4 e3] <| qq ?_
 obtain⟨di,h3,e4,o4⟩:=E4 o3
 obtain⟨fy,h4,e5,o5⟩:=ku (cs:=[.nH]) o4 (by kernel_rfl)
 obtain⟨h5,e6,o6⟩:=kN (P:=Tryd.prog) (t:=98) (off:=0) (q:=0) (cs:=[.nH]) (fH:=[.mp di]) (x:=.mp di) o5 rfl (by kernel_rfl)
 refine qr [.m 0 e4,.a 1 e5,.w 2 e6] <| qq ?_
 have o7:Has h5 ((((0)),.sl (([]:List ae).length) 4 (af.l ([]:List ae)))::(fy,.ob [.mp di])::(di,.mp (th ([]:List (Int × Int))))::(gH,.ob [aa.fz x0])::((0),.sl (([]:List ae).length) 4 (af.l ([]:List ae)))::(aA,.ob [af.fz t0.nodes,.int .i64 t0.root])::L):=Has.nil o6 4
 obtain⟨gZ,h6,e7,o8⟩:=ku (cs:=[.rs ((0)) 0 (([]:List ae).length) 4,.int .i64 (0:Int)]) o7 (by kernel_rfl)
 refine qr [.a 0 e7] <| qq ?_
 obtain⟨gW,h7,e8,o9⟩:=ku (cs:=[.so]) o8 (by kernel_rfl)
 refine qr [.a 0 e8] <| qq ?_
 obtain⟨h8,e9,uQ⟩:=kN (P:=Tryd.prog) (t:=99) (off:=0) (q:=0) (cs:=[.so]) (fH:=[.fn 68 [.ptr fy 0,.ptr gH 0,.ptr gZ 0,.ptr aA 0,.ptr gW 0]]) (x:=.fn 68 [.ptr fy 0,.ptr gH 0,.ptr gZ 0,.ptr aA 0,.ptr gW 0]) o9 rfl (by kernel_rfl)
 refine qr [.w 1 e9] <| qq ?_
 obtain⟨x1,pe,H⟩:=aJ H
 obtain⟨gX,h9,sj,vE⟩:=F0 _ _ _ _ _ _ pe h8 _ _ _ _ _ _ _ _ ((Has.front (Has.front (Has.front (Has.front (Has.front (Has.front (Has.front (Has.front uQ 6 rfl) 1 rfl) 7 rfl) 4 rfl) 4 rfl) 7 rfl) 7 rfl) 7 rfl))  [.int .i64 t0.root,.ptr fy 0,.ptr gH 0,.ptr gZ 0,.ptr aA 0,.ptr gW 0] (an (aO (bC)) (an (rfl) (an (rfl) (an (rfl) (an (rfl) (an (rfl) (bg)))))))
 refine qr [.v 0 (show bh Tryd.prog h8 99 (.ptr gW 0)=some (.fn 68 [.ptr fy 0,.ptr gH 0,.ptr gZ 0,.ptr aA 0,.ptr gW 0]) from cm (q:=0) (cs:=[.fn 68 [.ptr fy 0,.ptr gH 0,.ptr gZ 0,.ptr aA 0,.ptr gW 0]]) uQ rfl (by kernel_rfl)),.v 2 (show bh Tryd.prog h8 3 (.ptr aA 1)=some (.int .i64 t0.root) from cm (q:=7) (cs:=[af.fz t0.nodes,.int .i64 t0.root]) uQ rfl (by kernel_rfl)),.a 3 sj] ?_
 have tK:Has h9 ((fy,.ob [.mp di])::(di,.mp (th x1.2.1))::(gH,.ob [aa.fz x0])::(gZ,.ob [.rs gX 0 x1.2.2.nodes.length 4,.int .i64 x1.2.2.root])::(gX,.sl x1.2.2.nodes.length 4 (af.l x1.2.2.nodes))::(aA,.ob [af.fz t0.nodes,.int .i64 t0.root])::((0),.sl (([]:List ae).length) 4 (af.l ([]:List ae)))::L):=Has.del vE 6
 have lM:Has h9 ((fy,.ob [.mp di])::(di,.mp (th x1.2.1))::(gH,.ob [aa.fz x0])::(gZ,.ob [.rs gX 0 x1.2.2.nodes.length 4,.int .i64 x1.2.2.root])::(gX,.sl x1.2.2.nodes.length 4 (af.l x1.2.2.nodes))::((0),.sl (([]:List ae).length) 4 (af.l ([]:List ae)))::L):=Has.del tK 5
 have yP:Has h9 ((fy,.ob [.mp di])::(di,.mp (th x1.2.1))::(gZ,.ob [.rs gX 0 x1.2.2.nodes.length 4,.int .i64 x1.2.2.root])::(gX,.sl x1.2.2.nodes.length 4 (af.l x1.2.2.nodes))::((0),.sl (([]:List ae).length) 4 (af.l ([]:List ae)))::L):=Has.del lM 2
 have zU:Has h9 ((fy,.ob [.mp di])::(gZ,.ob [.rs gX 0 x1.2.2.nodes.length 4,.int .i64 x1.2.2.root])::(gX,.sl x1.2.2.nodes.length 4 (af.l x1.2.2.nodes))::((0),.sl (([]:List ae).length) 4 (af.l ([]:List ae)))::L):=Has.del yP 1
 have lR:Has h9 ((gZ,.ob [.rs gX 0 x1.2.2.nodes.length 4,.int .i64 x1.2.2.root])::(gX,.sl x1.2.2.nodes.length 4 (af.l x1.2.2.nodes))::((0),.sl (([]:List ae).length) 4 (af.l ([]:List ae)))::L):=Has.del zU 0
 refine qs [.v 0 (show bh Tryd.prog h9 31 (.ptr gZ 0)=some (.agg [.rs gX 0 x1.2.2.nodes.length 4,.int .i64 x1.2.2.root]) from cm (q:=0) (cs:=[.rs gX 0 x1.2.2.nodes.length 4,.int .i64 x1.2.2.root]) lR rfl (by kernel_rfl))] ?_
 have AI:Has h9 ((gZ,.ob [.rs gX 0 x1.2.2.nodes.length 4,.int .i64 x1.2.2.root])::(gX,.sl x1.2.2.nodes.length 4 (af.l x1.2.2.nodes))::L):=Has.del lR 2
 have DD:Has h9 ((gX,.sl x1.2.2.nodes.length 4 (af.l x1.2.2.nodes))::L):=Has.del AI 0
 obtain rfl:=oi H
 exact qt <| ⟨.inl rfl,wY (.agg [.rs gX 0 x1.2.2.nodes.length 4,.int .i64 x1.2.2.root]) h9 (pU (cg (ab (s8 (E:=af) (l:=x1.2.2.nodes) (q:=0) DD rfl (fun _=>rfl)) (ab (aH) (ax)))))⟩
end
end Go.Proofs.YtmekcfdllhphlaaDoor
namespace Go.Proofs.YtmekcfdllhphlaaDoor
open Go Go.R
open Go.IntKind (i64 u64 u8 u32)
def kV:List Int→Nat→List (Int × Int)
 | [],_=>[]
 | k::ks,s=>(k,(s:Int))::kV ks (s+1)
theorem vI:∀(ks:List Int) (s:Nat) (k:Int),yH (kV ks s) k=if k∈ks then (((s+ks.idxOf k:Nat):Int),true) else (0,false)
 | [],s,k=>rfl
 | a::ks,s,k=>by
  simp only [kV,yH,vI ks (s+1) k,Xo,List.idxOf_cons]
  by_cases h:k=a
  ·subst h; simp
  ·have h':(a==k)=false:=by simpa using fun z:a=k=>h z.symm
   rw [if_neg h,h']
   by_cases h2:k∈ks
   ·simp only [h2,if_true,or_true,cond_false]
    simp only [W2,and_true]
    omega
   ·simp [h2,h]
theorem vJ:∀(ks:List Int) (s:Nat) (k:Int),k∉ks→E1 (kV ks s) k ((s+ks.length:Nat):Int)=kV (ks++[k]) s
 | [],s,k,_=>rfl
 | a::ks,s,k,h=>by
  have h1:k≠a:=fun z=>h (by simp [z])
  have h2:k∉ks:=fun z=>h (by simp [z])
  simp only [kV,E1,Xj,if_neg h1,Xf]
  rw [show s+(ks.length+1)=s+1+ks.length by omega,vJ ks (s+1) k h2]
def en (cls:List Int)(a:Int):Int:=gt cls a.toNat
def idx (cls o:List Int)(a:Int):Int:=((o.map (en cls)).idxOf (en cls a):Nat)
def uT (cls:List Int)(l:List ae)(o:List Int)(i:Int):ae:=⟨(nd l i).kind,(nd l i).int,(nd l i).label,(nd l i).args.map (idx cls o)⟩
def ri (cls:List Int)(l:List ae):Nat→Int→List Int→List Int
 | 0,_,o=>o
 | k+1,i,o=>if en cls i∈o.map (en cls) then o else (nd l i).args.foldl (fun o a=>ri cls l k a o) (o++[i])
structure Vs (cls:List Int)(n:Nat)(o:List Int):Prop where
 Hl:(o.map (en cls)).Nodup
 nB:∀x∈o,0≤x∧x<n
structure Ps (cls:List Int)(l:List ae)(o o':List Int)(ns AS:List ae):Prop where
 vs:Vs cls l.length o'
 pre:∃t,o'=o++t
 len:AS.length=o'.length
 old:∀k,k<o.length→AS[k]? = ns[k]?
 new:∀k,o.length≤k→k<o'.length→AS[k]? = some (uT cls l o' (gt o' k))
 arg:∀k,o.length≤k→k<o'.length→∀a∈(nd l (gt o' k)).args,en cls a∈o'.map (en cls)
theorem Vs.tU {cls:List Int}{n:Nat}{o:List Int}(v:Vs cls n o):o.length≤n:=by
 have hn:o.Nodup:=by
  have:=v.Hl
  unfold List.Nodup at this ⊢
  rw [List.pairwise_map] at this
  exact List.Pairwise.imp (fun h e=>h (by rw [e])) this
 have:=hn.length_le_of_subset (l₂:=ints n) (fun x hx=>iM.2 (v.nB x hx))
 rwa [dM] at this
theorem Ps.refl {cls:List Int}{l:List ae}{o:List Int}{ns:List ae}(v:Vs cls l.length o)(h:ns.length=o.length):Ps cls l o o ns ns:=
 ⟨v,⟨[],by simp⟩,h,fun _ _=>rfl,fun k h1 h2=>by omega,fun k h1 h2=>by omega⟩
theorem iv {a b:List Int}{k:Nat}(h:k<a.length):gt (a++b) k=gt a k:=by
 unfold gt; rw [Xb,Xb,Xu h]
theorem nZ {cls o t:List Int}{a:Int}(h:en cls a∈o.map (en cls)):idx cls (o++t) a=idx cls o a:=by
 unfold idx; rw [Xm,X3,if_pos h]
theorem y9 {cls:List Int}{l:List ae}{o t:List Int}{i:Int}(h:∀a∈(nd l i).args,en cls a∈o.map (en cls)):uT cls l (o++t) i=uT cls l o i:=by
 unfold uT
 congr 1
 exact XV fun a ha=>nZ (h a ha)
theorem Ps.trans {cls:List Int}{l:List ae}{o o1 o2:List Int}{ns n1 n2:List ae}(a:Ps cls l o o1 ns n1)(b:Ps cls l o1 o2 n1 n2):Ps cls l o o2 ns n2:=by
 obtain⟨t1,rfl⟩:=a.pre
 obtain⟨t2,rfl⟩:=b.pre
 have hl:(o++t1).length=o.length+t1.length:=by simp
 refine⟨b.vs,⟨t1++t2,by simp⟩,b.len,fun k hk=>(b.old k (by omega)).trans (a.old k hk),fun k h1 h2=>?_,fun k h1 h2 x hx=>?_⟩
 ·by_cases h:k<(o++t1).length
  ·rw [b.old k h,a.new k h1 h,iv h,y9 (a.arg k h1 h)]
  ·exact b.new k (by omega) h2
 ·by_cases h:k<(o++t1).length
  ·rw [iv h] at hx
   rw [Xm]
   exact XA _ (a.arg k h1 h x hx)
  ·exact b.arg k (by omega) h2 x hx
section
variable {m:Nat}{cls:List Int}{l:List ae}{root:Int}
abbrev Nt:=Int→(List (Int × Int))→(List Int)→au→au→Option (Int × (List (Int × Int)) × au)
def Jf (cls:List Int)(l:List ae)(root:Int)(rec:Nt)(df:Int→List Int→List Int)(need:Nat):Prop:=∀(i:Int) (o:List Int) (ns:List ae),0≤i→i<l.length→Vs cls l.length o→ns.length=o.length→l.length<need+o.length→
 ∃AS,rec i (kV (o.map (en cls)) 0) cls ⟨ns,0⟩ ⟨l,root⟩=some (idx cls (df i o) i,kV ((df i o).map (en cls)) 0,⟨AS,0⟩)∧Ps cls l o (df i o) ns AS∧en cls i∈(df i o).map (en cls)
theorem F6 {rec:Nt}{df:Int→List Int→List Int}{need:Nat}(hm:2 ^ 30≤m)(ok:kU l)(V:Jf cls l root rec df need){v:ae}(h8:v.args.length≤8)(ha:∀a∈v.args,0≤a∧a<l.length){o0:List Int}{SQ:List ae}(Nu:l.length<need+o0.length):∀(f t:Nat) (o:List Int) (ns:List ae),v.args.length - t<f→t≤v.args.length→Ps cls l o0 o SQ ns→(∀a∈v.args.take t,en cls a∈o.map (en cls))→
  ∃o' AS x,o'=(v.args.drop t).foldl (fun o a=>df a o) o∧aU.l0 m cls ⟨l,root⟩ rec v f ((v.args.take t).map (idx cls o)) (t:Int) (kV (o.map (en cls)) 0) ⟨ns,0⟩=some (v.args.map (idx cls o'),x,kV (o'.map (en cls)) 0,⟨AS,0⟩)∧Ps cls l o0 o' SQ AS∧∀a∈v.args,en cls a∈o'.map (en cls)
 | 0,t,o,ns,hf,_,_,_=>absurd hf (by omega)
 | f+1,t,o,ns,hf,ht,P,hin=>by
  have nb:(2:Nat) ^ 30=1073741824:=by decide
  unfold aU.l0
  by_cases h:t<v.args.length
  ·obtain⟨b0,b1⟩:=ha _ (aM h)
   have WG:o0.length≤o.length:=by obtain⟨s,rfl⟩:=P.pre; simp
   obtain⟨U5,k1,P1,Ob⟩:=V (gt v.args t) o ns b0 b1 P.vs P.len (by omega)
   obtain⟨s,hs⟩:=P1.pre
   have hT1:v.args.take (t+1)=v.args.take t++[gt v.args t]:=by rw [XU,bp h]; rfl
   have hD:v.args.drop t=gt v.args t::v.args.drop (t+1):=by
    obtain⟨h4,h5⟩:=WZ.1 (bp h)
    rw [←h5]; exact W6 h4
   have Qq:∀a∈v.args.take (t+1),en cls a∈(df (gt v.args t) o).map (en cls):=fun a ha=>by
    rw [hT1] at ha
    rcases W8.1 ha with ha | ha
    ·rw [hs,Xm]; exact XA _ (hin a ha)
    ·simp only [W4] at ha; subst ha; exact Ob
   obtain⟨o',AS,x,e,k2,P2,h2⟩:=F6 hm ok V h8 ha Nu f (t+1) (df (gt v.args t) o) U5 (by omega) (by omega) (P.trans P1) Qq
   refine⟨o',AS,x,by rw [hD]; exact e,?_,P2,h2⟩
   have e1:i64.wrap ((t:Int)+1)=((t+1:Nat):Int):=by rw [aE (by omega) (by omega)]; omega
   have lQ:app 8 ((v.args.take t).map (idx cls o)) [idx cls (df (gt v.args t) o) (gt v.args t)]=some ((v.args.take (t+1)).map (idx cls (df (gt v.args t) o))):=by
    unfold app
    rw [if_pos (by simp; omega),hT1,Xm]
    congr 2
    exact XV fun a ha=>by rw [hs]; exact (nZ (hin a ha)).symm
   rw [if_pos (by simp only [decide_eq_true_eq]; omega),cE h,WQ,k1,WQ,lQ,WQ,e1]
   exact k2
  ·have:t=v.args.length:=by omega
   subst this
   rw [XX] at hin ⊢
   exact⟨o,ns,_,by rw [List.drop_length]; rfl,by rw [if_neg (by simp)],P,hin⟩
theorem tV (hm:2 ^ 30≤m)(ok:kU l)(hc:cls.length=l.length):∀k,Jf cls l root (aU.f m k) (ri cls l k) k
 | 0=>fun i o ns h0 h1 v hl hn=>absurd v.tU (by omega)
 | k+1=>fun i o ns h0 h1 v hl hn=>by
  have nb:(2:Nat) ^ 30=1073741824:=by decide
  have h8000:=ok.1
  have AT:=v.tU
  show ∃AS,aU.b m (aU.f m k) i (kV (o.map (en cls)) 0) cls ⟨ns,0⟩ ⟨l,root⟩=_∧_
  unfold aU.b
  have hx:ix cls i=some (en cls i):=fZ (by omega) (by omega)
  rw [hx,WQ,vI,Xh]
  by_cases h:en cls i∈o.map (en cls)
  ·have hd:ri cls l (k+1) i o=o:=by unfold ri; rw [if_pos h]
   rw [hd,if_pos h]
   exact⟨ns,rfl,Ps.refl v hl,h⟩
  ·have hd:ri cls l (k+1) i o=(nd l i).args.foldl (fun o a=>ri cls l k a o) (o++[i]):=by
    show (if en cls i∈o.map (en cls) then o else (nd l i).args.foldl (fun o a=>ri cls l k a o) (o++[i]))=_
    rw [if_neg h]
   have v1:Vs cls l.length (o++[i]):=by
    refine⟨?_,fun x hx=>?_⟩
    ·rw [Xm,X4]
     refine⟨v.Hl,by simp,fun a ha b hb=>?_⟩
     simp only [Xe,List.map_nil,W4] at hb
     subst hb; intro e; subst e; exact h ha
    ·rcases W8.1 hx with hx | hx
     ·exact v.nB x hx
     ·simp only [W4] at hx; subst hx; exact⟨h0,h1⟩
   have F7:=v1.tU
   simp only [W3,Xf,XL] at F7
   have lQ:app 56 ns [(⟨(nd l i).kind,(nd l i).int,(nd l i).label,[]⟩:ae)]=some (ns++[⟨(nd l i).kind,(nd l i).int,(nd l i).label,[]⟩]):=by
    unfold app; rw [if_pos (by simp; omega)]
   have Mo:E1 (kV (o.map (en cls)) 0) (en cls i) ((ns.length:Nat):Int)=kV ((o++[i]).map (en cls)) 0:=by
    have:=vJ (o.map (en cls)) 0 (en cls i) h
    rw [Xh,Xy,←hl] at this
    rw [this,Xm]; rfl
   obtain⟨n1,n2⟩:=ok.2 _ (fu h0 h1)
   have P0:Ps cls l (o++[i]) (o++[i]) (ns++[⟨(nd l i).kind,(nd l i).int,(nd l i).label,[]⟩]) (ns++[⟨(nd l i).kind,(nd l i).int,(nd l i).label,[]⟩]):=Ps.refl v1 (by simp [hl])
   obtain⟨o',AS,x,e,k2,P2,h2⟩:=F6 (m:=m) (v:=nd l i) (need:=k) hm ok (tV hm ok hc k) n1 n2 (o0:=o++[i]) (by simp; omega) m 0 (o++[i]) _ (by omega) (by omega) P0 (fun a ha=>by simp at ha)
   rw [Xr] at e
   rw [List.take_zero,List.map_nil] at k2
   have k2:aU.l0 m cls ⟨l,root⟩ (aU.f m k) (nd l i) m [] 0 _ _=_:=k2
   obtain⟨s,hs⟩:=P2.pre
   have HA:o.length<o'.length:=by rw [hs]; simp
   have Nv:AS[o.length]? = some ⟨(nd l i).kind,(nd l i).int,(nd l i).label,[]⟩:=by
    rw [P2.old _ (by simp),←hl,Xg (WU _),Yo]; rfl
   have KI:ix AS ((ns.length:Nat):Int)=some ⟨(nd l i).kind,(nd l i).int,(nd l i).label,[]⟩:=by
    unfold ix; rw [if_pos (by omega),WX,hl,Nv]
   have SS:gt o' o.length=i:=by
    rw [hs,iv (by simp)]
    unfold gt; rw [Xb,Xg (WU _),Yo]; rfl
   have Qs:idx cls o' i=(o.length:Nat):=by
    rw [hs,nZ (by simp)]
    unfold idx
    rw [Xm,X3,if_neg h]; simp
   rw [hd,←e,if_neg h,if_neg (by simp),WQ,hZ h0 h1,WQ,lQ,WQ,Mo,k2,WQ]
   dsimp only
   rw [KI,WQ,WX,Qs,hl]
   refine⟨_,rfl,⟨P2.vs,⟨[i]++s,by rw [hs]; simp⟩,by simpa using P2.len,fun q hq=>?_,fun q h3 h4=>?_,fun q h3 h4 a ha=>?_⟩,by rw [hs]; simp⟩
   ·rw [Ym (by omega),P2.old q (by simp; omega),Xu (by omega)]
   ·by_cases hq:q=o.length
    ·subst hq
     rw [Yg (by rw [P2.len]; omega),SS]; rfl
    ·rw [Ym (by omega)]
     exact P2.new q (by simp; omega) h4
   ·by_cases hq:q=o.length
    ·subst hq; rw [SS] at ha; exact h2 a ha
    ·exact P2.arg q (by simp; omega) h4 a ha
end
theorem tW {m:Nat}(hm:2 ^ 41≤m){t:au}(ok:kU t.nodes)(h1:1≤t.nodes.length)(r0:0≤t.root)(r1:t.root<t.nodes.length)(Inv:List Int→Prop)
  (hI0:∀d out,d.Perm (ints t.nodes.length)→(Ord (fun x y=>cT (nd t.nodes x) (nd t.nodes y)) (ints t.nodes.length)→Sg (fun x y=>cT (nd t.nodes x) (nd t.nodes y)) d 0 t.nodes.length)→(∀k,k<t.nodes.length→gt out (gt d k).toNat=rk t.nodes d k)→Inv out)
  (hI:∀out many ks next,Part t.nodes.length out many→Inv out→qv t.nodes out t.nodes.length ks→next.length=t.nodes.length→(∀i,i<t.nodes.length→gt next i=(ks.idxOf (key out (nd t.nodes i) i):Int))→Inv next) :
  ∃cls many ks ns,ck.f m t=some ⟨ns,0⟩∧Part t.nodes.length cls many∧Inv cls∧qv t.nodes cls t.nodes.length ks∧ks.length=many+1∧Ps cls t.nodes [] (ri cls t.nodes m t.root []) [] ns∧en cls t.root∈(ri cls t.nodes m t.root []).map (en cls):=by
 have nb:(2:Nat) ^ 30=1073741824:=by decide
 have rD:(2:Nat) ^ 41=2199023255552:=by decide
 have h8000:=ok.1
 obtain⟨cls,many,ks,k1,P,I,K,Ai⟩:=xm hm ok h1 Inv hI0 hI
 obtain⟨ns,k2,P2,h2⟩:=tV (m:=m) (root:=t.root) (by omega) ok P.len m t.root [] [] r0 r1 ⟨by simp,fun x hx=>by simp at hx⟩ rfl (by simp; omega)
 refine⟨cls,many,ks,ns,?_,P,I,K,Ai,P2,h2⟩
 unfold ck.f
 have k2:aU.f m m t.root [] cls ⟨[],0⟩ t=_:=k2
 rw [k1,WQ,k2]; rfl
end Go.Proofs.YtmekcfdllhphlaaDoor
namespace Go.Proofs.YtmekcfdllhphlaaDoor
open Go Go.R
open Go.IntKind (i64 u64 u8 u32)
theorem tX:∀(x:List UInt8),Op.bytesLess x x=false
 | []=>rfl
 | a::x=>by simp [Op.bytesLess,tX x]
theorem xn:∀(x y:List UInt8),Op.bytesLess x y=true→Op.bytesLess y x=false
 | _,[],h=>by cases ‹List UInt8›<;>simp [Op.bytesLess] at h
 | [],b::y,_=>rfl
 | a::x,b::y,h=>by
  simp only [Op.bytesLess,XG,WV,decide_eq_true_eq,beq_iff_eq] at h
  simp only [Op.bytesLess,Bool.or_eq_false_iff,Bool.and_eq_false_iff,decide_eq_false_iff_not,beq_eq_false_iff_ne]
  rcases h with h | ⟨rfl,h⟩
  ·refine⟨fun h2=>?_,.inl fun e=>?_⟩
   ·rw [Yb] at h h2; omega
   ·subst e; rw [Yb] at h; omega
  ·exact⟨by rw [Yb]; omega,.inr (xn x y h)⟩
theorem F8:∀(x y:List UInt8),Op.bytesLess x y=true∨x=y∨Op.bytesLess y x=true
 | [],[]=>.inr (.inl rfl)
 | [],b::y=>.inl rfl
 | a::x,[]=>.inr (.inr rfl)
 | a::x,b::y=>by
  simp only [Op.bytesLess,XG,WV,decide_eq_true_eq,beq_iff_eq,List.cons.injEq]
  rcases Nat.lt_trichotomy a.toNat b.toNat with h | h | h
  ·exact .inl (.inl (Yb.2 h))
  ·have:a=b:=UInt8.toNat_inj.1 h
   subst this
   rcases F8 x y with h1 | h1 | h1
   ·exact .inl (.inr ⟨rfl,h1⟩)
   ·exact .inr (.inl ⟨rfl,h1⟩)
   ·exact .inr (.inr (.inr ⟨rfl,h1⟩))
  ·exact .inr (.inr (.inl (Yb.2 h)))
theorem za:∀(x y z:List UInt8),Op.bytesLess x y=true→Op.bytesLess y z=true→Op.bytesLess x z=true
 | _,_,[],_,h=>by cases ‹List UInt8›<;>simp [Op.bytesLess] at h
 | _,[],c::z,h,_=>by cases ‹List UInt8›<;>simp [Op.bytesLess] at h
 | [],b::y,c::z,_,_=>rfl
 | a::x,b::y,c::z,h1,h2=>by
  simp only [Op.bytesLess,XG,WV,decide_eq_true_eq,beq_iff_eq] at h1 h2 ⊢
  rcases h1 with h1 | ⟨rfl,h1⟩
  ·rcases h2 with h2 | ⟨rfl,h2⟩
   ·left; rw [Yb] at *; omega
   ·exact .inl h1
  ·rcases h2 with h2 | ⟨rfl,h2⟩
   ·exact .inl h2
   ·exact .inr ⟨rfl,za x y z h1 h2⟩
theorem AU {x y:ByteArray}(h:x.data.toList=y.data.toList):x=y:=by
 cases x with | mk a=>cases y with | mk b=>cases a; cases b; simp only at h; subst h; rfl
structure KL {α:Type}(c:α→α→Int):Prop where
 zero:∀x y,c x y=0→x=y
 refl:∀x,c x x=0
 neg:∀x y,c y x = - c x y
 tr:∀x y z,c x y≤0→c y z≤0→c x z≤0
theorem mF:KL cI:=by
 refine⟨fun x y h=>?_,fun x=>?_,fun x y=>?_,fun x y z h1 h2=>?_⟩
 ·unfold cI at h; split at h
  ·omega
  ·split at h<;>omega
 ·unfold cI; simp
 ·unfold cI; split<;>split<;>(try split)<;>omega
 ·unfold cI at *
  split at h1<;>split at h2<;>(try split at h1)<;>(try split at h2)<;>(try omega)<;>split<;>(try split)<;>omega
theorem zb (x y:ByteArray):cS x y=if Op.bytesLess x.data.toList y.data.toList=true then -1 else if x=y then 0 else 1:=by
 unfold cS EX
 cases h:Op.bytesLess x.data.toList y.data.toList with
 | true=>rfl
 | false=>
  simp only [Bool.false_or,W9,if_false]
  by_cases e:x=y
  ·subst e; simp
  ·rw [if_neg e]
   have:(x.data.toList==y.data.toList)=false:=by
    rw [beq_eq_false_iff_ne]; exact fun h=>e (AU h)
   rw [this]; rfl
theorem F9:KL cS:=by
 refine⟨fun x y h=>?_,fun x=>?_,fun x y=>?_,fun x y z h1 h2=>?_⟩
 ·rw [zb] at h
  split at h
  ·omega
  ·split at h
   ·assumption
   ·omega
 ·rw [zb,tX]; simp
 ·rw [zb,zb]
  rcases F8 x.data.toList y.data.toList with h | h | h
  ·have h2:=xn _ _ h
   have hne:¬y=x:=fun e=>by subst e; rw [tX] at h; cases h
   rw [if_pos h,h2]; simp [hne]
  ·have:=AU h
   subst this
   rw [tX]; simp
  ·have h2:=xn _ _ h
   have hne:¬x=y:=fun e=>by subst e; rw [tX] at h; cases h
   rw [if_pos h,h2]; simp [hne]
 ·rw [zb] at h1 h2 ⊢
  split at h1
  ·rename_i g1
   split at h2
   ·rename_i g2
    rw [if_pos (za _ _ _ g1 g2)]; omega
   ·split at h2
    ·rename_i e; subst e; rw [if_pos g1]; omega
    ·omega
  ·split at h1
   ·rename_i e; subst e
    split at h2
    ·rename_i g2; rw [if_pos g2]; omega
    ·split at h2
     ·rename_i g e; rw [if_neg g,if_pos e]; omega
     ·omega
   ·omega
theorem Ga {α β:Type}{c:α→α→Int}{d:β→β→Int}(C:KL c)(D:KL d):KL fun (p q:α × β)=>DH (c p.1 q.1) (d p.2 q.2):=by
 refine⟨fun x y h=>?_,fun x=>?_,fun x y=>?_,fun x y z h1 h2=>?_⟩
 ·unfold DH at h
  split at h
  ·rename_i h1; exact Prod.ext (C.zero _ _ h1) (D.zero _ _ h)
  ·exact absurd h ‹_›
 ·unfold DH; rw [C.refl,if_pos rfl,D.refl]
 ·skip
  unfold DH
  have:=C.neg x.1 y.1
  by_cases h:c x.1 y.1=0
  ·rw [if_pos h,if_pos (by omega),D.neg]
  ·rw [if_neg h,if_neg (by omega),C.neg]
 ·skip
  unfold DH at *
  by_cases a:c x.1 y.1=0
  ·rw [if_pos a] at h1
   have e:=C.zero _ _ a
   rw [←e] at h2
   by_cases b:c x.1 z.1=0
   ·rw [if_pos b] at h2 ⊢; exact D.tr _ _ _ h1 h2
   ·rw [if_neg b] at h2 ⊢; exact h2
  ·rw [if_neg a] at h1
   have hz:c x.1 z.1≤0:=by
    by_cases b:c y.1 z.1=0
    ·rw [←C.zero _ _ b]; exact h1
    ·rw [if_neg b] at h2; exact C.tr _ _ _ h1 h2
   have hne:c x.1 z.1≠0:=fun e=>by
    have e1:=C.zero _ _ e
    by_cases b:c y.1 z.1=0
    ·have e2:=C.zero _ _ b; rw [e1,←e2] at a; exact a (C.refl _)
    ·rw [if_neg b,←e1] at h2
     have:=C.neg x.1 y.1; omega
   rw [if_neg hne]; exact hz
theorem Ce:KL fun (p q:Int × ByteArray)=>DH (cI p.1 q.1) (cS p.2 q.2):=Ga mF F9
theorem Cf:KL fun (p q:ByteArray × Int)=>DH (cS p.1 q.1) (cI p.2 q.2):=Ga F9 mF
theorem lz {a b:ae}(h:a.kind=b.kind):cT a b=if a.kind=3 then DH (cI a.args.length b.args.length) (cS a.label b.label) else DH (cS a.label b.label) (cI a.int b.int):=by unfold cT; rw [if_pos h]
theorem jH {a b:ae}(h:a.kind≠b.kind):cT a b=cI a.kind b.kind:=by unfold cT; rw [if_neg h]
theorem je (a b:ae):cT b a = - cT a b:=by
 by_cases h:a.kind=b.kind
 ·rw [lz h,lz h.symm,←h]
  split
  ·exact Ce.neg ((a.args.length:Int),a.label) ((b.args.length:Int),b.label)
  ·exact Cf.neg (a.label,a.int) (b.label,b.int)
 ·rw [jH h,jH (X9 h)]; exact mF.neg _ _
theorem zc (a b c:ae)(h1:cT a b≤0)(h2:cT b c≤0):cT a c≤0:=by
 by_cases e1:a.kind=b.kind
 ·by_cases e2:b.kind=c.kind
  ·rw [lz e1] at h1
   rw [lz e2,←e1] at h2
   rw [lz (e1.trans e2)]
   split
   ·rename_i h3; rw [if_pos h3] at h1 h2
    exact Ce.tr ((a.args.length:Int),a.label) ((b.args.length:Int),b.label) ((c.args.length:Int),c.label) h1 h2
   ·rename_i h3; rw [if_neg h3] at h1 h2
    exact Cf.tr (a.label,a.int) (b.label,b.int) (c.label,c.int) h1 h2
  ·rw [jH e2] at h2
   rw [jH (by rw [e1]; exact e2),e1]; exact h2
 ·rw [jH e1] at h1
  by_cases e2:b.kind=c.kind
  ·rw [jH (by rw [←e2]; exact e1),←e2]; exact h1
  ·rw [jH e2] at h2
   have n1:cI a.kind b.kind≠0:=fun h=>e1 (mF.zero _ _ h)
   have n2:cI b.kind c.kind≠0:=fun h=>e2 (mF.zero _ _ h)
   by_cases e3:a.kind=c.kind
   ·rw [←e3] at h2
    have:=mF.neg a.kind b.kind
    omega
   ·rw [jH e3]; exact mF.tr _ _ _ h1 h2
structure Alike (a b:ae):Prop where
 kind:a.kind=b.kind
 int:a.int=b.int
 label:a.label=b.label
 len:a.args.length=b.args.length
theorem Alike.refl (a:ae):Alike a a:=⟨rfl,rfl,rfl,rfl⟩
theorem Alike.symm {a b:ae}(h:Alike a b):Alike b a:=⟨h.1.symm,h.2.symm,h.3.symm,h.4.symm⟩
theorem Alike.trans {a b c:ae}(h:Alike a b)(k:Alike b c):Alike a c:=⟨h.1.trans k.1,h.2.trans k.2,h.3.trans k.3,h.4.trans k.4⟩
theorem Alike.cT {a b:ae}(h:Alike a b):cT a b=0:=by
 rw [lz h.kind]
 split
 ·rw [h.len,h.label]; exact Ce.refl ((b.args.length:Int),b.label)
 ·rw [h.label,h.int]; exact Cf.refl (b.label,b.int)
theorem Gb {a b:ae}(h:cT a b=0)(ha:a.kind=3→a.int=0)(hb:b.kind=3→b.int=0)(Qt:a.kind≠3→a.args=[])(hb2:b.kind≠3→b.args=[]):Alike a b:=by
 by_cases e:a.kind=b.kind
 ·rw [lz e] at h
  split at h
  ·rename_i h3
   have:=Ce.zero ((a.args.length:Int),a.label) ((b.args.length:Int),b.label) h
   simp only [W2] at this
   exact⟨e,by rw [ha h3,hb (by rw [←e]; exact h3)],this.2,by omega⟩
  ·rename_i h3
   have:=Cf.zero (a.label,a.int) (b.label,b.int) h
   simp only [W2] at this
   exact⟨e,this.2,this.1,by rw [Qt h3,hb2 (by rw [←e]; exact h3)]⟩
 ·rw [jH e] at h
  exact absurd (mF.zero _ _ h) e
theorem KM (l:List ae)(s:List Int):Ord (fun x y=>cT (nd l x) (nd l y)) s:=by
 refine⟨fun x _ y _ z _ h1 h2=>?_,fun x _ y _ h=>?_⟩
 ·skip
  have a1:=je (nd l x) (nd l y)
  have a2:=je (nd l y) (nd l z)
  have a3:=je (nd l x) (nd l z)
  have:=zc (nd l x) (nd l y) (nd l z) (by omega) (by omega)
  omega
 ·skip
  have a1:=je (nd l x) (nd l y)
  omega
end Go.Proofs.YtmekcfdllhphlaaDoor
