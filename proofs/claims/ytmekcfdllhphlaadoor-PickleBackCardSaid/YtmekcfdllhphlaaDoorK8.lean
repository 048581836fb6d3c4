/- Part of the proof: PT7, Q67, PT8, PT9, Q68, Q47, PT10, PB1. -/
import Derived.Test.YtmekcfdllhphlaaDoorK7
set_option linter.unusedVariables false
set_option linter.unusedSimpArgs false
set_option maxRecDepth 100000
open Bool renaming and_eq_true → WR, false_eq_true → W4, or_eq_true → XC
open Eq renaming trans → XO
open Int renaming toNat_natCast → WT
open List renaming getElem?_eq_some_iff → WU, length_set → WW, length_append → WX, mem_singleton → WY, drop_eq_getElem_cons → WZ, getElem?_eq_getElem → W2, append_assoc → W3, mem_append → W5, getD_eq_getElem?_getD → W7, replicate → W8, length_cons → W9, getElem?_append_right → Xa, map_cons → Xc, cons_append → Xe, mem_map → Xg, map_append → Xi, drop_zero → Xl, getElem?_map → Xo, getElem?_append_left → Xp, mem_cons → Xs, length_map → Xu, mem_append_left → Xw, length_nil → XI, getElem_mem → XJ, all_cons → XK, idxOf_lt_length_of_mem → XP, mem_of_getElem? → XQ, take_add_one → XR, map_congr_left → XS, take_length → XU, idxOf_append → XZ, nodup_append → X0, getElem?_set_self → Yb, set_append_right → Yg, getElem?_set_ne → Yh
open Nat renaming le_refl → WQ, zero_add → Xb, sub_self → Yj
open Ne renaming symm → X4
open Option renaming bind_some → WL
open Option.some renaming inj → Xj
open Or renaming inr → XH
open Prod.mk renaming injEq → WV
open UInt8 renaming lt_iff_toNat_lt → X7
namespace Go.Proofs.YtmekcfdllhphlaaDoor
open Go Go.R
open Go.IntKind (i64 u64 u8 u32)
def dQ (t:an):Bool:=decide (1≤t.nodes.length)&&decide (t.nodes.length≤8000)&&decide (0≤t.root)&&decide (t.root<t.nodes.length)&&t.nodes.all fun n=>kg n t.nodes.length
theorem lq {m:Nat}(hm:2 ^ 30≤m)(t:an):ff.f m t=some (dQ t):=by
 have lR:(2:Nat) ^ 30=1073741824:=by decide
 have nR:(2:Nat) ^ 40=1099511627776:=by decide
 unfold ff.f dQ
 by_cases h1:1≤t.nodes.length
 ·rw [if_pos (by simp only [decide_eq_true_eq]; omega),decide_eq_true h1]
  by_cases h2:t.nodes.length≤8000
  ·rw [if_pos (by simp only [decide_eq_true_eq]; omega),decide_eq_true h2]
   by_cases h3:0≤t.root
   ·rw [if_pos (by simp only [decide_eq_true_eq]; omega),decide_eq_true h3]
    by_cases h4:t.root<t.nodes.length
    ·rw [if_pos (by simp only [decide_eq_true_eq]; omega),decide_eq_true h4]
     rw [vE (g:=fun n=>!(kg n t.nodes.length)) (by omega) (by omega) (fun n _=>by unfold fO.f; rw [Dx (by omega)]; rfl),WL]
     simp [List.not_any_eq_all_not]
    ·rw [if_neg (by simp only [decide_eq_true_eq]; omega),decide_eq_false h4]; rfl
   ·rw [if_neg (by simp only [decide_eq_true_eq]; omega),decide_eq_false h3]; rfl
  ·rw [if_neg (by simp only [decide_eq_true_eq]; omega),decide_eq_false h2]; rfl
 ·rw [if_neg (by simp only [decide_eq_true_eq]; omega),decide_eq_false h1]; rfl
def cI (x y:Int):Int:=if x<y then -1 else if y<x then 1 else 0
def cS (x y:ByteArray):Int:=if Op.bytesLess x.data.toList y.data.toList=true then -1 else if (!EW x y)=true then 1 else 0
def DD (x y:Int):Int:=if x=0 then y else x
def cT (a b:ae):Int:=if a.kind=b.kind then (if a.kind=3 then DD (cI a.args.length b.args.length) (cS a.label b.label) else DD (cS a.label b.label) (cI a.int b.int)) else cI a.kind b.kind
theorem xf {m:Nat}(x y:Int):cU.f m x y=some (cI x y):=by
 unfold cU.f ec.f cI
 simp only [beq_self_eq_true,Bool.not_true,WL,W4,if_false]
 by_cases h:x<y
 ·rw [if_pos (by simpa using h),if_pos h]
 ·rw [if_neg (by simpa using h),if_neg h]
  by_cases h2:y<x
  ·rw [if_pos (by simpa using h2),if_pos h2]
  ·rw [if_neg (by simpa using h2),if_neg h2]
theorem B8 {m:Nat}(x y:ByteArray):cu.f m x y=some (cS x y):=by
 unfold cu.f di.f cS
 simp only [beq_self_eq_true,Bool.not_true,WL,W4,if_false]
 split
 ·rfl
 ·split
  ·rfl
  ·rfl
theorem yV {m:Nat}(hm:3≤m)(x y:Int):ck.f m [x,y]=some (DD x y):=by
 obtain⟨k,rfl⟩:∃k,m=k+3:=⟨m - 3,by omega⟩
 unfold ck.f DD
 have e1:i64.wrap ((0:Int)+1)=1:=by decide
 have e2:i64.wrap ((1:Int)+1)=2:=by decide
 have a0:ix [x,y] 0=some x:=rfl
 have a1:ix [x,y] 1=some y:=rfl
 unfold ck.l0
 rw [if_pos (by simp),a0,WL]
 by_cases h:x=0
 ·subst h
  rw [if_neg (by simp),e1,if_pos rfl]
  unfold ck.l0
  rw [if_pos (by simp),a1,WL]
  by_cases h2:y=0
  ·subst h2
   rw [if_neg (by simp),e2]
   unfold ck.l0
   rw [if_neg (by simp)]; rfl
  ·rw [if_pos (by simpa using h2)]; rfl
 ·rw [if_pos (by simpa using h),if_neg h]; rfl
theorem xg {m:Nat}(hm:3≤m)(a b:ae):cV.f m a b=some (cT a b):=by
 unfold cV.f cT
 by_cases h:a.kind=b.kind
 ·rw [if_neg (by simp [h]),if_pos h]
  by_cases h3:a.kind=3
  ·rw [if_pos (by simpa using h3),if_pos h3,xf,B8,WL,WL,yV hm]; rfl
  ·rw [if_neg (by simpa using h3),if_neg h3,xf,B8,WL,WL,yV hm]; rfl
 ·rw [if_pos (by simpa using h),if_neg h,xf]; rfl
def nd (l:List ae)(i:Int):ae:=l.getD i.toNat ⟨0,0,⟨#[]⟩,[]⟩
theorem hU {l:List ae}{i:Int}(h0:0≤i)(h1:i<l.length):ix l i=some (nd l i):=by
 unfold ix nd
 have h:i.toNat<l.length:=by omega
 rw [if_pos h0,W7,W2 h]; rfl
theorem fw {l:List ae}{i:Int}(h0:0≤i)(h1:i<l.length):nd l i∈l:=by
 have:=hU h0 h1
 unfold ix at this
 rw [if_pos h0] at this
 exact XQ this
theorem FI {m:Nat}(hm:3≤m){l:List ae}{i j:Int}(h0:0≤i)(h1:i<l.length)(h2:0≤j)(h3:j<l.length):dr.f m i j l=some (cT (nd l i) (nd l j)):=by
 unfold dr.f
 rw [hU h0 h1,hU h2 h3,WL,WL,xg hm]; rfl
end Go.Proofs.YtmekcfdllhphlaaDoor
namespace Go.Proofs.YtmekcfdllhphlaaDoor
open Go Go.R
open Go.IntKind (i64 u64 u8 u32)
def pj:cg:=gk [0,1,2,3,4,5,6,7,8,9,10,11,12,13,14,15,17,22,23,24,37,38,39,40,61,73,74,75,76,87,88,89,90,110,126] [12] [34359738365,34359738357,34359345141,34358820853,34359345125,34359345141,34359345141,34359738357,34359738325,34359738261,34352398229,34344009621,34352397845,34335620757,34352397973,34352398229,34352398229,34359737757,34359736733,34124855709,33856420253,34124849565,34124841373,30366749085,26071781789,30366699933,30366749085,30366749085,34124779933,25534910877,34124845469,34124855709,34124855709,17179867613,34359738363,34359738269] [] []
def aw.l0 (m:Nat)(x0:List Int):Nat→(List Int)→Int→Option ((List Int) × Int)
 | 0,_,_=>none
 | k+1,fh,x1=>if (decide (x1<(x0.length:Int)))=true then ((ix fh x1).bind fun v0=>aw.l0 m x0 k (fh.set x1.toNat x1) (i64.wrap (x1+(1:Int)))) else (some ((fh,x1)))
def aw.l1 (m:Nat)(az:List ae)(b9:List Int)(x3:(List Int)):Nat→(List Int)→Int→Int→Option ((List Int) × Int × Int)
 | 0,_,_,_=>none
 | k+1,cq,dN,x5=>if (decide (x5<(b9.length:Int)))=true then ((ix x3 x5).bind fun v1=>if (decide (x5 > (0:Int)))=true then ((ix x3 (i64.wrap (x5 - (1:Int)))).bind fun v2=>(ix az v2).bind fun v3=>(ix az v1).bind fun v4=>(cV.f m v3 v4).bind fun x6=>if (!(x6==(0:Int)))=true then ((ix cq v1).bind fun v5=>aw.l1 m az b9 x3 k (cq.set v1.toNat (i64.wrap (dN+(1:Int)))) (i64.wrap (dN+(1:Int))) (i64.wrap (x5+(1:Int)))) else ((ix cq v1).bind fun v6=>aw.l1 m az b9 x3 k (cq.set v1.toNat dN) dN (i64.wrap (x5+(1:Int))))) else ((ix cq v1).bind fun v7=>aw.l1 m az b9 x3 k (cq.set v1.toNat dN) dN (i64.wrap (x5+(1:Int))))) else (some ((cq,dN,x5)))
def aw.l4 (m:Nat)(cP:List Int)(v8:ae):Nat→(List Int)→Int→Option ((List Int) × Int)
 | 0,_,_=>none
 | k+1,k0,mw=>if (decide (mw<(v8.args.length:Int)))=true then ((ix v8.args mw).bind fun v10=>(ix cP v10).bind fun v11=>(ix k0 (i64.wrap (mw+(1:Int)))).bind fun v12=>aw.l4 m cP v8 k (k0.set (i64.wrap (mw+(1:Int))).toNat (i64.wrap (v11+(1:Int)))) (i64.wrap (mw+(1:Int)))) else (some ((k0,mw)))
def aw.l3 (m:Nat)(az:List ae)(cP:List Int):Nat→(List (List Int × Int))→(List Int)→Int→Option ((List (List Int × Int)) × (List Int) × Int)
 | 0,_,_,_=>none
 | k+1,fy,bR,x9=>if (decide (x9<(az.length:Int)))=true then ((ix az x9).bind fun v8=>(ix cP x9).bind fun v9=>(aw.l4 m cP v8 m ([i64.wrap (v9+(1:Int)),(0:Int),(0:Int),(0:Int),(0:Int),(0:Int),(0:Int),(0:Int),(0:Int)]) (0:Int)).bind fun yW=>match yW with | (k1,Hf)=>(HR 9 fy k1).bind fun r0=>if (!r0.2)=true then ((MA 9 fy k1 (fy.length:Int)).bind fun Kz=>(HR 9 Kz k1).bind fun r1=>(ix bR x9).bind fun H5=>aw.l3 m az cP k Kz (bR.set x9.toNat r1.1) (i64.wrap (x9+(1:Int)))) else ((HR 9 fy k1).bind fun r2=>(ix bR x9).bind fun zP=>aw.l3 m az cP k fy (bR.set x9.toNat r2.1) (i64.wrap (x9+(1:Int))))) else (some ((fy,bR,x9)))
def aw.l2 (m:Nat)(az:List ae):Nat→(List Int)→Int→Option (Sum (List Int) ((List Int) × Int))
 | 0,_,_=>none
 | k+1,cP,jo=>(uL 8 (az.length:Int) (0:Int)).bind fun x8=>(aw.l3 m az cP m ([]:List (List Int × Int)) x8 (0:Int)).bind fun gE=>match gE with | (nr,cQ,H7)=>if ((nr.length:Int)==(i64.wrap (jo+(1:Int))))=true then (some (.inl cP)) else (aw.l2 m az k cQ (i64.wrap ((nr.length:Int) - (1:Int))))
def aw.f (m:Nat)(az:List ae):Option ((List Int)):=(uL 8 (az.length:Int) (0:Int)).bind fun x0=>(aw.l0 m x0 m x0 (0:Int)).bind fun bq=>match bq with | (b9,x2)=>(eV.f m b9 (fun y0 y1=>dr.f m y0 y1 az)).bind fun x3=>(uL 8 (az.length:Int) (0:Int)).bind fun x4=>(aw.l1 m az b9 x3 m x4 (0:Int) (0:Int)).bind fun pc=>match pc with | (jm,many1,x7)=>(aw.l2 m az m jm many1).bind fun FJ=>match FJ with | .inl r3=>some r3 | .inr (my,Ng)=>none
def aw.fin (L:Mem)(r:(List Int))(s:St):Prop:=∃av,aI Tryd.prog (s.open pj) Tryd.f67.results.toList=some av∧fB s.h av (aa.fz r)
def SL (cf:CallF)(m:Nat):Prop:=∀(az:List ae) (r:(List Int)),aw.f m az=some r→∀h xs,ej eL h xs [af.fz az]→cf 67 xs h=some (aa.fz r,h)
section
variable {cf:CallF}{m:Nat}
theorem aw.bG (L:Mem)(az:List ae)(aB:Nat)(x0:List Int)   : bI Tryd.prog cf pj m (sub [1,1,0,1,0,0] (codeOf Tryd.f67)) (fun k (σ:(List Int) × Int)=>aw.l0 m x0 k σ.1 σ.2) (fun σ s=>match σ with | (fh,x1)=>∃dj h2,s=⟨.any :: .ptr aB 0 :: .any :: .rs dj 0 fh.length 1::nP (.int .i64 (x0.length:Int) :: .int .i64 x1::Dl []),[none],h2⟩∧Has h2 ((dj,.sl fh.length 1 (aa.l fh))::(aB,.ob [af.fz az])::L)) (fun out e s=>(e = .exit 0∧∃fh x1,(fh,x1)=out∧∃AD P6 KA dj h2,s=⟨.any :: .ptr aB 0 :: .any :: .rs dj 0 fh.length 1::nP (AD::P6::KA::HY []),[none],h2⟩∧Has h2 ((dj,.sl fh.length 1 (aa.l fh))::(aB,.ob [af.fz az])::L))):=by
 refine gS (fun _=>rfl) ?_
 rintro k ⟨fh,x1⟩ s out ⟨dj,h2,rfl,o2⟩ H
 have H:aw.l0 m x0 (k+1) fh x1=some out:=H
 refine q1 <| qq <| qc H (fun c0 H=>?_) (fun c0 H=>?_)
 ·refine qk <| qq <| qb 1 <| qq <| q0 ?_
  obtain⟨v0,e3,H⟩:=aJ H
  obtain⟨h3,e4,o3⟩:=dJ (P:=Tryd.prog) (tf:=3) (E:=aa) (l:=fh) (q:=0) (v:=x1) (x:=.int .i64 x1) o2 rfl Z3 e3 rfl rfl
  exact qr [.v 3 (aH (k:=.i64) (E:=aa) (l:=fh) (q:=0) dC o2 rfl e3),.w 4 e4] <| q0 <| ⟨(fh.set x1.toNat x1,i64.wrap (x1+(1:Int))),⟨dj,h3,(XO (b:=⟨.any :: .ptr aB 0 :: .any :: .rs dj 0 fh.length 1::nP (.int .i64 (x0.length:Int) :: .int .i64 (i64.wrap (x1+(1:Int)))::Dl []),[none],h3⟩) (by kernel_rfl) (by simp only [WW])),(by have o:Has h3 ((dj,.sl fh.length 1 (aa.l (fh.set x1.toNat x1)))::(aB,.ob [af.fz az])::L):=o3; simpa only [WW] using o)⟩,H⟩
 ·exact qx 0 <| ⟨rfl,fh,x1,oi H,.int .i64 (x0.length:Int),.int .i64 x1,.bool (decide (x1<(x0.length:Int))),dj,h2,by kernel_rfl,o2⟩
theorem aw.fu (L:Mem)(az:List ae)(aB:Nat)(fA:Nat)(b9:List Int)(fA:Nat)(x3:(List Int))  (yU:Nb cf m):bI Tryd.prog cf pj m (sub [1,1,1,1,1,1,0,1,0,0] (codeOf Tryd.f67)) (fun k (σ:(List Int) × Int × Int)=>aw.l1 m az b9 x3 k σ.1 σ.2.1 σ.2.2) (fun σ s=>match σ with | (cq,dN,x5)=>∃gU h7,s=⟨.any :: .ptr aB 0 :: .any :: .rs fA 0 b9.length 1 :: .any :: .rs gU 0 cq.length 1 :: .int .i64 dN::nP (.rs fA 0 b9.length 1 :: .int .i64 (b9.length:Int) :: .int .i64 x5::mS []),[none],h7⟩∧Has h7 ((gU,.sl cq.length 1 (aa.l cq))::(fA,.sl b9.length 1 (aa.l x3))::(aB,.ob [af.fz az])::L)) (fun out e s=>(e = .exit 2∧∃cq dN x5,(cq,dN,x5)=out∧∃tu FK FL FM FN gU h7,s=⟨.any :: .ptr aB 0 :: .any::tu :: .any :: .rs gU 0 cq.length 1 :: .int .i64 dN::nP (FK::FL::FM::FN::oV []),[none],h7⟩∧Has h7 ((gU,.sl cq.length 1 (aa.l cq))::(fA,.sl b9.length 1 (aa.l x3))::(aB,.ob [af.fz az])::L))):=by
 refine gS (fun _=>rfl) ?_
 rintro k ⟨cq,dN,x5⟩ s out ⟨gU,h7,rfl,o7⟩ H
 have H:aw.l1 m az b9 x3 (k+1) cq dN x5=some out:=H
 refine q1 <| qq <| qc H (fun c1 H=>?_) (fun c1 H=>?_)
 ·refine qk <| qq <| qb 3 <| qq ?_
  obtain⟨v1,mU,H⟩:=aJ H
  refine qr [.v 1 (aH (k:=.i64) (E:=aa) (l:=x3) (q:=1) dC o7 rfl mU),.v 2 (bg  (E:=aa) (l:=x3) (q:=1) o7 rfl A3 mU rfl)] <| qq <| qq ?_
  rcases dw H with⟨c2,H⟩| ⟨c2,H⟩
  ·obtain⟨v2,rn,H⟩:=aJ H
   obtain⟨v3,si,H⟩:=aJ H
   obtain⟨v4,sj,H⟩:=aJ H
   obtain⟨x6,uS,H⟩:=aJ H
   refine qr [.b 2 c2,.v 3 (show bk Tryd.prog h7 29 (.ptr aB 0)=some (af.fz az) from cn (q:=2) (cs:=[af.fz az]) o7 rfl (by kernel_rfl)),.v 7 (aH (k:=.i64) (E:=aa) (l:=x3) (q:=1) dC o7 rfl rn),.v 8 (bg  (E:=aa) (l:=x3) (q:=1) o7 rfl A3 rn rfl),.v 9 (bo (k:=.i64) (E:=af) (l:=az) kT si),.v 10 (cO  (E:=af) (l:=az) h7 ri rj si),.v 11 (show bk Tryd.prog h7 29 (.ptr aB 0)=some (af.fz az) from cn (q:=2) (cs:=[af.fz az]) o7 rfl (by kernel_rfl)),.v 13 (bo (k:=.i64) (E:=af) (l:=az) kT sj),.v 14 (cO  (E:=af) (l:=az) h7 ri rj sj),.a 15 (yU _ _ _ uS h7 _ (ga (ab (bQ (ab (aE) (ab (aE) (ab (bK) (ab (bS (E:=aa)) (ax)))))) (ab (bQ (ab (aE) (ab (aE) (ab (bK) (ab (bS (E:=aa)) (ax)))))) (ax)))))] ?_
   refine qc H (fun c3 H=>?_) (fun c3 H=>?_)
   ·refine q0 ?_
    obtain⟨v5,uz,H⟩:=aJ H
    obtain⟨h8,xM,o8⟩:=dJ (P:=Tryd.prog) (tf:=3) (E:=aa) (l:=cq) (q:=0) (v:=(i64.wrap (dN+(1:Int)))) (x:=.int .i64 (i64.wrap (dN+(1:Int)))) o7 rfl Z3 uz rfl rfl
    exact qr [.v 3 (aH (k:=.i64) (E:=aa) (l:=cq) (q:=0) dC o7 rfl uz),.w 4 xM] <| q0 <| ⟨(cq.set v1.toNat (i64.wrap (dN+(1:Int))),i64.wrap (dN+(1:Int)),i64.wrap (x5+(1:Int))),⟨gU,h8,(XO (b:=⟨.any :: .ptr aB 0 :: .any :: .rs fA 0 b9.length 1 :: .any :: .rs gU 0 cq.length 1 :: .int .i64 (i64.wrap (dN+(1:Int)))::nP (.rs fA 0 b9.length 1 :: .int .i64 (b9.length:Int) :: .int .i64 (i64.wrap (x5+(1:Int)))::mS []),[none],h8⟩) (by kernel_rfl) (by simp only [WW])),(by have o:Has h8 ((gU,.sl cq.length 1 (aa.l (cq.set v1.toNat (i64.wrap (dN+(1:Int))))))::(fA,.sl b9.length 1 (aa.l x3))::(aB,.ob [af.fz az])::L):=o8; simpa only [WW] using o)⟩,H⟩
   ·refine qk ?_
    obtain⟨v6,w9,H⟩:=aJ H
    obtain⟨h9,BY,o9⟩:=dJ (P:=Tryd.prog) (tf:=3) (E:=aa) (l:=cq) (q:=0) (v:=dN) (x:=.int .i64 dN) o7 rfl Z3 w9 rfl rfl
    exact qr [.v 3 (aH (k:=.i64) (E:=aa) (l:=cq) (q:=0) dC o7 rfl w9),.w 4 BY] <| q0 <| ⟨(cq.set v1.toNat dN,dN,i64.wrap (x5+(1:Int))),⟨gU,h9,(XO (b:=⟨.any :: .ptr aB 0 :: .any :: .rs fA 0 b9.length 1 :: .any :: .rs gU 0 cq.length 1 :: .int .i64 dN::nP (.rs fA 0 b9.length 1 :: .int .i64 (b9.length:Int) :: .int .i64 (i64.wrap (x5+(1:Int)))::mS []),[none],h9⟩) (by kernel_rfl) (by simp only [WW])),(by have o:Has h9 ((gU,.sl cq.length 1 (aa.l (cq.set v1.toNat dN)))::(fA,.sl b9.length 1 (aa.l x3))::(aB,.ob [af.fz az])::L):=o9; simpa only [WW] using o)⟩,H⟩
  ·refine qr [.b 2 c2] <| Dq <| qk ?_
   obtain⟨v7,xb,H⟩:=aJ H
   obtain⟨h10,BZ,uQ⟩:=dJ (P:=Tryd.prog) (tf:=3) (E:=aa) (l:=cq) (q:=0) (v:=dN) (x:=.int .i64 dN) o7 rfl Z3 xb rfl rfl
   exact qr [.v 3 (aH (k:=.i64) (E:=aa) (l:=cq) (q:=0) dC o7 rfl xb),.w 4 BZ] <| q0 <| ⟨(cq.set v1.toNat dN,dN,i64.wrap (x5+(1:Int))),⟨gU,h10,(XO (b:=⟨.any :: .ptr aB 0 :: .any :: .rs fA 0 b9.length 1 :: .any :: .rs gU 0 cq.length 1 :: .int .i64 dN::nP (.rs fA 0 b9.length 1 :: .int .i64 (b9.length:Int) :: .int .i64 (i64.wrap (x5+(1:Int)))::mS []),[none],h10⟩) (by kernel_rfl) (by simp only [WW])),(by have o:Has h10 ((gU,.sl cq.length 1 (aa.l (cq.set v1.toNat dN)))::(fA,.sl b9.length 1 (aa.l x3))::(aB,.ob [af.fz az])::L):=uQ; simpa only [WW] using o)⟩,H⟩
 ·exact qx 2 <| ⟨rfl,cq,dN,x5,oi H,.rs fA 0 b9.length 1,.rs fA 0 b9.length 1,.int .i64 (b9.length:Int),.int .i64 x5,.bool (decide (x5<(b9.length:Int))),gU,h7,(XO (b:=⟨.any :: .ptr aB 0 :: .any :: .rs fA 0 b9.length 1 :: .any :: .rs gU 0 cq.length 1 :: .int .i64 dN::nP (.rs fA 0 b9.length 1 :: .int .i64 (b9.length:Int) :: .int .i64 x5 :: .bool (decide (x5<(b9.length:Int)))::oV []),[none],h7⟩) (by kernel_rfl) (by simp only [WW])),(by have o:Has h7 ((gU,.sl cq.length 1 (aa.l cq))::(fA,.sl b9.length 1 (aa.l x3))::(aB,.ob [af.fz az])::L):=o7; simpa only [WW] using o)⟩
theorem aw.tM (L:Mem)(az:List ae)(aB:Nat)(iy:Nat)(cP:List Int)(jo:Int)(iy:Nat)(kO:Nat)(eQ:Nat)(fy:List (List Int × Int))(bR:List Int)(x9:Int)(eQ:Nat)(v8:ae)(nU:Nat)   : bI Tryd.prog cf pj m (sub [1,1,1,1,1,1,1,0,0,0,1,1,0,1,0,0,1,1,0,0,1,1,0,1,0,0] (codeOf Tryd.f67)) (fun k (σ:(List Int) × Int)=>aw.l4 m cP v8 k σ.1 σ.2) (fun σ s=>match σ with | (k0,mw)=>∃h18,s=⟨.any :: .ptr aB 0::jW (.rs iy 0 cP.length 1 :: .int .i64 jo :: .any :: .any :: .mp kO :: .rs eQ 0 bR.length 1 :: .int .i64 x9 :: .any :: .ptr nU 0::oV (af.fz az :: .int .i64 (az.length:Int) :: .int .i64 x9 :: .any::aa.fz v8.args :: .int .i64 (v8.args.length:Int) :: .int .i64 mw::jW [])),[none],h18⟩∧Has h18 ((nU,.sl 9 1 (aa.l k0))::(eQ,.sl bR.length 1 (aa.l bR))::(kO,.mp (uM fy))::(iy,.sl cP.length 1 (aa.l cP))::(aB,.ob [af.fz az])::L)) (fun out e s=>(e = .exit 8∧∃k0 mw,(k0,mw)=out∧∃P7 P8 P9 Qa h18,s=⟨.any :: .ptr aB 0::jW (.rs iy 0 cP.length 1 :: .int .i64 jo :: .any :: .any :: .mp kO :: .rs eQ 0 bR.length 1 :: .int .i64 x9 :: .any :: .ptr nU 0::oV [af.fz az,.int .i64 (az.length:Int),.int .i64 x9,.any,P7,P8,P9,Qa,.any,.any]),[none],h18⟩∧Has h18 ((nU,.sl 9 1 (aa.l k0))::(eQ,.sl bR.length 1 (aa.l bR))::(kO,.mp (uM fy))::(iy,.sl cP.length 1 (aa.l cP))::(aB,.ob [af.fz az])::L))):=by
 refine gS (fun _=>rfl) ?_
 rintro k ⟨k0,mw⟩ s out ⟨h18,rfl,DB⟩ H
 have H:aw.l4 m cP v8 (k+1) k0 mw=some out:=H
 refine q1 <| qq <| qc H (fun c6 H=>?_) (fun c6 H=>?_)
 ·refine qk <| qq <| qb 9 <| qq ?_
  obtain⟨v10,Fz,H⟩:=aJ H
  refine qr [.v 1 (bo (k:=.i64) (E:=aa) (l:=v8.args) dC Fz),.v 2 (cY  (E:=aa) (l:=v8.args) h18 A3 Fz rfl)] ?_
  obtain⟨v11,Fx,H⟩:=aJ H
  obtain⟨v12,H6,H⟩:=aJ H
  obtain⟨h19,KB,KC⟩:=dJ (P:=Tryd.prog) (tf:=3) (E:=aa) (l:=k0) (q:=0) (v:=(i64.wrap (v11+(1:Int)))) (x:=.int .i64 (i64.wrap (v11+(1:Int)))) DB rfl Z3 H6 rfl rfl
  exact qr [.v 4 (aH (k:=.i64) (E:=aa) (l:=cP) (q:=3) dC DB rfl Fx),.v 5 (bg  (E:=aa) (l:=cP) (q:=3) DB rfl A3 Fx rfl),.v 7 (Ka (k:=.i64) (q:=0) (l:=k0) vA DB rfl H6),.w 8 KB] <| q0 <| ⟨(k0.set (i64.wrap (mw+(1:Int))).toNat (i64.wrap (v11+(1:Int))),i64.wrap (mw+(1:Int))),⟨h19,by kernel_rfl,KC⟩,H⟩
 ·exact qx 8 <| ⟨rfl,k0,mw,oi H,aa.fz v8.args,.int .i64 (v8.args.length:Int),.int .i64 mw,.bool (decide (mw<(v8.args.length:Int))),h18,by kernel_rfl,DB⟩
theorem aw.tL (L:Mem)(az:List ae)(aB:Nat)(iy:Nat)(cP:List Int)(jo:Int)(iy:Nat)(kO:Nat)   : bI Tryd.prog cf pj m (sub [1,1,1,1,1,1,1,0,0,0,1,1,0,1,0,0] (codeOf Tryd.f67)) (fun k (σ:(List (List Int × Int)) × (List Int) × Int)=>aw.l3 m az cP k σ.1 σ.2.1 σ.2.2) (fun σ s=>match σ with | (fy,bR,x9)=>∃eQ h15,s=⟨.any :: .ptr aB 0::jW (.rs iy 0 cP.length 1 :: .int .i64 jo :: .any :: .any :: .mp kO :: .rs eQ 0 bR.length 1::rE (af.fz az :: .int .i64 (az.length:Int) :: .int .i64 x9::Dk [])),[none],h15⟩∧Has h15 ((eQ,.sl bR.length 1 (aa.l bR))::(kO,.mp (uM fy))::(iy,.sl cP.length 1 (aa.l cP))::(aB,.ob [af.fz az])::L)) (fun out e s=>(e = .exit 6∧∃fy bR x9,(fy,bR,x9)=out∧∃Qb Qc Qd Qe eQ h15,s=⟨.any :: .ptr aB 0::jW (.rs iy 0 cP.length 1 :: .int .i64 jo :: .any :: .any :: .mp kO :: .rs eQ 0 bR.length 1::rE (Qb::Qc::Qd::Qe::Ha [])),[none],h15⟩∧Has h15 ((eQ,.sl bR.length 1 (aa.l bR))::(kO,.mp (uM fy))::(iy,.sl cP.length 1 (aa.l cP))::(aB,.ob [af.fz az])::L))):=by
 refine gS (fun _=>rfl) ?_
 rintro k ⟨fy,bR,x9⟩ s out ⟨eQ,h15,rfl,lQ⟩ H
 have H:aw.l3 m az cP (k+1) fy bR x9=some out:=H
 refine q1 <| qq <| qc H (fun c5 H=>?_) (fun c5 H=>?_)
 ·refine qk <| qq <| qb 7 <| qq ?_
  obtain⟨v8,Fw,H⟩:=aJ H
  refine qr [.v 1 (bo (k:=.i64) (E:=af) (l:=az) kT Fw),.v 2 (cO  (E:=af) (l:=az) h15 ri rj Fw)] <| qq ?_
  obtain⟨v9,FA,H⟩:=aJ H
  obtain⟨nU,h16,He,AE⟩:=HT (cs:=[.int .i64 (0:Int),.int .i64 (0:Int),.int .i64 (0:Int),.int .i64 (0:Int),.int .i64 (0:Int),.int .i64 (0:Int),.int .i64 (0:Int),.int .i64 (0:Int),.int .i64 (0:Int)]) (l:=[(0:Int),(0:Int),(0:Int),(0:Int),(0:Int),(0:Int),(0:Int),(0:Int),(0:Int)]) lQ (by kernel_rfl)
  obtain⟨h17,Fy,DA⟩:=Kb (q:=0) (l:=([(0:Int),(0:Int),(0:Int),(0:Int),(0:Int),(0:Int),(0:Int),(0:Int),(0:Int)])) (l':=[i64.wrap (v9+(1:Int)),(0:Int),(0:Int),(0:Int),(0:Int),(0:Int),(0:Int),(0:Int),(0:Int)]) (x:=.agg [.int .i64 (i64.wrap (v9+(1:Int))),.int .i64 (0:Int),.int .i64 (0:Int),.int .i64 (0:Int),.int .i64 (0:Int),.int .i64 (0:Int),.int .i64 (0:Int),.int .i64 (0:Int),.int .i64 (0:Int)]) vA AE rfl rfl rfl
  refine qr [.v 2 (aH (k:=.i64) (E:=aa) (l:=cP) (q:=2) dC lQ rfl FA),.v 3 (bg  (E:=aa) (l:=cP) (q:=2) lQ rfl A3 FA rfl),.a 6 He,.w 7 Fy] <| qq <| qq <| q0 <| qb 8 ?_
  obtain⟨yW,Hg,H⟩:=aJ H
  refine ql (aw.tM L az aB iy cP jo iy kO eQ fy bR x9 eQ v8 nU   ([i64.wrap (v9+(1:Int)),(0:Int),(0:Int),(0:Int),(0:Int),(0:Int),(0:Int),(0:Int),(0:Int)],(0:Int)) _ _ ⟨h17,by kernel_rfl,DA⟩ Hg) ?_
  rintro e s ⟨rfl,k1,Hf,rfl,g13,g14,g15,g16,h20,rfl,xh⟩
  try dsimp only at H
  refine qq <| qq ?_
  obtain⟨r0,LB,H⟩:=aJ H
  refine qr [.v 1 (show bk Tryd.prog h20 116 (.ptr nU 0)=some (.agg (aa.l k1)) from wU (q:=0) (l:=k1) vA xh rfl),.v 2 (show fH Tryd.prog h20 114 (.mp kO) (.agg (aa.l k1)) true=some (.tup [.int .i64 r0.1,.bool r0.2]) from (J8 (q:=2) (l:=fy) (k:=k1) BP xh rfl LB).1)] <| qq <| q0 <| qc H (fun c7 H=>?_) (fun c7 H=>?_)
  ·obtain⟨Kz,LC,H⟩:=aJ H
   obtain⟨h21,Nh,FO⟩:=Pv (q:=2) (l:=fy) (k:=k1) (v:=(fy.length:Int)) BP xh rfl LC
   refine qr [.v 1 (show bk Tryd.prog h20 116 (.ptr nU 0)=some (.agg (aa.l k1)) from wU (q:=0) (l:=k1) vA xh rfl),.v 3 (show sr Tryd.prog h20 114 (.mp kO)=some (.int .i64 (fy.length:Int)) from J9 (q:=2) (l:=fy) Fg xh rfl),.w 4 Nh] ?_
   obtain⟨r1,Ni,H⟩:=aJ H
   obtain⟨H5,KD,H⟩:=aJ H
   obtain⟨h22,LD,D5⟩:=dJ (P:=Tryd.prog) (tf:=3) (E:=aa) (l:=bR) (q:=1) (v:=r1.1) (x:=.int .i64 r1.1) FO rfl Z3 KD rfl rfl
   refine qr [.v 3 (show bk Tryd.prog h21 116 (.ptr nU 0)=some (.agg (aa.l k1)) from wU (q:=0) (l:=k1) vA FO rfl),.v 4 (show fH Tryd.prog h21 114 (.mp kO) (.agg (aa.l k1)) false=some (.int .i64 r1.1) from (J8 (q:=2) (l:=Kz) (k:=k1) BP FO rfl Ni).2),.v 5 (aH (k:=.i64) (E:=aa) (l:=bR) (q:=1) dC FO rfl KD),.w 6 LD] ?_
   have H8:Has h22 ((eQ,.sl bR.length 1 (aa.l (bR.set x9.toNat r1.1)))::(kO,.mp (uM Kz))::(iy,.sl cP.length 1 (aa.l cP))::(aB,.ob [af.fz az])::L):=Has.del D5 0
   exact q0 <| ⟨(Kz,bR.set x9.toNat r1.1,i64.wrap (x9+(1:Int))),⟨eQ,h22,(XO (b:=⟨.any :: .ptr aB 0::jW (.rs iy 0 cP.length 1 :: .int .i64 jo :: .any :: .any :: .mp kO :: .rs eQ 0 bR.length 1::rE (af.fz az :: .int .i64 (az.length:Int) :: .int .i64 (i64.wrap (x9+(1:Int)))::Dk [])),[none],h22⟩) (by kernel_rfl) (by simp only [WW])),(by have o:Has h22 ((eQ,.sl bR.length 1 (aa.l (bR.set x9.toNat r1.1)))::(kO,.mp (uM Kz))::(iy,.sl cP.length 1 (aa.l cP))::(aB,.ob [af.fz az])::L):=H8; simpa only [WW] using o)⟩,H⟩
  ·refine qk ?_
   obtain⟨r2,Nj,H⟩:=aJ H
   obtain⟨zP,H9,H⟩:=aJ H
   obtain⟨h23,I6,Nk⟩:=dJ (P:=Tryd.prog) (tf:=3) (E:=aa) (l:=bR) (q:=1) (v:=r2.1) (x:=.int .i64 r2.1) xh rfl Z3 H9 rfl rfl
   refine qr [.v 3 (show bk Tryd.prog h20 116 (.ptr nU 0)=some (.agg (aa.l k1)) from wU (q:=0) (l:=k1) vA xh rfl),.v 4 (show fH Tryd.prog h20 114 (.mp kO) (.agg (aa.l k1)) false=some (.int .i64 r2.1) from (J8 (q:=2) (l:=fy) (k:=k1) BP xh rfl Nj).2),.v 5 (aH (k:=.i64) (E:=aa) (l:=bR) (q:=1) dC xh rfl H9),.w 6 I6] ?_
   have mW:Has h23 ((eQ,.sl bR.length 1 (aa.l (bR.set x9.toNat r2.1)))::(kO,.mp (uM fy))::(iy,.sl cP.length 1 (aa.l cP))::(aB,.ob [af.fz az])::L):=Has.del Nk 0
   exact q0 <| ⟨(fy,bR.set x9.toNat r2.1,i64.wrap (x9+(1:Int))),⟨eQ,h23,(XO (b:=⟨.any :: .ptr aB 0::jW (.rs iy 0 cP.length 1 :: .int .i64 jo :: .any :: .any :: .mp kO :: .rs eQ 0 bR.length 1::rE (af.fz az :: .int .i64 (az.length:Int) :: .int .i64 (i64.wrap (x9+(1:Int)))::Dk [])),[none],h23⟩) (by kernel_rfl) (by simp only [WW])),(by have o:Has h23 ((eQ,.sl bR.length 1 (aa.l (bR.set x9.toNat r2.1)))::(kO,.mp (uM fy))::(iy,.sl cP.length 1 (aa.l cP))::(aB,.ob [af.fz az])::L):=mW; simpa only [WW] using o)⟩,H⟩
 ·exact qx 6 <| ⟨rfl,fy,bR,x9,oi H,af.fz az,.int .i64 (az.length:Int),.int .i64 x9,.bool (decide (x9<(az.length:Int))),eQ,h15,by kernel_rfl,lQ⟩
theorem aw.pe (L:Mem)(az:List ae)(aB:Nat)   : bI Tryd.prog cf pj m (sub [1,1,1,1,1,1,1,0,0] (codeOf Tryd.f67)) (fun k (σ:(List Int) × Int)=>aw.l2 m az k σ.1 σ.2) (fun σ s=>match σ with | (cP,jo)=>∃g8 g9 g10 g11 g12 iy h12,s=⟨.any :: .ptr aB 0 :: .any::g8 :: .any :: .rs iy 0 cP.length 1 :: .int .i64 jo::nP (g9::g10::g11::g12::oV []),[none],h12⟩∧Has h12 ((iy,.sl cP.length 1 (aa.l cP))::(aB,.ob [af.fz az])::L)) (fun out e s=>(e = .exit 4∧∃cP jo,.inr (cP,jo)=out∧∃rF tu xi AJ FK FL FM FN iy h12,s=⟨.any::rF :: .any::tu :: .any::xi::AJ::nP (FK::FL::FM::FN::oV []),[none],h12⟩∧Has h12 ((iy,.sl cP.length 1 (aa.l cP))::(aB,.ob [af.fz az])::L))∨(e = .ret∧∃r,.inl r=out∧aw.fin L r s)):=by
 refine gS (fun _=>rfl) ?_
 rintro k ⟨cP,jo⟩ s out ⟨g8,g9,g10,g11,g12,iy,h12,rfl,lK⟩ H
 have H:aw.l2 m az (k+1) cP jo=some out:=H
 refine qb 5 <| qq ?_
 obtain⟨kO,h13,D2,yL⟩:=E2 lK
 refine qr [.m 0 D2] <| qq ?_
 obtain⟨x8,Fv,H⟩:=aJ H
 obtain⟨xN,h14,D3,zO⟩:=nM (P:=Tryd.prog) (E:=aa) (z:=(0:Int)) (zv:=.int .i64 (0:Int)) dC yL 3 rfl rfl rfl rfl Fv
 refine qr [.v 0 (show bk Tryd.prog h13 29 (.ptr aB 0)=some (af.fz az) from cn (q:=2) (cs:=[af.fz az]) yL rfl (by kernel_rfl)),.a 2 D3] <| qq <| qq <| qr [.v 0 (show bk Tryd.prog h14 29 (.ptr aB 0)=some (af.fz az) from cn (q:=3) (cs:=[af.fz az]) zO rfl (by kernel_rfl))] <| qb 6 ?_
 obtain⟨gE,I7,H⟩:=aJ H
 refine ql (aw.tL L az aB iy cP jo iy kO   (([]:List (List Int × Int)),x8,(0:Int)) _ _ ⟨xN,h14,by kernel_rfl,zO⟩ I7) ?_
 rintro e s ⟨rfl,nr,cQ,H7,rfl,g17,g18,g19,g20,fP,h24,rfl,I8⟩
 try dsimp only at H
 refine qq <| qq <| qr [.v 1 (show sr Tryd.prog h24 114 (.mp kO)=some (.int .i64 (nr.length:Int)) from J9 (q:=1) (l:=nr) Fg I8 rfl)] <| qc H (fun c8 H=>?_) (fun c8 H=>?_)
 ·refine q1 ?_
  have Hh:Has h24 ((fP,.sl cQ.length 1 (aa.l cQ))::(kO,.mp (uM nr))::(iy,.sl cP.length 1 (aa.l cP))::L):=Has.del I8 3
  have Nl:Has h24 ((fP,.sl cQ.length 1 (aa.l cQ))::(iy,.sl cP.length 1 (aa.l cP))::L):=Has.del Hh 1
  have Nn:Has h24 ((iy,.sl cP.length 1 (aa.l cP))::L):=Has.del Nl 0
  exact qt <| XH (⟨rfl,_,oi H,bZ (.rs iy 0 cP.length 1) h24 (bX (yB (E:=aa) (l:=cP) (q:=0) Nn rfl (fun _=>rfl)))⟩)
 ·refine qk <| qr [.v 2 (show sr Tryd.prog h24 114 (.mp kO)=some (.int .i64 (nr.length:Int)) from J9 (q:=1) (l:=nr) Fg I8 rfl)] ?_
  have Ol:Has h24 ((fP,.sl cQ.length 1 (aa.l cQ))::(kO,.mp (uM nr))::(aB,.ob [af.fz az])::L):=Has.del I8 2
  have Qf:Has h24 ((fP,.sl cQ.length 1 (aa.l cQ))::(aB,.ob [af.fz az])::L):=Has.del Ol 1
  exact⟨(cQ,i64.wrap ((nr.length:Int) - (1:Int))),⟨.any,.any,.any,.any,.any,fP,h24,by kernel_rfl,Qf⟩,H⟩
theorem pn {aS:FuncId→cg}(ha:aS 67=pj)(yU:Nb cf m)(Qg:SF cf m)(Qh:SK cf m)(az:List ae)(h:AHeap)(L:Mem)  (o:Has h (L)){out:(List Int)}(H:aw.f m az=some out) :
  ∃r h',a7 Tryd.prog aS cf m 67 [af.fz az] h=some (r,h')∧fB h' r (aa.fz out):=by
 refine ak (fn:=Tryd.f67) ha Tryd.func67 (by kernel_rfl) (by kernel_rfl) ?_
 refine aF (Q:=fun s=>aw.fin L out s) (fun _ _ h=>h) ?_
 have H:_=some out:=H
 unfold aw.f at H
 show de _ cf pj m _ ⟨af.fz az::PB [],[none],h⟩ _
 refine qq ?_
 obtain⟨aB,h0,e0,o0⟩:=ko (cs:=[af.fz az]) o (by kernel_rfl)
 refine qr [.a 0 e0] <| qq ?_
 obtain⟨x0,e1,H⟩:=aJ H
 obtain⟨gF,h1,e2,o1⟩:=nM (P:=Tryd.prog) (E:=aa) (z:=(0:Int)) (zv:=.int .i64 (0:Int)) dC o0 3 rfl rfl rfl rfl e1
 refine qr [.v 0 (show bk Tryd.prog h0 29 (.ptr aB 0)=some (af.fz az) from cn (q:=0) (cs:=[af.fz az]) o0 rfl (by kernel_rfl)),.a 2 e2] <| qq <| qq <| q0 <| qb 0 ?_
 obtain⟨bq,e5,H⟩:=aJ H
 refine ql (aw.bG L az aB x0   (x0,(0:Int)) _ _ ⟨gF,h1,by kernel_rfl,o1⟩ e5) ?_
 rintro e s ⟨rfl,b9,x2,rfl,g0,g1,g2,fA,h4,rfl,o4⟩
 try dsimp only at H
 refine qq ?_
 obtain⟨x3,e6,H⟩:=aJ H
 obtain⟨h5,e7,o5⟩:=Qg _ _ _ e6 h4 _ _ _ (o4) 85 [.ptr aB 0] rfl (fun h' K' o' y0 y1 r hr=>Qh y0 y1 _ r hr h' _ (K'.length+0) _ o' (J7 rfl)) [.rs fA 0 b9.length 1,.fn 85 [.ptr aB 0]] (ao (rfl) (ao (rfl) (bj)))
 refine qr [.a 2 e7] <| qq ?_
 obtain⟨x4,e8,H⟩:=aJ H
 obtain⟨gX,h6,e9,o6⟩:=nM (P:=Tryd.prog) (E:=aa) (z:=(0:Int)) (zv:=.int .i64 (0:Int)) dC o5 3 rfl rfl rfl rfl e8
 refine qr [.v 0 (show bk Tryd.prog h5 29 (.ptr aB 0)=some (af.fz az) from cn (q:=1) (cs:=[af.fz az]) o5 rfl (by kernel_rfl)),.a 2 e9] <| qq <| q0 <| qq <| qq <| q0 <| qb 2 ?_
 obtain⟨pc,D4,H⟩:=aJ H
 refine ql (aw.fu L az aB fA b9 fA x3  yU (x4,(0:Int),(0:Int)) _ _ ⟨gX,h6,(XO (b:=⟨.any :: .ptr aB 0 :: .any :: .rs fA 0 b9.length 1 :: .any :: .rs gX 0 x4.length 1 :: .int .i64 (0:Int)::nP (.rs fA 0 b9.length 1 :: .int .i64 (b9.length:Int) :: .int .i64 (0:Int)::mS []),[none],h6⟩) (by kernel_rfl) (by simp only [WW])),(by have o:Has h6 ((gX,.sl x4.length 1 (aa.l x4))::(fA,.sl b9.length 1 (aa.l x3))::(aB,.ob [af.fz az])::L):=o6; simpa only [WW] using o)⟩ D4) ?_
 rintro e s ⟨rfl,jm,many1,x7,rfl,g3,g4,g5,g6,g7,gV,h11,rfl,vB⟩
 try dsimp only at H
 refine qb 4 ?_
 have tI:Has h11 ((gV,.sl jm.length 1 (aa.l jm))::(aB,.ob [af.fz az])::L):=Has.del vB 1
 obtain⟨FJ,LF,H⟩:=aJ H
 refine ql (aw.pe L az aB   (jm,many1) _ _ ⟨g3,g4,g5,g6,g7,gV,h11,by kernel_rfl,tI⟩ LF) ?_
 rintro e s (⟨rfl,my,Ng,rfl,g21,g22,g23,g24,Wv,Ww,Wx,Wy,gW,h25,rfl,Wz⟩| ⟨rfl,r3,rfl,lJ⟩)
 ·try dsimp only at H
  cases H
 ·try dsimp only at H
  obtain rfl:=oi H
  exact⟨.inl rfl,lJ⟩
end
end Go.Proofs.YtmekcfdllhphlaaDoor
namespace Go.Proofs.YtmekcfdllhphlaaDoor
open Go Go.R
open Go.IntKind (i64 u64 u8 u32)
def key (out:List Int)(n:ae)(i:Nat):List Int:=(gt out i+1)::((n.args.map fun a=>gt out a.toNat+1)++W8 (8 - n.args.length) 0)
def enum:List (List Int)→Nat→List (List Int × Int)
 | [],_=>[]
 | k::ks,s=>(k,(s:Int))::enum ks (s+1)
theorem mz:∀(ks:List (List Int)) (s:Nat),(enum ks s).length=ks.length
 | [],_=>rfl
 | k::ks,s=>by simp [enum,mz ks]
theorem tP:∀(ks:List (List Int)) (s:Nat) (k:List Int),tc (enum ks s) k=if k∈ks then (((s+ks.idxOf k:Nat):Int),true) else (0,false)
 | [],s,k=>rfl
 | a::ks,s,k=>by
  simp only [enum,tc,tP ks (s+1) k,Xs,List.idxOf_cons]
  by_cases h:k=a
  ·subst h; simp
  ·have h':(a==k)=false:=by simpa using fun z:a=k=>h z.symm
   rw [if_neg h,h']
   by_cases h2:k∈ks
   ·simp only [h2,if_true,or_true,cond_false]
    simp only [WV,and_true]
    omega
   ·simp [h2,h]
theorem yX:∀(ks:List (List Int)) (s:Nat) (k:List Int),k∉ks→Av (enum ks s) k ((s+ks.length:Nat):Int)=enum (ks++[k]) s
 | [],s,k,_=>rfl
 | a::ks,s,k,h=>by
  have h1:k≠a:=fun z=>h (by simp [z])
  have h2:k∉ks:=fun z=>h (by simp [z])
  simp only [enum,Av,Xe,if_neg h1,W9]
  rw [show s+(ks.length+1)=s+1+ks.length by omega,yX ks (s+1) k h2]
theorem mR {n:Nat}:∀(ks:List (List Int)) (s:Nat) (k:List Int),k.length=n→(∀a∈ks,a.length=n)→ta n (enum ks s) k=true
 | [],s,k,h,_=>by simp [ta,enum,h]
 | a::ks,s,k,h,h2=>by
  have:=mR ks (s+1) k h fun a ha=>h2 a (by simp [ha])
  simp only [ta,WR,beq_iff_eq,h,true_and] at this ⊢
  simp only [enum,XK,WR,beq_iff_eq]
  exact⟨h2 a (by simp),this⟩
structure Part (n:Nat)(out:List Int)(many:Nat):Prop where
 len:out.length=n
 nu:∀i,i<n→0≤gt out i∧gt out i≤many
 SM:∀v:Nat,v≤many→∃i,i<n∧gt out i=v
structure qu (l:List ae)(out:List Int)(p:Nat)(ks:List (List Int)):Prop where
 Hi:ks.Nodup
 mem:∀k,k∈ks↔∃i,i<p∧key out (nd l i) i=k
def kP (l:List ae):Prop:=l.length≤8000∧∀n∈l,n.args.length≤8∧∀a∈n.args,0≤a∧a<l.length
theorem Ia {a:Int}{L:List Int}{t:Nat}{v:Int}(hL:L.length=t)(ht:t<8):(a::(L++W8 (8 - t) 0)).set (t+1) v=a::((L++[v])++W8 (8 - (t+1)) 0):=by
 rw [List.set_cons_succ,Yg _ _ (by omega),hL,Yj,show 8 - t=(8 - (t+1))+1 by omega,List.replicate_succ,List.set_cons_zero,W3]
 rfl
theorem FP {m:Nat}{out:List Int}{n:ae}(h8:n.args.length≤8)(ha:∀a∈n.args,0≤a∧a<out.length)(ho:∀i,i<out.length→0≤gt out i∧gt out i<2 ^ 40)(o:Int):∀(f t:Nat),n.args.length - t<f→t≤n.args.length→
  ∃x,aw.l4 m out n f (o::(((n.args.take t).map fun a=>gt out a.toNat+1)++W8 (8 - t) 0)) (t:Int)=some (o::((n.args.map fun a=>gt out a.toNat+1)++W8 (8 - n.args.length) 0),x)
 | 0,t,hf,_=>absurd hf (by omega)
 | f+1,t,hf,ht=>by
  have nR:(2:Nat) ^ 40=1099511627776:=by decide
  have i40:(2:Int) ^ 40=1099511627776:=by decide
  unfold aw.l4
  by_cases h:t<n.args.length
  ·have hx:ix n.args (t:Int)=some (gt n.args t):=cC h
   obtain⟨b0,b1⟩:=ha _ (aM h)
   obtain⟨c0,c1⟩:=ho (gt n.args t).toNat (by omega)
   have hy:ix out (gt n.args t)=some (gt out (gt n.args t).toNat):=gd (by omega) (by omega)
   have e1:i64.wrap ((t:Int)+1)=((t+1:Nat):Int):=by rw [aD (by omega) (by omega)]; omega
   have hT:((n.args.take t).map fun a=>gt out a.toNat+1).length=t:=by simp; omega
   have hz:∃z,ix (o::(((n.args.take t).map fun a=>gt out a.toNat+1)++W8 (8 - t) 0)) ((t+1:Nat):Int)=some z:=⟨_,cC (by simp; omega)⟩
   obtain⟨z,hz⟩:=hz
   obtain⟨x,ih⟩:=FP (m:=m) h8 ha ho o f (t+1) (by omega) (by omega)
   have hT1:n.args.take (t+1)=n.args.take t++[gt n.args t]:=by rw [XR,bw h]; rfl
   rw [hT1,Xi] at ih
   rw [if_pos (by simp only [decide_eq_true_eq]; omega),hx,WL,hy,WL,e1,hz,WL,WT,aD (x:=gt out (gt n.args t).toNat+1) (by omega) (by omega),Ia hT (by omega)]
   exact⟨x,ih⟩
  ·have:t=n.args.length:=by omega
   subst this
   exact⟨_,by rw [if_neg (by simp),XU]⟩
theorem tQ {out:List Int}{n:ae}{i:Nat}(h8:n.args.length≤8):(key out n i).length=9:=by simp [key]; omega
theorem yY {l:List ae}(ok:kP l){i:Nat}(h:i<l.length):(nd l i).args.length≤8∧∀a∈(nd l i).args,0≤a∧a<l.length:=ok.2 _ (fw (by omega) (by omega))
theorem AL {m:Nat}(hm:2 ^ 30≤m){l:List ae}{out:List Int}{many:Nat}(ok:kP l)(P:Part l.length out many)(I9:many<2 ^ 30):∀(f p:Nat) (ks:List (List Int)) (next:List Int),l.length - p<f→p≤l.length→qu l out p ks→next.length=l.length→
  (∀i,i<p→gt next i=(ks.idxOf (key out (nd l i) i):Int))→
  ∃Qi next' x,aw.l3 m l out f (enum ks 0) next (p:Int)=some (enum Qi 0,next',x)∧qu l out l.length Qi∧next'.length=l.length∧∀i,i<l.length→gt next' i=(Qi.idxOf (key out (nd l i) i):Int)
 | 0,p,ks,next,hf,_,_,_,_=>absurd hf (by omega)
 | f+1,p,ks,next,hf,hp,K,hn,hg=>by
  have lR:(2:Nat) ^ 30=1073741824:=by decide
  have nR:(2:Nat) ^ 40=1099511627776:=by decide
  have i40:(2:Int) ^ 40=1099511627776:=by decide
  have h8000:=ok.1
  have Hx:=P.len
  unfold aw.l3
  by_cases h:p<l.length
  ·obtain⟨n1,n2⟩:=yY ok h
   obtain⟨r0,r1⟩:=P.nu p h
   have e1:i64.wrap ((p:Int)+1)=((p+1:Nat):Int):=by rw [aD (by omega) (by omega)]; omega
   obtain⟨x,hk⟩:=FP (m:=m) (out:=out) (n:=nd l p) n1 (by rw [Hx]; exact n2) (fun i hi=>by have:=P.nu i (by omega); omega) (gt out p+1) m 0 (by omega) (by omega)
   have hk:aw.l4 m out (nd l p) m [gt out p+1,0,0,0,0,0,0,0,0] 0=some (key out (nd l p) p,x):=hk
   have Om:=tQ (out:=out) (i:=p) n1
   have Ac:∀a∈ks,a.length=9:=fun a ha=>by
    obtain⟨i,hi,rfl⟩:=(K.mem a).1 ha
    exact tQ (yY ok (by omega)).1
   have KE:∃z,ix next (p:Int)=some z:=⟨_,cC (by omega)⟩
   obtain⟨z,hz⟩:=KE
   rw [if_pos (by simp only [decide_eq_true_eq]; omega),hU (by omega) (by omega),WL,cC (by omega),WL,aD (x:=gt out p+1) (by omega) (by omega),hk,WL]
   dsimp only
   have hG:HR 9 (enum ks 0) (key out (nd l p) p)=some (if key out (nd l p) p∈ks then (((ks.idxOf (key out (nd l p) p):Nat):Int),true) else (0,false)):=by
    unfold HR; rw [if_pos (mR _ _ _ Om Ac),tP,Xb]
   rw [hG,WL,e1,hz]
   by_cases hin:key out (nd l p) p∈ks
   ·rw [if_pos hin,if_neg (by simp),WL,WL,WT]
    refine AL hm ok P I9 f (p+1) ks _ (by omega) (by omega) ⟨K.Hi,fun k=>⟨fun hk=>?_,fun ⟨i,hi,pW⟩=>?_⟩⟩ (by simpa using hn) (fun i hi=>?_)
    ·obtain⟨i,hi,h⟩:=(K.mem k).1 hk; exact⟨i,by omega,h⟩
    ·by_cases Ib:i=p
     ·subst Ib; rw [←pW]; exact hin
     ·exact (K.mem k).2 ⟨i,by omega,pW⟩
    ·rw [ez (by omega)]
     by_cases Ib:i=p
     ·subst Ib; rw [if_pos rfl]
     ·rw [if_neg Ib]; exact hg i (by omega)
   ·have hS:MA 9 (enum ks 0) (key out (nd l p) p) (((enum ks 0).length:Nat):Int)=some (enum (ks++[key out (nd l p) p]) 0):=by
     unfold MA; rw [if_pos (mR _ _ _ Om Ac),mz]
     have:=yX ks 0 _ hin
     rw [Xb] at this
     rw [this]
    have hid:(ks++[key out (nd l p) p]).idxOf (key out (nd l p) p)=ks.length:=by
     rw [XZ,if_neg hin,List.idxOf_cons_self,Xb]
    have UY:HR 9 (enum (ks++[key out (nd l p) p]) 0) (key out (nd l p) p)=some (((ks.length:Nat):Int),true):=by
     unfold HR
     rw [if_pos (mR _ _ _ Om (fun a ha=>by rcases W5.1 ha with ha | ha; exact Ac a ha; simp only [WY] at ha; rw [ha]; exact Om)),tP,if_pos (by simp),Xb,hid]
    rw [if_neg hin,if_pos (by simp),hS,WL,UY,WL,WL,WT]
    refine AL hm ok P I9 f (p+1) (ks++[key out (nd l p) p]) _ (by omega) (by omega) ⟨?_,fun k=>⟨fun hk=>?_,fun ⟨i,hi,pW⟩=>?_⟩⟩ (by simpa using hn) (fun i hi=>?_)
    ·rw [X0]
     refine⟨K.Hi,by simp,fun a ha b hb=>?_⟩
     simp only [WY] at hb
     subst hb; intro e; subst e; exact hin ha
    ·rcases W5.1 hk with hk | hk
     ·obtain⟨i,hi,h⟩:=(K.mem k).1 hk; exact⟨i,by omega,h⟩
     ·simp only [WY] at hk; exact⟨p,by omega,hk.symm⟩
    ·by_cases Ib:i=p
     ·subst Ib; rw [←pW]; simp
     ·exact Xw _ ((K.mem k).2 ⟨i,by omega,pW⟩)
    ·rw [ez (by omega)]
     by_cases Ib:i=p
     ·subst Ib; rw [if_pos rfl,hid]
     ·rw [if_neg Ib,XZ,if_pos ((K.mem _).2 ⟨i,by omega,rfl⟩)]; exact hg i (by omega)
  ·have:p=l.length:=by omega
   subst this
   exact⟨ks,next,_,by rw [if_neg (by simp)],K,hn,hg⟩
theorem Ic {l:List ae}{out:List Int}{ks:List (List Int)}(K:qu l out l.length ks):ks.length≤l.length:=by
 have:=K.Hi.length_le_of_subset (l₂:=(List.range l.length).map fun i:Nat=>key out (nd l i) i) (fun k hk=>by
  obtain⟨i,hi,h⟩:=(K.mem k).1 hk
  exact Xg.2 ⟨i,List.mem_range.2 hi,h⟩)
 simpa using this
theorem B9 {l:List ae}{out:List Int}{many:Nat}{ks:List (List Int)}(P:Part l.length out many)(K:qu l out l.length ks):many+1≤ks.length:=by
 have hn:((List.range (many+1)).map fun v:Nat=>((v:Int)+1)).Nodup:=by
  unfold List.Nodup
  rw [List.pairwise_map]
  exact List.Pairwise.imp (fun h=>by omega) List.nodup_range
 have:=hn.length_le_of_subset (l₂:=ks.map fun k=>k.headD 0) (fun x hx=>by
  obtain⟨v,hv,rfl⟩:=Xg.1 hx
  obtain⟨i,hi,h⟩:=P.SM v (by have:=List.mem_range.1 hv; omega)
  exact Xg.2 ⟨_,(K.mem _).2 ⟨i,hi,rfl⟩,by simp [key,h]⟩)
 simpa using this
theorem DE {l:List ae}{out next:List Int}{many:Nat}{ks:List (List Int)}(P:Part l.length out many)(K:qu l out l.length ks)(hn:next.length=l.length)(hg:∀i,i<l.length→gt next i=(ks.idxOf (key out (nd l i) i):Int)):Part l.length next (ks.length - 1):=by
 have:=B9 P K
 refine⟨hn,fun i hi=>?_,fun v hv=>?_⟩
 ·have:=XP ((K.mem _).2 ⟨i,hi,rfl⟩)
  rw [hg i hi]; omega
 ·have hv:v<ks.length:=by omega
  obtain⟨i,hi,h⟩:=(K.mem _).1 (XJ hv)
  refine⟨i,hi,?_⟩
  rw [hg i hi,h,K.Hi.idxOf_getElem]
theorem FQ {m:Nat}(hm:2 ^ 30≤m){l:List ae}(ok:kP l)(Inv:List Int→Prop)
  (hI:∀out many ks next,Part l.length out many→Inv out→qu l out l.length ks→next.length=l.length→(∀i,i<l.length→gt next i=(ks.idxOf (key out (nd l i) i):Int))→Inv next):∀(f:Nat) (out:List Int) (many:Nat),l.length - many<f→many<l.length→Part l.length out many→Inv out→
  ∃r Ja ks,aw.l2 m l f out (many:Int)=some (.inl r)∧Part l.length r Ja∧Inv r∧qu l r l.length ks∧ks.length=Ja+1
 | 0,out,many,hf,_,_,_=>absurd hf (by omega)
 | f+1,out,many,hf,hlt,P,I=>by
  have lR:(2:Nat) ^ 30=1073741824:=by decide
  have h8000:=ok.1
  unfold aw.l2
  have e0:uL 8 (l.length:Int) (0:Int)=some (W8 l.length 0):=by unfold uL; rw [if_pos ⟨by omega,by rw [WT]; omega⟩,WT]
  obtain⟨ks,next,x,h1,K,hn,hg⟩:=AL hm ok P (by omega) m 0 [] (W8 l.length 0) (by omega) (by omega) ⟨by simp,fun k=>⟨fun h=>by simp at h,fun ⟨i,hi,_⟩=>absurd hi (by omega)⟩⟩ (by simp) (fun i hi=>absurd hi (by omega))
  have h1:aw.l3 m l out m [] (W8 l.length 0) 0=_:=h1
  have g1:=Ic K
  have g2:=B9 P K
  rw [e0,WL,h1,WL]
  dsimp only
  rw [mz,aD (x:=(many:Int)+1) (by omega) (by omega),aD (x:=(ks.length:Int) - 1) (by omega) (by omega)]
  by_cases h:ks.length=many+1
  ·rw [if_pos (by simp; omega)]
   exact⟨out,many,ks,rfl,P,I,K,h⟩
  ·rw [if_neg (by simp; omega),show (ks.length:Int) - 1=((ks.length - 1:Nat):Int) by omega]
   exact FQ hm ok Inv hI f next (ks.length - 1) (by omega) (by omega) (DE P K hn hg) (hI _ _ _ _ P I K hn hg)
end Go.Proofs.YtmekcfdllhphlaaDoor
namespace Go.Proofs.YtmekcfdllhphlaaDoor
open Go Go.R
open Go.IntKind (i64 u64 u8 u32)
def ints (n:Nat):List Int:=(List.range n).map fun k:Nat=>(k:Int)
theorem dK (n:Nat):(ints n).length=n:=by simp [ints]
theorem Ie {n k:Nat}(h:k<n):gt (ints n) k=k:=by
 have h1:=bw (l:=ints n) (k:=k) (by rw [dK]; exact h)
 have h2:(ints n)[k]? = some (k:Int):=by
  unfold ints
  rw [Xo,W2 (by simpa using h)]
  simp
 rw [h2] at h1; exact (Xj h1).symm
theorem iI {n:Nat}{x:Int}:x∈ints n↔0≤x∧x<n:=by
 unfold ints
 rw [Xg]
 constructor
 ·rintro⟨k,hk,rfl⟩; have:=List.mem_range.1 hk; omega
 ·intro h; exact⟨x.toNat,List.mem_range.2 (by omega),by omega⟩
theorem AM (n:Nat):(ints n).Nodup:=by
 unfold ints List.Nodup
 rw [List.pairwise_map]
 exact List.Pairwise.imp (fun h=>by omega) List.nodup_range
theorem tR {l:List Int}(h:l.Nodup){i j:Nat}(hi:i<l.length)(hj:j<l.length)(e:gt l i=gt l j):i=j:=by
 have h1:=bw hi
 have h2:=bw hj
 rw [W2 hi] at h1
 rw [W2 hj] at h2
 have h1:=Xj h1
 have h2:=Xj h2
 exact (List.getElem_inj (h₀:=hi) (h₁:=hj) h).1 (by rw [h1,h2,e])
theorem eR {l:List Int}{x:Int}(h:x∈l):∃k,k<l.length∧gt l k=x:=by
 obtain⟨k,hk,e⟩:=List.getElem_of_mem h
 refine⟨k,hk,?_⟩
 have h1:=bw hk
 rw [W2 hk,e] at h1
 exact (Xj h1).symm
theorem FR {m:Nat}{z:List Int}(hz:z.length<2 ^ 40):∀(f i:Nat) (d:List Int),z.length - i<f→i≤z.length→d.length=z.length→(∀k,k<i→gt d k=k)→
  ∃x,aw.l0 m z f d (i:Int)=some (ints z.length,x)
 | 0,i,d,hf,_,_,_=>absurd hf (by omega)
 | f+1,i,d,hf,hi,hd,hg=>by
  have nR:(2:Nat) ^ 40=1099511627776:=by decide
  unfold aw.l0
  by_cases h:i<z.length
  ·obtain⟨v,hv⟩:∃v,ix d (i:Int)=some v:=⟨_,cC (by omega)⟩
   rw [if_pos (by simp only [decide_eq_true_eq]; omega),hv,WL,WT,aD (by omega) (by omega),show (i:Int)+1=((i+1:Nat):Int) by omega]
   refine FR hz f (i+1) _ (by omega) (by omega) (by simpa using hd) fun k hk=>?_
   rw [ez (by omega)]
   by_cases e:k=i
   ·subst e; rw [if_pos rfl]
   ·rw [if_neg e]; exact hg k (by omega)
  ·refine⟨i,?_⟩
   rw [if_neg (by simp only [decide_eq_true_eq]; omega)]
   have:d=ints z.length:=Fi (by rw [dK,hd]) fun k hk=>by rw [hg k (by omega),Ie (by omega)]
   rw [this]
def rk (l:List ae)(d:List Int):Nat→Nat
 | 0=>0
 | k+1=>rk l d k+if cT (nd l (gt d k)) (nd l (gt d (k+1)))=0 then 0 else 1
theorem FT (l:List ae)(d:List Int):∀k,rk l d k≤k
 | 0=>WQ _
 | k+1=>by have:=FT l d k; unfold rk; split<;>omega
theorem xj (l:List ae)(d:List Int)(i:Nat):∀j,i≤j→rk l d i≤rk l d j
 | 0,h=>by
   have:i=0:=by omega
   subst this; exact WQ _
 | j+1,h=>by
  by_cases e:i=j+1
  ·subst e; exact WQ _
  ·have:=xj l d i j (by omega)
   show _≤rk l d j+_
   omega
theorem FU (l:List ae)(d:List Int):∀(j v:Nat),v≤rk l d j→∃k,k≤j∧rk l d k=v
 | 0,v,h=>⟨0,WQ _,by unfold rk at h ⊢; omega⟩
 | j+1,v,h=>by
  by_cases e:v=rk l d (j+1)
  ·exact⟨j+1,WQ _,e.symm⟩
  ·have h2:rk l d (j+1)≤rk l d j+1:=by show rk l d j+_≤_; split<;>omega
   obtain⟨k,hk,e⟩:=FU l d j v (by omega)
   exact⟨k,by omega,e⟩
theorem FV {m:Nat}(hm:3≤m){l:List ae}{o d:List Int}(hl:l.length≤8000)(ho:o.length=l.length)(hp:d.Perm (ints l.length)):∀(f p:Nat) (out:List Int),l.length - p<f→p≤l.length→out.length=l.length→(∀k,k<p→gt out (gt d k).toNat=rk l d k)→
  ∃KF x,aw.l1 m l o d f out ((rk l d (p - 1):Nat):Int) (p:Int)=some (KF,((rk l d (l.length - 1):Nat):Int),x)∧KF.length=l.length∧∀k,k<l.length→gt KF (gt d k).toNat=rk l d k
 | 0,p,out,hf,_,_,_=>absurd hf (by omega)
 | f+1,p,out,hf,z7,No,hg=>by
  have PI:d.length=l.length:=by rw [hp.length_eq,dK]
  have hd:∀k,k<l.length→0≤gt d k∧gt d k<l.length:=fun k hk=>iI.1 (hp.mem_iff.1 (aM (by omega)))
  have AN:d.Nodup:=hp.symm.nodup (AM _)
  unfold aw.l1
  by_cases h:p<l.length
  ·obtain⟨d0,d1⟩:=hd p h
   have Af:∀k,k<p+1→gt (out.set (gt d p).toNat ((rk l d p:Nat):Int)) (gt d k).toNat=rk l d k:=fun k hk=>by
    rw [ez (by omega)]
    by_cases e:k=p
    ·subst e; rw [if_pos rfl]
    ·have:gt d k≠gt d p:=fun h=>e (tR AN (by omega) (by omega) h)
     have:=hd k (by omega)
     rw [if_neg (by omega)]; exact hg k (by omega)
   obtain⟨z,hz⟩:∃z,ix out (gt d p)=some z:=⟨_,gd (k:=(gt d p).toNat) (by omega) (by omega)⟩
   have e1:i64.wrap ((p:Int)+1)=((p+1:Nat):Int):=by rw [aD (by omega) (by omega)]; omega
   have hr:=FT l d p
   have IH:=FV hm hl ho hp f (p+1) (out.set (gt d p).toNat ((rk l d p:Nat):Int)) (by omega) (by omega) (by simpa using No) Af
   rw [show p+1 - 1=p by omega] at IH
   rw [if_pos (by simp only [decide_eq_true_eq]; omega),cC (by omega),WL]
   by_cases h0:0<p
   ·obtain⟨q,rfl⟩:∃q,p=q+1:=⟨p - 1,by omega⟩
    obtain⟨q0,q1⟩:=hd q (by omega)
    rw [show q+1 - 1=q by omega]
    have e2:i64.wrap (((q+1:Nat):Int) - 1)=(q:Int):=by rw [aD (by omega) (by omega)]; omega
    rw [if_pos (by simp only [decide_eq_true_eq]; omega),e2,cC (by omega),WL,hU q0 q1,WL,hU d0 d1,WL,xg hm,WL,hz,e1]
    by_cases hc:cT (nd l (gt d q)) (nd l (gt d (q+1)))=0
    ·have Qj:rk l d (q+1)=rk l d q:=by show rk l d q+_=_; rw [if_pos hc]; omega
     rw [if_neg (by simp [hc]),WL]
     rw [Qj] at IH; exact IH
    ·have Qj:rk l d (q+1)=rk l d q+1:=by show rk l d q+_=_; rw [if_neg hc]
     rw [if_pos (by simpa using hc),WL,aD (by omega) (by omega)]
     rw [Qj] at IH; exact IH
   ·have:p=0:=by omega
    subst this
    rw [if_neg (by simp),hz,WL,e1]
    exact IH
  ·have:p=l.length:=by omega
   subst this
   exact⟨out,_,by rw [if_neg (by simp only [decide_eq_true_eq]; omega)],No,hg⟩
theorem If {m:Nat}(hm:3≤m)(l:List ae):Cm (fun y0 y1=>dr.f m y0 y1 l) (fun x y=>cT (nd l x) (nd l y)) (ints l.length):=fun x hx y hy=>by
 have hx:=iI.1 hx
 have hy:=iI.1 hy
 exact FI hm hx.1 hx.2 hy.1 hy.2
theorem xk {m:Nat}(hm:2 ^ 41≤m){l:List ae}(ok:kP l)(h1:1≤l.length)(Inv:List Int→Prop)
  (hI0:∀d out,d.Perm (ints l.length)→(Ord (fun x y=>cT (nd l x) (nd l y)) (ints l.length)→Sg (fun x y=>cT (nd l x) (nd l y)) d 0 l.length)→(∀k,k<l.length→gt out (gt d k).toNat=rk l d k)→Inv out)
  (hI:∀out many ks next,Part l.length out many→Inv out→qu l out l.length ks→next.length=l.length→(∀i,i<l.length→gt next i=(ks.idxOf (key out (nd l i) i):Int))→Inv next) :
  ∃r many ks,aw.f m l=some r∧Part l.length r many∧Inv r∧qu l r l.length ks∧ks.length=many+1:=by
 have nR:(2:Nat) ^ 40=1099511627776:=by decide
 have rl:(2:Nat) ^ 41=2199023255552:=by decide
 have lR:(2:Nat) ^ 30=1073741824:=by decide
 have h8000:=ok.1
 have e0:uL 8 (l.length:Int) (0:Int)=some (W8 l.length 0):=by unfold uL; rw [if_pos ⟨by omega,by rw [WT]; omega⟩,WT]
 unfold aw.f
 obtain⟨x,k1⟩:=FR (m:=m) (z:=W8 l.length 0) (by simp; omega) m 0 (W8 l.length 0) (by simp; omega) (by omega) rfl (fun k hk=>absurd hk (by omega))
 have k1:aw.l0 m (W8 l.length 0) m (W8 l.length 0) 0=_:=k1
 rw [List.length_replicate] at k1
 rw [e0,WL,k1,WL]
 dsimp only
 obtain⟨d,k2,hp,hs⟩:=DC hm (l:=ints l.length) (by rw [dK]; omega) (If (m:=m) (by omega) l)
 rw [k2,WL,WL]
 obtain⟨out,x,k3,ho,hg⟩:=FV (m:=m) (l:=l) (o:=ints l.length) (d:=d) (by omega) h8000 (dK _) hp m 0 (W8 l.length 0) (by omega) (by omega) (by simp) (fun k hk=>absurd hk (by omega))
 have k3:aw.l1 m l (ints l.length) d m (W8 l.length 0) 0 0=_:=k3
 rw [k3,WL]
 dsimp only
 rw [dK] at hs
 have PI:d.length=l.length:=by rw [hp.length_eq,dK]
 have hP:Part l.length out (rk l d (l.length - 1)):=by
  refine⟨ho,fun i hi=>?_,fun v hv=>?_⟩
  ·obtain⟨k,hk,e⟩:=eR (hp.mem_iff.2 (iI.2 (show 0≤(i:Int)∧(i:Int)<l.length by omega)))
   have:=hg k (by omega)
   rw [e,WT] at this
   have h2:=xj l d k (l.length - 1) (by omega)
   omega
  ·obtain⟨k,hk,e⟩:=FU l d _ v hv
   have Hr:k<l.length:=by omega
   have:=iI.1 (hp.mem_iff.1 (aM (l:=d) (k:=k) (by omega)))
   exact⟨(gt d k).toNat,by omega,by rw [hg k Hr,e]⟩
 have Np:=FT l d (l.length - 1)
 obtain⟨r,many,ks,k4,P,I,K,Ac⟩:=FQ (m:=m) (by omega) ok Inv hI m out (rk l d (l.length - 1)) (by omega) (by omega) hP (hI0 d out hp hs hg)
 rw [k4]
 exact⟨r,many,ks,rfl,P,I,K,Ac⟩
end Go.Proofs.YtmekcfdllhphlaaDoor
namespace Go.Proofs.YtmekcfdllhphlaaDoor
open Go Go.R
open Go.IntKind (i64 u64 u8 u32)
def yZ:cg:=gk [0,1,2,3,4,5,7,8,9,10,11,12,14,24,53,54,55,56] [11] [262080,261696,253760,262079,261568,261574,260567,260567,258519,144855,13783,140759,144855,144855,261631,262079] [(14,[(12,none,0)])] [(8,[(12,none,1)])]
def aV.l0 (m:Nat)(x1:List Int)(x3:an)(rec:Int→(List (Int × Int))→(List Int)→an→an→Option (Int × (List (Int × Int)) × an))(v2:ae):Nat→(List Int)→Int→(List (Int × Int))→an→Option ((List Int) × Int × (List (Int × Int)) × an)
 | 0,_,_,_,_=>none
 | k+1,eA,x6,x7,x8=>if (decide (x6<(v2.args.length:Int)))=true then ((ix v2.args x6).bind fun v3=>(rec v3 x7 x1 x8 x3).bind fun x9=>(app 8 eA ([x9.1])).bind fun mw=>aV.l0 m x1 x3 rec v2 k mw (i64.wrap (x6+(1:Int))) x9.2.1 x9.2.2) else (some ((eA,x6,x7,x8)))
def aV.b (m:Nat)(rec:Int→(List (Int × Int))→(List Int)→an→an→Option (Int × (List (Int × Int)) × an))(i0:Int)(x0:List (Int × Int))(x1:List Int)(x2:an)(x3:an):Option (Int × (List (Int × Int)) × an):=(ix x1 i0).bind fun v0=>if ((yC x0 v0).2)=true then (some ((yC x0 v0).1,x0,x2)) else ((ix x1 i0).bind fun v1=>(ix x3.nodes i0).bind fun v2=>(app 56 x2.nodes ([(ae.mk v2.kind v2.int v2.label ([]))])).bind fun x5=>(aV.l0 m x1 x3 rec v2 m ([]:List Int) (0:Int) (EZ x0 v1 (x2.nodes.length:Int)) (an.mk x5 x2.root)).bind fun bq=>match bq with | (mA,Hf,H7,AO)=>(ix AO.nodes (x2.nodes.length:Int)).bind fun v4=>some ((x2.nodes.length:Int),H7,(an.mk (AO.nodes.set (x2.nodes.length:Int).toNat (ae.mk v4.kind v4.int v4.label mA)) AO.root)))
def aV.f (m:Nat):Nat→Int→(List (Int × Int))→(List Int)→an→an→Option (Int × (List (Int × Int)) × an)
 | 0,_,_,_,_,_=>none
 | k+1,i0,x0,x1,x2,x3=>aV.b m (aV.f m k) i0 x0 x1 x2 x3
def aV.fin (L:Mem)(bT:Nat)(eB:Nat)(dO:Nat)(dD:Nat)(eK:Nat)(dU:Nat)(dL:Nat)(i0:Int)(x0:List (Int × Int))(x1:List Int)(x2:an)(x3:an)(r:Int × (List (Int × Int)) × an)(s:St):Prop:=∃lF:Nat,aI Tryd.prog (s.open yZ) Tryd.f68.results.toList=some (.int .i64 r.1)∧Has s.h ((bT,.ob [.mp eB])::(eB,.mp (te r.2.1))::(dO,.ob [aa.fz x1])::(dD,.ob [.rs lF 0 r.2.2.nodes.length 4,.int .i64 r.2.2.root])::(lF,.sl r.2.2.nodes.length 4 (af.l r.2.2.nodes))::(dU,.ob [af.fz x3.nodes,.int .i64 x3.root])::(dL,.ob [.fn 68 [.ptr bT 0,.ptr dO 0,.ptr dD 0,.ptr dU 0,.ptr dL 0]])::L)
def On (cf:CallF)(m:Nat)(kk:Nat):Prop:=∀(i0:Int) (x0:List (Int × Int)) (x1:List Int) (x2:an) (x3:an) (r:Int × (List (Int × Int)) × an),aV.f m kk i0 x0 x1 x2 x3=some r→∀h L (bT:Nat) (eB:Nat) (dO:Nat) (dD:Nat) (eK:Nat) (dU:Nat) (dL:Nat),Has h ((bT,.ob [.mp eB])::(eB,.mp (te x0))::(dO,.ob [aa.fz x1])::(dD,.ob [.rs eK 0 x2.nodes.length 4,.int .i64 x2.root])::(eK,.sl x2.nodes.length 4 (af.l x2.nodes))::(dU,.ob [af.fz x3.nodes,.int .i64 x3.root])::(dL,.ob [.fn 68 [.ptr bT 0,.ptr dO 0,.ptr dD 0,.ptr dU 0,.ptr dL 0]])::L)→∀xs,xs.map ay=[.int .i64 i0,.ptr bT 0,.ptr dO 0,.ptr dD 0,.ptr dU 0,.ptr dL 0]→∃lF h',cf 68 xs h=some (.int .i64 r.1,h')∧Has h' ((bT,.ob [.mp eB])::(eB,.mp (te r.2.1))::(dO,.ob [aa.fz x1])::(dD,.ob [.rs lF 0 r.2.2.nodes.length 4,.int .i64 r.2.2.root])::(lF,.sl r.2.2.nodes.length 4 (af.l r.2.2.nodes))::(dU,.ob [af.fz x3.nodes,.int .i64 x3.root])::(dL,.ob [.fn 68 [.ptr bT 0,.ptr dO 0,.ptr dD 0,.ptr dU 0,.ptr dL 0]])::L)
section
variable {cf:CallF}{m:Nat}
theorem aV.bG (L:Mem)(bT:Nat)(eB:Nat)(dO:Nat)(dD:Nat)(eK:Nat)(dU:Nat)(dL:Nat)(i0:Int)(x0:List (Int × Int))(x1:List Int)(x2:an)(x3:an)(v2:ae)  {kk:Nat}(FW:On cf m kk)  : bI Tryd.prog cf yZ m (sub [1,1,1,1,1,1,1,0,1,0,0] (codeOf Tryd.f68)) (fun k (σ:(List Int) × Int × (List (Int × Int)) × an)=>aV.l0 m x1 x3 (aV.f m kk) v2 k σ.1 σ.2.1 σ.2.2.1 σ.2.2.2) (fun σ s=>match σ with | (eA,x6,x7,x8)=>∃gF dj h3,s=⟨jW (.ptr dD 0 :: .any :: .ptr dL 0::jW [.int .i64 (x2.nodes.length:Int),.any,.rs gF 0 eA.length 1,.any,.any,aa.fz v2.args,.int .i64 (v2.args.length:Int),.int .i64 x6,.any]),[none],h3⟩∧Has h3 ((gF,.sl eA.length 1 (aa.l eA))::(bT,.ob [.mp eB])::(eB,.mp (te x7))::(dO,.ob [aa.fz x1])::(dD,.ob [.rs dj 0 x8.nodes.length 4,.int .i64 x8.root])::(dj,.sl x8.nodes.length 4 (af.l x8.nodes))::(dU,.ob [af.fz x3.nodes,.int .i64 x3.root])::(dL,.ob [.fn 68 [.ptr bT 0,.ptr dO 0,.ptr dD 0,.ptr dU 0,.ptr dL 0]])::L)) (fun out e s=>(e = .exit 0∧∃eA x6 x7 x8,(eA,x6,x7,x8)=out∧∃xi FX FY FZ KG gF dj h3,s=⟨jW (.ptr dD 0 :: .any::xi::jW [.int .i64 (x2.nodes.length:Int),.any,.rs gF 0 eA.length 1,.any,.any,FX,FY,FZ,KG]),[none],h3⟩∧Has h3 ((gF,.sl eA.length 1 (aa.l eA))::(bT,.ob [.mp eB])::(eB,.mp (te x7))::(dO,.ob [aa.fz x1])::(dD,.ob [.rs dj 0 x8.nodes.length 4,.int .i64 x8.root])::(dj,.sl x8.nodes.length 4 (af.l x8.nodes))::(dU,.ob [af.fz x3.nodes,.int .i64 x3.root])::(dL,.ob [.fn 68 [.ptr bT 0,.ptr dO 0,.ptr dD 0,.ptr dU 0,.ptr dL 0]])::L))):=by
 refine gS (fun _=>rfl) ?_
 rintro k ⟨eA,x6,x7,x8⟩ s out ⟨gF,dj,h3,rfl,o4⟩ H
 have H:aV.l0 m x1 x3 (aV.f m kk) v2 (k+1) eA x6 x7 x8=some out:=H
 refine q1 <| qq <| qc H (fun c1 H=>?_) (fun c1 H=>?_)
 ·refine qk <| qq <| qb 1 <| qq ?_
  obtain⟨v3,e7,H⟩:=aJ H
  refine qr [.v 0 (bo (k:=.i64) (E:=aa) (l:=v2.args) dC e7),.v 1 (cY  (E:=aa) (l:=v2.args) h3 A3 e7 rfl)] ?_
  obtain⟨x9,e8,H⟩:=aJ H
  obtain⟨fA,h4,e9,o5⟩:=FW _ _ _ _ _ _ e8 h3 _ _ _ _ _ _ _ _ ((Has.front (Has.front (Has.front (Has.front (Has.front (Has.front (Has.front (Has.front o4 0 rfl) 7 rfl) 7 rfl) 7 rfl) 7 rfl) 7 rfl) 7 rfl) 7 rfl))  [.int .i64 v3,.ptr bT 0,.ptr dO 0,.ptr dD 0,.ptr dU 0,.ptr dL 0] (ao (aO (bD)) (ao (rfl) (ao (rfl) (ao (rfl) (ao (rfl) (ao (rfl) (bj)))))))
  obtain⟨mw,mU,H⟩:=aJ H
  obtain⟨gX,h5,rn,o6⟩:=fY (P:=Tryd.prog) (E:=aa) (l:=eA) (q:=7) (t2:=42) (x:=.fz [.int .i64 x9.1] 1 true) (l2:=([x9.1])) dC o5 rfl (by kernel_rfl) rfl mU
  exact qr [.v 1 (show bk Tryd.prog h3 99 (.ptr dL 0)=some (.fn 68 [.ptr bT 0,.ptr dO 0,.ptr dD 0,.ptr dU 0,.ptr dL 0]) from cn (q:=7) (cs:=[.fn 68 [.ptr bT 0,.ptr dO 0,.ptr dD 0,.ptr dU 0,.ptr dL 0]]) o4 rfl (by kernel_rfl)),.a 3 e9,.a 5 rn] <| q0 <| ⟨(mw,i64.wrap (x6+(1:Int)),x9.2.1,x9.2.2),⟨gX,fA,h5,by kernel_rfl,(Has.front (Has.front (Has.front (Has.front (Has.front (Has.front (Has.front (Has.front o6 6 rfl) 6 rfl) 6 rfl) 6 rfl) 6 rfl) 6 rfl) 6 rfl) 7 rfl)⟩,H⟩
 ·exact qx 0 <| ⟨rfl,eA,x6,x7,x8,oi H,.ptr dL 0,aa.fz v2.args,.int .i64 (v2.args.length:Int),.int .i64 x6,.bool (decide (x6<(v2.args.length:Int))),gF,dj,h3,by kernel_rfl,o4⟩
theorem po {aS:FuncId→cg}(ha:aS 68=yZ)  (i0:Int)(x0:List (Int × Int))(x1:List Int)(x2:an)(x3:an)(h:AHeap)(L:Mem)(bT:Nat)(eB:Nat)(dO:Nat)(dD:Nat)(eK:Nat)(dU:Nat)(dL:Nat)  {kk:Nat}(FW:On cf m kk)(o:Has h ((bT,.ob [.mp eB])::(eB,.mp (te x0))::(dO,.ob [aa.fz x1])::(dD,.ob [.rs eK 0 x2.nodes.length 4,.int .i64 x2.root])::(eK,.sl x2.nodes.length 4 (af.l x2.nodes))::(dU,.ob [af.fz x3.nodes,.int .i64 x3.root])::(dL,.ob [.fn 68 [.ptr bT 0,.ptr dO 0,.ptr dD 0,.ptr dU 0,.ptr dL 0]])::L)){out:Int × (List (Int × Int)) × an}(H:aV.f m (kk+1) i0 x0 x1 x2 x3=some out) :
  ∃r h',a7 Tryd.prog aS cf m 68 [.int .i64 i0,.ptr bT 0,.ptr dO 0,.ptr dD 0,.ptr dU 0,.ptr dL 0] h=some (r,h')∧∃lF:Nat,r = .int .i64 out.1∧Has h' ((bT,.ob [.mp eB])::(eB,.mp (te out.2.1))::(dO,.ob [aa.fz x1])::(dD,.ob [.rs lF 0 out.2.2.nodes.length 4,.int .i64 out.2.2.root])::(lF,.sl out.2.2.nodes.length 4 (af.l out.2.2.nodes))::(dU,.ob [af.fz x3.nodes,.int .i64 x3.root])::(dL,.ob [.fn 68 [.ptr bT 0,.ptr dO 0,.ptr dD 0,.ptr dU 0,.ptr dL 0]])::L):=by
 refine ak (fn:=Tryd.f68) ha Tryd.func68 (by kernel_rfl) (by kernel_rfl) ?_
 refine aF (Q:=fun s=>aV.fin L bT eB dO dD eK dU dL i0 x0 x1 x2 x3 out s) (fun _ _ ⟨h1,lF,h2,h3⟩=>⟨h1,_,h2,lF,rfl,h3⟩) ?_
 have H:aV.b m (aV.f m kk) i0 x0 x1 x2 x3=some out:=H
 unfold aV.b at H
 show de _ cf yZ m _ ⟨.int .i64 i0 :: .ptr bT 0 :: .ptr dO 0 :: .ptr dD 0 :: .ptr dU 0 :: .ptr dL 0::mS [],[none],h⟩ _
 refine q1 <| qq <| qq ?_
 obtain⟨v0,e0,H⟩:=aJ H
 refine qr [.v 0 (show bk Tryd.prog h 98 (.ptr bT 0)=some (.mp eB) from cn (q:=0) (cs:=[.mp eB]) o rfl (by kernel_rfl)),.v 1 (show bk Tryd.prog h 42 (.ptr dO 0)=some (aa.fz x1) from cn (q:=2) (cs:=[aa.fz x1]) o rfl (by kernel_rfl)),.v 3 (bo (k:=.i64) (E:=aa) (l:=x1) dC e0),.v 4 (cY  (E:=aa) (l:=x1) h A3 e0 rfl),.v 5 (show fH Tryd.prog h 98 (.mp eB) (.int .i64 v0) true=some (.tup [.int .i64 ((yC x0 v0).1),.bool ((yC x0 v0).2)]) from (Pt (q:=1) (l:=x0) (k:=v0) ML o rfl).1)] <| qq <| q0 <| qc H (fun c0 H=>?_) (fun c0 H=>?_)
 ·obtain rfl:=oi H
  exact q1 <| qt <| ⟨.inl rfl,⟨eK,by kernel_rfl,he o⟩⟩
 ·refine qk <| qq <| qr [.v 1 (show bk Tryd.prog h 29 (.ptr dD 0)=some (.rs eK 0 x2.nodes.length 4) from cn (q:=3) (cs:=[.rs eK 0 x2.nodes.length 4,.int .i64 x2.root]) o rfl (by kernel_rfl))] <| qq ?_
  obtain⟨v1,e1,H⟩:=aJ H
  obtain⟨h0,e2,o0⟩:=Pu (q:=1) (l:=x0) (k:=v1) (v:=(x2.nodes.length:Int)) ML o rfl
  refine qr [.v 0 (show bk Tryd.prog h 98 (.ptr bT 0)=some (.mp eB) from cn (q:=0) (cs:=[.mp eB]) o rfl (by kernel_rfl)),.v 1 (show bk Tryd.prog h 42 (.ptr dO 0)=some (aa.fz x1) from cn (q:=2) (cs:=[aa.fz x1]) o rfl (by kernel_rfl)),.v 3 (bo (k:=.i64) (E:=aa) (l:=x1) dC e1),.v 4 (cY  (E:=aa) (l:=x1) h A3 e1 rfl),.w 6 e2] <| qq ?_
  obtain⟨v2,e3,H⟩:=aJ H
  refine qr [.v 1 (show bk Tryd.prog h0 29 (.ptr dU 0)=some (af.fz x3.nodes) from cn (q:=5) (cs:=[af.fz x3.nodes,.int .i64 x3.root]) o0 rfl (by kernel_rfl)),.v 3 (bo (k:=.i64) (E:=af) (l:=x3.nodes) kT e3),.v 4 (cO  (E:=af) (l:=x3.nodes) h0 ri rj e3)] <| qq ?_
  obtain⟨x5,e4,H⟩:=aJ H
  obtain⟨aB,h1,e5,o1⟩:=fY (P:=Tryd.prog) (E:=af) (l:=x2.nodes) (q:=4) (t2:=29) (x:=.fz [.int .i64 v2.kind,.int .i64 v2.int,.str v2.label,.nils] 1 true) (l2:=([(ae.mk v2.kind v2.int v2.label ([]))])) kT o0 rfl (by kernel_rfl) rfl e4
  obtain⟨h2,e6,o2⟩:=kJ (P:=Tryd.prog) (t:=29) (off:=0) (q:=3) (cs:=[.rs eK 0 x2.nodes.length 4,.int .i64 x2.root]) (fI:=[.rs aB 0 x5.length 4,.int .i64 x2.root]) (x:=.rs aB 0 x5.length 4) o1 rfl (by kernel_rfl)
  refine qr [.v 1 (show bk Tryd.prog h0 29 (.ptr dD 0)=some (.rs eK 0 x2.nodes.length 4) from cn (q:=3) (cs:=[.rs eK 0 x2.nodes.length 4,.int .i64 x2.root]) o0 rfl (by kernel_rfl)),.a 10 e5,.w 12 e6] <| qq <| q0 ?_
  have o3:Has h2 (((0),.sl (([]:List Int).length) 1 (aa.l ([]:List Int)))::(bT,.ob [.mp eB])::(eB,.mp (te (EZ x0 v1 (x2.nodes.length:Int))))::(dO,.ob [aa.fz x1])::(dD,.ob [.rs aB 0 x5.length 4,.int .i64 x2.root])::(aB,.sl x5.length 4 (af.l x5))::(dU,.ob [af.fz x3.nodes,.int .i64 x3.root])::(dL,.ob [.fn 68 [.ptr bT 0,.ptr dO 0,.ptr dD 0,.ptr dU 0,.ptr dL 0]])::L):=Has.nil o2 1
  refine qq <| qq <| q0 <| qb 0 ?_
  obtain⟨bq,si,H⟩:=aJ H
  refine ql (aV.bG L bT eB dO dD eK dU dL i0 x0 x1 x2 x3 v2  FW  (([]:List Int),(0:Int),EZ x0 v1 (x2.nodes.length:Int),(an.mk x5 x2.root)) _ _ ⟨(0),aB,h2,by kernel_rfl,o3⟩ si) ?_
  rintro e s ⟨rfl,mA,Hf,H7,AO,rfl,g0,g1,g2,g3,g4,gU,gV,h6,rfl,o7⟩
  try dsimp only at H
  refine qq ?_
  obtain⟨h7,sj,o8⟩:=iW (E:=aa) (l:=mA) (q:=0) o7 rfl
  obtain⟨v4,uS,H⟩:=aJ H
  obtain⟨h8,uz,o9⟩:=HL (P:=Tryd.prog) (tf:=42) (E:=af) (l:=AO.nodes) (q:=4) (off:=3) (v:=(ae.mk v4.kind v4.int v4.label mA)) (x:=aa.fz mA) o8 rfl UU uS rfl rfl (by decide) rfl
  obtain rfl:=oi H
  exact zN [.a 0 sj] [.v 1 (show bk Tryd.prog h7 29 (.ptr dD 0)=some (.rs gV 0 AO.nodes.length 4) from cn (q:=3) (cs:=[.rs gV 0 AO.nodes.length 4,.int .i64 AO.root]) o8 rfl (by kernel_rfl)),.v 4 (aH (k:=.i64) (E:=af) (l:=AO.nodes) (q:=4) kT o8 rfl uS),.w 6 uz] <| qq <| q0 <| qt <| ⟨.inl rfl,⟨gV,by kernel_rfl,he (by have o:Has h8 ((bT,.ob [.mp eB])::(eB,.mp (te H7))::(dO,.ob [aa.fz x1])::(dD,.ob [.rs gV 0 AO.nodes.length 4,.int .i64 AO.root])::(gV,.sl AO.nodes.length 4 (af.l (AO.nodes.set (x2.nodes.length:Int).toNat (ae.mk v4.kind v4.int v4.label mA))))::(dU,.ob [af.fz x3.nodes,.int .i64 x3.root])::(dL,.ob [.fn 68 [.ptr bT 0,.ptr dO 0,.ptr dD 0,.ptr dU 0,.ptr dL 0]])::L):=o9; simpa only [WW] using o)⟩⟩
end
end Go.Proofs.YtmekcfdllhphlaaDoor
namespace Go.Proofs.YtmekcfdllhphlaaDoor
open Go Go.R
open Go.IntKind (i64 u64 u8 u32)
def Ca:cg:=gk [0,1,2,3,4,5,6] [2,4000005] [121,113,97,65,1,25,91,123] [] [(0,[(2,some 0,4)])]
def cm.f (m:Nat)(t0:an):Option (an):=(aw.f m t0.nodes).bind fun x0=>(aV.f m m t0.root ([]:List (Int × Int)) x0 (an.mk ([]:List ae) (0:Int)) t0).bind fun x1=>some x1.2.2
def cm.fin (L:Mem)(r:an)(s:St):Prop:=∃av,aI Tryd.prog (s.open Ca) Tryd.f47.results.toList=some av∧wQ s.h av (.agg [af.fz r.nodes,.int .i64 r.root])
def Qk (cf:CallF)(m:Nat):Prop:=∀(t0:an) (r:an),cm.f m t0=some r→∀h xs,lD xs [.agg [af.fz t0.nodes,.int .i64 t0.root]]→cf 47 xs h=some (.agg [af.fz r.nodes,.int .i64 r.root],h)
section
variable {cf:CallF}{m:Nat}
theorem rO {aS:FuncId→cg}(ha:aS 47=Ca)(Ql:SL cf m)(FW:On cf m m)(t0:an)(h:AHeap)(L:Mem)  (o:Has h (L)){out:an}(H:cm.f m t0=some out) :
  ∃r h',a7 Tryd.prog aS cf m 47 [.agg [af.fz t0.nodes,.int .i64 t0.root]] h=some (r,h')∧wQ h' r (.agg [af.fz out.nodes,.int .i64 out.root]):=by
 refine ak (fn:=Tryd.f47) ha Tryd.func47 (by kernel_rfl) (by kernel_rfl) ?_
 refine aF (Q:=fun s=>cm.fin L out s) (fun _ _ h=>h) ?_
 have H:_=some out:=H
 unfold cm.f at H
 show de _ cf Ca m _ ⟨.agg [af.fz t0.nodes,.int .i64 t0.root]::Ha [],[none,none],h⟩ _
 refine qq ?_
 obtain⟨aB,h0,e0,o0⟩:=ko (cs:=[af.fz t0.nodes,.int .i64 t0.root]) o (by kernel_rfl)
 refine qr [.a 0 e0] ?_
 have o1:Has h0 (((0),.sl (([]:List ae).length) 4 (af.l ([]:List ae)))::(aB,.ob [af.fz t0.nodes,.int .i64 t0.root])::L):=Has.nil o0 4
 refine qq ?_
 obtain⟨x0,e1,H⟩:=aJ H
 obtain⟨gF,h1,e2,o2⟩:=ko (cs:=[.nils]) o1 (by kernel_rfl)
 obtain⟨h2,e3,o3⟩:=kJ (P:=Tryd.prog) (t:=42) (off:=0) (q:=0) (cs:=[.nils]) (fI:=[aa.fz x0]) (x:=aa.fz x0) o2 rfl (by kernel_rfl)
 refine qr [.v 1 (show bk Tryd.prog h0 29 (.ptr aB 0)=some (af.fz t0.nodes) from cn (q:=1) (cs:=[af.fz t0.nodes,.int .i64 t0.root]) o1 rfl (by kernel_rfl)),.a 2 (Ql _ _ e1 h0 _ (ga (ab (bS (E:=af)) (ax)))),.a 3 e2,.w 4 e3] <| qq ?_
 obtain⟨dj,h3,e4,o4⟩:=E2 o3
 obtain⟨fA,h4,e5,o5⟩:=ko (cs:=[.nB]) o4 (by kernel_rfl)
 obtain⟨h5,e6,o6⟩:=kJ (P:=Tryd.prog) (t:=98) (off:=0) (q:=0) (cs:=[.nB]) (fI:=[.mp dj]) (x:=.mp dj) o5 rfl (by kernel_rfl)
 refine qr [.m 0 e4,.a 1 e5,.w 2 e6] <| qq ?_
 have o7:Has h5 ((((0)),.sl (([]:List ae).length) 4 (af.l ([]:List ae)))::(fA,.ob [.mp dj])::(dj,.mp (te ([]:List (Int × Int))))::(gF,.ob [aa.fz x0])::((0),.sl (([]:List ae).length) 4 (af.l ([]:List ae)))::(aB,.ob [af.fz t0.nodes,.int .i64 t0.root])::L):=Has.nil o6 4
 obtain⟨gX,h6,e7,o8⟩:=ko (cs:=[.rs ((0)) 0 (([]:List ae).length) 4,.int .i64 (0:Int)]) o7 (by kernel_rfl)
 refine qr [.a 0 e7] <| qq ?_
 obtain⟨gU,h7,e8,o9⟩:=ko (cs:=[.so]) o8 (by kernel_rfl)
 refine qr [.a 0 e8] <| qq ?_
 obtain⟨h8,e9,uQ⟩:=kJ (P:=Tryd.prog) (t:=99) (off:=0) (q:=0) (cs:=[.so]) (fI:=[.fn 68 [.ptr fA 0,.ptr gF 0,.ptr gX 0,.ptr aB 0,.ptr gU 0]]) (x:=.fn 68 [.ptr fA 0,.ptr gF 0,.ptr gX 0,.ptr aB 0,.ptr gU 0]) o9 rfl (by kernel_rfl)
 refine qr [.w 1 e9] <| qq ?_
 obtain⟨x1,mU,H⟩:=aJ H
 obtain⟨gV,h9,rn,vB⟩:=FW _ _ _ _ _ _ mU h8 _ _ _ _ _ _ _ _ ((Has.front (Has.front (Has.front (Has.front (Has.front (Has.front (Has.front (Has.front uQ 6 rfl) 1 rfl) 7 rfl) 4 rfl) 4 rfl) 7 rfl) 7 rfl) 7 rfl))  [.int .i64 t0.root,.ptr fA 0,.ptr gF 0,.ptr gX 0,.ptr aB 0,.ptr gU 0] (ao (aO (bD)) (ao (rfl) (ao (rfl) (ao (rfl) (ao (rfl) (ao (rfl) (bj)))))))
 refine qr [.v 0 (show bk Tryd.prog h8 99 (.ptr gU 0)=some (.fn 68 [.ptr fA 0,.ptr gF 0,.ptr gX 0,.ptr aB 0,.ptr gU 0]) from cn (q:=0) (cs:=[.fn 68 [.ptr fA 0,.ptr gF 0,.ptr gX 0,.ptr aB 0,.ptr gU 0]]) uQ rfl (by kernel_rfl)),.v 2 (show bk Tryd.prog h8 3 (.ptr aB 1)=some (.int .i64 t0.root) from cn (q:=7) (cs:=[af.fz t0.nodes,.int .i64 t0.root]) uQ rfl (by kernel_rfl)),.a 3 rn] ?_
 have tI:Has h9 ((fA,.ob [.mp dj])::(dj,.mp (te x1.2.1))::(gF,.ob [aa.fz x0])::(gX,.ob [.rs gV 0 x1.2.2.nodes.length 4,.int .i64 x1.2.2.root])::(gV,.sl x1.2.2.nodes.length 4 (af.l x1.2.2.nodes))::(aB,.ob [af.fz t0.nodes,.int .i64 t0.root])::((0),.sl (([]:List ae).length) 4 (af.l ([]:List ae)))::L):=Has.del vB 6
 have lK:Has h9 ((fA,.ob [.mp dj])::(dj,.mp (te x1.2.1))::(gF,.ob [aa.fz x0])::(gX,.ob [.rs gV 0 x1.2.2.nodes.length 4,.int .i64 x1.2.2.root])::(gV,.sl x1.2.2.nodes.length 4 (af.l x1.2.2.nodes))::((0),.sl (([]:List ae).length) 4 (af.l ([]:List ae)))::L):=Has.del tI 5
 have yL:Has h9 ((fA,.ob [.mp dj])::(dj,.mp (te x1.2.1))::(gX,.ob [.rs gV 0 x1.2.2.nodes.length 4,.int .i64 x1.2.2.root])::(gV,.sl x1.2.2.nodes.length 4 (af.l x1.2.2.nodes))::((0),.sl (([]:List ae).length) 4 (af.l ([]:List ae)))::L):=Has.del lK 2
 have zO:Has h9 ((fA,.ob [.mp dj])::(gX,.ob [.rs gV 0 x1.2.2.nodes.length 4,.int .i64 x1.2.2.root])::(gV,.sl x1.2.2.nodes.length 4 (af.l x1.2.2.nodes))::((0),.sl (([]:List ae).length) 4 (af.l ([]:List ae)))::L):=Has.del yL 1
 have lQ:Has h9 ((gX,.ob [.rs gV 0 x1.2.2.nodes.length 4,.int .i64 x1.2.2.root])::(gV,.sl x1.2.2.nodes.length 4 (af.l x1.2.2.nodes))::((0),.sl (([]:List ae).length) 4 (af.l ([]:List ae)))::L):=Has.del zO 0
 refine qs [.v 0 (show bk Tryd.prog h9 31 (.ptr gX 0)=some (.agg [.rs gV 0 x1.2.2.nodes.length 4,.int .i64 x1.2.2.root]) from cn (q:=0) (cs:=[.rs gV 0 x1.2.2.nodes.length 4,.int .i64 x1.2.2.root]) lQ rfl (by kernel_rfl))] ?_
 have AE:Has h9 ((gX,.ob [.rs gV 0 x1.2.2.nodes.length 4,.int .i64 x1.2.2.root])::(gV,.sl x1.2.2.nodes.length 4 (af.l x1.2.2.nodes))::L):=Has.del lQ 2
 have DA:Has h9 ((gV,.sl x1.2.2.nodes.length 4 (af.l x1.2.2.nodes))::L):=Has.del AE 0
 obtain rfl:=oi H
 exact qt <| ⟨.inl rfl,vz (.agg [.rs gV 0 x1.2.2.nodes.length 4,.int .i64 x1.2.2.root]) h9 (pK (bQ (ab (s8 (E:=af) (l:=x1.2.2.nodes) (q:=0) DA rfl (fun _=>rfl)) (ab (aE) (ax)))))⟩
end
end Go.Proofs.YtmekcfdllhphlaaDoor
namespace Go.Proofs.YtmekcfdllhphlaaDoor
open Go Go.R
open Go.IntKind (i64 u64 u8 u32)
def kQ:List Int→Nat→List (Int × Int)
 | [],_=>[]
 | k::ks,s=>(k,(s:Int))::kQ ks (s+1)
theorem vF:∀(ks:List Int) (s:Nat) (k:Int),yC (kQ ks s) k=if k∈ks then (((s+ks.idxOf k:Nat):Int),true) else (0,false)
 | [],s,k=>rfl
 | a::ks,s,k=>by
  simp only [kQ,yC,vF ks (s+1) k,Xs,List.idxOf_cons]
  by_cases h:k=a
  ·subst h; simp
  ·have h':(a==k)=false:=by simpa using fun z:a=k=>h z.symm
   rw [if_neg h,h']
   by_cases h2:k∈ks
   ·simp only [h2,if_true,or_true,cond_false]
    simp only [WV,and_true]
    omega
   ·simp [h2,h]
theorem vG:∀(ks:List Int) (s:Nat) (k:Int),k∉ks→EZ (kQ ks s) k ((s+ks.length:Nat):Int)=kQ (ks++[k]) s
 | [],s,k,_=>rfl
 | a::ks,s,k,h=>by
  have h1:k≠a:=fun z=>h (by simp [z])
  have h2:k∉ks:=fun z=>h (by simp [z])
  simp only [kQ,EZ,Xe,if_neg h1,W9]
  rw [show s+(ks.length+1)=s+1+ks.length by omega,vG ks (s+1) k h2]
def ef (cls:List Int)(a:Int):Int:=gt cls a.toNat
def idx (cls o:List Int)(a:Int):Int:=((o.map (ef cls)).idxOf (ef cls a):Nat)
def uT (cls:List Int)(l:List ae)(o:List Int)(i:Int):ae:=⟨(nd l i).kind,(nd l i).int,(nd l i).label,(nd l i).args.map (idx cls o)⟩
def rp (cls:List Int)(l:List ae):Nat→Int→List Int→List Int
 | 0,_,o=>o
 | k+1,i,o=>if ef cls i∈o.map (ef cls) then o else (nd l i).args.foldl (fun o a=>rp cls l k a o) (o++[i])
structure Vs (cls:List Int)(n:Nat)(o:List Int):Prop where
 Hi:(o.map (ef cls)).Nodup
 nu:∀x∈o,0≤x∧x<n
structure Ps (cls:List Int)(l:List ae)(o o':List Int)(ns AP:List ae):Prop where
 vs:Vs cls l.length o'
 pre:∃t,o'=o++t
 len:AP.length=o'.length
 old:∀k,k<o.length→AP[k]? = ns[k]?
 new:∀k,o.length≤k→k<o'.length→AP[k]? = some (uT cls l o' (gt o' k))
 arg:∀k,o.length≤k→k<o'.length→∀a∈(nd l (gt o' k)).args,ef cls a∈o'.map (ef cls)
theorem Vs.rq {cls:List Int}{n:Nat}{o:List Int}(v:Vs cls n o):o.length≤n:=by
 have hn:o.Nodup:=by
  have:=v.Hi
  unfold List.Nodup at this ⊢
  rw [List.pairwise_map] at this
  exact List.Pairwise.imp (fun h e=>h (by rw [e])) this
 have:=hn.length_le_of_subset (l₂:=ints n) (fun x hx=>iI.2 (v.nu x hx))
 rwa [dK] at this
theorem Ps.refl {cls:List Int}{l:List ae}{o:List Int}{ns:List ae}(v:Vs cls l.length o)(h:ns.length=o.length):Ps cls l o o ns ns:=
 ⟨v,⟨[],by simp⟩,h,fun _ _=>rfl,fun k h1 h2=>by omega,fun k h1 h2=>by omega⟩
theorem iq {a b:List Int}{k:Nat}(h:k<a.length):gt (a++b) k=gt a k:=by
 unfold gt; rw [W7,W7,Xp h]
theorem nV {cls o t:List Int}{a:Int}(h:ef cls a∈o.map (ef cls)):idx cls (o++t) a=idx cls o a:=by
 unfold idx; rw [Xi,XZ,if_pos h]
theorem y4 {cls:List Int}{l:List ae}{o t:List Int}{i:Int}(h:∀a∈(nd l i).args,ef cls a∈o.map (ef cls)):uT cls l (o++t) i=uT cls l o i:=by
 unfold uT
 congr 1
 exact XS fun a ha=>nV (h a ha)
theorem Ps.trans {cls:List Int}{l:List ae}{o o1 o2:List Int}{ns n1 n2:List ae}(a:Ps cls l o o1 ns n1)(b:Ps cls l o1 o2 n1 n2):Ps cls l o o2 ns n2:=by
 obtain⟨t1,rfl⟩:=a.pre
 obtain⟨t2,rfl⟩:=b.pre
 have hl:(o++t1).length=o.length+t1.length:=by simp
 refine⟨b.vs,⟨t1++t2,by simp⟩,b.len,fun k hk=>(b.old k (by omega)).trans (a.old k hk),fun k h1 h2=>?_,fun k h1 h2 x hx=>?_⟩
 ·by_cases h:k<(o++t1).length
  ·rw [b.old k h,a.new k h1 h,iq h,y4 (a.arg k h1 h)]
  ·exact b.new k (by omega) h2
 ·by_cases h:k<(o++t1).length
  ·rw [iq h] at hx
   rw [Xi]
   exact Xw _ (a.arg k h1 h x hx)
  ·exact b.arg k (by omega) h2 x hx
section
variable {m:Nat}{cls:List Int}{l:List ae}{root:Int}
abbrev Nq:=Int→(List (Int × Int))→(List Int)→an→an→Option (Int × (List (Int × Int)) × an)
def Jb (cls:List Int)(l:List ae)(root:Int)(rec:Nq)(df:Int→List Int→List Int)(need:Nat):Prop:=∀(i:Int) (o:List Int) (ns:List ae),0≤i→i<l.length→Vs cls l.length o→ns.length=o.length→l.length<need+o.length→
 ∃AP,rec i (kQ (o.map (ef cls)) 0) cls ⟨ns,0⟩ ⟨l,root⟩=some (idx cls (df i o) i,kQ ((df i o).map (ef cls)) 0,⟨AP,0⟩)∧Ps cls l o (df i o) ns AP∧ef cls i∈(df i o).map (ef cls)
theorem F0 {rec:Nq}{df:Int→List Int→List Int}{need:Nat}(hm:2 ^ 30≤m)(ok:kP l)(V:Jb cls l root rec df need){v:ae}(h8:v.args.length≤8)(ha:∀a∈v.args,0≤a∧a<l.length){o0:List Int}{SN:List ae}(Nr:l.length<need+o0.length):∀(f t:Nat) (o:List Int) (ns:List ae),v.args.length - t<f→t≤v.args.length→Ps cls l o0 o SN ns→(∀a∈v.args.take t,ef cls a∈o.map (ef cls))→
  ∃o' AP x,o'=(v.args.drop t).foldl (fun o a=>df a o) o∧aV.l0 m cls ⟨l,root⟩ rec v f ((v.args.take t).map (idx cls o)) (t:Int) (kQ (o.map (ef cls)) 0) ⟨ns,0⟩=some (v.args.map (idx cls o'),x,kQ (o'.map (ef cls)) 0,⟨AP,0⟩)∧Ps cls l o0 o' SN AP∧∀a∈v.args,ef cls a∈o'.map (ef cls)
 | 0,t,o,ns,hf,_,_,_=>absurd hf (by omega)
 | f+1,t,o,ns,hf,ht,P,hin=>by
  have lR:(2:Nat) ^ 30=1073741824:=by decide
  unfold aV.l0
  by_cases h:t<v.args.length
  ·obtain⟨b0,b1⟩:=ha _ (aM h)
   have WA:o0.length≤o.length:=by obtain⟨s,rfl⟩:=P.pre; simp
   obtain⟨UZ,k1,P1,N9⟩:=V (gt v.args t) o ns b0 b1 P.vs P.len (by omega)
   obtain⟨s,hs⟩:=P1.pre
   have hT1:v.args.take (t+1)=v.args.take t++[gt v.args t]:=by rw [XR,bw h]; rfl
   have hD:v.args.drop t=gt v.args t::v.args.drop (t+1):=by
    obtain⟨h4,h5⟩:=WU.1 (bw h)
    rw [←h5]; exact WZ h4
   have Qm:∀a∈v.args.take (t+1),ef cls a∈(df (gt v.args t) o).map (ef cls):=fun a ha=>by
    rw [hT1] at ha
    rcases W5.1 ha with ha | ha
    ·rw [hs,Xi]; exact Xw _ (hin a ha)
    ·simp only [WY] at ha; subst ha; exact N9
   obtain⟨o',AP,x,e,k2,P2,h2⟩:=F0 hm ok V h8 ha Nr f (t+1) (df (gt v.args t) o) UZ (by omega) (by omega) (P.trans P1) Qm
   refine⟨o',AP,x,by rw [hD]; exact e,?_,P2,h2⟩
   have e1:i64.wrap ((t:Int)+1)=((t+1:Nat):Int):=by rw [aD (by omega) (by omega)]; omega
   have lP:app 8 ((v.args.take t).map (idx cls o)) [idx cls (df (gt v.args t) o) (gt v.args t)]=some ((v.args.take (t+1)).map (idx cls (df (gt v.args t) o))):=by
    unfold app
    rw [if_pos (by simp; omega),hT1,Xi]
    congr 2
    exact XS fun a ha=>by rw [hs]; exact (nV (hin a ha)).symm
   rw [if_pos (by simp only [decide_eq_true_eq]; omega),cC h,WL,k1,WL,lP,WL,e1]
   exact k2
  ·have:t=v.args.length:=by omega
   subst this
   rw [XU] at hin ⊢
   exact⟨o,ns,_,by rw [List.drop_length]; rfl,by rw [if_neg (by simp)],P,hin⟩
theorem tS (hm:2 ^ 30≤m)(ok:kP l)(hc:cls.length=l.length):∀k,Jb cls l root (aV.f m k) (rp cls l k) k
 | 0=>fun i o ns h0 h1 v hl hn=>absurd v.rq (by omega)
 | k+1=>fun i o ns h0 h1 v hl hn=>by
  have lR:(2:Nat) ^ 30=1073741824:=by decide
  have h8000:=ok.1
  have AQ:=v.rq
  show ∃AP,aV.b m (aV.f m k) i (kQ (o.map (ef cls)) 0) cls ⟨ns,0⟩ ⟨l,root⟩=_∧_
  unfold aV.b
  have hx:ix cls i=some (ef cls i):=gd (by omega) (by omega)
  rw [hx,WL,vF,Xb]
  by_cases h:ef cls i∈o.map (ef cls)
  ·have hd:rp cls l (k+1) i o=o:=by unfold rp; rw [if_pos h]
   rw [hd,if_pos h]
   exact⟨ns,rfl,Ps.refl v hl,h⟩
  ·have hd:rp cls l (k+1) i o=(nd l i).args.foldl (fun o a=>rp cls l k a o) (o++[i]):=by
    show (if ef cls i∈o.map (ef cls) then o else (nd l i).args.foldl (fun o a=>rp cls l k a o) (o++[i]))=_
    rw [if_neg h]
   have v1:Vs cls l.length (o++[i]):=by
    refine⟨?_,fun x hx=>?_⟩
    ·rw [Xi,X0]
     refine⟨v.Hi,by simp,fun a ha b hb=>?_⟩
     simp only [Xc,List.map_nil,WY] at hb
     subst hb; intro e; subst e; exact h ha
    ·rcases W5.1 hx with hx | hx
     ·exact v.nu x hx
     ·simp only [WY] at hx; subst hx; exact⟨h0,h1⟩
   have F3:=v1.rq
   simp only [WX,W9,XI] at F3
   have lP:app 56 ns [(⟨(nd l i).kind,(nd l i).int,(nd l i).label,[]⟩:ae)]=some (ns++[⟨(nd l i).kind,(nd l i).int,(nd l i).label,[]⟩]):=by
    unfold app; rw [if_pos (by simp; omega)]
   have Ml:EZ (kQ (o.map (ef cls)) 0) (ef cls i) ((ns.length:Nat):Int)=kQ ((o++[i]).map (ef cls)) 0:=by
    have:=vG (o.map (ef cls)) 0 (ef cls i) h
    rw [Xb,Xu,←hl] at this
    rw [this,Xi]; rfl
   obtain⟨n1,n2⟩:=ok.2 _ (fw h0 h1)
   have P0:Ps cls l (o++[i]) (o++[i]) (ns++[⟨(nd l i).kind,(nd l i).int,(nd l i).label,[]⟩]) (ns++[⟨(nd l i).kind,(nd l i).int,(nd l i).label,[]⟩]):=Ps.refl v1 (by simp [hl])
   obtain⟨o',AP,x,e,k2,P2,h2⟩:=F0 (m:=m) (v:=nd l i) (need:=k) hm ok (tS hm ok hc k) n1 n2 (o0:=o++[i]) (by simp; omega) m 0 (o++[i]) _ (by omega) (by omega) P0 (fun a ha=>by simp at ha)
   rw [Xl] at e
   rw [List.take_zero,List.map_nil] at k2
   have k2:aV.l0 m cls ⟨l,root⟩ (aV.f m k) (nd l i) m [] 0 _ _=_:=k2
   obtain⟨s,hs⟩:=P2.pre
   have Hx:o.length<o'.length:=by rw [hs]; simp
   have Ns:AP[o.length]? = some ⟨(nd l i).kind,(nd l i).int,(nd l i).label,[]⟩:=by
    rw [P2.old _ (by simp),←hl,Xa (WQ _),Yj]; rfl
   have KE:ix AP ((ns.length:Nat):Int)=some ⟨(nd l i).kind,(nd l i).int,(nd l i).label,[]⟩:=by
    unfold ix; rw [if_pos (by omega),WT,hl,Ns]
   have SO:gt o' o.length=i:=by
    rw [hs,iq (by simp)]
    unfold gt; rw [W7,Xa (WQ _),Yj]; rfl
   have Qn:idx cls o' i=(o.length:Nat):=by
    rw [hs,nV (by simp)]
    unfold idx
    rw [Xi,XZ,if_neg h]; simp
   rw [hd,←e,if_neg h,if_neg (by simp),WL,hU h0 h1,WL,lP,WL,Ml,k2,WL]
   dsimp only
   rw [KE,WL,WT,Qn,hl]
   refine⟨_,rfl,⟨P2.vs,⟨[i]++s,by rw [hs]; simp⟩,by simpa using P2.len,fun q hq=>?_,fun q h3 h4=>?_,fun q h3 h4 a ha=>?_⟩,by rw [hs]; simp⟩
   ·rw [Yh (by omega),P2.old q (by simp; omega),Xp (by omega)]
   ·by_cases hq:q=o.length
    ·subst hq
     rw [Yb (by rw [P2.len]; omega),SO]; rfl
    ·rw [Yh (by omega)]
     exact P2.new q (by simp; omega) h4
   ·by_cases hq:q=o.length
    ·subst hq; rw [SO] at ha; exact h2 a ha
    ·exact P2.arg q (by simp; omega) h4 a ha
end
theorem tT {m:Nat}(hm:2 ^ 41≤m){t:an}(ok:kP t.nodes)(h1:1≤t.nodes.length)(r0:0≤t.root)(r1:t.root<t.nodes.length)(Inv:List Int→Prop)
  (hI0:∀d out,d.Perm (ints t.nodes.length)→(Ord (fun x y=>cT (nd t.nodes x) (nd t.nodes y)) (ints t.nodes.length)→Sg (fun x y=>cT (nd t.nodes x) (nd t.nodes y)) d 0 t.nodes.length)→(∀k,k<t.nodes.length→gt out (gt d k).toNat=rk t.nodes d k)→Inv out)
  (hI:∀out many ks next,Part t.nodes.length out many→Inv out→qu t.nodes out t.nodes.length ks→next.length=t.nodes.length→(∀i,i<t.nodes.length→gt next i=(ks.idxOf (key out (nd t.nodes i) i):Int))→Inv next) :
  ∃cls many ks ns,cm.f m t=some ⟨ns,0⟩∧Part t.nodes.length cls many∧Inv cls∧qu t.nodes cls t.nodes.length ks∧ks.length=many+1∧Ps cls t.nodes [] (rp cls t.nodes m t.root []) [] ns∧ef cls t.root∈(rp cls t.nodes m t.root []).map (ef cls):=by
 have lR:(2:Nat) ^ 30=1073741824:=by decide
 have rl:(2:Nat) ^ 41=2199023255552:=by decide
 have h8000:=ok.1
 obtain⟨cls,many,ks,k1,P,I,K,Ac⟩:=xk hm ok h1 Inv hI0 hI
 obtain⟨ns,k2,P2,h2⟩:=tS (m:=m) (root:=t.root) (by omega) ok P.len m t.root [] [] r0 r1 ⟨by simp,fun x hx=>by simp at hx⟩ rfl (by simp; omega)
 refine⟨cls,many,ks,ns,?_,P,I,K,Ac,P2,h2⟩
 unfold cm.f
 have k2:aV.f m m t.root [] cls ⟨[],0⟩ t=_:=k2
 rw [k1,WL,k2]; rfl
end Go.Proofs.YtmekcfdllhphlaaDoor
namespace Go.Proofs.YtmekcfdllhphlaaDoor
open Go Go.R
open Go.IntKind (i64 u64 u8 u32)
theorem tU:∀(x:List UInt8),Op.bytesLess x x=false
 | []=>rfl
 | a::x=>by simp [Op.bytesLess,tU x]
theorem xl:∀(x y:List UInt8),Op.bytesLess x y=true→Op.bytesLess y x=false
 | _,[],h=>by cases ‹List UInt8›<;>simp [Op.bytesLess] at h
 | [],b::y,_=>rfl
 | a::x,b::y,h=>by
  simp only [Op.bytesLess,XC,WR,decide_eq_true_eq,beq_iff_eq] at h
  simp only [Op.bytesLess,Bool.or_eq_false_iff,Bool.and_eq_false_iff,decide_eq_false_iff_not,beq_eq_false_iff_ne]
  rcases h with h | ⟨rfl,h⟩
  ·refine⟨fun h2=>?_,.inl fun e=>?_⟩
   ·rw [X7] at h h2; omega
   ·subst e; rw [X7] at h; omega
  ·exact⟨by rw [X7]; omega,.inr (xl x y h)⟩
theorem F4:∀(x y:List UInt8),Op.bytesLess x y=true∨x=y∨Op.bytesLess y x=true
 | [],[]=>.inr (.inl rfl)
 | [],b::y=>.inl rfl
 | a::x,[]=>.inr (.inr rfl)
 | a::x,b::y=>by
  simp only [Op.bytesLess,XC,WR,decide_eq_true_eq,beq_iff_eq,List.cons.injEq]
  rcases Nat.lt_trichotomy a.toNat b.toNat with h | h | h
  ·exact .inl (.inl (X7.2 h))
  ·have:a=b:=UInt8.toNat_inj.1 h
   subst this
   rcases F4 x y with h1 | h1 | h1
   ·exact .inl (.inr ⟨rfl,h1⟩)
   ·exact .inr (.inl ⟨rfl,h1⟩)
   ·exact .inr (.inr (.inr ⟨rfl,h1⟩))
  ·exact .inr (.inr (.inl (X7.2 h)))
theorem y5:∀(x y z:List UInt8),Op.bytesLess x y=true→Op.bytesLess y z=true→Op.bytesLess x z=true
 | _,_,[],_,h=>by cases ‹List UInt8›<;>simp [Op.bytesLess] at h
 | _,[],c::z,h,_=>by cases ‹List UInt8›<;>simp [Op.bytesLess] at h
 | [],b::y,c::z,_,_=>rfl
 | a::x,b::y,c::z,h1,h2=>by
  simp only [Op.bytesLess,XC,WR,decide_eq_true_eq,beq_iff_eq] at h1 h2 ⊢
  rcases h1 with h1 | ⟨rfl,h1⟩
  ·rcases h2 with h2 | ⟨rfl,h2⟩
   ·left; rw [X7] at *; omega
   ·exact .inl h1
  ·rcases h2 with h2 | ⟨rfl,h2⟩
   ·exact .inl h2
   ·exact .inr ⟨rfl,y5 x y z h1 h2⟩
theorem AR {x y:ByteArray}(h:x.data.toList=y.data.toList):x=y:=by
 cases x with | mk a=>cases y with | mk b=>cases a; cases b; simp only at h; subst h; rfl
structure KH {α:Type}(c:α→α→Int):Prop where
 zero:∀x y,c x y=0→x=y
 refl:∀x,c x x=0
 neg:∀x y,c y x = - c x y
 tr:∀x y z,c x y≤0→c y z≤0→c x z≤0
theorem mB:KH cI:=by
 refine⟨fun x y h=>?_,fun x=>?_,fun x y=>?_,fun x y z h1 h2=>?_⟩
 ·unfold cI at h; split at h
  ·omega
  ·split at h<;>omega
 ·unfold cI; simp
 ·unfold cI; split<;>split<;>(try split)<;>omega
 ·unfold cI at *
  split at h1<;>split at h2<;>(try split at h1)<;>(try split at h2)<;>(try omega)<;>split<;>(try split)<;>omega
theorem y6 (x y:ByteArray):cS x y=if Op.bytesLess x.data.toList y.data.toList=true then -1 else if x=y then 0 else 1:=by
 unfold cS EW
 cases h:Op.bytesLess x.data.toList y.data.toList with
 | true=>rfl
 | false=>
  simp only [Bool.false_or,W4,if_false]
  by_cases e:x=y
  ·subst e; simp
  ·rw [if_neg e]
   have:(x.data.toList==y.data.toList)=false:=by
    rw [beq_eq_false_iff_ne]; exact fun h=>e (AR h)
   rw [this]; rfl
theorem F5:KH cS:=by
 refine⟨fun x y h=>?_,fun x=>?_,fun x y=>?_,fun x y z h1 h2=>?_⟩
 ·rw [y6] at h
  split at h
  ·omega
  ·split at h
   ·assumption
   ·omega
 ·rw [y6,tU]; simp
 ·rw [y6,y6]
  rcases F4 x.data.toList y.data.toList with h | h | h
  ·have h2:=xl _ _ h
   have hne:¬y=x:=fun e=>by subst e; rw [tU] at h; cases h
   rw [if_pos h,h2]; simp [hne]
  ·have:=AR h
   subst this
   rw [tU]; simp
  ·have h2:=xl _ _ h
   have hne:¬x=y:=fun e=>by subst e; rw [tU] at h; cases h
   rw [if_pos h,h2]; simp [hne]
 ·rw [y6] at h1 h2 ⊢
  split at h1
  ·rename_i g1
   split at h2
   ·rename_i g2
    rw [if_pos (y5 _ _ _ g1 g2)]; omega
   ·split at h2
    ·rename_i e; subst e; rw [if_pos g1]; omega
    ·omega
  ·split at h1
   ·rename_i e; subst e
    split at h2
    ·rename_i g2; rw [if_pos g2]; omega
    ·split at h2
     ·rename_i g e; rw [if_neg g,if_pos e]; omega
     ·omega
   ·omega
theorem F6 {α β:Type}{c:α→α→Int}{d:β→β→Int}(C:KH c)(D:KH d):KH fun (p q:α × β)=>DD (c p.1 q.1) (d p.2 q.2):=by
 refine⟨fun x y h=>?_,fun x=>?_,fun x y=>?_,fun x y z h1 h2=>?_⟩
 ·unfold DD at h
  split at h
  ·rename_i h1; exact Prod.ext (C.zero _ _ h1) (D.zero _ _ h)
  ·exact absurd h ‹_›
 ·unfold DD; rw [C.refl,if_pos rfl,D.refl]
 ·skip
  unfold DD
  have:=C.neg x.1 y.1
  by_cases h:c x.1 y.1=0
  ·rw [if_pos h,if_pos (by omega),D.neg]
  ·rw [if_neg h,if_neg (by omega),C.neg]
 ·skip
  unfold DD at *
  by_cases a:c x.1 y.1=0
  ·rw [if_pos a] at h1
   have e:=C.zero _ _ a
   rw [←e] at h2
   by_cases b:c x.1 z.1=0
   ·rw [if_pos b] at h2 ⊢; exact D.tr _ _ _ h1 h2
   ·rw [if_neg b] at h2 ⊢; exact h2
  ·rw [if_neg a] at h1
   have hz:c x.1 z.1≤0:=by
    by_cases b:c y.1 z.1=0
    ·rw [←C.zero _ _ b]; exact h1
    ·rw [if_neg b] at h2; exact C.tr _ _ _ h1 h2
   have hne:c x.1 z.1≠0:=fun e=>by
    have e1:=C.zero _ _ e
    by_cases b:c y.1 z.1=0
    ·have e2:=C.zero _ _ b; rw [e1,←e2] at a; exact a (C.refl _)
    ·rw [if_neg b,←e1] at h2
     have:=C.neg x.1 y.1; omega
   rw [if_neg hne]; exact hz
theorem Cb:KH fun (p q:Int × ByteArray)=>DD (cI p.1 q.1) (cS p.2 q.2):=F6 mB F5
theorem Cc:KH fun (p q:ByteArray × Int)=>DD (cS p.1 q.1) (cI p.2 q.2):=F6 F5 mB
theorem ls {a b:ae}(h:a.kind=b.kind):cT a b=if a.kind=3 then DD (cI a.args.length b.args.length) (cS a.label b.label) else DD (cS a.label b.label) (cI a.int b.int):=by unfold cT; rw [if_pos h]
theorem jC {a b:ae}(h:a.kind≠b.kind):cT a b=cI a.kind b.kind:=by unfold cT; rw [if_neg h]
theorem ja (a b:ae):cT b a = - cT a b:=by
 by_cases h:a.kind=b.kind
 ·rw [ls h,ls h.symm,←h]
  split
  ·exact Cb.neg ((a.args.length:Int),a.label) ((b.args.length:Int),b.label)
  ·exact Cc.neg (a.label,a.int) (b.label,b.int)
 ·rw [jC h,jC (X4 h)]; exact mB.neg _ _
theorem y7 (a b c:ae)(h1:cT a b≤0)(h2:cT b c≤0):cT a c≤0:=by
 by_cases e1:a.kind=b.kind
 ·by_cases e2:b.kind=c.kind
  ·rw [ls e1] at h1
   rw [ls e2,←e1] at h2
   rw [ls (e1.trans e2)]
   split
   ·rename_i h3; rw [if_pos h3] at h1 h2
    exact Cb.tr ((a.args.length:Int),a.label) ((b.args.length:Int),b.label) ((c.args.length:Int),c.label) h1 h2
   ·rename_i h3; rw [if_neg h3] at h1 h2
    exact Cc.tr (a.label,a.int) (b.label,b.int) (c.label,c.int) h1 h2
  ·rw [jC e2] at h2
   rw [jC (by rw [e1]; exact e2),e1]; exact h2
 ·rw [jC e1] at h1
  by_cases e2:b.kind=c.kind
  ·rw [jC (by rw [←e2]; exact e1),←e2]; exact h1
  ·rw [jC e2] at h2
   have n1:cI a.kind b.kind≠0:=fun h=>e1 (mB.zero _ _ h)
   have n2:cI b.kind c.kind≠0:=fun h=>e2 (mB.zero _ _ h)
   by_cases e3:a.kind=c.kind
   ·rw [←e3] at h2
    have:=mB.neg a.kind b.kind
    omega
   ·rw [jC e3]; exact mB.tr _ _ _ h1 h2
structure Alike (a b:ae):Prop where
 kind:a.kind=b.kind
 int:a.int=b.int
 label:a.label=b.label
 len:a.args.length=b.args.length
theorem Alike.refl (a:ae):Alike a a:=⟨rfl,rfl,rfl,rfl⟩
theorem Alike.symm {a b:ae}(h:Alike a b):Alike b a:=⟨h.1.symm,h.2.symm,h.3.symm,h.4.symm⟩
theorem Alike.trans {a b c:ae}(h:Alike a b)(k:Alike b c):Alike a c:=⟨h.1.trans k.1,h.2.trans k.2,h.3.trans k.3,h.4.trans k.4⟩
theorem Alike.cT {a b:ae}(h:Alike a b):cT a b=0:=by
 rw [ls h.kind]
 split
 ·rw [h.len,h.label]; exact Cb.refl ((b.args.length:Int),b.label)
 ·rw [h.label,h.int]; exact Cc.refl (b.label,b.int)
theorem F7 {a b:ae}(h:cT a b=0)(ha:a.kind=3→a.int=0)(hb:b.kind=3→b.int=0)(Qo:a.kind≠3→a.args=[])(hb2:b.kind≠3→b.args=[]):Alike a b:=by
 by_cases e:a.kind=b.kind
 ·rw [ls e] at h
  split at h
  ·rename_i h3
   have:=Cb.zero ((a.args.length:Int),a.label) ((b.args.length:Int),b.label) h
   simp only [WV] at this
   exact⟨e,by rw [ha h3,hb (by rw [←e]; exact h3)],this.2,by omega⟩
  ·rename_i h3
   have:=Cc.zero (a.label,a.int) (b.label,b.int) h
   simp only [WV] at this
   exact⟨e,this.2,this.1,by rw [Qo h3,hb2 (by rw [←e]; exact h3)]⟩
 ·rw [jC e] at h
  exact absurd (mB.zero _ _ h) e
theorem KI (l:List ae)(s:List Int):Ord (fun x y=>cT (nd l x) (nd l y)) s:=by
 refine⟨fun x _ y _ z _ h1 h2=>?_,fun x _ y _ h=>?_⟩
 ·skip
  have a1:=ja (nd l x) (nd l y)
  have a2:=ja (nd l y) (nd l z)
  have a3:=ja (nd l x) (nd l z)
  have:=y7 (nd l x) (nd l y) (nd l z) (by omega) (by omega)
  omega
 ·skip
  have a1:=ja (nd l x) (nd l y)
  omega
end Go.Proofs.YtmekcfdllhphlaaDoor
