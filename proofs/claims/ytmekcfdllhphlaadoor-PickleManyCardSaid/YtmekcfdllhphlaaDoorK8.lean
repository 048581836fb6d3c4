/- Part of the proof: PT7, Q67, PT8, PT9, Q68, Q47, PT10, PB1. -/
import Derived.Test.YtmekcfdllhphlaaDoorK7
set_option linter.unusedVariables false
set_option linter.unusedSimpArgs false
set_option maxRecDepth 100000
open Bool renaming and_eq_true → V8, false_eq_true → Wj, or_eq_true → WT
open Eq renaming trans → W6
open Int renaming toNat_natCast → V9
open List renaming getElem?_eq_some_iff → Wb, length_set → Wd, length_append → We, mem_singleton → Wf, append_assoc → Wg, getElem?_eq_getElem → Wh, drop_eq_getElem_cons → Wi, mem_append → Wk, getD_eq_getElem?_getD → Wm, replicate → Wn, map_cons → Wo, length_cons → Wp, getElem?_append_right → Wq, cons_append → Wt, mem_map → Wv, map_append → Wx, getElem?_map → WB, getElem?_append_left → WC, mem_cons → WG, length_map → WI, drop_zero → WK, mem_append_left → WL, length_nil → WY, all_cons → W2, idxOf_lt_length_of_mem → W7, mem_of_getElem? → W8, take_length → W9, getElem_mem → Xa, take_add_one → Xb, map_congr_left → Xc, idxOf_append → Xi, nodup_append → Xj, getElem?_set_self → Xu, set_append_right → Xz, getElem?_set_ne → XA
open Nat renaming le_refl → V7, zero_add → Wr, sub_self → XC
open Ne renaming symm → Xn
open Option renaming bind_some → V3
open Option.some renaming inj → Wy
open Or renaming inr → WZ
open Prod.mk renaming injEq → Wc
open UInt8 renaming lt_iff_toNat_lt → Xp
namespace Go.Proofs.YtmekcfdllhphlaaDoor
open Go Go.R
open Go.IntKind (i64 u64 u8 u32)
def eh (t:aj):Bool:=decide (1≤t.nodes.length)&&decide (t.nodes.length≤8000)&&decide (0≤t.root)&&decide (t.root<t.nodes.length)&&t.nodes.all fun n=>j4 n t.nodes.length
theorem tA {m:Nat}(hm:2 ^ 30≤m)(t:aj):gr.f m t=some (eh t):=by
 have l8:(2:Nat) ^ 30=1073741824:=by decide
 have nF:(2:Nat) ^ 40=1099511627776:=by decide
 unfold gr.f eh
 by_cases h1:1≤t.nodes.length
 ·rw [if_pos (by simp only [decide_eq_true_eq]; omega),decide_eq_true h1]
  by_cases h2:t.nodes.length≤8000
  ·rw [if_pos (by simp only [decide_eq_true_eq]; omega),decide_eq_true h2]
   by_cases h3:0≤t.root
   ·rw [if_pos (by simp only [decide_eq_true_eq]; omega),decide_eq_true h3]
    by_cases h4:t.root<t.nodes.length
    ·rw [if_pos (by simp only [decide_eq_true_eq]; omega),decide_eq_true h4]
     rw [vn (g:=fun n=>!(j4 n t.nodes.length)) (by omega) (by omega) (fun n _=>by unfold fG.f; rw [Df (by omega)]; rfl),V3]
     simp [List.not_any_eq_all_not]
    ·rw [if_neg (by simp only [decide_eq_true_eq]; omega),decide_eq_false h4]; rfl
   ·rw [if_neg (by simp only [decide_eq_true_eq]; omega),decide_eq_false h3]; rfl
  ·rw [if_neg (by simp only [decide_eq_true_eq]; omega),decide_eq_false h2]; rfl
 ·rw [if_neg (by simp only [decide_eq_true_eq]; omega),decide_eq_false h1]; rfl
def cI (x y:Int):Int:=if x<y then -1 else if y<x then 1 else 0
def cS (x y:ByteArray):Int:=if Op.bytesLess x.data.toList y.data.toList=true then -1 else if (!ED x y)=true then 1 else 0
def Dl (x y:Int):Int:=if x=0 then y else x
def cT (a b:ab):Int:=if a.kind=b.kind then (if a.kind=3 then Dl (cI a.args.length b.args.length) (cS a.label b.label) else Dl (cS a.label b.label) (cI a.int b.int)) else cI a.kind b.kind
theorem wW {m:Nat}(x y:Int):cJ.f m x y=some (cI x y):=by
 unfold cJ.f dU.f cI
 simp only [beq_self_eq_true,Bool.not_true,V3,Wj,if_false]
 by_cases h:x<y
 ·rw [if_pos (by simpa using h),if_pos h]
 ·rw [if_neg (by simpa using h),if_neg h]
  by_cases h2:y<x
  ·rw [if_pos (by simpa using h2),if_pos h2]
  ·rw [if_neg (by simpa using h2),if_neg h2]
theorem BP {m:Nat}(x y:ByteArray):cg.f m x y=some (cS x y):=by
 unfold cg.f dc.f cS
 simp only [beq_self_eq_true,Bool.not_true,V3,Wj,if_false]
 split
 ·rfl
 ·split
  ·rfl
  ·rfl
theorem yF {m:Nat}(hm:3≤m)(x y:Int):b8.f m [x,y]=some (Dl x y):=by
 obtain⟨k,rfl⟩:∃k,m=k+3:=⟨m - 3,by omega⟩
 unfold b8.f Dl
 have e1:i64.wrap ((0:Int)+1)=1:=by decide
 have e2:i64.wrap ((1:Int)+1)=2:=by decide
 have a0:ix [x,y] 0=some x:=rfl
 have a1:ix [x,y] 1=some y:=rfl
 unfold b8.l0
 rw [if_pos (by simp),a0,V3]
 by_cases h:x=0
 ·subst h
  rw [if_neg (by simp),e1,if_pos rfl]
  unfold b8.l0
  rw [if_pos (by simp),a1,V3]
  by_cases h2:y=0
  ·subst h2
   rw [if_neg (by simp),e2]
   unfold b8.l0
   rw [if_neg (by simp)]; rfl
  ·rw [if_pos (by simpa using h2)]; rfl
 ·rw [if_pos (by simpa using h),if_neg h]; rfl
theorem BQ {m:Nat}(hm:3≤m)(a b:ab):cY.f m a b=some (cT a b):=by
 unfold cY.f cT
 by_cases h:a.kind=b.kind
 ·rw [if_neg (by simp [h]),if_pos h]
  by_cases h3:a.kind=3
  ·rw [if_pos (by simpa using h3),if_pos h3,wW,BP,V3,V3,yF hm]; rfl
  ·rw [if_neg (by simpa using h3),if_neg h3,wW,BP,V3,V3,yF hm]; rfl
 ·rw [if_pos (by simpa using h),if_neg h,wW]; rfl
def nd (l:List ab)(i:Int):ab:=l.getD i.toNat ⟨0,0,⟨#[]⟩,[]⟩
theorem gV {l:List ab}{i:Int}(h0:0≤i)(h1:i<l.length):ix l i=some (nd l i):=by
 unfold ix nd
 have h:i.toNat<l.length:=by omega
 rw [if_pos h0,Wm,Wh h]; rfl
theorem fi {l:List ab}{i:Int}(h0:0≤i)(h1:i<l.length):nd l i∈l:=by
 have:=gV h0 h1
 unfold ix at this
 rw [if_pos h0] at this
 exact W8 this
theorem Fu {m:Nat}(hm:3≤m){l:List ab}{i j:Int}(h0:0≤i)(h1:i<l.length)(h2:0≤j)(h3:j<l.length):dm.f m i j l=some (cT (nd l i) (nd l j)):=by
 unfold dm.f
 rw [gV h0 h1,gV h2 h3,V3,V3,BQ hm]; rfl
end Go.Proofs.YtmekcfdllhphlaaDoor
namespace Go.Proofs.YtmekcfdllhphlaaDoor
open Go Go.R
open Go.IntKind (i64 u64 u8 u32)
def oY:cb:=gJ [0,1,2,3,4,5,6,7,8,9,10,11,12,13,14,15,17,22,23,24,37,38,39,40,61,73,74,75,76,87,88,89,90,110,126] [12] [34359738365,34359738357,34359345141,34358820853,34359345125,34359345141,34359345141,34359738357,34359738325,34359738261,34352398229,34344009621,34352397845,34335620757,34352397973,34352398229,34352398229,34359737757,34359736733,34124855709,33856420253,34124849565,34124841373,30366749085,26071781789,30366699933,30366749085,30366749085,34124779933,25534910877,34124845469,34124855709,34124855709,17179867613,34359738363,34359738269] [] []
def aw.l0 (m:Nat)(x0:List Int):Nat→(List Int)→Int→Option ((List Int) × Int)
 | 0,_,_=>none
 | k+1,eX,x1=>if (decide (x1<(x0.length:Int)))=true then ((ix eX x1).bind fun v0=>aw.l0 m x0 k (eX.set x1.toNat x1) (i64.wrap (x1+(1:Int)))) else (some ((eX,x1)))
def aw.l1 (m:Nat)(ax:List ab)(b4:List Int)(x3:(List Int)):Nat→(List Int)→Int→Int→Option ((List Int) × Int × Int)
 | 0,_,_,_=>none
 | k+1,b9,dJ,x5=>if (decide (x5<(b4.length:Int)))=true then ((ix x3 x5).bind fun v1=>if (decide (x5 > (0:Int)))=true then ((ix x3 (i64.wrap (x5 - (1:Int)))).bind fun v2=>(ix ax v2).bind fun v3=>(ix ax v1).bind fun v4=>(cY.f m v3 v4).bind fun x6=>if (!(x6==(0:Int)))=true then ((ix b9 v1).bind fun v5=>aw.l1 m ax b4 x3 k (b9.set v1.toNat (i64.wrap (dJ+(1:Int)))) (i64.wrap (dJ+(1:Int))) (i64.wrap (x5+(1:Int)))) else ((ix b9 v1).bind fun v6=>aw.l1 m ax b4 x3 k (b9.set v1.toNat dJ) dJ (i64.wrap (x5+(1:Int))))) else ((ix b9 v1).bind fun v7=>aw.l1 m ax b4 x3 k (b9.set v1.toNat dJ) dJ (i64.wrap (x5+(1:Int))))) else (some ((b9,dJ,x5)))
def aw.l4 (m:Nat)(cF:List Int)(v8:ab):Nat→(List Int)→Int→Option ((List Int) × Int)
 | 0,_,_=>none
 | k+1,k0,lk=>if (decide (lk<(v8.args.length:Int)))=true then ((ix v8.args lk).bind fun v10=>(ix cF v10).bind fun v11=>(ix k0 (i64.wrap (lk+(1:Int)))).bind fun v12=>aw.l4 m cF v8 k (k0.set (i64.wrap (lk+(1:Int))).toNat (i64.wrap (v11+(1:Int)))) (i64.wrap (lk+(1:Int)))) else (some ((k0,lk)))
def aw.l3 (m:Nat)(ax:List ab)(cF:List Int):Nat→(List (List Int × Int))→(List Int)→Int→Option ((List (List Int × Int)) × (List Int) × Int)
 | 0,_,_,_=>none
 | k+1,fj,bN,x9=>if (decide (x9<(ax.length:Int)))=true then ((ix ax x9).bind fun v8=>(ix cF x9).bind fun v9=>(aw.l4 m cF v8 m ([i64.wrap (v9+(1:Int)),(0:Int),(0:Int),(0:Int),(0:Int),(0:Int),(0:Int),(0:Int),(0:Int)]) (0:Int)).bind fun yG=>match yG with | (k1,BR)=>(Hx 9 fj k1).bind fun r0=>if (!r0.2)=true then ((Md 9 fj k1 (fj.length:Int)).bind fun Kd=>(Hx 9 Kd k1).bind fun r1=>(ix bN x9).bind fun HK=>aw.l3 m ax cF k Kd (bN.set x9.toNat r1.1) (i64.wrap (x9+(1:Int)))) else ((Hx 9 fj k1).bind fun r2=>(ix bN x9).bind fun zx=>aw.l3 m ax cF k fj (bN.set x9.toNat r2.1) (i64.wrap (x9+(1:Int))))) else (some ((fj,bN,x9)))
def aw.l2 (m:Nat)(ax:List ab):Nat→(List Int)→Int→Option (Sum (List Int) ((List Int) × Int))
 | 0,_,_=>none
 | k+1,cF,jf=>(uv 8 (ax.length:Int) (0:Int)).bind fun x8=>(aw.l3 m ax cF m ([]:List (List Int × Int)) x8 (0:Int)).bind fun gu=>match gu with | (nb,cG,HM)=>if ((nb.length:Int)==(i64.wrap (jf+(1:Int))))=true then (some (.inl cF)) else (aw.l2 m ax k cG (i64.wrap ((nb.length:Int) - (1:Int))))
def aw.f (m:Nat)(ax:List ab):Option ((List Int)):=(uv 8 (ax.length:Int) (0:Int)).bind fun x0=>(aw.l0 m x0 m x0 (0:Int)).bind fun bq=>match bq with | (b4,x2)=>(eR.f m b4 (fun y0 y1=>dm.f m y0 y1 ax)).bind fun x3=>(uv 8 (ax.length:Int) (0:Int)).bind fun x4=>(aw.l1 m ax b4 x3 m x4 (0:Int) (0:Int)).bind fun oS=>match oS with | (je,many1,x7)=>(aw.l2 m ax m je many1).bind fun Fv=>match Fv with | .inl r3=>some r3 | .inr (l9,ML)=>none
def aw.fin (L:Mem)(r:(List Int))(s:St):Prop:=∃av,aI Tryd.prog (s.open oY) Tryd.f67.results.toList=some av∧fT s.h av (aa.fz r)
def R6 (cf:CallF)(m:Nat):Prop:=∀(ax:List ab) (r:(List Int)),aw.f m ax=some r→∀h xs,eN fc h xs [af.fz ax]→cf 67 xs h=some (aa.fz r,h)
section
variable {cf:CallF}{m:Nat}
theorem aw.bI (L:Mem)(ax:List ab)(aA:Nat)(x0:List Int)   : bE Tryd.prog cf oY m (sub [1,1,0,1,0,0] (codeOf Tryd.f67)) (fun k (σ:(List Int) × Int)=>aw.l0 m x0 k σ.1 σ.2) (fun σ s=>match σ with | (eX,x1)=>∃da h2,s=⟨.any :: .ptr aA 0 :: .any :: .rs da 0 eX.length 1::nD (.int .i64 (x0.length:Int) :: .int .i64 x1::EO []),[none],h2⟩∧Has h2 ((da,.sl eX.length 1 (aa.l eX))::(aA,.ob [af.fz ax])::L)) (fun out e s=>(e = .exit 0∧∃eX x1,(eX,x1)=out∧∃Al PE Ke da h2,s=⟨.any :: .ptr aA 0 :: .any :: .rs da 0 eX.length 1::nD (Al::PE::Ke::HE []),[none],h2⟩∧Has h2 ((da,.sl eX.length 1 (aa.l eX))::(aA,.ob [af.fz ax])::L))):=by
 refine gP (fun _=>rfl) ?_
 rintro k ⟨eX,x1⟩ s out ⟨da,h2,rfl,o2⟩ H
 have H:aw.l0 m x0 (k+1) eX x1=some out:=H
 refine q1 <| qq <| qc H (fun c0 H=>?_) (fun c0 H=>?_)
 ·refine qk <| qq <| qb 1 <| qq <| q0 ?_
  obtain⟨v0,e3,H⟩:=aH H
  obtain⟨h3,e4,o3⟩:=dF (P:=Tryd.prog) (tf:=3) (E:=aa) (l:=eX) (q:=0) (v:=x1) (x:=.int .i64 x1) o2 rfl Z3 e3 rfl rfl
  exact qr [.v 3 (aE (k:=.i64) (E:=aa) (l:=eX) (q:=0) dz o2 rfl e3),.w 4 e4] <| q0 <| ⟨(eX.set x1.toNat x1,i64.wrap (x1+(1:Int))),⟨da,h3,(W6 (b:=⟨.any :: .ptr aA 0 :: .any :: .rs da 0 eX.length 1::nD (.int .i64 (x0.length:Int) :: .int .i64 (i64.wrap (x1+(1:Int)))::EO []),[none],h3⟩) (by kernel_rfl) (by simp only [Wd])),(by have o:Has h3 ((da,.sl eX.length 1 (aa.l (eX.set x1.toNat x1)))::(aA,.ob [af.fz ax])::L):=o3; simpa only [Wd] using o)⟩,H⟩
 ·exact qx 0 <| ⟨rfl,eX,x1,oi H,.int .i64 (x0.length:Int),.int .i64 x1,.bool (decide (x1<(x0.length:Int))),da,h2,by kernel_rfl,o2⟩
theorem aw.eQ (L:Mem)(ax:List ab)(aA:Nat)(fk:Nat)(b4:List Int)(fk:Nat)(x3:(List Int))  (Ft:NY cf m):bE Tryd.prog cf oY m (sub [1,1,1,1,1,1,0,1,0,0] (codeOf Tryd.f67)) (fun k (σ:(List Int) × Int × Int)=>aw.l1 m ax b4 x3 k σ.1 σ.2.1 σ.2.2) (fun σ s=>match σ with | (b9,dJ,x5)=>∃gL h7,s=⟨.any :: .ptr aA 0 :: .any :: .rs fk 0 b4.length 1 :: .any :: .rs gL 0 b9.length 1 :: .int .i64 dJ::nD (.rs fk 0 b4.length 1 :: .int .i64 (b4.length:Int) :: .int .i64 x5::mD []),[none],h7⟩∧Has h7 ((gL,.sl b9.length 1 (aa.l b9))::(fk,.sl b4.length 1 (aa.l x3))::(aA,.ob [af.fz ax])::L)) (fun out e s=>(e = .exit 2∧∃b9 dJ x5,(b9,dJ,x5)=out∧∃ta Fw Fx Fy Fz gL h7,s=⟨.any :: .ptr aA 0 :: .any::ta :: .any :: .rs gL 0 b9.length 1 :: .int .i64 dJ::nD (Fw::Fx::Fy::Fz::oI []),[none],h7⟩∧Has h7 ((gL,.sl b9.length 1 (aa.l b9))::(fk,.sl b4.length 1 (aa.l x3))::(aA,.ob [af.fz ax])::L))):=by
 refine gP (fun _=>rfl) ?_
 rintro k ⟨b9,dJ,x5⟩ s out ⟨gL,h7,rfl,o7⟩ H
 have H:aw.l1 m ax b4 x3 (k+1) b9 dJ x5=some out:=H
 refine q1 <| qq <| qc H (fun c1 H=>?_) (fun c1 H=>?_)
 ·refine qk <| qq <| qb 3 <| qq ?_
  obtain⟨v1,nH,H⟩:=aH H
  refine qr [.v 1 (aE (k:=.i64) (E:=aa) (l:=x3) (q:=1) dz o7 rfl nH),.v 2 (bf  (E:=aa) (l:=x3) (q:=1) o7 rfl A3 nH rfl)] <| qq <| qq ?_
  rcases dt H with⟨c2,H⟩| ⟨c2,H⟩
  ·obtain⟨v2,qS,H⟩:=aH H
   obtain⟨v3,rX,H⟩:=aH H
   obtain⟨v4,rY,H⟩:=aH H
   obtain⟨x6,qT,H⟩:=aH H
   refine qr [.b 2 c2,.v 3 (show bj Tryd.prog h7 29 (.ptr aA 0)=some (af.fz ax) from ca (q:=2) (cs:=[af.fz ax]) o7 rfl (by kernel_rfl)),.v 7 (aE (k:=.i64) (E:=aa) (l:=x3) (q:=1) dz o7 rfl qS),.v 8 (bf  (E:=aa) (l:=x3) (q:=1) o7 rfl A3 qS rfl),.v 9 (bo (k:=.i64) (E:=af) (l:=ax) lh rX),.v 10 (cL  (E:=af) (l:=ax) h7 rU rV rX),.v 11 (show bj Tryd.prog h7 29 (.ptr aA 0)=some (af.fz ax) from ca (q:=2) (cs:=[af.fz ax]) o7 rfl (by kernel_rfl)),.v 13 (bo (k:=.i64) (E:=af) (l:=ax) lh rY),.v 14 (cL  (E:=af) (l:=ax) h7 rU rV rY),.a 15 (Ft _ _ _ qT h7 _ (gO (ae (cP (ae (aM) (ae (aM) (ae (bY) (ae (cK (E:=aa)) (az)))))) (ae (cP (ae (aM) (ae (aM) (ae (bY) (ae (cK (E:=aa)) (az)))))) (az)))))] ?_
   refine qc H (fun c3 H=>?_) (fun c3 H=>?_)
   ·refine q0 ?_
    obtain⟨v5,pX,H⟩:=aH H
    obtain⟨h8,uC,o8⟩:=dF (P:=Tryd.prog) (tf:=3) (E:=aa) (l:=b9) (q:=0) (v:=(i64.wrap (dJ+(1:Int)))) (x:=.int .i64 (i64.wrap (dJ+(1:Int)))) o7 rfl Z3 pX rfl rfl
    exact qr [.v 3 (aE (k:=.i64) (E:=aa) (l:=b9) (q:=0) dz o7 rfl pX),.w 4 uC] <| q0 <| ⟨(b9.set v1.toNat (i64.wrap (dJ+(1:Int))),i64.wrap (dJ+(1:Int)),i64.wrap (x5+(1:Int))),⟨gL,h8,(W6 (b:=⟨.any :: .ptr aA 0 :: .any :: .rs fk 0 b4.length 1 :: .any :: .rs gL 0 b9.length 1 :: .int .i64 (i64.wrap (dJ+(1:Int)))::nD (.rs fk 0 b4.length 1 :: .int .i64 (b4.length:Int) :: .int .i64 (i64.wrap (x5+(1:Int)))::mD []),[none],h8⟩) (by kernel_rfl) (by simp only [Wd])),(by have o:Has h8 ((gL,.sl b9.length 1 (aa.l (b9.set v1.toNat (i64.wrap (dJ+(1:Int))))))::(fk,.sl b4.length 1 (aa.l x3))::(aA,.ob [af.fz ax])::L):=o8; simpa only [Wd] using o)⟩,H⟩
   ·refine qk ?_
    obtain⟨v6,uf,H⟩:=aH H
    obtain⟨h9,yD,o9⟩:=dF (P:=Tryd.prog) (tf:=3) (E:=aa) (l:=b9) (q:=0) (v:=dJ) (x:=.int .i64 dJ) o7 rfl Z3 uf rfl rfl
    exact qr [.v 3 (aE (k:=.i64) (E:=aa) (l:=b9) (q:=0) dz o7 rfl uf),.w 4 yD] <| q0 <| ⟨(b9.set v1.toNat dJ,dJ,i64.wrap (x5+(1:Int))),⟨gL,h9,(W6 (b:=⟨.any :: .ptr aA 0 :: .any :: .rs fk 0 b4.length 1 :: .any :: .rs gL 0 b9.length 1 :: .int .i64 dJ::nD (.rs fk 0 b4.length 1 :: .int .i64 (b4.length:Int) :: .int .i64 (i64.wrap (x5+(1:Int)))::mD []),[none],h9⟩) (by kernel_rfl) (by simp only [Wd])),(by have o:Has h9 ((gL,.sl b9.length 1 (aa.l (b9.set v1.toNat dJ)))::(fk,.sl b4.length 1 (aa.l x3))::(aA,.ob [af.fz ax])::L):=o9; simpa only [Wd] using o)⟩,H⟩
  ·refine qr [.b 2 c2] <| C7 <| qk ?_
   obtain⟨v7,uD,H⟩:=aH H
   obtain⟨h10,zw,uA⟩:=dF (P:=Tryd.prog) (tf:=3) (E:=aa) (l:=b9) (q:=0) (v:=dJ) (x:=.int .i64 dJ) o7 rfl Z3 uD rfl rfl
   exact qr [.v 3 (aE (k:=.i64) (E:=aa) (l:=b9) (q:=0) dz o7 rfl uD),.w 4 zw] <| q0 <| ⟨(b9.set v1.toNat dJ,dJ,i64.wrap (x5+(1:Int))),⟨gL,h10,(W6 (b:=⟨.any :: .ptr aA 0 :: .any :: .rs fk 0 b4.length 1 :: .any :: .rs gL 0 b9.length 1 :: .int .i64 dJ::nD (.rs fk 0 b4.length 1 :: .int .i64 (b4.length:Int) :: .int .i64 (i64.wrap (x5+(1:Int)))::mD []),[none],h10⟩) (by kernel_rfl) (by simp only [Wd])),(by have o:Has h10 ((gL,.sl b9.length 1 (aa.l (b9.set v1.toNat dJ)))::(fk,.sl b4.length 1 (aa.l x3))::(aA,.ob [af.fz ax])::L):=uA; simpa only [Wd] using o)⟩,H⟩
 ·exact qx 2 <| ⟨rfl,b9,dJ,x5,oi H,.rs fk 0 b4.length 1,.rs fk 0 b4.length 1,.int .i64 (b4.length:Int),.int .i64 x5,.bool (decide (x5<(b4.length:Int))),gL,h7,(W6 (b:=⟨.any :: .ptr aA 0 :: .any :: .rs fk 0 b4.length 1 :: .any :: .rs gL 0 b9.length 1 :: .int .i64 dJ::nD (.rs fk 0 b4.length 1 :: .int .i64 (b4.length:Int) :: .int .i64 x5 :: .bool (decide (x5<(b4.length:Int)))::oI []),[none],h7⟩) (by kernel_rfl) (by simp only [Wd])),(by have o:Has h7 ((gL,.sl b9.length 1 (aa.l b9))::(fk,.sl b4.length 1 (aa.l x3))::(aA,.ob [af.fz ax])::L):=o7; simpa only [Wd] using o)⟩
theorem aw.tv (L:Mem)(ax:List ab)(aA:Nat)(ik:Nat)(cF:List Int)(jf:Int)(ik:Nat)(kG:Nat)(eK:Nat)(fj:List (List Int × Int))(bN:List Int)(x9:Int)(eK:Nat)(v8:ab)(nK:Nat)   : bE Tryd.prog cf oY m (sub [1,1,1,1,1,1,1,0,0,0,1,1,0,1,0,0,1,1,0,0,1,1,0,1,0,0] (codeOf Tryd.f67)) (fun k (σ:(List Int) × Int)=>aw.l4 m cF v8 k σ.1 σ.2) (fun σ s=>match σ with | (k0,lk)=>∃h18,s=⟨.any :: .ptr aA 0::ke (.rs ik 0 cF.length 1 :: .int .i64 jf :: .any :: .any :: .mp kG :: .rs eK 0 bN.length 1 :: .int .i64 x9 :: .any :: .ptr nK 0::oI (af.fz ax :: .int .i64 (ax.length:Int) :: .int .i64 x9 :: .any::aa.fz v8.args :: .int .i64 (v8.args.length:Int) :: .int .i64 lk::ke [])),[none],h18⟩∧Has h18 ((nK,.sl 9 1 (aa.l k0))::(eK,.sl bN.length 1 (aa.l bN))::(kG,.mp (uw fj))::(ik,.sl cF.length 1 (aa.l cF))::(aA,.ob [af.fz ax])::L)) (fun out e s=>(e = .exit 8∧∃k0 lk,(k0,lk)=out∧∃Kf PF PG PH h18,s=⟨.any :: .ptr aA 0::ke (.rs ik 0 cF.length 1 :: .int .i64 jf :: .any :: .any :: .mp kG :: .rs eK 0 bN.length 1 :: .int .i64 x9 :: .any :: .ptr nK 0::oI [af.fz ax,.int .i64 (ax.length:Int),.int .i64 x9,.any,Kf,PF,PG,PH,.any,.any]),[none],h18⟩∧Has h18 ((nK,.sl 9 1 (aa.l k0))::(eK,.sl bN.length 1 (aa.l bN))::(kG,.mp (uw fj))::(ik,.sl cF.length 1 (aa.l cF))::(aA,.ob [af.fz ax])::L))):=by
 refine gP (fun _=>rfl) ?_
 rintro k ⟨k0,lk⟩ s out ⟨h18,rfl,Dj⟩ H
 have H:aw.l4 m cF v8 (k+1) k0 lk=some out:=H
 refine q1 <| qq <| qc H (fun c6 H=>?_) (fun c6 H=>?_)
 ·refine qk <| qq <| qb 9 <| qq ?_
  obtain⟨v10,Fi,H⟩:=aH H
  refine qr [.v 1 (bo (k:=.i64) (E:=aa) (l:=v8.args) dz Fi),.v 2 (cZ  (E:=aa) (l:=v8.args) h18 A3 Fi rfl)] ?_
  obtain⟨v11,Fg,H⟩:=aH H
  obtain⟨v12,HL,H⟩:=aH H
  obtain⟨h19,Kg,Kh⟩:=dF (P:=Tryd.prog) (tf:=3) (E:=aa) (l:=k0) (q:=0) (v:=(i64.wrap (v11+(1:Int)))) (x:=.int .i64 (i64.wrap (v11+(1:Int)))) Dj rfl Z3 HL rfl rfl
  exact qr [.v 4 (aE (k:=.i64) (E:=aa) (l:=cF) (q:=3) dz Dj rfl Fg),.v 5 (bf  (E:=aa) (l:=cF) (q:=3) Dj rfl A3 Fg rfl),.v 7 (JO (k:=.i64) (q:=0) (l:=k0) vj Dj rfl HL),.w 8 Kg] <| q0 <| ⟨(k0.set (i64.wrap (lk+(1:Int))).toNat (i64.wrap (v11+(1:Int))),i64.wrap (lk+(1:Int))),⟨h19,by kernel_rfl,Kh⟩,H⟩
 ·exact qx 8 <| ⟨rfl,k0,lk,oi H,aa.fz v8.args,.int .i64 (v8.args.length:Int),.int .i64 lk,.bool (decide (lk<(v8.args.length:Int))),h18,by kernel_rfl,Dj⟩
theorem aw.tu (L:Mem)(ax:List ab)(aA:Nat)(ik:Nat)(cF:List Int)(jf:Int)(ik:Nat)(kG:Nat)   : bE Tryd.prog cf oY m (sub [1,1,1,1,1,1,1,0,0,0,1,1,0,1,0,0] (codeOf Tryd.f67)) (fun k (σ:(List (List Int × Int)) × (List Int) × Int)=>aw.l3 m ax cF k σ.1 σ.2.1 σ.2.2) (fun σ s=>match σ with | (fj,bN,x9)=>∃eK h15,s=⟨.any :: .ptr aA 0::ke (.rs ik 0 cF.length 1 :: .int .i64 jf :: .any :: .any :: .mp kG :: .rs eK 0 bN.length 1::pS (af.fz ax :: .int .i64 (ax.length:Int) :: .int .i64 x9::C2 [])),[none],h15⟩∧Has h15 ((eK,.sl bN.length 1 (aa.l bN))::(kG,.mp (uw fj))::(ik,.sl cF.length 1 (aa.l cF))::(aA,.ob [af.fz ax])::L)) (fun out e s=>(e = .exit 6∧∃fj bN x9,(fj,bN,x9)=out∧∃PI PJ PK PL eK h15,s=⟨.any :: .ptr aA 0::ke (.rs ik 0 cF.length 1 :: .int .i64 jf :: .any :: .any :: .mp kG :: .rs eK 0 bN.length 1::pS (PI::PJ::PK::PL::GV [])),[none],h15⟩∧Has h15 ((eK,.sl bN.length 1 (aa.l bN))::(kG,.mp (uw fj))::(ik,.sl cF.length 1 (aa.l cF))::(aA,.ob [af.fz ax])::L))):=by
 refine gP (fun _=>rfl) ?_
 rintro k ⟨fj,bN,x9⟩ s out ⟨eK,h15,rfl,lC⟩ H
 have H:aw.l3 m ax cF (k+1) fj bN x9=some out:=H
 refine q1 <| qq <| qc H (fun c5 H=>?_) (fun c5 H=>?_)
 ·refine qk <| qq <| qb 7 <| qq ?_
  obtain⟨v8,Ff,H⟩:=aH H
  refine qr [.v 1 (bo (k:=.i64) (E:=af) (l:=ax) lh Ff),.v 2 (cL  (E:=af) (l:=ax) h15 rU rV Ff)] <| qq ?_
  obtain⟨v9,Fj,H⟩:=aH H
  obtain⟨nK,h16,GX,Am⟩:=Hz (cs:=[.int .i64 (0:Int),.int .i64 (0:Int),.int .i64 (0:Int),.int .i64 (0:Int),.int .i64 (0:Int),.int .i64 (0:Int),.int .i64 (0:Int),.int .i64 (0:Int),.int .i64 (0:Int)]) (l:=[(0:Int),(0:Int),(0:Int),(0:Int),(0:Int),(0:Int),(0:Int),(0:Int),(0:Int)]) lC (by kernel_rfl)
  obtain⟨h17,Fh,Di⟩:=JP (q:=0) (l:=([(0:Int),(0:Int),(0:Int),(0:Int),(0:Int),(0:Int),(0:Int),(0:Int),(0:Int)])) (l':=[i64.wrap (v9+(1:Int)),(0:Int),(0:Int),(0:Int),(0:Int),(0:Int),(0:Int),(0:Int),(0:Int)]) (x:=.agg [.int .i64 (i64.wrap (v9+(1:Int))),.int .i64 (0:Int),.int .i64 (0:Int),.int .i64 (0:Int),.int .i64 (0:Int),.int .i64 (0:Int),.int .i64 (0:Int),.int .i64 (0:Int),.int .i64 (0:Int)]) vj Am rfl rfl rfl
  refine qr [.v 2 (aE (k:=.i64) (E:=aa) (l:=cF) (q:=2) dz lC rfl Fj),.v 3 (bf  (E:=aa) (l:=cF) (q:=2) lC rfl A3 Fj rfl),.a 6 GX,.w 7 Fh] <| qq <| qq <| q0 <| qb 8 ?_
  obtain⟨yG,GY,H⟩:=aH H
  refine ql (aw.tv L ax aA ik cF jf ik kG eK fj bN x9 eK v8 nK   ([i64.wrap (v9+(1:Int)),(0:Int),(0:Int),(0:Int),(0:Int),(0:Int),(0:Int),(0:Int),(0:Int)],(0:Int)) _ _ ⟨h17,by kernel_rfl,Di⟩ GY) ?_
  rintro e s ⟨rfl,k1,BR,rfl,g13,g14,g15,g16,h20,rfl,wX⟩
  try dsimp only at H
  refine qq <| qq ?_
  obtain⟨r0,Ld,H⟩:=aH H
  refine qr [.v 1 (show bj Tryd.prog h20 116 (.ptr nK 0)=some (.agg (aa.l k1)) from wI (q:=0) (l:=k1) vj wX rfl),.v 2 (show fy Tryd.prog h20 114 (.mp kG) (.agg (aa.l k1)) true=some (.tup [.int .i64 r0.1,.bool r0.2]) from (JM (q:=2) (l:=fj) (k:=k1) Bw wX rfl Ld).1)] <| qq <| q0 <| qc H (fun c7 H=>?_) (fun c7 H=>?_)
  ·obtain⟨Kd,Le,H⟩:=aH H
   obtain⟨h21,MM,FA⟩:=O6 (q:=2) (l:=fj) (k:=k1) (v:=(fj.length:Int)) Bw wX rfl Le
   refine qr [.v 1 (show bj Tryd.prog h20 116 (.ptr nK 0)=some (.agg (aa.l k1)) from wI (q:=0) (l:=k1) vj wX rfl),.v 3 (show r9 Tryd.prog h20 114 (.mp kG)=some (.int .i64 (fj.length:Int)) from JN (q:=2) (l:=fj) E1 wX rfl),.w 4 MM] ?_
   obtain⟨r1,MN,H⟩:=aH H
   obtain⟨HK,Ki,H⟩:=aH H
   obtain⟨h22,Lg,DM⟩:=dF (P:=Tryd.prog) (tf:=3) (E:=aa) (l:=bN) (q:=1) (v:=r1.1) (x:=.int .i64 r1.1) FA rfl Z3 Ki rfl rfl
   refine qr [.v 3 (show bj Tryd.prog h21 116 (.ptr nK 0)=some (.agg (aa.l k1)) from wI (q:=0) (l:=k1) vj FA rfl),.v 4 (show fy Tryd.prog h21 114 (.mp kG) (.agg (aa.l k1)) false=some (.int .i64 r1.1) from (JM (q:=2) (l:=Kd) (k:=k1) Bw FA rfl MN).2),.v 5 (aE (k:=.i64) (E:=aa) (l:=bN) (q:=1) dz FA rfl Ki),.w 6 Lg] ?_
   have HN:Has h22 ((eK,.sl bN.length 1 (aa.l (bN.set x9.toNat r1.1)))::(kG,.mp (uw Kd))::(ik,.sl cF.length 1 (aa.l cF))::(aA,.ob [af.fz ax])::L):=Has.del DM 0
   exact q0 <| ⟨(Kd,bN.set x9.toNat r1.1,i64.wrap (x9+(1:Int))),⟨eK,h22,(W6 (b:=⟨.any :: .ptr aA 0::ke (.rs ik 0 cF.length 1 :: .int .i64 jf :: .any :: .any :: .mp kG :: .rs eK 0 bN.length 1::pS (af.fz ax :: .int .i64 (ax.length:Int) :: .int .i64 (i64.wrap (x9+(1:Int)))::C2 [])),[none],h22⟩) (by kernel_rfl) (by simp only [Wd])),(by have o:Has h22 ((eK,.sl bN.length 1 (aa.l (bN.set x9.toNat r1.1)))::(kG,.mp (uw Kd))::(ik,.sl cF.length 1 (aa.l cF))::(aA,.ob [af.fz ax])::L):=HN; simpa only [Wd] using o)⟩,H⟩
  ·refine qk ?_
   obtain⟨r2,MO,H⟩:=aH H
   obtain⟨zx,HO,H⟩:=aH H
   obtain⟨h23,IJ,MP⟩:=dF (P:=Tryd.prog) (tf:=3) (E:=aa) (l:=bN) (q:=1) (v:=r2.1) (x:=.int .i64 r2.1) wX rfl Z3 HO rfl rfl
   refine qr [.v 3 (show bj Tryd.prog h20 116 (.ptr nK 0)=some (.agg (aa.l k1)) from wI (q:=0) (l:=k1) vj wX rfl),.v 4 (show fy Tryd.prog h20 114 (.mp kG) (.agg (aa.l k1)) false=some (.int .i64 r2.1) from (JM (q:=2) (l:=fj) (k:=k1) Bw wX rfl MO).2),.v 5 (aE (k:=.i64) (E:=aa) (l:=bN) (q:=1) dz wX rfl HO),.w 6 IJ] ?_
   have mI:Has h23 ((eK,.sl bN.length 1 (aa.l (bN.set x9.toNat r2.1)))::(kG,.mp (uw fj))::(ik,.sl cF.length 1 (aa.l cF))::(aA,.ob [af.fz ax])::L):=Has.del MP 0
   exact q0 <| ⟨(fj,bN.set x9.toNat r2.1,i64.wrap (x9+(1:Int))),⟨eK,h23,(W6 (b:=⟨.any :: .ptr aA 0::ke (.rs ik 0 cF.length 1 :: .int .i64 jf :: .any :: .any :: .mp kG :: .rs eK 0 bN.length 1::pS (af.fz ax :: .int .i64 (ax.length:Int) :: .int .i64 (i64.wrap (x9+(1:Int)))::C2 [])),[none],h23⟩) (by kernel_rfl) (by simp only [Wd])),(by have o:Has h23 ((eK,.sl bN.length 1 (aa.l (bN.set x9.toNat r2.1)))::(kG,.mp (uw fj))::(ik,.sl cF.length 1 (aa.l cF))::(aA,.ob [af.fz ax])::L):=mI; simpa only [Wd] using o)⟩,H⟩
 ·exact qx 6 <| ⟨rfl,fj,bN,x9,oi H,af.fz ax,.int .i64 (ax.length:Int),.int .i64 x9,.bool (decide (x9<(ax.length:Int))),eK,h15,by kernel_rfl,lC⟩
theorem aw.oU (L:Mem)(ax:List ab)(aA:Nat)   : bE Tryd.prog cf oY m (sub [1,1,1,1,1,1,1,0,0] (codeOf Tryd.f67)) (fun k (σ:(List Int) × Int)=>aw.l2 m ax k σ.1 σ.2) (fun σ s=>match σ with | (cF,jf)=>∃g8 g9 g10 g11 g12 ik h12,s=⟨.any :: .ptr aA 0 :: .any::g8 :: .any :: .rs ik 0 cF.length 1 :: .int .i64 jf::nD (g9::g10::g11::g12::oI []),[none],h12⟩∧Has h12 ((ik,.sl cF.length 1 (aa.l cF))::(aA,.ob [af.fz ax])::L)) (fun out e s=>(e = .exit 4∧∃cF jf,.inr (cF,jf)=out∧∃uy ta uE Ar Fw Fx Fy Fz ik h12,s=⟨.any::uy :: .any::ta :: .any::uE::Ar::nD (Fw::Fx::Fy::Fz::oI []),[none],h12⟩∧Has h12 ((ik,.sl cF.length 1 (aa.l cF))::(aA,.ob [af.fz ax])::L))∨(e = .ret∧∃r,.inl r=out∧aw.fin L r s)):=by
 refine gP (fun _=>rfl) ?_
 rintro k ⟨cF,jf⟩ s out ⟨g8,g9,g10,g11,g12,ik,h12,rfl,ly⟩ H
 have H:aw.l2 m ax (k+1) cF jf=some out:=H
 refine qb 5 <| qq ?_
 obtain⟨kG,h13,DJ,yv⟩:=EK ly
 refine qr [.m 0 DJ] <| qq ?_
 obtain⟨x8,Fe,H⟩:=aH H
 obtain⟨xw,h14,DK,zu⟩:=nB (P:=Tryd.prog) (E:=aa) (z:=(0:Int)) (zv:=.int .i64 (0:Int)) dz yv 3 rfl rfl rfl rfl Fe
 refine qr [.v 0 (show bj Tryd.prog h13 29 (.ptr aA 0)=some (af.fz ax) from ca (q:=2) (cs:=[af.fz ax]) yv rfl (by kernel_rfl)),.a 2 DK] <| qq <| qq <| qr [.v 0 (show bj Tryd.prog h14 29 (.ptr aA 0)=some (af.fz ax) from ca (q:=3) (cs:=[af.fz ax]) zu rfl (by kernel_rfl))] <| qb 6 ?_
 obtain⟨gu,IK,H⟩:=aH H
 refine ql (aw.tu L ax aA ik cF jf ik kG   (([]:List (List Int × Int)),x8,(0:Int)) _ _ ⟨xw,h14,by kernel_rfl,zu⟩ IK) ?_
 rintro e s ⟨rfl,nb,cG,HM,rfl,g17,g18,g19,g20,fH,h24,rfl,IL⟩
 try dsimp only at H
 refine qq <| qq <| qr [.v 1 (show r9 Tryd.prog h24 114 (.mp kG)=some (.int .i64 (nb.length:Int)) from JN (q:=1) (l:=nb) E1 IL rfl)] <| qc H (fun c8 H=>?_) (fun c8 H=>?_)
 ·refine q1 ?_
  have GZ:Has h24 ((fH,.sl cG.length 1 (aa.l cG))::(kG,.mp (uw nb))::(ik,.sl cF.length 1 (aa.l cF))::L):=Has.del IL 3
  have MQ:Has h24 ((fH,.sl cG.length 1 (aa.l cG))::(ik,.sl cF.length 1 (aa.l cF))::L):=Has.del GZ 1
  have MR:Has h24 ((ik,.sl cF.length 1 (aa.l cF))::L):=Has.del MQ 0
  exact qt <| WZ (⟨rfl,_,oi H,bZ (.rs ik 0 cF.length 1) h24 (bX (yk (E:=aa) (l:=cF) (q:=0) MR rfl (fun _=>rfl)))⟩)
 ·refine qk <| qr [.v 2 (show r9 Tryd.prog h24 114 (.mp kG)=some (.int .i64 (nb.length:Int)) from JN (q:=1) (l:=nb) E1 IL rfl)] ?_
  have NZ:Has h24 ((fH,.sl cG.length 1 (aa.l cG))::(kG,.mp (uw nb))::(aA,.ob [af.fz ax])::L):=Has.del IL 2
  have PM:Has h24 ((fH,.sl cG.length 1 (aa.l cG))::(aA,.ob [af.fz ax])::L):=Has.del NZ 1
  exact⟨(cG,i64.wrap ((nb.length:Int) - (1:Int))),⟨.any,.any,.any,.any,.any,fH,h24,by kernel_rfl,PM⟩,H⟩
theorem oZ {aV:FuncId→cb}(ha:aV 67=oY)(Ft:NY cf m)(PN:RV cf m)(PO:R5 cf m)(ax:List ab)(h:AHeap)(L:Mem)  (o:Has h (L)){out:(List Int)}(H:aw.f m ax=some out) :
  ∃r h',be Tryd.prog aV cf m 67 [af.fz ax] h=some (r,h')∧fT h' r (aa.fz out):=by
 refine aq (fn:=Tryd.f67) ha Tryd.func67 (by kernel_rfl) (by kernel_rfl) ?_
 refine aG (Q:=fun s=>aw.fin L out s) (fun _ _ h=>h) ?_
 have H:_=some out:=H
 unfold aw.f at H
 show de _ cf oY m _ ⟨af.fz ax::Pc [],[none],h⟩ _
 refine qq ?_
 obtain⟨aA,h0,e0,o0⟩:=kc (cs:=[af.fz ax]) o (by kernel_rfl)
 refine qr [.a 0 e0] <| qq ?_
 obtain⟨x0,e1,H⟩:=aH H
 obtain⟨fV,h1,e2,o1⟩:=nB (P:=Tryd.prog) (E:=aa) (z:=(0:Int)) (zv:=.int .i64 (0:Int)) dz o0 3 rfl rfl rfl rfl e1
 refine qr [.v 0 (show bj Tryd.prog h0 29 (.ptr aA 0)=some (af.fz ax) from ca (q:=0) (cs:=[af.fz ax]) o0 rfl (by kernel_rfl)),.a 2 e2] <| qq <| qq <| q0 <| qb 0 ?_
 obtain⟨bq,e5,H⟩:=aH H
 refine ql (aw.bI L ax aA x0   (x0,(0:Int)) _ _ ⟨fV,h1,by kernel_rfl,o1⟩ e5) ?_
 rintro e s ⟨rfl,b4,x2,rfl,g0,g1,g2,fk,h4,rfl,o4⟩
 try dsimp only at H
 refine qq ?_
 obtain⟨x3,e6,H⟩:=aH H
 obtain⟨h5,e7,o5⟩:=PN _ _ _ e6 h4 _ _ _ (o4) 85 [.ptr aA 0] rfl (fun h' K' o' y0 y1 r hr=>PO y0 y1 _ r hr h' _ (K'.length+0) _ o' (JL rfl)) [.rs fk 0 b4.length 1,.fn 85 [.ptr aA 0]] (an (rfl) (an (rfl) (bm)))
 refine qr [.a 2 e7] <| qq ?_
 obtain⟨x4,e8,H⟩:=aH H
 obtain⟨gQ,h6,e9,o6⟩:=nB (P:=Tryd.prog) (E:=aa) (z:=(0:Int)) (zv:=.int .i64 (0:Int)) dz o5 3 rfl rfl rfl rfl e8
 refine qr [.v 0 (show bj Tryd.prog h5 29 (.ptr aA 0)=some (af.fz ax) from ca (q:=1) (cs:=[af.fz ax]) o5 rfl (by kernel_rfl)),.a 2 e9] <| qq <| q0 <| qq <| qq <| q0 <| qb 2 ?_
 obtain⟨oS,BG,H⟩:=aH H
 refine ql (aw.eQ L ax aA fk b4 fk x3  Ft (x4,(0:Int),(0:Int)) _ _ ⟨gQ,h6,(W6 (b:=⟨.any :: .ptr aA 0 :: .any :: .rs fk 0 b4.length 1 :: .any :: .rs gQ 0 x4.length 1 :: .int .i64 (0:Int)::nD (.rs fk 0 b4.length 1 :: .int .i64 (b4.length:Int) :: .int .i64 (0:Int)::mD []),[none],h6⟩) (by kernel_rfl) (by simp only [Wd])),(by have o:Has h6 ((gQ,.sl x4.length 1 (aa.l x4))::(fk,.sl b4.length 1 (aa.l x3))::(aA,.ob [af.fz ax])::L):=o6; simpa only [Wd] using o)⟩ BG) ?_
 rintro e s ⟨rfl,je,many1,x7,rfl,g3,g4,g5,g6,g7,gM,h11,rfl,vk⟩
 try dsimp only at H
 refine qb 4 ?_
 have tq:Has h11 ((gM,.sl je.length 1 (aa.l je))::(aA,.ob [af.fz ax])::L):=Has.del vk 1
 obtain⟨Fv,Lh,H⟩:=aH H
 refine ql (aw.oU L ax aA   (je,many1) _ _ ⟨g3,g4,g5,g6,g7,gM,h11,by kernel_rfl,tq⟩ Lh) ?_
 rintro e s (⟨rfl,l9,ML,rfl,g21,g22,g23,g24,VN,VO,VP,VQ,gN,h25,rfl,VS⟩| ⟨rfl,r3,rfl,mE⟩)
 ·try dsimp only at H
  cases H
 ·try dsimp only at H
  obtain rfl:=oi H
  exact⟨.inl rfl,mE⟩
end
end Go.Proofs.YtmekcfdllhphlaaDoor
namespace Go.Proofs.YtmekcfdllhphlaaDoor
open Go Go.R
open Go.IntKind (i64 u64 u8 u32)
def key (out:List Int)(n:ab)(i:Nat):List Int:=(gt out i+1)::((n.args.map fun a=>gt out a.toNat+1)++Wn (8 - n.args.length) 0)
def enum:List (List Int)→Nat→List (List Int × Int)
 | [],_=>[]
 | k::ks,s=>(k,(s:Int))::enum ks (s+1)
theorem ma:∀(ks:List (List Int)) (s:Nat),(enum ks s).length=ks.length
 | [],_=>rfl
 | k::ks,s=>by simp [enum,ma ks]
theorem tB:∀(ks:List (List Int)) (s:Nat) (k:List Int),sT (enum ks s) k=if k∈ks then (((s+ks.idxOf k:Nat):Int),true) else (0,false)
 | [],s,k=>rfl
 | a::ks,s,k=>by
  simp only [enum,sT,tB ks (s+1) k,WG,List.idxOf_cons]
  by_cases h:k=a
  ·subst h; simp
  ·have h':(a==k)=false:=by simpa using fun z:a=k=>h z.symm
   rw [if_neg h,h']
   by_cases h2:k∈ks
   ·simp only [h2,if_true,or_true,cond_false]
    simp only [Wc,and_true]
    omega
   ·simp [h2,h]
theorem yH:∀(ks:List (List Int)) (s:Nat) (k:List Int),k∉ks→Ac (enum ks s) k ((s+ks.length:Nat):Int)=enum (ks++[k]) s
 | [],s,k,_=>rfl
 | a::ks,s,k,h=>by
  have h1:k≠a:=fun z=>h (by simp [z])
  have h2:k∉ks:=fun z=>h (by simp [z])
  simp only [enum,Ac,Wt,if_neg h1,Wp]
  rw [show s+(ks.length+1)=s+1+ks.length by omega,yH ks (s+1) k h2]
theorem mB {n:Nat}:∀(ks:List (List Int)) (s:Nat) (k:List Int),k.length=n→(∀a∈ks,a.length=n)→sS n (enum ks s) k=true
 | [],s,k,h,_=>by simp [sS,enum,h]
 | a::ks,s,k,h,h2=>by
  have:=mB ks (s+1) k h fun a ha=>h2 a (by simp [ha])
  simp only [sS,V8,beq_iff_eq,h,true_and] at this ⊢
  simp only [enum,W2,V8,beq_iff_eq]
  exact⟨h2 a (by simp),this⟩
structure Part (n:Nat)(out:List Int)(many:Nat):Prop where
 len:out.length=n
 nc:∀i,i<n→0≤gt out i∧gt out i≤many
 R7:∀v:Nat,v≤many→∃i,i<n∧gt out i=v
structure pY (l:List ab)(out:List Int)(p:Nat)(ks:List (List Int)):Prop where
 G0:ks.Nodup
 mem:∀k,k∈ks↔∃i,i<p∧key out (nd l i) i=k
def kH (l:List ab):Prop:=l.length≤8000∧∀n∈l,n.args.length≤8∧∀a∈n.args,0≤a∧a<l.length
theorem HP {a:Int}{L:List Int}{t:Nat}{v:Int}(hL:L.length=t)(ht:t<8):(a::(L++Wn (8 - t) 0)).set (t+1) v=a::((L++[v])++Wn (8 - (t+1)) 0):=by
 rw [List.set_cons_succ,Xz _ _ (by omega),hL,XC,show 8 - t=(8 - (t+1))+1 by omega,List.replicate_succ,List.set_cons_zero,Wg]
 rfl
theorem FB {m:Nat}{out:List Int}{n:ab}(h8:n.args.length≤8)(ha:∀a∈n.args,0≤a∧a<out.length)(ho:∀i,i<out.length→0≤gt out i∧gt out i<2 ^ 40)(o:Int):∀(f t:Nat),n.args.length - t<f→t≤n.args.length→
  ∃x,aw.l4 m out n f (o::(((n.args.take t).map fun a=>gt out a.toNat+1)++Wn (8 - t) 0)) (t:Int)=some (o::((n.args.map fun a=>gt out a.toNat+1)++Wn (8 - n.args.length) 0),x)
 | 0,t,hf,_=>absurd hf (by omega)
 | f+1,t,hf,ht=>by
  have nF:(2:Nat) ^ 40=1099511627776:=by decide
  have i40:(2:Int) ^ 40=1099511627776:=by decide
  unfold aw.l4
  by_cases h:t<n.args.length
  ·have hx:ix n.args (t:Int)=some (gt n.args t):=cn h
   obtain⟨b0,b1⟩:=ha _ (aN h)
   obtain⟨c0,c1⟩:=ho (gt n.args t).toNat (by omega)
   have hy:ix out (gt n.args t)=some (gt out (gt n.args t).toNat):=fQ (by omega) (by omega)
   have e1:i64.wrap ((t:Int)+1)=((t+1:Nat):Int):=by rw [aC (by omega) (by omega)]; omega
   have hT:((n.args.take t).map fun a=>gt out a.toNat+1).length=t:=by simp; omega
   have hz:∃z,ix (o::(((n.args.take t).map fun a=>gt out a.toNat+1)++Wn (8 - t) 0)) ((t+1:Nat):Int)=some z:=⟨_,cn (by simp; omega)⟩
   obtain⟨z,hz⟩:=hz
   obtain⟨x,ih⟩:=FB (m:=m) h8 ha ho o f (t+1) (by omega) (by omega)
   have hT1:n.args.take (t+1)=n.args.take t++[gt n.args t]:=by rw [Xb,bp h]; rfl
   rw [hT1,Wx] at ih
   rw [if_pos (by simp only [decide_eq_true_eq]; omega),hx,V3,hy,V3,e1,hz,V3,V9,aC (x:=gt out (gt n.args t).toNat+1) (by omega) (by omega),HP hT (by omega)]
   exact⟨x,ih⟩
  ·have:t=n.args.length:=by omega
   subst this
   exact⟨_,by rw [if_neg (by simp),W9]⟩
theorem tC {out:List Int}{n:ab}{i:Nat}(h8:n.args.length≤8):(key out n i).length=9:=by simp [key]; omega
theorem yI {l:List ab}(ok:kH l){i:Nat}(h:i<l.length):(nd l i).args.length≤8∧∀a∈(nd l i).args,0≤a∧a<l.length:=ok.2 _ (fi (by omega) (by omega))
theorem At {m:Nat}(hm:2 ^ 30≤m){l:List ab}{out:List Int}{many:Nat}(ok:kH l)(P:Part l.length out many)(IM:many<2 ^ 30):∀(f p:Nat) (ks:List (List Int)) (next:List Int),l.length - p<f→p≤l.length→pY l out p ks→next.length=l.length→
  (∀i,i<p→gt next i=(ks.idxOf (key out (nd l i) i):Int))→
  ∃PQ next' x,aw.l3 m l out f (enum ks 0) next (p:Int)=some (enum PQ 0,next',x)∧pY l out l.length PQ∧next'.length=l.length∧∀i,i<l.length→gt next' i=(PQ.idxOf (key out (nd l i) i):Int)
 | 0,p,ks,next,hf,_,_,_,_=>absurd hf (by omega)
 | f+1,p,ks,next,hf,hp,K,hn,hg=>by
  have l8:(2:Nat) ^ 30=1073741824:=by decide
  have nF:(2:Nat) ^ 40=1099511627776:=by decide
  have i40:(2:Int) ^ 40=1099511627776:=by decide
  have h8000:=ok.1
  have Hf:=P.len
  unfold aw.l3
  by_cases h:p<l.length
  ·obtain⟨n1,n2⟩:=yI ok h
   obtain⟨r0,r1⟩:=P.nc p h
   have e1:i64.wrap ((p:Int)+1)=((p+1:Nat):Int):=by rw [aC (by omega) (by omega)]; omega
   obtain⟨x,hk⟩:=FB (m:=m) (out:=out) (n:=nd l p) n1 (by rw [Hf]; exact n2) (fun i hi=>by have:=P.nc i (by omega); omega) (gt out p+1) m 0 (by omega) (by omega)
   have hk:aw.l4 m out (nd l p) m [gt out p+1,0,0,0,0,0,0,0,0] 0=some (key out (nd l p) p,x):=hk
   have N0:=tC (out:=out) (i:=p) n1
   have zN:∀a∈ks,a.length=9:=fun a ha=>by
    obtain⟨i,hi,rfl⟩:=(K.mem a).1 ha
    exact tC (yI ok (by omega)).1
   have Kj:∃z,ix next (p:Int)=some z:=⟨_,cn (by omega)⟩
   obtain⟨z,hz⟩:=Kj
   rw [if_pos (by simp only [decide_eq_true_eq]; omega),gV (by omega) (by omega),V3,cn (by omega),V3,aC (x:=gt out p+1) (by omega) (by omega),hk,V3]
   dsimp only
   have hG:Hx 9 (enum ks 0) (key out (nd l p) p)=some (if key out (nd l p) p∈ks then (((ks.idxOf (key out (nd l p) p):Nat):Int),true) else (0,false)):=by
    unfold Hx; rw [if_pos (mB _ _ _ N0 zN),tB,Wr]
   rw [hG,V3,e1,hz]
   by_cases hin:key out (nd l p) p∈ks
   ·rw [if_pos hin,if_neg (by simp),V3,V3,V9]
    refine At hm ok P IM f (p+1) ks _ (by omega) (by omega) ⟨K.G0,fun k=>⟨fun hk=>?_,fun ⟨i,hi,pJ⟩=>?_⟩⟩ (by simpa using hn) (fun i hi=>?_)
    ·obtain⟨i,hi,h⟩:=(K.mem k).1 hk; exact⟨i,by omega,h⟩
    ·by_cases HQ:i=p
     ·subst HQ; rw [←pJ]; exact hin
     ·exact (K.mem k).2 ⟨i,by omega,pJ⟩
    ·rw [ef (by omega)]
     by_cases HQ:i=p
     ·subst HQ; rw [if_pos rfl]
     ·rw [if_neg HQ]; exact hg i (by omega)
   ·have hS:Md 9 (enum ks 0) (key out (nd l p) p) (((enum ks 0).length:Nat):Int)=some (enum (ks++[key out (nd l p) p]) 0):=by
     unfold Md; rw [if_pos (mB _ _ _ N0 zN),ma]
     have:=yH ks 0 _ hin
     rw [Wr] at this
     rw [this]
    have hid:(ks++[key out (nd l p) p]).idxOf (key out (nd l p) p)=ks.length:=by
     rw [Xi,if_neg hin,List.idxOf_cons_self,Wr]
    have Ul:Hx 9 (enum (ks++[key out (nd l p) p]) 0) (key out (nd l p) p)=some (((ks.length:Nat):Int),true):=by
     unfold Hx
     rw [if_pos (mB _ _ _ N0 (fun a ha=>by rcases Wk.1 ha with ha | ha; exact zN a ha; simp only [Wf] at ha; rw [ha]; exact N0)),tB,if_pos (by simp),Wr,hid]
    rw [if_neg hin,if_pos (by simp),hS,V3,Ul,V3,V3,V9]
    refine At hm ok P IM f (p+1) (ks++[key out (nd l p) p]) _ (by omega) (by omega) ⟨?_,fun k=>⟨fun hk=>?_,fun ⟨i,hi,pJ⟩=>?_⟩⟩ (by simpa using hn) (fun i hi=>?_)
    ·rw [Xj]
     refine⟨K.G0,by simp,fun a ha b hb=>?_⟩
     simp only [Wf] at hb
     subst hb; intro e; subst e; exact hin ha
    ·rcases Wk.1 hk with hk | hk
     ·obtain⟨i,hi,h⟩:=(K.mem k).1 hk; exact⟨i,by omega,h⟩
     ·simp only [Wf] at hk; exact⟨p,by omega,hk.symm⟩
    ·by_cases HQ:i=p
     ·subst HQ; rw [←pJ]; simp
     ·exact WL _ ((K.mem k).2 ⟨i,by omega,pJ⟩)
    ·rw [ef (by omega)]
     by_cases HQ:i=p
     ·subst HQ; rw [if_pos rfl,hid]
     ·rw [if_neg HQ,Xi,if_pos ((K.mem _).2 ⟨i,by omega,rfl⟩)]; exact hg i (by omega)
  ·have:p=l.length:=by omega
   subst this
   exact⟨ks,next,_,by rw [if_neg (by simp)],K,hn,hg⟩
theorem HR {l:List ab}{out:List Int}{ks:List (List Int)}(K:pY l out l.length ks):ks.length≤l.length:=by
 have:=K.G0.length_le_of_subset (l₂:=(List.range l.length).map fun i:Nat=>key out (nd l i) i) (fun k hk=>by
  obtain⟨i,hi,h⟩:=(K.mem k).1 hk
  exact Wv.2 ⟨i,List.mem_range.2 hi,h⟩)
 simpa using this
theorem BS {l:List ab}{out:List Int}{many:Nat}{ks:List (List Int)}(P:Part l.length out many)(K:pY l out l.length ks):many+1≤ks.length:=by
 have hn:((List.range (many+1)).map fun v:Nat=>((v:Int)+1)).Nodup:=by
  unfold List.Nodup
  rw [List.pairwise_map]
  exact List.Pairwise.imp (fun h=>by omega) List.nodup_range
 have:=hn.length_le_of_subset (l₂:=ks.map fun k=>k.headD 0) (fun x hx=>by
  obtain⟨v,hv,rfl⟩:=Wv.1 hx
  obtain⟨i,hi,h⟩:=P.R7 v (by have:=List.mem_range.1 hv; omega)
  exact Wv.2 ⟨_,(K.mem _).2 ⟨i,hi,rfl⟩,by simp [key,h]⟩)
 simpa using this
theorem Dm {l:List ab}{out next:List Int}{many:Nat}{ks:List (List Int)}(P:Part l.length out many)(K:pY l out l.length ks)(hn:next.length=l.length)(hg:∀i,i<l.length→gt next i=(ks.idxOf (key out (nd l i) i):Int)):Part l.length next (ks.length - 1):=by
 have:=BS P K
 refine⟨hn,fun i hi=>?_,fun v hv=>?_⟩
 ·have:=W7 ((K.mem _).2 ⟨i,hi,rfl⟩)
  rw [hg i hi]; omega
 ·have hv:v<ks.length:=by omega
  obtain⟨i,hi,h⟩:=(K.mem _).1 (Xa hv)
  refine⟨i,hi,?_⟩
  rw [hg i hi,h,K.G0.idxOf_getElem]
theorem FC {m:Nat}(hm:2 ^ 30≤m){l:List ab}(ok:kH l)(Inv:List Int→Prop)
  (hI:∀out many ks next,Part l.length out many→Inv out→pY l out l.length ks→next.length=l.length→(∀i,i<l.length→gt next i=(ks.idxOf (key out (nd l i) i):Int))→Inv next):∀(f:Nat) (out:List Int) (many:Nat),l.length - many<f→many<l.length→Part l.length out many→Inv out→
  ∃r IN ks,aw.l2 m l f out (many:Int)=some (.inl r)∧Part l.length r IN∧Inv r∧pY l r l.length ks∧ks.length=IN+1
 | 0,out,many,hf,_,_,_=>absurd hf (by omega)
 | f+1,out,many,hf,hlt,P,I=>by
  have l8:(2:Nat) ^ 30=1073741824:=by decide
  have h8000:=ok.1
  unfold aw.l2
  have e0:uv 8 (l.length:Int) (0:Int)=some (Wn l.length 0):=by unfold uv; rw [if_pos ⟨by omega,by rw [V9]; omega⟩,V9]
  obtain⟨ks,next,x,h1,K,hn,hg⟩:=At hm ok P (by omega) m 0 [] (Wn l.length 0) (by omega) (by omega) ⟨by simp,fun k=>⟨fun h=>by simp at h,fun ⟨i,hi,_⟩=>absurd hi (by omega)⟩⟩ (by simp) (fun i hi=>absurd hi (by omega))
  have h1:aw.l3 m l out m [] (Wn l.length 0) 0=_:=h1
  have g1:=HR K
  have g2:=BS P K
  rw [e0,V3,h1,V3]
  dsimp only
  rw [ma,aC (x:=(many:Int)+1) (by omega) (by omega),aC (x:=(ks.length:Int) - 1) (by omega) (by omega)]
  by_cases h:ks.length=many+1
  ·rw [if_pos (by simp; omega)]
   exact⟨out,many,ks,rfl,P,I,K,h⟩
  ·rw [if_neg (by simp; omega),show (ks.length:Int) - 1=((ks.length - 1:Nat):Int) by omega]
   exact FC hm ok Inv hI f next (ks.length - 1) (by omega) (by omega) (Dm P K hn hg) (hI _ _ _ _ P I K hn hg)
end Go.Proofs.YtmekcfdllhphlaaDoor
namespace Go.Proofs.YtmekcfdllhphlaaDoor
open Go Go.R
open Go.IntKind (i64 u64 u8 u32)
def ints (n:Nat):List Int:=(List.range n).map fun k:Nat=>(k:Int)
theorem dG (n:Nat):(ints n).length=n:=by simp [ints]
theorem HS {n k:Nat}(h:k<n):gt (ints n) k=k:=by
 have h1:=bp (l:=ints n) (k:=k) (by rw [dG]; exact h)
 have h2:(ints n)[k]? = some (k:Int):=by
  unfold ints
  rw [WB,Wh (by simpa using h)]
  simp
 rw [h2] at h1; exact (Wy h1).symm
theorem iC {n:Nat}{x:Int}:x∈ints n↔0≤x∧x<n:=by
 unfold ints
 rw [Wv]
 constructor
 ·rintro⟨k,hk,rfl⟩; have:=List.mem_range.1 hk; omega
 ·intro h; exact⟨x.toNat,List.mem_range.2 (by omega),by omega⟩
theorem Au (n:Nat):(ints n).Nodup:=by
 unfold ints List.Nodup
 rw [List.pairwise_map]
 exact List.Pairwise.imp (fun h=>by omega) List.nodup_range
theorem tD {l:List Int}(h:l.Nodup){i j:Nat}(hi:i<l.length)(hj:j<l.length)(e:gt l i=gt l j):i=j:=by
 have h1:=bp hi
 have h2:=bp hj
 rw [Wh hi] at h1
 rw [Wh hj] at h2
 have h1:=Wy h1
 have h2:=Wy h2
 exact (List.getElem_inj (h₀:=hi) (h₁:=hj) h).1 (by rw [h1,h2,e])
theorem eL {l:List Int}{x:Int}(h:x∈l):∃k,k<l.length∧gt l k=x:=by
 obtain⟨k,hk,e⟩:=List.getElem_of_mem h
 refine⟨k,hk,?_⟩
 have h1:=bp hk
 rw [Wh hk,e] at h1
 exact (Wy h1).symm
theorem FD {m:Nat}{z:List Int}(hz:z.length<2 ^ 40):∀(f i:Nat) (d:List Int),z.length - i<f→i≤z.length→d.length=z.length→(∀k,k<i→gt d k=k)→
  ∃x,aw.l0 m z f d (i:Int)=some (ints z.length,x)
 | 0,i,d,hf,_,_,_=>absurd hf (by omega)
 | f+1,i,d,hf,hi,hd,hg=>by
  have nF:(2:Nat) ^ 40=1099511627776:=by decide
  unfold aw.l0
  by_cases h:i<z.length
  ·obtain⟨v,hv⟩:∃v,ix d (i:Int)=some v:=⟨_,cn (by omega)⟩
   rw [if_pos (by simp only [decide_eq_true_eq]; omega),hv,V3,V9,aC (by omega) (by omega),show (i:Int)+1=((i+1:Nat):Int) by omega]
   refine FD hz f (i+1) _ (by omega) (by omega) (by simpa using hd) fun k hk=>?_
   rw [ef (by omega)]
   by_cases e:k=i
   ·subst e; rw [if_pos rfl]
   ·rw [if_neg e]; exact hg k (by omega)
  ·refine⟨i,?_⟩
   rw [if_neg (by simp only [decide_eq_true_eq]; omega)]
   have:d=ints z.length:=E2 (by rw [dG,hd]) fun k hk=>by rw [hg k (by omega),HS (by omega)]
   rw [this]
def rk (l:List ab)(d:List Int):Nat→Nat
 | 0=>0
 | k+1=>rk l d k+if cT (nd l (gt d k)) (nd l (gt d (k+1)))=0 then 0 else 1
theorem FE (l:List ab)(d:List Int):∀k,rk l d k≤k
 | 0=>V7 _
 | k+1=>by have:=FE l d k; unfold rk; split<;>omega
theorem wY (l:List ab)(d:List Int)(i:Nat):∀j,i≤j→rk l d i≤rk l d j
 | 0,h=>by
   have:i=0:=by omega
   subst this; exact V7 _
 | j+1,h=>by
  by_cases e:i=j+1
  ·subst e; exact V7 _
  ·have:=wY l d i j (by omega)
   show _≤rk l d j+_
   omega
theorem FF (l:List ab)(d:List Int):∀(j v:Nat),v≤rk l d j→∃k,k≤j∧rk l d k=v
 | 0,v,h=>⟨0,V7 _,by unfold rk at h ⊢; omega⟩
 | j+1,v,h=>by
  by_cases e:v=rk l d (j+1)
  ·exact⟨j+1,V7 _,e.symm⟩
  ·have h2:rk l d (j+1)≤rk l d j+1:=by show rk l d j+_≤_; split<;>omega
   obtain⟨k,hk,e⟩:=FF l d j v (by omega)
   exact⟨k,by omega,e⟩
theorem FG {m:Nat}(hm:3≤m){l:List ab}{o d:List Int}(hl:l.length≤8000)(ho:o.length=l.length)(hp:d.Perm (ints l.length)):∀(f p:Nat) (out:List Int),l.length - p<f→p≤l.length→out.length=l.length→(∀k,k<p→gt out (gt d k).toNat=rk l d k)→
  ∃Kk x,aw.l1 m l o d f out ((rk l d (p - 1):Nat):Int) (p:Int)=some (Kk,((rk l d (l.length - 1):Nat):Int),x)∧Kk.length=l.length∧∀k,k<l.length→gt Kk (gt d k).toNat=rk l d k
 | 0,p,out,hf,_,_,_=>absurd hf (by omega)
 | f+1,p,out,hf,zJ,MS,hg=>by
  have Pl:d.length=l.length:=by rw [hp.length_eq,dG]
  have hd:∀k,k<l.length→0≤gt d k∧gt d k<l.length:=fun k hk=>iC.1 (hp.mem_iff.1 (aN (by omega)))
  have Av:d.Nodup:=hp.symm.nodup (Au _)
  unfold aw.l1
  by_cases h:p<l.length
  ·obtain⟨d0,d1⟩:=hd p h
   have zQ:∀k,k<p+1→gt (out.set (gt d p).toNat ((rk l d p:Nat):Int)) (gt d k).toNat=rk l d k:=fun k hk=>by
    rw [ef (by omega)]
    by_cases e:k=p
    ·subst e; rw [if_pos rfl]
    ·have:gt d k≠gt d p:=fun h=>e (tD Av (by omega) (by omega) h)
     have:=hd k (by omega)
     rw [if_neg (by omega)]; exact hg k (by omega)
   obtain⟨z,hz⟩:∃z,ix out (gt d p)=some z:=⟨_,fQ (k:=(gt d p).toNat) (by omega) (by omega)⟩
   have e1:i64.wrap ((p:Int)+1)=((p+1:Nat):Int):=by rw [aC (by omega) (by omega)]; omega
   have hr:=FE l d p
   have IH:=FG hm hl ho hp f (p+1) (out.set (gt d p).toNat ((rk l d p:Nat):Int)) (by omega) (by omega) (by simpa using MS) zQ
   rw [show p+1 - 1=p by omega] at IH
   rw [if_pos (by simp only [decide_eq_true_eq]; omega),cn (by omega),V3]
   by_cases h0:0<p
   ·obtain⟨q,rfl⟩:∃q,p=q+1:=⟨p - 1,by omega⟩
    obtain⟨q0,q1⟩:=hd q (by omega)
    rw [show q+1 - 1=q by omega]
    have e2:i64.wrap (((q+1:Nat):Int) - 1)=(q:Int):=by rw [aC (by omega) (by omega)]; omega
    rw [if_pos (by simp only [decide_eq_true_eq]; omega),e2,cn (by omega),V3,gV q0 q1,V3,gV d0 d1,V3,BQ hm,V3,hz,e1]
    by_cases hc:cT (nd l (gt d q)) (nd l (gt d (q+1)))=0
    ·have PR:rk l d (q+1)=rk l d q:=by show rk l d q+_=_; rw [if_pos hc]; omega
     rw [if_neg (by simp [hc]),V3]
     rw [PR] at IH; exact IH
    ·have PR:rk l d (q+1)=rk l d q+1:=by show rk l d q+_=_; rw [if_neg hc]
     rw [if_pos (by simpa using hc),V3,aC (by omega) (by omega)]
     rw [PR] at IH; exact IH
   ·have:p=0:=by omega
    subst this
    rw [if_neg (by simp),hz,V3,e1]
    exact IH
  ·have:p=l.length:=by omega
   subst this
   exact⟨out,_,by rw [if_neg (by simp only [decide_eq_true_eq]; omega)],MS,hg⟩
theorem HT {m:Nat}(hm:3≤m)(l:List ab):Cm (fun y0 y1=>dm.f m y0 y1 l) (fun x y=>cT (nd l x) (nd l y)) (ints l.length):=fun x hx y hy=>by
 have hx:=iC.1 hx
 have hy:=iC.1 hy
 exact Fu hm hx.1 hx.2 hy.1 hy.2
theorem wZ {m:Nat}(hm:2 ^ 41≤m){l:List ab}(ok:kH l)(h1:1≤l.length)(Inv:List Int→Prop)
  (hI0:∀d out,d.Perm (ints l.length)→(Ord (fun x y=>cT (nd l x) (nd l y)) (ints l.length)→Sg (fun x y=>cT (nd l x) (nd l y)) d 0 l.length)→(∀k,k<l.length→gt out (gt d k).toNat=rk l d k)→Inv out)
  (hI:∀out many ks next,Part l.length out many→Inv out→pY l out l.length ks→next.length=l.length→(∀i,i<l.length→gt next i=(ks.idxOf (key out (nd l i) i):Int))→Inv next) :
  ∃r many ks,aw.f m l=some r∧Part l.length r many∧Inv r∧pY l r l.length ks∧ks.length=many+1:=by
 have nF:(2:Nat) ^ 40=1099511627776:=by decide
 have rl:(2:Nat) ^ 41=2199023255552:=by decide
 have l8:(2:Nat) ^ 30=1073741824:=by decide
 have h8000:=ok.1
 have e0:uv 8 (l.length:Int) (0:Int)=some (Wn l.length 0):=by unfold uv; rw [if_pos ⟨by omega,by rw [V9]; omega⟩,V9]
 unfold aw.f
 obtain⟨x,k1⟩:=FD (m:=m) (z:=Wn l.length 0) (by simp; omega) m 0 (Wn l.length 0) (by simp; omega) (by omega) rfl (fun k hk=>absurd hk (by omega))
 have k1:aw.l0 m (Wn l.length 0) m (Wn l.length 0) 0=_:=k1
 rw [List.length_replicate] at k1
 rw [e0,V3,k1,V3]
 dsimp only
 obtain⟨d,k2,hp,hs⟩:=Dk hm (l:=ints l.length) (by rw [dG]; omega) (HT (m:=m) (by omega) l)
 rw [k2,V3,V3]
 obtain⟨out,x,k3,ho,hg⟩:=FG (m:=m) (l:=l) (o:=ints l.length) (d:=d) (by omega) h8000 (dG _) hp m 0 (Wn l.length 0) (by omega) (by omega) (by simp) (fun k hk=>absurd hk (by omega))
 have k3:aw.l1 m l (ints l.length) d m (Wn l.length 0) 0 0=_:=k3
 rw [k3,V3]
 dsimp only
 rw [dG] at hs
 have Pl:d.length=l.length:=by rw [hp.length_eq,dG]
 have hP:Part l.length out (rk l d (l.length - 1)):=by
  refine⟨ho,fun i hi=>?_,fun v hv=>?_⟩
  ·obtain⟨k,hk,e⟩:=eL (hp.mem_iff.2 (iC.2 (show 0≤(i:Int)∧(i:Int)<l.length by omega)))
   have:=hg k (by omega)
   rw [e,V9] at this
   have h2:=wY l d k (l.length - 1) (by omega)
   omega
  ·obtain⟨k,hk,e⟩:=FF l d _ v hv
   have G9:k<l.length:=by omega
   have:=iC.1 (hp.mem_iff.1 (aN (l:=d) (k:=k) (by omega)))
   exact⟨(gt d k).toNat,by omega,by rw [hg k G9,e]⟩
 have MT:=FE l d (l.length - 1)
 obtain⟨r,many,ks,k4,P,I,K,zN⟩:=FC (m:=m) (by omega) ok Inv hI m out (rk l d (l.length - 1)) (by omega) (by omega) hP (hI0 d out hp hs hg)
 rw [k4]
 exact⟨r,many,ks,rfl,P,I,K,zN⟩
end Go.Proofs.YtmekcfdllhphlaaDoor
namespace Go.Proofs.YtmekcfdllhphlaaDoor
open Go Go.R
open Go.IntKind (i64 u64 u8 u32)
def yJ:cb:=gJ [0,1,2,3,4,5,7,8,9,10,11,12,14,24,53,54,55,56] [11] [262080,261696,253760,262079,261568,261574,260567,260567,258519,144855,13783,140759,144855,144855,261631,262079] [(14,[(12,none,0)])] [(8,[(12,none,1)])]
def aT.l0 (m:Nat)(x1:List Int)(x3:aj)(rec:Int→(List (Int × Int))→(List Int)→aj→aj→Option (Int × (List (Int × Int)) × aj))(v2:ab):Nat→(List Int)→Int→(List (Int × Int))→aj→Option ((List Int) × Int × (List (Int × Int)) × aj)
 | 0,_,_,_,_=>none
 | k+1,ej,x6,x7,x8=>if (decide (x6<(v2.args.length:Int)))=true then ((ix v2.args x6).bind fun v3=>(rec v3 x7 x1 x8 x3).bind fun x9=>(app 8 ej ([x9.1])).bind fun lk=>aT.l0 m x1 x3 rec v2 k lk (i64.wrap (x6+(1:Int))) x9.2.1 x9.2.2) else (some ((ej,x6,x7,x8)))
def aT.b (m:Nat)(rec:Int→(List (Int × Int))→(List Int)→aj→aj→Option (Int × (List (Int × Int)) × aj))(i0:Int)(x0:List (Int × Int))(x1:List Int)(x2:aj)(x3:aj):Option (Int × (List (Int × Int)) × aj):=(ix x1 i0).bind fun v0=>if ((yl x0 v0).2)=true then (some ((yl x0 v0).1,x0,x2)) else ((ix x1 i0).bind fun v1=>(ix x3.nodes i0).bind fun v2=>(app 56 x2.nodes ([(ab.mk v2.kind v2.int v2.label ([]))])).bind fun x5=>(aT.l0 m x1 x3 rec v2 m ([]:List Int) (0:Int) (EH x0 v1 (x2.nodes.length:Int)) (aj.mk x5 x2.root)).bind fun bq=>match bq with | (mb,BR,HM,Aw)=>(ix Aw.nodes (x2.nodes.length:Int)).bind fun v4=>some ((x2.nodes.length:Int),HM,(aj.mk (Aw.nodes.set (x2.nodes.length:Int).toNat (ab.mk v4.kind v4.int v4.label mb)) Aw.root)))
def aT.f (m:Nat):Nat→Int→(List (Int × Int))→(List Int)→aj→aj→Option (Int × (List (Int × Int)) × aj)
 | 0,_,_,_,_,_=>none
 | k+1,i0,x0,x1,x2,x3=>aT.b m (aT.f m k) i0 x0 x1 x2 x3
def aT.fin (L:Mem)(bO:Nat)(en:Nat)(dK:Nat)(dA:Nat)(eC:Nat)(dO:Nat)(dH:Nat)(i0:Int)(x0:List (Int × Int))(x1:List Int)(x2:aj)(x3:aj)(r:Int × (List (Int × Int)) × aj)(s:St):Prop:=∃ll:Nat,aI Tryd.prog (s.open yJ) Tryd.f68.results.toList=some (.int .i64 r.1)∧Has s.h ((bO,.ob [.mp en])::(en,.mp (sU r.2.1))::(dK,.ob [aa.fz x1])::(dA,.ob [.rs ll 0 r.2.2.nodes.length 4,.int .i64 r.2.2.root])::(ll,.sl r.2.2.nodes.length 4 (af.l r.2.2.nodes))::(dO,.ob [af.fz x3.nodes,.int .i64 x3.root])::(dH,.ob [.fn 68 [.ptr bO 0,.ptr dK 0,.ptr dA 0,.ptr dO 0,.ptr dH 0]])::L)
def N1 (cf:CallF)(m:Nat)(kk:Nat):Prop:=∀(i0:Int) (x0:List (Int × Int)) (x1:List Int) (x2:aj) (x3:aj) (r:Int × (List (Int × Int)) × aj),aT.f m kk i0 x0 x1 x2 x3=some r→∀h L (bO:Nat) (en:Nat) (dK:Nat) (dA:Nat) (eC:Nat) (dO:Nat) (dH:Nat),Has h ((bO,.ob [.mp en])::(en,.mp (sU x0))::(dK,.ob [aa.fz x1])::(dA,.ob [.rs eC 0 x2.nodes.length 4,.int .i64 x2.root])::(eC,.sl x2.nodes.length 4 (af.l x2.nodes))::(dO,.ob [af.fz x3.nodes,.int .i64 x3.root])::(dH,.ob [.fn 68 [.ptr bO 0,.ptr dK 0,.ptr dA 0,.ptr dO 0,.ptr dH 0]])::L)→∀xs,xs.map ay=[.int .i64 i0,.ptr bO 0,.ptr dK 0,.ptr dA 0,.ptr dO 0,.ptr dH 0]→∃ll h',cf 68 xs h=some (.int .i64 r.1,h')∧Has h' ((bO,.ob [.mp en])::(en,.mp (sU r.2.1))::(dK,.ob [aa.fz x1])::(dA,.ob [.rs ll 0 r.2.2.nodes.length 4,.int .i64 r.2.2.root])::(ll,.sl r.2.2.nodes.length 4 (af.l r.2.2.nodes))::(dO,.ob [af.fz x3.nodes,.int .i64 x3.root])::(dH,.ob [.fn 68 [.ptr bO 0,.ptr dK 0,.ptr dA 0,.ptr dO 0,.ptr dH 0]])::L)
section
variable {cf:CallF}{m:Nat}
theorem aT.bI (L:Mem)(bO:Nat)(en:Nat)(dK:Nat)(dA:Nat)(eC:Nat)(dO:Nat)(dH:Nat)(i0:Int)(x0:List (Int × Int))(x1:List Int)(x2:aj)(x3:aj)(v2:ab)  {kk:Nat}(FH:N1 cf m kk)  : bE Tryd.prog cf yJ m (sub [1,1,1,1,1,1,1,0,1,0,0] (codeOf Tryd.f68)) (fun k (σ:(List Int) × Int × (List (Int × Int)) × aj)=>aT.l0 m x1 x3 (aT.f m kk) v2 k σ.1 σ.2.1 σ.2.2.1 σ.2.2.2) (fun σ s=>match σ with | (ej,x6,x7,x8)=>∃fV da h3,s=⟨ke (.ptr dA 0 :: .any :: .ptr dH 0::ke [.int .i64 (x2.nodes.length:Int),.any,.rs fV 0 ej.length 1,.any,.any,aa.fz v2.args,.int .i64 (v2.args.length:Int),.int .i64 x6,.any]),[none],h3⟩∧Has h3 ((fV,.sl ej.length 1 (aa.l ej))::(bO,.ob [.mp en])::(en,.mp (sU x7))::(dK,.ob [aa.fz x1])::(dA,.ob [.rs da 0 x8.nodes.length 4,.int .i64 x8.root])::(da,.sl x8.nodes.length 4 (af.l x8.nodes))::(dO,.ob [af.fz x3.nodes,.int .i64 x3.root])::(dH,.ob [.fn 68 [.ptr bO 0,.ptr dK 0,.ptr dA 0,.ptr dO 0,.ptr dH 0]])::L)) (fun out e s=>(e = .exit 0∧∃ej x6 x7 x8,(ej,x6,x7,x8)=out∧∃uE FI FJ FK Kl fV da h3,s=⟨ke (.ptr dA 0 :: .any::uE::ke [.int .i64 (x2.nodes.length:Int),.any,.rs fV 0 ej.length 1,.any,.any,FI,FJ,FK,Kl]),[none],h3⟩∧Has h3 ((fV,.sl ej.length 1 (aa.l ej))::(bO,.ob [.mp en])::(en,.mp (sU x7))::(dK,.ob [aa.fz x1])::(dA,.ob [.rs da 0 x8.nodes.length 4,.int .i64 x8.root])::(da,.sl x8.nodes.length 4 (af.l x8.nodes))::(dO,.ob [af.fz x3.nodes,.int .i64 x3.root])::(dH,.ob [.fn 68 [.ptr bO 0,.ptr dK 0,.ptr dA 0,.ptr dO 0,.ptr dH 0]])::L))):=by
 refine gP (fun _=>rfl) ?_
 rintro k ⟨ej,x6,x7,x8⟩ s out ⟨fV,da,h3,rfl,o4⟩ H
 have H:aT.l0 m x1 x3 (aT.f m kk) v2 (k+1) ej x6 x7 x8=some out:=H
 refine q1 <| qq <| qc H (fun c1 H=>?_) (fun c1 H=>?_)
 ·refine qk <| qq <| qb 1 <| qq ?_
  obtain⟨v3,e7,H⟩:=aH H
  refine qr [.v 0 (bo (k:=.i64) (E:=aa) (l:=v2.args) dz e7),.v 1 (cZ  (E:=aa) (l:=v2.args) h3 A3 e7 rfl)] ?_
  obtain⟨x9,e8,H⟩:=aH H
  obtain⟨fk,h4,e9,o5⟩:=FH _ _ _ _ _ _ e8 h3 _ _ _ _ _ _ _ _ ((Has.front (Has.front (Has.front (Has.front (Has.front (Has.front (Has.front (Has.front o4 0 rfl) 7 rfl) 7 rfl) 7 rfl) 7 rfl) 7 rfl) 7 rfl) 7 rfl))  [.int .i64 v3,.ptr bO 0,.ptr dK 0,.ptr dA 0,.ptr dO 0,.ptr dH 0] (an (aQ (bD)) (an (rfl) (an (rfl) (an (rfl) (an (rfl) (an (rfl) (bm)))))))
  obtain⟨lk,nH,H⟩:=aH H
  obtain⟨gQ,h5,qS,o6⟩:=fD (P:=Tryd.prog) (E:=aa) (l:=ej) (q:=7) (t2:=42) (x:=.fz [.int .i64 x9.1] 1 true) (l2:=([x9.1])) dz o5 rfl (by kernel_rfl) rfl nH
  exact qr [.v 1 (show bj Tryd.prog h3 99 (.ptr dH 0)=some (.fn 68 [.ptr bO 0,.ptr dK 0,.ptr dA 0,.ptr dO 0,.ptr dH 0]) from ca (q:=7) (cs:=[.fn 68 [.ptr bO 0,.ptr dK 0,.ptr dA 0,.ptr dO 0,.ptr dH 0]]) o4 rfl (by kernel_rfl)),.a 3 e9,.a 5 qS] <| q0 <| ⟨(lk,i64.wrap (x6+(1:Int)),x9.2.1,x9.2.2),⟨gQ,fk,h5,by kernel_rfl,(Has.front (Has.front (Has.front (Has.front (Has.front (Has.front (Has.front (Has.front o6 6 rfl) 6 rfl) 6 rfl) 6 rfl) 6 rfl) 6 rfl) 6 rfl) 7 rfl)⟩,H⟩
 ·exact qx 0 <| ⟨rfl,ej,x6,x7,x8,oi H,.ptr dH 0,aa.fz v2.args,.int .i64 (v2.args.length:Int),.int .i64 x6,.bool (decide (x6<(v2.args.length:Int))),fV,da,h3,by kernel_rfl,o4⟩
theorem pa {aV:FuncId→cb}(ha:aV 68=yJ)  (i0:Int)(x0:List (Int × Int))(x1:List Int)(x2:aj)(x3:aj)(h:AHeap)(L:Mem)(bO:Nat)(en:Nat)(dK:Nat)(dA:Nat)(eC:Nat)(dO:Nat)(dH:Nat)  {kk:Nat}(FH:N1 cf m kk)(o:Has h ((bO,.ob [.mp en])::(en,.mp (sU x0))::(dK,.ob [aa.fz x1])::(dA,.ob [.rs eC 0 x2.nodes.length 4,.int .i64 x2.root])::(eC,.sl x2.nodes.length 4 (af.l x2.nodes))::(dO,.ob [af.fz x3.nodes,.int .i64 x3.root])::(dH,.ob [.fn 68 [.ptr bO 0,.ptr dK 0,.ptr dA 0,.ptr dO 0,.ptr dH 0]])::L)){out:Int × (List (Int × Int)) × aj}(H:aT.f m (kk+1) i0 x0 x1 x2 x3=some out) :
  ∃r h',be Tryd.prog aV cf m 68 [.int .i64 i0,.ptr bO 0,.ptr dK 0,.ptr dA 0,.ptr dO 0,.ptr dH 0] h=some (r,h')∧∃ll:Nat,r = .int .i64 out.1∧Has h' ((bO,.ob [.mp en])::(en,.mp (sU out.2.1))::(dK,.ob [aa.fz x1])::(dA,.ob [.rs ll 0 out.2.2.nodes.length 4,.int .i64 out.2.2.root])::(ll,.sl out.2.2.nodes.length 4 (af.l out.2.2.nodes))::(dO,.ob [af.fz x3.nodes,.int .i64 x3.root])::(dH,.ob [.fn 68 [.ptr bO 0,.ptr dK 0,.ptr dA 0,.ptr dO 0,.ptr dH 0]])::L):=by
 refine aq (fn:=Tryd.f68) ha Tryd.func68 (by kernel_rfl) (by kernel_rfl) ?_
 refine aG (Q:=fun s=>aT.fin L bO en dK dA eC dO dH i0 x0 x1 x2 x3 out s) (fun _ _ ⟨h1,ll,h2,h3⟩=>⟨h1,_,h2,ll,rfl,h3⟩) ?_
 have H:aT.b m (aT.f m kk) i0 x0 x1 x2 x3=some out:=H
 unfold aT.b at H
 show de _ cf yJ m _ ⟨.int .i64 i0 :: .ptr bO 0 :: .ptr dK 0 :: .ptr dA 0 :: .ptr dO 0 :: .ptr dH 0::mD [],[none],h⟩ _
 refine q1 <| qq <| qq ?_
 obtain⟨v0,e0,H⟩:=aH H
 refine qr [.v 0 (show bj Tryd.prog h 98 (.ptr bO 0)=some (.mp en) from ca (q:=0) (cs:=[.mp en]) o rfl (by kernel_rfl)),.v 1 (show bj Tryd.prog h 42 (.ptr dK 0)=some (aa.fz x1) from ca (q:=2) (cs:=[aa.fz x1]) o rfl (by kernel_rfl)),.v 3 (bo (k:=.i64) (E:=aa) (l:=x1) dz e0),.v 4 (cZ  (E:=aa) (l:=x1) h A3 e0 rfl),.v 5 (show fy Tryd.prog h 98 (.mp en) (.int .i64 v0) true=some (.tup [.int .i64 ((yl x0 v0).1),.bool ((yl x0 v0).2)]) from (O4 (q:=1) (l:=x0) (k:=v0) Mn o rfl).1)] <| qq <| q0 <| qc H (fun c0 H=>?_) (fun c0 H=>?_)
 ·obtain rfl:=oi H
  exact q1 <| qt <| ⟨.inl rfl,⟨eC,by kernel_rfl,he o⟩⟩
 ·refine qk <| qq <| qr [.v 1 (show bj Tryd.prog h 29 (.ptr dA 0)=some (.rs eC 0 x2.nodes.length 4) from ca (q:=3) (cs:=[.rs eC 0 x2.nodes.length 4,.int .i64 x2.root]) o rfl (by kernel_rfl))] <| qq ?_
  obtain⟨v1,e1,H⟩:=aH H
  obtain⟨h0,e2,o0⟩:=O5 (q:=1) (l:=x0) (k:=v1) (v:=(x2.nodes.length:Int)) Mn o rfl
  refine qr [.v 0 (show bj Tryd.prog h 98 (.ptr bO 0)=some (.mp en) from ca (q:=0) (cs:=[.mp en]) o rfl (by kernel_rfl)),.v 1 (show bj Tryd.prog h 42 (.ptr dK 0)=some (aa.fz x1) from ca (q:=2) (cs:=[aa.fz x1]) o rfl (by kernel_rfl)),.v 3 (bo (k:=.i64) (E:=aa) (l:=x1) dz e1),.v 4 (cZ  (E:=aa) (l:=x1) h A3 e1 rfl),.w 6 e2] <| qq ?_
  obtain⟨v2,e3,H⟩:=aH H
  refine qr [.v 1 (show bj Tryd.prog h0 29 (.ptr dO 0)=some (af.fz x3.nodes) from ca (q:=5) (cs:=[af.fz x3.nodes,.int .i64 x3.root]) o0 rfl (by kernel_rfl)),.v 3 (bo (k:=.i64) (E:=af) (l:=x3.nodes) lh e3),.v 4 (cL  (E:=af) (l:=x3.nodes) h0 rU rV e3)] <| qq ?_
  obtain⟨x5,e4,H⟩:=aH H
  obtain⟨aA,h1,e5,o1⟩:=fD (P:=Tryd.prog) (E:=af) (l:=x2.nodes) (q:=4) (t2:=29) (x:=.fz [.int .i64 v2.kind,.int .i64 v2.int,.str v2.label,.nils] 1 true) (l2:=([(ab.mk v2.kind v2.int v2.label ([]))])) lh o0 rfl (by kernel_rfl) rfl e4
  obtain⟨h2,e6,o2⟩:=kz (P:=Tryd.prog) (t:=29) (off:=0) (q:=3) (cs:=[.rs eC 0 x2.nodes.length 4,.int .i64 x2.root]) (fA:=[.rs aA 0 x5.length 4,.int .i64 x2.root]) (x:=.rs aA 0 x5.length 4) o1 rfl (by kernel_rfl)
  refine qr [.v 1 (show bj Tryd.prog h0 29 (.ptr dA 0)=some (.rs eC 0 x2.nodes.length 4) from ca (q:=3) (cs:=[.rs eC 0 x2.nodes.length 4,.int .i64 x2.root]) o0 rfl (by kernel_rfl)),.a 10 e5,.w 12 e6] <| qq <| q0 ?_
  have o3:Has h2 (((0),.sl (([]:List Int).length) 1 (aa.l ([]:List Int)))::(bO,.ob [.mp en])::(en,.mp (sU (EH x0 v1 (x2.nodes.length:Int))))::(dK,.ob [aa.fz x1])::(dA,.ob [.rs aA 0 x5.length 4,.int .i64 x2.root])::(aA,.sl x5.length 4 (af.l x5))::(dO,.ob [af.fz x3.nodes,.int .i64 x3.root])::(dH,.ob [.fn 68 [.ptr bO 0,.ptr dK 0,.ptr dA 0,.ptr dO 0,.ptr dH 0]])::L):=Has.nil o2 1
  refine qq <| qq <| q0 <| qb 0 ?_
  obtain⟨bq,rX,H⟩:=aH H
  refine ql (aT.bI L bO en dK dA eC dO dH i0 x0 x1 x2 x3 v2  FH  (([]:List Int),(0:Int),EH x0 v1 (x2.nodes.length:Int),(aj.mk x5 x2.root)) _ _ ⟨(0),aA,h2,by kernel_rfl,o3⟩ rX) ?_
  rintro e s ⟨rfl,mb,BR,HM,Aw,rfl,g0,g1,g2,g3,g4,gL,gM,h6,rfl,o7⟩
  try dsimp only at H
  refine qq ?_
  obtain⟨h7,rY,o8⟩:=iz (E:=aa) (l:=mb) (q:=0) o7 rfl
  obtain⟨v4,qT,H⟩:=aH H
  obtain⟨h8,pX,o9⟩:=Ht (P:=Tryd.prog) (tf:=42) (E:=af) (l:=Aw.nodes) (q:=4) (off:=3) (v:=(ab.mk v4.kind v4.int v4.label mb)) (x:=aa.fz mb) o8 rfl Ui qT rfl rfl (by decide) rfl
  obtain rfl:=oi H
  exact yr [.a 0 rY] [.v 1 (show bj Tryd.prog h7 29 (.ptr dA 0)=some (.rs gM 0 Aw.nodes.length 4) from ca (q:=3) (cs:=[.rs gM 0 Aw.nodes.length 4,.int .i64 Aw.root]) o8 rfl (by kernel_rfl)),.v 4 (aE (k:=.i64) (E:=af) (l:=Aw.nodes) (q:=4) lh o8 rfl qT),.w 6 pX] <| qq <| q0 <| qt <| ⟨.inl rfl,⟨gM,by kernel_rfl,he (by have o:Has h8 ((bO,.ob [.mp en])::(en,.mp (sU HM))::(dK,.ob [aa.fz x1])::(dA,.ob [.rs gM 0 Aw.nodes.length 4,.int .i64 Aw.root])::(gM,.sl Aw.nodes.length 4 (af.l (Aw.nodes.set (x2.nodes.length:Int).toNat (ab.mk v4.kind v4.int v4.label mb))))::(dO,.ob [af.fz x3.nodes,.int .i64 x3.root])::(dH,.ob [.fn 68 [.ptr bO 0,.ptr dK 0,.ptr dA 0,.ptr dO 0,.ptr dH 0]])::L):=o9; simpa only [Wd] using o)⟩⟩
end
end Go.Proofs.YtmekcfdllhphlaaDoor
namespace Go.Proofs.YtmekcfdllhphlaaDoor
open Go Go.R
open Go.IntKind (i64 u64 u8 u32)
def BT:cb:=gJ [0,1,2,3,4,5,6] [2,4000005] [121,113,97,65,1,25,91,123] [] [(0,[(2,some 0,4)])]
def cq.f (m:Nat)(t0:aj):Option (aj):=(aw.f m t0.nodes).bind fun x0=>(aT.f m m t0.root ([]:List (Int × Int)) x0 (aj.mk ([]:List ab) (0:Int)) t0).bind fun x1=>some x1.2.2
def cq.fin (L:Mem)(r:aj)(s:St):Prop:=∃av,aI Tryd.prog (s.open BT) Tryd.f47.results.toList=some av∧yi s.h av (.agg [af.fz r.nodes,.int .i64 r.root])
def R8 (cf:CallF)(m:Nat):Prop:=∀(t0:aj) (r:aj),cq.f m t0=some r→∀h xs,lV xs [.agg [af.fz t0.nodes,.int .i64 t0.root]]→cf 47 xs h=some (.agg [af.fz r.nodes,.int .i64 r.root],h)
section
variable {cf:CallF}{m:Nat}
theorem rA {aV:FuncId→cb}(ha:aV 47=BT)(PS:R6 cf m)(FH:N1 cf m m)(t0:aj)(h:AHeap)(L:Mem)  (o:Has h (L)){out:aj}(H:cq.f m t0=some out) :
  ∃r h',be Tryd.prog aV cf m 47 [.agg [af.fz t0.nodes,.int .i64 t0.root]] h=some (r,h')∧yi h' r (.agg [af.fz out.nodes,.int .i64 out.root]):=by
 refine aq (fn:=Tryd.f47) ha Tryd.func47 (by kernel_rfl) (by kernel_rfl) ?_
 refine aG (Q:=fun s=>cq.fin L out s) (fun _ _ h=>h) ?_
 have H:_=some out:=H
 unfold cq.f at H
 show de _ cf BT m _ ⟨.agg [af.fz t0.nodes,.int .i64 t0.root]::GV [],[none,none],h⟩ _
 refine qq ?_
 obtain⟨aA,h0,e0,o0⟩:=kc (cs:=[af.fz t0.nodes,.int .i64 t0.root]) o (by kernel_rfl)
 refine qr [.a 0 e0] ?_
 have o1:Has h0 (((0),.sl (([]:List ab).length) 4 (af.l ([]:List ab)))::(aA,.ob [af.fz t0.nodes,.int .i64 t0.root])::L):=Has.nil o0 4
 refine qq ?_
 obtain⟨x0,e1,H⟩:=aH H
 obtain⟨fV,h1,e2,o2⟩:=kc (cs:=[.nils]) o1 (by kernel_rfl)
 obtain⟨h2,e3,o3⟩:=kz (P:=Tryd.prog) (t:=42) (off:=0) (q:=0) (cs:=[.nils]) (fA:=[aa.fz x0]) (x:=aa.fz x0) o2 rfl (by kernel_rfl)
 refine qr [.v 1 (show bj Tryd.prog h0 29 (.ptr aA 0)=some (af.fz t0.nodes) from ca (q:=1) (cs:=[af.fz t0.nodes,.int .i64 t0.root]) o1 rfl (by kernel_rfl)),.a 2 (PS _ _ e1 h0 _ (gO (ae (cK (E:=af)) (az)))),.a 3 e2,.w 4 e3] <| qq ?_
 obtain⟨da,h3,e4,o4⟩:=EK o3
 obtain⟨fk,h4,e5,o5⟩:=kc (cs:=[.nk]) o4 (by kernel_rfl)
 obtain⟨h5,e6,o6⟩:=kz (P:=Tryd.prog) (t:=98) (off:=0) (q:=0) (cs:=[.nk]) (fA:=[.mp da]) (x:=.mp da) o5 rfl (by kernel_rfl)
 refine qr [.m 0 e4,.a 1 e5,.w 2 e6] <| qq ?_
 have o7:Has h5 ((((0)),.sl (([]:List ab).length) 4 (af.l ([]:List ab)))::(fk,.ob [.mp da])::(da,.mp (sU ([]:List (Int × Int))))::(fV,.ob [aa.fz x0])::((0),.sl (([]:List ab).length) 4 (af.l ([]:List ab)))::(aA,.ob [af.fz t0.nodes,.int .i64 t0.root])::L):=Has.nil o6 4
 obtain⟨gQ,h6,e7,o8⟩:=kc (cs:=[.rs ((0)) 0 (([]:List ab).length) 4,.int .i64 (0:Int)]) o7 (by kernel_rfl)
 refine qr [.a 0 e7] <| qq ?_
 obtain⟨gL,h7,e8,o9⟩:=kc (cs:=[.r7]) o8 (by kernel_rfl)
 refine qr [.a 0 e8] <| qq ?_
 obtain⟨h8,e9,uA⟩:=kz (P:=Tryd.prog) (t:=99) (off:=0) (q:=0) (cs:=[.r7]) (fA:=[.fn 68 [.ptr fk 0,.ptr fV 0,.ptr gQ 0,.ptr aA 0,.ptr gL 0]]) (x:=.fn 68 [.ptr fk 0,.ptr fV 0,.ptr gQ 0,.ptr aA 0,.ptr gL 0]) o9 rfl (by kernel_rfl)
 refine qr [.w 1 e9] <| qq ?_
 obtain⟨x1,nH,H⟩:=aH H
 obtain⟨gM,h9,qS,vk⟩:=FH _ _ _ _ _ _ nH h8 _ _ _ _ _ _ _ _ ((Has.front (Has.front (Has.front (Has.front (Has.front (Has.front (Has.front (Has.front uA 6 rfl) 1 rfl) 7 rfl) 4 rfl) 4 rfl) 7 rfl) 7 rfl) 7 rfl))  [.int .i64 t0.root,.ptr fk 0,.ptr fV 0,.ptr gQ 0,.ptr aA 0,.ptr gL 0] (an (aQ (bD)) (an (rfl) (an (rfl) (an (rfl) (an (rfl) (an (rfl) (bm)))))))
 refine qr [.v 0 (show bj Tryd.prog h8 99 (.ptr gL 0)=some (.fn 68 [.ptr fk 0,.ptr fV 0,.ptr gQ 0,.ptr aA 0,.ptr gL 0]) from ca (q:=0) (cs:=[.fn 68 [.ptr fk 0,.ptr fV 0,.ptr gQ 0,.ptr aA 0,.ptr gL 0]]) uA rfl (by kernel_rfl)),.v 2 (show bj Tryd.prog h8 3 (.ptr aA 1)=some (.int .i64 t0.root) from ca (q:=7) (cs:=[af.fz t0.nodes,.int .i64 t0.root]) uA rfl (by kernel_rfl)),.a 3 qS] ?_
 have tq:Has h9 ((fk,.ob [.mp da])::(da,.mp (sU x1.2.1))::(fV,.ob [aa.fz x0])::(gQ,.ob [.rs gM 0 x1.2.2.nodes.length 4,.int .i64 x1.2.2.root])::(gM,.sl x1.2.2.nodes.length 4 (af.l x1.2.2.nodes))::(aA,.ob [af.fz t0.nodes,.int .i64 t0.root])::((0),.sl (([]:List ab).length) 4 (af.l ([]:List ab)))::L):=Has.del vk 6
 have ly:Has h9 ((fk,.ob [.mp da])::(da,.mp (sU x1.2.1))::(fV,.ob [aa.fz x0])::(gQ,.ob [.rs gM 0 x1.2.2.nodes.length 4,.int .i64 x1.2.2.root])::(gM,.sl x1.2.2.nodes.length 4 (af.l x1.2.2.nodes))::((0),.sl (([]:List ab).length) 4 (af.l ([]:List ab)))::L):=Has.del tq 5
 have yv:Has h9 ((fk,.ob [.mp da])::(da,.mp (sU x1.2.1))::(gQ,.ob [.rs gM 0 x1.2.2.nodes.length 4,.int .i64 x1.2.2.root])::(gM,.sl x1.2.2.nodes.length 4 (af.l x1.2.2.nodes))::((0),.sl (([]:List ab).length) 4 (af.l ([]:List ab)))::L):=Has.del ly 2
 have zu:Has h9 ((fk,.ob [.mp da])::(gQ,.ob [.rs gM 0 x1.2.2.nodes.length 4,.int .i64 x1.2.2.root])::(gM,.sl x1.2.2.nodes.length 4 (af.l x1.2.2.nodes))::((0),.sl (([]:List ab).length) 4 (af.l ([]:List ab)))::L):=Has.del yv 1
 have lC:Has h9 ((gQ,.ob [.rs gM 0 x1.2.2.nodes.length 4,.int .i64 x1.2.2.root])::(gM,.sl x1.2.2.nodes.length 4 (af.l x1.2.2.nodes))::((0),.sl (([]:List ab).length) 4 (af.l ([]:List ab)))::L):=Has.del zu 0
 refine qs [.v 0 (show bj Tryd.prog h9 31 (.ptr gQ 0)=some (.agg [.rs gM 0 x1.2.2.nodes.length 4,.int .i64 x1.2.2.root]) from ca (q:=0) (cs:=[.rs gM 0 x1.2.2.nodes.length 4,.int .i64 x1.2.2.root]) lC rfl (by kernel_rfl))] ?_
 have Am:Has h9 ((gQ,.ob [.rs gM 0 x1.2.2.nodes.length 4,.int .i64 x1.2.2.root])::(gM,.sl x1.2.2.nodes.length 4 (af.l x1.2.2.nodes))::L):=Has.del lC 2
 have Di:Has h9 ((gM,.sl x1.2.2.nodes.length 4 (af.l x1.2.2.nodes))::L):=Has.del Am 0
 obtain rfl:=oi H
 exact qt <| ⟨.inl rfl,wM (.agg [.rs gM 0 x1.2.2.nodes.length 4,.int .i64 x1.2.2.root]) h9 (pF (cP (ae (sQ (E:=af) (l:=x1.2.2.nodes) (q:=0) Di rfl (fun _=>rfl)) (ae (aM) (az)))))⟩
end
end Go.Proofs.YtmekcfdllhphlaaDoor
namespace Go.Proofs.YtmekcfdllhphlaaDoor
open Go Go.R
open Go.IntKind (i64 u64 u8 u32)
def kI:List Int→Nat→List (Int × Int)
 | [],_=>[]
 | k::ks,s=>(k,(s:Int))::kI ks (s+1)
theorem vo:∀(ks:List Int) (s:Nat) (k:Int),yl (kI ks s) k=if k∈ks then (((s+ks.idxOf k:Nat):Int),true) else (0,false)
 | [],s,k=>rfl
 | a::ks,s,k=>by
  simp only [kI,yl,vo ks (s+1) k,WG,List.idxOf_cons]
  by_cases h:k=a
  ·subst h; simp
  ·have h':(a==k)=false:=by simpa using fun z:a=k=>h z.symm
   rw [if_neg h,h']
   by_cases h2:k∈ks
   ·simp only [h2,if_true,or_true,cond_false]
    simp only [Wc,and_true]
    omega
   ·simp [h2,h]
theorem vp:∀(ks:List Int) (s:Nat) (k:Int),k∉ks→EH (kI ks s) k ((s+ks.length:Nat):Int)=kI (ks++[k]) s
 | [],s,k,_=>rfl
 | a::ks,s,k,h=>by
  have h1:k≠a:=fun z=>h (by simp [z])
  have h2:k∉ks:=fun z=>h (by simp [z])
  simp only [kI,EH,Wt,if_neg h1,Wp]
  rw [show s+(ks.length+1)=s+1+ks.length by omega,vp ks (s+1) k h2]
def dV (cls:List Int)(a:Int):Int:=gt cls a.toNat
def idx (cls o:List Int)(a:Int):Int:=((o.map (dV cls)).idxOf (dV cls a):Nat)
def uF (cls:List Int)(l:List ab)(o:List Int)(i:Int):ab:=⟨(nd l i).kind,(nd l i).int,(nd l i).label,(nd l i).args.map (idx cls o)⟩
def qU (cls:List Int)(l:List ab):Nat→Int→List Int→List Int
 | 0,_,o=>o
 | k+1,i,o=>if dV cls i∈o.map (dV cls) then o else (nd l i).args.foldl (fun o a=>qU cls l k a o) (o++[i])
structure Vs (cls:List Int)(n:Nat)(o:List Int):Prop where
 G0:(o.map (dV cls)).Nodup
 nc:∀x∈o,0≤x∧x<n
structure Ps (cls:List Int)(l:List ab)(o o':List Int)(ns Ax:List ab):Prop where
 vs:Vs cls l.length o'
 pre:∃t,o'=o++t
 len:Ax.length=o'.length
 old:∀k,k<o.length→Ax[k]? = ns[k]?
 new:∀k,o.length≤k→k<o'.length→Ax[k]? = some (uF cls l o' (gt o' k))
 arg:∀k,o.length≤k→k<o'.length→∀a∈(nd l (gt o' k)).args,dV cls a∈o'.map (dV cls)
theorem Vs.qV {cls:List Int}{n:Nat}{o:List Int}(v:Vs cls n o):o.length≤n:=by
 have hn:o.Nodup:=by
  have:=v.G0
  unfold List.Nodup at this ⊢
  rw [List.pairwise_map] at this
  exact List.Pairwise.imp (fun h e=>h (by rw [e])) this
 have:=hn.length_le_of_subset (l₂:=ints n) (fun x hx=>iC.2 (v.nc x hx))
 rwa [dG] at this
theorem Ps.refl {cls:List Int}{l:List ab}{o:List Int}{ns:List ab}(v:Vs cls l.length o)(h:ns.length=o.length):Ps cls l o o ns ns:=
 ⟨v,⟨[],by simp⟩,h,fun _ _=>rfl,fun k h1 h2=>by omega,fun k h1 h2=>by omega⟩
theorem ie {a b:List Int}{k:Nat}(h:k<a.length):gt (a++b) k=gt a k:=by
 unfold gt; rw [Wm,Wm,WC h]
theorem nL {cls o t:List Int}{a:Int}(h:dV cls a∈o.map (dV cls)):idx cls (o++t) a=idx cls o a:=by
 unfold idx; rw [Wx,Xi,if_pos h]
theorem yK {cls:List Int}{l:List ab}{o t:List Int}{i:Int}(h:∀a∈(nd l i).args,dV cls a∈o.map (dV cls)):uF cls l (o++t) i=uF cls l o i:=by
 unfold uF
 congr 1
 exact Xc fun a ha=>nL (h a ha)
theorem Ps.trans {cls:List Int}{l:List ab}{o o1 o2:List Int}{ns n1 n2:List ab}(a:Ps cls l o o1 ns n1)(b:Ps cls l o1 o2 n1 n2):Ps cls l o o2 ns n2:=by
 obtain⟨t1,rfl⟩:=a.pre
 obtain⟨t2,rfl⟩:=b.pre
 have hl:(o++t1).length=o.length+t1.length:=by simp
 refine⟨b.vs,⟨t1++t2,by simp⟩,b.len,fun k hk=>(b.old k (by omega)).trans (a.old k hk),fun k h1 h2=>?_,fun k h1 h2 x hx=>?_⟩
 ·by_cases h:k<(o++t1).length
  ·rw [b.old k h,a.new k h1 h,ie h,yK (a.arg k h1 h)]
  ·exact b.new k (by omega) h2
 ·by_cases h:k<(o++t1).length
  ·rw [ie h] at hx
   rw [Wx]
   exact WL _ (a.arg k h1 h x hx)
  ·exact b.arg k (by omega) h2 x hx
section
variable {m:Nat}{cls:List Int}{l:List ab}{root:Int}
abbrev MU:=Int→(List (Int × Int))→(List Int)→aj→aj→Option (Int × (List (Int × Int)) × aj)
def IP (cls:List Int)(l:List ab)(root:Int)(rec:MU)(df:Int→List Int→List Int)(need:Nat):Prop:=∀(i:Int) (o:List Int) (ns:List ab),0≤i→i<l.length→Vs cls l.length o→ns.length=o.length→l.length<need+o.length→
 ∃Ax,rec i (kI (o.map (dV cls)) 0) cls ⟨ns,0⟩ ⟨l,root⟩=some (idx cls (df i o) i,kI ((df i o).map (dV cls)) 0,⟨Ax,0⟩)∧Ps cls l o (df i o) ns Ax∧dV cls i∈(df i o).map (dV cls)
theorem FL {rec:MU}{df:Int→List Int→List Int}{need:Nat}(hm:2 ^ 30≤m)(ok:kH l)(V:IP cls l root rec df need){v:ab}(h8:v.args.length≤8)(ha:∀a∈v.args,0≤a∧a<l.length){o0:List Int}{R9:List ab}(MV:l.length<need+o0.length):∀(f t:Nat) (o:List Int) (ns:List ab),v.args.length - t<f→t≤v.args.length→Ps cls l o0 o R9 ns→(∀a∈v.args.take t,dV cls a∈o.map (dV cls))→
  ∃o' Ax x,o'=(v.args.drop t).foldl (fun o a=>df a o) o∧aT.l0 m cls ⟨l,root⟩ rec v f ((v.args.take t).map (idx cls o)) (t:Int) (kI (o.map (dV cls)) 0) ⟨ns,0⟩=some (v.args.map (idx cls o'),x,kI (o'.map (dV cls)) 0,⟨Ax,0⟩)∧Ps cls l o0 o' R9 Ax∧∀a∈v.args,dV cls a∈o'.map (dV cls)
 | 0,t,o,ns,hf,_,_,_=>absurd hf (by omega)
 | f+1,t,o,ns,hf,ht,P,hin=>by
  have l8:(2:Nat) ^ 30=1073741824:=by decide
  unfold aT.l0
  by_cases h:t<v.args.length
  ·obtain⟨b0,b1⟩:=ha _ (aN h)
   have VT:o0.length≤o.length:=by obtain⟨s,rfl⟩:=P.pre; simp
   obtain⟨Um,k1,P1,NM⟩:=V (gt v.args t) o ns b0 b1 P.vs P.len (by omega)
   obtain⟨s,hs⟩:=P1.pre
   have hT1:v.args.take (t+1)=v.args.take t++[gt v.args t]:=by rw [Xb,bp h]; rfl
   have hD:v.args.drop t=gt v.args t::v.args.drop (t+1):=by
    obtain⟨h4,h5⟩:=Wb.1 (bp h)
    rw [←h5]; exact Wi h4
   have PT:∀a∈v.args.take (t+1),dV cls a∈(df (gt v.args t) o).map (dV cls):=fun a ha=>by
    rw [hT1] at ha
    rcases Wk.1 ha with ha | ha
    ·rw [hs,Wx]; exact WL _ (hin a ha)
    ·simp only [Wf] at ha; subst ha; exact NM
   obtain⟨o',Ax,x,e,k2,P2,h2⟩:=FL hm ok V h8 ha MV f (t+1) (df (gt v.args t) o) Um (by omega) (by omega) (P.trans P1) PT
   refine⟨o',Ax,x,by rw [hD]; exact e,?_,P2,h2⟩
   have e1:i64.wrap ((t:Int)+1)=((t+1:Nat):Int):=by rw [aC (by omega) (by omega)]; omega
   have la:app 8 ((v.args.take t).map (idx cls o)) [idx cls (df (gt v.args t) o) (gt v.args t)]=some ((v.args.take (t+1)).map (idx cls (df (gt v.args t) o))):=by
    unfold app
    rw [if_pos (by simp; omega),hT1,Wx]
    congr 2
    exact Xc fun a ha=>by rw [hs]; exact (nL (hin a ha)).symm
   rw [if_pos (by simp only [decide_eq_true_eq]; omega),cn h,V3,k1,V3,la,V3,e1]
   exact k2
  ·have:t=v.args.length:=by omega
   subst this
   rw [W9] at hin ⊢
   exact⟨o,ns,_,by rw [List.drop_length]; rfl,by rw [if_neg (by simp)],P,hin⟩
theorem tE (hm:2 ^ 30≤m)(ok:kH l)(hc:cls.length=l.length):∀k,IP cls l root (aT.f m k) (qU cls l k) k
 | 0=>fun i o ns h0 h1 v hl hn=>absurd v.qV (by omega)
 | k+1=>fun i o ns h0 h1 v hl hn=>by
  have l8:(2:Nat) ^ 30=1073741824:=by decide
  have h8000:=ok.1
  have Ay:=v.qV
  show ∃Ax,aT.b m (aT.f m k) i (kI (o.map (dV cls)) 0) cls ⟨ns,0⟩ ⟨l,root⟩=_∧_
  unfold aT.b
  have hx:ix cls i=some (dV cls i):=fQ (by omega) (by omega)
  rw [hx,V3,vo,Wr]
  by_cases h:dV cls i∈o.map (dV cls)
  ·have hd:qU cls l (k+1) i o=o:=by unfold qU; rw [if_pos h]
   rw [hd,if_pos h]
   exact⟨ns,rfl,Ps.refl v hl,h⟩
  ·have hd:qU cls l (k+1) i o=(nd l i).args.foldl (fun o a=>qU cls l k a o) (o++[i]):=by
    show (if dV cls i∈o.map (dV cls) then o else (nd l i).args.foldl (fun o a=>qU cls l k a o) (o++[i]))=_
    rw [if_neg h]
   have v1:Vs cls l.length (o++[i]):=by
    refine⟨?_,fun x hx=>?_⟩
    ·rw [Wx,Xj]
     refine⟨v.G0,by simp,fun a ha b hb=>?_⟩
     simp only [Wo,List.map_nil,Wf] at hb
     subst hb; intro e; subst e; exact h ha
    ·rcases Wk.1 hx with hx | hx
     ·exact v.nc x hx
     ·simp only [Wf] at hx; subst hx; exact⟨h0,h1⟩
   have FM:=v1.qV
   simp only [We,Wp,WY] at FM
   have la:app 56 ns [(⟨(nd l i).kind,(nd l i).int,(nd l i).label,[]⟩:ab)]=some (ns++[⟨(nd l i).kind,(nd l i).int,(nd l i).label,[]⟩]):=by
    unfold app; rw [if_pos (by simp; omega)]
   have LX:EH (kI (o.map (dV cls)) 0) (dV cls i) ((ns.length:Nat):Int)=kI ((o++[i]).map (dV cls)) 0:=by
    have:=vp (o.map (dV cls)) 0 (dV cls i) h
    rw [Wr,WI,←hl] at this
    rw [this,Wx]; rfl
   obtain⟨n1,n2⟩:=ok.2 _ (fi h0 h1)
   have P0:Ps cls l (o++[i]) (o++[i]) (ns++[⟨(nd l i).kind,(nd l i).int,(nd l i).label,[]⟩]) (ns++[⟨(nd l i).kind,(nd l i).int,(nd l i).label,[]⟩]):=Ps.refl v1 (by simp [hl])
   obtain⟨o',Ax,x,e,k2,P2,h2⟩:=FL (m:=m) (v:=nd l i) (need:=k) hm ok (tE hm ok hc k) n1 n2 (o0:=o++[i]) (by simp; omega) m 0 (o++[i]) _ (by omega) (by omega) P0 (fun a ha=>by simp at ha)
   rw [WK] at e
   rw [List.take_zero,List.map_nil] at k2
   have k2:aT.l0 m cls ⟨l,root⟩ (aT.f m k) (nd l i) m [] 0 _ _=_:=k2
   obtain⟨s,hs⟩:=P2.pre
   have Hf:o.length<o'.length:=by rw [hs]; simp
   have MW:Ax[o.length]? = some ⟨(nd l i).kind,(nd l i).int,(nd l i).label,[]⟩:=by
    rw [P2.old _ (by simp),←hl,Wq (V7 _),XC]; rfl
   have Kj:ix Ax ((ns.length:Nat):Int)=some ⟨(nd l i).kind,(nd l i).int,(nd l i).label,[]⟩:=by
    unfold ix; rw [if_pos (by omega),V9,hl,MW]
   have Sa:gt o' o.length=i:=by
    rw [hs,ie (by simp)]
    unfold gt; rw [Wm,Wq (V7 _),XC]; rfl
   have PU:idx cls o' i=(o.length:Nat):=by
    rw [hs,nL (by simp)]
    unfold idx
    rw [Wx,Xi,if_neg h]; simp
   rw [hd,←e,if_neg h,if_neg (by simp),V3,gV h0 h1,V3,la,V3,LX,k2,V3]
   dsimp only
   rw [Kj,V3,V9,PU,hl]
   refine⟨_,rfl,⟨P2.vs,⟨[i]++s,by rw [hs]; simp⟩,by simpa using P2.len,fun q hq=>?_,fun q h3 h4=>?_,fun q h3 h4 a ha=>?_⟩,by rw [hs]; simp⟩
   ·rw [XA (by omega),P2.old q (by simp; omega),WC (by omega)]
   ·by_cases hq:q=o.length
    ·subst hq
     rw [Xu (by rw [P2.len]; omega),Sa]; rfl
    ·rw [XA (by omega)]
     exact P2.new q (by simp; omega) h4
   ·by_cases hq:q=o.length
    ·subst hq; rw [Sa] at ha; exact h2 a ha
    ·exact P2.arg q (by simp; omega) h4 a ha
end
theorem tF {m:Nat}(hm:2 ^ 41≤m){t:aj}(ok:kH t.nodes)(h1:1≤t.nodes.length)(r0:0≤t.root)(r1:t.root<t.nodes.length)(Inv:List Int→Prop)
  (hI0:∀d out,d.Perm (ints t.nodes.length)→(Ord (fun x y=>cT (nd t.nodes x) (nd t.nodes y)) (ints t.nodes.length)→Sg (fun x y=>cT (nd t.nodes x) (nd t.nodes y)) d 0 t.nodes.length)→(∀k,k<t.nodes.length→gt out (gt d k).toNat=rk t.nodes d k)→Inv out)
  (hI:∀out many ks next,Part t.nodes.length out many→Inv out→pY t.nodes out t.nodes.length ks→next.length=t.nodes.length→(∀i,i<t.nodes.length→gt next i=(ks.idxOf (key out (nd t.nodes i) i):Int))→Inv next) :
  ∃cls many ks ns,cq.f m t=some ⟨ns,0⟩∧Part t.nodes.length cls many∧Inv cls∧pY t.nodes cls t.nodes.length ks∧ks.length=many+1∧Ps cls t.nodes [] (qU cls t.nodes m t.root []) [] ns∧dV cls t.root∈(qU cls t.nodes m t.root []).map (dV cls):=by
 have l8:(2:Nat) ^ 30=1073741824:=by decide
 have rl:(2:Nat) ^ 41=2199023255552:=by decide
 have h8000:=ok.1
 obtain⟨cls,many,ks,k1,P,I,K,zN⟩:=wZ hm ok h1 Inv hI0 hI
 obtain⟨ns,k2,P2,h2⟩:=tE (m:=m) (root:=t.root) (by omega) ok P.len m t.root [] [] r0 r1 ⟨by simp,fun x hx=>by simp at hx⟩ rfl (by simp; omega)
 refine⟨cls,many,ks,ns,?_,P,I,K,zN,P2,h2⟩
 unfold cq.f
 have k2:aT.f m m t.root [] cls ⟨[],0⟩ t=_:=k2
 rw [k1,V3,k2]; rfl
end Go.Proofs.YtmekcfdllhphlaaDoor
namespace Go.Proofs.YtmekcfdllhphlaaDoor
open Go Go.R
open Go.IntKind (i64 u64 u8 u32)
theorem tG:∀(x:List UInt8),Op.bytesLess x x=false
 | []=>rfl
 | a::x=>by simp [Op.bytesLess,tG x]
theorem w5:∀(x y:List UInt8),Op.bytesLess x y=true→Op.bytesLess y x=false
 | _,[],h=>by cases ‹List UInt8›<;>simp [Op.bytesLess] at h
 | [],b::y,_=>rfl
 | a::x,b::y,h=>by
  simp only [Op.bytesLess,WT,V8,decide_eq_true_eq,beq_iff_eq] at h
  simp only [Op.bytesLess,Bool.or_eq_false_iff,Bool.and_eq_false_iff,decide_eq_false_iff_not,beq_eq_false_iff_ne]
  rcases h with h | ⟨rfl,h⟩
  ·refine⟨fun h2=>?_,.inl fun e=>?_⟩
   ·rw [Xp] at h h2; omega
   ·subst e; rw [Xp] at h; omega
  ·exact⟨by rw [Xp]; omega,.inr (w5 x y h)⟩
theorem FN:∀(x y:List UInt8),Op.bytesLess x y=true∨x=y∨Op.bytesLess y x=true
 | [],[]=>.inr (.inl rfl)
 | [],b::y=>.inl rfl
 | a::x,[]=>.inr (.inr rfl)
 | a::x,b::y=>by
  simp only [Op.bytesLess,WT,V8,decide_eq_true_eq,beq_iff_eq,List.cons.injEq]
  rcases Nat.lt_trichotomy a.toNat b.toNat with h | h | h
  ·exact .inl (.inl (Xp.2 h))
  ·have:a=b:=UInt8.toNat_inj.1 h
   subst this
   rcases FN x y with h1 | h1 | h1
   ·exact .inl (.inr ⟨rfl,h1⟩)
   ·exact .inr (.inl ⟨rfl,h1⟩)
   ·exact .inr (.inr (.inr ⟨rfl,h1⟩))
  ·exact .inr (.inr (.inl (Xp.2 h)))
theorem yL:∀(x y z:List UInt8),Op.bytesLess x y=true→Op.bytesLess y z=true→Op.bytesLess x z=true
 | _,_,[],_,h=>by cases ‹List UInt8›<;>simp [Op.bytesLess] at h
 | _,[],c::z,h,_=>by cases ‹List UInt8›<;>simp [Op.bytesLess] at h
 | [],b::y,c::z,_,_=>rfl
 | a::x,b::y,c::z,h1,h2=>by
  simp only [Op.bytesLess,WT,V8,decide_eq_true_eq,beq_iff_eq] at h1 h2 ⊢
  rcases h1 with h1 | ⟨rfl,h1⟩
  ·rcases h2 with h2 | ⟨rfl,h2⟩
   ·left; rw [Xp] at *; omega
   ·exact .inl h1
  ·rcases h2 with h2 | ⟨rfl,h2⟩
   ·exact .inl h2
   ·exact .inr ⟨rfl,yL x y z h1 h2⟩
theorem Az {x y:ByteArray}(h:x.data.toList=y.data.toList):x=y:=by
 cases x with | mk a=>cases y with | mk b=>cases a; cases b; simp only at h; subst h; rfl
structure Km {α:Type}(c:α→α→Int):Prop where
 zero:∀x y,c x y=0→x=y
 refl:∀x,c x x=0
 neg:∀x y,c y x = - c x y
 tr:∀x y z,c x y≤0→c y z≤0→c x z≤0
theorem mc:Km cI:=by
 refine⟨fun x y h=>?_,fun x=>?_,fun x y=>?_,fun x y z h1 h2=>?_⟩
 ·unfold cI at h; split at h
  ·omega
  ·split at h<;>omega
 ·unfold cI; simp
 ·unfold cI; split<;>split<;>(try split)<;>omega
 ·unfold cI at *
  split at h1<;>split at h2<;>(try split at h1)<;>(try split at h2)<;>(try omega)<;>split<;>(try split)<;>omega
theorem yM (x y:ByteArray):cS x y=if Op.bytesLess x.data.toList y.data.toList=true then -1 else if x=y then 0 else 1:=by
 unfold cS ED
 cases h:Op.bytesLess x.data.toList y.data.toList with
 | true=>rfl
 | false=>
  simp only [Bool.false_or,Wj,if_false]
  by_cases e:x=y
  ·subst e; simp
  ·rw [if_neg e]
   have:(x.data.toList==y.data.toList)=false:=by
    rw [beq_eq_false_iff_ne]; exact fun h=>e (Az h)
   rw [this]; rfl
theorem FO:Km cS:=by
 refine⟨fun x y h=>?_,fun x=>?_,fun x y=>?_,fun x y z h1 h2=>?_⟩
 ·rw [yM] at h
  split at h
  ·omega
  ·split at h
   ·assumption
   ·omega
 ·rw [yM,tG]; simp
 ·rw [yM,yM]
  rcases FN x.data.toList y.data.toList with h | h | h
  ·have h2:=w5 _ _ h
   have hne:¬y=x:=fun e=>by subst e; rw [tG] at h; cases h
   rw [if_pos h,h2]; simp [hne]
  ·have:=Az h
   subst this
   rw [tG]; simp
  ·have h2:=w5 _ _ h
   have hne:¬x=y:=fun e=>by subst e; rw [tG] at h; cases h
   rw [if_pos h,h2]; simp [hne]
 ·rw [yM] at h1 h2 ⊢
  split at h1
  ·rename_i g1
   split at h2
   ·rename_i g2
    rw [if_pos (yL _ _ _ g1 g2)]; omega
   ·split at h2
    ·rename_i e; subst e; rw [if_pos g1]; omega
    ·omega
  ·split at h1
   ·rename_i e; subst e
    split at h2
    ·rename_i g2; rw [if_pos g2]; omega
    ·split at h2
     ·rename_i g e; rw [if_neg g,if_pos e]; omega
     ·omega
   ·omega
theorem FP {α β:Type}{c:α→α→Int}{d:β→β→Int}(C:Km c)(D:Km d):Km fun (p q:α × β)=>Dl (c p.1 q.1) (d p.2 q.2):=by
 refine⟨fun x y h=>?_,fun x=>?_,fun x y=>?_,fun x y z h1 h2=>?_⟩
 ·unfold Dl at h
  split at h
  ·rename_i h1; exact Prod.ext (C.zero _ _ h1) (D.zero _ _ h)
  ·exact absurd h ‹_›
 ·unfold Dl; rw [C.refl,if_pos rfl,D.refl]
 ·skip
  unfold Dl
  have:=C.neg x.1 y.1
  by_cases h:c x.1 y.1=0
  ·rw [if_pos h,if_pos (by omega),D.neg]
  ·rw [if_neg h,if_neg (by omega),C.neg]
 ·skip
  unfold Dl at *
  by_cases a:c x.1 y.1=0
  ·rw [if_pos a] at h1
   have e:=C.zero _ _ a
   rw [←e] at h2
   by_cases b:c x.1 z.1=0
   ·rw [if_pos b] at h2 ⊢; exact D.tr _ _ _ h1 h2
   ·rw [if_neg b] at h2 ⊢; exact h2
  ·rw [if_neg a] at h1
   have hz:c x.1 z.1≤0:=by
    by_cases b:c y.1 z.1=0
    ·rw [←C.zero _ _ b]; exact h1
    ·rw [if_neg b] at h2; exact C.tr _ _ _ h1 h2
   have hne:c x.1 z.1≠0:=fun e=>by
    have e1:=C.zero _ _ e
    by_cases b:c y.1 z.1=0
    ·have e2:=C.zero _ _ b; rw [e1,←e2] at a; exact a (C.refl _)
    ·rw [if_neg b,←e1] at h2
     have:=C.neg x.1 y.1; omega
   rw [if_neg hne]; exact hz
theorem BU:Km fun (p q:Int × ByteArray)=>Dl (cI p.1 q.1) (cS p.2 q.2):=FP mc FO
theorem BV:Km fun (p q:ByteArray × Int)=>Dl (cS p.1 q.1) (cI p.2 q.2):=FP FO mc
theorem kY {a b:ab}(h:a.kind=b.kind):cT a b=if a.kind=3 then Dl (cI a.args.length b.args.length) (cS a.label b.label) else Dl (cS a.label b.label) (cI a.int b.int):=by unfold cT; rw [if_pos h]
theorem jt {a b:ab}(h:a.kind≠b.kind):cT a b=cI a.kind b.kind:=by unfold cT; rw [if_neg h]
theorem iS (a b:ab):cT b a = - cT a b:=by
 by_cases h:a.kind=b.kind
 ·rw [kY h,kY h.symm,←h]
  split
  ·exact BU.neg ((a.args.length:Int),a.label) ((b.args.length:Int),b.label)
  ·exact BV.neg (a.label,a.int) (b.label,b.int)
 ·rw [jt h,jt (Xn h)]; exact mc.neg _ _
theorem yN (a b c:ab)(h1:cT a b≤0)(h2:cT b c≤0):cT a c≤0:=by
 by_cases e1:a.kind=b.kind
 ·by_cases e2:b.kind=c.kind
  ·rw [kY e1] at h1
   rw [kY e2,←e1] at h2
   rw [kY (e1.trans e2)]
   split
   ·rename_i h3; rw [if_pos h3] at h1 h2
    exact BU.tr ((a.args.length:Int),a.label) ((b.args.length:Int),b.label) ((c.args.length:Int),c.label) h1 h2
   ·rename_i h3; rw [if_neg h3] at h1 h2
    exact BV.tr (a.label,a.int) (b.label,b.int) (c.label,c.int) h1 h2
  ·rw [jt e2] at h2
   rw [jt (by rw [e1]; exact e2),e1]; exact h2
 ·rw [jt e1] at h1
  by_cases e2:b.kind=c.kind
  ·rw [jt (by rw [←e2]; exact e1),←e2]; exact h1
  ·rw [jt e2] at h2
   have n1:cI a.kind b.kind≠0:=fun h=>e1 (mc.zero _ _ h)
   have n2:cI b.kind c.kind≠0:=fun h=>e2 (mc.zero _ _ h)
   by_cases e3:a.kind=c.kind
   ·rw [←e3] at h2
    have:=mc.neg a.kind b.kind
    omega
   ·rw [jt e3]; exact mc.tr _ _ _ h1 h2
structure Alike (a b:ab):Prop where
 kind:a.kind=b.kind
 int:a.int=b.int
 label:a.label=b.label
 len:a.args.length=b.args.length
theorem Alike.refl (a:ab):Alike a a:=⟨rfl,rfl,rfl,rfl⟩
theorem Alike.symm {a b:ab}(h:Alike a b):Alike b a:=⟨h.1.symm,h.2.symm,h.3.symm,h.4.symm⟩
theorem Alike.trans {a b c:ab}(h:Alike a b)(k:Alike b c):Alike a c:=⟨h.1.trans k.1,h.2.trans k.2,h.3.trans k.3,h.4.trans k.4⟩
theorem Alike.cT {a b:ab}(h:Alike a b):cT a b=0:=by
 rw [kY h.kind]
 split
 ·rw [h.len,h.label]; exact BU.refl ((b.args.length:Int),b.label)
 ·rw [h.label,h.int]; exact BV.refl (b.label,b.int)
theorem FQ {a b:ab}(h:cT a b=0)(ha:a.kind=3→a.int=0)(hb:b.kind=3→b.int=0)(PV:a.kind≠3→a.args=[])(hb2:b.kind≠3→b.args=[]):Alike a b:=by
 by_cases e:a.kind=b.kind
 ·rw [kY e] at h
  split at h
  ·rename_i h3
   have:=BU.zero ((a.args.length:Int),a.label) ((b.args.length:Int),b.label) h
   simp only [Wc] at this
   exact⟨e,by rw [ha h3,hb (by rw [←e]; exact h3)],this.2,by omega⟩
  ·rename_i h3
   have:=BV.zero (a.label,a.int) (b.label,b.int) h
   simp only [Wc] at this
   exact⟨e,this.2,this.1,by rw [PV h3,hb2 (by rw [←e]; exact h3)]⟩
 ·rw [jt e] at h
  exact absurd (mc.zero _ _ h) e
theorem Kn (l:List ab)(s:List Int):Ord (fun x y=>cT (nd l x) (nd l y)) s:=by
 refine⟨fun x _ y _ z _ h1 h2=>?_,fun x _ y _ h=>?_⟩
 ·skip
  have a1:=iS (nd l x) (nd l y)
  have a2:=iS (nd l y) (nd l z)
  have a3:=iS (nd l x) (nd l z)
  have:=yN (nd l x) (nd l y) (nd l z) (by omega) (by omega)
  omega
 ·skip
  have a1:=iS (nd l x) (nd l y)
  omega
end Go.Proofs.YtmekcfdllhphlaaDoor
