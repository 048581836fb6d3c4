/- Part of the proof: PT7, Q77, PT8, PT9, Q78, Q53, PT10, PB1. -/
import Derived.Test.YtmekcfdllhphlaaGreatDoorK8
set_option linter.unusedVariables false
set_option linter.unusedSimpArgs false
set_option maxRecDepth 100000
open Bool renaming and_eq_true → Yo, false_eq_true → YA, or_eq_true → Za
open Eq renaming trans → Zf
open Int renaming toNat_natCast → Yq
open List renaming length_append → Ys, length_set → Yt, getElem?_eq_some_iff → Yu, getElem?_eq_getElem → Yv, mem_singleton → Yw, append_assoc → Yx, mem_append → Yy, drop_eq_getElem_cons → Yz, getD_eq_getElem?_getD → YB, length_cons → YD, getElem?_append_right → YE, replicate → YF, mem_map → YH, map_cons → YJ, cons_append → YL, map_append → YP, getElem?_map → YQ, getElem?_append_left → YV, mem_cons → YW, length_map → YY, drop_zero → YZ, mem_append_left → Y4, length_nil → Y6, getElem_mem → Ze, all_cons → Zg, idxOf_lt_length_of_mem → Zl, mem_of_getElem? → Zm, take_add_one → Zn, map_congr_left → Zo, take_length → Zq, idxOf_append → Zv, nodup_append → Zw, set_append_right → ZD, getElem?_set_self → ZI, getElem?_set_ne → ZP, getElem_of_mem → ZU
open Nat renaming le_refl → Yn, zero_add → YG, sub_self → ZT
open Ne renaming symm → ZB
open Option renaming bind_some → Yj
open Option.some renaming inj → YI
open Or renaming inr → Zx
open Prod.mk renaming injEq → Yr
open UInt8 renaming lt_iff_toNat_lt → ZE
namespace Go.Proofs.YtmekcfdllhphlaaGreatDoor
open Go Go.R
open Go.IntKind (i64 u64 u8 u32)
def ej (t:an):Bool:=decide (1≤t.nodes.length)&&decide (t.nodes.length≤8000)&&decide (0≤t.root)&&decide (t.root<t.nodes.length)&&t.nodes.all fun n=>kB n t.nodes.length
theorem oz {m:Nat}(hm:2 ^ 30≤m)(t:an):gN.f m t=some (ej t):=by
 have lE:(2:Nat) ^ 30=1073741824:=by decide
 have mj:(2:Nat) ^ 40=1099511627776:=by decide
 unfold gN.f ej
 by_cases h1:1≤t.nodes.length
 ·rw [if_pos (by simp only [decide_eq_true_eq]; omega),decide_eq_true h1]
  by_cases h2:t.nodes.length≤8000
  ·rw [if_pos (by simp only [decide_eq_true_eq]; omega),decide_eq_true h2]
   by_cases h3:0≤t.root
   ·rw [if_pos (by simp only [decide_eq_true_eq]; omega),decide_eq_true h3]
    by_cases h4:t.root<t.nodes.length
    ·rw [if_pos (by simp only [decide_eq_true_eq]; omega),decide_eq_true h4]
     rw [wx (g:=fun n=>!(kB n t.nodes.length)) (by omega) (by omega) (fun n _=>by unfold fV.f; rw [Er (by omega)]; rfl),Yj]
     simp [List.not_any_eq_all_not]
    ·rw [if_neg (by simp only [decide_eq_true_eq]; omega),decide_eq_false h4]; rfl
   ·rw [if_neg (by simp only [decide_eq_true_eq]; omega),decide_eq_false h3]; rfl
  ·rw [if_neg (by simp only [decide_eq_true_eq]; omega),decide_eq_false h2]; rfl
 ·rw [if_neg (by simp only [decide_eq_true_eq]; omega),decide_eq_false h1]; rfl
def cI (x y:Int):Int:=if x<y then -1 else if y<x then 1 else 0
def cS (x y:ByteArray):Int:=if Op.bytesLess x.data.toList y.data.toList=true then -1 else if (!F3 x y)=true then 1 else 0
def Ez (x y:Int):Int:=if x=0 then y else x
def cT (a b:ab):Int:=if a.kind=b.kind then (if a.kind=3 then Ez (cI a.args.length b.args.length) (cS a.label b.label) else Ez (cS a.label b.label) (cI a.int b.int)) else cI a.kind b.kind
theorem xX {m:Nat}(x y:Int):cQ.f m x y=some (cI x y):=by
 unfold cQ.f er.f cI
 simp only [beq_self_eq_true,Bool.not_true,Yj,YA,if_false]
 by_cases h:x<y
 ·rw [if_pos (by simpa using h),if_pos h]
 ·rw [if_neg (by simpa using h),if_neg h]
  by_cases h2:y<x
  ·rw [if_pos (by simpa using h2),if_pos h2]
  ·rw [if_neg (by simpa using h2),if_neg h2]
theorem CW {m:Nat}(x y:ByteArray):cu.f m x y=some (cS x y):=by
 unfold cu.f dp.f cS
 simp only [beq_self_eq_true,Bool.not_true,Yj,YA,if_false]
 split
 ·rfl
 ·split
  ·rfl
  ·rfl
theorem zF {m:Nat}(hm:3≤m)(x y:Int):cg.f m [x,y]=some (Ez x y):=by
 obtain⟨k,rfl⟩:∃k,m=k+3:=⟨m - 3,by omega⟩
 unfold cg.f Ez
 have e1:i64.wrap ((0:Int)+1)=1:=by decide
 have e2:i64.wrap ((1:Int)+1)=2:=by decide
 have a0:ix [x,y] 0=some x:=rfl
 have a1:ix [x,y] 1=some y:=rfl
 unfold cg.l0
 rw [if_pos (by simp),a0,Yj]
 by_cases h:x=0
 ·subst h
  rw [if_neg (by simp),e1,if_pos rfl]
  unfold cg.l0
  rw [if_pos (by simp),a1,Yj]
  by_cases h2:y=0
  ·subst h2
   rw [if_neg (by simp),e2]
   unfold cg.l0
   rw [if_neg (by simp)]; rfl
  ·rw [if_pos (by simpa using h2)]; rfl
 ·rw [if_pos (by simpa using h),if_neg h]; rfl
theorem CX {m:Nat}(hm:3≤m)(a b:ab):dc.f m a b=some (cT a b):=by
 unfold dc.f cT
 by_cases h:a.kind=b.kind
 ·rw [if_neg (by simp [h]),if_pos h]
  by_cases h3:a.kind=3
  ·rw [if_pos (by simpa using h3),if_pos h3,xX,CW,Yj,Yj,zF hm]; rfl
  ·rw [if_neg (by simpa using h3),if_neg h3,xX,CW,Yj,Yj,zF hm]; rfl
 ·rw [if_pos (by simpa using h),if_neg h,xX]; rfl
def nd (l:List ab)(i:Int):ab:=l.getD i.toNat ⟨0,0,⟨#[]⟩,[]⟩
theorem il {l:List ab}{i:Int}(h0:0≤i)(h1:i<l.length):ix l i=some (nd l i):=by
 unfold ix nd
 have h:i.toNat<l.length:=by omega
 rw [if_pos h0,YB,Yv h]; rfl
theorem fD {l:List ab}{i:Int}(h0:0≤i)(h1:i<l.length):nd l i∈l:=by
 have:=il h0 h1
 unfold ix at this
 rw [if_pos h0] at this
 exact Zm this
theorem GR {m:Nat}(hm:3≤m){l:List ab}{i j:Int}(h0:0≤i)(h1:i<l.length)(h2:0≤j)(h3:j<l.length):dy.f m i j l=some (cT (nd l i) (nd l j)):=by
 unfold dy.f
 rw [il h0 h1,il h2 h3,Yj,Yj,CX hm]; rfl
end Go.Proofs.YtmekcfdllhphlaaGreatDoor
namespace Go.Proofs.YtmekcfdllhphlaaGreatDoor
open Go Go.R
open Go.IntKind (i64 u64 u8 u32)
def pG:cm:=gI [0,1,2,3,4,5,6,7,8,9,10,11,12,13,14,15,17,22,23,24,37,38,39,40,61,73,74,75,76,87,88,89,90,110,126] [12] [34359738365,34359738357,34359345141,34358820853,34359345125,34359345141,34359345141,34359738357,34359738325,34359738261,34352398229,34344009621,34352397845,34335620757,34352397973,34352398229,34352398229,34359737757,34359736733,34124855709,33856420253,34124849565,34124841373,30366749085,26071781789,30366699933,30366749085,30366749085,34124779933,25534910877,34124845469,34124855709,34124855709,17179867613,34359738363,34359738269] [] []
def aw.l0 (m:Nat)(x0:List Int):Nat→(List Int)→Int→Option ((List Int) × Int)
 | 0,_,_=>none
 | k+1,fi,x1=>if (decide (x1<(x0.length:Int)))=true then ((ix fi x1).bind fun v0=>aw.l0 m x0 k (fi.set x1.toNat x1) (i64.wrap (x1+(1:Int)))) else (some ((fi,x1)))
def aw.l1 (m:Nat)(ax:List ab)(b8:List Int)(x3:(List Int)):Nat→(List Int)→Int→Int→Option ((List Int) × Int × Int)
 | 0,_,_,_=>none
 | k+1,bR,dU,x5=>if (decide (x5<(b8.length:Int)))=true then ((ix x3 x5).bind fun v1=>if (decide (x5 > (0:Int)))=true then ((ix x3 (i64.wrap (x5 - (1:Int)))).bind fun v2=>(ix ax v2).bind fun v3=>(ix ax v1).bind fun v4=>(dc.f m v3 v4).bind fun x6=>if (!(x6==(0:Int)))=true then ((ix bR v1).bind fun v5=>aw.l1 m ax b8 x3 k (bR.set v1.toNat (i64.wrap (dU+(1:Int)))) (i64.wrap (dU+(1:Int))) (i64.wrap (x5+(1:Int)))) else ((ix bR v1).bind fun v6=>aw.l1 m ax b8 x3 k (bR.set v1.toNat dU) dU (i64.wrap (x5+(1:Int))))) else ((ix bR v1).bind fun v7=>aw.l1 m ax b8 x3 k (bR.set v1.toNat dU) dU (i64.wrap (x5+(1:Int))))) else (some ((bR,dU,x5)))
def aw.l4 (m:Nat)(cF:List Int)(v8:ab):Nat→(List Int)→Int→Option ((List Int) × Int)
 | 0,_,_=>none
 | k+1,k0,mQ=>if (decide (mQ<(v8.args.length:Int)))=true then ((ix v8.args mQ).bind fun v10=>(ix cF v10).bind fun v11=>(ix k0 (i64.wrap (mQ+(1:Int)))).bind fun v12=>aw.l4 m cF v8 k (k0.set (i64.wrap (mQ+(1:Int))).toNat (i64.wrap (v11+(1:Int)))) (i64.wrap (mQ+(1:Int)))) else (some ((k0,mQ)))
def aw.l3 (m:Nat)(ax:List ab)(cF:List Int):Nat→(List (List Int × Int))→(List Int)→Int→Option ((List (List Int × Int)) × (List Int) × Int)
 | 0,_,_,_=>none
 | k+1,fE,bT,x9=>if (decide (x9<(ax.length:Int)))=true then ((ix ax x9).bind fun v8=>(ix cF x9).bind fun v9=>(aw.l4 m cF v8 m ([i64.wrap (v9+(1:Int)),(0:Int),(0:Int),(0:Int),(0:Int),(0:Int),(0:Int),(0:Int),(0:Int)]) (0:Int)).bind fun uv=>match uv with | (k1,Is)=>(I6 9 fE k1).bind fun r0=>if (!r0.2)=true then ((N9 9 fE k1 (fE.length:Int)).bind fun Ma=>(I6 9 Ma k1).bind fun r1=>(ix bT x9).bind fun Ji=>aw.l3 m ax cF k Ma (bT.set x9.toNat r1.1) (i64.wrap (x9+(1:Int)))) else ((I6 9 fE k1).bind fun r2=>(ix bT x9).bind fun AB=>aw.l3 m ax cF k fE (bT.set x9.toNat r2.1) (i64.wrap (x9+(1:Int))))) else (some ((fE,bT,x9)))
def aw.l2 (m:Nat)(ax:List ab):Nat→(List Int)→Int→Option (Sum (List Int) ((List Int) × Int))
 | 0,_,_=>none
 | k+1,cF,jz=>(vh 8 (ax.length:Int) (0:Int)).bind fun x8=>(aw.l3 m ax cF m ([]:List (List Int × Int)) x8 (0:Int)).bind fun gO=>match gO with | (nO,cN,Jk)=>if ((nO.length:Int)==(i64.wrap (jz+(1:Int))))=true then (some (.inl cF)) else (aw.l2 m ax k cN (i64.wrap ((nO.length:Int) - (1:Int))))
def aw.f (m:Nat)(ax:List ab):Option ((List Int)):=(vh 8 (ax.length:Int) (0:Int)).bind fun x0=>(aw.l0 m x0 m x0 (0:Int)).bind fun bg=>match bg with | (b8,x2)=>(eZ.f m b8 (fun y0 y1=>dy.f m y0 y1 ax)).bind fun x3=>(vh 8 (ax.length:Int) (0:Int)).bind fun x4=>(aw.l1 m ax b8 x3 m x4 (0:Int) (0:Int)).bind fun mN=>match mN with | (ik,many1,x7)=>(aw.l2 m ax m ik many1).bind fun GS=>match GS with | .inl r3=>some r3 | .inr (mR,OM)=>none
def aw.fin (L:Mem)(r:(List Int))(s:St):Prop:=∃av,aH Tryz.prog (s.open pG) Tryz.f77.results.toList=some av∧gu s.h av (aa.fz r)
def Uk (cf:CallF)(m:Nat):Prop:=∀(ax:List ab) (r:(List Int)),aw.f m ax=some r→∀h xs,eY fq h xs [ah.fz ax]→cf 77 xs h=some (aa.fz r,h)
section
variable {cf:CallF}{m:Nat}
theorem aw.bP (L:Mem)(ax:List ab)(az:Nat)(x0:List Int)   : bL Tryz.prog cf pG m (sub [1,1,0,1,0,0] (codeOf Tryz.f77)) (fun k (σ:(List Int) × Int)=>aw.l0 m x0 k σ.1 σ.2) (fun σ s=>match σ with | (fi,x1)=>∃dh h2,s=⟨.any :: .ptr az 0 :: .any :: .rs dh 0 fi.length 1::ot (.int .i64 (x0.length:Int) :: .int .i64 x1::Gi []),[none],h2⟩∧Has h2 ((dh,.sl fi.length 1 (aa.l fi))::(az,.ob [ah.fz ax])::L)) (fun out e s=>(e = .exit 0∧∃fi x1,(fi,x1)=out∧∃xS RA Mb dh h2,s=⟨.any :: .ptr az 0 :: .any :: .rs dh 0 fi.length 1::ot (xS::RA::Mb::Jd []),[none],h2⟩∧Has h2 ((dh,.sl fi.length 1 (aa.l fi))::(az,.ob [ah.fz ax])::L))):=by
 refine ig (fun _=>rfl) ?_
 rintro k ⟨fi,x1⟩ s out ⟨dh,h2,rfl,o2⟩ H
 have H:aw.l0 m x0 (k+1) fi x1=some out:=H
 refine q1 <| qq <| qc H (fun c0 H=>?_) (fun c0 H=>?_)
 ·refine qk <| qq <| qb 1 <| qq <| q0 ?_
  obtain⟨v0,e3,H⟩:=aI H
  obtain⟨h3,e4,o3⟩:=dM (P:=Tryz.prog) (tf:=3) (E:=aa) (l:=fi) (q:=0) (v:=x1) (x:=.int .i64 x1) o2 rfl Z3 e3 rfl rfl
  exact qr [.v 3 (aE (k:=.i64) (E:=aa) (l:=fi) (q:=0) dJ o2 rfl e3),.w 4 e4] <| q0 <| ⟨(fi.set x1.toNat x1,i64.wrap (x1+(1:Int))),⟨dh,h3,(Zf (b:=⟨.any :: .ptr az 0 :: .any :: .rs dh 0 fi.length 1::ot (.int .i64 (x0.length:Int) :: .int .i64 (i64.wrap (x1+(1:Int)))::Gi []),[none],h3⟩) (by kernel_rfl) (by simp only [Yt])),(by have o:Has h3 ((dh,.sl fi.length 1 (aa.l (fi.set x1.toNat x1)))::(az,.ob [ah.fz ax])::L):=o3; simpa only [Yt] using o)⟩,H⟩
 ·exact qx 0 <| ⟨rfl,fi,x1,oi H,.int .i64 (x0.length:Int),.int .i64 x1,.bool (decide (x1<(x0.length:Int))),dh,h2,by kernel_rfl,o2⟩
theorem aw.fC (L:Mem)(ax:List ab)(az:Nat)(fu:Nat)(b8:List Int)(fu:Nat)(x3:(List Int))  (GQ:PU cf m):bL Tryz.prog cf pG m (sub [1,1,1,1,1,1,0,1,0,0] (codeOf Tryz.f77)) (fun k (σ:(List Int) × Int × Int)=>aw.l1 m ax b8 x3 k σ.1 σ.2.1 σ.2.2) (fun σ s=>match σ with | (bR,dU,x5)=>∃hX h7,s=⟨.any :: .ptr az 0 :: .any :: .rs fu 0 b8.length 1 :: .any :: .rs hX 0 bR.length 1 :: .int .i64 dU::ot (.rs fu 0 b8.length 1 :: .int .i64 (b8.length:Int) :: .int .i64 x5::oq []),[none],h7⟩∧Has h7 ((hX,.sl bR.length 1 (aa.l bR))::(fu,.sl b8.length 1 (aa.l x3))::(az,.ob [ah.fz ax])::L)) (fun out e s=>(e = .exit 2∧∃bR dU x5,(bR,dU,x5)=out∧∃vn GU GV GW GX hX h7,s=⟨.any :: .ptr az 0 :: .any::vn :: .any :: .rs hX 0 bR.length 1 :: .int .i64 dU::ot (GU::GV::GW::GX::pq []),[none],h7⟩∧Has h7 ((hX,.sl bR.length 1 (aa.l bR))::(fu,.sl b8.length 1 (aa.l x3))::(az,.ob [ah.fz ax])::L))):=by
 refine ig (fun _=>rfl) ?_
 rintro k ⟨bR,dU,x5⟩ s out ⟨hX,h7,rfl,o7⟩ H
 have H:aw.l1 m ax b8 x3 (k+1) bR dU x5=some out:=H
 refine q1 <| qq <| qc H (fun c1 H=>?_) (fun c1 H=>?_)
 ·refine qk <| qq <| qb 3 <| qq ?_
  obtain⟨v1,ow,H⟩:=aI H
  refine qr [.v 1 (aE (k:=.i64) (E:=aa) (l:=x3) (q:=1) dJ o7 rfl ow),.v 2 (bf  (E:=aa) (l:=x3) (q:=1) o7 rfl A3 ow rfl)] <| qq <| qq ?_
  rcases dQ H with⟨c2,H⟩| ⟨c2,H⟩
  ·obtain⟨v2,rI,H⟩:=aI H
   obtain⟨v3,sK,H⟩:=aI H
   obtain⟨v4,sL,H⟩:=aI H
   obtain⟨x6,uo,H⟩:=aI H
   refine qr [.b 2 c2,.v 3 (show bo Tryz.prog h7 42 (.ptr az 0)=some (ah.fz ax) from cn (q:=2) (cs:=[ah.fz ax]) o7 rfl (by kernel_rfl)),.v 7 (aE (k:=.i64) (E:=aa) (l:=x3) (q:=1) dJ o7 rfl rI),.v 8 (bf  (E:=aa) (l:=x3) (q:=1) o7 rfl A3 rI rfl),.v 9 (bI (k:=.i64) (E:=ah) (l:=ax) mf sK),.v 10 (dL  (E:=ah) (l:=ax) h7 tQ tR sK),.v 11 (show bo Tryz.prog h7 42 (.ptr az 0)=some (ah.fz ax) from cn (q:=2) (cs:=[ah.fz ax]) o7 rfl (by kernel_rfl)),.v 13 (bI (k:=.i64) (E:=ah) (l:=ax) mf sL),.v 14 (dL  (E:=ah) (l:=ax) h7 tQ tR sL),.a 15 (GQ _ _ _ uo h7 _ (ia (ae (dN (ae (aN) (ae (aN) (ae (b7) (ae (cW (E:=aa)) (aB)))))) (ae (dN (ae (aN) (ae (aN) (ae (b7) (ae (cW (E:=aa)) (aB)))))) (aB)))))] ?_
   refine qc H (fun c3 H=>?_) (fun c3 H=>?_)
   ·refine q0 ?_
    obtain⟨v5,sM,H⟩:=aI H
    obtain⟨h8,wy,o8⟩:=dM (P:=Tryz.prog) (tf:=3) (E:=aa) (l:=bR) (q:=0) (v:=(i64.wrap (dU+(1:Int)))) (x:=.int .i64 (i64.wrap (dU+(1:Int)))) o7 rfl Z3 sM rfl rfl
    exact qr [.v 3 (aE (k:=.i64) (E:=aa) (l:=bR) (q:=0) dJ o7 rfl sM),.w 4 wy] <| q0 <| ⟨(bR.set v1.toNat (i64.wrap (dU+(1:Int))),i64.wrap (dU+(1:Int)),i64.wrap (x5+(1:Int))),⟨hX,h8,(Zf (b:=⟨.any :: .ptr az 0 :: .any :: .rs fu 0 b8.length 1 :: .any :: .rs hX 0 bR.length 1 :: .int .i64 (i64.wrap (dU+(1:Int)))::ot (.rs fu 0 b8.length 1 :: .int .i64 (b8.length:Int) :: .int .i64 (i64.wrap (x5+(1:Int)))::oq []),[none],h8⟩) (by kernel_rfl) (by simp only [Yt])),(by have o:Has h8 ((hX,.sl bR.length 1 (aa.l (bR.set v1.toNat (i64.wrap (dU+(1:Int))))))::(fu,.sl b8.length 1 (aa.l x3))::(az,.ob [ah.fz ax])::L):=o8; simpa only [Yt] using o)⟩,H⟩
   ·refine qk ?_
    obtain⟨v6,xQ,H⟩:=aI H
    obtain⟨h9,CN,o9⟩:=dM (P:=Tryz.prog) (tf:=3) (E:=aa) (l:=bR) (q:=0) (v:=dU) (x:=.int .i64 dU) o7 rfl Z3 xQ rfl rfl
    exact qr [.v 3 (aE (k:=.i64) (E:=aa) (l:=bR) (q:=0) dJ o7 rfl xQ),.w 4 CN] <| q0 <| ⟨(bR.set v1.toNat dU,dU,i64.wrap (x5+(1:Int))),⟨hX,h9,(Zf (b:=⟨.any :: .ptr az 0 :: .any :: .rs fu 0 b8.length 1 :: .any :: .rs hX 0 bR.length 1 :: .int .i64 dU::ot (.rs fu 0 b8.length 1 :: .int .i64 (b8.length:Int) :: .int .i64 (i64.wrap (x5+(1:Int)))::oq []),[none],h9⟩) (by kernel_rfl) (by simp only [Yt])),(by have o:Has h9 ((hX,.sl bR.length 1 (aa.l (bR.set v1.toNat dU)))::(fu,.sl b8.length 1 (aa.l x3))::(az,.ob [ah.fz ax])::L):=o9; simpa only [Yt] using o)⟩,H⟩
  ·refine qr [.b 2 c2] <| Ej <| qk ?_
   obtain⟨v7,xR,H⟩:=aI H
   obtain⟨h10,CO,vo⟩:=dM (P:=Tryz.prog) (tf:=3) (E:=aa) (l:=bR) (q:=0) (v:=dU) (x:=.int .i64 dU) o7 rfl Z3 xR rfl rfl
   exact qr [.v 3 (aE (k:=.i64) (E:=aa) (l:=bR) (q:=0) dJ o7 rfl xR),.w 4 CO] <| q0 <| ⟨(bR.set v1.toNat dU,dU,i64.wrap (x5+(1:Int))),⟨hX,h10,(Zf (b:=⟨.any :: .ptr az 0 :: .any :: .rs fu 0 b8.length 1 :: .any :: .rs hX 0 bR.length 1 :: .int .i64 dU::ot (.rs fu 0 b8.length 1 :: .int .i64 (b8.length:Int) :: .int .i64 (i64.wrap (x5+(1:Int)))::oq []),[none],h10⟩) (by kernel_rfl) (by simp only [Yt])),(by have o:Has h10 ((hX,.sl bR.length 1 (aa.l (bR.set v1.toNat dU)))::(fu,.sl b8.length 1 (aa.l x3))::(az,.ob [ah.fz ax])::L):=vo; simpa only [Yt] using o)⟩,H⟩
 ·exact qx 2 <| ⟨rfl,bR,dU,x5,oi H,.rs fu 0 b8.length 1,.rs fu 0 b8.length 1,.int .i64 (b8.length:Int),.int .i64 x5,.bool (decide (x5<(b8.length:Int))),hX,h7,(Zf (b:=⟨.any :: .ptr az 0 :: .any :: .rs fu 0 b8.length 1 :: .any :: .rs hX 0 bR.length 1 :: .int .i64 dU::ot (.rs fu 0 b8.length 1 :: .int .i64 (b8.length:Int) :: .int .i64 x5 :: .bool (decide (x5<(b8.length:Int)))::pq []),[none],h7⟩) (by kernel_rfl) (by simp only [Yt])),(by have o:Has h7 ((hX,.sl bR.length 1 (aa.l bR))::(fu,.sl b8.length 1 (aa.l x3))::(az,.ob [ah.fz ax])::L):=o7; simpa only [Yt] using o)⟩
theorem aw.uk (L:Mem)(ax:List ab)(az:Nat)(iJ:Nat)(cF:List Int)(jz:Int)(iJ:Nat)(ly:Nat)(eU:Nat)(fE:List (List Int × Int))(bT:List Int)(x9:Int)(eU:Nat)(v8:ab)(oA:Nat)   : bL Tryz.prog cf pG m (sub [1,1,1,1,1,1,1,0,0,0,1,1,0,1,0,0,1,1,0,0,1,1,0,1,0,0] (codeOf Tryz.f77)) (fun k (σ:(List Int) × Int)=>aw.l4 m cF v8 k σ.1 σ.2) (fun σ s=>match σ with | (k0,mQ)=>∃h18,s=⟨.any :: .ptr az 0::kK (.rs iJ 0 cF.length 1 :: .int .i64 jz :: .any :: .any :: .mp ly :: .rs eU 0 bT.length 1 :: .int .i64 x9 :: .any :: .ptr oA 0::pq (ah.fz ax :: .int .i64 (ax.length:Int) :: .int .i64 x9 :: .any::aa.fz v8.args :: .int .i64 (v8.args.length:Int) :: .int .i64 mQ::kK [])),[none],h18⟩∧Has h18 ((oA,.sl 9 1 (aa.l k0))::(eU,.sl bT.length 1 (aa.l bT))::(ly,.mp (vi fE))::(iJ,.sl cF.length 1 (aa.l cF))::(az,.ob [ah.fz ax])::L)) (fun out e s=>(e = .exit 8∧∃k0 mQ,(k0,mQ)=out∧∃RB RC RD RE h18,s=⟨.any :: .ptr az 0::kK (.rs iJ 0 cF.length 1 :: .int .i64 jz :: .any :: .any :: .mp ly :: .rs eU 0 bT.length 1 :: .int .i64 x9 :: .any :: .ptr oA 0::pq [ah.fz ax,.int .i64 (ax.length:Int),.int .i64 x9,.any,RB,RC,RD,RE,.any,.any]),[none],h18⟩∧Has h18 ((oA,.sl 9 1 (aa.l k0))::(eU,.sl bT.length 1 (aa.l bT))::(ly,.mp (vi fE))::(iJ,.sl cF.length 1 (aa.l cF))::(az,.ob [ah.fz ax])::L))):=by
 refine ig (fun _=>rfl) ?_
 rintro k ⟨k0,mQ⟩ s out ⟨h18,rfl,Ev⟩ H
 have H:aw.l4 m cF v8 (k+1) k0 mQ=some out:=H
 refine q1 <| qq <| qc H (fun c6 H=>?_) (fun c6 H=>?_)
 ·refine qk <| qq <| qb 9 <| qq ?_
  obtain⟨v10,GH,H⟩:=aI H
  refine qr [.v 1 (bI (k:=.i64) (E:=aa) (l:=v8.args) dJ GH),.v 2 (dv  (E:=aa) (l:=v8.args) h18 A3 GH rfl)] ?_
  obtain⟨v11,GF,H⟩:=aI H
  obtain⟨v12,Jj,H⟩:=aI H
  obtain⟨h19,Mc,Md⟩:=dM (P:=Tryz.prog) (tf:=3) (E:=aa) (l:=k0) (q:=0) (v:=(i64.wrap (v11+(1:Int)))) (x:=.int .i64 (i64.wrap (v11+(1:Int)))) Ev rfl Z3 Jj rfl rfl
  exact qr [.v 4 (aE (k:=.i64) (E:=aa) (l:=cF) (q:=3) dJ Ev rfl GF),.v 5 (bf  (E:=aa) (l:=cF) (q:=3) Ev rfl A3 GF rfl),.v 7 (LF (k:=.i64) (q:=0) (l:=k0) wo Ev rfl Jj),.w 8 Mc] <| q0 <| ⟨(k0.set (i64.wrap (mQ+(1:Int))).toNat (i64.wrap (v11+(1:Int))),i64.wrap (mQ+(1:Int))),⟨h19,by kernel_rfl,Md⟩,H⟩
 ·exact qx 8 <| ⟨rfl,k0,mQ,oi H,aa.fz v8.args,.int .i64 (v8.args.length:Int),.int .i64 mQ,.bool (decide (mQ<(v8.args.length:Int))),h18,by kernel_rfl,Ev⟩
theorem aw.uj (L:Mem)(ax:List ab)(az:Nat)(iJ:Nat)(cF:List Int)(jz:Int)(iJ:Nat)(ly:Nat)   : bL Tryz.prog cf pG m (sub [1,1,1,1,1,1,1,0,0,0,1,1,0,1,0,0] (codeOf Tryz.f77)) (fun k (σ:(List (List Int × Int)) × (List Int) × Int)=>aw.l3 m ax cF k σ.1 σ.2.1 σ.2.2) (fun σ s=>match σ with | (fE,bT,x9)=>∃eU h15,s=⟨.any :: .ptr az 0::kK (.rs iJ 0 cF.length 1 :: .int .i64 jz :: .any :: .any :: .mp ly :: .rs eU 0 bT.length 1::rW (ah.fz ax :: .int .i64 (ax.length:Int) :: .int .i64 x9::E1 [])),[none],h15⟩∧Has h15 ((eU,.sl bT.length 1 (aa.l bT))::(ly,.mp (vi fE))::(iJ,.sl cF.length 1 (aa.l cF))::(az,.ob [ah.fz ax])::L)) (fun out e s=>(e = .exit 6∧∃fE bT x9,(fE,bT,x9)=out∧∃RF RG RH RI eU h15,s=⟨.any :: .ptr az 0::kK (.rs iJ 0 cF.length 1 :: .int .i64 jz :: .any :: .any :: .mp ly :: .rs eU 0 bT.length 1::rW (RF::RG::RH::RI::Gh [])),[none],h15⟩∧Has h15 ((eU,.sl bT.length 1 (aa.l bT))::(ly,.mp (vi fE))::(iJ,.sl cF.length 1 (aa.l cF))::(az,.ob [ah.fz ax])::L))):=by
 refine ig (fun _=>rfl) ?_
 rintro k ⟨fE,bT,x9⟩ s out ⟨eU,h15,rfl,ml⟩ H
 have H:aw.l3 m ax cF (k+1) fE bT x9=some out:=H
 refine q1 <| qq <| qc H (fun c5 H=>?_) (fun c5 H=>?_)
 ·refine qk <| qq <| qb 7 <| qq ?_
  obtain⟨v8,GD,H⟩:=aI H
  refine qr [.v 1 (bI (k:=.i64) (E:=ah) (l:=ax) mf GD),.v 2 (dL  (E:=ah) (l:=ax) h15 tQ tR GD)] <| qq ?_
  obtain⟨v9,GI,H⟩:=aI H
  obtain⟨oA,h16,Ir,Br⟩:=I8 (cs:=[.int .i64 (0:Int),.int .i64 (0:Int),.int .i64 (0:Int),.int .i64 (0:Int),.int .i64 (0:Int),.int .i64 (0:Int),.int .i64 (0:Int),.int .i64 (0:Int),.int .i64 (0:Int)]) (l:=[(0:Int),(0:Int),(0:Int),(0:Int),(0:Int),(0:Int),(0:Int),(0:Int),(0:Int)]) ml (by kernel_rfl)
  obtain⟨h17,GG,Eu⟩:=LG (q:=0) (l:=([(0:Int),(0:Int),(0:Int),(0:Int),(0:Int),(0:Int),(0:Int),(0:Int),(0:Int)])) (l':=[i64.wrap (v9+(1:Int)),(0:Int),(0:Int),(0:Int),(0:Int),(0:Int),(0:Int),(0:Int),(0:Int)]) (x:=.agg [.int .i64 (i64.wrap (v9+(1:Int))),.int .i64 (0:Int),.int .i64 (0:Int),.int .i64 (0:Int),.int .i64 (0:Int),.int .i64 (0:Int),.int .i64 (0:Int),.int .i64 (0:Int),.int .i64 (0:Int)]) wo Br rfl rfl rfl
  refine qr [.v 2 (aE (k:=.i64) (E:=aa) (l:=cF) (q:=2) dJ ml rfl GI),.v 3 (bf  (E:=aa) (l:=cF) (q:=2) ml rfl A3 GI rfl),.a 6 Ir,.w 7 GG] <| qq <| qq <| q0 <| qb 8 ?_
  obtain⟨uv,It,H⟩:=aI H
  refine ql (aw.uk L ax az iJ cF jz iJ ly eU fE bT x9 eU v8 oA   ([i64.wrap (v9+(1:Int)),(0:Int),(0:Int),(0:Int),(0:Int),(0:Int),(0:Int),(0:Int),(0:Int)],(0:Int)) _ _ ⟨h17,by kernel_rfl,Eu⟩ It) ?_
  rintro e s ⟨rfl,k1,Is,rfl,g13,g14,g15,g16,h20,rfl,xY⟩
  try dsimp only at H
  refine qq <| qq ?_
  obtain⟨r0,Nb,H⟩:=aI H
  refine qr [.v 1 (show bo Tryz.prog h20 134 (.ptr oA 0)=some (.agg (aa.l k1)) from xE (q:=0) (l:=k1) wo xY rfl),.v 2 (show fL Tryz.prog h20 132 (.mp ly) (.agg (aa.l k1)) true=some (.tup [.int .i64 r0.1,.bool r0.2]) from (LC (q:=2) (l:=fE) (k:=k1) CD xY rfl Nb).1)] <| qq <| q0 <| qc H (fun c7 H=>?_) (fun c7 H=>?_)
  ·obtain⟨Ma,Nc,H⟩:=aI H
   obtain⟨h21,ON,GY⟩:=Q9 (q:=2) (l:=fE) (k:=k1) (v:=(fE.length:Int)) CD xY rfl Nc
   refine qr [.v 1 (show bo Tryz.prog h20 134 (.ptr oA 0)=some (.agg (aa.l k1)) from xE (q:=0) (l:=k1) wo xY rfl),.v 3 (show sR Tryz.prog h20 132 (.mp ly)=some (.int .i64 (fE.length:Int)) from LD (q:=2) (l:=fE) Gn xY rfl),.w 4 ON] ?_
   obtain⟨r1,OO,H⟩:=aI H
   obtain⟨Ji,Me,H⟩:=aI H
   obtain⟨h22,Nd,E7⟩:=dM (P:=Tryz.prog) (tf:=3) (E:=aa) (l:=bT) (q:=1) (v:=r1.1) (x:=.int .i64 r1.1) GY rfl Z3 Me rfl rfl
   refine qr [.v 3 (show bo Tryz.prog h21 134 (.ptr oA 0)=some (.agg (aa.l k1)) from xE (q:=0) (l:=k1) wo GY rfl),.v 4 (show fL Tryz.prog h21 132 (.mp ly) (.agg (aa.l k1)) false=some (.int .i64 r1.1) from (LC (q:=2) (l:=Ma) (k:=k1) CD GY rfl OO).2),.v 5 (aE (k:=.i64) (E:=aa) (l:=bT) (q:=1) dJ GY rfl Me),.w 6 Nd] ?_
   have Jl:Has h22 ((eU,.sl bT.length 1 (aa.l (bT.set x9.toNat r1.1)))::(ly,.mp (vi Ma))::(iJ,.sl cF.length 1 (aa.l cF))::(az,.ob [ah.fz ax])::L):=Has.del E7 0
   exact q0 <| ⟨(Ma,bT.set x9.toNat r1.1,i64.wrap (x9+(1:Int))),⟨eU,h22,(Zf (b:=⟨.any :: .ptr az 0::kK (.rs iJ 0 cF.length 1 :: .int .i64 jz :: .any :: .any :: .mp ly :: .rs eU 0 bT.length 1::rW (ah.fz ax :: .int .i64 (ax.length:Int) :: .int .i64 (i64.wrap (x9+(1:Int)))::E1 [])),[none],h22⟩) (by kernel_rfl) (by simp only [Yt])),(by have o:Has h22 ((eU,.sl bT.length 1 (aa.l (bT.set x9.toNat r1.1)))::(ly,.mp (vi Ma))::(iJ,.sl cF.length 1 (aa.l cF))::(az,.ob [ah.fz ax])::L):=Jl; simpa only [Yt] using o)⟩,H⟩
  ·refine qk ?_
   obtain⟨r2,OP,H⟩:=aI H
   obtain⟨AB,Jm,H⟩:=aI H
   obtain⟨h23,Km,OQ⟩:=dM (P:=Tryz.prog) (tf:=3) (E:=aa) (l:=bT) (q:=1) (v:=r2.1) (x:=.int .i64 r2.1) xY rfl Z3 Jm rfl rfl
   refine qr [.v 3 (show bo Tryz.prog h20 134 (.ptr oA 0)=some (.agg (aa.l k1)) from xE (q:=0) (l:=k1) wo xY rfl),.v 4 (show fL Tryz.prog h20 132 (.mp ly) (.agg (aa.l k1)) false=some (.int .i64 r2.1) from (LC (q:=2) (l:=fE) (k:=k1) CD xY rfl OP).2),.v 5 (aE (k:=.i64) (E:=aa) (l:=bT) (q:=1) dJ xY rfl Jm),.w 6 Km] ?_
   have nv:Has h23 ((eU,.sl bT.length 1 (aa.l (bT.set x9.toNat r2.1)))::(ly,.mp (vi fE))::(iJ,.sl cF.length 1 (aa.l cF))::(az,.ob [ah.fz ax])::L):=Has.del OQ 0
   exact q0 <| ⟨(fE,bT.set x9.toNat r2.1,i64.wrap (x9+(1:Int))),⟨eU,h23,(Zf (b:=⟨.any :: .ptr az 0::kK (.rs iJ 0 cF.length 1 :: .int .i64 jz :: .any :: .any :: .mp ly :: .rs eU 0 bT.length 1::rW (ah.fz ax :: .int .i64 (ax.length:Int) :: .int .i64 (i64.wrap (x9+(1:Int)))::E1 [])),[none],h23⟩) (by kernel_rfl) (by simp only [Yt])),(by have o:Has h23 ((eU,.sl bT.length 1 (aa.l (bT.set x9.toNat r2.1)))::(ly,.mp (vi fE))::(iJ,.sl cF.length 1 (aa.l cF))::(az,.ob [ah.fz ax])::L):=nv; simpa only [Yt] using o)⟩,H⟩
 ·exact qx 6 <| ⟨rfl,fE,bT,x9,oi H,ah.fz ax,.int .i64 (ax.length:Int),.int .i64 x9,.bool (decide (x9<(ax.length:Int))),eU,h15,by kernel_rfl,ml⟩
theorem aw.pC (L:Mem)(ax:List ab)(az:Nat)   : bL Tryz.prog cf pG m (sub [1,1,1,1,1,1,1,0,0] (codeOf Tryz.f77)) (fun k (σ:(List Int) × Int)=>aw.l2 m ax k σ.1 σ.2) (fun σ s=>match σ with | (cF,jz)=>∃g8 g9 g10 g11 g12 iJ h12,s=⟨.any :: .ptr az 0 :: .any::g8 :: .any :: .rs iJ 0 cF.length 1 :: .int .i64 jz::ot (g9::g10::g11::g12::pq []),[none],h12⟩∧Has h12 ((iJ,.sl cF.length 1 (aa.l cF))::(az,.ob [ah.fz ax])::L)) (fun out e s=>(e = .exit 4∧∃cF jz,.inr (cF,jz)=out∧∃vm vn zG Ew GU GV GW GX iJ h12,s=⟨.any::vm :: .any::vn :: .any::zG::Ew::ot (GU::GV::GW::GX::pq []),[none],h12⟩∧Has h12 ((iJ,.sl cF.length 1 (aa.l cF))::(az,.ob [ah.fz ax])::L))∨(e = .ret∧∃r,.inl r=out∧aw.fin L r s)):=by
 refine ig (fun _=>rfl) ?_
 rintro k ⟨cF,jz⟩ s out ⟨g8,g9,g10,g11,g12,iJ,h12,rfl,mg⟩ H
 have H:aw.l2 m ax (k+1) cF jz=some out:=H
 refine qb 5 <| qq ?_
 obtain⟨ly,h13,E4,zx⟩:=Gd mg
 refine qr [.m 0 E4] <| qq ?_
 obtain⟨x8,GC,H⟩:=aI H
 obtain⟨yz,h14,E5,AA⟩:=om (P:=Tryz.prog) (E:=aa) (z:=(0:Int)) (zv:=.int .i64 (0:Int)) dJ zx 3 rfl rfl rfl rfl GC
 refine qr [.v 0 (show bo Tryz.prog h13 42 (.ptr az 0)=some (ah.fz ax) from cn (q:=2) (cs:=[ah.fz ax]) zx rfl (by kernel_rfl)),.a 2 E5] <| qq <| qq <| qr [.v 0 (show bo Tryz.prog h14 42 (.ptr az 0)=some (ah.fz ax) from cn (q:=3) (cs:=[ah.fz ax]) AA rfl (by kernel_rfl))] <| qb 6 ?_
 obtain⟨gO,Kn,H⟩:=aI H
 refine ql (aw.uj L ax az iJ cF jz iJ ly   (([]:List (List Int × Int)),x8,(0:Int)) _ _ ⟨yz,h14,by kernel_rfl,AA⟩ Kn) ?_
 rintro e s ⟨rfl,nO,cN,Jk,rfl,g17,g18,g19,g20,fW,h24,rfl,Ko⟩
 try dsimp only at H
 refine qq <| qq <| qr [.v 1 (show sR Tryz.prog h24 132 (.mp ly)=some (.int .i64 (nO.length:Int)) from LD (q:=1) (l:=nO) Gn Ko rfl)] <| qc H (fun c8 H=>?_) (fun c8 H=>?_)
 ·refine q1 ?_
  have Iu:Has h24 ((fW,.sl cN.length 1 (aa.l cN))::(ly,.mp (vi nO))::(iJ,.sl cF.length 1 (aa.l cF))::L):=Has.del Ko 3
  have OR:Has h24 ((fW,.sl cN.length 1 (aa.l cN))::(iJ,.sl cF.length 1 (aa.l cF))::L):=Has.del Iu 1
  have OS:Has h24 ((iJ,.sl cF.length 1 (aa.l cF))::L):=Has.del OR 0
  exact qt <| Zx (⟨rfl,_,oi H,cp (.rs iJ 0 cF.length 1) h24 (ck (zj (E:=aa) (l:=cF) (q:=0) OS rfl (fun _=>rfl)))⟩)
 ·refine qk <| qr [.v 2 (show sR Tryz.prog h24 132 (.mp ly)=some (.int .i64 (nO.length:Int)) from LD (q:=1) (l:=nO) Gn Ko rfl)] ?_
  have PV:Has h24 ((fW,.sl cN.length 1 (aa.l cN))::(ly,.mp (vi nO))::(az,.ob [ah.fz ax])::L):=Has.del Ko 2
  have RJ:Has h24 ((fW,.sl cN.length 1 (aa.l cN))::(az,.ob [ah.fz ax])::L):=Has.del PV 1
  exact⟨(cN,i64.wrap ((nO.length:Int) - (1:Int))),⟨.any,.any,.any,.any,.any,fW,h24,by kernel_rfl,RJ⟩,H⟩
theorem pH {aU:FuncId→cm}(ha:aU 77=pG)(RK:Uf cf m)(RL:Uj cf m)(GQ:PU cf m)(ax:List ab)(h:AHeap)(L:Mem)  (o:Has h (L)){out:(List Int)}(H:aw.f m ax=some out) :
  ∃r h',be Tryz.prog aU cf m 77 [ah.fz ax] h=some (r,h')∧gu h' r (aa.fz out):=by
 refine aq (fn:=Tryz.f77) ha Tryz.func77 (by kernel_rfl) (by kernel_rfl) ?_
 refine aG (Q:=fun s=>aw.fin L out s) (fun _ _ h=>h) ?_
 have H:_=some out:=H
 unfold aw.f at H
 show dt _ cf pG m _ ⟨ah.fz ax::Re [],[none],h⟩ _
 refine qq ?_
 obtain⟨az,h0,e0,o0⟩:=kI (cs:=[ah.fz ax]) o (by kernel_rfl)
 refine qr [.a 0 e0] <| qq ?_
 obtain⟨x0,e1,H⟩:=aI H
 obtain⟨fK,h1,e2,o1⟩:=om (P:=Tryz.prog) (E:=aa) (z:=(0:Int)) (zv:=.int .i64 (0:Int)) dJ o0 3 rfl rfl rfl rfl e1
 refine qr [.v 0 (show bo Tryz.prog h0 42 (.ptr az 0)=some (ah.fz ax) from cn (q:=0) (cs:=[ah.fz ax]) o0 rfl (by kernel_rfl)),.a 2 e2] <| qq <| qq <| q0 <| qb 0 ?_
 obtain⟨bg,e5,H⟩:=aI H
 refine ql (aw.bP L ax az x0   (x0,(0:Int)) _ _ ⟨fK,h1,by kernel_rfl,o1⟩ e5) ?_
 rintro e s ⟨rfl,b8,x2,rfl,g0,g1,g2,fu,h4,rfl,o4⟩
 try dsimp only at H
 refine qq ?_
 obtain⟨x3,e6,H⟩:=aI H
 obtain⟨h5,e7,o5⟩:=RK _ _ _ e6 h4 _ _ _ (o4) 98 [.ptr az 0] rfl (fun h' K' o' y0 y1 r hr=>RL y0 y1 _ r hr h' _ (K'.length+0) _ o' (LB rfl)) [.rs fu 0 b8.length 1,.fn 98 [.ptr az 0]] (ak (rfl) (ak (rfl) (bn)))
 refine qr [.a 2 e7] <| qq ?_
 obtain⟨x4,e8,H⟩:=aI H
 obtain⟨gY,h6,e9,o6⟩:=om (P:=Tryz.prog) (E:=aa) (z:=(0:Int)) (zv:=.int .i64 (0:Int)) dJ o5 3 rfl rfl rfl rfl e8
 refine qr [.v 0 (show bo Tryz.prog h5 42 (.ptr az 0)=some (ah.fz ax) from cn (q:=1) (cs:=[ah.fz ax]) o5 rfl (by kernel_rfl)),.a 2 e9] <| qq <| q0 <| qq <| qq <| q0 <| qb 2 ?_
 obtain⟨mN,E6,H⟩:=aI H
 refine ql (aw.fC L ax az fu b8 fu x3  GQ (x4,(0:Int),(0:Int)) _ _ ⟨gY,h6,(Zf (b:=⟨.any :: .ptr az 0 :: .any :: .rs fu 0 b8.length 1 :: .any :: .rs gY 0 x4.length 1 :: .int .i64 (0:Int)::ot (.rs fu 0 b8.length 1 :: .int .i64 (b8.length:Int) :: .int .i64 (0:Int)::oq []),[none],h6⟩) (by kernel_rfl) (by simp only [Yt])),(by have o:Has h6 ((gY,.sl x4.length 1 (aa.l x4))::(fu,.sl b8.length 1 (aa.l x3))::(az,.ob [ah.fz ax])::L):=o6; simpa only [Yt] using o)⟩ E6) ?_
 rintro e s ⟨rfl,ik,many1,x7,rfl,g3,g4,g5,g6,g7,hY,h11,rfl,wq⟩
 try dsimp only at H
 refine qb 4 ?_
 have ug:Has h11 ((hY,.sl ik.length 1 (aa.l ik))::(az,.ob [ah.fz ax])::L):=Has.del wq 1
 obtain⟨GS,Ng,H⟩:=aI H
 refine ql (aw.pC L ax az   (ik,many1) _ _ ⟨g3,g4,g5,g6,g7,hY,h11,by kernel_rfl,ug⟩ Ng) ?_
 rintro e s (⟨rfl,mR,OM,rfl,g21,g22,g23,g24,X3,X4,X5,X6,hZ,h25,rfl,X7⟩| ⟨rfl,r3,rfl,ov⟩)
 ·try dsimp only at H
  cases H
 ·try dsimp only at H
  obtain rfl:=oi H
  exact⟨.inl rfl,ov⟩
end
end Go.Proofs.YtmekcfdllhphlaaGreatDoor
namespace Go.Proofs.YtmekcfdllhphlaaGreatDoor
open Go Go.R
open Go.IntKind (i64 u64 u8 u32)
def key (out:List Int)(n:ab)(i:Nat):List Int:=(gt out i+1)::((n.args.map fun a=>gt out a.toNat+1)++YF (8 - n.args.length) 0)
def enum:List (List Int)→Nat→List (List Int × Int)
 | [],_=>[]
 | k::ks,s=>(k,(s:Int))::enum ks (s+1)
theorem mS:∀(ks:List (List Int)) (s:Nat),(enum ks s).length=ks.length
 | [],_=>rfl
 | k::ks,s=>by simp [enum,mS ks]
theorem uw:∀(ks:List (List Int)) (s:Nat) (k:List Int),tE (enum ks s) k=if k∈ks then (((s+ks.idxOf k:Nat):Int),true) else (0,false)
 | [],s,k=>rfl
 | a::ks,s,k=>by
  simp only [enum,tE,uw ks (s+1) k,YW,List.idxOf_cons]
  by_cases h:k=a
  ·subst h; simp
  ·have h':(a==k)=false:=by simpa using fun z:a=k=>h z.symm
   rw [if_neg h,h']
   by_cases h2:k∈ks
   ·simp only [h2,if_true,or_true,cond_false]
    simp only [Yr,and_true]
    omega
   ·simp [h2,h]
theorem zH:∀(ks:List (List Int)) (s:Nat) (k:List Int),k∉ks→Bi (enum ks s) k ((s+ks.length:Nat):Int)=enum (ks++[k]) s
 | [],s,k,_=>rfl
 | a::ks,s,k,h=>by
  have h1:k≠a:=fun z=>h (by simp [z])
  have h2:k∉ks:=fun z=>h (by simp [z])
  simp only [enum,Bi,YL,if_neg h1,YD]
  rw [show s+(ks.length+1)=s+1+ks.length by omega,zH ks (s+1) k h2]
theorem nn {n:Nat}:∀(ks:List (List Int)) (s:Nat) (k:List Int),k.length=n→(∀a∈ks,a.length=n)→tD n (enum ks s) k=true
 | [],s,k,h,_=>by simp [tD,enum,h]
 | a::ks,s,k,h,h2=>by
  have:=nn ks (s+1) k h fun a ha=>h2 a (by simp [ha])
  simp only [tD,Yo,beq_iff_eq,h,true_and] at this ⊢
  simp only [enum,Zg,Yo,beq_iff_eq]
  exact⟨h2 a (by simp),this⟩
structure Part (n:Nat)(out:List Int)(many:Nat):Prop where
 len:out.length=n
 nP:∀i,i<n→0≤gt out i∧gt out i≤many
 Ul:∀v:Nat,v≤many→∃i,i<n∧gt out i=v
structure qK (l:List ab)(out:List Int)(p:Nat)(ks:List (List Int)):Prop where
 Iv:ks.Nodup
 mem:∀k,k∈ks↔∃i,i<p∧key out (nd l i) i=k
def lz (l:List ab):Prop:=l.length≤8000∧∀n∈l,n.args.length≤8∧∀a∈n.args,0≤a∧a<l.length
theorem Jn {a:Int}{L:List Int}{t:Nat}{v:Int}(hL:L.length=t)(ht:t<8):(a::(L++YF (8 - t) 0)).set (t+1) v=a::((L++[v])++YF (8 - (t+1)) 0):=by
 rw [List.set_cons_succ,ZD _ _ (by omega),hL,ZT,show 8 - t=(8 - (t+1))+1 by omega,List.replicate_succ,List.set_cons_zero,Yx]
 rfl
theorem GZ {m:Nat}{out:List Int}{n:ab}(h8:n.args.length≤8)(ha:∀a∈n.args,0≤a∧a<out.length)(ho:∀i,i<out.length→0≤gt out i∧gt out i<2 ^ 40)(o:Int):∀(f t:Nat),n.args.length - t<f→t≤n.args.length→
  ∃x,aw.l4 m out n f (o::(((n.args.take t).map fun a=>gt out a.toNat+1)++YF (8 - t) 0)) (t:Int)=some (o::((n.args.map fun a=>gt out a.toNat+1)++YF (8 - n.args.length) 0),x)
 | 0,t,hf,_=>absurd hf (by omega)
 | f+1,t,hf,ht=>by
  have mj:(2:Nat) ^ 40=1099511627776:=by decide
  have i40:(2:Int) ^ 40=1099511627776:=by decide
  unfold aw.l4
  by_cases h:t<n.args.length
  ·have hx:ix n.args (t:Int)=some (gt n.args t):=cy h
   obtain⟨b0,b1⟩:=ha _ (aJ h)
   obtain⟨c0,c1⟩:=ho (gt n.args t).toNat (by omega)
   have hy:ix out (gt n.args t)=some (gt out (gt n.args t).toNat):=gn (by omega) (by omega)
   have e1:i64.wrap ((t:Int)+1)=((t+1:Nat):Int):=by rw [aA (by omega) (by omega)]; omega
   have hT:((n.args.take t).map fun a=>gt out a.toNat+1).length=t:=by simp; omega
   have hz:∃z,ix (o::(((n.args.take t).map fun a=>gt out a.toNat+1)++YF (8 - t) 0)) ((t+1:Nat):Int)=some z:=⟨_,cy (by simp; omega)⟩
   obtain⟨z,hz⟩:=hz
   obtain⟨x,ih⟩:=GZ (m:=m) h8 ha ho o f (t+1) (by omega) (by omega)
   have hT1:n.args.take (t+1)=n.args.take t++[gt n.args t]:=by rw [Zn,bu h]; rfl
   rw [hT1,YP] at ih
   rw [if_pos (by simp only [decide_eq_true_eq]; omega),hx,Yj,hy,Yj,e1,hz,Yj,Yq,aA (x:=gt out (gt n.args t).toNat+1) (by omega) (by omega),Jn hT (by omega)]
   exact⟨x,ih⟩
  ·have:t=n.args.length:=by omega
   subst this
   exact⟨_,by rw [if_neg (by simp),Zq]⟩
theorem ux {out:List Int}{n:ab}{i:Nat}(h8:n.args.length≤8):(key out n i).length=9:=by simp [key]; omega
theorem zI {l:List ab}(ok:lz l){i:Nat}(h:i<l.length):(nd l i).args.length≤8∧∀a∈(nd l i).args,0≤a∧a<l.length:=ok.2 _ (fD (by omega) (by omega))
theorem Bx {m:Nat}(hm:2 ^ 30≤m){l:List ab}{out:List Int}{many:Nat}(ok:lz l)(P:Part l.length out many)(Kp:many<2 ^ 30):∀(f p:Nat) (ks:List (List Int)) (next:List Int),l.length - p<f→p≤l.length→qK l out p ks→next.length=l.length→
  (∀i,i<p→gt next i=(ks.idxOf (key out (nd l i) i):Int))→
  ∃RM next' x,aw.l3 m l out f (enum ks 0) next (p:Int)=some (enum RM 0,next',x)∧qK l out l.length RM∧next'.length=l.length∧∀i,i<l.length→gt next' i=(RM.idxOf (key out (nd l i) i):Int)
 | 0,p,ks,next,hf,_,_,_,_=>absurd hf (by omega)
 | f+1,p,ks,next,hf,hp,K,hn,hg=>by
  have lE:(2:Nat) ^ 30=1073741824:=by decide
  have mj:(2:Nat) ^ 40=1099511627776:=by decide
  have i40:(2:Int) ^ 40=1099511627776:=by decide
  have h8000:=ok.1
  have IJ:=P.len
  unfold aw.l3
  by_cases h:p<l.length
  ·obtain⟨n1,n2⟩:=zI ok h
   obtain⟨r0,r1⟩:=P.nP p h
   have e1:i64.wrap ((p:Int)+1)=((p+1:Nat):Int):=by rw [aA (by omega) (by omega)]; omega
   obtain⟨x,hk⟩:=GZ (m:=m) (out:=out) (n:=nd l p) n1 (by rw [IJ]; exact n2) (fun i hi=>by have:=P.nP i (by omega); omega) (gt out p+1) m 0 (by omega) (by omega)
   have hk:aw.l4 m out (nd l p) m [gt out p+1,0,0,0,0,0,0,0,0] 0=some (key out (nd l p) p,x):=hk
   have PW:=ux (out:=out) (i:=p) n1
   have AU:∀a∈ks,a.length=9:=fun a ha=>by
    obtain⟨i,hi,rfl⟩:=(K.mem a).1 ha
    exact ux (zI ok (by omega)).1
   have Mf:∃z,ix next (p:Int)=some z:=⟨_,cy (by omega)⟩
   obtain⟨z,hz⟩:=Mf
   rw [if_pos (by simp only [decide_eq_true_eq]; omega),il (by omega) (by omega),Yj,cy (by omega),Yj,aA (x:=gt out p+1) (by omega) (by omega),hk,Yj]
   dsimp only
   have hG:I6 9 (enum ks 0) (key out (nd l p) p)=some (if key out (nd l p) p∈ks then (((ks.idxOf (key out (nd l p) p):Nat):Int),true) else (0,false)):=by
    unfold I6; rw [if_pos (nn _ _ _ PW AU),uw,YG]
   rw [hG,Yj,e1,hz]
   by_cases hin:key out (nd l p) p∈ks
   ·rw [if_pos hin,if_neg (by simp),Yj,Yj,Yq]
    refine Bx hm ok P Kp f (p+1) ks _ (by omega) (by omega) ⟨K.Iv,fun k=>⟨fun hk=>?_,fun ⟨i,hi,qv⟩=>?_⟩⟩ (by simpa using hn) (fun i hi=>?_)
    ·obtain⟨i,hi,h⟩:=(K.mem k).1 hk; exact⟨i,by omega,h⟩
    ·by_cases Jo:i=p
     ·subst Jo; rw [←qv]; exact hin
     ·exact (K.mem k).2 ⟨i,by omega,qv⟩
    ·rw [eh (by omega)]
     by_cases Jo:i=p
     ·subst Jo; rw [if_pos rfl]
     ·rw [if_neg Jo]; exact hg i (by omega)
   ·have hS:N9 9 (enum ks 0) (key out (nd l p) p) (((enum ks 0).length:Nat):Int)=some (enum (ks++[key out (nd l p) p]) 0):=by
     unfold N9; rw [if_pos (nn _ _ _ PW AU),mS]
     have:=zH ks 0 _ hin
     rw [YG] at this
     rw [this]
    have hid:(ks++[key out (nd l p) p]).idxOf (key out (nd l p) p)=ks.length:=by
     rw [Zv,if_neg hin,List.idxOf_cons_self,YG]
    have Ws:I6 9 (enum (ks++[key out (nd l p) p]) 0) (key out (nd l p) p)=some (((ks.length:Nat):Int),true):=by
     unfold I6
     rw [if_pos (nn _ _ _ PW (fun a ha=>by rcases Yy.1 ha with ha | ha; exact AU a ha; simp only [Yw] at ha; rw [ha]; exact PW)),uw,if_pos (by simp),YG,hid]
    rw [if_neg hin,if_pos (by simp),hS,Yj,Ws,Yj,Yj,Yq]
    refine Bx hm ok P Kp f (p+1) (ks++[key out (nd l p) p]) _ (by omega) (by omega) ⟨?_,fun k=>⟨fun hk=>?_,fun ⟨i,hi,qv⟩=>?_⟩⟩ (by simpa using hn) (fun i hi=>?_)
    ·rw [Zw]
     refine⟨K.Iv,by simp,fun a ha b hb=>?_⟩
     simp only [Yw] at hb
     subst hb; intro e; subst e; exact hin ha
    ·rcases Yy.1 hk with hk | hk
     ·obtain⟨i,hi,h⟩:=(K.mem k).1 hk; exact⟨i,by omega,h⟩
     ·simp only [Yw] at hk; exact⟨p,by omega,hk.symm⟩
    ·by_cases Jo:i=p
     ·subst Jo; rw [←qv]; simp
     ·exact Y4 _ ((K.mem k).2 ⟨i,by omega,qv⟩)
    ·rw [eh (by omega)]
     by_cases Jo:i=p
     ·subst Jo; rw [if_pos rfl,hid]
     ·rw [if_neg Jo,Zv,if_pos ((K.mem _).2 ⟨i,by omega,rfl⟩)]; exact hg i (by omega)
  ·have:p=l.length:=by omega
   subst this
   exact⟨ks,next,_,by rw [if_neg (by simp)],K,hn,hg⟩
theorem Jp {l:List ab}{out:List Int}{ks:List (List Int)}(K:qK l out l.length ks):ks.length≤l.length:=by
 have:=K.Iv.length_le_of_subset (l₂:=(List.range l.length).map fun i:Nat=>key out (nd l i) i) (fun k hk=>by
  obtain⟨i,hi,h⟩:=(K.mem k).1 hk
  exact YH.2 ⟨i,List.mem_range.2 hi,h⟩)
 simpa using this
theorem CY {l:List ab}{out:List Int}{many:Nat}{ks:List (List Int)}(P:Part l.length out many)(K:qK l out l.length ks):many+1≤ks.length:=by
 have hn:((List.range (many+1)).map fun v:Nat=>((v:Int)+1)).Nodup:=by
  unfold List.Nodup
  rw [List.pairwise_map]
  exact List.Pairwise.imp (fun h=>by omega) List.nodup_range
 have:=hn.length_le_of_subset (l₂:=ks.map fun k=>k.headD 0) (fun x hx=>by
  obtain⟨v,hv,rfl⟩:=YH.1 hx
  obtain⟨i,hi,h⟩:=P.Ul v (by have:=List.mem_range.1 hv; omega)
  exact YH.2 ⟨_,(K.mem _).2 ⟨i,hi,rfl⟩,by simp [key,h]⟩)
 simpa using this
theorem EA {l:List ab}{out next:List Int}{many:Nat}{ks:List (List Int)}(P:Part l.length out many)(K:qK l out l.length ks)(hn:next.length=l.length)(hg:∀i,i<l.length→gt next i=(ks.idxOf (key out (nd l i) i):Int)):Part l.length next (ks.length - 1):=by
 have:=CY P K
 refine⟨hn,fun i hi=>?_,fun v hv=>?_⟩
 ·have:=Zl ((K.mem _).2 ⟨i,hi,rfl⟩)
  rw [hg i hi]; omega
 ·have hv:v<ks.length:=by omega
  obtain⟨i,hi,h⟩:=(K.mem _).1 (Ze hv)
  refine⟨i,hi,?_⟩
  rw [hg i hi,h,K.Iv.idxOf_getElem]
theorem G0 {m:Nat}(hm:2 ^ 30≤m){l:List ab}(ok:lz l)(Inv:List Int→Prop)
  (hI:∀out many ks next,Part l.length out many→Inv out→qK l out l.length ks→next.length=l.length→(∀i,i<l.length→gt next i=(ks.idxOf (key out (nd l i) i):Int))→Inv next):∀(f:Nat) (out:List Int) (many:Nat),l.length - many<f→many<l.length→Part l.length out many→Inv out→
  ∃r Kq ks,aw.l2 m l f out (many:Int)=some (.inl r)∧Part l.length r Kq∧Inv r∧qK l r l.length ks∧ks.length=Kq+1
 | 0,out,many,hf,_,_,_=>absurd hf (by omega)
 | f+1,out,many,hf,hlt,P,I=>by
  have lE:(2:Nat) ^ 30=1073741824:=by decide
  have h8000:=ok.1
  unfold aw.l2
  have e0:vh 8 (l.length:Int) (0:Int)=some (YF l.length 0):=by unfold vh; rw [if_pos ⟨by omega,by rw [Yq]; omega⟩,Yq]
  obtain⟨ks,next,x,h1,K,hn,hg⟩:=Bx hm ok P (by omega) m 0 [] (YF l.length 0) (by omega) (by omega) ⟨by simp,fun k=>⟨fun h=>by simp at h,fun ⟨i,hi,_⟩=>absurd hi (by omega)⟩⟩ (by simp) (fun i hi=>absurd hi (by omega))
  have h1:aw.l3 m l out m [] (YF l.length 0) 0=_:=h1
  have g1:=Jp K
  have g2:=CY P K
  rw [e0,Yj,h1,Yj]
  dsimp only
  rw [mS,aA (x:=(many:Int)+1) (by omega) (by omega),aA (x:=(ks.length:Int) - 1) (by omega) (by omega)]
  by_cases h:ks.length=many+1
  ·rw [if_pos (by simp; omega)]
   exact⟨out,many,ks,rfl,P,I,K,h⟩
  ·rw [if_neg (by simp; omega),show (ks.length:Int) - 1=((ks.length - 1:Nat):Int) by omega]
   exact G0 hm ok Inv hI f next (ks.length - 1) (by omega) (by omega) (EA P K hn hg) (hI _ _ _ _ P I K hn hg)
end Go.Proofs.YtmekcfdllhphlaaGreatDoor
namespace Go.Proofs.YtmekcfdllhphlaaGreatDoor
open Go Go.R
open Go.IntKind (i64 u64 u8 u32)
def ints (n:Nat):List Int:=(List.range n).map fun k:Nat=>(k:Int)
theorem dS (n:Nat):(ints n).length=n:=by simp [ints]
theorem Jq {n k:Nat}(h:k<n):gt (ints n) k=k:=by
 have h1:=bu (l:=ints n) (k:=k) (by rw [dS]; exact h)
 have h2:(ints n)[k]? = some (k:Int):=by
  unfold ints
  rw [YQ,Yv (by simpa using h)]
  simp
 rw [h2] at h1; exact (YI h1).symm
theorem iV {n:Nat}{x:Int}:x∈ints n↔0≤x∧x<n:=by
 unfold ints
 rw [YH]
 constructor
 ·rintro⟨k,hk,rfl⟩; have:=List.mem_range.1 hk; omega
 ·intro h; exact⟨x.toNat,List.mem_range.2 (by omega),by omega⟩
theorem By (n:Nat):(ints n).Nodup:=by
 unfold ints List.Nodup
 rw [List.pairwise_map]
 exact List.Pairwise.imp (fun h=>by omega) List.nodup_range
theorem uy {l:List Int}(h:l.Nodup){i j:Nat}(hi:i<l.length)(hj:j<l.length)(e:gt l i=gt l j):i=j:=by
 have h1:=bu hi
 have h2:=bu hj
 rw [Yv hi] at h1
 rw [Yv hj] at h2
 have h1:=YI h1
 have h2:=YI h2
 exact (List.getElem_inj (h₀:=hi) (h₁:=hj) h).1 (by rw [h1,h2,e])
theorem eW {l:List Int}{x:Int}(h:x∈l):∃k,k<l.length∧gt l k=x:=by
 obtain⟨k,hk,e⟩:=ZU h
 refine⟨k,hk,?_⟩
 have h1:=bu hk
 rw [Yv hk,e] at h1
 exact (YI h1).symm
theorem G1 {m:Nat}{z:List Int}(hz:z.length<2 ^ 40):∀(f i:Nat) (d:List Int),z.length - i<f→i≤z.length→d.length=z.length→(∀k,k<i→gt d k=k)→
  ∃x,aw.l0 m z f d (i:Int)=some (ints z.length,x)
 | 0,i,d,hf,_,_,_=>absurd hf (by omega)
 | f+1,i,d,hf,hi,hd,hg=>by
  have mj:(2:Nat) ^ 40=1099511627776:=by decide
  unfold aw.l0
  by_cases h:i<z.length
  ·obtain⟨v,hv⟩:∃v,ix d (i:Int)=some v:=⟨_,cy (by omega)⟩
   rw [if_pos (by simp only [decide_eq_true_eq]; omega),hv,Yj,Yq,aA (by omega) (by omega),show (i:Int)+1=((i+1:Nat):Int) by omega]
   refine G1 hz f (i+1) _ (by omega) (by omega) (by simpa using hd) fun k hk=>?_
   rw [eh (by omega)]
   by_cases e:k=i
   ·subst e; rw [if_pos rfl]
   ·rw [if_neg e]; exact hg k (by omega)
  ·refine⟨i,?_⟩
   rw [if_neg (by simp only [decide_eq_true_eq]; omega)]
   have:d=ints z.length:=Gr (by rw [dS,hd]) fun k hk=>by rw [hg k (by omega),Jq (by omega)]
   rw [this]
def rk (l:List ab)(d:List Int):Nat→Nat
 | 0=>0
 | k+1=>rk l d k+if cT (nd l (gt d k)) (nd l (gt d (k+1)))=0 then 0 else 1
theorem G2 (l:List ab)(d:List Int):∀k,rk l d k≤k
 | 0=>Yn _
 | k+1=>by have:=G2 l d k; unfold rk; split<;>omega
theorem xZ (l:List ab)(d:List Int)(i:Nat):∀j,i≤j→rk l d i≤rk l d j
 | 0,h=>by
   have:i=0:=by omega
   subst this; exact Yn _
 | j+1,h=>by
  by_cases e:i=j+1
  ·subst e; exact Yn _
  ·have:=xZ l d i j (by omega)
   show _≤rk l d j+_
   omega
theorem G3 (l:List ab)(d:List Int):∀(j v:Nat),v≤rk l d j→∃k,k≤j∧rk l d k=v
 | 0,v,h=>⟨0,Yn _,by unfold rk at h ⊢; omega⟩
 | j+1,v,h=>by
  by_cases e:v=rk l d (j+1)
  ·exact⟨j+1,Yn _,e.symm⟩
  ·have h2:rk l d (j+1)≤rk l d j+1:=by show rk l d j+_≤_; split<;>omega
   obtain⟨k,hk,e⟩:=G3 l d j v (by omega)
   exact⟨k,by omega,e⟩
theorem G4 {m:Nat}(hm:3≤m){l:List ab}{o d:List Int}(hl:l.length≤8000)(ho:o.length=l.length)(hp:d.Perm (ints l.length)):∀(f p:Nat) (out:List Int),l.length - p<f→p≤l.length→out.length=l.length→(∀k,k<p→gt out (gt d k).toNat=rk l d k)→
  ∃ya x,aw.l1 m l o d f out ((rk l d (p - 1):Nat):Int) (p:Int)=some (ya,((rk l d (l.length - 1):Nat):Int),x)∧ya.length=l.length∧∀k,k<l.length→gt ya (gt d k).toNat=rk l d k
 | 0,p,out,hf,_,_,_=>absurd hf (by omega)
 | f+1,p,out,hf,AQ,OU,hg=>by
  have Rk:d.length=l.length:=by rw [hp.length_eq,dS]
  have hd:∀k,k<l.length→0≤gt d k∧gt d k<l.length:=fun k hk=>iV.1 (hp.mem_iff.1 (aJ (by omega)))
  have Bz:d.Nodup:=hp.symm.nodup (By _)
  unfold aw.l1
  by_cases h:p<l.length
  ·obtain⟨d0,d1⟩:=hd p h
   have AY:∀k,k<p+1→gt (out.set (gt d p).toNat ((rk l d p:Nat):Int)) (gt d k).toNat=rk l d k:=fun k hk=>by
    rw [eh (by omega)]
    by_cases e:k=p
    ·subst e; rw [if_pos rfl]
    ·have:gt d k≠gt d p:=fun h=>e (uy Bz (by omega) (by omega) h)
     have:=hd k (by omega)
     rw [if_neg (by omega)]; exact hg k (by omega)
   obtain⟨z,hz⟩:∃z,ix out (gt d p)=some z:=⟨_,gn (k:=(gt d p).toNat) (by omega) (by omega)⟩
   have e1:i64.wrap ((p:Int)+1)=((p+1:Nat):Int):=by rw [aA (by omega) (by omega)]; omega
   have hr:=G2 l d p
   have IH:=G4 hm hl ho hp f (p+1) (out.set (gt d p).toNat ((rk l d p:Nat):Int)) (by omega) (by omega) (by simpa using OU) AY
   rw [show p+1 - 1=p by omega] at IH
   rw [if_pos (by simp only [decide_eq_true_eq]; omega),cy (by omega),Yj]
   by_cases h0:0<p
   ·obtain⟨q,rfl⟩:∃q,p=q+1:=⟨p - 1,by omega⟩
    obtain⟨q0,q1⟩:=hd q (by omega)
    rw [show q+1 - 1=q by omega]
    have e2:i64.wrap (((q+1:Nat):Int) - 1)=(q:Int):=by rw [aA (by omega) (by omega)]; omega
    rw [if_pos (by simp only [decide_eq_true_eq]; omega),e2,cy (by omega),Yj,il q0 q1,Yj,il d0 d1,Yj,CX hm,Yj,hz,e1]
    by_cases hc:cT (nd l (gt d q)) (nd l (gt d (q+1)))=0
    ·have RN:rk l d (q+1)=rk l d q:=by show rk l d q+_=_; rw [if_pos hc]; omega
     rw [if_neg (by simp [hc]),Yj]
     rw [RN] at IH; exact IH
    ·have RN:rk l d (q+1)=rk l d q+1:=by show rk l d q+_=_; rw [if_neg hc]
     rw [if_pos (by simpa using hc),Yj,aA (by omega) (by omega)]
     rw [RN] at IH; exact IH
   ·have:p=0:=by omega
    subst this
    rw [if_neg (by simp),hz,Yj,e1]
    exact IH
  ·have:p=l.length:=by omega
   subst this
   exact⟨out,_,by rw [if_neg (by simp only [decide_eq_true_eq]; omega)],OU,hg⟩
theorem Jr {m:Nat}(hm:3≤m)(l:List ab):Cm (fun y0 y1=>dy.f m y0 y1 l) (fun x y=>cT (nd l x) (nd l y)) (ints l.length):=fun x hx y hy=>by
 have hx:=iV.1 hx
 have hy:=iV.1 hy
 exact GR hm hx.1 hx.2 hy.1 hy.2
theorem yb {m:Nat}(hm:2 ^ 41≤m){l:List ab}(ok:lz l)(h1:1≤l.length)(Inv:List Int→Prop)
  (hI0:∀d out,d.Perm (ints l.length)→(Ord (fun x y=>cT (nd l x) (nd l y)) (ints l.length)→Sg (fun x y=>cT (nd l x) (nd l y)) d 0 l.length)→(∀k,k<l.length→gt out (gt d k).toNat=rk l d k)→Inv out)
  (hI:∀out many ks next,Part l.length out many→Inv out→qK l out l.length ks→next.length=l.length→(∀i,i<l.length→gt next i=(ks.idxOf (key out (nd l i) i):Int))→Inv next) :
  ∃r many ks,aw.f m l=some r∧Part l.length r many∧Inv r∧qK l r l.length ks∧ks.length=many+1:=by
 have mj:(2:Nat) ^ 40=1099511627776:=by decide
 have pz:(2:Nat) ^ 41=2199023255552:=by decide
 have lE:(2:Nat) ^ 30=1073741824:=by decide
 have h8000:=ok.1
 have e0:vh 8 (l.length:Int) (0:Int)=some (YF l.length 0):=by unfold vh; rw [if_pos ⟨by omega,by rw [Yq]; omega⟩,Yq]
 unfold aw.f
 obtain⟨x,k1⟩:=G1 (m:=m) (z:=YF l.length 0) (by simp; omega) m 0 (YF l.length 0) (by simp; omega) (by omega) rfl (fun k hk=>absurd hk (by omega))
 have k1:aw.l0 m (YF l.length 0) m (YF l.length 0) 0=_:=k1
 rw [List.length_replicate] at k1
 rw [e0,Yj,k1,Yj]
 dsimp only
 obtain⟨d,k2,hp,hs⟩:=Ey hm (l:=ints l.length) (by rw [dS]; omega) (Jr (m:=m) (by omega) l)
 rw [k2,Yj,Yj]
 obtain⟨out,x,k3,ho,hg⟩:=G4 (m:=m) (l:=l) (o:=ints l.length) (d:=d) (by omega) h8000 (dS _) hp m 0 (YF l.length 0) (by omega) (by omega) (by simp) (fun k hk=>absurd hk (by omega))
 have k3:aw.l1 m l (ints l.length) d m (YF l.length 0) 0 0=_:=k3
 rw [k3,Yj]
 dsimp only
 rw [dS] at hs
 have Rk:d.length=l.length:=by rw [hp.length_eq,dS]
 have hP:Part l.length out (rk l d (l.length - 1)):=by
  refine⟨ho,fun i hi=>?_,fun v hv=>?_⟩
  ·obtain⟨k,hk,e⟩:=eW (hp.mem_iff.2 (iV.2 (show 0≤(i:Int)∧(i:Int)<l.length by omega)))
   have:=hg k (by omega)
   rw [e,Yq] at this
   have h2:=xZ l d k (l.length - 1) (by omega)
   omega
  ·obtain⟨k,hk,e⟩:=G3 l d _ v hv
   have IC:k<l.length:=by omega
   have:=iV.1 (hp.mem_iff.1 (aJ (l:=d) (k:=k) (by omega)))
   exact⟨(gt d k).toNat,by omega,by rw [hg k IC,e]⟩
 have OV:=G2 l d (l.length - 1)
 obtain⟨r,many,ks,k4,P,I,K,AU⟩:=G0 (m:=m) (by omega) ok Inv hI m out (rk l d (l.length - 1)) (by omega) (by omega) hP (hI0 d out hp hs hg)
 rw [k4]
 exact⟨r,many,ks,rfl,P,I,K,AU⟩
end Go.Proofs.YtmekcfdllhphlaaGreatDoor
namespace Go.Proofs.YtmekcfdllhphlaaGreatDoor
open Go Go.R
open Go.IntKind (i64 u64 u8 u32)
def zJ:cm:=gI [0,1,2,3,4,5,7,8,9,10,11,12,14,24,53,54,55,56] [11] [262080,261696,253760,262079,261568,261574,260567,260567,258519,144855,13783,140759,144855,144855,261631,262079] [(14,[(12,none,0)])] [(8,[(12,none,1)])]
def aV.l0 (m:Nat)(x1:List Int)(x3:an)(rec:Int→(List (Int × Int))→(List Int)→an→an→Option (Int × (List (Int × Int)) × an))(v2:ab):Nat→(List Int)→Int→(List (Int × Int))→an→Option ((List Int) × Int × (List (Int × Int)) × an)
 | 0,_,_,_,_=>none
 | k+1,eF,x6,x7,x8=>if (decide (x6<(v2.args.length:Int)))=true then ((ix v2.args x6).bind fun v3=>(rec v3 x7 x1 x8 x3).bind fun x9=>(app 8 eF ([x9.1])).bind fun mQ=>aV.l0 m x1 x3 rec v2 k mQ (i64.wrap (x6+(1:Int))) x9.2.1 x9.2.2) else (some ((eF,x6,x7,x8)))
def aV.b (m:Nat)(rec:Int→(List (Int × Int))→(List Int)→an→an→Option (Int × (List (Int × Int)) × an))(i0:Int)(x0:List (Int × Int))(x1:List Int)(x2:an)(x3:an):Option (Int × (List (Int × Int)) × an):=(ix x1 i0).bind fun v0=>if ((zl x0 v0).2)=true then (some ((zl x0 v0).1,x0,x2)) else ((ix x1 i0).bind fun v1=>(ix x3.nodes i0).bind fun v2=>(app 56 x2.nodes ([(ab.mk v2.kind v2.int v2.label ([]))])).bind fun x5=>(aV.l0 m x1 x3 rec v2 m ([]:List Int) (0:Int) (Ga x0 v1 (x2.nodes.length:Int)) (an.mk x5 x2.root)).bind fun bg=>match bg with | (mT,Is,Jk,BA)=>(ix BA.nodes (x2.nodes.length:Int)).bind fun v4=>some ((x2.nodes.length:Int),Jk,(an.mk (BA.nodes.set (x2.nodes.length:Int).toNat (ab.mk v4.kind v4.int v4.label mT)) BA.root)))
def aV.f (m:Nat):Nat→Int→(List (Int × Int))→(List Int)→an→an→Option (Int × (List (Int × Int)) × an)
 | 0,_,_,_,_,_=>none
 | k+1,i0,x0,x1,x2,x3=>aV.b m (aV.f m k) i0 x0 x1 x2 x3
def aV.fin (L:Mem)(bV:Nat)(eG:Nat)(dV:Nat)(dH:Nat)(eP:Nat)(dZ:Nat)(dT:Nat)(i0:Int)(x0:List (Int × Int))(x1:List Int)(x2:an)(x3:an)(r:Int × (List (Int × Int)) × an)(s:St):Prop:=∃mb:Nat,aH Tryz.prog (s.open zJ) Tryz.f78.results.toList=some (.int .i64 r.1)∧Has s.h ((bV,.ob [.mp eG])::(eG,.mp (tF r.2.1))::(dV,.ob [aa.fz x1])::(dH,.ob [.rs mb 0 r.2.2.nodes.length 4,.int .i64 r.2.2.root])::(mb,.sl r.2.2.nodes.length 4 (ah.l r.2.2.nodes))::(dZ,.ob [ah.fz x3.nodes,.int .i64 x3.root])::(dT,.ob [.fn 78 [.ptr bV 0,.ptr dV 0,.ptr dH 0,.ptr dZ 0,.ptr dT 0]])::L)
def PX (cf:CallF)(m:Nat)(kk:Nat):Prop:=∀(i0:Int) (x0:List (Int × Int)) (x1:List Int) (x2:an) (x3:an) (r:Int × (List (Int × Int)) × an),aV.f m kk i0 x0 x1 x2 x3=some r→∀h L (bV:Nat) (eG:Nat) (dV:Nat) (dH:Nat) (eP:Nat) (dZ:Nat) (dT:Nat),Has h ((bV,.ob [.mp eG])::(eG,.mp (tF x0))::(dV,.ob [aa.fz x1])::(dH,.ob [.rs eP 0 x2.nodes.length 4,.int .i64 x2.root])::(eP,.sl x2.nodes.length 4 (ah.l x2.nodes))::(dZ,.ob [ah.fz x3.nodes,.int .i64 x3.root])::(dT,.ob [.fn 78 [.ptr bV 0,.ptr dV 0,.ptr dH 0,.ptr dZ 0,.ptr dT 0]])::L)→∀xs,xs.map ay=[.int .i64 i0,.ptr bV 0,.ptr dV 0,.ptr dH 0,.ptr dZ 0,.ptr dT 0]→∃mb h',cf 78 xs h=some (.int .i64 r.1,h')∧Has h' ((bV,.ob [.mp eG])::(eG,.mp (tF r.2.1))::(dV,.ob [aa.fz x1])::(dH,.ob [.rs mb 0 r.2.2.nodes.length 4,.int .i64 r.2.2.root])::(mb,.sl r.2.2.nodes.length 4 (ah.l r.2.2.nodes))::(dZ,.ob [ah.fz x3.nodes,.int .i64 x3.root])::(dT,.ob [.fn 78 [.ptr bV 0,.ptr dV 0,.ptr dH 0,.ptr dZ 0,.ptr dT 0]])::L)
section
variable {cf:CallF}{m:Nat}
theorem aV.bP (L:Mem)(bV:Nat)(eG:Nat)(dV:Nat)(dH:Nat)(eP:Nat)(dZ:Nat)(dT:Nat)(i0:Int)(x0:List (Int × Int))(x1:List Int)(x2:an)(x3:an)(v2:ab)  {kk:Nat}(G5:PX cf m kk)  : bL Tryz.prog cf zJ m (sub [1,1,1,1,1,1,1,0,1,0,0] (codeOf Tryz.f78)) (fun k (σ:(List Int) × Int × (List (Int × Int)) × an)=>aV.l0 m x1 x3 (aV.f m kk) v2 k σ.1 σ.2.1 σ.2.2.1 σ.2.2.2) (fun σ s=>match σ with | (eF,x6,x7,x8)=>∃fK dh h3,s=⟨kK (.ptr dH 0 :: .any :: .ptr dT 0::kK [.int .i64 (x2.nodes.length:Int),.any,.rs fK 0 eF.length 1,.any,.any,aa.fz v2.args,.int .i64 (v2.args.length:Int),.int .i64 x6,.any]),[none],h3⟩∧Has h3 ((fK,.sl eF.length 1 (aa.l eF))::(bV,.ob [.mp eG])::(eG,.mp (tF x7))::(dV,.ob [aa.fz x1])::(dH,.ob [.rs dh 0 x8.nodes.length 4,.int .i64 x8.root])::(dh,.sl x8.nodes.length 4 (ah.l x8.nodes))::(dZ,.ob [ah.fz x3.nodes,.int .i64 x3.root])::(dT,.ob [.fn 78 [.ptr bV 0,.ptr dV 0,.ptr dH 0,.ptr dZ 0,.ptr dT 0]])::L)) (fun out e s=>(e = .exit 0∧∃eF x6 x7 x8,(eF,x6,x7,x8)=out∧∃zG G6 G7 G8 Mg fK dh h3,s=⟨kK (.ptr dH 0 :: .any::zG::kK [.int .i64 (x2.nodes.length:Int),.any,.rs fK 0 eF.length 1,.any,.any,G6,G7,G8,Mg]),[none],h3⟩∧Has h3 ((fK,.sl eF.length 1 (aa.l eF))::(bV,.ob [.mp eG])::(eG,.mp (tF x7))::(dV,.ob [aa.fz x1])::(dH,.ob [.rs dh 0 x8.nodes.length 4,.int .i64 x8.root])::(dh,.sl x8.nodes.length 4 (ah.l x8.nodes))::(dZ,.ob [ah.fz x3.nodes,.int .i64 x3.root])::(dT,.ob [.fn 78 [.ptr bV 0,.ptr dV 0,.ptr dH 0,.ptr dZ 0,.ptr dT 0]])::L))):=by
 refine ig (fun _=>rfl) ?_
 rintro k ⟨eF,x6,x7,x8⟩ s out ⟨fK,dh,h3,rfl,o4⟩ H
 have H:aV.l0 m x1 x3 (aV.f m kk) v2 (k+1) eF x6 x7 x8=some out:=H
 refine q1 <| qq <| qc H (fun c1 H=>?_) (fun c1 H=>?_)
 ·refine qk <| qq <| qb 1 <| qq ?_
  obtain⟨v3,e7,H⟩:=aI H
  refine qr [.v 0 (bI (k:=.i64) (E:=aa) (l:=v2.args) dJ e7),.v 1 (dv  (E:=aa) (l:=v2.args) h3 A3 e7 rfl)] ?_
  obtain⟨x9,e8,H⟩:=aI H
  obtain⟨fu,h4,e9,o5⟩:=G5 _ _ _ _ _ _ e8 h3 _ _ _ _ _ _ _ _ ((Has.front (Has.front (Has.front (Has.front (Has.front (Has.front (Has.front (Has.front o4 0 rfl) 7 rfl) 7 rfl) 7 rfl) 7 rfl) 7 rfl) 7 rfl) 7 rfl))  [.int .i64 v3,.ptr bV 0,.ptr dV 0,.ptr dH 0,.ptr dZ 0,.ptr dT 0] (ak (aR (bJ)) (ak (rfl) (ak (rfl) (ak (rfl) (ak (rfl) (ak (rfl) (bn)))))))
  obtain⟨mQ,ow,H⟩:=aI H
  obtain⟨gY,h5,rI,o6⟩:=fP (P:=Tryz.prog) (E:=aa) (l:=eF) (q:=7) (t2:=28) (x:=.fz [.int .i64 x9.1] 1 true) (l2:=([x9.1])) dJ o5 rfl (by kernel_rfl) rfl ow
  exact qr [.v 1 (show bo Tryz.prog h3 111 (.ptr dT 0)=some (.fn 78 [.ptr bV 0,.ptr dV 0,.ptr dH 0,.ptr dZ 0,.ptr dT 0]) from cn (q:=7) (cs:=[.fn 78 [.ptr bV 0,.ptr dV 0,.ptr dH 0,.ptr dZ 0,.ptr dT 0]]) o4 rfl (by kernel_rfl)),.a 3 e9,.a 5 rI] <| q0 <| ⟨(mQ,i64.wrap (x6+(1:Int)),x9.2.1,x9.2.2),⟨gY,fu,h5,by kernel_rfl,(Has.front (Has.front (Has.front (Has.front (Has.front (Has.front (Has.front (Has.front o6 6 rfl) 6 rfl) 6 rfl) 6 rfl) 6 rfl) 6 rfl) 6 rfl) 7 rfl)⟩,H⟩
 ·exact qx 0 <| ⟨rfl,eF,x6,x7,x8,oi H,.ptr dT 0,aa.fz v2.args,.int .i64 (v2.args.length:Int),.int .i64 x6,.bool (decide (x6<(v2.args.length:Int))),fK,dh,h3,by kernel_rfl,o4⟩
theorem pI {aU:FuncId→cm}(ha:aU 78=zJ)  (i0:Int)(x0:List (Int × Int))(x1:List Int)(x2:an)(x3:an)(h:AHeap)(L:Mem)(bV:Nat)(eG:Nat)(dV:Nat)(dH:Nat)(eP:Nat)(dZ:Nat)(dT:Nat)  {kk:Nat}(G5:PX cf m kk)(o:Has h ((bV,.ob [.mp eG])::(eG,.mp (tF x0))::(dV,.ob [aa.fz x1])::(dH,.ob [.rs eP 0 x2.nodes.length 4,.int .i64 x2.root])::(eP,.sl x2.nodes.length 4 (ah.l x2.nodes))::(dZ,.ob [ah.fz x3.nodes,.int .i64 x3.root])::(dT,.ob [.fn 78 [.ptr bV 0,.ptr dV 0,.ptr dH 0,.ptr dZ 0,.ptr dT 0]])::L)){out:Int × (List (Int × Int)) × an}(H:aV.f m (kk+1) i0 x0 x1 x2 x3=some out) :
  ∃r h',be Tryz.prog aU cf m 78 [.int .i64 i0,.ptr bV 0,.ptr dV 0,.ptr dH 0,.ptr dZ 0,.ptr dT 0] h=some (r,h')∧∃mb:Nat,r = .int .i64 out.1∧Has h' ((bV,.ob [.mp eG])::(eG,.mp (tF out.2.1))::(dV,.ob [aa.fz x1])::(dH,.ob [.rs mb 0 out.2.2.nodes.length 4,.int .i64 out.2.2.root])::(mb,.sl out.2.2.nodes.length 4 (ah.l out.2.2.nodes))::(dZ,.ob [ah.fz x3.nodes,.int .i64 x3.root])::(dT,.ob [.fn 78 [.ptr bV 0,.ptr dV 0,.ptr dH 0,.ptr dZ 0,.ptr dT 0]])::L):=by
 refine aq (fn:=Tryz.f78) ha Tryz.func78 (by kernel_rfl) (by kernel_rfl) ?_
 refine aG (Q:=fun s=>aV.fin L bV eG dV dH eP dZ dT i0 x0 x1 x2 x3 out s) (fun _ _ ⟨h1,mb,h2,h3⟩=>⟨h1,_,h2,mb,rfl,h3⟩) ?_
 have H:aV.b m (aV.f m kk) i0 x0 x1 x2 x3=some out:=H
 unfold aV.b at H
 show dt _ cf zJ m _ ⟨.int .i64 i0 :: .ptr bV 0 :: .ptr dV 0 :: .ptr dH 0 :: .ptr dZ 0 :: .ptr dT 0::oq [],[none],h⟩ _
 refine q1 <| qq <| qq ?_
 obtain⟨v0,e0,H⟩:=aI H
 refine qr [.v 0 (show bo Tryz.prog h 110 (.ptr bV 0)=some (.mp eG) from cn (q:=0) (cs:=[.mp eG]) o rfl (by kernel_rfl)),.v 1 (show bo Tryz.prog h 28 (.ptr dV 0)=some (aa.fz x1) from cn (q:=2) (cs:=[aa.fz x1]) o rfl (by kernel_rfl)),.v 3 (bI (k:=.i64) (E:=aa) (l:=x1) dJ e0),.v 4 (dv  (E:=aa) (l:=x1) h A3 e0 rfl),.v 5 (show fL Tryz.prog h 110 (.mp eG) (.int .i64 v0) true=some (.tup [.int .i64 ((zl x0 v0).1),.bool ((zl x0 v0).2)]) from (Q7 (q:=1) (l:=x0) (k:=v0) Ki o rfl).1)] <| qq <| q0 <| qc H (fun c0 H=>?_) (fun c0 H=>?_)
 ·obtain rfl:=oi H
  exact q1 <| qt <| ⟨.inl rfl,⟨eP,by kernel_rfl,he o⟩⟩
 ·refine qk <| qq <| qr [.v 1 (show bo Tryz.prog h 42 (.ptr dH 0)=some (.rs eP 0 x2.nodes.length 4) from cn (q:=3) (cs:=[.rs eP 0 x2.nodes.length 4,.int .i64 x2.root]) o rfl (by kernel_rfl))] <| qq ?_
  obtain⟨v1,e1,H⟩:=aI H
  obtain⟨h0,e2,o0⟩:=Q8 (q:=1) (l:=x0) (k:=v1) (v:=(x2.nodes.length:Int)) Ki o rfl
  refine qr [.v 0 (show bo Tryz.prog h 110 (.ptr bV 0)=some (.mp eG) from cn (q:=0) (cs:=[.mp eG]) o rfl (by kernel_rfl)),.v 1 (show bo Tryz.prog h 28 (.ptr dV 0)=some (aa.fz x1) from cn (q:=2) (cs:=[aa.fz x1]) o rfl (by kernel_rfl)),.v 3 (bI (k:=.i64) (E:=aa) (l:=x1) dJ e1),.v 4 (dv  (E:=aa) (l:=x1) h A3 e1 rfl),.w 6 e2] <| qq ?_
  obtain⟨v2,e3,H⟩:=aI H
  refine qr [.v 1 (show bo Tryz.prog h0 42 (.ptr dZ 0)=some (ah.fz x3.nodes) from cn (q:=5) (cs:=[ah.fz x3.nodes,.int .i64 x3.root]) o0 rfl (by kernel_rfl)),.v 3 (bI (k:=.i64) (E:=ah) (l:=x3.nodes) mf e3),.v 4 (dL  (E:=ah) (l:=x3.nodes) h0 tQ tR e3)] <| qq ?_
  obtain⟨x5,e4,H⟩:=aI H
  obtain⟨az,h1,e5,o1⟩:=fP (P:=Tryz.prog) (E:=ah) (l:=x2.nodes) (q:=4) (t2:=42) (x:=.fz [.int .i64 v2.kind,.int .i64 v2.int,.str v2.label,.nils] 1 true) (l2:=([(ab.mk v2.kind v2.int v2.label ([]))])) mf o0 rfl (by kernel_rfl) rfl e4
  obtain⟨h2,e6,o2⟩:=lg (P:=Tryz.prog) (t:=42) (off:=0) (q:=3) (cs:=[.rs eP 0 x2.nodes.length 4,.int .i64 x2.root]) (fF:=[.rs az 0 x5.length 4,.int .i64 x2.root]) (x:=.rs az 0 x5.length 4) o1 rfl (by kernel_rfl)
  refine qr [.v 1 (show bo Tryz.prog h0 42 (.ptr dH 0)=some (.rs eP 0 x2.nodes.length 4) from cn (q:=3) (cs:=[.rs eP 0 x2.nodes.length 4,.int .i64 x2.root]) o0 rfl (by kernel_rfl)),.a 10 e5,.w 12 e6] <| qq <| q0 ?_
  have o3:Has h2 (((0),.sl (([]:List Int).length) 1 (aa.l ([]:List Int)))::(bV,.ob [.mp eG])::(eG,.mp (tF (Ga x0 v1 (x2.nodes.length:Int))))::(dV,.ob [aa.fz x1])::(dH,.ob [.rs az 0 x5.length 4,.int .i64 x2.root])::(az,.sl x5.length 4 (ah.l x5))::(dZ,.ob [ah.fz x3.nodes,.int .i64 x3.root])::(dT,.ob [.fn 78 [.ptr bV 0,.ptr dV 0,.ptr dH 0,.ptr dZ 0,.ptr dT 0]])::L):=Has.nil o2 1
  refine qq <| qq <| q0 <| qb 0 ?_
  obtain⟨bg,sK,H⟩:=aI H
  refine ql (aV.bP L bV eG dV dH eP dZ dT i0 x0 x1 x2 x3 v2  G5  (([]:List Int),(0:Int),Ga x0 v1 (x2.nodes.length:Int),(an.mk x5 x2.root)) _ _ ⟨(0),az,h2,by kernel_rfl,o3⟩ sK) ?_
  rintro e s ⟨rfl,mT,Is,Jk,BA,rfl,g0,g1,g2,g3,g4,hX,hY,h6,rfl,o7⟩
  try dsimp only at H
  refine qq ?_
  obtain⟨h7,sL,o8⟩:=iS (E:=aa) (l:=mT) (q:=0) o7 rfl
  obtain⟨v4,uo,H⟩:=aI H
  obtain⟨h8,sM,o9⟩:=I1 (P:=Tryz.prog) (tf:=28) (E:=ah) (l:=BA.nodes) (q:=4) (off:=3) (v:=(ab.mk v4.kind v4.int v4.label mT)) (x:=aa.fz mT) o8 rfl Wp uo rfl rfl (by decide) rfl
  obtain rfl:=oi H
  exact zt [.a 0 sL] [.v 1 (show bo Tryz.prog h7 42 (.ptr dH 0)=some (.rs hY 0 BA.nodes.length 4) from cn (q:=3) (cs:=[.rs hY 0 BA.nodes.length 4,.int .i64 BA.root]) o8 rfl (by kernel_rfl)),.v 4 (aE (k:=.i64) (E:=ah) (l:=BA.nodes) (q:=4) mf o8 rfl uo),.w 6 sM] <| qq <| q0 <| qt <| ⟨.inl rfl,⟨hY,by kernel_rfl,he (by have o:Has h8 ((bV,.ob [.mp eG])::(eG,.mp (tF Jk))::(dV,.ob [aa.fz x1])::(dH,.ob [.rs hY 0 BA.nodes.length 4,.int .i64 BA.root])::(hY,.sl BA.nodes.length 4 (ah.l (BA.nodes.set (x2.nodes.length:Int).toNat (ab.mk v4.kind v4.int v4.label mT))))::(dZ,.ob [ah.fz x3.nodes,.int .i64 x3.root])::(dT,.ob [.fn 78 [.ptr bV 0,.ptr dV 0,.ptr dH 0,.ptr dZ 0,.ptr dT 0]])::L):=o9; simpa only [Yt] using o)⟩⟩
end
end Go.Proofs.YtmekcfdllhphlaaGreatDoor
namespace Go.Proofs.YtmekcfdllhphlaaGreatDoor
open Go Go.R
open Go.IntKind (i64 u64 u8 u32)
def CZ:cm:=gI [0,1,2,3,4,5,6] [2,4000005] [121,113,97,65,1,25,91,123] [] [(0,[(2,some 0,4)])]
def cG.f (m:Nat)(t0:an):Option (an):=(aw.f m t0.nodes).bind fun x0=>(aV.f m m t0.root ([]:List (Int × Int)) x0 (an.mk ([]:List ab) (0:Int)) t0).bind fun x1=>some x1.2.2
def cG.fin (L:Mem)(r:an)(s:St):Prop:=∃av,aH Tryz.prog (s.open CZ) Tryz.f53.results.toList=some av∧xz s.h av (.agg [ah.fz r.nodes,.int .i64 r.root])
def Um (cf:CallF)(m:Nat):Prop:=∀(t0:an) (r:an),cG.f m t0=some r→∀h xs,l9 xs [.agg [ah.fz t0.nodes,.int .i64 t0.root]]→cf 53 xs h=some (.agg [ah.fz r.nodes,.int .i64 r.root],h)
section
variable {cf:CallF}{m:Nat}
theorem se {aU:FuncId→cm}(ha:aU 53=CZ)(RP:Uk cf m)(G5:PX cf m m)(t0:an)(h:AHeap)(L:Mem)  (o:Has h (L)){out:an}(H:cG.f m t0=some out) :
  ∃r h',be Tryz.prog aU cf m 53 [.agg [ah.fz t0.nodes,.int .i64 t0.root]] h=some (r,h')∧xz h' r (.agg [ah.fz out.nodes,.int .i64 out.root]):=by
 refine aq (fn:=Tryz.f53) ha Tryz.func53 (by kernel_rfl) (by kernel_rfl) ?_
 refine aG (Q:=fun s=>cG.fin L out s) (fun _ _ h=>h) ?_
 have H:_=some out:=H
 unfold cG.f at H
 show dt _ cf CZ m _ ⟨.agg [ah.fz t0.nodes,.int .i64 t0.root]::Gh [],[none,none],h⟩ _
 refine qq ?_
 obtain⟨az,h0,e0,o0⟩:=kI (cs:=[ah.fz t0.nodes,.int .i64 t0.root]) o (by kernel_rfl)
 refine qr [.a 0 e0] ?_
 have o1:Has h0 (((0),.sl (([]:List ab).length) 4 (ah.l ([]:List ab)))::(az,.ob [ah.fz t0.nodes,.int .i64 t0.root])::L):=Has.nil o0 4
 refine qq ?_
 obtain⟨x0,e1,H⟩:=aI H
 obtain⟨fK,h1,e2,o2⟩:=kI (cs:=[.nils]) o1 (by kernel_rfl)
 obtain⟨h2,e3,o3⟩:=lg (P:=Tryz.prog) (t:=28) (off:=0) (q:=0) (cs:=[.nils]) (fF:=[aa.fz x0]) (x:=aa.fz x0) o2 rfl (by kernel_rfl)
 refine qr [.v 1 (show bo Tryz.prog h0 42 (.ptr az 0)=some (ah.fz t0.nodes) from cn (q:=1) (cs:=[ah.fz t0.nodes,.int .i64 t0.root]) o1 rfl (by kernel_rfl)),.a 2 (RP _ _ e1 h0 _ (ia (ae (cW (E:=ah)) (aB)))),.a 3 e2,.w 4 e3] <| qq ?_
 obtain⟨dh,h3,e4,o4⟩:=Gd o3
 obtain⟨fu,h4,e5,o5⟩:=kI (cs:=[.nT]) o4 (by kernel_rfl)
 obtain⟨h5,e6,o6⟩:=lg (P:=Tryz.prog) (t:=110) (off:=0) (q:=0) (cs:=[.nT]) (fF:=[.mp dh]) (x:=.mp dh) o5 rfl (by kernel_rfl)
 refine qr [.m 0 e4,.a 1 e5,.w 2 e6] <| qq ?_
 have o7:Has h5 ((((0)),.sl (([]:List ab).length) 4 (ah.l ([]:List ab)))::(fu,.ob [.mp dh])::(dh,.mp (tF ([]:List (Int × Int))))::(fK,.ob [aa.fz x0])::((0),.sl (([]:List ab).length) 4 (ah.l ([]:List ab)))::(az,.ob [ah.fz t0.nodes,.int .i64 t0.root])::L):=Has.nil o6 4
 obtain⟨gY,h6,e7,o8⟩:=kI (cs:=[.rs ((0)) 0 (([]:List ab).length) 4,.int .i64 (0:Int)]) o7 (by kernel_rfl)
 refine qr [.a 0 e7] <| qq ?_
 obtain⟨hX,h7,e8,o9⟩:=kI (cs:=[.sP]) o8 (by kernel_rfl)
 refine qr [.a 0 e8] <| qq ?_
 obtain⟨h8,e9,vo⟩:=lg (P:=Tryz.prog) (t:=111) (off:=0) (q:=0) (cs:=[.sP]) (fF:=[.fn 78 [.ptr fu 0,.ptr fK 0,.ptr gY 0,.ptr az 0,.ptr hX 0]]) (x:=.fn 78 [.ptr fu 0,.ptr fK 0,.ptr gY 0,.ptr az 0,.ptr hX 0]) o9 rfl (by kernel_rfl)
 refine qr [.w 1 e9] <| qq ?_
 obtain⟨x1,ow,H⟩:=aI H
 obtain⟨hY,h9,rI,wq⟩:=G5 _ _ _ _ _ _ ow h8 _ _ _ _ _ _ _ _ ((Has.front (Has.front (Has.front (Has.front (Has.front (Has.front (Has.front (Has.front vo 6 rfl) 1 rfl) 7 rfl) 4 rfl) 4 rfl) 7 rfl) 7 rfl) 7 rfl))  [.int .i64 t0.root,.ptr fu 0,.ptr fK 0,.ptr gY 0,.ptr az 0,.ptr hX 0] (ak (aR (bJ)) (ak (rfl) (ak (rfl) (ak (rfl) (ak (rfl) (ak (rfl) (bn)))))))
 refine qr [.v 0 (show bo Tryz.prog h8 111 (.ptr hX 0)=some (.fn 78 [.ptr fu 0,.ptr fK 0,.ptr gY 0,.ptr az 0,.ptr hX 0]) from cn (q:=0) (cs:=[.fn 78 [.ptr fu 0,.ptr fK 0,.ptr gY 0,.ptr az 0,.ptr hX 0]]) vo rfl (by kernel_rfl)),.v 2 (show bo Tryz.prog h8 3 (.ptr az 1)=some (.int .i64 t0.root) from cn (q:=7) (cs:=[ah.fz t0.nodes,.int .i64 t0.root]) vo rfl (by kernel_rfl)),.a 3 rI] ?_
 have ug:Has h9 ((fu,.ob [.mp dh])::(dh,.mp (tF x1.2.1))::(fK,.ob [aa.fz x0])::(gY,.ob [.rs hY 0 x1.2.2.nodes.length 4,.int .i64 x1.2.2.root])::(hY,.sl x1.2.2.nodes.length 4 (ah.l x1.2.2.nodes))::(az,.ob [ah.fz t0.nodes,.int .i64 t0.root])::((0),.sl (([]:List ab).length) 4 (ah.l ([]:List ab)))::L):=Has.del wq 6
 have mg:Has h9 ((fu,.ob [.mp dh])::(dh,.mp (tF x1.2.1))::(fK,.ob [aa.fz x0])::(gY,.ob [.rs hY 0 x1.2.2.nodes.length 4,.int .i64 x1.2.2.root])::(hY,.sl x1.2.2.nodes.length 4 (ah.l x1.2.2.nodes))::((0),.sl (([]:List ab).length) 4 (ah.l ([]:List ab)))::L):=Has.del ug 5
 have zx:Has h9 ((fu,.ob [.mp dh])::(dh,.mp (tF x1.2.1))::(gY,.ob [.rs hY 0 x1.2.2.nodes.length 4,.int .i64 x1.2.2.root])::(hY,.sl x1.2.2.nodes.length 4 (ah.l x1.2.2.nodes))::((0),.sl (([]:List ab).length) 4 (ah.l ([]:List ab)))::L):=Has.del mg 2
 have AA:Has h9 ((fu,.ob [.mp dh])::(gY,.ob [.rs hY 0 x1.2.2.nodes.length 4,.int .i64 x1.2.2.root])::(hY,.sl x1.2.2.nodes.length 4 (ah.l x1.2.2.nodes))::((0),.sl (([]:List ab).length) 4 (ah.l ([]:List ab)))::L):=Has.del zx 1
 have ml:Has h9 ((gY,.ob [.rs hY 0 x1.2.2.nodes.length 4,.int .i64 x1.2.2.root])::(hY,.sl x1.2.2.nodes.length 4 (ah.l x1.2.2.nodes))::((0),.sl (([]:List ab).length) 4 (ah.l ([]:List ab)))::L):=Has.del AA 0
 refine qs [.v 0 (show bo Tryz.prog h9 44 (.ptr gY 0)=some (.agg [.rs hY 0 x1.2.2.nodes.length 4,.int .i64 x1.2.2.root]) from cn (q:=0) (cs:=[.rs hY 0 x1.2.2.nodes.length 4,.int .i64 x1.2.2.root]) ml rfl (by kernel_rfl))] ?_
 have Br:Has h9 ((gY,.ob [.rs hY 0 x1.2.2.nodes.length 4,.int .i64 x1.2.2.root])::(hY,.sl x1.2.2.nodes.length 4 (ah.l x1.2.2.nodes))::L):=Has.del ml 2
 have Eu:Has h9 ((hY,.sl x1.2.2.nodes.length 4 (ah.l x1.2.2.nodes))::L):=Has.del Br 0
 obtain rfl:=oi H
 exact qt <| ⟨.inl rfl,vk (.agg [.rs hY 0 x1.2.2.nodes.length 4,.int .i64 x1.2.2.root]) h9 (oK (dN (ae (rG (E:=ah) (l:=x1.2.2.nodes) (q:=0) Eu rfl (fun _=>rfl)) (ae (aN) (aB)))))⟩
end
end Go.Proofs.YtmekcfdllhphlaaGreatDoor
namespace Go.Proofs.YtmekcfdllhphlaaGreatDoor
open Go Go.R
open Go.IntKind (i64 u64 u8 u32)
def lA:List Int→Nat→List (Int × Int)
 | [],_=>[]
 | k::ks,s=>(k,(s:Int))::lA ks (s+1)
theorem wz:∀(ks:List Int) (s:Nat) (k:Int),zl (lA ks s) k=if k∈ks then (((s+ks.idxOf k:Nat):Int),true) else (0,false)
 | [],s,k=>rfl
 | a::ks,s,k=>by
  simp only [lA,zl,wz ks (s+1) k,YW,List.idxOf_cons]
  by_cases h:k=a
  ·subst h; simp
  ·have h':(a==k)=false:=by simpa using fun z:a=k=>h z.symm
   rw [if_neg h,h']
   by_cases h2:k∈ks
   ·simp only [h2,if_true,or_true,cond_false]
    simp only [Yr,and_true]
    omega
   ·simp [h2,h]
theorem wA:∀(ks:List Int) (s:Nat) (k:Int),k∉ks→Ga (lA ks s) k ((s+ks.length:Nat):Int)=lA (ks++[k]) s
 | [],s,k,_=>rfl
 | a::ks,s,k,h=>by
  have h1:k≠a:=fun z=>h (by simp [z])
  have h2:k∉ks:=fun z=>h (by simp [z])
  simp only [lA,Ga,YL,if_neg h1,YD]
  rw [show s+(ks.length+1)=s+1+ks.length by omega,wA ks (s+1) k h2]
def eu (cls:List Int)(a:Int):Int:=gt cls a.toNat
def idx (cls o:List Int)(a:Int):Int:=((o.map (eu cls)).idxOf (eu cls a):Nat)
def vq (cls:List Int)(l:List ab)(o:List Int)(i:Int):ab:=⟨(nd l i).kind,(nd l i).int,(nd l i).label,(nd l i).args.map (idx cls o)⟩
def rJ (cls:List Int)(l:List ab):Nat→Int→List Int→List Int
 | 0,_,o=>o
 | k+1,i,o=>if eu cls i∈o.map (eu cls) then o else (nd l i).args.foldl (fun o a=>rJ cls l k a o) (o++[i])
structure Vs (cls:List Int)(n:Nat)(o:List Int):Prop where
 Iv:(o.map (eu cls)).Nodup
 nP:∀x∈o,0≤x∧x<n
structure Ps (cls:List Int)(l:List ab)(o o':List Int)(ns BB:List ab):Prop where
 vs:Vs cls l.length o'
 pre:∃t,o'=o++t
 len:BB.length=o'.length
 old:∀k,k<o.length→BB[k]? = ns[k]?
 new:∀k,o.length≤k→k<o'.length→BB[k]? = some (vq cls l o' (gt o' k))
 arg:∀k,o.length≤k→k<o'.length→∀a∈(nd l (gt o' k)).args,eu cls a∈o'.map (eu cls)
theorem Vs.qd {cls:List Int}{n:Nat}{o:List Int}(v:Vs cls n o):o.length≤n:=by
 have hn:o.Nodup:=by
  have:=v.Iv
  unfold List.Nodup at this ⊢
  rw [List.pairwise_map] at this
  exact List.Pairwise.imp (fun h e=>h (by rw [e])) this
 have:=hn.length_le_of_subset (l₂:=ints n) (fun x hx=>iV.2 (v.nP x hx))
 rwa [dS] at this
theorem Ps.refl {cls:List Int}{l:List ab}{o:List Int}{ns:List ab}(v:Vs cls l.length o)(h:ns.length=o.length):Ps cls l o o ns ns:=
 ⟨v,⟨[],by simp⟩,h,fun _ _=>rfl,fun k h1 h2=>by omega,fun k h1 h2=>by omega⟩
theorem gX {a b:List Int}{k:Nat}(h:k<a.length):gt (a++b) k=gt a k:=by
 unfold gt; rw [YB,YB,YV h]
theorem oB {cls o t:List Int}{a:Int}(h:eu cls a∈o.map (eu cls)):idx cls (o++t) a=idx cls o a:=by
 unfold idx; rw [YP,Zv,if_pos h]
theorem zK {cls:List Int}{l:List ab}{o t:List Int}{i:Int}(h:∀a∈(nd l i).args,eu cls a∈o.map (eu cls)):vq cls l (o++t) i=vq cls l o i:=by
 unfold vq
 congr 1
 exact Zo fun a ha=>oB (h a ha)
theorem Ps.trans {cls:List Int}{l:List ab}{o o1 o2:List Int}{ns n1 n2:List ab}(a:Ps cls l o o1 ns n1)(b:Ps cls l o1 o2 n1 n2):Ps cls l o o2 ns n2:=by
 obtain⟨t1,rfl⟩:=a.pre
 obtain⟨t2,rfl⟩:=b.pre
 have hl:(o++t1).length=o.length+t1.length:=by simp
 refine⟨b.vs,⟨t1++t2,by simp⟩,b.len,fun k hk=>(b.old k (by omega)).trans (a.old k hk),fun k h1 h2=>?_,fun k h1 h2 x hx=>?_⟩
 ·by_cases h:k<(o++t1).length
  ·rw [b.old k h,a.new k h1 h,gX h,zK (a.arg k h1 h)]
  ·exact b.new k (by omega) h2
 ·by_cases h:k<(o++t1).length
  ·rw [gX h] at hx
   rw [YP]
   exact Y4 _ (a.arg k h1 h x hx)
  ·exact b.arg k (by omega) h2 x hx
section
variable {m:Nat}{cls:List Int}{l:List ab}{root:Int}
abbrev OW:=Int→(List (Int × Int))→(List Int)→an→an→Option (Int × (List (Int × Int)) × an)
def Kr (cls:List Int)(l:List ab)(root:Int)(rec:OW)(df:Int→List Int→List Int)(need:Nat):Prop:=∀(i:Int) (o:List Int) (ns:List ab),0≤i→i<l.length→Vs cls l.length o→ns.length=o.length→l.length<need+o.length→
 ∃BB,rec i (lA (o.map (eu cls)) 0) cls ⟨ns,0⟩ ⟨l,root⟩=some (idx cls (df i o) i,lA ((df i o).map (eu cls)) 0,⟨BB,0⟩)∧Ps cls l o (df i o) ns BB∧eu cls i∈(df i o).map (eu cls)
theorem G9 {rec:OW}{df:Int→List Int→List Int}{need:Nat}(hm:2 ^ 30≤m)(ok:lz l)(V:Kr cls l root rec df need){v:ab}(h8:v.args.length≤8)(ha:∀a∈v.args,0≤a∧a<l.length){o0:List Int}{Un:List ab}(OX:l.length<need+o0.length):∀(f t:Nat) (o:List Int) (ns:List ab),v.args.length - t<f→t≤v.args.length→Ps cls l o0 o Un ns→(∀a∈v.args.take t,eu cls a∈o.map (eu cls))→
  ∃o' BB x,o'=(v.args.drop t).foldl (fun o a=>df a o) o∧aV.l0 m cls ⟨l,root⟩ rec v f ((v.args.take t).map (idx cls o)) (t:Int) (lA (o.map (eu cls)) 0) ⟨ns,0⟩=some (v.args.map (idx cls o'),x,lA (o'.map (eu cls)) 0,⟨BB,0⟩)∧Ps cls l o0 o' Un BB∧∀a∈v.args,eu cls a∈o'.map (eu cls)
 | 0,t,o,ns,hf,_,_,_=>absurd hf (by omega)
 | f+1,t,o,ns,hf,ht,P,hin=>by
  have lE:(2:Nat) ^ 30=1073741824:=by decide
  unfold aV.l0
  by_cases h:t<v.args.length
  ·obtain⟨b0,b1⟩:=ha _ (aJ h)
   have X8:o0.length≤o.length:=by obtain⟨s,rfl⟩:=P.pre; simp
   obtain⟨Wt,k1,P1,PH⟩:=V (gt v.args t) o ns b0 b1 P.vs P.len (by omega)
   obtain⟨s,hs⟩:=P1.pre
   have hT1:v.args.take (t+1)=v.args.take t++[gt v.args t]:=by rw [Zn,bu h]; rfl
   have hD:v.args.drop t=gt v.args t::v.args.drop (t+1):=by
    obtain⟨h4,h5⟩:=Yu.1 (bu h)
    rw [←h5]; exact Yz h4
   have RQ:∀a∈v.args.take (t+1),eu cls a∈(df (gt v.args t) o).map (eu cls):=fun a ha=>by
    rw [hT1] at ha
    rcases Yy.1 ha with ha | ha
    ·rw [hs,YP]; exact Y4 _ (hin a ha)
    ·simp only [Yw] at ha; subst ha; exact PH
   obtain⟨o',BB,x,e,k2,P2,h2⟩:=G9 hm ok V h8 ha OX f (t+1) (df (gt v.args t) o) Wt (by omega) (by omega) (P.trans P1) RQ
   refine⟨o',BB,x,by rw [hD]; exact e,?_,P2,h2⟩
   have e1:i64.wrap ((t:Int)+1)=((t+1:Nat):Int):=by rw [aA (by omega) (by omega)]; omega
   have jS:app 8 ((v.args.take t).map (idx cls o)) [idx cls (df (gt v.args t) o) (gt v.args t)]=some ((v.args.take (t+1)).map (idx cls (df (gt v.args t) o))):=by
    unfold app
    rw [if_pos (by simp; omega),hT1,YP]
    congr 2
    exact Zo fun a ha=>by rw [hs]; exact (oB (hin a ha)).symm
   rw [if_pos (by simp only [decide_eq_true_eq]; omega),cy h,Yj,k1,Yj,jS,Yj,e1]
   exact k2
  ·have:t=v.args.length:=by omega
   subst this
   rw [Zq] at hin ⊢
   exact⟨o,ns,_,by rw [List.drop_length]; rfl,by rw [if_neg (by simp)],P,hin⟩
theorem uz (hm:2 ^ 30≤m)(ok:lz l)(hc:cls.length=l.length):∀k,Kr cls l root (aV.f m k) (rJ cls l k) k
 | 0=>fun i o ns h0 h1 v hl hn=>absurd v.qd (by omega)
 | k+1=>fun i o ns h0 h1 v hl hn=>by
  have lE:(2:Nat) ^ 30=1073741824:=by decide
  have h8000:=ok.1
  have BC:=v.qd
  show ∃BB,aV.b m (aV.f m k) i (lA (o.map (eu cls)) 0) cls ⟨ns,0⟩ ⟨l,root⟩=_∧_
  unfold aV.b
  have hx:ix cls i=some (eu cls i):=gn (by omega) (by omega)
  rw [hx,Yj,wz,YG]
  by_cases h:eu cls i∈o.map (eu cls)
  ·have hd:rJ cls l (k+1) i o=o:=by unfold rJ; rw [if_pos h]
   rw [hd,if_pos h]
   exact⟨ns,rfl,Ps.refl v hl,h⟩
  ·have hd:rJ cls l (k+1) i o=(nd l i).args.foldl (fun o a=>rJ cls l k a o) (o++[i]):=by
    show (if eu cls i∈o.map (eu cls) then o else (nd l i).args.foldl (fun o a=>rJ cls l k a o) (o++[i]))=_
    rw [if_neg h]
   have v1:Vs cls l.length (o++[i]):=by
    refine⟨?_,fun x hx=>?_⟩
    ·rw [YP,Zw]
     refine⟨v.Iv,by simp,fun a ha b hb=>?_⟩
     simp only [YJ,List.map_nil,Yw] at hb
     subst hb; intro e; subst e; exact h ha
    ·rcases Yy.1 hx with hx | hx
     ·exact v.nP x hx
     ·simp only [Yw] at hx; subst hx; exact⟨h0,h1⟩
   have Ha:=v1.qd
   simp only [Ys,YD,Y6] at Ha
   have jS:app 56 ns [(⟨(nd l i).kind,(nd l i).int,(nd l i).label,[]⟩:ab)]=some (ns++[⟨(nd l i).kind,(nd l i).int,(nd l i).label,[]⟩]):=by
    unfold app; rw [if_pos (by simp; omega)]
   have NW:Ga (lA (o.map (eu cls)) 0) (eu cls i) ((ns.length:Nat):Int)=lA ((o++[i]).map (eu cls)) 0:=by
    have:=wA (o.map (eu cls)) 0 (eu cls i) h
    rw [YG,YY,←hl] at this
    rw [this,YP]; rfl
   obtain⟨n1,n2⟩:=ok.2 _ (fD h0 h1)
   have P0:Ps cls l (o++[i]) (o++[i]) (ns++[⟨(nd l i).kind,(nd l i).int,(nd l i).label,[]⟩]) (ns++[⟨(nd l i).kind,(nd l i).int,(nd l i).label,[]⟩]):=Ps.refl v1 (by simp [hl])
   obtain⟨o',BB,x,e,k2,P2,h2⟩:=G9 (m:=m) (v:=nd l i) (need:=k) hm ok (uz hm ok hc k) n1 n2 (o0:=o++[i]) (by simp; omega) m 0 (o++[i]) _ (by omega) (by omega) P0 (fun a ha=>by simp at ha)
   rw [YZ] at e
   rw [List.take_zero,List.map_nil] at k2
   have k2:aV.l0 m cls ⟨l,root⟩ (aV.f m k) (nd l i) m [] 0 _ _=_:=k2
   obtain⟨s,hs⟩:=P2.pre
   have IJ:o.length<o'.length:=by rw [hs]; simp
   have OY:BB[o.length]? = some ⟨(nd l i).kind,(nd l i).int,(nd l i).label,[]⟩:=by
    rw [P2.old _ (by simp),←hl,YE (Yn _),ZT]; rfl
   have Mf:ix BB ((ns.length:Nat):Int)=some ⟨(nd l i).kind,(nd l i).int,(nd l i).label,[]⟩:=by
    unfold ix; rw [if_pos (by omega),Yq,hl,OY]
   have Uo:gt o' o.length=i:=by
    rw [hs,gX (by simp)]
    unfold gt; rw [YB,YE (Yn _),ZT]; rfl
   have RR:idx cls o' i=(o.length:Nat):=by
    rw [hs,oB (by simp)]
    unfold idx
    rw [YP,Zv,if_neg h]; simp
   rw [hd,←e,if_neg h,if_neg (by simp),Yj,il h0 h1,Yj,jS,Yj,NW,k2,Yj]
   dsimp only
   rw [Mf,Yj,Yq,RR,hl]
   refine⟨_,rfl,⟨P2.vs,⟨[i]++s,by rw [hs]; simp⟩,by simpa using P2.len,fun q hq=>?_,fun q h3 h4=>?_,fun q h3 h4 a ha=>?_⟩,by rw [hs]; simp⟩
   ·rw [ZP (by omega),P2.old q (by simp; omega),YV (by omega)]
   ·by_cases hq:q=o.length
    ·subst hq
     rw [ZI (by rw [P2.len]; omega),Uo]; rfl
    ·rw [ZP (by omega)]
     exact P2.new q (by simp; omega) h4
   ·by_cases hq:q=o.length
    ·subst hq; rw [Uo] at ha; exact h2 a ha
    ·exact P2.arg q (by simp; omega) h4 a ha
end
theorem uA {m:Nat}(hm:2 ^ 41≤m){t:an}(ok:lz t.nodes)(h1:1≤t.nodes.length)(r0:0≤t.root)(r1:t.root<t.nodes.length)(Inv:List Int→Prop)
  (hI0:∀d out,d.Perm (ints t.nodes.length)→(Ord (fun x y=>cT (nd t.nodes x) (nd t.nodes y)) (ints t.nodes.length)→Sg (fun x y=>cT (nd t.nodes x) (nd t.nodes y)) d 0 t.nodes.length)→(∀k,k<t.nodes.length→gt out (gt d k).toNat=rk t.nodes d k)→Inv out)
  (hI:∀out many ks next,Part t.nodes.length out many→Inv out→qK t.nodes out t.nodes.length ks→next.length=t.nodes.length→(∀i,i<t.nodes.length→gt next i=(ks.idxOf (key out (nd t.nodes i) i):Int))→Inv next) :
  ∃cls many ks ns,cG.f m t=some ⟨ns,0⟩∧Part t.nodes.length cls many∧Inv cls∧qK t.nodes cls t.nodes.length ks∧ks.length=many+1∧Ps cls t.nodes [] (rJ cls t.nodes m t.root []) [] ns∧eu cls t.root∈(rJ cls t.nodes m t.root []).map (eu cls):=by
 have lE:(2:Nat) ^ 30=1073741824:=by decide
 have pz:(2:Nat) ^ 41=2199023255552:=by decide
 have h8000:=ok.1
 obtain⟨cls,many,ks,k1,P,I,K,AU⟩:=yb hm ok h1 Inv hI0 hI
 obtain⟨ns,k2,P2,h2⟩:=uz (m:=m) (root:=t.root) (by omega) ok P.len m t.root [] [] r0 r1 ⟨by simp,fun x hx=>by simp at hx⟩ rfl (by simp; omega)
 refine⟨cls,many,ks,ns,?_,P,I,K,AU,P2,h2⟩
 unfold cG.f
 have k2:aV.f m m t.root [] cls ⟨[],0⟩ t=_:=k2
 rw [k1,Yj,k2]; rfl
end Go.Proofs.YtmekcfdllhphlaaGreatDoor
namespace Go.Proofs.YtmekcfdllhphlaaGreatDoor
open Go Go.R
open Go.IntKind (i64 u64 u8 u32)
theorem uB:∀(x:List UInt8),Op.bytesLess x x=false
 | []=>rfl
 | a::x=>by simp [Op.bytesLess,uB x]
theorem yc:∀(x y:List UInt8),Op.bytesLess x y=true→Op.bytesLess y x=false
 | _,[],h=>by cases ‹List UInt8›<;>simp [Op.bytesLess] at h
 | [],b::y,_=>rfl
 | a::x,b::y,h=>by
  simp only [Op.bytesLess,Za,Yo,decide_eq_true_eq,beq_iff_eq] at h
  simp only [Op.bytesLess,Bool.or_eq_false_iff,Bool.and_eq_false_iff,decide_eq_false_iff_not,beq_eq_false_iff_ne]
  rcases h with h | ⟨rfl,h⟩
  ·refine⟨fun h2=>?_,.inl fun e=>?_⟩
   ·rw [ZE] at h h2; omega
   ·subst e; rw [ZE] at h; omega
  ·exact⟨by rw [ZE]; omega,.inr (yc x y h)⟩
theorem Hb:∀(x y:List UInt8),Op.bytesLess x y=true∨x=y∨Op.bytesLess y x=true
 | [],[]=>.inr (.inl rfl)
 | [],b::y=>.inl rfl
 | a::x,[]=>.inr (.inr rfl)
 | a::x,b::y=>by
  simp only [Op.bytesLess,Za,Yo,decide_eq_true_eq,beq_iff_eq,List.cons.injEq]
  rcases Nat.lt_trichotomy a.toNat b.toNat with h | h | h
  ·exact .inl (.inl (ZE.2 h))
  ·have:a=b:=UInt8.toNat_inj.1 h
   subst this
   rcases Hb x y with h1 | h1 | h1
   ·exact .inl (.inr ⟨rfl,h1⟩)
   ·exact .inr (.inl ⟨rfl,h1⟩)
   ·exact .inr (.inr (.inr ⟨rfl,h1⟩))
  ·exact .inr (.inr (.inl (ZE.2 h)))
theorem zL:∀(x y z:List UInt8),Op.bytesLess x y=true→Op.bytesLess y z=true→Op.bytesLess x z=true
 | _,_,[],_,h=>by cases ‹List UInt8›<;>simp [Op.bytesLess] at h
 | _,[],c::z,h,_=>by cases ‹List UInt8›<;>simp [Op.bytesLess] at h
 | [],b::y,c::z,_,_=>rfl
 | a::x,b::y,c::z,h1,h2=>by
  simp only [Op.bytesLess,Za,Yo,decide_eq_true_eq,beq_iff_eq] at h1 h2 ⊢
  rcases h1 with h1 | ⟨rfl,h1⟩
  ·rcases h2 with h2 | ⟨rfl,h2⟩
   ·left; rw [ZE] at *; omega
   ·exact .inl h1
  ·rcases h2 with h2 | ⟨rfl,h2⟩
   ·exact .inl h2
   ·exact .inr ⟨rfl,zL x y z h1 h2⟩
theorem BD {x y:ByteArray}(h:x.data.toList=y.data.toList):x=y:=by
 cases x with | mk a=>cases y with | mk b=>cases a; cases b; simp only at h; subst h; rfl
structure Mh {α:Type}(c:α→α→Int):Prop where
 zero:∀x y,c x y=0→x=y
 refl:∀x,c x x=0
 neg:∀x y,c y x = - c x y
 tr:∀x y z,c x y≤0→c y z≤0→c x z≤0
theorem mU:Mh cI:=by
 refine⟨fun x y h=>?_,fun x=>?_,fun x y=>?_,fun x y z h1 h2=>?_⟩
 ·unfold cI at h; split at h
  ·omega
  ·split at h<;>omega
 ·unfold cI; simp
 ·unfold cI; split<;>split<;>(try split)<;>omega
 ·unfold cI at *
  split at h1<;>split at h2<;>(try split at h1)<;>(try split at h2)<;>(try omega)<;>split<;>(try split)<;>omega
theorem zM (x y:ByteArray):cS x y=if Op.bytesLess x.data.toList y.data.toList=true then -1 else if x=y then 0 else 1:=by
 unfold cS F3
 cases h:Op.bytesLess x.data.toList y.data.toList with
 | true=>rfl
 | false=>
  simp only [Bool.false_or,YA,if_false]
  by_cases e:x=y
  ·subst e; simp
  ·rw [if_neg e]
   have:(x.data.toList==y.data.toList)=false:=by
    rw [beq_eq_false_iff_ne]; exact fun h=>e (BD h)
   rw [this]; rfl
theorem Hc:Mh cS:=by
 refine⟨fun x y h=>?_,fun x=>?_,fun x y=>?_,fun x y z h1 h2=>?_⟩
 ·rw [zM] at h
  split at h
  ·omega
  ·split at h
   ·assumption
   ·omega
 ·rw [zM,uB]; simp
 ·rw [zM,zM]
  rcases Hb x.data.toList y.data.toList with h | h | h
  ·have h2:=yc _ _ h
   have hne:¬y=x:=fun e=>by subst e; rw [uB] at h; cases h
   rw [if_pos h,h2]; simp [hne]
  ·have:=BD h
   subst this
   rw [uB]; simp
  ·have h2:=yc _ _ h
   have hne:¬x=y:=fun e=>by subst e; rw [uB] at h; cases h
   rw [if_pos h,h2]; simp [hne]
 ·rw [zM] at h1 h2 ⊢
  split at h1
  ·rename_i g1
   split at h2
   ·rename_i g2
    rw [if_pos (zL _ _ _ g1 g2)]; omega
   ·split at h2
    ·rename_i e; subst e; rw [if_pos g1]; omega
    ·omega
  ·split at h1
   ·rename_i e; subst e
    split at h2
    ·rename_i g2; rw [if_pos g2]; omega
    ·split at h2
     ·rename_i g e; rw [if_neg g,if_pos e]; omega
     ·omega
   ·omega
theorem Hd {α β:Type}{c:α→α→Int}{d:β→β→Int}(C:Mh c)(D:Mh d):Mh fun (p q:α × β)=>Ez (c p.1 q.1) (d p.2 q.2):=by
 refine⟨fun x y h=>?_,fun x=>?_,fun x y=>?_,fun x y z h1 h2=>?_⟩
 ·unfold Ez at h
  split at h
  ·rename_i h1; exact Prod.ext (C.zero _ _ h1) (D.zero _ _ h)
  ·exact absurd h ‹_›
 ·unfold Ez; rw [C.refl,if_pos rfl,D.refl]
 ·skip
  unfold Ez
  have:=C.neg x.1 y.1
  by_cases h:c x.1 y.1=0
  ·rw [if_pos h,if_pos (by omega),D.neg]
  ·rw [if_neg h,if_neg (by omega),C.neg]
 ·skip
  unfold Ez at *
  by_cases a:c x.1 y.1=0
  ·rw [if_pos a] at h1
   have e:=C.zero _ _ a
   rw [←e] at h2
   by_cases b:c x.1 z.1=0
   ·rw [if_pos b] at h2 ⊢; exact D.tr _ _ _ h1 h2
   ·rw [if_neg b] at h2 ⊢; exact h2
  ·rw [if_neg a] at h1
   have hz:c x.1 z.1≤0:=by
    by_cases b:c y.1 z.1=0
    ·rw [←C.zero _ _ b]; exact h1
    ·rw [if_neg b] at h2; exact C.tr _ _ _ h1 h2
   have hne:c x.1 z.1≠0:=fun e=>by
    have e1:=C.zero _ _ e
    by_cases b:c y.1 z.1=0
    ·have e2:=C.zero _ _ b; rw [e1,←e2] at a; exact a (C.refl _)
    ·rw [if_neg b,←e1] at h2
     have:=C.neg x.1 y.1; omega
   rw [if_neg hne]; exact hz
theorem C0:Mh fun (p q:Int × ByteArray)=>Ez (cI p.1 q.1) (cS p.2 q.2):=Hd mU Hc
theorem C1:Mh fun (p q:ByteArray × Int)=>Ez (cS p.1 q.1) (cI p.2 q.2):=Hd Hc mU
theorem lS {a b:ab}(h:a.kind=b.kind):cT a b=if a.kind=3 then Ez (cI a.args.length b.args.length) (cS a.label b.label) else Ez (cS a.label b.label) (cI a.int b.int):=by unfold cT; rw [if_pos h]
theorem jP {a b:ab}(h:a.kind≠b.kind):cT a b=cI a.kind b.kind:=by unfold cT; rw [if_neg h]
theorem jq (a b:ab):cT b a = - cT a b:=by
 by_cases h:a.kind=b.kind
 ·rw [lS h,lS h.symm,←h]
  split
  ·exact C0.neg ((a.args.length:Int),a.label) ((b.args.length:Int),b.label)
  ·exact C1.neg (a.label,a.int) (b.label,b.int)
 ·rw [jP h,jP (ZB h)]; exact mU.neg _ _
theorem zN (a b c:ab)(h1:cT a b≤0)(h2:cT b c≤0):cT a c≤0:=by
 by_cases e1:a.kind=b.kind
 ·by_cases e2:b.kind=c.kind
  ·rw [lS e1] at h1
   rw [lS e2,←e1] at h2
   rw [lS (e1.trans e2)]
   split
   ·rename_i h3; rw [if_pos h3] at h1 h2
    exact C0.tr ((a.args.length:Int),a.label) ((b.args.length:Int),b.label) ((c.args.length:Int),c.label) h1 h2
   ·rename_i h3; rw [if_neg h3] at h1 h2
    exact C1.tr (a.label,a.int) (b.label,b.int) (c.label,c.int) h1 h2
  ·rw [jP e2] at h2
   rw [jP (by rw [e1]; exact e2),e1]; exact h2
 ·rw [jP e1] at h1
  by_cases e2:b.kind=c.kind
  ·rw [jP (by rw [←e2]; exact e1),←e2]; exact h1
  ·rw [jP e2] at h2
   have n1:cI a.kind b.kind≠0:=fun h=>e1 (mU.zero _ _ h)
   have n2:cI b.kind c.kind≠0:=fun h=>e2 (mU.zero _ _ h)
   by_cases e3:a.kind=c.kind
   ·rw [←e3] at h2
    have:=mU.neg a.kind b.kind
    omega
   ·rw [jP e3]; exact mU.tr _ _ _ h1 h2
structure Alike (a b:ab):Prop where
 kind:a.kind=b.kind
 int:a.int=b.int
 label:a.label=b.label
 len:a.args.length=b.args.length
theorem Alike.refl (a:ab):Alike a a:=⟨rfl,rfl,rfl,rfl⟩
theorem Alike.symm {a b:ab}(h:Alike a b):Alike b a:=⟨h.1.symm,h.2.symm,h.3.symm,h.4.symm⟩
theorem Alike.trans {a b c:ab}(h:Alike a b)(k:Alike b c):Alike a c:=⟨h.1.trans k.1,h.2.trans k.2,h.3.trans k.3,h.4.trans k.4⟩
theorem Alike.cT {a b:ab}(h:Alike a b):cT a b=0:=by
 rw [lS h.kind]
 split
 ·rw [h.len,h.label]; exact C0.refl ((b.args.length:Int),b.label)
 ·rw [h.label,h.int]; exact C1.refl (b.label,b.int)
theorem He {a b:ab}(h:cT a b=0)(ha:a.kind=3→a.int=0)(hb:b.kind=3→b.int=0)(RU:a.kind≠3→a.args=[])(hb2:b.kind≠3→b.args=[]):Alike a b:=by
 by_cases e:a.kind=b.kind
 ·rw [lS e] at h
  split at h
  ·rename_i h3
   have:=C0.zero ((a.args.length:Int),a.label) ((b.args.length:Int),b.label) h
   simp only [Yr] at this
   exact⟨e,by rw [ha h3,hb (by rw [←e]; exact h3)],this.2,by omega⟩
  ·rename_i h3
   have:=C1.zero (a.label,a.int) (b.label,b.int) h
   simp only [Yr] at this
   exact⟨e,this.2,this.1,by rw [RU h3,hb2 (by rw [←e]; exact h3)]⟩
 ·rw [jP e] at h
  exact absurd (mU.zero _ _ h) e
theorem Mi (l:List ab)(s:List Int):Ord (fun x y=>cT (nd l x) (nd l y)) s:=by
 refine⟨fun x _ y _ z _ h1 h2=>?_,fun x _ y _ h=>?_⟩
 ·skip
  have a1:=jq (nd l x) (nd l y)
  have a2:=jq (nd l y) (nd l z)
  have a3:=jq (nd l x) (nd l z)
  have:=zN (nd l x) (nd l y) (nd l z) (by omega) (by omega)
  omega
 ·skip
  have a1:=jq (nd l x) (nd l y)
  omega
end Go.Proofs.YtmekcfdllhphlaaGreatDoor
