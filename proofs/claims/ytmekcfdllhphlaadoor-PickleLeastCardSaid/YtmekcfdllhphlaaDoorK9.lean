/- Part of the proof: PT7, Q67, PT8, PT9, Q68, Q47, PT10, PB1, Q54, Q59, Q43, PR2, Q74, Q55, Q60, Q44, PR3, PR4, PR5, Q21, Q42, Q36. -/
import Derived.Test.YtmekcfdllhphlaaDoorK8
set_option linter.unusedVariables false
set_option linter.unusedSimpArgs false
set_option maxRecDepth 100000
open Bool renaming and_eq_true → QR, false_eq_true → Q6, or_eq_true → RD
open Int renaming toNat_natCast → QT
open List renaming getElem?_eq_some_iff → QX, mem_singleton → QY, getElem?_eq_getElem → QZ, length_append → Q0, getD_eq_getElem?_getD → Q5, mem_append → Q7, drop_eq_getElem_cons → Q9, length_set → Rb, replicate → Rc, getElem?_append_right → Rg, map_append → Ri, mem_map → Rj, getElem?_map → Rk, append_assoc → Rm, map_cons → Rq, drop_zero → Rr, getElem?_append_left → Rs, mem_cons → Rt, cons_append → Ru, mem_append_left → Rx, length_cons → RA, length_map → RE, all_cons → RL, length_nil → RN, idxOf_lt_length_of_mem → RR, take_add_one → RU, take_length → RV, getElem_mem → RW, idxOf_append → RZ, nodup_append → R0, mem_of_getElem? → Se, map_congr_left → Sk, getElem?_set_self → Sm, set_append_right → Sv, getElem?_set_ne → Sw, getElem_of_mem → Sy, range → SC
open Nat renaming le_refl → QS, zero_add → Re, sub_self → Sf
open Ne renaming symm → R8
open Option renaming bind_some → QM
open Option.some renaming inj → Rf
open Or renaming inr → Sa
open Prod.mk renaming injEq → QV
open UInt8 renaming lt_iff_toNat_lt → Sb
namespace Go.Proofs.YtmekcfdllhphlaaDoor
open Go Go.R
open Go.IntKind (i64 u64 u8 u32)
def cC (t:aw):Bool:=decide (1≤t.nodes.length)&&decide (t.nodes.length≤8000)&&decide (0≤t.root)&&decide (t.root<t.nodes.length)&&t.nodes.all fun n=>gx n t.nodes.length
theorem hH {m:Nat}(hm:2 ^ 30≤m)(t:aw):dB.f m t=some (cC t):=by
 have lz:(2:Nat) ^ 30=1073741824:=by decide
 have pS:(2:Nat) ^ 40=1099511627776:=by decide
 unfold dB.f cC
 by_cases h1:1≤t.nodes.length
 ·rw [if_pos (by simp only [decide_eq_true_eq]; omega),decide_eq_true h1]
  by_cases h2:t.nodes.length≤8000
  ·rw [if_pos (by simp only [decide_eq_true_eq]; omega),decide_eq_true h2]
   by_cases h3:0≤t.root
   ·rw [if_pos (by simp only [decide_eq_true_eq]; omega),decide_eq_true h3]
    by_cases h4:t.root<t.nodes.length
    ·rw [if_pos (by simp only [decide_eq_true_eq]; omega),decide_eq_true h4]
     rw [zn (g:=fun n=>!(gx n t.nodes.length)) (by omega) (by omega) (fun n _=>by unfold dT.f; rw [zo (by omega)]; rfl),QM]
     simp [List.not_any_eq_all_not]
    ·rw [if_neg (by simp only [decide_eq_true_eq]; omega),decide_eq_false h4]; rfl
   ·rw [if_neg (by simp only [decide_eq_true_eq]; omega),decide_eq_false h3]; rfl
  ·rw [if_neg (by simp only [decide_eq_true_eq]; omega),decide_eq_false h2]; rfl
 ·rw [if_neg (by simp only [decide_eq_true_eq]; omega),decide_eq_false h1]; rfl
def cI (x y:Int):Int:=if x<y then -1 else if y<x then 1 else 0
def cS (x y:ByteArray):Int:=if Op.bytesLess x.data.toList y.data.toList=true then -1 else if (!AO x y)=true then 1 else 0
def zt (x y:Int):Int:=if x=0 then y else x
def cT (a b:aa):Int:=if a.kind=b.kind then (if a.kind=3 then zt (cI a.args.length b.args.length) (cS a.label b.label) else zt (cS a.label b.label) (cI a.int b.int)) else cI a.kind b.kind
theorem sY {m:Nat}(x y:Int):bO.f m x y=some (cI x y):=by
 unfold bO.f cV.f cI
 simp only [beq_self_eq_true,Bool.not_true,QM,Q6,if_false]
 by_cases h:x<y
 ·rw [if_pos (by simpa using h),if_pos h]
 ·rw [if_neg (by simpa using h),if_neg h]
  by_cases h2:y<x
  ·rw [if_pos (by simpa using h2),if_pos h2]
  ·rw [if_neg (by simpa using h2),if_neg h2]
theorem xY {m:Nat}(x y:ByteArray):bE.f m x y=some (cS x y):=by
 unfold bE.f b8.f cS
 simp only [beq_self_eq_true,Bool.not_true,QM,Q6,if_false]
 split
 ·rfl
 ·split
  ·rfl
  ·rfl
theorem uA {m:Nat}(hm:3≤m)(x y:Int):bz.f m [x,y]=some (zt x y):=by
 obtain⟨k,rfl⟩:∃k,m=k+3:=⟨m - 3,by omega⟩
 unfold bz.f zt
 have e1:i64.wrap ((0:Int)+1)=1:=by decide
 have e2:i64.wrap ((1:Int)+1)=2:=by decide
 have a0:ix [x,y] 0=some x:=rfl
 have a1:ix [x,y] 1=some y:=rfl
 unfold bz.l0
 rw [if_pos (by simp),a0,QM]
 by_cases h:x=0
 ·subst h
  rw [if_neg (by simp),e1,if_pos rfl]
  unfold bz.l0
  rw [if_pos (by simp),a1,QM]
  by_cases h2:y=0
  ·subst h2
   rw [if_neg (by simp),e2]
   unfold bz.l0
   rw [if_neg (by simp)]; rfl
  ·rw [if_pos (by simpa using h2)]; rfl
 ·rw [if_pos (by simpa using h),if_neg h]; rfl
theorem sZ {m:Nat}(hm:3≤m)(a b:aa):bP.f m a b=some (cT a b):=by
 unfold bP.f cT
 by_cases h:a.kind=b.kind
 ·rw [if_neg (by simp [h]),if_pos h]
  by_cases h3:a.kind=3
  ·rw [if_pos (by simpa using h3),if_pos h3,sY,xY,QM,QM,uA hm]; rfl
  ·rw [if_neg (by simpa using h3),if_neg h3,sY,xY,QM,QM,uA hm]; rfl
 ·rw [if_pos (by simpa using h),if_neg h,sY]; rfl
def nd (l:List aa)(i:Int):aa:=l.getD i.toNat ⟨0,0,⟨#[]⟩,[]⟩
theorem eX {l:List aa}{i:Int}(h0:0≤i)(h1:i<l.length):ix l i=some (nd l i):=by
 unfold ix nd
 have h:i.toNat<l.length:=by omega
 rw [if_pos h0,Q5,QZ h]; rfl
theorem dq {l:List aa}{i:Int}(h0:0≤i)(h1:i<l.length):nd l i∈l:=by
 have:=eX h0 h1
 unfold ix at this
 rw [if_pos h0] at this
 exact Se this
theorem Bv {m:Nat}(hm:3≤m){l:List aa}{i j:Int}(h0:0≤i)(h1:i<l.length)(h2:0≤j)(h3:j<l.length):ck.f m i j l=some (cT (nd l i) (nd l j)):=by
 unfold ck.f
 rw [eX h0 h1,eX h2 h3,QM,QM,sZ hm]; rfl
end Go.Proofs.YtmekcfdllhphlaaDoor
namespace Go.Proofs.YtmekcfdllhphlaaDoor
open Go Go.R
open Go.IntKind (i64 u64 u8 u32)
def mh:ca:=ff [0,1,2,3,4,5,6,7,8,9,10,11,12,13,14,15,17,22,23,24,37,38,39,40,61,73,74,75,76,87,88,89,90,110,126] [12] [34359738365,34359738357,34359345141,34358820853,34359345125,34359345141,34359345141,34359738357,34359738325,34359738261,34352398229,34344009621,34352397845,34335620757,34352397973,34352398229,34352398229,34359737757,34359736733,34124855709,33856420253,34124849565,34124841373,30366749085,26071781789,30366699933,30366749085,30366749085,34124779933,25534910877,34124845469,34124855709,34124855709,17179867613,34359738363,34359738269] [] []
def an.l0 (m:Nat)(x0:List Int):Nat→(List Int)→Int→Option ((List Int) × Int)
 | 0,_,_=>none
 | k+1,dC,x1=>if (decide (x1<(x0.length:Int)))=true then ((ix dC x1).bind fun v0=>an.l0 m x0 k (dC.set x1.toNat x1) (i64.wrap (x1+(1:Int)))) else (some ((dC,x1)))
def an.l1 (m:Nat)(au:List aa)(bu:List Int)(x3:(List Int)):Nat→(List Int)→Int→Int→Option ((List Int) × Int × Int)
 | 0,_,_,_=>none
 | k+1,b5,cL,x5=>if (decide (x5<(bu.length:Int)))=true then ((ix x3 x5).bind fun v1=>if (decide (x5 > (0:Int)))=true then ((ix x3 (i64.wrap (x5 - (1:Int)))).bind fun v2=>(ix au v2).bind fun v3=>(ix au v1).bind fun v4=>(bP.f m v3 v4).bind fun x6=>if (!(x6==(0:Int)))=true then ((ix b5 v1).bind fun v5=>an.l1 m au bu x3 k (b5.set v1.toNat (i64.wrap (cL+(1:Int)))) (i64.wrap (cL+(1:Int))) (i64.wrap (x5+(1:Int)))) else ((ix b5 v1).bind fun v6=>an.l1 m au bu x3 k (b5.set v1.toNat cL) cL (i64.wrap (x5+(1:Int))))) else ((ix b5 v1).bind fun v7=>an.l1 m au bu x3 k (b5.set v1.toNat cL) cL (i64.wrap (x5+(1:Int))))) else (some ((b5,cL,x5)))
def an.l4 (m:Nat)(bV:List Int)(v8:aa):Nat→(List Int)→Int→Option ((List Int) × Int)
 | 0,_,_=>none
 | k+1,k0,nR=>if (decide (nR<(v8.args.length:Int)))=true then ((ix v8.args nR).bind fun v10=>(ix bV v10).bind fun v11=>(ix k0 (i64.wrap (nR+(1:Int)))).bind fun v12=>an.l4 m bV v8 k (k0.set (i64.wrap (nR+(1:Int))).toNat (i64.wrap (v11+(1:Int)))) (i64.wrap (nR+(1:Int)))) else (some ((k0,nR)))
def an.l3 (m:Nat)(au:List aa)(bV:List Int):Nat→(List (List Int × Int))→(List Int)→Int→Option ((List (List Int × Int)) × (List Int) × Int)
 | 0,_,_,_=>none
 | k+1,dH,bW,x9=>if (decide (x9<(au.length:Int)))=true then ((ix au x9).bind fun v8=>(ix bV x9).bind fun v9=>(an.l4 m bV v8 m ([i64.wrap (v9+(1:Int)),(0:Int),(0:Int),(0:Int),(0:Int),(0:Int),(0:Int),(0:Int),(0:Int)]) (0:Int)).bind fun zu=>match zu with | (k1,FW)=>(Dd 9 dH k1).bind fun r0=>if (!r0.2)=true then ((HH 9 dH k1 (dH.length:Int)).bind fun FX=>(Dd 9 FX k1).bind fun r1=>(ix bW x9).bind fun FG=>an.l3 m au bV k FX (bW.set x9.toNat r1.1) (i64.wrap (x9+(1:Int)))) else ((Dd 9 dH k1).bind fun r2=>(ix bW x9).bind fun Ij=>an.l3 m au bV k dH (bW.set x9.toNat r2.1) (i64.wrap (x9+(1:Int))))) else (some ((dH,bW,x9)))
def an.l2 (m:Nat)(au:List aa):Nat→(List Int)→Int→Option (Sum (List Int) ((List Int) × Int))
 | 0,_,_=>none
 | k+1,bV,gy=>(qO 8 (au.length:Int) (0:Int)).bind fun x8=>(an.l3 m au bV m ([]:List (List Int × Int)) x8 (0:Int)).bind fun wI=>match wI with | (kM,fq,Ds)=>if ((kM.length:Int)==(i64.wrap (gy+(1:Int))))=true then (some (.inl bV)) else (an.l2 m au k fq (i64.wrap ((kM.length:Int) - (1:Int))))
def an.f (m:Nat)(au:List aa):Option ((List Int)):=(qO 8 (au.length:Int) (0:Int)).bind fun x0=>(an.l0 m x0 m x0 (0:Int)).bind fun bR=>match bR with | (bu,x2)=>(dy.f m bu (fun y0 y1=>ck.f m y0 y1 au)).bind fun x3=>(qO 8 (au.length:Int) (0:Int)).bind fun x4=>(an.l1 m au bu x3 m x4 (0:Int) (0:Int)).bind fun mb=>match mb with | (iT,many1,x7)=>(an.l2 m au m iT many1).bind fun Dt=>match Dt with | .inl r3=>some r3 | .inr (Du,Ik)=>none
def an.fin (L:Mem)(r:(List Int))(s:St):Prop:=∃av,aP Tryd.prog (s.open mh) Tryd.f67.results.toList=some av∧fT s.h av (af.fz r)
def MP (cf:CallF)(m:Nat):Prop:=∀(au:List aa) (r:(List Int)),an.f m au=some r→∀h xs,eO eV h xs [ae.fz au]→cf 67 xs h=some (af.fz r,h)
section
variable {cf:CallF}{m:Nat}
theorem an.cw (L:Mem)(au:List aa)(aL:Nat)(x0:List Int)   : cD Tryd.prog cf mh m (sub [1,1,0,1,0,0] (codeOf Tryd.f67)) (fun k (σ:(List Int) × Int)=>an.l0 m x0 k σ.1 σ.2) (fun σ s=>match σ with | (dC,x1)=>∃kN h2,s=⟨.any :: .ptr aL 0 :: .any :: .rs kN 0 dC.length 1::n9 (.int .i64 (x0.length:Int) :: .int .i64 x1::Fq []),[none],h2⟩∧Has h2 ((kN,.sl dC.length 1 (af.l dC))::(aL,.ob [ae.fz au])::L)) (fun out e s=>(e = .exit 0∧∃dC x1,(dC,x1)=out∧∃FK KG KH kN h2,s=⟨.any :: .ptr aL 0 :: .any :: .rs kN 0 dC.length 1::n9 (FK::KG::KH::Ka []),[none],h2⟩∧Has h2 ((kN,.sl dC.length 1 (af.l dC))::(aL,.ob [ae.fz au])::L))):=by
 refine jW (fun _=>rfl) ?_
 rintro k ⟨dC,x1⟩ s out ⟨kN,h2,rfl,o2⟩ H
 have H:an.l0 m x0 (k+1) dC x1=some out:=H
 refine q1 <| qq <| qc H (fun c0 H=>?_) (fun c0 H=>?_)
 ·refine qk <| qq <| qb 1 <| qq <| q0 ?_
  obtain⟨v0,e3,H⟩:=bb H
  obtain⟨h3,e4,o3⟩:=eR (P:=Tryd.prog) (tf:=3) (E:=af) (l:=dC) (q:=0) (v:=x1) (x:=.int .i64 x1) o2 rfl Z3 e3 rfl rfl
  exact qr [.v 3 (aY (k:=.i64) (E:=af) (l:=dC) (q:=0) fV o2 rfl e3),.w 4 e4] <| q0 <| ⟨(dC.set x1.toNat x1,i64.wrap (x1+(1:Int))),⟨kN,h3,(Eq.trans (b:=⟨.any :: .ptr aL 0 :: .any :: .rs kN 0 dC.length 1::n9 (.int .i64 (x0.length:Int) :: .int .i64 (i64.wrap (x1+(1:Int)))::Fq []),[none],h3⟩) (by kernel_rfl) (by simp only [Rb])),(by have o:Has h3 ((kN,.sl dC.length 1 (af.l (dC.set x1.toNat x1)))::(aL,.ob [ae.fz au])::L):=o3; simpa only [Rb] using o)⟩,H⟩
 ·exact qx 0 <| ⟨rfl,dC,x1,oi H,.int .i64 (x0.length:Int),.int .i64 x1,.bool (decide (x1<(x0.length:Int))),kN,h2,by kernel_rfl,o2⟩
theorem an.iS (L:Mem)(au:List aa)(aL:Nat)(iW:Nat)(bu:List Int)(iW:Nat)(x3:(List Int))  (uz:Ig cf m):cD Tryd.prog cf mh m (sub [1,1,1,1,1,1,0,1,0,0] (codeOf Tryd.f67)) (fun k (σ:(List Int) × Int × Int)=>an.l1 m au bu x3 k σ.1 σ.2.1 σ.2.2) (fun σ s=>match σ with | (b5,cL,x5)=>∃mF h7,s=⟨.any :: .ptr aL 0 :: .any :: .rs iW 0 bu.length 1 :: .any :: .rs mF 0 b5.length 1 :: .int .i64 cL::n9 (.rs iW 0 bu.length 1 :: .int .i64 (bu.length:Int) :: .int .i64 x5::pK []),[none],h7⟩∧Has h7 ((mF,.sl b5.length 1 (af.l b5))::(iW,.sl bu.length 1 (af.l x3))::(aL,.ob [ae.fz au])::L)) (fun out e s=>(e = .exit 2∧∃b5 cL x5,(b5,cL,x5)=out∧∃wo FY FZ F0 F3 mF h7,s=⟨.any :: .ptr aL 0 :: .any::wo :: .any :: .rs mF 0 b5.length 1 :: .int .i64 cL::n9 (FY::FZ::F0::F3::uf []),[none],h7⟩∧Has h7 ((mF,.sl b5.length 1 (af.l b5))::(iW,.sl bu.length 1 (af.l x3))::(aL,.ob [ae.fz au])::L))):=by
 refine jW (fun _=>rfl) ?_
 rintro k ⟨b5,cL,x5⟩ s out ⟨mF,h7,rfl,o7⟩ H
 have H:an.l1 m au bu x3 (k+1) b5 cL x5=some out:=H
 refine q1 <| qq <| qc H (fun c1 H=>?_) (fun c1 H=>?_)
 ·refine qk <| qq <| qb 3 <| qq ?_
  obtain⟨v1,xP,H⟩:=bb H
  refine qr [.v 1 (aY (k:=.i64) (E:=af) (l:=x3) (q:=1) fV o7 rfl xP),.v 2 (cp  (E:=af) (l:=x3) (q:=1) o7 rfl A3 xP rfl)] <| qq <| qq ?_
  rcases cO H with⟨c2,H⟩| ⟨c2,H⟩
  ·obtain⟨v2,Bl,H⟩:=bb H
   obtain⟨v3,Dn,H⟩:=bb H
   obtain⟨v4,Ed,H⟩:=bb H
   obtain⟨x6,Dr,H⟩:=bb H
   refine qr [.b 2 c2,.v 3 (show bg Tryd.prog h7 29 (.ptr aL 0)=some (ae.fz au) from b9 (q:=2) (cs:=[ae.fz au]) o7 rfl (by kernel_rfl)),.v 7 (aY (k:=.i64) (E:=af) (l:=x3) (q:=1) fV o7 rfl Bl),.v 8 (cp  (E:=af) (l:=x3) (q:=1) o7 rfl A3 Bl rfl),.v 9 (cH (k:=.i64) (E:=ae) (l:=au) oa Dn),.v 10 (gf  (E:=ae) (l:=au) h7 xF xG Dn),.v 11 (show bg Tryd.prog h7 29 (.ptr aL 0)=some (ae.fz au) from b9 (q:=2) (cs:=[ae.fz au]) o7 rfl (by kernel_rfl)),.v 13 (cH (k:=.i64) (E:=ae) (l:=au) oa Ed),.v 14 (gf  (E:=ae) (l:=au) h7 xF xG Ed),.a 15 (uz _ _ _ Dr h7 _ (eZ (ab (bw (ab (aM) (ab (aM) (ab (bJ) (ab (b7 (E:=af)) (aA)))))) (ab (bw (ab (aM) (ab (aM) (ab (bJ) (ab (b7 (E:=af)) (aA)))))) (aA)))))] ?_
   refine qc H (fun c3 H=>?_) (fun c3 H=>?_)
   ·refine q0 ?_
    obtain⟨v5,Dp,H⟩:=bb H
    obtain⟨h8,Ee,o8⟩:=eR (P:=Tryd.prog) (tf:=3) (E:=af) (l:=b5) (q:=0) (v:=(i64.wrap (cL+(1:Int)))) (x:=.int .i64 (i64.wrap (cL+(1:Int)))) o7 rfl Z3 Dp rfl rfl
    exact qr [.v 3 (aY (k:=.i64) (E:=af) (l:=b5) (q:=0) fV o7 rfl Dp),.w 4 Ee] <| q0 <| ⟨(b5.set v1.toNat (i64.wrap (cL+(1:Int))),i64.wrap (cL+(1:Int)),i64.wrap (x5+(1:Int))),⟨mF,h8,(Eq.trans (b:=⟨.any :: .ptr aL 0 :: .any :: .rs iW 0 bu.length 1 :: .any :: .rs mF 0 b5.length 1 :: .int .i64 (i64.wrap (cL+(1:Int)))::n9 (.rs iW 0 bu.length 1 :: .int .i64 (bu.length:Int) :: .int .i64 (i64.wrap (x5+(1:Int)))::pK []),[none],h8⟩) (by kernel_rfl) (by simp only [Rb])),(by have o:Has h8 ((mF,.sl b5.length 1 (af.l (b5.set v1.toNat (i64.wrap (cL+(1:Int))))))::(iW,.sl bu.length 1 (af.l x3))::(aL,.ob [ae.fz au])::L):=o8; simpa only [Rb] using o)⟩,H⟩
   ·refine qk ?_
    obtain⟨v6,FI,H⟩:=bb H
    obtain⟨h9,H2,o9⟩:=eR (P:=Tryd.prog) (tf:=3) (E:=af) (l:=b5) (q:=0) (v:=cL) (x:=.int .i64 cL) o7 rfl Z3 FI rfl rfl
    exact qr [.v 3 (aY (k:=.i64) (E:=af) (l:=b5) (q:=0) fV o7 rfl FI),.w 4 H2] <| q0 <| ⟨(b5.set v1.toNat cL,cL,i64.wrap (x5+(1:Int))),⟨mF,h9,(Eq.trans (b:=⟨.any :: .ptr aL 0 :: .any :: .rs iW 0 bu.length 1 :: .any :: .rs mF 0 b5.length 1 :: .int .i64 cL::n9 (.rs iW 0 bu.length 1 :: .int .i64 (bu.length:Int) :: .int .i64 (i64.wrap (x5+(1:Int)))::pK []),[none],h9⟩) (by kernel_rfl) (by simp only [Rb])),(by have o:Has h9 ((mF,.sl b5.length 1 (af.l (b5.set v1.toNat cL)))::(iW,.sl bu.length 1 (af.l x3))::(aL,.ob [ae.fz au])::L):=o9; simpa only [Rb] using o)⟩,H⟩
  ·refine qr [.b 2 c2] <| GK <| qk ?_
   obtain⟨v7,FJ,H⟩:=bb H
   obtain⟨h10,H3,CD⟩:=eR (P:=Tryd.prog) (tf:=3) (E:=af) (l:=b5) (q:=0) (v:=cL) (x:=.int .i64 cL) o7 rfl Z3 FJ rfl rfl
   exact qr [.v 3 (aY (k:=.i64) (E:=af) (l:=b5) (q:=0) fV o7 rfl FJ),.w 4 H3] <| q0 <| ⟨(b5.set v1.toNat cL,cL,i64.wrap (x5+(1:Int))),⟨mF,h10,(Eq.trans (b:=⟨.any :: .ptr aL 0 :: .any :: .rs iW 0 bu.length 1 :: .any :: .rs mF 0 b5.length 1 :: .int .i64 cL::n9 (.rs iW 0 bu.length 1 :: .int .i64 (bu.length:Int) :: .int .i64 (i64.wrap (x5+(1:Int)))::pK []),[none],h10⟩) (by kernel_rfl) (by simp only [Rb])),(by have o:Has h10 ((mF,.sl b5.length 1 (af.l (b5.set v1.toNat cL)))::(iW,.sl bu.length 1 (af.l x3))::(aL,.ob [ae.fz au])::L):=CD; simpa only [Rb] using o)⟩,H⟩
 ·exact qx 2 <| ⟨rfl,b5,cL,x5,oi H,.rs iW 0 bu.length 1,.rs iW 0 bu.length 1,.int .i64 (bu.length:Int),.int .i64 x5,.bool (decide (x5<(bu.length:Int))),mF,h7,(Eq.trans (b:=⟨.any :: .ptr aL 0 :: .any :: .rs iW 0 bu.length 1 :: .any :: .rs mF 0 b5.length 1 :: .int .i64 cL::n9 (.rs iW 0 bu.length 1 :: .int .i64 (bu.length:Int) :: .int .i64 x5 :: .bool (decide (x5<(bu.length:Int)))::uf []),[none],h7⟩) (by kernel_rfl) (by simp only [Rb])),(by have o:Has h7 ((mF,.sl b5.length 1 (af.l b5))::(iW,.sl bu.length 1 (af.l x3))::(aL,.ob [ae.fz au])::L):=o7; simpa only [Rb] using o)⟩
theorem an.Bn (L:Mem)(au:List aa)(aL:Nat)(iY:Nat)(bV:List Int)(gy:Int)(iY:Nat)(iq:Nat)(gB:Nat)(dH:List (List Int × Int))(bW:List Int)(x9:Int)(gB:Nat)(v8:aa)(ot:Nat)   : cD Tryd.prog cf mh m (sub [1,1,1,1,1,1,1,0,0,0,1,1,0,1,0,0,1,1,0,0,1,1,0,1,0,0] (codeOf Tryd.f67)) (fun k (σ:(List Int) × Int)=>an.l4 m bV v8 k σ.1 σ.2) (fun σ s=>match σ with | (k0,nR)=>∃h18,s=⟨.any :: .ptr aL 0::mD (.rs iY 0 bV.length 1 :: .int .i64 gy :: .any :: .any :: .mp iq :: .rs gB 0 bW.length 1 :: .int .i64 x9 :: .any :: .ptr ot 0::uf (ae.fz au :: .int .i64 (au.length:Int) :: .int .i64 x9 :: .any::af.fz v8.args :: .int .i64 (v8.args.length:Int) :: .int .i64 nR::mD [])),[none],h18⟩∧Has h18 ((ot,.sl 9 1 (af.l k0))::(gB,.sl bW.length 1 (af.l bW))::(iq,.mp (qP dH))::(iY,.sl bV.length 1 (af.l bV))::(aL,.ob [ae.fz au])::L)) (fun out e s=>(e = .exit 8∧∃k0 nR,(k0,nR)=out∧∃KI KJ KK KL h18,s=⟨.any :: .ptr aL 0::mD (.rs iY 0 bV.length 1 :: .int .i64 gy :: .any :: .any :: .mp iq :: .rs gB 0 bW.length 1 :: .int .i64 x9 :: .any :: .ptr ot 0::uf [ae.fz au,.int .i64 (au.length:Int),.int .i64 x9,.any,KI,KJ,KK,KL,.any,.any]),[none],h18⟩∧Has h18 ((ot,.sl 9 1 (af.l k0))::(gB,.sl bW.length 1 (af.l bW))::(iq,.mp (qP dH))::(iY,.sl bV.length 1 (af.l bV))::(aL,.ob [ae.fz au])::L))):=by
 refine jW (fun _=>rfl) ?_
 rintro k ⟨k0,nR⟩ s out ⟨h18,rfl,FN⟩ H
 have H:an.l4 m bV v8 (k+1) k0 nR=some out:=H
 refine q1 <| qq <| qc H (fun c6 H=>?_) (fun c6 H=>?_)
 ·refine qk <| qq <| qb 9 <| qq ?_
  obtain⟨v10,GS,H⟩:=bb H
  refine qr [.v 1 (cH (k:=.i64) (E:=af) (l:=v8.args) fV GS),.v 2 (fK  (E:=af) (l:=v8.args) h18 A3 GS rfl)] ?_
  obtain⟨v11,GQ,H⟩:=bb H
  obtain⟨v12,GR,H⟩:=bb H
  obtain⟨h19,GV,OM⟩:=eR (P:=Tryd.prog) (tf:=3) (E:=af) (l:=k0) (q:=0) (v:=(i64.wrap (v11+(1:Int)))) (x:=.int .i64 (i64.wrap (v11+(1:Int)))) FN rfl Z3 GR rfl rfl
  exact qr [.v 4 (aY (k:=.i64) (E:=af) (l:=bV) (q:=3) fV FN rfl GQ),.v 5 (cp  (E:=af) (l:=bV) (q:=3) FN rfl A3 GQ rfl),.v 7 (Fm (k:=.i64) (q:=0) (l:=k0) rM FN rfl GR),.w 8 GV] <| q0 <| ⟨(k0.set (i64.wrap (nR+(1:Int))).toNat (i64.wrap (v11+(1:Int))),i64.wrap (nR+(1:Int))),⟨h19,by kernel_rfl,OM⟩,H⟩
 ·exact qx 8 <| ⟨rfl,k0,nR,oi H,af.fz v8.args,.int .i64 (v8.args.length:Int),.int .i64 nR,.bool (decide (nR<(v8.args.length:Int))),h18,by kernel_rfl,FN⟩
theorem an.ux (L:Mem)(au:List aa)(aL:Nat)(iY:Nat)(bV:List Int)(gy:Int)(iY:Nat)(iq:Nat)   : cD Tryd.prog cf mh m (sub [1,1,1,1,1,1,1,0,0,0,1,1,0,1,0,0] (codeOf Tryd.f67)) (fun k (σ:(List (List Int × Int)) × (List Int) × Int)=>an.l3 m au bV k σ.1 σ.2.1 σ.2.2) (fun σ s=>match σ with | (dH,bW,x9)=>∃gB h15,s=⟨.any :: .ptr aL 0::mD (.rs iY 0 bV.length 1 :: .int .i64 gy :: .any :: .any :: .mp iq :: .rs gB 0 bW.length 1::sO (ae.fz au :: .int .i64 (au.length:Int) :: .int .i64 x9::Fp [])),[none],h15⟩∧Has h15 ((gB,.sl bW.length 1 (af.l bW))::(iq,.mp (qP dH))::(iY,.sl bV.length 1 (af.l bV))::(aL,.ob [ae.fz au])::L)) (fun out e s=>(e = .exit 6∧∃dH bW x9,(dH,bW,x9)=out∧∃KM KN KO KP gB h15,s=⟨.any :: .ptr aL 0::mD (.rs iY 0 bV.length 1 :: .int .i64 gy :: .any :: .any :: .mp iq :: .rs gB 0 bW.length 1::sO (KM::KN::KO::KP::Dg [])),[none],h15⟩∧Has h15 ((gB,.sl bW.length 1 (af.l bW))::(iq,.mp (qP dH))::(iY,.sl bV.length 1 (af.l bV))::(aL,.ob [ae.fz au])::L))):=by
 refine jW (fun _=>rfl) ?_
 rintro k ⟨dH,bW,x9⟩ s out ⟨gB,h15,rfl,zO⟩ H
 have H:an.l3 m au bV (k+1) dH bW x9=some out:=H
 refine q1 <| qq <| qc H (fun c5 H=>?_) (fun c5 H=>?_)
 ·refine qk <| qq <| qb 7 <| qq ?_
  obtain⟨v8,FL,H⟩:=bb H
  refine qr [.v 1 (cH (k:=.i64) (E:=ae) (l:=au) oa FL),.v 2 (gf  (E:=ae) (l:=au) h15 xF xG FL)] <| qq ?_
  obtain⟨v9,GU,H⟩:=bb H
  obtain⟨ot,h16,H8,H7⟩:=Df (cs:=[.int .i64 (0:Int),.int .i64 (0:Int),.int .i64 (0:Int),.int .i64 (0:Int),.int .i64 (0:Int),.int .i64 (0:Int),.int .i64 (0:Int),.int .i64 (0:Int),.int .i64 (0:Int)]) (l:=[(0:Int),(0:Int),(0:Int),(0:Int),(0:Int),(0:Int),(0:Int),(0:Int),(0:Int)]) zO (by kernel_rfl)
  obtain⟨h17,H6,FM⟩:=Fo (q:=0) (l:=([(0:Int),(0:Int),(0:Int),(0:Int),(0:Int),(0:Int),(0:Int),(0:Int),(0:Int)])) (l':=[i64.wrap (v9+(1:Int)),(0:Int),(0:Int),(0:Int),(0:Int),(0:Int),(0:Int),(0:Int),(0:Int)]) (x:=.agg [.int .i64 (i64.wrap (v9+(1:Int))),.int .i64 (0:Int),.int .i64 (0:Int),.int .i64 (0:Int),.int .i64 (0:Int),.int .i64 (0:Int),.int .i64 (0:Int),.int .i64 (0:Int),.int .i64 (0:Int)]) rM H7 rfl rfl rfl
  refine qr [.v 2 (aY (k:=.i64) (E:=af) (l:=bV) (q:=2) fV zO rfl GU),.v 3 (cp  (E:=af) (l:=bV) (q:=2) zO rfl A3 GU rfl),.a 6 H8,.w 7 H6] <| qq <| qq <| q0 <| qb 8 ?_
  obtain⟨zu,Il,H⟩:=bb H
  refine ql (an.Bn L au aL iY bV gy iY iq gB dH bW x9 gB v8 ot   ([i64.wrap (v9+(1:Int)),(0:Int),(0:Int),(0:Int),(0:Int),(0:Int),(0:Int),(0:Int),(0:Int)],(0:Int)) _ _ ⟨h17,by kernel_rfl,FM⟩ Il) ?_
  rintro e s ⟨rfl,k1,FW,rfl,g13,g14,g15,g16,h20,rfl,Dv⟩
  try dsimp only at H
  refine qq <| qq ?_
  obtain⟨r0,KQ,H⟩:=bb H
  refine qr [.v 1 (show bg Tryd.prog h20 116 (.ptr ot 0)=some (.agg (af.l k1)) from sM (q:=0) (l:=k1) rM Dv rfl),.v 2 (show dO Tryd.prog h20 114 (.mp iq) (.agg (af.l k1)) true=some (.tup [.int .i64 r0.1,.bool r0.2]) from (Fk (q:=2) (l:=dH) (k:=k1) xH Dv rfl KQ).1)] <| qq <| q0 <| qc H (fun c7 H=>?_) (fun c7 H=>?_)
  ·obtain⟨FX,ON,H⟩:=bb H
   obtain⟨h21,OO,I9⟩:=J9 (q:=2) (l:=dH) (k:=k1) (v:=(dH.length:Int)) xH Dv rfl ON
   refine qr [.v 1 (show bg Tryd.prog h20 116 (.ptr ot 0)=some (.agg (af.l k1)) from sM (q:=0) (l:=k1) rM Dv rfl),.v 3 (show oQ Tryd.prog h20 114 (.mp iq)=some (.int .i64 (dH.length:Int)) from Fl (q:=2) (l:=dH) Ba Dv rfl),.w 4 OO] ?_
   obtain⟨r1,OP,H⟩:=bb H
   obtain⟨FG,MQ,H⟩:=bb H
   obtain⟨h22,OQ,OR⟩:=eR (P:=Tryd.prog) (tf:=3) (E:=af) (l:=bW) (q:=1) (v:=r1.1) (x:=.int .i64 r1.1) I9 rfl Z3 MQ rfl rfl
   refine qr [.v 3 (show bg Tryd.prog h21 116 (.ptr ot 0)=some (.agg (af.l k1)) from sM (q:=0) (l:=k1) rM I9 rfl),.v 4 (show dO Tryd.prog h21 114 (.mp iq) (.agg (af.l k1)) false=some (.int .i64 r1.1) from (Fk (q:=2) (l:=FX) (k:=k1) xH I9 rfl OP).2),.v 5 (aY (k:=.i64) (E:=af) (l:=bW) (q:=1) fV I9 rfl MQ),.w 6 OQ] ?_
   have OS:Has h22 ((gB,.sl bW.length 1 (af.l (bW.set x9.toNat r1.1)))::(iq,.mp (qP FX))::(iY,.sl bV.length 1 (af.l bV))::(aL,.ob [ae.fz au])::L):=Has.del OR 0
   exact q0 <| ⟨(FX,bW.set x9.toNat r1.1,i64.wrap (x9+(1:Int))),⟨gB,h22,(Eq.trans (b:=⟨.any :: .ptr aL 0::mD (.rs iY 0 bV.length 1 :: .int .i64 gy :: .any :: .any :: .mp iq :: .rs gB 0 bW.length 1::sO (ae.fz au :: .int .i64 (au.length:Int) :: .int .i64 (i64.wrap (x9+(1:Int)))::Fp [])),[none],h22⟩) (by kernel_rfl) (by simp only [Rb])),(by have o:Has h22 ((gB,.sl bW.length 1 (af.l (bW.set x9.toNat r1.1)))::(iq,.mp (qP FX))::(iY,.sl bV.length 1 (af.l bV))::(aL,.ob [ae.fz au])::L):=OS; simpa only [Rb] using o)⟩,H⟩
  ·refine qk ?_
   obtain⟨r2,OU,H⟩:=bb H
   obtain⟨Ij,MR,H⟩:=bb H
   obtain⟨h23,OV,OW⟩:=eR (P:=Tryd.prog) (tf:=3) (E:=af) (l:=bW) (q:=1) (v:=r2.1) (x:=.int .i64 r2.1) Dv rfl Z3 MR rfl rfl
   refine qr [.v 3 (show bg Tryd.prog h20 116 (.ptr ot 0)=some (.agg (af.l k1)) from sM (q:=0) (l:=k1) rM Dv rfl),.v 4 (show dO Tryd.prog h20 114 (.mp iq) (.agg (af.l k1)) false=some (.int .i64 r2.1) from (Fk (q:=2) (l:=dH) (k:=k1) xH Dv rfl OU).2),.v 5 (aY (k:=.i64) (E:=af) (l:=bW) (q:=1) fV Dv rfl MR),.w 6 OV] ?_
   have OX:Has h23 ((gB,.sl bW.length 1 (af.l (bW.set x9.toNat r2.1)))::(iq,.mp (qP dH))::(iY,.sl bV.length 1 (af.l bV))::(aL,.ob [ae.fz au])::L):=Has.del OW 0
   exact q0 <| ⟨(dH,bW.set x9.toNat r2.1,i64.wrap (x9+(1:Int))),⟨gB,h23,(Eq.trans (b:=⟨.any :: .ptr aL 0::mD (.rs iY 0 bV.length 1 :: .int .i64 gy :: .any :: .any :: .mp iq :: .rs gB 0 bW.length 1::sO (ae.fz au :: .int .i64 (au.length:Int) :: .int .i64 (i64.wrap (x9+(1:Int)))::Fp [])),[none],h23⟩) (by kernel_rfl) (by simp only [Rb])),(by have o:Has h23 ((gB,.sl bW.length 1 (af.l (bW.set x9.toNat r2.1)))::(iq,.mp (qP dH))::(iY,.sl bV.length 1 (af.l bV))::(aL,.ob [ae.fz au])::L):=OX; simpa only [Rb] using o)⟩,H⟩
 ·exact qx 6 <| ⟨rfl,dH,bW,x9,oi H,ae.fz au,.int .i64 (au.length:Int),.int .i64 x9,.bool (decide (x9<(au.length:Int))),gB,h15,by kernel_rfl,zO⟩
theorem an.qd (L:Mem)(au:List aa)(aL:Nat)   : cD Tryd.prog cf mh m (sub [1,1,1,1,1,1,1,0,0] (codeOf Tryd.f67)) (fun k (σ:(List Int) × Int)=>an.l2 m au k σ.1 σ.2) (fun σ s=>match σ with | (bV,gy)=>∃g8 g9 g10 g11 g12 iY h12,s=⟨.any :: .ptr aL 0 :: .any::g8 :: .any :: .rs iY 0 bV.length 1 :: .int .i64 gy::n9 (g9::g10::g11::g12::uf []),[none],h12⟩∧Has h12 ((iY,.sl bV.length 1 (af.l bV))::(aL,.ob [ae.fz au])::L)) (fun out e s=>(e = .exit 4∧∃bV gy,.inr (bV,gy)=out∧∃qS wo Dw FU FY FZ F0 F3 iY h12,s=⟨.any::qS :: .any::wo :: .any::Dw::FU::n9 (FY::FZ::F0::F3::uf []),[none],h12⟩∧Has h12 ((iY,.sl bV.length 1 (af.l bV))::(aL,.ob [ae.fz au])::L))∨(e = .ret∧∃r,.inl r=out∧an.fin L r s)):=by
 refine jW (fun _=>rfl) ?_
 rintro k ⟨bV,gy⟩ s out ⟨g8,g9,g10,g11,g12,iY,h12,rfl,wv⟩ H
 have H:an.l2 m au (k+1) bV gy=some out:=H
 refine qb 5 <| qq ?_
 obtain⟨iq,h13,zq,CE⟩:=AU wv
 refine qr [.m 0 zq] <| qq ?_
 obtain⟨x8,Dq,H⟩:=bb H
 obtain⟨KR,h14,Ef,FE⟩:=vZ (P:=Tryd.prog) (E:=af) (z:=(0:Int)) (zv:=.int .i64 (0:Int)) fV CE 3 rfl rfl rfl rfl Dq
 refine qr [.v 0 (show bg Tryd.prog h13 29 (.ptr aL 0)=some (ae.fz au) from b9 (q:=2) (cs:=[ae.fz au]) CE rfl (by kernel_rfl)),.a 2 Ef] <| qq <| qq <| qr [.v 0 (show bg Tryd.prog h14 29 (.ptr aL 0)=some (ae.fz au) from b9 (q:=3) (cs:=[ae.fz au]) FE rfl (by kernel_rfl))] <| qb 6 ?_
 obtain⟨wI,OY,H⟩:=bb H
 refine ql (an.ux L au aL iY bV gy iY iq   (([]:List (List Int × Int)),x8,(0:Int)) _ _ ⟨KR,h14,by kernel_rfl,FE⟩ OY) ?_
 rintro e s ⟨rfl,kM,fq,Ds,rfl,g17,g18,g19,g20,Bw,h24,rfl,Ja⟩
 try dsimp only at H
 refine qq <| qq <| qr [.v 1 (show oQ Tryd.prog h24 114 (.mp iq)=some (.int .i64 (kM.length:Int)) from Fl (q:=1) (l:=kM) Ba Ja rfl)] <| qc H (fun c8 H=>?_) (fun c8 H=>?_)
 ·refine q1 ?_
  have OZ:Has h24 ((Bw,.sl fq.length 1 (af.l fq))::(iq,.mp (qP kM))::(iY,.sl bV.length 1 (af.l bV))::L):=Has.del Ja 3
  have O0:Has h24 ((Bw,.sl fq.length 1 (af.l fq))::(iY,.sl bV.length 1 (af.l bV))::L):=Has.del OZ 1
  have O3:Has h24 ((iY,.sl bV.length 1 (af.l bV))::L):=Has.del O0 0
  exact qt <| Sa (⟨rfl,_,oi H,bD (.rs iY 0 bV.length 1) h24 (bB (HG (E:=af) (l:=bV) (q:=0) O3 rfl (fun _=>rfl)))⟩)
 ·refine qk <| qr [.v 2 (show oQ Tryd.prog h24 114 (.mp iq)=some (.int .i64 (kM.length:Int)) from Fl (q:=1) (l:=kM) Ba Ja rfl)] ?_
  have O4:Has h24 ((Bw,.sl fq.length 1 (af.l fq))::(iq,.mp (qP kM))::(aL,.ob [ae.fz au])::L):=Has.del Ja 2
  have O5:Has h24 ((Bw,.sl fq.length 1 (af.l fq))::(aL,.ob [ae.fz au])::L):=Has.del O4 1
  exact⟨(fq,i64.wrap ((kM.length:Int) - (1:Int))),⟨.any,.any,.any,.any,.any,Bw,h24,by kernel_rfl,O5⟩,H⟩
theorem mi {a7:FuncId→ca}(ha:a7 67=mh)(uz:Ig cf m)(KS:MJ cf m)(KT:MO cf m)(au:List aa)(h:AHeap)(L:Mem)  (o:Has h (L)){out:(List Int)}(H:an.f m au=some out) :
  ∃r h',bf Tryd.prog a7 cf m 67 [ae.fz au] h=some (r,h')∧fT h' r (af.fz out):=by
 refine aq (fn:=Tryd.f67) ha Tryd.func67 (by kernel_rfl) (by kernel_rfl) ?_
 refine aQ (Q:=fun s=>an.fin L out s) (fun _ _ h=>h) ?_
 have H:_=some out:=H
 unfold an.f at H
 show cX _ cf mh m _ ⟨ae.fz au::Ki [],[none],h⟩ _
 refine qq ?_
 obtain⟨aL,h0,e0,o0⟩:=jV (cs:=[ae.fz au]) o (by kernel_rfl)
 refine qr [.a 0 e0] <| qq ?_
 obtain⟨x0,e1,H⟩:=bb H
 obtain⟨rP,h1,e2,o1⟩:=vZ (P:=Tryd.prog) (E:=af) (z:=(0:Int)) (zv:=.int .i64 (0:Int)) fV o0 3 rfl rfl rfl rfl e1
 refine qr [.v 0 (show bg Tryd.prog h0 29 (.ptr aL 0)=some (ae.fz au) from b9 (q:=0) (cs:=[ae.fz au]) o0 rfl (by kernel_rfl)),.a 2 e2] <| qq <| qq <| q0 <| qb 0 ?_
 obtain⟨bR,e5,H⟩:=bb H
 refine ql (an.cw L au aL x0   (x0,(0:Int)) _ _ ⟨rP,h1,by kernel_rfl,o1⟩ e5) ?_
 rintro e s ⟨rfl,bu,x2,rfl,g0,g1,g2,iW,h4,rfl,o4⟩
 try dsimp only at H
 refine qq ?_
 obtain⟨x3,e6,H⟩:=bb H
 obtain⟨h5,e7,o5⟩:=KS _ _ _ e6 h4 _ _ _ (o4) 85 [.ptr aL 0] rfl (fun h' K' o' y0 y1 r hr=>KT y0 y1 _ r hr h' _ (K'.length+0) _ o' (Fj rfl)) [.rs iW 0 bu.length 1,.fn 85 [.ptr aL 0]] (ao (rfl) (ao (rfl) (cq)))
 refine qr [.a 2 e7] <| qq ?_
 obtain⟨x4,e8,H⟩:=bb H
 obtain⟨ng,h6,e9,o6⟩:=vZ (P:=Tryd.prog) (E:=af) (z:=(0:Int)) (zv:=.int .i64 (0:Int)) fV o5 3 rfl rfl rfl rfl e8
 refine qr [.v 0 (show bg Tryd.prog h5 29 (.ptr aL 0)=some (ae.fz au) from b9 (q:=1) (cs:=[ae.fz au]) o5 rfl (by kernel_rfl)),.a 2 e9] <| qq <| q0 <| qq <| qq <| q0 <| qb 2 ?_
 obtain⟨mb,GP,H⟩:=bb H
 refine ql (an.iS L au aL iW bu iW x3  uz (x4,(0:Int),(0:Int)) _ _ ⟨ng,h6,(Eq.trans (b:=⟨.any :: .ptr aL 0 :: .any :: .rs iW 0 bu.length 1 :: .any :: .rs ng 0 x4.length 1 :: .int .i64 (0:Int)::n9 (.rs iW 0 bu.length 1 :: .int .i64 (bu.length:Int) :: .int .i64 (0:Int)::pK []),[none],h6⟩) (by kernel_rfl) (by simp only [Rb])),(by have o:Has h6 ((ng,.sl x4.length 1 (af.l x4))::(iW,.sl bu.length 1 (af.l x3))::(aL,.ob [ae.fz au])::L):=o6; simpa only [Rb] using o)⟩ GP) ?_
 rintro e s ⟨rfl,iT,many1,x7,rfl,g3,g4,g5,g6,g7,nh,h11,rfl,Eb⟩
 try dsimp only at H
 refine qb 4 ?_
 have Ec:Has h11 ((nh,.sl iT.length 1 (af.l iT))::(aL,.ob [ae.fz au])::L):=Has.del Eb 1
 obtain⟨Dt,O6,H⟩:=bb H
 refine ql (an.qd L au aL   (iT,many1) _ _ ⟨g3,g4,g5,g6,g7,nh,h11,by kernel_rfl,Ec⟩ O6) ?_
 rintro e s (⟨rfl,Du,Ik,rfl,g21,g22,g23,g24,QA,QB,QC,QD,O7,h25,rfl,QE⟩| ⟨rfl,r3,rfl,pW⟩)
 ·try dsimp only at H
  cases H
 ·try dsimp only at H
  obtain rfl:=oi H
  exact⟨.inl rfl,pW⟩
end
end Go.Proofs.YtmekcfdllhphlaaDoor
namespace Go.Proofs.YtmekcfdllhphlaaDoor
open Go Go.R
open Go.IntKind (i64 u64 u8 u32)
def key (out:List Int)(n:aa)(i:Nat):List Int:=(gt out i+1)::((n.args.map fun a=>gt out a.toNat+1)++Rc (8 - n.args.length) 0)
def enum:List (List Int)→Nat→List (List Int × Int)
 | [],_=>[]
 | k::ks,s=>(k,(s:Int))::enum ks (s+1)
theorem j4:∀(ks:List (List Int)) (s:Nat),(enum ks s).length=ks.length
 | [],_=>rfl
 | k::ks,s=>by simp [enum,j4 ks]
theorem qg:∀(ks:List (List Int)) (s:Nat) (k:List Int),pG (enum ks s) k=if k∈ks then (((s+ks.idxOf k:Nat):Int),true) else (0,false)
 | [],s,k=>rfl
 | a::ks,s,k=>by
  simp only [enum,pG,qg ks (s+1) k,Rt,List.idxOf_cons]
  by_cases h:k=a
  ·subst h; simp
  ·have h':(a==k)=false:=by simpa using fun z:a=k=>h z.symm
   rw [if_neg h,h']
   by_cases h2:k∈ks
   ·simp only [h2,if_true,or_true,cond_false]
    simp only [QV,and_true]
    omega
   ·simp [h2,h]
theorem uB:∀(ks:List (List Int)) (s:Nat) (k:List Int),k∉ks→wi (enum ks s) k ((s+ks.length:Nat):Int)=enum (ks++[k]) s
 | [],s,k,_=>rfl
 | a::ks,s,k,h=>by
  have h1:k≠a:=fun z=>h (by simp [z])
  have h2:k∉ks:=fun z=>h (by simp [z])
  simp only [enum,wi,Ru,if_neg h1,RA]
  rw [show s+(ks.length+1)=s+1+ks.length by omega,uB ks (s+1) k h2]
theorem ku {n:Nat}:∀(ks:List (List Int)) (s:Nat) (k:List Int),k.length=n→(∀a∈ks,a.length=n)→pF n (enum ks s) k=true
 | [],s,k,h,_=>by simp [pF,enum,h]
 | a::ks,s,k,h,h2=>by
  have:=ku ks (s+1) k h fun a ha=>h2 a (by simp [ha])
  simp only [pF,QR,beq_iff_eq,h,true_and] at this ⊢
  simp only [enum,RL,QR,beq_iff_eq]
  exact⟨h2 a (by simp),this⟩
structure Part (n:Nat)(out:List Int)(many:Nat):Prop where
 len:out.length=n
 jx:∀i,i<n→0≤gt out i∧gt out i≤many
 MS:∀v:Nat,v≤many→∃i,i<n∧gt out i=v
structure ni (l:List aa)(out:List Int)(p:Nat)(ks:List (List Int)):Prop where
 CF:ks.Nodup
 mem:∀k,k∈ks↔∃i,i<p∧key out (nd l i) i=k
def iD (l:List aa):Prop:=l.length≤8000∧∀n∈l,n.args.length≤8∧∀a∈n.args,0≤a∧a<l.length
theorem Dx {a:Int}{L:List Int}{t:Nat}{v:Int}(hL:L.length=t)(ht:t<8):(a::(L++Rc (8 - t) 0)).set (t+1) v=a::((L++[v])++Rc (8 - (t+1)) 0):=by
 rw [List.set_cons_succ,Sv _ _ (by omega),hL,Sf,show 8 - t=(8 - (t+1))+1 by omega,List.replicate_succ,List.set_cons_zero,Rm]
 rfl
theorem Bx {m:Nat}{out:List Int}{n:aa}(h8:n.args.length≤8)(ha:∀a∈n.args,0≤a∧a<out.length)(ho:∀i,i<out.length→0≤gt out i∧gt out i<2 ^ 40)(o:Int):∀(f t:Nat),n.args.length - t<f→t≤n.args.length→
  ∃x,an.l4 m out n f (o::(((n.args.take t).map fun a=>gt out a.toNat+1)++Rc (8 - t) 0)) (t:Int)=some (o::((n.args.map fun a=>gt out a.toNat+1)++Rc (8 - n.args.length) 0),x)
 | 0,t,hf,_=>absurd hf (by omega)
 | f+1,t,hf,ht=>by
  have pS:(2:Nat) ^ 40=1099511627776:=by decide
  have i40:(2:Int) ^ 40=1099511627776:=by decide
  unfold an.l4
  by_cases h:t<n.args.length
  ·have hx:ix n.args (t:Int)=some (gt n.args t):=bH h
   obtain⟨b0,b1⟩:=ha _ (aE h)
   obtain⟨c0,c1⟩:=ho (gt n.args t).toNat (by omega)
   have hy:ix out (gt n.args t)=some (gt out (gt n.args t).toNat):=ef (by omega) (by omega)
   have e1:i64.wrap ((t:Int)+1)=((t+1:Nat):Int):=by rw [aD (by omega) (by omega)]; omega
   have hT:((n.args.take t).map fun a=>gt out a.toNat+1).length=t:=by simp; omega
   have hz:∃z,ix (o::(((n.args.take t).map fun a=>gt out a.toNat+1)++Rc (8 - t) 0)) ((t+1:Nat):Int)=some z:=⟨_,bH (by simp; omega)⟩
   obtain⟨z,hz⟩:=hz
   obtain⟨x,ih⟩:=Bx (m:=m) h8 ha ho o f (t+1) (by omega) (by omega)
   have hT1:n.args.take (t+1)=n.args.take t++[gt n.args t]:=by rw [RU,aV h]; rfl
   rw [hT1,Ri] at ih
   rw [if_pos (by simp only [decide_eq_true_eq]; omega),hx,QM,hy,QM,e1,hz,QM,QT,aD (x:=gt out (gt n.args t).toNat+1) (by omega) (by omega),Dx hT (by omega)]
   exact⟨x,ih⟩
  ·have:t=n.args.length:=by omega
   subst this
   exact⟨_,by rw [if_neg (by simp),RV]⟩
theorem qh {out:List Int}{n:aa}{i:Nat}(h8:n.args.length≤8):(key out n i).length=9:=by simp [key]; omega
theorem rQ {l:List aa}(ok:iD l){i:Nat}(h:i<l.length):(nd l i).args.length≤8∧∀a∈(nd l i).args,0≤a∧a<l.length:=ok.2 _ (dq (by omega) (by omega))
theorem wJ {m:Nat}(hm:2 ^ 30≤m){l:List aa}{out:List Int}{many:Nat}(ok:iD l)(P:Part l.length out many)(Ei:many<2 ^ 30):∀(f p:Nat) (ks:List (List Int)) (next:List Int),l.length - p<f→p≤l.length→ni l out p ks→next.length=l.length→
  (∀i,i<p→gt next i=(ks.idxOf (key out (nd l i) i):Int))→
  ∃KU next' x,an.l3 m l out f (enum ks 0) next (p:Int)=some (enum KU 0,next',x)∧ni l out l.length KU∧next'.length=l.length∧∀i,i<l.length→gt next' i=(KU.idxOf (key out (nd l i) i):Int)
 | 0,p,ks,next,hf,_,_,_,_=>absurd hf (by omega)
 | f+1,p,ks,next,hf,hp,K,hn,hg=>by
  have lz:(2:Nat) ^ 30=1073741824:=by decide
  have pS:(2:Nat) ^ 40=1099511627776:=by decide
  have i40:(2:Int) ^ 40=1099511627776:=by decide
  have h8000:=ok.1
  have CT:=P.len
  unfold an.l3
  by_cases h:p<l.length
  ·obtain⟨n1,n2⟩:=rQ ok h
   obtain⟨r0,r1⟩:=P.jx p h
   have e1:i64.wrap ((p:Int)+1)=((p+1:Nat):Int):=by rw [aD (by omega) (by omega)]; omega
   obtain⟨x,hk⟩:=Bx (m:=m) (out:=out) (n:=nd l p) n1 (by rw [CT]; exact n2) (fun i hi=>by have:=P.jx i (by omega); omega) (gt out p+1) m 0 (by omega) (by omega)
   have hk:an.l4 m out (nd l p) m [gt out p+1,0,0,0,0,0,0,0,0] 0=some (key out (nd l p) p,x):=hk
   have Jb:=qh (out:=out) (i:=p) n1
   have vJ:∀a∈ks,a.length=9:=fun a ha=>by
    obtain⟨i,hi,rfl⟩:=(K.mem a).1 ha
    exact qh (rQ ok (by omega)).1
   have Im:∃z,ix next (p:Int)=some z:=⟨_,bH (by omega)⟩
   obtain⟨z,hz⟩:=Im
   rw [if_pos (by simp only [decide_eq_true_eq]; omega),eX (by omega) (by omega),QM,bH (by omega),QM,aD (x:=gt out p+1) (by omega) (by omega),hk,QM]
   dsimp only
   have hG:Dd 9 (enum ks 0) (key out (nd l p) p)=some (if key out (nd l p) p∈ks then (((ks.idxOf (key out (nd l p) p):Nat):Int),true) else (0,false)):=by
    unfold Dd; rw [if_pos (ku _ _ _ Jb vJ),qg,Re]
   rw [hG,QM,e1,hz]
   by_cases hin:key out (nd l p) p∈ks
   ·rw [if_pos hin,if_neg (by simp),QM,QM,QT]
    refine wJ hm ok P Ei f (p+1) ks _ (by omega) (by omega) ⟨K.CF,fun k=>⟨fun hk=>?_,fun ⟨i,hi,mR⟩=>?_⟩⟩ (by simpa using hn) (fun i hi=>?_)
    ·obtain⟨i,hi,h⟩:=(K.mem k).1 hk; exact⟨i,by omega,h⟩
    ·by_cases Dy:i=p
     ·subst Dy; rw [←mR]; exact hin
     ·exact (K.mem k).2 ⟨i,by omega,mR⟩
    ·rw [cR (by omega)]
     by_cases Dy:i=p
     ·subst Dy; rw [if_pos rfl]
     ·rw [if_neg Dy]; exact hg i (by omega)
   ·have hS:HH 9 (enum ks 0) (key out (nd l p) p) (((enum ks 0).length:Nat):Int)=some (enum (ks++[key out (nd l p) p]) 0):=by
     unfold HH; rw [if_pos (ku _ _ _ Jb vJ),j4]
     have:=uB ks 0 _ hin
     rw [Re] at this
     rw [this]
    have hid:(ks++[key out (nd l p) p]).idxOf (key out (nd l p) p)=ks.length:=by
     rw [RZ,if_neg hin,List.idxOf_cons_self,Re]
    have O8:Dd 9 (enum (ks++[key out (nd l p) p]) 0) (key out (nd l p) p)=some (((ks.length:Nat):Int),true):=by
     unfold Dd
     rw [if_pos (ku _ _ _ Jb (fun a ha=>by rcases Q7.1 ha with ha | ha; exact vJ a ha; simp only [QY] at ha; rw [ha]; exact Jb)),qg,if_pos (by simp),Re,hid]
    rw [if_neg hin,if_pos (by simp),hS,QM,O8,QM,QM,QT]
    refine wJ hm ok P Ei f (p+1) (ks++[key out (nd l p) p]) _ (by omega) (by omega) ⟨?_,fun k=>⟨fun hk=>?_,fun ⟨i,hi,mR⟩=>?_⟩⟩ (by simpa using hn) (fun i hi=>?_)
    ·rw [R0]
     refine⟨K.CF,by simp,fun a ha b hb=>?_⟩
     simp only [QY] at hb
     subst hb; intro e; subst e; exact hin ha
    ·rcases Q7.1 hk with hk | hk
     ·obtain⟨i,hi,h⟩:=(K.mem k).1 hk; exact⟨i,by omega,h⟩
     ·simp only [QY] at hk; exact⟨p,by omega,hk.symm⟩
    ·by_cases Dy:i=p
     ·subst Dy; rw [←mR]; simp
     ·exact Rx _ ((K.mem k).2 ⟨i,by omega,mR⟩)
    ·rw [cR (by omega)]
     by_cases Dy:i=p
     ·subst Dy; rw [if_pos rfl,hid]
     ·rw [if_neg Dy,RZ,if_pos ((K.mem _).2 ⟨i,by omega,rfl⟩)]; exact hg i (by omega)
  ·have:p=l.length:=by omega
   subst this
   exact⟨ks,next,_,by rw [if_neg (by simp)],K,hn,hg⟩
theorem Dz {l:List aa}{out:List Int}{ks:List (List Int)}(K:ni l out l.length ks):ks.length≤l.length:=by
 have:=K.CF.length_le_of_subset (l₂:=(SC l.length).map fun i:Nat=>key out (nd l i) i) (fun k hk=>by
  obtain⟨i,hi,h⟩:=(K.mem k).1 hk
  exact Rj.2 ⟨i,List.mem_range.2 hi,h⟩)
 simpa using this
theorem xZ {l:List aa}{out:List Int}{many:Nat}{ks:List (List Int)}(P:Part l.length out many)(K:ni l out l.length ks):many+1≤ks.length:=by
 have hn:((SC (many+1)).map fun v:Nat=>((v:Int)+1)).Nodup:=by
  unfold List.Nodup
  rw [List.pairwise_map]
  exact List.Pairwise.imp (fun h=>by omega) List.nodup_range
 have:=hn.length_le_of_subset (l₂:=ks.map fun k=>k.headD 0) (fun x hx=>by
  obtain⟨v,hv,rfl⟩:=Rj.1 hx
  obtain⟨i,hi,h⟩:=P.MS v (by have:=List.mem_range.1 hv; omega)
  exact Rj.2 ⟨_,(K.mem _).2 ⟨i,hi,rfl⟩,by simp [key,h]⟩)
 simpa using this
theorem zw {l:List aa}{out next:List Int}{many:Nat}{ks:List (List Int)}(P:Part l.length out many)(K:ni l out l.length ks)(hn:next.length=l.length)(hg:∀i,i<l.length→gt next i=(ks.idxOf (key out (nd l i) i):Int)):Part l.length next (ks.length - 1):=by
 have:=xZ P K
 refine⟨hn,fun i hi=>?_,fun v hv=>?_⟩
 ·have:=RR ((K.mem _).2 ⟨i,hi,rfl⟩)
  rw [hg i hi]; omega
 ·have hv:v<ks.length:=by omega
  obtain⟨i,hi,h⟩:=(K.mem _).1 (RW hv)
  refine⟨i,hi,?_⟩
  rw [hg i hi,h,K.CF.idxOf_getElem]
theorem By {m:Nat}(hm:2 ^ 30≤m){l:List aa}(ok:iD l)(Inv:List Int→Prop)
  (hI:∀out many ks next,Part l.length out many→Inv out→ni l out l.length ks→next.length=l.length→(∀i,i<l.length→gt next i=(ks.idxOf (key out (nd l i) i):Int))→Inv next):∀(f:Nat) (out:List Int) (many:Nat),l.length - many<f→many<l.length→Part l.length out many→Inv out→
  ∃r Ej ks,an.l2 m l f out (many:Int)=some (.inl r)∧Part l.length r Ej∧Inv r∧ni l r l.length ks∧ks.length=Ej+1
 | 0,out,many,hf,_,_,_=>absurd hf (by omega)
 | f+1,out,many,hf,hlt,P,I=>by
  have lz:(2:Nat) ^ 30=1073741824:=by decide
  have h8000:=ok.1
  unfold an.l2
  have e0:qO 8 (l.length:Int) (0:Int)=some (Rc l.length 0):=by unfold qO; rw [if_pos ⟨by omega,by rw [QT]; omega⟩,QT]
  obtain⟨ks,next,x,h1,K,hn,hg⟩:=wJ hm ok P (by omega) m 0 [] (Rc l.length 0) (by omega) (by omega) ⟨by simp,fun k=>⟨fun h=>by simp at h,fun ⟨i,hi,_⟩=>absurd hi (by omega)⟩⟩ (by simp) (fun i hi=>absurd hi (by omega))
  have h1:an.l3 m l out m [] (Rc l.length 0) 0=_:=h1
  have g1:=Dz K
  have g2:=xZ P K
  rw [e0,QM,h1,QM]
  dsimp only
  rw [j4,aD (x:=(many:Int)+1) (by omega) (by omega),aD (x:=(ks.length:Int) - 1) (by omega) (by omega)]
  by_cases h:ks.length=many+1
  ·rw [if_pos (by simp; omega)]
   exact⟨out,many,ks,rfl,P,I,K,h⟩
  ·rw [if_neg (by simp; omega),show (ks.length:Int) - 1=((ks.length - 1:Nat):Int) by omega]
   exact By hm ok Inv hI f next (ks.length - 1) (by omega) (by omega) (zw P K hn hg) (hI _ _ _ _ P I K hn hg)
end Go.Proofs.YtmekcfdllhphlaaDoor
namespace Go.Proofs.YtmekcfdllhphlaaDoor
open Go Go.R
open Go.IntKind (i64 u64 u8 u32)
def ints (n:Nat):List Int:=(SC n).map fun k:Nat=>(k:Int)
theorem cJ (n:Nat):(ints n).length=n:=by simp [ints]
theorem DA {n k:Nat}(h:k<n):gt (ints n) k=k:=by
 have h1:=aV (l:=ints n) (k:=k) (by rw [cJ]; exact h)
 have h2:(ints n)[k]? = some (k:Int):=by
  unfold ints
  rw [Rk,QZ (by simpa using h)]
  simp
 rw [h2] at h1; exact (Rf h1).symm
theorem fP {n:Nat}{x:Int}:x∈ints n↔0≤x∧x<n:=by
 unfold ints
 rw [Rj]
 constructor
 ·rintro⟨k,hk,rfl⟩; have:=List.mem_range.1 hk; omega
 ·intro h; exact⟨x.toNat,List.mem_range.2 (by omega),by omega⟩
theorem wK (n:Nat):(ints n).Nodup:=by
 unfold ints List.Nodup
 rw [List.pairwise_map]
 exact List.Pairwise.imp (fun h=>by omega) List.nodup_range
theorem qi {l:List Int}(h:l.Nodup){i j:Nat}(hi:i<l.length)(hj:j<l.length)(e:gt l i=gt l j):i=j:=by
 have h1:=aV hi
 have h2:=aV hj
 rw [QZ hi] at h1
 rw [QZ hj] at h2
 have h1:=Rf h1
 have h2:=Rf h2
 exact (List.getElem_inj (h₀:=hi) (h₁:=hj) h).1 (by rw [h1,h2,e])
theorem dt {l:List Int}{x:Int}(h:x∈l):∃k,k<l.length∧gt l k=x:=by
 obtain⟨k,hk,e⟩:=Sy h
 refine⟨k,hk,?_⟩
 have h1:=aV hk
 rw [QZ hk,e] at h1
 exact (Rf h1).symm
theorem Bz {m:Nat}{z:List Int}(hz:z.length<2 ^ 40):∀(f i:Nat) (d:List Int),z.length - i<f→i≤z.length→d.length=z.length→(∀k,k<i→gt d k=k)→
  ∃x,an.l0 m z f d (i:Int)=some (ints z.length,x)
 | 0,i,d,hf,_,_,_=>absurd hf (by omega)
 | f+1,i,d,hf,hi,hd,hg=>by
  have pS:(2:Nat) ^ 40=1099511627776:=by decide
  unfold an.l0
  by_cases h:i<z.length
  ·obtain⟨v,hv⟩:∃v,ix d (i:Int)=some v:=⟨_,bH (by omega)⟩
   rw [if_pos (by simp only [decide_eq_true_eq]; omega),hv,QM,QT,aD (by omega) (by omega),show (i:Int)+1=((i+1:Nat):Int) by omega]
   refine Bz hz f (i+1) _ (by omega) (by omega) (by simpa using hd) fun k hk=>?_
   rw [cR (by omega)]
   by_cases e:k=i
   ·subst e; rw [if_pos rfl]
   ·rw [if_neg e]; exact hg k (by omega)
  ·refine⟨i,?_⟩
   rw [if_neg (by simp only [decide_eq_true_eq]; omega)]
   have:d=ints z.length:=Bc (by rw [cJ,hd]) fun k hk=>by rw [hg k (by omega),DA (by omega)]
   rw [this]
def rk (l:List aa)(d:List Int):Nat→Nat
 | 0=>0
 | k+1=>rk l d k+if cT (nd l (gt d k)) (nd l (gt d (k+1)))=0 then 0 else 1
theorem BA (l:List aa)(d:List Int):∀k,rk l d k≤k
 | 0=>QS _
 | k+1=>by have:=BA l d k; unfold rk; split<;>omega
theorem s3 (l:List aa)(d:List Int)(i:Nat):∀j,i≤j→rk l d i≤rk l d j
 | 0,h=>by
   have:i=0:=by omega
   subst this; exact QS _
 | j+1,h=>by
  by_cases e:i=j+1
  ·subst e; exact QS _
  ·have:=s3 l d i j (by omega)
   show _≤rk l d j+_
   omega
theorem BB (l:List aa)(d:List Int):∀(j v:Nat),v≤rk l d j→∃k,k≤j∧rk l d k=v
 | 0,v,h=>⟨0,QS _,by unfold rk at h ⊢; omega⟩
 | j+1,v,h=>by
  by_cases e:v=rk l d (j+1)
  ·exact⟨j+1,QS _,e.symm⟩
  ·have h2:rk l d (j+1)≤rk l d j+1:=by show rk l d j+_≤_; split<;>omega
   obtain⟨k,hk,e⟩:=BB l d j v (by omega)
   exact⟨k,by omega,e⟩
theorem BC {m:Nat}(hm:3≤m){l:List aa}{o d:List Int}(hl:l.length≤8000)(ho:o.length=l.length)(hp:d.Perm (ints l.length)):∀(f p:Nat) (out:List Int),l.length - p<f→p≤l.length→out.length=l.length→(∀k,k<p→gt out (gt d k).toNat=rk l d k)→
  ∃F4 x,an.l1 m l o d f out ((rk l d (p - 1):Nat):Int) (p:Int)=some (F4,((rk l d (l.length - 1):Nat):Int),x)∧F4.length=l.length∧∀k,k<l.length→gt F4 (gt d k).toNat=rk l d k
 | 0,p,out,hf,_,_,_=>absurd hf (by omega)
 | f+1,p,out,hf,vF,Io,hg=>by
  have Ko:d.length=l.length:=by rw [hp.length_eq,cJ]
  have hd:∀k,k<l.length→0≤gt d k∧gt d k<l.length:=fun k hk=>fP.1 (hp.mem_iff.1 (aE (by omega)))
  have wL:d.Nodup:=hp.symm.nodup (wK _)
  unfold an.l1
  by_cases h:p<l.length
  ·obtain⟨d0,d1⟩:=hd p h
   have vL:∀k,k<p+1→gt (out.set (gt d p).toNat ((rk l d p:Nat):Int)) (gt d k).toNat=rk l d k:=fun k hk=>by
    rw [cR (by omega)]
    by_cases e:k=p
    ·subst e; rw [if_pos rfl]
    ·have:gt d k≠gt d p:=fun h=>e (qi wL (by omega) (by omega) h)
     have:=hd k (by omega)
     rw [if_neg (by omega)]; exact hg k (by omega)
   obtain⟨z,hz⟩:∃z,ix out (gt d p)=some z:=⟨_,ef (k:=(gt d p).toNat) (by omega) (by omega)⟩
   have e1:i64.wrap ((p:Int)+1)=((p+1:Nat):Int):=by rw [aD (by omega) (by omega)]; omega
   have hr:=BA l d p
   have IH:=BC hm hl ho hp f (p+1) (out.set (gt d p).toNat ((rk l d p:Nat):Int)) (by omega) (by omega) (by simpa using Io) vL
   rw [show p+1 - 1=p by omega] at IH
   rw [if_pos (by simp only [decide_eq_true_eq]; omega),bH (by omega),QM]
   by_cases h0:0<p
   ·obtain⟨q,rfl⟩:∃q,p=q+1:=⟨p - 1,by omega⟩
    obtain⟨q0,q1⟩:=hd q (by omega)
    rw [show q+1 - 1=q by omega]
    have e2:i64.wrap (((q+1:Nat):Int) - 1)=(q:Int):=by rw [aD (by omega) (by omega)]; omega
    rw [if_pos (by simp only [decide_eq_true_eq]; omega),e2,bH (by omega),QM,eX q0 q1,QM,eX d0 d1,QM,sZ hm,QM,hz,e1]
    by_cases hc:cT (nd l (gt d q)) (nd l (gt d (q+1)))=0
    ·have KV:rk l d (q+1)=rk l d q:=by show rk l d q+_=_; rw [if_pos hc]; omega
     rw [if_neg (by simp [hc]),QM]
     rw [KV] at IH; exact IH
    ·have KV:rk l d (q+1)=rk l d q+1:=by show rk l d q+_=_; rw [if_neg hc]
     rw [if_pos (by simpa using hc),QM,aD (by omega) (by omega)]
     rw [KV] at IH; exact IH
   ·have:p=0:=by omega
    subst this
    rw [if_neg (by simp),hz,QM,e1]
    exact IH
  ·have:p=l.length:=by omega
   subst this
   exact⟨out,_,by rw [if_neg (by simp only [decide_eq_true_eq]; omega)],Io,hg⟩
theorem DB {m:Nat}(hm:3≤m)(l:List aa):Cm (fun y0 y1=>ck.f m y0 y1 l) (fun x y=>cT (nd l x) (nd l y)) (ints l.length):=fun x hx y hy=>by
 have hx:=fP.1 hx
 have hy:=fP.1 hy
 exact Bv hm hx.1 hx.2 hy.1 hy.2
theorem s4 {m:Nat}(hm:2 ^ 41≤m){l:List aa}(ok:iD l)(h1:1≤l.length)(Inv:List Int→Prop)
  (hI0:∀d out,d.Perm (ints l.length)→(Ord (fun x y=>cT (nd l x) (nd l y)) (ints l.length)→Sg (fun x y=>cT (nd l x) (nd l y)) d 0 l.length)→(∀k,k<l.length→gt out (gt d k).toNat=rk l d k)→Inv out)
  (hI:∀out many ks next,Part l.length out many→Inv out→ni l out l.length ks→next.length=l.length→(∀i,i<l.length→gt next i=(ks.idxOf (key out (nd l i) i):Int))→Inv next) :
  ∃r many ks,an.f m l=some r∧Part l.length r many∧Inv r∧ni l r l.length ks∧ks.length=many+1:=by
 have pS:(2:Nat) ^ 40=1099511627776:=by decide
 have tj:(2:Nat) ^ 41=2199023255552:=by decide
 have lz:(2:Nat) ^ 30=1073741824:=by decide
 have h8000:=ok.1
 have e0:qO 8 (l.length:Int) (0:Int)=some (Rc l.length 0):=by unfold qO; rw [if_pos ⟨by omega,by rw [QT]; omega⟩,QT]
 unfold an.f
 obtain⟨x,k1⟩:=Bz (m:=m) (z:=Rc l.length 0) (by simp; omega) m 0 (Rc l.length 0) (by simp; omega) (by omega) rfl (fun k hk=>absurd hk (by omega))
 have k1:an.l0 m (Rc l.length 0) m (Rc l.length 0) 0=_:=k1
 rw [List.length_replicate] at k1
 rw [e0,QM,k1,QM]
 dsimp only
 obtain⟨d,k2,hp,hs⟩:=zr hm (l:=ints l.length) (by rw [cJ]; omega) (DB (m:=m) (by omega) l)
 rw [k2,QM,QM]
 obtain⟨out,x,k3,ho,hg⟩:=BC (m:=m) (l:=l) (o:=ints l.length) (d:=d) (by omega) h8000 (cJ _) hp m 0 (Rc l.length 0) (by omega) (by omega) (by simp) (fun k hk=>absurd hk (by omega))
 have k3:an.l1 m l (ints l.length) d m (Rc l.length 0) 0 0=_:=k3
 rw [k3,QM]
 dsimp only
 rw [cJ] at hs
 have Ko:d.length=l.length:=by rw [hp.length_eq,cJ]
 have hP:Part l.length out (rk l d (l.length - 1)):=by
  refine⟨ho,fun i hi=>?_,fun v hv=>?_⟩
  ·obtain⟨k,hk,e⟩:=dt (hp.mem_iff.2 (fP.2 (show 0≤(i:Int)∧(i:Int)<l.length by omega)))
   have:=hg k (by omega)
   rw [e,QT] at this
   have h2:=s3 l d k (l.length - 1) (by omega)
   omega
  ·obtain⟨k,hk,e⟩:=BB l d _ v hv
   have CN:k<l.length:=by omega
   have:=fP.1 (hp.mem_iff.1 (aE (l:=d) (k:=k) (by omega)))
   exact⟨(gt d k).toNat,by omega,by rw [hg k CN,e]⟩
 have Ip:=BA l d (l.length - 1)
 obtain⟨r,many,ks,k4,P,I,K,vJ⟩:=By (m:=m) (by omega) ok Inv hI m out (rk l d (l.length - 1)) (by omega) (by omega) hP (hI0 d out hp hs hg)
 rw [k4]
 exact⟨r,many,ks,rfl,P,I,K,vJ⟩
end Go.Proofs.YtmekcfdllhphlaaDoor
namespace Go.Proofs.YtmekcfdllhphlaaDoor
open Go Go.R
open Go.IntKind (i64 u64 u8 u32)
def uC:ca:=ff [0,1,2,3,4,5,7,8,9,10,11,12,14,24,53,54,55,56] [11] [262080,261696,253760,262079,261568,261574,260567,260567,258519,144855,13783,140759,144855,144855,261631,262079] [(14,[(12,none,0)])] [(8,[(12,none,1)])]
def aI.l0 (m:Nat)(x1:List Int)(x3:aw)(rec:Int→(List (Int × Int))→(List Int)→aw→aw→Option (Int × (List (Int × Int)) × aw))(v2:aa):Nat→(List Int)→Int→(List (Int × Int))→aw→Option ((List Int) × Int × (List (Int × Int)) × aw)
 | 0,_,_,_,_=>none
 | k+1,fW,x6,x7,x8=>if (decide (x6<(v2.args.length:Int)))=true then ((ix v2.args x6).bind fun v3=>(rec v3 x7 x1 x8 x3).bind fun x9=>(app 8 fW ([x9.1])).bind fun nR=>aI.l0 m x1 x3 rec v2 k nR (i64.wrap (x6+(1:Int))) x9.2.1 x9.2.2) else (some ((fW,x6,x7,x8)))
def aI.b (m:Nat)(rec:Int→(List (Int × Int))→(List Int)→aw→aw→Option (Int × (List (Int × Int)) × aw))(i0:Int)(x0:List (Int × Int))(x1:List Int)(x2:aw)(x3:aw):Option (Int × (List (Int × Int)) × aw):=(ix x1 i0).bind fun v0=>if ((ub x0 v0).2)=true then (some ((ub x0 v0).1,x0,x2)) else ((ix x1 i0).bind fun v1=>(ix x3.nodes i0).bind fun v2=>(app 56 x2.nodes ([(aa.mk v2.kind v2.int v2.label ([]))])).bind fun x5=>(aI.l0 m x1 x3 rec v2 m ([]:List Int) (0:Int) (AR x0 v1 (x2.nodes.length:Int)) (aw.mk x5 x2.root)).bind fun bR=>match bR with | (nS,FW,Ds,vo)=>(ix vo.nodes (x2.nodes.length:Int)).bind fun v4=>some ((x2.nodes.length:Int),Ds,(aw.mk (vo.nodes.set (x2.nodes.length:Int).toNat (aa.mk v4.kind v4.int v4.label nS)) vo.root)))
def aI.f (m:Nat):Nat→Int→(List (Int × Int))→(List Int)→aw→aw→Option (Int × (List (Int × Int)) × aw)
 | 0,_,_,_,_,_=>none
 | k+1,i0,x0,x1,x2,x3=>aI.b m (aI.f m k) i0 x0 x1 x2 x3
def aI.fin (L:Mem)(bk:Nat)(db:Nat)(cM:Nat)(cy:Nat)(dm:Nat)(cP:Nat)(cK:Nat)(i0:Int)(x0:List (Int × Int))(x1:List Int)(x2:aw)(x3:aw)(r:Int × (List (Int × Int)) × aw)(s:St):Prop:=∃jy:Nat,aP Tryd.prog (s.open uC) Tryd.f68.results.toList=some (.int .i64 r.1)∧Has s.h ((bk,.ob [.mp db])::(db,.mp (pH r.2.1))::(cM,.ob [af.fz x1])::(cy,.ob [.rs jy 0 r.2.2.nodes.length 4,.int .i64 r.2.2.root])::(jy,.sl r.2.2.nodes.length 4 (ae.l r.2.2.nodes))::(cP,.ob [ae.fz x3.nodes,.int .i64 x3.root])::(cK,.ob [.fn 68 [.ptr bk 0,.ptr cM 0,.ptr cy 0,.ptr cP 0,.ptr cK 0]])::L)
def Jc (cf:CallF)(m:Nat)(kk:Nat):Prop:=∀(i0:Int) (x0:List (Int × Int)) (x1:List Int) (x2:aw) (x3:aw) (r:Int × (List (Int × Int)) × aw),aI.f m kk i0 x0 x1 x2 x3=some r→∀h L (bk:Nat) (db:Nat) (cM:Nat) (cy:Nat) (dm:Nat) (cP:Nat) (cK:Nat),Has h ((bk,.ob [.mp db])::(db,.mp (pH x0))::(cM,.ob [af.fz x1])::(cy,.ob [.rs dm 0 x2.nodes.length 4,.int .i64 x2.root])::(dm,.sl x2.nodes.length 4 (ae.l x2.nodes))::(cP,.ob [ae.fz x3.nodes,.int .i64 x3.root])::(cK,.ob [.fn 68 [.ptr bk 0,.ptr cM 0,.ptr cy 0,.ptr cP 0,.ptr cK 0]])::L)→∀xs,xs.map aC=[.int .i64 i0,.ptr bk 0,.ptr cM 0,.ptr cy 0,.ptr cP 0,.ptr cK 0]→∃jy h',cf 68 xs h=some (.int .i64 r.1,h')∧Has h' ((bk,.ob [.mp db])::(db,.mp (pH r.2.1))::(cM,.ob [af.fz x1])::(cy,.ob [.rs jy 0 r.2.2.nodes.length 4,.int .i64 r.2.2.root])::(jy,.sl r.2.2.nodes.length 4 (ae.l r.2.2.nodes))::(cP,.ob [ae.fz x3.nodes,.int .i64 x3.root])::(cK,.ob [.fn 68 [.ptr bk 0,.ptr cM 0,.ptr cy 0,.ptr cP 0,.ptr cK 0]])::L)
section
variable {cf:CallF}{m:Nat}
theorem aI.cw (L:Mem)(bk:Nat)(db:Nat)(cM:Nat)(cy:Nat)(dm:Nat)(cP:Nat)(cK:Nat)(i0:Int)(x0:List (Int × Int))(x1:List Int)(x2:aw)(x3:aw)(v2:aa)  {kk:Nat}(BD:Jc cf m kk)  : cD Tryd.prog cf uC m (sub [1,1,1,1,1,1,1,0,1,0,0] (codeOf Tryd.f68)) (fun k (σ:(List Int) × Int × (List (Int × Int)) × aw)=>aI.l0 m x1 x3 (aI.f m kk) v2 k σ.1 σ.2.1 σ.2.2.1 σ.2.2.2) (fun σ s=>match σ with | (fW,x6,x7,x8)=>∃rP kN h3,s=⟨mD (.ptr cy 0 :: .any :: .ptr cK 0::mD [.int .i64 (x2.nodes.length:Int),.any,.rs rP 0 fW.length 1,.any,.any,af.fz v2.args,.int .i64 (v2.args.length:Int),.int .i64 x6,.any]),[none],h3⟩∧Has h3 ((rP,.sl fW.length 1 (af.l fW))::(bk,.ob [.mp db])::(db,.mp (pH x7))::(cM,.ob [af.fz x1])::(cy,.ob [.rs kN 0 x8.nodes.length 4,.int .i64 x8.root])::(kN,.sl x8.nodes.length 4 (ae.l x8.nodes))::(cP,.ob [ae.fz x3.nodes,.int .i64 x3.root])::(cK,.ob [.fn 68 [.ptr bk 0,.ptr cM 0,.ptr cy 0,.ptr cP 0,.ptr cK 0]])::L)) (fun out e s=>(e = .exit 0∧∃fW x6 x7 x8,(fW,x6,x7,x8)=out∧∃Dw KW KX KY KZ rP kN h3,s=⟨mD (.ptr cy 0 :: .any::Dw::mD [.int .i64 (x2.nodes.length:Int),.any,.rs rP 0 fW.length 1,.any,.any,KW,KX,KY,KZ]),[none],h3⟩∧Has h3 ((rP,.sl fW.length 1 (af.l fW))::(bk,.ob [.mp db])::(db,.mp (pH x7))::(cM,.ob [af.fz x1])::(cy,.ob [.rs kN 0 x8.nodes.length 4,.int .i64 x8.root])::(kN,.sl x8.nodes.length 4 (ae.l x8.nodes))::(cP,.ob [ae.fz x3.nodes,.int .i64 x3.root])::(cK,.ob [.fn 68 [.ptr bk 0,.ptr cM 0,.ptr cy 0,.ptr cP 0,.ptr cK 0]])::L))):=by
 refine jW (fun _=>rfl) ?_
 rintro k ⟨fW,x6,x7,x8⟩ s out ⟨rP,kN,h3,rfl,o4⟩ H
 have H:aI.l0 m x1 x3 (aI.f m kk) v2 (k+1) fW x6 x7 x8=some out:=H
 refine q1 <| qq <| qc H (fun c1 H=>?_) (fun c1 H=>?_)
 ·refine qk <| qq <| qb 1 <| qq ?_
  obtain⟨v3,e7,H⟩:=bb H
  refine qr [.v 0 (cH (k:=.i64) (E:=af) (l:=v2.args) fV e7),.v 1 (fK  (E:=af) (l:=v2.args) h3 A3 e7 rfl)] ?_
  obtain⟨x9,e8,H⟩:=bb H
  obtain⟨iW,h4,e9,o5⟩:=BD _ _ _ _ _ _ e8 h3 _ _ _ _ _ _ _ _ ((Has.front (Has.front (Has.front (Has.front (Has.front (Has.front (Has.front (Has.front o4 0 rfl) 7 rfl) 7 rfl) 7 rfl) 7 rfl) 7 rfl) 7 rfl) 7 rfl))  [.int .i64 v3,.ptr bk 0,.ptr cM 0,.ptr cy 0,.ptr cP 0,.ptr cK 0] (ao (aR (br)) (ao (rfl) (ao (rfl) (ao (rfl) (ao (rfl) (ao (rfl) (cq)))))))
  obtain⟨nR,xP,H⟩:=bb H
  obtain⟨ng,h5,Bl,o6⟩:=wa (P:=Tryd.prog) (E:=af) (l:=fW) (q:=7) (t2:=42) (x:=.fz [.int .i64 x9.1] 1 true) (l2:=([x9.1])) fV o5 rfl (by kernel_rfl) rfl xP
  exact qr [.v 1 (show bg Tryd.prog h3 99 (.ptr cK 0)=some (.fn 68 [.ptr bk 0,.ptr cM 0,.ptr cy 0,.ptr cP 0,.ptr cK 0]) from b9 (q:=7) (cs:=[.fn 68 [.ptr bk 0,.ptr cM 0,.ptr cy 0,.ptr cP 0,.ptr cK 0]]) o4 rfl (by kernel_rfl)),.a 3 e9,.a 5 Bl] <| q0 <| ⟨(nR,i64.wrap (x6+(1:Int)),x9.2.1,x9.2.2),⟨ng,iW,h5,by kernel_rfl,(Has.front (Has.front (Has.front (Has.front (Has.front (Has.front (Has.front (Has.front o6 6 rfl) 6 rfl) 6 rfl) 6 rfl) 6 rfl) 6 rfl) 6 rfl) 7 rfl)⟩,H⟩
 ·exact qx 0 <| ⟨rfl,fW,x6,x7,x8,oi H,.ptr cK 0,af.fz v2.args,.int .i64 (v2.args.length:Int),.int .i64 x6,.bool (decide (x6<(v2.args.length:Int))),rP,kN,h3,by kernel_rfl,o4⟩
theorem mj {a7:FuncId→ca}(ha:a7 68=uC)  (i0:Int)(x0:List (Int × Int))(x1:List Int)(x2:aw)(x3:aw)(h:AHeap)(L:Mem)(bk:Nat)(db:Nat)(cM:Nat)(cy:Nat)(dm:Nat)(cP:Nat)(cK:Nat)  {kk:Nat}(BD:Jc cf m kk)(o:Has h ((bk,.ob [.mp db])::(db,.mp (pH x0))::(cM,.ob [af.fz x1])::(cy,.ob [.rs dm 0 x2.nodes.length 4,.int .i64 x2.root])::(dm,.sl x2.nodes.length 4 (ae.l x2.nodes))::(cP,.ob [ae.fz x3.nodes,.int .i64 x3.root])::(cK,.ob [.fn 68 [.ptr bk 0,.ptr cM 0,.ptr cy 0,.ptr cP 0,.ptr cK 0]])::L)){out:Int × (List (Int × Int)) × aw}(H:aI.f m (kk+1) i0 x0 x1 x2 x3=some out) :
  ∃r h',bf Tryd.prog a7 cf m 68 [.int .i64 i0,.ptr bk 0,.ptr cM 0,.ptr cy 0,.ptr cP 0,.ptr cK 0] h=some (r,h')∧∃jy:Nat,r = .int .i64 out.1∧Has h' ((bk,.ob [.mp db])::(db,.mp (pH out.2.1))::(cM,.ob [af.fz x1])::(cy,.ob [.rs jy 0 out.2.2.nodes.length 4,.int .i64 out.2.2.root])::(jy,.sl out.2.2.nodes.length 4 (ae.l out.2.2.nodes))::(cP,.ob [ae.fz x3.nodes,.int .i64 x3.root])::(cK,.ob [.fn 68 [.ptr bk 0,.ptr cM 0,.ptr cy 0,.ptr cP 0,.ptr cK 0]])::L):=by
 refine aq (fn:=Tryd.f68) ha Tryd.func68 (by kernel_rfl) (by kernel_rfl) ?_
 refine aQ (Q:=fun s=>aI.fin L bk db cM cy dm cP cK i0 x0 x1 x2 x3 out s) (fun _ _ ⟨h1,jy,h2,h3⟩=>⟨h1,_,h2,jy,rfl,h3⟩) ?_
 have H:aI.b m (aI.f m kk) i0 x0 x1 x2 x3=some out:=H
 unfold aI.b at H
 show cX _ cf uC m _ ⟨.int .i64 i0 :: .ptr bk 0 :: .ptr cM 0 :: .ptr cy 0 :: .ptr cP 0 :: .ptr cK 0::pK [],[none],h⟩ _
 refine q1 <| qq <| qq ?_
 obtain⟨v0,e0,H⟩:=bb H
 refine qr [.v 0 (show bg Tryd.prog h 98 (.ptr bk 0)=some (.mp db) from b9 (q:=0) (cs:=[.mp db]) o rfl (by kernel_rfl)),.v 1 (show bg Tryd.prog h 42 (.ptr cM 0)=some (af.fz x1) from b9 (q:=2) (cs:=[af.fz x1]) o rfl (by kernel_rfl)),.v 3 (cH (k:=.i64) (E:=af) (l:=x1) fV e0),.v 4 (fK  (E:=af) (l:=x1) h A3 e0 rfl),.v 5 (show dO Tryd.prog h 98 (.mp db) (.int .i64 v0) true=some (.tup [.int .i64 ((ub x0 v0).1),.bool ((ub x0 v0).2)]) from (J7 (q:=1) (l:=x0) (k:=v0) HQ o rfl).1)] <| qq <| q0 <| qc H (fun c0 H=>?_) (fun c0 H=>?_)
 ·obtain rfl:=oi H
  exact q1 <| qt <| ⟨.inl rfl,⟨dm,by kernel_rfl,he o⟩⟩
 ·refine qk <| qq <| qr [.v 1 (show bg Tryd.prog h 29 (.ptr cy 0)=some (.rs dm 0 x2.nodes.length 4) from b9 (q:=3) (cs:=[.rs dm 0 x2.nodes.length 4,.int .i64 x2.root]) o rfl (by kernel_rfl))] <| qq ?_
  obtain⟨v1,e1,H⟩:=bb H
  obtain⟨h0,e2,o0⟩:=J8 (q:=1) (l:=x0) (k:=v1) (v:=(x2.nodes.length:Int)) HQ o rfl
  refine qr [.v 0 (show bg Tryd.prog h 98 (.ptr bk 0)=some (.mp db) from b9 (q:=0) (cs:=[.mp db]) o rfl (by kernel_rfl)),.v 1 (show bg Tryd.prog h 42 (.ptr cM 0)=some (af.fz x1) from b9 (q:=2) (cs:=[af.fz x1]) o rfl (by kernel_rfl)),.v 3 (cH (k:=.i64) (E:=af) (l:=x1) fV e1),.v 4 (fK  (E:=af) (l:=x1) h A3 e1 rfl),.w 6 e2] <| qq ?_
  obtain⟨v2,e3,H⟩:=bb H
  refine qr [.v 1 (show bg Tryd.prog h0 29 (.ptr cP 0)=some (ae.fz x3.nodes) from b9 (q:=5) (cs:=[ae.fz x3.nodes,.int .i64 x3.root]) o0 rfl (by kernel_rfl)),.v 3 (cH (k:=.i64) (E:=ae) (l:=x3.nodes) oa e3),.v 4 (gf  (E:=ae) (l:=x3.nodes) h0 xF xG e3)] <| qq ?_
  obtain⟨x5,e4,H⟩:=bb H
  obtain⟨aL,h1,e5,o1⟩:=wa (P:=Tryd.prog) (E:=ae) (l:=x2.nodes) (q:=4) (t2:=29) (x:=.fz [.int .i64 v2.kind,.int .i64 v2.int,.str v2.label,.nils] 1 true) (l2:=([(aa.mk v2.kind v2.int v2.label ([]))])) oa o0 rfl (by kernel_rfl) rfl e4
  obtain⟨h2,e6,o2⟩:=xA (P:=Tryd.prog) (t:=29) (off:=0) (q:=3) (cs:=[.rs dm 0 x2.nodes.length 4,.int .i64 x2.root]) (ej:=[.rs aL 0 x5.length 4,.int .i64 x2.root]) (x:=.rs aL 0 x5.length 4) o1 rfl (by kernel_rfl)
  refine qr [.v 1 (show bg Tryd.prog h0 29 (.ptr cy 0)=some (.rs dm 0 x2.nodes.length 4) from b9 (q:=3) (cs:=[.rs dm 0 x2.nodes.length 4,.int .i64 x2.root]) o0 rfl (by kernel_rfl)),.a 10 e5,.w 12 e6] <| qq <| q0 ?_
  have o3:Has h2 (((0),.sl (([]:List Int).length) 1 (af.l ([]:List Int)))::(bk,.ob [.mp db])::(db,.mp (pH (AR x0 v1 (x2.nodes.length:Int))))::(cM,.ob [af.fz x1])::(cy,.ob [.rs aL 0 x5.length 4,.int .i64 x2.root])::(aL,.sl x5.length 4 (ae.l x5))::(cP,.ob [ae.fz x3.nodes,.int .i64 x3.root])::(cK,.ob [.fn 68 [.ptr bk 0,.ptr cM 0,.ptr cy 0,.ptr cP 0,.ptr cK 0]])::L):=Has.nil o2 1
  refine qq <| qq <| q0 <| qb 0 ?_
  obtain⟨bR,Dn,H⟩:=bb H
  refine ql (aI.cw L bk db cM cy dm cP cK i0 x0 x1 x2 x3 v2  BD  (([]:List Int),(0:Int),AR x0 v1 (x2.nodes.length:Int),(aw.mk x5 x2.root)) _ _ ⟨(0),aL,h2,by kernel_rfl,o3⟩ Dn) ?_
  rintro e s ⟨rfl,nS,FW,Ds,vo,rfl,g0,g1,g2,g3,g4,mF,nh,h6,rfl,o7⟩
  try dsimp only at H
  refine qq ?_
  obtain⟨h7,Ed,o8⟩:=Fg (E:=af) (l:=nS) (q:=0) o7 rfl
  obtain⟨v4,Dr,H⟩:=bb H
  obtain⟨h8,Dp,o9⟩:=C8 (P:=Tryd.prog) (tf:=42) (E:=ae) (l:=vo.nodes) (q:=4) (off:=3) (v:=(aa.mk v4.kind v4.int v4.label nS)) (x:=af.fz nS) o8 rfl OH Dr rfl rfl (by decide) rfl
  obtain rfl:=oi H
  exact HM [.a 0 Ed] [.v 1 (show bg Tryd.prog h7 29 (.ptr cy 0)=some (.rs nh 0 vo.nodes.length 4) from b9 (q:=3) (cs:=[.rs nh 0 vo.nodes.length 4,.int .i64 vo.root]) o8 rfl (by kernel_rfl)),.v 4 (aY (k:=.i64) (E:=ae) (l:=vo.nodes) (q:=4) oa o8 rfl Dr),.w 6 Dp] <| qq <| q0 <| qt <| ⟨.inl rfl,⟨nh,by kernel_rfl,he (by have o:Has h8 ((bk,.ob [.mp db])::(db,.mp (pH Ds))::(cM,.ob [af.fz x1])::(cy,.ob [.rs nh 0 vo.nodes.length 4,.int .i64 vo.root])::(nh,.sl vo.nodes.length 4 (ae.l (vo.nodes.set (x2.nodes.length:Int).toNat (aa.mk v4.kind v4.int v4.label nS))))::(cP,.ob [ae.fz x3.nodes,.int .i64 x3.root])::(cK,.ob [.fn 68 [.ptr bk 0,.ptr cM 0,.ptr cy 0,.ptr cP 0,.ptr cK 0]])::L):=o9; simpa only [Rb] using o)⟩⟩
end
end Go.Proofs.YtmekcfdllhphlaaDoor
namespace Go.Proofs.YtmekcfdllhphlaaDoor
open Go Go.R
open Go.IntKind (i64 u64 u8 u32)
def ya:ca:=ff [0,1,2,3,4,5,6] [2,4000005] [121,113,97,65,1,25,91,123] [] [(0,[(2,some 0,4)])]
def bA.f (m:Nat)(t0:aw):Option (aw):=(an.f m t0.nodes).bind fun x0=>(aI.f m m t0.root ([]:List (Int × Int)) x0 (aw.mk ([]:List aa) (0:Int)) t0).bind fun x1=>some x1.2.2
def bA.fin (L:Mem)(r:aw)(s:St):Prop:=∃av,aP Tryd.prog (s.open ya) Tryd.f47.results.toList=some av∧AM s.h av (.agg [ae.fz r.nodes,.int .i64 r.root])
def La (cf:CallF)(m:Nat):Prop:=∀(t0:aw) (r:aw),bA.f m t0=some r→∀h xs,nN xs [.agg [ae.fz t0.nodes,.int .i64 t0.root]]→cf 47 xs h=some (.agg [ae.fz r.nodes,.int .i64 r.root],h)
section
variable {cf:CallF}{m:Nat}
theorem ou {a7:FuncId→ca}(ha:a7 47=ya)(Lb:MP cf m)(BD:Jc cf m m)(t0:aw)(h:AHeap)(L:Mem)  (o:Has h (L)){out:aw}(H:bA.f m t0=some out) :
  ∃r h',bf Tryd.prog a7 cf m 47 [.agg [ae.fz t0.nodes,.int .i64 t0.root]] h=some (r,h')∧AM h' r (.agg [ae.fz out.nodes,.int .i64 out.root]):=by
 refine aq (fn:=Tryd.f47) ha Tryd.func47 (by kernel_rfl) (by kernel_rfl) ?_
 refine aQ (Q:=fun s=>bA.fin L out s) (fun _ _ h=>h) ?_
 have H:_=some out:=H
 unfold bA.f at H
 show cX _ cf ya m _ ⟨.agg [ae.fz t0.nodes,.int .i64 t0.root]::Dg [],[none,none],h⟩ _
 refine qq ?_
 obtain⟨aL,h0,e0,o0⟩:=jV (cs:=[ae.fz t0.nodes,.int .i64 t0.root]) o (by kernel_rfl)
 refine qr [.a 0 e0] ?_
 have o1:Has h0 (((0),.sl (([]:List aa).length) 4 (ae.l ([]:List aa)))::(aL,.ob [ae.fz t0.nodes,.int .i64 t0.root])::L):=Has.nil o0 4
 refine qq ?_
 obtain⟨x0,e1,H⟩:=bb H
 obtain⟨rP,h1,e2,o2⟩:=jV (cs:=[.nils]) o1 (by kernel_rfl)
 obtain⟨h2,e3,o3⟩:=xA (P:=Tryd.prog) (t:=42) (off:=0) (q:=0) (cs:=[.nils]) (ej:=[af.fz x0]) (x:=af.fz x0) o2 rfl (by kernel_rfl)
 refine qr [.v 1 (show bg Tryd.prog h0 29 (.ptr aL 0)=some (ae.fz t0.nodes) from b9 (q:=1) (cs:=[ae.fz t0.nodes,.int .i64 t0.root]) o1 rfl (by kernel_rfl)),.a 2 (Lb _ _ e1 h0 _ (eZ (ab (b7 (E:=ae)) (aA)))),.a 3 e2,.w 4 e3] <| qq ?_
 obtain⟨kN,h3,e4,o4⟩:=AU o3
 obtain⟨iW,h4,e5,o5⟩:=jV (cs:=[.kO]) o4 (by kernel_rfl)
 obtain⟨h5,e6,o6⟩:=xA (P:=Tryd.prog) (t:=98) (off:=0) (q:=0) (cs:=[.kO]) (ej:=[.mp kN]) (x:=.mp kN) o5 rfl (by kernel_rfl)
 refine qr [.m 0 e4,.a 1 e5,.w 2 e6] <| qq ?_
 have o7:Has h5 ((((0)),.sl (([]:List aa).length) 4 (ae.l ([]:List aa)))::(iW,.ob [.mp kN])::(kN,.mp (pH ([]:List (Int × Int))))::(rP,.ob [af.fz x0])::((0),.sl (([]:List aa).length) 4 (ae.l ([]:List aa)))::(aL,.ob [ae.fz t0.nodes,.int .i64 t0.root])::L):=Has.nil o6 4
 obtain⟨ng,h6,e7,o8⟩:=jV (cs:=[.rs ((0)) 0 (([]:List aa).length) 4,.int .i64 (0:Int)]) o7 (by kernel_rfl)
 refine qr [.a 0 e7] <| qq ?_
 obtain⟨mF,h7,e8,o9⟩:=jV (cs:=[.oN]) o8 (by kernel_rfl)
 refine qr [.a 0 e8] <| qq ?_
 obtain⟨h8,e9,CD⟩:=xA (P:=Tryd.prog) (t:=99) (off:=0) (q:=0) (cs:=[.oN]) (ej:=[.fn 68 [.ptr iW 0,.ptr rP 0,.ptr ng 0,.ptr aL 0,.ptr mF 0]]) (x:=.fn 68 [.ptr iW 0,.ptr rP 0,.ptr ng 0,.ptr aL 0,.ptr mF 0]) o9 rfl (by kernel_rfl)
 refine qr [.w 1 e9] <| qq ?_
 obtain⟨x1,xP,H⟩:=bb H
 obtain⟨nh,h9,Bl,Eb⟩:=BD _ _ _ _ _ _ xP h8 _ _ _ _ _ _ _ _ ((Has.front (Has.front (Has.front (Has.front (Has.front (Has.front (Has.front (Has.front CD 6 rfl) 1 rfl) 7 rfl) 4 rfl) 4 rfl) 7 rfl) 7 rfl) 7 rfl))  [.int .i64 t0.root,.ptr iW 0,.ptr rP 0,.ptr ng 0,.ptr aL 0,.ptr mF 0] (ao (aR (br)) (ao (rfl) (ao (rfl) (ao (rfl) (ao (rfl) (ao (rfl) (cq)))))))
 refine qr [.v 0 (show bg Tryd.prog h8 99 (.ptr mF 0)=some (.fn 68 [.ptr iW 0,.ptr rP 0,.ptr ng 0,.ptr aL 0,.ptr mF 0]) from b9 (q:=0) (cs:=[.fn 68 [.ptr iW 0,.ptr rP 0,.ptr ng 0,.ptr aL 0,.ptr mF 0]]) CD rfl (by kernel_rfl)),.v 2 (show bg Tryd.prog h8 3 (.ptr aL 1)=some (.int .i64 t0.root) from b9 (q:=7) (cs:=[ae.fz t0.nodes,.int .i64 t0.root]) CD rfl (by kernel_rfl)),.a 3 Bl] ?_
 have Ec:Has h9 ((iW,.ob [.mp kN])::(kN,.mp (pH x1.2.1))::(rP,.ob [af.fz x0])::(ng,.ob [.rs nh 0 x1.2.2.nodes.length 4,.int .i64 x1.2.2.root])::(nh,.sl x1.2.2.nodes.length 4 (ae.l x1.2.2.nodes))::(aL,.ob [ae.fz t0.nodes,.int .i64 t0.root])::((0),.sl (([]:List aa).length) 4 (ae.l ([]:List aa)))::L):=Has.del Eb 6
 have wv:Has h9 ((iW,.ob [.mp kN])::(kN,.mp (pH x1.2.1))::(rP,.ob [af.fz x0])::(ng,.ob [.rs nh 0 x1.2.2.nodes.length 4,.int .i64 x1.2.2.root])::(nh,.sl x1.2.2.nodes.length 4 (ae.l x1.2.2.nodes))::((0),.sl (([]:List aa).length) 4 (ae.l ([]:List aa)))::L):=Has.del Ec 5
 have CE:Has h9 ((iW,.ob [.mp kN])::(kN,.mp (pH x1.2.1))::(ng,.ob [.rs nh 0 x1.2.2.nodes.length 4,.int .i64 x1.2.2.root])::(nh,.sl x1.2.2.nodes.length 4 (ae.l x1.2.2.nodes))::((0),.sl (([]:List aa).length) 4 (ae.l ([]:List aa)))::L):=Has.del wv 2
 have FE:Has h9 ((iW,.ob [.mp kN])::(ng,.ob [.rs nh 0 x1.2.2.nodes.length 4,.int .i64 x1.2.2.root])::(nh,.sl x1.2.2.nodes.length 4 (ae.l x1.2.2.nodes))::((0),.sl (([]:List aa).length) 4 (ae.l ([]:List aa)))::L):=Has.del CE 1
 have zO:Has h9 ((ng,.ob [.rs nh 0 x1.2.2.nodes.length 4,.int .i64 x1.2.2.root])::(nh,.sl x1.2.2.nodes.length 4 (ae.l x1.2.2.nodes))::((0),.sl (([]:List aa).length) 4 (ae.l ([]:List aa)))::L):=Has.del FE 0
 refine qs [.v 0 (show bg Tryd.prog h9 31 (.ptr ng 0)=some (.agg [.rs nh 0 x1.2.2.nodes.length 4,.int .i64 x1.2.2.root]) from b9 (q:=0) (cs:=[.rs nh 0 x1.2.2.nodes.length 4,.int .i64 x1.2.2.root]) zO rfl (by kernel_rfl))] ?_
 have H7:Has h9 ((ng,.ob [.rs nh 0 x1.2.2.nodes.length 4,.int .i64 x1.2.2.root])::(nh,.sl x1.2.2.nodes.length 4 (ae.l x1.2.2.nodes))::L):=Has.del zO 2
 have FM:Has h9 ((nh,.sl x1.2.2.nodes.length 4 (ae.l x1.2.2.nodes))::L):=Has.del H7 0
 obtain rfl:=oi H
 exact qt <| ⟨.inl rfl,I6 (.agg [.rs nh 0 x1.2.2.nodes.length 4,.int .i64 x1.2.2.root]) h9 (zK (bw (ab (HF (E:=ae) (l:=x1.2.2.nodes) (q:=0) FM rfl (fun _=>rfl)) (ab (aM) (aA)))))⟩
end
end Go.Proofs.YtmekcfdllhphlaaDoor
namespace Go.Proofs.YtmekcfdllhphlaaDoor
open Go Go.R
open Go.IntKind (i64 u64 u8 u32)
def iX:List Int→Nat→List (Int × Int)
 | [],_=>[]
 | k::ks,s=>(k,(s:Int))::iX ks (s+1)
theorem rR:∀(ks:List Int) (s:Nat) (k:Int),ub (iX ks s) k=if k∈ks then (((s+ks.idxOf k:Nat):Int),true) else (0,false)
 | [],s,k=>rfl
 | a::ks,s,k=>by
  simp only [iX,ub,rR ks (s+1) k,Rt,List.idxOf_cons]
  by_cases h:k=a
  ·subst h; simp
  ·have h':(a==k)=false:=by simpa using fun z:a=k=>h z.symm
   rw [if_neg h,h']
   by_cases h2:k∈ks
   ·simp only [h2,if_true,or_true,cond_false]
    simp only [QV,and_true]
    omega
   ·simp [h2,h]
theorem rS:∀(ks:List Int) (s:Nat) (k:Int),k∉ks→AR (iX ks s) k ((s+ks.length:Nat):Int)=iX (ks++[k]) s
 | [],s,k,_=>rfl
 | a::ks,s,k,h=>by
  have h1:k≠a:=fun z=>h (by simp [z])
  have h2:k∉ks:=fun z=>h (by simp [z])
  simp only [iX,AR,Ru,if_neg h1,RA]
  rw [show s+(ks.length+1)=s+1+ks.length by omega,rS ks (s+1) k h2]
def cW (cls:List Int)(a:Int):Int:=gt cls a.toNat
def idx (cls o:List Int)(a:Int):Int:=((o.map (cW cls)).idxOf (cW cls a):Nat)
def qV (cls:List Int)(l:List aa)(o:List Int)(i:Int):aa:=⟨(nd l i).kind,(nd l i).int,(nd l i).label,(nd l i).args.map (idx cls o)⟩
def nT (cls:List Int)(l:List aa):Nat→Int→List Int→List Int
 | 0,_,o=>o
 | k+1,i,o=>if cW cls i∈o.map (cW cls) then o else (nd l i).args.foldl (fun o a=>nT cls l k a o) (o++[i])
structure Vs (cls:List Int)(n:Nat)(o:List Int):Prop where
 CF:(o.map (cW cls)).Nodup
 jx:∀x∈o,0≤x∧x<n
structure Ps (cls:List Int)(l:List aa)(o o':List Int)(ns wM:List aa):Prop where
 vs:Vs cls l.length o'
 pre:∃t,o'=o++t
 len:wM.length=o'.length
 old:∀k,k<o.length→wM[k]? = ns[k]?
 new:∀k,o.length≤k→k<o'.length→wM[k]? = some (qV cls l o' (gt o' k))
 arg:∀k,o.length≤k→k<o'.length→∀a∈(nd l (gt o' k)).args,cW cls a∈o'.map (cW cls)
theorem Vs.zx {cls:List Int}{n:Nat}{o:List Int}(v:Vs cls n o):o.length≤n:=by
 have hn:o.Nodup:=by
  have:=v.CF
  unfold List.Nodup at this ⊢
  rw [List.pairwise_map] at this
  exact List.Pairwise.imp (fun h e=>h (by rw [e])) this
 have:=hn.length_le_of_subset (l₂:=ints n) (fun x hx=>fP.2 (v.jx x hx))
 rwa [cJ] at this
theorem Ps.refl {cls:List Int}{l:List aa}{o:List Int}{ns:List aa}(v:Vs cls l.length o)(h:ns.length=o.length):Ps cls l o o ns ns:=
 ⟨v,⟨[],by simp⟩,h,fun _ _=>rfl,fun k h1 h2=>by omega,fun k h1 h2=>by omega⟩
theorem dI {a b:List Int}{k:Nat}(h:k<a.length):gt (a++b) k=gt a k:=by
 unfold gt; rw [Q5,Q5,Rs h]
theorem lj {cls o t:List Int}{a:Int}(h:cW cls a∈o.map (cW cls)):idx cls (o++t) a=idx cls o a:=by
 unfold idx; rw [Ri,RZ,if_pos h]
theorem uD {cls:List Int}{l:List aa}{o t:List Int}{i:Int}(h:∀a∈(nd l i).args,cW cls a∈o.map (cW cls)):qV cls l (o++t) i=qV cls l o i:=by
 unfold qV
 congr 1
 exact Sk fun a ha=>lj (h a ha)
theorem Ps.trans {cls:List Int}{l:List aa}{o o1 o2:List Int}{ns n1 n2:List aa}(a:Ps cls l o o1 ns n1)(b:Ps cls l o1 o2 n1 n2):Ps cls l o o2 ns n2:=by
 obtain⟨t1,rfl⟩:=a.pre
 obtain⟨t2,rfl⟩:=b.pre
 have hl:(o++t1).length=o.length+t1.length:=by simp
 refine⟨b.vs,⟨t1++t2,by simp⟩,b.len,fun k hk=>(b.old k (by omega)).trans (a.old k hk),fun k h1 h2=>?_,fun k h1 h2 x hx=>?_⟩
 ·by_cases h:k<(o++t1).length
  ·rw [b.old k h,a.new k h1 h,dI h,uD (a.arg k h1 h)]
  ·exact b.new k (by omega) h2
 ·by_cases h:k<(o++t1).length
  ·rw [dI h] at hx
   rw [Ri]
   exact Rx _ (a.arg k h1 h x hx)
  ·exact b.arg k (by omega) h2 x hx
section
variable {m:Nat}{cls:List Int}{l:List aa}{root:Int}
abbrev Iq:=Int→(List (Int × Int))→(List Int)→aw→aw→Option (Int × (List (Int × Int)) × aw)
def Ek (cls:List Int)(l:List aa)(root:Int)(rec:Iq)(df:Int→List Int→List Int)(need:Nat):Prop:=∀(i:Int) (o:List Int) (ns:List aa),0≤i→i<l.length→Vs cls l.length o→ns.length=o.length→l.length<need+o.length→
 ∃wM,rec i (iX (o.map (cW cls)) 0) cls ⟨ns,0⟩ ⟨l,root⟩=some (idx cls (df i o) i,iX ((df i o).map (cW cls)) 0,⟨wM,0⟩)∧Ps cls l o (df i o) ns wM∧cW cls i∈(df i o).map (cW cls)
theorem BE {rec:Iq}{df:Int→List Int→List Int}{need:Nat}(hm:2 ^ 30≤m)(ok:iD l)(V:Ek cls l root rec df need){v:aa}(h8:v.args.length≤8)(ha:∀a∈v.args,0≤a∧a<l.length){o0:List Int}{MT:List aa}(Ir:l.length<need+o0.length):∀(f t:Nat) (o:List Int) (ns:List aa),v.args.length - t<f→t≤v.args.length→Ps cls l o0 o MT ns→(∀a∈v.args.take t,cW cls a∈o.map (cW cls))→
  ∃o' wM x,o'=(v.args.drop t).foldl (fun o a=>df a o) o∧aI.l0 m cls ⟨l,root⟩ rec v f ((v.args.take t).map (idx cls o)) (t:Int) (iX (o.map (cW cls)) 0) ⟨ns,0⟩=some (v.args.map (idx cls o'),x,iX (o'.map (cW cls)) 0,⟨wM,0⟩)∧Ps cls l o0 o' MT wM∧∀a∈v.args,cW cls a∈o'.map (cW cls)
 | 0,t,o,ns,hf,_,_,_=>absurd hf (by omega)
 | f+1,t,o,ns,hf,ht,P,hin=>by
  have lz:(2:Nat) ^ 30=1073741824:=by decide
  unfold aI.l0
  by_cases h:t<v.args.length
  ·obtain⟨b0,b1⟩:=ha _ (aE h)
   have QF:o0.length≤o.length:=by obtain⟨s,rfl⟩:=P.pre; simp
   obtain⟨O9,k1,P1,IX⟩:=V (gt v.args t) o ns b0 b1 P.vs P.len (by omega)
   obtain⟨s,hs⟩:=P1.pre
   have hT1:v.args.take (t+1)=v.args.take t++[gt v.args t]:=by rw [RU,aV h]; rfl
   have hD:v.args.drop t=gt v.args t::v.args.drop (t+1):=by
    obtain⟨h4,h5⟩:=QX.1 (aV h)
    rw [←h5]; exact Q9 h4
   have Lc:∀a∈v.args.take (t+1),cW cls a∈(df (gt v.args t) o).map (cW cls):=fun a ha=>by
    rw [hT1] at ha
    rcases Q7.1 ha with ha | ha
    ·rw [hs,Ri]; exact Rx _ (hin a ha)
    ·simp only [QY] at ha; subst ha; exact IX
   obtain⟨o',wM,x,e,k2,P2,h2⟩:=BE hm ok V h8 ha Ir f (t+1) (df (gt v.args t) o) O9 (by omega) (by omega) (P.trans P1) Lc
   refine⟨o',wM,x,by rw [hD]; exact e,?_,P2,h2⟩
   have e1:i64.wrap ((t:Int)+1)=((t+1:Nat):Int):=by rw [aD (by omega) (by omega)]; omega
   have nJ:app 8 ((v.args.take t).map (idx cls o)) [idx cls (df (gt v.args t) o) (gt v.args t)]=some ((v.args.take (t+1)).map (idx cls (df (gt v.args t) o))):=by
    unfold app
    rw [if_pos (by simp; omega),hT1,Ri]
    congr 2
    exact Sk fun a ha=>by rw [hs]; exact (lj (hin a ha)).symm
   rw [if_pos (by simp only [decide_eq_true_eq]; omega),bH h,QM,k1,QM,nJ,QM,e1]
   exact k2
  ·have:t=v.args.length:=by omega
   subst this
   rw [RV] at hin ⊢
   exact⟨o,ns,_,by rw [List.drop_length]; rfl,by rw [if_neg (by simp)],P,hin⟩
theorem qm (hm:2 ^ 30≤m)(ok:iD l)(hc:cls.length=l.length):∀k,Ek cls l root (aI.f m k) (nT cls l k) k
 | 0=>fun i o ns h0 h1 v hl hn=>absurd v.zx (by omega)
 | k+1=>fun i o ns h0 h1 v hl hn=>by
  have lz:(2:Nat) ^ 30=1073741824:=by decide
  have h8000:=ok.1
  have F5:=v.zx
  show ∃wM,aI.b m (aI.f m k) i (iX (o.map (cW cls)) 0) cls ⟨ns,0⟩ ⟨l,root⟩=_∧_
  unfold aI.b
  have hx:ix cls i=some (cW cls i):=ef (by omega) (by omega)
  rw [hx,QM,rR,Re]
  by_cases h:cW cls i∈o.map (cW cls)
  ·have hd:nT cls l (k+1) i o=o:=by unfold nT; rw [if_pos h]
   rw [hd,if_pos h]
   exact⟨ns,rfl,Ps.refl v hl,h⟩
  ·have hd:nT cls l (k+1) i o=(nd l i).args.foldl (fun o a=>nT cls l k a o) (o++[i]):=by
    show (if cW cls i∈o.map (cW cls) then o else (nd l i).args.foldl (fun o a=>nT cls l k a o) (o++[i]))=_
    rw [if_neg h]
   have v1:Vs cls l.length (o++[i]):=by
    refine⟨?_,fun x hx=>?_⟩
    ·rw [Ri,R0]
     refine⟨v.CF,by simp,fun a ha b hb=>?_⟩
     simp only [Rq,List.map_nil,QY] at hb
     subst hb; intro e; subst e; exact h ha
    ·rcases Q7.1 hx with hx | hx
     ·exact v.jx x hx
     ·simp only [QY] at hx; subst hx; exact⟨h0,h1⟩
   have BF:=v1.zx
   simp only [Q0,RA,RN] at BF
   have nJ:app 56 ns [(⟨(nd l i).kind,(nd l i).int,(nd l i).label,[]⟩:aa)]=some (ns++[⟨(nd l i).kind,(nd l i).int,(nd l i).label,[]⟩]):=by
    unfold app; rw [if_pos (by simp; omega)]
   have Hs:AR (iX (o.map (cW cls)) 0) (cW cls i) ((ns.length:Nat):Int)=iX ((o++[i]).map (cW cls)) 0:=by
    have:=rS (o.map (cW cls)) 0 (cW cls i) h
    rw [Re,RE,←hl] at this
    rw [this,Ri]; rfl
   obtain⟨n1,n2⟩:=ok.2 _ (dq h0 h1)
   have P0:Ps cls l (o++[i]) (o++[i]) (ns++[⟨(nd l i).kind,(nd l i).int,(nd l i).label,[]⟩]) (ns++[⟨(nd l i).kind,(nd l i).int,(nd l i).label,[]⟩]):=Ps.refl v1 (by simp [hl])
   obtain⟨o',wM,x,e,k2,P2,h2⟩:=BE (m:=m) (v:=nd l i) (need:=k) hm ok (qm hm ok hc k) n1 n2 (o0:=o++[i]) (by simp; omega) m 0 (o++[i]) _ (by omega) (by omega) P0 (fun a ha=>by simp at ha)
   rw [Rr] at e
   rw [List.take_zero,List.map_nil] at k2
   have k2:aI.l0 m cls ⟨l,root⟩ (aI.f m k) (nd l i) m [] 0 _ _=_:=k2
   obtain⟨s,hs⟩:=P2.pre
   have CT:o.length<o'.length:=by rw [hs]; simp
   have Is:wM[o.length]? = some ⟨(nd l i).kind,(nd l i).int,(nd l i).label,[]⟩:=by
    rw [P2.old _ (by simp),←hl,Rg (QS _),Sf]; rfl
   have Im:ix wM ((ns.length:Nat):Int)=some ⟨(nd l i).kind,(nd l i).int,(nd l i).label,[]⟩:=by
    unfold ix; rw [if_pos (by omega),QT,hl,Is]
   have MU:gt o' o.length=i:=by
    rw [hs,dI (by simp)]
    unfold gt; rw [Q5,Rg (QS _),Sf]; rfl
   have Ld:idx cls o' i=(o.length:Nat):=by
    rw [hs,lj (by simp)]
    unfold idx
    rw [Ri,RZ,if_neg h]; simp
   rw [hd,←e,if_neg h,if_neg (by simp),QM,eX h0 h1,QM,nJ,QM,Hs,k2,QM]
   dsimp only
   rw [Im,QM,QT,Ld,hl]
   refine⟨_,rfl,⟨P2.vs,⟨[i]++s,by rw [hs]; simp⟩,by simpa using P2.len,fun q hq=>?_,fun q h3 h4=>?_,fun q h3 h4 a ha=>?_⟩,by rw [hs]; simp⟩
   ·rw [Sw (by omega),P2.old q (by simp; omega),Rs (by omega)]
   ·by_cases hq:q=o.length
    ·subst hq
     rw [Sm (by rw [P2.len]; omega),MU]; rfl
    ·rw [Sw (by omega)]
     exact P2.new q (by simp; omega) h4
   ·by_cases hq:q=o.length
    ·subst hq; rw [MU] at ha; exact h2 a ha
    ·exact P2.arg q (by simp; omega) h4 a ha
end
theorem qn {m:Nat}(hm:2 ^ 41≤m){t:aw}(ok:iD t.nodes)(h1:1≤t.nodes.length)(r0:0≤t.root)(r1:t.root<t.nodes.length)(Inv:List Int→Prop)
  (hI0:∀d out,d.Perm (ints t.nodes.length)→(Ord (fun x y=>cT (nd t.nodes x) (nd t.nodes y)) (ints t.nodes.length)→Sg (fun x y=>cT (nd t.nodes x) (nd t.nodes y)) d 0 t.nodes.length)→(∀k,k<t.nodes.length→gt out (gt d k).toNat=rk t.nodes d k)→Inv out)
  (hI:∀out many ks next,Part t.nodes.length out many→Inv out→ni t.nodes out t.nodes.length ks→next.length=t.nodes.length→(∀i,i<t.nodes.length→gt next i=(ks.idxOf (key out (nd t.nodes i) i):Int))→Inv next) :
  ∃cls many ks ns,bA.f m t=some ⟨ns,0⟩∧Part t.nodes.length cls many∧Inv cls∧ni t.nodes cls t.nodes.length ks∧ks.length=many+1∧Ps cls t.nodes [] (nT cls t.nodes m t.root []) [] ns∧cW cls t.root∈(nT cls t.nodes m t.root []).map (cW cls):=by
 have lz:(2:Nat) ^ 30=1073741824:=by decide
 have tj:(2:Nat) ^ 41=2199023255552:=by decide
 have h8000:=ok.1
 obtain⟨cls,many,ks,k1,P,I,K,vJ⟩:=s4 hm ok h1 Inv hI0 hI
 obtain⟨ns,k2,P2,h2⟩:=qm (m:=m) (root:=t.root) (by omega) ok P.len m t.root [] [] r0 r1 ⟨by simp,fun x hx=>by simp at hx⟩ rfl (by simp; omega)
 refine⟨cls,many,ks,ns,?_,P,I,K,vJ,P2,h2⟩
 unfold bA.f
 have k2:aI.f m m t.root [] cls ⟨[],0⟩ t=_:=k2
 rw [k1,QM,k2]; rfl
end Go.Proofs.YtmekcfdllhphlaaDoor
namespace Go.Proofs.YtmekcfdllhphlaaDoor
open Go Go.R
open Go.IntKind (i64 u64 u8 u32)
theorem qo:∀(x:List UInt8),Op.bytesLess x x=false
 | []=>rfl
 | a::x=>by simp [Op.bytesLess,qo x]
theorem s5:∀(x y:List UInt8),Op.bytesLess x y=true→Op.bytesLess y x=false
 | _,[],h=>by cases ‹List UInt8›<;>simp [Op.bytesLess] at h
 | [],b::y,_=>rfl
 | a::x,b::y,h=>by
  simp only [Op.bytesLess,RD,QR,decide_eq_true_eq,beq_iff_eq] at h
  simp only [Op.bytesLess,Bool.or_eq_false_iff,Bool.and_eq_false_iff,decide_eq_false_iff_not,beq_eq_false_iff_ne]
  rcases h with h | ⟨rfl,h⟩
  ·refine⟨fun h2=>?_,.inl fun e=>?_⟩
   ·rw [Sb] at h h2; omega
   ·subst e; rw [Sb] at h; omega
  ·exact⟨by rw [Sb]; omega,.inr (s5 x y h)⟩
theorem BG:∀(x y:List UInt8),Op.bytesLess x y=true∨x=y∨Op.bytesLess y x=true
 | [],[]=>.inr (.inl rfl)
 | [],b::y=>.inl rfl
 | a::x,[]=>.inr (.inr rfl)
 | a::x,b::y=>by
  simp only [Op.bytesLess,RD,QR,decide_eq_true_eq,beq_iff_eq,List.cons.injEq]
  rcases Nat.lt_trichotomy a.toNat b.toNat with h | h | h
  ·exact .inl (.inl (Sb.2 h))
  ·have:a=b:=UInt8.toNat_inj.1 h
   subst this
   rcases BG x y with h1 | h1 | h1
   ·exact .inl (.inr ⟨rfl,h1⟩)
   ·exact .inr (.inl ⟨rfl,h1⟩)
   ·exact .inr (.inr (.inr ⟨rfl,h1⟩))
  ·exact .inr (.inr (.inl (Sb.2 h)))
theorem uE:∀(x y z:List UInt8),Op.bytesLess x y=true→Op.bytesLess y z=true→Op.bytesLess x z=true
 | _,_,[],_,h=>by cases ‹List UInt8›<;>simp [Op.bytesLess] at h
 | _,[],c::z,h,_=>by cases ‹List UInt8›<;>simp [Op.bytesLess] at h
 | [],b::y,c::z,_,_=>rfl
 | a::x,b::y,c::z,h1,h2=>by
  simp only [Op.bytesLess,RD,QR,decide_eq_true_eq,beq_iff_eq] at h1 h2 ⊢
  rcases h1 with h1 | ⟨rfl,h1⟩
  ·rcases h2 with h2 | ⟨rfl,h2⟩
   ·left; rw [Sb] at *; omega
   ·exact .inl h1
  ·rcases h2 with h2 | ⟨rfl,h2⟩
   ·exact .inl h2
   ·exact .inr ⟨rfl,uE x y z h1 h2⟩
theorem wN {x y:ByteArray}(h:x.data.toList=y.data.toList):x=y:=by
 cases x with | mk a=>cases y with | mk b=>cases a; cases b; simp only at h; subst h; rfl
structure F6 {α:Type}(c:α→α→Int):Prop where
 zero:∀x y,c x y=0→x=y
 refl:∀x,c x x=0
 neg:∀x y,c y x = - c x y
 tr:∀x y z,c x y≤0→c y z≤0→c x z≤0
theorem j5:F6 cI:=by
 refine⟨fun x y h=>?_,fun x=>?_,fun x y=>?_,fun x y z h1 h2=>?_⟩
 ·unfold cI at h; split at h
  ·omega
  ·split at h<;>omega
 ·unfold cI; simp
 ·unfold cI; split<;>split<;>(try split)<;>omega
 ·unfold cI at *
  split at h1<;>split at h2<;>(try split at h1)<;>(try split at h2)<;>(try omega)<;>split<;>(try split)<;>omega
theorem uF (x y:ByteArray):cS x y=if Op.bytesLess x.data.toList y.data.toList=true then -1 else if x=y then 0 else 1:=by
 unfold cS AO
 cases h:Op.bytesLess x.data.toList y.data.toList with
 | true=>rfl
 | false=>
  simp only [Bool.false_or,Q6,if_false]
  by_cases e:x=y
  ·subst e; simp
  ·rw [if_neg e]
   have:(x.data.toList==y.data.toList)=false:=by
    rw [beq_eq_false_iff_ne]; exact fun h=>e (wN h)
   rw [this]; rfl
theorem BH:F6 cS:=by
 refine⟨fun x y h=>?_,fun x=>?_,fun x y=>?_,fun x y z h1 h2=>?_⟩
 ·rw [uF] at h
  split at h
  ·omega
  ·split at h
   ·assumption
   ·omega
 ·rw [uF,qo]; simp
 ·rw [uF,uF]
  rcases BG x.data.toList y.data.toList with h | h | h
  ·have h2:=s5 _ _ h
   have hne:¬y=x:=fun e=>by subst e; rw [qo] at h; cases h
   rw [if_pos h,h2]; simp [hne]
  ·have:=wN h
   subst this
   rw [qo]; simp
  ·have h2:=s5 _ _ h
   have hne:¬x=y:=fun e=>by subst e; rw [qo] at h; cases h
   rw [if_pos h,h2]; simp [hne]
 ·rw [uF] at h1 h2 ⊢
  split at h1
  ·rename_i g1
   split at h2
   ·rename_i g2
    rw [if_pos (uE _ _ _ g1 g2)]; omega
   ·split at h2
    ·rename_i e; subst e; rw [if_pos g1]; omega
    ·omega
  ·split at h1
   ·rename_i e; subst e
    split at h2
    ·rename_i g2; rw [if_pos g2]; omega
    ·split at h2
     ·rename_i g e; rw [if_neg g,if_pos e]; omega
     ·omega
   ·omega
theorem BI {α β:Type}{c:α→α→Int}{d:β→β→Int}(C:F6 c)(D:F6 d):F6 fun (p q:α × β)=>zt (c p.1 q.1) (d p.2 q.2):=by
 refine⟨fun x y h=>?_,fun x=>?_,fun x y=>?_,fun x y z h1 h2=>?_⟩
 ·unfold zt at h
  split at h
  ·rename_i h1; exact Prod.ext (C.zero _ _ h1) (D.zero _ _ h)
  ·exact absurd h ‹_›
 ·unfold zt; rw [C.refl,if_pos rfl,D.refl]
 ·skip
  unfold zt
  have:=C.neg x.1 y.1
  by_cases h:c x.1 y.1=0
  ·rw [if_pos h,if_pos (by omega),D.neg]
  ·rw [if_neg h,if_neg (by omega),C.neg]
 ·skip
  unfold zt at *
  by_cases a:c x.1 y.1=0
  ·rw [if_pos a] at h1
   have e:=C.zero _ _ a
   rw [←e] at h2
   by_cases b:c x.1 z.1=0
   ·rw [if_pos b] at h2 ⊢; exact D.tr _ _ _ h1 h2
   ·rw [if_neg b] at h2 ⊢; exact h2
  ·rw [if_neg a] at h1
   have hz:c x.1 z.1≤0:=by
    by_cases b:c y.1 z.1=0
    ·rw [←C.zero _ _ b]; exact h1
    ·rw [if_neg b] at h2; exact C.tr _ _ _ h1 h2
   have hne:c x.1 z.1≠0:=fun e=>by
    have e1:=C.zero _ _ e
    by_cases b:c y.1 z.1=0
    ·have e2:=C.zero _ _ b; rw [e1,←e2] at a; exact a (C.refl _)
    ·rw [if_neg b,←e1] at h2
     have:=C.neg x.1 y.1; omega
   rw [if_neg hne]; exact hz
theorem yb:F6 fun (p q:Int × ByteArray)=>zt (cI p.1 q.1) (cS p.2 q.2):=BI j5 BH
theorem yc:F6 fun (p q:ByteArray × Int)=>zt (cS p.1 q.1) (cI p.2 q.2):=BI BH j5
theorem jm {a b:aa}(h:a.kind=b.kind):cT a b=if a.kind=3 then zt (cI a.args.length b.args.length) (cS a.label b.label) else zt (cS a.label b.label) (cI a.int b.int):=by unfold cT; rw [if_pos h]
theorem gI {a b:aa}(h:a.kind≠b.kind):cT a b=cI a.kind b.kind:=by unfold cT; rw [if_neg h]
theorem gj (a b:aa):cT b a = - cT a b:=by
 by_cases h:a.kind=b.kind
 ·rw [jm h,jm h.symm,←h]
  split
  ·exact yb.neg ((a.args.length:Int),a.label) ((b.args.length:Int),b.label)
  ·exact yc.neg (a.label,a.int) (b.label,b.int)
 ·rw [gI h,gI (R8 h)]; exact j5.neg _ _
theorem uG (a b c:aa)(h1:cT a b≤0)(h2:cT b c≤0):cT a c≤0:=by
 by_cases e1:a.kind=b.kind
 ·by_cases e2:b.kind=c.kind
  ·rw [jm e1] at h1
   rw [jm e2,←e1] at h2
   rw [jm (e1.trans e2)]
   split
   ·rename_i h3; rw [if_pos h3] at h1 h2
    exact yb.tr ((a.args.length:Int),a.label) ((b.args.length:Int),b.label) ((c.args.length:Int),c.label) h1 h2
   ·rename_i h3; rw [if_neg h3] at h1 h2
    exact yc.tr (a.label,a.int) (b.label,b.int) (c.label,c.int) h1 h2
  ·rw [gI e2] at h2
   rw [gI (by rw [e1]; exact e2),e1]; exact h2
 ·rw [gI e1] at h1
  by_cases e2:b.kind=c.kind
  ·rw [gI (by rw [←e2]; exact e1),←e2]; exact h1
  ·rw [gI e2] at h2
   have n1:cI a.kind b.kind≠0:=fun h=>e1 (j5.zero _ _ h)
   have n2:cI b.kind c.kind≠0:=fun h=>e2 (j5.zero _ _ h)
   by_cases e3:a.kind=c.kind
   ·rw [←e3] at h2
    have:=j5.neg a.kind b.kind
    omega
   ·rw [gI e3]; exact j5.tr _ _ _ h1 h2
structure Alike (a b:aa):Prop where
 kind:a.kind=b.kind
 int:a.int=b.int
 label:a.label=b.label
 len:a.args.length=b.args.length
theorem Alike.refl (a:aa):Alike a a:=⟨rfl,rfl,rfl,rfl⟩
theorem Alike.symm {a b:aa}(h:Alike a b):Alike b a:=⟨h.1.symm,h.2.symm,h.3.symm,h.4.symm⟩
theorem Alike.trans {a b c:aa}(h:Alike a b)(k:Alike b c):Alike a c:=⟨h.1.trans k.1,h.2.trans k.2,h.3.trans k.3,h.4.trans k.4⟩
theorem Alike.cT {a b:aa}(h:Alike a b):cT a b=0:=by
 rw [jm h.kind]
 split
 ·rw [h.len,h.label]; exact yb.refl ((b.args.length:Int),b.label)
 ·rw [h.label,h.int]; exact yc.refl (b.label,b.int)
theorem BJ {a b:aa}(h:cT a b=0)(ha:a.kind=3→a.int=0)(hb:b.kind=3→b.int=0)(Pa:a.kind≠3→a.args=[])(hb2:b.kind≠3→b.args=[]):Alike a b:=by
 by_cases e:a.kind=b.kind
 ·rw [jm e] at h
  split at h
  ·rename_i h3
   have:=yb.zero ((a.args.length:Int),a.label) ((b.args.length:Int),b.label) h
   simp only [QV] at this
   exact⟨e,by rw [ha h3,hb (by rw [←e]; exact h3)],this.2,by omega⟩
  ·rename_i h3
   have:=yc.zero (a.label,a.int) (b.label,b.int) h
   simp only [QV] at this
   exact⟨e,this.2,this.1,by rw [Pa h3,hb2 (by rw [←e]; exact h3)]⟩
 ·rw [gI e] at h
  exact absurd (j5.zero _ _ h) e
theorem F7 (l:List aa)(s:List Int):Ord (fun x y=>cT (nd l x) (nd l y)) s:=by
 refine⟨fun x _ y _ z _ h1 h2=>?_,fun x _ y _ h=>?_⟩
 ·skip
  have a1:=gj (nd l x) (nd l y)
  have a2:=gj (nd l y) (nd l z)
  have a3:=gj (nd l x) (nd l z)
  have:=uG (nd l x) (nd l y) (nd l z) (by omega) (by omega)
  omega
 ·skip
  have a1:=gj (nd l x) (nd l y)
  omega
end Go.Proofs.YtmekcfdllhphlaaDoor
namespace Go.Proofs.YtmekcfdllhphlaaDoor
open Go Go.R
open Go.IntKind (i64 u64 u8 u32)
end Go.Proofs.YtmekcfdllhphlaaDoor
namespace Go.Proofs.YtmekcfdllhphlaaDoor
open Go Go.R
open Go.IntKind (i64 u64 u8 u32)
end Go.Proofs.YtmekcfdllhphlaaDoor
namespace Go.Proofs.YtmekcfdllhphlaaDoor
open Go Go.R
open Go.IntKind (i64 u64 u8 u32)
end Go.Proofs.YtmekcfdllhphlaaDoor
namespace Go.Proofs.YtmekcfdllhphlaaDoor
open Go Go.R
open Go.IntKind (i64 u64 u8 u32)
end Go.Proofs.YtmekcfdllhphlaaDoor
namespace Go.Proofs.YtmekcfdllhphlaaDoor
open Go Go.R
open Go.IntKind (i64 u64 u8 u32)
end Go.Proofs.YtmekcfdllhphlaaDoor
namespace Go.Proofs.YtmekcfdllhphlaaDoor
open Go Go.R
open Go.IntKind (i64 u64 u8 u32)
end Go.Proofs.YtmekcfdllhphlaaDoor
namespace Go.Proofs.YtmekcfdllhphlaaDoor
open Go Go.R
open Go.IntKind (i64 u64 u8 u32)
end Go.Proofs.YtmekcfdllhphlaaDoor
namespace Go.Proofs.YtmekcfdllhphlaaDoor
open Go Go.R
open Go.IntKind (i64 u64 u8 u32)
end Go.Proofs.YtmekcfdllhphlaaDoor
namespace Go.Proofs.YtmekcfdllhphlaaDoor
open Go Go.R
open Go.IntKind (i64 u64 u8 u32)
end Go.Proofs.YtmekcfdllhphlaaDoor
namespace Go.Proofs.YtmekcfdllhphlaaDoor
open Go Go.R
open Go.IntKind (i64 u64 u8 u32)
end Go.Proofs.YtmekcfdllhphlaaDoor
namespace Go.Proofs.YtmekcfdllhphlaaDoor
open Go Go.R
open Go.IntKind (i64 u64 u8 u32)
end Go.Proofs.YtmekcfdllhphlaaDoor
namespace Go.Proofs.YtmekcfdllhphlaaDoor
open Go Go.R
open Go.IntKind (i64 u64 u8 u32)
end Go.Proofs.YtmekcfdllhphlaaDoor
namespace Go.Proofs.YtmekcfdllhphlaaDoor
open Go Go.R
open Go.IntKind (i64 u64 u8 u32)
end Go.Proofs.YtmekcfdllhphlaaDoor
namespace Go.Proofs.YtmekcfdllhphlaaDoor
open Go Go.R
open Go.IntKind (i64 u64 u8 u32)
end Go.Proofs.YtmekcfdllhphlaaDoor
