/- Proved: PickleMany returns true for every input, over the card of its one listed variable; no condition. -/
import Derived.Test.YtmekcfdllhphlaaDoorK13
import Derived.Test.YtmekcfdllhphlaaDoorChecked
import Derived.Test.YtmekcfdllhphlaaDoorRows
import Derived.Test.YtmekcfdllhphlaaDoorCards
import Derived.Test.YtmekcfdllhphlaaDoorTie
import Derived.ChangeSame
import Derived.ChangeVars
import Derived.JoinedOf
import Derived.LaidLaws
import Derived.LaidHandle
import Derived.Lay
import Derived.Stop.Joined
import Derived.SevenTiedAt
set_option linter.unusedVariables false
set_option linter.unusedSimpArgs false
set_option maxRecDepth 100000
open Int renaming toNat_natCast → V9
open List renaming append_assoc → Wg, drop_eq_getElem_cons → Wi, cons_append → Wt, nil_append → Wz, mem_cons → WG, take_length → W9, getElem_mem → Xa
open Option renaming bind_some → V3, map_eq_some_iff → V5
open Option.some renaming inj → Wy
open Or renaming inr → WZ, inl → Xt
namespace Go.Proofs.YtmekcfdllhphlaaDoor
open Go Go.R
open Go.IntKind (i64 u64 u8 u32)
def DC:cb:=gJ [0,2,3,4,5,6,7,8,9,10,11,12,13,14,15,16,17,20,36,83,87,140] [] [4194302,4063230,4194301,4194290,4194246,4194182,4194054,3931910,4194054,4194054,4193478,4190662,3668974,4194301,4189166,3140590,4189166,4164590,4074478,2092014,4194301,4194301] [(10,[(7,none,0)])] [(5,[(7,none,2)])]
def aF.l0 (m:Nat)(l0:List aj):Nat→(List aj)→Int→Option ((List aj) × Int)
 | 0,_,_=>none
 | k+1,jM,i0=>if (decide (i0≥(0:Int)))=true then ((ix l0 i0).bind fun v0=>(app 32 jM ([v0])).bind fun x4=>aF.l0 m l0 k x4 (i64.wrap (i0 - (1:Int)))) else (some ((jM,i0)))
def aF.l1 (m:Nat)(l0:List aj)(x3:(List aj) × Int)(x6:(List aj) × Int):Nat→Int→Option (Sum Bool (Int))
 | 0,_=>none
 | k+1,i2=>if (decide (i2<(l0.length:Int)))=true then ((nA l0 i2 (i64.wrap (i2+(1:Int)))).bind fun v1=>(bS.f m v1).bind fun x7=>(bb.f m x7.1).bind fun x8=>if (!(x7.2==(0:Int)))=true then (some (.inl false)) else (if (!(x8.2==(0:Int)))=true then (some (.inl false)) else (if (!((x8.1.length:Int)==(1:Int)))=true then (some (.inl false)) else ((ix x8.1 (0:Int)).bind fun v2=>(ix x3.1 i2).bind fun v3=>(aU.f m v2 v3).bind fun x9=>if (!x9)=true then (some (.inl false)) else ((ix x8.1 (0:Int)).bind fun v4=>(ix x6.1 (i64.wrap (i64.wrap ((l0.length:Int) - (1:Int)) - i2))).bind fun v5=>(aU.f m v4 v5).bind fun lk=>if (!lk)=true then (some (.inl false)) else (aF.l1 m l0 x3 x6 k (i64.wrap (i2+(1:Int))))))))) else (some (.inr i2))
def aF.f (m:Nat)(l0:List aj):Option (Bool):=(aZ.f m l0).bind fun x0=>if (!x0)=true then ((lW.f m).bind fun x1=>some x1) else ((bS.f m l0).bind fun x2=>(bb.f m x2.1).bind fun x3=>(aF.l0 m l0 m ([]:List aj) (i64.wrap ((l0.length:Int) - (1:Int)))).bind fun bq=>match bq with | (GH,i1)=>(bS.f m GH).bind fun x5=>(bb.f m x5.1).bind fun x6=>if (!(x2.2==(0:Int)))=true then (some false) else (if (!(x3.2==(0:Int)))=true then (some false) else (if (!(x5.2==(0:Int)))=true then (some false) else (if (!(x6.2==(0:Int)))=true then (some false) else (if (!((x3.1.length:Int)==(l0.length:Int)))=true then (some false) else (if (!((x6.1.length:Int)==(l0.length:Int)))=true then (some false) else ((aF.l1 m l0 x3 x6 m (0:Int)).bind fun b9=>match b9 with | .inl r0=>some r0 | .inr i3=>(lW.f m).bind fun BR=>some BR)))))))
def aF.fin (L:Mem)(r:Bool)(s:St):Prop:=∃av,aI Tryd.prog (s.open DC) Tryd.f5.results.toList=some av∧fT s.h av (.bool r)
def S5 (cf:CallF)(m:Nat):Prop:=∀(l0:List aj) (r:Bool),aF.f m l0=some r→∀h xs,eN fc h xs [aJ.fz l0]→cf 5 xs h=some (.bool r,h)
section
variable {cf:CallF}{m:Nat}
theorem aF.bI (L:Mem)(l0:List aj)(x2:(List Int) × Int)(x3:(List aj) × Int)   : bE Tryd.prog cf DC m (sub [1,1,1,1,1,0,1,0,0] (codeOf Tryd.f5)) (fun k (σ:(List aj) × Int)=>aF.l0 m l0 k σ.1 σ.2) (fun σ s=>match σ with | (jM,i0)=>∃aA h0,s=⟨aJ.fz l0 :: .any :: .any :: .int .i64 x2.2::aJ.fz x3.1 :: .int .i64 x3.2 :: .rs aA 0 jM.length 2 :: .int .i64 i0::pS [],[],h0⟩∧Has h0 ((aA,.sl jM.length 2 (aJ.l jM))::L)) (fun out e s=>(e = .exit 0∧∃jM i0,(jM,i0)=out∧∃oR Kq aA h0,s=⟨aJ.fz l0 :: .any :: .any :: .int .i64 x2.2::aJ.fz x3.1 :: .int .i64 x3.2 :: .rs aA 0 jM.length 2::oR::wK (Kq::ke []),[],h0⟩∧Has h0 ((aA,.sl jM.length 2 (aJ.l jM))::L))):=by
 refine gP (fun _=>rfl) ?_
 rintro k ⟨jM,i0⟩ s out ⟨aA,h0,rfl,o1⟩ H
 have H:aF.l0 m l0 (k+1) jM i0=some out:=H
 refine qq <| qq <| q0 <| qc H (fun c1 H=>?_) (fun c1 H=>?_)
 ·refine qk <| qq <| qb 1 ?_
  obtain⟨v0,e4,H⟩:=aH H
  obtain⟨x4,e5,H⟩:=aH H
  obtain⟨fV,h1,e6,o2⟩:=fD (P:=Tryd.prog) (E:=aJ) (l:=jM) (q:=0) (t2:=22) (x:=.fz [af.fz v0.nodes,.int .i64 v0.root] 1 true) (l2:=([v0])) vi o1 rfl (by kernel_rfl) rfl e5
  exact qr [.v 3 (bo (k:=.i64) (E:=aJ) (l:=l0) vi e4),.v 4 (cL  (E:=aJ) (l:=l0) h0 EZ E0 e4),.a 6 e6] <| q0 <| ⟨(x4,i64.wrap (i0 - (1:Int))),⟨fV,h1,by kernel_rfl,o2⟩,H⟩
 ·exact qx 0 <| ⟨rfl,jM,i0,oi H,.int .i64 i0,.bool (decide (i0≥(0:Int))),aA,h0,by kernel_rfl,o1⟩
theorem aF.eQ (L:Mem)(l0:List aj)(x3:(List aj) × Int)(x6:(List aj) × Int)  (AF:N6 cf m)(GI:Ql cf m)(GJ:Qj cf m):bE Tryd.prog cf DC m (sub [1,1,1,1,1,1,1,1,1,0,1,0,0] (codeOf Tryd.f5)) (fun k (σ:Int)=>aF.l1 m l0 x3 x6 k σ) (fun σ s=>match σ with | i2=>∃h4,s=⟨aJ.fz l0::ke (aJ.fz x3.1::sY (aJ.fz x6.1 :: .any :: .int .i64 i2::C3 [])),[],h4⟩∧Has h4 (L)) (fun out e s=>(e = .exit 2∧∃i2,.inr i2=out∧∃kC uE Af nE Kf h4,s=⟨kC::ke (uE::sY (Af :: .any::nE::C2 [Kf,.any])),[],h4⟩∧Has h4 (L))∨(e = .ret∧∃r,.inl r=out∧aF.fin L r s)):=by
 refine gP (fun _=>rfl) ?_
 rintro k i2 s out ⟨h4,rfl,o5⟩ H
 have H:aF.l1 m l0 x3 x6 (k+1) i2=some out:=H
 refine qq <| qq <| q0 <| qc H (fun rn H=>?_) (fun rn H=>?_)
 ·refine qk <| qq <| qb 3 <| qq ?_
  obtain⟨v1,qS,H⟩:=aH H
  obtain⟨x7,rX,H⟩:=aH H
  refine qr [.v 4 (show eG Tryd.prog 22 (aJ.fz l0) (some (.int .i64 i2)) (some (.int .i64 (i64.wrap (i2+(1:Int))))) none=some (aJ.fz v1) from Bk (E:=aJ) vi qS),.a 5 (AF _ _ rX h4 _ (cR (ib (E:=aJ)) (gH)))] <| qq ?_
  obtain⟨x8,rY,H⟩:=aH H
  refine qr [.a 1 (GJ _ _ rY h4 _ (cR (ib (E:=au)) (gH)))] <| qq ?_
  rcases dt H with⟨mY,H⟩| ⟨mY,H⟩
  ·exact qr [.b 2 mY] <| mX <| qq <| q0 <| qt <| WZ (⟨rfl,_,oi H,bZ (.bool false) h4 (bX (ak))⟩)
  ·rcases dt H with⟨xu,H⟩| ⟨xu,H⟩
   ·exact qr [.b 2 mY,.b 6 xu] <| mX <| qq <| q0 <| qt <| WZ (⟨rfl,_,oi H,bZ (.bool false) h4 (bX (ak))⟩)
   ·rcases dt H with⟨DL,H⟩| ⟨DL,H⟩
    ·exact qr [.b 2 mY,.b 6 xu,.b 11 DL] <| mX <| qq <| q0 <| qt <| WZ (⟨rfl,_,oi H,bZ (.bool false) h4 (bX (ak))⟩)
    ·obtain⟨v2,qT,H⟩:=aH H
     obtain⟨v3,pX,H⟩:=aH H
     obtain⟨x9,uC,H⟩:=aH H
     rcases dt H with⟨DN,H⟩| ⟨DN,H⟩
     ·exact qr [.b 2 mY,.b 6 xu,.b 11 DL,.v 13 (bo (k:=.i64) (E:=aJ) (l:=x8.1) vi qT),.v 14 (cL  (E:=aJ) (l:=x8.1) h4 EZ E0 qT),.v 17 (bo (k:=.i64) (E:=aJ) (l:=x3.1) vi pX),.v 18 (cL  (E:=aJ) (l:=x3.1) h4 EZ E0 pX),.a 19 (GI _ _ _ uC h4 _ (gO (ae (cP (ae (cK (E:=af)) (ae (aM) (az)))) (ae (cP (ae (cK (E:=af)) (ae (aM) (az)))) (az))))),.b 22 DN] <| mX <| qq <| q0 <| qt <| WZ (⟨rfl,_,oi H,bZ (.bool false) h4 (bX (ak))⟩)
     ·obtain⟨v4,uf,H⟩:=aH H
      obtain⟨v5,yD,H⟩:=aH H
      obtain⟨lk,uD,H⟩:=aH H
      refine qr [.b 2 mY,.b 6 xu,.b 11 DL,.v 13 (bo (k:=.i64) (E:=aJ) (l:=x8.1) vi qT),.v 14 (cL  (E:=aJ) (l:=x8.1) h4 EZ E0 qT),.v 17 (bo (k:=.i64) (E:=aJ) (l:=x3.1) vi pX),.v 18 (cL  (E:=aJ) (l:=x3.1) h4 EZ E0 pX),.a 19 (GI _ _ _ uC h4 _ (gO (ae (cP (ae (cK (E:=af)) (ae (aM) (az)))) (ae (cP (ae (cK (E:=af)) (ae (aM) (az)))) (az))))),.b 22 DN,.v 24 (bo (k:=.i64) (E:=aJ) (l:=x8.1) vi uf),.v 25 (cL  (E:=aJ) (l:=x8.1) h4 EZ E0 uf),.v 32 (bo (k:=.i64) (E:=aJ) (l:=x6.1) vi yD),.v 33 (cL  (E:=aJ) (l:=x6.1) h4 EZ E0 yD),.a 34 (GI _ _ _ uD h4 _ (gO (ae (cP (ae (cK (E:=af)) (ae (aM) (az)))) (ae (cP (ae (cK (E:=af)) (ae (aM) (az)))) (az)))))] ?_
      refine qc H (fun Nr H=>?_) (fun Nr H=>?_)
      ·exact q1 <| qt <| WZ (⟨rfl,_,oi H,bZ (.bool false) h4 (bX (ak))⟩)
      ·exact qk <| q0 <| ⟨i64.wrap (i2+(1:Int)),⟨h4,by kernel_rfl,o5⟩,H⟩
 ·exact qx 2 <| Xt (⟨rfl,i2,oi H,aJ.fz l0,aJ.fz x3.1,aJ.fz x6.1,.int .i64 i2,.bool (decide (i2<(l0.length:Int))),h4,by kernel_rfl,o5⟩)
theorem lB {aV:FuncId→cb}(ha:aV 5=DC)(NG:RH cf m)(AF:N6 cf m)(GI:Ql cf m)(GJ:Qj cf m)(Q7:Tm cf m)(l0:List aj)(h:AHeap)(L:Mem)  (o:Has h (L)){out:Bool}(H:aF.f m l0=some out) :
  ∃r h',be Tryd.prog aV cf m 5 [aJ.fz l0] h=some (r,h')∧fT h' r (.bool out):=by
 refine aq (fn:=Tryd.f5) ha Tryd.func5 (by kernel_rfl) (by kernel_rfl) ?_
 refine aG (Q:=fun s=>aF.fin L out s) (fun _ _ h=>h) ?_
 have H:_=some out:=H
 unfold aF.f at H
 show de _ cf DC m _ ⟨aJ.fz l0::JV [],[],h⟩ _
 refine q1 <| qq <| qq ?_
 obtain⟨x0,e0,H⟩:=aH H
 refine qr [.a 1 (Q7 _ _ e0 h _ (gO (ae (cK (E:=aJ)) (az))))] <| qc H (fun c0 H=>?_) (fun c0 H=>?_)
 ·refine qq ?_
  obtain⟨x1,e1,H⟩:=aH H
  obtain rfl:=oi H
  exact qr [.a 0 (NG _ e1 h _ (gO (az)))] <| qt <| ⟨.inl rfl,bZ (.bool x1) h (bX (ak))⟩
 ·refine qk <| qq ?_
  obtain⟨x2,e2,H⟩:=aH H
  refine qr [.a 1 (AF _ _ e2 h _ (cR (ib (E:=aJ)) (gH)))] <| qq ?_
  obtain⟨x3,e3,H⟩:=aH H
  refine qr [.a 1 (GJ _ _ e3 h _ (cR (ib (E:=au)) (gH)))] <| qq <| q0 ?_
  have o0:Has h (((0),.sl (([]:List aj).length) 2 (aJ.l ([]:List aj)))::L):=Has.nil o 2
  refine qq <| qq <| q0 <| qb 0 ?_
  obtain⟨bq,e7,H⟩:=aH H
  refine ql (aF.bI L l0 x2 x3   (([]:List aj),i64.wrap ((l0.length:Int) - (1:Int))) _ _ ⟨(0),h,by kernel_rfl,o0⟩ e7) ?_
  rintro e s ⟨rfl,GH,i1,rfl,g0,g1,da,h2,rfl,o3⟩
  try dsimp only at H
  refine qq ?_
  obtain⟨h3,e8,o4⟩:=iz (E:=aJ) (l:=GH) (q:=0) o3 rfl
  obtain⟨x5,e9,H⟩:=aH H
  refine yr [.a 0 e8] [.a 1 (AF _ _ e9 h3 _ (cR (ib (E:=aJ)) (gH)))] <| qq ?_
  obtain⟨x6,nH,H⟩:=aH H
  refine qr [.a 1 (GJ _ _ nH h3 _ (cR (ib (E:=au)) (gH)))] <| qq <| qq ?_
  rcases dt H with⟨c2,H⟩| ⟨c2,H⟩
  ·obtain rfl:=oi H
   exact qr [.b 2 c2] <| mX <| qq <| q0 <| qt <| ⟨.inl rfl,bZ (.bool false) h3 (bX (ak))⟩
  ·rcases dt H with⟨c4,H⟩| ⟨c4,H⟩
   ·obtain rfl:=oi H
    exact qr [.b 2 c2,.b 6 c4] <| mX <| qq <| q0 <| qt <| ⟨.inl rfl,bZ (.bool false) h3 (bX (ak))⟩
   ·rcases dt H with⟨c6,H⟩| ⟨c6,H⟩
    ·obtain rfl:=oi H
     exact qr [.b 2 c2,.b 6 c4,.b 10 c6] <| mX <| qq <| q0 <| qt <| ⟨.inl rfl,bZ (.bool false) h3 (bX (ak))⟩
    ·rcases dt H with⟨c8,H⟩| ⟨c8,H⟩
     ·obtain rfl:=oi H
      exact qr [.b 2 c2,.b 6 c4,.b 10 c6,.b 14 c8] <| mX <| qq <| q0 <| qt <| ⟨.inl rfl,bZ (.bool false) h3 (bX (ak))⟩
     ·rcases dt H with⟨rm,H⟩| ⟨rm,H⟩
      ·obtain rfl:=oi H
       exact qr [.b 2 c2,.b 6 c4,.b 10 c6,.b 14 c8,.b 21 rm] <| mX <| qq <| q0 <| qt <| ⟨.inl rfl,bZ (.bool false) h3 (bX (ak))⟩
      ·refine qr [.b 2 c2,.b 6 c4,.b 10 c6,.b 14 c8,.b 21 rm] <| qc H (fun oQ H=>?_) (fun oQ H=>?_)
       ·obtain rfl:=oi H
        exact q1 <| qt <| ⟨.inl rfl,bZ (.bool false) h3 (bX (ak))⟩
       ·refine qk <| qq <| qq <| q0 <| qb 2 ?_
        obtain⟨b9,zw,H⟩:=aH H
        refine ql (aF.eQ L l0 x3 x6  AF GI GJ (0:Int) _ _ ⟨h3,by kernel_rfl,o4⟩ zw) ?_
        rintro e s (⟨rfl,i3,rfl,g2,g3,g4,g5,g6,h5,rfl,o6⟩| ⟨rfl,r0,rfl,mE⟩)
        ·try dsimp only at H
         refine qq ?_
         obtain⟨BR,BG,H⟩:=aH H
         obtain rfl:=oi H
         exact qr [.a 0 (NG _ BG h5 _ (gO (az)))] <| qt <| ⟨.inl rfl,bZ (.bool BR) h5 (bX (ak))⟩
        ·try dsimp only at H
         obtain rfl:=oi H
         exact⟨.inl rfl,mE⟩
end
end Go.Proofs.YtmekcfdllhphlaaDoor
namespace Go.Proofs.YtmekcfdllhphlaaDoor
open Go Go.R
open Go.IntKind (i64 u64 u8 u32)
theorem Cj {m:Nat}{L:List aj}(h8:L.length≤8):∀(f i:Nat) (acc:List aj),i<f→i≤L.length→acc.length+i≤8→∃x,aF.l0 m L f acc ((i:Int) - 1)=some (acc++(L.take i).reverse,x)
 | 0,i,acc,hf,_,_=>absurd hf (by omega)
 | f+1,i,acc,hf,hi,ha=>by
  unfold aF.l0
  cases i with
  | succ i=>
   have h:i<L.length:=by omega
   obtain⟨x,ih⟩:=Cj (m:=m) h8 f i (acc++[L[i]]) (by omega) (by omega) (by simp; omega)
   have la:app 32 acc [L[i]]=some (acc++[L[i]]):=by unfold app; rw [if_pos (by simp; omega)]
   refine⟨x,?_⟩
   rw [show ((i+1:Nat):Int) - 1=(i:Int) by omega,if_pos (by simp only [decide_eq_true_eq]; omega),nj h,V3,la,V3,aC (by omega) (by omega),ih,Wg,List.take_succ_eq_append_getElem h,List.reverse_append]
   rfl
  | zero=>exact⟨_,by rw [if_neg (by simp only [decide_eq_true_eq]; omega)]; simp; rfl⟩
theorem Ck {m:Nat}(hm:2 ^ 41≤m){L:List aj}(I:uL m L):∀(f i:Nat),L.length - i<f→i≤L.length→∃x,aF.l1 m L (L.map (lf m),0) (L.reverse.map (lf m),0) f (i:Int)=some (.inr x)
 | 0,i,hf,_=>absurd hf (by omega)
 | f+1,i,hf,hi=>by
  have h8:=I.qV
  unfold aF.l1
  by_cases h:i<L.length
  ·obtain⟨x,ih⟩:=Ck hm I f (i+1) (by omega) (by omega)
   have uZ:=Xa h
   have F:=I.lf hm uZ
   have J:=I.one uZ
   have hs:nA L (i:Int) ((i:Int)+1)=some [L[i]]:=by
    unfold nA
    rw [if_pos ⟨by omega,by omega,by omega⟩,show ((i:Int)+1).toNat - (i:Int).toNat=1 by omega,V9,Wi h]; rfl
   have hx:ix (L.map (lf m)) (i:Int)=some (lf m L[i]):=by rw [nj (by simpa using h)]; simp
   have hy:ix (L.reverse.map (lf m)) (i64.wrap (i64.wrap ((L.length:Int) - 1) - (i:Int)))=some (lf m L[i]):=by
    rw [aC (x:=(L.length:Int) - 1) (by omega) (by omega),aC (by omega) (by omega),show (L.length:Int) - 1 - (i:Int)=((L.length - 1 - i:Nat):Int) by omega,nj (by simp; omega)]
    simp only [List.getElem_map,List.getElem_reverse]
    have e:L.length - 1 - (L.length - 1 - i)=i:=by omega
    simp only [e]
   have hp:=r6 hm J
   have hg:=xp hm J
   refine⟨x,?_⟩
   have hz:ix (List.map (lf m) [L[i]]) (0:Int)=some (lf m L[i]):=rfl
   rw [if_pos (by simp only [decide_eq_true_eq]; omega),aC (x:=(i:Int)+1) (by omega) (by omega),hs,V3,hp,V3]
   dsimp only
   rw [hg,V3,if_neg (by simp),if_neg (by simp),if_neg (by simp)]
   dsimp only
   rw [hz,V3,hx,V3,F.graph hm,V3,if_neg (by simp),V3,hy,V3,F.graph hm,V3,if_neg (by simp),show (i:Int)+1=((i+1:Nat):Int) by omega,ih]
  ·exact⟨i,by rw [if_neg (by simp only [decide_eq_true_eq]; omega)]⟩
theorem DD {m:Nat}(hm:2 ^ 63≤m){L:List aj}(hl:∀t∈L,t.nodes.length<2 ^ 63)(h0:∀t∈L,HZ t):aF.f m L=some true:=by
 have rl:(2:Nat) ^ 41=2199023255552:=by decide
 have G1:(2:Nat) ^ 63=9223372036854775808:=by decide
 obtain⟨b,k1,k2⟩:=DB hm hl h0
 unfold aF.f
 rw [k1,V3]
 cases b with
 | false=>rfl
 | true=>
  have I:=k2 rfl
  have h8:=I.qV
  obtain⟨x,k3⟩:=Cj (m:=m) h8 m L.length [] (by omega) (by omega) (by simpa using h8)
  obtain⟨y,k4⟩:=Ck (m:=m) (by omega) I m 0 (by omega) (by omega)
  have k4:aF.l1 m L (L.map (lf m),0) (L.reverse.map (lf m),0) m (0:Int)=_:=k4
  rw [if_neg (by simp),r6 (by omega) I,V3]
  dsimp only
  rw [xp (by omega) I,V3,aC (by omega) (by omega),k3,V3,W9,Wz]
  dsimp only
  rw [r6 (by omega) I.rev,V3]
  dsimp only
  rw [xp (by omega) I.rev,V3,if_neg (by simp),if_neg (by simp),if_neg (by simp),if_neg (by simp),if_neg (by simp),if_neg (by simp),k4,V3]
  rfl
end Go.Proofs.YtmekcfdllhphlaaDoor
namespace Go.Proofs.YtmekcfdllhphlaaDoor
open Go Go.R
open Go.IntKind (i64 u64 u8 u32)
def Nf (xs ys:List AV):Prop:=cN xs=true∧dr xs=ys
theorem vI:∀a b:List AV,cN (a++b)=(cN a&&cN b)
 | [],b=>rfl
 | x::a,b=>by rw [Wt,cN,cN,vI,Bool.and_assoc]
theorem vJ:∀a b:List AV,dr (a++b)=dr a++dr b
 | [],b=>rfl
 | x::a,b=>by rw [Wt,dr,dr,vJ,Wt]
theorem Nf.app {a b c d:List AV}(h:Nf a c)(k:Nf b d):Nf (a++b) (c++d):=⟨by rw [vI,h.1,k.1]; rfl,by rw [vJ,h.2,k.2]⟩
theorem Nf.nil:Nf [] []:=⟨rfl,rfl⟩
theorem Nf.fz {α:Type}{E:cp α}{cs:List AV}{l:List α}{n:Nat}{b:Bool}(h:Nf cs (E.l l))(hn:n=l.length):Nf [.fz cs n b] [E.fz l]:=by
 subst hn
 exact⟨by show (AV.dN (.fz cs l.length b)&&cN [])=true; simp [AV.dN,h.1,cN],by show [AV.fz (dr cs) l.length false]=_; rw [h.2]; rfl⟩
theorem Nf.nils {α:Type}{E:cp α}:Nf [.nils] [E.fz []]:=⟨rfl,rfl⟩
theorem zm {α:Type}{E:cp α}{Pr:α→Prop}:∀{els:List (List AV)},(∀el∈els,∃a,Nf el (E.f a)∧Pr a)→∃l:List α,Nf els.flatten (E.l l)∧l.length=els.length∧∀a∈l,Pr a
 | [],_=>⟨[],Nf.nil,rfl,fun a ha=>by cases ha⟩
 | el::els,h=>by
  obtain⟨a,h1,h2⟩:=h el (by simp)
  obtain⟨l,h3,h4,h5⟩:=zm (E:=E) (Pr:=Pr) (els:=els) fun e he=>h e (by simp [he])
  refine⟨a::l,?_,by simp [h4],fun x hx=>?_⟩
  ·rw [List.flatten_cons,cp.dR]; exact h1.app h3
  ·rcases WG.1 hx with rfl | hx
   ·exact h2
   ·exact h5 x hx
theorem AX {α:Type}{E:cp α}{Pr:α→Prop}{n t e:Nat}{xs:List AV}(ht:Tryd.prog.underlying t=some (.slice e))(h:Fits Tryd.prog (n+1) t xs)
  (he:∀el,Fits Tryd.prog n e el→∃a,Nf el (E.f a)∧Pr a):∃l:List α,Nf xs [E.fz l]∧l.length≤maxLen∧∀a∈l,Pr a:=by
 unfold Fits at h
 rw [ht] at h
 rcases h with rfl | ⟨els,rfl,h1,h⟩
 ·exact⟨[],Nf.nils,by simp,fun a ha=>by cases ha⟩
 ·obtain⟨l,h2,h3,h4⟩:=zm (E:=E) (Pr:=Pr) fun el L9=>he el (h el L9).2
  exact⟨l,h2.fz h3.symm,by omega,h4⟩
theorem xq {n:Nat}{xs:List AV}(h:Fits Tryd.prog (n+1) 3 xs):∃z:Int,Nf xs (aa.f z)∧z<2 ^ 63:=by
 unfold Fits at h
 rw [Tryd.underlying3] at h
 obtain⟨z,rfl,_,hz⟩:=h
 have hz:z≤9223372036854775807:=hz
 exact⟨z,⟨rfl,rfl⟩,by omega⟩
theorem GK {n:Nat}{xs:List AV}(h:Fits Tryd.prog (n+3) 48 xs):∃v:ab,Nf xs (af.f v)∧v.int<2 ^ 63:=by
 unfold Fits at h
 rw [Tryd.underlying48] at h
 obtain⟨a,b,rfl,_,h1,h⟩:=h
 obtain⟨c,d,rfl,_,h2,h⟩:=h
 obtain⟨e,f,rfl,_,h3,h⟩:=h
 obtain⟨g,k,rfl,_,h4,h⟩:=h
 have h:k=[]:=h
 subst h
 obtain⟨z1,i1,_⟩:=xq h1
 obtain⟨z2,i2,j2⟩:=xq h2
 obtain⟨l,i4,_,_⟩:=AX (E:=aa) (Pr:=fun z=>z<2 ^ 63) Tryd.underlying42 h4 fun el h=>xq h
 have h3:∃s:ByteArray,e=[.str s]:=by
  unfold Fits at h3
  rw [Tryd.underlying9] at h3
  obtain⟨s,hs,_⟩:=h3
  exact⟨s,hs⟩
 obtain⟨s,rfl⟩:=h3
 exact⟨⟨z1,z2,s,l⟩,i1.app (i2.app (Nf.app (a:=[.str s]) (c:=[.str s]) ⟨rfl,rfl⟩ (i4.app Nf.nil))),j2⟩
def AY (t:aj):Prop:=t.nodes.length<2 ^ 63∧HZ t
theorem GL {n:Nat}{xs:List AV}(h:Fits Tryd.prog (n+5) 31 xs):∃t:aj,Nf xs (aJ.f t)∧AY t:=by
 unfold Fits at h
 rw [Tryd.underlying31] at h
 obtain⟨a,b,rfl,_,h1,h⟩:=h
 obtain⟨c,d,rfl,_,h2,h⟩:=h
 have h:d=[]:=h
 subst h
 obtain⟨l,i1,k1,k2⟩:=AX (E:=af) (Pr:=fun v=>v.int<2 ^ 63) Tryd.underlying29 h1 fun el h=>GK h
 obtain⟨z,i2,_⟩:=xq h2
 refine⟨⟨l,z⟩,i1.app (i2.app Nf.nil),?_,fun v hv _=>k2 v hv⟩
 have:maxLen<2 ^ 63:=by decide
 show l.length<_
 omega
theorem Ih {t e n:Nat}{xs:List AV}(ht:Tryd.prog.underlying t=some (.slice e))(h:Fits Tryd.prog (n+1) t xs):∃x,xs=[x]∧(x = .nils∨∃cs n b,x = .fz cs n b):=by
 unfold Fits at h
 rw [ht] at h
 rcases h with rfl | ⟨els,rfl,_⟩
 ·exact⟨_,rfl,.inl rfl⟩
 ·exact⟨_,rfl,.inr ⟨_,_,_,rfl⟩⟩
theorem DE {n:Nat}{xs:List AV}(h:Fits Tryd.prog (n+6) 22 xs):∃x l,xs=[x]∧(∀h,eN fc h [x] [aJ.fz l])∧∀t∈l,AY t:=by
 obtain⟨l,h1,_,h2⟩:=AX (E:=aJ) (Pr:=AY) Tryd.underlying22 h fun el h=>GL h
 obtain⟨x,rfl,hx⟩:=Ih Tryd.underlying22 h
 have g1:x.dN=true:=by have:=h1.1; simpa [cN] using this
 have g2:x.jO=aJ.fz l:=by have:=h1.2; simpa [dr] using this
 have hf:∀hp,lu 0 hp x (aJ.fz l):=fun hp=>my g1 (by rcases hx with rfl | ⟨cs,n,b,rfl⟩<;>exact fun _=>rfl) g2
 exact⟨x,l,rfl,fun hp=>gO (ae (hf hp) az),h2⟩
end Go.Proofs.YtmekcfdllhphlaaDoor
namespace Go.Proofs.YtmekcfdllhphlaaDoor
open Go Go.R Go.Shelf
def Lp:Ren:={
 f:=(fun x=>match x with | 178=>101 | 179=>53 | 181=>98 | 184=>99 | 251=>72 | 252=>73 | 290=>100 | 324=>117 | n=>n),
 t:=(fun x=>match x with | 0=>0 | 3=>3 | 4=>4 | 5=>5 | 9=>9 | 20=>20 | 37=>25 | 75=>85 | 80=>93 | 91=>79 | 93=>81 | 130=>104 | 131=>100 | n=>n),
 g:=(fun x=>match x with | 14=>0 | n=>n)}
theorem Ii:LaysM.n179 Tryd.prog Lp:={
 mixed:=by kernel_rfl,
 f179:=Tryd.func53.trans (congrArg some (by kernel_rfl)),
 f181:=Tryd.func98.trans (congrArg some (by kernel_rfl)),
 f184:=Tryd.func99.trans (congrArg some (by kernel_rfl)),
 f251:=Tryd.func72.trans (congrArg some (by kernel_rfl)),
 f252:=Tryd.func73.trans (congrArg some (by kernel_rfl)),
 f290:=Tryd.func100.trans (congrArg some (by kernel_rfl)),
 f324:=Tryd.func117.trans (congrArg some (by kernel_rfl)),
 t0:=Tryd.underlying0,
 a0:=Tryd.isAgg0,
 z0:=Tryd.sizeOf0,
 v0:=Tryd.zeroValue0,
 t3:=Tryd.underlying3,
 a3:=Tryd.isAgg3,
 z3:=Tryd.sizeOf3,
 v3:=Tryd.zeroValue3,
 t4:=Tryd.underlying4,
 a4:=Tryd.isAgg4,
 z4:=Tryd.sizeOf4,
 v4:=Tryd.zeroValue4,
 t5:=Tryd.underlying5,
 a5:=Tryd.isAgg5,
 z5:=Tryd.sizeOf5,
 v5:=Tryd.zeroValue5,
 t20:=Tryd.underlying20,
 a20:=Tryd.isAgg20,
 z20:=Tryd.sizeOf20,
 v20:=Tryd.zeroValue20,
 t37:=Tryd.underlying25,
 a37:=Tryd.isAgg25,
 z37:=Tryd.sizeOf25,
 v37:=Tryd.zeroValue25,
 t75:=Tryd.underlying85,
 a75:=Tryd.isAgg85,
 z75:=Tryd.sizeOf85,
 v75:=Tryd.zeroValue85,
 t91:=Tryd.underlying79,
 a91:=Tryd.isAgg79,
 z91:=Tryd.sizeOf79,
 v91:=Tryd.zeroValue79,
 t93:=Tryd.underlying81,
 a93:=Tryd.isAgg81,
 z93:=Tryd.sizeOf81,
 v93:=Tryd.zeroValue81,
 t130:=Tryd.underlying104,
 a130:=Tryd.isAgg104,
 z130:=Tryd.sizeOf104,
 v130:=Tryd.zeroValue104,
 t131:=Tryd.underlying100,
 a131:=Tryd.isAgg100,
 z131:=Tryd.sizeOf100,
 v131:=Tryd.zeroValue100,
 g14:=by kernel_rfl,
 t9:=Tryd.underlying9,
 a9:=Tryd.isAgg9,
 z9:=Tryd.sizeOf9,
 v9:=Tryd.zeroValue9,
 t80:=Tryd.underlying93,
 a80:=Tryd.isAgg93,
 z80:=Tryd.sizeOf93,
 v80:=Tryd.zeroValue93,
 i0:=by kernel_rfl,
 i3:=by kernel_rfl,
 i4:=by kernel_rfl,
 i5:=by kernel_rfl,
 i9:=by kernel_rfl,
 i20:=by kernel_rfl,
 i37:=by kernel_rfl,
 i75:=by kernel_rfl,
 i80:=by kernel_rfl,
 i91:=by kernel_rfl,
 i93:=by kernel_rfl,
 i130:=by kernel_rfl,
 i131:=by kernel_rfl,
 m14:=by kernel_rfl}
theorem Ij:LaysM.n178 Tryd.prog Lp:={
 mixed:=by kernel_rfl,
 f178:=Tryd.func101.trans (congrArg some (by kernel_rfl)),
 f181:=Tryd.func98.trans (congrArg some (by kernel_rfl)),
 f184:=Tryd.func99.trans (congrArg some (by kernel_rfl)),
 f251:=Tryd.func72.trans (congrArg some (by kernel_rfl)),
 f252:=Tryd.func73.trans (congrArg some (by kernel_rfl)),
 f290:=Tryd.func100.trans (congrArg some (by kernel_rfl)),
 f324:=Tryd.func117.trans (congrArg some (by kernel_rfl)),
 t0:=Tryd.underlying0,
 a0:=Tryd.isAgg0,
 z0:=Tryd.sizeOf0,
 v0:=Tryd.zeroValue0,
 t3:=Tryd.underlying3,
 a3:=Tryd.isAgg3,
 z3:=Tryd.sizeOf3,
 v3:=Tryd.zeroValue3,
 t4:=Tryd.underlying4,
 a4:=Tryd.isAgg4,
 z4:=Tryd.sizeOf4,
 v4:=Tryd.zeroValue4,
 t9:=Tryd.underlying9,
 a9:=Tryd.isAgg9,
 z9:=Tryd.sizeOf9,
 v9:=Tryd.zeroValue9,
 t20:=Tryd.underlying20,
 a20:=Tryd.isAgg20,
 z20:=Tryd.sizeOf20,
 v20:=Tryd.zeroValue20,
 t37:=Tryd.underlying25,
 a37:=Tryd.isAgg25,
 z37:=Tryd.sizeOf25,
 v37:=Tryd.zeroValue25,
 t75:=Tryd.underlying85,
 a75:=Tryd.isAgg85,
 z75:=Tryd.sizeOf85,
 v75:=Tryd.zeroValue85,
 t91:=Tryd.underlying79,
 a91:=Tryd.isAgg79,
 z91:=Tryd.sizeOf79,
 v91:=Tryd.zeroValue79,
 t93:=Tryd.underlying81,
 a93:=Tryd.isAgg81,
 z93:=Tryd.sizeOf81,
 v93:=Tryd.zeroValue81,
 t130:=Tryd.underlying104,
 a130:=Tryd.isAgg104,
 z130:=Tryd.sizeOf104,
 v130:=Tryd.zeroValue104,
 t131:=Tryd.underlying100,
 a131:=Tryd.isAgg100,
 z131:=Tryd.sizeOf100,
 v131:=Tryd.zeroValue100,
 g14:=by kernel_rfl,
 t5:=Tryd.underlying5,
 a5:=Tryd.isAgg5,
 z5:=Tryd.sizeOf5,
 v5:=Tryd.zeroValue5,
 t80:=Tryd.underlying93,
 a80:=Tryd.isAgg93,
 z80:=Tryd.sizeOf93,
 v80:=Tryd.zeroValue93,
 i0:=by kernel_rfl,
 i3:=by kernel_rfl,
 i4:=by kernel_rfl,
 i5:=by kernel_rfl,
 i9:=by kernel_rfl,
 i20:=by kernel_rfl,
 i37:=by kernel_rfl,
 i75:=by kernel_rfl,
 i80:=by kernel_rfl,
 i91:=by kernel_rfl,
 i93:=by kernel_rfl,
 i130:=by kernel_rfl,
 i131:=by kernel_rfl,
 m14:=by kernel_rfl}
theorem fits:Fit Tryd.prog:=Jx (by kernel_rfl) (by kernel_rfl)
theorem Ik:∀(vs:Array Value) (w:World),(callFunc (Lp.f 179) vs).run Tryd.prog w = .ok (.enter (Lp.f 179) vs) w:=
 jH (c:=codeOf Tryd.f53) Tryd.func53 (by kernel_rfl) (by decide +kernel)
theorem GM:∀(vs:Array Value) (w:World),(callFunc (Lp.f 178) vs).run Tryd.prog w = .ok (.enter (Lp.f 178) vs) w:=
 jH (c:=codeOf Tryd.f101) Tryd.func101 (by kernel_rfl) (by decide +kernel)
noncomputable def GN:FuncId→Option (List AV→AHeap→Option (AV × AHeap)):=fun f=>if f=53 then some (wbA 5) else if f=101 then some (wsA 5) else none
theorem tZ:IntrOK Tryd.prog GN:=intr_cons (f0:=53) (wb_ok Ii Ik) wb_steady (intr_cons (f0:=101) (ws_ok Ij GM) ws_steady CL)
end Go.Proofs.YtmekcfdllhphlaaDoor
namespace Go.Proofs.YtmekcfdllhphlaaDoor
open Go Go.R
open Go.IntKind (i64 u64 u8 u32)
def cO:Nat→cb
 | 5=>DC
 | 12=>vF
 | 13=>{fU:=[0,1,2,3,4,5,6,7,8,9,10],aD:=[9]}
 | 14=>yT
 | 16=>gJ [0,1,2,3] [1,2] [9,3] [] []
 | 18=>vA
 | 19=>vz
 | 20=>vG
 | 21=>vu
 | 25=>y7
 | 28=>gJ [0,2] [2] [0,1] [] []
 | 29=>gJ [0] [0] [] [] []
 | 30=>gJ [0,1,4] [] [4,3] [] []
 | 31=>B0
 | 32=>BE
 | 33=>B2
 | 34=>BD
 | 35=>B1
 | 36=>vw
 | 37=>B9
 | 41=>B3
 | 42=>BZ
 | 43=>yP
 | 44=>vt
 | 45=>BK
 | 47=>BT
 | 48=>y6
 | 51=>yx
 | 52=>yw
 | 53=>{fU:=[0,1,4,5,6,16],aD:=[]}
 | 54=>yO
 | 55=>yR
 | 56=>{fU:=[0,2],aD:=[]}
 | 57=>lq
 | 59=>BW
 | 60=>BY
 | 61=>BJ
 | 62=>BB
 | 65=>BN
 | 67=>oY
 | 68=>yJ
 | 69=>B8
 | 74=>BX
 | 75=>vD
 | 76=>mg
 | 77=>Bx
 | 78=>By
 | 79=>Bz
 | 80=>BA
 | 81=>BL
 | 82=>yE
 | 83=>BM
 | 84=>BI
 | 85=>BO
 | 86=>y5
 | 101=>{fU:=[0,1,4,5,6,7,19],aD:=[]}
 | 102=>tN
 | 103=>tP
 | 104=>xj
 | 105=>tO
 | 106=>ti
 | 107=>tl
 | 108=>wU
 | 109=>wV
 | 110=>nI
 | 111=>xl
 | 118=>wO
 | 119=>pW
 | 120=>kX
 | 122=>te
 | 123=>s9
 | _=>{fU:=[],aD:=[]}
def bc:Nat:=18014398509481984
theorem bh:jJ+fc≤bc:=by decide
def NH:Nat→Option Nat
 | 5=>some bc
 | 12=>some bc
 | 13=>some bc
 | 14=>some bc
 | 16=>some bc
 | 18=>some bc
 | 19=>some bc
 | 20=>some bc
 | 21=>some bc
 | 25=>some bc
 | 28=>some bc
 | 29=>some bc
 | 30=>some bc
 | 31=>some bc
 | 33=>some bc
 | 35=>some bc
 | 36=>some bc
 | 37=>some bc
 | 41=>some bc
 | 42=>some bc
 | 45=>some bc
 | 47=>some bc
 | 48=>some bc
 | 57=>some bc
 | 62=>some bc
 | 65=>some bc
 | 67=>some bc
 | 69=>some bc
 | 75=>some bc
 | 76=>some bc
 | 77=>some bc
 | 80=>some bc
 | 81=>some bc
 | 82=>some bc
 | 83=>some bc
 | 86=>some bc
 | 102=>some bc
 | 103=>some bc
 | 104=>some bc
 | 105=>some bc
 | 106=>some bc
 | 108=>some bc
 | 109=>some bc
 | 111=>some bc
 | 118=>some bc
 | _=>none
def M:Nat:=18446744073709551616
noncomputable def zn:nU:={aV:=cO,intr:=GN,pure:=fun _=>none}
theorem mC {h:AHeap}(hp:0<h.next):Has h []:=⟨fun j i c h=>by simp at h,fun j j' i c c' h=>by simp at h,hp⟩
theorem KP:codeOf Tryd.f56=(.seq (sub [0] (codeOf Tryd.f56)) (.seq (sub [1,0] (codeOf Tryd.f56)) .ret)):=by kernel_rfl
theorem AZ {cf:CallF}{id i n:Nat}{h:AHeap}{cs:List AV}(h1:h.get id=some (.cells [.rs i 0 n 1,.int .i64 0,.int .i8 0])) :
  ∃r h',be Tryd.prog cO cf M 56 [.ptr id 0] h=some (r,h')∧r = .rs i 0 n 1∧h'=h:=by
 refine aq (fn:=Tryd.f56) (A:={fU:=[0,2],aD:=[]}) rfl Tryd.func56 (by kernel_rfl) (by kernel_rfl) ?_
 refine aG (Q:=fun s=>aI Tryd.prog (s.open {fU:=[0,2],aD:=[]}) Tryd.f56.results.toList=some (.rs i 0 n 1)∧s.h=h) (fun _ _ ⟨h1,h2,h3⟩=>⟨h1,_,h2,rfl,h3⟩) ?_
 refine z8 KP ?_
 show de _ cf _ M _ ⟨[.ptr id 0,.any],[],h⟩ _
 refine oA ?_
 refine sL (fs:=[]) (zs:=[]) (jr:=⟨[.ptr id 0,.nils],[],h⟩) (p:=(True)∧True) (by kernel_rfl) ⟨trivial,trivial⟩ ?_
 refine oA ?_
 refine sL (fs:=[]) (zs:=[(3,.rs i 0 n 1,none),(7,.int .i64 0,none),(8,.rs i 0 n 1,none)]) (jr:=⟨[.ptr id 0,.rs i 0 n 1],[],h⟩) (p:=(True)∧bj Tryd.prog h 25 (.ptr id 0)=some (.rs i 0 n 1)∧bj Tryd.prog h 3 (.ptr id 1)=some (.int .i64 0)∧eG Tryd.prog 25 (.rs i 0 n 1) (some (.int .i64 0)) none none=some (.rs i 0 n 1)∧True) (by kernel_rfl) ⟨trivial,⟨?_,?_,?_,trivial⟩⟩ ?_
 ·simp only [bj,iX,h1,V3]; kernel_rfl
 ·simp only [bj,iX,h1,V3]; kernel_rfl
 ·have e1:Tryd.prog.underlying 25=some (.slice 5):=Tryd.underlying25
  have e2:dY Tryd.prog 5=some 1:=by kernel_rfl
  simp [eG,e1,e2,iq]
 refine yf ?_
 exact⟨.inl rfl,by kernel_rfl,rfl⟩
noncomputable def I3:FuncId→Option (List AV→AHeap→Option (AV × AHeap)):=fun f=>if f=56 then some (fun args h=>(eM Tryd.prog zn M 1 56 args h).bind plainA) else GN f
theorem GO:IntrOK Tryd.prog I3:=intr_cons (plain_ok (sH fits (T:=zn) tZ M 1) 56) (plain_steady (kS (T:=zn) tZ M 1) 56) tZ
noncomputable def bC:nU:={aV:=cO,intr:=I3,pure:=NH}
noncomputable def cX:CallF:=iJ Tryd.prog bC M
theorem KQ:CallOK Tryd.prog cX:=EW fits (T:=bC) GO
theorem Q8:Mo cX M:=fun args h=>s5 (T:=bC) rfl
theorem Q9:Mp cX M:=fun args h=>s5 (T:=bC) rfl
theorem U2:RI cX M:=by
 intro id i n cs h h1 h2 h3 h4 h5
 refine Bu (T:=bC) rfl ?_
 obtain⟨r,h',hb,rfl,rfl⟩:=AZ (cf:=eM Tryd.prog zn M 0) (cs:=cs) h1
 have:eM Tryd.prog zn M 1 56 [.ptr id 0] h'=some (.rs i 0 n 1,h'):=hb
 simp only [this,V3,plainA,h2]
end Go.Proofs.YtmekcfdllhphlaaDoor
namespace Go.Proofs.YtmekcfdllhphlaaDoor
open Go Go.R
open Go.IntKind (i64 u64 u8 u32)
theorem DF:(be Tryd.prog cO (eM Tryd.prog bC M 98) M 13 [] bM).map (fun x=>x.1)=some (.bool true):=by kernel_rfl
theorem U3:RH cX M:=by
 intro r H h xs hx
 have H:some true=some r:=H
 cases H
 obtain⟨⟨x,h'⟩,hb,e⟩:=V5.1 DF
 dsimp only at e
 subst e
 obtain⟨l,h1,h2⟩:=kA (P:=Tryd.prog) cO M 13 [] bM _ _ hb
 have hb:=h2 cX fun e he=>kB.2 ⟨_,h1 e he⟩
 exact bA (T:=bC) (deep:=bc) rfl rfl bh hx ⟨_,_,hb,bX (ak)⟩
end Go.Proofs.YtmekcfdllhphlaaDoor
namespace Go.Proofs.YtmekcfdllhphlaaDoor
open Go Go.R
open Go.IntKind (i64 u64 u8 u32)
theorem U4:Tk cX M:=by
 intro l0 r H h xs hx
 exact bA (T:=bC) (deep:=bc) rfl rfl bh hx (qy (cf:=cX) (m:=M) (aV:=cO) rfl  l0 bM [] aX H)
theorem U5:Ql cX M:=by
 intro a0 b0 r H h xs hx
 exact bA (T:=bC) (deep:=bc) rfl rfl bh hx (qd (cf:=cX) (m:=M) (aV:=cO) rfl  a0 b0 bM [] aX H)
theorem U6:Sj cX M:=by
 intro b0 r H h xs hx
 exact bA (T:=bC) (deep:=bc) rfl rfl bh hx (rB (cf:=cX) (m:=M) (aV:=cO) rfl  b0 bM [] aX H)
theorem U7:Sm cX M:=by
 intro n0 r H h xs hx
 exact bA (T:=bC) (deep:=bc) rfl rfl bh hx (pe (cf:=cX) (m:=M) (aV:=cO) rfl  n0 bM [] aX H)
theorem U8:Sq cX M:=by
 intro a0 b0 r H h xs hx
 exact bA (T:=bC) (deep:=bc) rfl rfl bh hx (qa (cf:=cX) (m:=M) (aV:=cO) rfl  a0 b0 bM [] aX H)
theorem To:P7 cX M:=by
 intro b0 r H h xs hx
 exact bA (T:=bC) (deep:=bc) rfl rfl bh hx (pc (cf:=cX) (m:=M) (aV:=cO) rfl U6 b0 bM [] aX H)
theorem Va:RQ cX M:=by
 intro s0 f0 r H h ja du aL gF gK xs hx
 exact oM (T:=bC) rfl rfl hx (wR (cf:=cX) (m:=M) (aV:=cO) rfl  s0 f0 h [] du aL  gF gK (mC ja) H)
theorem Vb:RP cX M:=by
 intro s0 f0 r H h ja du aL gF gK xs hx
 exact oM (T:=bC) rfl rfl hx (wQ (cf:=cX) (m:=M) (aV:=cO) rfl  s0 f0 h [] du aL  gF gK (mC ja) H)
theorem Ra:Li cX M:=by
 intro w0 n0 r H h L  bP b6 o  xs hx
 obtain⟨r',h',hb,dv,rfl,ho⟩:=tH (cf:=cX) (m:=M) (aV:=cO) rfl Q8 w0 n0 h L bP b6  o H
 exact⟨dv,h',jK (T:=bC) rfl rfl hx hb,ho⟩
theorem Tp:N2 cX M:=by
 intro r0 r H h L  aA o  xs hx
 obtain⟨r',h',hb,rfl,ho⟩:=w7 (cf:=cX) (m:=M) (aV:=cO) rfl  r0 h L aA  o H
 exact⟨h',jK (T:=bC) rfl rfl hx hb,ho⟩
theorem Tq:∀kk,N1 cX M kk
 | 0=>by
  intro i0 x0 x1 x2 x3 r H h L  bO en dK dA eC dO dH o  xs hx
  cases H
 | kk+1=>by
  intro i0 x0 x1 x2 x3 r H h L  bO en dK dA eC dO dH o  xs hx
  obtain⟨r',h',hb,ll,rfl,ho⟩:=pa (cf:=cX) (m:=M) (aV:=cO) rfl  i0 x0 x1 x2 x3 h L bO en dK dA eC dO dH  (Tq kk) o H
  exact⟨ll,h',jK (T:=bC) rfl rfl hx hb,ho⟩
theorem Vc:Sb cX M:=by
 intro w0 s0 r H h L  bP b6 o  xs hx
 obtain⟨r',h',hb,dv,rfl,ho⟩:=w8 (cf:=cX) (m:=M) (aV:=cO) rfl Ra Q9 w0 s0 h L bP b6  o H
 exact⟨dv,h',jK (T:=bC) rfl rfl hx hb,ho⟩
theorem Vd:SJ cX M:=by
 intro l0 gx r H h xs hx
 exact bA (T:=bC) (deep:=bc) rfl rfl bh hx (nO (cf:=cX) (m:=M) (aV:=cO) rfl  l0 gx bM [] aX H)
theorem Ve:RL cX M:=by
 intro a0 x0 r H h L ez bO o fO
 exact oM (T:=bC) rfl rfl (an (aQ (bD)) (an (rfl) (bm))) (pV (cf:=cX) (m:=M) (aV:=cO) rfl  a0 x0 h L  fO o H)
theorem Vf:RM cX M:=by
 intro s0 r H h xs hx
 exact bA (T:=bC) (deep:=bc) rfl rfl bh hx (rq (cf:=cX) (m:=M) (aV:=cO) rfl  s0 bM [] aX H)
theorem Vg:RZ cX M:=by
 intro fP r H h xs hx
 exact bA (T:=bC) (deep:=bc) rfl rfl bh hx (rz (cf:=cX) (m:=M) (aV:=cO) rfl  fP bM [] aX H)
theorem Rb:H3 cX M:=by
 intro n0 dB r H h xs hx
 exact bA (T:=bC) (deep:=bc) rfl rfl bh hx (qf (cf:=cX) (m:=M) (aV:=cO) rfl  n0 dB bM [] aX H)
theorem NI:Ds cX M:=by
 intro a0 b0 r H h xs hx
 exact bA (T:=bC) (deep:=bc) rfl rfl bh hx (qg (cf:=cX) (m:=M) (aV:=cO) rfl  a0 b0 bM [] aX H)
theorem NJ:AG cX M:=by
 intro a0 b0 bl r H h xs hx
 exact bA (T:=bC) (deep:=bc) rfl rfl bh hx (mL (cf:=cX) (m:=M) (aV:=cO) rfl  a0 b0 bl bM [] aX H)
theorem Rc:Mt cX M:=by
 intro s0 f0 r H h ja du aL gF gK xs hx
 exact oM (T:=bC) rfl rfl hx (wP (cf:=cX) (m:=M) (aV:=cO) rfl  s0 f0 h [] du aL  gF gK (mC ja) H)
theorem Rd:MH cX M:=by
 intro x0 r H h xs hx
 exact bA (T:=bC) (deep:=bc) rfl rfl bh hx (nJ (cf:=cX) (m:=M) (aV:=cO) rfl  x0 bM [] aX H)
theorem Re:MI cX M:=by
 intro x0 r H h xs hx
 exact bA (T:=bC) (deep:=bc) rfl rfl bh hx (lz (cf:=cX) (m:=M) (aV:=cO) rfl  x0 bM [] aX H)
theorem Rf:KB cX M:=by
 intro c0 r H h xs hx
 exact bA (T:=bC) (deep:=bc) rfl rfl bh hx (pn (cf:=cX) (m:=M) (aV:=cO) rfl  c0 bM [] aX H)
theorem Rg:J2 cX M:=by
 intro c0 r H h xs hx
 exact bA (T:=bC) (deep:=bc) rfl rfl bh hx (pU (cf:=cX) (m:=M) (aV:=cO) rfl  c0 bM [] aX H)
theorem Rh:J5 cX M:=by
 intro ao a0 b0 aO r H h L cm aA o qR fw Dg Ah xs hx
 have hn0:cm=ao.length:=dj (E:=aa) o (q:=0) rfl
 subst hn0
 obtain⟨r',h',hb,rfl,ho⟩:=mF (cf:=cX) (m:=M) (aV:=cO) rfl  ao a0 b0 aO h L aA qR fw  Dg Ah o H
 exact⟨h',jK (T:=bC) rfl rfl hx hb,ho⟩
theorem Ri:J1 cX M:=by
 intro ao a0 b0 n0 aO r H h L cm aA o dX aW gk gU xs hx
 have hn0:cm=ao.length:=dj (E:=aa) o (q:=0) rfl
 subst hn0
 obtain⟨r',h',hb,rfl,ho⟩:=rj (cf:=cX) (m:=M) (aV:=cO) rfl  ao a0 b0 n0 aO h L aA dX aW  gk gU o H
 exact⟨h',jK (T:=bC) rfl rfl hx hb,ho⟩
theorem Vh:RR cX M:=by
 intro s0 f0 r H h ja du aL gF gK xs hx
 exact oM (T:=bC) rfl rfl hx (ru (cf:=cX) (m:=M) (aV:=cO) rfl Va s0 f0 h [] du aL  gF gK (mC ja) H)
theorem Ts:Pp cX M:=by
 intro s0 f0 r H h ja du aL gF gK xs hx
 exact oM (T:=bC) rfl rfl hx (rr (cf:=cX) (m:=M) (aV:=cO) rfl Vb s0 f0 h [] du aL  gF gK (mC ja) H)
theorem Rj:Kp cX M:=by
 intro r0 r H h L  aA o  xs hx
 obtain⟨r',h',hb,rfl,ho⟩:=tI (cf:=cX) (m:=M) (aV:=cO) rfl Tp r0 h L aA  o H
 exact⟨h',jK (T:=bC) rfl rfl hx hb,ho⟩
theorem Vi:N3 cX M:=by
 intro w0 n0 r H h L  bP b6 o  xs hx
 obtain⟨r',h',hb,dv,rfl,ho⟩:=w9 (cf:=cX) (m:=M) (aV:=cO) rfl Q8 Ra Vc w0 n0 h L bP b6  o H
 exact⟨dv,h',jK (T:=bC) rfl rfl hx hb,ho⟩
theorem Vj:Sd cX M:=by
 intro r0 r H h L  aA o  xs hx
 obtain⟨r',h',hb,rfl,ho⟩:=xb (cf:=cX) (m:=M) (aV:=cO) rfl Rj r0 h L aA  o H
 exact⟨h',jK (T:=bC) rfl rfl hx hb,ho⟩
theorem Vk:RK cX M:=by
 intro s0 f0 r H h ja du aL gF gK xs hx
 exact oM (T:=bC) rfl rfl hx (rp (cf:=cX) (m:=M) (aV:=cO) rfl Rc s0 f0 h [] du aL  gF gK (mC ja) H)
theorem Vl:RY cX M:=by
 intro x0 y0 r H h xs hx
 exact bA (T:=bC) (deep:=bc) rfl rfl bh hx (lY (cf:=cX) (m:=M) (aV:=cO) rfl Rd x0 y0 bM [] aX H)
theorem Vm:R0 cX M:=by
 intro x0 y0 r H h xs hx
 exact bA (T:=bC) (deep:=bc) rfl rfl bh hx (kF (cf:=cX) (m:=M) (aV:=cO) rfl Re x0 y0 bM [] aX H)
theorem Vn:SP cX M:=by
 intro s0 r H h xs hx
 exact bA (T:=bC) (deep:=bc) rfl rfl bh hx (rJ (cf:=cX) (m:=M) (aV:=cO) rfl Rf s0 bM [] aX H)
theorem Rk:H4 cX M:=by
 intro l0 dW n0 bl r H h xs hx
 exact bA (T:=bC) (deep:=bc) rfl rfl bh hx (rI (cf:=cX) (m:=M) (aV:=cO) rfl NI NJ l0 dW n0 bl bM [] aX H)
theorem Rm:Mr cX M:=by
 intro s0 kg mZ r H h xs hx
 exact bA (T:=bC) (deep:=bc) rfl rfl bh hx (tj (cf:=cX) (m:=M) (aV:=cO) rfl Rg s0 kg mZ bM [] aX H)
theorem Rn:Mq cX M:=by
 intro ao a0 m0 b0 aO r H h L cm aA o dX aW gk gU xs hx
 have hn0:cm=ao.length:=dj (E:=aa) o (q:=0) rfl
 subst hn0
 obtain⟨r',h',hb,rfl,ho⟩:=wN (cf:=cX) (m:=M) (aV:=cO) rfl Ri ao a0 m0 b0 aO h L aA dX aW  gk gU o H
 exact⟨h',jK (T:=bC) rfl rfl hx hb,ho⟩
theorem Vo:So cX M:=by
 intro t0 r H h xs hx
 exact bA (T:=bC) (deep:=bc) rfl rfl bh hx (pf (cf:=cX) (m:=M) (aV:=cO) rfl Ts U7 t0 bM [] aX H)
theorem Vp:Sk cX M:=by
 intro a7 r H h xs hx
 exact bA (T:=bC) (deep:=bc) rfl rfl bh hx (pd (cf:=cX) (m:=M) (aV:=cO) rfl To Q8 Ra Vi U2 a7 bM [] aX H)
theorem Vq:N4 cX M:=by
 intro r0 r H h L  aA o  xs hx
 obtain⟨r',h',hb,rfl,ho⟩:=xc (cf:=cX) (m:=M) (aV:=cO) rfl Rj Tp Vj r0 h L aA  o H
 exact⟨h',jK (T:=bC) rfl rfl hx hb,ho⟩
theorem Tt:NY cX M:=by
 intro a0 b0 r H h xs hx
 exact bA (T:=bC) (deep:=bc) rfl rfl bh hx (lZ (cf:=cX) (m:=M) (aV:=cO) rfl Vl Vg Vm a0 b0 bM [] aX H)
theorem Vr:SQ cX M:=by
 intro s0 r H h xs hx
 exact bA (T:=bC) (deep:=bc) rfl rfl bh hx (po (cf:=cX) (m:=M) (aV:=cO) rfl Vn s0 bM [] aX H)
theorem Vt:Sy cX M:=by
 intro l0 r H h xs hx
 exact bA (T:=bC) (deep:=bc) rfl rfl bh hx (nN (cf:=cX) (m:=M) (aV:=cO) rfl Rb Rk NI NJ l0 bM [] aX H)
theorem Vu:RJ cX M:=by
 intro s0 r H h xs hx
 exact bA (T:=bC) (deep:=bc) rfl rfl bh hx (tk (cf:=cX) (m:=M) (aV:=cO) rfl Rm s0 bM [] aX H)
theorem Vv:R5 cX M:=by
 intro i0 j0 x0 r H h L ez bO o fO
 exact oM (T:=bC) rfl rfl (an (aQ (bD)) (an (aQ (bD)) (an (rfl) (bm)))) (mH (cf:=cX) (m:=M) (aV:=cO) rfl Tt i0 j0 x0 h L  fO o H)
theorem NK:∀kk,uB cX M kk
 | 0=>by
  intro ao a0 m0 b0 aO r H h L cm aA o dX aW gk gU xs hx
  cases H
 | kk+1=>by
  intro ao a0 m0 b0 aO r H h L cm aA o dX aW gk gU xs hx
  have hn0:cm=ao.length:=dj (E:=aa) o (q:=0) rfl
  subst hn0
  obtain⟨r',h',hb,rfl,ho⟩:=tw (cf:=cX) (m:=M) (aV:=cO) rfl Rn ao a0 m0 b0 aO h L aA dX aW  (NK kk) gk gU o H
  exact⟨h',jK (T:=bC) rfl rfl hx hb,ho⟩
theorem Vw:QA cX M:=by
 intro n0 ax r H h xs hx
 exact bA (T:=bC) (deep:=bc) rfl rfl bh hx (qp (cf:=cX) (m:=M) (aV:=cO) rfl Vr n0 ax bM [] aX H)
theorem Vx:SU cX M:=by
 intro l0 gx r H h xs hx
 exact kV (T:=bC) (deep:=bc) rfl rfl bh hx (qv (cf:=cX) (m:=M) (aV:=cO) rfl Vd Vt l0 gx bM [] aX H)
theorem Vy:RN cX M:=by
 intro n0 lX r H h xs hx
 exact bA (T:=bC) (deep:=bc) rfl rfl bh hx (tp (cf:=cX) (m:=M) (aV:=cO) rfl Vu Vk Ve Vf n0 lX bM [] aX H)
theorem Ro:ME cX M:=by
 intro ao n0 aO r H h L cm aA o kE db mG rv xs hx
 have hn0:cm=ao.length:=dj (E:=aa) o (q:=0) rfl
 subst hn0
 obtain⟨r',h',hb,rfl,ho⟩:=wT (cf:=cX) (m:=M) (aV:=cO) rfl Rh (NK _) ao n0 aO h L aA kE db  mG rv o H
 exact⟨h',jK (T:=bC) rfl rfl hx hb,ho⟩
theorem Vz:SS cX M:=by
 intro t0 r H h xs hx
 exact bA (T:=bC) (deep:=bc) rfl rfl bh hx (qu (cf:=cX) (m:=M) (aV:=cO) rfl Vw t0 bM [] aX H)
theorem VA:QJ cX M:=by
 intro t0 r H h xs hx
 exact kV (T:=bC) (deep:=bc) rfl rfl bh hx (qw (cf:=cX) (m:=M) (aV:=cO) rfl Vz Vx t0 bM [] aX H)
theorem VB:RW cX M:=by
 intro n0 x0 r H h L ez bO o fO
 exact oM (T:=bC) rfl rfl (an (aQ (sR (cR (bD) (cR (bD) (cR (wH) (cR (ib (E:=aa)) (gH))))))) (an (rfl) (bm))) (oX (cf:=cX) (m:=M) (aV:=cO) rfl Vy n0 x0 h L  fO o H)
theorem VC:RV cX M:=by
 intro x0 aO r H h L Fp aA o du aL gF gK xs hx
 have hn0:Fp=x0.length:=dj (E:=aa) o (q:=0) rfl
 subst hn0
 obtain⟨r',h',hb,rfl,ho⟩:=oW (cf:=cX) (m:=M) (aV:=cO) rfl Ro x0 aO h L aA du aL  gF gK o H
 exact⟨h',jK (T:=bC) rfl rfl hx hb,ho⟩
theorem VD:Tm cX M:=by
 intro l0 r H h xs hx
 exact bA (T:=bC) (deep:=bc) rfl rfl bh hx (qz (cf:=cX) (m:=M) (aV:=cO) rfl U4 VA l0 bM [] aX H)
theorem VE:RX cX M:=by
 intro t0 r H h xs hx
 exact bA (T:=bC) (deep:=bc) rfl rfl bh hx (ry (cf:=cX) (m:=M) (aV:=cO) rfl Ts VB t0 bM [] aX H)
theorem VF:R6 cX M:=by
 intro ax r H h xs hx
 exact bA (T:=bC) (deep:=bc) rfl rfl bh hx (oZ (cf:=cX) (m:=M) (aV:=cO) rfl Tt VC Vv ax bM [] aX H)
theorem VG:R8 cX M:=by
 intro t0 r H h xs hx
 exact kV (T:=bC) (deep:=bc) rfl rfl bh hx (rA (cf:=cX) (m:=M) (aV:=cO) rfl VF (Tq _) t0 bM [] aX H)
theorem VH:Qc cX M:=by
 intro t0 r H h xs hx
 exact kV (T:=bC) (deep:=bc) rfl rfl bh hx (rE (cf:=cX) (m:=M) (aV:=cO) rfl VE VG t0 bM [] aX H)
theorem Tu:N6 cX M:=by
 intro a7 r H h xs hx
 exact kV (T:=bC) (deep:=bc) rfl rfl bh hx (rF (cf:=cX) (m:=M) (aV:=cO) rfl VH Vh Vo Vp a7 bM [] aX H)
theorem VI:Qj cX M:=by
 intro b0 r H h xs hx
 exact kV (T:=bC) (deep:=bc) rfl rfl bh hx (rH (cf:=cX) (m:=M) (aV:=cO) rfl Tu U8 To Rj Vq b0 bM [] aX H)
theorem j5:S5 cX M:=by
 intro l0 r H h xs hx
 exact bA (T:=bC) (deep:=bc) rfl rfl bh hx (lB (cf:=cX) (m:=M) (aV:=cO) rfl U3 Tu U5 VI VD l0 bM [] aX H)
end Go.Proofs.YtmekcfdllhphlaaDoor
namespace Go.Proofs.YtmekcfdllhphlaaDoor
open Go Go.R Go.Proofs Go.RowKit Go.ChangeShapes Go.WideShapes
theorem zo {P:Program}{m:Nat}{t:TypeId}{ur:List AV}(h:oz P m [t] ur):∃xs,ur=[oy P t xs]∧Fits P m t xs:=by
 cases ur with
 | nil=>exact h.elim
 | cons x ur=>
  obtain⟨⟨xs,hx,hf⟩,h⟩:=h
  cases ur with
  | nil=>exact⟨xs,by rw [hx],hf⟩
  | cons _ _=>exact h.elim
theorem all_true (ur:List AV)(h:oz Tryd.prog 6 Tryd.f5.params.toList ur):∃cf h',CallOK Tryd.prog cf∧cf 5 ur bM=some (.bool true,h'):=by
 rw [show Tryd.f5.params.toList=[22] from by rw [Tryd.params5]] at h
 obtain⟨xs,rfl,hx⟩:=zo h
 obtain⟨x,l,rfl,hf,hl⟩:=DE hx
 refine⟨cX,bM,KQ,?_⟩
 have e1:oy Tryd.prog 22 [x]=x:=by unfold oy; rw [Tryd.underlying22]; rfl
 rw [e1]
 exact j5 l true (DD (by decide) (fun t ht=>(hl t ht).1) fun t ht=>(hl t ht).2) bM [x] (hf bM)
noncomputable def ub : List (String × DataW Unit) := [("bytes.ErrTooLarge", Rows.laid_bytes_ErrTooLarge)]
theorem own:ownKnob Tryd.prog.godebug=none:=by kernel_rfl
noncomputable def vK (os:Os):World:=World.laidAll Tryd.prog os ub
theorem uM (os:Os)(args:Array Value):laidMetH Tryd.prog ub ((vK os).forCall (fun _ _=>0) ⟨#[],args,[]⟩).memory:=by
 refine laidMetH_of_parts ?_ (by kernel_rfl)
 rw [show (ub.filter fun x=>x.2.handleName?.isNone)=ub from by kernel_rfl]
 exact laidMet_laidAll args (by kernel_rfl) (by kernel_rfl)
theorem pw (os:Os)(started:os.Started)(H:Type)(enc:TypeId × Value→H) :
  ReturnsInHanded {} Tryd.checked os 5 .any (fun w args=>(Rows.pickleManySpec.pre enc Tryd.prog Tryd.f5 [] false w args∧laidMetH Tryd.prog ub w)∧sizedMet enc Tryd.prog Tryd.f5 (OpenSpec.ofChange Rows.pickleManySpec) false w args)
   (Rows.pickleManySpec.post enc Tryd.prog Tryd.f5 false true false false):=by
 refine returnsInHanded_of_change_and (C:=Tryd.checked) (X:=fun w _=>laidMetH Tryd.prog ub w) (fun _ _ _ hh h=>h.of_heap hh) own started (by kernel_rfl) Tryd.func5
  (ChangeSpec.witness_at (enc:=enc) (C:=Tryd.checked) (os:=os) (X:=fun w _=>laidMetH Tryd.prog ub w) false (vK os) #[.slice none 0 0] 8 (World.laidAll_os _ _ _) (by kernel_rfl) (by kernel_rfl) (by kernel_rfl) (by kernel_rfl) (by kernel_rfl) (uM os _)) ?_
 intro W base args ds gs before dy hW _ _ hL _
 exact uu (cf:=fun _ _ _=>none) (P:=Tryd.prog) (m:=6) (tb:=4) (by kernel_rfl)
  (by rw [show Tryd.f5.params.toList=[22] from by rw [Tryd.params5]]; intro t ht; simp at ht; rcases ht with rfl; exact⟨by kernel_rfl,of_decide_eq_true (by kernel_rfl)⟩)
  (by rw [show Tryd.f5.params.toList=[22] from by rw [Tryd.params5]]; intro t ht; simp at ht; rcases ht with rfl; kernel_rfl) rfl rfl Tryd.underlying4
  (fun ds Jj=>by
   have:ds.length=1:=by rw [Jj]; rfl
   match ds,this with
   | [d],_=>rfl) all_true dy hW
theorem uc:Rows.PickleManySaid:=
 OpenClaim.holds_of_wide 5 Tryd.f5 rfl rfl rfl rfl rfl rfl rfl ⟨rfl,rfl,rfl,rfl,rfl⟩ rfl rfl rfl rfl rfl (by kernel_rfl) Tryd.func5 (by kernel_rfl)
  (of_decide_eq_true (by kernel_rfl)) (by unfold Func.isWrapper; first | (rw [if_pos (by decide +kernel)]; kernel_rfl) | (rw [if_neg (by decide +kernel)]; exact⟨rfl,rfl⟩))
  (fun os started H enc _=>pw os started H enc)
theorem pickleMany_holds:Rows.PickleManyCardSaid:=
 Claim7.holds_tied_plain_at .later [] [.sentinel] true (true, "5c7c24f3f163267658839de8cc9f4545a02ccfedb2900f3b8e61d73ca287aaae") false
  uc (fun _ h=>by cases h) (by kernel_rfl) (fun _ h=>by cases h) pickleMany_row_tie rfl ⟨rfl,rfl⟩ (by kernel_rfl) rfl
  (fun f fn hf JB=>by
   obtain rfl : f = 5 := Wy ((show Tryd.prog.funcNamed "leatwork/leatworklaw20.PickleMany" = some 5 by kernel_rfl).symm.trans hf) |>.symm
   obtain rfl:fn=Tryd.f5:=(Wy (Tryd.func5.symm.trans JB)).symm
   exact⟨by kernel_rfl,fun j t ht=>by
    rw [Tryd.params5] at ht
    have h3:t=22:=by
     rcases j with _ | j
     ·simpa using ht.symm
     ·simp at ht
    rcases h3 with rfl
    exact (show Tryd.prog.wantsStandIn 22=false by kernel_rfl)⟩)
  (by kernel_rfl)
end Go.Proofs.YtmekcfdllhphlaaDoor
