/- Part of the proof: PB10, PB11, PU3, PV2, Q12, Q17, Q3, PU4, Q20, Q63, Q66, Q64, Q46, Q24, PV3, Q26. -/
import Derived.Test.YtmekcfdllhphlaaDoorK12
set_option linter.unusedVariables false
set_option linter.unusedSimpArgs false
set_option maxRecDepth 100000
open Eq renaming trans → XN
open Int renaming toNat_natCast → WX
open List renaming length_set → WY, getElem?_eq_some_iff → WZ, length_append → W3, mem_singleton → W4, drop_eq_getElem_cons → W6, append_assoc → W7, mem_append → W8, getElem?_eq_none → Xa, getD_eq_getElem?_getD → Xb, replicate → Xc, mem_map → Xd, map_cons → Xe, length_cons → Xf, getElem?_append_right → Xg, map_append → Xm, mem_cons → Xo, drop_eq_nil_of_le → Xp, getElem?_map → Xq, drop_zero → Xr, nil_append → Xs, take_of_length_le → Xx, length_map → Xy, ext_getElem? → XI, length_nil → XL, getElem_mem → XM, take_add_one → XU, map_congr_left → XV, append_nil → XW, take_length → XX, getElem?_set → Ye, set_append_right → Yl, length_take → Yp
open List.cons renaming inj → X7
open Nat renaming lt_succ_self → XC, le_trans → XD, sub_self → Yo
open Option renaming bind_some → WQ, bind_eq_some_iff → WR, map_some → WW
open Option.some renaming injEq → WT, inj → Xn
open Or renaming inr → XZ, inl → Yf
namespace Go.Proofs.YtmekcfdllhphlaaDoor
open Go Go.R
open Go.IntKind (i64 u64 u8 u32)
def pm (pl:List Int)(n:ae):ae:=⟨n.kind,n.int,n.label,n.args.map fun a=>gt pl a.toNat⟩
theorem pG {l:List ae}{i:Nat}(h:i<l.length):l[i]? = some (nd l i):=by
 have:=hZ (l:=l) (i:=(i:Int)) (by omega) (by omega)
 unfold ix at this
 rwa [if_pos (by omega),WX] at this
theorem Bm {l:List ae}{i q:Nat}{x:ae}(hi:i<l.length):nd (l.set i x) q=if q=i then x else nd l q:=by
 unfold nd
 simp only [WX,Xb,Ye]
 by_cases h:i=q
 ·subst h; simp [hi]
 ·rw [if_neg h,if_neg (by omega)]
theorem GU {f:ae→ae}{l:List ae}{i:Nat}(h:i<l.length):nd (l.map f) i=f (nd l i):=by
 have h1:=pG (l:=l.map f) (i:=i) (by simpa using h)
 rw [Xq,pG h] at h1
 exact (Xn h1).symm
theorem IC {f:Int→ae}{l:List Int}{i:Nat}(h:i<l.length):nd (l.map f) i=f (gt l i):=by
 have h1:=pG (l:=l.map f) (i:=i) (by simpa using h)
 rw [Xq,bp h] at h1
 exact (Xn h1).symm
theorem GV {l r:List ae}(hl:l.length=r.length)(h:∀k,k<l.length→nd l k=nd r k):l=r:=by
 apply XI fun k=>?_
 by_cases hk:k<l.length
 ·rw [pG hk,pG (hl ▸ hk),h k hk]
 ·rw [Xa (by omega),Xa (by omega)]
theorem zB {m:Nat}{S:List Int}(hn:S.Nodup)(NX:S.length≤8000):∀(f i:Nat) (pl:List Int),S.length - i<f→i≤S.length→(∀s∈S,0≤s∧s<pl.length)→(∀q,q<i→gt pl (gt S q).toNat=q)→
  ∃GW x,ai.l0 m S f pl (i:Int)=some (GW,x)∧GW.length=pl.length∧∀q,q<S.length→gt GW (gt S q).toNat=q
 | 0,i,pl,hf,_,_,_=>absurd hf (by omega)
 | f+1,i,pl,hf,hi,hS,hq=>by
  unfold ai.l0
  by_cases h:i<S.length
  ·obtain⟨s0,s1⟩:=hS _ (aM h)
   have hx:∃z,ix pl (gt S i)=some z:=⟨_,fZ (k:=(gt S i).toNat) (by omega) (by omega)⟩
   obtain⟨z,hx⟩:=hx
   obtain⟨GW,x,k1,k2,k3⟩:=zB (m:=m) hn NX f (i+1) (pl.set (gt S i).toNat (i:Int)) (by omega) (by omega) (by simpa using hS) (fun q Hd=>by
    rw [eC (by omega)]
    by_cases e:q=i
    ·subst e; rw [if_pos rfl]
    ·have hne:gt S q≠gt S i:=fun e2=>e (tT hn (by omega) h e2)
     have:=hS _ (aM (l:=S) (k:=q) (by omega))
     rw [if_neg (by omega)]; exact hq q (by omega))
   refine⟨GW,x,?_,by simpa using k2,k3⟩
   rw [if_pos (by simp only [decide_eq_true_eq]; omega),cE h,WQ,hx,WQ,aE (by omega) (by omega),show (i:Int)+1=((i+1:Nat):Int) by omega]
   exact k1
  ·exact⟨pl,_,by rw [if_neg (by simp only [decide_eq_true_eq]; omega)],rfl,fun q h=>hq q (by omega)⟩
theorem zC {m:Nat}{S:List Int}(hn:S.Nodup)(NX:S.length≤8000):∀(f i:Nat) (pl:List Int),S.length - i<f→i≤S.length→(∀s∈S,0≤s∧s<pl.length)→(∀q,q<i→gt pl (gt S q).toNat=q)→
  ∃GW x,ai.l5 m S f pl (i:Int)=some (GW,x)∧GW.length=pl.length∧∀q,q<S.length→gt GW (gt S q).toNat=q
 | 0,i,pl,hf,_,_,_=>absurd hf (by omega)
 | f+1,i,pl,hf,hi,hS,hq=>by
  unfold ai.l5
  by_cases h:i<S.length
  ·obtain⟨s0,s1⟩:=hS _ (aM h)
   have hx:∃z,ix pl (gt S i)=some z:=⟨_,fZ (k:=(gt S i).toNat) (by omega) (by omega)⟩
   obtain⟨z,hx⟩:=hx
   obtain⟨GW,x,k1,k2,k3⟩:=zC (m:=m) hn NX f (i+1) (pl.set (gt S i).toNat (i:Int)) (by omega) (by omega) (by simpa using hS) (fun q Hd=>by
    rw [eC (by omega)]
    by_cases e:q=i
    ·subst e; rw [if_pos rfl]
    ·have hne:gt S q≠gt S i:=fun e2=>e (tT hn (by omega) h e2)
     have:=hS _ (aM (l:=S) (k:=q) (by omega))
     rw [if_neg (by omega)]; exact hq q (by omega))
   refine⟨GW,x,?_,by simpa using k2,k3⟩
   rw [if_pos (by simp only [decide_eq_true_eq]; omega),cE h,WQ,hx,WQ,aE (by omega) (by omega),show (i:Int)+1=((i+1:Nat):Int) by omega]
   exact k1
  ·exact⟨pl,_,by rw [if_neg (by simp only [decide_eq_true_eq]; omega)],rfl,fun q h=>hq q (by omega)⟩
theorem Cz {m:Nat}{pl:List Int}{n:ae}(h8:n.args.length≤8)(ha:∀a∈n.args,0≤a∧a<pl.length):∀(f k:Nat),n.args.length - k<f→k≤n.args.length→
  ∃x,ai.l2 m pl n f ((n.args.take k).map fun a=>gt pl a.toNat) (k:Int)=some (n.args.map fun a=>gt pl a.toNat,x)
 | 0,k,hf,_=>absurd hf (by omega)
 | f+1,k,hf,hk=>by
  unfold ai.l2
  by_cases h:k<n.args.length
  ·obtain⟨a0,a1⟩:=ha _ (aM h)
   have hy:ix pl (gt n.args k)=some (gt pl (gt n.args k).toNat):=fZ (by omega) (by omega)
   have hT:n.args.take (k+1)=n.args.take k++[gt n.args k]:=by rw [XU,bp h]; rfl
   have lQ:app 8 ((n.args.take k).map fun a=>gt pl a.toNat) [gt pl (gt n.args k).toNat]=some ((n.args.take (k+1)).map fun a=>gt pl a.toNat):=by
    unfold app; rw [if_pos (by simp; omega),hT,Xm]; rfl
   obtain⟨x,ih⟩:=Cz (m:=m) h8 ha f (k+1) (by omega) (by omega)
   rw [if_pos (by simp only [decide_eq_true_eq]; omega),cE h,WQ,hy,WQ,lQ,WQ,aE (by omega) (by omega),show (k:Int)+1=((k+1:Nat):Int) by omega]
   exact⟨x,ih⟩
  ·have e:k=n.args.length:=by omega
   subst e
   exact⟨_,by rw [if_neg (by simp),XX]⟩
theorem CA {m:Nat}{pl:List Int}{n:ae}(h8:n.args.length≤8)(ha:∀a∈n.args,0≤a∧a<pl.length):∀(f k:Nat),n.args.length - k<f→k≤n.args.length→
  ∃x,ai.l7 m pl n f ((n.args.take k).map fun a=>gt pl a.toNat) (k:Int)=some (n.args.map fun a=>gt pl a.toNat,x)
 | 0,k,hf,_=>absurd hf (by omega)
 | f+1,k,hf,hk=>by
  unfold ai.l7
  by_cases h:k<n.args.length
  ·obtain⟨a0,a1⟩:=ha _ (aM h)
   have hy:ix pl (gt n.args k)=some (gt pl (gt n.args k).toNat):=fZ (by omega) (by omega)
   have hT:n.args.take (k+1)=n.args.take k++[gt n.args k]:=by rw [XU,bp h]; rfl
   have lQ:app 8 ((n.args.take k).map fun a=>gt pl a.toNat) [gt pl (gt n.args k).toNat]=some ((n.args.take (k+1)).map fun a=>gt pl a.toNat):=by
    unfold app; rw [if_pos (by simp; omega),hT,Xm]; rfl
   obtain⟨x,ih⟩:=CA (m:=m) h8 ha f (k+1) (by omega) (by omega)
   rw [if_pos (by simp only [decide_eq_true_eq]; omega),cE h,WQ,hy,WQ,lQ,WQ,aE (by omega) (by omega),show (k:Int)+1=((k+1:Nat):Int) by omega]
   exact⟨x,ih⟩
  ·have e:k=n.args.length:=by omega
   subst e
   exact⟨_,by rw [if_neg (by simp),XX]⟩
theorem CB {m:Nat}(hm:2 ^ 30≤m){l:List ae}{S pl:List Int}(ok:kU l)(hS:∀s∈S,0≤s∧s<l.length)(NX:S.length≤8000)(Ae:pl.length=l.length):∀(f i:Nat),S.length - i<f→i≤S.length→
  ∃x,ai.l1 m l S pl f ((S.take i).map fun s=>pm pl (nd l s)) (i:Int)=some (S.map fun s=>pm pl (nd l s),x)
 | 0,i,hf,_=>absurd hf (by omega)
 | f+1,i,hf,hi=>by
  have nb:(2:Nat) ^ 30=1073741824:=by decide
  unfold ai.l1
  by_cases h:i<S.length
  ·obtain⟨s0,s1⟩:=hS _ (aM h)
   obtain⟨n1,n2⟩:=ok.2 _ (fu s0 s1)
   obtain⟨x,q1⟩:=Cz (m:=m) (pl:=pl) (n:=nd l (gt S i)) n1 (fun a ha=>by have:=n2 a ha; omega) m 0 (by omega) (by omega)
   have q1:ai.l2 m pl (nd l (gt S i)) m [] 0=_:=q1
   have hT:S.take (i+1)=S.take i++[gt S i]:=by rw [XU,bp h]; rfl
   have lQ:app 56 ((S.take i).map fun s=>pm pl (nd l s)) [ae.mk (nd l (gt S i)).kind (nd l (gt S i)).int (nd l (gt S i)).label ((nd l (gt S i)).args.map fun a=>gt pl a.toNat)]=some ((S.take (i+1)).map fun s=>pm pl (nd l s)):=by
    unfold app; rw [if_pos (by simp; omega),hT,Xm]; rfl
   obtain⟨x,ih⟩:=CB hm ok hS NX Ae f (i+1) (by omega) (by omega)
   rw [if_pos (by simp only [decide_eq_true_eq]; omega),cE h,WQ,hZ s0 s1,WQ,q1,WQ]
   dsimp only
   rw [lQ,WQ,aE (by omega) (by omega),show (i:Int)+1=((i+1:Nat):Int) by omega]
   exact⟨x,ih⟩
  ·have e:i=S.length:=by omega
   subst e
   exact⟨_,by rw [if_neg (by simp),XX]⟩
theorem CC {m:Nat}{P:List ae}{c:List Int}(hc:c.length=P.length){i:Nat}(hi:i<P.length)(h8:(nd P i).args.length≤8)(ha:∀a∈(nd P i).args,0≤a∧a<P.length):∀(f k:Nat),(nd P i).args.length - k<f→k≤(nd P i).args.length→
  ∃x,ai.l4 m c (i:Int) f (P.set i ⟨(nd P i).kind,(nd P i).int,(nd P i).label,(((nd P i).args.take k).map fun a=>gt c a.toNat)++(nd P i).args.drop k⟩) (k:Int)=some (P.set i (pm c (nd P i)),x)
 | 0,k,hf,_=>absurd hf (by omega)
 | f+1,k,hf,hk=>by
  unfold ai.l4
  have nu:∀w,ix (P.set i w) (i:Int)=some w:=fun w=>by
   rw [hZ (by omega) (by simpa using hi),Bm hi,if_pos rfl]
  have hlen:((((nd P i).args.take k).map fun a=>gt c a.toNat)++(nd P i).args.drop k).length=(nd P i).args.length:=by simp; omega
  rw [nu,WQ]
  by_cases h:k<(nd P i).args.length
  ·have hg:gt ((((nd P i).args.take k).map fun a=>gt c a.toNat)++(nd P i).args.drop k) k=gt (nd P i).args k:=by
    unfold gt
    rw [Xb,Xb,Xg (by simp; omega)]
    simp only [Xy,Yp,List.getElem?_drop]
    congr 2; omega
   obtain⟨a0,a1⟩:=ha _ (aM h)
   have hx:ix ((((nd P i).args.take k).map fun a=>gt c a.toNat)++(nd P i).args.drop k) (k:Int)=some (gt (nd P i).args k):=by rw [cE (by omega),hg]
   have hy:ix c (gt (nd P i).args k)=some (gt c (gt (nd P i).args k).toNat):=fZ (by omega) (by omega)
   have Al:((((nd P i).args.take k).map fun a=>gt c a.toNat)++(nd P i).args.drop k).set k (gt c (gt (nd P i).args k).toNat)=(((nd P i).args.take (k+1)).map fun a=>gt c a.toNat)++(nd P i).args.drop (k+1):=by
    have hT:(nd P i).args.take (k+1)=(nd P i).args.take k++[gt (nd P i).args k]:=by rw [XU,bp h]; rfl
    have hD:(nd P i).args.drop k=gt (nd P i).args k::(nd P i).args.drop (k+1):=by
     obtain⟨h4,h5⟩:=WZ.1 (bp h)
     rw [←h5]; exact W6 h4
    have Ls:(((nd P i).args.take k).map fun a=>gt c a.toNat).length=k:=by simp; omega
    rw [Yl _ _ (by omega),Ls,Yo,hD,List.set_cons_zero,hT,Xm,W7]
    rfl
   rw [if_pos (by simp only [decide_eq_true_eq]; omega),WQ,WQ]
   dsimp only
   rw [hx,WQ,hy,WQ,WQ,WX,WX,List.set_set,Al,aE (by omega) (by omega),show (k:Int)+1=((k+1:Nat):Int) by omega]
   exact CC hc hi h8 ha f (k+1) (by omega) (by omega)
  ·have e:k=(nd P i).args.length:=by omega
   subst e
   refine⟨((nd P i).args.length:Int),?_⟩
   rw [if_neg (by simp only [decide_eq_true_eq]; omega),XX,List.drop_length,XW]
   rfl
theorem CD {m:Nat}(hm:2 ^ 30≤m){P:List ae}{c:List Int}(ok:kU P)(hc:c.length=P.length):∀(f i:Nat) (Q:List ae),P.length - i<f→i≤P.length→Q.length=P.length→(∀q,q<P.length→nd Q q=if q<i then pm c (nd P q) else nd P q)→
  ∃x,ai.l3 m c f Q (i:Int)=some (P.map (pm c),x)
 | 0,i,Q,hf,_,_,_=>absurd hf (by omega)
 | f+1,i,Q,hf,hi,hl,hq=>by
  have nb:(2:Nat) ^ 30=1073741824:=by decide
  have h8:=ok.1
  unfold ai.l3
  by_cases h:i<P.length
  ·obtain⟨n1,n2⟩:=y7 ok h
   have OG:nd Q i=nd P i:=by rw [hq i h,if_neg (by omega)]
   obtain⟨x,q1⟩:=CC (m:=m) (P:=Q) (c:=c) (by omega) (i:=i) (by omega) (by rw [OG]; exact n1) (by rw [OG,hl]; exact n2) m 0 (by rw [OG]; omega) (by omega)
   have nu:Q.set i ⟨(nd Q i).kind,(nd Q i).int,(nd Q i).label,(((nd Q i).args.take 0).map fun a=>gt c a.toNat)++(nd Q i).args.drop 0⟩=Q:=by
    refine GV (by simp) fun k hk=>?_
    rw [Bm (by omega)]
    by_cases e:k=i
    ·subst e; rw [if_pos rfl]; simp
    ·rw [if_neg e]
   rw [nu] at q1
   have q1:ai.l4 m c (i:Int) m Q 0=_:=q1
   rw [if_pos (by simp only [decide_eq_true_eq]; omega),q1,WQ]
   dsimp only
   rw [aE (by omega) (by omega),show (i:Int)+1=((i+1:Nat):Int) by omega]
   refine CD hm ok hc f (i+1) _ (by omega) (by omega) (by simpa using hl) fun q VA=>?_
   rw [Bm (by omega)]
   by_cases e:q=i
   ·subst e; rw [if_pos rfl,if_pos (by omega),OG]
   ·rw [if_neg e,hq q VA]
    by_cases hlt:q<i
    ·rw [if_pos hlt,if_pos (by omega)]
    ·rw [if_neg hlt,if_neg (by omega)]
  ·have e:i=P.length:=by omega
   subst e
   refine⟨(P.length:Int),?_⟩
   rw [if_neg (by simp only [decide_eq_true_eq]; omega)]
   have:Q=P.map (pm c):=GV (by simpa using hl) fun k hk=>by rw [hq k (by omega),if_pos (by omega),GU (by omega)]
   rw [this]
theorem GX {m:Nat}(hm:2 ^ 30≤m){P:List ae}{T pl:List Int}(ok:kU P)(hT:∀t∈T,0≤t∧t<P.length)(VB:T.length≤8000)(Ae:P.length≤pl.length):∀(f i:Nat),T.length - i<f→i≤T.length→
  ∃x,ai.l6 m P T pl f (i:Int) ((T.take i).map fun t=>pm pl (nd P t)) 0=some (x,T.map fun t=>pm pl (nd P t),0)
 | 0,i,hf,_=>absurd hf (by omega)
 | f+1,i,hf,hi=>by
  have nb:(2:Nat) ^ 30=1073741824:=by decide
  unfold ai.l6
  by_cases h:i<T.length
  ·obtain⟨s0,s1⟩:=hT _ (aM h)
   obtain⟨n1,n2⟩:=ok.2 _ (fu s0 s1)
   obtain⟨x,q1⟩:=CA (m:=m) (pl:=pl) (n:=nd P (gt T i)) n1 (fun a ha=>by have:=n2 a ha; omega) m 0 (by omega) (by omega)
   have q1:ai.l7 m pl (nd P (gt T i)) m [] 0=_:=q1
   have VC:T.take (i+1)=T.take i++[gt T i]:=by rw [XU,bp h]; rfl
   have lQ:app 56 ((T.take i).map fun t=>pm pl (nd P t)) [ae.mk (nd P (gt T i)).kind (nd P (gt T i)).int (nd P (gt T i)).label ((nd P (gt T i)).args.map fun a=>gt pl a.toNat)]=some ((T.take (i+1)).map fun t=>pm pl (nd P t)):=by
    unfold app; rw [if_pos (by simp; omega),VC,Xm]; rfl
   obtain⟨x,ih⟩:=GX hm ok hT VB Ae f (i+1) (by omega) (by omega)
   rw [if_pos (by simp only [decide_eq_true_eq]; omega),cE h,WQ,hZ s0 s1,WQ,q1,WQ]
   dsimp only
   rw [lQ,WQ,aE (by omega) (by omega),show (i:Int)+1=((i+1:Nat):Int) by omega]
   exact⟨x,ih⟩
  ·have e:i=T.length:=by omega
   subst e
   exact⟨_,by rw [if_neg (by simp),XX]⟩
end Go.Proofs.YtmekcfdllhphlaaDoor
namespace Go.Proofs.YtmekcfdllhphlaaDoor
open Go Go.R
open Go.IntKind (i64 u64 u8 u32)
inductive Way (l:List ae):Nat→Nat→Prop
 | one {i k:Nat}:k<na l i→Way l i (ar l i k)
 | more {i j k:Nat}:Way l i j→k<na l j→Way l i (ar l j k)
theorem ID {l:List ae}{c od:List Int}(ok:kU l)(M:Lh l c od){i j:Nat}(w:Way l i j)(hi:i<l.length):j<l.length∧∀x:Nat,x<l.length→(x:Int)∈od→gt c x=gt c i→∃y:Nat,y<l.length∧gt c y=gt c j∧(y:Int)∈od∧od.idxOf (y:Int)<od.idxOf (x:Int):=by
 induction w with
 | @one k hk=>
  refine⟨(km ok hi hk).1,fun x hx NY e=>?_⟩
  have hA:=M.min.top i x hi hx e.symm
  have TL:k<na l x:=by have:=hA.len; unfold na at *; omega
  obtain⟨r1,r2⟩:=M.uW x NY k TL
  exact⟨ar l x k,(km ok hx TL).1,(M.min.arg i x hi hx e.symm k hk).symm,r1,r2⟩
 | @more j k w hk ih=>
  obtain⟨hj,ih⟩:=ih
  refine⟨(km ok hj hk).1,fun x hx NY e=>?_⟩
  obtain⟨y,hy,ey,Rr,hlt⟩:=ih x hx NY e
  have hA:=M.min.top j y hj hy ey.symm
  have TM:k<na l y:=by have:=hA.len; unfold na at *; omega
  obtain⟨r1,r2⟩:=M.uW y Rr k TM
  exact⟨ar l y k,(km ok hy TM).1,(M.min.arg j y hj hy ey.symm k hk).symm,r1,by omega⟩
theorem Bn {l:List ae}{c od:List Int}(ok:kU l)(M:Lh l c od)(h0:0<l.length)(hw:∀j,0<j→j<l.length→Way l 0 j):gt c 0=0:=by
 obtain⟨r1,r2,r3⟩:=M.pN 0 h0
 by_cases TN:((0:Nat):Int)∈od
 ·by_cases hz:gt c 0=0
  ·exact hz
  ·exfalso
   have w:=hw (gt c 0).toNat (by omega) (by omega)
   have key:∀N x:Nat,od.idxOf (x:Int)<N→x<l.length→(x:Int)∈od→gt c x=gt c 0→False:=by
    intro N
    induction N with
    | zero=>intro x h; omega
    | succ N ih=>
     intro x hN hx NY e
     obtain⟨y,hy,ey,Rr,hlt⟩:=(ID ok M w h0).2 x hx NY e
     exact ih y (by omega) hy Rr (by rw [ey,r3])
   exact key _ 0 (XC _) h0 TN rfl
 ·have:=M.Vz 0 h0 TN
  omega
theorem lock {l P5:List ae}{κ1:Int→Int}{K2:Int→Int}{Can:Int→Prop}(Rs:∀v w,Can v→Can w→K2 v=K2 w→v=w)
  (hargs:∀a v:Int,0≤a→a<l.length→Can v→κ1 a=K2 v→(nd l a).args.map κ1=(nd P5 v).args.map K2) (Rt:∀v,Can v→∀a∈(nd P5 v).args,Can a) (ok:kU l) {Iy o2 Hn:List Int}
  (h:um id (fun v=>(nd P5 v).args) Iy o2 Hn):∀uI o1:List Int,uI.map κ1=Iy.map K2→o1.map κ1=o2.map K2→(∀b∈Iy,Can b)→(∀b∈o2,Can b)→(∀a∈uI,0≤a∧a<l.length)→
  ∃LO,um κ1 (fun v=>(nd l v).args) uI o1 LO∧LO.map κ1=Hn.map K2:=by
 induction h with
 | nil o=>
  intro uI o1 hs ho _ _ _
  have:uI=[]:=by simpa using hs
  subst this
  exact⟨o1,.nil o1,ho⟩
 | @skip v st o o' hm _ ih=>
  intro uI o1 hs ho c1 c2 hr
  cases uI with
  | nil=>simp at hs
  | cons a uI=>
   simp only [Xe,List.cons.injEq] at hs
   obtain⟨LO,k1,k2⟩:=ih uI o1 hs.2 ho (fun b hb=>c1 b (by simp [hb])) c2 (fun x hx=>hr x (by simp [hx]))
   refine⟨LO,.skip ?_ k1,k2⟩
   rw [hs.1,ho]
   exact Xd.2 ⟨v,by simpa using hm,rfl⟩
 | @push v st o o' hn _ ih=>
  intro uI o1 hs ho c1 c2 hr
  cases uI with
  | nil=>simp at hs
  | cons a uI=>
   simp only [Xe,List.cons.injEq] at hs
   have hv:=c1 v (by simp)
   have ha:=hr a (by simp)
   have e:=hargs a v ha.1 ha.2 hv hs.1
   obtain⟨LO,k1,k2⟩:=ih ((nd l a).args++uI) (o1++[a]) (by rw [Xm,Xm,e,hs.2]) (by rw [Xm,Xm,ho]; simp [hs.1]) (fun b hb=>by
    rcases W8.1 hb with hb | hb
    ·exact Rt v hv b hb
    ·exact c1 b (by simp [hb])) (fun b hb=>by
    rcases W8.1 hb with hb | hb
    ·exact c2 b hb
    ·rw [W4] at hb; subst hb; exact hv) (fun x hx=>by
    rcases W8.1 hx with hx | hx
    ·exact (ok.2 _ (fu ha.1 ha.2)).2 x hx
    ·exact hr x (by simp [hx]))
   refine⟨LO,.push ?_ k1,k2⟩
   rw [hs.1,ho]
   intro hm
   obtain⟨w,w1,w2⟩:=Xd.1 hm
   have:=Rs v w hv (c2 w w1) w2.symm
   subst this
   exact hn (by simpa using w1)
theorem GY {m:Nat}(hm:2 ^ 41≤m){t:au}(h:dT t=true):∃s,ck.f m t=some s∧ai.f m t.nodes t.root=some s:=by
 have nb:(2:Nat) ^ 30=1073741824:=by decide
 have rD:(2:Nat) ^ 41=2199023255552:=by decide
 have DW:2 ^ 30≤m:=by omega
 obtain⟨ok,h1,r0,r1,hT⟩:=jf h
 obtain⟨r,ns,e1,M,Q,_⟩:=lA hm h
 have h8:=ok.1
 generalize hl:t.nodes=l at *
 have Ru:um (en r) (fun v=>(nd l v).args) [t.root] [] (ri r l m t.root []):=pB ok m t.root [] [] _ r0 r1 ⟨by simp,fun x hx=>by cases hx⟩ (by simp; omega) (.nil _)
 obtain⟨S,s1,s2⟩:=pD DW ok r0 r1
 have hA:∀v:Int,0≤v→v<l.length→∀a∈(nd l v).args,0≤a∧a<l.length:=fun v a b=>(ok.2 _ (fu a b)).2
 obtain⟨_,Sr,Sn,_,Sc⟩:=s2.facts hA (fun v hv=>by rw [W4] at hv; subst hv; exact⟨r0,r1⟩) (fun v hv=>by cases hv) (by simp)
 rw [List.map_id] at Sn
 have Sc:∀v∈S,∀a∈(nd l v).args,a∈S:=fun v hv a ha=>by have:=Sc (fun v hv=>by cases hv) v hv a ha; simpa using this
 have S0:∃T,S=t.root::T:=by
  cases s2 with
  | skip yl _=>simp at yl
  | push _ k=>
   obtain⟨⟨T,e⟩,_⟩:=k.facts hA (fun v hv=>by
    rcases W8.1 hv with hv | hv
    ·exact hA _ r0 r1 v hv
    ·cases hv) (fun v hv=>by simp at hv; subst hv; exact⟨r0,r1⟩) (by simp)
   exact⟨T,by simpa using e⟩
 have Sl:S.length≤l.length:=pC Sn Sr
 have Sp:0<S.length:=by obtain⟨T,rfl⟩:=S0; simp
 have Jq:gt S 0=t.root:=by obtain⟨T,rfl⟩:=S0; rfl
 have NZ:=s2.from (root:=t.root) (fun v hv=>by rw [W4] at hv; exact .inl hv) (fun i hi=>absurd hi (by simp))
 have e0:uM 8 (l.length:Int) (0:Int)=some (Xc l.length 0):=by unfold uM; rw [if_pos ⟨by omega,by rw [WX]; omega⟩,WX]
 obtain⟨pl,x1,p1,p2,p3⟩:=zB (m:=m) Sn (by omega) m 0 (Xc l.length 0) (by omega) (by omega) (by simpa using Sr) (fun q hq=>absurd hq (by omega))
 rw [List.length_replicate] at p2
 have p1:ai.l0 m S m (Xc l.length 0) 0=_:=p1
 obtain⟨x2,p4⟩:=CB DW ok Sr (by omega) p2 m 0 (by omega) (by omega)
 have p4:ai.l1 m l S pl m [] 0=_:=p4
 generalize Rv:(S.map fun s=>pm pl (nd l s))=P1 at p4
 have OH:P1.length=S.length:=by rw [←Rv]; simp
 have Jr:∀i:Nat,i<S.length→nd P1 i=pm pl (nd l (gt S i)):=fun i hi=>by rw [←Rv,IC hi]
 have OI:∀{x:Int},x∈S→gt S (gt pl x.toNat).toNat=x∧0≤gt pl x.toNat∧gt pl x.toNat<S.length:=fun hx=>by
  obtain⟨q,hq,e⟩:=eU hx
  have:=p3 q hq
  rw [e] at this
  rw [this,WX]; exact⟨e,by omega,by omega⟩
 have Rw:∀i:Nat,i<S.length→∀a∈(nd l (gt S i)).args,a∈S:=fun i hi=>Sc _ (aM hi)
 have D8:kU P1:=by
  refine⟨by omega,fun n hn=>?_⟩
  rw [←Rv] at hn
  obtain⟨s,hs,rfl⟩:=Xd.1 hn
  have hr:=Sr s hs
  refine⟨by simpa [pm] using (ok.2 _ (fu hr.1 hr.2)).1,fun a ha=>?_⟩
  obtain⟨x,hx,rfl⟩:=Xd.1 ha
  have:=OI (Sc s hs x hx)
  rw [OH]; exact this.2
 obtain⟨c,od,c1,C⟩:=zA DW D8
 have cl:c.length=P1.length:=C.min.len
 have Rx:∀i:Nat,i<S.length→na P1 i=na l (gt S i).toNat:=fun i hi=>by
  have:=Sr _ (aM hi)
  unfold na
  rw [Jr i hi]
  show ((nd l (gt S i)).args.map _).length=_
  rw [Xy,show (((gt S i).toNat:Nat):Int)=gt S i by omega]
 have N0:∀i:Nat,i<S.length→∀k,k<na P1 i→gt S (ar P1 i k)=gt (nd l (gt S i)).args k:=fun i hi k hk=>by
  have pY:k<(nd l (gt S i)).args.length:=by
   have:=hk; unfold na at this; rw [Jr i hi] at this; simpa [pm] using this
  have hx:=Rw i hi _ (aM pY)
  have:gt (nd P1 i).args k=gt pl (gt (nd l (gt S i)).args k).toNat:=by
   rw [Jr i hi]
   have h1:=bp (l:=(pm pl (nd l (gt S i))).args) (k:=k) (by simpa [pm] using pY)
   have h2:(pm pl (nd l (gt S i))).args[k]? = some (gt pl (gt (nd l (gt S i)).args k).toNat):=by
    show ((nd l (gt S i)).args.map _)[k]? = _
    rw [Xq,bp pY]; rfl
   rw [h2] at h1; exact (Xn h1).symm
  unfold ar
  rw [this]
  exact (OI hx).1
 have VD:∀j,0<j→j<P1.length→Way P1 0 j:=by
  have:∀N j,j<N→0<j→j<P1.length→Way P1 0 j:=by
   intro N
   induction N with
   | zero=>intro j h; omega
   | succ N ih=>
    intro j hN hj WM
    rcases NZ j (by omega) with e | ⟨q,hq,yl⟩
    ·have:=tT Sn (by omega) Sp (e.trans Jq.symm)
     omega
    ·obtain⟨k,hk,e⟩:=eU yl
     have Ep:k<na P1 q:=by unfold na; rw [Jr q (by omega)]; simpa [pm] using hk
     have h2:=N0 q (by omega) k Ep
     rw [e] at h2
     have h3:=(km D8 (i:=q) (by omega) Ep).1
     have e4:ar P1 q k=j:=tT Sn (by omega) (by omega) h2
     rw [←e4]
     by_cases VE:q=0
     ·subst VE; exact .one Ep
     ·exact .more (ih q (by omega) (by omega) (by omega)) Ep
  exact fun j=>this (j+1) j (XC _)
 have VF:gt c 0=0:=Bn D8 C (by omega) VD
 have zD:∀i:Nat,i<S.length→(((gt S i).toNat:Nat):Int)=gt S i∧(gt S i).toNat<l.length:=fun i hi=>by have:=Sr _ (aM hi); omega
 have TO:∀i j:Nat,i<S.length→j<S.length→(Alike (nd P1 i) (nd P1 j)↔Alike (nd l (gt S i)) (nd l (gt S j))):=fun i j hi hj=>by
  rw [Jr i hi,Jr j hj]
  constructor
  ·intro z; exact⟨z.kind,z.int,z.label,by have:=z.len; simpa [pm] using this⟩
  ·intro z; exact⟨z.kind,z.int,z.label,by have:=z.len; simpa [pm] using this⟩
 have cr:∀i j:Nat,i<S.length→j<S.length→(gt c i=gt c j↔gt r (gt S i).toNat=gt r (gt S j).toNat):=fun i j hi hj=>by
  constructor
  ·intro e
   refine M.max (fun a b=>∃i j:Nat,i<S.length∧j<S.length∧a=(gt S i).toNat∧b=(gt S j).toNat∧gt c i=gt c j) ⟨?_,?_,?_⟩ _ _ ⟨i,j,hi,hj,rfl,rfl,e⟩
   ·rintro a b ⟨i,j,hi,hj,rfl,rfl,_⟩
    exact⟨(zD i hi).2,(zD j hj).2⟩
   ·rintro a b ⟨i,j,hi,hj,rfl,rfl,e⟩
    rw [(zD i hi).1,(zD j hj).1]
    exact (TO i j hi hj).1 (C.min.top i j (by omega) (by omega) e)
   ·rintro a b ⟨i,j,hi,hj,rfl,rfl,e⟩ k hk
    rw [(zD i hi).1] at hk ⊢
    rw [(zD j hj).1]
    have r8:k<na P1 i:=by rw [Rx i hi]; unfold na; rw [(zD i hi).1]; exact hk
    have LC:k<na P1 j:=by have:=(C.min.top i j (by omega) (by omega) e).len; unfold na at *; omega
    have a1:=(km D8 (i:=i) (by omega) r8).1
    have a2:=(km D8 (i:=j) (by omega) LC).1
    refine⟨ar P1 i k,ar P1 j k,by omega,by omega,?_,?_,C.min.arg i j (by omega) (by omega) e k r8⟩
    ·rw [N0 i hi k r8]
    ·rw [N0 j hj k LC]
  ·intro e
   refine C.min.max (fun a b=>a<S.length∧b<S.length∧gt r (gt S a).toNat=gt r (gt S b).toNat) ⟨?_,?_,?_⟩ i j ⟨hi,hj,e⟩
   ·rintro a b ⟨h1,h2,_⟩; omega
   ·rintro a b ⟨h1,h2,e⟩
    refine (TO a b h1 h2).2 ?_
    have:=M.top _ _ (zD a h1).2 (zD b h2).2 e
    rwa [(zD a h1).1,(zD b h2).1] at this
   ·rintro a b ⟨h1,h2,e⟩ k hk
    have hA:=M.top _ _ (zD a h1).2 (zD b h2).2 e
    have HU:k<na P1 a:=hk
    have Hu:k<(nd l (((gt S a).toNat:Nat):Int)).args.length:=by have:=Rx a h1; unfold na at this HU; omega
    have hkb:k<na P1 b:=by rw [Rx b h2]; have:=hA.len; unfold na; omega
    have g:=M.arg _ _ (zD a h1).2 (zD b h2).2 e k Hu
    rw [(zD a h1).1,(zD b h2).1] at g
    have a1:=(km D8 (i:=a) (by omega) HU).1
    have a2:=(km D8 (i:=b) (by omega) hkb).1
    refine⟨by show ar P1 a k<_; omega,by show ar P1 b k<_; omega,?_⟩
    show gt r (gt S (ar P1 a k)).toNat=gt r (gt S (ar P1 b k)).toNat
    rw [N0 a h1 k HU,N0 b h2 k hkb]; exact g
 obtain⟨x3,p5⟩:=CD DW D8 cl m 0 P1 (by omega) (by omega) rfl (fun q hq=>by rw [if_neg (by omega)])
 have p5:ai.l3 m c m P1 0=_:=p5
 have TP:∀i:Nat,i<S.length→nd (P1.map (pm c)) i=pm c (nd P1 i):=fun i hi=>GU (by omega)
 have Lk:∀i:Nat,i<S.length→0≤gt c i∧gt c i<S.length∧gt c (gt c i).toNat=gt c i:=fun i hi=>by have:=C.pN i (by omega); rw [OH] at this; exact this
 have Ry:kU (P1.map (pm c)):=by
  refine⟨by simp; omega,fun n hn=>?_⟩
  obtain⟨n1,JM,rfl⟩:=Xd.1 hn
  obtain⟨q1,q2⟩:=D8.2 n1 JM
  refine⟨by simpa [pm] using q1,fun a ha=>?_⟩
  obtain⟨x,hx,rfl⟩:=Xd.1 ha
  have:=q2 x hx
  have:=Lk x.toNat (by omega)
  rw [Xy,OH]; omega
 obtain⟨T,t1,t2⟩:=pD DW Ry (root:=0) (by omega) (by simp; omega)
 generalize VG:P1.map (pm c)=P5 at *
 have WN:P5.length=S.length:=by rw [←VG]; simp [OH]
 have VH:∀v:Int,0≤v→v<P5.length→∀a∈(nd P5 v).args,0≤a∧a<P5.length:=fun v a b=>(Ry.2 _ (fu a b)).2
 obtain⟨_,Tr,Tn,_,Tc⟩:=t2.facts VH (fun v hv=>by rw [W4] at hv; subst hv; omega) (fun v hv=>by cases hv) (by simp)
 rw [List.map_id] at Tn
 have Tc:∀v∈T,∀a∈(nd P5 v).args,a∈T:=fun v hv a ha=>by have:=Tc (fun v hv=>by cases hv) v hv a ha; simpa using this
 have Tl:T.length≤P5.length:=pC Tn Tr
 obtain⟨Rz,x4,p6,p7,p8⟩:=zC (m:=m) Tn (by omega) m 0 pl (by omega) (by omega) (fun s hs=>by have:=Tr s hs; omega) (fun q hq=>absurd hq (by omega))
 have p6:ai.l5 m T m pl 0=_:=p6
 obtain⟨x5,p9⟩:=GX (m:=m) DW Ry Tr (by omega) (pl:=Rz) (by omega) m 0 (by omega) (by omega)
 have p9:ai.l6 m P5 T Rz m 0 [] 0=_:=p9
 let K2:Int→Int:=fun b=>en r (gt S b.toNat)
 let Can:Int→Prop:=fun b=>0≤b∧b<S.length∧gt c b.toNat=b
 have TQ:∀x:Int,x∈S→K2 (gt c (gt pl x.toNat).toNat)=en r x:=fun x hx=>by
  obtain⟨i1,i2,i3⟩:=OI hx
  obtain⟨g1,g2,g3⟩:=Lk (gt pl x.toNat).toNat (by omega)
  show en r (gt S (gt c (gt pl x.toNat).toNat).toNat)=_
  have:=(cr (gt c (gt pl x.toNat).toNat).toNat (gt pl x.toNat).toNat (by omega) (by omega)).1 g3
  unfold en
  rw [this,i1]
 have CE:∀v:Int,0≤v→v<S.length→(nd P5 v).args=(nd l (gt S v.toNat)).args.map fun x=>gt c (gt pl x.toNat).toNat:=fun v v0 v1=>by
  have:=TP v.toNat (by omega)
  rw [show ((v.toNat:Nat):Int)=v by omega] at this
  rw [this]
  have h2:=Jr v.toNat (by omega)
  rw [show ((v.toNat:Nat):Int)=v by omega] at h2
  rw [h2]
  show ((nd l (gt S v.toNat)).args.map _).map _=_
  rw [List.map_map]; rfl
 have same:∀a b:Int,0≤a→a<l.length→0≤b→b<l.length→en r a=en r b→Alike (nd l a) (nd l b)∧(nd l a).args.map (en r)=(nd l b).args.map (en r):=fun a b a0 a1 b0 b1 e=>by
  have ea:((a.toNat:Nat):Int)=a:=by omega
  have eb:((b.toNat:Nat):Int)=b:=by omega
  have e:gt r a.toNat=gt r b.toNat:=e
  have hA:=M.top a.toNat b.toNat (by omega) (by omega) e
  have hg:=M.arg a.toNat b.toNat (by omega) (by omega) e
  rw [ea,eb] at hA hg
  refine⟨hA,XI fun k=>?_⟩
  simp only [Xq]
  by_cases hk:k<(nd l a).args.length
  ·rw [bp hk,bp (by have:=hA.len; omega)]
   simp only [WW,WT]
   exact hg k hk
  ·rw [Xa (by omega),Xa (by have:=hA.len; omega)]
 obtain⟨o1,q1,q2⟩:=lock (l:=l) (P5:=P5) (κ1:=en r) (K2:=K2) (Can:=Can) (fun v w hv hw e=>by
   have:=(cr v.toNat w.toNat (by have:=hv.1; have:=hv.2.1; omega) (by have:=hw.1; have:=hw.2.1; omega)).2 e
   rw [hv.2.2,hw.2.2] at this; exact this) (fun a v a0 a1 hv e=>by
   have hS:=aM (l:=S) (k:=v.toNat) (by have:=hv.1; have:=hv.2.1; omega)
   have hr:=Sr _ hS
   rw [(same a _ a0 a1 hr.1 hr.2 e).2,CE v hv.1 hv.2.1,List.map_map]
   refine XV fun x hx=>?_
   exact (TQ x (Sc _ hS x hx)).symm) (fun v hv a ha=>by
   rw [CE v hv.1 hv.2.1] at ha
   obtain⟨x,hx,rfl⟩:=Xd.1 ha
   have hS:=aM (l:=S) (k:=v.toNat) (by have:=hv.1; have:=hv.2.1; omega)
   have:=OI (Sc _ hS x hx)
   exact Lk (gt pl x.toNat).toNat (by omega)) ok t2 [t.root] [] (by
   show [en r t.root]=[en r (gt S 0)]; rw [Jq]) rfl (fun b hb=>by
   rw [W4] at hb; subst hb
   exact⟨by omega,by omega,VF⟩) (fun b hb=>by cases hb) (fun a ha=>by rw [W4] at ha; subst ha; exact⟨r0,r1⟩)
 have eo:=q1.Tw Ru
 rw [eo] at q2
 generalize hO:ri r l m t.root []=O at *
 have OT:O.length=T.length:=by have:=congrArg List.length q2; simpa using this
 have OK:∀k,k<T.length→en r (gt O k)=K2 (gt T k):=fun k hk=>by
  have:=congrArg (fun z=>z[k]?) q2
  simp only [Xq] at this
  rw [bp (by omega),bp hk] at this
  simpa using this
 have VI:ns=T.map fun v=>pm Rz (nd P5 v):=by
  have hlen:=Q.len
  apply XI fun k=>?_
  by_cases hk:k<T.length
  ·rw [Q.new k (by simp) (by omega),Xq,bp hk]
   simp only [WW,WT]
   have hOr:=Q.vs.nB _ (aM (l:=O) (k:=k) (by omega))
   have TR:=Tr _ (aM hk)
   have hS:=aM (l:=S) (k:=(gt T k).toNat) (by omega)
   have TS:=Sr _ hS
   obtain⟨hA,hM⟩:=same _ _ hOr.1 hOr.2 TS.1 TS.2 (OK k hk)
   have Ll:(nd P5 (gt T k)).kind=(nd l (gt S (gt T k).toNat)).kind∧(nd P5 (gt T k)).int=(nd l (gt S (gt T k).toNat)).int∧(nd P5 (gt T k)).label=(nd l (gt S (gt T k).toNat)).label:=by
    have:=TP (gt T k).toNat (by omega)
    rw [show (((gt T k).toNat:Nat):Int)=gt T k by omega] at this
    rw [this]
    have h2:=Jr (gt T k).toNat (by omega)
    rw [show (((gt T k).toNat:Nat):Int)=gt T k by omega] at h2
    rw [h2]
    exact⟨rfl,rfl,rfl⟩
   unfold uT pm
   rw [hA.kind,hA.int,hA.label,Ll.1,Ll.2.1,Ll.2.2]
   congr 1
   rw [CE _ TR.1 (by omega),List.map_map]
   apply XI fun j=>?_
   simp only [Xq]
   by_cases hj:j<(nd l (gt O k)).args.length
   ·have EA:j<(nd l (gt S (gt T k).toNat)).args.length:=by have:=hA.len; omega
    rw [bp hj,bp EA]
    simp only [WW,WT,Function.comp]
    have ex:en r (gt (nd l (gt O k)).args j)=en r (gt (nd l (gt S (gt T k).toNat)).args j):=by
     have:=congrArg (fun z=>z[j]?) hM
     simp only [Xq] at this
     rw [bp hj,bp EA] at this
     simpa using this
    have hin:gt c (gt pl (gt (nd l (gt S (gt T k).toNat)).args j).toNat).toNat∈T:=by
     refine Tc _ (aM hk) _ ?_
     rw [CE _ TR.1 (by omega)]
     exact Xd.2 ⟨_,aM EA,rfl⟩
    obtain⟨q,hq,eq⟩:=eU hin
    have TT:=p8 q hq
    rw [eq] at TT
    rw [TT]
    unfold idx
    have AQ:=Q.vs.Hl
    have hget:(O.map (en r))[q]? = some (en r (gt (nd l (gt O k)).args j)):=by
     rw [Xq,bp (by omega)]
     simp only [WW,WT]
     rw [OK q hq,eq,TQ _ (Sc _ hS _ (aM EA)),ex]
    obtain⟨g1,g2⟩:=WZ.1 hget
    rw [←g2,AQ.idxOf_getElem]
   ·rw [Xa (by omega),Xa (by have:=hA.len; omega)]
    rfl
  ·rw [Xa (by omega),Xa (by simp; omega)]
 refine⟨⟨ns,0⟩,e1,?_⟩
 unfold ai.f
 rw [s1,WQ,e0,WQ,p1,WQ]
 dsimp only
 rw [p4,WQ]
 dsimp only
 rw [c1,WQ,p5,WQ]
 dsimp only
 rw [t1,WQ,p6,WQ]
 dsimp only
 rw [p9,WQ,VI]
end Go.Proofs.YtmekcfdllhphlaaDoor
namespace Go.Proofs.YtmekcfdllhphlaaDoor
open Go Go.R
open Go.IntKind (i64 u64 u8 u32)
theorem ur {m:Nat}(hm:2 ^ 41≤m){t:au}(h0:Gq t):∃s e,eG.f m t=some (s,e)∧fc.f m t=some (s,e)∧(e=0→nD s)∧(e=0↔dT t=true)∧(e≠0→e=2∧s=⟨[],0⟩):=by
 have nb:(2:Nat) ^ 30=1073741824:=by decide
 have rD:(2:Nat) ^ 41=2199023255552:=by decide
 unfold eG.f fc.f
 rw [ly (by omega),zx (by omega),WQ,WQ]
 cases h:dT t with
 | false=>exact⟨_,_,rfl,rfl,fun h=>absurd h (by decide),by simp,fun _=>⟨rfl,rfl⟩⟩
 | true=>
  obtain⟨s,k1,k2⟩:=GY hm h
  obtain⟨s',k3,L⟩:=vP hm h h0
  rw [k1] at k3
  cases k3
  rw [if_neg (by simp),if_neg (by simp),k1,k2]
  exact⟨_,_,rfl,rfl,fun _=>L,by simp,fun h=>absurd rfl h⟩
end Go.Proofs.YtmekcfdllhphlaaDoor
namespace Go.Proofs.YtmekcfdllhphlaaDoor
open Go Go.R
open Go.IntKind (i64 u64 u8 u32)
def lf (m:Nat)(t:au):au:=(ck.f m t).getD ⟨[],0⟩
structure Lf (m:Nat)(t:au):Prop where
 eq:ck.f m t=some (lf m t)
 top:eG.f m t=some (lf m t,0)
 ref:fc.f m t=some (lf m t,0)
 lt:nD (lf m t)
 val:dT (lf m t)=true
 len:(lf m t).nodes.length≤t.nodes.length
 VJ:Gq (lf m t)
 idem:lf m (lf m t)=lf m t
theorem sn {m:Nat}(hm:2 ^ 41≤m){t:au}(h:dT t=true)(h0:Gq t):Lf m t:=by
 obtain⟨s,e1,v,l,e2⟩:=Bf hm h
 obtain⟨s',e',k1,k2,k3,k4,_⟩:=ur hm h0
 have hs:lf m t=s:=by unfold lf; rw [e1]; rfl
 have:=k4.2 h
 subst this
 obtain⟨s2,k5,L⟩:=vP hm h h0
 rw [e1] at k5
 cases k5
 have hv:eG.f m t=some (s,0):=by
  have rD:(2:Nat) ^ 41=2199023255552:=by decide
  have nb:(2:Nat) ^ 30=1073741824:=by decide
  unfold eG.f
  rw [ly (by omega),WQ,h,if_neg (by simp),e1]; rfl
 rw [hv] at k1
 cases k1
 have hi:lf m s=s:=by unfold lf; rw [e2]; rfl
 exact⟨by rw [hs]; exact e1,by rw [hs]; exact hv,by rw [hs]; exact k2,by rw [hs]; exact L,by rw [hs]; exact v,by rw [hs]; exact l,by rw [hs]; exact fun n hn=>(L.nodes n hn).2.1,by rw [hs]; exact hi⟩
structure zE (m:Nat)(l:List au):Prop where
 tU:l.length≤8
 val:∀t∈l,dT t=true∧Gq t
 OJ:∀t∈l,(lf m t).nodes.any (fun n=>n.kind==4)=false
 sum:(l.map fun t=>t.nodes.length).sum≤300
theorem zE.lf {m:Nat}(hm:2 ^ 41≤m){l:List au}(I:zE m l){t:au}(ht:t∈l):Lf m t:=sn hm (I.val t ht).1 (I.val t ht).2
theorem GZ {m:Nat}:∀{l:List au},(∀t∈l,Lf m t)→((l.map (lf m)).map fun t=>t.nodes.length).sum≤(l.map fun t=>t.nodes.length).sum
 | [],_=>by simp
 | a::l,h=>by
  have h1:=(h a (by simp)).len
  have:=GZ (l:=l) fun t ht=>h t (by simp [ht])
  simp only [Xe,List.sum_cons]
  omega
theorem IE {l:List au}{t:au}(h:t∈l):t.nodes.length≤(l.map fun t=>t.nodes.length).sum:=by
 induction l with
 | nil=>cases h
 | cons a l ih=>
  simp only [Xe,List.sum_cons]
  rcases Xo.1 h with rfl | h
  ·omega
  ·have:=ih h; omega
theorem zE.least {m:Nat}(hm:2 ^ 41≤m){l:List au}(I:zE m l):zE m (l.map (Go.Proofs.YtmekcfdllhphlaaDoor.lf m)):=by
 refine⟨by simpa using I.tU,fun t ht=>?_,fun t ht=>?_,XD (GZ fun t ht=>I.lf hm ht) I.sum⟩
 ·obtain⟨u,hu,rfl⟩:=Xd.1 ht
  exact⟨(I.lf hm hu).val,(I.lf hm hu).VJ⟩
 ·obtain⟨u,hu,rfl⟩:=Xd.1 ht
  rw [(I.lf hm hu).idem]
  exact I.OJ u hu
theorem zE.idem {m:Nat}(hm:2 ^ 41≤m){l:List au}(I:zE m l):(l.map (Go.Proofs.YtmekcfdllhphlaaDoor.lf m)).map (Go.Proofs.YtmekcfdllhphlaaDoor.lf m)=l.map (Go.Proofs.YtmekcfdllhphlaaDoor.lf m):=by
 rw [List.map_map]
 exact XV fun t ht=>(I.lf hm ht).idem
theorem zE.one {m:Nat}{l:List au}(I:zE m l){t:au}(ht:t∈l):zE m [t]:=
 ⟨by simp,fun u hu=>by simp at hu; subst hu; exact I.val u ht,fun u hu=>by simp at hu; subst hu; exact I.OJ u ht,by have:=IE ht; have:=I.sum; simp; omega⟩
def pk (m:Nat)(l:List au):List Int:=cC (l.map (lf m))++(cH.f m (cC (l.map (lf m)))).getD []
theorem pH:∀{l:List au},(∀t∈l,nD t∧rl t)→(cw l).length≤10*l.length+200*(l.map fun t=>t.nodes.length).sum
 | [],_=>by simp [cw]
 | a::l,h=>by
  have h1:=h a (by simp)
  have:=pH (l:=l) fun b hb=>h b (by simp [hb])
  have QA:(2:Nat) ^ 64=18446744073709551616:=by decide
  have hf:=h1.1.tU
  have h3:=dU (n:=a.nodes.length) (by omega)
  have hn:∀l:List ae,(∀n∈l,rj n∧A7 n)→(dO l).length≤200*l.length:=by
   intro l
   induction l with
   | nil=>intro _; simp [dO]
   | cons a l ih=>
    intro h
    have h1:=h a (by simp)
    have:=ih fun b hb=>h b (by simp [hb])
    have h2:=zj h1.1 h1.2
    rw [jj,W3,Xf]; omega
  have h2:=hn a.nodes fun n hn=>⟨h1.2.nodes n hn,(h1.1.nodes n hn).1⟩
  rw [jk,W3,jL,W3,Xf,Xe,List.sum_cons]; omega
structure Pk (m:Nat)(l:List au)(c:List Int):Prop where
 TU:cH.f m (cC (l.map (lf m)))=some c
 eq:pk m l=cC (l.map (lf m))++c
 TV:Bytes c
 len:c.length=4
 w:∀t∈l.map (lf m),nD t∧rl t
 size:(cw (l.map (lf m))).length≤60080
 Js:(cC (l.map (lf m))).length≤60100∧3≤(cC (l.map (lf m))).length
theorem zE.pk {m:Nat}(hm:2 ^ 41≤m){l:List au}(I:zE m l):∃c,Pk m l c:=by
 have rD:(2:Nat) ^ 41=2199023255552:=by decide
 have ot:(2:Nat) ^ 40=1099511627776:=by decide
 have QA:(2:Nat) ^ 64=18446744073709551616:=by decide
 have hW:∀t∈l.map (Go.Proofs.YtmekcfdllhphlaaDoor.lf m),nD t∧rl t:=fun t ht=>by
  obtain⟨u,hu,rfl⟩:=Xd.1 ht
  have L:=(I.lf hm hu).lt
  exact⟨L,L.w (I.OJ u hu)⟩
 have h1:=pH hW
 have h2:=(I.least hm).sum
 have h3:=I.tU
 have h4:(l.map (Go.Proofs.YtmekcfdllhphlaaDoor.lf m)).length=l.length:=Xy _
 have WO:=dU (n:=(l.map (Go.Proofs.YtmekcfdllhphlaaDoor.lf m)).length) (by omega)
 have hne:0<(dL (l.map (Go.Proofs.YtmekcfdllhphlaaDoor.lf m)).length).length:=List.length_pos_iff.2 (Ii _)
 have IN:(cC (l.map (Go.Proofs.YtmekcfdllhphlaaDoor.lf m))).length≤60100∧3≤(cC (l.map (Go.Proofs.YtmekcfdllhphlaaDoor.lf m))).length:=by
  unfold cC
  simp only [W3,Xf,XL]; omega
 obtain⟨c,hc⟩:=DL (m:=m) (by omega) (b:=cC (l.map (Go.Proofs.YtmekcfdllhphlaaDoor.lf m))) (by omega) (by omega)
 exact⟨c,hc,by unfold Go.Proofs.YtmekcfdllhphlaaDoor.pk; rw [hc]; rfl,(ud hc).1,(ud hc).2,hW,by omega,IN⟩
theorem uu {m:Nat}(hm:2 ^ 41≤m){L:List au}(I:zE m L):∀(f i:Nat) (acc:List au),L.length - i<f→i≤L.length→acc.length≤i→
  ∃x,b6.l0 m L f acc (i:Int)=some (.inr (acc++(L.drop i).map (lf m),x))
 | 0,i,acc,hf,_,_=>absurd hf (by omega)
 | f+1,i,acc,hf,hi,ha=>by
  have h8:=I.tU
  unfold b6.l0
  by_cases h:i<L.length
  ·have hx:ix L (i:Int)=some L[i]:=by unfold ix; rw [if_pos (by omega)]; simp [h]
   have F:=I.lf hm (XM h)
   have lQ:app 32 acc [lf m L[i]]=some (acc++[lf m L[i]]):=by unfold app; rw [if_pos (by simp; omega)]
   obtain⟨x,ih⟩:=uu hm I f (i+1) (acc++[lf m L[i]]) (by omega) (by omega) (by simp; omega)
   refine⟨x,?_⟩
   rw [if_pos (by simp only [decide_eq_true_eq]; omega),hx,WQ,F.top,WQ]
   dsimp only
   rw [if_neg (by simp),lQ,WQ,aE (by omega) (by omega),show (i:Int)+1=((i+1:Nat):Int) by omega,ih,W6 h,Xe,W7]; rfl
  ·refine⟨(i:Int),?_⟩
   rw [if_neg (by simp only [decide_eq_true_eq]; omega),Xp (by omega),List.map_nil,XW]
theorem xL {m:Nat}(hm:2 ^ 41≤m){L:List au}(I:zE m L):b6.f m L=some (pk m L,0):=by
 have nb:(2:Nat) ^ 30=1073741824:=by decide
 have rD:(2:Nat) ^ 41=2199023255552:=by decide
 have ot:(2:Nat) ^ 40=1099511627776:=by decide
 have M8:(2:Nat) ^ 42=4398046511104:=by decide
 have h8:=I.tU
 obtain⟨c,P⟩:=I.pk hm
 obtain⟨x,k1⟩:=uu hm I m 0 [] (by omega) (by omega) (by simp)
 have k1:b6.l0 m L m [] 0=_:=k1
 rw [Xs,Xr] at k1
 have h4:(L.map (lf m)).length=L.length:=Xy _
 have s1:=P.size
 have s2:=P.Js
 have s3:=P.len
 have lQ:app 1 (cC (L.map (lf m))) c=some (cC (L.map (lf m))++c):=by unfold app; rw [if_pos (by omega)]
 have sI:((L.map (lf m)).any fun t=>t.nodes.any fun n=>n.kind==4)=false:=by
  rw [List.any_eq_false]
  intro t ht
  obtain⟨u,hu,rfl⟩:=Xd.1 ht
  rw [I.OJ u hu]; simp
 unfold b6.f
 rw [if_neg (by simp only [decide_eq_true_eq]; omega),k1,WQ]
 dsimp only
 rw [Dz (g:=fun t=>t.nodes.any fun n=>n.kind==4) (by omega) (by omega) (fun t ht=>DK (by have:=(P.w t ht).1.tU; omega) (by have:=(P.w t ht).1.tU; omega)),WQ,sI,if_neg (by simp),
  ND (by omega) (fun t ht=>(P.w t ht).2) (by omega) (by omega),P.TU,WQ,lQ,WQ,if_neg (by simp only [decide_eq_true_eq,W3]; omega),P.eq]
theorem xM {m:Nat}(x y:List Int):dj.f m x y=some ((bF x).data.toList==(bF y).data.toList):=rfl
theorem pI {m:Nat}(x:List Int):dj.f m x x=some true:=by rw [xM]; simp
theorem Pk.idem {m:Nat}(hm:2 ^ 41≤m){l:List au}(I:zE m l):Go.Proofs.YtmekcfdllhphlaaDoor.pk m (l.map (lf m))=Go.Proofs.YtmekcfdllhphlaaDoor.pk m l:=by
 unfold Go.Proofs.YtmekcfdllhphlaaDoor.pk
 rw [I.idem hm]
theorem CF {m:Nat}(hm:2 ^ 41≤m){L:List au}(I:zE m L):bc.f m (pk m L)=some (L.map (lf m),0):=by
 have nb:(2:Nat) ^ 30=1073741824:=by decide
 have rD:(2:Nat) ^ 41=2199023255552:=by decide
 have Hm:(2:Nat) ^ 63=9223372036854775808:=by decide
 obtain⟨c,P⟩:=I.pk hm
 have s1:=P.size
 have s2:=P.Js
 have s3:=P.len
 have h8:=I.tU
 have h4:(L.map (lf m)).length=L.length:=Xy _
 have hp:=xL hm (I.least hm)
 rw [Pk.idem hm I] at hp
 obtain⟨x,hx⟩:=Gp (m:=m) (by omega) (((L.map (lf m)).length:Int),(⟨cw (L.map (lf m)),false⟩:fB)) [] (by simp; omega) (L.map (lf m)) m 0 [] (by omega) (by simp) rfl fun t ht=>(P.w t ht).2
 rw [XW] at hx
 have hx:bc.l0 m (((L.map (lf m)).length:Int),(⟨cw (L.map (lf m)),false⟩:fB)) m [] 0 ⟨cw (L.map (lf m)),false⟩=_:=hx
 have hB:=P.eq
 generalize pk m L=B at *
 have VK:B.length=(cC (L.map (lf m))).length+4:=by rw [hB,W3,s3]
 have e4:i64.wrap ((B.length:Int) - 4)=((cC (L.map (lf m))).length:Int):=by rw [aE (by omega) (by omega)]; omega
 have c1:pM B 0 ((cC (L.map (lf m))).length:Int)=some (cC (L.map (lf m))):=by
  rw [uo ⟨by omega,by omega,by omega⟩,hB]
  simp
 have c2:pM B ((cC (L.map (lf m))).length:Int) (B.length:Int)=some c:=by
  rw [uo ⟨by omega,by omega,by omega⟩,VK,hB]
  simp
  exact Xx (by omega)
 have c3:pM B 2 ((cC (L.map (lf m))).length:Int)=some (dL (L.map (lf m)).length++cw (L.map (lf m))):=by
  rw [uo ⟨by omega,by omega,by omega⟩,hB]
  have e:(cC (L.map (lf m))++c).drop (2:Int).toNat=(dL (L.map (lf m)).length++cw (L.map (lf m)))++c:=rfl
  rw [e,show ((cC (L.map (lf m))).length:Int).toNat - (2:Int).toNat=(dL (L.map (lf m)).length++cw (L.map (lf m))).length by unfold cC; simp [W3]; omega,List.take_left]
 unfold bc.f
 rw [if_neg (by simp only [decide_eq_true_eq]; omega),if_neg (by simp only [decide_eq_true_eq]; omega),e4,c1,WQ,P.TU,WQ,c2,WQ,pI,WQ,if_neg (by simp),c3,WQ,
  AW (by omega) (by omega),WQ]
 dsimp only
 rw [hx,WQ]
 dsimp only
 rw [Xs,if_neg (by simp),if_neg (by simp),hp,WQ]
 dsimp only
 rw [if_neg (by simp),pI,WQ,if_neg (by simp)]
end Go.Proofs.YtmekcfdllhphlaaDoor
namespace Go.Proofs.YtmekcfdllhphlaaDoor
open Go Go.R
open Go.IntKind (i64 u64 u8 u32)
def vS:cd:=gh [0,2,3,4,5,8,12,24,32,58] [] [1022,990,1021,1018,1010,946,1010,1010,882,1021,994,738,994,482,1021,1021] [] []
def aQ.l1 (m:Nat)(l0:List au)(i0:Int):Nat→Int→Option (Sum Bool (Int))
 | 0,_=>none
 | k+1,k0=>(ix l0 i0).bind fun v1=>if (decide (k0<(v1.nodes.length:Int)))=true then ((ix l0 i0).bind fun v2=>(ix v2.nodes k0).bind fun v3=>if (decide ((v3.args.length:Int) > (20:Int)))=true then (some (.inl true)) else ((ix l0 i0).bind fun v4=>(ix v4.nodes k0).bind fun v5=>if (decide ((v5.label.size:Int) > (40:Int)))=true then (some (.inl true)) else (aQ.l1 m l0 i0 k (i64.wrap (k0+(1:Int)))))) else (some (.inr k0))
def aQ.l0 (m:Nat)(l0:List au):Nat→Int→Int→Option (Sum Bool (Int × Int))
 | 0,_,_=>none
 | k+1,n0,i0=>if (decide (i0<(l0.length:Int)))=true then ((ix l0 i0).bind fun v0=>if (decide ((i64.wrap (n0+(v0.nodes.length:Int))) > (300:Int)))=true then (some (.inl true)) else ((aQ.l1 m l0 i0 m (0:Int)).bind fun bo=>match bo with | .inl r0=>some (.inl r0) | .inr k1=>aQ.l0 m l0 k (i64.wrap (n0+(v0.nodes.length:Int))) (i64.wrap (i0+(1:Int))))) else (some (.inr (n0,i0)))
def aQ.f (m:Nat)(l0:List au):Option (Bool):=if (decide ((l0.length:Int) > (12:Int)))=true then (some true) else ((aQ.l0 m l0 m (0:Int) (0:Int)).bind fun cD=>match cD with | .inl r1=>some r1 | .inr (n1,i1)=>some false)
def aQ.fin (L:Mem)(r:Bool)(s:St):Prop:=∃av,aI Tryd.prog (s.open vS) Tryd.f12.results.toList=some av∧fA s.h av (.bool r)
def TW (cf:CallF)(m:Nat):Prop:=∀(l0:List au) (r:Bool),aQ.f m l0=some r→∀h xs,eA eQ h xs [bl.fz l0]→cf 12 xs h=some (.bool r,h)
section
variable {cf:CallF}{m:Nat}
theorem aQ.fW (L:Mem)(l0:List au)(n0:Int)(i0:Int)(v0:au)   : bI Tryd.prog cf vS m (sub [1,1,1,0,1,0,0,1,0,0,1,1,1,0,0] (codeOf Tryd.f12)) (fun k (σ:Int)=>aQ.l1 m l0 i0 k σ) (fun σ s=>match σ with | k0=>∃h1,s=⟨bl.fz l0 :: .any :: .int .i64 (i64.wrap (n0+(v0.nodes.length:Int))) :: .int .i64 i0 :: .int .i64 k0::tl [],[],h1⟩∧Has h1 (L)) (fun out e s=>(e = .exit 2∧∃k0,.inr k0=out∧∃y5 Lc h1,s=⟨bl.fz l0 :: .any :: .int .i64 (i64.wrap (n0+(v0.nodes.length:Int))) :: .int .i64 i0::y5::kz [Lc,.any],[],h1⟩∧Has h1 (L))∨(e = .ret∧∃r,.inl r=out∧aQ.fin L r s)):=by
 refine hX (fun _=>rfl) ?_
 rintro k k0 s out ⟨h1,rfl,o1⟩ H
 have H:aQ.l1 m l0 i0 (k+1) k0=some out:=H
 refine qq <| qq ?_
 obtain⟨v1,e1,H⟩:=aJ H
 refine qr [.v 3 (bD (k:=.i64) (E:=bl) (l:=l0) Fj e1),.v 5 (jx  (E:=bl) (l:=l0) (off:=0) h1 MN e1 rfl)] <| qc H (fun c3 H=>?_) (fun c3 H=>?_)
 ·refine qk <| qq <| qb 3 <| qq ?_
  obtain⟨v2,e2,H⟩:=aJ H
  obtain⟨v3,e3,H⟩:=aJ H
  rcases dF H with⟨c4,H⟩| ⟨c4,H⟩
  ·exact qr [.v 2 (bD (k:=.i64) (E:=bl) (l:=l0) Fj e2),.v 4 (jx  (E:=bl) (l:=l0) (off:=0) h1 MN e2 rfl),.v 6 (bD (k:=.i64) (E:=af) (l:=v2.nodes) lG e3),.v 8 (jx  (E:=af) (l:=v2.nodes) (off:=3) h1 Kp e3 rfl),.b 11 c4] <| vC <| qq <| q0 <| qt <| XZ (⟨rfl,_,oi H,ca (.bool true) h1 (b8 (ak))⟩)
  ·obtain⟨v4,e4,H⟩:=aJ H
   obtain⟨v5,e5,H⟩:=aJ H
   refine qr [.v 2 (bD (k:=.i64) (E:=bl) (l:=l0) Fj e2),.v 4 (jx  (E:=bl) (l:=l0) (off:=0) h1 MN e2 rfl),.v 6 (bD (k:=.i64) (E:=af) (l:=v2.nodes) lG e3),.v 8 (jx  (E:=af) (l:=v2.nodes) (off:=3) h1 Kp e3 rfl),.b 11 c4,.v 14 (bD (k:=.i64) (E:=bl) (l:=l0) Fj e4),.v 16 (jx  (E:=bl) (l:=l0) (off:=0) h1 MN e4 rfl),.v 18 (bD (k:=.i64) (E:=af) (l:=v4.nodes) lG e5),.v 20 (jx  (E:=af) (l:=v4.nodes) (off:=2) h1 A9 e5 rfl)] <| qc H (fun c6 H=>?_) (fun c6 H=>?_)
   ·exact q1 <| qt <| XZ (⟨rfl,_,oi H,ca (.bool true) h1 (b8 (ak))⟩)
   ·exact qk <| q0 <| ⟨i64.wrap (k0+(1:Int)),⟨h1,by kernel_rfl,o1⟩,H⟩
 ·exact qx 2 <| Yf (⟨rfl,k0,oi H,.int .i64 k0,.bool (decide (k0<(v1.nodes.length:Int))),h1,by kernel_rfl,o1⟩)
theorem aQ.bG (L:Mem)(l0:List au)   : bI Tryd.prog cf vS m (sub [1,1,1,0,1,0,0] (codeOf Tryd.f12)) (fun k (σ:Int × Int)=>aQ.l0 m l0 k σ.1 σ.2) (fun σ s=>match σ with | (n0,i0)=>∃h0,s=⟨bl.fz l0 :: .any :: .int .i64 n0 :: .int .i64 i0::Hf [],[],h0⟩∧Has h0 (L)) (fun out e s=>(e = .exit 0∧∃n0 i0,.inr (n0,i0)=out∧∃kQ uP DC xF h0,s=⟨kQ :: .any::uP::DC :: .any :: .any::xF::kz [],[],h0⟩∧Has h0 (L))∨(e = .ret∧∃r,.inl r=out∧aQ.fin L r s)):=by
 refine hX (fun _=>rfl) ?_
 rintro k ⟨n0,i0⟩ s out ⟨h0,rfl,o0⟩ H
 have H:aQ.l0 m l0 (k+1) n0 i0=some out:=H
 refine qq <| qq <| q0 <| qc H (fun c1 H=>?_) (fun c1 H=>?_)
 ·refine qk <| qq <| qb 1 <| qq ?_
  obtain⟨v0,e0,H⟩:=aJ H
  refine qr [.v 3 (bD (k:=.i64) (E:=bl) (l:=l0) Fj e0),.v 5 (jx  (E:=bl) (l:=l0) (off:=0) h0 MN e0 rfl)] <| qq <| qq <| q0 <| qc H (fun c2 H=>?_) (fun c2 H=>?_)
  ·exact q1 <| qt <| XZ (⟨rfl,_,oi H,ca (.bool true) h0 (b8 (ak))⟩)
  ·refine qk <| qq <| q0 <| qb 2 ?_
   obtain⟨bo,e6,H⟩:=aJ H
   refine ql (aQ.fW L l0 n0 i0 v0   (0:Int) _ _ ⟨h0,by kernel_rfl,o0⟩ e6) ?_
   rintro e s (⟨rfl,k1,rfl,g0,g1,h2,rfl,o2⟩| ⟨rfl,r0,rfl,mw⟩)
   ·try dsimp only at H
    exact q0 <| ⟨(i64.wrap (n0+(v0.nodes.length:Int)),i64.wrap (i0+(1:Int))),⟨h2,by kernel_rfl,o2⟩,H⟩
   ·try dsimp only at H
    exact XZ (⟨rfl,_,oi H,mw⟩)
 ·exact qx 0 <| Yf (⟨rfl,n0,i0,oi H,bl.fz l0,.int .i64 n0,.int .i64 i0,.bool (decide (i0<(l0.length:Int))),h0,by kernel_rfl,o0⟩)
theorem qM {aS:FuncId→cd}(ha:aS 12=vS)  (l0:List au)(h:AHeap)(L:Mem)  (o:Has h (L)){out:Bool}(H:aQ.f m l0=some out) :
  ∃r h',aZ Tryd.prog aS cf m 12 [bl.fz l0] h=some (r,h')∧fA h' r (.bool out):=by
 refine aj (fn:=Tryd.f12) ha Tryd.func12 (by kernel_rfl) (by kernel_rfl) ?_
 refine aD (Q:=fun s=>aQ.fin L out s) (fun _ _ h=>h) ?_
 have H:_=some out:=H
 unfold aQ.f at H
 show de _ cf vS m _ ⟨bl.fz l0::Dn [],[],h⟩ _
 refine q1 <| qq <| qq <| q0 <| qc H (fun c0 H=>?_) (fun c0 H=>?_)
 ·obtain rfl:=oi H
  exact q1 <| qt <| ⟨.inl rfl,ca (.bool true) h (b8 (ak))⟩
 ·refine qk <| qq <| q0 <| qq <| qq <| q0 <| qb 0 ?_
  obtain⟨cD,e7,H⟩:=aJ H
  refine ql (aQ.bG L l0   ((0:Int),(0:Int)) _ _ ⟨h,by kernel_rfl,o⟩ e7) ?_
  rintro e s (⟨rfl,n1,i1,rfl,g2,g3,g4,g5,h3,rfl,o3⟩| ⟨rfl,r1,rfl,RA⟩)
  ·try dsimp only at H
   obtain rfl:=oi H
   exact q1 <| qt <| ⟨.inl rfl,ca (.bool false) h3 (b8 (ak))⟩
  ·try dsimp only at H
   obtain rfl:=oi H
   exact⟨.inl rfl,RA⟩
end
end Go.Proofs.YtmekcfdllhphlaaDoor
namespace Go.Proofs.YtmekcfdllhphlaaDoor
open Go Go.R
open Go.IntKind (i64 u64 u8 u32)
end Go.Proofs.YtmekcfdllhphlaaDoor
namespace Go.Proofs.YtmekcfdllhphlaaDoor
open Go Go.R
open Go.IntKind (i64 u64 u8 u32)
end Go.Proofs.YtmekcfdllhphlaaDoor
namespace Go.Proofs.YtmekcfdllhphlaaDoor
open Go Go.R
open Go.IntKind (i64 u64 u8 u32)
theorem mM {α:Type}{l:List α}{i:Nat}(h:i<l.length):ix l (i:Int)=some l[i]:=by unfold ix; rw [if_pos (by omega)]; simp [h]
theorem zF {m:Nat}{L:List au}{i:Nat}(hi:i<L.length)(hn:L[i].nodes.length<2 ^ 63):∀(f k:Nat),L[i].nodes.length - k<f→k≤L[i].nodes.length→
  ∃o,aQ.l1 m L (i:Int) f (k:Int)=some o∧((∃x,o = .inr x)∨o = .inl true)
 | 0,k,hf,_=>absurd hf (by omega)
 | f+1,k,hf,hk=>by
  have Hm:(2:Nat) ^ 63=9223372036854775808:=by decide
  unfold aQ.l1
  rw [mM hi,WQ]
  by_cases h:k<L[i].nodes.length
  ·obtain⟨o,ih,ho⟩:=zF (m:=m) hi hn f (k+1) (by omega) (by omega)
   rw [if_pos (by simp only [decide_eq_true_eq]; omega),WQ,mM h,WQ]
   split
   ·exact⟨_,rfl,.inr rfl⟩
   ·rw [WQ,mM h,WQ]
    split
    ·exact⟨_,rfl,.inr rfl⟩
    ·rw [aE (by omega) (by omega),show (k:Int)+1=((k+1:Nat):Int) by omega,ih]
     exact⟨o,rfl,ho⟩
  ·rw [if_neg (by simp only [decide_eq_true_eq]; omega)]
   exact⟨_,rfl,.inl ⟨_,rfl⟩⟩
theorem uv {m:Nat}(hm:2 ^ 63≤m){L:List au}(h12:L.length≤12)(hl:∀t∈L,t.nodes.length<2 ^ 63):∀(f i:Nat) (n:Int),L.length - i<f→i≤L.length→
  ∃o,aQ.l0 m L f n (i:Int)=some o∧((∃x,o = .inr x)∨o = .inl true)
 | 0,i,n,hf,_=>absurd hf (by omega)
 | f+1,i,n,hf,hi=>by
  have Hm:(2:Nat) ^ 63=9223372036854775808:=by decide
  unfold aQ.l0
  by_cases h:i<L.length
  ·have hb:=hl _ (XM h)
   rw [if_pos (by simp only [decide_eq_true_eq]; omega),mM h,WQ]
   split
   ·exact⟨_,rfl,.inr rfl⟩
   ·obtain⟨o,k1,k2⟩:=zF (m:=m) h hb m 0 (by omega) (by omega)
    have k1:aQ.l1 m L (i:Int) m (0:Int)=_:=k1
    rw [k1,WQ]
    rcases k2 with⟨x,rfl⟩| rfl
    ·dsimp only
     rw [aE (x:=(i:Int)+1) (by omega) (by omega),show (i:Int)+1=((i+1:Nat):Int) by omega]
     exact uv hm h12 hl f (i+1) _ (by omega) (by omega)
    ·exact⟨_,rfl,.inr rfl⟩
  ·rw [if_neg (by simp only [decide_eq_true_eq]; omega)]
   exact⟨_,rfl,.inl ⟨_,rfl⟩⟩
theorem Bo {m:Nat}(hm:2 ^ 63≤m){L:List au}(hl:∀t∈L,t.nodes.length<2 ^ 63):∃b,aQ.f m L=some b∧(b=false→L.length≤12):=by
 have Hm:(2:Nat) ^ 63=9223372036854775808:=by decide
 unfold aQ.f
 split
 ·exact⟨true,rfl,fun h=>by cases h⟩
 ·rename_i h
  simp only [decide_eq_true_eq] at h
  obtain⟨o,k1,k2⟩:=uv hm (by omega) hl m 0 0 (by omega) (by omega)
  have k1:aQ.l0 m L m (0:Int) (0:Int)=_:=k1
  rw [k1,WQ]
  rcases k2 with⟨⟨n,x⟩,rfl⟩| rfl
  ·exact⟨false,rfl,fun _=>by omega⟩
  ·exact⟨true,rfl,fun h=>by cases h⟩
end Go.Proofs.YtmekcfdllhphlaaDoor
namespace Go.Proofs.YtmekcfdllhphlaaDoor
open Go Go.R
open Go.IntKind (i64 u64 u8 u32)
def vT:cd:=gh [0,2,3,4,5,6,13,17,29,34,43] [4] [2046,1982,2045,2042,1914,2042,2018,1778,2045,2002,1490,2002,978,2045,2045] [] []
def aY.l1 (m:Nat)(x1:au × Int):Nat→Int→Option (Sum Bool (Int))
 | 0,_=>none
 | k+1,k0=>if (decide (k0<(x1.1.nodes.length:Int)))=true then ((ix x1.1.nodes k0).bind fun v1=>if (v1.kind==(4:Int))=true then (some (.inl false)) else (aY.l1 m x1 k (i64.wrap (k0+(1:Int))))) else (some (.inr k0))
def aY.l0 (m:Nat)(l0:List au):Nat→Int→Option (Sum Bool (Int))
 | 0,_=>none
 | k+1,i0=>if (decide (i0<(l0.length:Int)))=true then ((ix l0 i0).bind fun v0=>(fc.f m v0).bind fun x1=>if (!(x1.2==(0:Int)))=true then (some (.inl false)) else ((aY.l1 m x1 m (0:Int)).bind fun bo=>match bo with | .inl r0=>some (.inl r0) | .inr k1=>aY.l0 m l0 k (i64.wrap (i0+(1:Int))))) else (some (.inr i0))
def aY.f (m:Nat)(l0:List au):Option (Bool):=(aQ.f m l0).bind fun x0=>if x0=true then (some false) else (if (decide ((l0.length:Int) > (8:Int)))=true then (some false) else ((aY.l0 m l0 m (0:Int)).bind fun cD=>match cD with | .inl r1=>some r1 | .inr i1=>some true))
def aY.fin (L:Mem)(r:Bool)(s:St):Prop:=∃av,aI Tryd.prog (s.open vT) Tryd.f20.results.toList=some av∧fA s.h av (.bool r)
def TX (cf:CallF)(m:Nat):Prop:=∀(l0:List au) (r:Bool),aY.f m l0=some r→∀h xs,eA eQ h xs [bl.fz l0]→cf 20 xs h=some (.bool r,h)
section
variable {cf:CallF}{m:Nat}
theorem aY.fW (L:Mem)(l0:List au)(i0:Int)(x1:au × Int)   : bI Tryd.prog cf vT m (sub [1,1,0,1,0,0,1,0,0,1,1,1,0,0] (codeOf Tryd.f20)) (fun k (σ:Int)=>aY.l1 m x1 k σ) (fun σ s=>match σ with | k0=>∃h1,s=⟨bl.fz l0 :: .any :: .int .i64 i0 :: .lp 4 0 :: .any :: .int .i64 k0::tl [],[some [af.fz x1.1.nodes,.int .i64 x1.1.root]],h1⟩∧Has h1 (L)) (fun out e s=>(e = .exit 2∧∃k0,.inr k0=out∧∃DC DF Fw QT h1,s=⟨bl.fz l0 :: .any :: .int .i64 i0::DC :: .any::DF::kz [Fw,.any],[QT],h1⟩∧Has h1 (L))∨(e = .ret∧∃r,.inl r=out∧aY.fin L r s)):=by
 refine hX (fun _=>rfl) ?_
 rintro k k0 s out ⟨h1,rfl,o1⟩ H
 have H:aY.l1 m x1 (k+1) k0=some out:=H
 refine qq <| qq <| q0 <| qc H (fun c5 H=>?_) (fun c5 H=>?_)
 ·refine qk <| qq <| qb 3 <| qq ?_
  obtain⟨v1,e3,H⟩:=aJ H
  refine qr [.v 3 (bD (k:=.i64) (E:=af) (l:=x1.1.nodes) lG e3),.v 5 (jx  (E:=af) (l:=x1.1.nodes) (off:=0) h1 A3 e3 rfl)] <| qc H (fun c6 H=>?_) (fun c6 H=>?_)
  ·exact q1 <| qt <| XZ (⟨rfl,_,oi H,ca (.bool false) h1 (b8 (ak))⟩)
  ·exact qk <| q0 <| ⟨i64.wrap (k0+(1:Int)),⟨h1,by kernel_rfl,o1⟩,H⟩
 ·exact qx 2 <| Yf (⟨rfl,k0,oi H,.lp 4 0,.int .i64 k0,.bool (decide (k0<(x1.1.nodes.length:Int))),some [af.fz x1.1.nodes,.int .i64 x1.1.root],h1,by kernel_rfl,o1⟩)
theorem aY.bG (L:Mem)(l0:List au)  (Lm:Rh cf m):bI Tryd.prog cf vT m (sub [1,1,0,1,0,0] (codeOf Tryd.f20)) (fun k (σ:Int)=>aY.l0 m l0 k σ) (fun σ s=>match σ with | i0=>∃h0,s=⟨bl.fz l0 :: .any :: .int .i64 i0::se [],[none],h0⟩∧Has h0 (L)) (fun out e s=>(e = .exit 0∧∃i0,.inr i0=out∧∃kQ uP xc h0,s=⟨kQ :: .any::uP::oq (xc::kz []),[none],h0⟩∧Has h0 (L))∨(e = .ret∧∃r,.inl r=out∧aY.fin L r s)):=by
 refine hX (fun _=>rfl) ?_
 rintro k i0 s out ⟨h0,rfl,o0⟩ H
 have H:aY.l0 m l0 (k+1) i0=some out:=H
 refine qq <| qq <| q0 <| qc H (fun c3 H=>?_) (fun c3 H=>?_)
 ·refine qk <| qq <| qb 1 <| qq ?_
  obtain⟨v0,e1,H⟩:=aJ H
  obtain⟨x1,e2,H⟩:=aJ H
  refine qr [.v 2 (bD (k:=.i64) (E:=bl) (l:=l0) Fj e1),.v 3 (dE  (E:=bl) (l:=l0) h0 Ol Om e1),.a 4 (Lm _ _ e2 h0 _ (cG (nT (cG (iK (E:=af)) (cG (bC) (gA)))) (gA)))] <| qq <| qq <| q0 <| qc H (fun c4 H=>?_) (fun c4 H=>?_)
  ·exact q1 <| qt <| XZ (⟨rfl,_,oi H,ca (.bool false) h0 (b8 (ak))⟩)
  ·refine qk <| qq <| q0 <| qb 2 ?_
   obtain⟨bo,e4,H⟩:=aJ H
   refine ql (aY.fW L l0 i0 x1   (0:Int) _ _ ⟨h0,by kernel_rfl,o0⟩ e4) ?_
   rintro e s (⟨rfl,k1,rfl,g0,g1,g2,g3,h2,rfl,o2⟩| ⟨rfl,r0,rfl,mw⟩)
   ·try dsimp only at H
    exact q0 <| ⟨i64.wrap (i0+(1:Int)),⟨h2,by kernel_rfl,o2⟩,H⟩
   ·try dsimp only at H
    exact XZ (⟨rfl,_,oi H,mw⟩)
 ·exact qx 0 <| Yf (⟨rfl,i0,oi H,bl.fz l0,.int .i64 i0,.bool (decide (i0<(l0.length:Int))),h0,by kernel_rfl,o0⟩)
theorem qN {aS:FuncId→cd}(ha:aS 20=vT)(N3:TW cf m)(Lm:Rh cf m)(l0:List au)(h:AHeap)(L:Mem)  (o:Has h (L)){out:Bool}(H:aY.f m l0=some out) :
  ∃r h',aZ Tryd.prog aS cf m 20 [bl.fz l0] h=some (r,h')∧fA h' r (.bool out):=by
 refine aj (fn:=Tryd.f20) ha Tryd.func20 (by kernel_rfl) (by kernel_rfl) ?_
 refine aD (Q:=fun s=>aY.fin L out s) (fun _ _ h=>h) ?_
 have H:_=some out:=H
 unfold aY.f at H
 show de _ cf vT m _ ⟨bl.fz l0::wW [],[none],h⟩ _
 refine q1 <| qq <| qq ?_
 obtain⟨x0,e0,H⟩:=aJ H
 rcases dF H with⟨c0,H⟩| ⟨c0,H⟩
 ·obtain rfl:=oi H
  exact qr [.a 1 (N3 _ _ e0 h _ (gf (ab (b4 (E:=bl)) (ax)))),.b 2 c0] <| vC <| qq <| q0 <| qt <| ⟨.inl rfl,ca (.bool false) h (b8 (ak))⟩
 ·refine qr [.a 1 (N3 _ _ e0 h _ (gf (ab (b4 (E:=bl)) (ax)))),.b 2 c0] <| qc H (fun c2 H=>?_) (fun c2 H=>?_)
  ·obtain rfl:=oi H
   exact q1 <| qt <| ⟨.inl rfl,ca (.bool false) h (b8 (ak))⟩
  ·refine qk <| qq <| qq <| q0 <| qb 0 ?_
   obtain⟨cD,e5,H⟩:=aJ H
   refine ql (aY.bG L l0  Lm (0:Int) _ _ ⟨h,by kernel_rfl,o⟩ e5) ?_
   rintro e s (⟨rfl,i1,rfl,g4,g5,g6,h3,rfl,o3⟩| ⟨rfl,r1,rfl,RA⟩)
   ·try dsimp only at H
    obtain rfl:=oi H
    exact q1 <| qt <| ⟨.inl rfl,ca (.bool true) h3 (b8 (ak))⟩
   ·try dsimp only at H
    obtain rfl:=oi H
    exact⟨.inl rfl,RA⟩
end
end Go.Proofs.YtmekcfdllhphlaaDoor
namespace Go.Proofs.YtmekcfdllhphlaaDoor
open Go Go.R
open Go.IntKind (i64 u64 u8 u32)
def zG:cd:=gh [0,1,2,6,7,8,9,14,15,16,17,18,30] [8,9] [8184,8056,8183,6393,4345,6345,6297,2297,8183,6393,8183] [] []
def aC.l0 (m:Nat)(s0:List ae)(s1:List ae)(eq0:ae→ae→Option (Bool)):Nat→Int→Option (Sum Bool (Int))
 | 0,_=>none
 | k+1,x0=>if (decide (x0<(s0.length:Int)))=true then ((ix s0 x0).bind fun v0=>(ix s1 x0).bind fun v1=>(eq0 v0 v1).bind fun r0=>if (!r0)=true then (some (.inl false)) else (aC.l0 m s0 s1 eq0 k (i64.wrap (x0+(1:Int))))) else (some (.inr x0))
def aC.f (m:Nat)(s0:List ae)(s1:List ae)(eq0:ae→ae→Option (Bool)):Option (Bool):=if (!((s0.length:Int)==(s1.length:Int)))=true then (some false) else ((aC.l0 m s0 s1 eq0 m (0:Int)).bind fun bo=>match bo with | .inl r1=>some r1 | .inr x1=>some true)
def aC.fin (h:AHeap)(r:Bool)(s:St):Prop:=aI Tryd.prog (s.open zG) Tryd.f63.results.toList=some (.bool r)∧s.h=h
def TY (cf:CallF)(m:Nat):Prop:=∀(s0:List ae) (s1:List ae) (eq0:ae→ae→Option (Bool)) (r:Bool),aC.f m s0 s1 eq0=some r→∀h,0<h.next→∀(iz:FuncId) (bS:List AV),ay (.fn iz bS) = .fn iz bS→(∀(a0:ae) (a1:ae) r,eq0 a0 a1=some r→cf iz ([.agg [.int .i64 a0.kind,.int .i64 a0.int,.str a0.label,aa.fz a0.args],.agg [.int .i64 a1.kind,.int .i64 a1.int,.str a1.label,aa.fz a1.args]]++bS) h=some (.bool r,h))→∀xs,xs.map ay=[af.fz s0,af.fz s1,.fn iz bS]→cf 63 xs h=some (.bool r,h)
section
variable {cf:CallF}{m:Nat}
theorem aC.bG (h:AHeap)(L:Mem)(iz:FuncId)(bS:List AV)(s0:List ae)(s1:List ae)(eq0:ae→ae→Option (Bool))  (ky:ay (.fn iz bS) = .fn iz bS)(lN:∀(a0:ae) (a1:ae) r,eq0 a0 a1=some r→cf iz ([.agg [.int .i64 a0.kind,.int .i64 a0.int,.str a0.label,aa.fz a0.args],.agg [.int .i64 a1.kind,.int .i64 a1.int,.str a1.label,aa.fz a1.args]]++bS) h=some (.bool r,h))  : bI Tryd.prog cf zG m (sub [1,1,0,1,0,0] (codeOf Tryd.f63)) (fun k (σ:Int)=>aC.l0 m s0 s1 eq0 k σ) (fun σ s=>match σ with | x0=>s=⟨.any::af.fz s1 :: .fn iz bS::tl [af.fz s0,.int .i64 (s0.length:Int),.int .i64 x0,.any,.any],[none,none],h⟩∧Has h (L)) (fun out e s=>(e = .exit 0∧∃x0,.inr x0=out∧∃rB Dt qu AZ xc RB,s=⟨.any::rB::Dt::tl [qu,AZ,xc,RB,.any],[none,none],h⟩∧Has h (L))∨(e = .ret∧∃r,.inl r=out∧aC.fin h r s)):=by
 refine hX (fun _=>rfl) ?_
 rintro k x0 s out ⟨rfl,o0⟩ H
 have H:aC.l0 m s0 s1 eq0 (k+1) x0=some out:=H
 refine q1 <| qq <| qc H (fun c1 H=>?_) (fun c1 H=>?_)
 ·refine qk <| qq <| qb 1 <| qq ?_
  obtain⟨v0,e0,H⟩:=aJ H
  refine qr [.v 1 (bD (k:=.i64) (E:=af) (l:=s0) lG e0),.v 2 (dE  (E:=af) (l:=s0) h sf sh e0)] <| qq ?_
  obtain⟨v1,e1,H⟩:=aJ H
  refine qr [.v 2 (bD (k:=.i64) (E:=af) (l:=s1) lG e1),.v 3 (dE  (E:=af) (l:=s1) h sf sh e1)] <| qq ?_
  obtain⟨r0,e2,H⟩:=aJ H
  refine qr [.a 3 (lN _ _ _ e2)] <| qc H (fun c2 H=>?_) (fun c2 H=>?_)
  ·exact q1 <| qt <| XZ (⟨rfl,_,oi H,⟨by kernel_rfl,by kernel_rfl⟩⟩)
  ·exact qk <| q0 <| ⟨i64.wrap (x0+(1:Int)),⟨by kernel_rfl,o0⟩,H⟩
 ·exact qx 0 <| Yf (⟨rfl,x0,oi H,af.fz s1,.fn iz bS,af.fz s0,.int .i64 (s0.length:Int),.int .i64 x0,.bool (decide (x0<(s0.length:Int))),by kernel_rfl,o0⟩)
theorem jg {aS:FuncId→cd}(ha:aS 63=zG)  (s0:List ae)(s1:List ae)(eq0:ae→ae→Option (Bool))(h:AHeap)(L:Mem)(iz:FuncId)(bS:List AV)  (ky:ay (.fn iz bS) = .fn iz bS)(lN:∀(a0:ae) (a1:ae) r,eq0 a0 a1=some r→cf iz ([.agg [.int .i64 a0.kind,.int .i64 a0.int,.str a0.label,aa.fz a0.args],.agg [.int .i64 a1.kind,.int .i64 a1.int,.str a1.label,aa.fz a1.args]]++bS) h=some (.bool r,h))(o:Has h (L)){out:Bool}(H:aC.f m s0 s1 eq0=some out) :
  ∃r h',aZ Tryd.prog aS cf m 63 [af.fz s0,af.fz s1,.fn iz bS] h=some (r,h')∧r=(.bool out)∧h'=h:=by
 refine aj (fn:=Tryd.f63) ha Tryd.func63 (by kernel_rfl) (by kernel_rfl) ?_
 refine aD (Q:=fun s=>aC.fin h out s) (fun _ _ ⟨h1,h2,h3⟩=>⟨h1,_,h2,rfl,h3⟩) ?_
 have H:_=some out:=H
 unfold aC.f at H
 show de _ cf zG m _ ⟨af.fz s0::af.fz s1 :: .fn iz bS::wW [],[none,none],h⟩ _
 refine q1 <| qq <| qq <| q0 <| qc H (fun c0 H=>?_) (fun c0 H=>?_)
 ·obtain rfl:=oi H
  exact q1 <| qt <| ⟨.inl rfl,⟨by kernel_rfl,by kernel_rfl⟩⟩
 ·refine qk <| qq <| qq <| q0 <| qb 0 ?_
  obtain⟨bo,e3,H⟩:=aJ H
  refine ql (aC.bG h L iz bS s0 s1 eq0  ky lN  (0:Int) _ _ ⟨by kernel_rfl,o⟩ e3) ?_
  rintro e s (⟨rfl,x1,rfl,g0,g1,g2,g3,g4,g5,rfl,o1⟩| ⟨rfl,r1,rfl,mw⟩)
  ·try dsimp only at H
   obtain rfl:=oi H
   exact q1 <| qt <| ⟨.inl rfl,⟨by kernel_rfl,by kernel_rfl⟩⟩
  ·try dsimp only at H
   obtain rfl:=oi H
   exact⟨.inl rfl,mw⟩
end
end Go.Proofs.YtmekcfdllhphlaaDoor
namespace Go.Proofs.YtmekcfdllhphlaaDoor
open Go Go.R
open Go.IntKind (i64 u64 u8 u32)
def zH:cd:=gh [0,1,4,5,10,12,13,14,24] [] [508,492,507,412,284,404,156,507,412,507] [] []
def bA.l0 (m:Nat)(s0:List Int)(s1:List Int):Nat→Int→Option (Sum Bool (Int))
 | 0,_=>none
 | k+1,x0=>if (decide (x0<(s0.length:Int)))=true then ((ix s0 x0).bind fun v0=>(ix s1 x0).bind fun v1=>if (!(v0==v1))=true then (some (.inl false)) else (bA.l0 m s0 s1 k (i64.wrap (x0+(1:Int))))) else (some (.inr x0))
def bA.f (m:Nat)(s0:List Int)(s1:List Int):Option (Bool):=if (!((s0.length:Int)==(s1.length:Int)))=true then (some false) else ((bA.l0 m s0 s1 m (0:Int)).bind fun bo=>match bo with | .inl r0=>some r0 | .inr x1=>some true)
def bA.fin (L:Mem)(r:Bool)(s:St):Prop:=∃av,aI Tryd.prog (s.open zH) Tryd.f66.results.toList=some av∧fA s.h av (.bool r)
def TZ (cf:CallF)(m:Nat):Prop:=∀(s0:List Int) (s1:List Int) (r:Bool),bA.f m s0 s1=some r→∀h xs,eA eQ h xs [aa.fz s0,aa.fz s1]→cf 66 xs h=some (.bool r,h)
section
variable {cf:CallF}{m:Nat}
theorem bA.bG (L:Mem)(s0:List Int)(s1:List Int)   : bI Tryd.prog cf zH m (sub [1,1,0,1,0,0] (codeOf Tryd.f66)) (fun k (σ:Int)=>bA.l0 m s0 s1 k σ) (fun σ s=>match σ with | x0=>∃h0,s=⟨aa.fz s0::aa.fz s1::kz [.int .i64 (s0.length:Int),.int .i64 x0,.any,.any],[],h0⟩∧Has h0 (L)) (fun out e s=>(e = .exit 0∧∃x0,.inr x0=out∧∃kQ rB xF mu tL h0,s=⟨kQ::rB::kz [xF,mu,tL,.any],[],h0⟩∧Has h0 (L))∨(e = .ret∧∃r,.inl r=out∧bA.fin L r s)):=by
 refine hX (fun _=>rfl) ?_
 rintro k x0 s out ⟨h0,rfl,o0⟩ H
 have H:bA.l0 m s0 s1 (k+1) x0=some out:=H
 refine q1 <| qq <| qc H (fun c1 H=>?_) (fun c1 H=>?_)
 ·refine qk <| qq <| qb 1 <| qq <| q0 <| qq ?_
  obtain⟨v0,e0,H⟩:=aJ H
  obtain⟨v1,e1,H⟩:=aJ H
  refine qr [.v 2 (bD (k:=.i64) (E:=aa) (l:=s0) dA e0),.v 3 (dd  (E:=aa) (l:=s0) h0 A3 e0 rfl),.v 6 (bD (k:=.i64) (E:=aa) (l:=s1) dA e1),.v 7 (dd  (E:=aa) (l:=s1) h0 A3 e1 rfl)] <| qc H (fun c2 H=>?_) (fun c2 H=>?_)
  ·exact q1 <| qt <| XZ (⟨rfl,_,oi H,ca (.bool false) h0 (b8 (ak))⟩)
  ·exact qk <| q0 <| ⟨i64.wrap (x0+(1:Int)),⟨h0,by kernel_rfl,o0⟩,H⟩
 ·exact qx 0 <| Yf (⟨rfl,x0,oi H,aa.fz s0,aa.fz s1,.int .i64 (s0.length:Int),.int .i64 x0,.bool (decide (x0<(s0.length:Int))),h0,by kernel_rfl,o0⟩)
theorem oe {aS:FuncId→cd}(ha:aS 66=zH)  (s0:List Int)(s1:List Int)(h:AHeap)(L:Mem)  (o:Has h (L)){out:Bool}(H:bA.f m s0 s1=some out) :
  ∃r h',aZ Tryd.prog aS cf m 66 [aa.fz s0,aa.fz s1] h=some (r,h')∧fA h' r (.bool out):=by
 refine aj (fn:=Tryd.f66) ha Tryd.func66 (by kernel_rfl) (by kernel_rfl) ?_
 refine aD (Q:=fun s=>bA.fin L out s) (fun _ _ h=>h) ?_
 have H:_=some out:=H
 unfold bA.f at H
 show de _ cf zH m _ ⟨aa.fz s0::aa.fz s1::Dm [],[],h⟩ _
 refine q1 <| qq <| qq <| q0 <| qc H (fun c0 H=>?_) (fun c0 H=>?_)
 ·obtain rfl:=oi H
  exact q1 <| qt <| ⟨.inl rfl,ca (.bool false) h (b8 (ak))⟩
 ·refine qk <| qq <| qq <| q0 <| qb 0 ?_
  obtain⟨bo,e2,H⟩:=aJ H
  refine ql (bA.bG L s0 s1   (0:Int) _ _ ⟨h,by kernel_rfl,o⟩ e2) ?_
  rintro e s (⟨rfl,x1,rfl,g0,g1,g2,g3,g4,h1,rfl,o1⟩| ⟨rfl,r0,rfl,mw⟩)
  ·try dsimp only at H
   obtain rfl:=oi H
   exact q1 <| qt <| ⟨.inl rfl,ca (.bool true) h1 (b8 (ak))⟩
  ·try dsimp only at H
   obtain rfl:=oi H
   exact⟨.inl rfl,mw⟩
end
end Go.Proofs.YtmekcfdllhphlaaDoor
namespace Go.Proofs.YtmekcfdllhphlaaDoor
open Go Go.R
open Go.IntKind (i64 u64 u8 u32)
def CG:cd:=gh [0,1,2,3,4] [2,3] [19,15] [] []
def dH.f (m:Nat)(m0:ae)(n0:ae):Option (Bool):=(cU.f m m0 n0).bind fun x0=>if (x0==(0:Int))=true then ((bA.f m m0.args n0.args).bind fun x1=>some x1) else (some false)
def dH.fin (L:Mem)(r:Bool)(s:St):Prop:=∃av,aI Tryd.prog (s.open CG) Tryd.f64.results.toList=some av∧fA s.h av (.bool r)
def S64 (cf:CallF)(m:Nat):Prop:=∀(m0:ae) (n0:ae) (r:Bool),dH.f m m0 n0=some r→∀h xs,eA eQ h xs [.agg [.int .i64 m0.kind,.int .i64 m0.int,.str m0.label,aa.fz m0.args],.agg [.int .i64 n0.kind,.int .i64 n0.int,.str n0.label,aa.fz n0.args]]→cf 64 xs h=some (.bool r,h)
section
variable {cf:CallF}{m:Nat}
theorem pJ {aS:FuncId→cd}(ha:aS 64=CG)(yY:Ng cf m)(RC:TZ cf m)(m0:ae)(n0:ae)(h:AHeap)(L:Mem)  (o:Has h (L)){out:Bool}(H:dH.f m m0 n0=some out) :
  ∃r h',aZ Tryd.prog aS cf m 64 [.agg [.int .i64 m0.kind,.int .i64 m0.int,.str m0.label,aa.fz m0.args],.agg [.int .i64 n0.kind,.int .i64 n0.int,.str n0.label,aa.fz n0.args]] h=some (r,h')∧fA h' r (.bool out):=by
 refine aj (fn:=Tryd.f64) ha Tryd.func64 (by kernel_rfl) (by kernel_rfl) ?_
 refine aD (Q:=fun s=>dH.fin L out s) (fun _ _ h=>h) ?_
 have H:_=some out:=H
 unfold dH.f at H
 show de _ cf CG m _ ⟨.agg [.int .i64 m0.kind,.int .i64 m0.int,.str m0.label,aa.fz m0.args] :: .agg [.int .i64 n0.kind,.int .i64 n0.int,.str n0.label,aa.fz n0.args]::kz [],[none,none],h⟩ _
 refine q1 <| qq ?_
 obtain⟨x0,e0,H⟩:=aJ H
 rcases dF H with⟨c0,H⟩| ⟨c0,H⟩
 ·obtain⟨x1,e1,H⟩:=aJ H
  obtain rfl:=oi H
  exact qr [.a 2 (yY _ _ _ e0 h _ (gf (ab (cg (ab (aH) (ab (aH) (ab (bJ) (ab (b4 (E:=aa)) (ax)))))) (ab (cg (ab (aH) (ab (aH) (ab (bJ) (ab (b4 (E:=aa)) (ax)))))) (ax))))),.b 4 c0,.a 9 (RC _ _ _ e1 h _ (gf (ab (b4 (E:=aa)) (ab (b4 (E:=aa)) (ax)))))] <| qt <| ⟨.inl rfl,ca (.bool x1) h (b8 (ak))⟩
 ·obtain rfl:=oi H
  exact qr [.a 2 (yY _ _ _ e0 h _ (gf (ab (cg (ab (aH) (ab (aH) (ab (bJ) (ab (b4 (E:=aa)) (ax)))))) (ab (cg (ab (aH) (ab (aH) (ab (bJ) (ab (b4 (E:=aa)) (ax)))))) (ax))))),.b 4 c0] <| qt <| ⟨.inl rfl,ca (.bool false) h (b8 (ak))⟩
end
end Go.Proofs.YtmekcfdllhphlaaDoor
namespace Go.Proofs.YtmekcfdllhphlaaDoor
open Go Go.R
open Go.IntKind (i64 u64 u8 u32)
def CH:cd:=gh [0,1,2,3,4] [2,3] [19,15] [] []
def gK.f (m:Nat)(a0:au)(b0:au):Option (Bool):=(aC.f m a0.nodes b0.nodes (fun y0 y1=>dH.f m y0 y1)).bind fun x0=>some x0
def gK.fin (L:Mem)(r:Bool)(s:St):Prop:=∃av,aI Tryd.prog (s.open CH) Tryd.f46.results.toList=some av∧fA s.h av (.bool r)
def T0 (cf:CallF)(m:Nat):Prop:=∀(a0:au) (b0:au) (r:Bool),gK.f m a0 b0=some r→∀h xs,eA eQ h xs [.agg [af.fz a0.nodes,.int .i64 a0.root],.agg [af.fz b0.nodes,.int .i64 b0.root]]→cf 46 xs h=some (.bool r,h)
section
variable {cf:CallF}{m:Nat}
theorem rX {aS:FuncId→cd}(ha:aS 46=CH)(RD:TY cf m)(RE:S64 cf m)(a0:au)(b0:au)(h:AHeap)(L:Mem)  (o:Has h (L)){out:Bool}(H:gK.f m a0 b0=some out) :
  ∃r h',aZ Tryd.prog aS cf m 46 [.agg [af.fz a0.nodes,.int .i64 a0.root],.agg [af.fz b0.nodes,.int .i64 b0.root]] h=some (r,h')∧fA h' r (.bool out):=by
 refine aj (fn:=Tryd.f46) ha Tryd.func46 (by kernel_rfl) (by kernel_rfl) ?_
 refine aD (Q:=fun s=>gK.fin L out s) (fun _ _ h=>h) ?_
 have H:_=some out:=H
 unfold gK.f at H
 show de _ cf CH m _ ⟨.agg [af.fz a0.nodes,.int .i64 a0.root] :: .agg [af.fz b0.nodes,.int .i64 b0.root]::kz [],[none,none],h⟩ _
 refine q1 <| qq ?_
 obtain⟨x0,e0,H⟩:=aJ H
 obtain rfl:=oi H
 exact qr [.a 4 (RD _ _ _ _ e0 h (Has.pos o) 64 [] rfl (fun y0 y1 r hr=>RE y0 y1 r hr h _ (gf (ab (cg (ab (aH) (ab (aH) (ab (bJ) (ab (b4 (E:=aa)) (ax)))))) (ab (cg (ab (aH) (ab (aH) (ab (bJ) (ab (b4 (E:=aa)) (ax)))))) (ax))))) _ (an (aO (iK (E:=af))) (an (aO (iK (E:=af))) (an ((rfl:ay (.fn 64 [])=_)) (bg)))))] <| qt <| ⟨.inl rfl,ca (.bool x0) h (b8 (ak))⟩
end
end Go.Proofs.YtmekcfdllhphlaaDoor
namespace Go.Proofs.YtmekcfdllhphlaaDoor
open Go Go.R
open Go.IntKind (i64 u64 u8 u32)
def CI:cd:=gh [0,1,2,3,4,5,13] [2,3] [115,51,79,79] [] []
def iy.f (m:Nat)(a0:au)(b0:au):Option (Bool × Int):=(ff.f m a0).bind fun x0=>if (!x0)=true then (some (false,(2:Int))) else ((ff.f m b0).bind fun x1=>if (!x1)=true then (some (false,(2:Int))) else ((ck.f m a0).bind fun x2=>(ck.f m b0).bind fun x3=>(gK.f m x2 x3).bind fun x4=>some (x4,(0:Int))))
def iy.fin (L:Mem)(r:Bool × Int)(s:St):Prop:=∃av,aI Tryd.prog (s.open CI) Tryd.f24.results.toList=some av∧fA s.h av (.tup [.bool r.1,.int .i64 r.2])
def T1 (cf:CallF)(m:Nat):Prop:=∀(a0:au) (b0:au) (r:Bool × Int),iy.f m a0 b0=some r→∀h xs,eA eQ h xs [.agg [af.fz a0.nodes,.int .i64 a0.root],.agg [af.fz b0.nodes,.int .i64 b0.root]]→cf 24 xs h=some (.tup [.bool r.1,.int .i64 r.2],h)
section
variable {cf:CallF}{m:Nat}
theorem uw {aS:FuncId→cd}(ha:aS 24=CI)(Gj:P8 cf m)(RF:T0 cf m)(Io:Qo cf m)(a0:au)(b0:au)(h:AHeap)(L:Mem)  (o:Has h (L)){out:Bool × Int}(H:iy.f m a0 b0=some out) :
  ∃r h',aZ Tryd.prog aS cf m 24 [.agg [af.fz a0.nodes,.int .i64 a0.root],.agg [af.fz b0.nodes,.int .i64 b0.root]] h=some (r,h')∧fA h' r (.tup [.bool out.1,.int .i64 out.2]):=by
 refine aj (fn:=Tryd.f24) ha Tryd.func24 (by kernel_rfl) (by kernel_rfl) ?_
 refine aD (Q:=fun s=>iy.fin L out s) (fun _ _ h=>h) ?_
 have H:_=some out:=H
 unfold iy.f at H
 show de _ cf CI m _ ⟨.agg [af.fz a0.nodes,.int .i64 a0.root] :: .agg [af.fz b0.nodes,.int .i64 b0.root]::tl [],[none,none],h⟩ _
 refine q1 <| qq <| qq ?_
 obtain⟨x0,e0,H⟩:=aJ H
 rcases dF H with⟨c0,H⟩| ⟨c0,H⟩
 ·obtain rfl:=oi H
  exact qr [.a 1 (Gj _ _ e0 h _ (gf (ab (cg (ab (b4 (E:=af)) (ab (aH) (ax)))) (ax)))),.b 3 c0] <| vC <| qq <| q0 <| qt <| ⟨.inl rfl,ca (.tup [.bool false,.int .i64 (2:Int)]) h (b8 (ta (ji (ak) (ji (dS) (s9)))))⟩
 ·obtain⟨x1,e1,H⟩:=aJ H
  refine qr [.a 1 (Gj _ _ e0 h _ (gf (ab (cg (ab (b4 (E:=af)) (ab (aH) (ax)))) (ax)))),.b 3 c0,.a 5 (Gj _ _ e1 h _ (gf (ab (cg (ab (b4 (E:=af)) (ab (aH) (ax)))) (ax))))] <| qc H (fun c2 H=>?_) (fun c2 H=>?_)
  ·obtain rfl:=oi H
   exact q1 <| qt <| ⟨.inl rfl,ca (.tup [.bool false,.int .i64 (2:Int)]) h (b8 (ta (ji (ak) (ji (dS) (s9)))))⟩
  ·refine qk <| qq ?_
   obtain⟨x2,e2,H⟩:=aJ H
   obtain⟨x3,e3,H⟩:=aJ H
   obtain⟨x4,e4,H⟩:=aJ H
   obtain rfl:=oi H
   exact qr [.a 1 (Io _ _ e2 h _ (cG (nT (cG (iK (E:=af)) (cG (bC) (gA)))) (gA))),.a 3 (Io _ _ e3 h _ (cG (nT (cG (iK (E:=af)) (cG (bC) (gA)))) (gA))),.a 4 (RF _ _ _ e4 h _ (gf (ab (cg (ab (b4 (E:=af)) (ab (aH) (ax)))) (ab (cg (ab (b4 (E:=af)) (ab (aH) (ax)))) (ax)))))] <| qt <| ⟨.inl rfl,ca (.tup [.bool x4,.int .i64 (0:Int)]) h (b8 (ta (ji (ak) (ji (dS) (s9)))))⟩
end
end Go.Proofs.YtmekcfdllhphlaaDoor
namespace Go.Proofs.YtmekcfdllhphlaaDoor
open Go Go.R
open Go.IntKind (i64 u64 u8 u32)
theorem vU {m:Nat}{L:List au}(h12:L.length≤12)(hl:∀t∈L,t.nodes.length≤8000):∀(f i n:Nat) (x),n≤300→i≤L.length→aQ.l0 m L f (n:Int) (i:Int)=some (.inr x)→n+((L.drop i).map fun t=>t.nodes.length).sum≤300
 | 0,i,n,x,_,_,H=>by simp [aQ.l0] at H
 | f+1,i,n,x,hn,hi,H=>by
  unfold aQ.l0 at H
  by_cases h:i<L.length
  ·have hb:=hl _ (XM h)
   rw [if_pos (by simp only [decide_eq_true_eq]; omega),mM h,WQ,aE (x:=(n:Int)+_) (by omega) (by omega)] at H
   split at H
   ·simp at H
   ·rename_i g
    simp only [decide_eq_true_eq] at g
    simp only [WR] at H
    obtain⟨o,_,H⟩:=H
    cases o with
    | inl r=>simp at H
    | inr k=>
     dsimp only at H
     rw [aE (x:=(i:Int)+1) (by omega) (by omega),show (i:Int)+1=((i+1:Nat):Int) by omega,show (n:Int)+(L[i].nodes.length:Int)=((n+L[i].nodes.length:Nat):Int) by omega] at H
     have:=vU h12 hl f (i+1) (n+L[i].nodes.length) x (by omega) (by omega) H
     rw [W6 h,Xe,List.sum_cons]; omega
  ·rw [Xp (by omega)]; simpa using hn
theorem zI {m:Nat}{x1:au × Int}(hl:x1.1.nodes.length≤8000):∀(f k:Nat),x1.1.nodes.length - k<f→k≤x1.1.nodes.length→
  ∃o,aY.l1 m x1 f (k:Int)=some o∧(o = .inl false∨(∃x,o = .inr x)∧(x1.1.nodes.drop k).any (fun n=>n.kind==4)=false)
 | 0,k,hf,_=>absurd hf (by omega)
 | f+1,k,hf,hk=>by
  unfold aY.l1
  by_cases h:k<x1.1.nodes.length
  ·rw [if_pos (by simp only [decide_eq_true_eq]; omega),mM h,WQ,W6 h,List.any_cons]
   cases hb:x1.1.nodes[k].kind==(4:Int) with
   | true=>exact⟨_,rfl,.inl rfl⟩
   | false=>
    obtain⟨o,k1,k2⟩:=zI (m:=m) hl f (k+1) (by omega) (by omega)
    rw [if_neg (by simp),aE (by omega) (by omega),show (k:Int)+1=((k+1:Nat):Int) by omega,k1]
    exact⟨o,rfl,by simpa using k2⟩
  ·exact⟨.inr (k:Int),by rw [if_neg (by simp only [decide_eq_true_eq]; omega)],.inr ⟨⟨_,rfl⟩,by rw [Xp (by omega)]; rfl⟩⟩
theorem zJ {m:Nat}(hm:2 ^ 41≤m){L:List au}(h8:L.length≤8)(h0:∀t∈L,Gq t):∀(f i:Nat),L.length - i<f→i≤L.length→
  ∃o,aY.l0 m L f (i:Int)=some o∧(o = .inl false∨(∃x,o = .inr x)∧∀t∈L.drop i,dT t=true∧(lf m t).nodes.any (fun n=>n.kind==4)=false)
 | 0,i,hf,_=>absurd hf (by omega)
 | f+1,i,hf,hi=>by
  have rD:(2:Nat) ^ 41=2199023255552:=by decide
  unfold aY.l0
  by_cases h:i<L.length
  ·have yl:=XM h
   obtain⟨s,e,k1,k2,k3,k4,k5⟩:=ur hm (h0 _ yl)
   rw [if_pos (by simp only [decide_eq_true_eq]; omega),mM h,WQ,k2,WQ]
   by_cases he:e=0
   ·subst he
    have hv:=k4.1 rfl
    have hs:=(sn hm hv (h0 _ yl)).ref
    rw [k2] at hs
    have hs:s=lf m L[i]:=by simpa using hs
    have AT:=(k3 rfl).tU
    obtain⟨o,q1,q2⟩:=zI (m:=m) (x1:=(s,0)) AT m 0 (by dsimp only; omega) (by omega)
    have q1:aY.l1 m (s,0) m 0=_:=q1
    rw [if_neg (by simp),q1,WQ]
    rcases q2 with rfl | ⟨⟨x,rfl⟩,q3⟩
    ·exact⟨_,rfl,.inl rfl⟩
    ·dsimp only
     obtain⟨o,g1,g2⟩:=zJ hm h8 h0 f (i+1) (by omega) (by omega)
     rw [aE (by omega) (by omega),show (i:Int)+1=((i+1:Nat):Int) by omega,g1]
     refine⟨o,rfl,g2.imp id fun g=>⟨g.1,fun t ht=>?_⟩⟩
     rw [W6 h] at ht
     rcases Xo.1 ht with rfl | ht
     ·rw [Xr,hs] at q3; exact⟨hv,q3⟩
     ·exact g.2 t ht
   ·rw [if_pos (by simpa using he)]
    exact⟨_,rfl,.inl rfl⟩
  ·exact⟨.inr (i:Int),by rw [if_neg (by simp only [decide_eq_true_eq]; omega)],.inr ⟨⟨_,rfl⟩,by rw [Xp (by omega)]; simp⟩⟩
theorem DX {m:Nat}(hm:2 ^ 63≤m){L:List au}(hl:∀t∈L,t.nodes.length<2 ^ 63)(h0:∀t∈L,Gq t):∃b,aY.f m L=some b∧(b=true→zE m L):=by
 have rD:(2:Nat) ^ 41=2199023255552:=by decide
 have Hm:(2:Nat) ^ 63=9223372036854775808:=by decide
 obtain⟨b,k1,k2⟩:=Bo hm hl
 unfold aY.f
 rw [k1,WQ]
 cases b with
 | true=>exact⟨false,rfl,fun h=>by cases h⟩
 | false=>
  rw [if_neg (by simp)]
  split
  ·exact⟨false,rfl,fun h=>by cases h⟩
  ·rename_i g
   simp only [decide_eq_true_eq] at g
   obtain⟨o,q1,q2⟩:=zJ (m:=m) (by omega) (by omega) h0 m 0 (by omega) (by omega)
   have q1:aY.l0 m L m 0=_:=q1
   rw [q1,WQ]
   rcases q2 with rfl | ⟨⟨x,rfl⟩,q3⟩
   ·exact⟨false,rfl,fun h=>by cases h⟩
   ·refine⟨true,rfl,fun _=>⟨by omega,fun t ht=>⟨(q3 t ht).1,h0 t ht⟩,fun t ht=>(q3 t ht).2,?_⟩⟩
    unfold aQ.f at k1
    split at k1
    ·simp at k1
    ·simp only [WR] at k1
     obtain⟨o,k1,k3⟩:=k1
     cases o with
     | inl r=>
      dsimp only at k3
      simp only [WT] at k3
      subst k3
      obtain⟨o,z1,z2⟩:=uv hm (k2 rfl) hl m 0 0 (by omega) (by omega)
      have z1:aQ.l0 m L m (0:Int) (0:Int)=_:=z1
      rw [k1] at z1
      cases z1
      simp at z2
     | inr x=>
      have:=vU (k2 rfl) (fun t ht=>(jf (q3 t ht).1).1.1) m 0 0 x (by omega) (by omega) k1
      simpa using this
theorem G0 {m:Nat}{a b:List Int}(hl:a.length=b.length)(hs:a.length≤8000):∀(f i:Nat),a.length - i<f→i≤a.length→
  ∃o,bA.l0 m a b f (i:Int)=some o∧((∃x,o = .inr x)∧a.drop i=b.drop i∨o = .inl false∧a.drop i≠b.drop i)
 | 0,i,hf,_=>absurd hf (by omega)
 | f+1,i,hf,hi=>by
  unfold bA.l0
  by_cases h:i<a.length
  ·rw [if_pos (by simp only [decide_eq_true_eq]; omega),mM h,WQ,mM (by omega),WQ,W6 h,W6 (show i<b.length by omega)]
   by_cases e:a[i]=b[i]
   ·obtain⟨o,k1,k2⟩:=G0 (m:=m) hl hs f (i+1) (by omega) (by omega)
    rw [if_neg (by simp [e]),aE (by omega) (by omega),show (i:Int)+1=((i+1:Nat):Int) by omega,k1,e]
    refine⟨o,rfl,?_⟩
    rcases k2 with⟨x,k⟩| ⟨x,k⟩
    ·exact .inl ⟨x,by rw [k]⟩
    ·exact .inr ⟨x,fun z=>k (X7 z).2⟩
   ·rw [if_pos (by simpa using e)]
    exact⟨_,rfl,.inr ⟨rfl,fun z=>e (X7 z).1⟩⟩
  ·refine⟨.inr (i:Int),by rw [if_neg (by simp only [decide_eq_true_eq]; omega)],.inl ⟨⟨_,rfl⟩,?_⟩⟩
   rw [Xp (by omega),Xp (by omega)]
theorem VL {m:Nat}{a b:List Int}(hs:a.length≤8000)(hm:8001≤m):∃x,bA.f m a b=some x∧(x=true↔a=b):=by
 unfold bA.f
 by_cases hl:a.length=b.length
 ·obtain⟨o,k1,k2⟩:=G0 (m:=m) hl hs m 0 (by omega) (by omega)
  have k1:bA.l0 m a b m 0=_:=k1
  rw [if_neg (by rw [hl]; simp),k1,WQ]
  rw [Xr,Xr] at k2
  rcases k2 with⟨⟨x,rfl⟩,k⟩| ⟨rfl,k⟩<;>exact⟨_,rfl,by simp [k]⟩
 ·have hi:¬(a.length:Int)=b.length:=by omega
  rw [if_pos (by simpa using hi)]
  exact⟨_,rfl,by simp; exact fun e=>hl (by rw [e])⟩
theorem VM {m:Nat}{a b:ae}(ha:A7 a)(hb:A7 b)(hm:8001≤m):∃x,dH.f m a b=some x∧(x=true↔a=b):=by
 have h8:=ha.args
 unfold dH.f
 rw [xj (by omega),WQ]
 by_cases h:cT a b=0
 ·have A:=qA (l:=[a,b]) (i:=0) (j:=1) (fun n hn=>by
   rcases Xo.1 hn with rfl | hn
   ·exact ha
   ·simp at hn; subst hn; exact hb) (by simp) (by simp) h
  have A:Alike a b:=A
  obtain⟨x,k1,k2⟩:=VL (m:=m) (a:=a.args) (b:=b.args) (by omega) hm
  rw [if_pos (by simp [h]),k1]
  refine⟨x,rfl,k2.trans ⟨fun e=>?_,fun e=>by rw [e]⟩⟩
  obtain⟨k1,i1,l1,a1⟩:=a
  obtain⟨k2,i2,l2,a2⟩:=b
  obtain⟨e1,e2,e3,_⟩:=A
  dsimp only at e1 e2 e3 e
  subst e1 e2 e3 e
  rfl
 ·rw [if_neg (by simpa using h)]
  exact⟨_,rfl,by simp; exact fun e=>h (by rw [e]; exact (Alike.refl b).cT)⟩
theorem G1 {m:Nat}{a b:List ae}(hl:a.length=b.length)(hs:a.length≤8000)(hm:8001≤m)(ha:∀n∈a,A7 n)(hb:∀n∈b,A7 n):∀(f i:Nat),a.length - i<f→i≤a.length→
  ∃o,aC.l0 m a b (fun y0 y1=>dH.f m y0 y1) f (i:Int)=some o∧((∃x,o = .inr x)∧a.drop i=b.drop i∨o = .inl false∧a.drop i≠b.drop i)
 | 0,i,hf,_=>absurd hf (by omega)
 | f+1,i,hf,hi=>by
  unfold aC.l0
  by_cases h:i<a.length
  ·obtain⟨x,e1,e⟩:=VM (ha _ (XM h)) (hb _ (XM (show i<b.length by omega))) hm
   rw [if_pos (by simp only [decide_eq_true_eq]; omega),mM h,WQ,mM (by omega),WQ,e1,WQ,W6 h,W6 (show i<b.length by omega)]
   cases x with
   | true=>
    obtain⟨o,k1,k2⟩:=G1 (m:=m) hl hs hm ha hb f (i+1) (by omega) (by omega)
    rw [if_neg (by simp),aE (by omega) (by omega),show (i:Int)+1=((i+1:Nat):Int) by omega,k1,e.1 rfl]
    refine⟨o,rfl,?_⟩
    rcases k2 with⟨x,k⟩| ⟨x,k⟩
    ·exact .inl ⟨x,by rw [k]⟩
    ·exact .inr ⟨x,fun z=>k (X7 z).2⟩
   | false=>exact⟨_,rfl,.inr ⟨rfl,fun z=>by simpa using e.2 (X7 z).1⟩⟩
  ·refine⟨.inr (i:Int),by rw [if_neg (by simp only [decide_eq_true_eq]; omega)],.inl ⟨⟨_,rfl⟩,?_⟩⟩
   rw [Xp (by omega),Xp (by omega)]
theorem VN {m:Nat}{a b:au}(ha:nD a)(hb:nD b)(hm:8001≤m):∃x,gK.f m a b=some x∧(x=true↔a=b):=by
 have hs:=ha.tU
 have this:a.nodes=b.nodes↔a=b:=⟨fun e=>by
   have r1:=ha.root
   have r2:=hb.root
   cases a; cases b; simp only at e r1 r2; subst e r1 r2; rfl,fun e=>by rw [e]⟩
 unfold gK.f aC.f
 by_cases hl:a.nodes.length=b.nodes.length
 ·obtain⟨o,k1,k2⟩:=G1 (m:=m) hl hs hm (fun n hn=>(ha.nodes n hn).1) (fun n hn=>(hb.nodes n hn).1) m 0 (by omega) (by omega)
  have k1:aC.l0 m a.nodes b.nodes (fun y0 y1=>dH.f m y0 y1) m 0=_:=k1
  rw [if_neg (by rw [hl]; simp),k1,WQ]
  rw [Xr,Xr] at k2
  rcases k2 with⟨⟨x,rfl⟩,k⟩| ⟨rfl,k⟩
  ·exact⟨_,rfl,by simp [this.1 k]⟩
  ·exact⟨_,rfl,by simp; exact fun e=>k (this.2 e)⟩
 ·have hi:¬(a.nodes.length:Int)=b.nodes.length:=by omega
  rw [if_pos (by simpa using hi)]
  exact⟨_,rfl,by simp; exact fun e=>hl (by rw [e])⟩
theorem DY {m:Nat}(hm:2 ^ 41≤m){a b:au}(ha:dT a=true)(hb:dT b=true)(a0:Gq a)(b0:Gq b):∃x,iy.f m a b=some (x,0)∧(x=true↔lf m a=lf m b):=by
 have rD:(2:Nat) ^ 41=2199023255552:=by decide
 have nb:(2:Nat) ^ 30=1073741824:=by decide
 have F:=sn hm ha a0
 have G:=sn hm hb b0
 obtain⟨x,k1,k2⟩:=VN (m:=m) F.lt G.lt (by omega)
 refine⟨x,?_,k2⟩
 unfold iy.f
 rw [ly (by omega),WQ,ha,if_neg (by simp),ly (by omega),WQ,hb,if_neg (by simp),F.eq,WQ,G.eq,WQ,k1,WQ]
end Go.Proofs.YtmekcfdllhphlaaDoor
namespace Go.Proofs.YtmekcfdllhphlaaDoor
open Go Go.R
open Go.IntKind (i64 u64 u8 u32)
def zK:cd:=gh [0,1,4,5,7,9,12,13,14,15,24] [12] [2044,1596,1084,1580,1564,540,2035,1596,2035] [] []
def bK.l0 (m:Nat)(x0:List Int)(y0:List Int):Nat→Int→Option (Sum (Bool × Int) (Int))
 | 0,_=>none
 | k+1,x1=>if (decide (x1<(([x0,y0]:List (List Int)).length:Int)))=true then ((ix ([x0,y0]) x1).bind fun v0=>(bc.f m v0).bind fun x2=>if (!(x2.2==(0:Int)))=true then (some (.inl (false,x2.2))) else (bK.l0 m x0 y0 k (i64.wrap (x1+(1:Int))))) else (some (.inr x1))
def bK.f (m:Nat)(x0:List Int)(y0:List Int):Option (Bool × Int):=(bK.l0 m x0 y0 m (0:Int)).bind fun bo=>match bo with | .inl r0=>some r0 | .inr x3=>(dj.f m x0 y0).bind fun x4=>some (x4,(0:Int))
def bK.fin (L:Mem)(r:Bool × Int)(s:St):Prop:=∃av,aI Tryd.prog (s.open zK) Tryd.f26.results.toList=some av∧fA s.h av (.tup [.bool r.1,.int .i64 r.2])
def T2 (cf:CallF)(m:Nat):Prop:=∀(x0:List Int) (y0:List Int) (r:Bool × Int),bK.f m x0 y0=some r→∀h xs,eA eQ h xs [ao.fz x0,ao.fz y0]→cf 26 xs h=some (.tup [.bool r.1,.int .i64 r.2],h)
section
variable {cf:CallF}{m:Nat}
theorem bK.bG (L:Mem)(x0:List Int)(y0:List Int)(aA:Nat)  (Ln:QN cf m):bI Tryd.prog cf zK m (sub [1,0,1,0,0] (codeOf Tryd.f26)) (fun k (σ:Int)=>bK.l0 m x0 y0 k σ) (fun σ s=>match σ with | x1=>∃h1,s=⟨ao.fz x0::ao.fz y0::oq ([.rs aA 0 (([x0,y0]:List (List Int)).length) 1,.int .i64 (([x0,y0]:List (List Int)).length:Int),.int .i64 x1,.any,.any]),[none],h1⟩∧Has h1 ((aA,.sl (([x0,y0]:List (List Int)).length) 1 ((I6 ao).l ([x0,y0])))::L)) (fun out e s=>(e = .exit 0∧∃x1,.inr x1=out∧∃xF mu tL qu h1,s=⟨ao.fz x0::ao.fz y0::oq [xF,mu,tL,qu,.any],[none],h1⟩∧Has h1 ((aA,.sl (([x0,y0]:List (List Int)).length) 1 ((I6 ao).l ([x0,y0])))::L))∨(e = .ret∧∃r,.inl r=out∧bK.fin L r s)):=by
 refine hX (fun _=>rfl) ?_
 rintro k x1 s out ⟨h1,rfl,o1⟩ H
 have H:bK.l0 m x0 y0 (k+1) x1=some out:=H
 refine q1 <| qq <| qc H (fun c0 H=>?_) (fun c0 H=>?_)
 ·refine qk <| qq <| qb 1 <| qq ?_
  obtain⟨v0,e1,H⟩:=aJ H
  refine qr [.v 0 (aG (k:=.i64) (E:=(I6 ao)) (l:=([x0,y0])) (q:=0) UZ o1 rfl e1),.v 1 (be  (E:=(I6 ao)) (l:=([x0,y0])) (q:=0) o1 rfl U0 e1 rfl)] <| qq ?_
  obtain⟨x2,e2,H⟩:=aJ H
  refine qr [.a 1 (Ln _ _ e2 h1 _ (cG (iK (E:=ao)) (gA)))] <| qq <| q0 <| qc H (fun c1 H=>?_) (fun c1 H=>?_)
  ·refine q1 ?_
   have o2:Has h1 (L):=Has.del o1 0
   exact qt <| XZ (⟨rfl,_,oi H,ca (.tup [.bool false,.int .i64 x2.2]) h1 (b8 (ta (ji (ak) (ji (dS) (s9)))))⟩)
  ·exact qk <| q0 <| ⟨i64.wrap (x1+(1:Int)),⟨h1,(XN (b:=⟨ao.fz x0::ao.fz y0::oq ([.rs aA 0 (([x0,y0]:List (List Int)).length) 1,.int .i64 (([x0,y0]:List (List Int)).length:Int),.int .i64 (i64.wrap (x1+(1:Int))),.any,.any]),[none],h1⟩) (by kernel_rfl) (by simp only [WY])),(by have o:Has h1 ((aA,.sl (([x0,y0]:List (List Int)).length) 1 ((I6 ao).l ([x0,y0])))::L):=o1; simpa only [WY] using o)⟩,H⟩
 ·exact qx 0 <| Yf (⟨rfl,x1,oi H,.rs aA 0 (([x0,y0]:List (List Int)).length) 1,.int .i64 (([x0,y0]:List (List Int)).length:Int),.int .i64 x1,.bool (decide (x1<(([x0,y0]:List (List Int)).length:Int))),h1,(XN (b:=⟨ao.fz x0::ao.fz y0::oq ([.rs aA 0 (([x0,y0]:List (List Int)).length) 1,.int .i64 (([x0,y0]:List (List Int)).length:Int),.int .i64 x1,.bool (decide (x1<(([x0,y0]:List (List Int)).length:Int))),.any]),[none],h1⟩) (by kernel_rfl) (by simp only [WY])),(by have o:Has h1 ((aA,.sl (([x0,y0]:List (List Int)).length) 1 ((I6 ao).l ([x0,y0])))::L):=o1; simpa only [WY] using o)⟩)
theorem pK {aS:FuncId→cd}(ha:aS 26=zK)(Ln:QN cf m)(Iq:QM cf m)(x0:List Int)(y0:List Int)(h:AHeap)(L:Mem)  (o:Has h (L)){out:Bool × Int}(H:bK.f m x0 y0=some out) :
  ∃r h',aZ Tryd.prog aS cf m 26 [ao.fz x0,ao.fz y0] h=some (r,h')∧fA h' r (.tup [.bool out.1,.int .i64 out.2]):=by
 refine aj (fn:=Tryd.f26) ha Tryd.func26 (by kernel_rfl) (by kernel_rfl) ?_
 refine aD (Q:=fun s=>bK.fin L out s) (fun _ _ h=>h) ?_
 have H:_=some out:=H
 unfold bK.f at H
 show de _ cf zK m _ ⟨ao.fz x0::ao.fz y0::Dn [],[none],h⟩ _
 refine q1 <| qq <| qq ?_
 obtain⟨aA,h0,e0,o0⟩:=BI (E:=(I6 ao)) (l:=[x0,y0]) (cs:=[ao.fz x0,ao.fz y0]) o (by kernel_rfl)
 refine qr [.a 2 e0] <| qb 0 ?_
 obtain⟨bo,e3,H⟩:=aJ H
 refine ql (bK.bG L x0 y0 aA  Ln (0:Int) _ _ ⟨h0,(XN (b:=⟨ao.fz x0::ao.fz y0::oq ([.rs aA 0 (([x0,y0]:List (List Int)).length) 1,.int .i64 (([x0,y0]:List (List Int)).length:Int),.int .i64 (0:Int),.any,.any]),[none],h0⟩) (by kernel_rfl) (by simp only [WY])),(by have o:Has h0 ((aA,.sl (([x0,y0]:List (List Int)).length) 1 ((I6 ao).l ([x0,y0])))::L):=o0; simpa only [WY] using o)⟩ e3) ?_
 rintro e s (⟨rfl,x3,rfl,g0,g1,g2,g3,h2,rfl,o3⟩| ⟨rfl,r0,rfl,mw⟩)
 ·try dsimp only at H
  refine qq ?_
  obtain⟨x4,e4,H⟩:=aJ H
  refine qr [.a 2 (Iq _ _ _ e4 h2 _ (gf (ab (b4 (E:=ao)) (ab (b4 (E:=ao)) (ax)))))] ?_
  have o4:Has h2 (L):=Has.del o3 0
  obtain rfl:=oi H
  exact qt <| ⟨.inl rfl,ca (.tup [.bool x4,.int .i64 (0:Int)]) h2 (b8 (ta (ji (ak) (ji (dS) (s9)))))⟩
 ·try dsimp only at H
  obtain rfl:=oi H
  exact⟨.inl rfl,mw⟩
end
end Go.Proofs.YtmekcfdllhphlaaDoor
