/- Part of the proof: PB4, Q75, PB9, PV1, PT13, Q23, Q111, Q86, Q69, Q48, Q25. -/
import Derived.Test.YtmekcfdllhphlaaDoorK10
set_option linter.unusedVariables false
set_option linter.unusedSimpArgs false
set_option maxRecDepth 100000
open Bool renaming and_eq_true → WV
open ByteArray renaming mk → Xk
open Eq renaming trans → XN
open Int renaming toNat_natCast → WX
open List renaming length_set → WY, length_append → W3, mem_singleton → W4, getElem?_eq_getElem → W5, mem_append → W8, getElem?_eq_none → Xa, getD_eq_getElem?_getD → Xb, replicate → Xc, mem_map → Xd, map_cons → Xe, length_cons → Xf, getElem?_append_right → Xg, all_eq_true → Xi, map_append → Xm, mem_cons → Xo, getElem?_map → Xq, drop_zero → Xr, nil_append → Xs, length_map → Xy, mem_append_left → XA, ext_getElem? → XI, length_nil → XL, idxOf_lt_length_of_mem → XS, take_add_one → XU, take_length → XX, nodup_append → X4, getElem?_set → Ye
open Nat renaming le_refl → WU, le_trans → XD, sub_self → Yo
open Option renaming bind_some → WQ, map_some → WW
open Option.some renaming inj → Xn
open Or renaming inr → XZ, inl → Yf
namespace Go.Proofs.YtmekcfdllhphlaaDoor
open Go Go.R
open Go.IntKind (i64 u64 u8 u32)
def gb (l:List Bool)(k:Nat):Bool:=l.getD k false
theorem Iw {l:List Bool}{k:Nat}(h:k<l.length):l[k]? = some (gb l k):=by
 unfold gb; rw [Xb,W5 h]; rfl
theorem Cp {l:List Bool}{i:Int}(h0:0≤i)(h:i.toNat<l.length):ix l i=some (gb l i.toNat):=by
 unfold ix; rw [if_pos h0,Iw h]
theorem GC {l:List Bool}{i k:Nat}{x:Bool}(hi:i<l.length):gb (l.set i x) k=if k=i then x else gb l k:=by
 unfold gb
 simp only [Xb,Ye]
 by_cases h:i=k
 ·subst h; simp [hi]
 ·rw [if_neg h,if_neg (by omega)]
def ar (l:List ae)(i k:Nat):Nat:=(gt (nd l i).args k).toNat
def na (l:List ae)(i:Nat):Nat:=(nd l i).args.length
theorem km {l:List ae}(ok:kU l){i k:Nat}(hi:i<l.length)(hk:k<na l i):ar l i k<l.length∧gt (nd l i).args k=(ar l i k:Int):=by
 obtain⟨h0,h1⟩:=(y7 ok hi).2 _ (aM (l:=(nd l i).args) (k:=k) hk)
 unfold ar; omega
theorem Cq {l:List ae}(ok:kU l){i:Nat}(hi:i<l.length):na l i≤8:=(y7 ok hi).1
theorem uk {m:Nat}(a b:ae):∃x,eY.f m a b=some x∧(x=true↔Alike a b):=by
 unfold eY.f
 by_cases h1:a.kind=b.kind
 ·rw [if_pos (by simpa using h1)]
  by_cases h2:a.int=b.int
  ·rw [if_pos (by simpa using h2)]
   by_cases h3:a.label=b.label
   ·rw [if_pos (by rw [h3]; simp)]
    refine⟨_,rfl,⟨fun h=>⟨h1,h2,h3,by have:=beq_iff_eq.1 h; omega⟩,fun h=>by have:=h.len; rw [beq_iff_eq]; omega⟩⟩
   ·rw [if_neg (fun h=>h3 (AU (by simpa using h)))]
    exact⟨_,rfl,⟨fun h=>(by cases h),fun h=>absurd h.label h3⟩⟩
  ·rw [if_neg (by simpa using h2)]
   exact⟨_,rfl,⟨fun h=>(by cases h),fun h=>absurd h.int h2⟩⟩
 ·rw [if_neg (by simpa using h1)]
  exact⟨_,rfl,⟨fun h=>(by cases h),fun h=>absurd h.kind h1⟩⟩
def SA (l:List ae)(c:List Int)(i j:Nat):Prop:=∀k,k<na l i→gt c (ar l i k)=gt c (ar l j k)
theorem Jm {m:Nat}{l:List ae}{c:List Int}(ok:kU l)(hc:c.length=l.length){i j:Nat}(hi:i<l.length)(hj:j<l.length)(hl:na l i=na l j):∀(f k:Nat),na l i - k<f→k≤na l i→
  ∃o,bf.l0 m (nd l i) (nd l j) c f (k:Int)=some o∧((∃x,o = .inr x)∧(∀q,k≤q→q<na l i→gt c (ar l i q)=gt c (ar l j q))∨o = .inl false∧∃q,q<na l i∧gt c (ar l i q)≠gt c (ar l j q))
 | 0,k,hf,_=>absurd hf (by omega)
 | f+1,k,hf,hk=>by
  have h8:=Cq ok hi
  unfold bf.l0
  by_cases h:k<na l i
  ·obtain⟨a1,a2⟩:=km ok hi h
   obtain⟨b1,b2⟩:=km ok hj (show k<na l j by omega)
   have e1:ix c (gt (nd l i).args k)=some (gt c (ar l i k)):=fZ a2 (by omega)
   have e2:ix c (gt (nd l j).args k)=some (gt c (ar l j k)):=fZ b2 (by omega)
   rw [if_pos (by simp only [decide_eq_true_eq]; unfold na at h; omega),cE (l:=(nd l i).args) h,WQ,e1,WQ,cE (l:=(nd l j).args) (show k<(nd l j).args.length by unfold na at hl h; omega),WQ,e2,WQ]
   by_cases e:gt c (ar l i k)=gt c (ar l j k)
   ·obtain⟨o,k1,k2⟩:=Jm (m:=m) ok hc hi hj hl f (k+1) (by omega) (by omega)
    rw [if_neg (by simp [e]),aE (by omega) (by omega),show (k:Int)+1=((k+1:Nat):Int) by omega,k1]
    refine⟨o,rfl,k2.imp (fun ⟨x,y⟩=>⟨x,fun q q1 q2=>?_⟩) id⟩
    by_cases hq:q=k
    ·subst hq; exact e
    ·exact y q (by omega) q2
   ·rw [if_pos (by simpa using e)]
    exact⟨_,rfl,.inr ⟨rfl,k,h,e⟩⟩
  ·refine⟨_,by rw [if_neg (by simp only [decide_eq_true_eq]; unfold na at h; omega)],.inl ⟨⟨_,rfl⟩,fun q q1 q2=>absurd q2 (by omega)⟩⟩
theorem Cr {m:Nat}(hm:2 ^ 30≤m){l:List ae}{c:List Int}(ok:kU l)(hc:c.length=l.length){i j:Nat}(hi:i<l.length)(hj:j<l.length)(hl:na l i=na l j):∃x,bf.f m (nd l i) (nd l j) c=some x∧(x=true↔SA l c i j):=by
 have nb:(2:Nat) ^ 30=1073741824:=by decide
 have h8:=Cq ok hi
 obtain⟨o,k1,k2⟩:=Jm (m:=m) ok hc hi hj hl m 0 (by omega) (by omega)
 have k1:bf.l0 m (nd l i) (nd l j) c m 0=_:=k1
 unfold bf.f
 rw [k1,WQ]
 rcases k2 with⟨⟨x,rfl⟩,k⟩| ⟨rfl,q,q1,q2⟩
 ·exact⟨true,rfl,⟨fun _ k0 hk=>k k0 (by omega) hk,fun _=>rfl⟩⟩
 ·exact⟨false,rfl,⟨fun h=>(by cases h),fun h=>absurd (h q q1) q2⟩⟩
def Tu (l:List ae)(dn:List Bool)(i:Nat):Prop:=∀k,k<na l i→gb dn (ar l i k)=true
theorem GD {m:Nat}{l:List ae}{dn:List Bool}(ok:kU l)(hd:dn.length=l.length){i:Nat}(hi:i<l.length):∀(f k:Nat),na l i - k<f→k≤na l i→
  ∃o,bX.l0 m (nd l i) dn f (k:Int)=some o∧((∃x,o = .inr x)∧(∀q,k≤q→q<na l i→gb dn (ar l i q)=true)∨o = .inl false∧∃q,q<na l i∧gb dn (ar l i q)=false)
 | 0,k,hf,_=>absurd hf (by omega)
 | f+1,k,hf,hk=>by
  have h8:=Cq ok hi
  unfold bX.l0
  by_cases h:k<na l i
  ·obtain⟨a1,a2⟩:=km ok hi h
   have e1:ix dn (gt (nd l i).args k)=some (gb dn (ar l i k)):=by
    have:=Cp (l:=dn) (i:=gt (nd l i).args k) (by omega) (by rw [a2,WX]; omega)
    rw [this,a2,WX]
   rw [if_pos (by simp only [decide_eq_true_eq]; unfold na at h; omega),cE (l:=(nd l i).args) h,WQ,e1,WQ]
   cases e:gb dn (ar l i k) with
   | true=>
    obtain⟨o,k1,k2⟩:=GD (m:=m) ok hd hi f (k+1) (by omega) (by omega)
    rw [if_neg (by simp),aE (by omega) (by omega),show (k:Int)+1=((k+1:Nat):Int) by omega,k1]
    refine⟨o,rfl,k2.imp (fun ⟨x,y⟩=>⟨x,fun q q1 q2=>?_⟩) id⟩
    by_cases hq:q=k
    ·subst hq; exact e
    ·exact y q (by omega) q2
   | false=>exact⟨_,rfl,.inr ⟨rfl,k,h,e⟩⟩
  ·refine⟨_,by rw [if_neg (by simp only [decide_eq_true_eq]; unfold na at h; omega)],.inl ⟨⟨_,rfl⟩,fun q q1 q2=>absurd q2 (by omega)⟩⟩
theorem GF {m:Nat}(hm:2 ^ 30≤m){l:List ae}{dn:List Bool}(ok:kU l)(hd:dn.length=l.length){i:Nat}(hi:i<l.length):∃x,bX.f m (nd l i) dn=some x∧(x=true→Tu l dn i)∧(x=false→∃q,q<na l i∧gb dn (ar l i q)=false):=by
 have nb:(2:Nat) ^ 30=1073741824:=by decide
 have h8:=Cq ok hi
 obtain⟨o,k1,k2⟩:=GD (m:=m) ok hd hi m 0 (by omega) (by omega)
 have k1:bX.l0 m (nd l i) dn m 0=_:=k1
 unfold bX.f
 rw [k1,WQ]
 rcases k2 with⟨⟨x,rfl⟩,k⟩| ⟨rfl,hq⟩
 ·exact⟨true,rfl,fun _ k0 hk=>k k0 (by omega) hk,fun h=>by cases h⟩
 ·exact⟨false,rfl,fun h=>(by cases h),fun _=>hq⟩
def rn (l:List ae)(c:List Int)(i j:Nat):Prop:=Alike (nd l i) (nd l j)∧SA l c i j
theorem Cs {m:Nat}(hm:2 ^ 30≤m){l:List ae}{c fs:List Int}(ok:kU l)(hc:c.length=l.length){i:Nat}(hi:i<l.length)(hf:∀f∈fs,0≤f∧f<l.length)(J9:fs.length≤8000):∀(f k:Nat),fs.length - k<f→k≤fs.length→
  ∃o,b7.l0 m l fs (i:Int) c f (k:Int)=some o∧((∃x,o = .inr x)∧(∀q,k≤q→q<fs.length→¬rn l c i (gt fs q).toNat)∨∃v,o = .inl v∧v∈fs∧rn l c i v.toNat)
 | 0,k,h,_=>absurd h (by omega)
 | f+1,k,h,hk=>by
  unfold b7.l0
  by_cases Hu:k<fs.length
  ·obtain⟨b0,b1⟩:=hf _ (aM Hu)
   have NN:((gt fs k).toNat:Int)=gt fs k:=by omega
   obtain⟨xa,a1,a2⟩:=uk (m:=m) (nd l (i:Int)) (nd l (gt fs k))
   have ih:=Cs hm ok hc hi hf J9 f (k+1) (by omega) (by omega)
   obtain⟨o,k1,k2⟩:=ih
   have next:¬rn l c i (gt fs k).toNat→∃o',(b7.l0 m l fs (i:Int) c f (i64.wrap ((k:Int)+1)))=some o'∧((∃x,o' = .inr x)∧(∀q,k≤q→q<fs.length→¬rn l c i (gt fs q).toNat)∨∃v,o' = .inl v∧v∈fs∧rn l c i v.toNat):=fun hn=>by
    rw [aE (by omega) (by omega),show (k:Int)+1=((k+1:Nat):Int) by omega,k1]
    refine⟨o,rfl,k2.imp (fun ⟨x,y⟩=>⟨x,fun q q1 q2=>?_⟩) id⟩
    by_cases hq:q=k
    ·subst hq; exact hn
    ·exact y q (by omega) q2
   rw [if_pos (by simp only [decide_eq_true_eq]; omega),hZ (by omega) (by omega),WQ,cE Hu,WQ,hZ b0 b1,WQ,a1,WQ]
   cases xa with
   | false=>
    rw [if_neg (by simp)]
    refine next fun hs=>?_
    have:=a2.2 (by have:=hs.1; rw [NN] at this; exact this)
    cases this
   | true=>
    have hA:=a2.1 rfl
    have hl:na l i=na l (gt fs k).toNat:=by unfold na; rw [NN]; exact hA.len
    obtain⟨xs,s1,s2⟩:=Cr hm ok hc hi (j:=(gt fs k).toNat) (by omega) hl
    rw [NN] at s1
    rw [if_pos rfl,WQ,WQ,hZ b0 b1,WQ,s1,WQ]
    cases xs with
    | false=>
     rw [if_neg (by simp)]
     refine next fun hs=>?_
     have:=s2.2 hs.2; cases this
    | true=>
     exact⟨_,rfl,.inr ⟨_,rfl,aM Hu,by rw [NN]; exact hA,s2.1 rfl⟩⟩
  ·exact⟨_,by rw [if_neg (by simp only [decide_eq_true_eq]; omega)],.inl ⟨⟨_,rfl⟩,fun q q1 q2=>absurd q2 (by omega)⟩⟩
theorem find_spec {m:Nat}(hm:2 ^ 30≤m){l:List ae}{c fs:List Int}(ok:kU l)(hc:c.length=l.length){i:Nat}(hi:i<l.length)(hf:∀f∈fs,0≤f∧f<l.length)(J9:fs.length≤8000) :
  ∃v,b7.f m l fs (i:Int) c=some v∧(v=i∧(∀f∈fs,¬rn l c i f.toNat)∨v∈fs∧rn l c i v.toNat):=by
 have nb:(2:Nat) ^ 30=1073741824:=by decide
 obtain⟨o,k1,k2⟩:=Cs hm ok hc hi hf J9 m 0 (by omega) (by omega)
 have k1:b7.l0 m l fs (i:Int) c m 0=_:=k1
 unfold b7.f
 rw [k1,WQ]
 rcases k2 with⟨⟨x,rfl⟩,k⟩| ⟨v,rfl,hv,hs⟩
 ·refine⟨_,rfl,.inl ⟨rfl,fun f hf=>?_⟩⟩
  obtain⟨q,hq,e⟩:=eU hf
  rw [←e]; exact k q (by omega) hq
 ·exact⟨v,rfl,.inr ⟨hv,hs⟩⟩
end Go.Proofs.YtmekcfdllhphlaaDoor
namespace Go.Proofs.YtmekcfdllhphlaaDoor
open Go Go.R
open Go.IntKind (i64 u64 u8 u32)
def vQ:cd:=gh [0,1,4,5,6,7,8,9,19,34,50] [] [2044,2036,1988,1990,1734,1926,1926,1414,1926,1926,1798,774,1798,1798,2043] [] [(2,[(6,none,1),(7,none,1)])]
def aK.l1 (m:Nat)(l0:List ae)(v0:Int):Nat→(List Int)→Int→Option ((List Int) × Int)
 | 0,_,_=>none
 | k+1,ga,i0=>if (decide (i0≥(0:Int)))=true then ((ix l0 v0).bind fun v5=>(ix v5.args i0).bind fun v6=>(app 8 ga ([v6])).bind fun x3=>aK.l1 m l0 v0 k x3 (i64.wrap (i0 - (1:Int)))) else (some ((ga,i0)))
def aK.l0 (m:Nat)(l0:List ae):Nat→(List Bool)→(List Int)→(List Int)→Option ((List Bool) × (List Int) × (List Int))
 | 0,_,_,_=>none
 | k+1,fi,bo,fj=>if (decide ((fj.length:Int) > (0:Int)))=true then ((ix fj (i64.wrap ((fj.length:Int) - (1:Int)))).bind fun v0=>(pM fj 0 (i64.wrap ((fj.length:Int) - (1:Int)))).bind fun v1=>(ix fi v0).bind fun v2=>if v2=true then (aK.l0 m l0 k fi bo v1) else ((ix fi v0).bind fun v3=>(app 8 bo ([v0])).bind fun x2=>(ix l0 v0).bind fun v4=>(aK.l1 m l0 v0 m v1 (i64.wrap ((v4.args.length:Int) - (1:Int)))).bind fun cD=>match cD with | (qH,i1)=>aK.l0 m l0 k (fi.set v0.toNat true) x2 qH)) else (some ((fi,bo,fj)))
def aK.f (m:Nat)(l0:List ae)(gJ:Int):Option ((List Int)):=(uM 1 (l0.length:Int) false).bind fun x0=>(app 8 ([]:List Int) ([gJ])).bind fun x1=>(aK.l0 m l0 m x0 ([]:List Int) x1).bind fun pf=>match pf with | (QZ,jt,Bc)=>some jt
def aK.fin (L:Mem)(r:(List Int))(s:St):Prop:=∃av,aI Tryd.prog (s.open vQ) Tryd.f75.results.toList=some av∧fA s.h av (aa.fz r)
def Tv (cf:CallF)(m:Nat):Prop:=∀(l0:List ae) (gJ:Int) (r:(List Int)),aK.f m l0 gJ=some r→∀h xs,eA eQ h xs [af.fz l0,.int .i64 gJ]→cf 75 xs h=some (aa.fz r,h)
section
variable {cf:CallF}{m:Nat}
theorem aK.fW (L:Mem)(l0:List ae)(di:Nat)(fi:List Bool)(di:Nat)(v0:Int)(x2:List Int)(gW:Nat)   : bI Tryd.prog cf vQ m (sub [1,1,1,1,0,0,0,1,0,1,1,1,1,1,1,0,0] (codeOf Tryd.f75)) (fun k (σ:(List Int) × Int)=>aK.l1 m l0 v0 k σ.1 σ.2) (fun σ s=>match σ with | (ga,i0)=>∃gX h5,s=⟨af.fz l0 :: .any :: .any :: .rs di 0 fi.length 1 :: .rs gW 0 x2.length 1 :: .rs gX 0 ga.length 1 :: .int .i64 v0 :: .int .i64 i0::kz [],[],h5⟩∧Has h5 ((gX,.sl ga.length 1 (aa.l ga))::(gW,.sl x2.length 1 (aa.l x2))::(di,.sl fi.length 1 (cF.l (fi.set v0.toNat true)))::L)) (fun out e s=>(e = .exit 2∧∃ga i0,(ga,i0)=out∧∃rG tI KW gX h5,s=⟨[af.fz l0,.any,.any,.rs di 0 fi.length 1,.rs gW 0 x2.length 1,.rs gX 0 ga.length 1,rG,tI,.any,.any,KW],[],h5⟩∧Has h5 ((gX,.sl ga.length 1 (aa.l ga))::(gW,.sl x2.length 1 (aa.l x2))::(di,.sl fi.length 1 (cF.l (fi.set v0.toNat true)))::L))):=by
 refine hX (fun _=>rfl) ?_
 rintro k ⟨ga,i0⟩ s out ⟨gX,h5,rfl,o8⟩ H
 have H:aK.l1 m l0 v0 (k+1) ga i0=some out:=H
 refine qq <| qq <| q0 <| qc H (fun c2 H=>?_) (fun c2 H=>?_)
 ·refine qk <| qq <| qb 3 ?_
  obtain⟨v5,uA,H⟩:=aJ H
  obtain⟨v6,uB,H⟩:=aJ H
  obtain⟨x3,uS,H⟩:=aJ H
  obtain⟨iB,h6,uC,o9⟩:=fY (P:=Tryd.prog) (E:=aa) (l:=ga) (q:=0) (t2:=42) (x:=.fz [.int .i64 v6] 1 true) (l2:=([v6])) dA o8 rfl (by kernel_rfl) rfl uS
  exact qr [.v 3 (bD (k:=.i64) (E:=af) (l:=l0) lG uA),.v 5 (jx  (E:=af) (l:=l0) (off:=3) h5 Kp uA rfl),.v 7 (bD (k:=.i64) (E:=aa) (l:=v5.args) dA uB),.v 8 (dd  (E:=aa) (l:=v5.args) h5 A3 uB rfl),.a 10 uC] <| q0 <| ⟨(x3,i64.wrap (i0 - (1:Int))),⟨iB,h6,(XN (b:=⟨af.fz l0 :: .any :: .any :: .rs di 0 fi.length 1 :: .rs gW 0 x2.length 1 :: .rs iB 0 x3.length 1 :: .int .i64 v0 :: .int .i64 (i64.wrap (i0 - (1:Int)))::kz [],[],h6⟩) (by kernel_rfl) (by simp only [WY])),(by have o:Has h6 ((iB,.sl x3.length 1 (aa.l x3))::(gW,.sl x2.length 1 (aa.l x2))::(di,.sl fi.length 1 (cF.l (fi.set v0.toNat true)))::L):=o9; simpa only [WY] using o)⟩,H⟩
 ·exact qx 2 <| ⟨rfl,ga,i0,oi H,.int .i64 v0,.int .i64 i0,.bool (decide (i0≥(0:Int))),gX,h5,(XN (b:=⟨[af.fz l0,.any,.any,.rs di 0 fi.length 1,.rs gW 0 x2.length 1,.rs gX 0 ga.length 1,.int .i64 v0,.int .i64 i0,.any,.any,.bool (decide (i0≥(0:Int)))],[],h5⟩) (by kernel_rfl) (by simp only [WY])),(by have o:Has h5 ((gX,.sl ga.length 1 (aa.l ga))::(gW,.sl x2.length 1 (aa.l x2))::(di,.sl fi.length 1 (cF.l (fi.set v0.toNat true)))::L):=o8; simpa only [WY] using o)⟩
theorem aK.bG (L:Mem)(l0:List ae)   : bI Tryd.prog cf vQ m (sub [1,1,1,1,0,0,0] (codeOf Tryd.f75)) (fun k (σ:(List Bool) × (List Int) × (List Int))=>aK.l0 m l0 k σ.1 σ.2.1 σ.2.2) (fun σ s=>match σ with | (fi,bo,fj)=>∃g0 g1 g2 g3 gZ fy di h2,s=⟨[af.fz l0,.any,.any,.rs di 0 fi.length 1,.rs fy 0 bo.length 1,.rs gZ 0 fj.length 1,g0,g1,.any,g2,g3],[],h2⟩∧Has h2 ((gZ,.sl fj.length 1 (aa.l fj))::(fy,.sl bo.length 1 (aa.l bo))::(di,.sl fi.length 1 (cF.l fi))::L)) (fun out e s=>(e = .exit 0∧∃fi bo fj,(fi,bo,fj)=out∧∃kQ y5 w7 rG tI KX Fw KW gZ fy di h2,s=⟨[kQ,.any,.any,y5,.rs fy 0 bo.length 1,w7,rG,tI,KX,Fw,KW],[],h2⟩∧Has h2 ((gZ,.sl fj.length 1 (aa.l fj))::(fy,.sl bo.length 1 (aa.l bo))::(di,.sl fi.length 1 (cF.l fi))::L))):=by
 refine hX (fun _=>rfl) ?_
 rintro k ⟨fi,bo,fj⟩ s out ⟨g0,g1,g2,g3,gZ,fy,di,h2,rfl,o4⟩ H
 have H:aK.l0 m l0 (k+1) fi bo fj=some out:=H
 refine qq <| qq <| q0 <| qc H (fun c0 H=>?_) (fun c0 H=>?_)
 ·refine qk <| qb 1 <| qq ?_
  obtain⟨v0,e4,H⟩:=aJ H
  refine qr [.v 4 (aG (k:=.i64) (E:=aa) (l:=fj) (q:=0) dA o4 rfl e4),.v 5 (be  (E:=aa) (l:=fj) (q:=0) o4 rfl A3 e4 rfl)] <| qq ?_
  obtain⟨v1,e5,H⟩:=aJ H
  obtain⟨Q0,o5⟩:=Ka (P:=Tryd.prog) (k:=.i64) (E:=aa) (q:=0) o4 rfl dA e5
  refine qr [.v 4 Q0] <| qq <| qq ?_
  obtain⟨v2,e6,H⟩:=aJ H
  refine qr [.v 2 (aG (k:=.i64) (E:=cF) (l:=fi) (q:=2) Hg o5 rfl e6),.v 3 (be  (E:=cF) (l:=fi) (q:=2) o5 rfl A4 e6 rfl)] <| qc H (fun c1 H=>?_) (fun c1 H=>?_)
  ·exact qx 1 <| ⟨(fi,bo,v1),⟨.int .i64 v0,.any,.bool v2,.any,gZ,fy,di,h2,by kernel_rfl,o5⟩,H⟩
  ·refine qk <| qq ?_
   obtain⟨v3,e7,H⟩:=aJ H
   obtain⟨h3,e8,o6⟩:=dK (P:=Tryd.prog) (tf:=4) (E:=cF) (l:=fi) (q:=2) (v:=true) (x:=.bool true) o5 rfl Z4 e7 rfl rfl
   refine qr [.v 2 (aG (k:=.i64) (E:=cF) (l:=fi) (q:=2) Hg o5 rfl e7),.w 3 e8] <| qq ?_
   obtain⟨x2,e9,H⟩:=aJ H
   obtain⟨gW,h4,pe,o7⟩:=fY (P:=Tryd.prog) (E:=aa) (l:=bo) (q:=1) (t2:=42) (x:=.fz [.int .i64 v0] 1 true) (l2:=([v0])) dA o6 rfl (by kernel_rfl) rfl e9
   refine qr [.a 3 pe] <| qq ?_
   obtain⟨v4,sj,H⟩:=aJ H
   refine qr [.v 2 (bD (k:=.i64) (E:=af) (l:=l0) lG sj),.v 4 (jx  (E:=af) (l:=l0) (off:=3) h4 Kp sj rfl)] <| qb 2 ?_
   obtain⟨cD,xP,H⟩:=aJ H
   refine ql (aK.fW L l0 di fi di v0 x2 gW   (v1,i64.wrap ((v4.args.length:Int) - (1:Int))) _ _ ⟨gZ,h4,(XN (b:=⟨af.fz l0 :: .any :: .any :: .rs di 0 fi.length 1 :: .rs gW 0 x2.length 1 :: .rs gZ 0 v1.length 1 :: .int .i64 v0 :: .int .i64 (i64.wrap ((v4.args.length:Int) - (1:Int)))::kz [],[],h4⟩) (by kernel_rfl) (by simp only [WY])),(by have o:Has h4 ((gZ,.sl v1.length 1 (aa.l v1))::(gW,.sl x2.length 1 (aa.l x2))::(di,.sl fi.length 1 (cF.l (fi.set v0.toNat true)))::L):=o7; simpa only [WY] using o)⟩ xP) ?_
   rintro e s ⟨rfl,qH,i1,rfl,g4,g5,g6,kT,h7,rfl,uQ⟩
   try dsimp only at H
   exact⟨(fi.set v0.toNat true,x2,qH),⟨g4,g5,.any,g6,kT,gW,di,h7,(XN (b:=⟨[af.fz l0,.any,.any,.rs di 0 fi.length 1,.rs gW 0 x2.length 1,.rs kT 0 qH.length 1,g4,g5,.any,.any,g6],[],h7⟩) (by kernel_rfl) (by simp only [WY])),(by have o:Has h7 ((kT,.sl qH.length 1 (aa.l qH))::(gW,.sl x2.length 1 (aa.l x2))::(di,.sl fi.length 1 (cF.l (fi.set v0.toNat true)))::L):=uQ; simpa only [WY] using o)⟩,H⟩
 ·exact qx 0 <| ⟨rfl,fi,bo,fj,oi H,af.fz l0,.rs di 0 fi.length 1,.rs gZ 0 fj.length 1,.any,.any,.bool (decide ((fj.length:Int) > (0:Int))),.any,.any,gZ,fy,di,h2,by kernel_rfl,o4⟩
theorem oc {aS:FuncId→cd}(ha:aS 75=vQ)  (l0:List ae)(gJ:Int)(h:AHeap)(L:Mem)  (o:Has h (L)){out:(List Int)}(H:aK.f m l0 gJ=some out) :
  ∃r h',aZ Tryd.prog aS cf m 75 [af.fz l0,.int .i64 gJ] h=some (r,h')∧fA h' r (aa.fz out):=by
 refine aj (fn:=Tryd.f75) ha Tryd.func75 (by kernel_rfl) (by kernel_rfl) ?_
 refine aD (Q:=fun s=>aK.fin L out s) (fun _ _ h=>h) ?_
 have H:_=some out:=H
 unfold aK.f at H
 show de _ cf vQ m _ ⟨af.fz l0 :: .int .i64 gJ::Dn [],[],h⟩ _
 refine q1 <| qq ?_
 obtain⟨x0,e0,H⟩:=aJ H
 obtain⟨aA,h0,e1,o0⟩:=nS (P:=Tryd.prog) (E:=cF) (z:=false) (zv:=.bool false) Hg o 4 rfl rfl rfl rfl e0
 refine qr [.a 2 e1] <| qq <| q0 ?_
 have o1:Has h0 (((0),.sl (([]:List Int).length) 1 (aa.l ([]:List Int)))::(aA,.sl x0.length 1 (cF.l x0))::L):=Has.nil o0 1
 have o2:Has h0 ((((0)),.sl (([]:List Int).length) 1 (aa.l ([]:List Int)))::((0),.sl (([]:List Int).length) 1 (aa.l ([]:List Int)))::(aA,.sl x0.length 1 (cF.l x0))::L):=Has.nil o1 1
 refine qq ?_
 obtain⟨x1,e2,H⟩:=aJ H
 obtain⟨gH,h1,e3,o3⟩:=fY (P:=Tryd.prog) (E:=aa) (l:=([]:List Int)) (q:=0) (t2:=42) (x:=.fz [.int .i64 gJ] 1 true) (l2:=([gJ])) dA o2 rfl (by kernel_rfl) rfl e2
 refine qr [.a 3 e3] <| qq <| qb 0 ?_
 obtain⟨pf,xd,H⟩:=aJ H
 refine ql (aK.bG L l0   (x0,([]:List Int),x1) _ _ ⟨.any,.any,.any,.any,gH,(0),aA,h1,by kernel_rfl,o3⟩ xd) ?_
 rintro e s ⟨rfl,QZ,jt,Bc,rfl,g7,g8,g9,g10,g11,g12,g13,g14,xQ,eT,nY,h8,rfl,vE⟩
 try dsimp only at H
 refine q1 ?_
 have tK:Has h8 ((xQ,.sl Bc.length 1 (aa.l Bc))::(eT,.sl jt.length 1 (aa.l jt))::L):=Has.del vE 2
 have lM:Has h8 ((eT,.sl jt.length 1 (aa.l jt))::L):=Has.del tK 0
 obtain rfl:=oi H
 exact qt <| ⟨.inl rfl,ca (.rs eT 0 jt.length 1) h8 (b8 (yG (E:=aa) (l:=jt) (q:=0) lM rfl (fun _=>rfl)))⟩
end
end Go.Proofs.YtmekcfdllhphlaaDoor
namespace Go.Proofs.YtmekcfdllhphlaaDoor
open Go Go.R
open Go.IntKind (i64 u64 u8 u32)
inductive um (κ:Int→Int)(A:Int→List Int):List Int→List Int→List Int→Prop
 | nil (o:List Int):um κ A [] o o
 | skip {v:Int} {st o o':List Int}:κ v∈o.map κ→um κ A st o o'→um κ A (v::st) o o'
 | push {v:Int} {st o o':List Int}:κ v∉o.map κ→um κ A (A v++st) (o++[v]) o'→um κ A (v::st) o o'
theorem um.Tw {κ:Int→Int}{A:Int→List Int}{st o o1 o2:List Int}(h:um κ A st o o1)(k:um κ A st o o2):o1=o2:=by
 induction h with
 | nil o=>cases k; rfl
 | skip hm _ ih=>
  cases k with
  | skip _ k=>exact ih k
  | push hn _=>exact absurd hm hn
 | push hn _ ih=>
  cases k with
  | skip hm _=>exact absurd hm hn
  | push _ k=>exact ih k
theorem um.facts {κ:Int→Int}{A:Int→List Int}{n:Nat}{st o o':List Int}(h:um κ A st o o')(hA:∀v:Int,0≤v→v<n→∀a∈A v,0≤a∧a<n)(hst:∀v∈st,0≤v∧v<n)(ho:∀v∈o,0≤v∧v<n)(AQ:(o.map κ).Nodup) :
  (∃t,o'=o++t)∧(∀v∈o',0≤v∧v<n)∧(o'.map κ).Nodup∧(∀v∈st,κ v∈o'.map κ)∧((∀v∈o,∀a∈A v,κ a∈o.map κ∨a∈st)→∀v∈o',∀a∈A v,κ a∈o'.map κ):=by
 induction h with
 | nil o=>
  refine⟨⟨[],by simp⟩,ho,AQ,?_,?_⟩
  ·intro v hv; cases hv
  ·intro h v hv a ha; exact (h v hv a ha).resolve_right (by simp)
 | @skip v st o o' hm _ ih=>
  obtain⟨⟨t,rfl⟩,a,b,c,d⟩:=ih (fun x hx=>hst x (by simp [hx])) ho AQ
  refine⟨⟨t,rfl⟩,a,b,fun x hx=>?_,fun h=>d fun x hx y hy=>?_⟩
  ·rcases Xo.1 hx with rfl | hx
   ·rw [Xm]; exact XA _ hm
   ·exact c x hx
  ·rcases h x hx y hy with h | h
   ·exact .inl h
   ·rcases Xo.1 h with rfl | h
    ·exact .inl hm
    ·exact .inr h
 | @push v st o o' hn _ ih=>
  have hv:=hst v (by simp)
  have h1:∀x∈A v++st,0≤x∧x<n:=fun x hx=>by
   rcases W8.1 hx with hx | hx
   ·exact hA v hv.1 hv.2 x hx
   ·exact hst x (by simp [hx])
  have h2:∀x∈o++[v],0≤x∧x<n:=fun x hx=>by
   rcases W8.1 hx with hx | hx
   ·exact ho x hx
   ·rw [W4] at hx; subst hx; exact hv
  have h3:((o++[v]).map κ).Nodup:=by
   rw [Xm,X4]
   refine⟨AQ,by simp,fun a ha b hb=>?_⟩
   simp only [Xe,List.map_nil,W4] at hb
   subst hb; intro e; subst e; exact hn ha
  obtain⟨⟨t,rfl⟩,a,b,c,d⟩:=ih h1 h2 h3
  refine⟨⟨[v]++t,by simp⟩,a,b,fun x hx=>?_,fun h=>d fun x hx y hy=>?_⟩
  ·rcases Xo.1 hx with rfl | hx
   ·simp
   ·exact c x (by simp [hx])
  ·rcases W8.1 hx with hx | hx
   ·rcases h x hx y hy with h | h
    ·exact .inl (by rw [Xm]; exact XA _ h)
    ·rcases Xo.1 h with rfl | h
     ·exact .inl (by simp)
     ·exact .inr (by simp [h])
   ·rw [W4] at hx; subst hx
    exact .inr (XA _ hy)
theorem um.from {A:Int→List Int}{root:Int}{st o o':List Int}(h:um id A st o o')(hst:∀v∈st,v=root∨∃q,q<o.length∧v∈A (gt o q))(ho:∀i,i<o.length→gt o i=root∨∃q,q<i∧gt o i∈A (gt o q)) :
  ∀i,i<o'.length→gt o' i=root∨∃q,q<i∧gt o' i∈A (gt o' q):=by
 induction h with
 | nil o=>exact ho
 | skip hm _ ih=>exact ih (fun x hx=>hst x (by simp [hx])) ho
 | @push v st o o' hn _ ih=>
  have gl:∀q,q<o.length→gt (o++[v]) q=gt o q:=fun q hq=>iv hq
  have gv:gt (o++[v]) o.length=v:=by unfold gt; rw [Xb,Xg (WU _),Yo]; rfl
  refine ih (fun x hx=>?_) (fun i hi=>?_)
  ·rcases W8.1 hx with hx | hx
   ·exact .inr ⟨o.length,by simp,by rw [gv]; exact hx⟩
   ·rcases hst x (by simp [hx]) with h | ⟨q,q1,q2⟩
    ·exact .inl h
    ·exact .inr ⟨q,by simp; omega,by rw [gl q q1]; exact q2⟩
  ·by_cases h:i<o.length
   ·rw [gl i h]
    rcases ho i h with h1 | ⟨q,q1,q2⟩
    ·exact .inl h1
    ·exact .inr ⟨q,q1,by rw [gl q (by omega)]; exact q2⟩
   ·have e:i=o.length:=by simp at hi; omega
    subst e
    rw [gv]
    rcases hst v (by simp) with h | ⟨q,q1,q2⟩
    ·exact .inl h
    ·exact .inr ⟨q,q1,by rw [gl q q1]; exact q2⟩
theorem zn (cls:List Int)(l:List ae)(k:Nat)(i:Int)(o:List Int):ri cls l (k+1) i o=if en cls i∈o.map (en cls) then o else (nd l i).args.foldl (fun o a=>ri cls l k a o) (o++[i]):=rfl
theorem GG {cls:List Int}{l:List ae}(ok:kU l):∀(k:Nat) (i:Int) (o:List Int),0≤i→i<l.length→Vs cls l.length o→Vs cls l.length (ri cls l k i o)∧o.length≤(ri cls l k i o).length
 | 0,i,o,_,_,v=>⟨v,WU _⟩
 | k+1,i,o,h0,h1,v=>by
  rw [zn]
  split
  ·exact⟨v,WU _⟩
  ·rename_i h
   have v1:Vs cls l.length (o++[i]):=by
    refine⟨?_,fun x hx=>?_⟩
    ·rw [Xm,X4]
     refine⟨v.Hl,by simp,fun a ha b hb=>?_⟩
     simp only [Xe,List.map_nil,W4] at hb
     subst hb; intro e; subst e; exact h ha
    ·rcases W8.1 hx with hx | hx
     ·exact v.nB x hx
     ·simp only [W4] at hx; subst hx; exact⟨h0,h1⟩
   have fold:∀(zs:List Int) (o:List Int),(∀a∈zs,0≤a∧a<l.length)→Vs cls l.length o→Vs cls l.length (zs.foldl (fun o a=>ri cls l k a o) o)∧o.length≤(zs.foldl (fun o a=>ri cls l k a o) o).length:=by
    intro zs
    induction zs with
    | nil=>intro o _ v; exact⟨v,WU _⟩
    | cons a zs ih=>
     intro o ha v
     have hr:=ha a (by simp)
     obtain⟨v2,l2⟩:=GG ok k a o hr.1 hr.2 v
     obtain⟨v3,l3⟩:=ih (ri cls l k a o) (fun x hx=>ha x (by simp [hx])) v2
     exact⟨v3,XD l2 l3⟩
   obtain⟨v2,l2⟩:=fold (nd l i).args (o++[i]) (ok.2 _ (fu h0 h1)).2 v1
   exact⟨v2,by simp at l2; omega⟩
theorem pB {cls:List Int}{l:List ae}(ok:kU l):∀(k:Nat) (i:Int) (o st o':List Int),0≤i→i<l.length→Vs cls l.length o→l.length<k+o.length→
  um (en cls) (fun v=>(nd l v).args) st (ri cls l k i o) o'→um (en cls) (fun v=>(nd l v).args) (i::st) o o'
 | 0,i,o,st,o',_,_,v,hk,_=>absurd v.tU (by omega)
 | k+1,i,o,st,o',h0,h1,v,hk,h=>by
  rw [zn] at h
  by_cases hm:en cls i∈o.map (en cls)
  ·rw [if_pos hm] at h
   exact .skip hm h
  ·rw [if_neg hm] at h
   refine .push hm ?_
   have v1:Vs cls l.length (o++[i]):=by
    refine⟨?_,fun x hx=>?_⟩
    ·rw [Xm,X4]
     refine⟨v.Hl,by simp,fun a ha b hb=>?_⟩
     simp only [Xe,List.map_nil,W4] at hb
     subst hb; intro e; subst e; exact hm ha
    ·rcases W8.1 hx with hx | hx
     ·exact v.nB x hx
     ·simp only [W4] at hx; subst hx; exact⟨h0,h1⟩
   have fold:∀(zs:List Int) (o:List Int),(∀a∈zs,0≤a∧a<l.length)→Vs cls l.length o→l.length<k+o.length→um (en cls) (fun v=>(nd l v).args) st (zs.foldl (fun o a=>ri cls l k a o) o) o'→um (en cls) (fun v=>(nd l v).args) (zs++st) o o':=by
    intro zs
    induction zs with
    | nil=>intro o _ _ _ h; exact h
    | cons a zs ih=>
     intro o ha v hk h
     have hr:=ha a (by simp)
     obtain⟨v2,l2⟩:=GG ok k a o hr.1 hr.2 v
     exact pB ok k a o (zs++st) o' hr.1 hr.2 v hk (ih _ (fun x hx=>ha x (by simp [hx])) v2 (by omega) h)
   exact fold (nd l i).args (o++[i]) (ok.2 _ (fu h0 h1)).2 v1 (by simp; omega) h
theorem pC {od:List Int}{n:Nat}(h:od.Nodup)(hr:∀x∈od,0≤x∧x<n):od.length≤n:=by
 have:=h.length_le_of_subset (l₂:=ints n) (fun x hx=>iM.2 (hr x hx))
 rwa [dM] at this
theorem GH {m:Nat}{l:List ae}(ok:kU l){v:Int}(h0:0≤v)(h1:v<l.length):∀(f i:Nat) (st:List Int),i<f→i≤(nd l v).args.length→st.length+i≤1000000→
  ∃x,aK.l1 m l v f st ((i:Int) - 1)=some (st++((nd l v).args.take i).reverse,x)
 | 0,i,st,hf,_,_=>absurd hf (by omega)
 | f+1,0,st,hf,hi,hs=>by
  unfold aK.l1
  rw [if_neg (by simp)]
  exact⟨_,by simp; rfl⟩
 | f+1,i+1,st,hf,hi,hs=>by
  have h8:=(ok.2 _ (fu h0 h1)).1
  have ei:((i+1:Nat):Int) - 1=(i:Int):=by omega
  have ew:i64.wrap ((i:Int) - 1)=(i:Int) - 1:=aE (by omega) (by omega)
  have lQ:app 8 st [gt (nd l v).args i]=some (st++[gt (nd l v).args i]):=by unfold app; rw [if_pos (by simp; omega)]
  obtain⟨x,ih⟩:=GH (m:=m) ok h0 h1 f i (st++[gt (nd l v).args i]) (by omega) (by omega) (by simp; omega)
  refine⟨x,?_⟩
  unfold aK.l1
  rw [ei,if_pos (by simp),hZ h0 h1,WQ,cE (by omega),WQ,lQ,WQ,ew,ih]
  rw [XU,bp (by omega)]
  simp
theorem Bd {m:Nat}(hm:2 ^ 30≤m){l:List ae}(ok:kU l):∀(f:Nat) (met:List Bool) (o st:List Int),st.length+9*(l.length - o.length)<f→st.length+9*(l.length - o.length)≤100000→met.length=l.length→(∀i,i<l.length→(gb met i=true↔(i:Int)∈o))→o.Nodup→(∀v∈o,0≤v∧v<l.length)→(∀v∈st,0≤v∧v<l.length)→
  ∃DP o' ,aK.l0 m l f met o st.reverse=some (DP,o',[])∧um id (fun v=>(nd l v).args) st o o'
 | 0,met,o,st,hf,_,_,_,_,_,_=>absurd hf (by omega)
 | f+1,met,o,[],hf,hb,Mi,NO,OA,OB,KA=>by
  unfold aK.l0
  rw [if_neg (by simp)]
  exact⟨met,o,rfl,.nil o⟩
 | f+1,met,o,v::st,hf,hb,Mi,NO,OA,OB,KA=>by
  have nb:(2:Nat) ^ 30=1073741824:=by decide
  have AT:=pC OA OB
  obtain⟨v0,v1⟩:=KA v (by simp)
  have h8:=(ok.2 _ (fu v0 v1)).1
  have Q5:((v.toNat:Nat):Int)=v:=by omega
  simp only [Xf] at hf hb
  have Vn:=ok.1
  unfold aK.l0
  have hlen:((v::st).reverse.length:Int)=(st.length:Int)+1:=by simp
  have ew:i64.wrap ((st.length:Int)+1 - 1)=(st.length:Int):=by rw [aE (by omega) (by omega)]; omega
  have e1:ix (v::st).reverse (st.length:Int)=some v:=by
   unfold ix
   rw [if_pos (by omega),WX,List.reverse_cons,Xg (by simp)]
   simp
  have e2:pM (v::st).reverse 0 (st.length:Int)=some st.reverse:=by
   unfold pM
   rw [if_pos ⟨by omega,by omega,by simp; omega⟩,List.reverse_cons]
   simp only [WX,Xr,Int.toNat_zero,Nat.sub_zero]
   rw [List.take_left' (by simp)]
  have e3:ix met v=some (gb met v.toNat):=Cp v0 (by omega)
  rw [if_pos (by rw [hlen]; simp only [gt_iff_lt,decide_eq_true_eq]; omega),hlen,ew,e1,WQ,e2,WQ,e3,WQ]
  cases hg:gb met v.toNat with
  | true=>
   have wJ:v∈o:=by have:=(NO v.toNat (by omega)).1 hg; rwa [Q5] at this
   obtain⟨DP,o',k1,k2⟩:=Bd hm ok f met o st (by omega) (by omega) Mi NO OA OB (fun x hx=>KA x (by simp [hx]))
   rw [if_pos rfl]
   exact⟨DP,o',k1,.skip (by simpa using wJ) k2⟩
  | false=>
   have Tx:v∉o:=fun h=>by
    have:=(NO v.toNat (by omega)).2 (by rw [Q5]; exact h)
    rw [hg] at this; cases this
   have Ty:(o++[v]).Nodup:=by
    rw [X4]
    refine⟨OA,by simp,fun a ha b hb=>?_⟩
    rw [W4] at hb
    subst hb; intro e; subst e; exact Tx ha
   have Tz:∀x∈o++[v],0≤x∧x<l.length:=fun x hx=>by
    rcases W8.1 hx with hx | hx
    ·exact OB x hx
    ·rw [W4] at hx; subst hx; exact⟨v0,v1⟩
   have F7:=pC Ty Tz
   simp only [W3,Xf,XL] at F7
   have lQ:app 8 o [v]=some (o++[v]):=by unfold app; rw [if_pos (by simp; omega)]
   have Vo:i64.wrap (((nd l v).args.length:Int) - 1)=((nd l v).args.length:Int) - 1:=aE (by omega) (by omega)
   obtain⟨x,q1⟩:=GH (m:=m) ok v0 v1 m (nd l v).args.length st.reverse (by omega) (WU _) (by simp; omega)
   rw [XX] at q1
   have Q6:st.reverse++(nd l v).args.reverse=((nd l v).args++st).reverse:=by simp
   rw [Q6] at q1
   rw [if_neg (by simp),WQ,lQ,WQ,hZ v0 v1,WQ,Vo,q1,WQ]
   dsimp only
   obtain⟨DP,o',k1,k2⟩:=Bd hm ok f (met.set v.toNat true) (o++[v]) ((nd l v).args++st) (by simp; omega) (by simp; omega) (by simpa using Mi) (fun i hi=>by
    rw [GC (by omega),W8,W4]
    by_cases e:i=v.toNat
    ·subst e; simp [Q5]
    ·rw [if_neg e,NO i hi]
     constructor
     ·exact fun h=>.inl h
     ·rintro (h | h)
      ·exact h
      ·omega) Ty Tz (fun x hx=>by
    rcases W8.1 hx with hx | hx
    ·exact (ok.2 _ (fu v0 v1)).2 x hx
    ·exact KA x (by simp [hx]))
   exact⟨DP,o',k1,.push (by simpa using Tx) k2⟩
theorem Ix {n k:Nat}:gb (Xc n false) k=false:=by
 unfold gb; rw [Xb,List.getElem?_replicate]; split<;>rfl
theorem pD {m:Nat}(hm:2 ^ 30≤m){l:List ae}(ok:kU l){root:Int}(h0:0≤root)(h1:root<l.length):∃o,aK.f m l root=some o∧um id (fun v=>(nd l v).args) [root] [] o:=by
 have nb:(2:Nat) ^ 30=1073741824:=by decide
 have Vn:=ok.1
 unfold aK.f
 have e1:uM 1 (l.length:Int) false=some (Xc l.length false):=by unfold uM; rw [if_pos ⟨by omega,by rw [WX]; omega⟩,WX]
 have lQ:app 8 ([]:List Int) [root]=some [root]:=by unfold app; rw [if_pos (by simp),Xs]
 obtain⟨DP,o',k1,k2⟩:=Bd hm ok m (Xc l.length false) [] [root] (by simp; omega) (by simp; omega) (by simp) (fun i hi=>by rw [Ix]; simp) (by simp) (fun v hv=>by cases hv) (fun v hv=>by rw [W4] at hv; subst hv; exact⟨h0,h1⟩)
 have k1:aK.l0 m l m (Xc l.length false) [] [root]=_:=k1
 rw [e1,WQ,lQ,WQ,k1,WQ]
 exact⟨o',rfl,k2⟩
end Go.Proofs.YtmekcfdllhphlaaDoor
namespace Go.Proofs.YtmekcfdllhphlaaDoor
open Go Go.R
open Go.IntKind (i64 u64 u8 u32)
structure DQ (l k:List ae)(R:Int→Int→Prop):Prop where
 nB:∀i j,R i j→(0≤i∧i<l.length)∧0≤j∧j<k.length
 top:∀i j,R i j→Alike (nd l i) (nd k j)
 arg:∀i j,R i j→∀n,n<(nd l i).args.length→R (gt (nd l i).args n) (gt (nd k j).args n)
theorem Min.same {l:List ae}{c:List Int}(M:Min l c){a b:Int}(a0:0≤a)(a1:a<l.length)(b0:0≤b)(b1:b<l.length)(e:en c a=en c b) :
  Alike (nd l a) (nd l b)∧∀n,n<(nd l a).args.length→en c (gt (nd l a).args n)=en c (gt (nd l b).args n):=by
 have ea:((a.toNat:Nat):Int)=a:=by omega
 have eb:((b.toNat:Nat):Int)=b:=by omega
 have hA:=M.top a.toNat b.toNat (by omega) (by omega) e
 have hg:=M.arg a.toNat b.toNat (by omega) (by omega) e
 rw [ea,eb] at hA hg
 exact⟨hA,hg⟩
theorem DQ.swap {l k:List ae}{R:Int→Int→Prop}(S:DQ l k R):DQ k l fun j i=>R i j:=
 ⟨fun i j h=>⟨(S.nB j i h).2,(S.nB j i h).1⟩,fun i j h=>(S.top j i h).symm,fun i j h n hn=>S.arg j i h n (by have:=(S.top j i h).len; omega)⟩
theorem DQ.cls {l k:List ae}{R:Int→Int→Prop}(S:DQ l k R){c1 c2:List Int}(M1:Min l c1)(M2:Min k c2){i j i' j':Int}(h:R i j)(h':R i' j')(e:en c1 i=en c1 i'):en c2 j=en c2 j':=by
 have g:=S.nB _ _ h
 have g':=S.nB _ _ h'
 refine M2.max (fun a b=>∃i i':Int,R i a∧R i' b∧en c1 i=en c1 i') ⟨?_,?_,?_⟩ j.toNat j'.toNat ⟨i,i',by rwa [show ((j.toNat:Nat):Int)=j by omega],by rwa [show ((j'.toNat:Nat):Int)=j' by omega],e⟩
 ·rintro a b ⟨i,i',h,h',_⟩
  have:=S.nB _ _ h
  have:=S.nB _ _ h'
  omega
 ·rintro a b ⟨i,i',h,h',e⟩
  have g:=S.nB _ _ h
  have g':=S.nB _ _ h'
  exact ((S.top _ _ h).symm.trans (M1.same g.1.1 g.1.2 g'.1.1 g'.1.2 e).1).trans (S.top _ _ h')
 ·rintro a b ⟨i,i',h,h',e⟩ n hn
  have g:=S.nB _ _ h
  have g':=S.nB _ _ h'
  obtain⟨sA,sg⟩:=M1.same g.1.1 g.1.2 g'.1.1 g'.1.2 e
  have JM:n<(nd l i).args.length:=by have:=(S.top _ _ h).len; omega
  have k1:=S.arg _ _ h n JM
  have k2:=S.arg _ _ h' n (by have:=sA.len; omega)
  have r1:=(S.nB _ _ k1).2
  have r2:=(S.nB _ _ k2).2
  exact⟨_,_,by rwa [show (((gt (nd k a).args n).toNat:Nat):Int)=gt (nd k a).args n by omega],by rwa [show (((gt (nd k b).args n).toNat:Nat):Int)=gt (nd k b).args n by omega],sg n JM⟩
inductive Rl (R:Int→Int→Prop):List Int→List Int→Prop
 | nil:Rl R [] []
 | cons {a b:Int} {xs ys:List Int}:R a b→Rl R xs ys→Rl R (a::xs) (b::ys)
theorem Rl.app {R:Int→Int→Prop}{a b c d:List Int}(h:Rl R a b)(k:Rl R c d):Rl R (a++c) (b++d):=by
 induction h with
 | nil=>exact k
 | cons h _ ih=>exact .cons h ih
theorem Rl.len {R:Int→Int→Prop}{a b:List Int}(h:Rl R a b):a.length=b.length:=by
 induction h with
 | nil=>rfl
 | cons _ _ ih=>simp [ih]
theorem Rl.at {R:Int→Int→Prop}{a b:List Int}(h:Rl R a b):∀n,n<a.length→R (gt a n) (gt b n):=by
 induction h with
 | nil=>intro n hn; exact absurd hn (by simp)
 | cons h _ ih=>
  intro n hn
  cases n with
  | zero=>exact h
  | succ n=>exact ih n (by simpa using hn)
theorem Rl.of {R:Int→Int→Prop}:∀{a b:List Int},a.length=b.length→(∀n,n<a.length→R (gt a n) (gt b n))→Rl R a b
 | [],[],_,_=>.nil
 | [],_::_,h,_=>by simp at h
 | _::_,[],h,_=>by simp at h
 | x::a,y::b,h,k=>.cons (k 0 (by simp)) (Rl.of (by simpa using h) fun n hn=>k (n+1) (by simpa using hn))
section
variable {l k:List ae}{R:Int→Int→Prop}{c1 c2:List Int}
theorem DQ.mem (S:DQ l k R)(M1:Min l c1)(M2:Min k c2){v w:Int}(h:R v w){o o2:List Int}(ho:Rl R o o2):en c1 v∈o.map (en c1)↔en c2 w∈o2.map (en c2):=by
 induction ho with
 | nil=>simp
 | cons h' _ ih=>
  rw [Xe,Xe,Xo,Xo,ih]
  have z1:=S.cls M1 M2 h h'
  have z2:=S.swap.cls M2 M1 h h'
  constructor
  ·rintro (e | e)
   ·exact .inl (z1 e)
   ·exact .inr e
  ·rintro (e | e)
   ·exact .inl (z2 e)
   ·exact .inr e
theorem DQ.idx (S:DQ l k R)(M1:Min l c1)(M2:Min k c2){v w:Int}(h:R v w){o o2:List Int}(ho:Rl R o o2):idx c1 o v=idx c2 o2 w:=by
 unfold Go.Proofs.YtmekcfdllhphlaaDoor.idx
 congr 1
 induction ho with
 | nil=>rfl
 | @cons a b xs ys h' _ ih=>
  rw [Xe,Xe,List.idxOf_cons,List.idxOf_cons,ih]
  have h1:=S.cls M1 M2 h' h
  have h2:=S.swap.cls M2 M1 h' h
  by_cases e:en c1 a=en c1 v
  ·rw [e,h1 e]; simp
  ·have e2:¬en c2 b=en c2 w:=fun z=>e (h2 z)
   rw [show (en c1 a==en c1 v)=false from by simpa using e,show (en c2 b==en c2 w)=false from by simpa using e2]
theorem DQ.pre (S:DQ l k R)(M1:Min l c1)(M2:Min k c2){st o o':List Int}(h:um (en c1) (fun v=>(nd l v).args) st o o'):∀{Iy o2:List Int},Rl R st Iy→Rl R o o2→∃Hn,um (en c2) (fun v=>(nd k v).args) Iy o2 Hn∧Rl R o' Hn:=by
 induction h with
 | nil o=>intro Iy o2 hs ho; cases hs; exact⟨o2,.nil _,ho⟩
 | skip hm _ ih=>
  intro Iy o2 hs ho
  cases hs with
  | cons h hs=>
   obtain⟨Hn,k1,k2⟩:=ih hs ho
   exact⟨Hn,.skip ((S.mem M1 M2 h ho).1 hm) k1,k2⟩
 | push hn _ ih=>
  intro Iy o2 hs ho
  cases hs with
  | cons h hs=>
   obtain⟨Hn,k1,k2⟩:=ih ((Rl.of (S.top _ _ h).len (S.arg _ _ h)).app hs) (ho.app (.cons h .nil))
   exact⟨Hn,.push (fun z=>hn ((S.mem M1 M2 h ho).2 z)) k1,k2⟩
end
theorem Iz {c O:List Int}{a b:Int}(h:en c a=en c b):idx c O a=idx c O b:=by unfold idx; rw [h]
theorem KY {f:Int→Int}{a b:List Int}{g:Int→Int}(hl:a.length=b.length)(h:∀n,n<a.length→f (gt a n)=g (gt b n)):a.map f=b.map g:=by
 apply XI fun n=>?_
 simp only [Xq]
 by_cases hn:n<a.length
 ·rw [bp hn,bp (by omega)]; simp only [WW,h n hn]
 ·rw [Xa (by omega),Xa (by omega)]; rfl
theorem DR {m:Nat}(hm:2 ^ 41≤m){t u:au}(ht:dT t=true)(hu:dT u=true){R:Int→Int→Prop}(S:DQ t.nodes u.nodes R)(hr:R t.root u.root):∃s,ck.f m t=some s∧ck.f m u=some s:=by
 have rD:(2:Nat) ^ 41=2199023255552:=by decide
 obtain⟨D8,_,r0,r1,_⟩:=jf ht
 obtain⟨TA,_,q0,q1,_⟩:=jf hu
 obtain⟨c1,n1,e1,M1,Q1,_⟩:=lA hm ht
 obtain⟨c2,n2,e2,M2,Q2,_⟩:=lA hm hu
 have l1:=D8.1
 have l2:=TA.1
 have P1:=pB (cls:=c1) D8 m t.root [] [] _ r0 r1 ⟨by simp,fun x hx=>by cases hx⟩ (by simp; omega) (.nil _)
 have P2:=pB (cls:=c2) TA m u.root [] [] _ q0 q1 ⟨by simp,fun x hx=>by cases hx⟩ (by simp; omega) (.nil _)
 obtain⟨Hn,k1,k2⟩:=S.pre M1 M2 P1 (.cons hr .nil) .nil
 have:=k1.Tw P2
 subst this
 generalize WK:ri c1 t.nodes m t.root []=O1 at *
 generalize WL:ri c2 u.nodes m u.root []=O2 at *
 have hl:=k2.len
 have w1:=Q1.len
 have w2:=Q2.len
 have hn:n1=n2:=by
  apply XI fun q=>?_
  by_cases hq:q<O1.length
  ·rw [Q1.new q (by simp) hq,Q2.new q (by simp) (by omega)]
   have h:=k2.at q hq
   have A:=S.top _ _ h
   unfold uT
   rw [A.kind,A.int,A.label,KY A.len fun n hn=>S.idx M1 M2 (S.arg _ _ h n hn) k2]
  ·rw [Xa (by omega),Xa (by omega)]
 subst hn
 exact⟨_,e1,e2⟩
theorem Be {n:ae}{a b:Int}{f:Int→Int}(h:kl n a=true)(hf:∀x∈n.args,0≤f x∧f x<b):kl ⟨n.kind,n.int,n.label,n.args.map f⟩ b=true:=by
 unfold kl at h ⊢
 have he:(n.args.map f).isEmpty=n.args.isEmpty:=by cases n.args<;>rfl
 dsimp only
 rw [he,Xy]
 have ha:((n.args.map f).all fun a=>decide (0≤a)&&decide (a<b))=true:=by
  rw [Xi]
  intro x hx
  obtain⟨y,hy,rfl⟩:=Xd.1 hx
  have:=hf y hy
  simp only [WV,decide_eq_true_eq]; exact this
 rw [ha]
 split<;>rename_i h0
 ·rw [if_pos h0] at h; exact h
 ·rw [if_neg h0] at h
  split<;>rename_i h1
  ·rw [if_pos h1] at h; exact h
  ·rw [if_neg h1] at h
   split<;>rename_i h2
   ·rw [if_pos h2] at h; exact h
   ·rw [if_neg h2] at h
    split<;>rename_i h3
    ·rw [if_pos h3] at h
     simp only [WV] at h ⊢
     exact⟨h.1,trivial⟩
    ·rw [if_neg h3] at h
     exact h
theorem DS {m:Nat}(hm:2 ^ 41≤m){t:au}(ht:dT t=true):∃s R,ck.f m t=some s∧dT s=true∧s.nodes.length≤t.nodes.length∧DQ t.nodes s.nodes R∧R t.root s.root:=by
 have rD:(2:Nat) ^ 41=2199023255552:=by decide
 obtain⟨ok,_,r0,r1,_⟩:=jf ht
 obtain⟨c,ns,e,M,Q,hr⟩:=lA hm ht
 have l1:=ok.1
 have fv:=ht
 unfold dT at fv
 simp only [WV,decide_eq_true_eq] at fv
 generalize hO:ri c t.nodes m t.root []=O at *
 have tU:=Q.vs.tU
 have hlen:=Q.len
 have oP:0<O.length:=by cases O with | nil=>simp at hr | cons _ _=>simp
 have AQ:∀q:Nat,q<O.length→nd ns (q:Int)=uT c t.nodes O (gt O q):=fun q hq=>by
  have:=Q.new q (by simp) hq
  unfold nd
  rw [WX,Xb,this]; rfl
 have OC:∀{v:Int},en c v∈O.map (en c)→0≤idx c O v∧idx c O v<O.length∧en c (gt O (idx c O v).toNat)=en c v:=fun {v} hv=>by
  have h1:=XS hv
  have h2:=List.getElem_idxOf h1
  rw [Xy] at h1
  unfold idx
  refine⟨by omega,by omega,?_⟩
  rw [WX]
  have h3:=W5 (l:=O.map (en c)) (i:=(O.map (en c)).idxOf (en c v)) (by rw [Xy]; exact h1)
  rw [h2,Xq,bp h1] at h3
  exact Xn h3
 refine⟨⟨ns,0⟩,fun i j=>(0≤i∧i<t.nodes.length)∧en c i∈O.map (en c)∧j=idx c O i,e,?_,by show ns.length≤_; omega,⟨?_,?_,?_⟩,⟨r0,r1⟩,hr,?_⟩
 ·unfold dT
  simp only [WV,decide_eq_true_eq]
  refine⟨⟨⟨⟨by omega,by omega⟩,by omega⟩,by omega⟩,?_⟩
  rw [Xi]
  intro x hx
  obtain⟨q,hq,e2⟩:=List.getElem_of_mem hx
  have h1:=Q.new q (by simp) (by omega)
  rw [W5 hq,e2] at h1
  have h1:=Xn h1
  subst h1
  have yl:=Q.vs.nB _ (aM (l:=O) (k:=q) (by omega))
  refine Be (Xi.1 fv.2 _ (fu yl.1 yl.2)) fun a ha=>?_
  have:=OC (Q.arg q (by simp) (by omega) a ha)
  omega
 ·rintro i j ⟨h1,h2,rfl⟩
  have:=OC h2
  exact⟨h1,by show 0≤_∧_<(ns.length:Int); omega⟩
 ·rintro i j ⟨h1,h2,rfl⟩
  obtain⟨a,b,d⟩:=OC h2
  have yl:=Q.vs.nB _ (aM (l:=O) (k:=(idx c O i).toNat) (by omega))
  have hx:=AQ (idx c O i).toNat (by omega)
  rw [show (((idx c O i).toNat:Nat):Int)=idx c O i by omega] at hx
  rw [hx]
  have A:=(M.same h1.1 h1.2 yl.1 yl.2 d.symm).1
  exact⟨A.kind,A.int,A.label,by show _=(List.map _ _).length; rw [Xy]; exact A.len⟩
 ·rintro i j ⟨h1,h2,rfl⟩ n hn
  obtain⟨a,b,d⟩:=OC h2
  have yl:=Q.vs.nB _ (aM (l:=O) (k:=(idx c O i).toNat) (by omega))
  have hx:=AQ (idx c O i).toNat (by omega)
  rw [show (((idx c O i).toNat:Nat):Int)=idx c O i by omega] at hx
  rw [hx]
  obtain⟨A,hg⟩:=M.same h1.1 h1.2 yl.1 yl.2 d.symm
  have JN:n<(nd t.nodes (gt O (idx c O i).toNat)).args.length:=by have:=A.len; omega
  have hg:=hg n hn
  have hin:=Q.arg (idx c O i).toNat (by simp) (by omega) _ (aM JN)
  refine⟨(ok.2 _ (fu h1.1 h1.2)).2 _ (aM hn),by rw [hg]; exact hin,?_⟩
  have e1:gt (uT c t.nodes O (gt O (idx c O i).toNat)).args n=idx c O (gt (nd t.nodes (gt O (idx c O i).toNat)).args n):=by
   have h3:=bp (l:=(uT c t.nodes O (gt O (idx c O i).toNat)).args) (k:=n) (by show n<(List.map _ _).length; rw [Xy]; exact JN)
   have h4:(uT c t.nodes O (gt O (idx c O i).toNat)).args[n]? = some (idx c O (gt (nd t.nodes (gt O (idx c O i).toNat)).args n)):=by
    show (List.map _ _)[n]? = _
    rw [Xq,bp JN]; rfl
   rw [h4] at h3; exact (Xn h3).symm
  rw [e1]
  exact Iz hg.symm
 ·show (0:Int)=idx c O t.root
  have P1:=pB (cls:=c) ok m t.root [] [] _ r0 r1 ⟨by simp,fun x hx=>by cases hx⟩ (by simp; omega) (.nil _)
  rw [hO] at P1
  cases P1 with
  | skip h _=>simp at h
  | push _ k=>
   obtain⟨⟨T,e⟩,_⟩:=k.facts (n:=t.nodes.length) (fun v a b=>(ok.2 _ (fu a b)).2) (fun v hv=>by
    rcases W8.1 hv with hv | hv
    ·exact (ok.2 _ (fu r0 r1)).2 v hv
    ·cases hv) (fun v hv=>by simp at hv; subst hv; exact⟨r0,r1⟩) (by simp)
   rw [e]
   unfold idx
   simp
theorem Bf {m:Nat}(hm:2 ^ 41≤m){t:au}(ht:dT t=true):∃s,ck.f m t=some s∧dT s=true∧s.nodes.length≤t.nodes.length∧ck.f m s=some s:=by
 obtain⟨s,R,e,v,hl,S,hr⟩:=DS hm ht
 obtain⟨s',e1,e2⟩:=DR hm ht v S hr
 rw [e1] at e
 cases e
 exact⟨s,e1,v,hl,e2⟩
end Go.Proofs.YtmekcfdllhphlaaDoor
namespace Go.Proofs.YtmekcfdllhphlaaDoor
open Go Go.R
open Go.IntKind (i64 u64 u8 u32)
theorem uo {b:List Int}{lo hi:Int}(h:0≤lo∧lo≤hi∧hi≤b.length):pM b lo hi=some ((b.drop lo.toNat).take (hi.toNat - lo.toNat)):=by unfold pM; rw [if_pos h]
end Go.Proofs.YtmekcfdllhphlaaDoor
namespace Go.Proofs.YtmekcfdllhphlaaDoor
open Go Go.R
open Go.IntKind (i64 u64 u8 u32)
end Go.Proofs.YtmekcfdllhphlaaDoor
namespace Go.Proofs.YtmekcfdllhphlaaDoor
open Go Go.R
open Go.IntKind (i64 u64 u8 u32)
def xH:cd:=gh [0,2] [] [2,1] [] []
def eZ.f (m:Nat)(c0:Int):Option (Bool):=if (decide (c0≥(97:Int)))=true then (if (decide (c0≤(122:Int)))=true then (some true) else (if (decide (c0≥(65:Int)))=true then (if (decide (c0≤(90:Int)))=true then (some true) else (if (decide (c0≥(48:Int)))=true then (if (decide (c0≤(57:Int)))=true then (some true) else (some (c0==(95:Int)))) else (some (c0==(95:Int))))) else (if (decide (c0≥(48:Int)))=true then (if (decide (c0≤(57:Int)))=true then (some true) else (some (c0==(95:Int)))) else (some (c0==(95:Int)))))) else (if (decide (c0≥(65:Int)))=true then (if (decide (c0≤(90:Int)))=true then (some true) else (if (decide (c0≥(48:Int)))=true then (if (decide (c0≤(57:Int)))=true then (some true) else (some (c0==(95:Int)))) else (some (c0==(95:Int))))) else (if (decide (c0≥(48:Int)))=true then (if (decide (c0≤(57:Int)))=true then (some true) else (some (c0==(95:Int)))) else (some (c0==(95:Int)))))
def eZ.fin (L:Mem)(r:Bool)(s:St):Prop:=∃av,aI Tryd.prog (s.open xH) Tryd.f111.results.toList=some av∧fA s.h av (.bool r)
def KZ (cf:CallF)(m:Nat):Prop:=∀(c0:Int) (r:Bool),eZ.f m c0=some r→∀h xs,eA eQ h xs [.int .u8 c0]→cf 111 xs h=some (.bool r,h)
section
variable {cf:CallF}{m:Nat}
theorem pE {aS:FuncId→cd}(ha:aS 111=xH)  (c0:Int)(h:AHeap)(L:Mem)  (o:Has h (L)){out:Bool}(H:eZ.f m c0=some out) :
  ∃r h',aZ Tryd.prog aS cf m 111 [.int .u8 c0] h=some (r,h')∧fA h' r (.bool out):=by
 refine aj (fn:=Tryd.f111) ha Tryd.func111 (by kernel_rfl) (by kernel_rfl) ?_
 refine aD (Q:=fun s=>eZ.fin L out s) (fun _ _ h=>h) ?_
 have H:_=some out:=H
 unfold eZ.f at H
 show de _ cf xH m _ ⟨[.int .u8 c0,.any],[],h⟩ _
 refine q1 <| qq ?_
 rcases dF H with⟨c1,H⟩| ⟨c1,H⟩
 ·rcases dF H with⟨c2,H⟩| ⟨c2,H⟩
  ·obtain rfl:=oi H
   exact qr [.b 2 c1,.b 6 c2] <| qt <| ⟨.inl rfl,ca (.bool true) h (b8 (ak))⟩
  ·rcases dF H with⟨c3,H⟩| ⟨c3,H⟩
   ·rcases dF H with⟨c4,H⟩| ⟨c4,H⟩
    ·obtain rfl:=oi H
     exact qr [.b 2 c1,.b 6 c2,.b 9 c3,.b 14 c4] <| qt <| ⟨.inl rfl,ca (.bool true) h (b8 (ak))⟩
    ·rcases dF H with⟨c5,H⟩| ⟨c5,H⟩
     ·rcases dF H with⟨c6,H⟩| ⟨c6,H⟩
      ·obtain rfl:=oi H
       exact qr [.b 2 c1,.b 6 c2,.b 9 c3,.b 14 c4,.b 17 c5,.b 22 c6] <| qt <| ⟨.inl rfl,ca (.bool true) h (b8 (ak))⟩
      ·obtain rfl:=oi H
       exact qr [.b 2 c1,.b 6 c2,.b 9 c3,.b 14 c4,.b 17 c5,.b 22 c6] <| qt <| ⟨.inl rfl,ca (.bool (c0==(95:Int))) h (b8 (ak))⟩
     ·obtain rfl:=oi H
      exact qr [.b 2 c1,.b 6 c2,.b 9 c3,.b 14 c4,.b 17 c5] <| qt <| ⟨.inl rfl,ca (.bool (c0==(95:Int))) h (b8 (ak))⟩
   ·rcases dF H with⟨c7,H⟩| ⟨c7,H⟩
    ·rcases dF H with⟨c8,H⟩| ⟨c8,H⟩
     ·obtain rfl:=oi H
      exact qr [.b 2 c1,.b 6 c2,.b 9 c3,.b 17 c7,.b 22 c8] <| qt <| ⟨.inl rfl,ca (.bool true) h (b8 (ak))⟩
     ·obtain rfl:=oi H
      exact qr [.b 2 c1,.b 6 c2,.b 9 c3,.b 17 c7,.b 22 c8] <| qt <| ⟨.inl rfl,ca (.bool (c0==(95:Int))) h (b8 (ak))⟩
    ·obtain rfl:=oi H
     exact qr [.b 2 c1,.b 6 c2,.b 9 c3,.b 17 c7] <| qt <| ⟨.inl rfl,ca (.bool (c0==(95:Int))) h (b8 (ak))⟩
 ·rcases dF H with⟨c9,H⟩| ⟨c9,H⟩
  ·rcases dF H with⟨w6,H⟩| ⟨w6,H⟩
   ·obtain rfl:=oi H
    exact qr [.b 2 c1,.b 9 c9,.b 14 w6] <| qt <| ⟨.inl rfl,ca (.bool true) h (b8 (ak))⟩
   ·rcases dF H with⟨pd,H⟩| ⟨pd,H⟩
    ·rcases dF H with⟨rE,H⟩| ⟨rE,H⟩
     ·obtain rfl:=oi H
      exact qr [.b 2 c1,.b 9 c9,.b 14 w6,.b 17 pd,.b 22 rE] <| qt <| ⟨.inl rfl,ca (.bool true) h (b8 (ak))⟩
     ·obtain rfl:=oi H
      exact qr [.b 2 c1,.b 9 c9,.b 14 w6,.b 17 pd,.b 22 rE] <| qt <| ⟨.inl rfl,ca (.bool (c0==(95:Int))) h (b8 (ak))⟩
    ·obtain rfl:=oi H
     exact qr [.b 2 c1,.b 9 c9,.b 14 w6,.b 17 pd] <| qt <| ⟨.inl rfl,ca (.bool (c0==(95:Int))) h (b8 (ak))⟩
  ·rcases dF H with⟨tD,H⟩| ⟨tD,H⟩
   ·rcases dF H with⟨rF,H⟩| ⟨rF,H⟩
    ·obtain rfl:=oi H
     exact qr [.b 2 c1,.b 9 c9,.b 17 tD,.b 22 rF] <| qt <| ⟨.inl rfl,ca (.bool true) h (b8 (ak))⟩
    ·obtain rfl:=oi H
     exact qr [.b 2 c1,.b 9 c9,.b 17 tD,.b 22 rF] <| qt <| ⟨.inl rfl,ca (.bool (c0==(95:Int))) h (b8 (ak))⟩
   ·obtain rfl:=oi H
    exact qr [.b 2 c1,.b 9 c9,.b 17 tD] <| qt <| ⟨.inl rfl,ca (.bool (c0==(95:Int))) h (b8 (ak))⟩
end
end Go.Proofs.YtmekcfdllhphlaaDoor
namespace Go.Proofs.YtmekcfdllhphlaaDoor
open Go Go.R
open Go.IntKind (i64 u64 u8 u32)
def zo:cd:=gh [0,2,3,11,15,22] [] [62,54,61,58,42,58,26,61,61] [] []
def cu.l0 (m:Nat)(s0:ByteArray):Nat→Int→Option (Sum Bool (Int))
 | 0,_=>none
 | k+1,i0=>if (decide (i0<(s0.size:Int)))=true then ((bt s0 i0).bind fun v0=>(eZ.f m v0).bind fun x0=>if (!x0)=true then (some (.inl false)) else (cu.l0 m s0 k (i64.wrap (i0+(1:Int))))) else (some (.inr i0))
def cu.f (m:Nat)(s0:ByteArray):Option (Bool):=if (decide ((s0.size:Int)<(1:Int)))=true then (some false) else (if (decide ((s0.size:Int) > (16:Int)))=true then (some false) else ((cu.l0 m s0 m (0:Int)).bind fun bo=>match bo with | .inl r0=>some r0 | .inr i1=>some true))
def cu.fin (L:Mem)(r:Bool)(s:St):Prop:=∃av,aI Tryd.prog (s.open zo) Tryd.f86.results.toList=some av∧fA s.h av (.bool r)
def TB (cf:CallF)(m:Nat):Prop:=∀(s0:ByteArray) (r:Bool),cu.f m s0=some r→∀h xs,eA eQ h xs [.str s0]→cf 86 xs h=some (.bool r,h)
section
variable {cf:CallF}{m:Nat}
theorem cu.bG (L:Mem)(s0:ByteArray)  (GI:KZ cf m):bI Tryd.prog cf zo m (sub [1,1,0,1,0,0] (codeOf Tryd.f86)) (fun k (σ:Int)=>cu.l0 m s0 k σ) (fun σ s=>match σ with | i0=>∃h0,s=⟨.str s0 :: .any :: .int .i64 i0::kz [],[],h0⟩∧Has h0 (L)) (fun out e s=>(e = .exit 0∧∃i0,.inr i0=out∧∃kQ uP qu h0,s=⟨[kQ,.any,uP,.any,qu,.any],[],h0⟩∧Has h0 (L))∨(e = .ret∧∃r,.inl r=out∧cu.fin L r s)):=by
 refine hX (fun _=>rfl) ?_
 rintro k i0 s out ⟨h0,rfl,o0⟩ H
 have H:cu.l0 m s0 (k+1) i0=some out:=H
 refine qq <| qq <| q0 <| qc H (fun c3 H=>?_) (fun c3 H=>?_)
 ·refine qk <| qq <| qb 1 <| qq ?_
  obtain⟨v0,e0,H⟩:=aJ H
  obtain⟨x0,e1,H⟩:=aJ H
  refine qr [.v 2 (mi (k:=.i64) U9 e0),.a 3 (GI _ _ e1 h0 _ (gf (ab (aH) (ax))))] <| qc H (fun c4 H=>?_) (fun c4 H=>?_)
  ·exact q1 <| qt <| XZ (⟨rfl,_,oi H,ca (.bool false) h0 (b8 (ak))⟩)
  ·exact qk <| q0 <| ⟨i64.wrap (i0+(1:Int)),⟨h0,by kernel_rfl,o0⟩,H⟩
 ·exact qx 0 <| Yf (⟨rfl,i0,oi H,.str s0,.int .i64 i0,.bool (decide (i0<(s0.size:Int))),h0,by kernel_rfl,o0⟩)
theorem rW {aS:FuncId→cd}(ha:aS 86=zo)(GI:KZ cf m)(s0:ByteArray)(h:AHeap)(L:Mem)  (o:Has h (L)){out:Bool}(H:cu.f m s0=some out) :
  ∃r h',aZ Tryd.prog aS cf m 86 [.str s0] h=some (r,h')∧fA h' r (.bool out):=by
 refine aj (fn:=Tryd.f86) ha Tryd.func86 (by kernel_rfl) (by kernel_rfl) ?_
 refine aD (Q:=fun s=>cu.fin L out s) (fun _ _ h=>h) ?_
 have H:_=some out:=H
 unfold cu.f at H
 show de _ cf zo m _ ⟨.str s0::tl [],[],h⟩ _
 refine q1 <| qq <| qq ?_
 rcases dF H with⟨c0,H⟩| ⟨c0,H⟩
 ·obtain rfl:=oi H
  exact qr [.b 3 c0] <| vC <| qq <| q0 <| qt <| ⟨.inl rfl,ca (.bool false) h (b8 (ak))⟩
 ·refine qr [.b 3 c0] <| qc H (fun c2 H=>?_) (fun c2 H=>?_)
  ·obtain rfl:=oi H
   exact q1 <| qt <| ⟨.inl rfl,ca (.bool false) h (b8 (ak))⟩
  ·refine qk <| qq <| qq <| q0 <| qb 0 ?_
   obtain⟨bo,e2,H⟩:=aJ H
   refine ql (cu.bG L s0  GI (0:Int) _ _ ⟨h,by kernel_rfl,o⟩ e2) ?_
   rintro e s (⟨rfl,i1,rfl,g0,g1,g2,h1,rfl,o1⟩| ⟨rfl,r0,rfl,mw⟩)
   ·try dsimp only at H
    obtain rfl:=oi H
    exact q1 <| qt <| ⟨.inl rfl,ca (.bool true) h1 (b8 (ak))⟩
   ·try dsimp only at H
    obtain rfl:=oi H
    exact⟨.inl rfl,mw⟩
end
end Go.Proofs.YtmekcfdllhphlaaDoor
namespace Go.Proofs.YtmekcfdllhphlaaDoor
open Go Go.R
open Go.IntKind (i64 u64 u8 u32)
def Cu:cd:=gh [0,2] [] [2,1] [] []
def eh.f (m:Nat)(s0:ByteArray):Option (Bool):=if (s0.data.toList==(Xk #[124]).data.toList)=true then (some true) else (if (s0.data.toList==(Xk #[35]).data.toList)=true then (some true) else ((cu.f m s0).bind fun x0=>if x0=true then ((bt s0 (0:Int)).bind fun v0=>if (decide (v0≥(97:Int)))=true then ((bt s0 (0:Int)).bind fun v1=>some (decide (v1≤(122:Int)))) else (some false)) else (some false)))
def eh.fin (L:Mem)(r:Bool)(s:St):Prop:=∃av,aI Tryd.prog (s.open Cu) Tryd.f69.results.toList=some av∧fA s.h av (.bool r)
def TC (cf:CallF)(m:Nat):Prop:=∀(s0:ByteArray) (r:Bool),eh.f m s0=some r→∀h xs,eA eQ h xs [.str s0]→cf 69 xs h=some (.bool r,h)
section
variable {cf:CallF}{m:Nat}
theorem pF {aS:FuncId→cd}(ha:aS 69=Cu)(La:TB cf m)(s0:ByteArray)(h:AHeap)(L:Mem)  (o:Has h (L)){out:Bool}(H:eh.f m s0=some out) :
  ∃r h',aZ Tryd.prog aS cf m 69 [.str s0] h=some (r,h')∧fA h' r (.bool out):=by
 refine aj (fn:=Tryd.f69) ha Tryd.func69 (by kernel_rfl) (by kernel_rfl) ?_
 refine aD (Q:=fun s=>eh.fin L out s) (fun _ _ h=>h) ?_
 have H:_=some out:=H
 unfold eh.f at H
 show de _ cf Cu m _ ⟨[.str s0,.any],[],h⟩ _
 refine q1 <| qq ?_
 rcases dF H with⟨c0,H⟩| ⟨c0,H⟩
 ·obtain rfl:=oi H
  exact qr [.b 2 c0] <| qt <| ⟨.inl rfl,ca (.bool true) h (b8 (ak))⟩
 ·rcases dF H with⟨c1,H⟩| ⟨c1,H⟩
  ·obtain rfl:=oi H
   exact qr [.b 2 c0,.b 6 c1] <| qt <| ⟨.inl rfl,ca (.bool true) h (b8 (ak))⟩
  ·obtain⟨x0,e0,H⟩:=aJ H
   rcases dF H with⟨c2,H⟩| ⟨c2,H⟩
   ·obtain⟨v0,e1,H⟩:=aJ H
    rcases dF H with⟨c3,H⟩| ⟨c3,H⟩
    ·obtain⟨v1,e2,H⟩:=aJ H
     obtain rfl:=oi H
     exact qr [.b 2 c0,.b 6 c1,.a 8 (La _ _ e0 h _ (gf (ab (bJ) (ax)))),.b 9 c2,.v 11 (mi (k:=.i64) U9 e1),.b 14 c3,.v 16 (mi (k:=.i64) U9 e2)] <| qt <| ⟨.inl rfl,ca (.bool (decide (v1≤(122:Int)))) h (b8 (ak))⟩
    ·obtain rfl:=oi H
     exact qr [.b 2 c0,.b 6 c1,.a 8 (La _ _ e0 h _ (gf (ab (bJ) (ax)))),.b 9 c2,.v 11 (mi (k:=.i64) U9 e1),.b 14 c3] <| qt <| ⟨.inl rfl,ca (.bool false) h (b8 (ak))⟩
   ·obtain rfl:=oi H
    exact qr [.b 2 c0,.b 6 c1,.a 8 (La _ _ e0 h _ (gf (ab (bJ) (ax)))),.b 9 c2] <| qt <| ⟨.inl rfl,ca (.bool false) h (b8 (ak))⟩
end
end Go.Proofs.YtmekcfdllhphlaaDoor
namespace Go.Proofs.YtmekcfdllhphlaaDoor
open Go Go.R
open Go.IntKind (i64 u64 u8 u32)
def zp:cd:=gh [0,1,2,4,5,7,8,24,45,61,87,109,114,131] [2] [16377,16345,16281,16375,16217,16375,16089,16375,15833,16375,15353,14329,16375,16361,12265,16361,8169,16375,16375,16375] [] []
def bY.l0 (m:Nat)(n0:ae)(az:Int):Nat→Int→Option (Sum Bool (Int))
 | 0,_=>none
 | k+1,i0=>if (decide (i0<(n0.args.length:Int)))=true then ((ix n0.args i0).bind fun v0=>if (decide (v0<(0:Int)))=true then (some (.inl false)) else ((ix n0.args i0).bind fun v1=>if (decide (v1≥az))=true then (some (.inl false)) else (bY.l0 m n0 az k (i64.wrap (i0+(1:Int)))))) else (some (.inr i0))
def bY.f (m:Nat)(n0:ae)(az:Int):Option (Bool):=if (n0.kind==(0:Int))=true then (if (decide (n0.int≥(0:Int)))=true then (if (n0.label.data.toList==(Xk #[]).data.toList)=true then (some ((n0.args.length:Int)==(0:Int))) else (some false)) else (some false)) else (if (n0.kind==(1:Int))=true then (if (decide (n0.int≥(-1099511627776:Int)))=true then (if (decide (n0.int≤(1099511627776:Int)))=true then (if (n0.label.data.toList==(Xk #[]).data.toList)=true then (some ((n0.args.length:Int)==(0:Int))) else (some false)) else (some false)) else (some false)) else (if (n0.kind==(2:Int))=true then ((eh.f m n0.label).bind fun x0=>if x0=true then (if (n0.int==(0:Int))=true then (some ((n0.args.length:Int)==(0:Int))) else (some false)) else (some false)) else (if (n0.kind==(4:Int))=true then (if (n0.label.data.toList==(Xk #[112,114,111,99]).data.toList)=true then (if (decide (n0.int≥(0:Int)))=true then (some ((n0.args.length:Int)==(0:Int))) else (some false)) else (if (n0.label.data.toList==(Xk #[99,101,108,108]).data.toList)=true then (if (decide (n0.int≥(0:Int)))=true then (some ((n0.args.length:Int)==(0:Int))) else (some false)) else (if (n0.label.data.toList==(Xk #[112,111,114,116]).data.toList)=true then (if (decide (n0.int≥(0:Int)))=true then (some ((n0.args.length:Int)==(0:Int))) else (some false)) else (some false)))) else (if (n0.kind==(3:Int))=true then ((eh.f m n0.label).bind fun x1=>if (!x1)=true then (some false) else (if (!(n0.int==(0:Int)))=true then (some false) else (if (decide ((n0.args.length:Int)<(1:Int)))=true then (some false) else (if (decide ((n0.args.length:Int) > (8:Int)))=true then (some false) else ((bY.l0 m n0 az m (0:Int)).bind fun bo=>match bo with | .inl r0=>some r0 | .inr i1=>some true))))) else (some false)))))
def bY.fin (L:Mem)(r:Bool)(s:St):Prop:=∃av,aI Tryd.prog (s.open zp) Tryd.f48.results.toList=some av∧fA s.h av (.bool r)
def Q7 (cf:CallF)(m:Nat):Prop:=∀(n0:ae) (az:Int) (r:Bool),bY.f m n0 az=some r→∀h xs,eA eQ h xs [.agg [.int .i64 n0.kind,.int .i64 n0.int,.str n0.label,aa.fz n0.args],.int .i64 az]→cf 48 xs h=some (.bool r,h)
section
variable {cf:CallF}{m:Nat}
theorem bY.bG (L:Mem)(n0:ae)(az:Int)   : bI Tryd.prog cf zp m (sub [1,0,1,0,1,1,1,1,1,1,1,1,1,0,1,0,1,0,0] (codeOf Tryd.f48)) (fun k (σ:Int)=>bY.l0 m n0 az k σ) (fun σ s=>match σ with | i0=>∃h0,s=⟨.any :: .int .i64 az :: .lp 2 0 :: .any :: .int .i64 i0::Dn [],[some [.int .i64 n0.kind,.int .i64 n0.int,.str n0.label,aa.fz n0.args]],h0⟩∧Has h0 (L)) (fun out e s=>(e = .exit 1∧∃i0,.inr i0=out∧∃rB Dt y5 NP QS h0,s=⟨.any::rB::Dt :: .any::y5::Dm [NP,.any],[QS],h0⟩∧Has h0 (L))∨(e = .ret∧∃r,.inl r=out∧bY.fin L r s)):=by
 refine hX (fun _=>rfl) ?_
 rintro k i0 s out ⟨h0,rfl,o0⟩ H
 have H:bY.l0 m n0 az (k+1) i0=some out:=H
 refine qq <| qq <| q0 <| qc H (fun Vp H=>?_) (fun Vp H=>?_)
 ·refine qk <| qq <| qb 2 <| qq ?_
  obtain⟨v0,e2,H⟩:=aJ H
  rcases dF H with⟨Q8,H⟩| ⟨Q8,H⟩
  ·exact qr [.v 3 (bD (k:=.i64) (E:=aa) (l:=n0.args) dA e2),.v 4 (dd  (E:=aa) (l:=n0.args) h0 A3 e2 rfl),.b 6 Q8] <| vC <| qq <| q0 <| qt <| XZ (⟨rfl,_,oi H,ca (.bool false) h0 (b8 (ak))⟩)
  ·obtain⟨v1,e3,H⟩:=aJ H
   refine qr [.v 3 (bD (k:=.i64) (E:=aa) (l:=n0.args) dA e2),.v 4 (dd  (E:=aa) (l:=n0.args) h0 A3 e2 rfl),.b 6 Q8,.v 10 (bD (k:=.i64) (E:=aa) (l:=n0.args) dA e3),.v 11 (dd  (E:=aa) (l:=n0.args) h0 A3 e3 rfl)] <| qc H (fun Vq H=>?_) (fun Vq H=>?_)
   ·exact q1 <| qt <| XZ (⟨rfl,_,oi H,ca (.bool false) h0 (b8 (ak))⟩)
   ·exact qk <| q0 <| ⟨i64.wrap (i0+(1:Int)),⟨h0,by kernel_rfl,o0⟩,H⟩
 ·exact qx 1 <| Yf (⟨rfl,i0,oi H,.int .i64 az,.lp 2 0,.int .i64 i0,.bool (decide (i0<(n0.args.length:Int))),some [.int .i64 n0.kind,.int .i64 n0.int,.str n0.label,aa.fz n0.args],h0,by kernel_rfl,o0⟩)
theorem qI {aS:FuncId→cd}(ha:aS 48=zp)(Bg:TC cf m)(n0:ae)(az:Int)(h:AHeap)(L:Mem)  (o:Has h (L)){out:Bool}(H:bY.f m n0 az=some out) :
  ∃r h',aZ Tryd.prog aS cf m 48 [.agg [.int .i64 n0.kind,.int .i64 n0.int,.str n0.label,aa.fz n0.args],.int .i64 az] h=some (r,h')∧fA h' r (.bool out):=by
 refine aj (fn:=Tryd.f48) ha Tryd.func48 (by kernel_rfl) (by kernel_rfl) ?_
 refine aD (Q:=fun s=>bY.fin L out s) (fun _ _ h=>h) ?_
 have H:_=some out:=H
 unfold bY.f at H
 show de _ cf zp m _ ⟨.agg [.int .i64 n0.kind,.int .i64 n0.int,.str n0.label,aa.fz n0.args] :: .int .i64 az::mX [],[none],h⟩ _
 refine q1 <| qq <| qq <| q0 <| qb 0 <| qq <| q0 <| qc H (fun c0 H=>?_) (fun c0 H=>?_)
 ·refine qq ?_
  rcases dF H with⟨c1,H⟩| ⟨c1,H⟩
  ·rcases dF H with⟨c2,H⟩| ⟨c2,H⟩
   ·obtain rfl:=oi H
    exact qr [.b 3 c1,.b 8 c2] <| qt <| ⟨.inl rfl,ca (.bool ((n0.args.length:Int)==(0:Int))) h (b8 (ak))⟩
   ·obtain rfl:=oi H
    exact qr [.b 3 c1,.b 8 c2] <| qt <| ⟨.inl rfl,ca (.bool false) h (b8 (ak))⟩
  ·obtain rfl:=oi H
   exact qr [.b 3 c1] <| qt <| ⟨.inl rfl,ca (.bool false) h (b8 (ak))⟩
 ·refine q1 <| qc H (fun c3 H=>?_) (fun c3 H=>?_)
  ·refine qq ?_
   rcases dF H with⟨c4,H⟩| ⟨c4,H⟩
   ·rcases dF H with⟨c5,H⟩| ⟨c5,H⟩
    ·rcases dF H with⟨c6,H⟩| ⟨c6,H⟩
     ·obtain rfl:=oi H
      exact qr [.b 3 c4,.b 8 c5,.b 13 c6] <| qt <| ⟨.inl rfl,ca (.bool ((n0.args.length:Int)==(0:Int))) h (b8 (ak))⟩
     ·obtain rfl:=oi H
      exact qr [.b 3 c4,.b 8 c5,.b 13 c6] <| qt <| ⟨.inl rfl,ca (.bool false) h (b8 (ak))⟩
    ·obtain rfl:=oi H
     exact qr [.b 3 c4,.b 8 c5] <| qt <| ⟨.inl rfl,ca (.bool false) h (b8 (ak))⟩
   ·obtain rfl:=oi H
    exact qr [.b 3 c4] <| qt <| ⟨.inl rfl,ca (.bool false) h (b8 (ak))⟩
  ·refine q1 <| qc H (fun c7 H=>?_) (fun c7 H=>?_)
   ·refine qq ?_
    obtain⟨x0,e0,H⟩:=aJ H
    rcases dF H with⟨c8,H⟩| ⟨c8,H⟩
    ·rcases dF H with⟨c9,H⟩| ⟨c9,H⟩
     ·obtain rfl:=oi H
      exact qr [.a 2 (Bg _ _ e0 h _ (gf (ab (bJ) (ax)))),.b 3 c8,.b 8 c9] <| qt <| ⟨.inl rfl,ca (.bool ((n0.args.length:Int)==(0:Int))) h (b8 (ak))⟩
     ·obtain rfl:=oi H
      exact qr [.a 2 (Bg _ _ e0 h _ (gf (ab (bJ) (ax)))),.b 3 c8,.b 8 c9] <| qt <| ⟨.inl rfl,ca (.bool false) h (b8 (ak))⟩
    ·obtain rfl:=oi H
     exact qr [.a 2 (Bg _ _ e0 h _ (gf (ab (bJ) (ax)))),.b 3 c8] <| qt <| ⟨.inl rfl,ca (.bool false) h (b8 (ak))⟩
   ·refine q1 <| qc H (fun w6 H=>?_) (fun w6 H=>?_)
    ·refine qq ?_
     rcases dF H with⟨pd,H⟩| ⟨pd,H⟩
     ·rcases dF H with⟨rE,H⟩| ⟨rE,H⟩
      ·obtain rfl:=oi H
       exact qr [.b 3 pd,.b 18 rE] <| qt <| ⟨.inl rfl,ca (.bool ((n0.args.length:Int)==(0:Int))) h (b8 (ak))⟩
      ·obtain rfl:=oi H
       exact qr [.b 3 pd,.b 18 rE] <| qt <| ⟨.inl rfl,ca (.bool false) h (b8 (ak))⟩
     ·rcases dF H with⟨tD,H⟩| ⟨tD,H⟩
      ·rcases dF H with⟨rF,H⟩| ⟨rF,H⟩
       ·obtain rfl:=oi H
        exact qr [.b 3 pd,.b 8 tD,.b 18 rF] <| qt <| ⟨.inl rfl,ca (.bool ((n0.args.length:Int)==(0:Int))) h (b8 (ak))⟩
       ·obtain rfl:=oi H
        exact qr [.b 3 pd,.b 8 tD,.b 18 rF] <| qt <| ⟨.inl rfl,ca (.bool false) h (b8 (ak))⟩
      ·rcases dF H with⟨BX,H⟩| ⟨BX,H⟩
       ·rcases dF H with⟨D3,H⟩| ⟨D3,H⟩
        ·obtain rfl:=oi H
         exact qr [.b 3 pd,.b 8 tD,.b 13 BX,.b 18 D3] <| qt <| ⟨.inl rfl,ca (.bool ((n0.args.length:Int)==(0:Int))) h (b8 (ak))⟩
        ·obtain rfl:=oi H
         exact qr [.b 3 pd,.b 8 tD,.b 13 BX,.b 18 D3] <| qt <| ⟨.inl rfl,ca (.bool false) h (b8 (ak))⟩
       ·obtain rfl:=oi H
        exact qr [.b 3 pd,.b 8 tD,.b 13 BX] <| qt <| ⟨.inl rfl,ca (.bool false) h (b8 (ak))⟩
    ·refine q1 <| qc H (fun Dv H=>?_) (fun Dv H=>?_)
     ·refine qq <| qq ?_
      obtain⟨x1,e1,H⟩:=aJ H
      rcases dF H with⟨Kv,H⟩| ⟨Kv,H⟩
      ·obtain rfl:=oi H
       exact qr [.a 2 (Bg _ _ e1 h _ (gf (ab (bJ) (ax)))),.b 4 Kv] <| vC <| qq <| q0 <| qt <| ⟨.inl rfl,ca (.bool false) h (b8 (ak))⟩
      ·rcases dF H with⟨Jl,H⟩| ⟨Jl,H⟩
       ·obtain rfl:=oi H
        exact qr [.a 2 (Bg _ _ e1 h _ (gf (ab (bJ) (ax)))),.b 4 Kv,.b 9 Jl] <| vC <| qq <| q0 <| qt <| ⟨.inl rfl,ca (.bool false) h (b8 (ak))⟩
       ·rcases dF H with⟨Q9,H⟩| ⟨Q9,H⟩
        ·obtain rfl:=oi H
         exact qr [.a 2 (Bg _ _ e1 h _ (gf (ab (bJ) (ax)))),.b 4 Kv,.b 9 Jl,.b 15 Q9] <| vC <| qq <| q0 <| qt <| ⟨.inl rfl,ca (.bool false) h (b8 (ak))⟩
        ·refine qr [.a 2 (Bg _ _ e1 h _ (gf (ab (bJ) (ax)))),.b 4 Kv,.b 9 Jl,.b 15 Q9] <| qc H (fun Vr H=>?_) (fun Vr H=>?_)
         ·obtain rfl:=oi H
          exact q1 <| qt <| ⟨.inl rfl,ca (.bool false) h (b8 (ak))⟩
         ·refine qk <| qq <| qq <| q0 <| qb 1 ?_
          obtain⟨bo,e4,H⟩:=aJ H
          refine ql (bY.bG L n0 az   (0:Int) _ _ ⟨h,by kernel_rfl,o⟩ e4) ?_
          rintro e s (⟨rfl,i1,rfl,g0,g1,g2,g3,g4,h1,rfl,o1⟩| ⟨rfl,r0,rfl,mw⟩)
          ·try dsimp only at H
           obtain rfl:=oi H
           exact q1 <| qt <| ⟨.inl rfl,ca (.bool true) h1 (b8 (ak))⟩
          ·try dsimp only at H
           obtain rfl:=oi H
           exact⟨.inl rfl,mw⟩
     ·obtain rfl:=oi H
      exact qk <| qq <| q0 <| qt <| ⟨.inl rfl,ca (.bool false) h (b8 (ak))⟩
end
end Go.Proofs.YtmekcfdllhphlaaDoor
namespace Go.Proofs.YtmekcfdllhphlaaDoor
open Go Go.R
open Go.IntKind (i64 u64 u8 u32)
def zq:cd:=gh [0,1,2,3,26,31,43] [1] [125,109,123,117,85,117,53,123,123] [] []
def bZ.l0 (m:Nat)(t0:au):Nat→Int→Option (Sum Bool (Int))
 | 0,_=>none
 | k+1,i0=>if (decide (i0<(t0.nodes.length:Int)))=true then ((ix t0.nodes i0).bind fun v0=>(bY.f m v0 (t0.nodes.length:Int)).bind fun x0=>if (!x0)=true then (some (.inl false)) else (bZ.l0 m t0 k (i64.wrap (i0+(1:Int))))) else (some (.inr i0))
def bZ.f (m:Nat)(t0:au):Option (Bool):=if (decide ((t0.nodes.length:Int)<(1:Int)))=true then (some false) else (if (decide ((t0.nodes.length:Int) > (8000:Int)))=true then (some false) else (if (decide (t0.root<(0:Int)))=true then (some false) else (if (decide (t0.root≥(t0.nodes.length:Int)))=true then (some false) else ((bZ.l0 m t0 m (0:Int)).bind fun bo=>match bo with | .inl r0=>some r0 | .inr i1=>some true))))
def bZ.fin (L:Mem)(r:Bool)(s:St):Prop:=∃av,aI Tryd.prog (s.open zq) Tryd.f25.results.toList=some av∧fA s.h av (.bool r)
def TD (cf:CallF)(m:Nat):Prop:=∀(t0:au) (r:Bool),bZ.f m t0=some r→∀h xs,eA eQ h xs [.agg [af.fz t0.nodes,.int .i64 t0.root]]→cf 25 xs h=some (.bool r,h)
section
variable {cf:CallF}{m:Nat}
theorem bZ.bG (L:Mem)(t0:au)  (Lb:Q7 cf m):bI Tryd.prog cf zq m (sub [1,1,0,1,0,0] (codeOf Tryd.f25)) (fun k (σ:Int)=>bZ.l0 m t0 k σ) (fun σ s=>match σ with | i0=>∃h0,s=⟨.any :: .lp 1 0 :: .any :: .int .i64 i0::kz [],[some [af.fz t0.nodes,.int .i64 t0.root]],h0⟩∧Has h0 (L)) (fun out e s=>(e = .exit 0∧∃i0,.inr i0=out∧∃rB uP Kt Vt h0,s=⟨[.any,rB,.any,uP,.any,Kt,.any],[Vt],h0⟩∧Has h0 (L))∨(e = .ret∧∃r,.inl r=out∧bZ.fin L r s)):=by
 refine hX (fun _=>rfl) ?_
 rintro k i0 s out ⟨h0,rfl,o0⟩ H
 have H:bZ.l0 m t0 (k+1) i0=some out:=H
 refine qq <| qq <| q0 <| qc H (fun c7 H=>?_) (fun c7 H=>?_)
 ·refine qk <| qq <| qb 1 <| qq ?_
  obtain⟨v0,e0,H⟩:=aJ H
  obtain⟨x0,e1,H⟩:=aJ H
  refine qr [.v 3 (bD (k:=.i64) (E:=af) (l:=t0.nodes) lG e0),.v 4 (dE  (E:=af) (l:=t0.nodes) h0 sf sh e0),.a 8 (Lb _ _ _ e1 h0 _ (gf (ab (cg (ab (aH) (ab (aH) (ab (bJ) (ab (b4 (E:=aa)) (ax)))))) (ab (aH) (ax)))))] <| qc H (fun c8 H=>?_) (fun c8 H=>?_)
  ·exact q1 <| qt <| XZ (⟨rfl,_,oi H,ca (.bool false) h0 (b8 (ak))⟩)
  ·exact qk <| q0 <| ⟨i64.wrap (i0+(1:Int)),⟨h0,by kernel_rfl,o0⟩,H⟩
 ·exact qx 0 <| Yf (⟨rfl,i0,oi H,.lp 1 0,.int .i64 i0,.bool (decide (i0<(t0.nodes.length:Int))),some [af.fz t0.nodes,.int .i64 t0.root],h0,by kernel_rfl,o0⟩)
theorem qJ {aS:FuncId→cd}(ha:aS 25=zq)(Lb:Q7 cf m)(t0:au)(h:AHeap)(L:Mem)  (o:Has h (L)){out:Bool}(H:bZ.f m t0=some out) :
  ∃r h',aZ Tryd.prog aS cf m 25 [.agg [af.fz t0.nodes,.int .i64 t0.root]] h=some (r,h')∧fA h' r (.bool out):=by
 refine aj (fn:=Tryd.f25) ha Tryd.func25 (by kernel_rfl) (by kernel_rfl) ?_
 refine aD (Q:=fun s=>bZ.fin L out s) (fun _ _ h=>h) ?_
 have H:_=some out:=H
 unfold bZ.f at H
 show de _ cf zq m _ ⟨.agg [af.fz t0.nodes,.int .i64 t0.root]::Hf [],[none],h⟩ _
 refine q1 <| qq <| qq ?_
 rcases dF H with⟨c0,H⟩| ⟨c0,H⟩
 ·obtain rfl:=oi H
  exact qr [.b 4 c0] <| vC <| qq <| q0 <| qt <| ⟨.inl rfl,ca (.bool false) h (b8 (ak))⟩
 ·rcases dF H with⟨c2,H⟩| ⟨c2,H⟩
  ·obtain rfl:=oi H
   exact qr [.b 4 c0,.b 10 c2] <| vC <| qq <| q0 <| qt <| ⟨.inl rfl,ca (.bool false) h (b8 (ak))⟩
  ·rcases dF H with⟨c4,H⟩| ⟨c4,H⟩
   ·obtain rfl:=oi H
    exact qr [.b 4 c0,.b 10 c2,.b 15 c4] <| vC <| qq <| q0 <| qt <| ⟨.inl rfl,ca (.bool false) h (b8 (ak))⟩
   ·refine qr [.b 4 c0,.b 10 c2,.b 15 c4] <| qc H (fun c6 H=>?_) (fun c6 H=>?_)
    ·obtain rfl:=oi H
     exact q1 <| qt <| ⟨.inl rfl,ca (.bool false) h (b8 (ak))⟩
    ·refine qk <| qq <| qq <| q0 <| qb 0 ?_
     obtain⟨bo,e2,H⟩:=aJ H
     refine ql (bZ.bG L t0  Lb (0:Int) _ _ ⟨h,by kernel_rfl,o⟩ e2) ?_
     rintro e s (⟨rfl,i1,rfl,g0,g1,g2,g3,h1,rfl,o1⟩| ⟨rfl,r0,rfl,mw⟩)
     ·try dsimp only at H
      obtain rfl:=oi H
      exact q1 <| qt <| ⟨.inl rfl,ca (.bool true) h1 (b8 (ak))⟩
     ·try dsimp only at H
      obtain rfl:=oi H
      exact⟨.inl rfl,mw⟩
end
end Go.Proofs.YtmekcfdllhphlaaDoor
