/- Part of the proof: Q123, Q122, PS1, Q118, Q106, Q77, Q107, Q78, Q79, Q80, Q62, Q52, Q34, Q51, Q32, PT6, Q119, PS2. -/
import Derived.Test.YtmekcfdllhphlaaDoorK5
set_option linter.unusedVariables false
set_option linter.unusedSimpArgs false
set_option maxRecDepth 100000
open Bool renaming and_eq_true → V8, or_eq_true → WT, true_and → Xl
open ByteArray renaming mk → Wu
open Int renaming toNat_natCast → V9
open List renaming getElem?_eq_some_iff → Wb, append_assoc → Wg, getElem?_eq_getElem → Wh, drop_eq_getElem_cons → Wi, getElem?_eq_none → Wl, getD_eq_getElem?_getD → Wm, length_cons → Wp, cons_append → Wt, nil_append → Wz, getElem?_cons_zero → WJ, drop_zero → WK, drop_eq_nil_of_le → WO, ext_getElem? → WV, length_nil → WY, all_cons → W2, mem_of_getElem? → W8, getElem_mem → Xa, getElem?_set → Xs
open Nat renaming le_refl → V7
open Option renaming bind_some → V3
open Option.some renaming injEq → V6, inj → Wy
open Or renaming inr → WZ, inl → Xt
namespace Go.Proofs.YtmekcfdllhphlaaDoor
open Go Go.R
open Go.IntKind (i64 u64 u8 u32)
def s9:cb:=gJ [0,1,2,3,10,13] [] [32,0,32,32] [] []
def bR.l0 (m:Nat)(a0:Int)(b0:Int)(n0:Int):Nat→(List Int)→Int→Option ((List Int) × Int)
 | 0,_,_=>none
 | k+1,bk,i0=>if (decide (i0<n0))=true then ((ix bk (i64.wrap (b0+i0))).bind fun v0=>(ix bk (i64.wrap (a0+i0))).bind fun v1=>(ix bk (i64.wrap (a0+i0))).bind fun v2=>(ix (bk.set (i64.wrap (a0+i0)).toNat v0) (i64.wrap (b0+i0))).bind fun v3=>bR.l0 m a0 b0 n0 k ((bk.set (i64.wrap (a0+i0)).toNat v0).set (i64.wrap (b0+i0)).toNat v1) (i64.wrap (i0+(1:Int)))) else (some ((bk,i0)))
def bR.f (m:Nat)(ao:List Int)(a0:Int)(b0:Int)(n0:Int)(aO:Int→Int→Option (Int)):Option ((List Int)):=(bR.l0 m a0 b0 n0 m ao (0:Int)).bind fun bq=>match bq with | (cU,i1)=>some cU
def bR.fin (L:Mem)(aA:Nat)(ao:List Int)(a0:Int)(b0:Int)(n0:Int)(aO:Int→Int→Option (Int))(r:(List Int))(s:St):Prop:=aI Tryd.prog (s.open s9) Tryd.f123.results.toList=some (.tup [])∧Has s.h ((aA,.sl ao.length 1 (aa.l r))::L)
def J1 (cf:CallF)(m:Nat):Prop:=∀(ao:List Int) (a0:Int) (b0:Int) (n0:Int) (aO:Int→Int→Option (Int)) (r:(List Int)),bR.f m ao a0 b0 n0 aO=some r→∀h L (cm:Nat) (aA:Nat),Has h ((aA,.sl cm 1 (aa.l ao))::L)→∀(dX:FuncId) (aW:List AV),ay (.fn dX aW) = .fn dX aW→(∀h K,Has h (K++L)→∀(a0:Int) (a1:Int) r,aO a0 a1=some r→cf dX ([.int .i64 a0,.int .i64 a1]++aW) h=some (.int .i64 r,h))→∀xs,xs.map ay=[.rs aA 0 cm 1,.int .i64 a0,.int .i64 b0,.int .i64 n0,.fn dX aW]→∃h',cf 123 xs h=some (.tup [],h')∧Has h' ((aA,.sl cm 1 (aa.l r))::L)
section
variable {cf:CallF}{m:Nat}
theorem bR.bI (L:Mem)(aA:Nat)(dX:FuncId)(aW:List AV)(ao:List Int)(a0:Int)(b0:Int)(n0:Int)(aO:Int→Int→Option (Int))  (gk:ay (.fn dX aW) = .fn dX aW)(gU:∀h K,Has h (K++L)→∀(a0:Int) (a1:Int) r,aO a0 a1=some r→cf dX ([.int .i64 a0,.int .i64 a1]++aW) h=some (.int .i64 r,h))  : bE Tryd.prog cf s9 m (sub [1,0,0] (codeOf Tryd.f123)) (fun k (σ:(List Int) × Int)=>bR.l0 m a0 b0 n0 k σ.1 σ.2) (fun σ s=>match σ with | (bk,i0)=>∃h0,s=⟨[.rs aA 0 ao.length 1,.int .i64 a0,.int .i64 b0,.int .i64 n0,.int .i64 i0,.any],[],h0⟩∧Has h0 ((aA,.sl ao.length 1 (aa.l bk))::L)) (fun out e s=>(e = .exit 0∧∃bk i0,(bk,i0)=out∧∃kC uy C8 ta tc nE h0,s=⟨[kC,uy,C8,ta,tc,nE],[],h0⟩∧Has h0 ((aA,.sl ao.length 1 (aa.l bk))::L))):=by
 refine gP (fun _=>rfl) ?_
 rintro k ⟨bk,i0⟩ s out ⟨h0,rfl,o0⟩ H
 have H:bR.l0 m a0 b0 n0 (k+1) bk i0=some out:=H
 refine qq <| qq <| q0 <| qc H (fun c0 H=>?_) (fun c0 H=>?_)
 ·refine qk <| qq <| qb 1 ?_
  obtain⟨v0,e0,H⟩:=aH H
  obtain⟨v1,e1,H⟩:=aH H
  obtain⟨v2,e2,H⟩:=aH H
  obtain⟨h1,e3,o1⟩:=dF (P:=Tryd.prog) (tf:=3) (E:=aa) (l:=bk) (q:=0) (v:=v0) (x:=.int .i64 v0) o0 rfl Z3 e2 rfl rfl
  obtain⟨v3,e4,H⟩:=aH H
  obtain⟨h2,e5,o2⟩:=dF (P:=Tryd.prog) (tf:=3) (E:=aa) (l:=(bk.set (i64.wrap (a0+i0)).toNat v0)) (q:=0) (v:=v1) (x:=.int .i64 v1) o1 rfl Z3 e4 rfl rfl
  exact qr [.v 12 (aE (k:=.i64) (E:=aa) (l:=bk) (q:=0) dz o0 rfl e0),.v 13 (bf  (E:=aa) (l:=bk) (q:=0) o0 rfl A3 e0 rfl),.v 18 (aE (k:=.i64) (E:=aa) (l:=bk) (q:=0) dz o0 rfl e1),.v 19 (bf  (E:=aa) (l:=bk) (q:=0) o0 rfl A3 e1 rfl),.v 20 (aE (k:=.i64) (E:=aa) (l:=bk) (q:=0) dz o0 rfl e2),.w 21 e3,.v 22 (aE (k:=.i64) (E:=aa) (l:=(bk.set (i64.wrap (a0+i0)).toNat v0)) (q:=0) dz o1 rfl e4),.w 23 e5] <| q0 <| ⟨((bk.set (i64.wrap (a0+i0)).toNat v0).set (i64.wrap (b0+i0)).toNat v1,i64.wrap (i0+(1:Int))),⟨h2,by kernel_rfl,o2⟩,H⟩
 ·exact qx 0 <| ⟨rfl,bk,i0,oi H,.rs aA 0 ao.length 1,.int .i64 a0,.int .i64 b0,.int .i64 n0,.int .i64 i0,.bool (decide (i0<n0)),h0,by kernel_rfl,o0⟩
theorem rj {aV:FuncId→cb}(ha:aV 123=s9)  (ao:List Int)(a0:Int)(b0:Int)(n0:Int)(aO:Int→Int→Option (Int))(h:AHeap)(L:Mem)(aA:Nat)(dX:FuncId)(aW:List AV)  (gk:ay (.fn dX aW) = .fn dX aW)(gU:∀h K,Has h (K++L)→∀(a0:Int) (a1:Int) r,aO a0 a1=some r→cf dX ([.int .i64 a0,.int .i64 a1]++aW) h=some (.int .i64 r,h))(o:Has h ((aA,.sl ao.length 1 (aa.l ao))::L)){out:(List Int)}(H:bR.f m ao a0 b0 n0 aO=some out) :
  ∃r h',be Tryd.prog aV cf m 123 [.rs aA 0 ao.length 1,.int .i64 a0,.int .i64 b0,.int .i64 n0,.fn dX aW] h=some (r,h')∧r = .tup []∧Has h' ((aA,.sl ao.length 1 (aa.l out))::L):=by
 refine aq (fn:=Tryd.f123) ha Tryd.func123 (by kernel_rfl) (by kernel_rfl) ?_
 refine aG (Q:=fun s=>bR.fin L aA ao a0 b0 n0 aO out s) (fun _ _ ⟨h1,h2,h3⟩=>⟨h1,_,h2,rfl,h3⟩) ?_
 have H:_=some out:=H
 unfold bR.f at H
 show de _ cf s9 m _ ⟨[.rs aA 0 ao.length 1,.int .i64 a0,.int .i64 b0,.int .i64 n0,.any,.any],[],h⟩ _
 refine q1 <| qb 0 ?_
 obtain⟨bq,e6,H⟩:=aH H
 refine ql (bR.bI L aA dX aW ao a0 b0 n0 aO  gk gU  (ao,(0:Int)) _ _ ⟨h,by kernel_rfl,o⟩ e6) ?_
 rintro e s ⟨rfl,cU,i1,rfl,g0,g1,g2,g3,g4,g5,h3,rfl,o3⟩
 try dsimp only at H
 obtain rfl:=oi H
 exact⟨.inr rfl,⟨by kernel_rfl,he o3⟩⟩
end
end Go.Proofs.YtmekcfdllhphlaaDoor
namespace Go.Proofs.YtmekcfdllhphlaaDoor
open Go Go.R
open Go.IntKind (i64 u64 u8 u32)
def te:cb:=gJ [0,1,2,3,4,10,11,20,23] [] [450,394,266,138,394,394,394,394,511] [] []
def eu.l0 (m:Nat)(m0:Int)(aO:Int→Int→Option (Int)):Nat→(List Int)→Int→Int→Option ((List Int) × Int × Int)
 | 0,_,_,_=>none
 | k+1,bk,i0,j0=>if (!(i0==j0))=true then (if (decide (i0 > j0))=true then ((bR.f m bk (i64.wrap (m0 - i0)) m0 j0 aO).bind fun x0=>eu.l0 m m0 aO k x0 (i64.wrap (i0 - j0)) j0) else ((bR.f m bk (i64.wrap (m0 - i0)) (i64.wrap (i64.wrap (m0+j0) - i0)) i0 aO).bind fun x1=>eu.l0 m m0 aO k x1 i0 (i64.wrap (j0 - i0)))) else (some ((bk,i0,j0)))
def eu.f (m:Nat)(ao:List Int)(a0:Int)(m0:Int)(b0:Int)(aO:Int→Int→Option (Int)):Option ((List Int)):=(eu.l0 m m0 aO m ao (i64.wrap (m0 - a0)) (i64.wrap (b0 - m0))).bind fun bq=>match bq with | (cU,i1,j1)=>(bR.f m cU (i64.wrap (m0 - i1)) m0 i1 aO).bind fun x2=>some x2
def eu.fin (L:Mem)(aA:Nat)(ao:List Int)(a0:Int)(m0:Int)(b0:Int)(aO:Int→Int→Option (Int))(r:(List Int))(s:St):Prop:=aI Tryd.prog (s.open te) Tryd.f122.results.toList=some (.tup [])∧Has s.h ((aA,.sl ao.length 1 (aa.l r))::L)
def Mq (cf:CallF)(m:Nat):Prop:=∀(ao:List Int) (a0:Int) (m0:Int) (b0:Int) (aO:Int→Int→Option (Int)) (r:(List Int)),eu.f m ao a0 m0 b0 aO=some r→∀h L (cm:Nat) (aA:Nat),Has h ((aA,.sl cm 1 (aa.l ao))::L)→∀(dX:FuncId) (aW:List AV),ay (.fn dX aW) = .fn dX aW→(∀h K,Has h (K++L)→∀(a0:Int) (a1:Int) r,aO a0 a1=some r→cf dX ([.int .i64 a0,.int .i64 a1]++aW) h=some (.int .i64 r,h))→∀xs,xs.map ay=[.rs aA 0 cm 1,.int .i64 a0,.int .i64 m0,.int .i64 b0,.fn dX aW]→∃h',cf 122 xs h=some (.tup [],h')∧Has h' ((aA,.sl cm 1 (aa.l r))::L)
section
variable {cf:CallF}{m:Nat}
theorem eu.bI (L:Mem)(aA:Nat)(dX:FuncId)(aW:List AV)(ao:List Int)(a0:Int)(m0:Int)(b0:Int)(aO:Int→Int→Option (Int))  (gk:ay (.fn dX aW) = .fn dX aW)(gU:∀h K,Has h (K++L)→∀(a0:Int) (a1:Int) r,aO a0 a1=some r→cf dX ([.int .i64 a0,.int .i64 a1]++aW) h=some (.int .i64 r,h))(yt:J1 cf m):bE Tryd.prog cf te m (sub [1,1,0,0,0] (codeOf Tryd.f122)) (fun k (σ:(List Int) × Int × Int)=>eu.l0 m m0 aO k σ.1 σ.2.1 σ.2.2) (fun σ s=>match σ with | (bk,i0,j0)=>∃h0,s=⟨[.rs aA 0 ao.length 1,.any,.int .i64 m0,.any,.fn dX aW,.int .i64 i0,.int .i64 j0,.any,.any],[],h0⟩∧Has h0 ((aA,.sl ao.length 1 (aa.l bk))::L)) (fun out e s=>(e = .exit 0∧∃bk i0 j0,(bk,i0,j0)=out∧∃Af Pj h0,s=⟨[.rs aA 0 ao.length 1,.any,.int .i64 m0,.any,.fn dX aW,.int .i64 i0,Af,Pj,.any],[],h0⟩∧Has h0 ((aA,.sl ao.length 1 (aa.l bk))::L))):=by
 refine gP (fun _=>rfl) ?_
 rintro k ⟨bk,i0,j0⟩ s out ⟨h0,rfl,o0⟩ H
 have H:eu.l0 m m0 aO (k+1) bk i0 j0=some out:=H
 refine qq <| qq <| q0 <| qc H (fun c0 H=>?_) (fun c0 H=>?_)
 ·refine qk <| qb 1 <| qq <| q0 <| qc H (fun c1 H=>?_) (fun c1 H=>?_)
  ·refine qq ?_
   obtain⟨x0,e0,H⟩:=aH H
   obtain⟨h1,e1,o1⟩:=yt _ _ _ _ _ _ e0 h0 _ _ _ (o0) dX aW gk (fun h' K' o'=>gU h' (K'++[]) (by simpa only [Wg,Wt,Wz] using o')) [.rs aA 0 ao.length 1,.int .i64 (i64.wrap (m0 - i0)),.int .i64 m0,.int .i64 j0,.fn dX aW] (an (rfl) (an (aQ (bD)) (an (aQ (bD)) (an (aQ (bD)) (an (gk) (bm))))))
   exact qr [.a 7 e1] <| q0 <| ⟨(x0,i64.wrap (i0 - j0),j0),⟨h1,by kernel_rfl,o1⟩,H⟩
  ·refine qq ?_
   obtain⟨x1,e2,H⟩:=aH H
   obtain⟨h2,e3,o2⟩:=yt _ _ _ _ _ _ e2 h0 _ _ _ (o0) dX aW gk (fun h' K' o'=>gU h' (K'++[]) (by simpa only [Wg,Wt,Wz] using o')) [.rs aA 0 ao.length 1,.int .i64 (i64.wrap (m0 - i0)),.int .i64 (i64.wrap (i64.wrap (m0+j0) - i0)),.int .i64 i0,.fn dX aW] (an (rfl) (an (aQ (bD)) (an (aQ (bD)) (an (aQ (bD)) (an (gk) (bm))))))
   exact qr [.a 11 e3] <| q0 <| ⟨(x1,i0,i64.wrap (j0 - i0)),⟨h2,by kernel_rfl,o2⟩,H⟩
 ·exact qx 0 <| ⟨rfl,bk,i0,j0,oi H,.int .i64 j0,.bool (!(i0==j0)),h0,by kernel_rfl,o0⟩
theorem wN {aV:FuncId→cb}(ha:aV 122=te)(yt:J1 cf m)(ao:List Int)(a0:Int)(m0:Int)(b0:Int)(aO:Int→Int→Option (Int))(h:AHeap)(L:Mem)(aA:Nat)(dX:FuncId)(aW:List AV)  (gk:ay (.fn dX aW) = .fn dX aW)(gU:∀h K,Has h (K++L)→∀(a0:Int) (a1:Int) r,aO a0 a1=some r→cf dX ([.int .i64 a0,.int .i64 a1]++aW) h=some (.int .i64 r,h))(o:Has h ((aA,.sl ao.length 1 (aa.l ao))::L)){out:(List Int)}(H:eu.f m ao a0 m0 b0 aO=some out) :
  ∃r h',be Tryd.prog aV cf m 122 [.rs aA 0 ao.length 1,.int .i64 a0,.int .i64 m0,.int .i64 b0,.fn dX aW] h=some (r,h')∧r = .tup []∧Has h' ((aA,.sl ao.length 1 (aa.l out))::L):=by
 refine aq (fn:=Tryd.f122) ha Tryd.func122 (by kernel_rfl) (by kernel_rfl) ?_
 refine aG (Q:=fun s=>eu.fin L aA ao a0 m0 b0 aO out s) (fun _ _ ⟨h1,h2,h3⟩=>⟨h1,_,h2,rfl,h3⟩) ?_
 have H:_=some out:=H
 unfold eu.f at H
 show de _ cf te m _ ⟨.rs aA 0 ao.length 1 :: .int .i64 a0 :: .int .i64 m0 :: .int .i64 b0 :: .fn dX aW::qQ [],[],h⟩ _
 refine q1 <| qq <| q0 <| qq <| qb 0 ?_
 obtain⟨bq,e4,H⟩:=aH H
 refine ql (eu.bI L aA dX aW ao a0 m0 b0 aO  gk gU yt (ao,i64.wrap (m0 - a0),i64.wrap (b0 - m0)) _ _ ⟨h,by kernel_rfl,o⟩ e4) ?_
 rintro e s ⟨rfl,cU,i1,j1,rfl,g0,g1,h3,rfl,o3⟩
 try dsimp only at H
 obtain⟨x2,e5,H⟩:=aH H
 obtain⟨h4,e6,o4⟩:=yt _ _ _ _ _ _ e5 h3 _ _ _ (o3) dX aW gk (fun h' K' o'=>gU h' (K'++[]) (by simpa only [Wg,Wt,Wz] using o')) [.rs aA 0 ao.length 1,.int .i64 (i64.wrap (m0 - i1)),.int .i64 m0,.int .i64 i1,.fn dX aW] (an (rfl) (an (aQ (bD)) (an (aQ (bD)) (an (aQ (bD)) (an (gk) (bm))))))
 obtain rfl:=oi H
 exact qr [.a 7 e6] <| ⟨.inr rfl,⟨by kernel_rfl,he o4⟩⟩
end
end Go.Proofs.YtmekcfdllhphlaaDoor
namespace Go.Proofs.YtmekcfdllhphlaaDoor
open Go Go.R
open Go.IntKind (i64 u64 u8 u32)
def gt (l:List Int)(k:Nat):Int:=l.getD k 0
theorem bp {l:List Int}{k:Nat}(h:k<l.length):l[k]? = some (gt l k):=by
 unfold gt; rw [Wm,Wh h]; rfl
theorem aN {l:List Int}{k:Nat}(h:k<l.length):gt l k∈l:=W8 (bp h)
theorem cn {l:List Int}{k:Nat}(h:k<l.length):ix l (k:Int)=some (gt l k):=by
 unfold ix; rw [if_pos (by omega),V9,bp h]
theorem fQ {l:List Int}{i:Int}{k:Nat}(hi:i=(k:Int))(h:k<l.length):ix l i=some (gt l k):=by rw [hi,cn h]
theorem ef {l:List Int}{i k:Nat}{x:Int}(hi:i<l.length):gt (l.set i x) k=if k=i then x else gt l k:=by
 unfold gt
 simp only [Wm,Xs]
 by_cases h:i=k
 ·subst h; simp [hi]
 ·rw [if_neg h,if_neg (by omega)]
theorem E2 {l r:List Int}(hl:l.length=r.length)(h:∀k,k<l.length→gt l k=gt r k):l=r:=by
 apply WV fun k=>?_
 by_cases hk:k<l.length
 ·rw [bp hk,bp (hl ▸ hk),h k hk]
 ·rw [Wl (by omega),Wl (by omega)]
def E3 (l:List Int)(i j:Nat):List Int:=(l.set i (gt l j)).set j (gt l i)
theorem oO {l:List Int}{i j:Nat}(hi:i<l.length)(hj:j<l.length):(E3 l i j).Perm l:=by
 have h1:gt l j=l[j]:=by have:=bp hj; rw [Wh hj] at this; exact (Wy this).symm
 have h2:gt l i=l[i]:=by have:=bp hi; rw [Wh hi] at this; exact (Wy this).symm
 unfold E3; rw [h1,h2]; exact List.set_set_perm hi hj
theorem kW {l:List Int}{i j k:Nat}(hi:i<l.length)(hj:j<l.length):gt (E3 l i j) k=if k=j then gt l i else if k=i then gt l j else gt l k:=by
 unfold E3
 rw [ef (by simpa using hj),ef hi]
theorem tg {l:List Int}{i j:Nat}:(E3 l i j).length=l.length:=by simp [E3]
theorem yu {a b:Nat}(h:a+b<9223372036854775808):i64.wrap (fX .u64 (u64.wrap (i64.wrap ((a:Int)+(b:Int)))) 1)=(((a+b) / 2:Nat):Int):=by
 rw [aC (x:=(a:Int)+b) (by omega) (by omega),hU (by omega) (by omega)]
 have:fX .u64 ((a:Int)+(b:Int)) 1=(((a+b) / 2:Nat):Int):=by
  unfold fX
  rw [Int.fdiv_eq_ediv_of_nonneg _ (by decide)]
  show ((a:Int)+(b:Int)) / 2=_
  omega
 rw [this,aC (by omega) (by omega)]
theorem E4 {m:Nat}{l:List Int}{a b n:Nat}(h1:a+n≤b)(h2:b+n≤l.length)(hl:l.length<2 ^ 40):∀(f i:Nat) (d:List Int),n - i<f→i≤n→d.Perm l→
  (∀k,gt d k=if a≤k∧k<a+i then gt l (k - a+b) else if b≤k∧k<b+i then gt l (k - b+a) else gt l k)→
  ∃d' x,bR.l0 m (a:Int) (b:Int) (n:Int) f d (i:Int)=some (d',x)∧d'.Perm l∧(∀k,gt d' k=if a≤k∧k<a+n then gt l (k - a+b) else if b≤k∧k<b+n then gt l (k - b+a) else gt l k)
 | 0,i,d,hf,_,_,_=>absurd hf (by omega)
 | f+1,i,d,hf,hi,hp,hg=>by
  have nF:(2:Nat) ^ 40=1099511627776:=by decide
  have Pl:=hp.length_eq
  unfold bR.l0
  by_cases h:i<n
  ·have e1:i64.wrap ((b:Int)+(i:Int))=((b+i:Nat):Int):=by rw [aC (by omega) (by omega)]; omega
   have e2:i64.wrap ((a:Int)+(i:Int))=((a+i:Nat):Int):=by rw [aC (by omega) (by omega)]; omega
   have e3:i64.wrap ((i:Int)+1)=((i+1:Nat):Int):=by rw [aC (by omega) (by omega)]; omega
   rw [if_pos (by simp; omega),e1,e2,e3,cn (by omega),cn (by omega),V9,V9,V3,V3,V3,cn (by simp; omega),V3]
   show ∃d' x,bR.l0 m (a:Int) (b:Int) (n:Int) f (E3 d (a+i) (b+i)) ((i+1:Nat):Int)=some (d',x)∧_
   refine E4 h1 h2 hl f (i+1) _ (by omega) (by omega) ((oO (by omega) (by omega)).trans hp) fun k=>?_
   rw [kW (by omega) (by omega),hg,hg,hg]
   by_cases k1:k=b+i
   ·subst k1
    rw [if_pos rfl,if_neg (by omega),if_neg (by omega),if_neg (by omega),if_pos (by omega)]
    congr 1; omega
   ·rw [if_neg k1]
    by_cases k2:k=a+i
    ·subst k2
     rw [if_pos rfl,if_neg (by omega),if_neg (by omega),if_pos (by omega)]
     congr 1; omega
    ·rw [if_neg k2]
     by_cases k3:a≤k∧k<a+i
     ·rw [if_pos k3,if_pos (by omega)]
     ·rw [if_neg k3,if_neg (show ¬(a≤k∧k<a+(i+1)) by omega)]
      by_cases k4:b≤k∧k<b+i
      ·rw [if_pos k4,if_pos (by omega)]
      ·rw [if_neg k4,if_neg (by omega)]
  ·have:i=n:=by omega
   subst this
   exact⟨d,i,by rw [if_neg (by simp)],hp,hg⟩
theorem th {m:Nat}{l:List Int}{a b n:Nat}{cmp:Int→Int→Option Int}(h1:a+n≤b)(h2:b+n≤l.length)(hl:l.length<2 ^ 40)(hm:n<m) :
  ∃d',bR.f m l (a:Int) (b:Int) (n:Int) cmp=some d'∧d'.Perm l∧(∀k,gt d' k=if a≤k∧k<a+n then gt l (k - a+b) else if b≤k∧k<b+n then gt l (k - b+a) else gt l k):=by
 obtain⟨d',x,e,hp,hg⟩:=E4 (m:=m) h1 h2 hl m 0 l (by omega) (by omega) (List.Perm.refl _) (fun k=>by rw [if_neg (by omega),if_neg (by omega)])
 have e:bR.l0 m (a:Int) (b:Int) (n:Int) m l 0=_:=e
 exact⟨d',by unfold bR.f; rw [e]; rfl,hp,hg⟩
def La (l d:List Int)(p i j:Nat):Prop:=d.Perm l∧(∀k,k<j→gt d (p+k)=gt l (p+i+k))∧(∀k,k<i→gt d (p+j+k)=gt l (p+k))∧∀k,k<p∨p+i+j≤k→gt d k=gt l k
theorem Ag {m:Nat}{q:Nat}{cmp:Int→Int→Option Int}(hm:2 ^ 41≤m):∀(f i j:Nat) (l:List Int),i+j<f→0<i→0<j→i≤q→q+j≤l.length→l.length<2 ^ 40→
  ∃(d':List Int) (x:Nat) (d:List Int),eu.l0 m (q:Int) cmp f l (i:Int) (j:Int)=some (d',(x:Int),(x:Int))∧bR.f m d' (i64.wrap ((q:Int) - (x:Int))) (q:Int) (x:Int) cmp=some d∧La l d (q - i) i j
 | 0,i,j,l,hf,_,_,_,_,_=>absurd hf (by omega)
 | f+1,i,j,l,hf,hi,hj,hq,hl,hs=>by
  have nF:(2:Nat) ^ 40=1099511627776:=by decide
  have rl:(2:Nat) ^ 41=2199023255552:=by decide
  unfold eu.l0
  have e1:i64.wrap ((q:Int) - (i:Int))=((q - i:Nat):Int):=by rw [aC (by omega) (by omega)]; omega
  by_cases h:i=j
  ·subst h
   rw [if_neg (by simp)]
   obtain⟨d,e,hp,hg⟩:=th (m:=m) (l:=l) (a:=q - i) (b:=q) (n:=i) (cmp:=cmp) (by omega) (by omega) hs (by omega)
   refine⟨l,i,d,rfl,by rw [e1,e],hp,fun k hk=>?_,fun k hk=>?_,fun k hk=>?_⟩
   ·rw [hg,if_pos (by omega)]; congr 1; omega
   ·rw [hg,if_neg (by omega),if_pos (by omega)]; congr 1; omega
   ·rw [hg,if_neg (by omega),if_neg (by omega)]
  ·rw [if_pos (by simp; omega)]
   by_cases h2:j<i
   ·obtain⟨d1,e,hp,hg⟩:=th (m:=m) (l:=l) (a:=q - i) (b:=q) (n:=j) (cmp:=cmp) (by omega) (by omega) hs (by omega)
    have hd:=hp.length_eq
    have e2:i64.wrap ((i:Int) - (j:Int))=((i - j:Nat):Int):=by rw [aC (by omega) (by omega)]; omega
    rw [if_pos (by simp; omega),e1,e,V3,e2]
    obtain⟨d',x,d,k1,k2,k3,k4,k5,k6⟩:=Ag (q:=q) (cmp:=cmp) hm f (i - j) j d1 (by omega) (by omega) hj (by omega) (by omega) (by omega)
    refine⟨d',x,d,k1,k2,k3.trans hp,fun k hk=>?_,fun k hk=>?_,fun k hk=>?_⟩
    ·rw [k6 _ (by omega),hg,if_pos (by omega)]; congr 1; omega
    ·by_cases Lb:k<j
     ·have:=k4 k Lb
      rw [show q - (i - j)+k=q - i+j+k by omega,hg,if_neg (by omega),if_pos (by omega)] at this
      rw [this]; congr 1; omega
     ·have:=k5 (k - j) (by omega)
      rw [show q - (i - j)+j+(k - j)=q - i+j+k by omega,hg,if_neg (by omega),if_neg (by omega)] at this
      rw [this]; congr 1; omega
    ·rw [k6 _ (by omega),hg,if_neg (by omega),if_neg (by omega)]
   ·have e2:i64.wrap (i64.wrap ((q:Int)+(j:Int)) - (i:Int))=((q+j - i:Nat):Int):=by rw [aC (x:=(q:Int)+j) (by omega) (by omega),aC (by omega) (by omega)]; omega
    have e3:i64.wrap ((j:Int) - (i:Int))=((j - i:Nat):Int):=by rw [aC (by omega) (by omega)]; omega
    obtain⟨d1,e,hp,hg⟩:=th (m:=m) (l:=l) (a:=q - i) (b:=q+j - i) (n:=i) (cmp:=cmp) (by omega) (by omega) hs (by omega)
    have hd:=hp.length_eq
    rw [if_neg (by simp; omega),e1,e2,e,V3,e3]
    obtain⟨d',x,d,k1,k2,k3,k4,k5,k6⟩:=Ag (q:=q) (cmp:=cmp) hm f i (j - i) d1 (by omega) hi (by omega) hq (by omega) (by omega)
    refine⟨d',x,d,k1,k2,k3.trans hp,fun k hk=>?_,fun k hk=>?_,fun k hk=>?_⟩
    ·by_cases Lb:k<j - i
     ·rw [k4 k Lb,hg,if_neg (by omega),if_neg (by omega)]
     ·have:=k5 (k - (j - i)) (by omega)
      rw [show q - i+(j - i)+(k - (j - i))=q - i+k by omega,hg,if_pos (by omega)] at this
      rw [this]; congr 1; omega
    ·rw [k6 _ (by omega),hg,if_neg (by omega),if_pos (by omega)]; congr 1; omega
    ·rw [k6 _ (by omega),hg,if_neg (by omega),if_neg (by omega)]
theorem E5 {m:Nat}{a q b:Nat}{cmp:Int→Int→Option Int}{l:List Int}(hm:2 ^ 41≤m)(h1:a<q)(h2:q<b)(h3:b≤l.length)(hs:l.length<2 ^ 40) :
  ∃d,eu.f m l (a:Int) (q:Int) (b:Int) cmp=some d∧La l d a (q - a) (b - q):=by
 have nF:(2:Nat) ^ 40=1099511627776:=by decide
 have rl:(2:Nat) ^ 41=2199023255552:=by decide
 obtain⟨d',x,d,k1,k2,k3⟩:=Ag (q:=q) (cmp:=cmp) hm m (q - a) (b - q) l (by omega) (by omega) (by omega) (by omega) (by omega) hs
 rw [show q - (q - a)=a by omega] at k3
 refine⟨d,?_,k3⟩
 unfold eu.f
 rw [show i64.wrap ((q:Int) - (a:Int))=((q - a:Nat):Int) by rw [aC (by omega) (by omega)]; omega,show i64.wrap ((b:Int) - (q:Int))=((b - q:Nat):Int) by rw [aC (by omega) (by omega)]; omega,k1,V3]
 dsimp only
 rw [k2]; rfl
end Go.Proofs.YtmekcfdllhphlaaDoor
namespace Go.Proofs.YtmekcfdllhphlaaDoor
open Go Go.R
open Go.IntKind (i64 u64 u8 u32)
def wO:cb:=gJ [0,2] [] [2,1] [] []
def fu.f (m:Nat)(c0:Int):Option (Bool):=if (decide (c0≥(97:Int)))=true then (if (decide (c0≤(122:Int)))=true then (some true) else (if (decide (c0≥(65:Int)))=true then (if (decide (c0≤(90:Int)))=true then (some true) else (if (decide (c0≥(48:Int)))=true then (if (decide (c0≤(57:Int)))=true then (some true) else (some (c0==(95:Int)))) else (some (c0==(95:Int))))) else (if (decide (c0≥(48:Int)))=true then (if (decide (c0≤(57:Int)))=true then (some true) else (some (c0==(95:Int)))) else (some (c0==(95:Int)))))) else (if (decide (c0≥(65:Int)))=true then (if (decide (c0≤(90:Int)))=true then (some true) else (if (decide (c0≥(48:Int)))=true then (if (decide (c0≤(57:Int)))=true then (some true) else (some (c0==(95:Int)))) else (some (c0==(95:Int))))) else (if (decide (c0≥(48:Int)))=true then (if (decide (c0≤(57:Int)))=true then (some true) else (some (c0==(95:Int)))) else (some (c0==(95:Int)))))
def fu.fin (L:Mem)(r:Bool)(s:St):Prop:=∃av,aI Tryd.prog (s.open wO) Tryd.f118.results.toList=some av∧fT s.h av (.bool r)
def J2 (cf:CallF)(m:Nat):Prop:=∀(c0:Int) (r:Bool),fu.f m c0=some r→∀h xs,eN fc h xs [.int .u8 c0]→cf 118 xs h=some (.bool r,h)
section
variable {cf:CallF}{m:Nat}
theorem pU {aV:FuncId→cb}(ha:aV 118=wO)  (c0:Int)(h:AHeap)(L:Mem)  (o:Has h (L)){out:Bool}(H:fu.f m c0=some out) :
  ∃r h',be Tryd.prog aV cf m 118 [.int .u8 c0] h=some (r,h')∧fT h' r (.bool out):=by
 refine aq (fn:=Tryd.f118) ha Tryd.func118 (by kernel_rfl) (by kernel_rfl) ?_
 refine aG (Q:=fun s=>fu.fin L out s) (fun _ _ h=>h) ?_
 have H:_=some out:=H
 unfold fu.f at H
 show de _ cf wO m _ ⟨[.int .u8 c0,.any],[],h⟩ _
 refine q1 <| qq ?_
 rcases dt H with⟨c1,H⟩| ⟨c1,H⟩
 ·rcases dt H with⟨c2,H⟩| ⟨c2,H⟩
  ·obtain rfl:=oi H
   exact qr [.b 2 c1,.b 6 c2] <| qt <| ⟨.inl rfl,bZ (.bool true) h (bX (ak))⟩
  ·rcases dt H with⟨c3,H⟩| ⟨c3,H⟩
   ·rcases dt H with⟨c4,H⟩| ⟨c4,H⟩
    ·obtain rfl:=oi H
     exact qr [.b 2 c1,.b 6 c2,.b 9 c3,.b 14 c4] <| qt <| ⟨.inl rfl,bZ (.bool true) h (bX (ak))⟩
    ·rcases dt H with⟨c5,H⟩| ⟨c5,H⟩
     ·rcases dt H with⟨c6,H⟩| ⟨c6,H⟩
      ·obtain rfl:=oi H
       exact qr [.b 2 c1,.b 6 c2,.b 9 c3,.b 14 c4,.b 17 c5,.b 22 c6] <| qt <| ⟨.inl rfl,bZ (.bool true) h (bX (ak))⟩
      ·obtain rfl:=oi H
       exact qr [.b 2 c1,.b 6 c2,.b 9 c3,.b 14 c4,.b 17 c5,.b 22 c6] <| qt <| ⟨.inl rfl,bZ (.bool (c0==(95:Int))) h (bX (ak))⟩
     ·obtain rfl:=oi H
      exact qr [.b 2 c1,.b 6 c2,.b 9 c3,.b 14 c4,.b 17 c5] <| qt <| ⟨.inl rfl,bZ (.bool (c0==(95:Int))) h (bX (ak))⟩
   ·rcases dt H with⟨c7,H⟩| ⟨c7,H⟩
    ·rcases dt H with⟨c8,H⟩| ⟨c8,H⟩
     ·obtain rfl:=oi H
      exact qr [.b 2 c1,.b 6 c2,.b 9 c3,.b 17 c7,.b 22 c8] <| qt <| ⟨.inl rfl,bZ (.bool true) h (bX (ak))⟩
     ·obtain rfl:=oi H
      exact qr [.b 2 c1,.b 6 c2,.b 9 c3,.b 17 c7,.b 22 c8] <| qt <| ⟨.inl rfl,bZ (.bool (c0==(95:Int))) h (bX (ak))⟩
    ·obtain rfl:=oi H
     exact qr [.b 2 c1,.b 6 c2,.b 9 c3,.b 17 c7] <| qt <| ⟨.inl rfl,bZ (.bool (c0==(95:Int))) h (bX (ak))⟩
 ·rcases dt H with⟨c9,H⟩| ⟨c9,H⟩
  ·rcases dt H with⟨rm,H⟩| ⟨rm,H⟩
   ·obtain rfl:=oi H
    exact qr [.b 2 c1,.b 9 c9,.b 14 rm] <| qt <| ⟨.inl rfl,bZ (.bool true) h (bX (ak))⟩
   ·rcases dt H with⟨nG,H⟩| ⟨nG,H⟩
    ·rcases dt H with⟨oQ,H⟩| ⟨oQ,H⟩
     ·obtain rfl:=oi H
      exact qr [.b 2 c1,.b 9 c9,.b 14 rm,.b 17 nG,.b 22 oQ] <| qt <| ⟨.inl rfl,bZ (.bool true) h (bX (ak))⟩
     ·obtain rfl:=oi H
      exact qr [.b 2 c1,.b 9 c9,.b 14 rm,.b 17 nG,.b 22 oQ] <| qt <| ⟨.inl rfl,bZ (.bool (c0==(95:Int))) h (bX (ak))⟩
    ·obtain rfl:=oi H
     exact qr [.b 2 c1,.b 9 c9,.b 14 rm,.b 17 nG] <| qt <| ⟨.inl rfl,bZ (.bool (c0==(95:Int))) h (bX (ak))⟩
  ·rcases dt H with⟨rn,H⟩| ⟨rn,H⟩
   ·rcases dt H with⟨mY,H⟩| ⟨mY,H⟩
    ·obtain rfl:=oi H
     exact qr [.b 2 c1,.b 9 c9,.b 17 rn,.b 22 mY] <| qt <| ⟨.inl rfl,bZ (.bool true) h (bX (ak))⟩
    ·obtain rfl:=oi H
     exact qr [.b 2 c1,.b 9 c9,.b 17 rn,.b 22 mY] <| qt <| ⟨.inl rfl,bZ (.bool (c0==(95:Int))) h (bX (ak))⟩
   ·obtain rfl:=oi H
    exact qr [.b 2 c1,.b 9 c9,.b 17 rn] <| qt <| ⟨.inl rfl,bZ (.bool (c0==(95:Int))) h (bX (ak))⟩
end
end Go.Proofs.YtmekcfdllhphlaaDoor
namespace Go.Proofs.YtmekcfdllhphlaaDoor
open Go Go.R
open Go.IntKind (i64 u64 u8 u32)
def ti:cb:=gJ [0,1,2,6,7,27,29,30,31,37] [] [1016,990,1015,830,574,814,318,1015,830,1015] [] []
def cM.l0 (m:Nat)(s0:ByteArray):Nat→Int→Option (Sum Bool (Int))
 | 0,_=>none
 | k+1,x0=>if (decide (x0<(s0.size:Int)))=true then ((bt s0 x0).bind fun v2=>(fu.f m v2).bind fun x1=>if (!x1)=true then (some (.inl false)) else (cM.l0 m s0 k (i64.wrap (x0+(1:Int))))) else (some (.inr x0))
def cM.f (m:Nat)(s0:ByteArray)(kg:Int)(mZ:Int):Option (Bool):=if (decide ((s0.size:Int)<(1:Int)))=true then (some false) else (if (decide ((s0.size:Int) > (16:Int)))=true then (some false) else ((bt s0 (0:Int)).bind fun v0=>if (decide (v0<kg))=true then (some false) else ((bt s0 (0:Int)).bind fun v1=>if (decide (v1 > mZ))=true then (some false) else ((cM.l0 m s0 m (0:Int)).bind fun bq=>match bq with | .inl r0=>some r0 | .inr x2=>some true))))
def cM.fin (L:Mem)(r:Bool)(s:St):Prop:=∃av,aI Tryd.prog (s.open ti) Tryd.f106.results.toList=some av∧fT s.h av (.bool r)
def Mr (cf:CallF)(m:Nat):Prop:=∀(s0:ByteArray) (kg:Int) (mZ:Int) (r:Bool),cM.f m s0 kg mZ=some r→∀h xs,eN fc h xs [.str s0,.int .u8 kg,.int .u8 mZ]→cf 106 xs h=some (.bool r,h)
section
variable {cf:CallF}{m:Nat}
theorem cM.bI (L:Mem)(s0:ByteArray)  (E6:J2 cf m):bE Tryd.prog cf ti m (sub [1,1,0,1,0,0] (codeOf Tryd.f106)) (fun k (σ:Int)=>cM.l0 m s0 k σ) (fun σ s=>match σ with | x0=>∃h0,s=⟨.str s0::sY [.int .i64 (s0.size:Int),.int .i64 x0,.any,.any],[],h0⟩∧Has h0 (L)) (fun out e s=>(e = .exit 0∧∃x0,.inr x0=out∧∃kC Pm J3 J4 h0,s=⟨kC::sY [Pm,J3,J4,.any],[],h0⟩∧Has h0 (L))∨(e = .ret∧∃r,.inl r=out∧cM.fin L r s)):=by
 refine gP (fun _=>rfl) ?_
 rintro k x0 s out ⟨h0,rfl,o0⟩ H
 have H:cM.l0 m s0 (k+1) x0=some out:=H
 refine q1 <| qq <| qc H (fun c7 H=>?_) (fun c7 H=>?_)
 ·refine qk <| qq <| qb 1 <| qq <| q0 <| qq ?_
  obtain⟨v2,e2,H⟩:=aH H
  obtain⟨x1,e3,H⟩:=aH H
  refine qr [.v 2 (lT (k:=.i64) U9 e2),.a 3 (E6 _ _ e3 h0 _ (gO (ae (aM) (az))))] <| qc H (fun c8 H=>?_) (fun c8 H=>?_)
  ·exact q1 <| qt <| WZ (⟨rfl,_,oi H,bZ (.bool false) h0 (bX (ak))⟩)
  ·exact qk <| q0 <| ⟨i64.wrap (x0+(1:Int)),⟨h0,by kernel_rfl,o0⟩,H⟩
 ·exact qx 0 <| Xt (⟨rfl,x0,oi H,.str s0,.int .i64 (s0.size:Int),.int .i64 x0,.bool (decide (x0<(s0.size:Int))),h0,by kernel_rfl,o0⟩)
theorem tj {aV:FuncId→cb}(ha:aV 106=ti)(E6:J2 cf m)(s0:ByteArray)(kg:Int)(mZ:Int)(h:AHeap)(L:Mem)  (o:Has h (L)){out:Bool}(H:cM.f m s0 kg mZ=some out) :
  ∃r h',be Tryd.prog aV cf m 106 [.str s0,.int .u8 kg,.int .u8 mZ] h=some (r,h')∧fT h' r (.bool out):=by
 refine aq (fn:=Tryd.f106) ha Tryd.func106 (by kernel_rfl) (by kernel_rfl) ?_
 refine aG (Q:=fun s=>cM.fin L out s) (fun _ _ h=>h) ?_
 have H:_=some out:=H
 unfold cM.f at H
 show de _ cf ti m _ ⟨.str s0 :: .int .u8 kg :: .int .u8 mZ::C2 [],[],h⟩ _
 refine q1 <| qq <| qq ?_
 rcases dt H with⟨c0,H⟩| ⟨c0,H⟩
 ·obtain rfl:=oi H
  exact qr [.b 3 c0] <| mX <| qq <| q0 <| qt <| ⟨.inl rfl,bZ (.bool false) h (bX (ak))⟩
 ·rcases dt H with⟨c2,H⟩| ⟨c2,H⟩
  ·obtain rfl:=oi H
   exact qr [.b 3 c0,.b 8 c2] <| mX <| qq <| q0 <| qt <| ⟨.inl rfl,bZ (.bool false) h (bX (ak))⟩
  ·obtain⟨v0,e0,H⟩:=aH H
   rcases dt H with⟨c4,H⟩| ⟨c4,H⟩
   ·obtain rfl:=oi H
    exact qr [.b 3 c0,.b 8 c2,.v 10 (lT (k:=.i64) U9 e0),.b 14 c4] <| mX <| qq <| q0 <| qt <| ⟨.inl rfl,bZ (.bool false) h (bX (ak))⟩
   ·obtain⟨v1,e1,H⟩:=aH H
    refine qr [.b 3 c0,.b 8 c2,.v 10 (lT (k:=.i64) U9 e0),.b 14 c4,.v 16 (lT (k:=.i64) U9 e1)] <| qc H (fun c6 H=>?_) (fun c6 H=>?_)
    ·obtain rfl:=oi H
     exact q1 <| qt <| ⟨.inl rfl,bZ (.bool false) h (bX (ak))⟩
    ·refine qk <| qq <| qq <| q0 <| qb 0 ?_
     obtain⟨bq,e4,H⟩:=aH H
     refine ql (cM.bI L s0  E6 (0:Int) _ _ ⟨h,by kernel_rfl,o⟩ e4) ?_
     rintro e s (⟨rfl,x2,rfl,g0,g1,g2,g3,h1,rfl,o1⟩| ⟨rfl,r0,rfl,mE⟩)
     ·try dsimp only at H
      obtain rfl:=oi H
      exact q1 <| qt <| ⟨.inl rfl,bZ (.bool true) h1 (bX (ak))⟩
     ·try dsimp only at H
      obtain rfl:=oi H
      exact⟨.inl rfl,mE⟩
end
end Go.Proofs.YtmekcfdllhphlaaDoor
namespace Go.Proofs.YtmekcfdllhphlaaDoor
open Go Go.R
open Go.IntKind (i64 u64 u8 u32)
def Bx:cb:=gJ [0,2] [] [2,1] [] []
def gE.f (m:Nat)(s0:ByteArray):Option (Bool):=if (s0.data.toList==(Wu #[124]).data.toList)=true then (some true) else (if (s0.data.toList==(Wu #[35]).data.toList)=true then (some true) else ((cM.f m s0 (97:Int) (122:Int)).bind fun x0=>some x0))
def gE.fin (L:Mem)(r:Bool)(s:St):Prop:=∃av,aI Tryd.prog (s.open Bx) Tryd.f77.results.toList=some av∧fT s.h av (.bool r)
def RJ (cf:CallF)(m:Nat):Prop:=∀(s0:ByteArray) (r:Bool),gE.f m s0=some r→∀h xs,eN fc h xs [.str s0]→cf 77 xs h=some (.bool r,h)
section
variable {cf:CallF}{m:Nat}
theorem tk {aV:FuncId→cb}(ha:aV 77=Bx)(Ms:Mr cf m)(s0:ByteArray)(h:AHeap)(L:Mem)  (o:Has h (L)){out:Bool}(H:gE.f m s0=some out) :
  ∃r h',be Tryd.prog aV cf m 77 [.str s0] h=some (r,h')∧fT h' r (.bool out):=by
 refine aq (fn:=Tryd.f77) ha Tryd.func77 (by kernel_rfl) (by kernel_rfl) ?_
 refine aG (Q:=fun s=>gE.fin L out s) (fun _ _ h=>h) ?_
 have H:_=some out:=H
 unfold gE.f at H
 show de _ cf Bx m _ ⟨[.str s0,.any],[],h⟩ _
 refine q1 <| qq ?_
 rcases dt H with⟨c0,H⟩| ⟨c0,H⟩
 ·obtain rfl:=oi H
  exact qr [.b 2 c0] <| qt <| ⟨.inl rfl,bZ (.bool true) h (bX (ak))⟩
 ·rcases dt H with⟨c1,H⟩| ⟨c1,H⟩
  ·obtain rfl:=oi H
   exact qr [.b 2 c0,.b 6 c1] <| qt <| ⟨.inl rfl,bZ (.bool true) h (bX (ak))⟩
  ·obtain⟨x0,e0,H⟩:=aH H
   obtain rfl:=oi H
   exact qr [.b 2 c0,.b 6 c1,.a 8 (Ms _ _ _ _ e0 h _ (gO (ae (bY) (ae (aM) (ae (aM) (az))))))] <| qt <| ⟨.inl rfl,bZ (.bool x0) h (bX (ak))⟩
end
end Go.Proofs.YtmekcfdllhphlaaDoor
namespace Go.Proofs.YtmekcfdllhphlaaDoor
open Go Go.R
open Go.IntKind (i64 u64 u8 u32)
def tl:cb:=gJ [0,1,4,5,7,8,9,16] [] [252,204,140,196,68,251,204,251] [] []
def ev.l0 (m:Nat)(s0:List Int)(f0:Int→Option (Bool)):Nat→Int→Option (Sum Int (Int))
 | 0,_=>none
 | k+1,x0=>if (decide (x0<(s0.length:Int)))=true then ((ix s0 x0).bind fun v0=>(f0 v0).bind fun r0=>if r0=true then (some (.inl x0)) else (ev.l0 m s0 f0 k (i64.wrap (x0+(1:Int))))) else (some (.inr x0))
def ev.f (m:Nat)(s0:List Int)(f0:Int→Option (Bool)):Option (Int):=(ev.l0 m s0 f0 m (0:Int)).bind fun bq=>match bq with | .inl r1=>some r1 | .inr x1=>some (-1:Int)
def ev.fin (h:AHeap)(r:Int)(s:St):Prop:=aI Tryd.prog (s.open tl) Tryd.f107.results.toList=some (.int .i64 r)∧s.h=h
def Mt (cf:CallF)(m:Nat):Prop:=∀(s0:List Int) (f0:Int→Option (Bool)) (r:Int),ev.f m s0 f0=some r→∀h,0<h.next→∀(du:FuncId) (aL:List AV),ay (.fn du aL) = .fn du aL→(∀(a0:Int) r,f0 a0=some r→cf du ([.int .i64 a0]++aL) h=some (.bool r,h))→∀xs,xs.map ay=[aa.fz s0,.fn du aL]→cf 107 xs h=some (.int .i64 r,h)
section
variable {cf:CallF}{m:Nat}
theorem ev.bI (h:AHeap)(L:Mem)(du:FuncId)(aL:List AV)(s0:List Int)(f0:Int→Option (Bool))  (gF:ay (.fn du aL) = .fn du aL)(gK:∀(a0:Int) r,f0 a0=some r→cf du ([.int .i64 a0]++aL) h=some (.bool r,h))  : bE Tryd.prog cf tl m (sub [1,0,1,0,0] (codeOf Tryd.f107)) (fun k (σ:Int)=>ev.l0 m s0 f0 k σ) (fun σ s=>match σ with | x0=>s=⟨[aa.fz s0,.fn du aL,.any,.any,.int .i64 (s0.length:Int),.int .i64 x0,.any,.any],[],h⟩∧Has h (L)) (fun out e s=>(e = .exit 0∧∃x0,.inr x0=out∧∃kC uy uz oR tm,s=⟨[kC,uy,.any,.any,uz,oR,tm,.any],[],h⟩∧Has h (L))∨(e = .ret∧∃r,.inl r=out∧ev.fin h r s)):=by
 refine gP (fun _=>rfl) ?_
 rintro k x0 s out ⟨rfl,o0⟩ H
 have H:ev.l0 m s0 f0 (k+1) x0=some out:=H
 refine q1 <| qq <| qc H (fun c0 H=>?_) (fun c0 H=>?_)
 ·refine qk <| qq <| qb 1 <| qq <| q0 <| qq ?_
  obtain⟨v0,e0,H⟩:=aH H
  obtain⟨r0,e1,H⟩:=aH H
  refine qr [.v 3 (bo (k:=.i64) (E:=aa) (l:=s0) dz e0),.v 4 (cZ  (E:=aa) (l:=s0) h A3 e0 rfl),.a 5 (gK _ _ e1)] <| qc H (fun c1 H=>?_) (fun c1 H=>?_)
  ·exact q1 <| qt <| WZ (⟨rfl,_,oi H,⟨by kernel_rfl,by kernel_rfl⟩⟩)
  ·exact qk <| q0 <| ⟨i64.wrap (x0+(1:Int)),⟨by kernel_rfl,o0⟩,H⟩
 ·exact qx 0 <| Xt (⟨rfl,x0,oi H,aa.fz s0,.fn du aL,.int .i64 (s0.length:Int),.int .i64 x0,.bool (decide (x0<(s0.length:Int))),by kernel_rfl,o0⟩)
theorem wP {aV:FuncId→cb}(ha:aV 107=tl)  (s0:List Int)(f0:Int→Option (Bool))(h:AHeap)(L:Mem)(du:FuncId)(aL:List AV)  (gF:ay (.fn du aL) = .fn du aL)(gK:∀(a0:Int) r,f0 a0=some r→cf du ([.int .i64 a0]++aL) h=some (.bool r,h))(o:Has h (L)){out:Int}(H:ev.f m s0 f0=some out) :
  ∃r h',be Tryd.prog aV cf m 107 [aa.fz s0,.fn du aL] h=some (r,h')∧r=(.int .i64 out)∧h'=h:=by
 refine aq (fn:=Tryd.f107) ha Tryd.func107 (by kernel_rfl) (by kernel_rfl) ?_
 refine aG (Q:=fun s=>ev.fin h out s) (fun _ _ ⟨h1,h2,h3⟩=>⟨h1,_,h2,rfl,h3⟩) ?_
 have H:_=some out:=H
 unfold ev.f at H
 show de _ cf tl m _ ⟨aa.fz s0 :: .fn du aL::GV [],[],h⟩ _
 refine q1 <| qq <| qq <| q0 <| qb 0 ?_
 obtain⟨bq,e2,H⟩:=aH H
 refine ql (ev.bI h L du aL s0 f0  gF gK  (0:Int) _ _ ⟨by kernel_rfl,o⟩ e2) ?_
 rintro e s (⟨rfl,x1,rfl,g0,g1,g2,g3,g4,rfl,o1⟩| ⟨rfl,r1,rfl,mE⟩)
 ·try dsimp only at H
  obtain rfl:=oi H
  exact q1 <| qt <| ⟨.inl rfl,⟨by kernel_rfl,by kernel_rfl⟩⟩
 ·try dsimp only at H
  obtain rfl:=oi H
  exact⟨.inl rfl,mE⟩
end
end Go.Proofs.YtmekcfdllhphlaaDoor
namespace Go.Proofs.YtmekcfdllhphlaaDoor
open Go Go.R
open Go.IntKind (i64 u64 u8 u32)
def By:cb:=gJ [0,1,4] [] [4,3] [] []
def gm.f (m:Nat)(s0:List Int)(f0:Int→Option (Bool)):Option (Bool):=(ev.f m s0 f0).bind fun x0=>some (decide (x0≥(0:Int)))
def gm.fin (h:AHeap)(r:Bool)(s:St):Prop:=aI Tryd.prog (s.open By) Tryd.f78.results.toList=some (.bool r)∧s.h=h
def RK (cf:CallF)(m:Nat):Prop:=∀(s0:List Int) (f0:Int→Option (Bool)) (r:Bool),gm.f m s0 f0=some r→∀h,0<h.next→∀(du:FuncId) (aL:List AV),ay (.fn du aL) = .fn du aL→(∀(a0:Int) r,f0 a0=some r→cf du ([.int .i64 a0]++aL) h=some (.bool r,h))→∀xs,xs.map ay=[aa.fz s0,.fn du aL]→cf 78 xs h=some (.bool r,h)
section
variable {cf:CallF}{m:Nat}
theorem rp {aV:FuncId→cb}(ha:aV 78=By)(Mu:Mt cf m)(s0:List Int)(f0:Int→Option (Bool))(h:AHeap)(L:Mem)(du:FuncId)(aL:List AV)  (gF:ay (.fn du aL) = .fn du aL)(gK:∀(a0:Int) r,f0 a0=some r→cf du ([.int .i64 a0]++aL) h=some (.bool r,h))(o:Has h (L)){out:Bool}(H:gm.f m s0 f0=some out) :
  ∃r h',be Tryd.prog aV cf m 78 [aa.fz s0,.fn du aL] h=some (r,h')∧r=(.bool out)∧h'=h:=by
 refine aq (fn:=Tryd.f78) ha Tryd.func78 (by kernel_rfl) (by kernel_rfl) ?_
 refine aG (Q:=fun s=>gm.fin h out s) (fun _ _ ⟨h1,h2,h3⟩=>⟨h1,_,h2,rfl,h3⟩) ?_
 have H:_=some out:=H
 unfold gm.f at H
 show de _ cf By m _ ⟨[aa.fz s0,.fn du aL,.any],[],h⟩ _
 refine q1 <| qq ?_
 obtain⟨x0,e0,H⟩:=aH H
 obtain rfl:=oi H
 exact qr [.a 2 (Mu _ _ _ e0 h (Has.pos o) du aL gF gK _ (an (aQ (ib (E:=aa))) (an (gF) (bm))))] <| qt <| ⟨.inl rfl,⟨by kernel_rfl,by kernel_rfl⟩⟩
end
end Go.Proofs.YtmekcfdllhphlaaDoor
namespace Go.Proofs.YtmekcfdllhphlaaDoor
open Go Go.R
open Go.IntKind (i64 u64 u8 u32)
def Bz:cb:=gJ [0,1,3] [] [4,3] [] []
def gn.f (m:Nat)(a0:Int)(x0:Int):Option (Bool):=if (decide (a0<(0:Int)))=true then (some true) else (some (decide (a0≥x0)))
def gn.fin (h:AHeap)(r:Bool)(s:St):Prop:=aI Tryd.prog (s.open Bz) Tryd.f79.results.toList=some (.bool r)∧s.h=h
def RL (cf:CallF)(m:Nat):Prop:=∀(a0:Int) (x0:Int) (r:Bool),gn.f m a0 x0=some r→∀h L (ez bO:Nat),Has h L→L[ez]? = some (bO,.ob [.int .i64 x0])→cf 79 [.int .i64 a0,.ptr bO 0] h=some (.bool r,h)
section
variable {cf:CallF}{m:Nat}
theorem pV {aV:FuncId→cb}(ha:aV 79=Bz)  (a0:Int)(x0:Int)(h:AHeap)(L:Mem)  {ez bO:Nat}(fO:L[ez]? = some (bO,.ob [.int .i64 x0]))(o:Has h (L)){out:Bool}(H:gn.f m a0 x0=some out) :
  ∃r h',be Tryd.prog aV cf m 79 [.int .i64 a0,.ptr bO 0] h=some (r,h')∧r=(.bool out)∧h'=h:=by
 refine aq (fn:=Tryd.f79) ha Tryd.func79 (by kernel_rfl) (by kernel_rfl) ?_
 refine aG (Q:=fun s=>gn.fin h out s) (fun _ _ ⟨h1,h2,h3⟩=>⟨h1,_,h2,rfl,h3⟩) ?_
 have H:_=some out:=H
 unfold gn.f at H
 show de _ cf Bz m _ ⟨[.int .i64 a0,.ptr bO 0,.any],[],h⟩ _
 refine q1 <| qq ?_
 rcases dt H with⟨c0,H⟩| ⟨c0,H⟩
 ·obtain rfl:=oi H
  exact qr [.b 2 c0] <| qt <| ⟨.inl rfl,⟨by kernel_rfl,by kernel_rfl⟩⟩
 ·obtain rfl:=oi H
  exact qr [.b 2 c0,.v 4 (show bj Tryd.prog h 3 (.ptr bO 0)=some (.int .i64 x0) from ca (q:=ez) (cs:=[.int .i64 x0]) o fO (by kernel_rfl))] <| qt <| ⟨.inl rfl,⟨by kernel_rfl,by kernel_rfl⟩⟩
end
end Go.Proofs.YtmekcfdllhphlaaDoor
namespace Go.Proofs.YtmekcfdllhphlaaDoor
open Go Go.R
open Go.IntKind (i64 u64 u8 u32)
def BA:cb:=gJ [0,2] [] [2,1] [] []
def gp.f (m:Nat)(s0:ByteArray):Option (Bool):=if (s0.data.toList==(Wu #[112,114,111,99]).data.toList)=true then (some true) else (if (s0.data.toList==(Wu #[99,101,108,108]).data.toList)=true then (some true) else (some (s0.data.toList==(Wu #[112,111,114,116]).data.toList)))
def gp.fin (L:Mem)(r:Bool)(s:St):Prop:=∃av,aI Tryd.prog (s.open BA) Tryd.f80.results.toList=some av∧fT s.h av (.bool r)
def RM (cf:CallF)(m:Nat):Prop:=∀(s0:ByteArray) (r:Bool),gp.f m s0=some r→∀h xs,eN fc h xs [.str s0]→cf 80 xs h=some (.bool r,h)
section
variable {cf:CallF}{m:Nat}
theorem rq {aV:FuncId→cb}(ha:aV 80=BA)  (s0:ByteArray)(h:AHeap)(L:Mem)  (o:Has h (L)){out:Bool}(H:gp.f m s0=some out) :
  ∃r h',be Tryd.prog aV cf m 80 [.str s0] h=some (r,h')∧fT h' r (.bool out):=by
 refine aq (fn:=Tryd.f80) ha Tryd.func80 (by kernel_rfl) (by kernel_rfl) ?_
 refine aG (Q:=fun s=>gp.fin L out s) (fun _ _ h=>h) ?_
 have H:_=some out:=H
 unfold gp.f at H
 show de _ cf BA m _ ⟨[.str s0,.any],[],h⟩ _
 refine q1 <| qq ?_
 rcases dt H with⟨c0,H⟩| ⟨c0,H⟩
 ·obtain rfl:=oi H
  exact qr [.b 2 c0] <| qt <| ⟨.inl rfl,bZ (.bool true) h (bX (ak))⟩
 ·rcases dt H with⟨c1,H⟩| ⟨c1,H⟩
  ·obtain rfl:=oi H
   exact qr [.b 2 c0,.b 6 c1] <| qt <| ⟨.inl rfl,bZ (.bool true) h (bX (ak))⟩
  ·obtain rfl:=oi H
   exact qr [.b 2 c0,.b 6 c1] <| qt <| ⟨.inl rfl,bZ (.bool (s0.data.toList==(Wu #[112,111,114,116]).data.toList)) h (bX (ak))⟩
end
end Go.Proofs.YtmekcfdllhphlaaDoor
namespace Go.Proofs.YtmekcfdllhphlaaDoor
open Go Go.R
open Go.IntKind (i64 u64 u8 u32)
def BB:cb:=gJ [0,1,2,3,4,6,7,23,44,60,89] [2] [2035,2003,1939,2031,1875,2031,1747,2031,1491,2031,1019,2031,2031] [] []
def ic.f (m:Nat)(n0:ab)(lX:Int):Option (Bool):=if (n0.kind==(0:Int))=true then (if (decide (n0.int≥(0:Int)))=true then (if (n0.label.data.toList==(Wu #[]).data.toList)=true then (some ((n0.args.length:Int)==(0:Int))) else (some false)) else (some false)) else (if (n0.kind==(1:Int))=true then (if (decide (n0.int≥(-1099511627776:Int)))=true then (if (decide (n0.int≤(1099511627776:Int)))=true then (if (n0.label.data.toList==(Wu #[]).data.toList)=true then (some ((n0.args.length:Int)==(0:Int))) else (some false)) else (some false)) else (some false)) else (if (n0.kind==(2:Int))=true then (if (n0.int==(0:Int))=true then ((gE.f m n0.label).bind fun x0=>if x0=true then (some ((n0.args.length:Int)==(0:Int))) else (some false)) else (some false)) else (if (n0.kind==(3:Int))=true then (if (n0.int==(0:Int))=true then ((gE.f m n0.label).bind fun x1=>if x1=true then (if (decide ((n0.args.length:Int)≥(1:Int)))=true then (if (decide ((n0.args.length:Int)≤(8:Int)))=true then ((gm.f m n0.args (fun y0=>gn.f m y0 lX)).bind fun x2=>some (!x2)) else (some false)) else (some false)) else (some false)) else (some false)) else (if (n0.kind==(4:Int))=true then (if (decide (n0.int≥(0:Int)))=true then ((gp.f m n0.label).bind fun x3=>if x3=true then (some ((n0.args.length:Int)==(0:Int))) else (some false)) else (some false)) else (some false)))))
def ic.fin (L:Mem)(r:Bool)(s:St):Prop:=∃av,aI Tryd.prog (s.open BB) Tryd.f62.results.toList=some av∧fT s.h av (.bool r)
def RN (cf:CallF)(m:Nat):Prop:=∀(n0:ab) (lX:Int) (r:Bool),ic.f m n0 lX=some r→∀h xs,eN fc h xs [.agg [.int .i64 n0.kind,.int .i64 n0.int,.str n0.label,aa.fz n0.args],.int .i64 lX]→cf 62 xs h=some (.bool r,h)
section
variable {cf:CallF}{m:Nat}
theorem tp {aV:FuncId→cb}(ha:aV 62=BB)(C9:RJ cf m)(Pn:RK cf m)(Po:RL cf m)(Mw:RM cf m)(n0:ab)(lX:Int)(h:AHeap)(L:Mem)  (o:Has h (L)){out:Bool}(H:ic.f m n0 lX=some out) :
  ∃r h',be Tryd.prog aV cf m 62 [.agg [.int .i64 n0.kind,.int .i64 n0.int,.str n0.label,aa.fz n0.args],.int .i64 lX] h=some (r,h')∧fT h' r (.bool out):=by
 refine aq (fn:=Tryd.f62) ha Tryd.func62 (by kernel_rfl) (by kernel_rfl) ?_
 refine aG (Q:=fun s=>ic.fin L out s) (fun _ _ h=>h) ?_
 have H:_=some out:=H
 unfold ic.f at H
 show de _ cf BB m _ ⟨.agg [.int .i64 n0.kind,.int .i64 n0.int,.str n0.label,aa.fz n0.args] :: .int .i64 lX::C3 [],[none],h⟩ _
 refine qq ?_
 obtain⟨aA,h0,e0,o0⟩:=kc (cs:=[.int .i64 lX]) o (by kernel_rfl)
 refine qr [.a 1 e0] <| qq <| qq <| q0 <| qb 0 <| qq <| q0 <| qc H (fun c0 H=>?_) (fun c0 H=>?_)
 ·refine qq ?_
  rcases dt H with⟨c1,H⟩| ⟨c1,H⟩
  ·rcases dt H with⟨c2,H⟩| ⟨c2,H⟩
   ·refine qr [.b 3 c1,.b 8 c2] ?_
    have o1:Has h0 (L):=Has.del o0 0
    obtain rfl:=oi H
    exact qt <| ⟨.inl rfl,bZ (.bool ((n0.args.length:Int)==(0:Int))) h0 (bX (ak))⟩
   ·refine qr [.b 3 c1,.b 8 c2] ?_
    have o2:Has h0 (L):=Has.del o0 0
    obtain rfl:=oi H
    exact qt <| ⟨.inl rfl,bZ (.bool false) h0 (bX (ak))⟩
  ·refine qr [.b 3 c1] ?_
   have o3:Has h0 (L):=Has.del o0 0
   obtain rfl:=oi H
   exact qt <| ⟨.inl rfl,bZ (.bool false) h0 (bX (ak))⟩
 ·refine q1 <| qc H (fun c3 H=>?_) (fun c3 H=>?_)
  ·refine qq ?_
   rcases dt H with⟨c4,H⟩| ⟨c4,H⟩
   ·rcases dt H with⟨c5,H⟩| ⟨c5,H⟩
    ·rcases dt H with⟨c6,H⟩| ⟨c6,H⟩
     ·refine qr [.b 3 c4,.b 8 c5,.b 13 c6] ?_
      have o4:Has h0 (L):=Has.del o0 0
      obtain rfl:=oi H
      exact qt <| ⟨.inl rfl,bZ (.bool ((n0.args.length:Int)==(0:Int))) h0 (bX (ak))⟩
     ·refine qr [.b 3 c4,.b 8 c5,.b 13 c6] ?_
      have o5:Has h0 (L):=Has.del o0 0
      obtain rfl:=oi H
      exact qt <| ⟨.inl rfl,bZ (.bool false) h0 (bX (ak))⟩
    ·refine qr [.b 3 c4,.b 8 c5] ?_
     have o6:Has h0 (L):=Has.del o0 0
     obtain rfl:=oi H
     exact qt <| ⟨.inl rfl,bZ (.bool false) h0 (bX (ak))⟩
   ·refine qr [.b 3 c4] ?_
    have o7:Has h0 (L):=Has.del o0 0
    obtain rfl:=oi H
    exact qt <| ⟨.inl rfl,bZ (.bool false) h0 (bX (ak))⟩
  ·refine q1 <| qc H (fun c7 H=>?_) (fun c7 H=>?_)
   ·refine qq ?_
    rcases dt H with⟨c8,H⟩| ⟨c8,H⟩
    ·obtain⟨x0,e1,H⟩:=aH H
     rcases dt H with⟨c9,H⟩| ⟨c9,H⟩
     ·refine qr [.b 3 c8,.a 6 (C9 _ _ e1 h0 _ (gO (ae (bY) (az)))),.b 8 c9] ?_
      have o8:Has h0 (L):=Has.del o0 0
      obtain rfl:=oi H
      exact qt <| ⟨.inl rfl,bZ (.bool ((n0.args.length:Int)==(0:Int))) h0 (bX (ak))⟩
     ·refine qr [.b 3 c8,.a 6 (C9 _ _ e1 h0 _ (gO (ae (bY) (az)))),.b 8 c9] ?_
      have o9:Has h0 (L):=Has.del o0 0
      obtain rfl:=oi H
      exact qt <| ⟨.inl rfl,bZ (.bool false) h0 (bX (ak))⟩
    ·refine qr [.b 3 c8] ?_
     have uA:Has h0 (L):=Has.del o0 0
     obtain rfl:=oi H
     exact qt <| ⟨.inl rfl,bZ (.bool false) h0 (bX (ak))⟩
   ·refine q1 <| qc H (fun rm H=>?_) (fun rm H=>?_)
    ·refine qq ?_
     rcases dt H with⟨nG,H⟩| ⟨nG,H⟩
     ·obtain⟨x1,e2,H⟩:=aH H
      rcases dt H with⟨oQ,H⟩| ⟨oQ,H⟩
      ·rcases dt H with⟨rn,H⟩| ⟨rn,H⟩
       ·rcases dt H with⟨mY,H⟩| ⟨mY,H⟩
        ·obtain⟨x2,e3,H⟩:=aH H
         refine qr [.b 3 nG,.a 6 (C9 _ _ e2 h0 _ (gO (ae (bY) (az)))),.b 8 oQ,.b 14 rn,.b 20 mY,.a 24 (Pn _ _ _ e3 h0 (Has.pos o0) 79 [.ptr aA 0] rfl (fun y0 r hr=>Po y0 _ r hr h0 _ 0 _ o0 rfl) _ (an (aQ (ib (E:=aa))) (an ((rfl:ay (.fn 79 [.ptr aA 0])=_)) (bm))))] ?_
         have vk:Has h0 (L):=Has.del o0 0
         obtain rfl:=oi H
         exact qt <| ⟨.inl rfl,bZ (.bool (!x2)) h0 (bX (ak))⟩
        ·refine qr [.b 3 nG,.a 6 (C9 _ _ e2 h0 _ (gO (ae (bY) (az)))),.b 8 oQ,.b 14 rn,.b 20 mY] ?_
         have tq:Has h0 (L):=Has.del o0 0
         obtain rfl:=oi H
         exact qt <| ⟨.inl rfl,bZ (.bool false) h0 (bX (ak))⟩
       ·refine qr [.b 3 nG,.a 6 (C9 _ _ e2 h0 _ (gO (ae (bY) (az)))),.b 8 oQ,.b 14 rn] ?_
        have ly:Has h0 (L):=Has.del o0 0
        obtain rfl:=oi H
        exact qt <| ⟨.inl rfl,bZ (.bool false) h0 (bX (ak))⟩
      ·refine qr [.b 3 nG,.a 6 (C9 _ _ e2 h0 _ (gO (ae (bY) (az)))),.b 8 oQ] ?_
       have yv:Has h0 (L):=Has.del o0 0
       obtain rfl:=oi H
       exact qt <| ⟨.inl rfl,bZ (.bool false) h0 (bX (ak))⟩
     ·refine qr [.b 3 nG] ?_
      have zu:Has h0 (L):=Has.del o0 0
      obtain rfl:=oi H
      exact qt <| ⟨.inl rfl,bZ (.bool false) h0 (bX (ak))⟩
    ·refine q1 ?_
     have lC:Has h0 (L):=Has.del o0 0
     refine qc H (fun BC H=>?_) (fun BC H=>?_)
     ·refine qq ?_
      rcases dt H with⟨xu,H⟩| ⟨xu,H⟩
      ·obtain⟨x3,e4,H⟩:=aH H
       rcases dt H with⟨Da,H⟩| ⟨Da,H⟩
       ·obtain rfl:=oi H
        exact qr [.b 3 xu,.a 6 (Mw _ _ e4 h0 _ (gO (ae (bY) (az)))),.b 8 Da] <| qt <| ⟨.inl rfl,bZ (.bool ((n0.args.length:Int)==(0:Int))) h0 (bX (ak))⟩
       ·obtain rfl:=oi H
        exact qr [.b 3 xu,.a 6 (Mw _ _ e4 h0 _ (gO (ae (bY) (az)))),.b 8 Da] <| qt <| ⟨.inl rfl,bZ (.bool false) h0 (bX (ak))⟩
      ·obtain rfl:=oi H
       exact qr [.b 3 xu] <| qt <| ⟨.inl rfl,bZ (.bool false) h0 (bX (ak))⟩
     ·obtain rfl:=oi H
      exact qk <| qq <| q0 <| qt <| ⟨.inl rfl,bZ (.bool false) h0 (bX (ak))⟩
end
end Go.Proofs.YtmekcfdllhphlaaDoor
namespace Go.Proofs.YtmekcfdllhphlaaDoor
open Go Go.R
open Go.IntKind (i64 u64 u8 u32)
def yw:cb:=gJ [0,1,4,5,7,8,9,16] [] [252,204,140,196,68,251,204,251] [] []
def eA.l0 (m:Nat)(s0:List ab)(f0:ab→Option (Bool)):Nat→Int→Option (Sum Int (Int))
 | 0,_=>none
 | k+1,x0=>if (decide (x0<(s0.length:Int)))=true then ((ix s0 x0).bind fun v0=>(f0 v0).bind fun r0=>if r0=true then (some (.inl x0)) else (eA.l0 m s0 f0 k (i64.wrap (x0+(1:Int))))) else (some (.inr x0))
def eA.f (m:Nat)(s0:List ab)(f0:ab→Option (Bool)):Option (Int):=(eA.l0 m s0 f0 m (0:Int)).bind fun bq=>match bq with | .inl r1=>some r1 | .inr x1=>some (-1:Int)
def eA.fin (h:AHeap)(r:Int)(s:St):Prop:=aI Tryd.prog (s.open yw) Tryd.f52.results.toList=some (.int .i64 r)∧s.h=h
def RP (cf:CallF)(m:Nat):Prop:=∀(s0:List ab) (f0:ab→Option (Bool)) (r:Int),eA.f m s0 f0=some r→∀h,0<h.next→∀(du:FuncId) (aL:List AV),ay (.fn du aL) = .fn du aL→(∀(a0:ab) r,f0 a0=some r→cf du ([.agg [.int .i64 a0.kind,.int .i64 a0.int,.str a0.label,aa.fz a0.args]]++aL) h=some (.bool r,h))→∀xs,xs.map ay=[af.fz s0,.fn du aL]→cf 52 xs h=some (.int .i64 r,h)
section
variable {cf:CallF}{m:Nat}
theorem eA.bI (h:AHeap)(L:Mem)(du:FuncId)(aL:List AV)(s0:List ab)(f0:ab→Option (Bool))  (gF:ay (.fn du aL) = .fn du aL)(gK:∀(a0:ab) r,f0 a0=some r→cf du ([.agg [.int .i64 a0.kind,.int .i64 a0.int,.str a0.label,aa.fz a0.args]]++aL) h=some (.bool r,h))  : bE Tryd.prog cf yw m (sub [1,0,1,0,0] (codeOf Tryd.f52)) (fun k (σ:Int)=>eA.l0 m s0 f0 k σ) (fun σ s=>match σ with | x0=>s=⟨[af.fz s0,.fn du aL,.any,.any,.int .i64 (s0.length:Int),.int .i64 x0,.any,.any],[],h⟩∧Has h (L)) (fun out e s=>(e = .exit 0∧∃x0,.inr x0=out∧∃kC uy uz oR tm,s=⟨[kC,uy,.any,.any,uz,oR,tm,.any],[],h⟩∧Has h (L))∨(e = .ret∧∃r,.inl r=out∧eA.fin h r s)):=by
 refine gP (fun _=>rfl) ?_
 rintro k x0 s out ⟨rfl,o0⟩ H
 have H:eA.l0 m s0 f0 (k+1) x0=some out:=H
 refine q1 <| qq <| qc H (fun c0 H=>?_) (fun c0 H=>?_)
 ·refine qk <| qq <| qb 1 <| qq <| q0 <| qq ?_
  obtain⟨v0,e0,H⟩:=aH H
  obtain⟨r0,e1,H⟩:=aH H
  refine qr [.v 3 (bo (k:=.i64) (E:=af) (l:=s0) lh e0),.v 4 (cL  (E:=af) (l:=s0) h rU rV e0),.a 5 (gK _ _ e1)] <| qc H (fun c1 H=>?_) (fun c1 H=>?_)
  ·exact q1 <| qt <| WZ (⟨rfl,_,oi H,⟨by kernel_rfl,by kernel_rfl⟩⟩)
  ·exact qk <| q0 <| ⟨i64.wrap (x0+(1:Int)),⟨by kernel_rfl,o0⟩,H⟩
 ·exact qx 0 <| Xt (⟨rfl,x0,oi H,af.fz s0,.fn du aL,.int .i64 (s0.length:Int),.int .i64 x0,.bool (decide (x0<(s0.length:Int))),by kernel_rfl,o0⟩)
theorem wQ {aV:FuncId→cb}(ha:aV 52=yw)  (s0:List ab)(f0:ab→Option (Bool))(h:AHeap)(L:Mem)(du:FuncId)(aL:List AV)  (gF:ay (.fn du aL) = .fn du aL)(gK:∀(a0:ab) r,f0 a0=some r→cf du ([.agg [.int .i64 a0.kind,.int .i64 a0.int,.str a0.label,aa.fz a0.args]]++aL) h=some (.bool r,h))(o:Has h (L)){out:Int}(H:eA.f m s0 f0=some out) :
  ∃r h',be Tryd.prog aV cf m 52 [af.fz s0,.fn du aL] h=some (r,h')∧r=(.int .i64 out)∧h'=h:=by
 refine aq (fn:=Tryd.f52) ha Tryd.func52 (by kernel_rfl) (by kernel_rfl) ?_
 refine aG (Q:=fun s=>eA.fin h out s) (fun _ _ ⟨h1,h2,h3⟩=>⟨h1,_,h2,rfl,h3⟩) ?_
 have H:_=some out:=H
 unfold eA.f at H
 show de _ cf yw m _ ⟨af.fz s0 :: .fn du aL::GV [],[],h⟩ _
 refine q1 <| qq <| qq <| q0 <| qb 0 ?_
 obtain⟨bq,e2,H⟩:=aH H
 refine ql (eA.bI h L du aL s0 f0  gF gK  (0:Int) _ _ ⟨by kernel_rfl,o⟩ e2) ?_
 rintro e s (⟨rfl,x1,rfl,g0,g1,g2,g3,g4,rfl,o1⟩| ⟨rfl,r1,rfl,mE⟩)
 ·try dsimp only at H
  obtain rfl:=oi H
  exact q1 <| qt <| ⟨.inl rfl,⟨by kernel_rfl,by kernel_rfl⟩⟩
 ·try dsimp only at H
  obtain rfl:=oi H
  exact⟨.inl rfl,mE⟩
end
end Go.Proofs.YtmekcfdllhphlaaDoor
namespace Go.Proofs.YtmekcfdllhphlaaDoor
open Go Go.R
open Go.IntKind (i64 u64 u8 u32)
def BD:cb:=gJ [0,1,4] [] [4,3] [] []
def fE.f (m:Nat)(s0:List ab)(f0:ab→Option (Bool)):Option (Bool):=(eA.f m s0 f0).bind fun x0=>some (decide (x0≥(0:Int)))
def fE.fin (h:AHeap)(r:Bool)(s:St):Prop:=aI Tryd.prog (s.open BD) Tryd.f34.results.toList=some (.bool r)∧s.h=h
def Pp (cf:CallF)(m:Nat):Prop:=∀(s0:List ab) (f0:ab→Option (Bool)) (r:Bool),fE.f m s0 f0=some r→∀h,0<h.next→∀(du:FuncId) (aL:List AV),ay (.fn du aL) = .fn du aL→(∀(a0:ab) r,f0 a0=some r→cf du ([.agg [.int .i64 a0.kind,.int .i64 a0.int,.str a0.label,aa.fz a0.args]]++aL) h=some (.bool r,h))→∀xs,xs.map ay=[af.fz s0,.fn du aL]→cf 34 xs h=some (.bool r,h)
section
variable {cf:CallF}{m:Nat}
theorem rr {aV:FuncId→cb}(ha:aV 34=BD)(Pq:RP cf m)(s0:List ab)(f0:ab→Option (Bool))(h:AHeap)(L:Mem)(du:FuncId)(aL:List AV)  (gF:ay (.fn du aL) = .fn du aL)(gK:∀(a0:ab) r,f0 a0=some r→cf du ([.agg [.int .i64 a0.kind,.int .i64 a0.int,.str a0.label,aa.fz a0.args]]++aL) h=some (.bool r,h))(o:Has h (L)){out:Bool}(H:fE.f m s0 f0=some out) :
  ∃r h',be Tryd.prog aV cf m 34 [af.fz s0,.fn du aL] h=some (r,h')∧r=(.bool out)∧h'=h:=by
 refine aq (fn:=Tryd.f34) ha Tryd.func34 (by kernel_rfl) (by kernel_rfl) ?_
 refine aG (Q:=fun s=>fE.fin h out s) (fun _ _ ⟨h1,h2,h3⟩=>⟨h1,_,h2,rfl,h3⟩) ?_
 have H:_=some out:=H
 unfold fE.f at H
 show de _ cf BD m _ ⟨[af.fz s0,.fn du aL,.any],[],h⟩ _
 refine q1 <| qq ?_
 obtain⟨x0,e0,H⟩:=aH H
 obtain rfl:=oi H
 exact qr [.a 2 (Pq _ _ _ e0 h (Has.pos o) du aL gF gK _ (an (aQ (ib (E:=af))) (an (gF) (bm))))] <| qt <| ⟨.inl rfl,⟨by kernel_rfl,by kernel_rfl⟩⟩
end
end Go.Proofs.YtmekcfdllhphlaaDoor
namespace Go.Proofs.YtmekcfdllhphlaaDoor
open Go Go.R
open Go.IntKind (i64 u64 u8 u32)
def yx:cb:=gJ [0,1,4,5,7,8,9,16] [] [252,204,140,196,68,251,204,251] [] []
def eB.l0 (m:Nat)(s0:List aj)(f0:aj→Option (Bool)):Nat→Int→Option (Sum Int (Int))
 | 0,_=>none
 | k+1,x0=>if (decide (x0<(s0.length:Int)))=true then ((ix s0 x0).bind fun v0=>(f0 v0).bind fun r0=>if r0=true then (some (.inl x0)) else (eB.l0 m s0 f0 k (i64.wrap (x0+(1:Int))))) else (some (.inr x0))
def eB.f (m:Nat)(s0:List aj)(f0:aj→Option (Bool)):Option (Int):=(eB.l0 m s0 f0 m (0:Int)).bind fun bq=>match bq with | .inl r1=>some r1 | .inr x1=>some (-1:Int)
def eB.fin (h:AHeap)(r:Int)(s:St):Prop:=aI Tryd.prog (s.open yx) Tryd.f51.results.toList=some (.int .i64 r)∧s.h=h
def RQ (cf:CallF)(m:Nat):Prop:=∀(s0:List aj) (f0:aj→Option (Bool)) (r:Int),eB.f m s0 f0=some r→∀h,0<h.next→∀(du:FuncId) (aL:List AV),ay (.fn du aL) = .fn du aL→(∀(a0:aj) r,f0 a0=some r→cf du ([.agg [af.fz a0.nodes,.int .i64 a0.root]]++aL) h=some (.bool r,h))→∀xs,xs.map ay=[aJ.fz s0,.fn du aL]→cf 51 xs h=some (.int .i64 r,h)
section
variable {cf:CallF}{m:Nat}
theorem eB.bI (h:AHeap)(L:Mem)(du:FuncId)(aL:List AV)(s0:List aj)(f0:aj→Option (Bool))  (gF:ay (.fn du aL) = .fn du aL)(gK:∀(a0:aj) r,f0 a0=some r→cf du ([.agg [af.fz a0.nodes,.int .i64 a0.root]]++aL) h=some (.bool r,h))  : bE Tryd.prog cf yx m (sub [1,0,1,0,0] (codeOf Tryd.f51)) (fun k (σ:Int)=>eB.l0 m s0 f0 k σ) (fun σ s=>match σ with | x0=>s=⟨[aJ.fz s0,.fn du aL,.any,.any,.int .i64 (s0.length:Int),.int .i64 x0,.any,.any],[],h⟩∧Has h (L)) (fun out e s=>(e = .exit 0∧∃x0,.inr x0=out∧∃kC uy uz oR tm,s=⟨[kC,uy,.any,.any,uz,oR,tm,.any],[],h⟩∧Has h (L))∨(e = .ret∧∃r,.inl r=out∧eB.fin h r s)):=by
 refine gP (fun _=>rfl) ?_
 rintro k x0 s out ⟨rfl,o0⟩ H
 have H:eB.l0 m s0 f0 (k+1) x0=some out:=H
 refine q1 <| qq <| qc H (fun c0 H=>?_) (fun c0 H=>?_)
 ·refine qk <| qq <| qb 1 <| qq <| q0 <| qq ?_
  obtain⟨v0,e0,H⟩:=aH H
  obtain⟨r0,e1,H⟩:=aH H
  refine qr [.v 3 (bo (k:=.i64) (E:=aJ) (l:=s0) vi e0),.v 4 (cL  (E:=aJ) (l:=s0) h EZ E0 e0),.a 5 (gK _ _ e1)] <| qc H (fun c1 H=>?_) (fun c1 H=>?_)
  ·exact q1 <| qt <| WZ (⟨rfl,_,oi H,⟨by kernel_rfl,by kernel_rfl⟩⟩)
  ·exact qk <| q0 <| ⟨i64.wrap (x0+(1:Int)),⟨by kernel_rfl,o0⟩,H⟩
 ·exact qx 0 <| Xt (⟨rfl,x0,oi H,aJ.fz s0,.fn du aL,.int .i64 (s0.length:Int),.int .i64 x0,.bool (decide (x0<(s0.length:Int))),by kernel_rfl,o0⟩)
theorem wR {aV:FuncId→cb}(ha:aV 51=yx)  (s0:List aj)(f0:aj→Option (Bool))(h:AHeap)(L:Mem)(du:FuncId)(aL:List AV)  (gF:ay (.fn du aL) = .fn du aL)(gK:∀(a0:aj) r,f0 a0=some r→cf du ([.agg [af.fz a0.nodes,.int .i64 a0.root]]++aL) h=some (.bool r,h))(o:Has h (L)){out:Int}(H:eB.f m s0 f0=some out) :
  ∃r h',be Tryd.prog aV cf m 51 [aJ.fz s0,.fn du aL] h=some (r,h')∧r=(.int .i64 out)∧h'=h:=by
 refine aq (fn:=Tryd.f51) ha Tryd.func51 (by kernel_rfl) (by kernel_rfl) ?_
 refine aG (Q:=fun s=>eB.fin h out s) (fun _ _ ⟨h1,h2,h3⟩=>⟨h1,_,h2,rfl,h3⟩) ?_
 have H:_=some out:=H
 unfold eB.f at H
 show de _ cf yx m _ ⟨aJ.fz s0 :: .fn du aL::GV [],[],h⟩ _
 refine q1 <| qq <| qq <| q0 <| qb 0 ?_
 obtain⟨bq,e2,H⟩:=aH H
 refine ql (eB.bI h L du aL s0 f0  gF gK  (0:Int) _ _ ⟨by kernel_rfl,o⟩ e2) ?_
 rintro e s (⟨rfl,x1,rfl,g0,g1,g2,g3,g4,rfl,o1⟩| ⟨rfl,r1,rfl,mE⟩)
 ·try dsimp only at H
  obtain rfl:=oi H
  exact q1 <| qt <| ⟨.inl rfl,⟨by kernel_rfl,by kernel_rfl⟩⟩
 ·try dsimp only at H
  obtain rfl:=oi H
  exact⟨.inl rfl,mE⟩
end
end Go.Proofs.YtmekcfdllhphlaaDoor
namespace Go.Proofs.YtmekcfdllhphlaaDoor
open Go Go.R
open Go.IntKind (i64 u64 u8 u32)
def BE:cb:=gJ [0,1,4] [] [4,3] [] []
def gq.f (m:Nat)(s0:List aj)(f0:aj→Option (Bool)):Option (Bool):=(eB.f m s0 f0).bind fun x0=>some (decide (x0≥(0:Int)))
def gq.fin (h:AHeap)(r:Bool)(s:St):Prop:=aI Tryd.prog (s.open BE) Tryd.f32.results.toList=some (.bool r)∧s.h=h
def RR (cf:CallF)(m:Nat):Prop:=∀(s0:List aj) (f0:aj→Option (Bool)) (r:Bool),gq.f m s0 f0=some r→∀h,0<h.next→∀(du:FuncId) (aL:List AV),ay (.fn du aL) = .fn du aL→(∀(a0:aj) r,f0 a0=some r→cf du ([.agg [af.fz a0.nodes,.int .i64 a0.root]]++aL) h=some (.bool r,h))→∀xs,xs.map ay=[aJ.fz s0,.fn du aL]→cf 32 xs h=some (.bool r,h)
section
variable {cf:CallF}{m:Nat}
theorem ru {aV:FuncId→cb}(ha:aV 32=BE)(Pt:RQ cf m)(s0:List aj)(f0:aj→Option (Bool))(h:AHeap)(L:Mem)(du:FuncId)(aL:List AV)  (gF:ay (.fn du aL) = .fn du aL)(gK:∀(a0:aj) r,f0 a0=some r→cf du ([.agg [af.fz a0.nodes,.int .i64 a0.root]]++aL) h=some (.bool r,h))(o:Has h (L)){out:Bool}(H:gq.f m s0 f0=some out) :
  ∃r h',be Tryd.prog aV cf m 32 [aJ.fz s0,.fn du aL] h=some (r,h')∧r=(.bool out)∧h'=h:=by
 refine aq (fn:=Tryd.f32) ha Tryd.func32 (by kernel_rfl) (by kernel_rfl) ?_
 refine aG (Q:=fun s=>gq.fin h out s) (fun _ _ ⟨h1,h2,h3⟩=>⟨h1,_,h2,rfl,h3⟩) ?_
 have H:_=some out:=H
 unfold gq.f at H
 show de _ cf BE m _ ⟨[aJ.fz s0,.fn du aL,.any],[],h⟩ _
 refine q1 <| qq ?_
 obtain⟨x0,e0,H⟩:=aH H
 obtain rfl:=oi H
 exact qr [.a 2 (Pt _ _ _ e0 h (Has.pos o) du aL gF gK _ (an (aQ (ib (E:=aJ))) (an (gF) (bm))))] <| qt <| ⟨.inl rfl,⟨by kernel_rfl,by kernel_rfl⟩⟩
end
end Go.Proofs.YtmekcfdllhphlaaDoor
namespace Go.Proofs.YtmekcfdllhphlaaDoor
open Go Go.R
open Go.IntKind (i64 u64 u8 u32)
def gG (c:Int):Bool:=decide (97≤c∧c≤122)||decide (65≤c∧c≤90)||decide (48≤c∧c≤57)||c==95
theorem yy {m:Nat}(c:Int):fu.f m c=some (gG c):=by
 unfold fu.f
 by_cases h1:97≤c<;>by_cases h2:c≤122<;>by_cases h3:65≤c<;>by_cases h4:c≤90<;>by_cases h5:48≤c<;>by_cases h6:c≤57<;>simp [gG,h1,h2,h3,h4,h5,h6]<;>omega
theorem rW {s:ByteArray}{i:Nat}(h:i<s.size):∃c:UInt8,s.data.toList[i]? = some c∧bt s (i:Int)=some (c.toNat:Int):=by
 have h':i<s.data.toList.length:=by simpa using h
 refine⟨s.data.toList[i],Wh h',?_⟩
 unfold bt; rw [if_pos (by omega),V9,Wh h']; rfl
theorem BF {m:Nat}{s:ByteArray}(hs:s.size≤16):∀(f i:Nat),s.size - i<f→i≤s.size→
  ∃o,cM.l0 m s f (i:Int)=some o∧((∃x,o = .inr x)∧((s.data.toList.drop i).all fun c=>gG (c.toNat:Int))=true∨o = .inl false∧((s.data.toList.drop i).all fun c=>gG (c.toNat:Int))=false)
 | 0,i,hf,_=>absurd hf (by omega)
 | f+1,i,hf,hi=>by
  unfold cM.l0
  by_cases h:i<s.size
  ·obtain⟨c,hc,hb⟩:=rW h
   obtain⟨h4,h5⟩:=Wb.1 hc
   have hd:s.data.toList.drop i=c::s.data.toList.drop (i+1):=by rw [←h5]; exact Wi h4
   rw [if_pos (by simp only [decide_eq_true_eq]; omega),hb,V3,yy,V3,hd,W2]
   cases hl:gG (c.toNat:Int) with
   | false=>exact⟨_,rfl,.inr ⟨rfl,rfl⟩⟩
   | true=>
    obtain⟨o,h1,h2⟩:=BF (m:=m) hs f (i+1) (by omega) (by omega)
    rw [if_neg (by simp),aC (by omega) (by omega),show (i:Int)+1=((i+1:Nat):Int) by omega,h1]
    exact⟨o,rfl,by simpa using h2⟩
  ·refine⟨_,by rw [if_neg (by simp only [decide_eq_true_eq]; omega)],.inl ⟨⟨_,rfl⟩,?_⟩⟩
   rw [WO (by simp; omega)]; rfl
def yz (s:ByteArray)(lo hi:Int):Bool:=match s.data.toList with
 | []=>false
 | c::cs=>decide (cs.length≤15)&&decide (lo≤(c.toNat:Int))&&decide ((c.toNat:Int)≤hi)&&((c::cs).all fun c=>gG (c.toNat:Int))
theorem Db {m:Nat}(hm:20≤m)(s:ByteArray)(lo hi:Int):cM.f m s lo hi=some (yz s lo hi):=by
 have hsz:s.size=s.data.toList.length:=by simp
 unfold cM.f yz
 cases hl:s.data.toList with
 | nil=>rw [if_pos (by rw [hl,WY] at hsz; simp only [decide_eq_true_eq]; omega)]
 | cons c cs=>
  rw [hl,Wp] at hsz
  rw [if_neg (by simp only [decide_eq_true_eq]; omega)]
  dsimp only
  by_cases h16:cs.length≤15
  ·obtain⟨c',h1,h2⟩:=rW (s:=s) (i:=0) (by omega)
   rw [hl] at h1
   simp only [WJ,V6] at h1
   subst h1
   have h2:bt s 0=_:=h2
   rw [if_neg (by simp only [decide_eq_true_eq]; omega),h2,V3]
   by_cases h3:(c.toNat:Int)<lo
   ·rw [if_pos (by simpa using h3)]
    simp only [V6]
    rw [show decide (lo≤(c.toNat:Int))=false by simp; omega]; simp
   rw [if_neg (by simpa using h3),V3]
   by_cases h4:(c.toNat:Int) > hi
   ·rw [if_pos (by simpa using h4)]
    simp only [V6]
    rw [show decide ((c.toNat:Int)≤hi)=false by simp; omega]; simp
   rw [if_neg (by simpa using h4)]
   obtain⟨o,k1,k2⟩:=BF (m:=m) (s:=s) (by omega) m 0 (by omega) (by omega)
   have k1:cM.l0 m s m 0=_:=k1
   rw [k1,V3]
   rw [WK,hl] at k2
   rw [show decide (lo≤(c.toNat:Int))=true by simp; omega,show decide ((c.toNat:Int)≤hi)=true by simp; omega,show decide (cs.length≤15)=true by simpa using h16]
   simp only [Xl]
   rcases k2 with⟨⟨x,rfl⟩,k⟩| ⟨rfl,k⟩
   ·rw [k]
   ·rw [k]
  ·rw [if_pos (by simp only [decide_eq_true_eq]; omega),show decide (cs.length≤15)=false by simp; omega]; rfl
def lj (s:ByteArray):Bool:=s.data.toList==[124]||s.data.toList==[35]||yz s 97 122
theorem vl {m:Nat}(hm:20≤m)(s:ByteArray):gE.f m s=some (lj s):=by
 unfold gE.f lj
 show (if (s.data.toList==[124])=true then _ else if (s.data.toList==[35])=true then _ else _)=_
 cases h1:s.data.toList==[124] with
 | true=>rfl
 | false=>
  cases h2:s.data.toList==[35] with
  | true=>rfl
  | false=>rw [Db hm]; rfl
theorem vm {s:ByteArray}(h:lj s=true):1≤s.size∧s.size≤16:=by
 have hsz:s.size=s.data.toList.length:=by simp
 unfold lj at h
 simp only [WT,beq_iff_eq] at h
 rcases h with (h | h) | h
 ·rw [h] at hsz; simp at hsz; omega
 ·rw [h] at hsz; simp at hsz; omega
 ·unfold yz at h
  split at h
  ·cases h
  ·rename_i c cs hl
   rw [hl] at hsz
   simp only [V8,decide_eq_true_eq] at h
   simp at hsz; omega
def yA (s:ByteArray):Bool:=s.data.toList==[112,114,111,99]||s.data.toList==[99,101,108,108]||s.data.toList==[112,111,114,116]
theorem Dc {m:Nat}(s:ByteArray):gp.f m s=some (yA s):=by
 unfold gp.f yA
 show (if (s.data.toList==[112,114,111,99])=true then _ else if (s.data.toList==[99,101,108,108])=true then _ else some (s.data.toList==[112,111,114,116]))=_
 cases h1:s.data.toList==[112,114,111,99] with
 | true=>rfl
 | false=>
  cases h2:s.data.toList==[99,101,108,108] with
  | true=>rfl
  | false=>rfl
theorem E7 {m:Nat}{s:List Int}{f0:Int→Option Bool}{g:Int→Bool}(hs:s.length<2 ^ 40)(C:∀x∈s,f0 x=some (g x)):∀(f i:Nat),s.length - i<f→i≤s.length→
  ∃o,ev.l0 m s f0 f (i:Int)=some o∧((∃x,o = .inr x)∧(s.drop i).any g=false∨(∃x:Nat,o = .inl (x:Int))∧(s.drop i).any g=true)
 | 0,i,hf,_=>absurd hf (by omega)
 | f+1,i,hf,hi=>by
  have nF:(2:Nat) ^ 40=1099511627776:=by decide
  unfold ev.l0
  by_cases h:i<s.length
  ·have hx:ix s (i:Int)=some s[i]:=by unfold ix; rw [if_pos (by omega)]; simp [h]
   rw [if_pos (by simp only [decide_eq_true_eq]; omega),hx,V3,C _ (Xa h),V3,Wi h,List.any_cons]
   cases g s[i] with
   | true=>exact⟨_,rfl,.inr ⟨⟨i,rfl⟩,rfl⟩⟩
   | false=>
    obtain⟨o,h1,h2⟩:=E7 (m:=m) hs C f (i+1) (by omega) (by omega)
    rw [if_neg (by simp),aC (by omega) (by omega),show (i:Int)+1=((i+1:Nat):Int) by omega,h1]
    exact⟨o,rfl,by simpa using h2⟩
  ·refine⟨_,by rw [if_neg (by simp only [decide_eq_true_eq]; omega)],.inl ⟨⟨_,rfl⟩,?_⟩⟩
   rw [WO (by omega)]; rfl
theorem Dd {m:Nat}{s:List Int}{f0:Int→Option Bool}{g:Int→Bool}(hs:s.length<2 ^ 40)(hm:s.length<m)(C:∀x∈s,f0 x=some (g x)):gm.f m s f0=some (s.any g):=by
 obtain⟨o,h1,h2⟩:=E7 (m:=m) hs C m 0 (by omega) (by omega)
 have h1:ev.l0 m s f0 m 0=_:=h1
 unfold gm.f ev.f
 rw [h1,V3]
 rw [WK] at h2
 rcases h2 with⟨⟨x,rfl⟩,k⟩| ⟨⟨x,rfl⟩,k⟩
 ·rw [k]; rfl
 ·rw [k]
  simp only [V3,V6]
  simp
theorem E8 {m:Nat}{s:List ab}{f0:ab→Option Bool}{g:ab→Bool}(hs:s.length<2 ^ 40)(C:∀x∈s,f0 x=some (g x)):∀(f i:Nat),s.length - i<f→i≤s.length→
  ∃o,eA.l0 m s f0 f (i:Int)=some o∧((∃x,o = .inr x)∧(s.drop i).any g=false∨(∃x:Nat,o = .inl (x:Int))∧(s.drop i).any g=true)
 | 0,i,hf,_=>absurd hf (by omega)
 | f+1,i,hf,hi=>by
  have nF:(2:Nat) ^ 40=1099511627776:=by decide
  unfold eA.l0
  by_cases h:i<s.length
  ·have hx:ix s (i:Int)=some s[i]:=by unfold ix; rw [if_pos (by omega)]; simp [h]
   rw [if_pos (by simp only [decide_eq_true_eq]; omega),hx,V3,C _ (Xa h),V3,Wi h,List.any_cons]
   cases g s[i] with
   | true=>exact⟨_,rfl,.inr ⟨⟨i,rfl⟩,rfl⟩⟩
   | false=>
    obtain⟨o,h1,h2⟩:=E8 (m:=m) hs C f (i+1) (by omega) (by omega)
    rw [if_neg (by simp),aC (by omega) (by omega),show (i:Int)+1=((i+1:Nat):Int) by omega,h1]
    exact⟨o,rfl,by simpa using h2⟩
  ·refine⟨_,by rw [if_neg (by simp only [decide_eq_true_eq]; omega)],.inl ⟨⟨_,rfl⟩,?_⟩⟩
   rw [WO (by omega)]; rfl
theorem vn {m:Nat}{s:List ab}{f0:ab→Option Bool}{g:ab→Bool}(hs:s.length<2 ^ 40)(hm:s.length<m)(C:∀x∈s,f0 x=some (g x)):fE.f m s f0=some (s.any g):=by
 obtain⟨o,h1,h2⟩:=E8 (m:=m) hs C m 0 (by omega) (by omega)
 have h1:eA.l0 m s f0 m 0=_:=h1
 unfold fE.f eA.f
 rw [h1,V3]
 rw [WK] at h2
 rcases h2 with⟨⟨x,rfl⟩,k⟩| ⟨⟨x,rfl⟩,k⟩
 ·rw [k]; rfl
 ·rw [k]
  simp only [V3,V6]
  simp
theorem E9 {m:Nat}{s:List aj}{f0:aj→Option Bool}{g:aj→Bool}(hs:s.length<2 ^ 40)(C:∀x∈s,f0 x=some (g x)):∀(f i:Nat),s.length - i<f→i≤s.length→
  ∃o,eB.l0 m s f0 f (i:Int)=some o∧((∃x,o = .inr x)∧(s.drop i).any g=false∨(∃x:Nat,o = .inl (x:Int))∧(s.drop i).any g=true)
 | 0,i,hf,_=>absurd hf (by omega)
 | f+1,i,hf,hi=>by
  have nF:(2:Nat) ^ 40=1099511627776:=by decide
  unfold eB.l0
  by_cases h:i<s.length
  ·have hx:ix s (i:Int)=some s[i]:=by unfold ix; rw [if_pos (by omega)]; simp [h]
   rw [if_pos (by simp only [decide_eq_true_eq]; omega),hx,V3,C _ (Xa h),V3,Wi h,List.any_cons]
   cases g s[i] with
   | true=>exact⟨_,rfl,.inr ⟨⟨i,rfl⟩,rfl⟩⟩
   | false=>
    obtain⟨o,h1,h2⟩:=E9 (m:=m) hs C f (i+1) (by omega) (by omega)
    rw [if_neg (by simp),aC (by omega) (by omega),show (i:Int)+1=((i+1:Nat):Int) by omega,h1]
    exact⟨o,rfl,by simpa using h2⟩
  ·refine⟨_,by rw [if_neg (by simp only [decide_eq_true_eq]; omega)],.inl ⟨⟨_,rfl⟩,?_⟩⟩
   rw [WO (by omega)]; rfl
theorem De {m:Nat}{s:List aj}{f0:aj→Option Bool}{g:aj→Bool}(hs:s.length<2 ^ 40)(hm:s.length<m)(C:∀x∈s,f0 x=some (g x)):gq.f m s f0=some (s.any g):=by
 obtain⟨o,h1,h2⟩:=E9 (m:=m) hs C m 0 (by omega) (by omega)
 have h1:eB.l0 m s f0 m 0=_:=h1
 unfold gq.f eB.f
 rw [h1,V3]
 rw [WK] at h2
 rcases h2 with⟨⟨x,rfl⟩,k⟩| ⟨⟨x,rfl⟩,k⟩
 ·rw [k]; rfl
 ·rw [k]
  simp only [V3,V6]
  simp
def j4 (n:ab)(size:Int):Bool:=
 if n.kind=0 then decide (0≤n.int)&&n.label.data.toList==[]&&n.args.isEmpty
 else if n.kind=1 then decide (-1099511627776≤n.int)&&decide (n.int≤1099511627776)&&n.label.data.toList==[]&&n.args.isEmpty
 else if n.kind=2 then n.int==0&&lj n.label&&n.args.isEmpty
 else if n.kind=3 then n.int==0&&lj n.label&&decide (1≤n.args.length)&&decide (n.args.length≤8)&&n.args.all fun a=>decide (0≤a)&&decide (a<size)
 else if n.kind=4 then decide (0≤n.int)&&yA n.label&&n.args.isEmpty
 else false
theorem yB (l:List Int):((l.length:Int)==(0:Int))=l.isEmpty:=by cases l<;>simp; omega
theorem Df {m:Nat}(hm:20≤m)(n:ab)(size:Int):ic.f m n size=some (j4 n size):=by
 unfold ic.f j4
 by_cases k0:n.kind=0
 ·rw [if_pos (by simpa using k0),if_pos k0]
  by_cases h1:0≤n.int
  ·rw [if_pos (by simpa using h1),show decide (0≤n.int)=true by simpa using h1]
   show (if (n.label.data.toList==[])=true then _ else _)=_
   cases n.label.data.toList==[] with
   | true=>rw [if_pos rfl,yB]; rfl
   | false=>rfl
  ·rw [if_neg (by simpa using h1),show decide (0≤n.int)=false by simp; omega]; rfl
 rw [if_neg (by simpa using k0),if_neg k0]
 by_cases k1:n.kind=1
 ·rw [if_pos (by simpa using k1),if_pos k1]
  by_cases h1 : -1099511627776≤n.int
  ·rw [if_pos (by simpa using h1),show decide (-1099511627776≤n.int)=true by simpa using h1]
   by_cases h3:n.int≤1099511627776
   ·rw [if_pos (by simpa using h3),show decide (n.int≤1099511627776)=true by simpa using h3]
    show (if (n.label.data.toList==[])=true then _ else _)=_
    cases n.label.data.toList==[] with
    | true=>rw [if_pos rfl,yB]; rfl
    | false=>rfl
   ·rw [if_neg (by simpa using h3),show decide (n.int≤1099511627776)=false by simp; omega]; rfl
  ·rw [if_neg (by simpa using h1),show decide (-1099511627776≤n.int)=false by simp; omega]; rfl
 rw [if_neg (by simpa using k1),if_neg k1]
 by_cases k2:n.kind=2
 ·rw [if_pos (by simpa using k2),if_pos k2]
  cases h1:n.int==0 with
  | false=>rfl
  | true=>
   rw [if_pos rfl,vl hm,V3]
   cases lj n.label with
   | false=>rfl
   | true=>rw [if_pos rfl,yB]; rfl
 rw [if_neg (by simpa using k2),if_neg k2]
 by_cases k3:n.kind=3
 ·rw [if_pos (by simpa using k3),if_pos k3]
  cases h1:n.int==0 with
  | false=>rfl
  | true=>
   rw [if_pos rfl,vl hm,V3]
   cases lj n.label with
   | false=>rfl
   | true=>
    rw [if_pos rfl]
    by_cases g1:1≤n.args.length
    ·rw [if_pos (by simp only [decide_eq_true_eq]; omega),show decide (1≤n.args.length)=true by simpa using g1]
     by_cases g2:n.args.length≤8
     ·rw [if_pos (by simp only [decide_eq_true_eq]; omega),show decide (n.args.length≤8)=true by simpa using g2]
      rw [Dd (g:=fun a=>!(decide (0≤a)&&decide (a<size))) (by omega) (by omega) (fun a _=>by
       unfold gn.f
       by_cases w:a<0
       ·rw [if_pos (by simpa using w),show decide (0≤a)=false by simp; omega]; rfl
       ·rw [if_neg (by simpa using w),show decide (0≤a)=true by simp; omega]
        by_cases w2:a<size
        ·rw [show decide (a≥size)=false from decide_eq_false (by omega),show decide (a<size)=true from decide_eq_true w2]; rfl
        ·rw [show decide (a≥size)=true from decide_eq_true (by omega),show decide (a<size)=false from decide_eq_false w2]; rfl),V3]
      simp [List.not_any_eq_all_not]
     ·rw [if_neg (by simp only [decide_eq_true_eq]; omega),show decide (n.args.length≤8)=false from decide_eq_false g2]; rfl
    ·rw [if_neg (by simp only [decide_eq_true_eq]; omega),show decide (1≤n.args.length)=false from decide_eq_false g1]; rfl
 rw [if_neg (by simpa using k3),if_neg k3]
 by_cases k4:n.kind=4
 ·rw [if_pos (by simpa using k4),if_pos k4]
  by_cases h1:0≤n.int
  ·rw [if_pos (by simpa using h1),show decide (0≤n.int)=true by simpa using h1,Dc,V3]
   cases yA n.label with
   | false=>rfl
   | true=>rw [if_pos rfl,yB]; rfl
  ·rw [if_neg (by simpa using h1),show decide (0≤n.int)=false by simp; omega]; rfl
 rw [if_neg (by simpa using k4),if_neg k4]
end Go.Proofs.YtmekcfdllhphlaaDoor
namespace Go.Proofs.YtmekcfdllhphlaaDoor
open Go Go.R
open Go.IntKind (i64 u64 u8 u32)
def pW:cb:=gJ [0,1,2,3,8,9,14,34] [] [224,160,224,192,64,192,192] [] []
def aP.l1 (m:Nat)(a0:Int)(aO:Int→Int→Option (Int)):Nat→(List Int)→Int→Option ((List Int) × Int)
 | 0,_,_=>none
 | k+1,cU,j0=>if (decide (j0 > a0))=true then ((ix cU j0).bind fun v0=>(ix cU (i64.wrap (j0 - (1:Int)))).bind fun v1=>(aO v0 v1).bind fun r0=>if (decide (r0<(0:Int)))=true then ((ix cU (i64.wrap (j0 - (1:Int)))).bind fun v2=>(ix cU j0).bind fun v3=>(ix cU j0).bind fun v4=>(ix (cU.set j0.toNat v2) (i64.wrap (j0 - (1:Int)))).bind fun v5=>aP.l1 m a0 aO k ((cU.set j0.toNat v2).set (i64.wrap (j0 - (1:Int))).toNat v3) (i64.wrap (j0 - (1:Int)))) else (some ((cU,j0)))) else (some ((cU,j0)))
def aP.l0 (m:Nat)(a0:Int)(b0:Int)(aO:Int→Int→Option (Int)):Nat→(List Int)→Int→Option ((List Int) × Int)
 | 0,_,_=>none
 | k+1,bk,i0=>if (decide (i0<b0))=true then ((aP.l1 m a0 aO m bk i0).bind fun bq=>match bq with | (dk,j1)=>aP.l0 m a0 b0 aO k dk (i64.wrap (i0+(1:Int)))) else (some ((bk,i0)))
def aP.f (m:Nat)(ao:List Int)(a0:Int)(b0:Int)(aO:Int→Int→Option (Int)):Option ((List Int)):=(aP.l0 m a0 b0 aO m ao (i64.wrap (a0+(1:Int)))).bind fun b9=>match b9 with | (jk,i1)=>some jk
def aP.fin (L:Mem)(aA:Nat)(ao:List Int)(a0:Int)(b0:Int)(aO:Int→Int→Option (Int))(r:(List Int))(s:St):Prop:=aI Tryd.prog (s.open pW) Tryd.f119.results.toList=some (.tup [])∧Has s.h ((aA,.sl ao.length 1 (aa.l r))::L)
def J5 (cf:CallF)(m:Nat):Prop:=∀(ao:List Int) (a0:Int) (b0:Int) (aO:Int→Int→Option (Int)) (r:(List Int)),aP.f m ao a0 b0 aO=some r→∀h L (cm:Nat) (aA:Nat),Has h ((aA,.sl cm 1 (aa.l ao))::L)→∀(qR:FuncId) (fw:List AV),ay (.fn qR fw) = .fn qR fw→(∀h K,Has h (K++L)→∀(a0:Int) (a1:Int) r,aO a0 a1=some r→cf qR ([.int .i64 a0,.int .i64 a1]++fw) h=some (.int .i64 r,h))→∀xs,xs.map ay=[.rs aA 0 cm 1,.int .i64 a0,.int .i64 b0,.fn qR fw]→∃h',cf 119 xs h=some (.tup [],h')∧Has h' ((aA,.sl cm 1 (aa.l r))::L)
section
variable {cf:CallF}{m:Nat}
theorem aP.eQ (L:Mem)(aA:Nat)(qR:FuncId)(fw:List AV)(ao:List Int)(a0:Int)(b0:Int)(aO:Int→Int→Option (Int))(i0:Int)  (Dg:ay (.fn qR fw) = .fn qR fw)(Ah:∀h K,Has h (K++L)→∀(a0:Int) (a1:Int) r,aO a0 a1=some r→cf qR ([.int .i64 a0,.int .i64 a1]++fw) h=some (.int .i64 r,h))  : bE Tryd.prog cf pW m (sub [1,0,0,1,0,0,1,0,0] (codeOf Tryd.f119)) (fun k (σ:(List Int) × Int)=>aP.l1 m a0 aO k σ.1 σ.2) (fun σ s=>match σ with | (cU,j0)=>∃h1,s=⟨[.rs aA 0 ao.length 1,.int .i64 a0,.int .i64 b0,.fn qR fw,.int .i64 i0,.int .i64 j0,.any,.any],[],h1⟩∧Has h1 ((aA,.sl ao.length 1 (aa.l cU))::L)) (fun out e s=>(e = .exit 2∧∃cU j0,(cU,j0)=out∧∃tm Fa h1,s=⟨[.rs aA 0 ao.length 1,.int .i64 a0,.int .i64 b0,.fn qR fw,.int .i64 i0,tm,.any,Fa],[],h1⟩∧Has h1 ((aA,.sl ao.length 1 (aa.l cU))::L))):=by
 refine gP (fun _=>rfl) ?_
 rintro k ⟨cU,j0⟩ s out ⟨h1,rfl,o1⟩ H
 have H:aP.l1 m a0 aO (k+1) cU j0=some out:=H
 refine qq <| qq ?_
 rcases dt H with⟨c1,H⟩| ⟨c1,H⟩
 ·obtain⟨v0,e0,H⟩:=aH H
  obtain⟨v1,e1,H⟩:=aH H
  obtain⟨r0,e2,H⟩:=aH H
  refine qr [.b 3 c1,.v 7 (aE (k:=.i64) (E:=aa) (l:=cU) (q:=0) dz o1 rfl e0),.v 8 (bf  (E:=aa) (l:=cU) (q:=0) o1 rfl A3 e0 rfl),.v 12 (aE (k:=.i64) (E:=aa) (l:=cU) (q:=0) dz o1 rfl e1),.v 13 (bf  (E:=aa) (l:=cU) (q:=0) o1 rfl A3 e1 rfl),.a 14 (Ah h1 [(aA,.sl ao.length 1 (aa.l cU))] o1 _ _ _ e2)] <| qc H (fun c2 H=>?_) (fun c2 H=>?_)
  ·refine qk <| qq <| qb 3 ?_
   obtain⟨v2,e3,H⟩:=aH H
   obtain⟨v3,e4,H⟩:=aH H
   obtain⟨v4,e5,H⟩:=aH H
   obtain⟨h2,e6,o2⟩:=dF (P:=Tryd.prog) (tf:=3) (E:=aa) (l:=cU) (q:=0) (v:=v2) (x:=.int .i64 v2) o1 rfl Z3 e5 rfl rfl
   obtain⟨v5,e7,H⟩:=aH H
   obtain⟨h3,e8,o3⟩:=dF (P:=Tryd.prog) (tf:=3) (E:=aa) (l:=(cU.set j0.toNat v2)) (q:=0) (v:=v3) (x:=.int .i64 v3) o2 rfl Z3 e7 rfl rfl
   exact qr [.v 8 (aE (k:=.i64) (E:=aa) (l:=cU) (q:=0) dz o1 rfl e3),.v 9 (bf  (E:=aa) (l:=cU) (q:=0) o1 rfl A3 e3 rfl),.v 12 (aE (k:=.i64) (E:=aa) (l:=cU) (q:=0) dz o1 rfl e4),.v 13 (bf  (E:=aa) (l:=cU) (q:=0) o1 rfl A3 e4 rfl),.v 14 (aE (k:=.i64) (E:=aa) (l:=cU) (q:=0) dz o1 rfl e5),.w 15 e6,.v 16 (aE (k:=.i64) (E:=aa) (l:=(cU.set j0.toNat v2)) (q:=0) dz o2 rfl e7),.w 17 e8] <| q0 <| ⟨((cU.set j0.toNat v2).set (i64.wrap (j0 - (1:Int))).toNat v3,i64.wrap (j0 - (1:Int))),⟨h3,by kernel_rfl,o3⟩,H⟩
  ·exact qx 2 <| ⟨rfl,cU,j0,oi H,.int .i64 j0,.bool (decide (r0<(0:Int))),h1,by kernel_rfl,o1⟩
 ·exact qr [.b 3 c1] <| C7 <| qx 2 <| ⟨rfl,cU,j0,oi H,.int .i64 j0,.bool false,h1,by kernel_rfl,o1⟩
theorem aP.bI (L:Mem)(aA:Nat)(qR:FuncId)(fw:List AV)(ao:List Int)(a0:Int)(b0:Int)(aO:Int→Int→Option (Int))  (Dg:ay (.fn qR fw) = .fn qR fw)(Ah:∀h K,Has h (K++L)→∀(a0:Int) (a1:Int) r,aO a0 a1=some r→cf qR ([.int .i64 a0,.int .i64 a1]++fw) h=some (.int .i64 r,h))  : bE Tryd.prog cf pW m (sub [1,0,0] (codeOf Tryd.f119)) (fun k (σ:(List Int) × Int)=>aP.l0 m a0 b0 aO k σ.1 σ.2) (fun σ s=>match σ with | (bk,i0)=>∃h0,s=⟨.rs aA 0 ao.length 1 :: .int .i64 a0 :: .int .i64 b0 :: .fn qR fw :: .int .i64 i0::ke [],[],h0⟩∧Has h0 ((aA,.sl ao.length 1 (aa.l bk))::L)) (fun out e s=>(e = .exit 0∧∃bk i0,(bk,i0)=out∧∃kC uy C8 ta oR Ai h0,s=⟨[kC,uy,C8,ta,oR,.any,Ai,.any],[],h0⟩∧Has h0 ((aA,.sl ao.length 1 (aa.l bk))::L))):=by
 refine gP (fun _=>rfl) ?_
 rintro k ⟨bk,i0⟩ s out ⟨h0,rfl,o0⟩ H
 have H:aP.l0 m a0 b0 aO (k+1) bk i0=some out:=H
 refine qq <| qq <| q0 <| qc H (fun c0 H=>?_) (fun c0 H=>?_)
 ·refine qk <| qq <| qb 1 <| qq <| q0 <| qb 2 ?_
  obtain⟨bq,e9,H⟩:=aH H
  refine ql (aP.eQ L aA qR fw ao a0 b0 aO i0  Dg Ah  (bk,i0) _ _ ⟨h0,by kernel_rfl,o0⟩ e9) ?_
  rintro e s ⟨rfl,dk,j1,rfl,g0,g1,h4,rfl,o4⟩
  try dsimp only at H
  exact q0 <| ⟨(dk,i64.wrap (i0+(1:Int))),⟨h4,by kernel_rfl,o4⟩,H⟩
 ·exact qx 0 <| ⟨rfl,bk,i0,oi H,.rs aA 0 ao.length 1,.int .i64 a0,.int .i64 b0,.fn qR fw,.int .i64 i0,.bool (decide (i0<b0)),h0,by kernel_rfl,o0⟩
theorem mF {aV:FuncId→cb}(ha:aV 119=pW)  (ao:List Int)(a0:Int)(b0:Int)(aO:Int→Int→Option (Int))(h:AHeap)(L:Mem)(aA:Nat)(qR:FuncId)(fw:List AV)  (Dg:ay (.fn qR fw) = .fn qR fw)(Ah:∀h K,Has h (K++L)→∀(a0:Int) (a1:Int) r,aO a0 a1=some r→cf qR ([.int .i64 a0,.int .i64 a1]++fw) h=some (.int .i64 r,h))(o:Has h ((aA,.sl ao.length 1 (aa.l ao))::L)){out:(List Int)}(H:aP.f m ao a0 b0 aO=some out) :
  ∃r h',be Tryd.prog aV cf m 119 [.rs aA 0 ao.length 1,.int .i64 a0,.int .i64 b0,.fn qR fw] h=some (r,h')∧r = .tup []∧Has h' ((aA,.sl ao.length 1 (aa.l out))::L):=by
 refine aq (fn:=Tryd.f119) ha Tryd.func119 (by kernel_rfl) (by kernel_rfl) ?_
 refine aG (Q:=fun s=>aP.fin L aA ao a0 b0 aO out s) (fun _ _ ⟨h1,h2,h3⟩=>⟨h1,_,h2,rfl,h3⟩) ?_
 have H:_=some out:=H
 unfold aP.f at H
 show de _ cf pW m _ ⟨.rs aA 0 ao.length 1 :: .int .i64 a0 :: .int .i64 b0 :: .fn qR fw::qQ [],[],h⟩ _
 refine q1 <| qb 0 ?_
 obtain⟨b9,nH,H⟩:=aH H
 refine ql (aP.bI L aA qR fw ao a0 b0 aO  Dg Ah  (ao,i64.wrap (a0+(1:Int))) _ _ ⟨h,by kernel_rfl,o⟩ nH) ?_
 rintro e s ⟨rfl,jk,i1,rfl,g2,g3,g4,g5,g6,g7,h5,rfl,o5⟩
 try dsimp only at H
 obtain rfl:=oi H
 exact⟨.inr rfl,⟨by kernel_rfl,he o5⟩⟩
end
end Go.Proofs.YtmekcfdllhphlaaDoor
namespace Go.Proofs.YtmekcfdllhphlaaDoor
open Go Go.R
open Go.IntKind (i64 u64 u8 u32)
structure Mv (lo hi:Nat)(l d:List Int):Prop where
 perm:d.Perm l
 out:∀k,k<lo∨hi≤k→gt d k=gt l k
 im:∀k,lo≤k→k<hi→∃k',lo≤k'∧k'<hi∧gt d k=gt l k'
theorem Mv.refl {lo hi:Nat}{l:List Int}:Mv lo hi l l:=⟨List.Perm.refl _,fun _ _=>rfl,fun k h1 h2=>⟨k,h1,h2,rfl⟩⟩
theorem Mv.trans {lo hi:Nat}{l d e:List Int}(a:Mv lo hi l d)(b:Mv lo hi d e):Mv lo hi l e:=
 ⟨b.perm.trans a.perm,fun k hk=>(b.out k hk).trans (a.out k hk),fun k h1 h2=>by
  obtain⟨k',g1,g2,g3⟩:=b.im k h1 h2
  obtain⟨Uj,g4,g5,g6⟩:=a.im k' g1 g2
  exact⟨Uj,g4,g5,g3.trans g6⟩⟩
theorem Mv.length {lo hi:Nat}{l d:List Int}(a:Mv lo hi l d):d.length=l.length:=a.perm.length_eq
theorem Mv.wide {lo hi GQ k9:Nat}{l d:List Int}(a:Mv lo hi l d)(h1:GQ≤lo)(h2:hi≤k9):Mv GQ k9 l d:=
 ⟨a.perm,fun k hk=>a.out k (by omega),fun k h3 h4=>by
  by_cases h:lo≤k∧k<hi
  ·obtain⟨k',g1,g2,g3⟩:=a.im k h.1 h.2
   exact⟨k',by omega,by omega,g3⟩
  ·exact⟨k,h3,h4,a.out k (by omega)⟩⟩
theorem Aj {lo hi i j:Nat}{l:List Int}(NM:lo≤i)(G7:i<hi)(NW:lo≤j)(Ee:j<hi)(h:hi≤l.length):Mv lo hi l (E3 l i j):=
 ⟨oO (by omega) (by omega),fun k hk=>by rw [kW (by omega) (by omega),if_neg (by omega),if_neg (by omega)],fun k h1 h2=>by
  rw [kW (by omega) (by omega)]
  split
  ·exact⟨i,NM,G7,rfl⟩
  split
  ·exact⟨j,NW,Ee,rfl⟩
  ·exact⟨k,h1,h2,rfl⟩⟩
def Cm (cmp:Int→Int→Option Int)(c:Int→Int→Int)(l:List Int):Prop:=∀x∈l,∀y∈l,cmp x y=some (c x y)
theorem Cm.perm {cmp c l d}(h:Cm cmp c l)(p:List.Perm d l):Cm cmp c d:=fun x hx y hy=>h x (p.mem_iff.1 hx) y (p.mem_iff.1 hy)
theorem Cm.at {cmp c}{l:List Int}(h:Cm cmp c l){i j:Nat}(hi:i<l.length)(hj:j<l.length):cmp (gt l i) (gt l j)=some (c (gt l i) (gt l j)):=h _ (aN hi) _ (aN hj)
structure Ord (c:Int→Int→Int)(l:List Int):Prop where
 tr:∀x∈l,∀y∈l,∀z∈l,0≤c y x→0≤c z y→0≤c z x
 Lc:∀x∈l,∀y∈l,c x y<0→0≤c y x
theorem Ord.perm {c l d}(h:Ord c l)(p:List.Perm d l):Ord c d:=⟨fun x hx y hy z hz=>h.tr x (p.mem_iff.1 hx) y (p.mem_iff.1 hy) z (p.mem_iff.1 hz),fun x hx y hy=>h.Lc x (p.mem_iff.1 hx) y (p.mem_iff.1 hy)⟩
def Sg (c:Int→Int→Int)(l:List Int)(a b:Nat):Prop:=∀i j,a≤i→i<j→j<b→0≤c (gt l j) (gt l i)
theorem Fb {m:Nat}{a i:Nat}{cmp:Int→Int→Option Int}{c:Int→Int→Int}:∀(f j:Nat) (d:List Int),j - a<f→a≤j→j≤i→i<d.length→d.length<2 ^ 40→Cm cmp c d→
  ∃d' x,aP.l1 m (a:Int) cmp f d (j:Int)=some (d',x)∧Mv a (i+1) d d'∧
   (Ord c d→(∀x y,a≤x→x<y→y≤i→x≠j→y≠j→0≤c (gt d y) (gt d x))→(∀y,j<y→y≤i→0≤c (gt d y) (gt d j))→Sg c d' a (i+1))
 | 0,j,d,hf,_,_,_,_,_=>absurd hf (by omega)
 | f+1,j,d,hf,h1,h2,h3,hs,C=>by
  have nF:(2:Nat) ^ 40=1099511627776:=by decide
  unfold aP.l1
  by_cases h:a<j
  ·have e1:i64.wrap ((j:Int) - 1)=((j - 1:Nat):Int):=by rw [aC (by omega) (by omega)]; omega
   rw [if_pos (by simp; omega),e1,cn (by omega),cn (by omega),V3,V3,C.at (by omega) (by omega),V3]
   by_cases hc:c (gt d j) (gt d (j - 1))<0
   ·rw [if_pos (by simpa using hc),V3,V3,V3,V9,V9,cn (by simp; omega),V3]
    obtain⟨d',x,k1,k2,k3⟩:=Fb (m:=m) (a:=a) (i:=i) (cmp:=cmp) (c:=c) f (j - 1) (E3 d j (j - 1)) (by omega) (by omega) (by omega) (by rw [tg]; omega) (by rw [tg]; omega) (C.perm (oO (by omega) (by omega)))
    refine⟨d',x,k1,(Aj (by omega) (by omega) (by omega) (by omega) (by omega)).trans k2,fun O g1 g2=>k3 (O.perm (oO (by omega) (by omega))) (fun x y x1 x2 x3 x4 x5=>?_) (fun y y1 y2=>?_)⟩
    ·rw [kW (by omega) (by omega),kW (by omega) (by omega),if_neg x5,if_neg x4]
     by_cases hy:y=j
     ·subst hy
      rw [if_pos rfl,if_neg (by omega)]
      exact g1 _ _ (by omega) (by omega) (by omega) (by omega) (by omega)
     ·rw [if_neg hy]
      by_cases hx:x=j
      ·subst hx
       rw [if_pos rfl]
       exact g1 _ _ (by omega) (by omega) (by omega) (by omega) (by omega)
      ·rw [if_neg hx]
       exact g1 _ _ (by omega) (by omega) (by omega) (by omega) (by omega)
    ·rw [kW (by omega) (by omega),kW (by omega) (by omega),if_neg (by omega),if_pos rfl]
     by_cases hy:y=j
     ·subst hy
      rw [if_pos rfl]
      exact O.Lc _ (aN (by omega)) _ (aN (by omega)) hc
     ·rw [if_neg hy]
      exact g2 _ (by omega) (by omega)
   ·rw [if_neg (by simpa using hc)]
    refine⟨d,j,rfl,Mv.refl,fun O g1 g2 x y x1 x2 x3=>?_⟩
    have hc:0≤c (gt d j) (gt d (j - 1)):=by omega
    by_cases hx:x=j
    ·subst hx; exact g2 _ x2 (by omega)
    ·by_cases hy:y=j
     ·subst hy
      by_cases hx1:x=y - 1
      ·subst hx1; exact hc
      ·exact O.tr _ (aN (by omega)) (gt d (y - 1)) (aN (by omega)) _ (aN (by omega)) (g1 _ _ x1 (by omega) (by omega) hx (by omega)) hc
     ·exact g1 _ _ x1 x2 (by omega) hx hy
  ·have:j=a:=by omega
   subst this
   rw [if_neg (by simp)]
   refine⟨d,j,rfl,Mv.refl,fun O g1 g2 x y x1 x2 x3=>?_⟩
   by_cases hx:x=j
   ·subst hx; exact g2 _ x2 (by omega)
   ·exact g1 _ _ x1 x2 (by omega) hx (by omega)
theorem Fc {m:Nat}{a b:Nat}{cmp:Int→Int→Option Int}{c:Int→Int→Int}(hm:2 ^ 41≤m):∀(f i:Nat) (d:List Int),b - i<f→a<i→b≤d.length→d.length<2 ^ 40→Cm cmp c d→
  ∃d' x,aP.l0 m (a:Int) (b:Int) cmp f d (i:Int)=some (d',x)∧Mv a b d d'∧(Ord c d→Sg c d a i→Sg c d' a b)
 | 0,i,d,hf,_,_,_,_=>absurd hf (by omega)
 | f+1,i,d,hf,h1,h2,hs,C=>by
  have nF:(2:Nat) ^ 40=1099511627776:=by decide
  have rl:(2:Nat) ^ 41=2199023255552:=by decide
  unfold aP.l0
  by_cases h:i<b
  ·obtain⟨d1,x1,k1,k2,k3⟩:=Fb (m:=m) (a:=a) (i:=i) (cmp:=cmp) (c:=c) m i d (by omega) (by omega) (by omega) (by omega) hs C
   have e3:i64.wrap ((i:Int)+1)=((i+1:Nat):Int):=by rw [aC (by omega) (by omega)]; omega
   rw [if_pos (by simp; omega),k1,V3]
   dsimp only
   rw [e3]
   have hl:=k2.length
   obtain⟨d',x,g1,g2,g3⟩:=Fc (a:=a) (b:=b) (cmp:=cmp) (c:=c) hm f (i+1) d1 (by omega) (by omega) (by omega) (by omega) (C.perm k2.perm)
   exact⟨d',x,g1,(k2.wide (V7 _) (by omega)).trans g2,fun O S=>g3 (O.perm k2.perm) (k3 O (fun x y q1 q2 q3 q4 q5=>S x y q1 q2 (by omega)) (fun y q1 q2=>absurd q1 (by omega)))⟩
  ·exact⟨d,i,by rw [if_neg (by simp; omega)],Mv.refl,fun O S x y q1 q2 q3=>S x y q1 q2 (by omega)⟩
theorem yC {m:Nat}{a b:Nat}{cmp:Int→Int→Option Int}{c:Int→Int→Int}(hm:2 ^ 41≤m){l:List Int}(ha:a≤l.length)(hb:b≤l.length)(hs:l.length<2 ^ 40)(C:Cm cmp c l) :
  ∃d,aP.f m l (a:Int) (b:Int) cmp=some d∧Mv a b l d∧(Ord c l→Sg c d a b):=by
 have nF:(2:Nat) ^ 40=1099511627776:=by decide
 have rl:(2:Nat) ^ 41=2199023255552:=by decide
 have e3:i64.wrap ((a:Int)+1)=((a+1:Nat):Int):=by rw [aC (by omega) (by omega)]; omega
 obtain⟨d',x,g1,g2,g3⟩:=Fc (a:=a) (b:=b) (cmp:=cmp) (c:=c) hm m (a+1) l (by omega) (by omega) hb hs C
 exact⟨d',by unfold aP.f; rw [e3,g1]; rfl,g2,fun O=>g3 O fun x y q1 q2 q3=>absurd q3 (by omega)⟩
end Go.Proofs.YtmekcfdllhphlaaDoor
