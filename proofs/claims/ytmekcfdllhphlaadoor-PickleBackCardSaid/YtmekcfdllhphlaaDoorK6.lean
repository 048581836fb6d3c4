/- Part of the proof: Q123, Q122, PS1, Q118, Q106, Q77, Q107, Q78, Q79, Q80, Q62, Q52, Q34, Q51, Q32, PT6, Q119, PS2. -/
import Derived.Test.YtmekcfdllhphlaaDoorK5
set_option linter.unusedVariables false
set_option linter.unusedSimpArgs false
set_option maxRecDepth 100000
open Bool renaming and_eq_true → WR, or_eq_true → XC, true_and → X2
open ByteArray renaming mk → Xf
open Int renaming toNat_natCast → WT
open List renaming getElem?_eq_some_iff → WU, drop_eq_getElem_cons → WZ, getElem?_eq_getElem → W2, append_assoc → W3, getElem?_eq_none → W6, getD_eq_getElem?_getD → W7, length_cons → W9, cons_append → Xe, drop_eq_nil_of_le → Xk, drop_zero → Xl, nil_append → Xm, getElem?_cons_zero → Xv, ext_getElem? → XE, length_nil → XI, getElem_mem → XJ, all_cons → XK, mem_of_getElem? → XQ, getElem?_set → Ya
open Nat renaming le_refl → WQ
open Option renaming bind_some → WL
open Option.some renaming injEq → WO, inj → Xj
open Or renaming inr → XH, inl → X6
namespace Go.Proofs.YtmekcfdllhphlaaDoor
open Go Go.R
open Go.IntKind (i64 u64 u8 u32)
def tt:cg:=gk [0,1,2,3,10,13] [] [32,0,32,32] [] []
def bY.l0 (m:Nat)(a0:Int)(b0:Int)(n0:Int):Nat→(List Int)→Int→Option ((List Int) × Int)
 | 0,_,_=>none
 | k+1,bl,i0=>if (decide (i0<n0))=true then ((ix bl (i64.wrap (b0+i0))).bind fun v0=>(ix bl (i64.wrap (a0+i0))).bind fun v1=>(ix bl (i64.wrap (a0+i0))).bind fun v2=>(ix (bl.set (i64.wrap (a0+i0)).toNat v0) (i64.wrap (b0+i0))).bind fun v3=>bY.l0 m a0 b0 n0 k ((bl.set (i64.wrap (a0+i0)).toNat v0).set (i64.wrap (b0+i0)).toNat v1) (i64.wrap (i0+(1:Int)))) else (some ((bl,i0)))
def bY.f (m:Nat)(aq:List Int)(a0:Int)(b0:Int)(n0:Int)(aN:Int→Int→Option (Int)):Option ((List Int)):=(bY.l0 m a0 b0 n0 m aq (0:Int)).bind fun bq=>match bq with | (da,i1)=>some da
def bY.fin (L:Mem)(aB:Nat)(aq:List Int)(a0:Int)(b0:Int)(n0:Int)(aN:Int→Int→Option (Int))(r:(List Int))(s:St):Prop:=aI Tryd.prog (s.open tt) Tryd.f123.results.toList=some (.tup [])∧Has s.h ((aB,.sl aq.length 1 (aa.l r))::L)
def Km (cf:CallF)(m:Nat):Prop:=∀(aq:List Int) (a0:Int) (b0:Int) (n0:Int) (aN:Int→Int→Option (Int)) (r:(List Int)),bY.f m aq a0 b0 n0 aN=some r→∀h L (cz:Nat) (aB:Nat),Has h ((aB,.sl cz 1 (aa.l aq))::L)→∀(en:FuncId) (aW:List AV),ay (.fn en aW) = .fn en aW→(∀h K,Has h (K++L)→∀(a0:Int) (a1:Int) r,aN a0 a1=some r→cf en ([.int .i64 a0,.int .i64 a1]++aW) h=some (.int .i64 r,h))→∀xs,xs.map ay=[.rs aB 0 cz 1,.int .i64 a0,.int .i64 b0,.int .i64 n0,.fn en aW]→∃h',cf 123 xs h=some (.tup [],h')∧Has h' ((aB,.sl cz 1 (aa.l r))::L)
section
variable {cf:CallF}{m:Nat}
theorem bY.bG (L:Mem)(aB:Nat)(en:FuncId)(aW:List AV)(aq:List Int)(a0:Int)(b0:Int)(n0:Int)(aN:Int→Int→Option (Int))  (gz:ay (.fn en aW) = .fn en aW)(hH:∀h K,Has h (K++L)→∀(a0:Int) (a1:Int) r,aN a0 a1=some r→cf en ([.int .i64 a0,.int .i64 a1]++aW) h=some (.int .i64 r,h))  : bI Tryd.prog cf tt m (sub [1,0,0] (codeOf Tryd.f123)) (fun k (σ:(List Int) × Int)=>bY.l0 m a0 b0 n0 k σ.1 σ.2) (fun σ s=>match σ with | (bl,i0)=>∃h0,s=⟨[.rs aB 0 aq.length 1,.int .i64 a0,.int .i64 b0,.int .i64 n0,.int .i64 i0,.any],[],h0⟩∧Has h0 ((aB,.sl aq.length 1 (aa.l bl))::L)) (fun out e s=>(e = .exit 0∧∃bl i0,(bl,i0)=out∧∃kp rF Ay tu tv nQ h0,s=⟨[kp,rF,Ay,tu,tv,nQ],[],h0⟩∧Has h0 ((aB,.sl aq.length 1 (aa.l bl))::L))):=by
 refine gS (fun _=>rfl) ?_
 rintro k ⟨bl,i0⟩ s out ⟨h0,rfl,o0⟩ H
 have H:bY.l0 m a0 b0 n0 (k+1) bl i0=some out:=H
 refine qq <| qq <| q0 <| qc H (fun c0 H=>?_) (fun c0 H=>?_)
 ·refine qk <| qq <| qb 1 ?_
  obtain⟨v0,e0,H⟩:=aJ H
  obtain⟨v1,e1,H⟩:=aJ H
  obtain⟨v2,e2,H⟩:=aJ H
  obtain⟨h1,e3,o1⟩:=dJ (P:=Tryd.prog) (tf:=3) (E:=aa) (l:=bl) (q:=0) (v:=v0) (x:=.int .i64 v0) o0 rfl Z3 e2 rfl rfl
  obtain⟨v3,e4,H⟩:=aJ H
  obtain⟨h2,e5,o2⟩:=dJ (P:=Tryd.prog) (tf:=3) (E:=aa) (l:=(bl.set (i64.wrap (a0+i0)).toNat v0)) (q:=0) (v:=v1) (x:=.int .i64 v1) o1 rfl Z3 e4 rfl rfl
  exact qr [.v 12 (aH (k:=.i64) (E:=aa) (l:=bl) (q:=0) dC o0 rfl e0),.v 13 (bg  (E:=aa) (l:=bl) (q:=0) o0 rfl A3 e0 rfl),.v 18 (aH (k:=.i64) (E:=aa) (l:=bl) (q:=0) dC o0 rfl e1),.v 19 (bg  (E:=aa) (l:=bl) (q:=0) o0 rfl A3 e1 rfl),.v 20 (aH (k:=.i64) (E:=aa) (l:=bl) (q:=0) dC o0 rfl e2),.w 21 e3,.v 22 (aH (k:=.i64) (E:=aa) (l:=(bl.set (i64.wrap (a0+i0)).toNat v0)) (q:=0) dC o1 rfl e4),.w 23 e5] <| q0 <| ⟨((bl.set (i64.wrap (a0+i0)).toNat v0).set (i64.wrap (b0+i0)).toNat v1,i64.wrap (i0+(1:Int))),⟨h2,by kernel_rfl,o2⟩,H⟩
 ·exact qx 0 <| ⟨rfl,bl,i0,oi H,.rs aB 0 aq.length 1,.int .i64 a0,.int .i64 b0,.int .i64 n0,.int .i64 i0,.bool (decide (i0<n0)),h0,by kernel_rfl,o0⟩
theorem rG {aS:FuncId→cg}(ha:aS 123=tt)  (aq:List Int)(a0:Int)(b0:Int)(n0:Int)(aN:Int→Int→Option (Int))(h:AHeap)(L:Mem)(aB:Nat)(en:FuncId)(aW:List AV)  (gz:ay (.fn en aW) = .fn en aW)(hH:∀h K,Has h (K++L)→∀(a0:Int) (a1:Int) r,aN a0 a1=some r→cf en ([.int .i64 a0,.int .i64 a1]++aW) h=some (.int .i64 r,h))(o:Has h ((aB,.sl aq.length 1 (aa.l aq))::L)){out:(List Int)}(H:bY.f m aq a0 b0 n0 aN=some out) :
  ∃r h',a7 Tryd.prog aS cf m 123 [.rs aB 0 aq.length 1,.int .i64 a0,.int .i64 b0,.int .i64 n0,.fn en aW] h=some (r,h')∧r = .tup []∧Has h' ((aB,.sl aq.length 1 (aa.l out))::L):=by
 refine ak (fn:=Tryd.f123) ha Tryd.func123 (by kernel_rfl) (by kernel_rfl) ?_
 refine aF (Q:=fun s=>bY.fin L aB aq a0 b0 n0 aN out s) (fun _ _ ⟨h1,h2,h3⟩=>⟨h1,_,h2,rfl,h3⟩) ?_
 have H:_=some out:=H
 unfold bY.f at H
 show de _ cf tt m _ ⟨[.rs aB 0 aq.length 1,.int .i64 a0,.int .i64 b0,.int .i64 n0,.any,.any],[],h⟩ _
 refine q1 <| qb 0 ?_
 obtain⟨bq,e6,H⟩:=aJ H
 refine ql (bY.bG L aB en aW aq a0 b0 n0 aN  gz hH  (aq,(0:Int)) _ _ ⟨h,by kernel_rfl,o⟩ e6) ?_
 rintro e s ⟨rfl,da,i1,rfl,g0,g1,g2,g3,g4,g5,h3,rfl,o3⟩
 try dsimp only at H
 obtain rfl:=oi H
 exact⟨.inr rfl,⟨by kernel_rfl,he o3⟩⟩
end
end Go.Proofs.YtmekcfdllhphlaaDoor
namespace Go.Proofs.YtmekcfdllhphlaaDoor
open Go Go.R
open Go.IntKind (i64 u64 u8 u32)
def tw:cg:=gk [0,1,2,3,4,10,11,20,23] [] [450,394,266,138,394,394,394,394,511] [] []
def eD.l0 (m:Nat)(m0:Int)(aN:Int→Int→Option (Int)):Nat→(List Int)→Int→Int→Option ((List Int) × Int × Int)
 | 0,_,_,_=>none
 | k+1,bl,i0,j0=>if (!(i0==j0))=true then (if (decide (i0 > j0))=true then ((bY.f m bl (i64.wrap (m0 - i0)) m0 j0 aN).bind fun x0=>eD.l0 m m0 aN k x0 (i64.wrap (i0 - j0)) j0) else ((bY.f m bl (i64.wrap (m0 - i0)) (i64.wrap (i64.wrap (m0+j0) - i0)) i0 aN).bind fun x1=>eD.l0 m m0 aN k x1 i0 (i64.wrap (j0 - i0)))) else (some ((bl,i0,j0)))
def eD.f (m:Nat)(aq:List Int)(a0:Int)(m0:Int)(b0:Int)(aN:Int→Int→Option (Int)):Option ((List Int)):=(eD.l0 m m0 aN m aq (i64.wrap (m0 - a0)) (i64.wrap (b0 - m0))).bind fun bq=>match bq with | (da,i1,j1)=>(bY.f m da (i64.wrap (m0 - i1)) m0 i1 aN).bind fun x2=>some x2
def eD.fin (L:Mem)(aB:Nat)(aq:List Int)(a0:Int)(m0:Int)(b0:Int)(aN:Int→Int→Option (Int))(r:(List Int))(s:St):Prop:=aI Tryd.prog (s.open tw) Tryd.f122.results.toList=some (.tup [])∧Has s.h ((aB,.sl aq.length 1 (aa.l r))::L)
def MO (cf:CallF)(m:Nat):Prop:=∀(aq:List Int) (a0:Int) (m0:Int) (b0:Int) (aN:Int→Int→Option (Int)) (r:(List Int)),eD.f m aq a0 m0 b0 aN=some r→∀h L (cz:Nat) (aB:Nat),Has h ((aB,.sl cz 1 (aa.l aq))::L)→∀(en:FuncId) (aW:List AV),ay (.fn en aW) = .fn en aW→(∀h K,Has h (K++L)→∀(a0:Int) (a1:Int) r,aN a0 a1=some r→cf en ([.int .i64 a0,.int .i64 a1]++aW) h=some (.int .i64 r,h))→∀xs,xs.map ay=[.rs aB 0 cz 1,.int .i64 a0,.int .i64 m0,.int .i64 b0,.fn en aW]→∃h',cf 122 xs h=some (.tup [],h')∧Has h' ((aB,.sl cz 1 (aa.l r))::L)
section
variable {cf:CallF}{m:Nat}
theorem eD.bG (L:Mem)(aB:Nat)(en:FuncId)(aW:List AV)(aq:List Int)(a0:Int)(m0:Int)(b0:Int)(aN:Int→Int→Option (Int))  (gz:ay (.fn en aW) = .fn en aW)(hH:∀h K,Has h (K++L)→∀(a0:Int) (a1:Int) r,aN a0 a1=some r→cf en ([.int .i64 a0,.int .i64 a1]++aW) h=some (.int .i64 r,h))(yJ:Km cf m):bI Tryd.prog cf tw m (sub [1,1,0,0,0] (codeOf Tryd.f122)) (fun k (σ:(List Int) × Int × Int)=>eD.l0 m m0 aN k σ.1 σ.2.1 σ.2.2) (fun σ s=>match σ with | (bl,i0,j0)=>∃h0,s=⟨[.rs aB 0 aq.length 1,.any,.int .i64 m0,.any,.fn en aW,.int .i64 i0,.int .i64 j0,.any,.any],[],h0⟩∧Has h0 ((aB,.sl aq.length 1 (aa.l bl))::L)) (fun out e s=>(e = .exit 0∧∃bl i0 j0,(bl,i0,j0)=out∧∃Fh PH h0,s=⟨[.rs aB 0 aq.length 1,.any,.int .i64 m0,.any,.fn en aW,.int .i64 i0,Fh,PH,.any],[],h0⟩∧Has h0 ((aB,.sl aq.length 1 (aa.l bl))::L))):=by
 refine gS (fun _=>rfl) ?_
 rintro k ⟨bl,i0,j0⟩ s out ⟨h0,rfl,o0⟩ H
 have H:eD.l0 m m0 aN (k+1) bl i0 j0=some out:=H
 refine qq <| qq <| q0 <| qc H (fun c0 H=>?_) (fun c0 H=>?_)
 ·refine qk <| qb 1 <| qq <| q0 <| qc H (fun c1 H=>?_) (fun c1 H=>?_)
  ·refine qq ?_
   obtain⟨x0,e0,H⟩:=aJ H
   obtain⟨h1,e1,o1⟩:=yJ _ _ _ _ _ _ e0 h0 _ _ _ (o0) en aW gz (fun h' K' o'=>hH h' (K'++[]) (by simpa only [W3,Xe,Xm] using o')) [.rs aB 0 aq.length 1,.int .i64 (i64.wrap (m0 - i0)),.int .i64 m0,.int .i64 j0,.fn en aW] (ao (rfl) (ao (aO (bD)) (ao (aO (bD)) (ao (aO (bD)) (ao (gz) (bj))))))
   exact qr [.a 7 e1] <| q0 <| ⟨(x0,i64.wrap (i0 - j0),j0),⟨h1,by kernel_rfl,o1⟩,H⟩
  ·refine qq ?_
   obtain⟨x1,e2,H⟩:=aJ H
   obtain⟨h2,e3,o2⟩:=yJ _ _ _ _ _ _ e2 h0 _ _ _ (o0) en aW gz (fun h' K' o'=>hH h' (K'++[]) (by simpa only [W3,Xe,Xm] using o')) [.rs aB 0 aq.length 1,.int .i64 (i64.wrap (m0 - i0)),.int .i64 (i64.wrap (i64.wrap (m0+j0) - i0)),.int .i64 i0,.fn en aW] (ao (rfl) (ao (aO (bD)) (ao (aO (bD)) (ao (aO (bD)) (ao (gz) (bj))))))
   exact qr [.a 11 e3] <| q0 <| ⟨(x1,i0,i64.wrap (j0 - i0)),⟨h2,by kernel_rfl,o2⟩,H⟩
 ·exact qx 0 <| ⟨rfl,bl,i0,j0,oi H,.int .i64 j0,.bool (!(i0==j0)),h0,by kernel_rfl,o0⟩
theorem wX {aS:FuncId→cg}(ha:aS 122=tw)(yJ:Km cf m)(aq:List Int)(a0:Int)(m0:Int)(b0:Int)(aN:Int→Int→Option (Int))(h:AHeap)(L:Mem)(aB:Nat)(en:FuncId)(aW:List AV)  (gz:ay (.fn en aW) = .fn en aW)(hH:∀h K,Has h (K++L)→∀(a0:Int) (a1:Int) r,aN a0 a1=some r→cf en ([.int .i64 a0,.int .i64 a1]++aW) h=some (.int .i64 r,h))(o:Has h ((aB,.sl aq.length 1 (aa.l aq))::L)){out:(List Int)}(H:eD.f m aq a0 m0 b0 aN=some out) :
  ∃r h',a7 Tryd.prog aS cf m 122 [.rs aB 0 aq.length 1,.int .i64 a0,.int .i64 m0,.int .i64 b0,.fn en aW] h=some (r,h')∧r = .tup []∧Has h' ((aB,.sl aq.length 1 (aa.l out))::L):=by
 refine ak (fn:=Tryd.f122) ha Tryd.func122 (by kernel_rfl) (by kernel_rfl) ?_
 refine aF (Q:=fun s=>eD.fin L aB aq a0 m0 b0 aN out s) (fun _ _ ⟨h1,h2,h3⟩=>⟨h1,_,h2,rfl,h3⟩) ?_
 have H:_=some out:=H
 unfold eD.f at H
 show de _ cf tw m _ ⟨.rs aB 0 aq.length 1 :: .int .i64 a0 :: .int .i64 m0 :: .int .i64 b0 :: .fn en aW::re [],[],h⟩ _
 refine q1 <| qq <| q0 <| qq <| qb 0 ?_
 obtain⟨bq,e4,H⟩:=aJ H
 refine ql (eD.bG L aB en aW aq a0 m0 b0 aN  gz hH yJ (aq,i64.wrap (m0 - a0),i64.wrap (b0 - m0)) _ _ ⟨h,by kernel_rfl,o⟩ e4) ?_
 rintro e s ⟨rfl,da,i1,j1,rfl,g0,g1,h3,rfl,o3⟩
 try dsimp only at H
 obtain⟨x2,e5,H⟩:=aJ H
 obtain⟨h4,e6,o4⟩:=yJ _ _ _ _ _ _ e5 h3 _ _ _ (o3) en aW gz (fun h' K' o'=>hH h' (K'++[]) (by simpa only [W3,Xe,Xm] using o')) [.rs aB 0 aq.length 1,.int .i64 (i64.wrap (m0 - i1)),.int .i64 m0,.int .i64 i1,.fn en aW] (ao (rfl) (ao (aO (bD)) (ao (aO (bD)) (ao (aO (bD)) (ao (gz) (bj))))))
 obtain rfl:=oi H
 exact qr [.a 7 e6] <| ⟨.inr rfl,⟨by kernel_rfl,he o4⟩⟩
end
end Go.Proofs.YtmekcfdllhphlaaDoor
namespace Go.Proofs.YtmekcfdllhphlaaDoor
open Go Go.R
open Go.IntKind (i64 u64 u8 u32)
def gt (l:List Int)(k:Nat):Int:=l.getD k 0
theorem bw {l:List Int}{k:Nat}(h:k<l.length):l[k]? = some (gt l k):=by
 unfold gt; rw [W7,W2 h]; rfl
theorem aM {l:List Int}{k:Nat}(h:k<l.length):gt l k∈l:=XQ (bw h)
theorem cC {l:List Int}{k:Nat}(h:k<l.length):ix l (k:Int)=some (gt l k):=by
 unfold ix; rw [if_pos (by omega),WT,bw h]
theorem gd {l:List Int}{i:Int}{k:Nat}(hi:i=(k:Int))(h:k<l.length):ix l i=some (gt l k):=by rw [hi,cC h]
theorem ez {l:List Int}{i k:Nat}{x:Int}(hi:i<l.length):gt (l.set i x) k=if k=i then x else gt l k:=by
 unfold gt
 simp only [W7,Ya]
 by_cases h:i=k
 ·subst h; simp [hi]
 ·rw [if_neg h,if_neg (by omega)]
theorem Fi {l r:List Int}(hl:l.length=r.length)(h:∀k,k<l.length→gt l k=gt r k):l=r:=by
 apply XE fun k=>?_
 by_cases hk:k<l.length
 ·rw [bw hk,bw (hl ▸ hk),h k hk]
 ·rw [W6 (by omega),W6 (by omega)]
def Fj (l:List Int)(i j:Nat):List Int:=(l.set i (gt l j)).set j (gt l i)
theorem pb {l:List Int}{i j:Nat}(hi:i<l.length)(hj:j<l.length):(Fj l i j).Perm l:=by
 have h1:gt l j=l[j]:=by have:=bw hj; rw [W2 hj] at this; exact (Xj this).symm
 have h2:gt l i=l[i]:=by have:=bw hi; rw [W2 hi] at this; exact (Xj this).symm
 unfold Fj; rw [h1,h2]; exact List.set_set_perm hi hj
theorem lk {l:List Int}{i j k:Nat}(hi:i<l.length)(hj:j<l.length):gt (Fj l i j) k=if k=j then gt l i else if k=i then gt l j else gt l k:=by
 unfold Fj
 rw [ez (by simpa using hj),ez hi]
theorem tz {l:List Int}{i j:Nat}:(Fj l i j).length=l.length:=by simp [Fj]
theorem yK {a b:Nat}(h:a+b<9223372036854775808):i64.wrap (gj .u64 (u64.wrap (i64.wrap ((a:Int)+(b:Int)))) 1)=(((a+b) / 2:Nat):Int):=by
 rw [aD (x:=(a:Int)+b) (by omega) (by omega),ic (by omega) (by omega)]
 have:gj .u64 ((a:Int)+(b:Int)) 1=(((a+b) / 2:Nat):Int):=by
  unfold gj
  rw [Int.fdiv_eq_ediv_of_nonneg _ (by decide)]
  show ((a:Int)+(b:Int)) / 2=_
  omega
 rw [this,aD (by omega) (by omega)]
theorem Fk {m:Nat}{l:List Int}{a b n:Nat}(h1:a+n≤b)(h2:b+n≤l.length)(hl:l.length<2 ^ 40):∀(f i:Nat) (d:List Int),n - i<f→i≤n→d.Perm l→
  (∀k,gt d k=if a≤k∧k<a+i then gt l (k - a+b) else if b≤k∧k<b+i then gt l (k - b+a) else gt l k)→
  ∃d' x,bY.l0 m (a:Int) (b:Int) (n:Int) f d (i:Int)=some (d',x)∧d'.Perm l∧(∀k,gt d' k=if a≤k∧k<a+n then gt l (k - a+b) else if b≤k∧k<b+n then gt l (k - b+a) else gt l k)
 | 0,i,d,hf,_,_,_=>absurd hf (by omega)
 | f+1,i,d,hf,hi,hp,hg=>by
  have nR:(2:Nat) ^ 40=1099511627776:=by decide
  have PI:=hp.length_eq
  unfold bY.l0
  by_cases h:i<n
  ·have e1:i64.wrap ((b:Int)+(i:Int))=((b+i:Nat):Int):=by rw [aD (by omega) (by omega)]; omega
   have e2:i64.wrap ((a:Int)+(i:Int))=((a+i:Nat):Int):=by rw [aD (by omega) (by omega)]; omega
   have e3:i64.wrap ((i:Int)+1)=((i+1:Nat):Int):=by rw [aD (by omega) (by omega)]; omega
   rw [if_pos (by simp; omega),e1,e2,e3,cC (by omega),cC (by omega),WT,WT,WL,WL,WL,cC (by simp; omega),WL]
   show ∃d' x,bY.l0 m (a:Int) (b:Int) (n:Int) f (Fj d (a+i) (b+i)) ((i+1:Nat):Int)=some (d',x)∧_
   refine Fk h1 h2 hl f (i+1) _ (by omega) (by omega) ((pb (by omega) (by omega)).trans hp) fun k=>?_
   rw [lk (by omega) (by omega),hg,hg,hg]
   by_cases k1:k=b+i
   ·subst k1
    rw [if_pos rfl,if_neg (by omega),if_neg (by omega),if_neg (by omega),if_pos (by omega)]
    congr 1; omega
   ·rw [if_neg k1]
    by_cases k2:k=a+i
    ·subst k2
     rw [if_pos rfl,if_neg (by omega),if_neg (by omega),if_pos (by omega)]
     congr 1; omega
    ·rw [if_neg k2]
     by_cases k3:a≤k∧k<a+i
     ·rw [if_pos k3,if_pos (by omega)]
     ·rw [if_neg k3,if_neg (show ¬(a≤k∧k<a+(i+1)) by omega)]
      by_cases k4:b≤k∧k<b+i
      ·rw [if_pos k4,if_pos (by omega)]
      ·rw [if_neg k4,if_neg (by omega)]
  ·have:i=n:=by omega
   subst this
   exact⟨d,i,by rw [if_neg (by simp)],hp,hg⟩
theorem tA {m:Nat}{l:List Int}{a b n:Nat}{cmp:Int→Int→Option Int}(h1:a+n≤b)(h2:b+n≤l.length)(hl:l.length<2 ^ 40)(hm:n<m) :
  ∃d',bY.f m l (a:Int) (b:Int) (n:Int) cmp=some d'∧d'.Perm l∧(∀k,gt d' k=if a≤k∧k<a+n then gt l (k - a+b) else if b≤k∧k<b+n then gt l (k - b+a) else gt l k):=by
 obtain⟨d',x,e,hp,hg⟩:=Fk (m:=m) h1 h2 hl m 0 l (by omega) (by omega) (List.Perm.refl _) (fun k=>by rw [if_neg (by omega),if_neg (by omega)])
 have e:bY.l0 m (a:Int) (b:Int) (n:Int) m l 0=_:=e
 exact⟨d',by unfold bY.f; rw [e]; rfl,hp,hg⟩
def Ly (l d:List Int)(p i j:Nat):Prop:=d.Perm l∧(∀k,k<j→gt d (p+k)=gt l (p+i+k))∧(∀k,k<i→gt d (p+j+k)=gt l (p+k))∧∀k,k<p∨p+i+j≤k→gt d k=gt l k
theorem Az {m:Nat}{q:Nat}{cmp:Int→Int→Option Int}(hm:2 ^ 41≤m):∀(f i j:Nat) (l:List Int),i+j<f→0<i→0<j→i≤q→q+j≤l.length→l.length<2 ^ 40→
  ∃(d':List Int) (x:Nat) (d:List Int),eD.l0 m (q:Int) cmp f l (i:Int) (j:Int)=some (d',(x:Int),(x:Int))∧bY.f m d' (i64.wrap ((q:Int) - (x:Int))) (q:Int) (x:Int) cmp=some d∧Ly l d (q - i) i j
 | 0,i,j,l,hf,_,_,_,_,_=>absurd hf (by omega)
 | f+1,i,j,l,hf,hi,hj,hq,hl,hs=>by
  have nR:(2:Nat) ^ 40=1099511627776:=by decide
  have rl:(2:Nat) ^ 41=2199023255552:=by decide
  unfold eD.l0
  have e1:i64.wrap ((q:Int) - (i:Int))=((q - i:Nat):Int):=by rw [aD (by omega) (by omega)]; omega
  by_cases h:i=j
  ·subst h
   rw [if_neg (by simp)]
   obtain⟨d,e,hp,hg⟩:=tA (m:=m) (l:=l) (a:=q - i) (b:=q) (n:=i) (cmp:=cmp) (by omega) (by omega) hs (by omega)
   refine⟨l,i,d,rfl,by rw [e1,e],hp,fun k hk=>?_,fun k hk=>?_,fun k hk=>?_⟩
   ·rw [hg,if_pos (by omega)]; congr 1; omega
   ·rw [hg,if_neg (by omega),if_pos (by omega)]; congr 1; omega
   ·rw [hg,if_neg (by omega),if_neg (by omega)]
  ·rw [if_pos (by simp; omega)]
   by_cases h2:j<i
   ·obtain⟨d1,e,hp,hg⟩:=tA (m:=m) (l:=l) (a:=q - i) (b:=q) (n:=j) (cmp:=cmp) (by omega) (by omega) hs (by omega)
    have hd:=hp.length_eq
    have e2:i64.wrap ((i:Int) - (j:Int))=((i - j:Nat):Int):=by rw [aD (by omega) (by omega)]; omega
    rw [if_pos (by simp; omega),e1,e,WL,e2]
    obtain⟨d',x,d,k1,k2,k3,k4,k5,k6⟩:=Az (q:=q) (cmp:=cmp) hm f (i - j) j d1 (by omega) (by omega) hj (by omega) (by omega) (by omega)
    refine⟨d',x,d,k1,k2,k3.trans hp,fun k hk=>?_,fun k hk=>?_,fun k hk=>?_⟩
    ·rw [k6 _ (by omega),hg,if_pos (by omega)]; congr 1; omega
    ·by_cases Lz:k<j
     ·have:=k4 k Lz
      rw [show q - (i - j)+k=q - i+j+k by omega,hg,if_neg (by omega),if_pos (by omega)] at this
      rw [this]; congr 1; omega
     ·have:=k5 (k - j) (by omega)
      rw [show q - (i - j)+j+(k - j)=q - i+j+k by omega,hg,if_neg (by omega),if_neg (by omega)] at this
      rw [this]; congr 1; omega
    ·rw [k6 _ (by omega),hg,if_neg (by omega),if_neg (by omega)]
   ·have e2:i64.wrap (i64.wrap ((q:Int)+(j:Int)) - (i:Int))=((q+j - i:Nat):Int):=by rw [aD (x:=(q:Int)+j) (by omega) (by omega),aD (by omega) (by omega)]; omega
    have e3:i64.wrap ((j:Int) - (i:Int))=((j - i:Nat):Int):=by rw [aD (by omega) (by omega)]; omega
    obtain⟨d1,e,hp,hg⟩:=tA (m:=m) (l:=l) (a:=q - i) (b:=q+j - i) (n:=i) (cmp:=cmp) (by omega) (by omega) hs (by omega)
    have hd:=hp.length_eq
    rw [if_neg (by simp; omega),e1,e2,e,WL,e3]
    obtain⟨d',x,d,k1,k2,k3,k4,k5,k6⟩:=Az (q:=q) (cmp:=cmp) hm f i (j - i) d1 (by omega) hi (by omega) hq (by omega) (by omega)
    refine⟨d',x,d,k1,k2,k3.trans hp,fun k hk=>?_,fun k hk=>?_,fun k hk=>?_⟩
    ·by_cases Lz:k<j - i
     ·rw [k4 k Lz,hg,if_neg (by omega),if_neg (by omega)]
     ·have:=k5 (k - (j - i)) (by omega)
      rw [show q - i+(j - i)+(k - (j - i))=q - i+k by omega,hg,if_pos (by omega)] at this
      rw [this]; congr 1; omega
    ·rw [k6 _ (by omega),hg,if_neg (by omega),if_pos (by omega)]; congr 1; omega
    ·rw [k6 _ (by omega),hg,if_neg (by omega),if_neg (by omega)]
theorem Fl {m:Nat}{a q b:Nat}{cmp:Int→Int→Option Int}{l:List Int}(hm:2 ^ 41≤m)(h1:a<q)(h2:q<b)(h3:b≤l.length)(hs:l.length<2 ^ 40) :
  ∃d,eD.f m l (a:Int) (q:Int) (b:Int) cmp=some d∧Ly l d a (q - a) (b - q):=by
 have nR:(2:Nat) ^ 40=1099511627776:=by decide
 have rl:(2:Nat) ^ 41=2199023255552:=by decide
 obtain⟨d',x,d,k1,k2,k3⟩:=Az (q:=q) (cmp:=cmp) hm m (q - a) (b - q) l (by omega) (by omega) (by omega) (by omega) (by omega) hs
 rw [show q - (q - a)=a by omega] at k3
 refine⟨d,?_,k3⟩
 unfold eD.f
 rw [show i64.wrap ((q:Int) - (a:Int))=((q - a:Nat):Int) by rw [aD (by omega) (by omega)]; omega,show i64.wrap ((b:Int) - (q:Int))=((b - q:Nat):Int) by rw [aD (by omega) (by omega)]; omega,k1,WL]
 dsimp only
 rw [k2]; rfl
end Go.Proofs.YtmekcfdllhphlaaDoor
namespace Go.Proofs.YtmekcfdllhphlaaDoor
open Go Go.R
open Go.IntKind (i64 u64 u8 u32)
def wY:cg:=gk [0,2] [] [2,1] [] []
def fF.f (m:Nat)(c0:Int):Option (Bool):=if (decide (c0≥(97:Int)))=true then (if (decide (c0≤(122:Int)))=true then (some true) else (if (decide (c0≥(65:Int)))=true then (if (decide (c0≤(90:Int)))=true then (some true) else (if (decide (c0≥(48:Int)))=true then (if (decide (c0≤(57:Int)))=true then (some true) else (some (c0==(95:Int)))) else (some (c0==(95:Int))))) else (if (decide (c0≥(48:Int)))=true then (if (decide (c0≤(57:Int)))=true then (some true) else (some (c0==(95:Int)))) else (some (c0==(95:Int)))))) else (if (decide (c0≥(65:Int)))=true then (if (decide (c0≤(90:Int)))=true then (some true) else (if (decide (c0≥(48:Int)))=true then (if (decide (c0≤(57:Int)))=true then (some true) else (some (c0==(95:Int)))) else (some (c0==(95:Int))))) else (if (decide (c0≥(48:Int)))=true then (if (decide (c0≤(57:Int)))=true then (some true) else (some (c0==(95:Int)))) else (some (c0==(95:Int)))))
def fF.fin (L:Mem)(r:Bool)(s:St):Prop:=∃av,aI Tryd.prog (s.open wY) Tryd.f118.results.toList=some av∧fB s.h av (.bool r)
def Kn (cf:CallF)(m:Nat):Prop:=∀(c0:Int) (r:Bool),fF.f m c0=some r→∀h xs,ej eL h xs [.int .u8 c0]→cf 118 xs h=some (.bool r,h)
section
variable {cf:CallF}{m:Nat}
theorem qi {aS:FuncId→cg}(ha:aS 118=wY)  (c0:Int)(h:AHeap)(L:Mem)  (o:Has h (L)){out:Bool}(H:fF.f m c0=some out) :
  ∃r h',a7 Tryd.prog aS cf m 118 [.int .u8 c0] h=some (r,h')∧fB h' r (.bool out):=by
 refine ak (fn:=Tryd.f118) ha Tryd.func118 (by kernel_rfl) (by kernel_rfl) ?_
 refine aF (Q:=fun s=>fF.fin L out s) (fun _ _ h=>h) ?_
 have H:_=some out:=H
 unfold fF.f at H
 show de _ cf wY m _ ⟨[.int .u8 c0,.any],[],h⟩ _
 refine q1 <| qq ?_
 rcases dw H with⟨c1,H⟩| ⟨c1,H⟩
 ·rcases dw H with⟨c2,H⟩| ⟨c2,H⟩
  ·obtain rfl:=oi H
   exact qr [.b 2 c1,.b 6 c2] <| qt <| ⟨.inl rfl,bZ (.bool true) h (bX (aj))⟩
  ·rcases dw H with⟨c3,H⟩| ⟨c3,H⟩
   ·rcases dw H with⟨c4,H⟩| ⟨c4,H⟩
    ·obtain rfl:=oi H
     exact qr [.b 2 c1,.b 6 c2,.b 9 c3,.b 14 c4] <| qt <| ⟨.inl rfl,bZ (.bool true) h (bX (aj))⟩
    ·rcases dw H with⟨c5,H⟩| ⟨c5,H⟩
     ·rcases dw H with⟨c6,H⟩| ⟨c6,H⟩
      ·obtain rfl:=oi H
       exact qr [.b 2 c1,.b 6 c2,.b 9 c3,.b 14 c4,.b 17 c5,.b 22 c6] <| qt <| ⟨.inl rfl,bZ (.bool true) h (bX (aj))⟩
      ·obtain rfl:=oi H
       exact qr [.b 2 c1,.b 6 c2,.b 9 c3,.b 14 c4,.b 17 c5,.b 22 c6] <| qt <| ⟨.inl rfl,bZ (.bool (c0==(95:Int))) h (bX (aj))⟩
     ·obtain rfl:=oi H
      exact qr [.b 2 c1,.b 6 c2,.b 9 c3,.b 14 c4,.b 17 c5] <| qt <| ⟨.inl rfl,bZ (.bool (c0==(95:Int))) h (bX (aj))⟩
   ·rcases dw H with⟨c7,H⟩| ⟨c7,H⟩
    ·rcases dw H with⟨c8,H⟩| ⟨c8,H⟩
     ·obtain rfl:=oi H
      exact qr [.b 2 c1,.b 6 c2,.b 9 c3,.b 17 c7,.b 22 c8] <| qt <| ⟨.inl rfl,bZ (.bool true) h (bX (aj))⟩
     ·obtain rfl:=oi H
      exact qr [.b 2 c1,.b 6 c2,.b 9 c3,.b 17 c7,.b 22 c8] <| qt <| ⟨.inl rfl,bZ (.bool (c0==(95:Int))) h (bX (aj))⟩
    ·obtain rfl:=oi H
     exact qr [.b 2 c1,.b 6 c2,.b 9 c3,.b 17 c7] <| qt <| ⟨.inl rfl,bZ (.bool (c0==(95:Int))) h (bX (aj))⟩
 ·rcases dw H with⟨c9,H⟩| ⟨c9,H⟩
  ·rcases dw H with⟨uP,H⟩| ⟨uP,H⟩
   ·obtain rfl:=oi H
    exact qr [.b 2 c1,.b 9 c9,.b 14 uP] <| qt <| ⟨.inl rfl,bZ (.bool true) h (bX (aj))⟩
   ·rcases dw H with⟨ml,H⟩| ⟨ml,H⟩
    ·rcases dw H with⟨qm,H⟩| ⟨qm,H⟩
     ·obtain rfl:=oi H
      exact qr [.b 2 c1,.b 9 c9,.b 14 uP,.b 17 ml,.b 22 qm] <| qt <| ⟨.inl rfl,bZ (.bool true) h (bX (aj))⟩
     ·obtain rfl:=oi H
      exact qr [.b 2 c1,.b 9 c9,.b 14 uP,.b 17 ml,.b 22 qm] <| qt <| ⟨.inl rfl,bZ (.bool (c0==(95:Int))) h (bX (aj))⟩
    ·obtain rfl:=oi H
     exact qr [.b 2 c1,.b 9 c9,.b 14 uP,.b 17 ml] <| qt <| ⟨.inl rfl,bZ (.bool (c0==(95:Int))) h (bX (aj))⟩
  ·rcases dw H with⟨rH,H⟩| ⟨rH,H⟩
   ·rcases dw H with⟨og,H⟩| ⟨og,H⟩
    ·obtain rfl:=oi H
     exact qr [.b 2 c1,.b 9 c9,.b 17 rH,.b 22 og] <| qt <| ⟨.inl rfl,bZ (.bool true) h (bX (aj))⟩
    ·obtain rfl:=oi H
     exact qr [.b 2 c1,.b 9 c9,.b 17 rH,.b 22 og] <| qt <| ⟨.inl rfl,bZ (.bool (c0==(95:Int))) h (bX (aj))⟩
   ·obtain rfl:=oi H
    exact qr [.b 2 c1,.b 9 c9,.b 17 rH] <| qt <| ⟨.inl rfl,bZ (.bool (c0==(95:Int))) h (bX (aj))⟩
end
end Go.Proofs.YtmekcfdllhphlaaDoor
namespace Go.Proofs.YtmekcfdllhphlaaDoor
open Go Go.R
open Go.IntKind (i64 u64 u8 u32)
def tB:cg:=gk [0,1,2,6,7,27,29,30,31,37] [] [1016,990,1015,830,574,814,318,1015,830,1015] [] []
def cW.l0 (m:Nat)(s0:ByteArray):Nat→Int→Option (Sum Bool (Int))
 | 0,_=>none
 | k+1,x0=>if (decide (x0<(s0.size:Int)))=true then ((bt s0 x0).bind fun v2=>(fF.f m v2).bind fun x1=>if (!x1)=true then (some (.inl false)) else (cW.l0 m s0 k (i64.wrap (x0+(1:Int))))) else (some (.inr x0))
def cW.f (m:Nat)(s0:ByteArray)(kq:Int)(nq:Int):Option (Bool):=if (decide ((s0.size:Int)<(1:Int)))=true then (some false) else (if (decide ((s0.size:Int) > (16:Int)))=true then (some false) else ((bt s0 (0:Int)).bind fun v0=>if (decide (v0<kq))=true then (some false) else ((bt s0 (0:Int)).bind fun v1=>if (decide (v1 > nq))=true then (some false) else ((cW.l0 m s0 m (0:Int)).bind fun bq=>match bq with | .inl r0=>some r0 | .inr x2=>some true))))
def cW.fin (L:Mem)(r:Bool)(s:St):Prop:=∃av,aI Tryd.prog (s.open tB) Tryd.f106.results.toList=some av∧fB s.h av (.bool r)
def MP (cf:CallF)(m:Nat):Prop:=∀(s0:ByteArray) (kq:Int) (nq:Int) (r:Bool),cW.f m s0 kq nq=some r→∀h xs,ej eL h xs [.str s0,.int .u8 kq,.int .u8 nq]→cf 106 xs h=some (.bool r,h)
section
variable {cf:CallF}{m:Nat}
theorem cW.bG (L:Mem)(s0:ByteArray)  (Fm:Kn cf m):bI Tryd.prog cf tB m (sub [1,1,0,1,0,0] (codeOf Tryd.f106)) (fun k (σ:Int)=>cW.l0 m s0 k σ) (fun σ s=>match σ with | x0=>∃h0,s=⟨.str s0::sf [.int .i64 (s0.size:Int),.int .i64 x0,.any,.any],[],h0⟩∧Has h0 (L)) (fun out e s=>(e = .exit 0∧∃x0,.inr x0=out∧∃kp PJ Ko Kp h0,s=⟨kp::sf [PJ,Ko,Kp,.any],[],h0⟩∧Has h0 (L))∨(e = .ret∧∃r,.inl r=out∧cW.fin L r s)):=by
 refine gS (fun _=>rfl) ?_
 rintro k x0 s out ⟨h0,rfl,o0⟩ H
 have H:cW.l0 m s0 (k+1) x0=some out:=H
 refine q1 <| qq <| qc H (fun c7 H=>?_) (fun c7 H=>?_)
 ·refine qk <| qq <| qb 1 <| qq <| q0 <| qq ?_
  obtain⟨v2,e2,H⟩:=aJ H
  obtain⟨x1,e3,H⟩:=aJ H
  refine qr [.v 2 (mh (k:=.i64) U9 e2),.a 3 (Fm _ _ e3 h0 _ (ga (ab (aE) (ax))))] <| qc H (fun c8 H=>?_) (fun c8 H=>?_)
  ·exact q1 <| qt <| XH (⟨rfl,_,oi H,bZ (.bool false) h0 (bX (aj))⟩)
  ·exact qk <| q0 <| ⟨i64.wrap (x0+(1:Int)),⟨h0,by kernel_rfl,o0⟩,H⟩
 ·exact qx 0 <| X6 (⟨rfl,x0,oi H,.str s0,.int .i64 (s0.size:Int),.int .i64 x0,.bool (decide (x0<(s0.size:Int))),h0,by kernel_rfl,o0⟩)
theorem tC {aS:FuncId→cg}(ha:aS 106=tB)(Fm:Kn cf m)(s0:ByteArray)(kq:Int)(nq:Int)(h:AHeap)(L:Mem)  (o:Has h (L)){out:Bool}(H:cW.f m s0 kq nq=some out) :
  ∃r h',a7 Tryd.prog aS cf m 106 [.str s0,.int .u8 kq,.int .u8 nq] h=some (r,h')∧fB h' r (.bool out):=by
 refine ak (fn:=Tryd.f106) ha Tryd.func106 (by kernel_rfl) (by kernel_rfl) ?_
 refine aF (Q:=fun s=>cW.fin L out s) (fun _ _ h=>h) ?_
 have H:_=some out:=H
 unfold cW.f at H
 show de _ cf tB m _ ⟨.str s0 :: .int .u8 kq :: .int .u8 nq::Dk [],[],h⟩ _
 refine q1 <| qq <| qq ?_
 rcases dw H with⟨c0,H⟩| ⟨c0,H⟩
 ·obtain rfl:=oi H
  exact qr [.b 3 c0] <| pa <| qq <| q0 <| qt <| ⟨.inl rfl,bZ (.bool false) h (bX (aj))⟩
 ·rcases dw H with⟨c2,H⟩| ⟨c2,H⟩
  ·obtain rfl:=oi H
   exact qr [.b 3 c0,.b 8 c2] <| pa <| qq <| q0 <| qt <| ⟨.inl rfl,bZ (.bool false) h (bX (aj))⟩
  ·obtain⟨v0,e0,H⟩:=aJ H
   rcases dw H with⟨c4,H⟩| ⟨c4,H⟩
   ·obtain rfl:=oi H
    exact qr [.b 3 c0,.b 8 c2,.v 10 (mh (k:=.i64) U9 e0),.b 14 c4] <| pa <| qq <| q0 <| qt <| ⟨.inl rfl,bZ (.bool false) h (bX (aj))⟩
   ·obtain⟨v1,e1,H⟩:=aJ H
    refine qr [.b 3 c0,.b 8 c2,.v 10 (mh (k:=.i64) U9 e0),.b 14 c4,.v 16 (mh (k:=.i64) U9 e1)] <| qc H (fun c6 H=>?_) (fun c6 H=>?_)
    ·obtain rfl:=oi H
     exact q1 <| qt <| ⟨.inl rfl,bZ (.bool false) h (bX (aj))⟩
    ·refine qk <| qq <| qq <| q0 <| qb 0 ?_
     obtain⟨bq,e4,H⟩:=aJ H
     refine ql (cW.bG L s0  Fm (0:Int) _ _ ⟨h,by kernel_rfl,o⟩ e4) ?_
     rintro e s (⟨rfl,x2,rfl,g0,g1,g2,g3,h1,rfl,o1⟩| ⟨rfl,r0,rfl,lJ⟩)
     ·try dsimp only at H
      obtain rfl:=oi H
      exact q1 <| qt <| ⟨.inl rfl,bZ (.bool true) h1 (bX (aj))⟩
     ·try dsimp only at H
      obtain rfl:=oi H
      exact⟨.inl rfl,lJ⟩
end
end Go.Proofs.YtmekcfdllhphlaaDoor
namespace Go.Proofs.YtmekcfdllhphlaaDoor
open Go Go.R
open Go.IntKind (i64 u64 u8 u32)
def BQ:cg:=gk [0,2] [] [2,1] [] []
def gO.f (m:Nat)(s0:ByteArray):Option (Bool):=if (s0.data.toList==(Xf #[124]).data.toList)=true then (some true) else (if (s0.data.toList==(Xf #[35]).data.toList)=true then (some true) else ((cW.f m s0 (97:Int) (122:Int)).bind fun x0=>some x0))
def gO.fin (L:Mem)(r:Bool)(s:St):Prop:=∃av,aI Tryd.prog (s.open BQ) Tryd.f77.results.toList=some av∧fB s.h av (.bool r)
def Sv (cf:CallF)(m:Nat):Prop:=∀(s0:ByteArray) (r:Bool),gO.f m s0=some r→∀h xs,ej eL h xs [.str s0]→cf 77 xs h=some (.bool r,h)
section
variable {cf:CallF}{m:Nat}
theorem tD {aS:FuncId→cg}(ha:aS 77=BQ)(MQ:MP cf m)(s0:ByteArray)(h:AHeap)(L:Mem)  (o:Has h (L)){out:Bool}(H:gO.f m s0=some out) :
  ∃r h',a7 Tryd.prog aS cf m 77 [.str s0] h=some (r,h')∧fB h' r (.bool out):=by
 refine ak (fn:=Tryd.f77) ha Tryd.func77 (by kernel_rfl) (by kernel_rfl) ?_
 refine aF (Q:=fun s=>gO.fin L out s) (fun _ _ h=>h) ?_
 have H:_=some out:=H
 unfold gO.f at H
 show de _ cf BQ m _ ⟨[.str s0,.any],[],h⟩ _
 refine q1 <| qq ?_
 rcases dw H with⟨c0,H⟩| ⟨c0,H⟩
 ·obtain rfl:=oi H
  exact qr [.b 2 c0] <| qt <| ⟨.inl rfl,bZ (.bool true) h (bX (aj))⟩
 ·rcases dw H with⟨c1,H⟩| ⟨c1,H⟩
  ·obtain rfl:=oi H
   exact qr [.b 2 c0,.b 6 c1] <| qt <| ⟨.inl rfl,bZ (.bool true) h (bX (aj))⟩
  ·obtain⟨x0,e0,H⟩:=aJ H
   obtain rfl:=oi H
   exact qr [.b 2 c0,.b 6 c1,.a 8 (MQ _ _ _ _ e0 h _ (ga (ab (bK) (ab (aE) (ab (aE) (ax))))))] <| qt <| ⟨.inl rfl,bZ (.bool x0) h (bX (aj))⟩
end
end Go.Proofs.YtmekcfdllhphlaaDoor
namespace Go.Proofs.YtmekcfdllhphlaaDoor
open Go Go.R
open Go.IntKind (i64 u64 u8 u32)
def tE:cg:=gk [0,1,4,5,7,8,9,16] [] [252,204,140,196,68,251,204,251] [] []
def eF.l0 (m:Nat)(s0:List Int)(f0:Int→Option (Bool)):Nat→Int→Option (Sum Int (Int))
 | 0,_=>none
 | k+1,x0=>if (decide (x0<(s0.length:Int)))=true then ((ix s0 x0).bind fun v0=>(f0 v0).bind fun r0=>if r0=true then (some (.inl x0)) else (eF.l0 m s0 f0 k (i64.wrap (x0+(1:Int))))) else (some (.inr x0))
def eF.f (m:Nat)(s0:List Int)(f0:Int→Option (Bool)):Option (Int):=(eF.l0 m s0 f0 m (0:Int)).bind fun bq=>match bq with | .inl r1=>some r1 | .inr x1=>some (-1:Int)
def eF.fin (h:AHeap)(r:Int)(s:St):Prop:=aI Tryd.prog (s.open tE) Tryd.f107.results.toList=some (.int .i64 r)∧s.h=h
def MR (cf:CallF)(m:Nat):Prop:=∀(s0:List Int) (f0:Int→Option (Bool)) (r:Int),eF.f m s0 f0=some r→∀h,0<h.next→∀(dy:FuncId) (aL:List AV),ay (.fn dy aL) = .fn dy aL→(∀(a0:Int) r,f0 a0=some r→cf dy ([.int .i64 a0]++aL) h=some (.bool r,h))→∀xs,xs.map ay=[aa.fz s0,.fn dy aL]→cf 107 xs h=some (.int .i64 r,h)
section
variable {cf:CallF}{m:Nat}
theorem eF.bG (h:AHeap)(L:Mem)(dy:FuncId)(aL:List AV)(s0:List Int)(f0:Int→Option (Bool))  (gP:ay (.fn dy aL) = .fn dy aL)(gT:∀(a0:Int) r,f0 a0=some r→cf dy ([.int .i64 a0]++aL) h=some (.bool r,h))  : bI Tryd.prog cf tE m (sub [1,0,1,0,0] (codeOf Tryd.f107)) (fun k (σ:Int)=>eF.l0 m s0 f0 k σ) (fun σ s=>match σ with | x0=>s=⟨[aa.fz s0,.fn dy aL,.any,.any,.int .i64 (s0.length:Int),.int .i64 x0,.any,.any],[],h⟩∧Has h (L)) (fun out e s=>(e = .exit 0∧∃x0,.inr x0=out∧∃kp rF tF qn tG,s=⟨[kp,rF,.any,.any,tF,qn,tG,.any],[],h⟩∧Has h (L))∨(e = .ret∧∃r,.inl r=out∧eF.fin h r s)):=by
 refine gS (fun _=>rfl) ?_
 rintro k x0 s out ⟨rfl,o0⟩ H
 have H:eF.l0 m s0 f0 (k+1) x0=some out:=H
 refine q1 <| qq <| qc H (fun c0 H=>?_) (fun c0 H=>?_)
 ·refine qk <| qq <| qb 1 <| qq <| q0 <| qq ?_
  obtain⟨v0,e0,H⟩:=aJ H
  obtain⟨r0,e1,H⟩:=aJ H
  refine qr [.v 3 (bo (k:=.i64) (E:=aa) (l:=s0) dC e0),.v 4 (cY  (E:=aa) (l:=s0) h A3 e0 rfl),.a 5 (gT _ _ e1)] <| qc H (fun c1 H=>?_) (fun c1 H=>?_)
  ·exact q1 <| qt <| XH (⟨rfl,_,oi H,⟨by kernel_rfl,by kernel_rfl⟩⟩)
  ·exact qk <| q0 <| ⟨i64.wrap (x0+(1:Int)),⟨by kernel_rfl,o0⟩,H⟩
 ·exact qx 0 <| X6 (⟨rfl,x0,oi H,aa.fz s0,.fn dy aL,.int .i64 (s0.length:Int),.int .i64 x0,.bool (decide (x0<(s0.length:Int))),by kernel_rfl,o0⟩)
theorem wZ {aS:FuncId→cg}(ha:aS 107=tE)  (s0:List Int)(f0:Int→Option (Bool))(h:AHeap)(L:Mem)(dy:FuncId)(aL:List AV)  (gP:ay (.fn dy aL) = .fn dy aL)(gT:∀(a0:Int) r,f0 a0=some r→cf dy ([.int .i64 a0]++aL) h=some (.bool r,h))(o:Has h (L)){out:Int}(H:eF.f m s0 f0=some out) :
  ∃r h',a7 Tryd.prog aS cf m 107 [aa.fz s0,.fn dy aL] h=some (r,h')∧r=(.int .i64 out)∧h'=h:=by
 refine ak (fn:=Tryd.f107) ha Tryd.func107 (by kernel_rfl) (by kernel_rfl) ?_
 refine aF (Q:=fun s=>eF.fin h out s) (fun _ _ ⟨h1,h2,h3⟩=>⟨h1,_,h2,rfl,h3⟩) ?_
 have H:_=some out:=H
 unfold eF.f at H
 show de _ cf tE m _ ⟨aa.fz s0 :: .fn dy aL::Ha [],[],h⟩ _
 refine q1 <| qq <| qq <| q0 <| qb 0 ?_
 obtain⟨bq,e2,H⟩:=aJ H
 refine ql (eF.bG h L dy aL s0 f0  gP gT  (0:Int) _ _ ⟨by kernel_rfl,o⟩ e2) ?_
 rintro e s (⟨rfl,x1,rfl,g0,g1,g2,g3,g4,rfl,o1⟩| ⟨rfl,r1,rfl,lJ⟩)
 ·try dsimp only at H
  obtain rfl:=oi H
  exact q1 <| qt <| ⟨.inl rfl,⟨by kernel_rfl,by kernel_rfl⟩⟩
 ·try dsimp only at H
  obtain rfl:=oi H
  exact⟨.inl rfl,lJ⟩
end
end Go.Proofs.YtmekcfdllhphlaaDoor
namespace Go.Proofs.YtmekcfdllhphlaaDoor
open Go Go.R
open Go.IntKind (i64 u64 u8 u32)
def BR:cg:=gk [0,1,4] [] [4,3] [] []
def gA.f (m:Nat)(s0:List Int)(f0:Int→Option (Bool)):Option (Bool):=(eF.f m s0 f0).bind fun x0=>some (decide (x0≥(0:Int)))
def gA.fin (h:AHeap)(r:Bool)(s:St):Prop:=aI Tryd.prog (s.open BR) Tryd.f78.results.toList=some (.bool r)∧s.h=h
def Sw (cf:CallF)(m:Nat):Prop:=∀(s0:List Int) (f0:Int→Option (Bool)) (r:Bool),gA.f m s0 f0=some r→∀h,0<h.next→∀(dy:FuncId) (aL:List AV),ay (.fn dy aL) = .fn dy aL→(∀(a0:Int) r,f0 a0=some r→cf dy ([.int .i64 a0]++aL) h=some (.bool r,h))→∀xs,xs.map ay=[aa.fz s0,.fn dy aL]→cf 78 xs h=some (.bool r,h)
section
variable {cf:CallF}{m:Nat}
theorem rI {aS:FuncId→cg}(ha:aS 78=BR)(MS:MR cf m)(s0:List Int)(f0:Int→Option (Bool))(h:AHeap)(L:Mem)(dy:FuncId)(aL:List AV)  (gP:ay (.fn dy aL) = .fn dy aL)(gT:∀(a0:Int) r,f0 a0=some r→cf dy ([.int .i64 a0]++aL) h=some (.bool r,h))(o:Has h (L)){out:Bool}(H:gA.f m s0 f0=some out) :
  ∃r h',a7 Tryd.prog aS cf m 78 [aa.fz s0,.fn dy aL] h=some (r,h')∧r=(.bool out)∧h'=h:=by
 refine ak (fn:=Tryd.f78) ha Tryd.func78 (by kernel_rfl) (by kernel_rfl) ?_
 refine aF (Q:=fun s=>gA.fin h out s) (fun _ _ ⟨h1,h2,h3⟩=>⟨h1,_,h2,rfl,h3⟩) ?_
 have H:_=some out:=H
 unfold gA.f at H
 show de _ cf BR m _ ⟨[aa.fz s0,.fn dy aL,.any],[],h⟩ _
 refine q1 <| qq ?_
 obtain⟨x0,e0,H⟩:=aJ H
 obtain rfl:=oi H
 exact qr [.a 2 (MS _ _ _ e0 h (Has.pos o) dy aL gP gT _ (ao (aO (gy (E:=aa))) (ao (gP) (bj))))] <| qt <| ⟨.inl rfl,⟨by kernel_rfl,by kernel_rfl⟩⟩
end
end Go.Proofs.YtmekcfdllhphlaaDoor
namespace Go.Proofs.YtmekcfdllhphlaaDoor
open Go Go.R
open Go.IntKind (i64 u64 u8 u32)
def BS:cg:=gk [0,1,3] [] [4,3] [] []
def gB.f (m:Nat)(a0:Int)(x0:Int):Option (Bool):=if (decide (a0<(0:Int)))=true then (some true) else (some (decide (a0≥x0)))
def gB.fin (h:AHeap)(r:Bool)(s:St):Prop:=aI Tryd.prog (s.open BS) Tryd.f79.results.toList=some (.bool r)∧s.h=h
def Sx (cf:CallF)(m:Nat):Prop:=∀(a0:Int) (x0:Int) (r:Bool),gB.f m a0 x0=some r→∀h L (eG bT:Nat),Has h L→L[eG]? = some (bT,.ob [.int .i64 x0])→cf 79 [.int .i64 a0,.ptr bT 0] h=some (.bool r,h)
section
variable {cf:CallF}{m:Nat}
theorem qo {aS:FuncId→cg}(ha:aS 79=BS)  (a0:Int)(x0:Int)(h:AHeap)(L:Mem)  {eG bT:Nat}(fW:L[eG]? = some (bT,.ob [.int .i64 x0]))(o:Has h (L)){out:Bool}(H:gB.f m a0 x0=some out) :
  ∃r h',a7 Tryd.prog aS cf m 79 [.int .i64 a0,.ptr bT 0] h=some (r,h')∧r=(.bool out)∧h'=h:=by
 refine ak (fn:=Tryd.f79) ha Tryd.func79 (by kernel_rfl) (by kernel_rfl) ?_
 refine aF (Q:=fun s=>gB.fin h out s) (fun _ _ ⟨h1,h2,h3⟩=>⟨h1,_,h2,rfl,h3⟩) ?_
 have H:_=some out:=H
 unfold gB.f at H
 show de _ cf BS m _ ⟨[.int .i64 a0,.ptr bT 0,.any],[],h⟩ _
 refine q1 <| qq ?_
 rcases dw H with⟨c0,H⟩| ⟨c0,H⟩
 ·obtain rfl:=oi H
  exact qr [.b 2 c0] <| qt <| ⟨.inl rfl,⟨by kernel_rfl,by kernel_rfl⟩⟩
 ·obtain rfl:=oi H
  exact qr [.b 2 c0,.v 4 (show bk Tryd.prog h 3 (.ptr bT 0)=some (.int .i64 x0) from cn (q:=eG) (cs:=[.int .i64 x0]) o fW (by kernel_rfl))] <| qt <| ⟨.inl rfl,⟨by kernel_rfl,by kernel_rfl⟩⟩
end
end Go.Proofs.YtmekcfdllhphlaaDoor
namespace Go.Proofs.YtmekcfdllhphlaaDoor
open Go Go.R
open Go.IntKind (i64 u64 u8 u32)
def BT:cg:=gk [0,2] [] [2,1] [] []
def gC.f (m:Nat)(s0:ByteArray):Option (Bool):=if (s0.data.toList==(Xf #[112,114,111,99]).data.toList)=true then (some true) else (if (s0.data.toList==(Xf #[99,101,108,108]).data.toList)=true then (some true) else (some (s0.data.toList==(Xf #[112,111,114,116]).data.toList)))
def gC.fin (L:Mem)(r:Bool)(s:St):Prop:=∃av,aI Tryd.prog (s.open BT) Tryd.f80.results.toList=some av∧fB s.h av (.bool r)
def Sy (cf:CallF)(m:Nat):Prop:=∀(s0:ByteArray) (r:Bool),gC.f m s0=some r→∀h xs,ej eL h xs [.str s0]→cf 80 xs h=some (.bool r,h)
section
variable {cf:CallF}{m:Nat}
theorem rJ {aS:FuncId→cg}(ha:aS 80=BT)  (s0:ByteArray)(h:AHeap)(L:Mem)  (o:Has h (L)){out:Bool}(H:gC.f m s0=some out) :
  ∃r h',a7 Tryd.prog aS cf m 80 [.str s0] h=some (r,h')∧fB h' r (.bool out):=by
 refine ak (fn:=Tryd.f80) ha Tryd.func80 (by kernel_rfl) (by kernel_rfl) ?_
 refine aF (Q:=fun s=>gC.fin L out s) (fun _ _ h=>h) ?_
 have H:_=some out:=H
 unfold gC.f at H
 show de _ cf BT m _ ⟨[.str s0,.any],[],h⟩ _
 refine q1 <| qq ?_
 rcases dw H with⟨c0,H⟩| ⟨c0,H⟩
 ·obtain rfl:=oi H
  exact qr [.b 2 c0] <| qt <| ⟨.inl rfl,bZ (.bool true) h (bX (aj))⟩
 ·rcases dw H with⟨c1,H⟩| ⟨c1,H⟩
  ·obtain rfl:=oi H
   exact qr [.b 2 c0,.b 6 c1] <| qt <| ⟨.inl rfl,bZ (.bool true) h (bX (aj))⟩
  ·obtain rfl:=oi H
   exact qr [.b 2 c0,.b 6 c1] <| qt <| ⟨.inl rfl,bZ (.bool (s0.data.toList==(Xf #[112,111,114,116]).data.toList)) h (bX (aj))⟩
end
end Go.Proofs.YtmekcfdllhphlaaDoor
namespace Go.Proofs.YtmekcfdllhphlaaDoor
open Go Go.R
open Go.IntKind (i64 u64 u8 u32)
def BU:cg:=gk [0,1,2,3,4,6,7,23,44,60,89] [2] [2035,2003,1939,2031,1875,2031,1747,2031,1491,2031,1019,2031,2031] [] []
def il.f (m:Nat)(n0:ae)(mo:Int):Option (Bool):=if (n0.kind==(0:Int))=true then (if (decide (n0.int≥(0:Int)))=true then (if (n0.label.data.toList==(Xf #[]).data.toList)=true then (some ((n0.args.length:Int)==(0:Int))) else (some false)) else (some false)) else (if (n0.kind==(1:Int))=true then (if (decide (n0.int≥(-1099511627776:Int)))=true then (if (decide (n0.int≤(1099511627776:Int)))=true then (if (n0.label.data.toList==(Xf #[]).data.toList)=true then (some ((n0.args.length:Int)==(0:Int))) else (some false)) else (some false)) else (some false)) else (if (n0.kind==(2:Int))=true then (if (n0.int==(0:Int))=true then ((gO.f m n0.label).bind fun x0=>if x0=true then (some ((n0.args.length:Int)==(0:Int))) else (some false)) else (some false)) else (if (n0.kind==(3:Int))=true then (if (n0.int==(0:Int))=true then ((gO.f m n0.label).bind fun x1=>if x1=true then (if (decide ((n0.args.length:Int)≥(1:Int)))=true then (if (decide ((n0.args.length:Int)≤(8:Int)))=true then ((gA.f m n0.args (fun y0=>gB.f m y0 mo)).bind fun x2=>some (!x2)) else (some false)) else (some false)) else (some false)) else (some false)) else (if (n0.kind==(4:Int))=true then (if (decide (n0.int≥(0:Int)))=true then ((gC.f m n0.label).bind fun x3=>if x3=true then (some ((n0.args.length:Int)==(0:Int))) else (some false)) else (some false)) else (some false)))))
def il.fin (L:Mem)(r:Bool)(s:St):Prop:=∃av,aI Tryd.prog (s.open BU) Tryd.f62.results.toList=some av∧fB s.h av (.bool r)
def Sz (cf:CallF)(m:Nat):Prop:=∀(n0:ae) (mo:Int) (r:Bool),il.f m n0 mo=some r→∀h xs,ej eL h xs [.agg [.int .i64 n0.kind,.int .i64 n0.int,.str n0.label,aa.fz n0.args],.int .i64 mo]→cf 62 xs h=some (.bool r,h)
section
variable {cf:CallF}{m:Nat}
theorem tH {aS:FuncId→cg}(ha:aS 62=BU)(Dr:Sv cf m)(PK:Sw cf m)(PL:Sx cf m)(MT:Sy cf m)(n0:ae)(mo:Int)(h:AHeap)(L:Mem)  (o:Has h (L)){out:Bool}(H:il.f m n0 mo=some out) :
  ∃r h',a7 Tryd.prog aS cf m 62 [.agg [.int .i64 n0.kind,.int .i64 n0.int,.str n0.label,aa.fz n0.args],.int .i64 mo] h=some (r,h')∧fB h' r (.bool out):=by
 refine ak (fn:=Tryd.f62) ha Tryd.func62 (by kernel_rfl) (by kernel_rfl) ?_
 refine aF (Q:=fun s=>il.fin L out s) (fun _ _ h=>h) ?_
 have H:_=some out:=H
 unfold il.f at H
 show de _ cf BU m _ ⟨.agg [.int .i64 n0.kind,.int .i64 n0.int,.str n0.label,aa.fz n0.args] :: .int .i64 mo::D0 [],[none],h⟩ _
 refine qq ?_
 obtain⟨aB,h0,e0,o0⟩:=ko (cs:=[.int .i64 mo]) o (by kernel_rfl)
 refine qr [.a 1 e0] <| qq <| qq <| q0 <| qb 0 <| qq <| q0 <| qc H (fun c0 H=>?_) (fun c0 H=>?_)
 ·refine qq ?_
  rcases dw H with⟨c1,H⟩| ⟨c1,H⟩
  ·rcases dw H with⟨c2,H⟩| ⟨c2,H⟩
   ·refine qr [.b 3 c1,.b 8 c2] ?_
    have o1:Has h0 (L):=Has.del o0 0
    obtain rfl:=oi H
    exact qt <| ⟨.inl rfl,bZ (.bool ((n0.args.length:Int)==(0:Int))) h0 (bX (aj))⟩
   ·refine qr [.b 3 c1,.b 8 c2] ?_
    have o2:Has h0 (L):=Has.del o0 0
    obtain rfl:=oi H
    exact qt <| ⟨.inl rfl,bZ (.bool false) h0 (bX (aj))⟩
  ·refine qr [.b 3 c1] ?_
   have o3:Has h0 (L):=Has.del o0 0
   obtain rfl:=oi H
   exact qt <| ⟨.inl rfl,bZ (.bool false) h0 (bX (aj))⟩
 ·refine q1 <| qc H (fun c3 H=>?_) (fun c3 H=>?_)
  ·refine qq ?_
   rcases dw H with⟨c4,H⟩| ⟨c4,H⟩
   ·rcases dw H with⟨c5,H⟩| ⟨c5,H⟩
    ·rcases dw H with⟨c6,H⟩| ⟨c6,H⟩
     ·refine qr [.b 3 c4,.b 8 c5,.b 13 c6] ?_
      have o4:Has h0 (L):=Has.del o0 0
      obtain rfl:=oi H
      exact qt <| ⟨.inl rfl,bZ (.bool ((n0.args.length:Int)==(0:Int))) h0 (bX (aj))⟩
     ·refine qr [.b 3 c4,.b 8 c5,.b 13 c6] ?_
      have o5:Has h0 (L):=Has.del o0 0
      obtain rfl:=oi H
      exact qt <| ⟨.inl rfl,bZ (.bool false) h0 (bX (aj))⟩
    ·refine qr [.b 3 c4,.b 8 c5] ?_
     have o6:Has h0 (L):=Has.del o0 0
     obtain rfl:=oi H
     exact qt <| ⟨.inl rfl,bZ (.bool false) h0 (bX (aj))⟩
   ·refine qr [.b 3 c4] ?_
    have o7:Has h0 (L):=Has.del o0 0
    obtain rfl:=oi H
    exact qt <| ⟨.inl rfl,bZ (.bool false) h0 (bX (aj))⟩
  ·refine q1 <| qc H (fun c7 H=>?_) (fun c7 H=>?_)
   ·refine qq ?_
    rcases dw H with⟨c8,H⟩| ⟨c8,H⟩
    ·obtain⟨x0,e1,H⟩:=aJ H
     rcases dw H with⟨c9,H⟩| ⟨c9,H⟩
     ·refine qr [.b 3 c8,.a 6 (Dr _ _ e1 h0 _ (ga (ab (bK) (ax)))),.b 8 c9] ?_
      have o8:Has h0 (L):=Has.del o0 0
      obtain rfl:=oi H
      exact qt <| ⟨.inl rfl,bZ (.bool ((n0.args.length:Int)==(0:Int))) h0 (bX (aj))⟩
     ·refine qr [.b 3 c8,.a 6 (Dr _ _ e1 h0 _ (ga (ab (bK) (ax)))),.b 8 c9] ?_
      have o9:Has h0 (L):=Has.del o0 0
      obtain rfl:=oi H
      exact qt <| ⟨.inl rfl,bZ (.bool false) h0 (bX (aj))⟩
    ·refine qr [.b 3 c8] ?_
     have uQ:Has h0 (L):=Has.del o0 0
     obtain rfl:=oi H
     exact qt <| ⟨.inl rfl,bZ (.bool false) h0 (bX (aj))⟩
   ·refine q1 <| qc H (fun uP H=>?_) (fun uP H=>?_)
    ·refine qq ?_
     rcases dw H with⟨ml,H⟩| ⟨ml,H⟩
     ·obtain⟨x1,e2,H⟩:=aJ H
      rcases dw H with⟨qm,H⟩| ⟨qm,H⟩
      ·rcases dw H with⟨rH,H⟩| ⟨rH,H⟩
       ·rcases dw H with⟨og,H⟩| ⟨og,H⟩
        ·obtain⟨x2,e3,H⟩:=aJ H
         refine qr [.b 3 ml,.a 6 (Dr _ _ e2 h0 _ (ga (ab (bK) (ax)))),.b 8 qm,.b 14 rH,.b 20 og,.a 24 (PK _ _ _ e3 h0 (Has.pos o0) 79 [.ptr aB 0] rfl (fun y0 r hr=>PL y0 _ r hr h0 _ 0 _ o0 rfl) _ (ao (aO (gy (E:=aa))) (ao ((rfl:ay (.fn 79 [.ptr aB 0])=_)) (bj))))] ?_
         have vB:Has h0 (L):=Has.del o0 0
         obtain rfl:=oi H
         exact qt <| ⟨.inl rfl,bZ (.bool (!x2)) h0 (bX (aj))⟩
        ·refine qr [.b 3 ml,.a 6 (Dr _ _ e2 h0 _ (ga (ab (bK) (ax)))),.b 8 qm,.b 14 rH,.b 20 og] ?_
         have tI:Has h0 (L):=Has.del o0 0
         obtain rfl:=oi H
         exact qt <| ⟨.inl rfl,bZ (.bool false) h0 (bX (aj))⟩
       ·refine qr [.b 3 ml,.a 6 (Dr _ _ e2 h0 _ (ga (ab (bK) (ax)))),.b 8 qm,.b 14 rH] ?_
        have lK:Has h0 (L):=Has.del o0 0
        obtain rfl:=oi H
        exact qt <| ⟨.inl rfl,bZ (.bool false) h0 (bX (aj))⟩
      ·refine qr [.b 3 ml,.a 6 (Dr _ _ e2 h0 _ (ga (ab (bK) (ax)))),.b 8 qm] ?_
       have yL:Has h0 (L):=Has.del o0 0
       obtain rfl:=oi H
       exact qt <| ⟨.inl rfl,bZ (.bool false) h0 (bX (aj))⟩
     ·refine qr [.b 3 ml] ?_
      have zO:Has h0 (L):=Has.del o0 0
      obtain rfl:=oi H
      exact qt <| ⟨.inl rfl,bZ (.bool false) h0 (bX (aj))⟩
    ·refine q1 ?_
     have lQ:Has h0 (L):=Has.del o0 0
     refine qc H (fun xL H=>?_) (fun xL H=>?_)
     ·refine qq ?_
      rcases dw H with⟨D1,H⟩| ⟨D1,H⟩
      ·obtain⟨x3,e4,H⟩:=aJ H
       rcases dw H with⟨Ds,H⟩| ⟨Ds,H⟩
       ·obtain rfl:=oi H
        exact qr [.b 3 D1,.a 6 (MT _ _ e4 h0 _ (ga (ab (bK) (ax)))),.b 8 Ds] <| qt <| ⟨.inl rfl,bZ (.bool ((n0.args.length:Int)==(0:Int))) h0 (bX (aj))⟩
       ·obtain rfl:=oi H
        exact qr [.b 3 D1,.a 6 (MT _ _ e4 h0 _ (ga (ab (bK) (ax)))),.b 8 Ds] <| qt <| ⟨.inl rfl,bZ (.bool false) h0 (bX (aj))⟩
      ·obtain rfl:=oi H
       exact qr [.b 3 D1] <| qt <| ⟨.inl rfl,bZ (.bool false) h0 (bX (aj))⟩
     ·obtain rfl:=oi H
      exact qk <| qq <| q0 <| qt <| ⟨.inl rfl,bZ (.bool false) h0 (bX (aj))⟩
end
end Go.Proofs.YtmekcfdllhphlaaDoor
namespace Go.Proofs.YtmekcfdllhphlaaDoor
open Go Go.R
open Go.IntKind (i64 u64 u8 u32)
def yM:cg:=gk [0,1,4,5,7,8,9,16] [] [252,204,140,196,68,251,204,251] [] []
def eH.l0 (m:Nat)(s0:List ae)(f0:ae→Option (Bool)):Nat→Int→Option (Sum Int (Int))
 | 0,_=>none
 | k+1,x0=>if (decide (x0<(s0.length:Int)))=true then ((ix s0 x0).bind fun v0=>(f0 v0).bind fun r0=>if r0=true then (some (.inl x0)) else (eH.l0 m s0 f0 k (i64.wrap (x0+(1:Int))))) else (some (.inr x0))
def eH.f (m:Nat)(s0:List ae)(f0:ae→Option (Bool)):Option (Int):=(eH.l0 m s0 f0 m (0:Int)).bind fun bq=>match bq with | .inl r1=>some r1 | .inr x1=>some (-1:Int)
def eH.fin (h:AHeap)(r:Int)(s:St):Prop:=aI Tryd.prog (s.open yM) Tryd.f52.results.toList=some (.int .i64 r)∧s.h=h
def SB (cf:CallF)(m:Nat):Prop:=∀(s0:List ae) (f0:ae→Option (Bool)) (r:Int),eH.f m s0 f0=some r→∀h,0<h.next→∀(dy:FuncId) (aL:List AV),ay (.fn dy aL) = .fn dy aL→(∀(a0:ae) r,f0 a0=some r→cf dy ([.agg [.int .i64 a0.kind,.int .i64 a0.int,.str a0.label,aa.fz a0.args]]++aL) h=some (.bool r,h))→∀xs,xs.map ay=[af.fz s0,.fn dy aL]→cf 52 xs h=some (.int .i64 r,h)
section
variable {cf:CallF}{m:Nat}
theorem eH.bG (h:AHeap)(L:Mem)(dy:FuncId)(aL:List AV)(s0:List ae)(f0:ae→Option (Bool))  (gP:ay (.fn dy aL) = .fn dy aL)(gT:∀(a0:ae) r,f0 a0=some r→cf dy ([.agg [.int .i64 a0.kind,.int .i64 a0.int,.str a0.label,aa.fz a0.args]]++aL) h=some (.bool r,h))  : bI Tryd.prog cf yM m (sub [1,0,1,0,0] (codeOf Tryd.f52)) (fun k (σ:Int)=>eH.l0 m s0 f0 k σ) (fun σ s=>match σ with | x0=>s=⟨[af.fz s0,.fn dy aL,.any,.any,.int .i64 (s0.length:Int),.int .i64 x0,.any,.any],[],h⟩∧Has h (L)) (fun out e s=>(e = .exit 0∧∃x0,.inr x0=out∧∃kp rF tF qn tG,s=⟨[kp,rF,.any,.any,tF,qn,tG,.any],[],h⟩∧Has h (L))∨(e = .ret∧∃r,.inl r=out∧eH.fin h r s)):=by
 refine gS (fun _=>rfl) ?_
 rintro k x0 s out ⟨rfl,o0⟩ H
 have H:eH.l0 m s0 f0 (k+1) x0=some out:=H
 refine q1 <| qq <| qc H (fun c0 H=>?_) (fun c0 H=>?_)
 ·refine qk <| qq <| qb 1 <| qq <| q0 <| qq ?_
  obtain⟨v0,e0,H⟩:=aJ H
  obtain⟨r0,e1,H⟩:=aJ H
  refine qr [.v 3 (bo (k:=.i64) (E:=af) (l:=s0) kT e0),.v 4 (cO  (E:=af) (l:=s0) h ri rj e0),.a 5 (gT _ _ e1)] <| qc H (fun c1 H=>?_) (fun c1 H=>?_)
  ·exact q1 <| qt <| XH (⟨rfl,_,oi H,⟨by kernel_rfl,by kernel_rfl⟩⟩)
  ·exact qk <| q0 <| ⟨i64.wrap (x0+(1:Int)),⟨by kernel_rfl,o0⟩,H⟩
 ·exact qx 0 <| X6 (⟨rfl,x0,oi H,af.fz s0,.fn dy aL,.int .i64 (s0.length:Int),.int .i64 x0,.bool (decide (x0<(s0.length:Int))),by kernel_rfl,o0⟩)
theorem w5 {aS:FuncId→cg}(ha:aS 52=yM)  (s0:List ae)(f0:ae→Option (Bool))(h:AHeap)(L:Mem)(dy:FuncId)(aL:List AV)  (gP:ay (.fn dy aL) = .fn dy aL)(gT:∀(a0:ae) r,f0 a0=some r→cf dy ([.agg [.int .i64 a0.kind,.int .i64 a0.int,.str a0.label,aa.fz a0.args]]++aL) h=some (.bool r,h))(o:Has h (L)){out:Int}(H:eH.f m s0 f0=some out) :
  ∃r h',a7 Tryd.prog aS cf m 52 [af.fz s0,.fn dy aL] h=some (r,h')∧r=(.int .i64 out)∧h'=h:=by
 refine ak (fn:=Tryd.f52) ha Tryd.func52 (by kernel_rfl) (by kernel_rfl) ?_
 refine aF (Q:=fun s=>eH.fin h out s) (fun _ _ ⟨h1,h2,h3⟩=>⟨h1,_,h2,rfl,h3⟩) ?_
 have H:_=some out:=H
 unfold eH.f at H
 show de _ cf yM m _ ⟨af.fz s0 :: .fn dy aL::Ha [],[],h⟩ _
 refine q1 <| qq <| qq <| q0 <| qb 0 ?_
 obtain⟨bq,e2,H⟩:=aJ H
 refine ql (eH.bG h L dy aL s0 f0  gP gT  (0:Int) _ _ ⟨by kernel_rfl,o⟩ e2) ?_
 rintro e s (⟨rfl,x1,rfl,g0,g1,g2,g3,g4,rfl,o1⟩| ⟨rfl,r1,rfl,lJ⟩)
 ·try dsimp only at H
  obtain rfl:=oi H
  exact q1 <| qt <| ⟨.inl rfl,⟨by kernel_rfl,by kernel_rfl⟩⟩
 ·try dsimp only at H
  obtain rfl:=oi H
  exact⟨.inl rfl,lJ⟩
end
end Go.Proofs.YtmekcfdllhphlaaDoor
namespace Go.Proofs.YtmekcfdllhphlaaDoor
open Go Go.R
open Go.IntKind (i64 u64 u8 u32)
def BV:cg:=gk [0,1,4] [] [4,3] [] []
def fM.f (m:Nat)(s0:List ae)(f0:ae→Option (Bool)):Option (Bool):=(eH.f m s0 f0).bind fun x0=>some (decide (x0≥(0:Int)))
def fM.fin (h:AHeap)(r:Bool)(s:St):Prop:=aI Tryd.prog (s.open BV) Tryd.f34.results.toList=some (.bool r)∧s.h=h
def PM (cf:CallF)(m:Nat):Prop:=∀(s0:List ae) (f0:ae→Option (Bool)) (r:Bool),fM.f m s0 f0=some r→∀h,0<h.next→∀(dy:FuncId) (aL:List AV),ay (.fn dy aL) = .fn dy aL→(∀(a0:ae) r,f0 a0=some r→cf dy ([.agg [.int .i64 a0.kind,.int .i64 a0.int,.str a0.label,aa.fz a0.args]]++aL) h=some (.bool r,h))→∀xs,xs.map ay=[af.fz s0,.fn dy aL]→cf 34 xs h=some (.bool r,h)
section
variable {cf:CallF}{m:Nat}
theorem rK {aS:FuncId→cg}(ha:aS 34=BV)(PN:SB cf m)(s0:List ae)(f0:ae→Option (Bool))(h:AHeap)(L:Mem)(dy:FuncId)(aL:List AV)  (gP:ay (.fn dy aL) = .fn dy aL)(gT:∀(a0:ae) r,f0 a0=some r→cf dy ([.agg [.int .i64 a0.kind,.int .i64 a0.int,.str a0.label,aa.fz a0.args]]++aL) h=some (.bool r,h))(o:Has h (L)){out:Bool}(H:fM.f m s0 f0=some out) :
  ∃r h',a7 Tryd.prog aS cf m 34 [af.fz s0,.fn dy aL] h=some (r,h')∧r=(.bool out)∧h'=h:=by
 refine ak (fn:=Tryd.f34) ha Tryd.func34 (by kernel_rfl) (by kernel_rfl) ?_
 refine aF (Q:=fun s=>fM.fin h out s) (fun _ _ ⟨h1,h2,h3⟩=>⟨h1,_,h2,rfl,h3⟩) ?_
 have H:_=some out:=H
 unfold fM.f at H
 show de _ cf BV m _ ⟨[af.fz s0,.fn dy aL,.any],[],h⟩ _
 refine q1 <| qq ?_
 obtain⟨x0,e0,H⟩:=aJ H
 obtain rfl:=oi H
 exact qr [.a 2 (PN _ _ _ e0 h (Has.pos o) dy aL gP gT _ (ao (aO (gy (E:=af))) (ao (gP) (bj))))] <| qt <| ⟨.inl rfl,⟨by kernel_rfl,by kernel_rfl⟩⟩
end
end Go.Proofs.YtmekcfdllhphlaaDoor
namespace Go.Proofs.YtmekcfdllhphlaaDoor
open Go Go.R
open Go.IntKind (i64 u64 u8 u32)
def yN:cg:=gk [0,1,4,5,7,8,9,16] [] [252,204,140,196,68,251,204,251] [] []
def eJ.l0 (m:Nat)(s0:List an)(f0:an→Option (Bool)):Nat→Int→Option (Sum Int (Int))
 | 0,_=>none
 | k+1,x0=>if (decide (x0<(s0.length:Int)))=true then ((ix s0 x0).bind fun v0=>(f0 v0).bind fun r0=>if r0=true then (some (.inl x0)) else (eJ.l0 m s0 f0 k (i64.wrap (x0+(1:Int))))) else (some (.inr x0))
def eJ.f (m:Nat)(s0:List an)(f0:an→Option (Bool)):Option (Int):=(eJ.l0 m s0 f0 m (0:Int)).bind fun bq=>match bq with | .inl r1=>some r1 | .inr x1=>some (-1:Int)
def eJ.fin (h:AHeap)(r:Int)(s:St):Prop:=aI Tryd.prog (s.open yN) Tryd.f51.results.toList=some (.int .i64 r)∧s.h=h
def SC (cf:CallF)(m:Nat):Prop:=∀(s0:List an) (f0:an→Option (Bool)) (r:Int),eJ.f m s0 f0=some r→∀h,0<h.next→∀(dy:FuncId) (aL:List AV),ay (.fn dy aL) = .fn dy aL→(∀(a0:an) r,f0 a0=some r→cf dy ([.agg [af.fz a0.nodes,.int .i64 a0.root]]++aL) h=some (.bool r,h))→∀xs,xs.map ay=[aT.fz s0,.fn dy aL]→cf 51 xs h=some (.int .i64 r,h)
section
variable {cf:CallF}{m:Nat}
theorem eJ.bG (h:AHeap)(L:Mem)(dy:FuncId)(aL:List AV)(s0:List an)(f0:an→Option (Bool))  (gP:ay (.fn dy aL) = .fn dy aL)(gT:∀(a0:an) r,f0 a0=some r→cf dy ([.agg [af.fz a0.nodes,.int .i64 a0.root]]++aL) h=some (.bool r,h))  : bI Tryd.prog cf yN m (sub [1,0,1,0,0] (codeOf Tryd.f51)) (fun k (σ:Int)=>eJ.l0 m s0 f0 k σ) (fun σ s=>match σ with | x0=>s=⟨[aT.fz s0,.fn dy aL,.any,.any,.int .i64 (s0.length:Int),.int .i64 x0,.any,.any],[],h⟩∧Has h (L)) (fun out e s=>(e = .exit 0∧∃x0,.inr x0=out∧∃kp rF tF qn tG,s=⟨[kp,rF,.any,.any,tF,qn,tG,.any],[],h⟩∧Has h (L))∨(e = .ret∧∃r,.inl r=out∧eJ.fin h r s)):=by
 refine gS (fun _=>rfl) ?_
 rintro k x0 s out ⟨rfl,o0⟩ H
 have H:eJ.l0 m s0 f0 (k+1) x0=some out:=H
 refine q1 <| qq <| qc H (fun c0 H=>?_) (fun c0 H=>?_)
 ·refine qk <| qq <| qb 1 <| qq <| q0 <| qq ?_
  obtain⟨v0,e0,H⟩:=aJ H
  obtain⟨r0,e1,H⟩:=aJ H
  refine qr [.v 3 (bo (k:=.i64) (E:=aT) (l:=s0) yI e0),.v 4 (cO  (E:=aT) (l:=s0) h Hc Hd e0),.a 5 (gT _ _ e1)] <| qc H (fun c1 H=>?_) (fun c1 H=>?_)
  ·exact q1 <| qt <| XH (⟨rfl,_,oi H,⟨by kernel_rfl,by kernel_rfl⟩⟩)
  ·exact qk <| q0 <| ⟨i64.wrap (x0+(1:Int)),⟨by kernel_rfl,o0⟩,H⟩
 ·exact qx 0 <| X6 (⟨rfl,x0,oi H,aT.fz s0,.fn dy aL,.int .i64 (s0.length:Int),.int .i64 x0,.bool (decide (x0<(s0.length:Int))),by kernel_rfl,o0⟩)
theorem w6 {aS:FuncId→cg}(ha:aS 51=yN)  (s0:List an)(f0:an→Option (Bool))(h:AHeap)(L:Mem)(dy:FuncId)(aL:List AV)  (gP:ay (.fn dy aL) = .fn dy aL)(gT:∀(a0:an) r,f0 a0=some r→cf dy ([.agg [af.fz a0.nodes,.int .i64 a0.root]]++aL) h=some (.bool r,h))(o:Has h (L)){out:Int}(H:eJ.f m s0 f0=some out) :
  ∃r h',a7 Tryd.prog aS cf m 51 [aT.fz s0,.fn dy aL] h=some (r,h')∧r=(.int .i64 out)∧h'=h:=by
 refine ak (fn:=Tryd.f51) ha Tryd.func51 (by kernel_rfl) (by kernel_rfl) ?_
 refine aF (Q:=fun s=>eJ.fin h out s) (fun _ _ ⟨h1,h2,h3⟩=>⟨h1,_,h2,rfl,h3⟩) ?_
 have H:_=some out:=H
 unfold eJ.f at H
 show de _ cf yN m _ ⟨aT.fz s0 :: .fn dy aL::Ha [],[],h⟩ _
 refine q1 <| qq <| qq <| q0 <| qb 0 ?_
 obtain⟨bq,e2,H⟩:=aJ H
 refine ql (eJ.bG h L dy aL s0 f0  gP gT  (0:Int) _ _ ⟨by kernel_rfl,o⟩ e2) ?_
 rintro e s (⟨rfl,x1,rfl,g0,g1,g2,g3,g4,rfl,o1⟩| ⟨rfl,r1,rfl,lJ⟩)
 ·try dsimp only at H
  obtain rfl:=oi H
  exact q1 <| qt <| ⟨.inl rfl,⟨by kernel_rfl,by kernel_rfl⟩⟩
 ·try dsimp only at H
  obtain rfl:=oi H
  exact⟨.inl rfl,lJ⟩
end
end Go.Proofs.YtmekcfdllhphlaaDoor
namespace Go.Proofs.YtmekcfdllhphlaaDoor
open Go Go.R
open Go.IntKind (i64 u64 u8 u32)
def BW:cg:=gk [0,1,4] [] [4,3] [] []
def gD.f (m:Nat)(s0:List an)(f0:an→Option (Bool)):Option (Bool):=(eJ.f m s0 f0).bind fun x0=>some (decide (x0≥(0:Int)))
def gD.fin (h:AHeap)(r:Bool)(s:St):Prop:=aI Tryd.prog (s.open BW) Tryd.f32.results.toList=some (.bool r)∧s.h=h
def SD (cf:CallF)(m:Nat):Prop:=∀(s0:List an) (f0:an→Option (Bool)) (r:Bool),gD.f m s0 f0=some r→∀h,0<h.next→∀(dy:FuncId) (aL:List AV),ay (.fn dy aL) = .fn dy aL→(∀(a0:an) r,f0 a0=some r→cf dy ([.agg [af.fz a0.nodes,.int .i64 a0.root]]++aL) h=some (.bool r,h))→∀xs,xs.map ay=[aT.fz s0,.fn dy aL]→cf 32 xs h=some (.bool r,h)
section
variable {cf:CallF}{m:Nat}
theorem rL {aS:FuncId→cg}(ha:aS 32=BW)(PO:SC cf m)(s0:List an)(f0:an→Option (Bool))(h:AHeap)(L:Mem)(dy:FuncId)(aL:List AV)  (gP:ay (.fn dy aL) = .fn dy aL)(gT:∀(a0:an) r,f0 a0=some r→cf dy ([.agg [af.fz a0.nodes,.int .i64 a0.root]]++aL) h=some (.bool r,h))(o:Has h (L)){out:Bool}(H:gD.f m s0 f0=some out) :
  ∃r h',a7 Tryd.prog aS cf m 32 [aT.fz s0,.fn dy aL] h=some (r,h')∧r=(.bool out)∧h'=h:=by
 refine ak (fn:=Tryd.f32) ha Tryd.func32 (by kernel_rfl) (by kernel_rfl) ?_
 refine aF (Q:=fun s=>gD.fin h out s) (fun _ _ ⟨h1,h2,h3⟩=>⟨h1,_,h2,rfl,h3⟩) ?_
 have H:_=some out:=H
 unfold gD.f at H
 show de _ cf BW m _ ⟨[aT.fz s0,.fn dy aL,.any],[],h⟩ _
 refine q1 <| qq ?_
 obtain⟨x0,e0,H⟩:=aJ H
 obtain rfl:=oi H
 exact qr [.a 2 (PO _ _ _ e0 h (Has.pos o) dy aL gP gT _ (ao (aO (gy (E:=aT))) (ao (gP) (bj))))] <| qt <| ⟨.inl rfl,⟨by kernel_rfl,by kernel_rfl⟩⟩
end
end Go.Proofs.YtmekcfdllhphlaaDoor
namespace Go.Proofs.YtmekcfdllhphlaaDoor
open Go Go.R
open Go.IntKind (i64 u64 u8 u32)
def gQ (c:Int):Bool:=decide (97≤c∧c≤122)||decide (65≤c∧c≤90)||decide (48≤c∧c≤57)||c==95
theorem yO {m:Nat}(c:Int):fF.f m c=some (gQ c):=by
 unfold fF.f
 by_cases h1:97≤c<;>by_cases h2:c≤122<;>by_cases h3:65≤c<;>by_cases h4:c≤90<;>by_cases h5:48≤c<;>by_cases h6:c≤57<;>simp [gQ,h1,h2,h3,h4,h5,h6]<;>omega
theorem sh {s:ByteArray}{i:Nat}(h:i<s.size):∃c:UInt8,s.data.toList[i]? = some c∧bt s (i:Int)=some (c.toNat:Int):=by
 have h':i<s.data.toList.length:=by simpa using h
 refine⟨s.data.toList[i],W2 h',?_⟩
 unfold bt; rw [if_pos (by omega),WT,W2 h']; rfl
theorem BX {m:Nat}{s:ByteArray}(hs:s.size≤16):∀(f i:Nat),s.size - i<f→i≤s.size→
  ∃o,cW.l0 m s f (i:Int)=some o∧((∃x,o = .inr x)∧((s.data.toList.drop i).all fun c=>gQ (c.toNat:Int))=true∨o = .inl false∧((s.data.toList.drop i).all fun c=>gQ (c.toNat:Int))=false)
 | 0,i,hf,_=>absurd hf (by omega)
 | f+1,i,hf,hi=>by
  unfold cW.l0
  by_cases h:i<s.size
  ·obtain⟨c,hc,hb⟩:=sh h
   obtain⟨h4,h5⟩:=WU.1 hc
   have hd:s.data.toList.drop i=c::s.data.toList.drop (i+1):=by rw [←h5]; exact WZ h4
   rw [if_pos (by simp only [decide_eq_true_eq]; omega),hb,WL,yO,WL,hd,XK]
   cases hl:gQ (c.toNat:Int) with
   | false=>exact⟨_,rfl,.inr ⟨rfl,rfl⟩⟩
   | true=>
    obtain⟨o,h1,h2⟩:=BX (m:=m) hs f (i+1) (by omega) (by omega)
    rw [if_neg (by simp),aD (by omega) (by omega),show (i:Int)+1=((i+1:Nat):Int) by omega,h1]
    exact⟨o,rfl,by simpa using h2⟩
  ·refine⟨_,by rw [if_neg (by simp only [decide_eq_true_eq]; omega)],.inl ⟨⟨_,rfl⟩,?_⟩⟩
   rw [Xk (by simp; omega)]; rfl
def yP (s:ByteArray)(lo hi:Int):Bool:=match s.data.toList with
 | []=>false
 | c::cs=>decide (cs.length≤15)&&decide (lo≤(c.toNat:Int))&&decide ((c.toNat:Int)≤hi)&&((c::cs).all fun c=>gQ (c.toNat:Int))
theorem Dt {m:Nat}(hm:20≤m)(s:ByteArray)(lo hi:Int):cW.f m s lo hi=some (yP s lo hi):=by
 have hsz:s.size=s.data.toList.length:=by simp
 unfold cW.f yP
 cases hl:s.data.toList with
 | nil=>rw [if_pos (by rw [hl,XI] at hsz; simp only [decide_eq_true_eq]; omega)]
 | cons c cs=>
  rw [hl,W9] at hsz
  rw [if_neg (by simp only [decide_eq_true_eq]; omega)]
  dsimp only
  by_cases h16:cs.length≤15
  ·obtain⟨c',h1,h2⟩:=sh (s:=s) (i:=0) (by omega)
   rw [hl] at h1
   simp only [Xv,WO] at h1
   subst h1
   have h2:bt s 0=_:=h2
   rw [if_neg (by simp only [decide_eq_true_eq]; omega),h2,WL]
   by_cases h3:(c.toNat:Int)<lo
   ·rw [if_pos (by simpa using h3)]
    simp only [WO]
    rw [show decide (lo≤(c.toNat:Int))=false by simp; omega]; simp
   rw [if_neg (by simpa using h3),WL]
   by_cases h4:(c.toNat:Int) > hi
   ·rw [if_pos (by simpa using h4)]
    simp only [WO]
    rw [show decide ((c.toNat:Int)≤hi)=false by simp; omega]; simp
   rw [if_neg (by simpa using h4)]
   obtain⟨o,k1,k2⟩:=BX (m:=m) (s:=s) (by omega) m 0 (by omega) (by omega)
   have k1:cW.l0 m s m 0=_:=k1
   rw [k1,WL]
   rw [Xl,hl] at k2
   rw [show decide (lo≤(c.toNat:Int))=true by simp; omega,show decide ((c.toNat:Int)≤hi)=true by simp; omega,show decide (cs.length≤15)=true by simpa using h16]
   simp only [X2]
   rcases k2 with⟨⟨x,rfl⟩,k⟩| ⟨rfl,k⟩
   ·rw [k]
   ·rw [k]
  ·rw [if_pos (by simp only [decide_eq_true_eq]; omega),show decide (cs.length≤15)=false by simp; omega]; rfl
def lE (s:ByteArray):Bool:=s.data.toList==[124]||s.data.toList==[35]||yP s 97 122
theorem vC {m:Nat}(hm:20≤m)(s:ByteArray):gO.f m s=some (lE s):=by
 unfold gO.f lE
 show (if (s.data.toList==[124])=true then _ else if (s.data.toList==[35])=true then _ else _)=_
 cases h1:s.data.toList==[124] with
 | true=>rfl
 | false=>
  cases h2:s.data.toList==[35] with
  | true=>rfl
  | false=>rw [Dt hm]; rfl
theorem vD {s:ByteArray}(h:lE s=true):1≤s.size∧s.size≤16:=by
 have hsz:s.size=s.data.toList.length:=by simp
 unfold lE at h
 simp only [XC,beq_iff_eq] at h
 rcases h with (h | h) | h
 ·rw [h] at hsz; simp at hsz; omega
 ·rw [h] at hsz; simp at hsz; omega
 ·unfold yP at h
  split at h
  ·cases h
  ·rename_i c cs hl
   rw [hl] at hsz
   simp only [WR,decide_eq_true_eq] at h
   simp at hsz; omega
def yQ (s:ByteArray):Bool:=s.data.toList==[112,114,111,99]||s.data.toList==[99,101,108,108]||s.data.toList==[112,111,114,116]
theorem Du {m:Nat}(s:ByteArray):gC.f m s=some (yQ s):=by
 unfold gC.f yQ
 show (if (s.data.toList==[112,114,111,99])=true then _ else if (s.data.toList==[99,101,108,108])=true then _ else some (s.data.toList==[112,111,114,116]))=_
 cases h1:s.data.toList==[112,114,111,99] with
 | true=>rfl
 | false=>
  cases h2:s.data.toList==[99,101,108,108] with
  | true=>rfl
  | false=>rfl
theorem Fo {m:Nat}{s:List Int}{f0:Int→Option Bool}{g:Int→Bool}(hs:s.length<2 ^ 40)(C:∀x∈s,f0 x=some (g x)):∀(f i:Nat),s.length - i<f→i≤s.length→
  ∃o,eF.l0 m s f0 f (i:Int)=some o∧((∃x,o = .inr x)∧(s.drop i).any g=false∨(∃x:Nat,o = .inl (x:Int))∧(s.drop i).any g=true)
 | 0,i,hf,_=>absurd hf (by omega)
 | f+1,i,hf,hi=>by
  have nR:(2:Nat) ^ 40=1099511627776:=by decide
  unfold eF.l0
  by_cases h:i<s.length
  ·have hx:ix s (i:Int)=some s[i]:=by unfold ix; rw [if_pos (by omega)]; simp [h]
   rw [if_pos (by simp only [decide_eq_true_eq]; omega),hx,WL,C _ (XJ h),WL,WZ h,List.any_cons]
   cases g s[i] with
   | true=>exact⟨_,rfl,.inr ⟨⟨i,rfl⟩,rfl⟩⟩
   | false=>
    obtain⟨o,h1,h2⟩:=Fo (m:=m) hs C f (i+1) (by omega) (by omega)
    rw [if_neg (by simp),aD (by omega) (by omega),show (i:Int)+1=((i+1:Nat):Int) by omega,h1]
    exact⟨o,rfl,by simpa using h2⟩
  ·refine⟨_,by rw [if_neg (by simp only [decide_eq_true_eq]; omega)],.inl ⟨⟨_,rfl⟩,?_⟩⟩
   rw [Xk (by omega)]; rfl
theorem Dv {m:Nat}{s:List Int}{f0:Int→Option Bool}{g:Int→Bool}(hs:s.length<2 ^ 40)(hm:s.length<m)(C:∀x∈s,f0 x=some (g x)):gA.f m s f0=some (s.any g):=by
 obtain⟨o,h1,h2⟩:=Fo (m:=m) hs C m 0 (by omega) (by omega)
 have h1:eF.l0 m s f0 m 0=_:=h1
 unfold gA.f eF.f
 rw [h1,WL]
 rw [Xl] at h2
 rcases h2 with⟨⟨x,rfl⟩,k⟩| ⟨⟨x,rfl⟩,k⟩
 ·rw [k]; rfl
 ·rw [k]
  simp only [WL,WO]
  simp
theorem Fp {m:Nat}{s:List ae}{f0:ae→Option Bool}{g:ae→Bool}(hs:s.length<2 ^ 40)(C:∀x∈s,f0 x=some (g x)):∀(f i:Nat),s.length - i<f→i≤s.length→
  ∃o,eH.l0 m s f0 f (i:Int)=some o∧((∃x,o = .inr x)∧(s.drop i).any g=false∨(∃x:Nat,o = .inl (x:Int))∧(s.drop i).any g=true)
 | 0,i,hf,_=>absurd hf (by omega)
 | f+1,i,hf,hi=>by
  have nR:(2:Nat) ^ 40=1099511627776:=by decide
  unfold eH.l0
  by_cases h:i<s.length
  ·have hx:ix s (i:Int)=some s[i]:=by unfold ix; rw [if_pos (by omega)]; simp [h]
   rw [if_pos (by simp only [decide_eq_true_eq]; omega),hx,WL,C _ (XJ h),WL,WZ h,List.any_cons]
   cases g s[i] with
   | true=>exact⟨_,rfl,.inr ⟨⟨i,rfl⟩,rfl⟩⟩
   | false=>
    obtain⟨o,h1,h2⟩:=Fp (m:=m) hs C f (i+1) (by omega) (by omega)
    rw [if_neg (by simp),aD (by omega) (by omega),show (i:Int)+1=((i+1:Nat):Int) by omega,h1]
    exact⟨o,rfl,by simpa using h2⟩
  ·refine⟨_,by rw [if_neg (by simp only [decide_eq_true_eq]; omega)],.inl ⟨⟨_,rfl⟩,?_⟩⟩
   rw [Xk (by omega)]; rfl
theorem vE {m:Nat}{s:List ae}{f0:ae→Option Bool}{g:ae→Bool}(hs:s.length<2 ^ 40)(hm:s.length<m)(C:∀x∈s,f0 x=some (g x)):fM.f m s f0=some (s.any g):=by
 obtain⟨o,h1,h2⟩:=Fp (m:=m) hs C m 0 (by omega) (by omega)
 have h1:eH.l0 m s f0 m 0=_:=h1
 unfold fM.f eH.f
 rw [h1,WL]
 rw [Xl] at h2
 rcases h2 with⟨⟨x,rfl⟩,k⟩| ⟨⟨x,rfl⟩,k⟩
 ·rw [k]; rfl
 ·rw [k]
  simp only [WL,WO]
  simp
theorem Fq {m:Nat}{s:List an}{f0:an→Option Bool}{g:an→Bool}(hs:s.length<2 ^ 40)(C:∀x∈s,f0 x=some (g x)):∀(f i:Nat),s.length - i<f→i≤s.length→
  ∃o,eJ.l0 m s f0 f (i:Int)=some o∧((∃x,o = .inr x)∧(s.drop i).any g=false∨(∃x:Nat,o = .inl (x:Int))∧(s.drop i).any g=true)
 | 0,i,hf,_=>absurd hf (by omega)
 | f+1,i,hf,hi=>by
  have nR:(2:Nat) ^ 40=1099511627776:=by decide
  unfold eJ.l0
  by_cases h:i<s.length
  ·have hx:ix s (i:Int)=some s[i]:=by unfold ix; rw [if_pos (by omega)]; simp [h]
   rw [if_pos (by simp only [decide_eq_true_eq]; omega),hx,WL,C _ (XJ h),WL,WZ h,List.any_cons]
   cases g s[i] with
   | true=>exact⟨_,rfl,.inr ⟨⟨i,rfl⟩,rfl⟩⟩
   | false=>
    obtain⟨o,h1,h2⟩:=Fq (m:=m) hs C f (i+1) (by omega) (by omega)
    rw [if_neg (by simp),aD (by omega) (by omega),show (i:Int)+1=((i+1:Nat):Int) by omega,h1]
    exact⟨o,rfl,by simpa using h2⟩
  ·refine⟨_,by rw [if_neg (by simp only [decide_eq_true_eq]; omega)],.inl ⟨⟨_,rfl⟩,?_⟩⟩
   rw [Xk (by omega)]; rfl
theorem Dw {m:Nat}{s:List an}{f0:an→Option Bool}{g:an→Bool}(hs:s.length<2 ^ 40)(hm:s.length<m)(C:∀x∈s,f0 x=some (g x)):gD.f m s f0=some (s.any g):=by
 obtain⟨o,h1,h2⟩:=Fq (m:=m) hs C m 0 (by omega) (by omega)
 have h1:eJ.l0 m s f0 m 0=_:=h1
 unfold gD.f eJ.f
 rw [h1,WL]
 rw [Xl] at h2
 rcases h2 with⟨⟨x,rfl⟩,k⟩| ⟨⟨x,rfl⟩,k⟩
 ·rw [k]; rfl
 ·rw [k]
  simp only [WL,WO]
  simp
def kg (n:ae)(size:Int):Bool:=
 if n.kind=0 then decide (0≤n.int)&&n.label.data.toList==[]&&n.args.isEmpty
 else if n.kind=1 then decide (-1099511627776≤n.int)&&decide (n.int≤1099511627776)&&n.label.data.toList==[]&&n.args.isEmpty
 else if n.kind=2 then n.int==0&&lE n.label&&n.args.isEmpty
 else if n.kind=3 then n.int==0&&lE n.label&&decide (1≤n.args.length)&&decide (n.args.length≤8)&&n.args.all fun a=>decide (0≤a)&&decide (a<size)
 else if n.kind=4 then decide (0≤n.int)&&yQ n.label&&n.args.isEmpty
 else false
theorem yR (l:List Int):((l.length:Int)==(0:Int))=l.isEmpty:=by cases l<;>simp; omega
theorem Dx {m:Nat}(hm:20≤m)(n:ae)(size:Int):il.f m n size=some (kg n size):=by
 unfold il.f kg
 by_cases k0:n.kind=0
 ·rw [if_pos (by simpa using k0),if_pos k0]
  by_cases h1:0≤n.int
  ·rw [if_pos (by simpa using h1),show decide (0≤n.int)=true by simpa using h1]
   show (if (n.label.data.toList==[])=true then _ else _)=_
   cases n.label.data.toList==[] with
   | true=>rw [if_pos rfl,yR]; rfl
   | false=>rfl
  ·rw [if_neg (by simpa using h1),show decide (0≤n.int)=false by simp; omega]; rfl
 rw [if_neg (by simpa using k0),if_neg k0]
 by_cases k1:n.kind=1
 ·rw [if_pos (by simpa using k1),if_pos k1]
  by_cases h1 : -1099511627776≤n.int
  ·rw [if_pos (by simpa using h1),show decide (-1099511627776≤n.int)=true by simpa using h1]
   by_cases h3:n.int≤1099511627776
   ·rw [if_pos (by simpa using h3),show decide (n.int≤1099511627776)=true by simpa using h3]
    show (if (n.label.data.toList==[])=true then _ else _)=_
    cases n.label.data.toList==[] with
    | true=>rw [if_pos rfl,yR]; rfl
    | false=>rfl
   ·rw [if_neg (by simpa using h3),show decide (n.int≤1099511627776)=false by simp; omega]; rfl
  ·rw [if_neg (by simpa using h1),show decide (-1099511627776≤n.int)=false by simp; omega]; rfl
 rw [if_neg (by simpa using k1),if_neg k1]
 by_cases k2:n.kind=2
 ·rw [if_pos (by simpa using k2),if_pos k2]
  cases h1:n.int==0 with
  | false=>rfl
  | true=>
   rw [if_pos rfl,vC hm,WL]
   cases lE n.label with
   | false=>rfl
   | true=>rw [if_pos rfl,yR]; rfl
 rw [if_neg (by simpa using k2),if_neg k2]
 by_cases k3:n.kind=3
 ·rw [if_pos (by simpa using k3),if_pos k3]
  cases h1:n.int==0 with
  | false=>rfl
  | true=>
   rw [if_pos rfl,vC hm,WL]
   cases lE n.label with
   | false=>rfl
   | true=>
    rw [if_pos rfl]
    by_cases g1:1≤n.args.length
    ·rw [if_pos (by simp only [decide_eq_true_eq]; omega),show decide (1≤n.args.length)=true by simpa using g1]
     by_cases g2:n.args.length≤8
     ·rw [if_pos (by simp only [decide_eq_true_eq]; omega),show decide (n.args.length≤8)=true by simpa using g2]
      rw [Dv (g:=fun a=>!(decide (0≤a)&&decide (a<size))) (by omega) (by omega) (fun a _=>by
       unfold gB.f
       by_cases w:a<0
       ·rw [if_pos (by simpa using w),show decide (0≤a)=false by simp; omega]; rfl
       ·rw [if_neg (by simpa using w),show decide (0≤a)=true by simp; omega]
        by_cases w2:a<size
        ·rw [show decide (a≥size)=false from decide_eq_false (by omega),show decide (a<size)=true from decide_eq_true w2]; rfl
        ·rw [show decide (a≥size)=true from decide_eq_true (by omega),show decide (a<size)=false from decide_eq_false w2]; rfl),WL]
      simp [List.not_any_eq_all_not]
     ·rw [if_neg (by simp only [decide_eq_true_eq]; omega),show decide (n.args.length≤8)=false from decide_eq_false g2]; rfl
    ·rw [if_neg (by simp only [decide_eq_true_eq]; omega),show decide (1≤n.args.length)=false from decide_eq_false g1]; rfl
 rw [if_neg (by simpa using k3),if_neg k3]
 by_cases k4:n.kind=4
 ·rw [if_pos (by simpa using k4),if_pos k4]
  by_cases h1:0≤n.int
  ·rw [if_pos (by simpa using h1),show decide (0≤n.int)=true by simpa using h1,Du,WL]
   cases yQ n.label with
   | false=>rfl
   | true=>rw [if_pos rfl,yR]; rfl
  ·rw [if_neg (by simpa using h1),show decide (0≤n.int)=false by simp; omega]; rfl
 rw [if_neg (by simpa using k4),if_neg k4]
end Go.Proofs.YtmekcfdllhphlaaDoor
namespace Go.Proofs.YtmekcfdllhphlaaDoor
open Go Go.R
open Go.IntKind (i64 u64 u8 u32)
def qp:cg:=gk [0,1,2,3,8,9,14,34] [] [224,160,224,192,64,192,192] [] []
def aP.l1 (m:Nat)(a0:Int)(aN:Int→Int→Option (Int)):Nat→(List Int)→Int→Option ((List Int) × Int)
 | 0,_,_=>none
 | k+1,da,j0=>if (decide (j0 > a0))=true then ((ix da j0).bind fun v0=>(ix da (i64.wrap (j0 - (1:Int)))).bind fun v1=>(aN v0 v1).bind fun r0=>if (decide (r0<(0:Int)))=true then ((ix da (i64.wrap (j0 - (1:Int)))).bind fun v2=>(ix da j0).bind fun v3=>(ix da j0).bind fun v4=>(ix (da.set j0.toNat v2) (i64.wrap (j0 - (1:Int)))).bind fun v5=>aP.l1 m a0 aN k ((da.set j0.toNat v2).set (i64.wrap (j0 - (1:Int))).toNat v3) (i64.wrap (j0 - (1:Int)))) else (some ((da,j0)))) else (some ((da,j0)))
def aP.l0 (m:Nat)(a0:Int)(b0:Int)(aN:Int→Int→Option (Int)):Nat→(List Int)→Int→Option ((List Int) × Int)
 | 0,_,_=>none
 | k+1,bl,i0=>if (decide (i0<b0))=true then ((aP.l1 m a0 aN m bl i0).bind fun bq=>match bq with | (dq,j1)=>aP.l0 m a0 b0 aN k dq (i64.wrap (i0+(1:Int)))) else (some ((bl,i0)))
def aP.f (m:Nat)(aq:List Int)(a0:Int)(b0:Int)(aN:Int→Int→Option (Int)):Option ((List Int)):=(aP.l0 m a0 b0 aN m aq (i64.wrap (a0+(1:Int)))).bind fun cq=>match cq with | (jv,i1)=>some jv
def aP.fin (L:Mem)(aB:Nat)(aq:List Int)(a0:Int)(b0:Int)(aN:Int→Int→Option (Int))(r:(List Int))(s:St):Prop:=aI Tryd.prog (s.open qp) Tryd.f119.results.toList=some (.tup [])∧Has s.h ((aB,.sl aq.length 1 (aa.l r))::L)
def Kq (cf:CallF)(m:Nat):Prop:=∀(aq:List Int) (a0:Int) (b0:Int) (aN:Int→Int→Option (Int)) (r:(List Int)),aP.f m aq a0 b0 aN=some r→∀h L (cz:Nat) (aB:Nat),Has h ((aB,.sl cz 1 (aa.l aq))::L)→∀(rm:FuncId) (fG:List AV),ay (.fn rm fG) = .fn rm fG→(∀h K,Has h (K++L)→∀(a0:Int) (a1:Int) r,aN a0 a1=some r→cf rm ([.int .i64 a0,.int .i64 a1]++fG) h=some (.int .i64 r,h))→∀xs,xs.map ay=[.rs aB 0 cz 1,.int .i64 a0,.int .i64 b0,.fn rm fG]→∃h',cf 119 xs h=some (.tup [],h')∧Has h' ((aB,.sl cz 1 (aa.l r))::L)
section
variable {cf:CallF}{m:Nat}
theorem aP.fu (L:Mem)(aB:Nat)(rm:FuncId)(fG:List AV)(aq:List Int)(a0:Int)(b0:Int)(aN:Int→Int→Option (Int))(i0:Int)  (Dy:ay (.fn rm fG) = .fn rm fG)(AA:∀h K,Has h (K++L)→∀(a0:Int) (a1:Int) r,aN a0 a1=some r→cf rm ([.int .i64 a0,.int .i64 a1]++fG) h=some (.int .i64 r,h))  : bI Tryd.prog cf qp m (sub [1,0,0,1,0,0,1,0,0] (codeOf Tryd.f119)) (fun k (σ:(List Int) × Int)=>aP.l1 m a0 aN k σ.1 σ.2) (fun σ s=>match σ with | (da,j0)=>∃h1,s=⟨[.rs aB 0 aq.length 1,.int .i64 a0,.int .i64 b0,.fn rm fG,.int .i64 i0,.int .i64 j0,.any,.any],[],h1⟩∧Has h1 ((aB,.sl aq.length 1 (aa.l da))::L)) (fun out e s=>(e = .exit 2∧∃da j0,(da,j0)=out∧∃tG Fs h1,s=⟨[.rs aB 0 aq.length 1,.int .i64 a0,.int .i64 b0,.fn rm fG,.int .i64 i0,tG,.any,Fs],[],h1⟩∧Has h1 ((aB,.sl aq.length 1 (aa.l da))::L))):=by
 refine gS (fun _=>rfl) ?_
 rintro k ⟨da,j0⟩ s out ⟨h1,rfl,o1⟩ H
 have H:aP.l1 m a0 aN (k+1) da j0=some out:=H
 refine qq <| qq ?_
 rcases dw H with⟨c1,H⟩| ⟨c1,H⟩
 ·obtain⟨v0,e0,H⟩:=aJ H
  obtain⟨v1,e1,H⟩:=aJ H
  obtain⟨r0,e2,H⟩:=aJ H
  refine qr [.b 3 c1,.v 7 (aH (k:=.i64) (E:=aa) (l:=da) (q:=0) dC o1 rfl e0),.v 8 (bg  (E:=aa) (l:=da) (q:=0) o1 rfl A3 e0 rfl),.v 12 (aH (k:=.i64) (E:=aa) (l:=da) (q:=0) dC o1 rfl e1),.v 13 (bg  (E:=aa) (l:=da) (q:=0) o1 rfl A3 e1 rfl),.a 14 (AA h1 [(aB,.sl aq.length 1 (aa.l da))] o1 _ _ _ e2)] <| qc H (fun c2 H=>?_) (fun c2 H=>?_)
  ·refine qk <| qq <| qb 3 ?_
   obtain⟨v2,e3,H⟩:=aJ H
   obtain⟨v3,e4,H⟩:=aJ H
   obtain⟨v4,e5,H⟩:=aJ H
   obtain⟨h2,e6,o2⟩:=dJ (P:=Tryd.prog) (tf:=3) (E:=aa) (l:=da) (q:=0) (v:=v2) (x:=.int .i64 v2) o1 rfl Z3 e5 rfl rfl
   obtain⟨v5,e7,H⟩:=aJ H
   obtain⟨h3,e8,o3⟩:=dJ (P:=Tryd.prog) (tf:=3) (E:=aa) (l:=(da.set j0.toNat v2)) (q:=0) (v:=v3) (x:=.int .i64 v3) o2 rfl Z3 e7 rfl rfl
   exact qr [.v 8 (aH (k:=.i64) (E:=aa) (l:=da) (q:=0) dC o1 rfl e3),.v 9 (bg  (E:=aa) (l:=da) (q:=0) o1 rfl A3 e3 rfl),.v 12 (aH (k:=.i64) (E:=aa) (l:=da) (q:=0) dC o1 rfl e4),.v 13 (bg  (E:=aa) (l:=da) (q:=0) o1 rfl A3 e4 rfl),.v 14 (aH (k:=.i64) (E:=aa) (l:=da) (q:=0) dC o1 rfl e5),.w 15 e6,.v 16 (aH (k:=.i64) (E:=aa) (l:=(da.set j0.toNat v2)) (q:=0) dC o2 rfl e7),.w 17 e8] <| q0 <| ⟨((da.set j0.toNat v2).set (i64.wrap (j0 - (1:Int))).toNat v3,i64.wrap (j0 - (1:Int))),⟨h3,by kernel_rfl,o3⟩,H⟩
  ·exact qx 2 <| ⟨rfl,da,j0,oi H,.int .i64 j0,.bool (decide (r0<(0:Int))),h1,by kernel_rfl,o1⟩
 ·exact qr [.b 3 c1] <| Dq <| qx 2 <| ⟨rfl,da,j0,oi H,.int .i64 j0,.bool false,h1,by kernel_rfl,o1⟩
theorem aP.bG (L:Mem)(aB:Nat)(rm:FuncId)(fG:List AV)(aq:List Int)(a0:Int)(b0:Int)(aN:Int→Int→Option (Int))  (Dy:ay (.fn rm fG) = .fn rm fG)(AA:∀h K,Has h (K++L)→∀(a0:Int) (a1:Int) r,aN a0 a1=some r→cf rm ([.int .i64 a0,.int .i64 a1]++fG) h=some (.int .i64 r,h))  : bI Tryd.prog cf qp m (sub [1,0,0] (codeOf Tryd.f119)) (fun k (σ:(List Int) × Int)=>aP.l0 m a0 b0 aN k σ.1 σ.2) (fun σ s=>match σ with | (bl,i0)=>∃h0,s=⟨.rs aB 0 aq.length 1 :: .int .i64 a0 :: .int .i64 b0 :: .fn rm fG :: .int .i64 i0::jW [],[],h0⟩∧Has h0 ((aB,.sl aq.length 1 (aa.l bl))::L)) (fun out e s=>(e = .exit 0∧∃bl i0,(bl,i0)=out∧∃kp rF Ay tu qn w7 h0,s=⟨[kp,rF,Ay,tu,qn,.any,w7,.any],[],h0⟩∧Has h0 ((aB,.sl aq.length 1 (aa.l bl))::L))):=by
 refine gS (fun _=>rfl) ?_
 rintro k ⟨bl,i0⟩ s out ⟨h0,rfl,o0⟩ H
 have H:aP.l0 m a0 b0 aN (k+1) bl i0=some out:=H
 refine qq <| qq <| q0 <| qc H (fun c0 H=>?_) (fun c0 H=>?_)
 ·refine qk <| qq <| qb 1 <| qq <| q0 <| qb 2 ?_
  obtain⟨bq,e9,H⟩:=aJ H
  refine ql (aP.fu L aB rm fG aq a0 b0 aN i0  Dy AA  (bl,i0) _ _ ⟨h0,by kernel_rfl,o0⟩ e9) ?_
  rintro e s ⟨rfl,dq,j1,rfl,g0,g1,h4,rfl,o4⟩
  try dsimp only at H
  exact q0 <| ⟨(dq,i64.wrap (i0+(1:Int))),⟨h4,by kernel_rfl,o4⟩,H⟩
 ·exact qx 0 <| ⟨rfl,bl,i0,oi H,.rs aB 0 aq.length 1,.int .i64 a0,.int .i64 b0,.fn rm fG,.int .i64 i0,.bool (decide (i0<b0)),h0,by kernel_rfl,o0⟩
theorem mT {aS:FuncId→cg}(ha:aS 119=qp)  (aq:List Int)(a0:Int)(b0:Int)(aN:Int→Int→Option (Int))(h:AHeap)(L:Mem)(aB:Nat)(rm:FuncId)(fG:List AV)  (Dy:ay (.fn rm fG) = .fn rm fG)(AA:∀h K,Has h (K++L)→∀(a0:Int) (a1:Int) r,aN a0 a1=some r→cf rm ([.int .i64 a0,.int .i64 a1]++fG) h=some (.int .i64 r,h))(o:Has h ((aB,.sl aq.length 1 (aa.l aq))::L)){out:(List Int)}(H:aP.f m aq a0 b0 aN=some out) :
  ∃r h',a7 Tryd.prog aS cf m 119 [.rs aB 0 aq.length 1,.int .i64 a0,.int .i64 b0,.fn rm fG] h=some (r,h')∧r = .tup []∧Has h' ((aB,.sl aq.length 1 (aa.l out))::L):=by
 refine ak (fn:=Tryd.f119) ha Tryd.func119 (by kernel_rfl) (by kernel_rfl) ?_
 refine aF (Q:=fun s=>aP.fin L aB aq a0 b0 aN out s) (fun _ _ ⟨h1,h2,h3⟩=>⟨h1,_,h2,rfl,h3⟩) ?_
 have H:_=some out:=H
 unfold aP.f at H
 show de _ cf qp m _ ⟨.rs aB 0 aq.length 1 :: .int .i64 a0 :: .int .i64 b0 :: .fn rm fG::re [],[],h⟩ _
 refine q1 <| qb 0 ?_
 obtain⟨cq,mU,H⟩:=aJ H
 refine ql (aP.bG L aB rm fG aq a0 b0 aN  Dy AA  (aq,i64.wrap (a0+(1:Int))) _ _ ⟨h,by kernel_rfl,o⟩ mU) ?_
 rintro e s ⟨rfl,jv,i1,rfl,g2,g3,g4,g5,g6,g7,h5,rfl,o5⟩
 try dsimp only at H
 obtain rfl:=oi H
 exact⟨.inr rfl,⟨by kernel_rfl,he o5⟩⟩
end
end Go.Proofs.YtmekcfdllhphlaaDoor
namespace Go.Proofs.YtmekcfdllhphlaaDoor
open Go Go.R
open Go.IntKind (i64 u64 u8 u32)
structure Mv (lo hi:Nat)(l d:List Int):Prop where
 perm:d.Perm l
 out:∀k,k<lo∨hi≤k→gt d k=gt l k
 im:∀k,lo≤k→k<hi→∃k',lo≤k'∧k'<hi∧gt d k=gt l k'
theorem Mv.refl {lo hi:Nat}{l:List Int}:Mv lo hi l l:=⟨List.Perm.refl _,fun _ _=>rfl,fun k h1 h2=>⟨k,h1,h2,rfl⟩⟩
theorem Mv.trans {lo hi:Nat}{l d e:List Int}(a:Mv lo hi l d)(b:Mv lo hi d e):Mv lo hi l e:=
 ⟨b.perm.trans a.perm,fun k hk=>(b.out k hk).trans (a.out k hk),fun k h1 h2=>by
  obtain⟨k',g1,g2,g3⟩:=b.im k h1 h2
  obtain⟨UW,g4,g5,g6⟩:=a.im k' g1 g2
  exact⟨UW,g4,g5,g3.trans g6⟩⟩
theorem Mv.length {lo hi:Nat}{l d:List Int}(a:Mv lo hi l d):d.length=l.length:=a.perm.length_eq
theorem Mv.wide {lo hi G6 lB:Nat}{l d:List Int}(a:Mv lo hi l d)(h1:G6≤lo)(h2:hi≤lB):Mv G6 lB l d:=
 ⟨a.perm,fun k hk=>a.out k (by omega),fun k h3 h4=>by
  by_cases h:lo≤k∧k<hi
  ·obtain⟨k',g1,g2,g3⟩:=a.im k h.1 h.2
   exact⟨k',by omega,by omega,g3⟩
  ·exact⟨k,h3,h4,a.out k (by omega)⟩⟩
theorem AB {lo hi i j:Nat}{l:List Int}(N9:lo≤i)(Hp:i<hi)(Oj:lo≤j)(Ey:j<hi)(h:hi≤l.length):Mv lo hi l (Fj l i j):=
 ⟨pb (by omega) (by omega),fun k hk=>by rw [lk (by omega) (by omega),if_neg (by omega),if_neg (by omega)],fun k h1 h2=>by
  rw [lk (by omega) (by omega)]
  split
  ·exact⟨i,N9,Hp,rfl⟩
  split
  ·exact⟨j,Oj,Ey,rfl⟩
  ·exact⟨k,h1,h2,rfl⟩⟩
def Cm (cmp:Int→Int→Option Int)(c:Int→Int→Int)(l:List Int):Prop:=∀x∈l,∀y∈l,cmp x y=some (c x y)
theorem Cm.perm {cmp c l d}(h:Cm cmp c l)(p:List.Perm d l):Cm cmp c d:=fun x hx y hy=>h x (p.mem_iff.1 hx) y (p.mem_iff.1 hy)
theorem Cm.at {cmp c}{l:List Int}(h:Cm cmp c l){i j:Nat}(hi:i<l.length)(hj:j<l.length):cmp (gt l i) (gt l j)=some (c (gt l i) (gt l j)):=h _ (aM hi) _ (aM hj)
structure Ord (c:Int→Int→Int)(l:List Int):Prop where
 tr:∀x∈l,∀y∈l,∀z∈l,0≤c y x→0≤c z y→0≤c z x
 LA:∀x∈l,∀y∈l,c x y<0→0≤c y x
theorem Ord.perm {c l d}(h:Ord c l)(p:List.Perm d l):Ord c d:=⟨fun x hx y hy z hz=>h.tr x (p.mem_iff.1 hx) y (p.mem_iff.1 hy) z (p.mem_iff.1 hz),fun x hx y hy=>h.LA x (p.mem_iff.1 hx) y (p.mem_iff.1 hy)⟩
def Sg (c:Int→Int→Int)(l:List Int)(a b:Nat):Prop:=∀i j,a≤i→i<j→j<b→0≤c (gt l j) (gt l i)
theorem Ft {m:Nat}{a i:Nat}{cmp:Int→Int→Option Int}{c:Int→Int→Int}:∀(f j:Nat) (d:List Int),j - a<f→a≤j→j≤i→i<d.length→d.length<2 ^ 40→Cm cmp c d→
  ∃d' x,aP.l1 m (a:Int) cmp f d (j:Int)=some (d',x)∧Mv a (i+1) d d'∧
   (Ord c d→(∀x y,a≤x→x<y→y≤i→x≠j→y≠j→0≤c (gt d y) (gt d x))→(∀y,j<y→y≤i→0≤c (gt d y) (gt d j))→Sg c d' a (i+1))
 | 0,j,d,hf,_,_,_,_,_=>absurd hf (by omega)
 | f+1,j,d,hf,h1,h2,h3,hs,C=>by
  have nR:(2:Nat) ^ 40=1099511627776:=by decide
  unfold aP.l1
  by_cases h:a<j
  ·have e1:i64.wrap ((j:Int) - 1)=((j - 1:Nat):Int):=by rw [aD (by omega) (by omega)]; omega
   rw [if_pos (by simp; omega),e1,cC (by omega),cC (by omega),WL,WL,C.at (by omega) (by omega),WL]
   by_cases hc:c (gt d j) (gt d (j - 1))<0
   ·rw [if_pos (by simpa using hc),WL,WL,WL,WT,WT,cC (by simp; omega),WL]
    obtain⟨d',x,k1,k2,k3⟩:=Ft (m:=m) (a:=a) (i:=i) (cmp:=cmp) (c:=c) f (j - 1) (Fj d j (j - 1)) (by omega) (by omega) (by omega) (by rw [tz]; omega) (by rw [tz]; omega) (C.perm (pb (by omega) (by omega)))
    refine⟨d',x,k1,(AB (by omega) (by omega) (by omega) (by omega) (by omega)).trans k2,fun O g1 g2=>k3 (O.perm (pb (by omega) (by omega))) (fun x y x1 x2 x3 x4 x5=>?_) (fun y y1 y2=>?_)⟩
    ·rw [lk (by omega) (by omega),lk (by omega) (by omega),if_neg x5,if_neg x4]
     by_cases hy:y=j
     ·subst hy
      rw [if_pos rfl,if_neg (by omega)]
      exact g1 _ _ (by omega) (by omega) (by omega) (by omega) (by omega)
     ·rw [if_neg hy]
      by_cases hx:x=j
      ·subst hx
       rw [if_pos rfl]
       exact g1 _ _ (by omega) (by omega) (by omega) (by omega) (by omega)
      ·rw [if_neg hx]
       exact g1 _ _ (by omega) (by omega) (by omega) (by omega) (by omega)
    ·rw [lk (by omega) (by omega),lk (by omega) (by omega),if_neg (by omega),if_pos rfl]
     by_cases hy:y=j
     ·subst hy
      rw [if_pos rfl]
      exact O.LA _ (aM (by omega)) _ (aM (by omega)) hc
     ·rw [if_neg hy]
      exact g2 _ (by omega) (by omega)
   ·rw [if_neg (by simpa using hc)]
    refine⟨d,j,rfl,Mv.refl,fun O g1 g2 x y x1 x2 x3=>?_⟩
    have hc:0≤c (gt d j) (gt d (j - 1)):=by omega
    by_cases hx:x=j
    ·subst hx; exact g2 _ x2 (by omega)
    ·by_cases hy:y=j
     ·subst hy
      by_cases hx1:x=y - 1
      ·subst hx1; exact hc
      ·exact O.tr _ (aM (by omega)) (gt d (y - 1)) (aM (by omega)) _ (aM (by omega)) (g1 _ _ x1 (by omega) (by omega) hx (by omega)) hc
     ·exact g1 _ _ x1 x2 (by omega) hx hy
  ·have:j=a:=by omega
   subst this
   rw [if_neg (by simp)]
   refine⟨d,j,rfl,Mv.refl,fun O g1 g2 x y x1 x2 x3=>?_⟩
   by_cases hx:x=j
   ·subst hx; exact g2 _ x2 (by omega)
   ·exact g1 _ _ x1 x2 (by omega) hx (by omega)
theorem Fu {m:Nat}{a b:Nat}{cmp:Int→Int→Option Int}{c:Int→Int→Int}(hm:2 ^ 41≤m):∀(f i:Nat) (d:List Int),b - i<f→a<i→b≤d.length→d.length<2 ^ 40→Cm cmp c d→
  ∃d' x,aP.l0 m (a:Int) (b:Int) cmp f d (i:Int)=some (d',x)∧Mv a b d d'∧(Ord c d→Sg c d a i→Sg c d' a b)
 | 0,i,d,hf,_,_,_,_=>absurd hf (by omega)
 | f+1,i,d,hf,h1,h2,hs,C=>by
  have nR:(2:Nat) ^ 40=1099511627776:=by decide
  have rl:(2:Nat) ^ 41=2199023255552:=by decide
  unfold aP.l0
  by_cases h:i<b
  ·obtain⟨d1,x1,k1,k2,k3⟩:=Ft (m:=m) (a:=a) (i:=i) (cmp:=cmp) (c:=c) m i d (by omega) (by omega) (by omega) (by omega) hs C
   have e3:i64.wrap ((i:Int)+1)=((i+1:Nat):Int):=by rw [aD (by omega) (by omega)]; omega
   rw [if_pos (by simp; omega),k1,WL]
   dsimp only
   rw [e3]
   have hl:=k2.length
   obtain⟨d',x,g1,g2,g3⟩:=Fu (a:=a) (b:=b) (cmp:=cmp) (c:=c) hm f (i+1) d1 (by omega) (by omega) (by omega) (by omega) (C.perm k2.perm)
   exact⟨d',x,g1,(k2.wide (WQ _) (by omega)).trans g2,fun O S=>g3 (O.perm k2.perm) (k3 O (fun x y q1 q2 q3 q4 q5=>S x y q1 q2 (by omega)) (fun y q1 q2=>absurd q1 (by omega)))⟩
  ·exact⟨d,i,by rw [if_neg (by simp; omega)],Mv.refl,fun O S x y q1 q2 q3=>S x y q1 q2 (by omega)⟩
theorem yS {m:Nat}{a b:Nat}{cmp:Int→Int→Option Int}{c:Int→Int→Int}(hm:2 ^ 41≤m){l:List Int}(ha:a≤l.length)(hb:b≤l.length)(hs:l.length<2 ^ 40)(C:Cm cmp c l) :
  ∃d,aP.f m l (a:Int) (b:Int) cmp=some d∧Mv a b l d∧(Ord c l→Sg c d a b):=by
 have nR:(2:Nat) ^ 40=1099511627776:=by decide
 have rl:(2:Nat) ^ 41=2199023255552:=by decide
 have e3:i64.wrap ((a:Int)+1)=((a+1:Nat):Int):=by rw [aD (by omega) (by omega)]; omega
 obtain⟨d',x,g1,g2,g3⟩:=Fu (a:=a) (b:=b) (cmp:=cmp) (c:=c) hm m (a+1) l (by omega) (by omega) hb hs C
 exact⟨d',by unfold aP.f; rw [e3,g1]; rfl,g2,fun O=>g3 O fun x y q1 q2 q3=>absurd q3 (by omega)⟩
end Go.Proofs.YtmekcfdllhphlaaDoor
