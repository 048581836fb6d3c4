/- Part of the proof: Q123, Q122, PS1, Q118, Q106, Q77, Q107, Q78, Q79, Q80, Q62, Q52, Q34, Q51, Q32, PT6, Q119, PS2. -/
import Derived.Test.YtmekcfdllhphlaaDoorK5
set_option linter.unusedVariables false
set_option linter.unusedSimpArgs false
set_option maxRecDepth 100000
open Bool renaming and_eq_true → WV, or_eq_true → XG, true_and → X6
open ByteArray renaming mk → Xk
open Int renaming toNat_natCast → WX
open List renaming getElem?_eq_some_iff → WZ, getElem?_eq_getElem → W5, drop_eq_getElem_cons → W6, append_assoc → W7, getElem?_eq_none → Xa, getD_eq_getElem?_getD → Xb, length_cons → Xf, cons_append → Xj, drop_eq_nil_of_le → Xp, drop_zero → Xr, nil_append → Xs, getElem?_cons_zero → Xz, ext_getElem? → XI, length_nil → XL, getElem_mem → XM, all_cons → XO, mem_of_getElem? → XT, getElem?_set → Ye
open Nat renaming le_refl → WU
open Option renaming bind_some → WQ
open Option.some renaming injEq → WT, inj → Xn
open Or renaming inr → XZ, inl → Yf
namespace Go.Proofs.YtmekcfdllhphlaaDoor
open Go Go.R
open Go.IntKind (i64 u64 u8 u32)
def tw:cd:=gh [0,1,2,3,10,13] [] [32,0,32,32] [] []
def bV.l0 (m:Nat)(a0:Int)(b0:Int)(n0:Int):Nat→(List Int)→Int→Option ((List Int) × Int)
 | 0,_,_=>none
 | k+1,bj,i0=>if (decide (i0<n0))=true then ((ix bj (i64.wrap (b0+i0))).bind fun v0=>(ix bj (i64.wrap (a0+i0))).bind fun v1=>(ix bj (i64.wrap (a0+i0))).bind fun v2=>(ix (bj.set (i64.wrap (a0+i0)).toNat v0) (i64.wrap (b0+i0))).bind fun v3=>bV.l0 m a0 b0 n0 k ((bj.set (i64.wrap (a0+i0)).toNat v0).set (i64.wrap (b0+i0)).toNat v1) (i64.wrap (i0+(1:Int)))) else (some ((bj,i0)))
def bV.f (m:Nat)(aq:List Int)(a0:Int)(b0:Int)(n0:Int)(aN:Int→Int→Option (Int)):Option ((List Int)):=(bV.l0 m a0 b0 n0 m aq (0:Int)).bind fun bo=>match bo with | (cY,i1)=>some cY
def bV.fin (L:Mem)(aA:Nat)(aq:List Int)(a0:Int)(b0:Int)(n0:Int)(aN:Int→Int→Option (Int))(r:(List Int))(s:St):Prop:=aI Tryd.prog (s.open tw) Tryd.f123.results.toList=some (.tup [])∧Has s.h ((aA,.sl aq.length 1 (aa.l r))::L)
def Kq (cf:CallF)(m:Nat):Prop:=∀(aq:List Int) (a0:Int) (b0:Int) (n0:Int) (aN:Int→Int→Option (Int)) (r:(List Int)),bV.f m aq a0 b0 n0 aN=some r→∀h L (cz:Nat) (aA:Nat),Has h ((aA,.sl cz 1 (aa.l aq))::L)→∀(er:FuncId) (aV:List AV),ay (.fn er aV) = .fn er aV→(∀h K,Has h (K++L)→∀(a0:Int) (a1:Int) r,aN a0 a1=some r→cf er ([.int .i64 a0,.int .i64 a1]++aV) h=some (.int .i64 r,h))→∀xs,xs.map ay=[.rs aA 0 cz 1,.int .i64 a0,.int .i64 b0,.int .i64 n0,.fn er aV]→∃h',cf 123 xs h=some (.tup [],h')∧Has h' ((aA,.sl cz 1 (aa.l r))::L)
section
variable {cf:CallF}{m:Nat}
theorem bV.bG (L:Mem)(aA:Nat)(er:FuncId)(aV:List AV)(aq:List Int)(a0:Int)(b0:Int)(n0:Int)(aN:Int→Int→Option (Int))  (gB:ay (.fn er aV) = .fn er aV)(hY:∀h K,Has h (K++L)→∀(a0:Int) (a1:Int) r,aN a0 a1=some r→cf er ([.int .i64 a0,.int .i64 a1]++aV) h=some (.int .i64 r,h))  : bI Tryd.prog cf tw m (sub [1,0,0] (codeOf Tryd.f123)) (fun k (σ:(List Int) × Int)=>bV.l0 m a0 b0 n0 k σ.1 σ.2) (fun σ s=>match σ with | (bj,i0)=>∃h0,s=⟨[.rs aA 0 aq.length 1,.int .i64 a0,.int .i64 b0,.int .i64 n0,.int .i64 i0,.any],[],h0⟩∧Has h0 ((aA,.sl aq.length 1 (aa.l bj))::L)) (fun out e s=>(e = .exit 0∧∃bj i0,(bj,i0)=out∧∃kQ rB Dt uP tz mu h0,s=⟨[kQ,rB,Dt,uP,tz,mu],[],h0⟩∧Has h0 ((aA,.sl aq.length 1 (aa.l bj))::L))):=by
 refine hX (fun _=>rfl) ?_
 rintro k ⟨bj,i0⟩ s out ⟨h0,rfl,o0⟩ H
 have H:bV.l0 m a0 b0 n0 (k+1) bj i0=some out:=H
 refine qq <| qq <| q0 <| qc H (fun c0 H=>?_) (fun c0 H=>?_)
 ·refine qk <| qq <| qb 1 ?_
  obtain⟨v0,e0,H⟩:=aJ H
  obtain⟨v1,e1,H⟩:=aJ H
  obtain⟨v2,e2,H⟩:=aJ H
  obtain⟨h1,e3,o1⟩:=dK (P:=Tryd.prog) (tf:=3) (E:=aa) (l:=bj) (q:=0) (v:=v0) (x:=.int .i64 v0) o0 rfl Z3 e2 rfl rfl
  obtain⟨v3,e4,H⟩:=aJ H
  obtain⟨h2,e5,o2⟩:=dK (P:=Tryd.prog) (tf:=3) (E:=aa) (l:=(bj.set (i64.wrap (a0+i0)).toNat v0)) (q:=0) (v:=v1) (x:=.int .i64 v1) o1 rfl Z3 e4 rfl rfl
  exact qr [.v 12 (aG (k:=.i64) (E:=aa) (l:=bj) (q:=0) dA o0 rfl e0),.v 13 (be  (E:=aa) (l:=bj) (q:=0) o0 rfl A3 e0 rfl),.v 18 (aG (k:=.i64) (E:=aa) (l:=bj) (q:=0) dA o0 rfl e1),.v 19 (be  (E:=aa) (l:=bj) (q:=0) o0 rfl A3 e1 rfl),.v 20 (aG (k:=.i64) (E:=aa) (l:=bj) (q:=0) dA o0 rfl e2),.w 21 e3,.v 22 (aG (k:=.i64) (E:=aa) (l:=(bj.set (i64.wrap (a0+i0)).toNat v0)) (q:=0) dA o1 rfl e4),.w 23 e5] <| q0 <| ⟨((bj.set (i64.wrap (a0+i0)).toNat v0).set (i64.wrap (b0+i0)).toNat v1,i64.wrap (i0+(1:Int))),⟨h2,by kernel_rfl,o2⟩,H⟩
 ·exact qx 0 <| ⟨rfl,bj,i0,oi H,.rs aA 0 aq.length 1,.int .i64 a0,.int .i64 b0,.int .i64 n0,.int .i64 i0,.bool (decide (i0<n0)),h0,by kernel_rfl,o0⟩
theorem rC {aS:FuncId→cd}(ha:aS 123=tw)  (aq:List Int)(a0:Int)(b0:Int)(n0:Int)(aN:Int→Int→Option (Int))(h:AHeap)(L:Mem)(aA:Nat)(er:FuncId)(aV:List AV)  (gB:ay (.fn er aV) = .fn er aV)(hY:∀h K,Has h (K++L)→∀(a0:Int) (a1:Int) r,aN a0 a1=some r→cf er ([.int .i64 a0,.int .i64 a1]++aV) h=some (.int .i64 r,h))(o:Has h ((aA,.sl aq.length 1 (aa.l aq))::L)){out:(List Int)}(H:bV.f m aq a0 b0 n0 aN=some out) :
  ∃r h',aZ Tryd.prog aS cf m 123 [.rs aA 0 aq.length 1,.int .i64 a0,.int .i64 b0,.int .i64 n0,.fn er aV] h=some (r,h')∧r = .tup []∧Has h' ((aA,.sl aq.length 1 (aa.l out))::L):=by
 refine aj (fn:=Tryd.f123) ha Tryd.func123 (by kernel_rfl) (by kernel_rfl) ?_
 refine aD (Q:=fun s=>bV.fin L aA aq a0 b0 n0 aN out s) (fun _ _ ⟨h1,h2,h3⟩=>⟨h1,_,h2,rfl,h3⟩) ?_
 have H:_=some out:=H
 unfold bV.f at H
 show de _ cf tw m _ ⟨[.rs aA 0 aq.length 1,.int .i64 a0,.int .i64 b0,.int .i64 n0,.any,.any],[],h⟩ _
 refine q1 <| qb 0 ?_
 obtain⟨bo,e6,H⟩:=aJ H
 refine ql (bV.bG L aA er aV aq a0 b0 n0 aN  gB hY  (aq,(0:Int)) _ _ ⟨h,by kernel_rfl,o⟩ e6) ?_
 rintro e s ⟨rfl,cY,i1,rfl,g0,g1,g2,g3,g4,g5,h3,rfl,o3⟩
 try dsimp only at H
 obtain rfl:=oi H
 exact⟨.inr rfl,⟨by kernel_rfl,he o3⟩⟩
end
end Go.Proofs.YtmekcfdllhphlaaDoor
namespace Go.Proofs.YtmekcfdllhphlaaDoor
open Go Go.R
open Go.IntKind (i64 u64 u8 u32)
def tA:cd:=gh [0,1,2,3,4,10,11,20,23] [] [450,394,266,138,394,394,394,394,511] [] []
def eJ.l0 (m:Nat)(m0:Int)(aN:Int→Int→Option (Int)):Nat→(List Int)→Int→Int→Option ((List Int) × Int × Int)
 | 0,_,_,_=>none
 | k+1,bj,i0,j0=>if (!(i0==j0))=true then (if (decide (i0 > j0))=true then ((bV.f m bj (i64.wrap (m0 - i0)) m0 j0 aN).bind fun x0=>eJ.l0 m m0 aN k x0 (i64.wrap (i0 - j0)) j0) else ((bV.f m bj (i64.wrap (m0 - i0)) (i64.wrap (i64.wrap (m0+j0) - i0)) i0 aN).bind fun x1=>eJ.l0 m m0 aN k x1 i0 (i64.wrap (j0 - i0)))) else (some ((bj,i0,j0)))
def eJ.f (m:Nat)(aq:List Int)(a0:Int)(m0:Int)(b0:Int)(aN:Int→Int→Option (Int)):Option ((List Int)):=(eJ.l0 m m0 aN m aq (i64.wrap (m0 - a0)) (i64.wrap (b0 - m0))).bind fun bo=>match bo with | (cY,i1,j1)=>(bV.f m cY (i64.wrap (m0 - i1)) m0 i1 aN).bind fun x2=>some x2
def eJ.fin (L:Mem)(aA:Nat)(aq:List Int)(a0:Int)(m0:Int)(b0:Int)(aN:Int→Int→Option (Int))(r:(List Int))(s:St):Prop:=aI Tryd.prog (s.open tA) Tryd.f122.results.toList=some (.tup [])∧Has s.h ((aA,.sl aq.length 1 (aa.l r))::L)
def MR (cf:CallF)(m:Nat):Prop:=∀(aq:List Int) (a0:Int) (m0:Int) (b0:Int) (aN:Int→Int→Option (Int)) (r:(List Int)),eJ.f m aq a0 m0 b0 aN=some r→∀h L (cz:Nat) (aA:Nat),Has h ((aA,.sl cz 1 (aa.l aq))::L)→∀(er:FuncId) (aV:List AV),ay (.fn er aV) = .fn er aV→(∀h K,Has h (K++L)→∀(a0:Int) (a1:Int) r,aN a0 a1=some r→cf er ([.int .i64 a0,.int .i64 a1]++aV) h=some (.int .i64 r,h))→∀xs,xs.map ay=[.rs aA 0 cz 1,.int .i64 a0,.int .i64 m0,.int .i64 b0,.fn er aV]→∃h',cf 122 xs h=some (.tup [],h')∧Has h' ((aA,.sl cz 1 (aa.l r))::L)
section
variable {cf:CallF}{m:Nat}
theorem eJ.bG (L:Mem)(aA:Nat)(er:FuncId)(aV:List AV)(aq:List Int)(a0:Int)(m0:Int)(b0:Int)(aN:Int→Int→Option (Int))  (gB:ay (.fn er aV) = .fn er aV)(hY:∀h K,Has h (K++L)→∀(a0:Int) (a1:Int) r,aN a0 a1=some r→cf er ([.int .i64 a0,.int .i64 a1]++aV) h=some (.int .i64 r,h))(yN:Kq cf m):bI Tryd.prog cf tA m (sub [1,1,0,0,0] (codeOf Tryd.f122)) (fun k (σ:(List Int) × Int × Int)=>eJ.l0 m m0 aN k σ.1 σ.2.1 σ.2.2) (fun σ s=>match σ with | (bj,i0,j0)=>∃h0,s=⟨[.rs aA 0 aq.length 1,.any,.int .i64 m0,.any,.fn er aV,.int .i64 i0,.int .i64 j0,.any,.any],[],h0⟩∧Has h0 ((aA,.sl aq.length 1 (aa.l bj))::L)) (fun out e s=>(e = .exit 0∧∃bj i0 j0,(bj,i0,j0)=out∧∃Fl PL h0,s=⟨[.rs aA 0 aq.length 1,.any,.int .i64 m0,.any,.fn er aV,.int .i64 i0,Fl,PL,.any],[],h0⟩∧Has h0 ((aA,.sl aq.length 1 (aa.l bj))::L))):=by
 refine hX (fun _=>rfl) ?_
 rintro k ⟨bj,i0,j0⟩ s out ⟨h0,rfl,o0⟩ H
 have H:eJ.l0 m m0 aN (k+1) bj i0 j0=some out:=H
 refine qq <| qq <| q0 <| qc H (fun c0 H=>?_) (fun c0 H=>?_)
 ·refine qk <| qb 1 <| qq <| q0 <| qc H (fun c1 H=>?_) (fun c1 H=>?_)
  ·refine qq ?_
   obtain⟨x0,e0,H⟩:=aJ H
   obtain⟨h1,e1,o1⟩:=yN _ _ _ _ _ _ e0 h0 _ _ _ (o0) er aV gB (fun h' K' o'=>hY h' (K'++[]) (by simpa only [W7,Xj,Xs] using o')) [.rs aA 0 aq.length 1,.int .i64 (i64.wrap (m0 - i0)),.int .i64 m0,.int .i64 j0,.fn er aV] (an (rfl) (an (aO (bC)) (an (aO (bC)) (an (aO (bC)) (an (gB) (bg))))))
   exact qr [.a 7 e1] <| q0 <| ⟨(x0,i64.wrap (i0 - j0),j0),⟨h1,by kernel_rfl,o1⟩,H⟩
  ·refine qq ?_
   obtain⟨x1,e2,H⟩:=aJ H
   obtain⟨h2,e3,o2⟩:=yN _ _ _ _ _ _ e2 h0 _ _ _ (o0) er aV gB (fun h' K' o'=>hY h' (K'++[]) (by simpa only [W7,Xj,Xs] using o')) [.rs aA 0 aq.length 1,.int .i64 (i64.wrap (m0 - i0)),.int .i64 (i64.wrap (i64.wrap (m0+j0) - i0)),.int .i64 i0,.fn er aV] (an (rfl) (an (aO (bC)) (an (aO (bC)) (an (aO (bC)) (an (gB) (bg))))))
   exact qr [.a 11 e3] <| q0 <| ⟨(x1,i0,i64.wrap (j0 - i0)),⟨h2,by kernel_rfl,o2⟩,H⟩
 ·exact qx 0 <| ⟨rfl,bj,i0,j0,oi H,.int .i64 j0,.bool (!(i0==j0)),h0,by kernel_rfl,o0⟩
theorem wZ {aS:FuncId→cd}(ha:aS 122=tA)(yN:Kq cf m)(aq:List Int)(a0:Int)(m0:Int)(b0:Int)(aN:Int→Int→Option (Int))(h:AHeap)(L:Mem)(aA:Nat)(er:FuncId)(aV:List AV)  (gB:ay (.fn er aV) = .fn er aV)(hY:∀h K,Has h (K++L)→∀(a0:Int) (a1:Int) r,aN a0 a1=some r→cf er ([.int .i64 a0,.int .i64 a1]++aV) h=some (.int .i64 r,h))(o:Has h ((aA,.sl aq.length 1 (aa.l aq))::L)){out:(List Int)}(H:eJ.f m aq a0 m0 b0 aN=some out) :
  ∃r h',aZ Tryd.prog aS cf m 122 [.rs aA 0 aq.length 1,.int .i64 a0,.int .i64 m0,.int .i64 b0,.fn er aV] h=some (r,h')∧r = .tup []∧Has h' ((aA,.sl aq.length 1 (aa.l out))::L):=by
 refine aj (fn:=Tryd.f122) ha Tryd.func122 (by kernel_rfl) (by kernel_rfl) ?_
 refine aD (Q:=fun s=>eJ.fin L aA aq a0 m0 b0 aN out s) (fun _ _ ⟨h1,h2,h3⟩=>⟨h1,_,h2,rfl,h3⟩) ?_
 have H:_=some out:=H
 unfold eJ.f at H
 show de _ cf tA m _ ⟨.rs aA 0 aq.length 1 :: .int .i64 a0 :: .int .i64 m0 :: .int .i64 b0 :: .fn er aV::oq [],[],h⟩ _
 refine q1 <| qq <| q0 <| qq <| qb 0 ?_
 obtain⟨bo,e4,H⟩:=aJ H
 refine ql (eJ.bG L aA er aV aq a0 m0 b0 aN  gB hY yN (aq,i64.wrap (m0 - a0),i64.wrap (b0 - m0)) _ _ ⟨h,by kernel_rfl,o⟩ e4) ?_
 rintro e s ⟨rfl,cY,i1,j1,rfl,g0,g1,h3,rfl,o3⟩
 try dsimp only at H
 obtain⟨x2,e5,H⟩:=aJ H
 obtain⟨h4,e6,o4⟩:=yN _ _ _ _ _ _ e5 h3 _ _ _ (o3) er aV gB (fun h' K' o'=>hY h' (K'++[]) (by simpa only [W7,Xj,Xs] using o')) [.rs aA 0 aq.length 1,.int .i64 (i64.wrap (m0 - i1)),.int .i64 m0,.int .i64 i1,.fn er aV] (an (rfl) (an (aO (bC)) (an (aO (bC)) (an (aO (bC)) (an (gB) (bg))))))
 obtain rfl:=oi H
 exact qr [.a 7 e6] <| ⟨.inr rfl,⟨by kernel_rfl,he o4⟩⟩
end
end Go.Proofs.YtmekcfdllhphlaaDoor
namespace Go.Proofs.YtmekcfdllhphlaaDoor
open Go Go.R
open Go.IntKind (i64 u64 u8 u32)
def gt (l:List Int)(k:Nat):Int:=l.getD k 0
theorem bp {l:List Int}{k:Nat}(h:k<l.length):l[k]? = some (gt l k):=by
 unfold gt; rw [Xb,W5 h]; rfl
theorem aM {l:List Int}{k:Nat}(h:k<l.length):gt l k∈l:=XT (bp h)
theorem cE {l:List Int}{k:Nat}(h:k<l.length):ix l (k:Int)=some (gt l k):=by
 unfold ix; rw [if_pos (by omega),WX,bp h]
theorem fZ {l:List Int}{i:Int}{k:Nat}(hi:i=(k:Int))(h:k<l.length):ix l i=some (gt l k):=by rw [hi,cE h]
theorem eC {l:List Int}{i k:Nat}{x:Int}(hi:i<l.length):gt (l.set i x) k=if k=i then x else gt l k:=by
 unfold gt
 simp only [Xb,Ye]
 by_cases h:i=k
 ·subst h; simp [hi]
 ·rw [if_neg h,if_neg (by omega)]
theorem Fm {l r:List Int}(hl:l.length=r.length)(h:∀k,k<l.length→gt l k=gt r k):l=r:=by
 apply XI fun k=>?_
 by_cases hk:k<l.length
 ·rw [bp hk,bp (hl ▸ hk),h k hk]
 ·rw [Xa (by omega),Xa (by omega)]
def Fo (l:List Int)(i j:Nat):List Int:=(l.set i (gt l j)).set j (gt l i)
theorem pc {l:List Int}{i j:Nat}(hi:i<l.length)(hj:j<l.length):(Fo l i j).Perm l:=by
 have h1:gt l j=l[j]:=by have:=bp hj; rw [W5 hj] at this; exact (Xn this).symm
 have h2:gt l i=l[i]:=by have:=bp hi; rw [W5 hi] at this; exact (Xn this).symm
 unfold Fo; rw [h1,h2]; exact List.set_set_perm hi hj
theorem ls {l:List Int}{i j k:Nat}(hi:i<l.length)(hj:j<l.length):gt (Fo l i j) k=if k=j then gt l i else if k=i then gt l j else gt l k:=by
 unfold Fo
 rw [eC (by simpa using hj),eC hi]
theorem tB {l:List Int}{i j:Nat}:(Fo l i j).length=l.length:=by simp [Fo]
theorem yO {a b:Nat}(h:a+b<9223372036854775808):i64.wrap (gk .u64 (u64.wrap (i64.wrap ((a:Int)+(b:Int)))) 1)=(((a+b) / 2:Nat):Int):=by
 rw [aE (x:=(a:Int)+b) (by omega) (by omega),ij (by omega) (by omega)]
 have:gk .u64 ((a:Int)+(b:Int)) 1=(((a+b) / 2:Nat):Int):=by
  unfold gk
  rw [Int.fdiv_eq_ediv_of_nonneg _ (by decide)]
  show ((a:Int)+(b:Int)) / 2=_
  omega
 rw [this,aE (by omega) (by omega)]
theorem Fp {m:Nat}{l:List Int}{a b n:Nat}(h1:a+n≤b)(h2:b+n≤l.length)(hl:l.length<2 ^ 40):∀(f i:Nat) (d:List Int),n - i<f→i≤n→d.Perm l→
  (∀k,gt d k=if a≤k∧k<a+i then gt l (k - a+b) else if b≤k∧k<b+i then gt l (k - b+a) else gt l k)→
  ∃d' x,bV.l0 m (a:Int) (b:Int) (n:Int) f d (i:Int)=some (d',x)∧d'.Perm l∧(∀k,gt d' k=if a≤k∧k<a+n then gt l (k - a+b) else if b≤k∧k<b+n then gt l (k - b+a) else gt l k)
 | 0,i,d,hf,_,_,_=>absurd hf (by omega)
 | f+1,i,d,hf,hi,hp,hg=>by
  have ot:(2:Nat) ^ 40=1099511627776:=by decide
  have PM:=hp.length_eq
  unfold bV.l0
  by_cases h:i<n
  ·have e1:i64.wrap ((b:Int)+(i:Int))=((b+i:Nat):Int):=by rw [aE (by omega) (by omega)]; omega
   have e2:i64.wrap ((a:Int)+(i:Int))=((a+i:Nat):Int):=by rw [aE (by omega) (by omega)]; omega
   have e3:i64.wrap ((i:Int)+1)=((i+1:Nat):Int):=by rw [aE (by omega) (by omega)]; omega
   rw [if_pos (by simp; omega),e1,e2,e3,cE (by omega),cE (by omega),WX,WX,WQ,WQ,WQ,cE (by simp; omega),WQ]
   show ∃d' x,bV.l0 m (a:Int) (b:Int) (n:Int) f (Fo d (a+i) (b+i)) ((i+1:Nat):Int)=some (d',x)∧_
   refine Fp h1 h2 hl f (i+1) _ (by omega) (by omega) ((pc (by omega) (by omega)).trans hp) fun k=>?_
   rw [ls (by omega) (by omega),hg,hg,hg]
   by_cases k1:k=b+i
   ·subst k1
    rw [if_pos rfl,if_neg (by omega),if_neg (by omega),if_neg (by omega),if_pos (by omega)]
    congr 1; omega
   ·rw [if_neg k1]
    by_cases k2:k=a+i
    ·subst k2
     rw [if_pos rfl,if_neg (by omega),if_neg (by omega),if_pos (by omega)]
     congr 1; omega
    ·rw [if_neg k2]
     by_cases k3:a≤k∧k<a+i
     ·rw [if_pos k3,if_pos (by omega)]
     ·rw [if_neg k3,if_neg (show ¬(a≤k∧k<a+(i+1)) by omega)]
      by_cases k4:b≤k∧k<b+i
      ·rw [if_pos k4,if_pos (by omega)]
      ·rw [if_neg k4,if_neg (by omega)]
  ·have:i=n:=by omega
   subst this
   exact⟨d,i,by rw [if_neg (by simp)],hp,hg⟩
theorem tC {m:Nat}{l:List Int}{a b n:Nat}{cmp:Int→Int→Option Int}(h1:a+n≤b)(h2:b+n≤l.length)(hl:l.length<2 ^ 40)(hm:n<m) :
  ∃d',bV.f m l (a:Int) (b:Int) (n:Int) cmp=some d'∧d'.Perm l∧(∀k,gt d' k=if a≤k∧k<a+n then gt l (k - a+b) else if b≤k∧k<b+n then gt l (k - b+a) else gt l k):=by
 obtain⟨d',x,e,hp,hg⟩:=Fp (m:=m) h1 h2 hl m 0 l (by omega) (by omega) (List.Perm.refl _) (fun k=>by rw [if_neg (by omega),if_neg (by omega)])
 have e:bV.l0 m (a:Int) (b:Int) (n:Int) m l 0=_:=e
 exact⟨d',by unfold bV.f; rw [e]; rfl,hp,hg⟩
def LB (l d:List Int)(p i j:Nat):Prop:=d.Perm l∧(∀k,k<j→gt d (p+k)=gt l (p+i+k))∧(∀k,k<i→gt d (p+j+k)=gt l (p+k))∧∀k,k<p∨p+i+j≤k→gt d k=gt l k
theorem AE {m:Nat}{q:Nat}{cmp:Int→Int→Option Int}(hm:2 ^ 41≤m):∀(f i j:Nat) (l:List Int),i+j<f→0<i→0<j→i≤q→q+j≤l.length→l.length<2 ^ 40→
  ∃(d':List Int) (x:Nat) (d:List Int),eJ.l0 m (q:Int) cmp f l (i:Int) (j:Int)=some (d',(x:Int),(x:Int))∧bV.f m d' (i64.wrap ((q:Int) - (x:Int))) (q:Int) (x:Int) cmp=some d∧LB l d (q - i) i j
 | 0,i,j,l,hf,_,_,_,_,_=>absurd hf (by omega)
 | f+1,i,j,l,hf,hi,hj,hq,hl,hs=>by
  have ot:(2:Nat) ^ 40=1099511627776:=by decide
  have rD:(2:Nat) ^ 41=2199023255552:=by decide
  unfold eJ.l0
  have e1:i64.wrap ((q:Int) - (i:Int))=((q - i:Nat):Int):=by rw [aE (by omega) (by omega)]; omega
  by_cases h:i=j
  ·subst h
   rw [if_neg (by simp)]
   obtain⟨d,e,hp,hg⟩:=tC (m:=m) (l:=l) (a:=q - i) (b:=q) (n:=i) (cmp:=cmp) (by omega) (by omega) hs (by omega)
   refine⟨l,i,d,rfl,by rw [e1,e],hp,fun k hk=>?_,fun k hk=>?_,fun k hk=>?_⟩
   ·rw [hg,if_pos (by omega)]; congr 1; omega
   ·rw [hg,if_neg (by omega),if_pos (by omega)]; congr 1; omega
   ·rw [hg,if_neg (by omega),if_neg (by omega)]
  ·rw [if_pos (by simp; omega)]
   by_cases h2:j<i
   ·obtain⟨d1,e,hp,hg⟩:=tC (m:=m) (l:=l) (a:=q - i) (b:=q) (n:=j) (cmp:=cmp) (by omega) (by omega) hs (by omega)
    have hd:=hp.length_eq
    have e2:i64.wrap ((i:Int) - (j:Int))=((i - j:Nat):Int):=by rw [aE (by omega) (by omega)]; omega
    rw [if_pos (by simp; omega),e1,e,WQ,e2]
    obtain⟨d',x,d,k1,k2,k3,k4,k5,k6⟩:=AE (q:=q) (cmp:=cmp) hm f (i - j) j d1 (by omega) (by omega) hj (by omega) (by omega) (by omega)
    refine⟨d',x,d,k1,k2,k3.trans hp,fun k hk=>?_,fun k hk=>?_,fun k hk=>?_⟩
    ·rw [k6 _ (by omega),hg,if_pos (by omega)]; congr 1; omega
    ·by_cases LC:k<j
     ·have:=k4 k LC
      rw [show q - (i - j)+k=q - i+j+k by omega,hg,if_neg (by omega),if_pos (by omega)] at this
      rw [this]; congr 1; omega
     ·have:=k5 (k - j) (by omega)
      rw [show q - (i - j)+j+(k - j)=q - i+j+k by omega,hg,if_neg (by omega),if_neg (by omega)] at this
      rw [this]; congr 1; omega
    ·rw [k6 _ (by omega),hg,if_neg (by omega),if_neg (by omega)]
   ·have e2:i64.wrap (i64.wrap ((q:Int)+(j:Int)) - (i:Int))=((q+j - i:Nat):Int):=by rw [aE (x:=(q:Int)+j) (by omega) (by omega),aE (by omega) (by omega)]; omega
    have e3:i64.wrap ((j:Int) - (i:Int))=((j - i:Nat):Int):=by rw [aE (by omega) (by omega)]; omega
    obtain⟨d1,e,hp,hg⟩:=tC (m:=m) (l:=l) (a:=q - i) (b:=q+j - i) (n:=i) (cmp:=cmp) (by omega) (by omega) hs (by omega)
    have hd:=hp.length_eq
    rw [if_neg (by simp; omega),e1,e2,e,WQ,e3]
    obtain⟨d',x,d,k1,k2,k3,k4,k5,k6⟩:=AE (q:=q) (cmp:=cmp) hm f i (j - i) d1 (by omega) hi (by omega) hq (by omega) (by omega)
    refine⟨d',x,d,k1,k2,k3.trans hp,fun k hk=>?_,fun k hk=>?_,fun k hk=>?_⟩
    ·by_cases LC:k<j - i
     ·rw [k4 k LC,hg,if_neg (by omega),if_neg (by omega)]
     ·have:=k5 (k - (j - i)) (by omega)
      rw [show q - i+(j - i)+(k - (j - i))=q - i+k by omega,hg,if_pos (by omega)] at this
      rw [this]; congr 1; omega
    ·rw [k6 _ (by omega),hg,if_neg (by omega),if_pos (by omega)]; congr 1; omega
    ·rw [k6 _ (by omega),hg,if_neg (by omega),if_neg (by omega)]
theorem Fq {m:Nat}{a q b:Nat}{cmp:Int→Int→Option Int}{l:List Int}(hm:2 ^ 41≤m)(h1:a<q)(h2:q<b)(h3:b≤l.length)(hs:l.length<2 ^ 40) :
  ∃d,eJ.f m l (a:Int) (q:Int) (b:Int) cmp=some d∧LB l d a (q - a) (b - q):=by
 have ot:(2:Nat) ^ 40=1099511627776:=by decide
 have rD:(2:Nat) ^ 41=2199023255552:=by decide
 obtain⟨d',x,d,k1,k2,k3⟩:=AE (q:=q) (cmp:=cmp) hm m (q - a) (b - q) l (by omega) (by omega) (by omega) (by omega) (by omega) hs
 rw [show q - (q - a)=a by omega] at k3
 refine⟨d,?_,k3⟩
 unfold eJ.f
 rw [show i64.wrap ((q:Int) - (a:Int))=((q - a:Nat):Int) by rw [aE (by omega) (by omega)]; omega,show i64.wrap ((b:Int) - (q:Int))=((b - q:Nat):Int) by rw [aE (by omega) (by omega)]; omega,k1,WQ]
 dsimp only
 rw [k2]; rfl
end Go.Proofs.YtmekcfdllhphlaaDoor
namespace Go.Proofs.YtmekcfdllhphlaaDoor
open Go Go.R
open Go.IntKind (i64 u64 u8 u32)
def w5:cd:=gh [0,2] [] [2,1] [] []
def fE.f (m:Nat)(c0:Int):Option (Bool):=if (decide (c0≥(97:Int)))=true then (if (decide (c0≤(122:Int)))=true then (some true) else (if (decide (c0≥(65:Int)))=true then (if (decide (c0≤(90:Int)))=true then (some true) else (if (decide (c0≥(48:Int)))=true then (if (decide (c0≤(57:Int)))=true then (some true) else (some (c0==(95:Int)))) else (some (c0==(95:Int))))) else (if (decide (c0≥(48:Int)))=true then (if (decide (c0≤(57:Int)))=true then (some true) else (some (c0==(95:Int)))) else (some (c0==(95:Int)))))) else (if (decide (c0≥(65:Int)))=true then (if (decide (c0≤(90:Int)))=true then (some true) else (if (decide (c0≥(48:Int)))=true then (if (decide (c0≤(57:Int)))=true then (some true) else (some (c0==(95:Int)))) else (some (c0==(95:Int))))) else (if (decide (c0≥(48:Int)))=true then (if (decide (c0≤(57:Int)))=true then (some true) else (some (c0==(95:Int)))) else (some (c0==(95:Int)))))
def fE.fin (L:Mem)(r:Bool)(s:St):Prop:=∃av,aI Tryd.prog (s.open w5) Tryd.f118.results.toList=some av∧fA s.h av (.bool r)
def Kr (cf:CallF)(m:Nat):Prop:=∀(c0:Int) (r:Bool),fE.f m c0=some r→∀h xs,eA eQ h xs [.int .u8 c0]→cf 118 xs h=some (.bool r,h)
section
variable {cf:CallF}{m:Nat}
theorem qn {aS:FuncId→cd}(ha:aS 118=w5)  (c0:Int)(h:AHeap)(L:Mem)  (o:Has h (L)){out:Bool}(H:fE.f m c0=some out) :
  ∃r h',aZ Tryd.prog aS cf m 118 [.int .u8 c0] h=some (r,h')∧fA h' r (.bool out):=by
 refine aj (fn:=Tryd.f118) ha Tryd.func118 (by kernel_rfl) (by kernel_rfl) ?_
 refine aD (Q:=fun s=>fE.fin L out s) (fun _ _ h=>h) ?_
 have H:_=some out:=H
 unfold fE.f at H
 show de _ cf w5 m _ ⟨[.int .u8 c0,.any],[],h⟩ _
 refine q1 <| qq ?_
 rcases dF H with⟨c1,H⟩| ⟨c1,H⟩
 ·rcases dF H with⟨c2,H⟩| ⟨c2,H⟩
  ·obtain rfl:=oi H
   exact qr [.b 2 c1,.b 6 c2] <| qt <| ⟨.inl rfl,ca (.bool true) h (b8 (ak))⟩
  ·rcases dF H with⟨c3,H⟩| ⟨c3,H⟩
   ·rcases dF H with⟨c4,H⟩| ⟨c4,H⟩
    ·obtain rfl:=oi H
     exact qr [.b 2 c1,.b 6 c2,.b 9 c3,.b 14 c4] <| qt <| ⟨.inl rfl,ca (.bool true) h (b8 (ak))⟩
    ·rcases dF H with⟨c5,H⟩| ⟨c5,H⟩
     ·rcases dF H with⟨c6,H⟩| ⟨c6,H⟩
      ·obtain rfl:=oi H
       exact qr [.b 2 c1,.b 6 c2,.b 9 c3,.b 14 c4,.b 17 c5,.b 22 c6] <| qt <| ⟨.inl rfl,ca (.bool true) h (b8 (ak))⟩
      ·obtain rfl:=oi H
       exact qr [.b 2 c1,.b 6 c2,.b 9 c3,.b 14 c4,.b 17 c5,.b 22 c6] <| qt <| ⟨.inl rfl,ca (.bool (c0==(95:Int))) h (b8 (ak))⟩
     ·obtain rfl:=oi H
      exact qr [.b 2 c1,.b 6 c2,.b 9 c3,.b 14 c4,.b 17 c5] <| qt <| ⟨.inl rfl,ca (.bool (c0==(95:Int))) h (b8 (ak))⟩
   ·rcases dF H with⟨c7,H⟩| ⟨c7,H⟩
    ·rcases dF H with⟨c8,H⟩| ⟨c8,H⟩
     ·obtain rfl:=oi H
      exact qr [.b 2 c1,.b 6 c2,.b 9 c3,.b 17 c7,.b 22 c8] <| qt <| ⟨.inl rfl,ca (.bool true) h (b8 (ak))⟩
     ·obtain rfl:=oi H
      exact qr [.b 2 c1,.b 6 c2,.b 9 c3,.b 17 c7,.b 22 c8] <| qt <| ⟨.inl rfl,ca (.bool (c0==(95:Int))) h (b8 (ak))⟩
    ·obtain rfl:=oi H
     exact qr [.b 2 c1,.b 6 c2,.b 9 c3,.b 17 c7] <| qt <| ⟨.inl rfl,ca (.bool (c0==(95:Int))) h (b8 (ak))⟩
 ·rcases dF H with⟨c9,H⟩| ⟨c9,H⟩
  ·rcases dF H with⟨w6,H⟩| ⟨w6,H⟩
   ·obtain rfl:=oi H
    exact qr [.b 2 c1,.b 9 c9,.b 14 w6] <| qt <| ⟨.inl rfl,ca (.bool true) h (b8 (ak))⟩
   ·rcases dF H with⟨pd,H⟩| ⟨pd,H⟩
    ·rcases dF H with⟨rE,H⟩| ⟨rE,H⟩
     ·obtain rfl:=oi H
      exact qr [.b 2 c1,.b 9 c9,.b 14 w6,.b 17 pd,.b 22 rE] <| qt <| ⟨.inl rfl,ca (.bool true) h (b8 (ak))⟩
     ·obtain rfl:=oi H
      exact qr [.b 2 c1,.b 9 c9,.b 14 w6,.b 17 pd,.b 22 rE] <| qt <| ⟨.inl rfl,ca (.bool (c0==(95:Int))) h (b8 (ak))⟩
    ·obtain rfl:=oi H
     exact qr [.b 2 c1,.b 9 c9,.b 14 w6,.b 17 pd] <| qt <| ⟨.inl rfl,ca (.bool (c0==(95:Int))) h (b8 (ak))⟩
  ·rcases dF H with⟨tD,H⟩| ⟨tD,H⟩
   ·rcases dF H with⟨rF,H⟩| ⟨rF,H⟩
    ·obtain rfl:=oi H
     exact qr [.b 2 c1,.b 9 c9,.b 17 tD,.b 22 rF] <| qt <| ⟨.inl rfl,ca (.bool true) h (b8 (ak))⟩
    ·obtain rfl:=oi H
     exact qr [.b 2 c1,.b 9 c9,.b 17 tD,.b 22 rF] <| qt <| ⟨.inl rfl,ca (.bool (c0==(95:Int))) h (b8 (ak))⟩
   ·obtain rfl:=oi H
    exact qr [.b 2 c1,.b 9 c9,.b 17 tD] <| qt <| ⟨.inl rfl,ca (.bool (c0==(95:Int))) h (b8 (ak))⟩
end
end Go.Proofs.YtmekcfdllhphlaaDoor
namespace Go.Proofs.YtmekcfdllhphlaaDoor
open Go Go.R
open Go.IntKind (i64 u64 u8 u32)
def tE:cd:=gh [0,1,2,6,7,27,29,30,31,37] [] [1016,990,1015,830,574,814,318,1015,830,1015] [] []
def cV.l0 (m:Nat)(s0:ByteArray):Nat→Int→Option (Sum Bool (Int))
 | 0,_=>none
 | k+1,x0=>if (decide (x0<(s0.size:Int)))=true then ((bt s0 x0).bind fun v2=>(fE.f m v2).bind fun x1=>if (!x1)=true then (some (.inl false)) else (cV.l0 m s0 k (i64.wrap (x0+(1:Int))))) else (some (.inr x0))
def cV.f (m:Nat)(s0:ByteArray)(kx:Int)(nz:Int):Option (Bool):=if (decide ((s0.size:Int)<(1:Int)))=true then (some false) else (if (decide ((s0.size:Int) > (16:Int)))=true then (some false) else ((bt s0 (0:Int)).bind fun v0=>if (decide (v0<kx))=true then (some false) else ((bt s0 (0:Int)).bind fun v1=>if (decide (v1 > nz))=true then (some false) else ((cV.l0 m s0 m (0:Int)).bind fun bo=>match bo with | .inl r0=>some r0 | .inr x2=>some true))))
def cV.fin (L:Mem)(r:Bool)(s:St):Prop:=∃av,aI Tryd.prog (s.open tE) Tryd.f106.results.toList=some av∧fA s.h av (.bool r)
def MS (cf:CallF)(m:Nat):Prop:=∀(s0:ByteArray) (kx:Int) (nz:Int) (r:Bool),cV.f m s0 kx nz=some r→∀h xs,eA eQ h xs [.str s0,.int .u8 kx,.int .u8 nz]→cf 106 xs h=some (.bool r,h)
section
variable {cf:CallF}{m:Nat}
theorem cV.bG (L:Mem)(s0:ByteArray)  (Fs:Kr cf m):bI Tryd.prog cf tE m (sub [1,1,0,1,0,0] (codeOf Tryd.f106)) (fun k (σ:Int)=>cV.l0 m s0 k σ) (fun σ s=>match σ with | x0=>∃h0,s=⟨.str s0::tl [.int .i64 (s0.size:Int),.int .i64 x0,.any,.any],[],h0⟩∧Has h0 (L)) (fun out e s=>(e = .exit 0∧∃x0,.inr x0=out∧∃kQ PN Ks Kt h0,s=⟨kQ::tl [PN,Ks,Kt,.any],[],h0⟩∧Has h0 (L))∨(e = .ret∧∃r,.inl r=out∧cV.fin L r s)):=by
 refine hX (fun _=>rfl) ?_
 rintro k x0 s out ⟨h0,rfl,o0⟩ H
 have H:cV.l0 m s0 (k+1) x0=some out:=H
 refine q1 <| qq <| qc H (fun c7 H=>?_) (fun c7 H=>?_)
 ·refine qk <| qq <| qb 1 <| qq <| q0 <| qq ?_
  obtain⟨v2,e2,H⟩:=aJ H
  obtain⟨x1,e3,H⟩:=aJ H
  refine qr [.v 2 (mi (k:=.i64) U9 e2),.a 3 (Fs _ _ e3 h0 _ (gf (ab (aH) (ax))))] <| qc H (fun c8 H=>?_) (fun c8 H=>?_)
  ·exact q1 <| qt <| XZ (⟨rfl,_,oi H,ca (.bool false) h0 (b8 (ak))⟩)
  ·exact qk <| q0 <| ⟨i64.wrap (x0+(1:Int)),⟨h0,by kernel_rfl,o0⟩,H⟩
 ·exact qx 0 <| Yf (⟨rfl,x0,oi H,.str s0,.int .i64 (s0.size:Int),.int .i64 x0,.bool (decide (x0<(s0.size:Int))),h0,by kernel_rfl,o0⟩)
theorem tF {aS:FuncId→cd}(ha:aS 106=tE)(Fs:Kr cf m)(s0:ByteArray)(kx:Int)(nz:Int)(h:AHeap)(L:Mem)  (o:Has h (L)){out:Bool}(H:cV.f m s0 kx nz=some out) :
  ∃r h',aZ Tryd.prog aS cf m 106 [.str s0,.int .u8 kx,.int .u8 nz] h=some (r,h')∧fA h' r (.bool out):=by
 refine aj (fn:=Tryd.f106) ha Tryd.func106 (by kernel_rfl) (by kernel_rfl) ?_
 refine aD (Q:=fun s=>cV.fin L out s) (fun _ _ h=>h) ?_
 have H:_=some out:=H
 unfold cV.f at H
 show de _ cf tE m _ ⟨.str s0 :: .int .u8 kx :: .int .u8 nz::Dm [],[],h⟩ _
 refine q1 <| qq <| qq ?_
 rcases dF H with⟨c0,H⟩| ⟨c0,H⟩
 ·obtain rfl:=oi H
  exact qr [.b 3 c0] <| vC <| qq <| q0 <| qt <| ⟨.inl rfl,ca (.bool false) h (b8 (ak))⟩
 ·rcases dF H with⟨c2,H⟩| ⟨c2,H⟩
  ·obtain rfl:=oi H
   exact qr [.b 3 c0,.b 8 c2] <| vC <| qq <| q0 <| qt <| ⟨.inl rfl,ca (.bool false) h (b8 (ak))⟩
  ·obtain⟨v0,e0,H⟩:=aJ H
   rcases dF H with⟨c4,H⟩| ⟨c4,H⟩
   ·obtain rfl:=oi H
    exact qr [.b 3 c0,.b 8 c2,.v 10 (mi (k:=.i64) U9 e0),.b 14 c4] <| vC <| qq <| q0 <| qt <| ⟨.inl rfl,ca (.bool false) h (b8 (ak))⟩
   ·obtain⟨v1,e1,H⟩:=aJ H
    refine qr [.b 3 c0,.b 8 c2,.v 10 (mi (k:=.i64) U9 e0),.b 14 c4,.v 16 (mi (k:=.i64) U9 e1)] <| qc H (fun c6 H=>?_) (fun c6 H=>?_)
    ·obtain rfl:=oi H
     exact q1 <| qt <| ⟨.inl rfl,ca (.bool false) h (b8 (ak))⟩
    ·refine qk <| qq <| qq <| q0 <| qb 0 ?_
     obtain⟨bo,e4,H⟩:=aJ H
     refine ql (cV.bG L s0  Fs (0:Int) _ _ ⟨h,by kernel_rfl,o⟩ e4) ?_
     rintro e s (⟨rfl,x2,rfl,g0,g1,g2,g3,h1,rfl,o1⟩| ⟨rfl,r0,rfl,mw⟩)
     ·try dsimp only at H
      obtain rfl:=oi H
      exact q1 <| qt <| ⟨.inl rfl,ca (.bool true) h1 (b8 (ak))⟩
     ·try dsimp only at H
      obtain rfl:=oi H
      exact⟨.inl rfl,mw⟩
end
end Go.Proofs.YtmekcfdllhphlaaDoor
namespace Go.Proofs.YtmekcfdllhphlaaDoor
open Go Go.R
open Go.IntKind (i64 u64 u8 u32)
def BS:cd:=gh [0,2] [] [2,1] [] []
def gR.f (m:Nat)(s0:ByteArray):Option (Bool):=if (s0.data.toList==(Xk #[124]).data.toList)=true then (some true) else (if (s0.data.toList==(Xk #[35]).data.toList)=true then (some true) else ((cV.f m s0 (97:Int) (122:Int)).bind fun x0=>some x0))
def gR.fin (L:Mem)(r:Bool)(s:St):Prop:=∃av,aI Tryd.prog (s.open BS) Tryd.f77.results.toList=some av∧fA s.h av (.bool r)
def Sy (cf:CallF)(m:Nat):Prop:=∀(s0:ByteArray) (r:Bool),gR.f m s0=some r→∀h xs,eA eQ h xs [.str s0]→cf 77 xs h=some (.bool r,h)
section
variable {cf:CallF}{m:Nat}
theorem tG {aS:FuncId→cd}(ha:aS 77=BS)(MT:MS cf m)(s0:ByteArray)(h:AHeap)(L:Mem)  (o:Has h (L)){out:Bool}(H:gR.f m s0=some out) :
  ∃r h',aZ Tryd.prog aS cf m 77 [.str s0] h=some (r,h')∧fA h' r (.bool out):=by
 refine aj (fn:=Tryd.f77) ha Tryd.func77 (by kernel_rfl) (by kernel_rfl) ?_
 refine aD (Q:=fun s=>gR.fin L out s) (fun _ _ h=>h) ?_
 have H:_=some out:=H
 unfold gR.f at H
 show de _ cf BS m _ ⟨[.str s0,.any],[],h⟩ _
 refine q1 <| qq ?_
 rcases dF H with⟨c0,H⟩| ⟨c0,H⟩
 ·obtain rfl:=oi H
  exact qr [.b 2 c0] <| qt <| ⟨.inl rfl,ca (.bool true) h (b8 (ak))⟩
 ·rcases dF H with⟨c1,H⟩| ⟨c1,H⟩
  ·obtain rfl:=oi H
   exact qr [.b 2 c0,.b 6 c1] <| qt <| ⟨.inl rfl,ca (.bool true) h (b8 (ak))⟩
  ·obtain⟨x0,e0,H⟩:=aJ H
   obtain rfl:=oi H
   exact qr [.b 2 c0,.b 6 c1,.a 8 (MT _ _ _ _ e0 h _ (gf (ab (bJ) (ab (aH) (ab (aH) (ax))))))] <| qt <| ⟨.inl rfl,ca (.bool x0) h (b8 (ak))⟩
end
end Go.Proofs.YtmekcfdllhphlaaDoor
namespace Go.Proofs.YtmekcfdllhphlaaDoor
open Go Go.R
open Go.IntKind (i64 u64 u8 u32)
def tH:cd:=gh [0,1,4,5,7,8,9,16] [] [252,204,140,196,68,251,204,251] [] []
def eK.l0 (m:Nat)(s0:List Int)(f0:Int→Option (Bool)):Nat→Int→Option (Sum Int (Int))
 | 0,_=>none
 | k+1,x0=>if (decide (x0<(s0.length:Int)))=true then ((ix s0 x0).bind fun v0=>(f0 v0).bind fun r0=>if r0=true then (some (.inl x0)) else (eK.l0 m s0 f0 k (i64.wrap (x0+(1:Int))))) else (some (.inr x0))
def eK.f (m:Nat)(s0:List Int)(f0:Int→Option (Bool)):Option (Int):=(eK.l0 m s0 f0 m (0:Int)).bind fun bo=>match bo with | .inl r1=>some r1 | .inr x1=>some (-1:Int)
def eK.fin (h:AHeap)(r:Int)(s:St):Prop:=aI Tryd.prog (s.open tH) Tryd.f107.results.toList=some (.int .i64 r)∧s.h=h
def MU (cf:CallF)(m:Nat):Prop:=∀(s0:List Int) (f0:Int→Option (Bool)) (r:Int),eK.f m s0 f0=some r→∀h,0<h.next→∀(dv:FuncId) (aL:List AV),ay (.fn dv aL) = .fn dv aL→(∀(a0:Int) r,f0 a0=some r→cf dv ([.int .i64 a0]++aL) h=some (.bool r,h))→∀xs,xs.map ay=[aa.fz s0,.fn dv aL]→cf 107 xs h=some (.int .i64 r,h)
section
variable {cf:CallF}{m:Nat}
theorem eK.bG (h:AHeap)(L:Mem)(dv:FuncId)(aL:List AV)(s0:List Int)(f0:Int→Option (Bool))  (gS:ay (.fn dv aL) = .fn dv aL)(gV:∀(a0:Int) r,f0 a0=some r→cf dv ([.int .i64 a0]++aL) h=some (.bool r,h))  : bI Tryd.prog cf tH m (sub [1,0,1,0,0] (codeOf Tryd.f107)) (fun k (σ:Int)=>eK.l0 m s0 f0 k σ) (fun σ s=>match σ with | x0=>s=⟨[aa.fz s0,.fn dv aL,.any,.any,.int .i64 (s0.length:Int),.int .i64 x0,.any,.any],[],h⟩∧Has h (L)) (fun out e s=>(e = .exit 0∧∃x0,.inr x0=out∧∃kQ rB w7 rG tI,s=⟨[kQ,rB,.any,.any,w7,rG,tI,.any],[],h⟩∧Has h (L))∨(e = .ret∧∃r,.inl r=out∧eK.fin h r s)):=by
 refine hX (fun _=>rfl) ?_
 rintro k x0 s out ⟨rfl,o0⟩ H
 have H:eK.l0 m s0 f0 (k+1) x0=some out:=H
 refine q1 <| qq <| qc H (fun c0 H=>?_) (fun c0 H=>?_)
 ·refine qk <| qq <| qb 1 <| qq <| q0 <| qq ?_
  obtain⟨v0,e0,H⟩:=aJ H
  obtain⟨r0,e1,H⟩:=aJ H
  refine qr [.v 3 (bD (k:=.i64) (E:=aa) (l:=s0) dA e0),.v 4 (dd  (E:=aa) (l:=s0) h A3 e0 rfl),.a 5 (gV _ _ e1)] <| qc H (fun c1 H=>?_) (fun c1 H=>?_)
  ·exact q1 <| qt <| XZ (⟨rfl,_,oi H,⟨by kernel_rfl,by kernel_rfl⟩⟩)
  ·exact qk <| q0 <| ⟨i64.wrap (x0+(1:Int)),⟨by kernel_rfl,o0⟩,H⟩
 ·exact qx 0 <| Yf (⟨rfl,x0,oi H,aa.fz s0,.fn dv aL,.int .i64 (s0.length:Int),.int .i64 x0,.bool (decide (x0<(s0.length:Int))),by kernel_rfl,o0⟩)
theorem w8 {aS:FuncId→cd}(ha:aS 107=tH)  (s0:List Int)(f0:Int→Option (Bool))(h:AHeap)(L:Mem)(dv:FuncId)(aL:List AV)  (gS:ay (.fn dv aL) = .fn dv aL)(gV:∀(a0:Int) r,f0 a0=some r→cf dv ([.int .i64 a0]++aL) h=some (.bool r,h))(o:Has h (L)){out:Int}(H:eK.f m s0 f0=some out) :
  ∃r h',aZ Tryd.prog aS cf m 107 [aa.fz s0,.fn dv aL] h=some (r,h')∧r=(.int .i64 out)∧h'=h:=by
 refine aj (fn:=Tryd.f107) ha Tryd.func107 (by kernel_rfl) (by kernel_rfl) ?_
 refine aD (Q:=fun s=>eK.fin h out s) (fun _ _ ⟨h1,h2,h3⟩=>⟨h1,_,h2,rfl,h3⟩) ?_
 have H:_=some out:=H
 unfold eK.f at H
 show de _ cf tH m _ ⟨aa.fz s0 :: .fn dv aL::Hf [],[],h⟩ _
 refine q1 <| qq <| qq <| q0 <| qb 0 ?_
 obtain⟨bo,e2,H⟩:=aJ H
 refine ql (eK.bG h L dv aL s0 f0  gS gV  (0:Int) _ _ ⟨by kernel_rfl,o⟩ e2) ?_
 rintro e s (⟨rfl,x1,rfl,g0,g1,g2,g3,g4,rfl,o1⟩| ⟨rfl,r1,rfl,mw⟩)
 ·try dsimp only at H
  obtain rfl:=oi H
  exact q1 <| qt <| ⟨.inl rfl,⟨by kernel_rfl,by kernel_rfl⟩⟩
 ·try dsimp only at H
  obtain rfl:=oi H
  exact⟨.inl rfl,mw⟩
end
end Go.Proofs.YtmekcfdllhphlaaDoor
namespace Go.Proofs.YtmekcfdllhphlaaDoor
open Go Go.R
open Go.IntKind (i64 u64 u8 u32)
def BT:cd:=gh [0,1,4] [] [4,3] [] []
def gC.f (m:Nat)(s0:List Int)(f0:Int→Option (Bool)):Option (Bool):=(eK.f m s0 f0).bind fun x0=>some (decide (x0≥(0:Int)))
def gC.fin (h:AHeap)(r:Bool)(s:St):Prop:=aI Tryd.prog (s.open BT) Tryd.f78.results.toList=some (.bool r)∧s.h=h
def Sz (cf:CallF)(m:Nat):Prop:=∀(s0:List Int) (f0:Int→Option (Bool)) (r:Bool),gC.f m s0 f0=some r→∀h,0<h.next→∀(dv:FuncId) (aL:List AV),ay (.fn dv aL) = .fn dv aL→(∀(a0:Int) r,f0 a0=some r→cf dv ([.int .i64 a0]++aL) h=some (.bool r,h))→∀xs,xs.map ay=[aa.fz s0,.fn dv aL]→cf 78 xs h=some (.bool r,h)
section
variable {cf:CallF}{m:Nat}
theorem rH {aS:FuncId→cd}(ha:aS 78=BT)(MV:MU cf m)(s0:List Int)(f0:Int→Option (Bool))(h:AHeap)(L:Mem)(dv:FuncId)(aL:List AV)  (gS:ay (.fn dv aL) = .fn dv aL)(gV:∀(a0:Int) r,f0 a0=some r→cf dv ([.int .i64 a0]++aL) h=some (.bool r,h))(o:Has h (L)){out:Bool}(H:gC.f m s0 f0=some out) :
  ∃r h',aZ Tryd.prog aS cf m 78 [aa.fz s0,.fn dv aL] h=some (r,h')∧r=(.bool out)∧h'=h:=by
 refine aj (fn:=Tryd.f78) ha Tryd.func78 (by kernel_rfl) (by kernel_rfl) ?_
 refine aD (Q:=fun s=>gC.fin h out s) (fun _ _ ⟨h1,h2,h3⟩=>⟨h1,_,h2,rfl,h3⟩) ?_
 have H:_=some out:=H
 unfold gC.f at H
 show de _ cf BT m _ ⟨[aa.fz s0,.fn dv aL,.any],[],h⟩ _
 refine q1 <| qq ?_
 obtain⟨x0,e0,H⟩:=aJ H
 obtain rfl:=oi H
 exact qr [.a 2 (MV _ _ _ e0 h (Has.pos o) dv aL gS gV _ (an (aO (iK (E:=aa))) (an (gS) (bg))))] <| qt <| ⟨.inl rfl,⟨by kernel_rfl,by kernel_rfl⟩⟩
end
end Go.Proofs.YtmekcfdllhphlaaDoor
namespace Go.Proofs.YtmekcfdllhphlaaDoor
open Go Go.R
open Go.IntKind (i64 u64 u8 u32)
def BU:cd:=gh [0,1,3] [] [4,3] [] []
def gD.f (m:Nat)(a0:Int)(x0:Int):Option (Bool):=if (decide (a0<(0:Int)))=true then (some true) else (some (decide (a0≥x0)))
def gD.fin (h:AHeap)(r:Bool)(s:St):Prop:=aI Tryd.prog (s.open BU) Tryd.f79.results.toList=some (.bool r)∧s.h=h
def SB (cf:CallF)(m:Nat):Prop:=∀(a0:Int) (x0:Int) (r:Bool),gD.f m a0 x0=some r→∀h L (eL bR:Nat),Has h L→L[eL]? = some (bR,.ob [.int .i64 x0])→cf 79 [.int .i64 a0,.ptr bR 0] h=some (.bool r,h)
section
variable {cf:CallF}{m:Nat}
theorem qo {aS:FuncId→cd}(ha:aS 79=BU)  (a0:Int)(x0:Int)(h:AHeap)(L:Mem)  {eL bR:Nat}(fV:L[eL]? = some (bR,.ob [.int .i64 x0]))(o:Has h (L)){out:Bool}(H:gD.f m a0 x0=some out) :
  ∃r h',aZ Tryd.prog aS cf m 79 [.int .i64 a0,.ptr bR 0] h=some (r,h')∧r=(.bool out)∧h'=h:=by
 refine aj (fn:=Tryd.f79) ha Tryd.func79 (by kernel_rfl) (by kernel_rfl) ?_
 refine aD (Q:=fun s=>gD.fin h out s) (fun _ _ ⟨h1,h2,h3⟩=>⟨h1,_,h2,rfl,h3⟩) ?_
 have H:_=some out:=H
 unfold gD.f at H
 show de _ cf BU m _ ⟨[.int .i64 a0,.ptr bR 0,.any],[],h⟩ _
 refine q1 <| qq ?_
 rcases dF H with⟨c0,H⟩| ⟨c0,H⟩
 ·obtain rfl:=oi H
  exact qr [.b 2 c0] <| qt <| ⟨.inl rfl,⟨by kernel_rfl,by kernel_rfl⟩⟩
 ·obtain rfl:=oi H
  exact qr [.b 2 c0,.v 4 (show bh Tryd.prog h 3 (.ptr bR 0)=some (.int .i64 x0) from cm (q:=eL) (cs:=[.int .i64 x0]) o fV (by kernel_rfl))] <| qt <| ⟨.inl rfl,⟨by kernel_rfl,by kernel_rfl⟩⟩
end
end Go.Proofs.YtmekcfdllhphlaaDoor
namespace Go.Proofs.YtmekcfdllhphlaaDoor
open Go Go.R
open Go.IntKind (i64 u64 u8 u32)
def BV:cd:=gh [0,2] [] [2,1] [] []
def gE.f (m:Nat)(s0:ByteArray):Option (Bool):=if (s0.data.toList==(Xk #[112,114,111,99]).data.toList)=true then (some true) else (if (s0.data.toList==(Xk #[99,101,108,108]).data.toList)=true then (some true) else (some (s0.data.toList==(Xk #[112,111,114,116]).data.toList)))
def gE.fin (L:Mem)(r:Bool)(s:St):Prop:=∃av,aI Tryd.prog (s.open BV) Tryd.f80.results.toList=some av∧fA s.h av (.bool r)
def SC (cf:CallF)(m:Nat):Prop:=∀(s0:ByteArray) (r:Bool),gE.f m s0=some r→∀h xs,eA eQ h xs [.str s0]→cf 80 xs h=some (.bool r,h)
section
variable {cf:CallF}{m:Nat}
theorem rI {aS:FuncId→cd}(ha:aS 80=BV)  (s0:ByteArray)(h:AHeap)(L:Mem)  (o:Has h (L)){out:Bool}(H:gE.f m s0=some out) :
  ∃r h',aZ Tryd.prog aS cf m 80 [.str s0] h=some (r,h')∧fA h' r (.bool out):=by
 refine aj (fn:=Tryd.f80) ha Tryd.func80 (by kernel_rfl) (by kernel_rfl) ?_
 refine aD (Q:=fun s=>gE.fin L out s) (fun _ _ h=>h) ?_
 have H:_=some out:=H
 unfold gE.f at H
 show de _ cf BV m _ ⟨[.str s0,.any],[],h⟩ _
 refine q1 <| qq ?_
 rcases dF H with⟨c0,H⟩| ⟨c0,H⟩
 ·obtain rfl:=oi H
  exact qr [.b 2 c0] <| qt <| ⟨.inl rfl,ca (.bool true) h (b8 (ak))⟩
 ·rcases dF H with⟨c1,H⟩| ⟨c1,H⟩
  ·obtain rfl:=oi H
   exact qr [.b 2 c0,.b 6 c1] <| qt <| ⟨.inl rfl,ca (.bool true) h (b8 (ak))⟩
  ·obtain rfl:=oi H
   exact qr [.b 2 c0,.b 6 c1] <| qt <| ⟨.inl rfl,ca (.bool (s0.data.toList==(Xk #[112,111,114,116]).data.toList)) h (b8 (ak))⟩
end
end Go.Proofs.YtmekcfdllhphlaaDoor
namespace Go.Proofs.YtmekcfdllhphlaaDoor
open Go Go.R
open Go.IntKind (i64 u64 u8 u32)
def BW:cd:=gh [0,1,2,3,4,6,7,23,44,60,89] [2] [2035,2003,1939,2031,1875,2031,1747,2031,1491,2031,1019,2031,2031] [] []
def iu.f (m:Nat)(n0:ae)(my:Int):Option (Bool):=if (n0.kind==(0:Int))=true then (if (decide (n0.int≥(0:Int)))=true then (if (n0.label.data.toList==(Xk #[]).data.toList)=true then (some ((n0.args.length:Int)==(0:Int))) else (some false)) else (some false)) else (if (n0.kind==(1:Int))=true then (if (decide (n0.int≥(-1099511627776:Int)))=true then (if (decide (n0.int≤(1099511627776:Int)))=true then (if (n0.label.data.toList==(Xk #[]).data.toList)=true then (some ((n0.args.length:Int)==(0:Int))) else (some false)) else (some false)) else (some false)) else (if (n0.kind==(2:Int))=true then (if (n0.int==(0:Int))=true then ((gR.f m n0.label).bind fun x0=>if x0=true then (some ((n0.args.length:Int)==(0:Int))) else (some false)) else (some false)) else (if (n0.kind==(3:Int))=true then (if (n0.int==(0:Int))=true then ((gR.f m n0.label).bind fun x1=>if x1=true then (if (decide ((n0.args.length:Int)≥(1:Int)))=true then (if (decide ((n0.args.length:Int)≤(8:Int)))=true then ((gC.f m n0.args (fun y0=>gD.f m y0 my)).bind fun x2=>some (!x2)) else (some false)) else (some false)) else (some false)) else (some false)) else (if (n0.kind==(4:Int))=true then (if (decide (n0.int≥(0:Int)))=true then ((gE.f m n0.label).bind fun x3=>if x3=true then (some ((n0.args.length:Int)==(0:Int))) else (some false)) else (some false)) else (some false)))))
def iu.fin (L:Mem)(r:Bool)(s:St):Prop:=∃av,aI Tryd.prog (s.open BW) Tryd.f62.results.toList=some av∧fA s.h av (.bool r)
def SD (cf:CallF)(m:Nat):Prop:=∀(n0:ae) (my:Int) (r:Bool),iu.f m n0 my=some r→∀h xs,eA eQ h xs [.agg [.int .i64 n0.kind,.int .i64 n0.int,.str n0.label,aa.fz n0.args],.int .i64 my]→cf 62 xs h=some (.bool r,h)
section
variable {cf:CallF}{m:Nat}
theorem tJ {aS:FuncId→cd}(ha:aS 62=BW)(Du:Sy cf m)(PO:Sz cf m)(PQ:SB cf m)(MW:SC cf m)(n0:ae)(my:Int)(h:AHeap)(L:Mem)  (o:Has h (L)){out:Bool}(H:iu.f m n0 my=some out) :
  ∃r h',aZ Tryd.prog aS cf m 62 [.agg [.int .i64 n0.kind,.int .i64 n0.int,.str n0.label,aa.fz n0.args],.int .i64 my] h=some (r,h')∧fA h' r (.bool out):=by
 refine aj (fn:=Tryd.f62) ha Tryd.func62 (by kernel_rfl) (by kernel_rfl) ?_
 refine aD (Q:=fun s=>iu.fin L out s) (fun _ _ h=>h) ?_
 have H:_=some out:=H
 unfold iu.f at H
 show de _ cf BW m _ ⟨.agg [.int .i64 n0.kind,.int .i64 n0.int,.str n0.label,aa.fz n0.args] :: .int .i64 my::Dn [],[none],h⟩ _
 refine qq ?_
 obtain⟨aA,h0,e0,o0⟩:=ku (cs:=[.int .i64 my]) o (by kernel_rfl)
 refine qr [.a 1 e0] <| qq <| qq <| q0 <| qb 0 <| qq <| q0 <| qc H (fun c0 H=>?_) (fun c0 H=>?_)
 ·refine qq ?_
  rcases dF H with⟨c1,H⟩| ⟨c1,H⟩
  ·rcases dF H with⟨c2,H⟩| ⟨c2,H⟩
   ·refine qr [.b 3 c1,.b 8 c2] ?_
    have o1:Has h0 (L):=Has.del o0 0
    obtain rfl:=oi H
    exact qt <| ⟨.inl rfl,ca (.bool ((n0.args.length:Int)==(0:Int))) h0 (b8 (ak))⟩
   ·refine qr [.b 3 c1,.b 8 c2] ?_
    have o2:Has h0 (L):=Has.del o0 0
    obtain rfl:=oi H
    exact qt <| ⟨.inl rfl,ca (.bool false) h0 (b8 (ak))⟩
  ·refine qr [.b 3 c1] ?_
   have o3:Has h0 (L):=Has.del o0 0
   obtain rfl:=oi H
   exact qt <| ⟨.inl rfl,ca (.bool false) h0 (b8 (ak))⟩
 ·refine q1 <| qc H (fun c3 H=>?_) (fun c3 H=>?_)
  ·refine qq ?_
   rcases dF H with⟨c4,H⟩| ⟨c4,H⟩
   ·rcases dF H with⟨c5,H⟩| ⟨c5,H⟩
    ·rcases dF H with⟨c6,H⟩| ⟨c6,H⟩
     ·refine qr [.b 3 c4,.b 8 c5,.b 13 c6] ?_
      have o4:Has h0 (L):=Has.del o0 0
      obtain rfl:=oi H
      exact qt <| ⟨.inl rfl,ca (.bool ((n0.args.length:Int)==(0:Int))) h0 (b8 (ak))⟩
     ·refine qr [.b 3 c4,.b 8 c5,.b 13 c6] ?_
      have o5:Has h0 (L):=Has.del o0 0
      obtain rfl:=oi H
      exact qt <| ⟨.inl rfl,ca (.bool false) h0 (b8 (ak))⟩
    ·refine qr [.b 3 c4,.b 8 c5] ?_
     have o6:Has h0 (L):=Has.del o0 0
     obtain rfl:=oi H
     exact qt <| ⟨.inl rfl,ca (.bool false) h0 (b8 (ak))⟩
   ·refine qr [.b 3 c4] ?_
    have o7:Has h0 (L):=Has.del o0 0
    obtain rfl:=oi H
    exact qt <| ⟨.inl rfl,ca (.bool false) h0 (b8 (ak))⟩
  ·refine q1 <| qc H (fun c7 H=>?_) (fun c7 H=>?_)
   ·refine qq ?_
    rcases dF H with⟨c8,H⟩| ⟨c8,H⟩
    ·obtain⟨x0,e1,H⟩:=aJ H
     rcases dF H with⟨c9,H⟩| ⟨c9,H⟩
     ·refine qr [.b 3 c8,.a 6 (Du _ _ e1 h0 _ (gf (ab (bJ) (ax)))),.b 8 c9] ?_
      have o8:Has h0 (L):=Has.del o0 0
      obtain rfl:=oi H
      exact qt <| ⟨.inl rfl,ca (.bool ((n0.args.length:Int)==(0:Int))) h0 (b8 (ak))⟩
     ·refine qr [.b 3 c8,.a 6 (Du _ _ e1 h0 _ (gf (ab (bJ) (ax)))),.b 8 c9] ?_
      have o9:Has h0 (L):=Has.del o0 0
      obtain rfl:=oi H
      exact qt <| ⟨.inl rfl,ca (.bool false) h0 (b8 (ak))⟩
    ·refine qr [.b 3 c8] ?_
     have uQ:Has h0 (L):=Has.del o0 0
     obtain rfl:=oi H
     exact qt <| ⟨.inl rfl,ca (.bool false) h0 (b8 (ak))⟩
   ·refine q1 <| qc H (fun w6 H=>?_) (fun w6 H=>?_)
    ·refine qq ?_
     rcases dF H with⟨pd,H⟩| ⟨pd,H⟩
     ·obtain⟨x1,e2,H⟩:=aJ H
      rcases dF H with⟨rE,H⟩| ⟨rE,H⟩
      ·rcases dF H with⟨tD,H⟩| ⟨tD,H⟩
       ·rcases dF H with⟨rF,H⟩| ⟨rF,H⟩
        ·obtain⟨x2,e3,H⟩:=aJ H
         refine qr [.b 3 pd,.a 6 (Du _ _ e2 h0 _ (gf (ab (bJ) (ax)))),.b 8 rE,.b 14 tD,.b 20 rF,.a 24 (PO _ _ _ e3 h0 (Has.pos o0) 79 [.ptr aA 0] rfl (fun y0 r hr=>PQ y0 _ r hr h0 _ 0 _ o0 rfl) _ (an (aO (iK (E:=aa))) (an ((rfl:ay (.fn 79 [.ptr aA 0])=_)) (bg))))] ?_
         have vE:Has h0 (L):=Has.del o0 0
         obtain rfl:=oi H
         exact qt <| ⟨.inl rfl,ca (.bool (!x2)) h0 (b8 (ak))⟩
        ·refine qr [.b 3 pd,.a 6 (Du _ _ e2 h0 _ (gf (ab (bJ) (ax)))),.b 8 rE,.b 14 tD,.b 20 rF] ?_
         have tK:Has h0 (L):=Has.del o0 0
         obtain rfl:=oi H
         exact qt <| ⟨.inl rfl,ca (.bool false) h0 (b8 (ak))⟩
       ·refine qr [.b 3 pd,.a 6 (Du _ _ e2 h0 _ (gf (ab (bJ) (ax)))),.b 8 rE,.b 14 tD] ?_
        have lM:Has h0 (L):=Has.del o0 0
        obtain rfl:=oi H
        exact qt <| ⟨.inl rfl,ca (.bool false) h0 (b8 (ak))⟩
      ·refine qr [.b 3 pd,.a 6 (Du _ _ e2 h0 _ (gf (ab (bJ) (ax)))),.b 8 rE] ?_
       have yP:Has h0 (L):=Has.del o0 0
       obtain rfl:=oi H
       exact qt <| ⟨.inl rfl,ca (.bool false) h0 (b8 (ak))⟩
     ·refine qr [.b 3 pd] ?_
      have zU:Has h0 (L):=Has.del o0 0
      obtain rfl:=oi H
      exact qt <| ⟨.inl rfl,ca (.bool false) h0 (b8 (ak))⟩
    ·refine q1 ?_
     have lR:Has h0 (L):=Has.del o0 0
     refine qc H (fun BX H=>?_) (fun BX H=>?_)
     ·refine qq ?_
      rcases dF H with⟨D3,H⟩| ⟨D3,H⟩
      ·obtain⟨x3,e4,H⟩:=aJ H
       rcases dF H with⟨Dv,H⟩| ⟨Dv,H⟩
       ·obtain rfl:=oi H
        exact qr [.b 3 D3,.a 6 (MW _ _ e4 h0 _ (gf (ab (bJ) (ax)))),.b 8 Dv] <| qt <| ⟨.inl rfl,ca (.bool ((n0.args.length:Int)==(0:Int))) h0 (b8 (ak))⟩
       ·obtain rfl:=oi H
        exact qr [.b 3 D3,.a 6 (MW _ _ e4 h0 _ (gf (ab (bJ) (ax)))),.b 8 Dv] <| qt <| ⟨.inl rfl,ca (.bool false) h0 (b8 (ak))⟩
      ·obtain rfl:=oi H
       exact qr [.b 3 D3] <| qt <| ⟨.inl rfl,ca (.bool false) h0 (b8 (ak))⟩
     ·obtain rfl:=oi H
      exact qk <| qq <| q0 <| qt <| ⟨.inl rfl,ca (.bool false) h0 (b8 (ak))⟩
end
end Go.Proofs.YtmekcfdllhphlaaDoor
namespace Go.Proofs.YtmekcfdllhphlaaDoor
open Go Go.R
open Go.IntKind (i64 u64 u8 u32)
def yQ:cd:=gh [0,1,4,5,7,8,9,16] [] [252,204,140,196,68,251,204,251] [] []
def eM.l0 (m:Nat)(s0:List ae)(f0:ae→Option (Bool)):Nat→Int→Option (Sum Int (Int))
 | 0,_=>none
 | k+1,x0=>if (decide (x0<(s0.length:Int)))=true then ((ix s0 x0).bind fun v0=>(f0 v0).bind fun r0=>if r0=true then (some (.inl x0)) else (eM.l0 m s0 f0 k (i64.wrap (x0+(1:Int))))) else (some (.inr x0))
def eM.f (m:Nat)(s0:List ae)(f0:ae→Option (Bool)):Option (Int):=(eM.l0 m s0 f0 m (0:Int)).bind fun bo=>match bo with | .inl r1=>some r1 | .inr x1=>some (-1:Int)
def eM.fin (h:AHeap)(r:Int)(s:St):Prop:=aI Tryd.prog (s.open yQ) Tryd.f52.results.toList=some (.int .i64 r)∧s.h=h
def SE (cf:CallF)(m:Nat):Prop:=∀(s0:List ae) (f0:ae→Option (Bool)) (r:Int),eM.f m s0 f0=some r→∀h,0<h.next→∀(dv:FuncId) (aL:List AV),ay (.fn dv aL) = .fn dv aL→(∀(a0:ae) r,f0 a0=some r→cf dv ([.agg [.int .i64 a0.kind,.int .i64 a0.int,.str a0.label,aa.fz a0.args]]++aL) h=some (.bool r,h))→∀xs,xs.map ay=[af.fz s0,.fn dv aL]→cf 52 xs h=some (.int .i64 r,h)
section
variable {cf:CallF}{m:Nat}
theorem eM.bG (h:AHeap)(L:Mem)(dv:FuncId)(aL:List AV)(s0:List ae)(f0:ae→Option (Bool))  (gS:ay (.fn dv aL) = .fn dv aL)(gV:∀(a0:ae) r,f0 a0=some r→cf dv ([.agg [.int .i64 a0.kind,.int .i64 a0.int,.str a0.label,aa.fz a0.args]]++aL) h=some (.bool r,h))  : bI Tryd.prog cf yQ m (sub [1,0,1,0,0] (codeOf Tryd.f52)) (fun k (σ:Int)=>eM.l0 m s0 f0 k σ) (fun σ s=>match σ with | x0=>s=⟨[af.fz s0,.fn dv aL,.any,.any,.int .i64 (s0.length:Int),.int .i64 x0,.any,.any],[],h⟩∧Has h (L)) (fun out e s=>(e = .exit 0∧∃x0,.inr x0=out∧∃kQ rB w7 rG tI,s=⟨[kQ,rB,.any,.any,w7,rG,tI,.any],[],h⟩∧Has h (L))∨(e = .ret∧∃r,.inl r=out∧eM.fin h r s)):=by
 refine hX (fun _=>rfl) ?_
 rintro k x0 s out ⟨rfl,o0⟩ H
 have H:eM.l0 m s0 f0 (k+1) x0=some out:=H
 refine q1 <| qq <| qc H (fun c0 H=>?_) (fun c0 H=>?_)
 ·refine qk <| qq <| qb 1 <| qq <| q0 <| qq ?_
  obtain⟨v0,e0,H⟩:=aJ H
  obtain⟨r0,e1,H⟩:=aJ H
  refine qr [.v 3 (bD (k:=.i64) (E:=af) (l:=s0) lG e0),.v 4 (dE  (E:=af) (l:=s0) h sf sh e0),.a 5 (gV _ _ e1)] <| qc H (fun c1 H=>?_) (fun c1 H=>?_)
  ·exact q1 <| qt <| XZ (⟨rfl,_,oi H,⟨by kernel_rfl,by kernel_rfl⟩⟩)
  ·exact qk <| q0 <| ⟨i64.wrap (x0+(1:Int)),⟨by kernel_rfl,o0⟩,H⟩
 ·exact qx 0 <| Yf (⟨rfl,x0,oi H,af.fz s0,.fn dv aL,.int .i64 (s0.length:Int),.int .i64 x0,.bool (decide (x0<(s0.length:Int))),by kernel_rfl,o0⟩)
theorem w9 {aS:FuncId→cd}(ha:aS 52=yQ)  (s0:List ae)(f0:ae→Option (Bool))(h:AHeap)(L:Mem)(dv:FuncId)(aL:List AV)  (gS:ay (.fn dv aL) = .fn dv aL)(gV:∀(a0:ae) r,f0 a0=some r→cf dv ([.agg [.int .i64 a0.kind,.int .i64 a0.int,.str a0.label,aa.fz a0.args]]++aL) h=some (.bool r,h))(o:Has h (L)){out:Int}(H:eM.f m s0 f0=some out) :
  ∃r h',aZ Tryd.prog aS cf m 52 [af.fz s0,.fn dv aL] h=some (r,h')∧r=(.int .i64 out)∧h'=h:=by
 refine aj (fn:=Tryd.f52) ha Tryd.func52 (by kernel_rfl) (by kernel_rfl) ?_
 refine aD (Q:=fun s=>eM.fin h out s) (fun _ _ ⟨h1,h2,h3⟩=>⟨h1,_,h2,rfl,h3⟩) ?_
 have H:_=some out:=H
 unfold eM.f at H
 show de _ cf yQ m _ ⟨af.fz s0 :: .fn dv aL::Hf [],[],h⟩ _
 refine q1 <| qq <| qq <| q0 <| qb 0 ?_
 obtain⟨bo,e2,H⟩:=aJ H
 refine ql (eM.bG h L dv aL s0 f0  gS gV  (0:Int) _ _ ⟨by kernel_rfl,o⟩ e2) ?_
 rintro e s (⟨rfl,x1,rfl,g0,g1,g2,g3,g4,rfl,o1⟩| ⟨rfl,r1,rfl,mw⟩)
 ·try dsimp only at H
  obtain rfl:=oi H
  exact q1 <| qt <| ⟨.inl rfl,⟨by kernel_rfl,by kernel_rfl⟩⟩
 ·try dsimp only at H
  obtain rfl:=oi H
  exact⟨.inl rfl,mw⟩
end
end Go.Proofs.YtmekcfdllhphlaaDoor
namespace Go.Proofs.YtmekcfdllhphlaaDoor
open Go Go.R
open Go.IntKind (i64 u64 u8 u32)
def BY:cd:=gh [0,1,4] [] [4,3] [] []
def fL.f (m:Nat)(s0:List ae)(f0:ae→Option (Bool)):Option (Bool):=(eM.f m s0 f0).bind fun x0=>some (decide (x0≥(0:Int)))
def fL.fin (h:AHeap)(r:Bool)(s:St):Prop:=aI Tryd.prog (s.open BY) Tryd.f34.results.toList=some (.bool r)∧s.h=h
def PR (cf:CallF)(m:Nat):Prop:=∀(s0:List ae) (f0:ae→Option (Bool)) (r:Bool),fL.f m s0 f0=some r→∀h,0<h.next→∀(dv:FuncId) (aL:List AV),ay (.fn dv aL) = .fn dv aL→(∀(a0:ae) r,f0 a0=some r→cf dv ([.agg [.int .i64 a0.kind,.int .i64 a0.int,.str a0.label,aa.fz a0.args]]++aL) h=some (.bool r,h))→∀xs,xs.map ay=[af.fz s0,.fn dv aL]→cf 34 xs h=some (.bool r,h)
section
variable {cf:CallF}{m:Nat}
theorem rJ {aS:FuncId→cd}(ha:aS 34=BY)(PS:SE cf m)(s0:List ae)(f0:ae→Option (Bool))(h:AHeap)(L:Mem)(dv:FuncId)(aL:List AV)  (gS:ay (.fn dv aL) = .fn dv aL)(gV:∀(a0:ae) r,f0 a0=some r→cf dv ([.agg [.int .i64 a0.kind,.int .i64 a0.int,.str a0.label,aa.fz a0.args]]++aL) h=some (.bool r,h))(o:Has h (L)){out:Bool}(H:fL.f m s0 f0=some out) :
  ∃r h',aZ Tryd.prog aS cf m 34 [af.fz s0,.fn dv aL] h=some (r,h')∧r=(.bool out)∧h'=h:=by
 refine aj (fn:=Tryd.f34) ha Tryd.func34 (by kernel_rfl) (by kernel_rfl) ?_
 refine aD (Q:=fun s=>fL.fin h out s) (fun _ _ ⟨h1,h2,h3⟩=>⟨h1,_,h2,rfl,h3⟩) ?_
 have H:_=some out:=H
 unfold fL.f at H
 show de _ cf BY m _ ⟨[af.fz s0,.fn dv aL,.any],[],h⟩ _
 refine q1 <| qq ?_
 obtain⟨x0,e0,H⟩:=aJ H
 obtain rfl:=oi H
 exact qr [.a 2 (PS _ _ _ e0 h (Has.pos o) dv aL gS gV _ (an (aO (iK (E:=af))) (an (gS) (bg))))] <| qt <| ⟨.inl rfl,⟨by kernel_rfl,by kernel_rfl⟩⟩
end
end Go.Proofs.YtmekcfdllhphlaaDoor
namespace Go.Proofs.YtmekcfdllhphlaaDoor
open Go Go.R
open Go.IntKind (i64 u64 u8 u32)
def yR:cd:=gh [0,1,4,5,7,8,9,16] [] [252,204,140,196,68,251,204,251] [] []
def eN.l0 (m:Nat)(s0:List au)(f0:au→Option (Bool)):Nat→Int→Option (Sum Int (Int))
 | 0,_=>none
 | k+1,x0=>if (decide (x0<(s0.length:Int)))=true then ((ix s0 x0).bind fun v0=>(f0 v0).bind fun r0=>if r0=true then (some (.inl x0)) else (eN.l0 m s0 f0 k (i64.wrap (x0+(1:Int))))) else (some (.inr x0))
def eN.f (m:Nat)(s0:List au)(f0:au→Option (Bool)):Option (Int):=(eN.l0 m s0 f0 m (0:Int)).bind fun bo=>match bo with | .inl r1=>some r1 | .inr x1=>some (-1:Int)
def eN.fin (h:AHeap)(r:Int)(s:St):Prop:=aI Tryd.prog (s.open yR) Tryd.f51.results.toList=some (.int .i64 r)∧s.h=h
def SF (cf:CallF)(m:Nat):Prop:=∀(s0:List au) (f0:au→Option (Bool)) (r:Int),eN.f m s0 f0=some r→∀h,0<h.next→∀(dv:FuncId) (aL:List AV),ay (.fn dv aL) = .fn dv aL→(∀(a0:au) r,f0 a0=some r→cf dv ([.agg [af.fz a0.nodes,.int .i64 a0.root]]++aL) h=some (.bool r,h))→∀xs,xs.map ay=[bl.fz s0,.fn dv aL]→cf 51 xs h=some (.int .i64 r,h)
section
variable {cf:CallF}{m:Nat}
theorem eN.bG (h:AHeap)(L:Mem)(dv:FuncId)(aL:List AV)(s0:List au)(f0:au→Option (Bool))  (gS:ay (.fn dv aL) = .fn dv aL)(gV:∀(a0:au) r,f0 a0=some r→cf dv ([.agg [af.fz a0.nodes,.int .i64 a0.root]]++aL) h=some (.bool r,h))  : bI Tryd.prog cf yR m (sub [1,0,1,0,0] (codeOf Tryd.f51)) (fun k (σ:Int)=>eN.l0 m s0 f0 k σ) (fun σ s=>match σ with | x0=>s=⟨[bl.fz s0,.fn dv aL,.any,.any,.int .i64 (s0.length:Int),.int .i64 x0,.any,.any],[],h⟩∧Has h (L)) (fun out e s=>(e = .exit 0∧∃x0,.inr x0=out∧∃kQ rB w7 rG tI,s=⟨[kQ,rB,.any,.any,w7,rG,tI,.any],[],h⟩∧Has h (L))∨(e = .ret∧∃r,.inl r=out∧eN.fin h r s)):=by
 refine hX (fun _=>rfl) ?_
 rintro k x0 s out ⟨rfl,o0⟩ H
 have H:eN.l0 m s0 f0 (k+1) x0=some out:=H
 refine q1 <| qq <| qc H (fun c0 H=>?_) (fun c0 H=>?_)
 ·refine qk <| qq <| qb 1 <| qq <| q0 <| qq ?_
  obtain⟨v0,e0,H⟩:=aJ H
  obtain⟨r0,e1,H⟩:=aJ H
  refine qr [.v 3 (bD (k:=.i64) (E:=bl) (l:=s0) Fj e0),.v 4 (dE  (E:=bl) (l:=s0) h Ol Om e0),.a 5 (gV _ _ e1)] <| qc H (fun c1 H=>?_) (fun c1 H=>?_)
  ·exact q1 <| qt <| XZ (⟨rfl,_,oi H,⟨by kernel_rfl,by kernel_rfl⟩⟩)
  ·exact qk <| q0 <| ⟨i64.wrap (x0+(1:Int)),⟨by kernel_rfl,o0⟩,H⟩
 ·exact qx 0 <| Yf (⟨rfl,x0,oi H,bl.fz s0,.fn dv aL,.int .i64 (s0.length:Int),.int .i64 x0,.bool (decide (x0<(s0.length:Int))),by kernel_rfl,o0⟩)
theorem xb {aS:FuncId→cd}(ha:aS 51=yR)  (s0:List au)(f0:au→Option (Bool))(h:AHeap)(L:Mem)(dv:FuncId)(aL:List AV)  (gS:ay (.fn dv aL) = .fn dv aL)(gV:∀(a0:au) r,f0 a0=some r→cf dv ([.agg [af.fz a0.nodes,.int .i64 a0.root]]++aL) h=some (.bool r,h))(o:Has h (L)){out:Int}(H:eN.f m s0 f0=some out) :
  ∃r h',aZ Tryd.prog aS cf m 51 [bl.fz s0,.fn dv aL] h=some (r,h')∧r=(.int .i64 out)∧h'=h:=by
 refine aj (fn:=Tryd.f51) ha Tryd.func51 (by kernel_rfl) (by kernel_rfl) ?_
 refine aD (Q:=fun s=>eN.fin h out s) (fun _ _ ⟨h1,h2,h3⟩=>⟨h1,_,h2,rfl,h3⟩) ?_
 have H:_=some out:=H
 unfold eN.f at H
 show de _ cf yR m _ ⟨bl.fz s0 :: .fn dv aL::Hf [],[],h⟩ _
 refine q1 <| qq <| qq <| q0 <| qb 0 ?_
 obtain⟨bo,e2,H⟩:=aJ H
 refine ql (eN.bG h L dv aL s0 f0  gS gV  (0:Int) _ _ ⟨by kernel_rfl,o⟩ e2) ?_
 rintro e s (⟨rfl,x1,rfl,g0,g1,g2,g3,g4,rfl,o1⟩| ⟨rfl,r1,rfl,mw⟩)
 ·try dsimp only at H
  obtain rfl:=oi H
  exact q1 <| qt <| ⟨.inl rfl,⟨by kernel_rfl,by kernel_rfl⟩⟩
 ·try dsimp only at H
  obtain rfl:=oi H
  exact⟨.inl rfl,mw⟩
end
end Go.Proofs.YtmekcfdllhphlaaDoor
namespace Go.Proofs.YtmekcfdllhphlaaDoor
open Go Go.R
open Go.IntKind (i64 u64 u8 u32)
def BZ:cd:=gh [0,1,4] [] [4,3] [] []
def gF.f (m:Nat)(s0:List au)(f0:au→Option (Bool)):Option (Bool):=(eN.f m s0 f0).bind fun x0=>some (decide (x0≥(0:Int)))
def gF.fin (h:AHeap)(r:Bool)(s:St):Prop:=aI Tryd.prog (s.open BZ) Tryd.f32.results.toList=some (.bool r)∧s.h=h
def SG (cf:CallF)(m:Nat):Prop:=∀(s0:List au) (f0:au→Option (Bool)) (r:Bool),gF.f m s0 f0=some r→∀h,0<h.next→∀(dv:FuncId) (aL:List AV),ay (.fn dv aL) = .fn dv aL→(∀(a0:au) r,f0 a0=some r→cf dv ([.agg [af.fz a0.nodes,.int .i64 a0.root]]++aL) h=some (.bool r,h))→∀xs,xs.map ay=[bl.fz s0,.fn dv aL]→cf 32 xs h=some (.bool r,h)
section
variable {cf:CallF}{m:Nat}
theorem rK {aS:FuncId→cd}(ha:aS 32=BZ)(PT:SF cf m)(s0:List au)(f0:au→Option (Bool))(h:AHeap)(L:Mem)(dv:FuncId)(aL:List AV)  (gS:ay (.fn dv aL) = .fn dv aL)(gV:∀(a0:au) r,f0 a0=some r→cf dv ([.agg [af.fz a0.nodes,.int .i64 a0.root]]++aL) h=some (.bool r,h))(o:Has h (L)){out:Bool}(H:gF.f m s0 f0=some out) :
  ∃r h',aZ Tryd.prog aS cf m 32 [bl.fz s0,.fn dv aL] h=some (r,h')∧r=(.bool out)∧h'=h:=by
 refine aj (fn:=Tryd.f32) ha Tryd.func32 (by kernel_rfl) (by kernel_rfl) ?_
 refine aD (Q:=fun s=>gF.fin h out s) (fun _ _ ⟨h1,h2,h3⟩=>⟨h1,_,h2,rfl,h3⟩) ?_
 have H:_=some out:=H
 unfold gF.f at H
 show de _ cf BZ m _ ⟨[bl.fz s0,.fn dv aL,.any],[],h⟩ _
 refine q1 <| qq ?_
 obtain⟨x0,e0,H⟩:=aJ H
 obtain rfl:=oi H
 exact qr [.a 2 (PT _ _ _ e0 h (Has.pos o) dv aL gS gV _ (an (aO (iK (E:=bl))) (an (gS) (bg))))] <| qt <| ⟨.inl rfl,⟨by kernel_rfl,by kernel_rfl⟩⟩
end
end Go.Proofs.YtmekcfdllhphlaaDoor
namespace Go.Proofs.YtmekcfdllhphlaaDoor
open Go Go.R
open Go.IntKind (i64 u64 u8 u32)
def gT (c:Int):Bool:=decide (97≤c∧c≤122)||decide (65≤c∧c≤90)||decide (48≤c∧c≤57)||c==95
theorem yS {m:Nat}(c:Int):fE.f m c=some (gT c):=by
 unfold fE.f
 by_cases h1:97≤c<;>by_cases h2:c≤122<;>by_cases h3:65≤c<;>by_cases h4:c≤90<;>by_cases h5:48≤c<;>by_cases h6:c≤57<;>simp [gT,h1,h2,h3,h4,h5,h6]<;>omega
theorem si {s:ByteArray}{i:Nat}(h:i<s.size):∃c:UInt8,s.data.toList[i]? = some c∧bt s (i:Int)=some (c.toNat:Int):=by
 have h':i<s.data.toList.length:=by simpa using h
 refine⟨s.data.toList[i],W5 h',?_⟩
 unfold bt; rw [if_pos (by omega),WX,W5 h']; rfl
theorem B0 {m:Nat}{s:ByteArray}(hs:s.size≤16):∀(f i:Nat),s.size - i<f→i≤s.size→
  ∃o,cV.l0 m s f (i:Int)=some o∧((∃x,o = .inr x)∧((s.data.toList.drop i).all fun c=>gT (c.toNat:Int))=true∨o = .inl false∧((s.data.toList.drop i).all fun c=>gT (c.toNat:Int))=false)
 | 0,i,hf,_=>absurd hf (by omega)
 | f+1,i,hf,hi=>by
  unfold cV.l0
  by_cases h:i<s.size
  ·obtain⟨c,hc,hb⟩:=si h
   obtain⟨h4,h5⟩:=WZ.1 hc
   have hd:s.data.toList.drop i=c::s.data.toList.drop (i+1):=by rw [←h5]; exact W6 h4
   rw [if_pos (by simp only [decide_eq_true_eq]; omega),hb,WQ,yS,WQ,hd,XO]
   cases hl:gT (c.toNat:Int) with
   | false=>exact⟨_,rfl,.inr ⟨rfl,rfl⟩⟩
   | true=>
    obtain⟨o,h1,h2⟩:=B0 (m:=m) hs f (i+1) (by omega) (by omega)
    rw [if_neg (by simp),aE (by omega) (by omega),show (i:Int)+1=((i+1:Nat):Int) by omega,h1]
    exact⟨o,rfl,by simpa using h2⟩
  ·refine⟨_,by rw [if_neg (by simp only [decide_eq_true_eq]; omega)],.inl ⟨⟨_,rfl⟩,?_⟩⟩
   rw [Xp (by simp; omega)]; rfl
def yT (s:ByteArray)(lo hi:Int):Bool:=match s.data.toList with
 | []=>false
 | c::cs=>decide (cs.length≤15)&&decide (lo≤(c.toNat:Int))&&decide ((c.toNat:Int)≤hi)&&((c::cs).all fun c=>gT (c.toNat:Int))
theorem Dw {m:Nat}(hm:20≤m)(s:ByteArray)(lo hi:Int):cV.f m s lo hi=some (yT s lo hi):=by
 have hsz:s.size=s.data.toList.length:=by simp
 unfold cV.f yT
 cases hl:s.data.toList with
 | nil=>rw [if_pos (by rw [hl,XL] at hsz; simp only [decide_eq_true_eq]; omega)]
 | cons c cs=>
  rw [hl,Xf] at hsz
  rw [if_neg (by simp only [decide_eq_true_eq]; omega)]
  dsimp only
  by_cases h16:cs.length≤15
  ·obtain⟨c',h1,h2⟩:=si (s:=s) (i:=0) (by omega)
   rw [hl] at h1
   simp only [Xz,WT] at h1
   subst h1
   have h2:bt s 0=_:=h2
   rw [if_neg (by simp only [decide_eq_true_eq]; omega),h2,WQ]
   by_cases h3:(c.toNat:Int)<lo
   ·rw [if_pos (by simpa using h3)]
    simp only [WT]
    rw [show decide (lo≤(c.toNat:Int))=false by simp; omega]; simp
   rw [if_neg (by simpa using h3),WQ]
   by_cases h4:(c.toNat:Int) > hi
   ·rw [if_pos (by simpa using h4)]
    simp only [WT]
    rw [show decide ((c.toNat:Int)≤hi)=false by simp; omega]; simp
   rw [if_neg (by simpa using h4)]
   obtain⟨o,k1,k2⟩:=B0 (m:=m) (s:=s) (by omega) m 0 (by omega) (by omega)
   have k1:cV.l0 m s m 0=_:=k1
   rw [k1,WQ]
   rw [Xr,hl] at k2
   rw [show decide (lo≤(c.toNat:Int))=true by simp; omega,show decide ((c.toNat:Int)≤hi)=true by simp; omega,show decide (cs.length≤15)=true by simpa using h16]
   simp only [X6]
   rcases k2 with⟨⟨x,rfl⟩,k⟩| ⟨rfl,k⟩
   ·rw [k]
   ·rw [k]
  ·rw [if_pos (by simp only [decide_eq_true_eq]; omega),show decide (cs.length≤15)=false by simp; omega]; rfl
def lH (s:ByteArray):Bool:=s.data.toList==[124]||s.data.toList==[35]||yT s 97 122
theorem vF {m:Nat}(hm:20≤m)(s:ByteArray):gR.f m s=some (lH s):=by
 unfold gR.f lH
 show (if (s.data.toList==[124])=true then _ else if (s.data.toList==[35])=true then _ else _)=_
 cases h1:s.data.toList==[124] with
 | true=>rfl
 | false=>
  cases h2:s.data.toList==[35] with
  | true=>rfl
  | false=>rw [Dw hm]; rfl
theorem vG {s:ByteArray}(h:lH s=true):1≤s.size∧s.size≤16:=by
 have hsz:s.size=s.data.toList.length:=by simp
 unfold lH at h
 simp only [XG,beq_iff_eq] at h
 rcases h with (h | h) | h
 ·rw [h] at hsz; simp at hsz; omega
 ·rw [h] at hsz; simp at hsz; omega
 ·unfold yT at h
  split at h
  ·cases h
  ·rename_i c cs hl
   rw [hl] at hsz
   simp only [WV,decide_eq_true_eq] at h
   simp at hsz; omega
def yU (s:ByteArray):Bool:=s.data.toList==[112,114,111,99]||s.data.toList==[99,101,108,108]||s.data.toList==[112,111,114,116]
theorem Dx {m:Nat}(s:ByteArray):gE.f m s=some (yU s):=by
 unfold gE.f yU
 show (if (s.data.toList==[112,114,111,99])=true then _ else if (s.data.toList==[99,101,108,108])=true then _ else some (s.data.toList==[112,111,114,116]))=_
 cases h1:s.data.toList==[112,114,111,99] with
 | true=>rfl
 | false=>
  cases h2:s.data.toList==[99,101,108,108] with
  | true=>rfl
  | false=>rfl
theorem Ft {m:Nat}{s:List Int}{f0:Int→Option Bool}{g:Int→Bool}(hs:s.length<2 ^ 40)(C:∀x∈s,f0 x=some (g x)):∀(f i:Nat),s.length - i<f→i≤s.length→
  ∃o,eK.l0 m s f0 f (i:Int)=some o∧((∃x,o = .inr x)∧(s.drop i).any g=false∨(∃x:Nat,o = .inl (x:Int))∧(s.drop i).any g=true)
 | 0,i,hf,_=>absurd hf (by omega)
 | f+1,i,hf,hi=>by
  have ot:(2:Nat) ^ 40=1099511627776:=by decide
  unfold eK.l0
  by_cases h:i<s.length
  ·have hx:ix s (i:Int)=some s[i]:=by unfold ix; rw [if_pos (by omega)]; simp [h]
   rw [if_pos (by simp only [decide_eq_true_eq]; omega),hx,WQ,C _ (XM h),WQ,W6 h,List.any_cons]
   cases g s[i] with
   | true=>exact⟨_,rfl,.inr ⟨⟨i,rfl⟩,rfl⟩⟩
   | false=>
    obtain⟨o,h1,h2⟩:=Ft (m:=m) hs C f (i+1) (by omega) (by omega)
    rw [if_neg (by simp),aE (by omega) (by omega),show (i:Int)+1=((i+1:Nat):Int) by omega,h1]
    exact⟨o,rfl,by simpa using h2⟩
  ·refine⟨_,by rw [if_neg (by simp only [decide_eq_true_eq]; omega)],.inl ⟨⟨_,rfl⟩,?_⟩⟩
   rw [Xp (by omega)]; rfl
theorem Dy {m:Nat}{s:List Int}{f0:Int→Option Bool}{g:Int→Bool}(hs:s.length<2 ^ 40)(hm:s.length<m)(C:∀x∈s,f0 x=some (g x)):gC.f m s f0=some (s.any g):=by
 obtain⟨o,h1,h2⟩:=Ft (m:=m) hs C m 0 (by omega) (by omega)
 have h1:eK.l0 m s f0 m 0=_:=h1
 unfold gC.f eK.f
 rw [h1,WQ]
 rw [Xr] at h2
 rcases h2 with⟨⟨x,rfl⟩,k⟩| ⟨⟨x,rfl⟩,k⟩
 ·rw [k]; rfl
 ·rw [k]
  simp only [WQ,WT]
  simp
theorem Fu {m:Nat}{s:List ae}{f0:ae→Option Bool}{g:ae→Bool}(hs:s.length<2 ^ 40)(C:∀x∈s,f0 x=some (g x)):∀(f i:Nat),s.length - i<f→i≤s.length→
  ∃o,eM.l0 m s f0 f (i:Int)=some o∧((∃x,o = .inr x)∧(s.drop i).any g=false∨(∃x:Nat,o = .inl (x:Int))∧(s.drop i).any g=true)
 | 0,i,hf,_=>absurd hf (by omega)
 | f+1,i,hf,hi=>by
  have ot:(2:Nat) ^ 40=1099511627776:=by decide
  unfold eM.l0
  by_cases h:i<s.length
  ·have hx:ix s (i:Int)=some s[i]:=by unfold ix; rw [if_pos (by omega)]; simp [h]
   rw [if_pos (by simp only [decide_eq_true_eq]; omega),hx,WQ,C _ (XM h),WQ,W6 h,List.any_cons]
   cases g s[i] with
   | true=>exact⟨_,rfl,.inr ⟨⟨i,rfl⟩,rfl⟩⟩
   | false=>
    obtain⟨o,h1,h2⟩:=Fu (m:=m) hs C f (i+1) (by omega) (by omega)
    rw [if_neg (by simp),aE (by omega) (by omega),show (i:Int)+1=((i+1:Nat):Int) by omega,h1]
    exact⟨o,rfl,by simpa using h2⟩
  ·refine⟨_,by rw [if_neg (by simp only [decide_eq_true_eq]; omega)],.inl ⟨⟨_,rfl⟩,?_⟩⟩
   rw [Xp (by omega)]; rfl
theorem vH {m:Nat}{s:List ae}{f0:ae→Option Bool}{g:ae→Bool}(hs:s.length<2 ^ 40)(hm:s.length<m)(C:∀x∈s,f0 x=some (g x)):fL.f m s f0=some (s.any g):=by
 obtain⟨o,h1,h2⟩:=Fu (m:=m) hs C m 0 (by omega) (by omega)
 have h1:eM.l0 m s f0 m 0=_:=h1
 unfold fL.f eM.f
 rw [h1,WQ]
 rw [Xr] at h2
 rcases h2 with⟨⟨x,rfl⟩,k⟩| ⟨⟨x,rfl⟩,k⟩
 ·rw [k]; rfl
 ·rw [k]
  simp only [WQ,WT]
  simp
theorem Fv {m:Nat}{s:List au}{f0:au→Option Bool}{g:au→Bool}(hs:s.length<2 ^ 40)(C:∀x∈s,f0 x=some (g x)):∀(f i:Nat),s.length - i<f→i≤s.length→
  ∃o,eN.l0 m s f0 f (i:Int)=some o∧((∃x,o = .inr x)∧(s.drop i).any g=false∨(∃x:Nat,o = .inl (x:Int))∧(s.drop i).any g=true)
 | 0,i,hf,_=>absurd hf (by omega)
 | f+1,i,hf,hi=>by
  have ot:(2:Nat) ^ 40=1099511627776:=by decide
  unfold eN.l0
  by_cases h:i<s.length
  ·have hx:ix s (i:Int)=some s[i]:=by unfold ix; rw [if_pos (by omega)]; simp [h]
   rw [if_pos (by simp only [decide_eq_true_eq]; omega),hx,WQ,C _ (XM h),WQ,W6 h,List.any_cons]
   cases g s[i] with
   | true=>exact⟨_,rfl,.inr ⟨⟨i,rfl⟩,rfl⟩⟩
   | false=>
    obtain⟨o,h1,h2⟩:=Fv (m:=m) hs C f (i+1) (by omega) (by omega)
    rw [if_neg (by simp),aE (by omega) (by omega),show (i:Int)+1=((i+1:Nat):Int) by omega,h1]
    exact⟨o,rfl,by simpa using h2⟩
  ·refine⟨_,by rw [if_neg (by simp only [decide_eq_true_eq]; omega)],.inl ⟨⟨_,rfl⟩,?_⟩⟩
   rw [Xp (by omega)]; rfl
theorem Dz {m:Nat}{s:List au}{f0:au→Option Bool}{g:au→Bool}(hs:s.length<2 ^ 40)(hm:s.length<m)(C:∀x∈s,f0 x=some (g x)):gF.f m s f0=some (s.any g):=by
 obtain⟨o,h1,h2⟩:=Fv (m:=m) hs C m 0 (by omega) (by omega)
 have h1:eN.l0 m s f0 m 0=_:=h1
 unfold gF.f eN.f
 rw [h1,WQ]
 rw [Xr] at h2
 rcases h2 with⟨⟨x,rfl⟩,k⟩| ⟨⟨x,rfl⟩,k⟩
 ·rw [k]; rfl
 ·rw [k]
  simp only [WQ,WT]
  simp
def kl (n:ae)(size:Int):Bool:=
 if n.kind=0 then decide (0≤n.int)&&n.label.data.toList==[]&&n.args.isEmpty
 else if n.kind=1 then decide (-1099511627776≤n.int)&&decide (n.int≤1099511627776)&&n.label.data.toList==[]&&n.args.isEmpty
 else if n.kind=2 then n.int==0&&lH n.label&&n.args.isEmpty
 else if n.kind=3 then n.int==0&&lH n.label&&decide (1≤n.args.length)&&decide (n.args.length≤8)&&n.args.all fun a=>decide (0≤a)&&decide (a<size)
 else if n.kind=4 then decide (0≤n.int)&&yU n.label&&n.args.isEmpty
 else false
theorem yV (l:List Int):((l.length:Int)==(0:Int))=l.isEmpty:=by cases l<;>simp; omega
theorem DA {m:Nat}(hm:20≤m)(n:ae)(size:Int):iu.f m n size=some (kl n size):=by
 unfold iu.f kl
 by_cases k0:n.kind=0
 ·rw [if_pos (by simpa using k0),if_pos k0]
  by_cases h1:0≤n.int
  ·rw [if_pos (by simpa using h1),show decide (0≤n.int)=true by simpa using h1]
   show (if (n.label.data.toList==[])=true then _ else _)=_
   cases n.label.data.toList==[] with
   | true=>rw [if_pos rfl,yV]; rfl
   | false=>rfl
  ·rw [if_neg (by simpa using h1),show decide (0≤n.int)=false by simp; omega]; rfl
 rw [if_neg (by simpa using k0),if_neg k0]
 by_cases k1:n.kind=1
 ·rw [if_pos (by simpa using k1),if_pos k1]
  by_cases h1 : -1099511627776≤n.int
  ·rw [if_pos (by simpa using h1),show decide (-1099511627776≤n.int)=true by simpa using h1]
   by_cases h3:n.int≤1099511627776
   ·rw [if_pos (by simpa using h3),show decide (n.int≤1099511627776)=true by simpa using h3]
    show (if (n.label.data.toList==[])=true then _ else _)=_
    cases n.label.data.toList==[] with
    | true=>rw [if_pos rfl,yV]; rfl
    | false=>rfl
   ·rw [if_neg (by simpa using h3),show decide (n.int≤1099511627776)=false by simp; omega]; rfl
  ·rw [if_neg (by simpa using h1),show decide (-1099511627776≤n.int)=false by simp; omega]; rfl
 rw [if_neg (by simpa using k1),if_neg k1]
 by_cases k2:n.kind=2
 ·rw [if_pos (by simpa using k2),if_pos k2]
  cases h1:n.int==0 with
  | false=>rfl
  | true=>
   rw [if_pos rfl,vF hm,WQ]
   cases lH n.label with
   | false=>rfl
   | true=>rw [if_pos rfl,yV]; rfl
 rw [if_neg (by simpa using k2),if_neg k2]
 by_cases k3:n.kind=3
 ·rw [if_pos (by simpa using k3),if_pos k3]
  cases h1:n.int==0 with
  | false=>rfl
  | true=>
   rw [if_pos rfl,vF hm,WQ]
   cases lH n.label with
   | false=>rfl
   | true=>
    rw [if_pos rfl]
    by_cases g1:1≤n.args.length
    ·rw [if_pos (by simp only [decide_eq_true_eq]; omega),show decide (1≤n.args.length)=true by simpa using g1]
     by_cases g2:n.args.length≤8
     ·rw [if_pos (by simp only [decide_eq_true_eq]; omega),show decide (n.args.length≤8)=true by simpa using g2]
      rw [Dy (g:=fun a=>!(decide (0≤a)&&decide (a<size))) (by omega) (by omega) (fun a _=>by
       unfold gD.f
       by_cases w:a<0
       ·rw [if_pos (by simpa using w),show decide (0≤a)=false by simp; omega]; rfl
       ·rw [if_neg (by simpa using w),show decide (0≤a)=true by simp; omega]
        by_cases w2:a<size
        ·rw [show decide (a≥size)=false from decide_eq_false (by omega),show decide (a<size)=true from decide_eq_true w2]; rfl
        ·rw [show decide (a≥size)=true from decide_eq_true (by omega),show decide (a<size)=false from decide_eq_false w2]; rfl),WQ]
      simp [List.not_any_eq_all_not]
     ·rw [if_neg (by simp only [decide_eq_true_eq]; omega),show decide (n.args.length≤8)=false from decide_eq_false g2]; rfl
    ·rw [if_neg (by simp only [decide_eq_true_eq]; omega),show decide (1≤n.args.length)=false from decide_eq_false g1]; rfl
 rw [if_neg (by simpa using k3),if_neg k3]
 by_cases k4:n.kind=4
 ·rw [if_pos (by simpa using k4),if_pos k4]
  by_cases h1:0≤n.int
  ·rw [if_pos (by simpa using h1),show decide (0≤n.int)=true by simpa using h1,Dx,WQ]
   cases yU n.label with
   | false=>rfl
   | true=>rw [if_pos rfl,yV]; rfl
  ·rw [if_neg (by simpa using h1),show decide (0≤n.int)=false by simp; omega]; rfl
 rw [if_neg (by simpa using k4),if_neg k4]
end Go.Proofs.YtmekcfdllhphlaaDoor
namespace Go.Proofs.YtmekcfdllhphlaaDoor
open Go Go.R
open Go.IntKind (i64 u64 u8 u32)
def qp:cd:=gh [0,1,2,3,8,9,14,34] [] [224,160,224,192,64,192,192] [] []
def aP.l1 (m:Nat)(a0:Int)(aN:Int→Int→Option (Int)):Nat→(List Int)→Int→Option ((List Int) × Int)
 | 0,_,_=>none
 | k+1,cY,j0=>if (decide (j0 > a0))=true then ((ix cY j0).bind fun v0=>(ix cY (i64.wrap (j0 - (1:Int)))).bind fun v1=>(aN v0 v1).bind fun r0=>if (decide (r0<(0:Int)))=true then ((ix cY (i64.wrap (j0 - (1:Int)))).bind fun v2=>(ix cY j0).bind fun v3=>(ix cY j0).bind fun v4=>(ix (cY.set j0.toNat v2) (i64.wrap (j0 - (1:Int)))).bind fun v5=>aP.l1 m a0 aN k ((cY.set j0.toNat v2).set (i64.wrap (j0 - (1:Int))).toNat v3) (i64.wrap (j0 - (1:Int)))) else (some ((cY,j0)))) else (some ((cY,j0)))
def aP.l0 (m:Nat)(a0:Int)(b0:Int)(aN:Int→Int→Option (Int)):Nat→(List Int)→Int→Option ((List Int) × Int)
 | 0,_,_=>none
 | k+1,bj,i0=>if (decide (i0<b0))=true then ((aP.l1 m a0 aN m bj i0).bind fun bo=>match bo with | (dr,j1)=>aP.l0 m a0 b0 aN k dr (i64.wrap (i0+(1:Int)))) else (some ((bj,i0)))
def aP.f (m:Nat)(aq:List Int)(a0:Int)(b0:Int)(aN:Int→Int→Option (Int)):Option ((List Int)):=(aP.l0 m a0 b0 aN m aq (i64.wrap (a0+(1:Int)))).bind fun cD=>match cD with | (jA,i1)=>some jA
def aP.fin (L:Mem)(aA:Nat)(aq:List Int)(a0:Int)(b0:Int)(aN:Int→Int→Option (Int))(r:(List Int))(s:St):Prop:=aI Tryd.prog (s.open qp) Tryd.f119.results.toList=some (.tup [])∧Has s.h ((aA,.sl aq.length 1 (aa.l r))::L)
def Ku (cf:CallF)(m:Nat):Prop:=∀(aq:List Int) (a0:Int) (b0:Int) (aN:Int→Int→Option (Int)) (r:(List Int)),aP.f m aq a0 b0 aN=some r→∀h L (cz:Nat) (aA:Nat),Has h ((aA,.sl cz 1 (aa.l aq))::L)→∀(rf:FuncId) (fF:List AV),ay (.fn rf fF) = .fn rf fF→(∀h K,Has h (K++L)→∀(a0:Int) (a1:Int) r,aN a0 a1=some r→cf rf ([.int .i64 a0,.int .i64 a1]++fF) h=some (.int .i64 r,h))→∀xs,xs.map ay=[.rs aA 0 cz 1,.int .i64 a0,.int .i64 b0,.fn rf fF]→∃h',cf 119 xs h=some (.tup [],h')∧Has h' ((aA,.sl cz 1 (aa.l r))::L)
section
variable {cf:CallF}{m:Nat}
theorem aP.fW (L:Mem)(aA:Nat)(rf:FuncId)(fF:List AV)(aq:List Int)(a0:Int)(b0:Int)(aN:Int→Int→Option (Int))(i0:Int)  (DB:ay (.fn rf fF) = .fn rf fF)(AF:∀h K,Has h (K++L)→∀(a0:Int) (a1:Int) r,aN a0 a1=some r→cf rf ([.int .i64 a0,.int .i64 a1]++fF) h=some (.int .i64 r,h))  : bI Tryd.prog cf qp m (sub [1,0,0,1,0,0,1,0,0] (codeOf Tryd.f119)) (fun k (σ:(List Int) × Int)=>aP.l1 m a0 aN k σ.1 σ.2) (fun σ s=>match σ with | (cY,j0)=>∃h1,s=⟨[.rs aA 0 aq.length 1,.int .i64 a0,.int .i64 b0,.fn rf fF,.int .i64 i0,.int .i64 j0,.any,.any],[],h1⟩∧Has h1 ((aA,.sl aq.length 1 (aa.l cY))::L)) (fun out e s=>(e = .exit 2∧∃cY j0,(cY,j0)=out∧∃tI Fw h1,s=⟨[.rs aA 0 aq.length 1,.int .i64 a0,.int .i64 b0,.fn rf fF,.int .i64 i0,tI,.any,Fw],[],h1⟩∧Has h1 ((aA,.sl aq.length 1 (aa.l cY))::L))):=by
 refine hX (fun _=>rfl) ?_
 rintro k ⟨cY,j0⟩ s out ⟨h1,rfl,o1⟩ H
 have H:aP.l1 m a0 aN (k+1) cY j0=some out:=H
 refine qq <| qq ?_
 rcases dF H with⟨c1,H⟩| ⟨c1,H⟩
 ·obtain⟨v0,e0,H⟩:=aJ H
  obtain⟨v1,e1,H⟩:=aJ H
  obtain⟨r0,e2,H⟩:=aJ H
  refine qr [.b 3 c1,.v 7 (aG (k:=.i64) (E:=aa) (l:=cY) (q:=0) dA o1 rfl e0),.v 8 (be  (E:=aa) (l:=cY) (q:=0) o1 rfl A3 e0 rfl),.v 12 (aG (k:=.i64) (E:=aa) (l:=cY) (q:=0) dA o1 rfl e1),.v 13 (be  (E:=aa) (l:=cY) (q:=0) o1 rfl A3 e1 rfl),.a 14 (AF h1 [(aA,.sl aq.length 1 (aa.l cY))] o1 _ _ _ e2)] <| qc H (fun c2 H=>?_) (fun c2 H=>?_)
  ·refine qk <| qq <| qb 3 ?_
   obtain⟨v2,e3,H⟩:=aJ H
   obtain⟨v3,e4,H⟩:=aJ H
   obtain⟨v4,e5,H⟩:=aJ H
   obtain⟨h2,e6,o2⟩:=dK (P:=Tryd.prog) (tf:=3) (E:=aa) (l:=cY) (q:=0) (v:=v2) (x:=.int .i64 v2) o1 rfl Z3 e5 rfl rfl
   obtain⟨v5,e7,H⟩:=aJ H
   obtain⟨h3,e8,o3⟩:=dK (P:=Tryd.prog) (tf:=3) (E:=aa) (l:=(cY.set j0.toNat v2)) (q:=0) (v:=v3) (x:=.int .i64 v3) o2 rfl Z3 e7 rfl rfl
   exact qr [.v 8 (aG (k:=.i64) (E:=aa) (l:=cY) (q:=0) dA o1 rfl e3),.v 9 (be  (E:=aa) (l:=cY) (q:=0) o1 rfl A3 e3 rfl),.v 12 (aG (k:=.i64) (E:=aa) (l:=cY) (q:=0) dA o1 rfl e4),.v 13 (be  (E:=aa) (l:=cY) (q:=0) o1 rfl A3 e4 rfl),.v 14 (aG (k:=.i64) (E:=aa) (l:=cY) (q:=0) dA o1 rfl e5),.w 15 e6,.v 16 (aG (k:=.i64) (E:=aa) (l:=(cY.set j0.toNat v2)) (q:=0) dA o2 rfl e7),.w 17 e8] <| q0 <| ⟨((cY.set j0.toNat v2).set (i64.wrap (j0 - (1:Int))).toNat v3,i64.wrap (j0 - (1:Int))),⟨h3,by kernel_rfl,o3⟩,H⟩
  ·exact qx 2 <| ⟨rfl,cY,j0,oi H,.int .i64 j0,.bool (decide (r0<(0:Int))),h1,by kernel_rfl,o1⟩
 ·exact qr [.b 3 c1] <| Ds <| qx 2 <| ⟨rfl,cY,j0,oi H,.int .i64 j0,.bool false,h1,by kernel_rfl,o1⟩
theorem aP.bG (L:Mem)(aA:Nat)(rf:FuncId)(fF:List AV)(aq:List Int)(a0:Int)(b0:Int)(aN:Int→Int→Option (Int))  (DB:ay (.fn rf fF) = .fn rf fF)(AF:∀h K,Has h (K++L)→∀(a0:Int) (a1:Int) r,aN a0 a1=some r→cf rf ([.int .i64 a0,.int .i64 a1]++fF) h=some (.int .i64 r,h))  : bI Tryd.prog cf qp m (sub [1,0,0] (codeOf Tryd.f119)) (fun k (σ:(List Int) × Int)=>aP.l0 m a0 b0 aN k σ.1 σ.2) (fun σ s=>match σ with | (bj,i0)=>∃h0,s=⟨.rs aA 0 aq.length 1 :: .int .i64 a0 :: .int .i64 b0 :: .fn rf fF :: .int .i64 i0::kz [],[],h0⟩∧Has h0 ((aA,.sl aq.length 1 (aa.l bj))::L)) (fun out e s=>(e = .exit 0∧∃bj i0,(bj,i0)=out∧∃kQ rB Dt uP rG tL h0,s=⟨[kQ,rB,Dt,uP,rG,.any,tL,.any],[],h0⟩∧Has h0 ((aA,.sl aq.length 1 (aa.l bj))::L))):=by
 refine hX (fun _=>rfl) ?_
 rintro k ⟨bj,i0⟩ s out ⟨h0,rfl,o0⟩ H
 have H:aP.l0 m a0 b0 aN (k+1) bj i0=some out:=H
 refine qq <| qq <| q0 <| qc H (fun c0 H=>?_) (fun c0 H=>?_)
 ·refine qk <| qq <| qb 1 <| qq <| q0 <| qb 2 ?_
  obtain⟨bo,e9,H⟩:=aJ H
  refine ql (aP.fW L aA rf fF aq a0 b0 aN i0  DB AF  (bj,i0) _ _ ⟨h0,by kernel_rfl,o0⟩ e9) ?_
  rintro e s ⟨rfl,dr,j1,rfl,g0,g1,h4,rfl,o4⟩
  try dsimp only at H
  exact q0 <| ⟨(dr,i64.wrap (i0+(1:Int))),⟨h4,by kernel_rfl,o4⟩,H⟩
 ·exact qx 0 <| ⟨rfl,bj,i0,oi H,.rs aA 0 aq.length 1,.int .i64 a0,.int .i64 b0,.fn rf fF,.int .i64 i0,.bool (decide (i0<b0)),h0,by kernel_rfl,o0⟩
theorem mY {aS:FuncId→cd}(ha:aS 119=qp)  (aq:List Int)(a0:Int)(b0:Int)(aN:Int→Int→Option (Int))(h:AHeap)(L:Mem)(aA:Nat)(rf:FuncId)(fF:List AV)  (DB:ay (.fn rf fF) = .fn rf fF)(AF:∀h K,Has h (K++L)→∀(a0:Int) (a1:Int) r,aN a0 a1=some r→cf rf ([.int .i64 a0,.int .i64 a1]++fF) h=some (.int .i64 r,h))(o:Has h ((aA,.sl aq.length 1 (aa.l aq))::L)){out:(List Int)}(H:aP.f m aq a0 b0 aN=some out) :
  ∃r h',aZ Tryd.prog aS cf m 119 [.rs aA 0 aq.length 1,.int .i64 a0,.int .i64 b0,.fn rf fF] h=some (r,h')∧r = .tup []∧Has h' ((aA,.sl aq.length 1 (aa.l out))::L):=by
 refine aj (fn:=Tryd.f119) ha Tryd.func119 (by kernel_rfl) (by kernel_rfl) ?_
 refine aD (Q:=fun s=>aP.fin L aA aq a0 b0 aN out s) (fun _ _ ⟨h1,h2,h3⟩=>⟨h1,_,h2,rfl,h3⟩) ?_
 have H:_=some out:=H
 unfold aP.f at H
 show de _ cf qp m _ ⟨.rs aA 0 aq.length 1 :: .int .i64 a0 :: .int .i64 b0 :: .fn rf fF::oq [],[],h⟩ _
 refine q1 <| qb 0 ?_
 obtain⟨cD,pe,H⟩:=aJ H
 refine ql (aP.bG L aA rf fF aq a0 b0 aN  DB AF  (aq,i64.wrap (a0+(1:Int))) _ _ ⟨h,by kernel_rfl,o⟩ pe) ?_
 rintro e s ⟨rfl,jA,i1,rfl,g2,g3,g4,g5,g6,g7,h5,rfl,o5⟩
 try dsimp only at H
 obtain rfl:=oi H
 exact⟨.inr rfl,⟨by kernel_rfl,he o5⟩⟩
end
end Go.Proofs.YtmekcfdllhphlaaDoor
namespace Go.Proofs.YtmekcfdllhphlaaDoor
open Go Go.R
open Go.IntKind (i64 u64 u8 u32)
structure Mv (lo hi:Nat)(l d:List Int):Prop where
 perm:d.Perm l
 out:∀k,k<lo∨hi≤k→gt d k=gt l k
 im:∀k,lo≤k→k<hi→∃k',lo≤k'∧k'<hi∧gt d k=gt l k'
theorem Mv.refl {lo hi:Nat}{l:List Int}:Mv lo hi l l:=⟨List.Perm.refl _,fun _ _=>rfl,fun k h1 h2=>⟨k,h1,h2,rfl⟩⟩
theorem Mv.trans {lo hi:Nat}{l d e:List Int}(a:Mv lo hi l d)(b:Mv lo hi d e):Mv lo hi l e:=
 ⟨b.perm.trans a.perm,fun k hk=>(b.out k hk).trans (a.out k hk),fun k h1 h2=>by
  obtain⟨k',g1,g2,g3⟩:=b.im k h1 h2
  obtain⟨U2,g4,g5,g6⟩:=a.im k' g1 g2
  exact⟨U2,g4,g5,g3.trans g6⟩⟩
theorem Mv.length {lo hi:Nat}{l d:List Int}(a:Mv lo hi l d):d.length=l.length:=a.perm.length_eq
theorem Mv.wide {lo hi Hb lE:Nat}{l d:List Int}(a:Mv lo hi l d)(h1:Hb≤lo)(h2:hi≤lE):Mv Hb lE l d:=
 ⟨a.perm,fun k hk=>a.out k (by omega),fun k h3 h4=>by
  by_cases h:lo≤k∧k<hi
  ·obtain⟨k',g1,g2,g3⟩:=a.im k h.1 h.2
   exact⟨k',by omega,by omega,g3⟩
  ·exact⟨k,h3,h4,a.out k (by omega)⟩⟩
theorem AG {lo hi i j:Nat}{l:List Int}(Ob:lo≤i)(Hs:i<hi)(On:lo≤j)(EA:j<hi)(h:hi≤l.length):Mv lo hi l (Fo l i j):=
 ⟨pc (by omega) (by omega),fun k hk=>by rw [ls (by omega) (by omega),if_neg (by omega),if_neg (by omega)],fun k h1 h2=>by
  rw [ls (by omega) (by omega)]
  split
  ·exact⟨i,Ob,Hs,rfl⟩
  split
  ·exact⟨j,On,EA,rfl⟩
  ·exact⟨k,h1,h2,rfl⟩⟩
def Cm (cmp:Int→Int→Option Int)(c:Int→Int→Int)(l:List Int):Prop:=∀x∈l,∀y∈l,cmp x y=some (c x y)
theorem Cm.perm {cmp c l d}(h:Cm cmp c l)(p:List.Perm d l):Cm cmp c d:=fun x hx y hy=>h x (p.mem_iff.1 hx) y (p.mem_iff.1 hy)
theorem Cm.at {cmp c}{l:List Int}(h:Cm cmp c l){i j:Nat}(hi:i<l.length)(hj:j<l.length):cmp (gt l i) (gt l j)=some (c (gt l i) (gt l j)):=h _ (aM hi) _ (aM hj)
structure Ord (c:Int→Int→Int)(l:List Int):Prop where
 tr:∀x∈l,∀y∈l,∀z∈l,0≤c y x→0≤c z y→0≤c z x
 LD:∀x∈l,∀y∈l,c x y<0→0≤c y x
theorem Ord.perm {c l d}(h:Ord c l)(p:List.Perm d l):Ord c d:=⟨fun x hx y hy z hz=>h.tr x (p.mem_iff.1 hx) y (p.mem_iff.1 hy) z (p.mem_iff.1 hz),fun x hx y hy=>h.LD x (p.mem_iff.1 hx) y (p.mem_iff.1 hy)⟩
def Sg (c:Int→Int→Int)(l:List Int)(a b:Nat):Prop:=∀i j,a≤i→i<j→j<b→0≤c (gt l j) (gt l i)
theorem Fx {m:Nat}{a i:Nat}{cmp:Int→Int→Option Int}{c:Int→Int→Int}:∀(f j:Nat) (d:List Int),j - a<f→a≤j→j≤i→i<d.length→d.length<2 ^ 40→Cm cmp c d→
  ∃d' x,aP.l1 m (a:Int) cmp f d (j:Int)=some (d',x)∧Mv a (i+1) d d'∧
   (Ord c d→(∀x y,a≤x→x<y→y≤i→x≠j→y≠j→0≤c (gt d y) (gt d x))→(∀y,j<y→y≤i→0≤c (gt d y) (gt d j))→Sg c d' a (i+1))
 | 0,j,d,hf,_,_,_,_,_=>absurd hf (by omega)
 | f+1,j,d,hf,h1,h2,h3,hs,C=>by
  have ot:(2:Nat) ^ 40=1099511627776:=by decide
  unfold aP.l1
  by_cases h:a<j
  ·have e1:i64.wrap ((j:Int) - 1)=((j - 1:Nat):Int):=by rw [aE (by omega) (by omega)]; omega
   rw [if_pos (by simp; omega),e1,cE (by omega),cE (by omega),WQ,WQ,C.at (by omega) (by omega),WQ]
   by_cases hc:c (gt d j) (gt d (j - 1))<0
   ·rw [if_pos (by simpa using hc),WQ,WQ,WQ,WX,WX,cE (by simp; omega),WQ]
    obtain⟨d',x,k1,k2,k3⟩:=Fx (m:=m) (a:=a) (i:=i) (cmp:=cmp) (c:=c) f (j - 1) (Fo d j (j - 1)) (by omega) (by omega) (by omega) (by rw [tB]; omega) (by rw [tB]; omega) (C.perm (pc (by omega) (by omega)))
    refine⟨d',x,k1,(AG (by omega) (by omega) (by omega) (by omega) (by omega)).trans k2,fun O g1 g2=>k3 (O.perm (pc (by omega) (by omega))) (fun x y x1 x2 x3 x4 x5=>?_) (fun y y1 y2=>?_)⟩
    ·rw [ls (by omega) (by omega),ls (by omega) (by omega),if_neg x5,if_neg x4]
     by_cases hy:y=j
     ·subst hy
      rw [if_pos rfl,if_neg (by omega)]
      exact g1 _ _ (by omega) (by omega) (by omega) (by omega) (by omega)
     ·rw [if_neg hy]
      by_cases hx:x=j
      ·subst hx
       rw [if_pos rfl]
       exact g1 _ _ (by omega) (by omega) (by omega) (by omega) (by omega)
      ·rw [if_neg hx]
       exact g1 _ _ (by omega) (by omega) (by omega) (by omega) (by omega)
    ·rw [ls (by omega) (by omega),ls (by omega) (by omega),if_neg (by omega),if_pos rfl]
     by_cases hy:y=j
     ·subst hy
      rw [if_pos rfl]
      exact O.LD _ (aM (by omega)) _ (aM (by omega)) hc
     ·rw [if_neg hy]
      exact g2 _ (by omega) (by omega)
   ·rw [if_neg (by simpa using hc)]
    refine⟨d,j,rfl,Mv.refl,fun O g1 g2 x y x1 x2 x3=>?_⟩
    have hc:0≤c (gt d j) (gt d (j - 1)):=by omega
    by_cases hx:x=j
    ·subst hx; exact g2 _ x2 (by omega)
    ·by_cases hy:y=j
     ·subst hy
      by_cases hx1:x=y - 1
      ·subst hx1; exact hc
      ·exact O.tr _ (aM (by omega)) (gt d (y - 1)) (aM (by omega)) _ (aM (by omega)) (g1 _ _ x1 (by omega) (by omega) hx (by omega)) hc
     ·exact g1 _ _ x1 x2 (by omega) hx hy
  ·have:j=a:=by omega
   subst this
   rw [if_neg (by simp)]
   refine⟨d,j,rfl,Mv.refl,fun O g1 g2 x y x1 x2 x3=>?_⟩
   by_cases hx:x=j
   ·subst hx; exact g2 _ x2 (by omega)
   ·exact g1 _ _ x1 x2 (by omega) hx (by omega)
theorem Fy {m:Nat}{a b:Nat}{cmp:Int→Int→Option Int}{c:Int→Int→Int}(hm:2 ^ 41≤m):∀(f i:Nat) (d:List Int),b - i<f→a<i→b≤d.length→d.length<2 ^ 40→Cm cmp c d→
  ∃d' x,aP.l0 m (a:Int) (b:Int) cmp f d (i:Int)=some (d',x)∧Mv a b d d'∧(Ord c d→Sg c d a i→Sg c d' a b)
 | 0,i,d,hf,_,_,_,_=>absurd hf (by omega)
 | f+1,i,d,hf,h1,h2,hs,C=>by
  have ot:(2:Nat) ^ 40=1099511627776:=by decide
  have rD:(2:Nat) ^ 41=2199023255552:=by decide
  unfold aP.l0
  by_cases h:i<b
  ·obtain⟨d1,x1,k1,k2,k3⟩:=Fx (m:=m) (a:=a) (i:=i) (cmp:=cmp) (c:=c) m i d (by omega) (by omega) (by omega) (by omega) hs C
   have e3:i64.wrap ((i:Int)+1)=((i+1:Nat):Int):=by rw [aE (by omega) (by omega)]; omega
   rw [if_pos (by simp; omega),k1,WQ]
   dsimp only
   rw [e3]
   have hl:=k2.length
   obtain⟨d',x,g1,g2,g3⟩:=Fy (a:=a) (b:=b) (cmp:=cmp) (c:=c) hm f (i+1) d1 (by omega) (by omega) (by omega) (by omega) (C.perm k2.perm)
   exact⟨d',x,g1,(k2.wide (WU _) (by omega)).trans g2,fun O S=>g3 (O.perm k2.perm) (k3 O (fun x y q1 q2 q3 q4 q5=>S x y q1 q2 (by omega)) (fun y q1 q2=>absurd q1 (by omega)))⟩
  ·exact⟨d,i,by rw [if_neg (by simp; omega)],Mv.refl,fun O S x y q1 q2 q3=>S x y q1 q2 (by omega)⟩
theorem yW {m:Nat}{a b:Nat}{cmp:Int→Int→Option Int}{c:Int→Int→Int}(hm:2 ^ 41≤m){l:List Int}(ha:a≤l.length)(hb:b≤l.length)(hs:l.length<2 ^ 40)(C:Cm cmp c l) :
  ∃d,aP.f m l (a:Int) (b:Int) cmp=some d∧Mv a b l d∧(Ord c l→Sg c d a b):=by
 have ot:(2:Nat) ^ 40=1099511627776:=by decide
 have rD:(2:Nat) ^ 41=2199023255552:=by decide
 have e3:i64.wrap ((a:Int)+1)=((a+1:Nat):Int):=by rw [aE (by omega) (by omega)]; omega
 obtain⟨d',x,g1,g2,g3⟩:=Fy (a:=a) (b:=b) (cmp:=cmp) (c:=c) hm m (a+1) l (by omega) (by omega) hb hs C
 exact⟨d',by unfold aP.f; rw [e3,g1]; rfl,g2,fun O=>g3 O fun x y q1 q2 q3=>absurd q3 (by omega)⟩
end Go.Proofs.YtmekcfdllhphlaaDoor
