/- Part of the proof: Q119, Q118, PS1, Q114, Q106, Q93, Q107, Q94, Q95, Q96, Q76, Q55, Q38, Q54, Q36, PT6, Q115, PS2. -/
import Derived.Test.YtmekcfdllhphlaaGreatDoorK6
set_option linter.unusedVariables false
set_option linter.unusedSimpArgs false
set_option maxRecDepth 100000
open Bool renaming and_eq_true → Yo, or_eq_true → Za, true_and → Zy
open ByteArray renaming mk → YM
open Int renaming toNat_natCast → Yq, fdiv_eq_ediv_of_nonneg → ZN
open List renaming getElem?_eq_some_iff → Yu, getElem?_eq_getElem → Yv, append_assoc → Yx, drop_eq_getElem_cons → Yz, getD_eq_getElem?_getD → YB, getElem?_eq_none → YC, length_cons → YD, cons_append → YL, nil_append → YO, drop_zero → YZ, getElem?_cons_zero → Y1, drop_eq_nil_of_le → Y3, length_nil → Y6, ext_getElem? → Zd, getElem_mem → Ze, all_cons → Zg, mem_of_getElem? → Zm, getElem?_set → ZH
open Nat renaming le_refl → Yn
open Option renaming bind_some → Yj
open Option.some renaming injEq → Ym, inj → YI
open Or renaming inr → Zx
namespace Go.Proofs.YtmekcfdllhphlaaGreatDoor
open Go Go.R
open Go.IntKind (i64 u64 u8 u32)
def tS:cm:=gI [0,1,2,3,10,13] [] [32,0,32,32] [] []
def bY.l0 (m:Nat)(a0:Int)(b0:Int)(n0:Int):Nat→(List Int)→Int→Option ((List Int) × Int)
 | 0,_,_=>none
 | k+1,bp,i0=>if (decide (i0<n0))=true then ((ix bp (i64.wrap (b0+i0))).bind fun v0=>(ix bp (i64.wrap (a0+i0))).bind fun v1=>(ix bp (i64.wrap (a0+i0))).bind fun v2=>(ix (bp.set (i64.wrap (a0+i0)).toNat v0) (i64.wrap (b0+i0))).bind fun v3=>bY.l0 m a0 b0 n0 k ((bp.set (i64.wrap (a0+i0)).toNat v0).set (i64.wrap (b0+i0)).toNat v1) (i64.wrap (i0+(1:Int)))) else (some ((bp,i0)))
def bY.f (m:Nat)(ao:List Int)(a0:Int)(b0:Int)(n0:Int)(aM:Int→Int→Option (Int)):Option ((List Int)):=(bY.l0 m a0 b0 n0 m ao (0:Int)).bind fun bg=>match bg with | (cZ,i1)=>some cZ
def bY.fin (L:Mem)(az:Nat)(ao:List Int)(a0:Int)(b0:Int)(n0:Int)(aM:Int→Int→Option (Int))(r:(List Int))(s:St):Prop:=aH Tryz.prog (s.open tS) Tryz.f119.results.toList=some (.tup [])∧Has s.h ((az,.sl ao.length 1 (aa.l r))::L)
def LR (cf:CallF)(m:Nat):Prop:=∀(ao:List Int) (a0:Int) (b0:Int) (n0:Int) (aM:Int→Int→Option (Int)) (r:(List Int)),bY.f m ao a0 b0 n0 aM=some r→∀h L (cE:Nat) (az:Nat),Has h ((az,.sl cE 1 (aa.l ao))::L)→∀(eA:FuncId) (aX:List AV),ay (.fn eA aX) = .fn eA aX→(∀h K,Has h (K++L)→∀(a0:Int) (a1:Int) r,aM a0 a1=some r→cf eA ([.int .i64 a0,.int .i64 a1]++aX) h=some (.int .i64 r,h))→∀xs,xs.map ay=[.rs az 0 cE 1,.int .i64 a0,.int .i64 b0,.int .i64 n0,.fn eA aX]→∃h',cf 119 xs h=some (.tup [],h')∧Has h' ((az,.sl cE 1 (aa.l r))::L)
section
variable {cf:CallF}{m:Nat}
theorem bY.bP (L:Mem)(az:Nat)(eA:FuncId)(aX:List AV)(ao:List Int)(a0:Int)(b0:Int)(n0:Int)(aM:Int→Int→Option (Int))  (gJ:ay (.fn eA aX) = .fn eA aX)(ij:∀h K,Has h (K++L)→∀(a0:Int) (a1:Int) r,aM a0 a1=some r→cf eA ([.int .i64 a0,.int .i64 a1]++aX) h=some (.int .i64 r,h))  : bL Tryz.prog cf tS m (sub [1,0,0] (codeOf Tryz.f119)) (fun k (σ:(List Int) × Int)=>bY.l0 m a0 b0 n0 k σ.1 σ.2) (fun σ s=>match σ with | (bp,i0)=>∃h0,s=⟨[.rs az 0 ao.length 1,.int .i64 a0,.int .i64 b0,.int .i64 n0,.int .i64 i0,.any],[],h0⟩∧Has h0 ((az,.sl ao.length 1 (aa.l bp))::L)) (fun out e s=>(e = .exit 0∧∃bp i0,(bp,i0)=out∧∃lP vm Gp vn tT ou h0,s=⟨[lP,vm,Gp,vn,tT,ou],[],h0⟩∧Has h0 ((az,.sl ao.length 1 (aa.l bp))::L))):=by
 refine ig (fun _=>rfl) ?_
 rintro k ⟨bp,i0⟩ s out ⟨h0,rfl,o0⟩ H
 have H:bY.l0 m a0 b0 n0 (k+1) bp i0=some out:=H
 refine qq <| qq <| q0 <| qc H (fun c0 H=>?_) (fun c0 H=>?_)
 ·refine qk <| qq <| qb 1 ?_
  obtain⟨v0,e0,H⟩:=aI H
  obtain⟨v1,e1,H⟩:=aI H
  obtain⟨v2,e2,H⟩:=aI H
  obtain⟨h1,e3,o1⟩:=dM (P:=Tryz.prog) (tf:=3) (E:=aa) (l:=bp) (q:=0) (v:=v0) (x:=.int .i64 v0) o0 rfl Z3 e2 rfl rfl
  obtain⟨v3,e4,H⟩:=aI H
  obtain⟨h2,e5,o2⟩:=dM (P:=Tryz.prog) (tf:=3) (E:=aa) (l:=(bp.set (i64.wrap (a0+i0)).toNat v0)) (q:=0) (v:=v1) (x:=.int .i64 v1) o1 rfl Z3 e4 rfl rfl
  exact qr [.v 12 (aE (k:=.i64) (E:=aa) (l:=bp) (q:=0) dJ o0 rfl e0),.v 13 (bf  (E:=aa) (l:=bp) (q:=0) o0 rfl A3 e0 rfl),.v 18 (aE (k:=.i64) (E:=aa) (l:=bp) (q:=0) dJ o0 rfl e1),.v 19 (bf  (E:=aa) (l:=bp) (q:=0) o0 rfl A3 e1 rfl),.v 20 (aE (k:=.i64) (E:=aa) (l:=bp) (q:=0) dJ o0 rfl e2),.w 21 e3,.v 22 (aE (k:=.i64) (E:=aa) (l:=(bp.set (i64.wrap (a0+i0)).toNat v0)) (q:=0) dJ o1 rfl e4),.w 23 e5] <| q0 <| ⟨((bp.set (i64.wrap (a0+i0)).toNat v0).set (i64.wrap (b0+i0)).toNat v1,i64.wrap (i0+(1:Int))),⟨h2,by kernel_rfl,o2⟩,H⟩
 ·exact qx 0 <| ⟨rfl,bp,i0,oi H,.rs az 0 ao.length 1,.int .i64 a0,.int .i64 b0,.int .i64 n0,.int .i64 i0,.bool (decide (i0<n0)),h0,by kernel_rfl,o0⟩
theorem rX {aU:FuncId→cm}(ha:aU 119=tS)  (ao:List Int)(a0:Int)(b0:Int)(n0:Int)(aM:Int→Int→Option (Int))(h:AHeap)(L:Mem)(az:Nat)(eA:FuncId)(aX:List AV)  (gJ:ay (.fn eA aX) = .fn eA aX)(ij:∀h K,Has h (K++L)→∀(a0:Int) (a1:Int) r,aM a0 a1=some r→cf eA ([.int .i64 a0,.int .i64 a1]++aX) h=some (.int .i64 r,h))(o:Has h ((az,.sl ao.length 1 (aa.l ao))::L)){out:(List Int)}(H:bY.f m ao a0 b0 n0 aM=some out) :
  ∃r h',be Tryz.prog aU cf m 119 [.rs az 0 ao.length 1,.int .i64 a0,.int .i64 b0,.int .i64 n0,.fn eA aX] h=some (r,h')∧r = .tup []∧Has h' ((az,.sl ao.length 1 (aa.l out))::L):=by
 refine aq (fn:=Tryz.f119) ha Tryz.func119 (by kernel_rfl) (by kernel_rfl) ?_
 refine aG (Q:=fun s=>bY.fin L az ao a0 b0 n0 aM out s) (fun _ _ ⟨h1,h2,h3⟩=>⟨h1,_,h2,rfl,h3⟩) ?_
 have H:_=some out:=H
 unfold bY.f at H
 show dt _ cf tS m _ ⟨[.rs az 0 ao.length 1,.int .i64 a0,.int .i64 b0,.int .i64 n0,.any,.any],[],h⟩ _
 refine q1 <| qb 0 ?_
 obtain⟨bg,e6,H⟩:=aI H
 refine ql (bY.bP L az eA aX ao a0 b0 n0 aM  gJ ij  (ao,(0:Int)) _ _ ⟨h,by kernel_rfl,o⟩ e6) ?_
 rintro e s ⟨rfl,cZ,i1,rfl,g0,g1,g2,g3,g4,g5,h3,rfl,o3⟩
 try dsimp only at H
 obtain rfl:=oi H
 exact⟨.inr rfl,⟨by kernel_rfl,he o3⟩⟩
end
end Go.Proofs.YtmekcfdllhphlaaGreatDoor
namespace Go.Proofs.YtmekcfdllhphlaaGreatDoor
open Go Go.R
open Go.IntKind (i64 u64 u8 u32)
def tU:cm:=gI [0,1,2,3,4,10,11,20,23] [] [450,394,266,138,394,394,394,394,511] [] []
def eK.l0 (m:Nat)(m0:Int)(aM:Int→Int→Option (Int)):Nat→(List Int)→Int→Int→Option ((List Int) × Int × Int)
 | 0,_,_,_=>none
 | k+1,bp,i0,j0=>if (!(i0==j0))=true then (if (decide (i0 > j0))=true then ((bY.f m bp (i64.wrap (m0 - i0)) m0 j0 aM).bind fun x0=>eK.l0 m m0 aM k x0 (i64.wrap (i0 - j0)) j0) else ((bY.f m bp (i64.wrap (m0 - i0)) (i64.wrap (i64.wrap (m0+j0) - i0)) i0 aM).bind fun x1=>eK.l0 m m0 aM k x1 i0 (i64.wrap (j0 - i0)))) else (some ((bp,i0,j0)))
def eK.f (m:Nat)(ao:List Int)(a0:Int)(m0:Int)(b0:Int)(aM:Int→Int→Option (Int)):Option ((List Int)):=(eK.l0 m m0 aM m ao (i64.wrap (m0 - a0)) (i64.wrap (b0 - m0))).bind fun bg=>match bg with | (cZ,i1,j1)=>(bY.f m cZ (i64.wrap (m0 - i1)) m0 i1 aM).bind fun x2=>some x2
def eK.fin (L:Mem)(az:Nat)(ao:List Int)(a0:Int)(m0:Int)(b0:Int)(aM:Int→Int→Option (Int))(r:(List Int))(s:St):Prop:=aH Tryz.prog (s.open tU) Tryz.f118.results.toList=some (.tup [])∧Has s.h ((az,.sl ao.length 1 (aa.l r))::L)
def Oo (cf:CallF)(m:Nat):Prop:=∀(ao:List Int) (a0:Int) (m0:Int) (b0:Int) (aM:Int→Int→Option (Int)) (r:(List Int)),eK.f m ao a0 m0 b0 aM=some r→∀h L (cE:Nat) (az:Nat),Has h ((az,.sl cE 1 (aa.l ao))::L)→∀(eA:FuncId) (aX:List AV),ay (.fn eA aX) = .fn eA aX→(∀h K,Has h (K++L)→∀(a0:Int) (a1:Int) r,aM a0 a1=some r→cf eA ([.int .i64 a0,.int .i64 a1]++aX) h=some (.int .i64 r,h))→∀xs,xs.map ay=[.rs az 0 cE 1,.int .i64 a0,.int .i64 m0,.int .i64 b0,.fn eA aX]→∃h',cf 118 xs h=some (.tup [],h')∧Has h' ((az,.sl cE 1 (aa.l r))::L)
section
variable {cf:CallF}{m:Nat}
theorem eK.bP (L:Mem)(az:Nat)(eA:FuncId)(aX:List AV)(ao:List Int)(a0:Int)(m0:Int)(b0:Int)(aM:Int→Int→Option (Int))  (gJ:ay (.fn eA aX) = .fn eA aX)(ij:∀h K,Has h (K++L)→∀(a0:Int) (a1:Int) r,aM a0 a1=some r→cf eA ([.int .i64 a0,.int .i64 a1]++aX) h=some (.int .i64 r,h))(zu:LR cf m):bL Tryz.prog cf tU m (sub [1,1,0,0,0] (codeOf Tryz.f118)) (fun k (σ:(List Int) × Int × Int)=>eK.l0 m m0 aM k σ.1 σ.2.1 σ.2.2) (fun σ s=>match σ with | (bp,i0,j0)=>∃h0,s=⟨[.rs az 0 ao.length 1,.any,.int .i64 m0,.any,.fn eA aX,.int .i64 i0,.int .i64 j0,.any,.any],[],h0⟩∧Has h0 ((az,.sl ao.length 1 (aa.l bp))::L)) (fun out e s=>(e = .exit 0∧∃bp i0 j0,(bp,i0,j0)=out∧∃Gq LS h0,s=⟨[.rs az 0 ao.length 1,.any,.int .i64 m0,.any,.fn eA aX,.int .i64 i0,Gq,LS,.any],[],h0⟩∧Has h0 ((az,.sl ao.length 1 (aa.l bp))::L))):=by
 refine ig (fun _=>rfl) ?_
 rintro k ⟨bp,i0,j0⟩ s out ⟨h0,rfl,o0⟩ H
 have H:eK.l0 m m0 aM (k+1) bp i0 j0=some out:=H
 refine qq <| qq <| q0 <| qc H (fun c0 H=>?_) (fun c0 H=>?_)
 ·refine qk <| qb 1 <| qq <| q0 <| qc H (fun c1 H=>?_) (fun c1 H=>?_)
  ·refine qq ?_
   obtain⟨x0,e0,H⟩:=aI H
   obtain⟨h1,e1,o1⟩:=zu _ _ _ _ _ _ e0 h0 _ _ _ (o0) eA aX gJ (fun h' K' o'=>ij h' (K'++[]) (by simpa only [Yx,YL,YO] using o')) [.rs az 0 ao.length 1,.int .i64 (i64.wrap (m0 - i0)),.int .i64 m0,.int .i64 j0,.fn eA aX] (ak (rfl) (ak (aR (bJ)) (ak (aR (bJ)) (ak (aR (bJ)) (ak (gJ) (bn))))))
   exact qr [.a 7 e1] <| q0 <| ⟨(x0,i64.wrap (i0 - j0),j0),⟨h1,by kernel_rfl,o1⟩,H⟩
  ·refine qq ?_
   obtain⟨x1,e2,H⟩:=aI H
   obtain⟨h2,e3,o2⟩:=zu _ _ _ _ _ _ e2 h0 _ _ _ (o0) eA aX gJ (fun h' K' o'=>ij h' (K'++[]) (by simpa only [Yx,YL,YO] using o')) [.rs az 0 ao.length 1,.int .i64 (i64.wrap (m0 - i0)),.int .i64 (i64.wrap (i64.wrap (m0+j0) - i0)),.int .i64 i0,.fn eA aX] (ak (rfl) (ak (aR (bJ)) (ak (aR (bJ)) (ak (aR (bJ)) (ak (gJ) (bn))))))
   exact qr [.a 11 e3] <| q0 <| ⟨(x1,i0,i64.wrap (j0 - i0)),⟨h2,by kernel_rfl,o2⟩,H⟩
 ·exact qx 0 <| ⟨rfl,bp,i0,j0,oi H,.int .i64 j0,.bool (!(i0==j0)),h0,by kernel_rfl,o0⟩
theorem xI {aU:FuncId→cm}(ha:aU 118=tU)(zu:LR cf m)(ao:List Int)(a0:Int)(m0:Int)(b0:Int)(aM:Int→Int→Option (Int))(h:AHeap)(L:Mem)(az:Nat)(eA:FuncId)(aX:List AV)  (gJ:ay (.fn eA aX) = .fn eA aX)(ij:∀h K,Has h (K++L)→∀(a0:Int) (a1:Int) r,aM a0 a1=some r→cf eA ([.int .i64 a0,.int .i64 a1]++aX) h=some (.int .i64 r,h))(o:Has h ((az,.sl ao.length 1 (aa.l ao))::L)){out:(List Int)}(H:eK.f m ao a0 m0 b0 aM=some out) :
  ∃r h',be Tryz.prog aU cf m 118 [.rs az 0 ao.length 1,.int .i64 a0,.int .i64 m0,.int .i64 b0,.fn eA aX] h=some (r,h')∧r = .tup []∧Has h' ((az,.sl ao.length 1 (aa.l out))::L):=by
 refine aq (fn:=Tryz.f118) ha Tryz.func118 (by kernel_rfl) (by kernel_rfl) ?_
 refine aG (Q:=fun s=>eK.fin L az ao a0 m0 b0 aM out s) (fun _ _ ⟨h1,h2,h3⟩=>⟨h1,_,h2,rfl,h3⟩) ?_
 have H:_=some out:=H
 unfold eK.f at H
 show dt _ cf tU m _ ⟨.rs az 0 ao.length 1 :: .int .i64 a0 :: .int .i64 m0 :: .int .i64 b0 :: .fn eA aX::oH [],[],h⟩ _
 refine q1 <| qq <| q0 <| qq <| qb 0 ?_
 obtain⟨bg,e4,H⟩:=aI H
 refine ql (eK.bP L az eA aX ao a0 m0 b0 aM  gJ ij zu (ao,i64.wrap (m0 - a0),i64.wrap (b0 - m0)) _ _ ⟨h,by kernel_rfl,o⟩ e4) ?_
 rintro e s ⟨rfl,cZ,i1,j1,rfl,g0,g1,h3,rfl,o3⟩
 try dsimp only at H
 obtain⟨x2,e5,H⟩:=aI H
 obtain⟨h4,e6,o4⟩:=zu _ _ _ _ _ _ e5 h3 _ _ _ (o3) eA aX gJ (fun h' K' o'=>ij h' (K'++[]) (by simpa only [Yx,YL,YO] using o')) [.rs az 0 ao.length 1,.int .i64 (i64.wrap (m0 - i1)),.int .i64 m0,.int .i64 i1,.fn eA aX] (ak (rfl) (ak (aR (bJ)) (ak (aR (bJ)) (ak (aR (bJ)) (ak (gJ) (bn))))))
 obtain rfl:=oi H
 exact qr [.a 7 e6] <| ⟨.inr rfl,⟨by kernel_rfl,he o4⟩⟩
end
end Go.Proofs.YtmekcfdllhphlaaGreatDoor
namespace Go.Proofs.YtmekcfdllhphlaaGreatDoor
open Go Go.R
open Go.IntKind (i64 u64 u8 u32)
def gt (l:List Int)(k:Nat):Int:=l.getD k 0
theorem bu {l:List Int}{k:Nat}(h:k<l.length):l[k]? = some (gt l k):=by
 unfold gt; rw [YB,Yv h]; rfl
theorem aJ {l:List Int}{k:Nat}(h:k<l.length):gt l k∈l:=Zm (bu h)
theorem cy {l:List Int}{k:Nat}(h:k<l.length):ix l (k:Int)=some (gt l k):=by
 unfold ix; rw [if_pos (by omega),Yq,bu h]
theorem gn {l:List Int}{i:Int}{k:Nat}(hi:i=(k:Int))(h:k<l.length):ix l i=some (gt l k):=by rw [hi,cy h]
theorem eh {l:List Int}{i k:Nat}{x:Int}(hi:i<l.length):gt (l.set i x) k=if k=i then x else gt l k:=by
 unfold gt
 simp only [YB,ZH]
 by_cases h:i=k
 ·subst h; simp [hi]
 ·rw [if_neg h,if_neg (by omega)]
theorem Gr {l r:List Int}(hl:l.length=r.length)(h:∀k,k<l.length→gt l k=gt r k):l=r:=by
 apply Zd fun k=>?_
 by_cases hk:k<l.length
 ·rw [bu hk,bu (hl ▸ hk),h k hk]
 ·rw [YC (by omega),YC (by omega)]
def Gs (l:List Int)(i j:Nat):List Int:=(l.set i (gt l j)).set j (gt l i)
theorem py {l:List Int}{i j:Nat}(hi:i<l.length)(hj:j<l.length):(Gs l i j).Perm l:=by
 have h1:gt l j=l[j]:=by have:=bu hj; rw [Yv hj] at this; exact (YI this).symm
 have h2:gt l i=l[i]:=by have:=bu hi; rw [Yv hi] at this; exact (YI this).symm
 unfold Gs; rw [h1,h2]; exact List.set_set_perm hi hj
theorem lQ {l:List Int}{i j k:Nat}(hi:i<l.length)(hj:j<l.length):gt (Gs l i j) k=if k=j then gt l i else if k=i then gt l j else gt l k:=by
 unfold Gs
 rw [eh (by simpa using hj),eh hi]
theorem tV {l:List Int}{i j:Nat}:(Gs l i j).length=l.length:=by simp [Gs]
theorem zw {a b:Nat}(h:a+b<9223372036854775808):i64.wrap (gh .u64 (u64.wrap (i64.wrap ((a:Int)+(b:Int)))) 1)=(((a+b) / 2:Nat):Int):=by
 rw [aA (x:=(a:Int)+b) (by omega) (by omega),gm (by omega) (by omega)]
 have:gh .u64 ((a:Int)+(b:Int)) 1=(((a+b) / 2:Nat):Int):=by
  unfold gh
  rw [ZN _ (by decide)]
  show ((a:Int)+(b:Int)) / 2=_
  omega
 rw [this,aA (by omega) (by omega)]
theorem Gt {m:Nat}{l:List Int}{a b n:Nat}(h1:a+n≤b)(h2:b+n≤l.length)(hl:l.length<2 ^ 40):∀(f i:Nat) (d:List Int),n - i<f→i≤n→d.Perm l→
  (∀k,gt d k=if a≤k∧k<a+i then gt l (k - a+b) else if b≤k∧k<b+i then gt l (k - b+a) else gt l k)→
  ∃d' x,bY.l0 m (a:Int) (b:Int) (n:Int) f d (i:Int)=some (d',x)∧d'.Perm l∧(∀k,gt d' k=if a≤k∧k<a+n then gt l (k - a+b) else if b≤k∧k<b+n then gt l (k - b+a) else gt l k)
 | 0,i,d,hf,_,_,_=>absurd hf (by omega)
 | f+1,i,d,hf,hi,hp,hg=>by
  have mj:(2:Nat) ^ 40=1099511627776:=by decide
  have Rk:=hp.length_eq
  unfold bY.l0
  by_cases h:i<n
  ·have e1:i64.wrap ((b:Int)+(i:Int))=((b+i:Nat):Int):=by rw [aA (by omega) (by omega)]; omega
   have e2:i64.wrap ((a:Int)+(i:Int))=((a+i:Nat):Int):=by rw [aA (by omega) (by omega)]; omega
   have e3:i64.wrap ((i:Int)+1)=((i+1:Nat):Int):=by rw [aA (by omega) (by omega)]; omega
   rw [if_pos (by simp; omega),e1,e2,e3,cy (by omega),cy (by omega),Yq,Yq,Yj,Yj,Yj,cy (by simp; omega),Yj]
   show ∃d' x,bY.l0 m (a:Int) (b:Int) (n:Int) f (Gs d (a+i) (b+i)) ((i+1:Nat):Int)=some (d',x)∧_
   refine Gt h1 h2 hl f (i+1) _ (by omega) (by omega) ((py (by omega) (by omega)).trans hp) fun k=>?_
   rw [lQ (by omega) (by omega),hg,hg,hg]
   by_cases k1:k=b+i
   ·subst k1
    rw [if_pos rfl,if_neg (by omega),if_neg (by omega),if_neg (by omega),if_pos (by omega)]
    congr 1; omega
   ·rw [if_neg k1]
    by_cases k2:k=a+i
    ·subst k2
     rw [if_pos rfl,if_neg (by omega),if_neg (by omega),if_pos (by omega)]
     congr 1; omega
    ·rw [if_neg k2]
     by_cases k3:a≤k∧k<a+i
     ·rw [if_pos k3,if_pos (by omega)]
     ·rw [if_neg k3,if_neg (show ¬(a≤k∧k<a+(i+1)) by omega)]
      by_cases k4:b≤k∧k<b+i
      ·rw [if_pos k4,if_pos (by omega)]
      ·rw [if_neg k4,if_neg (by omega)]
  ·have:i=n:=by omega
   subst this
   exact⟨d,i,by rw [if_neg (by simp)],hp,hg⟩
theorem tW {m:Nat}{l:List Int}{a b n:Nat}{cmp:Int→Int→Option Int}(h1:a+n≤b)(h2:b+n≤l.length)(hl:l.length<2 ^ 40)(hm:n<m) :
  ∃d',bY.f m l (a:Int) (b:Int) (n:Int) cmp=some d'∧d'.Perm l∧(∀k,gt d' k=if a≤k∧k<a+n then gt l (k - a+b) else if b≤k∧k<b+n then gt l (k - b+a) else gt l k):=by
 obtain⟨d',x,e,hp,hg⟩:=Gt (m:=m) h1 h2 hl m 0 l (by omega) (by omega) (List.Perm.refl _) (fun k=>by rw [if_neg (by omega),if_neg (by omega)])
 have e:bY.l0 m (a:Int) (b:Int) (n:Int) m l 0=_:=e
 exact⟨d',by unfold bY.f; rw [e]; rfl,hp,hg⟩
def M8 (l d:List Int)(p i j:Nat):Prop:=d.Perm l∧(∀k,k<j→gt d (p+k)=gt l (p+i+k))∧(∀k,k<i→gt d (p+j+k)=gt l (p+k))∧∀k,k<p∨p+i+j≤k→gt d k=gt l k
theorem Bn {m:Nat}{q:Nat}{cmp:Int→Int→Option Int}(hm:2 ^ 41≤m):∀(f i j:Nat) (l:List Int),i+j<f→0<i→0<j→i≤q→q+j≤l.length→l.length<2 ^ 40→
  ∃(d':List Int) (x:Nat) (d:List Int),eK.l0 m (q:Int) cmp f l (i:Int) (j:Int)=some (d',(x:Int),(x:Int))∧bY.f m d' (i64.wrap ((q:Int) - (x:Int))) (q:Int) (x:Int) cmp=some d∧M8 l d (q - i) i j
 | 0,i,j,l,hf,_,_,_,_,_=>absurd hf (by omega)
 | f+1,i,j,l,hf,hi,hj,hq,hl,hs=>by
  have mj:(2:Nat) ^ 40=1099511627776:=by decide
  have pz:(2:Nat) ^ 41=2199023255552:=by decide
  unfold eK.l0
  have e1:i64.wrap ((q:Int) - (i:Int))=((q - i:Nat):Int):=by rw [aA (by omega) (by omega)]; omega
  by_cases h:i=j
  ·subst h
   rw [if_neg (by simp)]
   obtain⟨d,e,hp,hg⟩:=tW (m:=m) (l:=l) (a:=q - i) (b:=q) (n:=i) (cmp:=cmp) (by omega) (by omega) hs (by omega)
   refine⟨l,i,d,rfl,by rw [e1,e],hp,fun k hk=>?_,fun k hk=>?_,fun k hk=>?_⟩
   ·rw [hg,if_pos (by omega)]; congr 1; omega
   ·rw [hg,if_neg (by omega),if_pos (by omega)]; congr 1; omega
   ·rw [hg,if_neg (by omega),if_neg (by omega)]
  ·rw [if_pos (by simp; omega)]
   by_cases h2:j<i
   ·obtain⟨d1,e,hp,hg⟩:=tW (m:=m) (l:=l) (a:=q - i) (b:=q) (n:=j) (cmp:=cmp) (by omega) (by omega) hs (by omega)
    have hd:=hp.length_eq
    have e2:i64.wrap ((i:Int) - (j:Int))=((i - j:Nat):Int):=by rw [aA (by omega) (by omega)]; omega
    rw [if_pos (by simp; omega),e1,e,Yj,e2]
    obtain⟨d',x,d,k1,k2,k3,k4,k5,k6⟩:=Bn (q:=q) (cmp:=cmp) hm f (i - j) j d1 (by omega) (by omega) hj (by omega) (by omega) (by omega)
    refine⟨d',x,d,k1,k2,k3.trans hp,fun k hk=>?_,fun k hk=>?_,fun k hk=>?_⟩
    ·rw [k6 _ (by omega),hg,if_pos (by omega)]; congr 1; omega
    ·by_cases M9:k<j
     ·have:=k4 k M9
      rw [show q - (i - j)+k=q - i+j+k by omega,hg,if_neg (by omega),if_pos (by omega)] at this
      rw [this]; congr 1; omega
     ·have:=k5 (k - j) (by omega)
      rw [show q - (i - j)+j+(k - j)=q - i+j+k by omega,hg,if_neg (by omega),if_neg (by omega)] at this
      rw [this]; congr 1; omega
    ·rw [k6 _ (by omega),hg,if_neg (by omega),if_neg (by omega)]
   ·have e2:i64.wrap (i64.wrap ((q:Int)+(j:Int)) - (i:Int))=((q+j - i:Nat):Int):=by rw [aA (x:=(q:Int)+j) (by omega) (by omega),aA (by omega) (by omega)]; omega
    have e3:i64.wrap ((j:Int) - (i:Int))=((j - i:Nat):Int):=by rw [aA (by omega) (by omega)]; omega
    obtain⟨d1,e,hp,hg⟩:=tW (m:=m) (l:=l) (a:=q - i) (b:=q+j - i) (n:=i) (cmp:=cmp) (by omega) (by omega) hs (by omega)
    have hd:=hp.length_eq
    rw [if_neg (by simp; omega),e1,e2,e,Yj,e3]
    obtain⟨d',x,d,k1,k2,k3,k4,k5,k6⟩:=Bn (q:=q) (cmp:=cmp) hm f i (j - i) d1 (by omega) hi (by omega) hq (by omega) (by omega)
    refine⟨d',x,d,k1,k2,k3.trans hp,fun k hk=>?_,fun k hk=>?_,fun k hk=>?_⟩
    ·by_cases M9:k<j - i
     ·rw [k4 k M9,hg,if_neg (by omega),if_neg (by omega)]
     ·have:=k5 (k - (j - i)) (by omega)
      rw [show q - i+(j - i)+(k - (j - i))=q - i+k by omega,hg,if_pos (by omega)] at this
      rw [this]; congr 1; omega
    ·rw [k6 _ (by omega),hg,if_neg (by omega),if_pos (by omega)]; congr 1; omega
    ·rw [k6 _ (by omega),hg,if_neg (by omega),if_neg (by omega)]
theorem Gu {m:Nat}{a q b:Nat}{cmp:Int→Int→Option Int}{l:List Int}(hm:2 ^ 41≤m)(h1:a<q)(h2:q<b)(h3:b≤l.length)(hs:l.length<2 ^ 40) :
  ∃d,eK.f m l (a:Int) (q:Int) (b:Int) cmp=some d∧M8 l d a (q - a) (b - q):=by
 have mj:(2:Nat) ^ 40=1099511627776:=by decide
 have pz:(2:Nat) ^ 41=2199023255552:=by decide
 obtain⟨d',x,d,k1,k2,k3⟩:=Bn (q:=q) (cmp:=cmp) hm m (q - a) (b - q) l (by omega) (by omega) (by omega) (by omega) (by omega) hs
 rw [show q - (q - a)=a by omega] at k3
 refine⟨d,?_,k3⟩
 unfold eK.f
 rw [show i64.wrap ((q:Int) - (a:Int))=((q - a:Nat):Int) by rw [aA (by omega) (by omega)]; omega,show i64.wrap ((b:Int) - (q:Int))=((b - q:Nat):Int) by rw [aA (by omega) (by omega)]; omega,k1,Yj]
 dsimp only
 rw [k2]; rfl
end Go.Proofs.YtmekcfdllhphlaaGreatDoor
namespace Go.Proofs.YtmekcfdllhphlaaGreatDoor
open Go Go.R
open Go.IntKind (i64 u64 u8 u32)
def xJ:cm:=gI [0,2] [] [2,1] [] []
def fI.f (m:Nat)(c0:Int):Option (Bool):=if (decide (c0≥(97:Int)))=true then (if (decide (c0≤(122:Int)))=true then (some true) else (if (decide (c0≥(65:Int)))=true then (if (decide (c0≤(90:Int)))=true then (some true) else (if (decide (c0≥(48:Int)))=true then (if (decide (c0≤(57:Int)))=true then (some true) else (some (c0==(95:Int)))) else (some (c0==(95:Int))))) else (if (decide (c0≥(48:Int)))=true then (if (decide (c0≤(57:Int)))=true then (some true) else (some (c0==(95:Int)))) else (some (c0==(95:Int)))))) else (if (decide (c0≥(65:Int)))=true then (if (decide (c0≤(90:Int)))=true then (some true) else (if (decide (c0≥(48:Int)))=true then (if (decide (c0≤(57:Int)))=true then (some true) else (some (c0==(95:Int)))) else (some (c0==(95:Int))))) else (if (decide (c0≥(48:Int)))=true then (if (decide (c0≤(57:Int)))=true then (some true) else (some (c0==(95:Int)))) else (some (c0==(95:Int)))))
def fI.fin (L:Mem)(r:Bool)(s:St):Prop:=∃av,aH Tryz.prog (s.open xJ) Tryz.f114.results.toList=some av∧gu s.h av (.bool r)
def LU (cf:CallF)(m:Nat):Prop:=∀(c0:Int) (r:Bool),fI.f m c0=some r→∀h xs,eY fq h xs [.int .u8 c0]→cf 114 xs h=some (.bool r,h)
section
variable {cf:CallF}{m:Nat}
theorem qG {aU:FuncId→cm}(ha:aU 114=xJ)  (c0:Int)(h:AHeap)(L:Mem)  (o:Has h (L)){out:Bool}(H:fI.f m c0=some out) :
  ∃r h',be Tryz.prog aU cf m 114 [.int .u8 c0] h=some (r,h')∧gu h' r (.bool out):=by
 refine aq (fn:=Tryz.f114) ha Tryz.func114 (by kernel_rfl) (by kernel_rfl) ?_
 refine aG (Q:=fun s=>fI.fin L out s) (fun _ _ h=>h) ?_
 have H:_=some out:=H
 unfold fI.f at H
 show dt _ cf xJ m _ ⟨[.int .u8 c0,.any],[],h⟩ _
 refine q1 <| qq ?_
 rcases dQ H with⟨c1,H⟩| ⟨c1,H⟩
 ·rcases dQ H with⟨c2,H⟩| ⟨c2,H⟩
  ·obtain rfl:=oi H
   exact qr [.b 2 c1,.b 6 c2] <| qt <| ⟨.inl rfl,cp (.bool true) h (ck (au))⟩
  ·rcases dQ H with⟨c3,H⟩| ⟨c3,H⟩
   ·rcases dQ H with⟨c4,H⟩| ⟨c4,H⟩
    ·obtain rfl:=oi H
     exact qr [.b 2 c1,.b 6 c2,.b 9 c3,.b 14 c4] <| qt <| ⟨.inl rfl,cp (.bool true) h (ck (au))⟩
    ·rcases dQ H with⟨c5,H⟩| ⟨c5,H⟩
     ·rcases dQ H with⟨c6,H⟩| ⟨c6,H⟩
      ·obtain rfl:=oi H
       exact qr [.b 2 c1,.b 6 c2,.b 9 c3,.b 14 c4,.b 17 c5,.b 22 c6] <| qt <| ⟨.inl rfl,cp (.bool true) h (ck (au))⟩
      ·obtain rfl:=oi H
       exact qr [.b 2 c1,.b 6 c2,.b 9 c3,.b 14 c4,.b 17 c5,.b 22 c6] <| qt <| ⟨.inl rfl,cp (.bool (c0==(95:Int))) h (ck (au))⟩
     ·obtain rfl:=oi H
      exact qr [.b 2 c1,.b 6 c2,.b 9 c3,.b 14 c4,.b 17 c5] <| qt <| ⟨.inl rfl,cp (.bool (c0==(95:Int))) h (ck (au))⟩
   ·rcases dQ H with⟨c7,H⟩| ⟨c7,H⟩
    ·rcases dQ H with⟨c8,H⟩| ⟨c8,H⟩
     ·obtain rfl:=oi H
      exact qr [.b 2 c1,.b 6 c2,.b 9 c3,.b 17 c7,.b 22 c8] <| qt <| ⟨.inl rfl,cp (.bool true) h (ck (au))⟩
     ·obtain rfl:=oi H
      exact qr [.b 2 c1,.b 6 c2,.b 9 c3,.b 17 c7,.b 22 c8] <| qt <| ⟨.inl rfl,cp (.bool (c0==(95:Int))) h (ck (au))⟩
    ·obtain rfl:=oi H
     exact qr [.b 2 c1,.b 6 c2,.b 9 c3,.b 17 c7] <| qt <| ⟨.inl rfl,cp (.bool (c0==(95:Int))) h (ck (au))⟩
 ·rcases dQ H with⟨c9,H⟩| ⟨c9,H⟩
  ·rcases dQ H with⟨xK,H⟩| ⟨xK,H⟩
   ·obtain rfl:=oi H
    exact qr [.b 2 c1,.b 9 c9,.b 14 xK] <| qt <| ⟨.inl rfl,cp (.bool true) h (ck (au))⟩
   ·rcases dQ H with⟨pA,H⟩| ⟨pA,H⟩
    ·rcases dQ H with⟨rY,H⟩| ⟨rY,H⟩
     ·obtain rfl:=oi H
      exact qr [.b 2 c1,.b 9 c9,.b 14 xK,.b 17 pA,.b 22 rY] <| qt <| ⟨.inl rfl,cp (.bool true) h (ck (au))⟩
     ·obtain rfl:=oi H
      exact qr [.b 2 c1,.b 9 c9,.b 14 xK,.b 17 pA,.b 22 rY] <| qt <| ⟨.inl rfl,cp (.bool (c0==(95:Int))) h (ck (au))⟩
    ·obtain rfl:=oi H
     exact qr [.b 2 c1,.b 9 c9,.b 14 xK,.b 17 pA] <| qt <| ⟨.inl rfl,cp (.bool (c0==(95:Int))) h (ck (au))⟩
  ·rcases dQ H with⟨tX,H⟩| ⟨tX,H⟩
   ·rcases dQ H with⟨rZ,H⟩| ⟨rZ,H⟩
    ·obtain rfl:=oi H
     exact qr [.b 2 c1,.b 9 c9,.b 17 tX,.b 22 rZ] <| qt <| ⟨.inl rfl,cp (.bool true) h (ck (au))⟩
    ·obtain rfl:=oi H
     exact qr [.b 2 c1,.b 9 c9,.b 17 tX,.b 22 rZ] <| qt <| ⟨.inl rfl,cp (.bool (c0==(95:Int))) h (ck (au))⟩
   ·obtain rfl:=oi H
    exact qr [.b 2 c1,.b 9 c9,.b 17 tX] <| qt <| ⟨.inl rfl,cp (.bool (c0==(95:Int))) h (ck (au))⟩
end
end Go.Proofs.YtmekcfdllhphlaaGreatDoor
namespace Go.Proofs.YtmekcfdllhphlaaGreatDoor
open Go Go.R
open Go.IntKind (i64 u64 u8 u32)
def tY:cm:=gI [0,1,2,6,7,27,29,30,31,37] [] [1016,990,1015,830,574,814,318,1015,830,1015] [] []
def cU.l0 (m:Nat)(s0:ByteArray):Nat→Int→Option (Sum Bool (Int))
 | 0,_=>none
 | k+1,x0=>if (decide (x0<(s0.size:Int)))=true then ((bt s0 x0).bind fun v2=>(fI.f m v2).bind fun x1=>if (!x1)=true then (some (.inl false)) else (cU.l0 m s0 k (i64.wrap (x0+(1:Int))))) else (some (.inr x0))
def cU.f (m:Nat)(s0:ByteArray)(kJ:Int)(nN:Int):Option (Bool):=if (decide ((s0.size:Int)<(1:Int)))=true then (some false) else (if (decide ((s0.size:Int) > (16:Int)))=true then (some false) else ((bt s0 (0:Int)).bind fun v0=>if (decide (v0<kJ))=true then (some false) else ((bt s0 (0:Int)).bind fun v1=>if (decide (v1 > nN))=true then (some false) else ((cU.l0 m s0 m (0:Int)).bind fun bg=>match bg with | .inl r0=>some r0 | .inr x2=>some true))))
def cU.fin (L:Mem)(r:Bool)(s:St):Prop:=∃av,aH Tryz.prog (s.open tY) Tryz.f106.results.toList=some av∧gu s.h av (.bool r)
def Oq (cf:CallF)(m:Nat):Prop:=∀(s0:ByteArray) (kJ:Int) (nN:Int) (r:Bool),cU.f m s0 kJ nN=some r→∀h xs,eY fq h xs [.str s0,.int .u8 kJ,.int .u8 nN]→cf 106 xs h=some (.bool r,h)
section
variable {cf:CallF}{m:Nat}
theorem cU.bP (L:Mem)(s0:ByteArray)  (Gv:LU cf m):bL Tryz.prog cf tY m (sub [1,1,0,1,0,0] (codeOf Tryz.f106)) (fun k (σ:Int)=>cU.l0 m s0 k σ) (fun σ s=>match σ with | x0=>∃h0,s=⟨.str s0::rV [.int .i64 (s0.size:Int),.int .i64 x0,.any,.any],[],h0⟩∧Has h0 (L)) (fun out e s=>(e = .exit 0∧∃x0,.inr x0=out∧∃lP LV LW LX h0,s=⟨lP::rV [LV,LW,LX,.any],[],h0⟩∧Has h0 (L))∨(e = .ret∧∃r,.inl r=out∧cU.fin L r s)):=by
 refine ig (fun _=>rfl) ?_
 rintro k x0 s out ⟨h0,rfl,o0⟩ H
 have H:cU.l0 m s0 (k+1) x0=some out:=H
 refine q1 <| qq <| qc H (fun c7 H=>?_) (fun c7 H=>?_)
 ·refine qk <| qq <| qb 1 <| qq <| q0 <| qq ?_
  obtain⟨v2,e2,H⟩:=aI H
  obtain⟨x1,e3,H⟩:=aI H
  refine qr [.v 2 (mK (k:=.i64) U9 e2),.a 3 (Gv _ _ e3 h0 _ (ia (ae (aN) (aB))))] <| qc H (fun c8 H=>?_) (fun c8 H=>?_)
  ·exact q1 <| qt <| Zx (⟨rfl,_,oi H,cp (.bool false) h0 (ck (au))⟩)
  ·exact qk <| q0 <| ⟨i64.wrap (x0+(1:Int)),⟨h0,by kernel_rfl,o0⟩,H⟩
 ·exact qx 0 <| Or.inl (⟨rfl,x0,oi H,.str s0,.int .i64 (s0.size:Int),.int .i64 x0,.bool (decide (x0<(s0.size:Int))),h0,by kernel_rfl,o0⟩)
theorem tZ {aU:FuncId→cm}(ha:aU 106=tY)(Gv:LU cf m)(s0:ByteArray)(kJ:Int)(nN:Int)(h:AHeap)(L:Mem)  (o:Has h (L)){out:Bool}(H:cU.f m s0 kJ nN=some out) :
  ∃r h',be Tryz.prog aU cf m 106 [.str s0,.int .u8 kJ,.int .u8 nN] h=some (r,h')∧gu h' r (.bool out):=by
 refine aq (fn:=Tryz.f106) ha Tryz.func106 (by kernel_rfl) (by kernel_rfl) ?_
 refine aG (Q:=fun s=>cU.fin L out s) (fun _ _ h=>h) ?_
 have H:_=some out:=H
 unfold cU.f at H
 show dt _ cf tY m _ ⟨.str s0 :: .int .u8 kJ :: .int .u8 nN::E1 [],[],h⟩ _
 refine q1 <| qq <| qq ?_
 rcases dQ H with⟨c0,H⟩| ⟨c0,H⟩
 ·obtain rfl:=oi H
  exact qr [.b 3 c0] <| wk <| qq <| q0 <| qt <| ⟨.inl rfl,cp (.bool false) h (ck (au))⟩
 ·rcases dQ H with⟨c2,H⟩| ⟨c2,H⟩
  ·obtain rfl:=oi H
   exact qr [.b 3 c0,.b 8 c2] <| wk <| qq <| q0 <| qt <| ⟨.inl rfl,cp (.bool false) h (ck (au))⟩
  ·obtain⟨v0,e0,H⟩:=aI H
   rcases dQ H with⟨c4,H⟩| ⟨c4,H⟩
   ·obtain rfl:=oi H
    exact qr [.b 3 c0,.b 8 c2,.v 10 (mK (k:=.i64) U9 e0),.b 14 c4] <| wk <| qq <| q0 <| qt <| ⟨.inl rfl,cp (.bool false) h (ck (au))⟩
   ·obtain⟨v1,e1,H⟩:=aI H
    refine qr [.b 3 c0,.b 8 c2,.v 10 (mK (k:=.i64) U9 e0),.b 14 c4,.v 16 (mK (k:=.i64) U9 e1)] <| qc H (fun c6 H=>?_) (fun c6 H=>?_)
    ·obtain rfl:=oi H
     exact q1 <| qt <| ⟨.inl rfl,cp (.bool false) h (ck (au))⟩
    ·refine qk <| qq <| qq <| q0 <| qb 0 ?_
     obtain⟨bg,e4,H⟩:=aI H
     refine ql (cU.bP L s0  Gv (0:Int) _ _ ⟨h,by kernel_rfl,o⟩ e4) ?_
     rintro e s (⟨rfl,x2,rfl,g0,g1,g2,g3,h1,rfl,o1⟩| ⟨rfl,r0,rfl,ov⟩)
     ·try dsimp only at H
      obtain rfl:=oi H
      exact q1 <| qt <| ⟨.inl rfl,cp (.bool true) h1 (ck (au))⟩
     ·try dsimp only at H
      obtain rfl:=oi H
      exact⟨.inl rfl,ov⟩
end
end Go.Proofs.YtmekcfdllhphlaaGreatDoor
namespace Go.Proofs.YtmekcfdllhphlaaGreatDoor
open Go Go.R
open Go.IntKind (i64 u64 u8 u32)
def CE:cm:=gI [0,2] [] [2,1] [] []
def gU.f (m:Nat)(s0:ByteArray):Option (Bool):=if (s0.data.toList==(YM #[124]).data.toList)=true then (some true) else (if (s0.data.toList==(YM #[35]).data.toList)=true then (some true) else ((cU.f m s0 (97:Int) (122:Int)).bind fun x0=>some x0))
def gU.fin (L:Mem)(r:Bool)(s:St):Prop:=∃av,aH Tryz.prog (s.open CE) Tryz.f93.results.toList=some av∧gu s.h av (.bool r)
def T6 (cf:CallF)(m:Nat):Prop:=∀(s0:ByteArray) (r:Bool),gU.f m s0=some r→∀h xs,eY fq h xs [.str s0]→cf 93 xs h=some (.bool r,h)
section
variable {cf:CallF}{m:Nat}
theorem ub {aU:FuncId→cm}(ha:aU 93=CE)(Ot:Oq cf m)(s0:ByteArray)(h:AHeap)(L:Mem)  (o:Has h (L)){out:Bool}(H:gU.f m s0=some out) :
  ∃r h',be Tryz.prog aU cf m 93 [.str s0] h=some (r,h')∧gu h' r (.bool out):=by
 refine aq (fn:=Tryz.f93) ha Tryz.func93 (by kernel_rfl) (by kernel_rfl) ?_
 refine aG (Q:=fun s=>gU.fin L out s) (fun _ _ h=>h) ?_
 have H:_=some out:=H
 unfold gU.f at H
 show dt _ cf CE m _ ⟨[.str s0,.any],[],h⟩ _
 refine q1 <| qq ?_
 rcases dQ H with⟨c0,H⟩| ⟨c0,H⟩
 ·obtain rfl:=oi H
  exact qr [.b 2 c0] <| qt <| ⟨.inl rfl,cp (.bool true) h (ck (au))⟩
 ·rcases dQ H with⟨c1,H⟩| ⟨c1,H⟩
  ·obtain rfl:=oi H
   exact qr [.b 2 c0,.b 6 c1] <| qt <| ⟨.inl rfl,cp (.bool true) h (ck (au))⟩
  ·obtain⟨x0,e0,H⟩:=aI H
   obtain rfl:=oi H
   exact qr [.b 2 c0,.b 6 c1,.a 8 (Ot _ _ _ _ e0 h _ (ia (ae (b7) (ae (aN) (ae (aN) (aB))))))] <| qt <| ⟨.inl rfl,cp (.bool x0) h (ck (au))⟩
end
end Go.Proofs.YtmekcfdllhphlaaGreatDoor
namespace Go.Proofs.YtmekcfdllhphlaaGreatDoor
open Go Go.R
open Go.IntKind (i64 u64 u8 u32)
def uc:cm:=gI [0,1,4,5,7,8,9,16] [] [252,204,140,196,68,251,204,251] [] []
def eL.l0 (m:Nat)(s0:List Int)(f0:Int→Option (Bool)):Nat→Int→Option (Sum Int (Int))
 | 0,_=>none
 | k+1,x0=>if (decide (x0<(s0.length:Int)))=true then ((ix s0 x0).bind fun v0=>(f0 v0).bind fun r0=>if r0=true then (some (.inl x0)) else (eL.l0 m s0 f0 k (i64.wrap (x0+(1:Int))))) else (some (.inr x0))
def eL.f (m:Nat)(s0:List Int)(f0:Int→Option (Bool)):Option (Int):=(eL.l0 m s0 f0 m (0:Int)).bind fun bg=>match bg with | .inl r1=>some r1 | .inr x1=>some (-1:Int)
def eL.fin (h:AHeap)(r:Int)(s:St):Prop:=aH Tryz.prog (s.open uc) Tryz.f107.results.toList=some (.int .i64 r)∧s.h=h
def Ou (cf:CallF)(m:Nat):Prop:=∀(s0:List Int) (f0:Int→Option (Bool)) (r:Int),eL.f m s0 f0=some r→∀h,0<h.next→∀(dC:FuncId) (aL:List AV),ay (.fn dC aL) = .fn dC aL→(∀(a0:Int) r,f0 a0=some r→cf dC ([.int .i64 a0]++aL) h=some (.bool r,h))→∀xs,xs.map ay=[aa.fz s0,.fn dC aL]→cf 107 xs h=some (.int .i64 r,h)
section
variable {cf:CallF}{m:Nat}
theorem eL.bP (h:AHeap)(L:Mem)(dC:FuncId)(aL:List AV)(s0:List Int)(f0:Int→Option (Bool))  (gV:ay (.fn dC aL) = .fn dC aL)(hU:∀(a0:Int) r,f0 a0=some r→cf dC ([.int .i64 a0]++aL) h=some (.bool r,h))  : bL Tryz.prog cf uc m (sub [1,0,1,0,0] (codeOf Tryz.f107)) (fun k (σ:Int)=>eL.l0 m s0 f0 k σ) (fun σ s=>match σ with | x0=>s=⟨[aa.fz s0,.fn dC aL,.any,.any,.int .i64 (s0.length:Int),.int .i64 x0,.any,.any],[],h⟩∧Has h (L)) (fun out e s=>(e = .exit 0∧∃x0,.inr x0=out∧∃lP vm xL r6 ud,s=⟨[lP,vm,.any,.any,xL,r6,ud,.any],[],h⟩∧Has h (L))∨(e = .ret∧∃r,.inl r=out∧eL.fin h r s)):=by
 refine ig (fun _=>rfl) ?_
 rintro k x0 s out ⟨rfl,o0⟩ H
 have H:eL.l0 m s0 f0 (k+1) x0=some out:=H
 refine q1 <| qq <| qc H (fun c0 H=>?_) (fun c0 H=>?_)
 ·refine qk <| qq <| qb 1 <| qq <| q0 <| qq ?_
  obtain⟨v0,e0,H⟩:=aI H
  obtain⟨r0,e1,H⟩:=aI H
  refine qr [.v 3 (bI (k:=.i64) (E:=aa) (l:=s0) dJ e0),.v 4 (dv  (E:=aa) (l:=s0) h A3 e0 rfl),.a 5 (hU _ _ e1)] <| qc H (fun c1 H=>?_) (fun c1 H=>?_)
  ·exact q1 <| qt <| Zx (⟨rfl,_,oi H,⟨by kernel_rfl,by kernel_rfl⟩⟩)
  ·exact qk <| q0 <| ⟨i64.wrap (x0+(1:Int)),⟨by kernel_rfl,o0⟩,H⟩
 ·exact qx 0 <| Or.inl (⟨rfl,x0,oi H,aa.fz s0,.fn dC aL,.int .i64 (s0.length:Int),.int .i64 x0,.bool (decide (x0<(s0.length:Int))),by kernel_rfl,o0⟩)
theorem xM {aU:FuncId→cm}(ha:aU 107=uc)  (s0:List Int)(f0:Int→Option (Bool))(h:AHeap)(L:Mem)(dC:FuncId)(aL:List AV)  (gV:ay (.fn dC aL) = .fn dC aL)(hU:∀(a0:Int) r,f0 a0=some r→cf dC ([.int .i64 a0]++aL) h=some (.bool r,h))(o:Has h (L)){out:Int}(H:eL.f m s0 f0=some out) :
  ∃r h',be Tryz.prog aU cf m 107 [aa.fz s0,.fn dC aL] h=some (r,h')∧r=(.int .i64 out)∧h'=h:=by
 refine aq (fn:=Tryz.f107) ha Tryz.func107 (by kernel_rfl) (by kernel_rfl) ?_
 refine aG (Q:=fun s=>eL.fin h out s) (fun _ _ ⟨h1,h2,h3⟩=>⟨h1,_,h2,rfl,h3⟩) ?_
 have H:_=some out:=H
 unfold eL.f at H
 show dt _ cf uc m _ ⟨aa.fz s0 :: .fn dC aL::Gh [],[],h⟩ _
 refine q1 <| qq <| qq <| q0 <| qb 0 ?_
 obtain⟨bg,e2,H⟩:=aI H
 refine ql (eL.bP h L dC aL s0 f0  gV hU  (0:Int) _ _ ⟨by kernel_rfl,o⟩ e2) ?_
 rintro e s (⟨rfl,x1,rfl,g0,g1,g2,g3,g4,rfl,o1⟩| ⟨rfl,r1,rfl,ov⟩)
 ·try dsimp only at H
  obtain rfl:=oi H
  exact q1 <| qt <| ⟨.inl rfl,⟨by kernel_rfl,by kernel_rfl⟩⟩
 ·try dsimp only at H
  obtain rfl:=oi H
  exact⟨.inl rfl,ov⟩
end
end Go.Proofs.YtmekcfdllhphlaaGreatDoor
namespace Go.Proofs.YtmekcfdllhphlaaGreatDoor
open Go Go.R
open Go.IntKind (i64 u64 u8 u32)
def CF:cm:=gI [0,1,4] [] [4,3] [] []
def gK.f (m:Nat)(s0:List Int)(f0:Int→Option (Bool)):Option (Bool):=(eL.f m s0 f0).bind fun x0=>some (decide (x0≥(0:Int)))
def gK.fin (h:AHeap)(r:Bool)(s:St):Prop:=aH Tryz.prog (s.open CF) Tryz.f94.results.toList=some (.bool r)∧s.h=h
def T7 (cf:CallF)(m:Nat):Prop:=∀(s0:List Int) (f0:Int→Option (Bool)) (r:Bool),gK.f m s0 f0=some r→∀h,0<h.next→∀(dC:FuncId) (aL:List AV),ay (.fn dC aL) = .fn dC aL→(∀(a0:Int) r,f0 a0=some r→cf dC ([.int .i64 a0]++aL) h=some (.bool r,h))→∀xs,xs.map ay=[aa.fz s0,.fn dC aL]→cf 94 xs h=some (.bool r,h)
section
variable {cf:CallF}{m:Nat}
theorem r7 {aU:FuncId→cm}(ha:aU 94=CF)(Ov:Ou cf m)(s0:List Int)(f0:Int→Option (Bool))(h:AHeap)(L:Mem)(dC:FuncId)(aL:List AV)  (gV:ay (.fn dC aL) = .fn dC aL)(hU:∀(a0:Int) r,f0 a0=some r→cf dC ([.int .i64 a0]++aL) h=some (.bool r,h))(o:Has h (L)){out:Bool}(H:gK.f m s0 f0=some out) :
  ∃r h',be Tryz.prog aU cf m 94 [aa.fz s0,.fn dC aL] h=some (r,h')∧r=(.bool out)∧h'=h:=by
 refine aq (fn:=Tryz.f94) ha Tryz.func94 (by kernel_rfl) (by kernel_rfl) ?_
 refine aG (Q:=fun s=>gK.fin h out s) (fun _ _ ⟨h1,h2,h3⟩=>⟨h1,_,h2,rfl,h3⟩) ?_
 have H:_=some out:=H
 unfold gK.f at H
 show dt _ cf CF m _ ⟨[aa.fz s0,.fn dC aL,.any],[],h⟩ _
 refine q1 <| qq ?_
 obtain⟨x0,e0,H⟩:=aI H
 obtain rfl:=oi H
 exact qr [.a 2 (Ov _ _ _ e0 h (Has.pos o) dC aL gV hU _ (ak (aR (iE (E:=aa))) (ak (gV) (bn))))] <| qt <| ⟨.inl rfl,⟨by kernel_rfl,by kernel_rfl⟩⟩
end
end Go.Proofs.YtmekcfdllhphlaaGreatDoor
namespace Go.Proofs.YtmekcfdllhphlaaGreatDoor
open Go Go.R
open Go.IntKind (i64 u64 u8 u32)
def CG:cm:=gI [0,1,3] [] [4,3] [] []
def gL.f (m:Nat)(a0:Int)(x0:Int):Option (Bool):=if (decide (a0<(0:Int)))=true then (some true) else (some (decide (a0≥x0)))
def gL.fin (h:AHeap)(r:Bool)(s:St):Prop:=aH Tryz.prog (s.open CG) Tryz.f95.results.toList=some (.bool r)∧s.h=h
def T8 (cf:CallF)(m:Nat):Prop:=∀(a0:Int) (x0:Int) (r:Bool),gL.f m a0 x0=some r→∀h L (eM bV:Nat),Has h L→L[eM]? = some (bV,.ob [.int .i64 x0])→cf 95 [.int .i64 a0,.ptr bV 0] h=some (.bool r,h)
section
variable {cf:CallF}{m:Nat}
theorem qH {aU:FuncId→cm}(ha:aU 95=CG)  (a0:Int)(x0:Int)(h:AHeap)(L:Mem)  {eM bV:Nat}(gj:L[eM]? = some (bV,.ob [.int .i64 x0]))(o:Has h (L)){out:Bool}(H:gL.f m a0 x0=some out) :
  ∃r h',be Tryz.prog aU cf m 95 [.int .i64 a0,.ptr bV 0] h=some (r,h')∧r=(.bool out)∧h'=h:=by
 refine aq (fn:=Tryz.f95) ha Tryz.func95 (by kernel_rfl) (by kernel_rfl) ?_
 refine aG (Q:=fun s=>gL.fin h out s) (fun _ _ ⟨h1,h2,h3⟩=>⟨h1,_,h2,rfl,h3⟩) ?_
 have H:_=some out:=H
 unfold gL.f at H
 show dt _ cf CG m _ ⟨[.int .i64 a0,.ptr bV 0,.any],[],h⟩ _
 refine q1 <| qq ?_
 rcases dQ H with⟨c0,H⟩| ⟨c0,H⟩
 ·obtain rfl:=oi H
  exact qr [.b 2 c0] <| qt <| ⟨.inl rfl,⟨by kernel_rfl,by kernel_rfl⟩⟩
 ·obtain rfl:=oi H
  exact qr [.b 2 c0,.v 4 (show bo Tryz.prog h 3 (.ptr bV 0)=some (.int .i64 x0) from cn (q:=eM) (cs:=[.int .i64 x0]) o gj (by kernel_rfl))] <| qt <| ⟨.inl rfl,⟨by kernel_rfl,by kernel_rfl⟩⟩
end
end Go.Proofs.YtmekcfdllhphlaaGreatDoor
namespace Go.Proofs.YtmekcfdllhphlaaGreatDoor
open Go Go.R
open Go.IntKind (i64 u64 u8 u32)
def CH:cm:=gI [0,2] [] [2,1] [] []
def gM.f (m:Nat)(s0:ByteArray):Option (Bool):=if (s0.data.toList==(YM #[112,114,111,99]).data.toList)=true then (some true) else (if (s0.data.toList==(YM #[99,101,108,108]).data.toList)=true then (some true) else (some (s0.data.toList==(YM #[112,111,114,116]).data.toList)))
def gM.fin (L:Mem)(r:Bool)(s:St):Prop:=∃av,aH Tryz.prog (s.open CH) Tryz.f96.results.toList=some av∧gu s.h av (.bool r)
def T9 (cf:CallF)(m:Nat):Prop:=∀(s0:ByteArray) (r:Bool),gM.f m s0=some r→∀h xs,eY fq h xs [.str s0]→cf 96 xs h=some (.bool r,h)
section
variable {cf:CallF}{m:Nat}
theorem r8 {aU:FuncId→cm}(ha:aU 96=CH)  (s0:ByteArray)(h:AHeap)(L:Mem)  (o:Has h (L)){out:Bool}(H:gM.f m s0=some out) :
  ∃r h',be Tryz.prog aU cf m 96 [.str s0] h=some (r,h')∧gu h' r (.bool out):=by
 refine aq (fn:=Tryz.f96) ha Tryz.func96 (by kernel_rfl) (by kernel_rfl) ?_
 refine aG (Q:=fun s=>gM.fin L out s) (fun _ _ h=>h) ?_
 have H:_=some out:=H
 unfold gM.f at H
 show dt _ cf CH m _ ⟨[.str s0,.any],[],h⟩ _
 refine q1 <| qq ?_
 rcases dQ H with⟨c0,H⟩| ⟨c0,H⟩
 ·obtain rfl:=oi H
  exact qr [.b 2 c0] <| qt <| ⟨.inl rfl,cp (.bool true) h (ck (au))⟩
 ·rcases dQ H with⟨c1,H⟩| ⟨c1,H⟩
  ·obtain rfl:=oi H
   exact qr [.b 2 c0,.b 6 c1] <| qt <| ⟨.inl rfl,cp (.bool true) h (ck (au))⟩
  ·obtain rfl:=oi H
   exact qr [.b 2 c0,.b 6 c1] <| qt <| ⟨.inl rfl,cp (.bool (s0.data.toList==(YM #[112,111,114,116]).data.toList)) h (ck (au))⟩
end
end Go.Proofs.YtmekcfdllhphlaaGreatDoor
namespace Go.Proofs.YtmekcfdllhphlaaGreatDoor
open Go Go.R
open Go.IntKind (i64 u64 u8 u32)
def CI:cm:=gI [0,1,2,3,4,6,7,23,44,60,89] [2] [2035,2003,1939,2031,1875,2031,1747,2031,1491,2031,1019,2031,2031] [] []
def iF.f (m:Nat)(n0:ab)(mM:Int):Option (Bool):=if (n0.kind==(0:Int))=true then (if (decide (n0.int≥(0:Int)))=true then (if (n0.label.data.toList==(YM #[]).data.toList)=true then (some ((n0.args.length:Int)==(0:Int))) else (some false)) else (some false)) else (if (n0.kind==(1:Int))=true then (if (decide (n0.int≥(-1099511627776:Int)))=true then (if (decide (n0.int≤(1099511627776:Int)))=true then (if (n0.label.data.toList==(YM #[]).data.toList)=true then (some ((n0.args.length:Int)==(0:Int))) else (some false)) else (some false)) else (some false)) else (if (n0.kind==(2:Int))=true then (if (n0.int==(0:Int))=true then ((gU.f m n0.label).bind fun x0=>if x0=true then (some ((n0.args.length:Int)==(0:Int))) else (some false)) else (some false)) else (if (n0.kind==(3:Int))=true then (if (n0.int==(0:Int))=true then ((gU.f m n0.label).bind fun x1=>if x1=true then (if (decide ((n0.args.length:Int)≥(1:Int)))=true then (if (decide ((n0.args.length:Int)≤(8:Int)))=true then ((gK.f m n0.args (fun y0=>gL.f m y0 mM)).bind fun x2=>some (!x2)) else (some false)) else (some false)) else (some false)) else (some false)) else (if (n0.kind==(4:Int))=true then (if (decide (n0.int≥(0:Int)))=true then ((gM.f m n0.label).bind fun x3=>if x3=true then (some ((n0.args.length:Int)==(0:Int))) else (some false)) else (some false)) else (some false)))))
def iF.fin (L:Mem)(r:Bool)(s:St):Prop:=∃av,aH Tryz.prog (s.open CI) Tryz.f76.results.toList=some av∧gu s.h av (.bool r)
def Ua (cf:CallF)(m:Nat):Prop:=∀(n0:ab) (mM:Int) (r:Bool),iF.f m n0 mM=some r→∀h xs,eY fq h xs [.agg [.int .i64 n0.kind,.int .i64 n0.int,.str n0.label,aa.fz n0.args],.int .i64 mM]→cf 76 xs h=some (.bool r,h)
section
variable {cf:CallF}{m:Nat}
theorem uf {aU:FuncId→cm}(ha:aU 76=CI)(El:T6 cf m)(Rm:T7 cf m)(Rn:T8 cf m)(Ow:T9 cf m)(n0:ab)(mM:Int)(h:AHeap)(L:Mem)  (o:Has h (L)){out:Bool}(H:iF.f m n0 mM=some out) :
  ∃r h',be Tryz.prog aU cf m 76 [.agg [.int .i64 n0.kind,.int .i64 n0.int,.str n0.label,aa.fz n0.args],.int .i64 mM] h=some (r,h')∧gu h' r (.bool out):=by
 refine aq (fn:=Tryz.f76) ha Tryz.func76 (by kernel_rfl) (by kernel_rfl) ?_
 refine aG (Q:=fun s=>iF.fin L out s) (fun _ _ h=>h) ?_
 have H:_=some out:=H
 unfold iF.f at H
 show dt _ cf CI m _ ⟨.agg [.int .i64 n0.kind,.int .i64 n0.int,.str n0.label,aa.fz n0.args] :: .int .i64 mM::Ee [],[none],h⟩ _
 refine qq ?_
 obtain⟨az,h0,e0,o0⟩:=kI (cs:=[.int .i64 mM]) o (by kernel_rfl)
 refine qr [.a 1 e0] <| qq <| qq <| q0 <| qb 0 <| qq <| q0 <| qc H (fun c0 H=>?_) (fun c0 H=>?_)
 ·refine qq ?_
  rcases dQ H with⟨c1,H⟩| ⟨c1,H⟩
  ·rcases dQ H with⟨c2,H⟩| ⟨c2,H⟩
   ·refine qr [.b 3 c1,.b 8 c2] ?_
    have o1:Has h0 (L):=Has.del o0 0
    obtain rfl:=oi H
    exact qt <| ⟨.inl rfl,cp (.bool ((n0.args.length:Int)==(0:Int))) h0 (ck (au))⟩
   ·refine qr [.b 3 c1,.b 8 c2] ?_
    have o2:Has h0 (L):=Has.del o0 0
    obtain rfl:=oi H
    exact qt <| ⟨.inl rfl,cp (.bool false) h0 (ck (au))⟩
  ·refine qr [.b 3 c1] ?_
   have o3:Has h0 (L):=Has.del o0 0
   obtain rfl:=oi H
   exact qt <| ⟨.inl rfl,cp (.bool false) h0 (ck (au))⟩
 ·refine q1 <| qc H (fun c3 H=>?_) (fun c3 H=>?_)
  ·refine qq ?_
   rcases dQ H with⟨c4,H⟩| ⟨c4,H⟩
   ·rcases dQ H with⟨c5,H⟩| ⟨c5,H⟩
    ·rcases dQ H with⟨c6,H⟩| ⟨c6,H⟩
     ·refine qr [.b 3 c4,.b 8 c5,.b 13 c6] ?_
      have o4:Has h0 (L):=Has.del o0 0
      obtain rfl:=oi H
      exact qt <| ⟨.inl rfl,cp (.bool ((n0.args.length:Int)==(0:Int))) h0 (ck (au))⟩
     ·refine qr [.b 3 c4,.b 8 c5,.b 13 c6] ?_
      have o5:Has h0 (L):=Has.del o0 0
      obtain rfl:=oi H
      exact qt <| ⟨.inl rfl,cp (.bool false) h0 (ck (au))⟩
    ·refine qr [.b 3 c4,.b 8 c5] ?_
     have o6:Has h0 (L):=Has.del o0 0
     obtain rfl:=oi H
     exact qt <| ⟨.inl rfl,cp (.bool false) h0 (ck (au))⟩
   ·refine qr [.b 3 c4] ?_
    have o7:Has h0 (L):=Has.del o0 0
    obtain rfl:=oi H
    exact qt <| ⟨.inl rfl,cp (.bool false) h0 (ck (au))⟩
  ·refine q1 <| qc H (fun c7 H=>?_) (fun c7 H=>?_)
   ·refine qq ?_
    rcases dQ H with⟨c8,H⟩| ⟨c8,H⟩
    ·obtain⟨x0,e1,H⟩:=aI H
     rcases dQ H with⟨c9,H⟩| ⟨c9,H⟩
     ·refine qr [.b 3 c8,.a 6 (El _ _ e1 h0 _ (ia (ae (b7) (aB)))),.b 8 c9] ?_
      have o8:Has h0 (L):=Has.del o0 0
      obtain rfl:=oi H
      exact qt <| ⟨.inl rfl,cp (.bool ((n0.args.length:Int)==(0:Int))) h0 (ck (au))⟩
     ·refine qr [.b 3 c8,.a 6 (El _ _ e1 h0 _ (ia (ae (b7) (aB)))),.b 8 c9] ?_
      have o9:Has h0 (L):=Has.del o0 0
      obtain rfl:=oi H
      exact qt <| ⟨.inl rfl,cp (.bool false) h0 (ck (au))⟩
    ·refine qr [.b 3 c8] ?_
     have vo:Has h0 (L):=Has.del o0 0
     obtain rfl:=oi H
     exact qt <| ⟨.inl rfl,cp (.bool false) h0 (ck (au))⟩
   ·refine q1 <| qc H (fun xK H=>?_) (fun xK H=>?_)
    ·refine qq ?_
     rcases dQ H with⟨pA,H⟩| ⟨pA,H⟩
     ·obtain⟨x1,e2,H⟩:=aI H
      rcases dQ H with⟨rY,H⟩| ⟨rY,H⟩
      ·rcases dQ H with⟨tX,H⟩| ⟨tX,H⟩
       ·rcases dQ H with⟨rZ,H⟩| ⟨rZ,H⟩
        ·obtain⟨x2,e3,H⟩:=aI H
         refine qr [.b 3 pA,.a 6 (El _ _ e2 h0 _ (ia (ae (b7) (aB)))),.b 8 rY,.b 14 tX,.b 20 rZ,.a 24 (Rm _ _ _ e3 h0 (Has.pos o0) 95 [.ptr az 0] rfl (fun y0 r hr=>Rn y0 _ r hr h0 _ 0 _ o0 rfl) _ (ak (aR (iE (E:=aa))) (ak ((rfl:ay (.fn 95 [.ptr az 0])=_)) (bn))))] ?_
         have wq:Has h0 (L):=Has.del o0 0
         obtain rfl:=oi H
         exact qt <| ⟨.inl rfl,cp (.bool (!x2)) h0 (ck (au))⟩
        ·refine qr [.b 3 pA,.a 6 (El _ _ e2 h0 _ (ia (ae (b7) (aB)))),.b 8 rY,.b 14 tX,.b 20 rZ] ?_
         have ug:Has h0 (L):=Has.del o0 0
         obtain rfl:=oi H
         exact qt <| ⟨.inl rfl,cp (.bool false) h0 (ck (au))⟩
       ·refine qr [.b 3 pA,.a 6 (El _ _ e2 h0 _ (ia (ae (b7) (aB)))),.b 8 rY,.b 14 tX] ?_
        have mg:Has h0 (L):=Has.del o0 0
        obtain rfl:=oi H
        exact qt <| ⟨.inl rfl,cp (.bool false) h0 (ck (au))⟩
      ·refine qr [.b 3 pA,.a 6 (El _ _ e2 h0 _ (ia (ae (b7) (aB)))),.b 8 rY] ?_
       have zx:Has h0 (L):=Has.del o0 0
       obtain rfl:=oi H
       exact qt <| ⟨.inl rfl,cp (.bool false) h0 (ck (au))⟩
     ·refine qr [.b 3 pA] ?_
      have AA:Has h0 (L):=Has.del o0 0
      obtain rfl:=oi H
      exact qt <| ⟨.inl rfl,cp (.bool false) h0 (ck (au))⟩
    ·refine q1 ?_
     have ml:Has h0 (L):=Has.del o0 0
     refine qc H (fun CJ H=>?_) (fun CJ H=>?_)
     ·refine qq ?_
      rcases dQ H with⟨E3,H⟩| ⟨E3,H⟩
      ·obtain⟨x3,e4,H⟩:=aI H
       rcases dQ H with⟨Em,H⟩| ⟨Em,H⟩
       ·obtain rfl:=oi H
        exact qr [.b 3 E3,.a 6 (Ow _ _ e4 h0 _ (ia (ae (b7) (aB)))),.b 8 Em] <| qt <| ⟨.inl rfl,cp (.bool ((n0.args.length:Int)==(0:Int))) h0 (ck (au))⟩
       ·obtain rfl:=oi H
        exact qr [.b 3 E3,.a 6 (Ow _ _ e4 h0 _ (ia (ae (b7) (aB)))),.b 8 Em] <| qt <| ⟨.inl rfl,cp (.bool false) h0 (ck (au))⟩
      ·obtain rfl:=oi H
       exact qr [.b 3 E3] <| qt <| ⟨.inl rfl,cp (.bool false) h0 (ck (au))⟩
     ·obtain rfl:=oi H
      exact qk <| qq <| q0 <| qt <| ⟨.inl rfl,cp (.bool false) h0 (ck (au))⟩
end
end Go.Proofs.YtmekcfdllhphlaaGreatDoor
namespace Go.Proofs.YtmekcfdllhphlaaGreatDoor
open Go Go.R
open Go.IntKind (i64 u64 u8 u32)
def zy:cm:=gI [0,1,4,5,7,8,9,16] [] [252,204,140,196,68,251,204,251] [] []
def eN.l0 (m:Nat)(s0:List ab)(f0:ab→Option (Bool)):Nat→Int→Option (Sum Int (Int))
 | 0,_=>none
 | k+1,x0=>if (decide (x0<(s0.length:Int)))=true then ((ix s0 x0).bind fun v0=>(f0 v0).bind fun r0=>if r0=true then (some (.inl x0)) else (eN.l0 m s0 f0 k (i64.wrap (x0+(1:Int))))) else (some (.inr x0))
def eN.f (m:Nat)(s0:List ab)(f0:ab→Option (Bool)):Option (Int):=(eN.l0 m s0 f0 m (0:Int)).bind fun bg=>match bg with | .inl r1=>some r1 | .inr x1=>some (-1:Int)
def eN.fin (h:AHeap)(r:Int)(s:St):Prop:=aH Tryz.prog (s.open zy) Tryz.f55.results.toList=some (.int .i64 r)∧s.h=h
def Ub (cf:CallF)(m:Nat):Prop:=∀(s0:List ab) (f0:ab→Option (Bool)) (r:Int),eN.f m s0 f0=some r→∀h,0<h.next→∀(dC:FuncId) (aL:List AV),ay (.fn dC aL) = .fn dC aL→(∀(a0:ab) r,f0 a0=some r→cf dC ([.agg [.int .i64 a0.kind,.int .i64 a0.int,.str a0.label,aa.fz a0.args]]++aL) h=some (.bool r,h))→∀xs,xs.map ay=[ah.fz s0,.fn dC aL]→cf 55 xs h=some (.int .i64 r,h)
section
variable {cf:CallF}{m:Nat}
theorem eN.bP (h:AHeap)(L:Mem)(dC:FuncId)(aL:List AV)(s0:List ab)(f0:ab→Option (Bool))  (gV:ay (.fn dC aL) = .fn dC aL)(hU:∀(a0:ab) r,f0 a0=some r→cf dC ([.agg [.int .i64 a0.kind,.int .i64 a0.int,.str a0.label,aa.fz a0.args]]++aL) h=some (.bool r,h))  : bL Tryz.prog cf zy m (sub [1,0,1,0,0] (codeOf Tryz.f55)) (fun k (σ:Int)=>eN.l0 m s0 f0 k σ) (fun σ s=>match σ with | x0=>s=⟨[ah.fz s0,.fn dC aL,.any,.any,.int .i64 (s0.length:Int),.int .i64 x0,.any,.any],[],h⟩∧Has h (L)) (fun out e s=>(e = .exit 0∧∃x0,.inr x0=out∧∃lP vm xL r6 ud,s=⟨[lP,vm,.any,.any,xL,r6,ud,.any],[],h⟩∧Has h (L))∨(e = .ret∧∃r,.inl r=out∧eN.fin h r s)):=by
 refine ig (fun _=>rfl) ?_
 rintro k x0 s out ⟨rfl,o0⟩ H
 have H:eN.l0 m s0 f0 (k+1) x0=some out:=H
 refine q1 <| qq <| qc H (fun c0 H=>?_) (fun c0 H=>?_)
 ·refine qk <| qq <| qb 1 <| qq <| q0 <| qq ?_
  obtain⟨v0,e0,H⟩:=aI H
  obtain⟨r0,e1,H⟩:=aI H
  refine qr [.v 3 (bI (k:=.i64) (E:=ah) (l:=s0) mf e0),.v 4 (dL  (E:=ah) (l:=s0) h tQ tR e0),.a 5 (hU _ _ e1)] <| qc H (fun c1 H=>?_) (fun c1 H=>?_)
  ·exact q1 <| qt <| Zx (⟨rfl,_,oi H,⟨by kernel_rfl,by kernel_rfl⟩⟩)
  ·exact qk <| q0 <| ⟨i64.wrap (x0+(1:Int)),⟨by kernel_rfl,o0⟩,H⟩
 ·exact qx 0 <| Or.inl (⟨rfl,x0,oi H,ah.fz s0,.fn dC aL,.int .i64 (s0.length:Int),.int .i64 x0,.bool (decide (x0<(s0.length:Int))),by kernel_rfl,o0⟩)
theorem xN {aU:FuncId→cm}(ha:aU 55=zy)  (s0:List ab)(f0:ab→Option (Bool))(h:AHeap)(L:Mem)(dC:FuncId)(aL:List AV)  (gV:ay (.fn dC aL) = .fn dC aL)(hU:∀(a0:ab) r,f0 a0=some r→cf dC ([.agg [.int .i64 a0.kind,.int .i64 a0.int,.str a0.label,aa.fz a0.args]]++aL) h=some (.bool r,h))(o:Has h (L)){out:Int}(H:eN.f m s0 f0=some out) :
  ∃r h',be Tryz.prog aU cf m 55 [ah.fz s0,.fn dC aL] h=some (r,h')∧r=(.int .i64 out)∧h'=h:=by
 refine aq (fn:=Tryz.f55) ha Tryz.func55 (by kernel_rfl) (by kernel_rfl) ?_
 refine aG (Q:=fun s=>eN.fin h out s) (fun _ _ ⟨h1,h2,h3⟩=>⟨h1,_,h2,rfl,h3⟩) ?_
 have H:_=some out:=H
 unfold eN.f at H
 show dt _ cf zy m _ ⟨ah.fz s0 :: .fn dC aL::Gh [],[],h⟩ _
 refine q1 <| qq <| qq <| q0 <| qb 0 ?_
 obtain⟨bg,e2,H⟩:=aI H
 refine ql (eN.bP h L dC aL s0 f0  gV hU  (0:Int) _ _ ⟨by kernel_rfl,o⟩ e2) ?_
 rintro e s (⟨rfl,x1,rfl,g0,g1,g2,g3,g4,rfl,o1⟩| ⟨rfl,r1,rfl,ov⟩)
 ·try dsimp only at H
  obtain rfl:=oi H
  exact q1 <| qt <| ⟨.inl rfl,⟨by kernel_rfl,by kernel_rfl⟩⟩
 ·try dsimp only at H
  obtain rfl:=oi H
  exact⟨.inl rfl,ov⟩
end
end Go.Proofs.YtmekcfdllhphlaaGreatDoor
namespace Go.Proofs.YtmekcfdllhphlaaGreatDoor
open Go Go.R
open Go.IntKind (i64 u64 u8 u32)
def CK:cm:=gI [0,1,4] [] [4,3] [] []
def fS.f (m:Nat)(s0:List ab)(f0:ab→Option (Bool)):Option (Bool):=(eN.f m s0 f0).bind fun x0=>some (decide (x0≥(0:Int)))
def fS.fin (h:AHeap)(r:Bool)(s:St):Prop:=aH Tryz.prog (s.open CK) Tryz.f38.results.toList=some (.bool r)∧s.h=h
def Ro (cf:CallF)(m:Nat):Prop:=∀(s0:List ab) (f0:ab→Option (Bool)) (r:Bool),fS.f m s0 f0=some r→∀h,0<h.next→∀(dC:FuncId) (aL:List AV),ay (.fn dC aL) = .fn dC aL→(∀(a0:ab) r,f0 a0=some r→cf dC ([.agg [.int .i64 a0.kind,.int .i64 a0.int,.str a0.label,aa.fz a0.args]]++aL) h=some (.bool r,h))→∀xs,xs.map ay=[ah.fz s0,.fn dC aL]→cf 38 xs h=some (.bool r,h)
section
variable {cf:CallF}{m:Nat}
theorem r9 {aU:FuncId→cm}(ha:aU 38=CK)(Rp:Ub cf m)(s0:List ab)(f0:ab→Option (Bool))(h:AHeap)(L:Mem)(dC:FuncId)(aL:List AV)  (gV:ay (.fn dC aL) = .fn dC aL)(hU:∀(a0:ab) r,f0 a0=some r→cf dC ([.agg [.int .i64 a0.kind,.int .i64 a0.int,.str a0.label,aa.fz a0.args]]++aL) h=some (.bool r,h))(o:Has h (L)){out:Bool}(H:fS.f m s0 f0=some out) :
  ∃r h',be Tryz.prog aU cf m 38 [ah.fz s0,.fn dC aL] h=some (r,h')∧r=(.bool out)∧h'=h:=by
 refine aq (fn:=Tryz.f38) ha Tryz.func38 (by kernel_rfl) (by kernel_rfl) ?_
 refine aG (Q:=fun s=>fS.fin h out s) (fun _ _ ⟨h1,h2,h3⟩=>⟨h1,_,h2,rfl,h3⟩) ?_
 have H:_=some out:=H
 unfold fS.f at H
 show dt _ cf CK m _ ⟨[ah.fz s0,.fn dC aL,.any],[],h⟩ _
 refine q1 <| qq ?_
 obtain⟨x0,e0,H⟩:=aI H
 obtain rfl:=oi H
 exact qr [.a 2 (Rp _ _ _ e0 h (Has.pos o) dC aL gV hU _ (ak (aR (iE (E:=ah))) (ak (gV) (bn))))] <| qt <| ⟨.inl rfl,⟨by kernel_rfl,by kernel_rfl⟩⟩
end
end Go.Proofs.YtmekcfdllhphlaaGreatDoor
namespace Go.Proofs.YtmekcfdllhphlaaGreatDoor
open Go Go.R
open Go.IntKind (i64 u64 u8 u32)
def zz:cm:=gI [0,1,4,5,7,8,9,16] [] [252,204,140,196,68,251,204,251] [] []
def eO.l0 (m:Nat)(s0:List an)(f0:an→Option (Bool)):Nat→Int→Option (Sum Int (Int))
 | 0,_=>none
 | k+1,x0=>if (decide (x0<(s0.length:Int)))=true then ((ix s0 x0).bind fun v0=>(f0 v0).bind fun r0=>if r0=true then (some (.inl x0)) else (eO.l0 m s0 f0 k (i64.wrap (x0+(1:Int))))) else (some (.inr x0))
def eO.f (m:Nat)(s0:List an)(f0:an→Option (Bool)):Option (Int):=(eO.l0 m s0 f0 m (0:Int)).bind fun bg=>match bg with | .inl r1=>some r1 | .inr x1=>some (-1:Int)
def eO.fin (h:AHeap)(r:Int)(s:St):Prop:=aH Tryz.prog (s.open zz) Tryz.f54.results.toList=some (.int .i64 r)∧s.h=h
def Uc (cf:CallF)(m:Nat):Prop:=∀(s0:List an) (f0:an→Option (Bool)) (r:Int),eO.f m s0 f0=some r→∀h,0<h.next→∀(dC:FuncId) (aL:List AV),ay (.fn dC aL) = .fn dC aL→(∀(a0:an) r,f0 a0=some r→cf dC ([.agg [ah.fz a0.nodes,.int .i64 a0.root]]++aL) h=some (.bool r,h))→∀xs,xs.map ay=[aZ.fz s0,.fn dC aL]→cf 54 xs h=some (.int .i64 r,h)
section
variable {cf:CallF}{m:Nat}
theorem eO.bP (h:AHeap)(L:Mem)(dC:FuncId)(aL:List AV)(s0:List an)(f0:an→Option (Bool))  (gV:ay (.fn dC aL) = .fn dC aL)(hU:∀(a0:an) r,f0 a0=some r→cf dC ([.agg [ah.fz a0.nodes,.int .i64 a0.root]]++aL) h=some (.bool r,h))  : bL Tryz.prog cf zz m (sub [1,0,1,0,0] (codeOf Tryz.f54)) (fun k (σ:Int)=>eO.l0 m s0 f0 k σ) (fun σ s=>match σ with | x0=>s=⟨[aZ.fz s0,.fn dC aL,.any,.any,.int .i64 (s0.length:Int),.int .i64 x0,.any,.any],[],h⟩∧Has h (L)) (fun out e s=>(e = .exit 0∧∃x0,.inr x0=out∧∃lP vm xL r6 ud,s=⟨[lP,vm,.any,.any,xL,r6,ud,.any],[],h⟩∧Has h (L))∨(e = .ret∧∃r,.inl r=out∧eO.fin h r s)):=by
 refine ig (fun _=>rfl) ?_
 rintro k x0 s out ⟨rfl,o0⟩ H
 have H:eO.l0 m s0 f0 (k+1) x0=some out:=H
 refine q1 <| qq <| qc H (fun c0 H=>?_) (fun c0 H=>?_)
 ·refine qk <| qq <| qb 1 <| qq <| q0 <| qq ?_
  obtain⟨v0,e0,H⟩:=aI H
  obtain⟨r0,e1,H⟩:=aI H
  refine qr [.v 3 (bI (k:=.i64) (E:=aZ) (l:=s0) E2 e0),.v 4 (dL  (E:=aZ) (l:=s0) h Ok Ol e0),.a 5 (hU _ _ e1)] <| qc H (fun c1 H=>?_) (fun c1 H=>?_)
  ·exact q1 <| qt <| Zx (⟨rfl,_,oi H,⟨by kernel_rfl,by kernel_rfl⟩⟩)
  ·exact qk <| q0 <| ⟨i64.wrap (x0+(1:Int)),⟨by kernel_rfl,o0⟩,H⟩
 ·exact qx 0 <| Or.inl (⟨rfl,x0,oi H,aZ.fz s0,.fn dC aL,.int .i64 (s0.length:Int),.int .i64 x0,.bool (decide (x0<(s0.length:Int))),by kernel_rfl,o0⟩)
theorem xO {aU:FuncId→cm}(ha:aU 54=zz)  (s0:List an)(f0:an→Option (Bool))(h:AHeap)(L:Mem)(dC:FuncId)(aL:List AV)  (gV:ay (.fn dC aL) = .fn dC aL)(hU:∀(a0:an) r,f0 a0=some r→cf dC ([.agg [ah.fz a0.nodes,.int .i64 a0.root]]++aL) h=some (.bool r,h))(o:Has h (L)){out:Int}(H:eO.f m s0 f0=some out) :
  ∃r h',be Tryz.prog aU cf m 54 [aZ.fz s0,.fn dC aL] h=some (r,h')∧r=(.int .i64 out)∧h'=h:=by
 refine aq (fn:=Tryz.f54) ha Tryz.func54 (by kernel_rfl) (by kernel_rfl) ?_
 refine aG (Q:=fun s=>eO.fin h out s) (fun _ _ ⟨h1,h2,h3⟩=>⟨h1,_,h2,rfl,h3⟩) ?_
 have H:_=some out:=H
 unfold eO.f at H
 show dt _ cf zz m _ ⟨aZ.fz s0 :: .fn dC aL::Gh [],[],h⟩ _
 refine q1 <| qq <| qq <| q0 <| qb 0 ?_
 obtain⟨bg,e2,H⟩:=aI H
 refine ql (eO.bP h L dC aL s0 f0  gV hU  (0:Int) _ _ ⟨by kernel_rfl,o⟩ e2) ?_
 rintro e s (⟨rfl,x1,rfl,g0,g1,g2,g3,g4,rfl,o1⟩| ⟨rfl,r1,rfl,ov⟩)
 ·try dsimp only at H
  obtain rfl:=oi H
  exact q1 <| qt <| ⟨.inl rfl,⟨by kernel_rfl,by kernel_rfl⟩⟩
 ·try dsimp only at H
  obtain rfl:=oi H
  exact⟨.inl rfl,ov⟩
end
end Go.Proofs.YtmekcfdllhphlaaGreatDoor
namespace Go.Proofs.YtmekcfdllhphlaaGreatDoor
open Go Go.R
open Go.IntKind (i64 u64 u8 u32)
def CL:cm:=gI [0,1,4] [] [4,3] [] []
def fT.f (m:Nat)(s0:List an)(f0:an→Option (Bool)):Option (Bool):=(eO.f m s0 f0).bind fun x0=>some (decide (x0≥(0:Int)))
def fT.fin (h:AHeap)(r:Bool)(s:St):Prop:=aH Tryz.prog (s.open CL) Tryz.f36.results.toList=some (.bool r)∧s.h=h
def Ud (cf:CallF)(m:Nat):Prop:=∀(s0:List an) (f0:an→Option (Bool)) (r:Bool),fT.f m s0 f0=some r→∀h,0<h.next→∀(dC:FuncId) (aL:List AV),ay (.fn dC aL) = .fn dC aL→(∀(a0:an) r,f0 a0=some r→cf dC ([.agg [ah.fz a0.nodes,.int .i64 a0.root]]++aL) h=some (.bool r,h))→∀xs,xs.map ay=[aZ.fz s0,.fn dC aL]→cf 36 xs h=some (.bool r,h)
section
variable {cf:CallF}{m:Nat}
theorem sa {aU:FuncId→cm}(ha:aU 36=CL)(Rq:Uc cf m)(s0:List an)(f0:an→Option (Bool))(h:AHeap)(L:Mem)(dC:FuncId)(aL:List AV)  (gV:ay (.fn dC aL) = .fn dC aL)(hU:∀(a0:an) r,f0 a0=some r→cf dC ([.agg [ah.fz a0.nodes,.int .i64 a0.root]]++aL) h=some (.bool r,h))(o:Has h (L)){out:Bool}(H:fT.f m s0 f0=some out) :
  ∃r h',be Tryz.prog aU cf m 36 [aZ.fz s0,.fn dC aL] h=some (r,h')∧r=(.bool out)∧h'=h:=by
 refine aq (fn:=Tryz.f36) ha Tryz.func36 (by kernel_rfl) (by kernel_rfl) ?_
 refine aG (Q:=fun s=>fT.fin h out s) (fun _ _ ⟨h1,h2,h3⟩=>⟨h1,_,h2,rfl,h3⟩) ?_
 have H:_=some out:=H
 unfold fT.f at H
 show dt _ cf CL m _ ⟨[aZ.fz s0,.fn dC aL,.any],[],h⟩ _
 refine q1 <| qq ?_
 obtain⟨x0,e0,H⟩:=aI H
 obtain rfl:=oi H
 exact qr [.a 2 (Rq _ _ _ e0 h (Has.pos o) dC aL gV hU _ (ak (aR (iE (E:=aZ))) (ak (gV) (bn))))] <| qt <| ⟨.inl rfl,⟨by kernel_rfl,by kernel_rfl⟩⟩
end
end Go.Proofs.YtmekcfdllhphlaaGreatDoor
namespace Go.Proofs.YtmekcfdllhphlaaGreatDoor
open Go Go.R
open Go.IntKind (i64 u64 u8 u32)
def gW (c:Int):Bool:=decide (97≤c∧c≤122)||decide (65≤c∧c≤90)||decide (48≤c∧c≤57)||c==95
theorem zA {m:Nat}(c:Int):fI.f m c=some (gW c):=by
 unfold fI.f
 by_cases h1:97≤c<;>by_cases h2:c≤122<;>by_cases h3:65≤c<;>by_cases h4:c≤90<;>by_cases h5:48≤c<;>by_cases h6:c≤57<;>simp [gW,h1,h2,h3,h4,h5,h6]<;>omega
theorem sJ {s:ByteArray}{i:Nat}(h:i<s.size):∃c:UInt8,s.data.toList[i]? = some c∧bt s (i:Int)=some (c.toNat:Int):=by
 have h':i<s.data.toList.length:=by simpa using h
 refine⟨s.data.toList[i],Yv h',?_⟩
 unfold bt; rw [if_pos (by omega),Yq,Yv h']; rfl
theorem CM {m:Nat}{s:ByteArray}(hs:s.size≤16):∀(f i:Nat),s.size - i<f→i≤s.size→
  ∃o,cU.l0 m s f (i:Int)=some o∧((∃x,o = .inr x)∧((s.data.toList.drop i).all fun c=>gW (c.toNat:Int))=true∨o = .inl false∧((s.data.toList.drop i).all fun c=>gW (c.toNat:Int))=false)
 | 0,i,hf,_=>absurd hf (by omega)
 | f+1,i,hf,hi=>by
  unfold cU.l0
  by_cases h:i<s.size
  ·obtain⟨c,hc,hb⟩:=sJ h
   obtain⟨h4,h5⟩:=Yu.1 hc
   have hd:s.data.toList.drop i=c::s.data.toList.drop (i+1):=by rw [←h5]; exact Yz h4
   rw [if_pos (by simp only [decide_eq_true_eq]; omega),hb,Yj,zA,Yj,hd,Zg]
   cases hl:gW (c.toNat:Int) with
   | false=>exact⟨_,rfl,.inr ⟨rfl,rfl⟩⟩
   | true=>
    obtain⟨o,h1,h2⟩:=CM (m:=m) hs f (i+1) (by omega) (by omega)
    rw [if_neg (by simp),aA (by omega) (by omega),show (i:Int)+1=((i+1:Nat):Int) by omega,h1]
    exact⟨o,rfl,by simpa using h2⟩
  ·refine⟨_,by rw [if_neg (by simp only [decide_eq_true_eq]; omega)],.inl ⟨⟨_,rfl⟩,?_⟩⟩
   rw [Y3 (by simp; omega)]; rfl
def zB (s:ByteArray)(lo hi:Int):Bool:=match s.data.toList with
 | []=>false
 | c::cs=>decide (cs.length≤15)&&decide (lo≤(c.toNat:Int))&&decide ((c.toNat:Int)≤hi)&&((c::cs).all fun c=>gW (c.toNat:Int))
theorem En {m:Nat}(hm:20≤m)(s:ByteArray)(lo hi:Int):cU.f m s lo hi=some (zB s lo hi):=by
 have hsz:s.size=s.data.toList.length:=by simp
 unfold cU.f zB
 cases hl:s.data.toList with
 | nil=>rw [if_pos (by rw [hl,Y6] at hsz; simp only [decide_eq_true_eq]; omega)]
 | cons c cs=>
  rw [hl,YD] at hsz
  rw [if_neg (by simp only [decide_eq_true_eq]; omega)]
  dsimp only
  by_cases h16:cs.length≤15
  ·obtain⟨c',h1,h2⟩:=sJ (s:=s) (i:=0) (by omega)
   rw [hl] at h1
   simp only [Y1,Ym] at h1
   subst h1
   have h2:bt s 0=_:=h2
   rw [if_neg (by simp only [decide_eq_true_eq]; omega),h2,Yj]
   by_cases h3:(c.toNat:Int)<lo
   ·rw [if_pos (by simpa using h3)]
    simp only [Ym]
    rw [show decide (lo≤(c.toNat:Int))=false by simp; omega]; simp
   rw [if_neg (by simpa using h3),Yj]
   by_cases h4:(c.toNat:Int) > hi
   ·rw [if_pos (by simpa using h4)]
    simp only [Ym]
    rw [show decide ((c.toNat:Int)≤hi)=false by simp; omega]; simp
   rw [if_neg (by simpa using h4)]
   obtain⟨o,k1,k2⟩:=CM (m:=m) (s:=s) (by omega) m 0 (by omega) (by omega)
   have k1:cU.l0 m s m 0=_:=k1
   rw [k1,Yj]
   rw [YZ,hl] at k2
   rw [show decide (lo≤(c.toNat:Int))=true by simp; omega,show decide ((c.toNat:Int)≤hi)=true by simp; omega,show decide (cs.length≤15)=true by simpa using h16]
   simp only [Zy]
   rcases k2 with⟨⟨x,rfl⟩,k⟩| ⟨rfl,k⟩
   ·rw [k]
   ·rw [k]
  ·rw [if_pos (by simp only [decide_eq_true_eq]; omega),show decide (cs.length≤15)=false by simp; omega]; rfl
def ma (s:ByteArray):Bool:=s.data.toList==[124]||s.data.toList==[35]||zB s 97 122
theorem wu {m:Nat}(hm:20≤m)(s:ByteArray):gU.f m s=some (ma s):=by
 unfold gU.f ma
 show (if (s.data.toList==[124])=true then _ else if (s.data.toList==[35])=true then _ else _)=_
 cases h1:s.data.toList==[124] with
 | true=>rfl
 | false=>
  cases h2:s.data.toList==[35] with
  | true=>rfl
  | false=>rw [En hm]; rfl
theorem wv {s:ByteArray}(h:ma s=true):1≤s.size∧s.size≤16:=by
 have hsz:s.size=s.data.toList.length:=by simp
 unfold ma at h
 simp only [Za,beq_iff_eq] at h
 rcases h with (h | h) | h
 ·rw [h] at hsz; simp at hsz; omega
 ·rw [h] at hsz; simp at hsz; omega
 ·unfold zB at h
  split at h
  ·cases h
  ·rename_i c cs hl
   rw [hl] at hsz
   simp only [Yo,decide_eq_true_eq] at h
   simp at hsz; omega
def zC (s:ByteArray):Bool:=s.data.toList==[112,114,111,99]||s.data.toList==[99,101,108,108]||s.data.toList==[112,111,114,116]
theorem Eo {m:Nat}(s:ByteArray):gM.f m s=some (zC s):=by
 unfold gM.f zC
 show (if (s.data.toList==[112,114,111,99])=true then _ else if (s.data.toList==[99,101,108,108])=true then _ else some (s.data.toList==[112,111,114,116]))=_
 cases h1:s.data.toList==[112,114,111,99] with
 | true=>rfl
 | false=>
  cases h2:s.data.toList==[99,101,108,108] with
  | true=>rfl
  | false=>rfl
theorem Gw {m:Nat}{s:List Int}{f0:Int→Option Bool}{g:Int→Bool}(hs:s.length<2 ^ 40)(C:∀x∈s,f0 x=some (g x)):∀(f i:Nat),s.length - i<f→i≤s.length→
  ∃o,eL.l0 m s f0 f (i:Int)=some o∧((∃x,o = .inr x)∧(s.drop i).any g=false∨(∃x:Nat,o = .inl (x:Int))∧(s.drop i).any g=true)
 | 0,i,hf,_=>absurd hf (by omega)
 | f+1,i,hf,hi=>by
  have mj:(2:Nat) ^ 40=1099511627776:=by decide
  unfold eL.l0
  by_cases h:i<s.length
  ·have hx:ix s (i:Int)=some s[i]:=by unfold ix; rw [if_pos (by omega)]; simp [h]
   rw [if_pos (by simp only [decide_eq_true_eq]; omega),hx,Yj,C _ (Ze h),Yj,Yz h,List.any_cons]
   cases g s[i] with
   | true=>exact⟨_,rfl,.inr ⟨⟨i,rfl⟩,rfl⟩⟩
   | false=>
    obtain⟨o,h1,h2⟩:=Gw (m:=m) hs C f (i+1) (by omega) (by omega)
    rw [if_neg (by simp),aA (by omega) (by omega),show (i:Int)+1=((i+1:Nat):Int) by omega,h1]
    exact⟨o,rfl,by simpa using h2⟩
  ·refine⟨_,by rw [if_neg (by simp only [decide_eq_true_eq]; omega)],.inl ⟨⟨_,rfl⟩,?_⟩⟩
   rw [Y3 (by omega)]; rfl
theorem Ep {m:Nat}{s:List Int}{f0:Int→Option Bool}{g:Int→Bool}(hs:s.length<2 ^ 40)(hm:s.length<m)(C:∀x∈s,f0 x=some (g x)):gK.f m s f0=some (s.any g):=by
 obtain⟨o,h1,h2⟩:=Gw (m:=m) hs C m 0 (by omega) (by omega)
 have h1:eL.l0 m s f0 m 0=_:=h1
 unfold gK.f eL.f
 rw [h1,Yj]
 rw [YZ] at h2
 rcases h2 with⟨⟨x,rfl⟩,k⟩| ⟨⟨x,rfl⟩,k⟩
 ·rw [k]; rfl
 ·rw [k]
  simp only [Yj,Ym]
  simp
theorem Gx {m:Nat}{s:List ab}{f0:ab→Option Bool}{g:ab→Bool}(hs:s.length<2 ^ 40)(C:∀x∈s,f0 x=some (g x)):∀(f i:Nat),s.length - i<f→i≤s.length→
  ∃o,eN.l0 m s f0 f (i:Int)=some o∧((∃x,o = .inr x)∧(s.drop i).any g=false∨(∃x:Nat,o = .inl (x:Int))∧(s.drop i).any g=true)
 | 0,i,hf,_=>absurd hf (by omega)
 | f+1,i,hf,hi=>by
  have mj:(2:Nat) ^ 40=1099511627776:=by decide
  unfold eN.l0
  by_cases h:i<s.length
  ·have hx:ix s (i:Int)=some s[i]:=by unfold ix; rw [if_pos (by omega)]; simp [h]
   rw [if_pos (by simp only [decide_eq_true_eq]; omega),hx,Yj,C _ (Ze h),Yj,Yz h,List.any_cons]
   cases g s[i] with
   | true=>exact⟨_,rfl,.inr ⟨⟨i,rfl⟩,rfl⟩⟩
   | false=>
    obtain⟨o,h1,h2⟩:=Gx (m:=m) hs C f (i+1) (by omega) (by omega)
    rw [if_neg (by simp),aA (by omega) (by omega),show (i:Int)+1=((i+1:Nat):Int) by omega,h1]
    exact⟨o,rfl,by simpa using h2⟩
  ·refine⟨_,by rw [if_neg (by simp only [decide_eq_true_eq]; omega)],.inl ⟨⟨_,rfl⟩,?_⟩⟩
   rw [Y3 (by omega)]; rfl
theorem wx {m:Nat}{s:List ab}{f0:ab→Option Bool}{g:ab→Bool}(hs:s.length<2 ^ 40)(hm:s.length<m)(C:∀x∈s,f0 x=some (g x)):fS.f m s f0=some (s.any g):=by
 obtain⟨o,h1,h2⟩:=Gx (m:=m) hs C m 0 (by omega) (by omega)
 have h1:eN.l0 m s f0 m 0=_:=h1
 unfold fS.f eN.f
 rw [h1,Yj]
 rw [YZ] at h2
 rcases h2 with⟨⟨x,rfl⟩,k⟩| ⟨⟨x,rfl⟩,k⟩
 ·rw [k]; rfl
 ·rw [k]
  simp only [Yj,Ym]
  simp
theorem Gy {m:Nat}{s:List an}{f0:an→Option Bool}{g:an→Bool}(hs:s.length<2 ^ 40)(C:∀x∈s,f0 x=some (g x)):∀(f i:Nat),s.length - i<f→i≤s.length→
  ∃o,eO.l0 m s f0 f (i:Int)=some o∧((∃x,o = .inr x)∧(s.drop i).any g=false∨(∃x:Nat,o = .inl (x:Int))∧(s.drop i).any g=true)
 | 0,i,hf,_=>absurd hf (by omega)
 | f+1,i,hf,hi=>by
  have mj:(2:Nat) ^ 40=1099511627776:=by decide
  unfold eO.l0
  by_cases h:i<s.length
  ·have hx:ix s (i:Int)=some s[i]:=by unfold ix; rw [if_pos (by omega)]; simp [h]
   rw [if_pos (by simp only [decide_eq_true_eq]; omega),hx,Yj,C _ (Ze h),Yj,Yz h,List.any_cons]
   cases g s[i] with
   | true=>exact⟨_,rfl,.inr ⟨⟨i,rfl⟩,rfl⟩⟩
   | false=>
    obtain⟨o,h1,h2⟩:=Gy (m:=m) hs C f (i+1) (by omega) (by omega)
    rw [if_neg (by simp),aA (by omega) (by omega),show (i:Int)+1=((i+1:Nat):Int) by omega,h1]
    exact⟨o,rfl,by simpa using h2⟩
  ·refine⟨_,by rw [if_neg (by simp only [decide_eq_true_eq]; omega)],.inl ⟨⟨_,rfl⟩,?_⟩⟩
   rw [Y3 (by omega)]; rfl
theorem qI {m:Nat}{s:List an}{f0:an→Option Bool}{g:an→Bool}(hs:s.length<2 ^ 40)(hm:s.length<m)(C:∀x∈s,f0 x=some (g x)):fT.f m s f0=some (s.any g):=by
 obtain⟨o,h1,h2⟩:=Gy (m:=m) hs C m 0 (by omega) (by omega)
 have h1:eO.l0 m s f0 m 0=_:=h1
 unfold fT.f eO.f
 rw [h1,Yj]
 rw [YZ] at h2
 rcases h2 with⟨⟨x,rfl⟩,k⟩| ⟨⟨x,rfl⟩,k⟩
 ·rw [k]; rfl
 ·rw [k]
  simp only [Yj,Ym]
  simp
def kB (n:ab)(size:Int):Bool:=
 if n.kind=0 then decide (0≤n.int)&&n.label.data.toList==[]&&n.args.isEmpty
 else if n.kind=1 then decide (-1099511627776≤n.int)&&decide (n.int≤1099511627776)&&n.label.data.toList==[]&&n.args.isEmpty
 else if n.kind=2 then n.int==0&&ma n.label&&n.args.isEmpty
 else if n.kind=3 then n.int==0&&ma n.label&&decide (1≤n.args.length)&&decide (n.args.length≤8)&&n.args.all fun a=>decide (0≤a)&&decide (a<size)
 else if n.kind=4 then decide (0≤n.int)&&zC n.label&&n.args.isEmpty
 else false
theorem zD (l:List Int):((l.length:Int)==(0:Int))=l.isEmpty:=by cases l<;>simp; omega
theorem Er {m:Nat}(hm:20≤m)(n:ab)(size:Int):iF.f m n size=some (kB n size):=by
 unfold iF.f kB
 by_cases k0:n.kind=0
 ·rw [if_pos (by simpa using k0),if_pos k0]
  by_cases h1:0≤n.int
  ·rw [if_pos (by simpa using h1),show decide (0≤n.int)=true by simpa using h1]
   show (if (n.label.data.toList==[])=true then _ else _)=_
   cases n.label.data.toList==[] with
   | true=>rw [if_pos rfl,zD]; rfl
   | false=>rfl
  ·rw [if_neg (by simpa using h1),show decide (0≤n.int)=false by simp; omega]; rfl
 rw [if_neg (by simpa using k0),if_neg k0]
 by_cases k1:n.kind=1
 ·rw [if_pos (by simpa using k1),if_pos k1]
  by_cases h1 : -1099511627776≤n.int
  ·rw [if_pos (by simpa using h1),show decide (-1099511627776≤n.int)=true by simpa using h1]
   by_cases h3:n.int≤1099511627776
   ·rw [if_pos (by simpa using h3),show decide (n.int≤1099511627776)=true by simpa using h3]
    show (if (n.label.data.toList==[])=true then _ else _)=_
    cases n.label.data.toList==[] with
    | true=>rw [if_pos rfl,zD]; rfl
    | false=>rfl
   ·rw [if_neg (by simpa using h3),show decide (n.int≤1099511627776)=false by simp; omega]; rfl
  ·rw [if_neg (by simpa using h1),show decide (-1099511627776≤n.int)=false by simp; omega]; rfl
 rw [if_neg (by simpa using k1),if_neg k1]
 by_cases k2:n.kind=2
 ·rw [if_pos (by simpa using k2),if_pos k2]
  cases h1:n.int==0 with
  | false=>rfl
  | true=>
   rw [if_pos rfl,wu hm,Yj]
   cases ma n.label with
   | false=>rfl
   | true=>rw [if_pos rfl,zD]; rfl
 rw [if_neg (by simpa using k2),if_neg k2]
 by_cases k3:n.kind=3
 ·rw [if_pos (by simpa using k3),if_pos k3]
  cases h1:n.int==0 with
  | false=>rfl
  | true=>
   rw [if_pos rfl,wu hm,Yj]
   cases ma n.label with
   | false=>rfl
   | true=>
    rw [if_pos rfl]
    by_cases g1:1≤n.args.length
    ·rw [if_pos (by simp only [decide_eq_true_eq]; omega),show decide (1≤n.args.length)=true by simpa using g1]
     by_cases g2:n.args.length≤8
     ·rw [if_pos (by simp only [decide_eq_true_eq]; omega),show decide (n.args.length≤8)=true by simpa using g2]
      rw [Ep (g:=fun a=>!(decide (0≤a)&&decide (a<size))) (by omega) (by omega) (fun a _=>by
       unfold gL.f
       by_cases w:a<0
       ·rw [if_pos (by simpa using w),show decide (0≤a)=false by simp; omega]; rfl
       ·rw [if_neg (by simpa using w),show decide (0≤a)=true by simp; omega]
        by_cases w2:a<size
        ·rw [show decide (a≥size)=false from decide_eq_false (by omega),show decide (a<size)=true from decide_eq_true w2]; rfl
        ·rw [show decide (a≥size)=true from decide_eq_true (by omega),show decide (a<size)=false from decide_eq_false w2]; rfl),Yj]
      simp [List.not_any_eq_all_not]
     ·rw [if_neg (by simp only [decide_eq_true_eq]; omega),show decide (n.args.length≤8)=false from decide_eq_false g2]; rfl
    ·rw [if_neg (by simp only [decide_eq_true_eq]; omega),show decide (1≤n.args.length)=false from decide_eq_false g1]; rfl
 rw [if_neg (by simpa using k3),if_neg k3]
 by_cases k4:n.kind=4
 ·rw [if_pos (by simpa using k4),if_pos k4]
  by_cases h1:0≤n.int
  ·rw [if_pos (by simpa using h1),show decide (0≤n.int)=true by simpa using h1,Eo,Yj]
   cases zC n.label with
   | false=>rfl
   | true=>rw [if_pos rfl,zD]; rfl
  ·rw [if_neg (by simpa using h1),show decide (0≤n.int)=false by simp; omega]; rfl
 rw [if_neg (by simpa using k4),if_neg k4]
end Go.Proofs.YtmekcfdllhphlaaGreatDoor
namespace Go.Proofs.YtmekcfdllhphlaaGreatDoor
open Go Go.R
open Go.IntKind (i64 u64 u8 u32)
def qJ:cm:=gI [0,1,2,3,8,9,14,34] [] [224,160,224,192,64,192,192] [] []
def aO.l1 (m:Nat)(a0:Int)(aM:Int→Int→Option (Int)):Nat→(List Int)→Int→Option ((List Int) × Int)
 | 0,_,_=>none
 | k+1,cZ,j0=>if (decide (j0 > a0))=true then ((ix cZ j0).bind fun v0=>(ix cZ (i64.wrap (j0 - (1:Int)))).bind fun v1=>(aM v0 v1).bind fun r0=>if (decide (r0<(0:Int)))=true then ((ix cZ (i64.wrap (j0 - (1:Int)))).bind fun v2=>(ix cZ j0).bind fun v3=>(ix cZ j0).bind fun v4=>(ix (cZ.set j0.toNat v2) (i64.wrap (j0 - (1:Int)))).bind fun v5=>aO.l1 m a0 aM k ((cZ.set j0.toNat v2).set (i64.wrap (j0 - (1:Int))).toNat v3) (i64.wrap (j0 - (1:Int)))) else (some ((cZ,j0)))) else (some ((cZ,j0)))
def aO.l0 (m:Nat)(a0:Int)(b0:Int)(aM:Int→Int→Option (Int)):Nat→(List Int)→Int→Option ((List Int) × Int)
 | 0,_,_=>none
 | k+1,bp,i0=>if (decide (i0<b0))=true then ((aO.l1 m a0 aM m bp i0).bind fun bg=>match bg with | (dw,j1)=>aO.l0 m a0 b0 aM k dw (i64.wrap (i0+(1:Int)))) else (some ((bp,i0)))
def aO.f (m:Nat)(ao:List Int)(a0:Int)(b0:Int)(aM:Int→Int→Option (Int)):Option ((List Int)):=(aO.l0 m a0 b0 aM m ao (i64.wrap (a0+(1:Int)))).bind fun bR=>match bR with | (jH,i1)=>some jH
def aO.fin (L:Mem)(az:Nat)(ao:List Int)(a0:Int)(b0:Int)(aM:Int→Int→Option (Int))(r:(List Int))(s:St):Prop:=aH Tryz.prog (s.open qJ) Tryz.f115.results.toList=some (.tup [])∧Has s.h ((az,.sl ao.length 1 (aa.l r))::L)
def LY (cf:CallF)(m:Nat):Prop:=∀(ao:List Int) (a0:Int) (b0:Int) (aM:Int→Int→Option (Int)) (r:(List Int)),aO.f m ao a0 b0 aM=some r→∀h L (cE:Nat) (az:Nat),Has h ((az,.sl cE 1 (aa.l ao))::L)→∀(rH:FuncId) (fJ:List AV),ay (.fn rH fJ) = .fn rH fJ→(∀h K,Has h (K++L)→∀(a0:Int) (a1:Int) r,aM a0 a1=some r→cf rH ([.int .i64 a0,.int .i64 a1]++fJ) h=some (.int .i64 r,h))→∀xs,xs.map ay=[.rs az 0 cE 1,.int .i64 a0,.int .i64 b0,.fn rH fJ]→∃h',cf 115 xs h=some (.tup [],h')∧Has h' ((az,.sl cE 1 (aa.l r))::L)
section
variable {cf:CallF}{m:Nat}
theorem aO.fC (L:Mem)(az:Nat)(rH:FuncId)(fJ:List AV)(ao:List Int)(a0:Int)(b0:Int)(aM:Int→Int→Option (Int))(i0:Int)  (Es:ay (.fn rH fJ) = .fn rH fJ)(Bo:∀h K,Has h (K++L)→∀(a0:Int) (a1:Int) r,aM a0 a1=some r→cf rH ([.int .i64 a0,.int .i64 a1]++fJ) h=some (.int .i64 r,h))  : bL Tryz.prog cf qJ m (sub [1,0,0,1,0,0,1,0,0] (codeOf Tryz.f115)) (fun k (σ:(List Int) × Int)=>aO.l1 m a0 aM k σ.1 σ.2) (fun σ s=>match σ with | (cZ,j0)=>∃h1,s=⟨[.rs az 0 ao.length 1,.int .i64 a0,.int .i64 b0,.fn rH fJ,.int .i64 i0,.int .i64 j0,.any,.any],[],h1⟩∧Has h1 ((az,.sl ao.length 1 (aa.l cZ))::L)) (fun out e s=>(e = .exit 2∧∃cZ j0,(cZ,j0)=out∧∃ud Gz h1,s=⟨[.rs az 0 ao.length 1,.int .i64 a0,.int .i64 b0,.fn rH fJ,.int .i64 i0,ud,.any,Gz],[],h1⟩∧Has h1 ((az,.sl ao.length 1 (aa.l cZ))::L))):=by
 refine ig (fun _=>rfl) ?_
 rintro k ⟨cZ,j0⟩ s out ⟨h1,rfl,o1⟩ H
 have H:aO.l1 m a0 aM (k+1) cZ j0=some out:=H
 refine qq <| qq ?_
 rcases dQ H with⟨c1,H⟩| ⟨c1,H⟩
 ·obtain⟨v0,e0,H⟩:=aI H
  obtain⟨v1,e1,H⟩:=aI H
  obtain⟨r0,e2,H⟩:=aI H
  refine qr [.b 3 c1,.v 7 (aE (k:=.i64) (E:=aa) (l:=cZ) (q:=0) dJ o1 rfl e0),.v 8 (bf  (E:=aa) (l:=cZ) (q:=0) o1 rfl A3 e0 rfl),.v 12 (aE (k:=.i64) (E:=aa) (l:=cZ) (q:=0) dJ o1 rfl e1),.v 13 (bf  (E:=aa) (l:=cZ) (q:=0) o1 rfl A3 e1 rfl),.a 14 (Bo h1 [(az,.sl ao.length 1 (aa.l cZ))] o1 _ _ _ e2)] <| qc H (fun c2 H=>?_) (fun c2 H=>?_)
  ·refine qk <| qq <| qb 3 ?_
   obtain⟨v2,e3,H⟩:=aI H
   obtain⟨v3,e4,H⟩:=aI H
   obtain⟨v4,e5,H⟩:=aI H
   obtain⟨h2,e6,o2⟩:=dM (P:=Tryz.prog) (tf:=3) (E:=aa) (l:=cZ) (q:=0) (v:=v2) (x:=.int .i64 v2) o1 rfl Z3 e5 rfl rfl
   obtain⟨v5,e7,H⟩:=aI H
   obtain⟨h3,e8,o3⟩:=dM (P:=Tryz.prog) (tf:=3) (E:=aa) (l:=(cZ.set j0.toNat v2)) (q:=0) (v:=v3) (x:=.int .i64 v3) o2 rfl Z3 e7 rfl rfl
   exact qr [.v 8 (aE (k:=.i64) (E:=aa) (l:=cZ) (q:=0) dJ o1 rfl e3),.v 9 (bf  (E:=aa) (l:=cZ) (q:=0) o1 rfl A3 e3 rfl),.v 12 (aE (k:=.i64) (E:=aa) (l:=cZ) (q:=0) dJ o1 rfl e4),.v 13 (bf  (E:=aa) (l:=cZ) (q:=0) o1 rfl A3 e4 rfl),.v 14 (aE (k:=.i64) (E:=aa) (l:=cZ) (q:=0) dJ o1 rfl e5),.w 15 e6,.v 16 (aE (k:=.i64) (E:=aa) (l:=(cZ.set j0.toNat v2)) (q:=0) dJ o2 rfl e7),.w 17 e8] <| q0 <| ⟨((cZ.set j0.toNat v2).set (i64.wrap (j0 - (1:Int))).toNat v3,i64.wrap (j0 - (1:Int))),⟨h3,by kernel_rfl,o3⟩,H⟩
  ·exact qx 2 <| ⟨rfl,cZ,j0,oi H,.int .i64 j0,.bool (decide (r0<(0:Int))),h1,by kernel_rfl,o1⟩
 ·exact qr [.b 3 c1] <| Ej <| qx 2 <| ⟨rfl,cZ,j0,oi H,.int .i64 j0,.bool false,h1,by kernel_rfl,o1⟩
theorem aO.bP (L:Mem)(az:Nat)(rH:FuncId)(fJ:List AV)(ao:List Int)(a0:Int)(b0:Int)(aM:Int→Int→Option (Int))  (Es:ay (.fn rH fJ) = .fn rH fJ)(Bo:∀h K,Has h (K++L)→∀(a0:Int) (a1:Int) r,aM a0 a1=some r→cf rH ([.int .i64 a0,.int .i64 a1]++fJ) h=some (.int .i64 r,h))  : bL Tryz.prog cf qJ m (sub [1,0,0] (codeOf Tryz.f115)) (fun k (σ:(List Int) × Int)=>aO.l0 m a0 b0 aM k σ.1 σ.2) (fun σ s=>match σ with | (bp,i0)=>∃h0,s=⟨.rs az 0 ao.length 1 :: .int .i64 a0 :: .int .i64 b0 :: .fn rH fJ :: .int .i64 i0::kK [],[],h0⟩∧Has h0 ((az,.sl ao.length 1 (aa.l bp))::L)) (fun out e s=>(e = .exit 0∧∃bp i0,(bp,i0)=out∧∃lP vm Gp vn r6 xP h0,s=⟨[lP,vm,Gp,vn,r6,.any,xP,.any],[],h0⟩∧Has h0 ((az,.sl ao.length 1 (aa.l bp))::L))):=by
 refine ig (fun _=>rfl) ?_
 rintro k ⟨bp,i0⟩ s out ⟨h0,rfl,o0⟩ H
 have H:aO.l0 m a0 b0 aM (k+1) bp i0=some out:=H
 refine qq <| qq <| q0 <| qc H (fun c0 H=>?_) (fun c0 H=>?_)
 ·refine qk <| qq <| qb 1 <| qq <| q0 <| qb 2 ?_
  obtain⟨bg,e9,H⟩:=aI H
  refine ql (aO.fC L az rH fJ ao a0 b0 aM i0  Es Bo  (bp,i0) _ _ ⟨h0,by kernel_rfl,o0⟩ e9) ?_
  rintro e s ⟨rfl,dw,j1,rfl,g0,g1,h4,rfl,o4⟩
  try dsimp only at H
  exact q0 <| ⟨(dw,i64.wrap (i0+(1:Int))),⟨h4,by kernel_rfl,o4⟩,H⟩
 ·exact qx 0 <| ⟨rfl,bp,i0,oi H,.rs az 0 ao.length 1,.int .i64 a0,.int .i64 b0,.fn rH fJ,.int .i64 i0,.bool (decide (i0<b0)),h0,by kernel_rfl,o0⟩
theorem nq {aU:FuncId→cm}(ha:aU 115=qJ)  (ao:List Int)(a0:Int)(b0:Int)(aM:Int→Int→Option (Int))(h:AHeap)(L:Mem)(az:Nat)(rH:FuncId)(fJ:List AV)  (Es:ay (.fn rH fJ) = .fn rH fJ)(Bo:∀h K,Has h (K++L)→∀(a0:Int) (a1:Int) r,aM a0 a1=some r→cf rH ([.int .i64 a0,.int .i64 a1]++fJ) h=some (.int .i64 r,h))(o:Has h ((az,.sl ao.length 1 (aa.l ao))::L)){out:(List Int)}(H:aO.f m ao a0 b0 aM=some out) :
  ∃r h',be Tryz.prog aU cf m 115 [.rs az 0 ao.length 1,.int .i64 a0,.int .i64 b0,.fn rH fJ] h=some (r,h')∧r = .tup []∧Has h' ((az,.sl ao.length 1 (aa.l out))::L):=by
 refine aq (fn:=Tryz.f115) ha Tryz.func115 (by kernel_rfl) (by kernel_rfl) ?_
 refine aG (Q:=fun s=>aO.fin L az ao a0 b0 aM out s) (fun _ _ ⟨h1,h2,h3⟩=>⟨h1,_,h2,rfl,h3⟩) ?_
 have H:_=some out:=H
 unfold aO.f at H
 show dt _ cf qJ m _ ⟨.rs az 0 ao.length 1 :: .int .i64 a0 :: .int .i64 b0 :: .fn rH fJ::oH [],[],h⟩ _
 refine q1 <| qb 0 ?_
 obtain⟨bR,ow,H⟩:=aI H
 refine ql (aO.bP L az rH fJ ao a0 b0 aM  Es Bo  (ao,i64.wrap (a0+(1:Int))) _ _ ⟨h,by kernel_rfl,o⟩ ow) ?_
 rintro e s ⟨rfl,jH,i1,rfl,g2,g3,g4,g5,g6,g7,h5,rfl,o5⟩
 try dsimp only at H
 obtain rfl:=oi H
 exact⟨.inr rfl,⟨by kernel_rfl,he o5⟩⟩
end
end Go.Proofs.YtmekcfdllhphlaaGreatDoor
namespace Go.Proofs.YtmekcfdllhphlaaGreatDoor
open Go Go.R
open Go.IntKind (i64 u64 u8 u32)
structure Mv (lo hi:Nat)(l d:List Int):Prop where
 perm:d.Perm l
 out:∀k,k<lo∨hi≤k→gt d k=gt l k
 im:∀k,lo≤k→k<hi→∃k',lo≤k'∧k'<hi∧gt d k=gt l k'
theorem Mv.refl {lo hi:Nat}{l:List Int}:Mv lo hi l l:=⟨List.Perm.refl _,fun _ _=>rfl,fun k h1 h2=>⟨k,h1,h2,rfl⟩⟩
theorem Mv.trans {lo hi:Nat}{l d e:List Int}(a:Mv lo hi l d)(b:Mv lo hi d e):Mv lo hi l e:=
 ⟨b.perm.trans a.perm,fun k hk=>(b.out k hk).trans (a.out k hk),fun k h1 h2=>by
  obtain⟨k',g1,g2,g3⟩:=b.im k h1 h2
  obtain⟨Wq,g4,g5,g6⟩:=a.im k' g1 g2
  exact⟨Wq,g4,g5,g3.trans g6⟩⟩
theorem Mv.length {lo hi:Nat}{l d:List Int}(a:Mv lo hi l d):d.length=l.length:=a.perm.length_eq
theorem Mv.wide {lo hi Im lY:Nat}{l d:List Int}(a:Mv lo hi l d)(h1:Im≤lo)(h2:hi≤lY):Mv Im lY l d:=
 ⟨a.perm,fun k hk=>a.out k (by omega),fun k h3 h4=>by
  by_cases h:lo≤k∧k<hi
  ·obtain⟨k',g1,g2,g3⟩:=a.im k h.1 h.2
   exact⟨k',by omega,by omega,g3⟩
  ·exact⟨k,h3,h4,a.out k (by omega)⟩⟩
theorem Bp {lo hi i j:Nat}{l:List Int}(PH:lo≤i)(Aw:i<hi)(PS:lo≤j)(FE:j<hi)(h:hi≤l.length):Mv lo hi l (Gs l i j):=
 ⟨py (by omega) (by omega),fun k hk=>by rw [lQ (by omega) (by omega),if_neg (by omega),if_neg (by omega)],fun k h1 h2=>by
  rw [lQ (by omega) (by omega)]
  split
  ·exact⟨i,PH,Aw,rfl⟩
  split
  ·exact⟨j,PS,FE,rfl⟩
  ·exact⟨k,h1,h2,rfl⟩⟩
def Cm (cmp:Int→Int→Option Int)(c:Int→Int→Int)(l:List Int):Prop:=∀x∈l,∀y∈l,cmp x y=some (c x y)
theorem Cm.perm {cmp c l d}(h:Cm cmp c l)(p:List.Perm d l):Cm cmp c d:=fun x hx y hy=>h x (p.mem_iff.1 hx) y (p.mem_iff.1 hy)
theorem Cm.at {cmp c}{l:List Int}(h:Cm cmp c l){i j:Nat}(hi:i<l.length)(hj:j<l.length):cmp (gt l i) (gt l j)=some (c (gt l i) (gt l j)):=h _ (aJ hi) _ (aJ hj)
structure Ord (c:Int→Int→Int)(l:List Int):Prop where
 tr:∀x∈l,∀y∈l,∀z∈l,0≤c y x→0≤c z y→0≤c z x
 Na:∀x∈l,∀y∈l,c x y<0→0≤c y x
theorem Ord.perm {c l d}(h:Ord c l)(p:List.Perm d l):Ord c d:=⟨fun x hx y hy z hz=>h.tr x (p.mem_iff.1 hx) y (p.mem_iff.1 hy) z (p.mem_iff.1 hz),fun x hx y hy=>h.Na x (p.mem_iff.1 hx) y (p.mem_iff.1 hy)⟩
def Sg (c:Int→Int→Int)(l:List Int)(a b:Nat):Prop:=∀i j,a≤i→i<j→j<b→0≤c (gt l j) (gt l i)
theorem GA {m:Nat}{a i:Nat}{cmp:Int→Int→Option Int}{c:Int→Int→Int}:∀(f j:Nat) (d:List Int),j - a<f→a≤j→j≤i→i<d.length→d.length<2 ^ 40→Cm cmp c d→
  ∃d' x,aO.l1 m (a:Int) cmp f d (j:Int)=some (d',x)∧Mv a (i+1) d d'∧
   (Ord c d→(∀x y,a≤x→x<y→y≤i→x≠j→y≠j→0≤c (gt d y) (gt d x))→(∀y,j<y→y≤i→0≤c (gt d y) (gt d j))→Sg c d' a (i+1))
 | 0,j,d,hf,_,_,_,_,_=>absurd hf (by omega)
 | f+1,j,d,hf,h1,h2,h3,hs,C=>by
  have mj:(2:Nat) ^ 40=1099511627776:=by decide
  unfold aO.l1
  by_cases h:a<j
  ·have e1:i64.wrap ((j:Int) - 1)=((j - 1:Nat):Int):=by rw [aA (by omega) (by omega)]; omega
   rw [if_pos (by simp; omega),e1,cy (by omega),cy (by omega),Yj,Yj,C.at (by omega) (by omega),Yj]
   by_cases hc:c (gt d j) (gt d (j - 1))<0
   ·rw [if_pos (by simpa using hc),Yj,Yj,Yj,Yq,Yq,cy (by simp; omega),Yj]
    obtain⟨d',x,k1,k2,k3⟩:=GA (m:=m) (a:=a) (i:=i) (cmp:=cmp) (c:=c) f (j - 1) (Gs d j (j - 1)) (by omega) (by omega) (by omega) (by rw [tV]; omega) (by rw [tV]; omega) (C.perm (py (by omega) (by omega)))
    refine⟨d',x,k1,(Bp (by omega) (by omega) (by omega) (by omega) (by omega)).trans k2,fun O g1 g2=>k3 (O.perm (py (by omega) (by omega))) (fun x y x1 x2 x3 x4 x5=>?_) (fun y y1 y2=>?_)⟩
    ·rw [lQ (by omega) (by omega),lQ (by omega) (by omega),if_neg x5,if_neg x4]
     by_cases hy:y=j
     ·subst hy
      rw [if_pos rfl,if_neg (by omega)]
      exact g1 _ _ (by omega) (by omega) (by omega) (by omega) (by omega)
     ·rw [if_neg hy]
      by_cases hx:x=j
      ·subst hx
       rw [if_pos rfl]
       exact g1 _ _ (by omega) (by omega) (by omega) (by omega) (by omega)
      ·rw [if_neg hx]
       exact g1 _ _ (by omega) (by omega) (by omega) (by omega) (by omega)
    ·rw [lQ (by omega) (by omega),lQ (by omega) (by omega),if_neg (by omega),if_pos rfl]
     by_cases hy:y=j
     ·subst hy
      rw [if_pos rfl]
      exact O.Na _ (aJ (by omega)) _ (aJ (by omega)) hc
     ·rw [if_neg hy]
      exact g2 _ (by omega) (by omega)
   ·rw [if_neg (by simpa using hc)]
    refine⟨d,j,rfl,Mv.refl,fun O g1 g2 x y x1 x2 x3=>?_⟩
    have hc:0≤c (gt d j) (gt d (j - 1)):=by omega
    by_cases hx:x=j
    ·subst hx; exact g2 _ x2 (by omega)
    ·by_cases hy:y=j
     ·subst hy
      by_cases hx1:x=y - 1
      ·subst hx1; exact hc
      ·exact O.tr _ (aJ (by omega)) (gt d (y - 1)) (aJ (by omega)) _ (aJ (by omega)) (g1 _ _ x1 (by omega) (by omega) hx (by omega)) hc
     ·exact g1 _ _ x1 x2 (by omega) hx hy
  ·have:j=a:=by omega
   subst this
   rw [if_neg (by simp)]
   refine⟨d,j,rfl,Mv.refl,fun O g1 g2 x y x1 x2 x3=>?_⟩
   by_cases hx:x=j
   ·subst hx; exact g2 _ x2 (by omega)
   ·exact g1 _ _ x1 x2 (by omega) hx (by omega)
theorem GB {m:Nat}{a b:Nat}{cmp:Int→Int→Option Int}{c:Int→Int→Int}(hm:2 ^ 41≤m):∀(f i:Nat) (d:List Int),b - i<f→a<i→b≤d.length→d.length<2 ^ 40→Cm cmp c d→
  ∃d' x,aO.l0 m (a:Int) (b:Int) cmp f d (i:Int)=some (d',x)∧Mv a b d d'∧(Ord c d→Sg c d a i→Sg c d' a b)
 | 0,i,d,hf,_,_,_,_=>absurd hf (by omega)
 | f+1,i,d,hf,h1,h2,hs,C=>by
  have mj:(2:Nat) ^ 40=1099511627776:=by decide
  have pz:(2:Nat) ^ 41=2199023255552:=by decide
  unfold aO.l0
  by_cases h:i<b
  ·obtain⟨d1,x1,k1,k2,k3⟩:=GA (m:=m) (a:=a) (i:=i) (cmp:=cmp) (c:=c) m i d (by omega) (by omega) (by omega) (by omega) hs C
   have e3:i64.wrap ((i:Int)+1)=((i+1:Nat):Int):=by rw [aA (by omega) (by omega)]; omega
   rw [if_pos (by simp; omega),k1,Yj]
   dsimp only
   rw [e3]
   have hl:=k2.length
   obtain⟨d',x,g1,g2,g3⟩:=GB (a:=a) (b:=b) (cmp:=cmp) (c:=c) hm f (i+1) d1 (by omega) (by omega) (by omega) (by omega) (C.perm k2.perm)
   exact⟨d',x,g1,(k2.wide (Yn _) (by omega)).trans g2,fun O S=>g3 (O.perm k2.perm) (k3 O (fun x y q1 q2 q3 q4 q5=>S x y q1 q2 (by omega)) (fun y q1 q2=>absurd q1 (by omega)))⟩
  ·exact⟨d,i,by rw [if_neg (by simp; omega)],Mv.refl,fun O S x y q1 q2 q3=>S x y q1 q2 (by omega)⟩
theorem zE {m:Nat}{a b:Nat}{cmp:Int→Int→Option Int}{c:Int→Int→Int}(hm:2 ^ 41≤m){l:List Int}(ha:a≤l.length)(hb:b≤l.length)(hs:l.length<2 ^ 40)(C:Cm cmp c l) :
  ∃d,aO.f m l (a:Int) (b:Int) cmp=some d∧Mv a b l d∧(Ord c l→Sg c d a b):=by
 have mj:(2:Nat) ^ 40=1099511627776:=by decide
 have pz:(2:Nat) ^ 41=2199023255552:=by decide
 have e3:i64.wrap ((a:Int)+1)=((a+1:Nat):Int):=by rw [aA (by omega) (by omega)]; omega
 obtain⟨d',x,g1,g2,g3⟩:=GB (a:=a) (b:=b) (cmp:=cmp) (c:=c) hm m (a+1) l (by omega) (by omega) hb hs C
 exact⟨d',by unfold aO.f; rw [e3,g1]; rfl,g2,fun O=>g3 O fun x y q1 q2 q3=>absurd q3 (by omega)⟩
end Go.Proofs.YtmekcfdllhphlaaGreatDoor
