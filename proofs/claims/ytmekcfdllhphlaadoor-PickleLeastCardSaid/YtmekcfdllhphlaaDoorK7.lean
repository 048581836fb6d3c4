/- Part of the proof: PS1, Q118, Q106, Q77, Q107, Q78, Q79, Q80, Q62, Q52, Q34, Q51, Q32, PT6, Q119, PS2. -/
import Derived.Test.YtmekcfdllhphlaaDoorK6
set_option linter.unusedVariables false
set_option linter.unusedSimpArgs false
set_option maxRecDepth 100000
open Bool renaming and_eq_true → QR, or_eq_true → RD, true_and → R5
open ByteArray renaming mk → RH
open Int renaming toNat_natCast → QT
open List renaming getElem?_eq_some_iff → QX, getElem?_eq_getElem → QZ, getD_eq_getElem?_getD → Q5, drop_eq_getElem_cons → Q9, getElem?_eq_none → Ra, drop_zero → Rr, drop_eq_nil_of_le → Rz, length_cons → RA, getElem?_cons_zero → RC, ext_getElem? → RJ, all_cons → RL, length_nil → RN, getElem_mem → RW, mem_of_getElem? → Se, getElem?_set → Sj
open Nat renaming le_refl → QS
open Option renaming bind_some → QM
open Option.some renaming injEq → QQ, inj → Rf
open Or renaming inr → Sa
namespace Go.Proofs.YtmekcfdllhphlaaDoor
open Go Go.R
open Go.IntKind (i64 u64 u8 u32)
def gt (l:List Int)(k:Nat):Int:=l.getD k 0
theorem aV {l:List Int}{k:Nat}(h:k<l.length):l[k]? = some (gt l k):=by
 unfold gt; rw [Q5,QZ h]; rfl
theorem aE {l:List Int}{k:Nat}(h:k<l.length):gt l k∈l:=Se (aV h)
theorem bH {l:List Int}{k:Nat}(h:k<l.length):ix l (k:Int)=some (gt l k):=by
 unfold ix; rw [if_pos (by omega),QT,aV h]
theorem ef {l:List Int}{i:Int}{k:Nat}(hi:i=(k:Int))(h:k<l.length):ix l i=some (gt l k):=by rw [hi,bH h]
theorem cR {l:List Int}{i k:Nat}{x:Int}(hi:i<l.length):gt (l.set i x) k=if k=i then x else gt l k:=by
 unfold gt
 simp only [Q5,Sj]
 by_cases h:i=k
 ·subst h; simp [hi]
 ·rw [if_neg h,if_neg (by omega)]
theorem Bc {l r:List Int}(hl:l.length=r.length)(h:∀k,k<l.length→gt l k=gt r k):l=r:=by
 apply RJ fun k=>?_
 by_cases hk:k<l.length
 ·rw [aV hk,aV (hl ▸ hk),h k hk]
 ·rw [Ra (by omega),Ra (by omega)]
def Bd (l:List Int)(i j:Nat):List Int:=(l.set i (gt l j)).set j (gt l i)
theorem ma {l:List Int}{i j:Nat}(hi:i<l.length)(hj:j<l.length):(Bd l i j).Perm l:=by
 have h1:gt l j=l[j]:=by have:=aV hj; rw [QZ hj] at this; exact (Rf this).symm
 have h2:gt l i=l[i]:=by have:=aV hi; rw [QZ hi] at this; exact (Rf this).symm
 unfold Bd; rw [h1,h2]; exact List.set_set_perm hi hj
theorem jk {l:List Int}{i j k:Nat}(hi:i<l.length)(hj:j<l.length):gt (Bd l i j) k=if k=j then gt l i else if k=i then gt l j else gt l k:=by
 unfold Bd
 rw [cR (by simpa using hj),cR hi]
theorem pR {l:List Int}{i j:Nat}:(Bd l i j).length=l.length:=by simp [Bd]
theorem um {a b:Nat}(h:a+b<9223372036854775808):i64.wrap (gA .u64 (u64.wrap (i64.wrap ((a:Int)+(b:Int)))) 1)=(((a+b) / 2:Nat):Int):=by
 rw [aD (x:=(a:Int)+b) (by omega) (by omega),Fs (by omega) (by omega)]
 have:gA .u64 ((a:Int)+(b:Int)) 1=(((a+b) / 2:Nat):Int):=by
  unfold gA
  rw [Int.fdiv_eq_ediv_of_nonneg _ (by decide)]
  show ((a:Int)+(b:Int)) / 2=_
  omega
 rw [this,aD (by omega) (by omega)]
theorem Be {m:Nat}{l:List Int}{a b n:Nat}(h1:a+n≤b)(h2:b+n≤l.length)(hl:l.length<2 ^ 40):∀(f i:Nat) (d:List Int),n - i<f→i≤n→d.Perm l→
  (∀k,gt d k=if a≤k∧k<a+i then gt l (k - a+b) else if b≤k∧k<b+i then gt l (k - b+a) else gt l k)→
  ∃d' x,bn.l0 m (a:Int) (b:Int) (n:Int) f d (i:Int)=some (d',x)∧d'.Perm l∧(∀k,gt d' k=if a≤k∧k<a+n then gt l (k - a+b) else if b≤k∧k<b+n then gt l (k - b+a) else gt l k)
 | 0,i,d,hf,_,_,_=>absurd hf (by omega)
 | f+1,i,d,hf,hi,hp,hg=>by
  have pS:(2:Nat) ^ 40=1099511627776:=by decide
  have Ko:=hp.length_eq
  unfold bn.l0
  by_cases h:i<n
  ·have e1:i64.wrap ((b:Int)+(i:Int))=((b+i:Nat):Int):=by rw [aD (by omega) (by omega)]; omega
   have e2:i64.wrap ((a:Int)+(i:Int))=((a+i:Nat):Int):=by rw [aD (by omega) (by omega)]; omega
   have e3:i64.wrap ((i:Int)+1)=((i+1:Nat):Int):=by rw [aD (by omega) (by omega)]; omega
   rw [if_pos (by simp; omega),e1,e2,e3,bH (by omega),bH (by omega),QT,QT,QM,QM,QM,bH (by simp; omega),QM]
   show ∃d' x,bn.l0 m (a:Int) (b:Int) (n:Int) f (Bd d (a+i) (b+i)) ((i+1:Nat):Int)=some (d',x)∧_
   refine Be h1 h2 hl f (i+1) _ (by omega) (by omega) ((ma (by omega) (by omega)).trans hp) fun k=>?_
   rw [jk (by omega) (by omega),hg,hg,hg]
   by_cases k1:k=b+i
   ·subst k1
    rw [if_pos rfl,if_neg (by omega),if_neg (by omega),if_neg (by omega),if_pos (by omega)]
    congr 1; omega
   ·rw [if_neg k1]
    by_cases k2:k=a+i
    ·subst k2
     rw [if_pos rfl,if_neg (by omega),if_neg (by omega),if_pos (by omega)]
     congr 1; omega
    ·rw [if_neg k2]
     by_cases k3:a≤k∧k<a+i
     ·rw [if_pos k3,if_pos (by omega)]
     ·rw [if_neg k3,if_neg (show ¬(a≤k∧k<a+(i+1)) by omega)]
      by_cases k4:b≤k∧k<b+i
      ·rw [if_pos k4,if_pos (by omega)]
      ·rw [if_neg k4,if_neg (by omega)]
  ·have:i=n:=by omega
   subst this
   exact⟨d,i,by rw [if_neg (by simp)],hp,hg⟩
theorem pT {m:Nat}{l:List Int}{a b n:Nat}{cmp:Int→Int→Option Int}(h1:a+n≤b)(h2:b+n≤l.length)(hl:l.length<2 ^ 40)(hm:n<m) :
  ∃d',bn.f m l (a:Int) (b:Int) (n:Int) cmp=some d'∧d'.Perm l∧(∀k,gt d' k=if a≤k∧k<a+n then gt l (k - a+b) else if b≤k∧k<b+n then gt l (k - b+a) else gt l k):=by
 obtain⟨d',x,e,hp,hg⟩:=Be (m:=m) h1 h2 hl m 0 l (by omega) (by omega) (List.Perm.refl _) (fun k=>by rw [if_neg (by omega),if_neg (by omega)])
 have e:bn.l0 m (a:Int) (b:Int) (n:Int) m l 0=_:=e
 exact⟨d',by unfold bn.f; rw [e]; rfl,hp,hg⟩
def GM (l d:List Int)(p i j:Nat):Prop:=d.Perm l∧(∀k,k<j→gt d (p+k)=gt l (p+i+k))∧(∀k,k<i→gt d (p+j+k)=gt l (p+k))∧∀k,k<p∨p+i+j≤k→gt d k=gt l k
theorem wu {m:Nat}{q:Nat}{cmp:Int→Int→Option Int}(hm:2 ^ 41≤m):∀(f i j:Nat) (l:List Int),i+j<f→0<i→0<j→i≤q→q+j≤l.length→l.length<2 ^ 40→
  ∃(d':List Int) (x:Nat) (d:List Int),dh.l0 m (q:Int) cmp f l (i:Int) (j:Int)=some (d',(x:Int),(x:Int))∧bn.f m d' (i64.wrap ((q:Int) - (x:Int))) (q:Int) (x:Int) cmp=some d∧GM l d (q - i) i j
 | 0,i,j,l,hf,_,_,_,_,_=>absurd hf (by omega)
 | f+1,i,j,l,hf,hi,hj,hq,hl,hs=>by
  have pS:(2:Nat) ^ 40=1099511627776:=by decide
  have tj:(2:Nat) ^ 41=2199023255552:=by decide
  unfold dh.l0
  have e1:i64.wrap ((q:Int) - (i:Int))=((q - i:Nat):Int):=by rw [aD (by omega) (by omega)]; omega
  by_cases h:i=j
  ·subst h
   rw [if_neg (by simp)]
   obtain⟨d,e,hp,hg⟩:=pT (m:=m) (l:=l) (a:=q - i) (b:=q) (n:=i) (cmp:=cmp) (by omega) (by omega) hs (by omega)
   refine⟨l,i,d,rfl,by rw [e1,e],hp,fun k hk=>?_,fun k hk=>?_,fun k hk=>?_⟩
   ·rw [hg,if_pos (by omega)]; congr 1; omega
   ·rw [hg,if_neg (by omega),if_pos (by omega)]; congr 1; omega
   ·rw [hg,if_neg (by omega),if_neg (by omega)]
  ·rw [if_pos (by simp; omega)]
   by_cases h2:j<i
   ·obtain⟨d1,e,hp,hg⟩:=pT (m:=m) (l:=l) (a:=q - i) (b:=q) (n:=j) (cmp:=cmp) (by omega) (by omega) hs (by omega)
    have hd:=hp.length_eq
    have e2:i64.wrap ((i:Int) - (j:Int))=((i - j:Nat):Int):=by rw [aD (by omega) (by omega)]; omega
    rw [if_pos (by simp; omega),e1,e,QM,e2]
    obtain⟨d',x,d,k1,k2,k3,k4,k5,k6⟩:=wu (q:=q) (cmp:=cmp) hm f (i - j) j d1 (by omega) (by omega) hj (by omega) (by omega) (by omega)
    refine⟨d',x,d,k1,k2,k3.trans hp,fun k hk=>?_,fun k hk=>?_,fun k hk=>?_⟩
    ·rw [k6 _ (by omega),hg,if_pos (by omega)]; congr 1; omega
    ·by_cases GN:k<j
     ·have:=k4 k GN
      rw [show q - (i - j)+k=q - i+j+k by omega,hg,if_neg (by omega),if_pos (by omega)] at this
      rw [this]; congr 1; omega
     ·have:=k5 (k - j) (by omega)
      rw [show q - (i - j)+j+(k - j)=q - i+j+k by omega,hg,if_neg (by omega),if_neg (by omega)] at this
      rw [this]; congr 1; omega
    ·rw [k6 _ (by omega),hg,if_neg (by omega),if_neg (by omega)]
   ·have e2:i64.wrap (i64.wrap ((q:Int)+(j:Int)) - (i:Int))=((q+j - i:Nat):Int):=by rw [aD (x:=(q:Int)+j) (by omega) (by omega),aD (by omega) (by omega)]; omega
    have e3:i64.wrap ((j:Int) - (i:Int))=((j - i:Nat):Int):=by rw [aD (by omega) (by omega)]; omega
    obtain⟨d1,e,hp,hg⟩:=pT (m:=m) (l:=l) (a:=q - i) (b:=q+j - i) (n:=i) (cmp:=cmp) (by omega) (by omega) hs (by omega)
    have hd:=hp.length_eq
    rw [if_neg (by simp; omega),e1,e2,e,QM,e3]
    obtain⟨d',x,d,k1,k2,k3,k4,k5,k6⟩:=wu (q:=q) (cmp:=cmp) hm f i (j - i) d1 (by omega) hi (by omega) hq (by omega) (by omega)
    refine⟨d',x,d,k1,k2,k3.trans hp,fun k hk=>?_,fun k hk=>?_,fun k hk=>?_⟩
    ·by_cases GN:k<j - i
     ·rw [k4 k GN,hg,if_neg (by omega),if_neg (by omega)]
     ·have:=k5 (k - (j - i)) (by omega)
      rw [show q - i+(j - i)+(k - (j - i))=q - i+k by omega,hg,if_pos (by omega)] at this
      rw [this]; congr 1; omega
    ·rw [k6 _ (by omega),hg,if_neg (by omega),if_pos (by omega)]; congr 1; omega
    ·rw [k6 _ (by omega),hg,if_neg (by omega),if_neg (by omega)]
theorem Bf {m:Nat}{a q b:Nat}{cmp:Int→Int→Option Int}{l:List Int}(hm:2 ^ 41≤m)(h1:a<q)(h2:q<b)(h3:b≤l.length)(hs:l.length<2 ^ 40) :
  ∃d,dh.f m l (a:Int) (q:Int) (b:Int) cmp=some d∧GM l d a (q - a) (b - q):=by
 have pS:(2:Nat) ^ 40=1099511627776:=by decide
 have tj:(2:Nat) ^ 41=2199023255552:=by decide
 obtain⟨d',x,d,k1,k2,k3⟩:=wu (q:=q) (cmp:=cmp) hm m (q - a) (b - q) l (by omega) (by omega) (by omega) (by omega) (by omega) hs
 rw [show q - (q - a)=a by omega] at k3
 refine⟨d,?_,k3⟩
 unfold dh.f
 rw [show i64.wrap ((q:Int) - (a:Int))=((q - a:Nat):Int) by rw [aD (by omega) (by omega)]; omega,show i64.wrap ((b:Int) - (q:Int))=((b - q:Nat):Int) by rw [aD (by omega) (by omega)]; omega,k1,QM]
 dsimp only
 rw [k2]; rfl
end Go.Proofs.YtmekcfdllhphlaaDoor
namespace Go.Proofs.YtmekcfdllhphlaaDoor
open Go Go.R
open Go.IntKind (i64 u64 u8 u32)
def sS:ca:=ff [0,2] [] [2,1] [] []
def dM.f (m:Nat)(c0:Int):Option (Bool):=if (decide (c0≥(97:Int)))=true then (if (decide (c0≤(122:Int)))=true then (some true) else (if (decide (c0≥(65:Int)))=true then (if (decide (c0≤(90:Int)))=true then (some true) else (if (decide (c0≥(48:Int)))=true then (if (decide (c0≤(57:Int)))=true then (some true) else (some (c0==(95:Int)))) else (some (c0==(95:Int))))) else (if (decide (c0≥(48:Int)))=true then (if (decide (c0≤(57:Int)))=true then (some true) else (some (c0==(95:Int)))) else (some (c0==(95:Int)))))) else (if (decide (c0≥(65:Int)))=true then (if (decide (c0≤(90:Int)))=true then (some true) else (if (decide (c0≥(48:Int)))=true then (if (decide (c0≤(57:Int)))=true then (some true) else (some (c0==(95:Int)))) else (some (c0==(95:Int))))) else (if (decide (c0≥(48:Int)))=true then (if (decide (c0≤(57:Int)))=true then (some true) else (some (c0==(95:Int)))) else (some (c0==(95:Int)))))
def dM.fin (L:Mem)(r:Bool)(s:St):Prop:=∃av,aP Tryd.prog (s.open sS) Tryd.f118.results.toList=some av∧fT s.h av (.bool r)
def Fz (cf:CallF)(m:Nat):Prop:=∀(c0:Int) (r:Bool),dM.f m c0=some r→∀h xs,eO eV h xs [.int .u8 c0]→cf 118 xs h=some (.bool r,h)
section
variable {cf:CallF}{m:Nat}
theorem nb {a7:FuncId→ca}(ha:a7 118=sS)  (c0:Int)(h:AHeap)(L:Mem)  (o:Has h (L)){out:Bool}(H:dM.f m c0=some out) :
  ∃r h',bf Tryd.prog a7 cf m 118 [.int .u8 c0] h=some (r,h')∧fT h' r (.bool out):=by
 refine aq (fn:=Tryd.f118) ha Tryd.func118 (by kernel_rfl) (by kernel_rfl) ?_
 refine aQ (Q:=fun s=>dM.fin L out s) (fun _ _ h=>h) ?_
 have H:_=some out:=H
 unfold dM.f at H
 show cX _ cf sS m _ ⟨[.int .u8 c0,.any],[],h⟩ _
 refine q1 <| qq ?_
 rcases cO H with⟨c1,H⟩| ⟨c1,H⟩
 ·rcases cO H with⟨c2,H⟩| ⟨c2,H⟩
  ·obtain rfl:=oi H
   exact qr [.b 2 c1,.b 6 c2] <| qt <| ⟨.inl rfl,bD (.bool true) h (bB (aj))⟩
  ·rcases cO H with⟨c3,H⟩| ⟨c3,H⟩
   ·rcases cO H with⟨c4,H⟩| ⟨c4,H⟩
    ·obtain rfl:=oi H
     exact qr [.b 2 c1,.b 6 c2,.b 9 c3,.b 14 c4] <| qt <| ⟨.inl rfl,bD (.bool true) h (bB (aj))⟩
    ·rcases cO H with⟨c5,H⟩| ⟨c5,H⟩
     ·rcases cO H with⟨c6,H⟩| ⟨c6,H⟩
      ·obtain rfl:=oi H
       exact qr [.b 2 c1,.b 6 c2,.b 9 c3,.b 14 c4,.b 17 c5,.b 22 c6] <| qt <| ⟨.inl rfl,bD (.bool true) h (bB (aj))⟩
      ·obtain rfl:=oi H
       exact qr [.b 2 c1,.b 6 c2,.b 9 c3,.b 14 c4,.b 17 c5,.b 22 c6] <| qt <| ⟨.inl rfl,bD (.bool (c0==(95:Int))) h (bB (aj))⟩
     ·obtain rfl:=oi H
      exact qr [.b 2 c1,.b 6 c2,.b 9 c3,.b 14 c4,.b 17 c5] <| qt <| ⟨.inl rfl,bD (.bool (c0==(95:Int))) h (bB (aj))⟩
   ·rcases cO H with⟨c7,H⟩| ⟨c7,H⟩
    ·rcases cO H with⟨c8,H⟩| ⟨c8,H⟩
     ·obtain rfl:=oi H
      exact qr [.b 2 c1,.b 6 c2,.b 9 c3,.b 17 c7,.b 22 c8] <| qt <| ⟨.inl rfl,bD (.bool true) h (bB (aj))⟩
     ·obtain rfl:=oi H
      exact qr [.b 2 c1,.b 6 c2,.b 9 c3,.b 17 c7,.b 22 c8] <| qt <| ⟨.inl rfl,bD (.bool (c0==(95:Int))) h (bB (aj))⟩
    ·obtain rfl:=oi H
     exact qr [.b 2 c1,.b 6 c2,.b 9 c3,.b 17 c7] <| qt <| ⟨.inl rfl,bD (.bool (c0==(95:Int))) h (bB (aj))⟩
 ·rcases cO H with⟨c9,H⟩| ⟨c9,H⟩
  ·rcases cO H with⟨qT,H⟩| ⟨qT,H⟩
   ·obtain rfl:=oi H
    exact qr [.b 2 c1,.b 9 c9,.b 14 qT] <| qt <| ⟨.inl rfl,bD (.bool true) h (bB (aj))⟩
   ·rcases cO H with⟨la,H⟩| ⟨la,H⟩
    ·rcases cO H with⟨kK,H⟩| ⟨kK,H⟩
     ·obtain rfl:=oi H
      exact qr [.b 2 c1,.b 9 c9,.b 14 qT,.b 17 la,.b 22 kK] <| qt <| ⟨.inl rfl,bD (.bool true) h (bB (aj))⟩
     ·obtain rfl:=oi H
      exact qr [.b 2 c1,.b 9 c9,.b 14 qT,.b 17 la,.b 22 kK] <| qt <| ⟨.inl rfl,bD (.bool (c0==(95:Int))) h (bB (aj))⟩
    ·obtain rfl:=oi H
     exact qr [.b 2 c1,.b 9 c9,.b 14 qT,.b 17 la] <| qt <| ⟨.inl rfl,bD (.bool (c0==(95:Int))) h (bB (aj))⟩
  ·rcases cO H with⟨lb,H⟩| ⟨lb,H⟩
   ·rcases cO H with⟨mE,H⟩| ⟨mE,H⟩
    ·obtain rfl:=oi H
     exact qr [.b 2 c1,.b 9 c9,.b 17 lb,.b 22 mE] <| qt <| ⟨.inl rfl,bD (.bool true) h (bB (aj))⟩
    ·obtain rfl:=oi H
     exact qr [.b 2 c1,.b 9 c9,.b 17 lb,.b 22 mE] <| qt <| ⟨.inl rfl,bD (.bool (c0==(95:Int))) h (bB (aj))⟩
   ·obtain rfl:=oi H
    exact qr [.b 2 c1,.b 9 c9,.b 17 lb] <| qt <| ⟨.inl rfl,bD (.bool (c0==(95:Int))) h (bB (aj))⟩
end
end Go.Proofs.YtmekcfdllhphlaaDoor
namespace Go.Proofs.YtmekcfdllhphlaaDoor
open Go Go.R
open Go.IntKind (i64 u64 u8 u32)
def pU:ca:=ff [0,1,2,6,7,27,29,30,31,37] [] [1016,990,1015,830,574,814,318,1015,830,1015] [] []
def bU.l0 (m:Nat)(s0:ByteArray):Nat→Int→Option (Sum Bool (Int))
 | 0,_=>none
 | k+1,x0=>if (decide (x0<(s0.size:Int)))=true then ((bt s0 x0).bind fun v2=>(dM.f m v2).bind fun x1=>if (!x1)=true then (some (.inl false)) else (bU.l0 m s0 k (i64.wrap (x0+(1:Int))))) else (some (.inr x0))
def bU.f (m:Nat)(s0:ByteArray)(iB:Int)(kL:Int):Option (Bool):=if (decide ((s0.size:Int)<(1:Int)))=true then (some false) else (if (decide ((s0.size:Int) > (16:Int)))=true then (some false) else ((bt s0 (0:Int)).bind fun v0=>if (decide (v0<iB))=true then (some false) else ((bt s0 (0:Int)).bind fun v1=>if (decide (v1 > kL))=true then (some false) else ((bU.l0 m s0 m (0:Int)).bind fun bR=>match bR with | .inl r0=>some r0 | .inr x2=>some true))))
def bU.fin (L:Mem)(r:Bool)(s:St):Prop:=∃av,aP Tryd.prog (s.open pU) Tryd.f106.results.toList=some av∧fT s.h av (.bool r)
def HS (cf:CallF)(m:Nat):Prop:=∀(s0:ByteArray) (iB:Int) (kL:Int) (r:Bool),bU.f m s0 iB kL=some r→∀h xs,eO eV h xs [.str s0,.int .u8 iB,.int .u8 kL]→cf 106 xs h=some (.bool r,h)
section
variable {cf:CallF}{m:Nat}
theorem bU.cw (L:Mem)(s0:ByteArray)  (Bg:Fz cf m):cD Tryd.prog cf pU m (sub [1,1,0,1,0,0] (codeOf Tryd.f106)) (fun k (σ:Int)=>bU.l0 m s0 k σ) (fun σ s=>match σ with | x0=>∃h0,s=⟨.str s0::AX [.int .i64 (s0.size:Int),.int .i64 x0,.any,.any],[],h0⟩∧Has h0 (L)) (fun out e s=>(e = .exit 0∧∃x0,.inr x0=out∧∃qR Kp FA FB h0,s=⟨qR::AX [Kp,FA,FB,.any],[],h0⟩∧Has h0 (L))∨(e = .ret∧∃r,.inl r=out∧bU.fin L r s)):=by
 refine jW (fun _=>rfl) ?_
 rintro k x0 s out ⟨h0,rfl,o0⟩ H
 have H:bU.l0 m s0 (k+1) x0=some out:=H
 refine q1 <| qq <| qc H (fun c7 H=>?_) (fun c7 H=>?_)
 ·refine qk <| qq <| qb 1 <| qq <| q0 <| qq ?_
  obtain⟨v2,e2,H⟩:=bb H
  obtain⟨x1,e3,H⟩:=bb H
  refine qr [.v 2 (jS (k:=.i64) U9 e2),.a 3 (Bg _ _ e3 h0 _ (eZ (ab (aM) (aA))))] <| qc H (fun c8 H=>?_) (fun c8 H=>?_)
  ·exact q1 <| qt <| Sa (⟨rfl,_,oi H,bD (.bool false) h0 (bB (aj))⟩)
  ·exact qk <| q0 <| ⟨i64.wrap (x0+(1:Int)),⟨h0,by kernel_rfl,o0⟩,H⟩
 ·exact qx 0 <| Or.inl (⟨rfl,x0,oi H,.str s0,.int .i64 (s0.size:Int),.int .i64 x0,.bool (decide (x0<(s0.size:Int))),h0,by kernel_rfl,o0⟩)
theorem pV {a7:FuncId→ca}(ha:a7 106=pU)(Bg:Fz cf m)(s0:ByteArray)(iB:Int)(kL:Int)(h:AHeap)(L:Mem)  (o:Has h (L)){out:Bool}(H:bU.f m s0 iB kL=some out) :
  ∃r h',bf Tryd.prog a7 cf m 106 [.str s0,.int .u8 iB,.int .u8 kL] h=some (r,h')∧fT h' r (.bool out):=by
 refine aq (fn:=Tryd.f106) ha Tryd.func106 (by kernel_rfl) (by kernel_rfl) ?_
 refine aQ (Q:=fun s=>bU.fin L out s) (fun _ _ h=>h) ?_
 have H:_=some out:=H
 unfold bU.f at H
 show cX _ cf pU m _ ⟨.str s0 :: .int .u8 iB :: .int .u8 kL::Fp [],[],h⟩ _
 refine q1 <| qq <| qq ?_
 rcases cO H with⟨c0,H⟩| ⟨c0,H⟩
 ·obtain rfl:=oi H
  exact qr [.b 3 c0] <| sQ <| qq <| q0 <| qt <| ⟨.inl rfl,bD (.bool false) h (bB (aj))⟩
 ·rcases cO H with⟨c2,H⟩| ⟨c2,H⟩
  ·obtain rfl:=oi H
   exact qr [.b 3 c0,.b 8 c2] <| sQ <| qq <| q0 <| qt <| ⟨.inl rfl,bD (.bool false) h (bB (aj))⟩
  ·obtain⟨v0,e0,H⟩:=bb H
   rcases cO H with⟨c4,H⟩| ⟨c4,H⟩
   ·obtain rfl:=oi H
    exact qr [.b 3 c0,.b 8 c2,.v 10 (jS (k:=.i64) U9 e0),.b 14 c4] <| sQ <| qq <| q0 <| qt <| ⟨.inl rfl,bD (.bool false) h (bB (aj))⟩
   ·obtain⟨v1,e1,H⟩:=bb H
    refine qr [.b 3 c0,.b 8 c2,.v 10 (jS (k:=.i64) U9 e0),.b 14 c4,.v 16 (jS (k:=.i64) U9 e1)] <| qc H (fun c6 H=>?_) (fun c6 H=>?_)
    ·obtain rfl:=oi H
     exact q1 <| qt <| ⟨.inl rfl,bD (.bool false) h (bB (aj))⟩
    ·refine qk <| qq <| qq <| q0 <| qb 0 ?_
     obtain⟨bR,e4,H⟩:=bb H
     refine ql (bU.cw L s0  Bg (0:Int) _ _ ⟨h,by kernel_rfl,o⟩ e4) ?_
     rintro e s (⟨rfl,x2,rfl,g0,g1,g2,g3,h1,rfl,o1⟩| ⟨rfl,r0,rfl,pW⟩)
     ·try dsimp only at H
      obtain rfl:=oi H
      exact q1 <| qt <| ⟨.inl rfl,bD (.bool true) h1 (bB (aj))⟩
     ·try dsimp only at H
      obtain rfl:=oi H
      exact⟨.inl rfl,pW⟩
end
end Go.Proofs.YtmekcfdllhphlaaDoor
namespace Go.Proofs.YtmekcfdllhphlaaDoor
open Go Go.R
open Go.IntKind (i64 u64 u8 u32)
def xI:ca:=ff [0,2] [] [2,1] [] []
def eP.f (m:Nat)(s0:ByteArray):Option (Bool):=if (s0.data.toList==(RH #[124]).data.toList)=true then (some true) else (if (s0.data.toList==(RH #[35]).data.toList)=true then (some true) else ((bU.f m s0 (97:Int) (122:Int)).bind fun x0=>some x0))
def eP.fin (L:Mem)(r:Bool)(s:St):Prop:=∃av,aP Tryd.prog (s.open xI) Tryd.f77.results.toList=some av∧fT s.h av (.bool r)
def MB (cf:CallF)(m:Nat):Prop:=∀(s0:ByteArray) (r:Bool),eP.f m s0=some r→∀h xs,eO eV h xs [.str s0]→cf 77 xs h=some (.bool r,h)
section
variable {cf:CallF}{m:Nat}
theorem pX {a7:FuncId→ca}(ha:a7 77=xI)(HT:HS cf m)(s0:ByteArray)(h:AHeap)(L:Mem)  (o:Has h (L)){out:Bool}(H:eP.f m s0=some out) :
  ∃r h',bf Tryd.prog a7 cf m 77 [.str s0] h=some (r,h')∧fT h' r (.bool out):=by
 refine aq (fn:=Tryd.f77) ha Tryd.func77 (by kernel_rfl) (by kernel_rfl) ?_
 refine aQ (Q:=fun s=>eP.fin L out s) (fun _ _ h=>h) ?_
 have H:_=some out:=H
 unfold eP.f at H
 show cX _ cf xI m _ ⟨[.str s0,.any],[],h⟩ _
 refine q1 <| qq ?_
 rcases cO H with⟨c0,H⟩| ⟨c0,H⟩
 ·obtain rfl:=oi H
  exact qr [.b 2 c0] <| qt <| ⟨.inl rfl,bD (.bool true) h (bB (aj))⟩
 ·rcases cO H with⟨c1,H⟩| ⟨c1,H⟩
  ·obtain rfl:=oi H
   exact qr [.b 2 c0,.b 6 c1] <| qt <| ⟨.inl rfl,bD (.bool true) h (bB (aj))⟩
  ·obtain⟨x0,e0,H⟩:=bb H
   obtain rfl:=oi H
   exact qr [.b 2 c0,.b 6 c1,.a 8 (HT _ _ _ _ e0 h _ (eZ (ab (bJ) (ab (aM) (ab (aM) (aA))))))] <| qt <| ⟨.inl rfl,bD (.bool x0) h (bB (aj))⟩
end
end Go.Proofs.YtmekcfdllhphlaaDoor
namespace Go.Proofs.YtmekcfdllhphlaaDoor
open Go Go.R
open Go.IntKind (i64 u64 u8 u32)
def pY:ca:=ff [0,1,4,5,7,8,9,16] [] [252,204,140,196,68,251,204,251] [] []
def di.l0 (m:Nat)(s0:List Int)(f0:Int→Option (Bool)):Nat→Int→Option (Sum Int (Int))
 | 0,_=>none
 | k+1,x0=>if (decide (x0<(s0.length:Int)))=true then ((ix s0 x0).bind fun v0=>(f0 v0).bind fun r0=>if r0=true then (some (.inl x0)) else (di.l0 m s0 f0 k (i64.wrap (x0+(1:Int))))) else (some (.inr x0))
def di.f (m:Nat)(s0:List Int)(f0:Int→Option (Bool)):Option (Int):=(di.l0 m s0 f0 m (0:Int)).bind fun bR=>match bR with | .inl r1=>some r1 | .inr x1=>some (-1:Int)
def di.fin (h:AHeap)(r:Int)(s:St):Prop:=aP Tryd.prog (s.open pY) Tryd.f107.results.toList=some (.int .i64 r)∧s.h=h
def HU (cf:CallF)(m:Nat):Prop:=∀(s0:List Int) (f0:Int→Option (Bool)) (r:Int),di.f m s0 f0=some r→∀h,0<h.next→∀(dJ:FuncId) (aT:List AV),aC (.fn dJ aT) = .fn dJ aT→(∀(a0:Int) r,f0 a0=some r→cf dJ ([.int .i64 a0]++aT) h=some (.bool r,h))→∀xs,xs.map aC=[af.fz s0,.fn dJ aT]→cf 107 xs h=some (.int .i64 r,h)
section
variable {cf:CallF}{m:Nat}
theorem di.cw (h:AHeap)(L:Mem)(dJ:FuncId)(aT:List AV)(s0:List Int)(f0:Int→Option (Bool))  (gH:aC (.fn dJ aT) = .fn dJ aT)(gZ:∀(a0:Int) r,f0 a0=some r→cf dJ ([.int .i64 a0]++aT) h=some (.bool r,h))  : cD Tryd.prog cf pY m (sub [1,0,1,0,0] (codeOf Tryd.f107)) (fun k (σ:Int)=>di.l0 m s0 f0 k σ) (fun σ s=>match σ with | x0=>s=⟨[af.fz s0,.fn dJ aT,.any,.any,.int .i64 (s0.length:Int),.int .i64 x0,.any,.any],[],h⟩∧Has h (L)) (fun out e s=>(e = .exit 0∧∃x0,.inr x0=out∧∃qR qS FC zi FD,s=⟨[qR,qS,.any,.any,FC,zi,FD,.any],[],h⟩∧Has h (L))∨(e = .ret∧∃r,.inl r=out∧di.fin h r s)):=by
 refine jW (fun _=>rfl) ?_
 rintro k x0 s out ⟨rfl,o0⟩ H
 have H:di.l0 m s0 f0 (k+1) x0=some out:=H
 refine q1 <| qq <| qc H (fun c0 H=>?_) (fun c0 H=>?_)
 ·refine qk <| qq <| qb 1 <| qq <| q0 <| qq ?_
  obtain⟨v0,e0,H⟩:=bb H
  obtain⟨r0,e1,H⟩:=bb H
  refine qr [.v 3 (cH (k:=.i64) (E:=af) (l:=s0) fV e0),.v 4 (fK  (E:=af) (l:=s0) h A3 e0 rfl),.a 5 (gZ _ _ e1)] <| qc H (fun c1 H=>?_) (fun c1 H=>?_)
  ·exact q1 <| qt <| Sa (⟨rfl,_,oi H,⟨by kernel_rfl,by kernel_rfl⟩⟩)
  ·exact qk <| q0 <| ⟨i64.wrap (x0+(1:Int)),⟨by kernel_rfl,o0⟩,H⟩
 ·exact qx 0 <| Or.inl (⟨rfl,x0,oi H,af.fz s0,.fn dJ aT,.int .i64 (s0.length:Int),.int .i64 x0,.bool (decide (x0<(s0.length:Int))),by kernel_rfl,o0⟩)
theorem sT {a7:FuncId→ca}(ha:a7 107=pY)  (s0:List Int)(f0:Int→Option (Bool))(h:AHeap)(L:Mem)(dJ:FuncId)(aT:List AV)  (gH:aC (.fn dJ aT) = .fn dJ aT)(gZ:∀(a0:Int) r,f0 a0=some r→cf dJ ([.int .i64 a0]++aT) h=some (.bool r,h))(o:Has h (L)){out:Int}(H:di.f m s0 f0=some out) :
  ∃r h',bf Tryd.prog a7 cf m 107 [af.fz s0,.fn dJ aT] h=some (r,h')∧r=(.int .i64 out)∧h'=h:=by
 refine aq (fn:=Tryd.f107) ha Tryd.func107 (by kernel_rfl) (by kernel_rfl) ?_
 refine aQ (Q:=fun s=>di.fin h out s) (fun _ _ ⟨h1,h2,h3⟩=>⟨h1,_,h2,rfl,h3⟩) ?_
 have H:_=some out:=H
 unfold di.f at H
 show cX _ cf pY m _ ⟨af.fz s0 :: .fn dJ aT::Dg [],[],h⟩ _
 refine q1 <| qq <| qq <| q0 <| qb 0 ?_
 obtain⟨bR,e2,H⟩:=bb H
 refine ql (di.cw h L dJ aT s0 f0  gH gZ  (0:Int) _ _ ⟨by kernel_rfl,o⟩ e2) ?_
 rintro e s (⟨rfl,x1,rfl,g0,g1,g2,g3,g4,rfl,o1⟩| ⟨rfl,r1,rfl,pW⟩)
 ·try dsimp only at H
  obtain rfl:=oi H
  exact q1 <| qt <| ⟨.inl rfl,⟨by kernel_rfl,by kernel_rfl⟩⟩
 ·try dsimp only at H
  obtain rfl:=oi H
  exact⟨.inl rfl,pW⟩
end
end Go.Proofs.YtmekcfdllhphlaaDoor
namespace Go.Proofs.YtmekcfdllhphlaaDoor
open Go Go.R
open Go.IntKind (i64 u64 u8 u32)
def xJ:ca:=ff [0,1,4] [] [4,3] [] []
def eC.f (m:Nat)(s0:List Int)(f0:Int→Option (Bool)):Option (Bool):=(di.f m s0 f0).bind fun x0=>some (decide (x0≥(0:Int)))
def eC.fin (h:AHeap)(r:Bool)(s:St):Prop:=aP Tryd.prog (s.open xJ) Tryd.f78.results.toList=some (.bool r)∧s.h=h
def MC (cf:CallF)(m:Nat):Prop:=∀(s0:List Int) (f0:Int→Option (Bool)) (r:Bool),eC.f m s0 f0=some r→∀h,0<h.next→∀(dJ:FuncId) (aT:List AV),aC (.fn dJ aT) = .fn dJ aT→(∀(a0:Int) r,f0 a0=some r→cf dJ ([.int .i64 a0]++aT) h=some (.bool r,h))→∀xs,xs.map aC=[af.fz s0,.fn dJ aT]→cf 78 xs h=some (.bool r,h)
section
variable {cf:CallF}{m:Nat}
theorem oe {a7:FuncId→ca}(ha:a7 78=xJ)(HV:HU cf m)(s0:List Int)(f0:Int→Option (Bool))(h:AHeap)(L:Mem)(dJ:FuncId)(aT:List AV)  (gH:aC (.fn dJ aT) = .fn dJ aT)(gZ:∀(a0:Int) r,f0 a0=some r→cf dJ ([.int .i64 a0]++aT) h=some (.bool r,h))(o:Has h (L)){out:Bool}(H:eC.f m s0 f0=some out) :
  ∃r h',bf Tryd.prog a7 cf m 78 [af.fz s0,.fn dJ aT] h=some (r,h')∧r=(.bool out)∧h'=h:=by
 refine aq (fn:=Tryd.f78) ha Tryd.func78 (by kernel_rfl) (by kernel_rfl) ?_
 refine aQ (Q:=fun s=>eC.fin h out s) (fun _ _ ⟨h1,h2,h3⟩=>⟨h1,_,h2,rfl,h3⟩) ?_
 have H:_=some out:=H
 unfold eC.f at H
 show cX _ cf xJ m _ ⟨[af.fz s0,.fn dJ aT,.any],[],h⟩ _
 refine q1 <| qq ?_
 obtain⟨x0,e0,H⟩:=bb H
 obtain rfl:=oi H
 exact qr [.a 2 (HV _ _ _ e0 h (Has.pos o) dJ aT gH gZ _ (ao (aR (ik (E:=af))) (ao (gH) (cq))))] <| qt <| ⟨.inl rfl,⟨by kernel_rfl,by kernel_rfl⟩⟩
end
end Go.Proofs.YtmekcfdllhphlaaDoor
namespace Go.Proofs.YtmekcfdllhphlaaDoor
open Go Go.R
open Go.IntKind (i64 u64 u8 u32)
def xK:ca:=ff [0,1,3] [] [4,3] [] []
def eD.f (m:Nat)(a0:Int)(x0:Int):Option (Bool):=if (decide (a0<(0:Int)))=true then (some true) else (some (decide (a0≥x0)))
def eD.fin (h:AHeap)(r:Bool)(s:St):Prop:=aP Tryd.prog (s.open xK) Tryd.f79.results.toList=some (.bool r)∧s.h=h
def MD (cf:CallF)(m:Nat):Prop:=∀(a0:Int) (x0:Int) (r:Bool),eD.f m a0 x0=some r→∀h L (dj bk:Nat),Has h L→L[dj]? = some (bk,.ob [.int .i64 x0])→cf 79 [.int .i64 a0,.ptr bk 0] h=some (.bool r,h)
section
variable {cf:CallF}{m:Nat}
theorem nc {a7:FuncId→ca}(ha:a7 79=xK)  (a0:Int)(x0:Int)(h:AHeap)(L:Mem)  {dj bk:Nat}(dZ:L[dj]? = some (bk,.ob [.int .i64 x0]))(o:Has h (L)){out:Bool}(H:eD.f m a0 x0=some out) :
  ∃r h',bf Tryd.prog a7 cf m 79 [.int .i64 a0,.ptr bk 0] h=some (r,h')∧r=(.bool out)∧h'=h:=by
 refine aq (fn:=Tryd.f79) ha Tryd.func79 (by kernel_rfl) (by kernel_rfl) ?_
 refine aQ (Q:=fun s=>eD.fin h out s) (fun _ _ ⟨h1,h2,h3⟩=>⟨h1,_,h2,rfl,h3⟩) ?_
 have H:_=some out:=H
 unfold eD.f at H
 show cX _ cf xK m _ ⟨[.int .i64 a0,.ptr bk 0,.any],[],h⟩ _
 refine q1 <| qq ?_
 rcases cO H with⟨c0,H⟩| ⟨c0,H⟩
 ·obtain rfl:=oi H
  exact qr [.b 2 c0] <| qt <| ⟨.inl rfl,⟨by kernel_rfl,by kernel_rfl⟩⟩
 ·obtain rfl:=oi H
  exact qr [.b 2 c0,.v 4 (show bg Tryd.prog h 3 (.ptr bk 0)=some (.int .i64 x0) from b9 (q:=dj) (cs:=[.int .i64 x0]) o dZ (by kernel_rfl))] <| qt <| ⟨.inl rfl,⟨by kernel_rfl,by kernel_rfl⟩⟩
end
end Go.Proofs.YtmekcfdllhphlaaDoor
namespace Go.Proofs.YtmekcfdllhphlaaDoor
open Go Go.R
open Go.IntKind (i64 u64 u8 u32)
def xL:ca:=ff [0,2] [] [2,1] [] []
def eF.f (m:Nat)(s0:ByteArray):Option (Bool):=if (s0.data.toList==(RH #[112,114,111,99]).data.toList)=true then (some true) else (if (s0.data.toList==(RH #[99,101,108,108]).data.toList)=true then (some true) else (some (s0.data.toList==(RH #[112,111,114,116]).data.toList)))
def eF.fin (L:Mem)(r:Bool)(s:St):Prop:=∃av,aP Tryd.prog (s.open xL) Tryd.f80.results.toList=some av∧fT s.h av (.bool r)
def ME (cf:CallF)(m:Nat):Prop:=∀(s0:ByteArray) (r:Bool),eF.f m s0=some r→∀h xs,eO eV h xs [.str s0]→cf 80 xs h=some (.bool r,h)
section
variable {cf:CallF}{m:Nat}
theorem og {a7:FuncId→ca}(ha:a7 80=xL)  (s0:ByteArray)(h:AHeap)(L:Mem)  (o:Has h (L)){out:Bool}(H:eF.f m s0=some out) :
  ∃r h',bf Tryd.prog a7 cf m 80 [.str s0] h=some (r,h')∧fT h' r (.bool out):=by
 refine aq (fn:=Tryd.f80) ha Tryd.func80 (by kernel_rfl) (by kernel_rfl) ?_
 refine aQ (Q:=fun s=>eF.fin L out s) (fun _ _ h=>h) ?_
 have H:_=some out:=H
 unfold eF.f at H
 show cX _ cf xL m _ ⟨[.str s0,.any],[],h⟩ _
 refine q1 <| qq ?_
 rcases cO H with⟨c0,H⟩| ⟨c0,H⟩
 ·obtain rfl:=oi H
  exact qr [.b 2 c0] <| qt <| ⟨.inl rfl,bD (.bool true) h (bB (aj))⟩
 ·rcases cO H with⟨c1,H⟩| ⟨c1,H⟩
  ·obtain rfl:=oi H
   exact qr [.b 2 c0,.b 6 c1] <| qt <| ⟨.inl rfl,bD (.bool true) h (bB (aj))⟩
  ·obtain rfl:=oi H
   exact qr [.b 2 c0,.b 6 c1] <| qt <| ⟨.inl rfl,bD (.bool (s0.data.toList==(RH #[112,111,114,116]).data.toList)) h (bB (aj))⟩
end
end Go.Proofs.YtmekcfdllhphlaaDoor
namespace Go.Proofs.YtmekcfdllhphlaaDoor
open Go Go.R
open Go.IntKind (i64 u64 u8 u32)
def xM:ca:=ff [0,1,2,3,4,6,7,23,44,60,89] [2] [2035,2003,1939,2031,1875,2031,1747,2031,1491,2031,1019,2031,2031] [] []
def fm.f (m:Nat)(n0:aa)(jX:Int):Option (Bool):=if (n0.kind==(0:Int))=true then (if (decide (n0.int≥(0:Int)))=true then (if (n0.label.data.toList==(RH #[]).data.toList)=true then (some ((n0.args.length:Int)==(0:Int))) else (some false)) else (some false)) else (if (n0.kind==(1:Int))=true then (if (decide (n0.int≥(-1099511627776:Int)))=true then (if (decide (n0.int≤(1099511627776:Int)))=true then (if (n0.label.data.toList==(RH #[]).data.toList)=true then (some ((n0.args.length:Int)==(0:Int))) else (some false)) else (some false)) else (some false)) else (if (n0.kind==(2:Int))=true then (if (n0.int==(0:Int))=true then ((eP.f m n0.label).bind fun x0=>if x0=true then (some ((n0.args.length:Int)==(0:Int))) else (some false)) else (some false)) else (if (n0.kind==(3:Int))=true then (if (n0.int==(0:Int))=true then ((eP.f m n0.label).bind fun x1=>if x1=true then (if (decide ((n0.args.length:Int)≥(1:Int)))=true then (if (decide ((n0.args.length:Int)≤(8:Int)))=true then ((eC.f m n0.args (fun y0=>eD.f m y0 jX)).bind fun x2=>some (!x2)) else (some false)) else (some false)) else (some false)) else (some false)) else (if (n0.kind==(4:Int))=true then (if (decide (n0.int≥(0:Int)))=true then ((eF.f m n0.label).bind fun x3=>if x3=true then (some ((n0.args.length:Int)==(0:Int))) else (some false)) else (some false)) else (some false)))))
def fm.fin (L:Mem)(r:Bool)(s:St):Prop:=∃av,aP Tryd.prog (s.open xM) Tryd.f62.results.toList=some av∧fT s.h av (.bool r)
def MF (cf:CallF)(m:Nat):Prop:=∀(n0:aa) (jX:Int) (r:Bool),fm.f m n0 jX=some r→∀h xs,eO eV h xs [.agg [.int .i64 n0.kind,.int .i64 n0.int,.str n0.label,af.fz n0.args],.int .i64 jX]→cf 62 xs h=some (.bool r,h)
section
variable {cf:CallF}{m:Nat}
theorem pZ {a7:FuncId→ca}(ha:a7 62=xM)(zj:MB cf m)(Kq:MC cf m)(Kr:MD cf m)(HW:ME cf m)(n0:aa)(jX:Int)(h:AHeap)(L:Mem)  (o:Has h (L)){out:Bool}(H:fm.f m n0 jX=some out) :
  ∃r h',bf Tryd.prog a7 cf m 62 [.agg [.int .i64 n0.kind,.int .i64 n0.int,.str n0.label,af.fz n0.args],.int .i64 jX] h=some (r,h')∧fT h' r (.bool out):=by
 refine aq (fn:=Tryd.f62) ha Tryd.func62 (by kernel_rfl) (by kernel_rfl) ?_
 refine aQ (Q:=fun s=>fm.fin L out s) (fun _ _ h=>h) ?_
 have H:_=some out:=H
 unfold fm.f at H
 show cX _ cf xM m _ ⟨.agg [.int .i64 n0.kind,.int .i64 n0.int,.str n0.label,af.fz n0.args] :: .int .i64 jX::HJ [],[none],h⟩ _
 refine qq ?_
 obtain⟨aL,h0,e0,o0⟩:=jV (cs:=[.int .i64 jX]) o (by kernel_rfl)
 refine qr [.a 1 e0] <| qq <| qq <| q0 <| qb 0 <| qq <| q0 <| qc H (fun c0 H=>?_) (fun c0 H=>?_)
 ·refine qq ?_
  rcases cO H with⟨c1,H⟩| ⟨c1,H⟩
  ·rcases cO H with⟨c2,H⟩| ⟨c2,H⟩
   ·refine qr [.b 3 c1,.b 8 c2] ?_
    have o1:Has h0 (L):=Has.del o0 0
    obtain rfl:=oi H
    exact qt <| ⟨.inl rfl,bD (.bool ((n0.args.length:Int)==(0:Int))) h0 (bB (aj))⟩
   ·refine qr [.b 3 c1,.b 8 c2] ?_
    have o2:Has h0 (L):=Has.del o0 0
    obtain rfl:=oi H
    exact qt <| ⟨.inl rfl,bD (.bool false) h0 (bB (aj))⟩
  ·refine qr [.b 3 c1] ?_
   have o3:Has h0 (L):=Has.del o0 0
   obtain rfl:=oi H
   exact qt <| ⟨.inl rfl,bD (.bool false) h0 (bB (aj))⟩
 ·refine q1 <| qc H (fun c3 H=>?_) (fun c3 H=>?_)
  ·refine qq ?_
   rcases cO H with⟨c4,H⟩| ⟨c4,H⟩
   ·rcases cO H with⟨c5,H⟩| ⟨c5,H⟩
    ·rcases cO H with⟨c6,H⟩| ⟨c6,H⟩
     ·refine qr [.b 3 c4,.b 8 c5,.b 13 c6] ?_
      have o4:Has h0 (L):=Has.del o0 0
      obtain rfl:=oi H
      exact qt <| ⟨.inl rfl,bD (.bool ((n0.args.length:Int)==(0:Int))) h0 (bB (aj))⟩
     ·refine qr [.b 3 c4,.b 8 c5,.b 13 c6] ?_
      have o5:Has h0 (L):=Has.del o0 0
      obtain rfl:=oi H
      exact qt <| ⟨.inl rfl,bD (.bool false) h0 (bB (aj))⟩
    ·refine qr [.b 3 c4,.b 8 c5] ?_
     have o6:Has h0 (L):=Has.del o0 0
     obtain rfl:=oi H
     exact qt <| ⟨.inl rfl,bD (.bool false) h0 (bB (aj))⟩
   ·refine qr [.b 3 c4] ?_
    have o7:Has h0 (L):=Has.del o0 0
    obtain rfl:=oi H
    exact qt <| ⟨.inl rfl,bD (.bool false) h0 (bB (aj))⟩
  ·refine q1 <| qc H (fun c7 H=>?_) (fun c7 H=>?_)
   ·refine qq ?_
    rcases cO H with⟨c8,H⟩| ⟨c8,H⟩
    ·obtain⟨x0,e1,H⟩:=bb H
     rcases cO H with⟨c9,H⟩| ⟨c9,H⟩
     ·refine qr [.b 3 c8,.a 6 (zj _ _ e1 h0 _ (eZ (ab (bJ) (aA)))),.b 8 c9] ?_
      have o8:Has h0 (L):=Has.del o0 0
      obtain rfl:=oi H
      exact qt <| ⟨.inl rfl,bD (.bool ((n0.args.length:Int)==(0:Int))) h0 (bB (aj))⟩
     ·refine qr [.b 3 c8,.a 6 (zj _ _ e1 h0 _ (eZ (ab (bJ) (aA)))),.b 8 c9] ?_
      have o9:Has h0 (L):=Has.del o0 0
      obtain rfl:=oi H
      exact qt <| ⟨.inl rfl,bD (.bool false) h0 (bB (aj))⟩
    ·refine qr [.b 3 c8] ?_
     have CD:Has h0 (L):=Has.del o0 0
     obtain rfl:=oi H
     exact qt <| ⟨.inl rfl,bD (.bool false) h0 (bB (aj))⟩
   ·refine q1 <| qc H (fun qT H=>?_) (fun qT H=>?_)
    ·refine qq ?_
     rcases cO H with⟨la,H⟩| ⟨la,H⟩
     ·obtain⟨x1,e2,H⟩:=bb H
      rcases cO H with⟨kK,H⟩| ⟨kK,H⟩
      ·rcases cO H with⟨lb,H⟩| ⟨lb,H⟩
       ·rcases cO H with⟨mE,H⟩| ⟨mE,H⟩
        ·obtain⟨x2,e3,H⟩:=bb H
         refine qr [.b 3 la,.a 6 (zj _ _ e2 h0 _ (eZ (ab (bJ) (aA)))),.b 8 kK,.b 14 lb,.b 20 mE,.a 24 (Kq _ _ _ e3 h0 (Has.pos o0) 79 [.ptr aL 0] rfl (fun y0 r hr=>Kr y0 _ r hr h0 _ 0 _ o0 rfl) _ (ao (aR (ik (E:=af))) (ao ((rfl:aC (.fn 79 [.ptr aL 0])=_)) (cq))))] ?_
         have Eb:Has h0 (L):=Has.del o0 0
         obtain rfl:=oi H
         exact qt <| ⟨.inl rfl,bD (.bool (!x2)) h0 (bB (aj))⟩
        ·refine qr [.b 3 la,.a 6 (zj _ _ e2 h0 _ (eZ (ab (bJ) (aA)))),.b 8 kK,.b 14 lb,.b 20 mE] ?_
         have Ec:Has h0 (L):=Has.del o0 0
         obtain rfl:=oi H
         exact qt <| ⟨.inl rfl,bD (.bool false) h0 (bB (aj))⟩
       ·refine qr [.b 3 la,.a 6 (zj _ _ e2 h0 _ (eZ (ab (bJ) (aA)))),.b 8 kK,.b 14 lb] ?_
        have wv:Has h0 (L):=Has.del o0 0
        obtain rfl:=oi H
        exact qt <| ⟨.inl rfl,bD (.bool false) h0 (bB (aj))⟩
      ·refine qr [.b 3 la,.a 6 (zj _ _ e2 h0 _ (eZ (ab (bJ) (aA)))),.b 8 kK] ?_
       have CE:Has h0 (L):=Has.del o0 0
       obtain rfl:=oi H
       exact qt <| ⟨.inl rfl,bD (.bool false) h0 (bB (aj))⟩
     ·refine qr [.b 3 la] ?_
      have FE:Has h0 (L):=Has.del o0 0
      obtain rfl:=oi H
      exact qt <| ⟨.inl rfl,bD (.bool false) h0 (bB (aj))⟩
    ·refine q1 ?_
     have zO:Has h0 (L):=Has.del o0 0
     refine qc H (fun vn H=>?_) (fun vn H=>?_)
     ·refine qq ?_
      rcases cO H with⟨wx,H⟩| ⟨wx,H⟩
      ·obtain⟨x3,e4,H⟩:=bb H
       rcases cO H with⟨wy,H⟩| ⟨wy,H⟩
       ·obtain rfl:=oi H
        exact qr [.b 3 wx,.a 6 (HW _ _ e4 h0 _ (eZ (ab (bJ) (aA)))),.b 8 wy] <| qt <| ⟨.inl rfl,bD (.bool ((n0.args.length:Int)==(0:Int))) h0 (bB (aj))⟩
       ·obtain rfl:=oi H
        exact qr [.b 3 wx,.a 6 (HW _ _ e4 h0 _ (eZ (ab (bJ) (aA)))),.b 8 wy] <| qt <| ⟨.inl rfl,bD (.bool false) h0 (bB (aj))⟩
      ·obtain rfl:=oi H
       exact qr [.b 3 wx] <| qt <| ⟨.inl rfl,bD (.bool false) h0 (bB (aj))⟩
     ·obtain rfl:=oi H
      exact qk <| qq <| q0 <| qt <| ⟨.inl rfl,bD (.bool false) h0 (bB (aj))⟩
end
end Go.Proofs.YtmekcfdllhphlaaDoor
namespace Go.Proofs.YtmekcfdllhphlaaDoor
open Go Go.R
open Go.IntKind (i64 u64 u8 u32)
def uo:ca:=ff [0,1,4,5,7,8,9,16] [] [252,204,140,196,68,251,204,251] [] []
def dk.l0 (m:Nat)(s0:List aa)(f0:aa→Option (Bool)):Nat→Int→Option (Sum Int (Int))
 | 0,_=>none
 | k+1,x0=>if (decide (x0<(s0.length:Int)))=true then ((ix s0 x0).bind fun v0=>(f0 v0).bind fun r0=>if r0=true then (some (.inl x0)) else (dk.l0 m s0 f0 k (i64.wrap (x0+(1:Int))))) else (some (.inr x0))
def dk.f (m:Nat)(s0:List aa)(f0:aa→Option (Bool)):Option (Int):=(dk.l0 m s0 f0 m (0:Int)).bind fun bR=>match bR with | .inl r1=>some r1 | .inr x1=>some (-1:Int)
def dk.fin (h:AHeap)(r:Int)(s:St):Prop:=aP Tryd.prog (s.open uo) Tryd.f52.results.toList=some (.int .i64 r)∧s.h=h
def MG (cf:CallF)(m:Nat):Prop:=∀(s0:List aa) (f0:aa→Option (Bool)) (r:Int),dk.f m s0 f0=some r→∀h,0<h.next→∀(dJ:FuncId) (aT:List AV),aC (.fn dJ aT) = .fn dJ aT→(∀(a0:aa) r,f0 a0=some r→cf dJ ([.agg [.int .i64 a0.kind,.int .i64 a0.int,.str a0.label,af.fz a0.args]]++aT) h=some (.bool r,h))→∀xs,xs.map aC=[ae.fz s0,.fn dJ aT]→cf 52 xs h=some (.int .i64 r,h)
section
variable {cf:CallF}{m:Nat}
theorem dk.cw (h:AHeap)(L:Mem)(dJ:FuncId)(aT:List AV)(s0:List aa)(f0:aa→Option (Bool))  (gH:aC (.fn dJ aT) = .fn dJ aT)(gZ:∀(a0:aa) r,f0 a0=some r→cf dJ ([.agg [.int .i64 a0.kind,.int .i64 a0.int,.str a0.label,af.fz a0.args]]++aT) h=some (.bool r,h))  : cD Tryd.prog cf uo m (sub [1,0,1,0,0] (codeOf Tryd.f52)) (fun k (σ:Int)=>dk.l0 m s0 f0 k σ) (fun σ s=>match σ with | x0=>s=⟨[ae.fz s0,.fn dJ aT,.any,.any,.int .i64 (s0.length:Int),.int .i64 x0,.any,.any],[],h⟩∧Has h (L)) (fun out e s=>(e = .exit 0∧∃x0,.inr x0=out∧∃qR qS FC zi FD,s=⟨[qR,qS,.any,.any,FC,zi,FD,.any],[],h⟩∧Has h (L))∨(e = .ret∧∃r,.inl r=out∧dk.fin h r s)):=by
 refine jW (fun _=>rfl) ?_
 rintro k x0 s out ⟨rfl,o0⟩ H
 have H:dk.l0 m s0 f0 (k+1) x0=some out:=H
 refine q1 <| qq <| qc H (fun c0 H=>?_) (fun c0 H=>?_)
 ·refine qk <| qq <| qb 1 <| qq <| q0 <| qq ?_
  obtain⟨v0,e0,H⟩:=bb H
  obtain⟨r0,e1,H⟩:=bb H
  refine qr [.v 3 (cH (k:=.i64) (E:=ae) (l:=s0) oa e0),.v 4 (gf  (E:=ae) (l:=s0) h xF xG e0),.a 5 (gZ _ _ e1)] <| qc H (fun c1 H=>?_) (fun c1 H=>?_)
  ·exact q1 <| qt <| Sa (⟨rfl,_,oi H,⟨by kernel_rfl,by kernel_rfl⟩⟩)
  ·exact qk <| q0 <| ⟨i64.wrap (x0+(1:Int)),⟨by kernel_rfl,o0⟩,H⟩
 ·exact qx 0 <| Or.inl (⟨rfl,x0,oi H,ae.fz s0,.fn dJ aT,.int .i64 (s0.length:Int),.int .i64 x0,.bool (decide (x0<(s0.length:Int))),by kernel_rfl,o0⟩)
theorem sU {a7:FuncId→ca}(ha:a7 52=uo)  (s0:List aa)(f0:aa→Option (Bool))(h:AHeap)(L:Mem)(dJ:FuncId)(aT:List AV)  (gH:aC (.fn dJ aT) = .fn dJ aT)(gZ:∀(a0:aa) r,f0 a0=some r→cf dJ ([.agg [.int .i64 a0.kind,.int .i64 a0.int,.str a0.label,af.fz a0.args]]++aT) h=some (.bool r,h))(o:Has h (L)){out:Int}(H:dk.f m s0 f0=some out) :
  ∃r h',bf Tryd.prog a7 cf m 52 [ae.fz s0,.fn dJ aT] h=some (r,h')∧r=(.int .i64 out)∧h'=h:=by
 refine aq (fn:=Tryd.f52) ha Tryd.func52 (by kernel_rfl) (by kernel_rfl) ?_
 refine aQ (Q:=fun s=>dk.fin h out s) (fun _ _ ⟨h1,h2,h3⟩=>⟨h1,_,h2,rfl,h3⟩) ?_
 have H:_=some out:=H
 unfold dk.f at H
 show cX _ cf uo m _ ⟨ae.fz s0 :: .fn dJ aT::Dg [],[],h⟩ _
 refine q1 <| qq <| qq <| q0 <| qb 0 ?_
 obtain⟨bR,e2,H⟩:=bb H
 refine ql (dk.cw h L dJ aT s0 f0  gH gZ  (0:Int) _ _ ⟨by kernel_rfl,o⟩ e2) ?_
 rintro e s (⟨rfl,x1,rfl,g0,g1,g2,g3,g4,rfl,o1⟩| ⟨rfl,r1,rfl,pW⟩)
 ·try dsimp only at H
  obtain rfl:=oi H
  exact q1 <| qt <| ⟨.inl rfl,⟨by kernel_rfl,by kernel_rfl⟩⟩
 ·try dsimp only at H
  obtain rfl:=oi H
  exact⟨.inl rfl,pW⟩
end
end Go.Proofs.YtmekcfdllhphlaaDoor
namespace Go.Proofs.YtmekcfdllhphlaaDoor
open Go Go.R
open Go.IntKind (i64 u64 u8 u32)
def xN:ca:=ff [0,1,4] [] [4,3] [] []
def eG.f (m:Nat)(s0:List aa)(f0:aa→Option (Bool)):Option (Bool):=(dk.f m s0 f0).bind fun x0=>some (decide (x0≥(0:Int)))
def eG.fin (h:AHeap)(r:Bool)(s:St):Prop:=aP Tryd.prog (s.open xN) Tryd.f34.results.toList=some (.bool r)∧s.h=h
def MH (cf:CallF)(m:Nat):Prop:=∀(s0:List aa) (f0:aa→Option (Bool)) (r:Bool),eG.f m s0 f0=some r→∀h,0<h.next→∀(dJ:FuncId) (aT:List AV),aC (.fn dJ aT) = .fn dJ aT→(∀(a0:aa) r,f0 a0=some r→cf dJ ([.agg [.int .i64 a0.kind,.int .i64 a0.int,.str a0.label,af.fz a0.args]]++aT) h=some (.bool r,h))→∀xs,xs.map aC=[ae.fz s0,.fn dJ aT]→cf 34 xs h=some (.bool r,h)
section
variable {cf:CallF}{m:Nat}
theorem om {a7:FuncId→ca}(ha:a7 34=xN)(Ks:MG cf m)(s0:List aa)(f0:aa→Option (Bool))(h:AHeap)(L:Mem)(dJ:FuncId)(aT:List AV)  (gH:aC (.fn dJ aT) = .fn dJ aT)(gZ:∀(a0:aa) r,f0 a0=some r→cf dJ ([.agg [.int .i64 a0.kind,.int .i64 a0.int,.str a0.label,af.fz a0.args]]++aT) h=some (.bool r,h))(o:Has h (L)){out:Bool}(H:eG.f m s0 f0=some out) :
  ∃r h',bf Tryd.prog a7 cf m 34 [ae.fz s0,.fn dJ aT] h=some (r,h')∧r=(.bool out)∧h'=h:=by
 refine aq (fn:=Tryd.f34) ha Tryd.func34 (by kernel_rfl) (by kernel_rfl) ?_
 refine aQ (Q:=fun s=>eG.fin h out s) (fun _ _ ⟨h1,h2,h3⟩=>⟨h1,_,h2,rfl,h3⟩) ?_
 have H:_=some out:=H
 unfold eG.f at H
 show cX _ cf xN m _ ⟨[ae.fz s0,.fn dJ aT,.any],[],h⟩ _
 refine q1 <| qq ?_
 obtain⟨x0,e0,H⟩:=bb H
 obtain rfl:=oi H
 exact qr [.a 2 (Ks _ _ _ e0 h (Has.pos o) dJ aT gH gZ _ (ao (aR (ik (E:=ae))) (ao (gH) (cq))))] <| qt <| ⟨.inl rfl,⟨by kernel_rfl,by kernel_rfl⟩⟩
end
end Go.Proofs.YtmekcfdllhphlaaDoor
namespace Go.Proofs.YtmekcfdllhphlaaDoor
open Go Go.R
open Go.IntKind (i64 u64 u8 u32)
end Go.Proofs.YtmekcfdllhphlaaDoor
namespace Go.Proofs.YtmekcfdllhphlaaDoor
open Go Go.R
open Go.IntKind (i64 u64 u8 u32)
end Go.Proofs.YtmekcfdllhphlaaDoor
namespace Go.Proofs.YtmekcfdllhphlaaDoor
open Go Go.R
open Go.IntKind (i64 u64 u8 u32)
def eQ (c:Int):Bool:=decide (97≤c∧c≤122)||decide (65≤c∧c≤90)||decide (48≤c∧c≤57)||c==95
theorem uq {m:Nat}(c:Int):dM.f m c=some (eQ c):=by
 unfold dM.f
 by_cases h1:97≤c<;>by_cases h2:c≤122<;>by_cases h3:65≤c<;>by_cases h4:c≤90<;>by_cases h5:48≤c<;>by_cases h6:c≤57<;>simp [eQ,h1,h2,h3,h4,h5,h6]<;>omega
theorem oK {s:ByteArray}{i:Nat}(h:i<s.size):∃c:UInt8,s.data.toList[i]? = some c∧bt s (i:Int)=some (c.toNat:Int):=by
 have h':i<s.data.toList.length:=by simpa using h
 refine⟨s.data.toList[i],QZ h',?_⟩
 unfold bt; rw [if_pos (by omega),QT,QZ h']; rfl
theorem xO {m:Nat}{s:ByteArray}(hs:s.size≤16):∀(f i:Nat),s.size - i<f→i≤s.size→
  ∃o,bU.l0 m s f (i:Int)=some o∧((∃x,o = .inr x)∧((s.data.toList.drop i).all fun c=>eQ (c.toNat:Int))=true∨o = .inl false∧((s.data.toList.drop i).all fun c=>eQ (c.toNat:Int))=false)
 | 0,i,hf,_=>absurd hf (by omega)
 | f+1,i,hf,hi=>by
  unfold bU.l0
  by_cases h:i<s.size
  ·obtain⟨c,hc,hb⟩:=oK h
   obtain⟨h4,h5⟩:=QX.1 hc
   have hd:s.data.toList.drop i=c::s.data.toList.drop (i+1):=by rw [←h5]; exact Q9 h4
   rw [if_pos (by simp only [decide_eq_true_eq]; omega),hb,QM,uq,QM,hd,RL]
   cases hl:eQ (c.toNat:Int) with
   | false=>exact⟨_,rfl,.inr ⟨rfl,rfl⟩⟩
   | true=>
    obtain⟨o,h1,h2⟩:=xO (m:=m) hs f (i+1) (by omega) (by omega)
    rw [if_neg (by simp),aD (by omega) (by omega),show (i:Int)+1=((i+1:Nat):Int) by omega,h1]
    exact⟨o,rfl,by simpa using h2⟩
  ·refine⟨_,by rw [if_neg (by simp only [decide_eq_true_eq]; omega)],.inl ⟨⟨_,rfl⟩,?_⟩⟩
   rw [Rz (by simp; omega)]; rfl
def ur (s:ByteArray)(lo hi:Int):Bool:=match s.data.toList with
 | []=>false
 | c::cs=>decide (cs.length≤15)&&decide (lo≤(c.toNat:Int))&&decide ((c.toNat:Int)≤hi)&&((c::cs).all fun c=>eQ (c.toNat:Int))
theorem zk {m:Nat}(hm:20≤m)(s:ByteArray)(lo hi:Int):bU.f m s lo hi=some (ur s lo hi):=by
 have hsz:s.size=s.data.toList.length:=by simp
 unfold bU.f ur
 cases hl:s.data.toList with
 | nil=>rw [if_pos (by rw [hl,RN] at hsz; simp only [decide_eq_true_eq]; omega)]
 | cons c cs=>
  rw [hl,RA] at hsz
  rw [if_neg (by simp only [decide_eq_true_eq]; omega)]
  dsimp only
  by_cases h16:cs.length≤15
  ·obtain⟨c',h1,h2⟩:=oK (s:=s) (i:=0) (by omega)
   rw [hl] at h1
   simp only [RC,QQ] at h1
   subst h1
   have h2:bt s 0=_:=h2
   rw [if_neg (by simp only [decide_eq_true_eq]; omega),h2,QM]
   by_cases h3:(c.toNat:Int)<lo
   ·rw [if_pos (by simpa using h3)]
    simp only [QQ]
    rw [show decide (lo≤(c.toNat:Int))=false by simp; omega]; simp
   rw [if_neg (by simpa using h3),QM]
   by_cases h4:(c.toNat:Int) > hi
   ·rw [if_pos (by simpa using h4)]
    simp only [QQ]
    rw [show decide ((c.toNat:Int)≤hi)=false by simp; omega]; simp
   rw [if_neg (by simpa using h4)]
   obtain⟨o,k1,k2⟩:=xO (m:=m) (s:=s) (by omega) m 0 (by omega) (by omega)
   have k1:bU.l0 m s m 0=_:=k1
   rw [k1,QM]
   rw [Rr,hl] at k2
   rw [show decide (lo≤(c.toNat:Int))=true by simp; omega,show decide ((c.toNat:Int)≤hi)=true by simp; omega,show decide (cs.length≤15)=true by simpa using h16]
   simp only [R5]
   rcases k2 with⟨⟨x,rfl⟩,k⟩| ⟨rfl,k⟩
   ·rw [k]
   ·rw [k]
  ·rw [if_pos (by simp only [decide_eq_true_eq]; omega),show decide (cs.length≤15)=false by simp; omega]; rfl
def jw (s:ByteArray):Bool:=s.data.toList==[124]||s.data.toList==[35]||ur s 97 122
theorem rN {m:Nat}(hm:20≤m)(s:ByteArray):eP.f m s=some (jw s):=by
 unfold eP.f jw
 show (if (s.data.toList==[124])=true then _ else if (s.data.toList==[35])=true then _ else _)=_
 cases h1:s.data.toList==[124] with
 | true=>rfl
 | false=>
  cases h2:s.data.toList==[35] with
  | true=>rfl
  | false=>rw [zk hm]; rfl
theorem rO {s:ByteArray}(h:jw s=true):1≤s.size∧s.size≤16:=by
 have hsz:s.size=s.data.toList.length:=by simp
 unfold jw at h
 simp only [RD,beq_iff_eq] at h
 rcases h with (h | h) | h
 ·rw [h] at hsz; simp at hsz; omega
 ·rw [h] at hsz; simp at hsz; omega
 ·unfold ur at h
  split at h
  ·cases h
  ·rename_i c cs hl
   rw [hl] at hsz
   simp only [QR,decide_eq_true_eq] at h
   simp at hsz; omega
def uu (s:ByteArray):Bool:=s.data.toList==[112,114,111,99]||s.data.toList==[99,101,108,108]||s.data.toList==[112,111,114,116]
theorem zl {m:Nat}(s:ByteArray):eF.f m s=some (uu s):=by
 unfold eF.f uu
 show (if (s.data.toList==[112,114,111,99])=true then _ else if (s.data.toList==[99,101,108,108])=true then _ else some (s.data.toList==[112,111,114,116]))=_
 cases h1:s.data.toList==[112,114,111,99] with
 | true=>rfl
 | false=>
  cases h2:s.data.toList==[99,101,108,108] with
  | true=>rfl
  | false=>rfl
theorem Bh {m:Nat}{s:List Int}{f0:Int→Option Bool}{g:Int→Bool}(hs:s.length<2 ^ 40)(C:∀x∈s,f0 x=some (g x)):∀(f i:Nat),s.length - i<f→i≤s.length→
  ∃o,di.l0 m s f0 f (i:Int)=some o∧((∃x,o = .inr x)∧(s.drop i).any g=false∨(∃x:Nat,o = .inl (x:Int))∧(s.drop i).any g=true)
 | 0,i,hf,_=>absurd hf (by omega)
 | f+1,i,hf,hi=>by
  have pS:(2:Nat) ^ 40=1099511627776:=by decide
  unfold di.l0
  by_cases h:i<s.length
  ·have hx:ix s (i:Int)=some s[i]:=by unfold ix; rw [if_pos (by omega)]; simp [h]
   rw [if_pos (by simp only [decide_eq_true_eq]; omega),hx,QM,C _ (RW h),QM,Q9 h,List.any_cons]
   cases g s[i] with
   | true=>exact⟨_,rfl,.inr ⟨⟨i,rfl⟩,rfl⟩⟩
   | false=>
    obtain⟨o,h1,h2⟩:=Bh (m:=m) hs C f (i+1) (by omega) (by omega)
    rw [if_neg (by simp),aD (by omega) (by omega),show (i:Int)+1=((i+1:Nat):Int) by omega,h1]
    exact⟨o,rfl,by simpa using h2⟩
  ·refine⟨_,by rw [if_neg (by simp only [decide_eq_true_eq]; omega)],.inl ⟨⟨_,rfl⟩,?_⟩⟩
   rw [Rz (by omega)]; rfl
theorem zm {m:Nat}{s:List Int}{f0:Int→Option Bool}{g:Int→Bool}(hs:s.length<2 ^ 40)(hm:s.length<m)(C:∀x∈s,f0 x=some (g x)):eC.f m s f0=some (s.any g):=by
 obtain⟨o,h1,h2⟩:=Bh (m:=m) hs C m 0 (by omega) (by omega)
 have h1:di.l0 m s f0 m 0=_:=h1
 unfold eC.f di.f
 rw [h1,QM]
 rw [Rr] at h2
 rcases h2 with⟨⟨x,rfl⟩,k⟩| ⟨⟨x,rfl⟩,k⟩
 ·rw [k]; rfl
 ·rw [k]
  simp only [QM,QQ]
  simp
theorem Bi {m:Nat}{s:List aa}{f0:aa→Option Bool}{g:aa→Bool}(hs:s.length<2 ^ 40)(C:∀x∈s,f0 x=some (g x)):∀(f i:Nat),s.length - i<f→i≤s.length→
  ∃o,dk.l0 m s f0 f (i:Int)=some o∧((∃x,o = .inr x)∧(s.drop i).any g=false∨(∃x:Nat,o = .inl (x:Int))∧(s.drop i).any g=true)
 | 0,i,hf,_=>absurd hf (by omega)
 | f+1,i,hf,hi=>by
  have pS:(2:Nat) ^ 40=1099511627776:=by decide
  unfold dk.l0
  by_cases h:i<s.length
  ·have hx:ix s (i:Int)=some s[i]:=by unfold ix; rw [if_pos (by omega)]; simp [h]
   rw [if_pos (by simp only [decide_eq_true_eq]; omega),hx,QM,C _ (RW h),QM,Q9 h,List.any_cons]
   cases g s[i] with
   | true=>exact⟨_,rfl,.inr ⟨⟨i,rfl⟩,rfl⟩⟩
   | false=>
    obtain⟨o,h1,h2⟩:=Bi (m:=m) hs C f (i+1) (by omega) (by omega)
    rw [if_neg (by simp),aD (by omega) (by omega),show (i:Int)+1=((i+1:Nat):Int) by omega,h1]
    exact⟨o,rfl,by simpa using h2⟩
  ·refine⟨_,by rw [if_neg (by simp only [decide_eq_true_eq]; omega)],.inl ⟨⟨_,rfl⟩,?_⟩⟩
   rw [Rz (by omega)]; rfl
theorem zn {m:Nat}{s:List aa}{f0:aa→Option Bool}{g:aa→Bool}(hs:s.length<2 ^ 40)(hm:s.length<m)(C:∀x∈s,f0 x=some (g x)):eG.f m s f0=some (s.any g):=by
 obtain⟨o,h1,h2⟩:=Bi (m:=m) hs C m 0 (by omega) (by omega)
 have h1:dk.l0 m s f0 m 0=_:=h1
 unfold eG.f dk.f
 rw [h1,QM]
 rw [Rr] at h2
 rcases h2 with⟨⟨x,rfl⟩,k⟩| ⟨⟨x,rfl⟩,k⟩
 ·rw [k]; rfl
 ·rw [k]
  simp only [QM,QQ]
  simp
def gx (n:aa)(size:Int):Bool:=
 if n.kind=0 then decide (0≤n.int)&&n.label.data.toList==[]&&n.args.isEmpty
 else if n.kind=1 then decide (-1099511627776≤n.int)&&decide (n.int≤1099511627776)&&n.label.data.toList==[]&&n.args.isEmpty
 else if n.kind=2 then n.int==0&&jw n.label&&n.args.isEmpty
 else if n.kind=3 then n.int==0&&jw n.label&&decide (1≤n.args.length)&&decide (n.args.length≤8)&&n.args.all fun a=>decide (0≤a)&&decide (a<size)
 else if n.kind=4 then decide (0≤n.int)&&uu n.label&&n.args.isEmpty
 else false
theorem uv (l:List Int):((l.length:Int)==(0:Int))=l.isEmpty:=by cases l<;>simp; omega
theorem zo {m:Nat}(hm:20≤m)(n:aa)(size:Int):fm.f m n size=some (gx n size):=by
 unfold fm.f gx
 by_cases k0:n.kind=0
 ·rw [if_pos (by simpa using k0),if_pos k0]
  by_cases h1:0≤n.int
  ·rw [if_pos (by simpa using h1),show decide (0≤n.int)=true by simpa using h1]
   show (if (n.label.data.toList==[])=true then _ else _)=_
   cases n.label.data.toList==[] with
   | true=>rw [if_pos rfl,uv]; rfl
   | false=>rfl
  ·rw [if_neg (by simpa using h1),show decide (0≤n.int)=false by simp; omega]; rfl
 rw [if_neg (by simpa using k0),if_neg k0]
 by_cases k1:n.kind=1
 ·rw [if_pos (by simpa using k1),if_pos k1]
  by_cases h1 : -1099511627776≤n.int
  ·rw [if_pos (by simpa using h1),show decide (-1099511627776≤n.int)=true by simpa using h1]
   by_cases h3:n.int≤1099511627776
   ·rw [if_pos (by simpa using h3),show decide (n.int≤1099511627776)=true by simpa using h3]
    show (if (n.label.data.toList==[])=true then _ else _)=_
    cases n.label.data.toList==[] with
    | true=>rw [if_pos rfl,uv]; rfl
    | false=>rfl
   ·rw [if_neg (by simpa using h3),show decide (n.int≤1099511627776)=false by simp; omega]; rfl
  ·rw [if_neg (by simpa using h1),show decide (-1099511627776≤n.int)=false by simp; omega]; rfl
 rw [if_neg (by simpa using k1),if_neg k1]
 by_cases k2:n.kind=2
 ·rw [if_pos (by simpa using k2),if_pos k2]
  cases h1:n.int==0 with
  | false=>rfl
  | true=>
   rw [if_pos rfl,rN hm,QM]
   cases jw n.label with
   | false=>rfl
   | true=>rw [if_pos rfl,uv]; rfl
 rw [if_neg (by simpa using k2),if_neg k2]
 by_cases k3:n.kind=3
 ·rw [if_pos (by simpa using k3),if_pos k3]
  cases h1:n.int==0 with
  | false=>rfl
  | true=>
   rw [if_pos rfl,rN hm,QM]
   cases jw n.label with
   | false=>rfl
   | true=>
    rw [if_pos rfl]
    by_cases g1:1≤n.args.length
    ·rw [if_pos (by simp only [decide_eq_true_eq]; omega),show decide (1≤n.args.length)=true by simpa using g1]
     by_cases g2:n.args.length≤8
     ·rw [if_pos (by simp only [decide_eq_true_eq]; omega),show decide (n.args.length≤8)=true by simpa using g2]
      rw [zm (g:=fun a=>!(decide (0≤a)&&decide (a<size))) (by omega) (by omega) (fun a _=>by
       unfold eD.f
       by_cases w:a<0
       ·rw [if_pos (by simpa using w),show decide (0≤a)=false by simp; omega]; rfl
       ·rw [if_neg (by simpa using w),show decide (0≤a)=true by simp; omega]
        by_cases w2:a<size
        ·rw [show decide (a≥size)=false from decide_eq_false (by omega),show decide (a<size)=true from decide_eq_true w2]; rfl
        ·rw [show decide (a≥size)=true from decide_eq_true (by omega),show decide (a<size)=false from decide_eq_false w2]; rfl),QM]
      simp [List.not_any_eq_all_not]
     ·rw [if_neg (by simp only [decide_eq_true_eq]; omega),show decide (n.args.length≤8)=false from decide_eq_false g2]; rfl
    ·rw [if_neg (by simp only [decide_eq_true_eq]; omega),show decide (1≤n.args.length)=false from decide_eq_false g1]; rfl
 rw [if_neg (by simpa using k3),if_neg k3]
 by_cases k4:n.kind=4
 ·rw [if_pos (by simpa using k4),if_pos k4]
  by_cases h1:0≤n.int
  ·rw [if_pos (by simpa using h1),show decide (0≤n.int)=true by simpa using h1,zl,QM]
   cases uu n.label with
   | false=>rfl
   | true=>rw [if_pos rfl,uv]; rfl
  ·rw [if_neg (by simpa using h1),show decide (0≤n.int)=false by simp; omega]; rfl
 rw [if_neg (by simpa using k4),if_neg k4]
end Go.Proofs.YtmekcfdllhphlaaDoor
namespace Go.Proofs.YtmekcfdllhphlaaDoor
open Go Go.R
open Go.IntKind (i64 u64 u8 u32)
def nf:ca:=ff [0,1,2,3,8,9,14,34] [] [224,160,224,192,64,192,192] [] []
def aG.l1 (m:Nat)(a0:Int)(aF:Int→Int→Option (Int)):Nat→(List Int)→Int→Option ((List Int) × Int)
 | 0,_,_=>none
 | k+1,bX,j0=>if (decide (j0 > a0))=true then ((ix bX j0).bind fun v0=>(ix bX (i64.wrap (j0 - (1:Int)))).bind fun v1=>(aF v0 v1).bind fun r0=>if (decide (r0<(0:Int)))=true then ((ix bX (i64.wrap (j0 - (1:Int)))).bind fun v2=>(ix bX j0).bind fun v3=>(ix bX j0).bind fun v4=>(ix (bX.set j0.toNat v2) (i64.wrap (j0 - (1:Int)))).bind fun v5=>aG.l1 m a0 aF k ((bX.set j0.toNat v2).set (i64.wrap (j0 - (1:Int))).toNat v3) (i64.wrap (j0 - (1:Int)))) else (some ((bX,j0)))) else (some ((bX,j0)))
def aG.l0 (m:Nat)(a0:Int)(b0:Int)(aF:Int→Int→Option (Int)):Nat→(List Int)→Int→Option ((List Int) × Int)
 | 0,_,_=>none
 | k+1,aS,i0=>if (decide (i0<b0))=true then ((aG.l1 m a0 aF m aS i0).bind fun bR=>match bR with | (cj,j1)=>aG.l0 m a0 b0 aF k cj (i64.wrap (i0+(1:Int)))) else (some ((aS,i0)))
def aG.f (m:Nat)(ai:List Int)(a0:Int)(b0:Int)(aF:Int→Int→Option (Int)):Option ((List Int)):=(aG.l0 m a0 b0 aF m ai (i64.wrap (a0+(1:Int)))).bind fun b5=>match b5 with | (gD,i1)=>some gD
def aG.fin (L:Mem)(aL:Nat)(ai:List Int)(a0:Int)(b0:Int)(aF:Int→Int→Option (Int))(r:(List Int))(s:St):Prop:=aP Tryd.prog (s.open nf) Tryd.f119.results.toList=some (.tup [])∧Has s.h ((aL,.sl ai.length 1 (af.l r))::L)
def FF (cf:CallF)(m:Nat):Prop:=∀(ai:List Int) (a0:Int) (b0:Int) (aF:Int→Int→Option (Int)) (r:(List Int)),aG.f m ai a0 b0 aF=some r→∀h L (bI:Nat) (aL:Nat),Has h ((aL,.sl bI 1 (af.l ai))::L)→∀(nQ:FuncId) (dN:List AV),aC (.fn nQ dN) = .fn nQ dN→(∀h K,Has h (K++L)→∀(a0:Int) (a1:Int) r,aF a0 a1=some r→cf nQ ([.int .i64 a0,.int .i64 a1]++dN) h=some (.int .i64 r,h))→∀xs,xs.map aC=[.rs aL 0 bI 1,.int .i64 a0,.int .i64 b0,.fn nQ dN]→∃h',cf 119 xs h=some (.tup [],h')∧Has h' ((aL,.sl bI 1 (af.l r))::L)
section
variable {cf:CallF}{m:Nat}
theorem aG.iS (L:Mem)(aL:Nat)(nQ:FuncId)(dN:List AV)(ai:List Int)(a0:Int)(b0:Int)(aF:Int→Int→Option (Int))(i0:Int)  (zp:aC (.fn nQ dN) = .fn nQ dN)(wz:∀h K,Has h (K++L)→∀(a0:Int) (a1:Int) r,aF a0 a1=some r→cf nQ ([.int .i64 a0,.int .i64 a1]++dN) h=some (.int .i64 r,h))  : cD Tryd.prog cf nf m (sub [1,0,0,1,0,0,1,0,0] (codeOf Tryd.f119)) (fun k (σ:(List Int) × Int)=>aG.l1 m a0 aF k σ.1 σ.2) (fun σ s=>match σ with | (bX,j0)=>∃h1,s=⟨[.rs aL 0 ai.length 1,.int .i64 a0,.int .i64 b0,.fn nQ dN,.int .i64 i0,.int .i64 j0,.any,.any],[],h1⟩∧Has h1 ((aL,.sl ai.length 1 (af.l bX))::L)) (fun out e s=>(e = .exit 2∧∃bX j0,(bX,j0)=out∧∃FD Kt h1,s=⟨[.rs aL 0 ai.length 1,.int .i64 a0,.int .i64 b0,.fn nQ dN,.int .i64 i0,FD,.any,Kt],[],h1⟩∧Has h1 ((aL,.sl ai.length 1 (af.l bX))::L))):=by
 refine jW (fun _=>rfl) ?_
 rintro k ⟨bX,j0⟩ s out ⟨h1,rfl,o1⟩ H
 have H:aG.l1 m a0 aF (k+1) bX j0=some out:=H
 refine qq <| qq ?_
 rcases cO H with⟨c1,H⟩| ⟨c1,H⟩
 ·obtain⟨v0,e0,H⟩:=bb H
  obtain⟨v1,e1,H⟩:=bb H
  obtain⟨r0,e2,H⟩:=bb H
  refine qr [.b 3 c1,.v 7 (aY (k:=.i64) (E:=af) (l:=bX) (q:=0) fV o1 rfl e0),.v 8 (cp  (E:=af) (l:=bX) (q:=0) o1 rfl A3 e0 rfl),.v 12 (aY (k:=.i64) (E:=af) (l:=bX) (q:=0) fV o1 rfl e1),.v 13 (cp  (E:=af) (l:=bX) (q:=0) o1 rfl A3 e1 rfl),.a 14 (wz h1 [(aL,.sl ai.length 1 (af.l bX))] o1 _ _ _ e2)] <| qc H (fun c2 H=>?_) (fun c2 H=>?_)
  ·refine qk <| qq <| qb 3 ?_
   obtain⟨v2,e3,H⟩:=bb H
   obtain⟨v3,e4,H⟩:=bb H
   obtain⟨v4,e5,H⟩:=bb H
   obtain⟨h2,e6,o2⟩:=eR (P:=Tryd.prog) (tf:=3) (E:=af) (l:=bX) (q:=0) (v:=v2) (x:=.int .i64 v2) o1 rfl Z3 e5 rfl rfl
   obtain⟨v5,e7,H⟩:=bb H
   obtain⟨h3,e8,o3⟩:=eR (P:=Tryd.prog) (tf:=3) (E:=af) (l:=(bX.set j0.toNat v2)) (q:=0) (v:=v3) (x:=.int .i64 v3) o2 rfl Z3 e7 rfl rfl
   exact qr [.v 8 (aY (k:=.i64) (E:=af) (l:=bX) (q:=0) fV o1 rfl e3),.v 9 (cp  (E:=af) (l:=bX) (q:=0) o1 rfl A3 e3 rfl),.v 12 (aY (k:=.i64) (E:=af) (l:=bX) (q:=0) fV o1 rfl e4),.v 13 (cp  (E:=af) (l:=bX) (q:=0) o1 rfl A3 e4 rfl),.v 14 (aY (k:=.i64) (E:=af) (l:=bX) (q:=0) fV o1 rfl e5),.w 15 e6,.v 16 (aY (k:=.i64) (E:=af) (l:=(bX.set j0.toNat v2)) (q:=0) fV o2 rfl e7),.w 17 e8] <| q0 <| ⟨((bX.set j0.toNat v2).set (i64.wrap (j0 - (1:Int))).toNat v3,i64.wrap (j0 - (1:Int))),⟨h3,by kernel_rfl,o3⟩,H⟩
  ·exact qx 2 <| ⟨rfl,bX,j0,oi H,.int .i64 j0,.bool (decide (r0<(0:Int))),h1,by kernel_rfl,o1⟩
 ·exact qr [.b 3 c1] <| GK <| qx 2 <| ⟨rfl,bX,j0,oi H,.int .i64 j0,.bool false,h1,by kernel_rfl,o1⟩
theorem aG.cw (L:Mem)(aL:Nat)(nQ:FuncId)(dN:List AV)(ai:List Int)(a0:Int)(b0:Int)(aF:Int→Int→Option (Int))  (zp:aC (.fn nQ dN) = .fn nQ dN)(wz:∀h K,Has h (K++L)→∀(a0:Int) (a1:Int) r,aF a0 a1=some r→cf nQ ([.int .i64 a0,.int .i64 a1]++dN) h=some (.int .i64 r,h))  : cD Tryd.prog cf nf m (sub [1,0,0] (codeOf Tryd.f119)) (fun k (σ:(List Int) × Int)=>aG.l0 m a0 b0 aF k σ.1 σ.2) (fun σ s=>match σ with | (aS,i0)=>∃h0,s=⟨.rs aL 0 ai.length 1 :: .int .i64 a0 :: .int .i64 b0 :: .fn nQ dN :: .int .i64 i0::mD [],[],h0⟩∧Has h0 ((aL,.sl ai.length 1 (af.l aS))::L)) (fun out e s=>(e = .exit 0∧∃aS i0,(aS,i0)=out∧∃qR qS Bb wo zi wA h0,s=⟨[qR,qS,Bb,wo,zi,.any,wA,.any],[],h0⟩∧Has h0 ((aL,.sl ai.length 1 (af.l aS))::L))):=by
 refine jW (fun _=>rfl) ?_
 rintro k ⟨aS,i0⟩ s out ⟨h0,rfl,o0⟩ H
 have H:aG.l0 m a0 b0 aF (k+1) aS i0=some out:=H
 refine qq <| qq <| q0 <| qc H (fun c0 H=>?_) (fun c0 H=>?_)
 ·refine qk <| qq <| qb 1 <| qq <| q0 <| qb 2 ?_
  obtain⟨bR,e9,H⟩:=bb H
  refine ql (aG.iS L aL nQ dN ai a0 b0 aF i0  zp wz  (aS,i0) _ _ ⟨h0,by kernel_rfl,o0⟩ e9) ?_
  rintro e s ⟨rfl,cj,j1,rfl,g0,g1,h4,rfl,o4⟩
  try dsimp only at H
  exact q0 <| ⟨(cj,i64.wrap (i0+(1:Int))),⟨h4,by kernel_rfl,o4⟩,H⟩
 ·exact qx 0 <| ⟨rfl,aS,i0,oi H,.rs aL 0 ai.length 1,.int .i64 a0,.int .i64 b0,.fn nQ dN,.int .i64 i0,.bool (decide (i0<b0)),h0,by kernel_rfl,o0⟩
theorem ky {a7:FuncId→ca}(ha:a7 119=nf)  (ai:List Int)(a0:Int)(b0:Int)(aF:Int→Int→Option (Int))(h:AHeap)(L:Mem)(aL:Nat)(nQ:FuncId)(dN:List AV)  (zp:aC (.fn nQ dN) = .fn nQ dN)(wz:∀h K,Has h (K++L)→∀(a0:Int) (a1:Int) r,aF a0 a1=some r→cf nQ ([.int .i64 a0,.int .i64 a1]++dN) h=some (.int .i64 r,h))(o:Has h ((aL,.sl ai.length 1 (af.l ai))::L)){out:(List Int)}(H:aG.f m ai a0 b0 aF=some out) :
  ∃r h',bf Tryd.prog a7 cf m 119 [.rs aL 0 ai.length 1,.int .i64 a0,.int .i64 b0,.fn nQ dN] h=some (r,h')∧r = .tup []∧Has h' ((aL,.sl ai.length 1 (af.l out))::L):=by
 refine aq (fn:=Tryd.f119) ha Tryd.func119 (by kernel_rfl) (by kernel_rfl) ?_
 refine aQ (Q:=fun s=>aG.fin L aL ai a0 b0 aF out s) (fun _ _ ⟨h1,h2,h3⟩=>⟨h1,_,h2,rfl,h3⟩) ?_
 have H:_=some out:=H
 unfold aG.f at H
 show cX _ cf nf m _ ⟨.rs aL 0 ai.length 1 :: .int .i64 a0 :: .int .i64 b0 :: .fn nQ dN::AW [],[],h⟩ _
 refine q1 <| qb 0 ?_
 obtain⟨b5,xP,H⟩:=bb H
 refine ql (aG.cw L aL nQ dN ai a0 b0 aF  zp wz  (ai,i64.wrap (a0+(1:Int))) _ _ ⟨h,by kernel_rfl,o⟩ xP) ?_
 rintro e s ⟨rfl,gD,i1,rfl,g2,g3,g4,g5,g6,g7,h5,rfl,o5⟩
 try dsimp only at H
 obtain rfl:=oi H
 exact⟨.inr rfl,⟨by kernel_rfl,he o5⟩⟩
end
end Go.Proofs.YtmekcfdllhphlaaDoor
namespace Go.Proofs.YtmekcfdllhphlaaDoor
open Go Go.R
open Go.IntKind (i64 u64 u8 u32)
structure Mv (lo hi:Nat)(l d:List Int):Prop where
 perm:d.Perm l
 out:∀k,k<lo∨hi≤k→gt d k=gt l k
 im:∀k,lo≤k→k<hi→∃k',lo≤k'∧k'<hi∧gt d k=gt l k'
theorem Mv.refl {lo hi:Nat}{l:List Int}:Mv lo hi l l:=⟨List.Perm.refl _,fun _ _=>rfl,fun k h1 h2=>⟨k,h1,h2,rfl⟩⟩
theorem Mv.trans {lo hi:Nat}{l d e:List Int}(a:Mv lo hi l d)(b:Mv lo hi d e):Mv lo hi l e:=
 ⟨b.perm.trans a.perm,fun k hk=>(b.out k hk).trans (a.out k hk),fun k h1 h2=>by
  obtain⟨k',g1,g2,g3⟩:=b.im k h1 h2
  obtain⟨OI,g4,g5,g6⟩:=a.im k' g1 g2
  exact⟨OI,g4,g5,g3.trans g6⟩⟩
theorem Mv.length {lo hi:Nat}{l d:List Int}(a:Mv lo hi l d):d.length=l.length:=a.perm.length_eq
theorem Mv.wide {lo hi Cz ju:Nat}{l d:List Int}(a:Mv lo hi l d)(h1:Cz≤lo)(h2:hi≤ju):Mv Cz ju l d:=
 ⟨a.perm,fun k hk=>a.out k (by omega),fun k h3 h4=>by
  by_cases h:lo≤k∧k<hi
  ·obtain⟨k',g1,g2,g3⟩:=a.im k h.1 h.2
   exact⟨k',by omega,by omega,g3⟩
  ·exact⟨k,h3,h4,a.out k (by omega)⟩⟩
theorem wB {lo hi i j:Nat}{l:List Int}(IX:lo≤i)(xd:i<hi)(I7:lo≤j)(Ap:j<hi)(h:hi≤l.length):Mv lo hi l (Bd l i j):=
 ⟨ma (by omega) (by omega),fun k hk=>by rw [jk (by omega) (by omega),if_neg (by omega),if_neg (by omega)],fun k h1 h2=>by
  rw [jk (by omega) (by omega)]
  split
  ·exact⟨i,IX,xd,rfl⟩
  split
  ·exact⟨j,I7,Ap,rfl⟩
  ·exact⟨k,h1,h2,rfl⟩⟩
def Cm (cmp:Int→Int→Option Int)(c:Int→Int→Int)(l:List Int):Prop:=∀x∈l,∀y∈l,cmp x y=some (c x y)
theorem Cm.perm {cmp c l d}(h:Cm cmp c l)(p:List.Perm d l):Cm cmp c d:=fun x hx y hy=>h x (p.mem_iff.1 hx) y (p.mem_iff.1 hy)
theorem Cm.at {cmp c}{l:List Int}(h:Cm cmp c l){i j:Nat}(hi:i<l.length)(hj:j<l.length):cmp (gt l i) (gt l j)=some (c (gt l i) (gt l j)):=h _ (aE hi) _ (aE hj)
structure Ord (c:Int→Int→Int)(l:List Int):Prop where
 tr:∀x∈l,∀y∈l,∀z∈l,0≤c y x→0≤c z y→0≤c z x
 GO:∀x∈l,∀y∈l,c x y<0→0≤c y x
theorem Ord.perm {c l d}(h:Ord c l)(p:List.Perm d l):Ord c d:=⟨fun x hx y hy z hz=>h.tr x (p.mem_iff.1 hx) y (p.mem_iff.1 hy) z (p.mem_iff.1 hz),fun x hx y hy=>h.GO x (p.mem_iff.1 hx) y (p.mem_iff.1 hy)⟩
def Sg (c:Int→Int→Int)(l:List Int)(a b:Nat):Prop:=∀i j,a≤i→i<j→j<b→0≤c (gt l j) (gt l i)
theorem Bj {m:Nat}{a i:Nat}{cmp:Int→Int→Option Int}{c:Int→Int→Int}:∀(f j:Nat) (d:List Int),j - a<f→a≤j→j≤i→i<d.length→d.length<2 ^ 40→Cm cmp c d→
  ∃d' x,aG.l1 m (a:Int) cmp f d (j:Int)=some (d',x)∧Mv a (i+1) d d'∧
   (Ord c d→(∀x y,a≤x→x<y→y≤i→x≠j→y≠j→0≤c (gt d y) (gt d x))→(∀y,j<y→y≤i→0≤c (gt d y) (gt d j))→Sg c d' a (i+1))
 | 0,j,d,hf,_,_,_,_,_=>absurd hf (by omega)
 | f+1,j,d,hf,h1,h2,h3,hs,C=>by
  have pS:(2:Nat) ^ 40=1099511627776:=by decide
  unfold aG.l1
  by_cases h:a<j
  ·have e1:i64.wrap ((j:Int) - 1)=((j - 1:Nat):Int):=by rw [aD (by omega) (by omega)]; omega
   rw [if_pos (by simp; omega),e1,bH (by omega),bH (by omega),QM,QM,C.at (by omega) (by omega),QM]
   by_cases hc:c (gt d j) (gt d (j - 1))<0
   ·rw [if_pos (by simpa using hc),QM,QM,QM,QT,QT,bH (by simp; omega),QM]
    obtain⟨d',x,k1,k2,k3⟩:=Bj (m:=m) (a:=a) (i:=i) (cmp:=cmp) (c:=c) f (j - 1) (Bd d j (j - 1)) (by omega) (by omega) (by omega) (by rw [pR]; omega) (by rw [pR]; omega) (C.perm (ma (by omega) (by omega)))
    refine⟨d',x,k1,(wB (by omega) (by omega) (by omega) (by omega) (by omega)).trans k2,fun O g1 g2=>k3 (O.perm (ma (by omega) (by omega))) (fun x y x1 x2 x3 x4 x5=>?_) (fun y y1 y2=>?_)⟩
    ·rw [jk (by omega) (by omega),jk (by omega) (by omega),if_neg x5,if_neg x4]
     by_cases hy:y=j
     ·subst hy
      rw [if_pos rfl,if_neg (by omega)]
      exact g1 _ _ (by omega) (by omega) (by omega) (by omega) (by omega)
     ·rw [if_neg hy]
      by_cases hx:x=j
      ·subst hx
       rw [if_pos rfl]
       exact g1 _ _ (by omega) (by omega) (by omega) (by omega) (by omega)
      ·rw [if_neg hx]
       exact g1 _ _ (by omega) (by omega) (by omega) (by omega) (by omega)
    ·rw [jk (by omega) (by omega),jk (by omega) (by omega),if_neg (by omega),if_pos rfl]
     by_cases hy:y=j
     ·subst hy
      rw [if_pos rfl]
      exact O.GO _ (aE (by omega)) _ (aE (by omega)) hc
     ·rw [if_neg hy]
      exact g2 _ (by omega) (by omega)
   ·rw [if_neg (by simpa using hc)]
    refine⟨d,j,rfl,Mv.refl,fun O g1 g2 x y x1 x2 x3=>?_⟩
    have hc:0≤c (gt d j) (gt d (j - 1)):=by omega
    by_cases hx:x=j
    ·subst hx; exact g2 _ x2 (by omega)
    ·by_cases hy:y=j
     ·subst hy
      by_cases hx1:x=y - 1
      ·subst hx1; exact hc
      ·exact O.tr _ (aE (by omega)) (gt d (y - 1)) (aE (by omega)) _ (aE (by omega)) (g1 _ _ x1 (by omega) (by omega) hx (by omega)) hc
     ·exact g1 _ _ x1 x2 (by omega) hx hy
  ·have:j=a:=by omega
   subst this
   rw [if_neg (by simp)]
   refine⟨d,j,rfl,Mv.refl,fun O g1 g2 x y x1 x2 x3=>?_⟩
   by_cases hx:x=j
   ·subst hx; exact g2 _ x2 (by omega)
   ·exact g1 _ _ x1 x2 (by omega) hx (by omega)
theorem Bk {m:Nat}{a b:Nat}{cmp:Int→Int→Option Int}{c:Int→Int→Int}(hm:2 ^ 41≤m):∀(f i:Nat) (d:List Int),b - i<f→a<i→b≤d.length→d.length<2 ^ 40→Cm cmp c d→
  ∃d' x,aG.l0 m (a:Int) (b:Int) cmp f d (i:Int)=some (d',x)∧Mv a b d d'∧(Ord c d→Sg c d a i→Sg c d' a b)
 | 0,i,d,hf,_,_,_,_=>absurd hf (by omega)
 | f+1,i,d,hf,h1,h2,hs,C=>by
  have pS:(2:Nat) ^ 40=1099511627776:=by decide
  have tj:(2:Nat) ^ 41=2199023255552:=by decide
  unfold aG.l0
  by_cases h:i<b
  ·obtain⟨d1,x1,k1,k2,k3⟩:=Bj (m:=m) (a:=a) (i:=i) (cmp:=cmp) (c:=c) m i d (by omega) (by omega) (by omega) (by omega) hs C
   have e3:i64.wrap ((i:Int)+1)=((i+1:Nat):Int):=by rw [aD (by omega) (by omega)]; omega
   rw [if_pos (by simp; omega),k1,QM]
   dsimp only
   rw [e3]
   have hl:=k2.length
   obtain⟨d',x,g1,g2,g3⟩:=Bk (a:=a) (b:=b) (cmp:=cmp) (c:=c) hm f (i+1) d1 (by omega) (by omega) (by omega) (by omega) (C.perm k2.perm)
   exact⟨d',x,g1,(k2.wide (QS _) (by omega)).trans g2,fun O S=>g3 (O.perm k2.perm) (k3 O (fun x y q1 q2 q3 q4 q5=>S x y q1 q2 (by omega)) (fun y q1 q2=>absurd q1 (by omega)))⟩
  ·exact⟨d,i,by rw [if_neg (by simp; omega)],Mv.refl,fun O S x y q1 q2 q3=>S x y q1 q2 (by omega)⟩
theorem uw {m:Nat}{a b:Nat}{cmp:Int→Int→Option Int}{c:Int→Int→Int}(hm:2 ^ 41≤m){l:List Int}(ha:a≤l.length)(hb:b≤l.length)(hs:l.length<2 ^ 40)(C:Cm cmp c l) :
  ∃d,aG.f m l (a:Int) (b:Int) cmp=some d∧Mv a b l d∧(Ord c l→Sg c d a b):=by
 have pS:(2:Nat) ^ 40=1099511627776:=by decide
 have tj:(2:Nat) ^ 41=2199023255552:=by decide
 have e3:i64.wrap ((a:Int)+1)=((a+1:Nat):Int):=by rw [aD (by omega) (by omega)]; omega
 obtain⟨d',x,g1,g2,g3⟩:=Bk (a:=a) (b:=b) (cmp:=cmp) (c:=c) hm m (a+1) l (by omega) (by omega) hb hs C
 exact⟨d',by unfold aG.f; rw [e3,g1]; rfl,g2,fun O=>g3 O fun x y q1 q2 q3=>absurd q3 (by omega)⟩
end Go.Proofs.YtmekcfdllhphlaaDoor
