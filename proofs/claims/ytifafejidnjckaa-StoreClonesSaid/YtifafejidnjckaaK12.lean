/- Part of the proof: PS1, PT6, PS2, PS3, PS4, PS5, PT7, PT8, PT9. -/
import Derived.Test.YtifafejidnjckaaK11
set_option linter.unusedVariables false
set_option linter.unusedSimpArgs false
set_option maxRecDepth 100000
open Bool renaming and_eq_true → Vu, false_eq_true → VB, or_eq_true → Wb, not_true → Wn, true_and → WZ
open Int renaming toNat_natCast → VD
open List renaming getElem?_eq_getElem → Vx, getElem?_eq_some_iff → Vy, drop_eq_getElem_cons → VE, length_cons → VF, mem_of_getElem? → VH, append_assoc → VI, replicate → VJ, getD_eq_getElem?_getD → VM, mem_singleton → VQ, mem_cons → VS, length_nil → VT, mem_append → VX, map_append → VY, getElem?_eq_none → V1, cons_append → V6, mem_map → V8, getElem?_cons_zero → V9, drop_zero → Wa, all_cons → Wf, mem_append_left → Wk, getElem?_map → Wx, drop_eq_nil_of_le → WE, idxOf_lt_length_of_mem → WJ, length_replicate → WO, ext_getElem? → WQ, getElem?_set → WR, range → WS
open Nat renaming le_refl → Vv, zero_add → VO, mul_le_mul_right → Wi, add_zero → WV, sub_self → WW
open Option renaming bind_some → Vq
open Option.some renaming injEq → Vt, inj → Wc
open Prod.mk renaming injEq → Vz
namespace Go.Proofs.Ytifafejidnjckaa
open Go Go.R
open Go.IntKind (i64 u64 u8 u32)
def gt (l:List Int)(k:Nat):Int:=l.getD k 0
theorem eA {l:List Int}{k:Nat}(h:k<l.length):l[k]? = some (gt l k):=by
 unfold gt; rw [VM,Vx h]; rfl
theorem bP {l:List Int}{k:Nat}(h:k<l.length):gt l k∈l:=VH (eA h)
theorem fN {l:List Int}{k:Nat}(h:k<l.length):ix l (k:Int)=some (gt l k):=by
 unfold ix; rw [if_pos (by omega),VD,eA h]
theorem zz {l:List Int}{i:Int}{k:Nat}(hi:i=(k:Int))(h:k<l.length):ix l i=some (gt l k):=by rw [hi,fN h]
theorem pV {l:List Int}{i k:Nat}{x:Int}(hi:i<l.length):gt (l.set i x) k=if k=i then x else gt l k:=by
 unfold gt
 simp only [VM,WR]
 by_cases h:i=k
 ·subst h; simp [hi]
 ·rw [if_neg h,if_neg (by omega)]
theorem JK {l r:List Int}(hl:l.length=r.length)(h:∀k,k<l.length→gt l k=gt r k):l=r:=by
 apply WQ fun k=>?_
 by_cases hk:k<l.length
 ·rw [eA hk,eA (hl ▸ hk),h k hk]
 ·rw [V1 (by omega),V1 (by omega)]
def swp (l:List Int)(i j:Nat):List Int:=(l.set i (gt l j)).set j (gt l i)
theorem pg {l:List Int}{i j:Nat}(hi:i<l.length)(hj:j<l.length):(swp l i j).Perm l:=by
 have h1:gt l j=l[j]:=by have:=eA hj; rw [Vx hj] at this; exact (Wc this).symm
 have h2:gt l i=l[i]:=by have:=eA hi; rw [Vx hi] at this; exact (Wc this).symm
 unfold swp; rw [h1,h2]; exact List.set_set_perm hi hj
theorem lP {l:List Int}{i j k:Nat}(hi:i<l.length)(hj:j<l.length):gt (swp l i j) k=if k=j then gt l i else if k=i then gt l j else gt l k:=by
 unfold swp
 rw [pV (by simpa using hj),pV hi]
theorem sX {l:List Int}{i j:Nat}:(swp l i j).length=l.length:=by simp [swp]
theorem xZ {a b:Nat}(h:a+b<9223372036854775808):i64.wrap (ji .u64 (u64.wrap (i64.wrap ((a:Int)+(b:Int)))) 1)=(((a+b) / 2:Nat):Int):=by
 rw [bH (x:=(a:Int)+b) (by omega) (by omega),JJ (by omega) (by omega)]
 have:ji .u64 ((a:Int)+(b:Int)) 1=(((a+b) / 2:Nat):Int):=by
  unfold ji
  rw [Int.fdiv_eq_ediv_of_nonneg _ (by decide)]
  show ((a:Int)+(b:Int)) / 2=_
  omega
 rw [this,bH (by omega) (by omega)]
theorem Fb {m:Nat}{l:List Int}{a b n:Nat}(h1:a+n≤b)(h2:b+n≤l.length)(hl:l.length<2 ^ 40):∀(f i:Nat) (d:List Int),n - i<f→i≤n→d.Perm l→
  (∀k,gt d k=if a≤k∧k<a+i then gt l (k - a+b) else if b≤k∧k<b+i then gt l (k - b+a) else gt l k)→
  ∃d' x,bT.l0 m (a:Int) (b:Int) (n:Int) f d (i:Int)=some (d',x)∧d'.Perm l∧(∀k,gt d' k=if a≤k∧k<a+n then gt l (k - a+b) else if b≤k∧k<b+n then gt l (k - b+a) else gt l k)
 | 0,i,d,hf,_,_,_=>absurd hf (by omega)
 | f+1,i,d,hf,hi,hp,hg=>by
  have tj:(2:Nat) ^ 40=1099511627776:=by decide
  have PR:=hp.length_eq
  unfold bT.l0
  by_cases h:i<n
  ·have e1:i64.wrap ((b:Int)+(i:Int))=((b+i:Nat):Int):=by rw [bH (by omega) (by omega)]; omega
   have e2:i64.wrap ((a:Int)+(i:Int))=((a+i:Nat):Int):=by rw [bH (by omega) (by omega)]; omega
   have e3:i64.wrap ((i:Int)+1)=((i+1:Nat):Int):=by rw [bH (by omega) (by omega)]; omega
   rw [if_pos (by simp; omega),e1,e2,e3,fN (by omega),fN (by omega),VD,VD,Vq,Vq,Vq,fN (by simp; omega),Vq]
   show ∃d' x,bT.l0 m (a:Int) (b:Int) (n:Int) f (swp d (a+i) (b+i)) ((i+1:Nat):Int)=some (d',x)∧_
   refine Fb h1 h2 hl f (i+1) _ (by omega) (by omega) ((pg (by omega) (by omega)).trans hp) fun k=>?_
   rw [lP (by omega) (by omega),hg,hg,hg]
   by_cases k1:k=b+i
   ·subst k1
    rw [if_pos rfl,if_neg (by omega),if_neg (by omega),if_neg (by omega),if_pos (by omega)]
    congr 1; omega
   ·rw [if_neg k1]
    by_cases k2:k=a+i
    ·subst k2
     rw [if_pos rfl,if_neg (by omega),if_neg (by omega),if_pos (by omega)]
     congr 1; omega
    ·rw [if_neg k2]
     by_cases k3:a≤k∧k<a+i
     ·rw [if_pos k3,if_pos (by omega)]
     ·rw [if_neg k3,if_neg (show ¬(a≤k∧k<a+(i+1)) by omega)]
      by_cases k4:b≤k∧k<b+i
      ·rw [if_pos k4,if_pos (by omega)]
      ·rw [if_neg k4,if_neg (by omega)]
  ·have:i=n:=by omega
   subst this
   exact⟨d,i,by rw [if_neg (by simp)],hp,hg⟩
theorem sY {m:Nat}{l:List Int}{a b n:Nat}{cmp:Int→Int→Option Int}(h1:a+n≤b)(h2:b+n≤l.length)(hl:l.length<2 ^ 40)(hm:n<m) :
  ∃d',bT.f m l (a:Int) (b:Int) (n:Int) cmp=some d'∧d'.Perm l∧(∀k,gt d' k=if a≤k∧k<a+n then gt l (k - a+b) else if b≤k∧k<b+n then gt l (k - b+a) else gt l k):=by
 obtain⟨d',x,e,hp,hg⟩:=Fb (m:=m) h1 h2 hl m 0 l (by omega) (by omega) (List.Perm.refl _) (fun k=>by rw [if_neg (by omega),if_neg (by omega)])
 have e:bT.l0 m (a:Int) (b:Int) (n:Int) m l 0=_:=e
 exact⟨d',by unfold bT.f; rw [e]; rfl,hp,hg⟩
def Ko (l d:List Int)(p i j:Nat):Prop:=d.Perm l∧(∀k,k<j→gt d (p+k)=gt l (p+i+k))∧(∀k,k<i→gt d (p+j+k)=gt l (p+k))∧∀k,k<p∨p+i+j≤k→gt d k=gt l k
theorem zA {m:Nat}{q:Nat}{cmp:Int→Int→Option Int}(hm:2 ^ 41≤m):∀(f i j:Nat) (l:List Int),i+j<f→0<i→0<j→i≤q→q+j≤l.length→l.length<2 ^ 40→
  ∃(d':List Int) (x:Nat) (d:List Int),fc.l0 m (q:Int) cmp f l (i:Int) (j:Int)=some (d',(x:Int),(x:Int))∧bT.f m d' (i64.wrap ((q:Int) - (x:Int))) (q:Int) (x:Int) cmp=some d∧Ko l d (q - i) i j
 | 0,i,j,l,hf,_,_,_,_,_=>absurd hf (by omega)
 | f+1,i,j,l,hf,hi,hj,hq,hl,hs=>by
  have tj:(2:Nat) ^ 40=1099511627776:=by decide
  have yD:(2:Nat) ^ 41=2199023255552:=by decide
  unfold fc.l0
  have e1:i64.wrap ((q:Int) - (i:Int))=((q - i:Nat):Int):=by rw [bH (by omega) (by omega)]; omega
  by_cases h:i=j
  ·subst h
   rw [if_neg (by simp)]
   obtain⟨d,e,hp,hg⟩:=sY (m:=m) (l:=l) (a:=q - i) (b:=q) (n:=i) (cmp:=cmp) (by omega) (by omega) hs (by omega)
   refine⟨l,i,d,rfl,by rw [e1,e],hp,fun k hk=>?_,fun k hk=>?_,fun k hk=>?_⟩
   ·rw [hg,if_pos (by omega)]; congr 1; omega
   ·rw [hg,if_neg (by omega),if_pos (by omega)]; congr 1; omega
   ·rw [hg,if_neg (by omega),if_neg (by omega)]
  ·rw [if_pos (by simp; omega)]
   by_cases h2:j<i
   ·obtain⟨d1,e,hp,hg⟩:=sY (m:=m) (l:=l) (a:=q - i) (b:=q) (n:=j) (cmp:=cmp) (by omega) (by omega) hs (by omega)
    have hd:=hp.length_eq
    have e2:i64.wrap ((i:Int) - (j:Int))=((i - j:Nat):Int):=by rw [bH (by omega) (by omega)]; omega
    rw [if_pos (by simp; omega),e1,e,Vq,e2]
    obtain⟨d',x,d,k1,k2,k3,k4,k5,k6⟩:=zA (q:=q) (cmp:=cmp) hm f (i - j) j d1 (by omega) (by omega) hj (by omega) (by omega) (by omega)
    refine⟨d',x,d,k1,k2,k3.trans hp,fun k hk=>?_,fun k hk=>?_,fun k hk=>?_⟩
    ·rw [k6 _ (by omega),hg,if_pos (by omega)]; congr 1; omega
    ·by_cases PS:k<j
     ·have:=k4 k PS
      rw [show q - (i - j)+k=q - i+j+k by omega,hg,if_neg (by omega),if_pos (by omega)] at this
      rw [this]; congr 1; omega
     ·have:=k5 (k - j) (by omega)
      rw [show q - (i - j)+j+(k - j)=q - i+j+k by omega,hg,if_neg (by omega),if_neg (by omega)] at this
      rw [this]; congr 1; omega
    ·rw [k6 _ (by omega),hg,if_neg (by omega),if_neg (by omega)]
   ·have e2:i64.wrap (i64.wrap ((q:Int)+(j:Int)) - (i:Int))=((q+j - i:Nat):Int):=by rw [bH (x:=(q:Int)+j) (by omega) (by omega),bH (by omega) (by omega)]; omega
    have e3:i64.wrap ((j:Int) - (i:Int))=((j - i:Nat):Int):=by rw [bH (by omega) (by omega)]; omega
    obtain⟨d1,e,hp,hg⟩:=sY (m:=m) (l:=l) (a:=q - i) (b:=q+j - i) (n:=i) (cmp:=cmp) (by omega) (by omega) hs (by omega)
    have hd:=hp.length_eq
    rw [if_neg (by simp; omega),e1,e2,e,Vq,e3]
    obtain⟨d',x,d,k1,k2,k3,k4,k5,k6⟩:=zA (q:=q) (cmp:=cmp) hm f i (j - i) d1 (by omega) hi (by omega) hq (by omega) (by omega)
    refine⟨d',x,d,k1,k2,k3.trans hp,fun k hk=>?_,fun k hk=>?_,fun k hk=>?_⟩
    ·by_cases PS:k<j - i
     ·rw [k4 k PS,hg,if_neg (by omega),if_neg (by omega)]
     ·have:=k5 (k - (j - i)) (by omega)
      rw [show q - i+(j - i)+(k - (j - i))=q - i+k by omega,hg,if_pos (by omega)] at this
      rw [this]; congr 1; omega
    ·rw [k6 _ (by omega),hg,if_neg (by omega),if_pos (by omega)]; congr 1; omega
    ·rw [k6 _ (by omega),hg,if_neg (by omega),if_neg (by omega)]
theorem Fc {m:Nat}{a q b:Nat}{cmp:Int→Int→Option Int}{l:List Int}(hm:2 ^ 41≤m)(h1:a<q)(h2:q<b)(h3:b≤l.length)(hs:l.length<2 ^ 40) :
  ∃d,fc.f m l (a:Int) (q:Int) (b:Int) cmp=some d∧Ko l d a (q - a) (b - q):=by
 have tj:(2:Nat) ^ 40=1099511627776:=by decide
 have yD:(2:Nat) ^ 41=2199023255552:=by decide
 obtain⟨d',x,d,k1,k2,k3⟩:=zA (q:=q) (cmp:=cmp) hm m (q - a) (b - q) l (by omega) (by omega) (by omega) (by omega) (by omega) hs
 rw [show q - (q - a)=a by omega] at k3
 refine⟨d,?_,k3⟩
 unfold fc.f
 rw [show i64.wrap ((q:Int) - (a:Int))=((q - a:Nat):Int) by rw [bH (by omega) (by omega)]; omega,show i64.wrap ((b:Int) - (q:Int))=((b - q:Nat):Int) by rw [bH (by omega) (by omega)]; omega,k1,Vq]
 dsimp only
 rw [k2]; rfl
end Go.Proofs.Ytifafejidnjckaa
namespace Go.Proofs.Ytifafejidnjckaa
open Go Go.R
open Go.IntKind (i64 u64 u8 u32)
def nh (c:Int):Bool:=decide (97≤c∧c≤122)||decide (65≤c∧c≤90)||decide (48≤c∧c≤57)||c==95
theorem ya {m:Nat}(c:Int):fR.f m c=some (nh c):=by
 unfold fR.f
 by_cases h1:97≤c<;>by_cases h2:c≤122<;>by_cases h3:65≤c<;>by_cases h4:c≤90<;>by_cases h5:48≤c<;>by_cases h6:c≤57<;>simp [nh,h1,h2,h3,h4,h5,h6]<;>omega
theorem BC {s:ByteArray}{i:Nat}(h:i<s.size):∃c:UInt8,s.data.toList[i]? = some c∧bt s (i:Int)=some (c.toNat:Int):=by
 have h':i<s.data.toList.length:=by simpa using h
 refine⟨s.data.toList[i],Vx h',?_⟩
 unfold bt; rw [if_pos (by omega),VD,Vx h']; rfl
theorem BD {m:Nat}{s:ByteArray}(hs:s.size≤16):∀(f i:Nat),s.size - i<f→i≤s.size→
  ∃o,cP.l0 m s f (i:Int)=some o∧((∃x,o = .inr x)∧((s.data.toList.drop i).all fun c=>nh (c.toNat:Int))=true∨o = .inl false∧((s.data.toList.drop i).all fun c=>nh (c.toNat:Int))=false)
 | 0,i,hf,_=>absurd hf (by omega)
 | f+1,i,hf,hi=>by
  unfold cP.l0
  by_cases h:i<s.size
  ·obtain⟨c,hc,hb⟩:=BC h
   obtain⟨h4,h5⟩:=Vy.1 hc
   have hd:s.data.toList.drop i=c::s.data.toList.drop (i+1):=by rw [←h5]; exact VE h4
   rw [if_pos (by simp only [decide_eq_true_eq]; omega),hb,Vq,ya,Vq,hd,Wf]
   cases hl:nh (c.toNat:Int) with
   | false=>exact⟨_,rfl,.inr ⟨rfl,rfl⟩⟩
   | true=>
    obtain⟨o,h1,h2⟩:=BD (m:=m) hs f (i+1) (by omega) (by omega)
    rw [if_neg (by simp),bH (by omega) (by omega),show (i:Int)+1=((i+1:Nat):Int) by omega,h1]
    exact⟨o,rfl,by simpa using h2⟩
  ·refine⟨_,by rw [if_neg (by simp only [decide_eq_true_eq]; omega)],.inl ⟨⟨_,rfl⟩,?_⟩⟩
   rw [WE (by simp; omega)]; rfl
def BE (s:ByteArray)(lo hi:Int):Bool:=match s.data.toList with
 | []=>false
 | c::cs=>decide (cs.length≤15)&&decide (lo≤(c.toNat:Int))&&decide ((c.toNat:Int)≤hi)&&((c::cs).all fun c=>nh (c.toNat:Int))
theorem CQ {m:Nat}(hm:20≤m)(s:ByteArray)(lo hi:Int):cP.f m s lo hi=some (BE s lo hi):=by
 have hsz:s.size=s.data.toList.length:=by simp
 unfold cP.f BE
 cases hl:s.data.toList with
 | nil=>rw [if_pos (by rw [hl,VT] at hsz; simp only [decide_eq_true_eq]; omega)]
 | cons c cs=>
  rw [hl,VF] at hsz
  rw [if_neg (by simp only [decide_eq_true_eq]; omega)]
  dsimp only
  by_cases h16:cs.length≤15
  ·obtain⟨c',h1,h2⟩:=BC (s:=s) (i:=0) (by omega)
   rw [hl] at h1
   simp only [V9,Vt] at h1
   subst h1
   have h2:bt s 0=_:=h2
   rw [if_neg (by simp only [decide_eq_true_eq]; omega),h2,Vq]
   by_cases h3:(c.toNat:Int)<lo
   ·rw [if_pos (by simpa using h3)]
    simp only [Vt]
    rw [show decide (lo≤(c.toNat:Int))=false by simp; omega]; simp
   rw [if_neg (by simpa using h3),Vq]
   by_cases h4:(c.toNat:Int) > hi
   ·rw [if_pos (by simpa using h4)]
    simp only [Vt]
    rw [show decide ((c.toNat:Int)≤hi)=false by simp; omega]; simp
   rw [if_neg (by simpa using h4)]
   obtain⟨o,k1,k2⟩:=BD (m:=m) (s:=s) (by omega) m 0 (by omega) (by omega)
   have k1:cP.l0 m s m 0=_:=k1
   rw [k1,Vq]
   rw [Wa,hl] at k2
   rw [show decide (lo≤(c.toNat:Int))=true by simp; omega,show decide ((c.toNat:Int)≤hi)=true by simp; omega,show decide (cs.length≤15)=true by simpa using h16]
   simp only [WZ]
   rcases k2 with⟨⟨x,rfl⟩,k⟩| ⟨rfl,k⟩
   ·rw [k]
   ·rw [k]
  ·rw [if_pos (by simp only [decide_eq_true_eq]; omega),show decide (cs.length≤15)=false by simp; omega]; rfl
def ph (s:ByteArray):Bool:=s.data.toList==[124]||s.data.toList==[35]||BE s 97 122
theorem ni {m:Nat}(hm:20≤m)(s:ByteArray):fK.f m s=some (ph s):=by
 unfold fK.f ph
 show (if (s.data.toList==[124])=true then _ else if (s.data.toList==[35])=true then _ else _)=_
 cases h1:s.data.toList==[124] with
 | true=>rfl
 | false=>
  cases h2:s.data.toList==[35] with
  | true=>rfl
  | false=>rw [CQ hm]; rfl
theorem ux {s:ByteArray}(h:ph s=true):1≤s.size∧s.size≤16:=by
 have hsz:s.size=s.data.toList.length:=by simp
 unfold ph at h
 simp only [Wb,beq_iff_eq] at h
 rcases h with (h | h) | h
 ·rw [h] at hsz; simp at hsz; omega
 ·rw [h] at hsz; simp at hsz; omega
 ·unfold BE at h
  split at h
  ·cases h
  ·rename_i c cs hl
   rw [hl] at hsz
   simp only [Vu,decide_eq_true_eq] at h
   simp at hsz; omega
def BF (s:ByteArray):Bool:=s.data.toList==[112,114,111,99]||s.data.toList==[99,101,108,108]||s.data.toList==[112,111,114,116]
theorem uy {m:Nat}(s:ByteArray):fZ.f m s=some (BF s):=by
 unfold fZ.f BF
 show (if (s.data.toList==[112,114,111,99])=true then _ else if (s.data.toList==[99,101,108,108])=true then _ else some (s.data.toList==[112,111,114,116]))=_
 cases h1:s.data.toList==[112,114,111,99] with
 | true=>rfl
 | false=>
  cases h2:s.data.toList==[99,101,108,108] with
  | true=>rfl
  | false=>rfl
theorem Fe {m:Nat}{s:List Int}{f0:Int→Option Bool}{g:Int→Bool}(hs:s.length<2 ^ 40)(C:∀x∈s,f0 x=some (g x)):∀(f i:Nat),s.length - i<f→i≤s.length→
  ∃o,cH.l0 m s f0 f (i:Int)=some o∧((∃x,o = .inr x)∧(s.drop i).any g=false∨(∃x:Nat,o = .inl (x:Int))∧(s.drop i).any g=true)
 | 0,i,hf,_=>absurd hf (by omega)
 | f+1,i,hf,hi=>by
  have tj:(2:Nat) ^ 40=1099511627776:=by decide
  unfold cH.l0
  by_cases h:i<s.length
  ·have hx:ix s (i:Int)=some s[i]:=by unfold ix; rw [if_pos (by omega)]; simp [h]
   rw [if_pos (by simp only [decide_eq_true_eq]; omega),hx,Vq,C _ (List.getElem_mem h),Vq,VE h,List.any_cons]
   cases g s[i] with
   | true=>exact⟨_,rfl,.inr ⟨⟨i,rfl⟩,rfl⟩⟩
   | false=>
    obtain⟨o,h1,h2⟩:=Fe (m:=m) hs C f (i+1) (by omega) (by omega)
    rw [if_neg (by simp),bH (by omega) (by omega),show (i:Int)+1=((i+1:Nat):Int) by omega,h1]
    exact⟨o,rfl,by simpa using h2⟩
  ·refine⟨_,by rw [if_neg (by simp only [decide_eq_true_eq]; omega)],.inl ⟨⟨_,rfl⟩,?_⟩⟩
   rw [WE (by omega)]; rfl
theorem CR {m:Nat}{s:List Int}{f0:Int→Option Bool}{g:Int→Bool}(hs:s.length<2 ^ 40)(hm:s.length<m)(C:∀x∈s,f0 x=some (g x)):eF.f m s f0=some (s.any g):=by
 obtain⟨o,h1,h2⟩:=Fe (m:=m) hs C m 0 (by omega) (by omega)
 have h1:cH.l0 m s f0 m 0=_:=h1
 unfold eF.f cH.f
 rw [h1,Vq]
 rw [Wa] at h2
 rcases h2 with⟨⟨x,rfl⟩,k⟩| ⟨⟨x,rfl⟩,k⟩
 ·rw [k]; rfl
 ·rw [k]
  simp only [Vq,Vt]
  simp
theorem Ff {m:Nat}{s:List aq}{f0:aq→Option Bool}{g:aq→Bool}(hs:s.length<2 ^ 40)(C:∀x∈s,f0 x=some (g x)):∀(f i:Nat),s.length - i<f→i≤s.length→
  ∃o,fa.l0 m s f0 f (i:Int)=some o∧((∃x,o = .inr x)∧(s.drop i).any g=false∨(∃x:Nat,o = .inl (x:Int))∧(s.drop i).any g=true)
 | 0,i,hf,_=>absurd hf (by omega)
 | f+1,i,hf,hi=>by
  have tj:(2:Nat) ^ 40=1099511627776:=by decide
  unfold fa.l0
  by_cases h:i<s.length
  ·have hx:ix s (i:Int)=some s[i]:=by unfold ix; rw [if_pos (by omega)]; simp [h]
   rw [if_pos (by simp only [decide_eq_true_eq]; omega),hx,Vq,C _ (List.getElem_mem h),Vq,VE h,List.any_cons]
   cases g s[i] with
   | true=>exact⟨_,rfl,.inr ⟨⟨i,rfl⟩,rfl⟩⟩
   | false=>
    obtain⟨o,h1,h2⟩:=Ff (m:=m) hs C f (i+1) (by omega) (by omega)
    rw [if_neg (by simp),bH (by omega) (by omega),show (i:Int)+1=((i+1:Nat):Int) by omega,h1]
    exact⟨o,rfl,by simpa using h2⟩
  ·refine⟨_,by rw [if_neg (by simp only [decide_eq_true_eq]; omega)],.inl ⟨⟨_,rfl⟩,?_⟩⟩
   rw [WE (by omega)]; rfl
theorem CS {m:Nat}{s:List aq}{f0:aq→Option Bool}{g:aq→Bool}(hs:s.length<2 ^ 40)(hm:s.length<m)(C:∀x∈s,f0 x=some (g x)):gL.f m s f0=some (s.any g):=by
 obtain⟨o,h1,h2⟩:=Ff (m:=m) hs C m 0 (by omega) (by omega)
 have h1:fa.l0 m s f0 m 0=_:=h1
 unfold gL.f fa.f
 rw [h1,Vq]
 rw [Wa] at h2
 rcases h2 with⟨⟨x,rfl⟩,k⟩| ⟨⟨x,rfl⟩,k⟩
 ·rw [k]; rfl
 ·rw [k]
  simp only [Vq,Vt]
  simp
def pj (n:aq)(size:Int):Bool:=
 if n.kind=0 then decide (0≤n.int)&&n.label.data.toList==[]&&n.args.isEmpty
 else if n.kind=1 then decide (-1099511627776≤n.int)&&decide (n.int≤1099511627776)&&n.label.data.toList==[]&&n.args.isEmpty
 else if n.kind=2 then n.int==0&&ph n.label&&n.args.isEmpty
 else if n.kind=3 then n.int==0&&ph n.label&&decide (1≤n.args.length)&&decide (n.args.length≤8)&&n.args.all fun a=>decide (0≤a)&&decide (a<size)
 else if n.kind=4 then decide (0≤n.int)&&BF n.label&&n.args.isEmpty
 else false
theorem He (l:List Int):((l.length:Int)==(0:Int))=l.isEmpty:=by cases l<;>simp; omega
theorem CT {m:Nat}(hm:20≤m)(n:aq)(size:Int):iu.f m n size=some (pj n size):=by
 unfold iu.f pj
 by_cases k0:n.kind=0
 ·rw [if_pos (by simpa using k0),if_pos k0]
  by_cases h1:0≤n.int
  ·rw [if_pos (by simpa using h1),show decide (0≤n.int)=true by simpa using h1]
   show (if (n.label.data.toList==[])=true then _ else _)=_
   cases n.label.data.toList==[] with
   | true=>rw [if_pos rfl,He]; rfl
   | false=>rfl
  ·rw [if_neg (by simpa using h1),show decide (0≤n.int)=false by simp; omega]; rfl
 rw [if_neg (by simpa using k0),if_neg k0]
 by_cases k1:n.kind=1
 ·rw [if_pos (by simpa using k1),if_pos k1]
  by_cases h1 : -1099511627776≤n.int
  ·rw [if_pos (by simpa using h1),show decide (-1099511627776≤n.int)=true by simpa using h1]
   by_cases h3:n.int≤1099511627776
   ·rw [if_pos (by simpa using h3),show decide (n.int≤1099511627776)=true by simpa using h3]
    show (if (n.label.data.toList==[])=true then _ else _)=_
    cases n.label.data.toList==[] with
    | true=>rw [if_pos rfl,He]; rfl
    | false=>rfl
   ·rw [if_neg (by simpa using h3),show decide (n.int≤1099511627776)=false by simp; omega]; rfl
  ·rw [if_neg (by simpa using h1),show decide (-1099511627776≤n.int)=false by simp; omega]; rfl
 rw [if_neg (by simpa using k1),if_neg k1]
 by_cases k2:n.kind=2
 ·rw [if_pos (by simpa using k2),if_pos k2]
  cases h1:n.int==0 with
  | false=>rfl
  | true=>
   rw [if_pos rfl,ni hm,Vq]
   cases ph n.label with
   | false=>rfl
   | true=>rw [if_pos rfl,He]; rfl
 rw [if_neg (by simpa using k2),if_neg k2]
 by_cases k3:n.kind=3
 ·rw [if_pos (by simpa using k3),if_pos k3]
  cases h1:n.int==0 with
  | false=>rfl
  | true=>
   rw [if_pos rfl,ni hm,Vq]
   cases ph n.label with
   | false=>rfl
   | true=>
    rw [if_pos rfl]
    by_cases g1:1≤n.args.length
    ·rw [if_pos (by simp only [decide_eq_true_eq]; omega),show decide (1≤n.args.length)=true by simpa using g1]
     by_cases g2:n.args.length≤8
     ·rw [if_pos (by simp only [decide_eq_true_eq]; omega),show decide (n.args.length≤8)=true by simpa using g2]
      rw [CR (g:=fun a=>!(decide (0≤a)&&decide (a<size))) (by omega) (by omega) (fun a _=>by
       unfold gJ.f
       by_cases w:a<0
       ·rw [if_pos (by simpa using w),show decide (0≤a)=false by simp; omega]; rfl
       ·rw [if_neg (by simpa using w),show decide (0≤a)=true by simp; omega]
        by_cases w2:a<size
        ·rw [show decide (a≥size)=false from decide_eq_false (by omega),show decide (a<size)=true from decide_eq_true w2]; rfl
        ·rw [show decide (a≥size)=true from decide_eq_true (by omega),show decide (a<size)=false from decide_eq_false w2]; rfl),Vq]
      simp [List.not_any_eq_all_not]
     ·rw [if_neg (by simp only [decide_eq_true_eq]; omega),show decide (n.args.length≤8)=false from decide_eq_false g2]; rfl
    ·rw [if_neg (by simp only [decide_eq_true_eq]; omega),show decide (1≤n.args.length)=false from decide_eq_false g1]; rfl
 rw [if_neg (by simpa using k3),if_neg k3]
 by_cases k4:n.kind=4
 ·rw [if_pos (by simpa using k4),if_pos k4]
  by_cases h1:0≤n.int
  ·rw [if_pos (by simpa using h1),show decide (0≤n.int)=true by simpa using h1,uy,Vq]
   cases BF n.label with
   | false=>rfl
   | true=>rw [if_pos rfl,He]; rfl
  ·rw [if_neg (by simpa using h1),show decide (0≤n.int)=false by simp; omega]; rfl
 rw [if_neg (by simpa using k4),if_neg k4]
end Go.Proofs.Ytifafejidnjckaa
namespace Go.Proofs.Ytifafejidnjckaa
open Go Go.R
open Go.IntKind (i64 u64 u8 u32)
structure Mv (lo hi:Nat)(l d:List Int):Prop where
 perm:d.Perm l
 out:∀k,k<lo∨hi≤k→gt d k=gt l k
 im:∀k,lo≤k→k<hi→∃k',lo≤k'∧k'<hi∧gt d k=gt l k'
theorem Mv.refl {lo hi:Nat}{l:List Int}:Mv lo hi l l:=⟨List.Perm.refl _,fun _ _=>rfl,fun k h1 h2=>⟨k,h1,h2,rfl⟩⟩
theorem Mv.trans {lo hi:Nat}{l d e:List Int}(a:Mv lo hi l d)(b:Mv lo hi d e):Mv lo hi l e:=
 ⟨b.perm.trans a.perm,fun k hk=>(b.out k hk).trans (a.out k hk),fun k h1 h2=>by
  obtain⟨k',g1,g2,g3⟩:=b.im k h1 h2
  obtain⟨T5,g4,g5,g6⟩:=a.im k' g1 g2
  exact⟨T5,g4,g5,g3.trans g6⟩⟩
theorem Mv.length {lo hi:Nat}{l d:List Int}(a:Mv lo hi l d):d.length=l.length:=a.perm.length_eq
theorem Mv.wide {lo hi FW jI:Nat}{l d:List Int}(a:Mv lo hi l d)(h1:FW≤lo)(h2:hi≤jI):Mv FW jI l d:=
 ⟨a.perm,fun k hk=>a.out k (by omega),fun k h3 h4=>by
  by_cases h:lo≤k∧k<hi
  ·obtain⟨k',g1,g2,g3⟩:=a.im k h.1 h.2
   exact⟨k',by omega,by omega,g3⟩
  ·exact⟨k,h3,h4,a.out k (by omega)⟩⟩
theorem zB {lo hi i j:Nat}{l:List Int}(Mt:lo≤i)(zQ:i<hi)(MM:lo≤j)(F3:j<hi)(h:hi≤l.length):Mv lo hi l (swp l i j):=
 ⟨pg (by omega) (by omega),fun k hk=>by rw [lP (by omega) (by omega),if_neg (by omega),if_neg (by omega)],fun k h1 h2=>by
  rw [lP (by omega) (by omega)]
  split
  ·exact⟨i,Mt,zQ,rfl⟩
  split
  ·exact⟨j,MM,F3,rfl⟩
  ·exact⟨k,h1,h2,rfl⟩⟩
def Cm (cmp:Int→Int→Option Int)(c:Int→Int→Int)(l:List Int):Prop:=∀x∈l,∀y∈l,cmp x y=some (c x y)
theorem Cm.perm {cmp c l d}(h:Cm cmp c l)(p:List.Perm d l):Cm cmp c d:=fun x hx y hy=>h x (p.mem_iff.1 hx) y (p.mem_iff.1 hy)
theorem Cm.at {cmp c}{l:List Int}(h:Cm cmp c l){i j:Nat}(hi:i<l.length)(hj:j<l.length):cmp (gt l i) (gt l j)=some (c (gt l i) (gt l j)):=h _ (bP hi) _ (bP hj)
structure Ord (c:Int→Int→Int)(l:List Int):Prop where
 tr:∀x∈l,∀y∈l,∀z∈l,0≤c y x→0≤c z y→0≤c z x
 Kp:∀x∈l,∀y∈l,c x y<0→0≤c y x
theorem Ord.perm {c l d}(h:Ord c l)(p:List.Perm d l):Ord c d:=⟨fun x hx y hy z hz=>h.tr x (p.mem_iff.1 hx) y (p.mem_iff.1 hy) z (p.mem_iff.1 hz),fun x hx y hy=>h.Kp x (p.mem_iff.1 hx) y (p.mem_iff.1 hy)⟩
def Sg (c:Int→Int→Int)(l:List Int)(a b:Nat):Prop:=∀i j,a≤i→i<j→j<b→0≤c (gt l j) (gt l i)
theorem Fg {m:Nat}{a i:Nat}{cmp:Int→Int→Option Int}{c:Int→Int→Int}:∀(f j:Nat) (d:List Int),j - a<f→a≤j→j≤i→i<d.length→d.length<2 ^ 40→Cm cmp c d→
  ∃d' x,aV.l1 m (a:Int) cmp f d (j:Int)=some (d',x)∧Mv a (i+1) d d'∧
   (Ord c d→(∀x y,a≤x→x<y→y≤i→x≠j→y≠j→0≤c (gt d y) (gt d x))→(∀y,j<y→y≤i→0≤c (gt d y) (gt d j))→Sg c d' a (i+1))
 | 0,j,d,hf,_,_,_,_,_=>absurd hf (by omega)
 | f+1,j,d,hf,h1,h2,h3,hs,C=>by
  have tj:(2:Nat) ^ 40=1099511627776:=by decide
  unfold aV.l1
  by_cases h:a<j
  ·have e1:i64.wrap ((j:Int) - 1)=((j - 1:Nat):Int):=by rw [bH (by omega) (by omega)]; omega
   rw [if_pos (by simp; omega),e1,fN (by omega),fN (by omega),Vq,Vq,C.at (by omega) (by omega),Vq]
   by_cases hc:c (gt d j) (gt d (j - 1))<0
   ·rw [if_pos (by simpa using hc),Vq,Vq,Vq,VD,VD,fN (by simp; omega),Vq]
    obtain⟨d',x,k1,k2,k3⟩:=Fg (m:=m) (a:=a) (i:=i) (cmp:=cmp) (c:=c) f (j - 1) (swp d j (j - 1)) (by omega) (by omega) (by omega) (by rw [sX]; omega) (by rw [sX]; omega) (C.perm (pg (by omega) (by omega)))
    refine⟨d',x,k1,(zB (by omega) (by omega) (by omega) (by omega) (by omega)).trans k2,fun O g1 g2=>k3 (O.perm (pg (by omega) (by omega))) (fun x y x1 x2 x3 x4 x5=>?_) (fun y y1 y2=>?_)⟩
    ·rw [lP (by omega) (by omega),lP (by omega) (by omega),if_neg x5,if_neg x4]
     by_cases hy:y=j
     ·subst hy
      rw [if_pos rfl,if_neg (by omega)]
      exact g1 _ _ (by omega) (by omega) (by omega) (by omega) (by omega)
     ·rw [if_neg hy]
      by_cases hx:x=j
      ·subst hx
       rw [if_pos rfl]
       exact g1 _ _ (by omega) (by omega) (by omega) (by omega) (by omega)
      ·rw [if_neg hx]
       exact g1 _ _ (by omega) (by omega) (by omega) (by omega) (by omega)
    ·rw [lP (by omega) (by omega),lP (by omega) (by omega),if_neg (by omega),if_pos rfl]
     by_cases hy:y=j
     ·subst hy
      rw [if_pos rfl]
      exact O.Kp _ (bP (by omega)) _ (bP (by omega)) hc
     ·rw [if_neg hy]
      exact g2 _ (by omega) (by omega)
   ·rw [if_neg (by simpa using hc)]
    refine⟨d,j,rfl,Mv.refl,fun O g1 g2 x y x1 x2 x3=>?_⟩
    have hc:0≤c (gt d j) (gt d (j - 1)):=by omega
    by_cases hx:x=j
    ·subst hx; exact g2 _ x2 (by omega)
    ·by_cases hy:y=j
     ·subst hy
      by_cases hx1:x=y - 1
      ·subst hx1; exact hc
      ·exact O.tr _ (bP (by omega)) (gt d (y - 1)) (bP (by omega)) _ (bP (by omega)) (g1 _ _ x1 (by omega) (by omega) hx (by omega)) hc
     ·exact g1 _ _ x1 x2 (by omega) hx hy
  ·have:j=a:=by omega
   subst this
   rw [if_neg (by simp)]
   refine⟨d,j,rfl,Mv.refl,fun O g1 g2 x y x1 x2 x3=>?_⟩
   by_cases hx:x=j
   ·subst hx; exact g2 _ x2 (by omega)
   ·exact g1 _ _ x1 x2 (by omega) hx (by omega)
theorem Fh {m:Nat}{a b:Nat}{cmp:Int→Int→Option Int}{c:Int→Int→Int}(hm:2 ^ 41≤m):∀(f i:Nat) (d:List Int),b - i<f→a<i→b≤d.length→d.length<2 ^ 40→Cm cmp c d→
  ∃d' x,aV.l0 m (a:Int) (b:Int) cmp f d (i:Int)=some (d',x)∧Mv a b d d'∧(Ord c d→Sg c d a i→Sg c d' a b)
 | 0,i,d,hf,_,_,_,_=>absurd hf (by omega)
 | f+1,i,d,hf,h1,h2,hs,C=>by
  have tj:(2:Nat) ^ 40=1099511627776:=by decide
  have yD:(2:Nat) ^ 41=2199023255552:=by decide
  unfold aV.l0
  by_cases h:i<b
  ·obtain⟨d1,x1,k1,k2,k3⟩:=Fg (m:=m) (a:=a) (i:=i) (cmp:=cmp) (c:=c) m i d (by omega) (by omega) (by omega) (by omega) hs C
   have e3:i64.wrap ((i:Int)+1)=((i+1:Nat):Int):=by rw [bH (by omega) (by omega)]; omega
   rw [if_pos (by simp; omega),k1,Vq]
   dsimp only
   rw [e3]
   have hl:=k2.length
   obtain⟨d',x,g1,g2,g3⟩:=Fh (a:=a) (b:=b) (cmp:=cmp) (c:=c) hm f (i+1) d1 (by omega) (by omega) (by omega) (by omega) (C.perm k2.perm)
   exact⟨d',x,g1,(k2.wide (Vv _) (by omega)).trans g2,fun O S=>g3 (O.perm k2.perm) (k3 O (fun x y q1 q2 q3 q4 q5=>S x y q1 q2 (by omega)) (fun y q1 q2=>absurd q1 (by omega)))⟩
  ·exact⟨d,i,by rw [if_neg (by simp; omega)],Mv.refl,fun O S x y q1 q2 q3=>S x y q1 q2 (by omega)⟩
theorem yb {m:Nat}{a b:Nat}{cmp:Int→Int→Option Int}{c:Int→Int→Int}(hm:2 ^ 41≤m){l:List Int}(ha:a≤l.length)(hb:b≤l.length)(hs:l.length<2 ^ 40)(C:Cm cmp c l) :
  ∃d,aV.f m l (a:Int) (b:Int) cmp=some d∧Mv a b l d∧(Ord c l→Sg c d a b):=by
 have tj:(2:Nat) ^ 40=1099511627776:=by decide
 have yD:(2:Nat) ^ 41=2199023255552:=by decide
 have e3:i64.wrap ((a:Int)+1)=((a+1:Nat):Int):=by rw [bH (by omega) (by omega)]; omega
 obtain⟨d',x,g1,g2,g3⟩:=Fh (a:=a) (b:=b) (cmp:=cmp) (c:=c) hm m (a+1) l (by omega) (by omega) hb hs C
 exact⟨d',by unfold aV.f; rw [e3,g1]; rfl,g2,fun O=>g3 O fun x y q1 q2 q3=>absurd q3 (by omega)⟩
end Go.Proofs.Ytifafejidnjckaa
namespace Go.Proofs.Ytifafejidnjckaa
open Go Go.R
open Go.IntKind (i64 u64 u8 u32)
theorem Fi {α β:Type}{B:α→Option β}{c1 c2:Bool}{X:Option α}{d0:α}{G:β→Prop}(D:α→Prop)(h1:c1=true→c2=true→∃x,X=some x∧D x)(h0:¬(c1=true∧c2=true)→D d0)
  (h:∀x,D x→∃d,B x=some d∧G d):∃d,jn B (fun j=>if c1=true then (if c2=true then (X.bind fun x0=>j x0) else j d0) else j d0)=some d∧G d:=by
 unfold jn
 dsimp only
 by_cases a1:c1=true
 ·by_cases a2:c2=true
  ·obtain⟨x,e,hx⟩:=h1 a1 a2
   rw [if_pos a1,if_pos a2,e]; exact h x hx
  ·rw [if_pos a1,if_neg a2]; exact h _ (h0 fun z=>a2 z.2)
 ·rw [if_neg a1]; exact h _ (h0 fun z=>a1 z.1)
theorem PT {α:Type}{c1 c2:Bool}{X:Option α}{d0:α}{G:α→Prop}(h1:c1=true→c2=true→∃x,X=some x∧G x)(h0:¬(c1=true∧c2=true)→G d0) :
  ∃d,(if c1=true then (if c2=true then (X.bind fun x0=>some x0) else some d0) else some d0)=some d∧G d:=by
 by_cases a1:c1=true
 ·by_cases a2:c2=true
  ·obtain⟨x,e,hx⟩:=h1 a1 a2
   rw [if_pos a1,if_pos a2,e]; exact⟨x,rfl,hx⟩
  ·rw [if_pos a1,if_neg a2]; exact⟨_,rfl,h0 fun z=>a2 z.2⟩
 ·rw [if_neg a1]; exact⟨_,rfl,h0 fun z=>a1 z.1⟩
theorem JL {α β:Type}{B:α→Option β}{c:Bool}{x y:α}{G:β→Prop}(h:∀z,(c=true∧z=x)∨(c=false∧z=y)→∃d,B z=some d∧G d):∃d,jn B (fun j=>if c=true then j x else j y)=some d∧G d:=by
 unfold jn
 dsimp only
 cases c with
 | true=>exact h _ (.inl ⟨rfl,rfl⟩)
 | false=>exact h _ (.inr ⟨rfl,rfl⟩)
theorem Ord.refl {c:Int→Int→Int}{l:List Int}(O:Ord c l){x:Int}(hx:x∈l):0≤c x x:=by
 by_cases h:c x x<0
 ·exact O.Kp x hx x hx h
 ·omega
theorem Sg.le {c:Int→Int→Int}{l:List Int}{a b:Nat}(S:Sg c l a b)(O:Ord c l){i j:Nat}(h1:a≤i)(h2:i≤j)(h3:j<b)(h4:b≤l.length):0≤c (gt l j) (gt l i):=by
 by_cases h:i=j
 ·subst h; exact O.refl (bP (by omega))
 ·exact S i j h1 (by omega) h3
section
variable {m:Nat}{cmp:Int→Int→Option Int}{c:Int→Int→Int}
theorem zC {l:List Int}{a:Nat}(ha:a<l.length)(hs:l.length<2 ^ 40)(C:Cm cmp c l):∀(f i j:Nat),j - i<f→i≤j→j≤l.length→
  ∃x:Nat,aJ.l0 m l (a:Int) cmp f (i:Int) (j:Int)=some ((x:Int),(x:Int))∧i≤x∧x≤j∧(i<x→c (gt l (x - 1)) (gt l a)<0)∧(x<j→0≤c (gt l x) (gt l a))
 | 0,i,j,hf,_,_=>absurd hf (by omega)
 | f+1,i,j,hf,h1,h2=>by
  have tj:(2:Nat) ^ 40=1099511627776:=by decide
  unfold aJ.l0
  by_cases h:i<j
  ·have hh:=xZ (a:=i) (b:=j) (by omega)
   rw [if_pos (by simp; omega),hh,fN (by omega),fN ha,Vq,Vq,C.at (by omega) ha,Vq]
   by_cases g:c (gt l ((i+j) / 2)) (gt l a)<0
   ·obtain⟨x,e,x1,x2,x3,x4⟩:=zC ha hs C f ((i+j) / 2+1) j (by omega) (by omega) h2
    rw [if_pos (by simpa using g),bH (by omega) (by omega),show (((i+j) / 2:Nat):Int)+1=(((i+j) / 2+1:Nat):Int) by omega,e]
    refine⟨x,rfl,by omega,x2,fun _=>?_,x4⟩
    by_cases hx:x=(i+j) / 2+1
    ·rw [hx]; simpa using g
    ·exact x3 (by omega)
   ·obtain⟨x,e,x1,x2,x3,x4⟩:=zC ha hs C f i ((i+j) / 2) (by omega) (by omega) (by omega)
    rw [if_neg (by simpa using g),e]
    refine⟨x,rfl,x1,by omega,x3,fun _=>?_⟩
    by_cases hx:x=(i+j) / 2
    ·rw [hx]; omega
    ·exact x4 (by omega)
  ·have:i=j:=by omega
   subst this
   exact⟨i,by rw [if_neg (by simp)],Vv _,Vv _,fun h=>absurd h (by omega),fun h=>absurd h (by omega)⟩
theorem zD {l:List Int}{q:Nat}(hq:q<l.length)(hs:l.length<2 ^ 40)(C:Cm cmp c l):∀(f i j:Nat),j - i<f→i≤j→j≤l.length→
  ∃x:Nat,aJ.l2 m l (q:Int) cmp f (i:Int) (j:Int)=some ((x:Int),(x:Int))∧i≤x∧x≤j∧(i<x→0≤c (gt l q) (gt l (x - 1)))∧(x<j→c (gt l q) (gt l x)<0)
 | 0,i,j,hf,_,_=>absurd hf (by omega)
 | f+1,i,j,hf,h1,h2=>by
  have tj:(2:Nat) ^ 40=1099511627776:=by decide
  unfold aJ.l2
  by_cases h:i<j
  ·have hh:=xZ (a:=i) (b:=j) (by omega)
   rw [if_pos (by simp; omega),hh,fN hq,fN (by omega),Vq,Vq,C.at hq (by omega),Vq]
   by_cases g:c (gt l q) (gt l ((i+j) / 2))<0
   ·obtain⟨x,e,x1,x2,x3,x4⟩:=zD hq hs C f i ((i+j) / 2) (by omega) (by omega) (by omega)
    rw [if_neg (by simpa using g),e]
    refine⟨x,rfl,x1,by omega,x3,fun _=>?_⟩
    by_cases hx:x=(i+j) / 2
    ·rw [hx]; omega
    ·exact x4 (by omega)
   ·obtain⟨x,e,x1,x2,x3,x4⟩:=zD hq hs C f ((i+j) / 2+1) j (by omega) (by omega) h2
    rw [if_pos (by simpa using g),bH (by omega) (by omega),show (((i+j) / 2:Nat):Int)+1=(((i+j) / 2+1:Nat):Int) by omega,e]
    refine⟨x,rfl,by omega,x2,fun _=>?_,x4⟩
    by_cases hx:x=(i+j) / 2+1
    ·rw [hx]; simp; omega
    ·exact x3 (by omega)
  ·have:i=j:=by omega
   subst this
   exact⟨i,by rw [if_neg (by simp)],Vv _,Vv _,fun h=>absurd h (by omega),fun h=>absurd h (by omega)⟩
theorem Fj {l:List Int}{a x:Nat}(hx:x≤l.length)(PU:a<x)(hs:l.length<2 ^ 40):∀(f k:Nat) (d:List Int),x - k<f→a≤k→k<x→Mv a x l d→
  (∀t,gt d t=if a≤t∧t<k then gt l (t+1) else if t=k then gt l a else gt l t)→
  ∃d' y,aJ.l1 m (x:Int) f d (k:Int)=some (d',y)∧Mv a x l d'∧∀t,gt d' t=if a≤t∧t+1<x then gt l (t+1) else if t+1=x then gt l a else gt l t
 | 0,k,d,hf,_,_,_,_=>absurd hf (by omega)
 | f+1,k,d,hf,h1,h2,M,hg=>by
  have tj:(2:Nat) ^ 40=1099511627776:=by decide
  have hl:=M.length
  unfold aJ.l1
  have e0:i64.wrap ((x:Int) - 1)=((x - 1:Nat):Int):=by rw [bH (by omega) (by omega)]; omega
  rw [e0]
  by_cases h:k<x - 1
  ·have e1:i64.wrap ((k:Int)+1)=((k+1:Nat):Int):=by rw [bH (by omega) (by omega)]; omega
   rw [if_pos (by simp; omega),e1,fN (by omega),fN (by omega),Vq,Vq,Vq,VD,VD,fN (by simp; omega),Vq]
   refine Fj hx PU hs f (k+1) (swp d k (k+1)) (by omega) (by omega) (by omega) (M.trans (zB (by omega) (by omega) (by omega) (by omega) (by omega))) fun t=>?_
   rw [lP (by omega) (by omega),hg k,hg (k+1),hg t]
   by_cases t1:t=k+1
   ·subst t1; rw [if_pos rfl,if_neg (by omega),if_pos rfl,if_neg (by omega),if_pos rfl]
   ·rw [if_neg t1]
    by_cases t2:t=k
    ·subst t2; rw [if_pos rfl,if_neg (by omega),if_neg (by omega),if_pos (by omega)]
    ·rw [if_neg t2,if_neg t2,if_neg t1]
     by_cases t3:a≤t∧t<k
     ·rw [if_pos t3,if_pos (by omega)]
     ·rw [if_neg t3,if_neg (by omega)]
  ·refine⟨d,k,by rw [if_neg (by simp; omega)],M,fun t=>?_⟩
   rw [hg]
   by_cases t3:a≤t∧t<k
   ·rw [if_pos t3,if_pos (by omega)]
   ·rw [if_neg t3,if_neg (show ¬(a≤t∧t+1<x) by omega)]
    by_cases t4:t=k
    ·rw [if_pos t4,if_pos (by omega)]
    ·rw [if_neg t4,if_neg (by omega)]
theorem Fk {l:List Int}{q x:Nat}(hx:q<l.length)(PU:x≤q)(hs:l.length<2 ^ 40):∀(f k:Nat) (d:List Int),k - x<f→x≤k→k≤q→Mv x (q+1) l d→
  (∀t,gt d t=if k<t∧t≤q then gt l (t - 1) else if t=k then gt l q else gt l t)→
  ∃d' y,aJ.l3 m (x:Int) f d (k:Int)=some (d',y)∧Mv x (q+1) l d'∧∀t,gt d' t=if x<t∧t≤q then gt l (t - 1) else if t=x then gt l q else gt l t
 | 0,k,d,hf,_,_,_,_=>absurd hf (by omega)
 | f+1,k,d,hf,h1,h2,M,hg=>by
  have tj:(2:Nat) ^ 40=1099511627776:=by decide
  have hl:=M.length
  unfold aJ.l3
  by_cases h:x<k
  ·have e1:i64.wrap ((k:Int) - 1)=((k - 1:Nat):Int):=by rw [bH (by omega) (by omega)]; omega
   rw [if_pos (by simp; omega),e1,fN (by omega),fN (by omega),Vq,Vq,Vq,VD,VD,fN (by simp; omega),Vq]
   refine Fk hx PU hs f (k - 1) (swp d k (k - 1)) (by omega) (by omega) (by omega) (M.trans (zB (by omega) (by omega) (by omega) (by omega) (by omega))) fun t=>?_
   rw [lP (by omega) (by omega),hg k,hg (k - 1),hg t]
   by_cases t1:t=k - 1
   ·subst t1; rw [if_pos rfl,if_neg (by omega),if_pos rfl,if_neg (by omega),if_pos rfl]
   ·rw [if_neg t1]
    by_cases t2:t=k
    ·subst t2; rw [if_pos rfl,if_neg (by omega),if_neg (by omega),if_pos (by omega)]
    ·rw [if_neg t2,if_neg t2,if_neg t1]
     by_cases t3:k<t∧t≤q
     ·rw [if_pos t3,if_pos (by omega)]
     ·rw [if_neg t3,if_neg (by omega)]
  ·have:k=x:=by omega
   subst this
   exact⟨d,k,by rw [if_neg (by simp)],M,hg⟩
theorem zE {l:List Int}{a b q:Nat}(KV:a+b<2 ^ 42)(hs:l.length<2 ^ 40)(C:Cm cmp c l):∀(f s r:Nat),r - s<f→s≤r→r≤l.length→r≤(a+b) / 2+q→(a+b) / 2+q≤l.length+s→
  ∃x:Nat,aJ.l4 m l (a:Int) (q:Int) (b:Int) cmp f (s:Int) (r:Int)=some ((x:Int),(x:Int))∧s≤x∧x≤r∧(s<x→0≤c (gt l ((a+b) / 2+q - x)) (gt l (x - 1)))∧(x<r→c (gt l ((a+b) / 2+q - x - 1)) (gt l x)<0)
 | 0,i,j,hf,_,_,_,_=>absurd hf (by omega)
 | f+1,s,r,hf,h1,h2,h3,h4=>by
  have tj:(2:Nat) ^ 40=1099511627776:=by decide
  have PV:(2:Nat) ^ 42=4398046511104:=by decide
  unfold aJ.l4
  by_cases h:s<r
  ·have hh:=xZ (a:=s) (b:=r) (by omega)
   have KV:=xZ (a:=a) (b:=b) (by omega)
   have e1:i64.wrap (i64.wrap (i64.wrap ((((a+b) / 2:Nat):Int)+(q:Int)) - 1) - (((s+r) / 2:Nat):Int))=(((a+b) / 2+q - (s+r) / 2 - 1:Nat):Int):=by
    rw [bH (x:=(((a+b) / 2:Nat):Int)+(q:Int)) (by omega) (by omega),bH (x:=(((a+b) / 2:Nat):Int)+(q:Int) - 1) (by omega) (by omega),bH (by omega) (by omega)]
    omega
   rw [if_pos (by simp; omega),hh,KV,e1,fN (by omega),fN (by omega),Vq,Vq,C.at (by omega) (by omega),Vq]
   by_cases g:c (gt l ((a+b) / 2+q - (s+r) / 2 - 1)) (gt l ((s+r) / 2))<0
   ·obtain⟨x,e,x1,x2,x3,x4⟩:=zE (a:=a) (b:=b) (q:=q) (by omega) hs C f s ((s+r) / 2) (by omega) (by omega) (by omega) (by omega) (by omega)
    rw [if_neg (by simpa using g),e]
    refine⟨x,rfl,x1,by omega,x3,fun _=>?_⟩
    by_cases hx:x=(s+r) / 2
    ·rw [hx]; exact g
    ·exact x4 (by omega)
   ·obtain⟨x,e,x1,x2,x3,x4⟩:=zE (a:=a) (b:=b) (q:=q) (by omega) hs C f ((s+r) / 2+1) r (by omega) (by omega) h2 h3 (by omega)
    rw [if_pos (by simpa using g),bH (by omega) (by omega),show (((s+r) / 2:Nat):Int)+1=(((s+r) / 2+1:Nat):Int) by omega,e]
    refine⟨x,rfl,by omega,x2,fun _=>?_,x4⟩
    by_cases hx:x=(s+r) / 2+1
    ·rw [hx,show (a+b) / 2+q - ((s+r) / 2+1)=(a+b) / 2+q - (s+r) / 2 - 1 by omega,Nat.add_sub_cancel]; omega
    ·exact x3 (by omega)
  ·have:s=r:=by omega
   subst this
   exact⟨s,by rw [if_neg (by simp)],Vv _,Vv _,fun h=>absurd h (by omega),fun h=>absurd h (by omega)⟩
end
end Go.Proofs.Ytifafejidnjckaa
namespace Go.Proofs.Ytifafejidnjckaa
open Go Go.R
open Go.IntKind (i64 u64 u8 u32)
section
variable {m:Nat}{cmp:Int→Int→Option Int}{c:Int→Int→Int}
theorem sZ {l d:List Int}{a q b M E x:Nat}(h1:a≤x)(h2:x≤M)(h3:x≤q)(h4:q≤E)(h5:E≤b)(h6:E+x=M+q)(hb:b≤l.length)
  (R:Ko l d x (q - x) (E - q)) (O:Ord c l) (F1:a<x→E<b→0≤c (gt l E) (gt l (x - 1))) (F2:x<q→q<E→c (gt l (E - 1)) (gt l x)<0)
  (S1:Sg c l a q) (S2:Sg c l q b) :
  Sg c d a x∧Sg c d x M∧Sg c d M E∧Sg c d E b∧(∀i j,a≤i→i<M→M≤j→j<b→0≤c (gt d j) (gt d i)):=by
 obtain⟨R1,R2,R3,R4⟩:=R
 have g1:∀k,k<x→gt d k=gt l k:=fun k hk=>R4 k (.inl hk)
 have g2:∀k,x≤k→k<M→gt d k=gt l (q+(k - x)):=fun k hk sa=>by
  have:=R2 (k - x) (by omega)
  rw [show x+(k - x)=k by omega,show x+(q - x)+(k - x)=q+(k - x) by omega] at this
  exact this
 have g3:∀k,M≤k→k<E→gt d k=gt l (x+(k - M)):=fun k hk sa=>by
  have:=R3 (k - M) (by omega)
  rw [show x+(E - q)+(k - M)=k by omega] at this
  exact this
 have g4:∀k,E≤k→gt d k=gt l k:=fun k hk=>R4 k (.inr (by omega))
 refine⟨fun i j k1 k2 k3=>?_,fun i j k1 k2 k3=>?_,fun i j k1 k2 k3=>?_,fun i j k1 k2 k3=>?_,fun i j k1 k2 k3 k4=>?_⟩
 ·rw [g1 i (by omega),g1 j (by omega)]; exact S1 _ _ k1 k2 (by omega)
 ·rw [g2 i (by omega) (by omega),g2 j (by omega) (by omega)]; exact S2 _ _ (by omega) (by omega) (by omega)
 ·rw [g3 i (by omega) (by omega),g3 j (by omega) (by omega)]; exact S1 _ _ (by omega) (by omega) (by omega)
 ·rw [g4 i (by omega),g4 j (by omega)]; exact S2 _ _ (by omega) (by omega) (by omega)
 ·by_cases hi:i<x
  ·rw [g1 i hi]
   by_cases hj:j<E
   ·rw [g3 j k3 hj]; exact S1 _ _ k1 (by omega) (by omega)
   ·rw [g4 j (by omega)]
    have f1:=F1 (by omega) (by omega)
    have f2:=S1.le O k1 (show i≤x - 1 by omega) (by omega) (by omega)
    have f3:=S2.le O (show q≤E from h4) (show E≤j by omega) k4 hb
    exact O.tr _ (bP (by omega)) _ (bP (show E<l.length by omega)) _ (bP (by omega)) (O.tr _ (bP (by omega)) _ (bP (show x - 1<l.length by omega)) _ (bP (by omega)) f2 f1) f3
  ·rw [g2 i (by omega) k2]
   by_cases hj:j<E
   ·rw [g3 j k3 hj]
    have f1:=O.Kp _ (bP (show E - 1<l.length by omega)) _ (bP (show x<l.length by omega)) (F2 (by omega) (by omega))
    have f2:=S2.le O (show q≤q+(i - x) by omega) (show q+(i - x)≤E - 1 by omega) (by omega) hb
    have f3:=S1.le O h1 (show x≤x+(j - M) by omega) (by omega) (by omega)
    exact O.tr _ (bP (by omega)) _ (bP (show x<l.length by omega)) _ (bP (by omega)) (O.tr _ (bP (by omega)) _ (bP (show E - 1<l.length by omega)) _ (bP (by omega)) f2 f1) f3
   ·rw [g4 j (by omega)]; exact S2 _ _ (by omega) (by omega) k4
theorem Fl {l:List Int}{x i j:Nat}(h:i=0∨j=0):Ko l l x i j:=
 ⟨List.Perm.refl _,fun k hk=>by rw [show i=0 by omega,WV],fun k hk=>by rw [show j=0 by omega,WV],fun _ _=>rfl⟩
theorem JM {l d:List Int}{x i j a b:Nat}(R:Ko l d x i j)(h1:a≤x)(h2:x+i+j≤b):Mv a b l d:=by
 obtain⟨R1,R2,R3,R4⟩:=R
 refine⟨R1,fun k hk=>R4 k (by omega),fun k k1 k2=>?_⟩
 by_cases g1:k<x∨x+i+j≤k
 ·exact⟨k,k1,k2,R4 k g1⟩
 ·by_cases g2:k<x+j
  ·have:=R2 (k - x) (by omega)
   rw [show x+(k - x)=k by omega] at this
   exact⟨_,by omega,by omega,this⟩
  ·have:=R3 (k - x - j) (by omega)
   rw [show x+j+(k - x - j)=k by omega] at this
   exact⟨_,by omega,by omega,this⟩
theorem pk (hm:2 ^ 41≤m):∀(f:Nat) (l:List Int) (a q b:Nat),b - a<f→a<q→q<b→b≤l.length→l.length<2 ^ 40→Cm cmp c l→
  ∃d,aJ.f m f l (a:Int) (q:Int) (b:Int) cmp=some d∧Mv a b l d∧(Ord c l→Sg c l a q→Sg c l q b→Sg c d a b)
 | 0,l,a,q,b,hf,_,_,_,_,_=>absurd hf (by omega)
 | f+1,l,a,q,b,hf,h1,h2,h3,hs,C=>by
  have tj:(2:Nat) ^ 40=1099511627776:=by decide
  have yD:(2:Nat) ^ 41=2199023255552:=by decide
  have PV:(2:Nat) ^ 42=4398046511104:=by decide
  unfold aJ.f
  unfold aJ.b
  have e1:i64.wrap ((q:Int) - (a:Int))=((q - a:Nat):Int):=by rw [bH (by omega) (by omega)]; omega
  have e2:i64.wrap ((b:Int) - (q:Int))=((b - q:Nat):Int):=by rw [bH (by omega) (by omega)]; omega
  have hM:=xZ (a:=a) (b:=b) (by omega)
  rw [e1,e2,hM]
  by_cases PQ:q - a=1
  ·obtain⟨x,k1,k2,k3,k4,k5⟩:=zC (m:=m) (a:=a) (by omega) hs C m q b (by omega) (by omega) h3
   obtain⟨d,y,g1,g2,g3⟩:=Fj (m:=m) (l:=l) (a:=a) (x:=x) (by omega) (by omega) hs m a l (by omega) (Vv _) (by omega) Mv.refl (fun t=>by rw [if_neg (by omega)]; split<;>simp_all)
   rw [if_pos (by simp; omega),k1,Vq]
   dsimp only
   rw [g1]
   refine⟨d,rfl,g2.wide (Vv _) k3,fun O S1 S2 i j r1 r2 r3=>?_⟩
   have A1:∀t,a≤t→t+1<x→gt d t=gt l (t+1):=fun t w1 w2=>by rw [g3 t,if_pos ⟨w1,w2⟩]
   have A2:∀t,t+1=x→gt d t=gt l a:=fun t w1=>by rw [g3 t,if_neg (by omega),if_pos w1]
   have A3:∀t,x≤t→gt d t=gt l t:=fun t w1=>by rw [g3 t,if_neg (by omega),if_neg (by omega)]
   by_cases i1:i+1<x
   ·rw [A1 i r1 i1]
    by_cases j1:j+1<x
    ·rw [A1 j (by omega) j1]; exact S2 _ _ (by omega) (by omega) (by omega)
    ·have f1:=O.Kp _ (bP (show x - 1<l.length by omega)) _ (bP (show a<l.length by omega)) (k4 (by omega))
     have f2:=S2.le O (show q≤i+1 by omega) (show i+1≤x - 1 by omega) (by omega) h3
     by_cases j2:j+1=x
     ·rw [A2 j j2]
      exact O.tr _ (bP (by omega)) _ (bP (show x - 1<l.length by omega)) _ (bP (by omega)) f2 f1
     ·rw [A3 j (by omega)]; exact S2 _ _ (by omega) (by omega) (by omega)
   ·rw [A3 j (by omega)]
    by_cases i2:i+1=x
    ·rw [A2 i i2]
     have f1:=k5 (by omega)
     have f2:=S2.le O (show q≤x by omega) (show x≤j by omega) r3 h3
     exact O.tr _ (bP (by omega)) _ (bP (show x<l.length by omega)) _ (bP (by omega)) f1 f2
    ·rw [A3 i (by omega)]; exact S2 _ _ (by omega) r2 r3
  rw [if_neg (by simp; omega)]
  by_cases hb1:b - q=1
  ·obtain⟨x,k1,k2,k3,k4,k5⟩:=zD (m:=m) (q:=q) (by omega) hs C m a q (by omega) (by omega) (by omega)
   obtain⟨d,y,g1,g2,g3⟩:=Fk (m:=m) (l:=l) (q:=q) (x:=x) (by omega) (by omega) hs m q l (by omega) (by omega) (Vv _) Mv.refl (fun t=>by rw [if_neg (by omega)]; split<;>simp_all)
   rw [if_pos (by simp; omega),k1,Vq]
   dsimp only
   rw [g1]
   refine⟨d,rfl,g2.wide k2 (by omega),fun O S1 S2 i j r1 r2 r3=>?_⟩
   have A1:∀t,x<t→t≤q→gt d t=gt l (t - 1):=fun t w1 w2=>by rw [g3 t,if_pos ⟨w1,w2⟩]
   have A2:gt d x=gt l q:=by rw [g3 x,if_neg (by omega),if_pos rfl]
   have A3:∀t,t<x→gt d t=gt l t:=fun t w1=>by rw [g3 t,if_neg (by omega),if_neg (by omega)]
   by_cases i1:x<i
   ·rw [A1 i i1 (by omega),A1 j (by omega) (by omega)]
    exact S1 _ _ (by omega) (by omega) (by omega)
   ·by_cases i2:i=x
    ·subst i2
     rw [A2,A1 j (by omega) (by omega)]
     have f1:=O.Kp _ (bP (show q<l.length by omega)) _ (bP (show i<l.length by omega)) (k5 (by omega))
     have f2:=S1.le O r1 (show i≤j - 1 by omega) (by omega) (by omega)
     exact O.tr _ (bP (by omega)) _ (bP (show i<l.length by omega)) _ (bP (by omega)) f1 f2
    ·rw [A3 i (by omega)]
     by_cases j1:x<j
     ·rw [A1 j j1 (by omega)]
      exact S1.le O r1 (by omega) (by omega) (by omega)
     ·have f1:=k4 (by omega)
      have f2:=S1.le O r1 (show i≤x - 1 by omega) (by omega) (by omega)
      by_cases j2:j=x
      ·subst j2
       rw [A2]
       exact O.tr _ (bP (by omega)) _ (bP (show j - 1<l.length by omega)) _ (bP (by omega)) f2 f1
      ·rw [A3 j (by omega)]; exact S1 _ _ r1 r2 (by omega)
  rw [if_neg (by simp; omega)]
  refine JL ?_
  intro z hz
  have RH:∃s r:Nat,z=((s:Int),(r:Int))∧((q > (a+b) / 2∧s=(a+b) / 2+q - b∧r=(a+b) / 2)∨(q≤(a+b) / 2∧s=a∧r=q)):=by
   rcases hz with⟨hc,rfl⟩| ⟨hc,rfl⟩
   ·refine⟨(a+b) / 2+q - b,(a+b) / 2,?_,.inl ⟨by simp only [decide_eq_true_eq] at hc; omega,rfl,rfl⟩⟩
    simp only [Vz,and_true]
    simp only [decide_eq_true_eq] at hc
    rw [bH (x:=(((a+b) / 2:Nat):Int)+(q:Int)) (by omega) (by omega),bH (by omega) (by omega)]
    omega
   ·refine⟨a,q,rfl,.inr ⟨?_,rfl,rfl⟩⟩
    simp only [decide_eq_false_iff_not] at hc
    omega
  obtain⟨s,r,rfl,RH⟩:=RH
  clear hz
  dsimp only
  obtain⟨x,k1,k2,k3,k4,k5⟩:=zE (m:=m) (a:=a) (b:=b) (q:=q) (by omega) hs C m s r (by omega) (by omega) (by omega) (by omega) (by omega)
  rw [k1,Vq]
  dsimp only
  generalize Vl:(a+b) / 2=M at *
  obtain⟨E,hE⟩:∃E,E=M+q - x:=⟨_,rfl⟩
  have eE:i64.wrap (i64.wrap ((M:Int)+(q:Int)) - (x:Int))=(E:Int):=by
   rw [bH (x:=(M:Int)+(q:Int)) (by omega) (by omega),bH (by omega) (by omega)]
   omega
  rw [eE]
  rw [←hE] at k4 k5
  have c1:a≤x:=by omega
  have c2:x≤M:=by omega
  have c3:x≤q:=by omega
  have c4:q≤E:=by omega
  have c5:E≤b:=by omega
  have c6:E+x=M+q:=by omega
  have c7:M≤E:=by omega
  have F1:a<x→E<b→0≤c (gt l E) (gt l (x - 1)):=fun _ _=>k4 (by omega)
  have F2:x<q→q<E→c (gt l (E - 1)) (gt l x)<0:=fun _ _=>k5 (by omega)
  refine Fi (fun d=>Ko l d x (q - x) (E - q)) (fun u1 u2=>?_) (fun u=>?_) ?_
  ·simp only [decide_eq_true_eq] at u1 u2
   exact Fc hm (by omega) (by omega) (by omega) hs
  ·simp only [decide_eq_true_eq] at u
   exact Fl (by omega)
  intro d5 R
  try dsimp only
  have M5:Mv a b l d5:=JM R c1 (by omega)
  have l5:=M5.length
  refine Fi (fun d=>Mv a M d5 d∧(Ord c l→Sg c l a q→Sg c l q b→Sg c d a M)) (fun u1 u2=>?_) (fun u=>?_) ?_
  ·simp only [decide_eq_true_eq] at u1 u2
   obtain⟨d,g1,g2,g3⟩:=pk hm f d5 a x M (by omega) (by omega) (by omega) (by omega) (by omega) (C.perm M5.perm)
   refine⟨d,g1,g2,fun O S1 S2=>?_⟩
   obtain⟨v1,v2,v3,v4,v5⟩:=sZ c1 c2 c3 c4 c5 c6 h3 R O F1 F2 S1 S2
   exact g3 (O.perm M5.perm) v1 v2
  ·simp only [decide_eq_true_eq] at u
   refine⟨Mv.refl,fun O S1 S2=>?_⟩
   obtain⟨v1,v2,v3,v4,v5⟩:=sZ c1 c2 c3 c4 c5 c6 h3 R O F1 F2 S1 S2
   by_cases ua:a=x
   ·rw [ua]; exact v2
   ·rw [show M=x by omega]; exact v1
  rintro d6 ⟨M6,S6⟩
  try dsimp only
  have l6:=M6.length
  have PW:=M5.trans (M6.wide (Vv _) (by omega))
  have fin:∀d,Mv M b d6 d→(Ord c l→Sg c l a q→Sg c l q b→Sg c d M b)→Mv a b l d∧(Ord c l→Sg c l a q→Sg c l q b→Sg c d a b):=by
   intro d M7 S7
   refine⟨PW.trans (M7.wide (by omega) (Vv _)),fun O S1 S2 i j r1 r2 r3=>?_⟩
   obtain⟨v1,v2,v3,v4,v5⟩:=sZ c1 c2 c3 c4 c5 c6 h3 R O F1 F2 S1 S2
   by_cases hj:j<M
   ·rw [M7.out i (by omega),M7.out j (by omega)]
    exact S6 O S1 S2 _ _ r1 r2 hj
   ·by_cases hi:M≤i
    ·exact S7 O S1 S2 _ _ hi r2 r3
    ·obtain⟨j',y1,y2,y3⟩:=M7.im j (by omega) r3
     obtain⟨i',w1,w2,w3⟩:=M6.im i r1 (by omega)
     rw [M7.out i (by omega),y3,M6.out j' (by omega),w3]
     exact v5 _ _ w1 w2 y1 y2
  refine PT (fun u1 u2=>?_) (fun u=>?_)
  ·simp only [decide_eq_true_eq] at u1 u2
   obtain⟨d,g1,g2,g3⟩:=pk hm f d6 M E b (by omega) (by omega) (by omega) (by omega) (by omega) (C.perm PW.perm)
   refine⟨d,g1,fin d g2 fun O S1 S2=>?_⟩
   obtain⟨v1,v2,v3,v4,v5⟩:=sZ c1 c2 c3 c4 c5 c6 h3 R O F1 F2 S1 S2
   refine g3 (O.perm PW.perm) (fun i j y1 y2 y3=>?_) (fun i j y1 y2 y3=>?_)
   ·rw [M6.out i (by omega),M6.out j (by omega)]; exact v3 _ _ y1 y2 y3
   ·rw [M6.out i (by omega),M6.out j (by omega)]; exact v4 _ _ y1 y2 y3
  ·simp only [decide_eq_true_eq] at u
   refine fin d6 Mv.refl fun O S1 S2 i j y1 y2 y3=>?_
   obtain⟨v1,v2,v3,v4,v5⟩:=sZ c1 c2 c3 c4 c5 c6 h3 R O F1 F2 S1 S2
   rw [M6.out i (by omega),M6.out j (by omega)]
   by_cases ue:M=E
   ·exact v4 _ _ (by omega) y2 y3
   ·exact v3 _ _ y1 y2 (by omega)
end
end Go.Proofs.Ytifafejidnjckaa
namespace Go.Proofs.Ytifafejidnjckaa
open Go Go.R
open Go.IntKind (i64 u64 u8 u32)
section
variable {m:Nat}{cmp:Int→Int→Option Int}{c:Int→Int→Int}
def Ma (c:Int→Int→Int)(d:List Int)(bs n:Nat):Prop:=∀k i j,k*bs≤i→i<j→j<k*bs+bs→j<n→0≤c (gt d j) (gt d i)
theorem Fm (hm:2 ^ 41≤m){n:Nat}{l:List Int}(hn:n=l.length)(hs:l.length<2 ^ 40)(C:Cm cmp c l):∀(f t:Nat) (d:List Int),n - 20*t<f→20*t≤n→Mv 0 (20*t) l d→
  (Ord c l→∀k,k<t→Sg c d (20*k) (20*k+20))→
  ∃d' t' y,bO.l0 m (n:Int) cmp f d ((20*t:Nat):Int) ((20*t+20:Nat):Int)=some (d',((20*t':Nat):Int),y)∧20*t'≤n∧n<20*t'+20∧Mv 0 (20*t') l d'∧(Ord c l→∀k,k<t'→Sg c d' (20*k) (20*k+20))
 | 0,t,d,hf,_,_,_=>absurd hf (by omega)
 | f+1,t,d,hf,h1,M,S=>by
  have tj:(2:Nat) ^ 40=1099511627776:=by decide
  have yD:(2:Nat) ^ 41=2199023255552:=by decide
  have hl:=M.length
  unfold bO.l0
  by_cases h:20*t+20≤n
  ·obtain⟨d1,e1,M1,S1⟩:=yb (a:=20*t) (b:=20*t+20) (cmp:=cmp) (c:=c) hm (l:=d) (by omega) (by omega) (by omega) (C.perm M.perm)
   rw [if_pos (by simp only [decide_eq_true_eq]; omega),e1,Vq,bH (x:=((20*t+20:Nat):Int)+20) (by omega) (by omega)]
   have:=Fm hm hn hs C f (t+1) d1 (by omega) (by omega) ((M.wide (Vv _) (by omega)).trans (M1.wide (by omega) (by omega))) (fun O k hk i j k1 k2 k3=>by
    by_cases Gm:k=t
    ·subst Gm; exact S1 (O.perm M.perm) _ _ k1 k2 k3
    ·rw [M1.out i (by omega),M1.out j (by omega)]; exact S O k (by omega) _ _ k1 k2 k3)
   rw [show ((20*(t+1):Nat):Int)=((20*t+20:Nat):Int) by omega,show ((20*(t+1)+20:Nat):Int)=((20*t+20:Nat):Int)+20 by omega] at this
   exact this
  ·exact⟨d,t,_,by rw [if_neg (by simp only [decide_eq_true_eq]; omega)],h1,by omega,M,S⟩
theorem Fo (hm:2 ^ 41≤m){n bs:Nat}{l:List Int}(hn:n=l.length)(hs:l.length<2 ^ 40)(hb:0<bs)(DO:bs<n)(C:Cm cmp c l)(B:Ord c l→Ma c l bs n):∀(f t:Nat) (d:List Int),n - t*(2*bs)<f→t*(2*bs)≤n→Mv 0 (t*(2*bs)) l d→
  (Ord c l→∀k,k<t→Sg c d (k*(2*bs)) (k*(2*bs)+2*bs))→
  ∃d' t' y,bO.l2 m (n:Int) cmp (bs:Int) f d ((t*(2*bs):Nat):Int) ((t*(2*bs)+2*bs:Nat):Int)=some (d',((t'*(2*bs):Nat):Int),y)∧t'*(2*bs)≤n∧n<t'*(2*bs)+2*bs∧Mv 0 (t'*(2*bs)) l d'∧(Ord c l→∀k,k<t'→Sg c d' (k*(2*bs)) (k*(2*bs)+2*bs))
 | 0,t,d,hf,_,_,_=>absurd hf (by omega)
 | f+1,t,d,hf,h1,M,S=>by
  have tj:(2:Nat) ^ 40=1099511627776:=by decide
  have yD:(2:Nat) ^ 41=2199023255552:=by decide
  have hl:=M.length
  unfold bO.l2
  have ht:(t+1)*(2*bs)=t*(2*bs)+2*bs:=Nat.succ_mul _ _
  have q1:(2*t)*bs=t*(2*bs):=by rw [Nat.mul_assoc,Nat.mul_left_comm]
  have q2:(2*t+1)*bs=t*(2*bs)+bs:=by rw [Nat.succ_mul,q1]
  by_cases h:t*(2*bs)+2*bs≤n
  ·have S0:Ord c l→Sg c d (t*(2*bs)) (t*(2*bs)+bs):=fun O i j k1 k2 k3=>by
    rw [M.out i (by omega),M.out j (by omega)]; exact B O (2*t) i j (by omega) k2 (by omega) (by omega)
   have T6:Ord c l→Sg c d (t*(2*bs)+bs) (t*(2*bs)+2*bs):=fun O i j k1 k2 k3=>by
    rw [M.out i (by omega),M.out j (by omega)]; exact B O (2*t+1) i j (by omega) k2 (by omega) (by omega)
   have hk:∀k,k<t→k*(2*bs)+2*bs≤t*(2*bs):=fun k hk=>by
    rw [←Nat.succ_mul]; exact Wi _ hk
   generalize hA:t*(2*bs)=A at *
   obtain⟨d1,e1,M1,S1⟩:=pk (cmp:=cmp) (c:=c) hm m d A (A+bs) (A+2*bs) (by omega) (by omega) (by omega) (by omega) (by omega) (C.perm M.perm)
   have e0:i64.wrap ((A:Int)+(bs:Int))=((A+bs:Nat):Int):=by rw [bH (by omega) (by omega)]; omega
   have e2:i64.wrap ((2:Int)*(bs:Int))=((2*bs:Nat):Int):=by rw [bH (by omega) (by omega)]; omega
   have e3:i64.wrap (((A+2*bs:Nat):Int)+((2*bs:Nat):Int))=((A+2*bs+2*bs:Nat):Int):=by rw [bH (by omega) (by omega)]; omega
   rw [if_pos (by simp only [decide_eq_true_eq]; omega),e0,e1,Vq,e2,e3]
   have:=Fo hm hn hs hb DO C B f (t+1) d1 (by omega) (by omega) (by rw [ht]; exact (M.wide (Vv _) (by omega)).trans (M1.wide (by omega) (by omega))) (fun O k sa i j k1 k2 k3=>by
    by_cases Gm:k=t
    ·subst Gm; rw [hA] at k1 k3; exact S1 (O.perm M.perm) (S0 O) (T6 O) _ _ k1 k2 k3
    ·have:=hk k (by omega)
     rw [M1.out i (by omega),M1.out j (by omega)]; exact S O k (by omega) _ _ k1 k2 k3)
   rw [ht] at this
   exact this
  ·exact⟨d,t,_,by rw [if_neg (by simp only [decide_eq_true_eq]; omega)],h1,by omega,M,S⟩
theorem zF (hm:2 ^ 41≤m){n:Nat}:∀(f bs:Nat) (l:List Int),n=l.length→l.length<2 ^ 40→Cm cmp c l→n - bs<f→0<bs→bs<2 ^ 42→(Ord c l→Ma c l bs n)→
  ∃d y,bO.l1 m (n:Int) cmp f l (bs:Int)=some (d,y)∧d.Perm l∧(Ord c l→Sg c d 0 n)
 | 0,bs,l,_,_,_,hf,_,_,_=>absurd hf (by omega)
 | f+1,bs,l,hn,hs,C,hf,hb,hb2,B=>by
  have tj:(2:Nat) ^ 40=1099511627776:=by decide
  have yD:(2:Nat) ^ 41=2199023255552:=by decide
  have PV:(2:Nat) ^ 42=4398046511104:=by decide
  unfold bO.l1
  by_cases h:bs<n
  ·have e2:i64.wrap ((2:Int)*(bs:Int))=((2*bs:Nat):Int):=by rw [bH (by omega) (by omega)]; omega
   have e3:i64.wrap ((bs:Int)*(2:Int))=((2*bs:Nat):Int):=by rw [bH (by omega) (by omega)]; omega
   obtain⟨d1,t,y,k1,k2,k3,M1,S1⟩:=Fo (cmp:=cmp) (c:=c) hm hn hs hb h C B m 0 l (by omega) (by omega) Mv.refl (fun O k hk=>absurd hk (by omega))
   have l1:=M1.length
   simp only [Nat.zero_mul,VO] at k1
   have k1:bO.l2 m (n:Int) cmp (bs:Int) m l (0:Int) ((2*bs:Nat):Int)=_:=k1
   rw [if_pos (by simp only [decide_eq_true_eq]; omega),e2,k1,Vq]
   dsimp only
   rw [e3]
   have q1:(2*t)*bs=t*(2*bs):=by rw [Nat.mul_assoc,Nat.mul_left_comm]
   have q2:(2*t+1)*bs=t*(2*bs)+bs:=by rw [Nat.succ_mul,q1]
   have hk:∀k,k<t→k*(2*bs)+2*bs≤t*(2*bs):=fun k hk=>by
    rw [←Nat.succ_mul]; exact Wi _ hk
   have sa:∀k,t<k→t*(2*bs)+2*bs≤k*(2*bs):=fun k hk=>by
    rw [←Nat.succ_mul]; exact Wi _ hk
   have e0:i64.wrap (((t*(2*bs):Nat):Int)+(bs:Int))=((t*(2*bs)+bs:Nat):Int):=by rw [bH (by omega) (by omega)]; omega
   rw [e0]
   by_cases h2:t*(2*bs)+bs<n
   ·obtain⟨d2,e4,M2,S2⟩:=pk (cmp:=cmp) (c:=c) hm m d1 (t*(2*bs)) (t*(2*bs)+bs) n (by omega) (by omega) (by omega) (by omega) (by omega) (C.perm M1.perm)
    rw [if_pos (by simp only [decide_eq_true_eq]; omega),e4,Vq]
    have P2:=M2.perm.trans M1.perm
    obtain⟨d,y,g1,g2,g3⟩:=zF (n:=n) hm f (2*bs) d2 (by have:=P2.length_eq; omega) (by have:=P2.length_eq; omega) (C.perm P2) (by omega) (by omega) (by omega) (fun O k i j w1 w2 w3 w4=>by
     have O:=O.perm P2.symm
     by_cases u1:k<t
     ·have:=hk k u1
      rw [M2.out i (by omega),M2.out j (by omega)]; exact S1 O k u1 _ _ w1 w2 w3
     ·by_cases u2:k=t
      ·subst u2
       refine S2 (O.perm M1.perm) (fun i j x1 x2 x3=>?_) (fun i j x1 x2 x3=>?_) _ _ w1 w2 w4
       ·rw [M1.out i (by omega),M1.out j (by omega)]; exact B O (2*k) i j (by omega) x2 (by omega) (by omega)
       ·rw [M1.out i (by omega),M1.out j (by omega)]; exact B O (2*k+1) i j (by omega) x2 (by omega) (by omega)
      ·have:=sa k (by omega); omega)
    exact⟨d,y,g1,g2.trans P2,fun O=>g3 (O.perm P2)⟩
   ·rw [if_neg (by simp only [decide_eq_true_eq]; omega)]
    have P2:=M1.perm
    obtain⟨d,y,g1,g2,g3⟩:=zF (n:=n) hm f (2*bs) d1 (by have:=P2.length_eq; omega) (by have:=P2.length_eq; omega) (C.perm P2) (by omega) (by omega) (by omega) (fun O k i j w1 w2 w3 w4=>by
     have O:=O.perm P2.symm
     by_cases u1:k<t
     ·exact S1 O k u1 _ _ w1 w2 w3
     ·by_cases u2:k=t
      ·subst u2
       rw [M1.out i (by omega),M1.out j (by omega)]; exact B O (2*k) i j (by omega) w2 (by omega) (by omega)
      ·have:=sa k (by omega); omega)
    exact⟨d,y,g1,g2.trans P2,fun O=>g3 (O.perm P2)⟩
  ·refine⟨l,bs,by rw [if_neg (by simp only [decide_eq_true_eq]; omega)],List.Perm.refl _,fun O i j w1 w2 w3=>B O 0 i j (by omega) w2 (by omega) w3⟩
theorem CU (hm:2 ^ 41≤m){l:List Int}(hs:l.length<2 ^ 40)(C:Cm cmp c l):∃d,fu.f m l cmp=some d∧d.Perm l∧(Ord c l→Sg c d 0 l.length):=by
 have tj:(2:Nat) ^ 40=1099511627776:=by decide
 have yD:(2:Nat) ^ 41=2199023255552:=by decide
 have PV:(2:Nat) ^ 42=4398046511104:=by decide
 unfold fu.f bO.f
 obtain⟨d1,t,y,k1,k2,k3,M1,S1⟩:=Fm (cmp:=cmp) (c:=c) hm rfl hs C m 0 l (by omega) (by omega) Mv.refl (fun O k hk=>absurd hk (by omega))
 have k1:bO.l0 m (l.length:Int) cmp m l (0:Int) (20:Int)=_:=k1
 have l1:=M1.length
 rw [k1,Vq]
 dsimp only
 obtain⟨d2,e2,M2,S2⟩:=yb (a:=20*t) (b:=l.length) (cmp:=cmp) (c:=c) hm (l:=d1) (by omega) (by omega) (by omega) (C.perm M1.perm)
 rw [e2,Vq]
 have P2:=M2.perm.trans M1.perm
 obtain⟨d,y,g1,g2,g3⟩:=zF (cmp:=cmp) (c:=c) (n:=l.length) hm m 20 d2 P2.length_eq.symm (by rw [P2.length_eq]; exact hs) (C.perm P2) (by omega) (by omega) (by omega) (fun O k i j w1 w2 w3 w4=>by
  have O:=O.perm P2.symm
  by_cases u1:k<t
  ·rw [M2.out i (by omega),M2.out j (by omega)]; exact S1 O k u1 _ _ (by omega) w2 (by omega)
  ·exact S2 (O.perm M1.perm) _ _ (by omega) w2 (by omega))
 have g1:bO.l1 m (l.length:Int) cmp m d2 (20:Int)=_:=g1
 rw [g1]
 exact⟨d,rfl,g2.trans P2,fun O=>g3 (O.perm P2)⟩
end
end Go.Proofs.Ytifafejidnjckaa
namespace Go.Proofs.Ytifafejidnjckaa
open Go Go.R
open Go.IntKind (i64 u64 u8 u32)
def kD (t:bw):Bool:=decide (1≤t.nodes.length)&&decide (t.nodes.length≤8000)&&decide (0≤t.root)&&decide (t.root<t.nodes.length)&&t.nodes.all fun n=>pj n t.nodes.length
theorem zG {m:Nat}(hm:2 ^ 30≤m)(t:bw):gM.f m t=some (kD t):=by
 have JN:(2:Nat) ^ 30=1073741824:=by decide
 have tj:(2:Nat) ^ 40=1099511627776:=by decide
 unfold gM.f kD
 by_cases h1:1≤t.nodes.length
 ·rw [if_pos (by simp only [decide_eq_true_eq]; omega),decide_eq_true h1]
  by_cases h2:t.nodes.length≤8000
  ·rw [if_pos (by simp only [decide_eq_true_eq]; omega),decide_eq_true h2]
   by_cases h3:0≤t.root
   ·rw [if_pos (by simp only [decide_eq_true_eq]; omega),decide_eq_true h3]
    by_cases h4:t.root<t.nodes.length
    ·rw [if_pos (by simp only [decide_eq_true_eq]; omega),decide_eq_true h4]
     rw [CS (g:=fun n=>!(pj n t.nodes.length)) (by omega) (by omega) (fun n _=>by unfold gg.f; rw [CT (by omega)]; rfl),Vq]
     simp [List.not_any_eq_all_not]
    ·rw [if_neg (by simp only [decide_eq_true_eq]; omega),decide_eq_false h4]; rfl
   ·rw [if_neg (by simp only [decide_eq_true_eq]; omega),decide_eq_false h3]; rfl
  ·rw [if_neg (by simp only [decide_eq_true_eq]; omega),decide_eq_false h2]; rfl
 ·rw [if_neg (by simp only [decide_eq_true_eq]; omega),decide_eq_false h1]; rfl
def cI (x y:Int):Int:=if x<y then -1 else if y<x then 1 else 0
def cS (x y:ByteArray):Int:=if Op.bytesLess x.data.toList y.data.toList=true then -1 else if (!D7 x y)=true then 1 else 0
def CV (x y:Int):Int:=if x=0 then y else x
def cT (a b:aq):Int:=if a.kind=b.kind then (if a.kind=3 then CV (cI a.args.length b.args.length) (cS a.label b.label) else CV (cS a.label b.label) (cI a.int b.int)) else cI a.kind b.kind
theorem vY {m:Nat}(x y:Int):cM.f m x y=some (cI x y):=by
 unfold cM.f cmp_isNaN_int.f cI
 simp only [beq_self_eq_true,Wn,Vq,VB,if_false]
 by_cases h:x<y
 ·rw [if_pos (by simpa using h),if_pos h]
 ·rw [if_neg (by simpa using h),if_neg h]
  by_cases h2:y<x
  ·rw [if_pos (by simpa using h2),if_pos h2]
  ·rw [if_neg (by simpa using h2),if_neg h2]
theorem BG {m:Nat}(x y:ByteArray):cm.f m x y=some (cS x y):=by
 unfold cm.f cmp_isNaN_string.f cS
 simp only [beq_self_eq_true,Wn,Vq,VB,if_false]
 split
 ·rfl
 ·split
  ·rfl
  ·rfl
theorem yc {m:Nat}(hm:3≤m)(x y:Int):cb.f m [x,y]=some (CV x y):=by
 obtain⟨k,rfl⟩:∃k,m=k+3:=⟨m - 3,by omega⟩
 unfold cb.f CV
 have e1:i64.wrap ((0:Int)+1)=1:=by decide
 have e2:i64.wrap ((1:Int)+1)=2:=by decide
 have a0:ix [x,y] 0=some x:=rfl
 have a1:ix [x,y] 1=some y:=rfl
 unfold cb.l0
 rw [if_pos (by simp),a0,Vq]
 by_cases h:x=0
 ·subst h
  rw [if_neg (by simp),e1,if_pos rfl]
  unfold cb.l0
  rw [if_pos (by simp),a1,Vq]
  by_cases h2:y=0
  ·subst h2
   rw [if_neg (by simp),e2]
   unfold cb.l0
   rw [if_neg (by simp)]; rfl
  ·rw [if_pos (by simpa using h2)]; rfl
 ·rw [if_pos (by simpa using h),if_neg h]; rfl
theorem BH {m:Nat}(hm:3≤m)(a b:aq):dp.f m a b=some (cT a b):=by
 unfold dp.f cT
 by_cases h:a.kind=b.kind
 ·rw [if_neg (by simp [h]),if_pos h]
  by_cases h3:a.kind=3
  ·rw [if_pos (by simpa using h3),if_pos h3,vY,BG,Vq,Vq,yc hm]; rfl
  ·rw [if_neg (by simpa using h3),if_neg h3,vY,BG,Vq,Vq,yc hm]; rfl
 ·rw [if_pos (by simpa using h),if_neg h,vY]; rfl
def nd (l:List aq)(i:Int):aq:=l.getD i.toNat ⟨0,0,⟨#[]⟩,[]⟩
theorem s7 {l:List aq}{i:Int}(h0:0≤i)(h1:i<l.length):ix l i=some (nd l i):=by
 unfold ix nd
 have h:i.toNat<l.length:=by omega
 rw [if_pos h0,VM,Vx h]; rfl
theorem kE {l:List aq}{i:Int}(h0:0≤i)(h1:i<l.length):nd l i∈l:=by
 have:=s7 h0 h1
 unfold ix at this
 rw [if_pos h0] at this
 exact VH this
theorem Fp {m:Nat}(hm:3≤m){l:List aq}{i j:Int}(h0:0≤i)(h1:i<l.length)(h2:0≤j)(h3:j<l.length):dM.f m i j l=some (cT (nd l i) (nd l j)):=by
 unfold dM.f
 rw [s7 h0 h1,s7 h2 h3,Vq,Vq,BH hm]; rfl
end Go.Proofs.Ytifafejidnjckaa
namespace Go.Proofs.Ytifafejidnjckaa
open Go Go.R
open Go.IntKind (i64 u64 u8 u32)
def key (out:List Int)(n:aq)(i:Nat):List Int:=(gt out i+1)::((n.args.map fun a=>gt out a.toNat+1)++VJ (8 - n.args.length) 0)
def enum:List (List Int)→Nat→List (List Int × Int)
 | [],_=>[]
 | k::ks,s=>(k,(s:Int))::enum ks (s+1)
theorem mR:∀(ks:List (List Int)) (s:Nat),(enum ks s).length=ks.length
 | [],_=>rfl
 | k::ks,s=>by simp [enum,mR ks]
theorem s8:∀(ks:List (List Int)) (s:Nat) (k:List Int),su (enum ks s) k=if k∈ks then (((s+ks.idxOf k:Nat):Int),true) else (0,false)
 | [],s,k=>rfl
 | a::ks,s,k=>by
  simp only [enum,su,s8 ks (s+1) k,VS,List.idxOf_cons]
  by_cases h:k=a
  ·subst h; simp
  ·have h':(a==k)=false:=by simpa using fun z:a=k=>h z.symm
   rw [if_neg h,h']
   by_cases h2:k∈ks
   ·simp only [h2,if_true,or_true,cond_false]
    simp only [Vz,and_true]
    omega
   ·simp [h2,h]
theorem yd:∀(ks:List (List Int)) (s:Nat) (k:List Int),k∉ks→zd (enum ks s) k ((s+ks.length:Nat):Int)=enum (ks++[k]) s
 | [],s,k,_=>rfl
 | a::ks,s,k,h=>by
  have h1:k≠a:=fun z=>h (by simp [z])
  have h2:k∉ks:=fun z=>h (by simp [z])
  simp only [enum,zd,V6,if_neg h1,VF]
  rw [show s+(ks.length+1)=s+1+ks.length by omega,yd ks (s+1) k h2]
theorem nj {n:Nat}:∀(ks:List (List Int)) (s:Nat) (k:List Int),k.length=n→(∀a∈ks,a.length=n)→ss n (enum ks s) k=true
 | [],s,k,h,_=>by simp [ss,enum,h]
 | a::ks,s,k,h,h2=>by
  have:=nj ks (s+1) k h fun a ha=>h2 a (by simp [ha])
  simp only [ss,Vu,beq_iff_eq,h,true_and] at this ⊢
  simp only [enum,Wf,Vu,beq_iff_eq]
  exact⟨h2 a (by simp),this⟩
structure Part (n:Nat)(out:List Int)(many:Nat):Prop where
 len:out.length=n
 BI:∀i,i<n→0≤gt out i∧gt out i≤many
 RI:∀v:Nat,v≤many→∃i,i<n∧gt out i=v
structure pW (l:List aq)(out:List Int)(p:Nat)(ks:List (List Int)):Prop where
 Hf:ks.Nodup
 mem:∀k,k∈ks↔∃i,i<p∧key out (nd l i) i=k
def BJ (l:List aq):Prop:=l.length≤8000∧∀n∈l,n.args.length≤8∧∀a∈n.args,0≤a∧a<l.length
theorem Hg {a:Int}{L:List Int}{t:Nat}{v:Int}(hL:L.length=t)(ht:t<8):(a::(L++VJ (8 - t) 0)).set (t+1) v=a::((L++[v])++VJ (8 - (t+1)) 0):=by
 rw [List.set_cons_succ,List.set_append_right _ _ (by omega),hL,WW,show 8 - t=(8 - (t+1))+1 by omega,List.replicate_succ,List.set_cons_zero,VI]
 rfl
theorem Fq {m:Nat}{out:List Int}{n:aq}(h8:n.args.length≤8)(ha:∀a∈n.args,0≤a∧a<out.length)(ho:∀i,i<out.length→0≤gt out i∧gt out i<2 ^ 40)(o:Int):∀(f t:Nat),n.args.length - t<f→t≤n.args.length→
  ∃x,ay.l4 m out n f (o::(((n.args.take t).map fun a=>gt out a.toNat+1)++VJ (8 - t) 0)) (t:Int)=some (o::((n.args.map fun a=>gt out a.toNat+1)++VJ (8 - n.args.length) 0),x)
 | 0,t,hf,_=>absurd hf (by omega)
 | f+1,t,hf,ht=>by
  have tj:(2:Nat) ^ 40=1099511627776:=by decide
  have i40:(2:Int) ^ 40=1099511627776:=by decide
  unfold ay.l4
  by_cases h:t<n.args.length
  ·have hx:ix n.args (t:Int)=some (gt n.args t):=fN h
   obtain⟨b0,b1⟩:=ha _ (bP h)
   obtain⟨c0,c1⟩:=ho (gt n.args t).toNat (by omega)
   have hy:ix out (gt n.args t)=some (gt out (gt n.args t).toNat):=zz (by omega) (by omega)
   have e1:i64.wrap ((t:Int)+1)=((t+1:Nat):Int):=by rw [bH (by omega) (by omega)]; omega
   have hT:((n.args.take t).map fun a=>gt out a.toNat+1).length=t:=by simp; omega
   have hz:∃z,ix (o::(((n.args.take t).map fun a=>gt out a.toNat+1)++VJ (8 - t) 0)) ((t+1:Nat):Int)=some z:=⟨_,fN (by simp; omega)⟩
   obtain⟨z,hz⟩:=hz
   obtain⟨x,ih⟩:=Fq (m:=m) h8 ha ho o f (t+1) (by omega) (by omega)
   have hT1:n.args.take (t+1)=n.args.take t++[gt n.args t]:=by rw [List.take_add_one,eA h]; rfl
   rw [hT1,VY] at ih
   rw [if_pos (by simp only [decide_eq_true_eq]; omega),hx,Vq,hy,Vq,e1,hz,Vq,VD,bH (x:=gt out (gt n.args t).toNat+1) (by omega) (by omega),Hg hT (by omega)]
   exact⟨x,ih⟩
  ·have:t=n.args.length:=by omega
   subst this
   exact⟨_,by rw [if_neg (by simp),List.take_length]⟩
theorem s9 {out:List Int}{n:aq}{i:Nat}(h8:n.args.length≤8):(key out n i).length=9:=by simp [key]; omega
theorem H4 {l:List aq}(ok:BJ l){i:Nat}(h:i<l.length):(nd l i).args.length≤8∧∀a∈(nd l i).args,0≤a∧a<l.length:=ok.2 _ (kE (by omega) (by omega))
theorem zH {m:Nat}(hm:2 ^ 30≤m){l:List aq}{out:List Int}{many:Nat}(ok:BJ l)(P:Part l.length out many)(H5:many<2 ^ 30):∀(f p:Nat) (ks:List (List Int)) (next:List Int),l.length - p<f→p≤l.length→pW l out p ks→next.length=l.length→
  (∀i,i<p→gt next i=(ks.idxOf (key out (nd l i) i):Int))→
  ∃PX next' x,ay.l3 m l out f (enum ks 0) next (p:Int)=some (enum PX 0,next',x)∧pW l out l.length PX∧next'.length=l.length∧∀i,i<l.length→gt next' i=(PX.idxOf (key out (nd l i) i):Int)
 | 0,p,ks,next,hf,_,_,_,_=>absurd hf (by omega)
 | f+1,p,ks,next,hf,hp,K,hn,hg=>by
  have JN:(2:Nat) ^ 30=1073741824:=by decide
  have tj:(2:Nat) ^ 40=1099511627776:=by decide
  have i40:(2:Int) ^ 40=1099511627776:=by decide
  have h8000:=ok.1
  have Gl:=P.len
  unfold ay.l3
  by_cases h:p<l.length
  ·obtain⟨n1,n2⟩:=H4 ok h
   obtain⟨r0,r1⟩:=P.BI p h
   have e1:i64.wrap ((p:Int)+1)=((p+1:Nat):Int):=by rw [bH (by omega) (by omega)]; omega
   obtain⟨x,hk⟩:=Fq (m:=m) (out:=out) (n:=nd l p) n1 (by rw [Gl]; exact n2) (fun i hi=>by have:=P.BI i (by omega); omega) (gt out p+1) m 0 (by omega) (by omega)
   have hk:ay.l4 m out (nd l p) m [gt out p+1,0,0,0,0,0,0,0,0] 0=some (key out (nd l p) p,x):=hk
   have MR:=s9 (out:=out) (i:=p) n1
   have z7:∀a∈ks,a.length=9:=fun a ha=>by
    obtain⟨i,hi,rfl⟩:=(K.mem a).1 ha
    exact s9 (H4 ok (by omega)).1
   have PY:∃z,ix next (p:Int)=some z:=⟨_,fN (by omega)⟩
   obtain⟨z,hz⟩:=PY
   rw [if_pos (by simp only [decide_eq_true_eq]; omega),s7 (by omega) (by omega),Vq,fN (by omega),Vq,bH (x:=gt out p+1) (by omega) (by omega),hk,Vq]
   dsimp only
   have hG:GK 9 (enum ks 0) (key out (nd l p) p)=some (if key out (nd l p) p∈ks then (((ks.idxOf (key out (nd l p) p):Nat):Int),true) else (0,false)):=by
    unfold GK; rw [if_pos (nj _ _ _ MR z7),s8,VO]
   rw [hG,Vq,e1,hz]
   by_cases hin:key out (nd l p) p∈ks
   ·rw [if_pos hin,if_neg (by simp),Vq,Vq,VD]
    refine zH hm ok P H5 f (p+1) ks _ (by omega) (by omega) ⟨K.Hf,fun k=>⟨fun hk=>?_,fun ⟨i,hi,sa⟩=>?_⟩⟩ (by simpa using hn) (fun i hi=>?_)
    ·obtain⟨i,hi,h⟩:=(K.mem k).1 hk; exact⟨i,by omega,h⟩
    ·by_cases Hh:i=p
     ·subst Hh; rw [←sa]; exact hin
     ·exact (K.mem k).2 ⟨i,by omega,sa⟩
    ·rw [pV (by omega)]
     by_cases Hh:i=p
     ·subst Hh; rw [if_pos rfl]
     ·rw [if_neg Hh]; exact hg i (by omega)
   ·have hS:Li 9 (enum ks 0) (key out (nd l p) p) (((enum ks 0).length:Nat):Int)=some (enum (ks++[key out (nd l p) p]) 0):=by
     unfold Li; rw [if_pos (nj _ _ _ MR z7),mR]
     have:=yd ks 0 _ hin
     rw [VO] at this
     rw [this]
    have hid:(ks++[key out (nd l p) p]).idxOf (key out (nd l p) p)=ks.length:=by
     rw [List.idxOf_append,if_neg hin,List.idxOf_cons_self,VO]
    have T7:GK 9 (enum (ks++[key out (nd l p) p]) 0) (key out (nd l p) p)=some (((ks.length:Nat):Int),true):=by
     unfold GK
     rw [if_pos (nj _ _ _ MR (fun a ha=>by rcases VX.1 ha with ha | ha; exact z7 a ha; simp only [VQ] at ha; rw [ha]; exact MR)),s8,if_pos (by simp),VO,hid]
    rw [if_neg hin,if_pos (by simp),hS,Vq,T7,Vq,Vq,VD]
    refine zH hm ok P H5 f (p+1) (ks++[key out (nd l p) p]) _ (by omega) (by omega) ⟨?_,fun k=>⟨fun hk=>?_,fun ⟨i,hi,sa⟩=>?_⟩⟩ (by simpa using hn) (fun i hi=>?_)
    ·rw [List.nodup_append]
     refine⟨K.Hf,by simp,fun a ha b hb=>?_⟩
     simp only [VQ] at hb
     subst hb; intro e; subst e; exact hin ha
    ·rcases VX.1 hk with hk | hk
     ·obtain⟨i,hi,h⟩:=(K.mem k).1 hk; exact⟨i,by omega,h⟩
     ·simp only [VQ] at hk; exact⟨p,by omega,hk.symm⟩
    ·by_cases Hh:i=p
     ·subst Hh; rw [←sa]; simp
     ·exact Wk _ ((K.mem k).2 ⟨i,by omega,sa⟩)
    ·rw [pV (by omega)]
     by_cases Hh:i=p
     ·subst Hh; rw [if_pos rfl,hid]
     ·rw [if_neg Hh,List.idxOf_append,if_pos ((K.mem _).2 ⟨i,by omega,rfl⟩)]; exact hg i (by omega)
  ·have:p=l.length:=by omega
   subst this
   exact⟨ks,next,_,by rw [if_neg (by simp)],K,hn,hg⟩
theorem Hi {l:List aq}{out:List Int}{ks:List (List Int)}(K:pW l out l.length ks):ks.length≤l.length:=by
 have:=K.Hf.length_le_of_subset (l₂:=(WS l.length).map fun i:Nat=>key out (nd l i) i) (fun k hk=>by
  obtain⟨i,hi,h⟩:=(K.mem k).1 hk
  exact V8.2 ⟨i,List.mem_range.2 hi,h⟩)
 simpa using this
theorem BK {l:List aq}{out:List Int}{many:Nat}{ks:List (List Int)}(P:Part l.length out many)(K:pW l out l.length ks):many+1≤ks.length:=by
 have hn:((WS (many+1)).map fun v:Nat=>((v:Int)+1)).Nodup:=by
  unfold List.Nodup
  rw [List.pairwise_map]
  exact List.Pairwise.imp (fun h=>by omega) List.nodup_range
 have:=hn.length_le_of_subset (l₂:=ks.map fun k=>k.headD 0) (fun x hx=>by
  obtain⟨v,hv,rfl⟩:=V8.1 hx
  obtain⟨i,hi,h⟩:=P.RI v (by have:=List.mem_range.1 hv; omega)
  exact V8.2 ⟨_,(K.mem _).2 ⟨i,hi,rfl⟩,by simp [key,h]⟩)
 simpa using this
theorem CW {l:List aq}{out next:List Int}{many:Nat}{ks:List (List Int)}(P:Part l.length out many)(K:pW l out l.length ks)(hn:next.length=l.length)(hg:∀i,i<l.length→gt next i=(ks.idxOf (key out (nd l i) i):Int)):Part l.length next (ks.length - 1):=by
 have:=BK P K
 refine⟨hn,fun i hi=>?_,fun v hv=>?_⟩
 ·have:=WJ ((K.mem _).2 ⟨i,hi,rfl⟩)
  rw [hg i hi]; omega
 ·have hv:v<ks.length:=by omega
  obtain⟨i,hi,h⟩:=(K.mem _).1 (List.getElem_mem hv)
  refine⟨i,hi,?_⟩
  rw [hg i hi,h,K.Hf.idxOf_getElem]
theorem Fs {m:Nat}(hm:2 ^ 30≤m){l:List aq}(ok:BJ l)(Inv:List Int→Prop)
  (hI:∀out many ks next,Part l.length out many→Inv out→pW l out l.length ks→next.length=l.length→(∀i,i<l.length→gt next i=(ks.idxOf (key out (nd l i) i):Int))→Inv next):∀(f:Nat) (out:List Int) (many:Nat),l.length - many<f→many<l.length→Part l.length out many→Inv out→
  ∃r H6 ks,ay.l2 m l f out (many:Int)=some (.inl r)∧Part l.length r H6∧Inv r∧pW l r l.length ks∧ks.length=H6+1
 | 0,out,many,hf,_,_,_=>absurd hf (by omega)
 | f+1,out,many,hf,hlt,P,I=>by
  have JN:(2:Nat) ^ 30=1073741824:=by decide
  have h8000:=ok.1
  unfold ay.l2
  have e0:C8 8 (l.length:Int) (0:Int)=some (VJ l.length 0):=by unfold C8; rw [if_pos ⟨by omega,by rw [VD]; omega⟩,VD]
  obtain⟨ks,next,x,h1,K,hn,hg⟩:=zH hm ok P (by omega) m 0 [] (VJ l.length 0) (by omega) (by omega) ⟨by simp,fun k=>⟨fun h=>by simp at h,fun ⟨i,hi,_⟩=>absurd hi (by omega)⟩⟩ (by simp) (fun i hi=>absurd hi (by omega))
  have h1:ay.l3 m l out m [] (VJ l.length 0) 0=_:=h1
  have g1:=Hi K
  have g2:=BK P K
  rw [e0,Vq,h1,Vq]
  dsimp only
  rw [mR,bH (x:=(many:Int)+1) (by omega) (by omega),bH (x:=(ks.length:Int) - 1) (by omega) (by omega)]
  by_cases h:ks.length=many+1
  ·rw [if_pos (by simp; omega)]
   exact⟨out,many,ks,rfl,P,I,K,h⟩
  ·rw [if_neg (by simp; omega),show (ks.length:Int) - 1=((ks.length - 1:Nat):Int) by omega]
   exact Fs hm ok Inv hI f next (ks.length - 1) (by omega) (by omega) (CW P K hn hg) (hI _ _ _ _ P I K hn hg)
end Go.Proofs.Ytifafejidnjckaa
namespace Go.Proofs.Ytifafejidnjckaa
open Go Go.R
open Go.IntKind (i64 u64 u8 u32)
def ints (n:Nat):List Int:=(WS n).map fun k:Nat=>(k:Int)
theorem fw (n:Nat):(ints n).length=n:=by simp [ints]
theorem Hj {n k:Nat}(h:k<n):gt (ints n) k=k:=by
 have h1:=eA (l:=ints n) (k:=k) (by rw [fw]; exact h)
 have h2:(ints n)[k]? = some (k:Int):=by
  unfold ints
  rw [Wx,Vx (by simpa using h)]
  simp
 rw [h2] at h1; exact (Wc h1).symm
theorem jY {n:Nat}{x:Int}:x∈ints n↔0≤x∧x<n:=by
 unfold ints
 rw [V8]
 constructor
 ·rintro⟨k,hk,rfl⟩; have:=List.mem_range.1 hk; omega
 ·intro h; exact⟨x.toNat,List.mem_range.2 (by omega),by omega⟩
theorem zI (n:Nat):(ints n).Nodup:=by
 unfold ints List.Nodup
 rw [List.pairwise_map]
 exact List.Pairwise.imp (fun h=>by omega) List.nodup_range
theorem JO {l:List Int}(h:l.Nodup){i j:Nat}(hi:i<l.length)(hj:j<l.length)(e:gt l i=gt l j):i=j:=by
 have h1:=eA hi
 have h2:=eA hj
 rw [Vx hi] at h1
 rw [Vx hj] at h2
 have h1:=Wc h1
 have h2:=Wc h2
 exact (List.getElem_inj (h₀:=hi) (h₁:=hj) h).1 (by rw [h1,h2,e])
theorem uz {l:List Int}{x:Int}(h:x∈l):∃k,k<l.length∧gt l k=x:=by
 obtain⟨k,hk,e⟩:=List.getElem_of_mem h
 refine⟨k,hk,?_⟩
 have h1:=eA hk
 rw [Vx hk,e] at h1
 exact (Wc h1).symm
theorem Ft {m:Nat}{z:List Int}(hz:z.length<2 ^ 40):∀(f i:Nat) (d:List Int),z.length - i<f→i≤z.length→d.length=z.length→(∀k,k<i→gt d k=k)→
  ∃x,ay.l0 m z f d (i:Int)=some (ints z.length,x)
 | 0,i,d,hf,_,_,_=>absurd hf (by omega)
 | f+1,i,d,hf,hi,hd,hg=>by
  have tj:(2:Nat) ^ 40=1099511627776:=by decide
  unfold ay.l0
  by_cases h:i<z.length
  ·obtain⟨v,hv⟩:∃v,ix d (i:Int)=some v:=⟨_,fN (by omega)⟩
   rw [if_pos (by simp only [decide_eq_true_eq]; omega),hv,Vq,VD,bH (by omega) (by omega),show (i:Int)+1=((i+1:Nat):Int) by omega]
   refine Ft hz f (i+1) _ (by omega) (by omega) (by simpa using hd) fun k hk=>?_
   rw [pV (by omega)]
   by_cases e:k=i
   ·subst e; rw [if_pos rfl]
   ·rw [if_neg e]; exact hg k (by omega)
  ·refine⟨i,?_⟩
   rw [if_neg (by simp only [decide_eq_true_eq]; omega)]
   have:d=ints z.length:=JK (by rw [fw,hd]) fun k hk=>by rw [hg k (by omega),Hj (by omega)]
   rw [this]
def rk (l:List aq)(d:List Int):Nat→Nat
 | 0=>0
 | k+1=>rk l d k+if cT (nd l (gt d k)) (nd l (gt d (k+1)))=0 then 0 else 1
theorem Fu (l:List aq)(d:List Int):∀k,rk l d k≤k
 | 0=>Vv _
 | k+1=>by have:=Fu l d k; unfold rk; split<;>omega
theorem vZ (l:List aq)(d:List Int)(i:Nat):∀j,i≤j→rk l d i≤rk l d j
 | 0,h=>by
   have:i=0:=by omega
   subst this; exact Vv _
 | j+1,h=>by
  by_cases e:i=j+1
  ·subst e; exact Vv _
  ·have:=vZ l d i j (by omega)
   show _≤rk l d j+_
   omega
theorem Fv (l:List aq)(d:List Int):∀(j v:Nat),v≤rk l d j→∃k,k≤j∧rk l d k=v
 | 0,v,h=>⟨0,Vv _,by unfold rk at h ⊢; omega⟩
 | j+1,v,h=>by
  by_cases e:v=rk l d (j+1)
  ·exact⟨j+1,Vv _,e.symm⟩
  ·have h2:rk l d (j+1)≤rk l d j+1:=by show rk l d j+_≤_; split<;>omega
   obtain⟨k,hk,e⟩:=Fv l d j v (by omega)
   exact⟨k,by omega,e⟩
theorem Fw {m:Nat}(hm:3≤m){l:List aq}{o d:List Int}(hl:l.length≤8000)(ho:o.length=l.length)(hp:d.Perm (ints l.length)):∀(f p:Nat) (out:List Int),l.length - p<f→p≤l.length→out.length=l.length→(∀k,k<p→gt out (gt d k).toNat=rk l d k)→
  ∃JP x,ay.l1 m l o d f out ((rk l d (p - 1):Nat):Int) (p:Int)=some (JP,((rk l d (l.length - 1):Nat):Int),x)∧JP.length=l.length∧∀k,k<l.length→gt JP (gt d k).toNat=rk l d k
 | 0,p,out,hf,_,_,_=>absurd hf (by omega)
 | f+1,p,out,hf,zT,Mb,hg=>by
  have PR:d.length=l.length:=by rw [hp.length_eq,fw]
  have hd:∀k,k<l.length→0≤gt d k∧gt d k<l.length:=fun k hk=>jY.1 (hp.mem_iff.1 (bP (by omega)))
  have H7:d.Nodup:=hp.symm.nodup (zI _)
  unfold ay.l1
  by_cases h:p<l.length
  ·obtain⟨d0,d1⟩:=hd p h
   have DC:∀k,k<p+1→gt (out.set (gt d p).toNat ((rk l d p:Nat):Int)) (gt d k).toNat=rk l d k:=fun k hk=>by
    rw [pV (by omega)]
    by_cases e:k=p
    ·subst e; rw [if_pos rfl]
    ·have:gt d k≠gt d p:=fun h=>e (JO H7 (by omega) (by omega) h)
     have:=hd k (by omega)
     rw [if_neg (by omega)]; exact hg k (by omega)
   obtain⟨z,hz⟩:∃z,ix out (gt d p)=some z:=⟨_,zz (k:=(gt d p).toNat) (by omega) (by omega)⟩
   have e1:i64.wrap ((p:Int)+1)=((p+1:Nat):Int):=by rw [bH (by omega) (by omega)]; omega
   have hr:=Fu l d p
   have IH:=Fw hm hl ho hp f (p+1) (out.set (gt d p).toNat ((rk l d p:Nat):Int)) (by omega) (by omega) (by simpa using Mb) DC
   rw [show p+1 - 1=p by omega] at IH
   rw [if_pos (by simp only [decide_eq_true_eq]; omega),fN (by omega),Vq]
   by_cases h0:0<p
   ·obtain⟨q,rfl⟩:∃q,p=q+1:=⟨p - 1,by omega⟩
    obtain⟨q0,q1⟩:=hd q (by omega)
    rw [show q+1 - 1=q by omega]
    have e2:i64.wrap (((q+1:Nat):Int) - 1)=(q:Int):=by rw [bH (by omega) (by omega)]; omega
    rw [if_pos (by simp only [decide_eq_true_eq]; omega),e2,fN (by omega),Vq,s7 q0 q1,Vq,s7 d0 d1,Vq,BH hm,Vq,hz,e1]
    by_cases hc:cT (nd l (gt d q)) (nd l (gt d (q+1)))=0
    ·have PZ:rk l d (q+1)=rk l d q:=by show rk l d q+_=_; rw [if_pos hc]; omega
     rw [if_neg (by simp [hc]),Vq]
     rw [PZ] at IH; exact IH
    ·have PZ:rk l d (q+1)=rk l d q+1:=by show rk l d q+_=_; rw [if_neg hc]
     rw [if_pos (by simpa using hc),Vq,bH (by omega) (by omega)]
     rw [PZ] at IH; exact IH
   ·have:p=0:=by omega
    subst this
    rw [if_neg (by simp),hz,Vq,e1]
    exact IH
  ·have:p=l.length:=by omega
   subst this
   exact⟨out,_,by rw [if_neg (by simp only [decide_eq_true_eq]; omega)],Mb,hg⟩
theorem Hk {m:Nat}(hm:3≤m)(l:List aq):Cm (fun y0 y1=>dM.f m y0 y1 l) (fun x y=>cT (nd l x) (nd l y)) (ints l.length):=fun x hx y hy=>by
 have hx:=jY.1 hx
 have hy:=jY.1 hy
 exact Fp hm hx.1 hx.2 hy.1 hy.2
theorem wa {m:Nat}(hm:2 ^ 41≤m){l:List aq}(ok:BJ l)(h1:1≤l.length)(Inv:List Int→Prop)
  (hI0:∀d out,d.Perm (ints l.length)→(Ord (fun x y=>cT (nd l x) (nd l y)) (ints l.length)→Sg (fun x y=>cT (nd l x) (nd l y)) d 0 l.length)→(∀k,k<l.length→gt out (gt d k).toNat=rk l d k)→Inv out)
  (hI:∀out many ks next,Part l.length out many→Inv out→pW l out l.length ks→next.length=l.length→(∀i,i<l.length→gt next i=(ks.idxOf (key out (nd l i) i):Int))→Inv next) :
  ∃r many ks,ay.f m l=some r∧Part l.length r many∧Inv r∧pW l r l.length ks∧ks.length=many+1:=by
 have tj:(2:Nat) ^ 40=1099511627776:=by decide
 have yD:(2:Nat) ^ 41=2199023255552:=by decide
 have JN:(2:Nat) ^ 30=1073741824:=by decide
 have h8000:=ok.1
 have e0:C8 8 (l.length:Int) (0:Int)=some (VJ l.length 0):=by unfold C8; rw [if_pos ⟨by omega,by rw [VD]; omega⟩,VD]
 unfold ay.f
 obtain⟨x,k1⟩:=Ft (m:=m) (z:=VJ l.length 0) (by simp; omega) m 0 (VJ l.length 0) (by simp; omega) (by omega) rfl (fun k hk=>absurd hk (by omega))
 have k1:ay.l0 m (VJ l.length 0) m (VJ l.length 0) 0=_:=k1
 rw [WO] at k1
 rw [e0,Vq,k1,Vq]
 dsimp only
 obtain⟨d,k2,hp,hs⟩:=CU hm (l:=ints l.length) (by rw [fw]; omega) (Hk (m:=m) (by omega) l)
 rw [k2,Vq,Vq]
 obtain⟨out,x,k3,ho,hg⟩:=Fw (m:=m) (l:=l) (o:=ints l.length) (d:=d) (by omega) h8000 (fw _) hp m 0 (VJ l.length 0) (by omega) (by omega) (by simp) (fun k hk=>absurd hk (by omega))
 have k3:ay.l1 m l (ints l.length) d m (VJ l.length 0) 0 0=_:=k3
 rw [k3,Vq]
 dsimp only
 rw [fw] at hs
 have PR:d.length=l.length:=by rw [hp.length_eq,fw]
 have hP:Part l.length out (rk l d (l.length - 1)):=by
  refine⟨ho,fun i hi=>?_,fun v hv=>?_⟩
  ·obtain⟨k,hk,e⟩:=uz (hp.mem_iff.2 (jY.2 (show 0≤(i:Int)∧(i:Int)<l.length by omega)))
   have:=hg k (by omega)
   rw [e,VD] at this
   have h2:=vZ l d k (l.length - 1) (by omega)
   omega
  ·obtain⟨k,hk,e⟩:=Fv l d _ v hv
   have Na:k<l.length:=by omega
   have:=jY.1 (hp.mem_iff.1 (bP (l:=d) (k:=k) (by omega)))
   exact⟨(gt d k).toNat,by omega,by rw [hg k Na,e]⟩
 have Qm:=Fu l d (l.length - 1)
 obtain⟨r,many,ks,k4,P,I,K,z7⟩:=Fs (m:=m) (by omega) ok Inv hI m out (rk l d (l.length - 1)) (by omega) (by omega) hP (hI0 d out hp hs hg)
 rw [k4]
 exact⟨r,many,ks,rfl,P,I,K,z7⟩
end Go.Proofs.Ytifafejidnjckaa
