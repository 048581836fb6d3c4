/- Part of the proof: PT8, PT9, PT10, PB1, PR2, PR3, PR4, PR5, PR6, PR9, PT12, PB2, PB4, PB9, PV1, PE1, PA1. -/
import Derived.Test.YtifafejidnjckaaGreatK11
set_option linter.unusedVariables false
set_option linter.unusedSimpArgs false
set_option maxRecDepth 100000
open Bool renaming and_eq_true → aaK, false_eq_true → aaU, or_eq_true → abw
open ByteArray renaming mk → abp
open Int renaming toNat_natCast → aaS
open List renaming getElem?_eq_getElem → aaL, getElem?_eq_some_iff → aaM, length_append → aaR, drop_eq_getElem_cons → aaT, getD_eq_getElem?_getD → aaV, length_cons → aaW, getElem?_append_left → aaX, length_map → aaY, getElem?_append_right → aaZ, append_assoc → aa0, all_eq_true → aa1, getElem?_eq_none → aa2, map_cons → aa3, replicate → aa4, mem_singleton → aa5, mem_cons → aa6, length_nil → aba, mem_append → abb, map_append → abc, getElem?_map → abd, mem_map → abf, getElem?_cons_zero → abg, drop_zero → abl, cons_append → abm, all_cons → abu, length_set → abx, mem_append_left → abA, idxOf_lt_length_of_mem → abD, getElem?_cons_succ → abK, ext_getElem? → abO, map_congr_left → abQ, set_append_right → abX, mem_cons_of_mem → ab0, getElem_of_mem → ab2, take_length → ab3, length_replicate → aca, getElem?_set → acb, nodup_append → acd, map_nil → acf, idxOf_cons → ach
open Nat renaming le_refl → aaN, zero_add → aa7, le_trans → abB, sub_self → abT, add_zero → ab5
open Option renaming bind_some → aaG, map_some → aaO
open Option.some renaming injEq → aaJ, inj → aa8
open Prod.mk renaming injEq → aaQ
open UInt8 renaming lt_iff_toNat_lt → abZ
namespace Go.Proofs.YtifafejidnjckaaGreat
open Go Go.R
open Go.IntKind (i64 u64 u8 u32)
def key (out:List Int)(n:ai)(i:Nat):List Int:=(gt out i+1)::((n.args.map fun a=>gt out a.toNat+1)++aa4 (8 - n.args.length) 0)
def enum:List (List Int)→Nat→List (List Int × Int)
 | [],_=>[]
 | k::ks,s=>(k,(s:Int))::enum ks (s+1)
theorem oK:∀(ks:List (List Int)) (s:Nat),(enum ks s).length=ks.length
 | [],_=>rfl
 | k::ks,s=>by simp [enum,oK ks]
theorem vO:∀(ks:List (List Int)) (s:Nat) (k:List Int),uR (enum ks s) k=if k∈ks then (((s+ks.idxOf k:Nat):Int),true) else (0,false)
 | [],s,k=>rfl
 | a::ks,s,k=>by
  simp only [enum,uR,vO ks (s+1) k,aa6,ach]
  by_cases h:k=a
  ·subst h; simp
  ·have h':(a==k)=false:=by simpa using fun z:a=k=>h z.symm
   rw [if_neg h,h']
   by_cases h2:k∈ks
   ·simp only [h2,if_true,or_true,cond_false]
    simp only [aaQ,and_true]
    omega
   ·simp [h2,h]
theorem Ba:∀(ks:List (List Int)) (s:Nat) (k:List Int),k∉ks→Cu (enum ks s) k ((s+ks.length:Nat):Int)=enum (ks++[k]) s
 | [],s,k,_=>rfl
 | a::ks,s,k,h=>by
  have h1:k≠a:=fun z=>h (by simp [z])
  have h2:k∉ks:=fun z=>h (by simp [z])
  simp only [enum,Cu,abm,if_neg h1,aaW]
  rw [show s+(ks.length+1)=s+1+ks.length by omega,Ba ks (s+1) k h2]
theorem pa {n:Nat}:∀(ks:List (List Int)) (s:Nat) (k:List Int),k.length=n→(∀a∈ks,a.length=n)→uQ n (enum ks s) k=true
 | [],s,k,h,_=>by simp [uQ,enum,h]
 | a::ks,s,k,h,h2=>by
  have:=pa ks (s+1) k h fun a ha=>h2 a (by simp [ha])
  simp only [uQ,aaK,beq_iff_eq,h,true_and] at this ⊢
  simp only [enum,abu,aaK,beq_iff_eq]
  exact⟨h2 a (by simp),this⟩
structure Part (n:Nat)(out:List Int)(many:Nat):Prop where
 len:out.length=n
 nS:∀i,i<n→0≤gt out i∧gt out i≤many
 W2:∀v:Nat,v≤many→∃i,i<n∧gt out i=v
structure r8 (l:List ai)(out:List Int)(p:Nat)(ks:List (List Int)):Prop where
 Bb:ks.Nodup
 mem:∀k,k∈ks↔∃i,i<p∧key out (nd l i) i=k
def zE (l:List ai):Prop:=l.length≤8000∧∀n∈l,n.args.length≤8∧∀a∈n.args,0≤a∧a<l.length
theorem KP {a:Int}{L:List Int}{t:Nat}{v:Int}(hL:L.length=t)(ht:t<8):(a::(L++aa4 (8 - t) 0)).set (t+1) v=a::((L++[v])++aa4 (8 - (t+1)) 0):=by
 rw [List.set_cons_succ,abX _ _ om,hL,abT,show 8 - t=(8 - (t+1))+1 by omega,List.replicate_succ,List.set_cons_zero,aa0]
 rfl
theorem IX {m:Nat}{out:List Int}{n:ai}(h8:n.args.length≤8)(ha:∀a∈n.args,0≤a∧a<out.length)(ho:∀i,i<out.length→0≤gt out i∧gt out i<2 ^ 40)(o:Int):∀(f t:Nat),n.args.length - t<f→t≤n.args.length→
  ∃x,ax.l4 m out n f (o::(((n.args.take t).map fun a=>gt out a.toNat+1)++aa4 (8 - t) 0)) (t:Int)=some (o::((n.args.map fun a=>gt out a.toNat+1)++aa4 (8 - n.args.length) 0),x)
 | 0,t,hf,_=>absurd hf om
 | f+1,t,hf,ht=>by
  have wu:(2:Nat) ^ 40=1099511627776:=by decide
  have i40:(2:Int) ^ 40=1099511627776:=by decide
  unfold ax.l4
  by_cases h:t<n.args.length
  ·have hx:ix n.args (t:Int)=some (gt n.args t):=gh h
   obtain⟨b0,b1⟩:=ha _ (bK h)
   obtain⟨c0,c1⟩:=ho (gt n.args t).toNat om
   have hy:ix out (gt n.args t)=some (gt out (gt n.args t).toNat):=CW om om
   have e1:i64.wrap ((t:Int)+1)=((t+1:Nat):Int):=by rw [bJ om om]; omega
   have hT:((n.args.take t).map fun a=>gt out a.toNat+1).length=t:=by simp; omega
   have hz:∃z,ix (o::(((n.args.take t).map fun a=>gt out a.toNat+1)++aa4 (8 - t) 0)) ((t+1:Nat):Int)=some z:=⟨_,gh (by simp; omega)⟩
   obtain⟨z,hz⟩:=hz
   obtain⟨x,ih⟩:=IX (m:=m) h8 ha ho o f (t+1) om om
   have hT1:n.args.take (t+1)=n.args.take t++[gt n.args t]:=by rw [List.take_add_one,dt h]; rfl
   rw [hT1,abc] at ih
   rw [if_pos dm,hx,aaG,hy,aaG,e1,hz,aaG,aaS,bJ (x:=gt out (gt n.args t).toNat+1) om om,KP hT om]
   exact⟨x,ih⟩
  ·have:t=n.args.length:=by omega
   subst this
   exact⟨_,by rw [if_neg (by simp),ab3]⟩
theorem vP {out:List Int}{n:ai}{i:Nat}(h8:n.args.length≤8):(key out n i).length=9:=by simp [key]; omega
theorem xu {l:List ai}(ok:zE l){i:Nat}(h:i<l.length):(nd l i).args.length≤8∧∀a∈(nd l i).args,0≤a∧a<l.length:=ok.2 _ (gR om om)
theorem C3 {m:Nat}(hm:2 ^ 30≤m){l:List ai}{out:List Int}{many:Nat}(ok:zE l)(P:Part l.length out many)(L6:many<2 ^ 30):∀(f p:Nat) (ks:List (List Int)) (next:List Int),l.length - p<f→p≤l.length→r8 l out p ks→next.length=l.length→
  (∀i,i<p→gt next i=(ks.idxOf (key out (nd l i) i):Int))→
  ∃U2 next' x,ax.l3 m l out f (enum ks 0) next (p:Int)=some (enum U2 0,next',x)∧r8 l out l.length U2∧next'.length=l.length∧∀i,i<l.length→gt next' i=(U2.idxOf (key out (nd l i) i):Int)
 | 0,p,ks,next,hf,_,_,_,_=>absurd hf om
 | f+1,p,ks,next,hf,hp,K,hn,hg=>by
  have IV:(2:Nat) ^ 30=1073741824:=by decide
  have wu:(2:Nat) ^ 40=1099511627776:=by decide
  have i40:(2:Int) ^ 40=1099511627776:=by decide
  have h8000:=ok.1
  have J1:=P.len
  unfold ax.l3
  by_cases h:p<l.length
  ·obtain⟨n1,n2⟩:=xu ok h
   obtain⟨r0,r1⟩:=P.nS p h
   have e1:i64.wrap ((p:Int)+1)=((p+1:Nat):Int):=by rw [bJ om om]; omega
   obtain⟨x,hk⟩:=IX (m:=m) (out:=out) (n:=nd l p) n1 (by rw [J1]; exact n2) (fun i hi=>by have:=P.nS i om; omega) (gt out p+1) m 0 om om
   have hk:ax.l4 m out (nd l p) m [gt out p+1,0,0,0,0,0,0,0,0] 0=some (key out (nd l p) p,x):=hk
   have RY:=vP (out:=out) (i:=p) n1
   have DB:∀a∈ks,a.length=9:=fun a ha=>by
    obtain⟨i,hi,rfl⟩:=(K.mem a).1 ha
    exact vP (xu ok om).1
   have U3:∃z,ix next (p:Int)=some z:=⟨_,gh om⟩
   obtain⟨z,hz⟩:=U3
   rw [if_pos dm,sO om om,aaG,gh om,aaG,bJ (x:=gt out p+1) om om,hk,aaG]
   dsimp only
   have hG:Kp 9 (enum ks 0) (key out (nd l p) p)=some (if key out (nd l p) p∈ks then (((ks.idxOf (key out (nd l p) p):Nat):Int),true) else (0,false)):=by
    unfold Kp; rw [if_pos (pa _ _ _ RY DB),vO,aa7]
   rw [hG,aaG,e1,hz]
   by_cases hin:key out (nd l p) p∈ks
   ·rw [if_pos hin,if_neg (by simp),aaG,aaG,aaS]
    refine C3 hm ok P L6 f (p+1) ks _ om om ⟨K.Bb,fun k=>⟨fun hk=>?_,fun ⟨i,hi,qh⟩=>?_⟩⟩ (by simpa using hn) (fun i hi=>?_)
    ·obtain⟨i,hi,h⟩:=(K.mem k).1 hk; exact⟨i,om,h⟩
    ·by_cases KQ:i=p
     ·subst KQ; rw [←qh]; exact hin
     ·exact (K.mem k).2 ⟨i,om,qh⟩
    ·rw [r7 om]
     by_cases KQ:i=p
     ·subst KQ; rw [if_pos rfl]
     ·rw [if_neg KQ]; exact hg i om
   ·have hS:PA 9 (enum ks 0) (key out (nd l p) p) (((enum ks 0).length:Nat):Int)=some (enum (ks++[key out (nd l p) p]) 0):=by
     unfold PA; rw [if_pos (pa _ _ _ RY DB),oK]
     have:=Ba ks 0 _ hin
     rw [aa7] at this
     rw [this]
    have hid:(ks++[key out (nd l p) p]).idxOf (key out (nd l p) p)=ks.length:=by
     rw [List.idxOf_append,if_neg hin,List.idxOf_cons_self,aa7]
    have Y9:Kp 9 (enum (ks++[key out (nd l p) p]) 0) (key out (nd l p) p)=some (((ks.length:Nat):Int),true):=by
     unfold Kp
     rw [if_pos (pa _ _ _ RY (fun a ha=>by rcases abb.1 ha with ha | ha; exact DB a ha; simp only [aa5] at ha; rw [ha]; exact RY)),vO,if_pos (by simp),aa7,hid]
    rw [if_neg hin,if_pos (by simp),hS,aaG,Y9,aaG,aaG,aaS]
    refine C3 hm ok P L6 f (p+1) (ks++[key out (nd l p) p]) _ om om ⟨?_,fun k=>⟨fun hk=>?_,fun ⟨i,hi,qh⟩=>?_⟩⟩ (by simpa using hn) (fun i hi=>?_)
    ·rw [acd]
     refine⟨K.Bb,by simp,fun a ha b hb=>?_⟩
     simp only [aa5] at hb
     subst hb; intro e; subst e; exact hin ha
    ·rcases abb.1 hk with hk | hk
     ·obtain⟨i,hi,h⟩:=(K.mem k).1 hk; exact⟨i,om,h⟩
     ·simp only [aa5] at hk; exact⟨p,om,hk.symm⟩
    ·by_cases KQ:i=p
     ·subst KQ; rw [←qh]; simp
     ·exact abA _ ((K.mem k).2 ⟨i,om,qh⟩)
    ·rw [r7 om]
     by_cases KQ:i=p
     ·subst KQ; rw [if_pos rfl,hid]
     ·rw [if_neg KQ,List.idxOf_append,if_pos ((K.mem _).2 ⟨i,om,rfl⟩)]; exact hg i om
  ·have:p=l.length:=by omega
   subst this
   exact⟨ks,next,_,by rw [if_neg (by simp)],K,hn,hg⟩
theorem KR {l:List ai}{out:List Int}{ks:List (List Int)}(K:r8 l out l.length ks):ks.length≤l.length:=by
 have:=K.Bb.length_le_of_subset (l₂:=(List.range l.length).map fun i:Nat=>key out (nd l i) i) (fun k hk=>by
  obtain⟨i,hi,h⟩:=(K.mem k).1 hk
  exact abf.2 ⟨i,List.mem_range.2 hi,h⟩)
 simpa using this
theorem EP {l:List ai}{out:List Int}{many:Nat}{ks:List (List Int)}(P:Part l.length out many)(K:r8 l out l.length ks):many+1≤ks.length:=by
 have hn:((List.range (many+1)).map fun v:Nat=>((v:Int)+1)).Nodup:=by
  unfold List.Nodup
  rw [List.pairwise_map]
  exact List.Pairwise.imp (fun h=>by omega) List.nodup_range
 have:=hn.length_le_of_subset (l₂:=ks.map fun k=>k.headD 0) (fun x hx=>by
  obtain⟨v,hv,rfl⟩:=abf.1 hx
  obtain⟨i,hi,h⟩:=P.W2 v (by have:=List.mem_range.1 hv; omega)
  exact abf.2 ⟨_,(K.mem _).2 ⟨i,hi,rfl⟩,by simp [key,h]⟩)
 simpa using this
theorem Ge {l:List ai}{out next:List Int}{many:Nat}{ks:List (List Int)}(P:Part l.length out many)(K:r8 l out l.length ks)(hn:next.length=l.length)(hg:∀i,i<l.length→gt next i=(ks.idxOf (key out (nd l i) i):Int)):Part l.length next (ks.length - 1):=by
 have:=EP P K
 refine⟨hn,fun i hi=>?_,fun v hv=>?_⟩
 ·have:=abD ((K.mem _).2 ⟨i,hi,rfl⟩)
  rw [hg i hi]; omega
 ·have hv:v<ks.length:=by omega
  obtain⟨i,hi,h⟩:=(K.mem _).1 (List.getElem_mem hv)
  refine⟨i,hi,?_⟩
  rw [hg i hi,h,K.Bb.idxOf_getElem]
theorem IY {m:Nat}(hm:2 ^ 30≤m){l:List ai}(ok:zE l)(Inv:List Int→Prop)
  (hI:∀out many ks next,Part l.length out many→Inv out→r8 l out l.length ks→next.length=l.length→(∀i,i<l.length→gt next i=(ks.idxOf (key out (nd l i) i):Int))→Inv next):∀(f:Nat) (out:List Int) (many:Nat),l.length - many<f→many<l.length→Part l.length out many→Inv out→
  ∃r L7 ks,ax.l2 m l f out (many:Int)=some (.inl r)∧Part l.length r L7∧Inv r∧r8 l r l.length ks∧ks.length=L7+1
 | 0,out,many,hf,_,_,_=>absurd hf om
 | f+1,out,many,hf,hlt,P,I=>by
  have IV:(2:Nat) ^ 30=1073741824:=by decide
  have h8000:=ok.1
  unfold ax.l2
  have e0:Gz 8 (l.length:Int) (0:Int)=some (aa4 l.length 0):=by unfold Gz; rw [if_pos ⟨om,by rw [aaS]; omega⟩,aaS]
  obtain⟨ks,next,x,h1,K,hn,hg⟩:=C3 hm ok P om m 0 [] (aa4 l.length 0) om om ⟨by simp,fun k=>⟨fun h=>by simp at h,fun ⟨i,hi,_⟩=>absurd hi om⟩⟩ (by simp) (fun i hi=>absurd hi om)
  have h1:ax.l3 m l out m [] (aa4 l.length 0) 0=_:=h1
  have g1:=KR K
  have g2:=EP P K
  rw [e0,aaG,h1,aaG]
  dsimp only
  rw [oK,bJ (x:=(many:Int)+1) om om,bJ (x:=(ks.length:Int) - 1) om om]
  by_cases h:ks.length=many+1
  ·rw [if_pos (by simp; omega)]
   exact⟨out,many,ks,rfl,P,I,K,h⟩
  ·rw [if_neg (by simp; omega),show (ks.length:Int) - 1=((ks.length - 1:Nat):Int) by omega]
   exact IY hm ok Inv hI f next (ks.length - 1) om om (Ge P K hn hg) (hI _ _ _ _ P I K hn hg)
def ints (n:Nat):List Int:=(List.range n).map fun k:Nat=>(k:Int)
theorem eY (n:Nat):(ints n).length=n:=by simp [ints]
theorem KS {n k:Nat}(h:k<n):gt (ints n) k=k:=by
 have h1:=dt (l:=ints n) (k:=k) (by rw [eY]; exact h)
 have h2:(ints n)[k]? = some (k:Int):=by
  unfold ints
  rw [abd,aaL (by simpa using h)]
  simp
 rw [h2] at h1; exact (aa8 h1).symm
theorem iV {n:Nat}{x:Int}:x∈ints n↔0≤x∧x<n:=by
 unfold ints
 rw [abf]
 constructor
 ·rintro⟨k,hk,rfl⟩; have:=List.mem_range.1 hk; omega
 ·intro h; exact⟨x.toNat,List.mem_range.2 om,om⟩
theorem C4 (n:Nat):(ints n).Nodup:=by
 unfold ints List.Nodup
 rw [List.pairwise_map]
 exact List.Pairwise.imp (fun h=>by omega) List.nodup_range
theorem NU {l:List Int}(h:l.Nodup){i j:Nat}(hi:i<l.length)(hj:j<l.length)(e:gt l i=gt l j):i=j:=by
 have h1:=dt hi
 have h2:=dt hj
 rw [aaL hi] at h1
 rw [aaL hj] at h2
 have h1:=aa8 h1
 have h2:=aa8 h2
 exact (List.getElem_inj (h₀:=hi) (h₁:=hj) h).1 (by rw [h1,h2,e])
theorem pb {l:List Int}{x:Int}(h:x∈l):∃k,k<l.length∧gt l k=x:=by
 obtain⟨k,hk,e⟩:=ab2 h
 refine⟨k,hk,?_⟩
 have h1:=dt hk
 rw [aaL hk,e] at h1
 exact (aa8 h1).symm
theorem IZ {m:Nat}{z:List Int}(hz:z.length<2 ^ 40):∀(f i:Nat) (d:List Int),z.length - i<f→i≤z.length→d.length=z.length→(∀k,k<i→gt d k=k)→
  ∃x,ax.l0 m z f d (i:Int)=some (ints z.length,x)
 | 0,i,d,hf,_,_,_=>absurd hf om
 | f+1,i,d,hf,hi,hd,hg=>by
  have wu:(2:Nat) ^ 40=1099511627776:=by decide
  unfold ax.l0
  by_cases h:i<z.length
  ·obtain⟨v,hv⟩:∃v,ix d (i:Int)=some v:=⟨_,gh om⟩
   rw [if_pos dm,hv,aaG,aaS,bJ om om,show (i:Int)+1=((i+1:Nat):Int) by omega]
   refine IZ hz f (i+1) _ om om (by simpa using hd) fun k hk=>?_
   rw [r7 om]
   by_cases e:k=i
   ·subst e; rw [if_pos rfl]
   ·rw [if_neg e]; exact hg k om
  ·refine⟨i,?_⟩
   rw [if_neg dm]
   have:d=ints z.length:=NR (by rw [eY,hd]) fun k hk=>by rw [hg k om,KS om]
   rw [this]
def rk (l:List ai)(d:List Int):Nat→Nat
 | 0=>0
 | k+1=>rk l d k+if cT (nd l (gt d k)) (nd l (gt d (k+1)))=0 then 0 else 1
theorem I0 (l:List ai)(d:List Int):∀k,rk l d k≤k
 | 0=>aaN _
 | k+1=>by have:=I0 l d k; unfold rk; split<;>omega
theorem zg (l:List ai)(d:List Int)(i:Nat):∀j,i≤j→rk l d i≤rk l d j
 | 0,h=>by
   have:i=0:=by omega
   subst this; exact aaN _
 | j+1,h=>by
  by_cases e:i=j+1
  ·subst e; exact aaN _
  ·have:=zg l d i j om
   show _≤rk l d j+_
   omega
theorem I1 (l:List ai)(d:List Int):∀(j v:Nat),v≤rk l d j→∃k,k≤j∧rk l d k=v
 | 0,v,h=>⟨0,aaN _,by unfold rk at h ⊢; omega⟩
 | j+1,v,h=>by
  by_cases e:v=rk l d (j+1)
  ·exact⟨j+1,aaN _,e.symm⟩
  ·have h2:rk l d (j+1)≤rk l d j+1:=by show rk l d j+_≤_; split<;>omega
   obtain⟨k,hk,e⟩:=I1 l d j v om
   exact⟨k,om,e⟩
theorem I2 {m:Nat}(hm:3≤m){l:List ai}{o d:List Int}(hl:l.length≤8000)(ho:o.length=l.length)(hp:d.Perm (ints l.length)):∀(f p:Nat) (out:List Int),l.length - p<f→p≤l.length→out.length=l.length→(∀k,k<p→gt out (gt d k).toNat=rk l d k)→
  ∃nT x,ax.l1 m l o d f out ((rk l d (p - 1):Nat):Int) (p:Int)=some (nT,((rk l d (l.length - 1):Nat):Int),x)∧nT.length=l.length∧∀k,k<l.length→gt nT (gt d k).toNat=rk l d k
 | 0,p,out,hf,_,_,_=>absurd hf om
 | f+1,p,out,hf,Dt,QP,hg=>by
  have iJ:d.length=l.length:=by rw [hp.length_eq,eY]
  have hd:∀k,k<l.length→0≤gt d k∧gt d k<l.length:=fun k hk=>iV.1 (hp.mem_iff.1 (bK om))
  have L8:d.Nodup:=hp.symm.nodup (C4 _)
  unfold ax.l1
  by_cases h:p<l.length
  ·obtain⟨d0,d1⟩:=hd p h
   have G6:∀k,k<p+1→gt (out.set (gt d p).toNat ((rk l d p:Nat):Int)) (gt d k).toNat=rk l d k:=fun k hk=>by
    rw [r7 om]
    by_cases e:k=p
    ·subst e; rw [if_pos rfl]
    ·have:gt d k≠gt d p:=fun h=>e (NU L8 om om h)
     have:=hd k om
     rw [if_neg om]; exact hg k om
   obtain⟨z,hz⟩:∃z,ix out (gt d p)=some z:=⟨_,CW (k:=(gt d p).toNat) om om⟩
   have e1:i64.wrap ((p:Int)+1)=((p+1:Nat):Int):=by rw [bJ om om]; omega
   have hr:=I0 l d p
   have IH:=I2 hm hl ho hp f (p+1) (out.set (gt d p).toNat ((rk l d p:Nat):Int)) om om (by simpa using QP) G6
   rw [show p+1 - 1=p by omega] at IH
   rw [if_pos dm,gh om,aaG]
   by_cases h0:0<p
   ·obtain⟨q,rfl⟩:∃q,p=q+1:=⟨p - 1,om⟩
    obtain⟨q0,q1⟩:=hd q om
    rw [show q+1 - 1=q by omega]
    have e2:i64.wrap (((q+1:Nat):Int) - 1)=(q:Int):=by rw [bJ om om]; omega
    rw [if_pos dm,e2,gh om,aaG,sO q0 q1,aaG,sO d0 d1,aaG,zf hm,aaG,hz,e1]
    by_cases hc:cT (nd l (gt d q)) (nd l (gt d (q+1)))=0
    ·have U4:rk l d (q+1)=rk l d q:=by show rk l d q+_=_; rw [if_pos hc]; omega
     rw [if_neg (by simp [hc]),aaG]
     rw [U4] at IH; exact IH
    ·have U4:rk l d (q+1)=rk l d q+1:=by show rk l d q+_=_; rw [if_neg hc]
     rw [if_pos (by simpa using hc),aaG,bJ om om]
     rw [U4] at IH; exact IH
   ·have:p=0:=by omega
    subst this
    rw [if_neg (by simp),hz,aaG,e1]
    exact IH
  ·have:p=l.length:=by omega
   subst this
   exact⟨out,_,by rw [if_neg dm],QP,hg⟩
theorem KT {m:Nat}(hm:3≤m)(l:List ai):Cm (fun y0 y1=>dV.f m y0 y1 l) (fun x y=>cT (nd l x) (nd l y)) (ints l.length):=fun x hx y hy=>by
 have hx:=iV.1 hx
 have hy:=iV.1 hy
 exact IW hm hx.1 hx.2 hy.1 hy.2
theorem zh {m:Nat}(hm:2 ^ 41≤m){l:List ai}(ok:zE l)(h1:1≤l.length)(Inv:List Int→Prop)
  (hI0:∀d out,d.Perm (ints l.length)→(Ord (fun x y=>cT (nd l x) (nd l y)) (ints l.length)→Sg (fun x y=>cT (nd l x) (nd l y)) d 0 l.length)→(∀k,k<l.length→gt out (gt d k).toNat=rk l d k)→Inv out)
  (hI:∀out many ks next,Part l.length out many→Inv out→r8 l out l.length ks→next.length=l.length→(∀i,i<l.length→gt next i=(ks.idxOf (key out (nd l i) i):Int))→Inv next) :
  ∃r many ks,ax.f m l=some r∧Part l.length r many∧Inv r∧r8 l r l.length ks∧ks.length=many+1:=by
 have wu:(2:Nat) ^ 40=1099511627776:=by decide
 have vM:(2:Nat) ^ 41=2199023255552:=by decide
 have IV:(2:Nat) ^ 30=1073741824:=by decide
 have h8000:=ok.1
 have e0:Gz 8 (l.length:Int) (0:Int)=some (aa4 l.length 0):=by unfold Gz; rw [if_pos ⟨om,by rw [aaS]; omega⟩,aaS]
 unfold ax.f
 obtain⟨x,k1⟩:=IZ (m:=m) (z:=aa4 l.length 0) (by simp; omega) m 0 (aa4 l.length 0) (by simp; omega) om rfl (fun k hk=>absurd hk om)
 have k1:ax.l0 m (aa4 l.length 0) m (aa4 l.length 0) 0=_:=k1
 rw [aca] at k1
 rw [e0,aaG,k1,aaG]
 dsimp only
 obtain⟨d,k2,hp,hs⟩:=Gc hm (l:=ints l.length) (by rw [eY]; omega) (KT (m:=m) om l)
 rw [k2,aaG,aaG]
 obtain⟨out,x,k3,ho,hg⟩:=I2 (m:=m) (l:=l) (o:=ints l.length) (d:=d) om h8000 (eY _) hp m 0 (aa4 l.length 0) om om (by simp) (fun k hk=>absurd hk om)
 have k3:ax.l1 m l (ints l.length) d m (aa4 l.length 0) 0 0=_:=k3
 rw [k3,aaG]
 dsimp only
 rw [eY] at hs
 have iJ:d.length=l.length:=by rw [hp.length_eq,eY]
 have hP:Part l.length out (rk l d (l.length - 1)):=by
  refine⟨ho,fun i hi=>?_,fun v hv=>?_⟩
  ·obtain⟨k,hk,e⟩:=pb (hp.mem_iff.2 (iV.2 (show 0≤(i:Int)∧(i:Int)<l.length by omega)))
   have:=hg k om
   rw [e,aaS] at this
   have h2:=zg l d k (l.length - 1) om
   omega
  ·obtain⟨k,hk,e⟩:=I1 l d _ v hv
   have Sh:k<l.length:=by omega
   have:=iV.1 (hp.mem_iff.1 (bK (l:=d) (k:=k) om))
   exact⟨(gt d k).toNat,om,by rw [hg k Sh,e]⟩
 have VZ:=I0 l d (l.length - 1)
 obtain⟨r,many,ks,k4,P,I,K,DB⟩:=IY (m:=m) om ok Inv hI m out (rk l d (l.length - 1)) om om hP (hI0 d out hp hs hg)
 rw [k4]
 exact⟨r,many,ks,rfl,P,I,K,DB⟩
def mC:List Int→Nat→List (Int × Int)
 | [],_=>[]
 | k::ks,s=>(k,(s:Int))::mC ks (s+1)
theorem xw:∀(ks:List Int) (s:Nat) (k:Int),nA (mC ks s) k=if k∈ks then (((s+ks.idxOf k:Nat):Int),true) else (0,false)
 | [],s,k=>rfl
 | a::ks,s,k=>by
  simp only [mC,nA,xw ks (s+1) k,aa6,ach]
  by_cases h:k=a
  ·subst h; simp
  ·have h':(a==k)=false:=by simpa using fun z:a=k=>h z.symm
   rw [if_neg h,h']
   by_cases h2:k∈ks
   ·simp only [h2,if_true,or_true,cond_false]
    simp only [aaQ,and_true]
    omega
   ·simp [h2,h]
theorem xy:∀(ks:List Int) (s:Nat) (k:Int),k∉ks→zz (mC ks s) k ((s+ks.length:Nat):Int)=mC (ks++[k]) s
 | [],s,k,_=>rfl
 | a::ks,s,k,h=>by
  have h1:k≠a:=fun z=>h (by simp [z])
  have h2:k∉ks:=fun z=>h (by simp [z])
  simp only [mC,zz,abm,if_neg h1,aaW]
  rw [show s+(ks.length+1)=s+1+ks.length by omega,xy ks (s+1) k h2]
def fS (cls:List Int)(a:Int):Int:=gt cls a.toNat
def idx (cls o:List Int)(a:Int):Int:=((o.map (fS cls)).idxOf (fS cls a):Nat)
def wP (cls:List Int)(l:List ai)(o:List Int)(i:Int):ai:=⟨(nd l i).kind,(nd l i).int,(nd l i).label,(nd l i).args.map (idx cls o)⟩
def r9 (cls:List Int)(l:List ai):Nat→Int→List Int→List Int
 | 0,_,o=>o
 | k+1,i,o=>if fS cls i∈o.map (fS cls) then o else (nd l i).args.foldl (fun o a=>r9 cls l k a o) (o++[i])
structure Vs (cls:List Int)(n:Nat)(o:List Int):Prop where
 Bb:(o.map (fS cls)).Nodup
 nS:∀x∈o,0≤x∧x<n
structure Ps (cls:List Int)(l:List ai)(o o':List Int)(ns C5:List ai):Prop where
 vs:Vs cls l.length o'
 pre:∃t,o'=o++t
 len:C5.length=o'.length
 old:∀k,k<o.length→C5[k]? = ns[k]?
 new:∀k,o.length≤k→k<o'.length→C5[k]? = some (wP cls l o' (gt o' k))
 arg:∀k,o.length≤k→k<o'.length→∀a∈(nd l (gt o' k)).args,fS cls a∈o'.map (fS cls)
theorem Vs.Gf {cls:List Int}{n:Nat}{o:List Int}(v:Vs cls n o):o.length≤n:=by
 have hn:o.Nodup:=by
  have:=v.Bb
  unfold List.Nodup at this ⊢
  rw [List.pairwise_map] at this
  exact List.Pairwise.imp (fun h e=>h (by rw [e])) this
 have:=hn.length_le_of_subset (l₂:=ints n) (fun x hx=>iV.2 (v.nS x hx))
 rwa [eY] at this
theorem Ps.refl {cls:List Int}{l:List ai}{o:List Int}{ns:List ai}(v:Vs cls l.length o)(h:ns.length=o.length):Ps cls l o o ns ns:=
 ⟨v,⟨[],by simp⟩,h,fun _ _=>rfl,fun k h1 h2=>by omega,fun k h1 h2=>by omega⟩
theorem sa {a b:List Int}{k:Nat}(h:k<a.length):gt (a++b) k=gt a k:=by
 unfold gt; rw [aaV,aaV,aaX h]
theorem pW {cls o t:List Int}{a:Int}(h:fS cls a∈o.map (fS cls)):idx cls (o++t) a=idx cls o a:=by
 unfold idx; rw [abc,List.idxOf_append,if_pos h]
theorem Bc {cls:List Int}{l:List ai}{o t:List Int}{i:Int}(h:∀a∈(nd l i).args,fS cls a∈o.map (fS cls)):wP cls l (o++t) i=wP cls l o i:=by
 unfold wP
 congr 1
 exact abQ fun a ha=>pW (h a ha)
theorem Ps.trans {cls:List Int}{l:List ai}{o o1 o2:List Int}{ns n1 n2:List ai}(a:Ps cls l o o1 ns n1)(b:Ps cls l o1 o2 n1 n2):Ps cls l o o2 ns n2:=by
 obtain⟨t1,rfl⟩:=a.pre
 obtain⟨t2,rfl⟩:=b.pre
 have hl:(o++t1).length=o.length+t1.length:=by simp
 refine⟨b.vs,⟨t1++t2,by simp⟩,b.len,fun k hk=>(b.old k om).trans (a.old k hk),fun k h1 h2=>?_,fun k h1 h2 x hx=>?_⟩
 ·by_cases h:k<(o++t1).length
  ·rw [b.old k h,a.new k h1 h,sa h,Bc (a.arg k h1 h)]
  ·exact b.new k om h2
 ·by_cases h:k<(o++t1).length
  ·rw [sa h] at hx
   rw [abc]
   exact abA _ (a.arg k h1 h x hx)
  ·exact b.arg k om h2 x hx
section
variable {m:Nat}{cls:List Int}{l:List ai}{root:Int}
abbrev QQ:=Int→(List (Int × Int))→(List Int)→aI→aI→Option (Int × (List (Int × Int)) × aI)
def L9 (cls:List Int)(l:List ai)(root:Int)(rec:QQ)(df:Int→List Int→List Int)(need:Nat):Prop:=∀(i:Int) (o:List Int) (ns:List ai),0≤i→i<l.length→Vs cls l.length o→ns.length=o.length→l.length<need+o.length→
 ∃C5,rec i (mC (o.map (fS cls)) 0) cls ⟨ns,0⟩ ⟨l,root⟩=some (idx cls (df i o) i,mC ((df i o).map (fS cls)) 0,⟨C5,0⟩)∧Ps cls l o (df i o) ns C5∧fS cls i∈(df i o).map (fS cls)
theorem I3 {rec:QQ}{df:Int→List Int→List Int}{need:Nat}(hm:2 ^ 30≤m)(ok:zE l)(V:L9 cls l root rec df need){v:ai}(h8:v.args.length≤8)(ha:∀a∈v.args,0≤a∧a<l.length){o0:List Int}{W3:List ai}(QR:l.length<need+o0.length):∀(f t:Nat) (o:List Int) (ns:List ai),v.args.length - t<f→t≤v.args.length→Ps cls l o0 o W3 ns→(∀a∈v.args.take t,fS cls a∈o.map (fS cls))→
  ∃o' C5 x,o'=(v.args.drop t).foldl (fun o a=>df a o) o∧bc.l0 m cls ⟨l,root⟩ rec v f ((v.args.take t).map (idx cls o)) (t:Int) (mC (o.map (fS cls)) 0) ⟨ns,0⟩=some (v.args.map (idx cls o'),x,mC (o'.map (fS cls)) 0,⟨C5,0⟩)∧Ps cls l o0 o' W3 C5∧∀a∈v.args,fS cls a∈o'.map (fS cls)
 | 0,t,o,ns,hf,_,_,_=>absurd hf om
 | f+1,t,o,ns,hf,ht,P,hin=>by
  have IV:(2:Nat) ^ 30=1073741824:=by decide
  unfold bc.l0
  by_cases h:t<v.args.length
  ·obtain⟨b0,b1⟩:=ha _ (bK h)
   have ho0:o0.length≤o.length:=by obtain⟨s,rfl⟩:=P.pre; simp
   obtain⟨Za,k1,P1,Rw⟩:=V (gt v.args t) o ns b0 b1 P.vs P.len om
   obtain⟨s,hs⟩:=P1.pre
   have hT1:v.args.take (t+1)=v.args.take t++[gt v.args t]:=by rw [List.take_add_one,dt h]; rfl
   have hD:v.args.drop t=gt v.args t::v.args.drop (t+1):=by
    obtain⟨h4,h5⟩:=aaM.1 (dt h)
    rw [←h5]; exact aaT h4
   have U5:∀a∈v.args.take (t+1),fS cls a∈(df (gt v.args t) o).map (fS cls):=fun a ha=>by
    rw [hT1] at ha
    rcases abb.1 ha with ha | ha
    ·rw [hs,abc]; exact abA _ (hin a ha)
    ·simp only [aa5] at ha; subst ha; exact Rw
   obtain⟨o',C5,x,e,k2,P2,h2⟩:=I3 hm ok V h8 ha QR f (t+1) (df (gt v.args t) o) Za om om (P.trans P1) U5
   refine⟨o',C5,x,by rw [hD]; exact e,?_,P2,h2⟩
   have e1:i64.wrap ((t:Int)+1)=((t+1:Nat):Int):=by rw [bJ om om]; omega
   have Ox:app 8 ((v.args.take t).map (idx cls o)) [idx cls (df (gt v.args t) o) (gt v.args t)]=some ((v.args.take (t+1)).map (idx cls (df (gt v.args t) o))):=by
    unfold app
    rw [if_pos (by simp; omega),hT1,abc]
    congr 2
    exact abQ fun a ha=>by rw [hs]; exact (pW (hin a ha)).symm
   rw [if_pos dm,gh h,aaG,k1,aaG,Ox,aaG,e1]
   exact k2
  ·have:t=v.args.length:=by omega
   subst this
   rw [ab3] at hin ⊢
   exact⟨o,ns,_,by rw [List.drop_length]; rfl,by rw [if_neg (by simp)],P,hin⟩
theorem vQ (hm:2 ^ 30≤m)(ok:zE l)(hc:cls.length=l.length):∀k,L9 cls l root (bc.f m k) (r9 cls l k) k
 | 0=>fun i o ns h0 h1 v hl hn=>absurd v.Gf om
 | k+1=>fun i o ns h0 h1 v hl hn=>by
  have IV:(2:Nat) ^ 30=1073741824:=by decide
  have h8000:=ok.1
  have Zb:=v.Gf
  show ∃C5,bc.b m (bc.f m k) i (mC (o.map (fS cls)) 0) cls ⟨ns,0⟩ ⟨l,root⟩=_∧_
  unfold bc.b
  have hx:ix cls i=some (fS cls i):=CW om om
  rw [hx,aaG,xw,aa7]
  by_cases h:fS cls i∈o.map (fS cls)
  ·have hd:r9 cls l (k+1) i o=o:=by unfold r9; rw [if_pos h]
   rw [hd,if_pos h]
   exact⟨ns,rfl,Ps.refl v hl,h⟩
  ·have hd:r9 cls l (k+1) i o=(nd l i).args.foldl (fun o a=>r9 cls l k a o) (o++[i]):=by
    show (if fS cls i∈o.map (fS cls) then o else (nd l i).args.foldl (fun o a=>r9 cls l k a o) (o++[i]))=_
    rw [if_neg h]
   have v1:Vs cls l.length (o++[i]):=by
    refine⟨?_,fun x hx=>?_⟩
    ·rw [abc,acd]
     refine⟨v.Bb,by simp,fun a ha b hb=>?_⟩
     simp only [aa3,acf,aa5] at hb
     subst hb; intro e; subst e; exact h ha
    ·rcases abb.1 hx with hx | hx
     ·exact v.nS x hx
     ·simp only [aa5] at hx; subst hx; exact⟨h0,h1⟩
   have QS:=v1.Gf
   simp only [aaR,aaW,aba] at QS
   have Ox:app 56 ns [(⟨(nd l i).kind,(nd l i).int,(nd l i).label,[]⟩:ai)]=some (ns++[⟨(nd l i).kind,(nd l i).int,(nd l i).label,[]⟩]):=by
    unfold app; rw [if_pos (by simp; omega)]
   have Pf:zz (mC (o.map (fS cls)) 0) (fS cls i) ((ns.length:Nat):Int)=mC ((o++[i]).map (fS cls)) 0:=by
    have:=xy (o.map (fS cls)) 0 (fS cls i) h
    rw [aa7,aaY,←hl] at this
    rw [this,abc]; rfl
   obtain⟨n1,n2⟩:=ok.2 _ (gR h0 h1)
   have P0:Ps cls l (o++[i]) (o++[i]) (ns++[⟨(nd l i).kind,(nd l i).int,(nd l i).label,[]⟩]) (ns++[⟨(nd l i).kind,(nd l i).int,(nd l i).label,[]⟩]):=Ps.refl v1 (by simp [hl])
   obtain⟨o',C5,x,e,k2,P2,h2⟩:=I3 (m:=m) (v:=nd l i) (need:=k) hm ok (vQ hm ok hc k) n1 n2 (o0:=o++[i]) (by simp; omega) m 0 (o++[i]) _ om om P0 (fun a ha=>by simp at ha)
   rw [abl] at e
   rw [List.take_zero,acf] at k2
   have k2:bc.l0 m cls ⟨l,root⟩ (bc.f m k) (nd l i) m [] 0 _ _=_:=k2
   obtain⟨s,hs⟩:=P2.pre
   have J1:o.length<o'.length:=by rw [hs]; simp
   have QT:C5[o.length]? = some ⟨(nd l i).kind,(nd l i).int,(nd l i).label,[]⟩:=by
    rw [P2.old _ (by simp),←hl,aaZ (aaN _),abT]; rfl
   have U3:ix C5 ((ns.length:Nat):Int)=some ⟨(nd l i).kind,(nd l i).int,(nd l i).label,[]⟩:=by
    unfold ix; rw [if_pos om,aaS,hl,QT]
   have W4:gt o' o.length=i:=by
    rw [hs,sa (by simp)]
    unfold gt; rw [aaV,aaZ (aaN _),abT]; rfl
   have U6:idx cls o' i=(o.length:Nat):=by
    rw [hs,pW (by simp)]
    unfold idx
    rw [abc,List.idxOf_append,if_neg h]; simp
   rw [hd,←e,if_neg h,if_neg (by simp),aaG,sO h0 h1,aaG,Ox,aaG,Pf,k2,aaG]
   dsimp only
   rw [U3,aaG,aaS,U6,hl]
   refine⟨_,rfl,⟨P2.vs,⟨[i]++s,by rw [hs]; simp⟩,by simpa using P2.len,fun q hq=>?_,fun q h3 h4=>?_,fun q h3 h4 a ha=>?_⟩,by rw [hs]; simp⟩
   ·rw [List.getElem?_set_ne om,P2.old q (by simp; omega),aaX om]
   ·by_cases hq:q=o.length
    ·subst hq
     rw [List.getElem?_set_self (by rw [P2.len]; omega),W4]; rfl
    ·rw [List.getElem?_set_ne om]
     exact P2.new q (by simp; omega) h4
   ·by_cases hq:q=o.length
    ·subst hq; rw [W4] at ha; exact h2 a ha
    ·exact P2.arg q (by simp; omega) h4 a ha
end
theorem C6 {m:Nat}(hm:2 ^ 41≤m){t:aI}(ok:zE t.nodes)(h1:1≤t.nodes.length)(r0:0≤t.root)(r1:t.root<t.nodes.length)(Inv:List Int→Prop)
  (hI0:∀d out,d.Perm (ints t.nodes.length)→(Ord (fun x y=>cT (nd t.nodes x) (nd t.nodes y)) (ints t.nodes.length)→Sg (fun x y=>cT (nd t.nodes x) (nd t.nodes y)) d 0 t.nodes.length)→(∀k,k<t.nodes.length→gt out (gt d k).toNat=rk t.nodes d k)→Inv out)
  (hI:∀out many ks next,Part t.nodes.length out many→Inv out→r8 t.nodes out t.nodes.length ks→next.length=t.nodes.length→(∀i,i<t.nodes.length→gt next i=(ks.idxOf (key out (nd t.nodes i) i):Int))→Inv next) :
  ∃cls many ks ns,bA.f m t=some ⟨ns,0⟩∧Part t.nodes.length cls many∧Inv cls∧r8 t.nodes cls t.nodes.length ks∧ks.length=many+1∧Ps cls t.nodes [] (r9 cls t.nodes m t.root []) [] ns∧fS cls t.root∈(r9 cls t.nodes m t.root []).map (fS cls):=by
 have IV:(2:Nat) ^ 30=1073741824:=by decide
 have vM:(2:Nat) ^ 41=2199023255552:=by decide
 have h8000:=ok.1
 obtain⟨cls,many,ks,k1,P,I,K,DB⟩:=zh hm ok h1 Inv hI0 hI
 obtain⟨ns,k2,P2,h2⟩:=vQ (m:=m) (root:=t.root) om ok P.len m t.root [] [] r0 r1 ⟨by simp,fun x hx=>by simp at hx⟩ rfl (by simp; omega)
 refine⟨cls,many,ks,ns,?_,P,I,K,DB,P2,h2⟩
 unfold bA.f
 have k2:bc.f m m t.root [] cls ⟨[],0⟩ t=_:=k2
 rw [k1,aaG,k2]; rfl
theorem vR:∀(x:List UInt8),Op.bytesLess x x=false
 | []=>rfl
 | a::x=>by simp [Op.bytesLess,vR x]
theorem zi:∀(x y:List UInt8),Op.bytesLess x y=true→Op.bytesLess y x=false
 | _,[],h=>by cases ‹List UInt8›<;>simp [Op.bytesLess] at h
 | [],b::y,_=>rfl
 | a::x,b::y,h=>by
  simp only [Op.bytesLess,abw,aaK,decide_eq_true_eq,beq_iff_eq] at h
  simp only [Op.bytesLess,Bool.or_eq_false_iff,Bool.and_eq_false_iff,decide_eq_false_iff_not,beq_eq_false_iff_ne]
  rcases h with h | ⟨rfl,h⟩
  ·refine⟨fun h2=>?_,.inl fun e=>?_⟩
   ·rw [abZ] at h h2; omega
   ·subst e; rw [abZ] at h; omega
  ·exact⟨by rw [abZ]; omega,.inr (zi x y h)⟩
theorem I4:∀(x y:List UInt8),Op.bytesLess x y=true∨x=y∨Op.bytesLess y x=true
 | [],[]=>.inr (.inl rfl)
 | [],b::y=>.inl rfl
 | a::x,[]=>.inr (.inr rfl)
 | a::x,b::y=>by
  simp only [Op.bytesLess,abw,aaK,decide_eq_true_eq,beq_iff_eq,List.cons.injEq]
  rcases Nat.lt_trichotomy a.toNat b.toNat with h | h | h
  ·exact .inl (.inl (abZ.2 h))
  ·have:a=b:=UInt8.toNat_inj.1 h
   subst this
   rcases I4 x y with h1 | h1 | h1
   ·exact .inl (.inr ⟨rfl,h1⟩)
   ·exact .inr (.inl ⟨rfl,h1⟩)
   ·exact .inr (.inr (.inr ⟨rfl,h1⟩))
  ·exact .inr (.inr (.inl (abZ.2 h)))
theorem Bd:∀(x y z:List UInt8),Op.bytesLess x y=true→Op.bytesLess y z=true→Op.bytesLess x z=true
 | _,_,[],_,h=>by cases ‹List UInt8›<;>simp [Op.bytesLess] at h
 | _,[],c::z,h,_=>by cases ‹List UInt8›<;>simp [Op.bytesLess] at h
 | [],b::y,c::z,_,_=>rfl
 | a::x,b::y,c::z,h1,h2=>by
  simp only [Op.bytesLess,abw,aaK,decide_eq_true_eq,beq_iff_eq] at h1 h2 ⊢
  rcases h1 with h1 | ⟨rfl,h1⟩
  ·rcases h2 with h2 | ⟨rfl,h2⟩
   ·left; rw [abZ] at *; omega
   ·exact .inl h1
  ·rcases h2 with h2 | ⟨rfl,h2⟩
   ·exact .inl h2
   ·exact .inr ⟨rfl,Bd x y z h1 h2⟩
theorem C7 {x y:ByteArray}(h:x.data.toList=y.data.toList):x=y:=by
 cases x with | mk a=>cases y with | mk b=>cases a; cases b; simp only at h; subst h; rfl
structure NV {α:Type}(c:α→α→Int):Prop where
 zero:∀x y,c x y=0→x=y
 refl:∀x,c x x=0
 neg:∀x y,c y x = - c x y
 tr:∀x y z,c x y≤0→c y z≤0→c x z≤0
theorem oL:NV cI:=by
 refine⟨fun x y h=>?_,fun x=>?_,fun x y=>?_,fun x y z h1 h2=>?_⟩
 ·unfold cI at h; split at h
  ·omega
  ·split at h<;>omega
 ·unfold cI; simp
 ·unfold cI; split<;>split<;>(try split)<;>omega
 ·unfold cI at *
  split at h1<;>split at h2<;>(try split at h1)<;>(try split at h2)<;>(try omega)<;>split<;>(try split)<;>omega
theorem Be (x y:ByteArray):cS x y=if Op.bytesLess x.data.toList y.data.toList=true then -1 else if x=y then 0 else 1:=by
 unfold cS HA
 cases h:Op.bytesLess x.data.toList y.data.toList with
 | true=>rfl
 | false=>
  simp only [Bool.false_or,aaU,if_false]
  by_cases e:x=y
  ·subst e; simp
  ·rw [if_neg e]
   have:(x.data.toList==y.data.toList)=false:=by
    rw [beq_eq_false_iff_ne]; exact fun h=>e (C7 h)
   rw [this]; rfl
theorem I5:NV cS:=by
 refine⟨fun x y h=>?_,fun x=>?_,fun x y=>?_,fun x y z h1 h2=>?_⟩
 ·rw [Be] at h
  split at h
  ·omega
  ·split at h
   ·assumption
   ·omega
 ·rw [Be,vR]; simp
 ·rw [Be,Be]
  rcases I4 x.data.toList y.data.toList with h | h | h
  ·have h2:=zi _ _ h
   have hne:¬y=x:=fun e=>by subst e; rw [vR] at h; cases h
   rw [if_pos h,h2]; simp [hne]
  ·have:=C7 h
   subst this
   rw [vR]; simp
  ·have h2:=zi _ _ h
   have hne:¬x=y:=fun e=>by subst e; rw [vR] at h; cases h
   rw [if_pos h,h2]; simp [hne]
 ·rw [Be] at h1 h2 ⊢
  split at h1
  ·rename_i g1
   split at h2
   ·rename_i g2
    rw [if_pos (Bd _ _ _ g1 g2)]; omega
   ·split at h2
    ·rename_i e; subst e; rw [if_pos g1]; omega
    ·omega
  ·split at h1
   ·rename_i e; subst e
    split at h2
    ·rename_i g2; rw [if_pos g2]; omega
    ·split at h2
     ·rename_i g e; rw [if_neg g,if_pos e]; omega
     ·omega
   ·omega
theorem I6 {α β:Type}{c:α→α→Int}{d:β→β→Int}(C:NV c)(D:NV d):NV fun (p q:α × β)=>Gd (c p.1 q.1) (d p.2 q.2):=by
 refine⟨fun x y h=>?_,fun x=>?_,fun x y=>?_,fun x y z h1 h2=>?_⟩
 ·unfold Gd at h
  split at h
  ·rename_i h1; exact Prod.ext (C.zero _ _ h1) (D.zero _ _ h)
  ·exact absurd h ‹_›
 ·unfold Gd; rw [C.refl,if_pos rfl,D.refl]
 ·skip
  unfold Gd
  have:=C.neg x.1 y.1
  by_cases h:c x.1 y.1=0
  ·rw [if_pos h,if_pos om,D.neg]
  ·rw [if_neg h,if_neg om,C.neg]
 ·skip
  unfold Gd at *
  by_cases a:c x.1 y.1=0
  ·rw [if_pos a] at h1
   have e:=C.zero _ _ a
   rw [←e] at h2
   by_cases b:c x.1 z.1=0
   ·rw [if_pos b] at h2 ⊢; exact D.tr _ _ _ h1 h2
   ·rw [if_neg b] at h2 ⊢; exact h2
  ·rw [if_neg a] at h1
   have hz:c x.1 z.1≤0:=by
    by_cases b:c y.1 z.1=0
    ·rw [←C.zero _ _ b]; exact h1
    ·rw [if_neg b] at h2; exact C.tr _ _ _ h1 h2
   have hne:c x.1 z.1≠0:=fun e=>by
    have e1:=C.zero _ _ e
    by_cases b:c y.1 z.1=0
    ·have e2:=C.zero _ _ b; rw [e1,←e2] at a; exact a (C.refl _)
    ·rw [if_neg b,←e1] at h2
     have:=C.neg x.1 y.1; omega
   rw [if_neg hne]; exact hz
theorem ER:NV fun (p q:Int × ByteArray)=>Gd (cI p.1 q.1) (cS p.2 q.2):=I6 oL I5
theorem ES:NV fun (p q:ByteArray × Int)=>Gd (cS p.1 q.1) (cI p.2 q.2):=I6 I5 oL
theorem nn {a b:ai}(h:a.kind=b.kind):cT a b=if a.kind=3 then Gd (cI a.args.length b.args.length) (cS a.label b.label) else Gd (cS a.label b.label) (cI a.int b.int):=by unfold cT; rw [if_pos h]
theorem kz {a b:ai}(h:a.kind≠b.kind):cT a b=cI a.kind b.kind:=by unfold cT; rw [if_neg h]
theorem jN (a b:ai):cT b a = - cT a b:=by
 by_cases h:a.kind=b.kind
 ·rw [nn h,nn h.symm,←h]
  split
  ·exact ER.neg ((a.args.length:Int),a.label) ((b.args.length:Int),b.label)
  ·exact ES.neg (a.label,a.int) (b.label,b.int)
 ·rw [kz h,kz (Ne.symm h)]; exact oL.neg _ _
theorem Bf (a b c:ai)(h1:cT a b≤0)(h2:cT b c≤0):cT a c≤0:=by
 by_cases e1:a.kind=b.kind
 ·by_cases e2:b.kind=c.kind
  ·rw [nn e1] at h1
   rw [nn e2,←e1] at h2
   rw [nn (e1.trans e2)]
   split
   ·rename_i h3; rw [if_pos h3] at h1 h2
    exact ER.tr ((a.args.length:Int),a.label) ((b.args.length:Int),b.label) ((c.args.length:Int),c.label) h1 h2
   ·rename_i h3; rw [if_neg h3] at h1 h2
    exact ES.tr (a.label,a.int) (b.label,b.int) (c.label,c.int) h1 h2
  ·rw [kz e2] at h2
   rw [kz (by rw [e1]; exact e2),e1]; exact h2
 ·rw [kz e1] at h1
  by_cases e2:b.kind=c.kind
  ·rw [kz (by rw [←e2]; exact e1),←e2]; exact h1
  ·rw [kz e2] at h2
   have n1:cI a.kind b.kind≠0:=fun h=>e1 (oL.zero _ _ h)
   have n2:cI b.kind c.kind≠0:=fun h=>e2 (oL.zero _ _ h)
   by_cases e3:a.kind=c.kind
   ·rw [←e3] at h2
    have:=oL.neg a.kind b.kind
    omega
   ·rw [kz e3]; exact oL.tr _ _ _ h1 h2
structure Alike (a b:ai):Prop where
 kind:a.kind=b.kind
 int:a.int=b.int
 label:a.label=b.label
 len:a.args.length=b.args.length
theorem Alike.refl (a:ai):Alike a a:=⟨rfl,rfl,rfl,rfl⟩
theorem Alike.symm {a b:ai}(h:Alike a b):Alike b a:=⟨h.1.symm,h.2.symm,h.3.symm,h.4.symm⟩
theorem Alike.trans {a b c:ai}(h:Alike a b)(k:Alike b c):Alike a c:=⟨h.1.trans k.1,h.2.trans k.2,h.3.trans k.3,h.4.trans k.4⟩
theorem Alike.cT {a b:ai}(h:Alike a b):cT a b=0:=by
 rw [nn h.kind]
 split
 ·rw [h.len,h.label]; exact ER.refl ((b.args.length:Int),b.label)
 ·rw [h.label,h.int]; exact ES.refl (b.label,b.int)
theorem Bg {a b:ai}(h:cT a b=0)(ha:a.kind=3→a.int=0)(hb:b.kind=3→b.int=0)(Zc:a.kind≠3→a.args=[])(hb2:b.kind≠3→b.args=[]):Alike a b:=by
 by_cases e:a.kind=b.kind
 ·rw [nn e] at h
  split at h
  ·rename_i h3
   have:=ER.zero ((a.args.length:Int),a.label) ((b.args.length:Int),b.label) h
   simp only [aaQ] at this
   exact⟨e,by rw [ha h3,hb (by rw [←e]; exact h3)],this.2,om⟩
  ·rename_i h3
   have:=ES.zero (a.label,a.int) (b.label,b.int) h
   simp only [aaQ] at this
   exact⟨e,this.2,this.1,by rw [Zc h3,hb2 (by rw [←e]; exact h3)]⟩
 ·rw [kz e] at h
  exact absurd (oL.zero _ _ h) e
theorem NW (l:List ai)(s:List Int):Ord (fun x y=>cT (nd l x) (nd l y)) s:=by
 refine⟨fun x _ y _ z _ h1 h2=>?_,fun x _ y _ h=>?_⟩
 ·skip
  have a1:=jN (nd l x) (nd l y)
  have a2:=jN (nd l y) (nd l z)
  have a3:=jN (nd l x) (nd l z)
  have:=Bf (nd l x) (nd l y) (nd l z) om om
  omega
 ·skip
  have a1:=jN (nd l x) (nd l y)
  omega
theorem C8 {s:ByteArray}(h:(s.data.toList==[])=true):s=abp #[]:=by
 have h:=beq_iff_eq.1 h
 cases s with
 | mk d=>
  cases d with
  | mk l=>simp only at h; subst h; rfl
theorem QU {l:List Int}(h:l.isEmpty=true):l=[]:=by cases l with | nil=>rfl | cons=>cases h
structure Gg (n:ai):Prop where
 kind:n.kind=0∧0≤n.int∧n.label=abp #[]∧n.args=[]∨n.kind=1∧(-1099511627776≤n.int∧n.int≤1099511627776)∧n.label=abp #[]∧n.args=[]∨n.kind=2∧n.int=0∧n.args=[]∨n.kind=3∧n.int=0∨n.kind=4∧n.args=[]
 label:n.kind=2∨n.kind=3→1≤n.label.size∧n.label.size≤16
 args:n.args.length≤8
theorem kI {n:ai}{size:Int}(h:ec n size=true):Gg n∧∀a∈n.args,0≤a∧a<size:=by
 unfold ec at h
 split at h
 ·rename_i k
  simp only [aaK,decide_eq_true_eq] at h
  have ha:=QU h.2
  exact⟨⟨.inl ⟨k,h.1.1,C8 h.1.2,ha⟩,fun z=>by omega,by rw [ha]; decide⟩,fun a h=>by rw [ha] at h; cases h⟩
 split at h
 ·rename_i k
  simp only [aaK,decide_eq_true_eq] at h
  have ha:=QU h.2
  exact⟨⟨.inr (.inl ⟨k,h.1.1,C8 h.1.2,ha⟩),fun z=>by omega,by rw [ha]; decide⟩,fun a h=>by rw [ha] at h; cases h⟩
 split at h
 ·rename_i k
  simp only [aaK,beq_iff_eq] at h
  have ha:=QU h.2
  exact⟨⟨.inr (.inr (.inl ⟨k,h.1.1,ha⟩)),fun z=>xq h.1.2,by rw [ha]; decide⟩,fun a h=>by rw [ha] at h; cases h⟩
 split at h
 ·rename_i k
  simp only [aaK,beq_iff_eq,decide_eq_true_eq,aa1] at h
  exact⟨⟨.inr (.inr (.inr (.inl ⟨k,h.1.1.1.1⟩))),fun z=>xq h.1.1.1.2,h.1.2⟩,h.2⟩
 split at h
 ·rename_i k
  simp only [aaK,decide_eq_true_eq] at h
  have ha:=QU h.2
  exact⟨⟨.inr (.inr (.inr (.inr ⟨k,ha⟩))),fun z=>by omega,by rw [ha]; decide⟩,fun a h=>by rw [ha] at h; cases h⟩
 ·cases h
theorem eJ {t:aI}(h:ca t=true):zE t.nodes∧1≤t.nodes.length∧0≤t.root∧t.root<t.nodes.length∧∀n∈t.nodes,Gg n:=by
 unfold ca at h
 simp only [aaK,decide_eq_true_eq,aa1] at h
 obtain⟨⟨⟨⟨h1,h2⟩,h3⟩,h4⟩,h5⟩:=h
 exact⟨⟨h2,fun n hn=>⟨(kI (h5 n hn)).1.args,(kI (h5 n hn)).2⟩⟩,h1,h3,h4,fun n hn=>(kI (h5 n hn)).1⟩
structure QV (l:List ai)(R:Nat→Nat→Prop):Prop where
 nS:∀i j,R i j→i<l.length∧j<l.length
 top:∀i j,R i j→Alike (nd l i) (nd l j)
 arg:∀i j,R i j→∀k,k<(nd l i).args.length→R (gt (nd l i).args k).toNat (gt (nd l j).args k).toNat
structure Min (l:List ai)(r:List Int):Prop where
 len:r.length=l.length
 top:∀i j,i<l.length→j<l.length→gt r i=gt r j→Alike (nd l i) (nd l j)
 arg:∀i j,i<l.length→j<l.length→gt r i=gt r j→∀k,k<(nd l i).args.length→gt r (gt (nd l i).args k).toNat=gt r (gt (nd l j).args k).toNat
 max:∀R,QV l R→∀i j,R i j→gt r i=gt r j
theorem tU (a:ai):cT a a=0:=(Alike.refl a).cT
theorem wQ {a b c:ai}(h1:cT a b=0)(h2:cT b c=0):cT a c=0:=by
 have n1:=jN a b
 have n2:=jN b c
 have n3:=jN a c
 have t1:=Bf a b c om om
 have t2:=Bf c b a om om
 omega
theorem zj {l:List ai}{d:List Int}{k:Nat}:∀j,k≤j→rk l d k=rk l d j→cT (nd l (gt d k)) (nd l (gt d j))=0
 | 0,h,_=>by
   have:k=0:=by omega
   subst this; exact tU _
 | j+1,h,e=>by
  by_cases hk:k=j+1
  ·subst hk; exact tU _
  ·have m1:=zg l d k j om
   have e2:rk l d (j+1)=rk l d j+if cT (nd l (gt d j)) (nd l (gt d (j+1)))=0 then 0 else 1:=rfl
   by_cases hc:cT (nd l (gt d j)) (nd l (gt d (j+1)))=0
   ·rw [if_pos hc] at e2
    exact wQ (zj j om om) hc
   ·rw [if_neg hc] at e2; omega
theorem zk {l:List ai}{d:List Int}{n:Nat}(S:Sg (fun x y=>cT (nd l x) (nd l y)) d 0 n){k q:Nat}(hq:q<n)(h0:cT (nd l (gt d k)) (nd l (gt d q))=0):∀j,k≤j→j≤q→rk l d j=rk l d k
 | 0,h,_=>by
   have:k=0:=by omega
   subst this; rfl
 | j+1,h,hj=>by
  by_cases hk:k=j+1
  ·subst hk; rfl
  ·have ih:=zk S hq h0 j om om
   have Zd:cT (nd l (gt d k)) (nd l (gt d j))≤0:=by
    by_cases e:k=j
    ·subst e; rw [tU]; omega
    ·have:0≤cT (nd l (gt d j)) (nd l (gt d k)):=S k j om om om
     have n:=jN (nd l (gt d k)) (nd l (gt d j))
     omega
   have Ze:cT (nd l (gt d (j+1))) (nd l (gt d q))≤0:=by
    by_cases e:j+1=q
    ·subst e; rw [tU]; omega
    ·have:0≤cT (nd l (gt d q)) (nd l (gt d (j+1))):=S (j+1) q om om hq
     have n:=jN (nd l (gt d (j+1))) (nd l (gt d q))
     omega
   have Zf:cT (nd l (gt d q)) (nd l (gt d k))≤0:=by have n:=jN (nd l (gt d k)) (nd l (gt d q)); omega
   have le4:=Bf _ _ _ (Bf _ _ _ Ze Zf) Zd
   have s1:=S j (j+1) om om om
   have n:=jN (nd l (gt d j)) (nd l (gt d (j+1)))
   have hz:cT (nd l (gt d j)) (nd l (gt d (j+1)))=0:=by
    have s1:0≤cT (nd l (gt d (j+1))) (nd l (gt d j)):=s1
    omega
   show rk l d j+(if cT (nd l (gt d j)) (nd l (gt d (j+1)))=0 then 0 else 1)=_
   rw [if_pos hz,ih]; rfl
def KU (l:List ai)(out:List Int):Prop:=(∀i j,i<l.length→j<l.length→gt out i=gt out j→cT (nd l i) (nd l j)=0)∧∀R,QV l R→∀i j,R i j→gt out i=gt out j
theorem Gh {l:List ai}{d out:List Int}(hp:d.Perm (ints l.length))(hs:Ord (fun x y=>cT (nd l x) (nd l y)) (ints l.length)→Sg (fun x y=>cT (nd l x) (nd l y)) d 0 l.length)(hg:∀k,k<l.length→gt out (gt d k).toNat=rk l d k):KU l out:=by
 have S:=hs (NW _ _)
 have iJ:d.length=l.length:=by rw [hp.length_eq,eY]
 have pos:∀i,i<l.length→∃k,k<l.length∧gt d k=i∧gt out i=rk l d k:=fun i hi=>by
  obtain⟨k,hk,e⟩:=pb (hp.mem_iff.2 (iV.2 (show 0≤(i:Int)∧(i:Int)<l.length by omega)))
  have:=hg k om
  rw [e,aaS] at this
  exact⟨k,om,e,this⟩
 refine⟨fun i j hi hj e=>?_,fun R B i j hR=>?_⟩
 ·obtain⟨k,hk,ek,U7⟩:=pos i hi
  obtain⟨q,hq,eq,U8⟩:=pos j hj
  rw [U7,U8] at e
  rw [←ek,←eq]
  rcases Nat.le_total k q with h | h
  ·exact zj q h om
  ·have:=zj (l:=l) (d:=d) k h om
   have n:=jN (nd l (gt d k)) (nd l (gt d q))
   omega
 ·obtain⟨hi,hj⟩:=B.nS i j hR
  obtain⟨k,hk,ek,U7⟩:=pos i hi
  obtain⟨q,hq,eq,U8⟩:=pos j hj
  have h0:=(B.top i j hR).cT
  rw [←ek,←eq] at h0
  rw [U7,U8]
  rcases Nat.le_total k q with h | h
  ·rw [zk S hq h0 q h (aaN _)]
  ·have n:=jN (nd l (gt d k)) (nd l (gt d q))
   rw [zk S hk om k h (aaN _)]
theorem I7 {l:List ai}(ok:zE l){out:List Int}{i j:Nat}(h1:(nd l i).args.length=(nd l j).args.length)(e:key out (nd l i) i=key out (nd l j) j):gt out i=gt out j∧∀k,k<(nd l i).args.length→gt out (gt (nd l i).args k).toNat=gt out (gt (nd l j).args k).toNat:=by
 unfold key at e
 have e1:=List.cons.inj e
 refine⟨om,fun k hk=>?_⟩
 have e2:=e1.2
 rw [h1] at e2
 have e3:=List.append_cancel_right e2
 have e4:=congrArg (fun z=>z[k]?) e3
 simp only [abd] at e4
 rw [dt hk,dt om] at e4
 simp only [aaO,aaJ] at e4
 omega
theorem I8 {l:List ai}(ok:zE l)(out:List Int)(many:Nat)(ks:List (List Int))(next:List Int)(P:Part l.length out many)(I:KU l out)(K:r8 l out l.length ks)(hn:next.length=l.length)
  (hg:∀i,i<l.length→gt next i=(ks.idxOf (key out (nd l i) i):Int)):KU l next:=by
 refine⟨fun i j hi hj e=>?_,fun R B i j hR=>?_⟩
 ·rw [hg i hi,hg j hj] at e
  have e:ks.idxOf (key out (nd l i) i)=ks.idxOf (key out (nd l j) j):=by omega
  have m1:=abD ((K.mem _).2 ⟨i,hi,rfl⟩)
  have m2:=abD ((K.mem _).2 ⟨j,hj,rfl⟩)
  have g1:=List.getElem_idxOf m1
  have g2:=List.getElem_idxOf m2
  have g3:key out (nd l i) i=key out (nd l j) j:=by rw [←g1,←g2]; congr 1
  exact I.1 i j hi hj (by have:=(List.cons.inj g3).1; omega)
 ·obtain⟨hi,hj⟩:=B.nS i j hR
  rw [hg i hi,hg j hj]
  have hk:key out (nd l i) i=key out (nd l j) j:=by
   have hl:=(B.top i j hR).len
   unfold key
   rw [I.2 R B i j hR,hl]
   congr 2
   apply abO fun k=>?_
   simp only [abd]
   by_cases h:k<(nd l i).args.length
   ·rw [dt h,dt om]
    simp only [aaO,aaJ]
    rw [I.2 R B _ _ (B.arg i j hR k h)]
   ·rw [aa2 om,aa2 om]
  rw [hk]
theorem NX {l:List ai}{r:List Int}{many:Nat}{ks:List (List Int)}(P:Part l.length r many)(K:r8 l r l.length ks)(DB:ks.length=many+1){i j:Nat}(hi:i<l.length)(hj:j<l.length)(e:gt r i=gt r j):key r (nd l i) i=key r (nd l j) j:=by
 by_cases hne:key r (nd l i) i=key r (nd l j) j
 ·exact hne
 ·exfalso
  have Zg:=(K.mem _).2 ⟨i,hi,rfl⟩
  have Zh:=(K.mem _).2 ⟨j,hj,rfl⟩
  have hn:((List.range (many+1)).map fun v:Nat=>((v:Int)+1)).Nodup:=by
   unfold List.Nodup
   rw [List.pairwise_map]
   exact List.Pairwise.imp (fun h=>by omega) List.nodup_range
  have:=hn.length_le_of_subset (l₂:=(ks.erase (key r (nd l j) j)).map fun k=>k.headD 0) (fun x hx=>by
   obtain⟨v,hv,rfl⟩:=abf.1 hx
   obtain⟨q,hq,h⟩:=P.W2 v (by have:=List.mem_range.1 hv; omega)
   by_cases JJ:key r (nd l q) q=key r (nd l j) j
   ·refine abf.2 ⟨key r (nd l i) i,(List.mem_erase_of_ne hne).2 Zg,?_⟩
    have h1:=(List.cons.inj JJ).1
    simp [key,e]
    omega
   ·exact abf.2 ⟨_,(List.mem_erase_of_ne JJ).2 ((K.mem _).2 ⟨q,hq,rfl⟩),by simp [key,h]⟩)
  rw [aaY,aaY,List.length_range,List.length_erase_of_mem Zh] at this
  omega
theorem xz {l:List ai}(hT:∀n∈l,Gg n){i j:Nat}(hi:i<l.length)(hj:j<l.length)(h:cT (nd l i) (nd l j)=0):Alike (nd l i) (nd l j):=by
 have Ti:=hT _ (gR (i:=(i:Int)) om om)
 have Tj:=hT _ (gR (i:=(j:Int)) om om)
 have a3:∀{n:ai},Gg n→n.kind=3→n.int=0:=fun T h=>by rcases T.kind with z | z | z | z | z<;>(have:=z.1; first | omega | exact z.2)
 have a0:∀{n:ai},Gg n→n.kind≠3→n.args=[]:=fun T h=>by
  rcases T.kind with z | z | z | z | z
  ·exact z.2.2.2
  ·exact z.2.2.2
  ·exact z.2.2
  ·exact absurd z.1 h
  ·exact z.2
 exact Bg h (a3 Ti) (a3 Tj) (a0 Ti) (a0 Tj)
theorem gS {m:Nat}(hm:2 ^ 41≤m){t:aI}(h:ca t=true) :
  ∃cls ns,bA.f m t=some ⟨ns,0⟩∧Min t.nodes cls∧Ps cls t.nodes [] (r9 cls t.nodes m t.root []) [] ns∧fS cls t.root∈(r9 cls t.nodes m t.root []).map (fS cls):=by
 obtain⟨ok,h1,r0,r1,hT⟩:=eJ h
 obtain⟨cls,many,ks,ns,e,P,I,K,DB,Q,hr⟩:=C6 hm ok h1 r0 r1 (KU t.nodes) (fun d out hp hs hg=>Gh hp hs hg) (fun out many ks next P I K hn hg=>I8 ok out many ks next P I K hn hg)
 refine⟨cls,ns,e,⟨P.len,fun i j hi hj e=>xz hT hi hj (I.1 i j hi hj e),fun i j hi hj e k hk=>?_,I.2⟩,Q,hr⟩
 have hA:=xz hT hi hj (I.1 i j hi hj e)
 exact (I7 ok hA.len (NX P K DB hi hj e)).2 k hk
def gb (l:List Bool)(k:Nat):Bool:=l.getD k false
inductive zl (κ:Int→Int)(A:Int→List Int):List Int→List Int→List Int→Prop
 | nil (o:List Int):zl κ A [] o o
 | skip {v:Int} {st o o':List Int}:κ v∈o.map κ→zl κ A st o o'→zl κ A (v::st) o o'
 | push {v:Int} {st o o':List Int}:κ v∉o.map κ→zl κ A (A v++st) (o++[v]) o'→zl κ A (v::st) o o'
theorem zl.W5 {κ:Int→Int}{A:Int→List Int}{st o o1 o2:List Int}(h:zl κ A st o o1)(k:zl κ A st o o2):o1=o2:=by
 induction h with
 | nil o=>cases k; rfl
 | skip hm _ ih=>
  cases k with
  | skip _ k=>exact ih k
  | push hn _=>exact absurd hm hn
 | push hn _ ih=>
  cases k with
  | skip hm _=>exact absurd hm hn
  | push _ k=>exact ih k
theorem zl.facts {κ:Int→Int}{A:Int→List Int}{n:Nat}{st o o':List Int}(h:zl κ A st o o')(hA:∀v:Int,0≤v→v<n→∀a∈A v,0≤a∧a<n)(hst:∀v∈st,0≤v∧v<n)(ho:∀v∈o,0≤v∧v<n)(L8:(o.map κ).Nodup) :
  (∃t,o'=o++t)∧(∀v∈o',0≤v∧v<n)∧(o'.map κ).Nodup∧(∀v∈st,κ v∈o'.map κ)∧((∀v∈o,∀a∈A v,κ a∈o.map κ∨a∈st)→∀v∈o',∀a∈A v,κ a∈o'.map κ):=by
 induction h with
 | nil o=>
  refine⟨⟨[],by simp⟩,ho,L8,?_,?_⟩
  ·intro v hv; cases hv
  ·intro h v hv a ha; exact (h v hv a ha).resolve_right (by simp)
 | @skip v st o o' hm _ ih=>
  obtain⟨⟨t,rfl⟩,a,b,c,d⟩:=ih (fun x hx=>hst x (by simp [hx])) ho L8
  refine⟨⟨t,rfl⟩,a,b,fun x hx=>?_,fun h=>d fun x hx y hy=>?_⟩
  ·rcases aa6.1 hx with rfl | hx
   ·rw [abc]; exact abA _ hm
   ·exact c x hx
  ·rcases h x hx y hy with h | h
   ·exact .inl h
   ·rcases aa6.1 h with rfl | h
    ·exact .inl hm
    ·exact .inr h
 | @push v st o o' hn _ ih=>
  have hv:=hst v (by simp)
  have h1:∀x∈A v++st,0≤x∧x<n:=fun x hx=>by
   rcases abb.1 hx with hx | hx
   ·exact hA v hv.1 hv.2 x hx
   ·exact hst x (by simp [hx])
  have h2:∀x∈o++[v],0≤x∧x<n:=fun x hx=>by
   rcases abb.1 hx with hx | hx
   ·exact ho x hx
   ·rw [aa5] at hx; subst hx; exact hv
  have h3:((o++[v]).map κ).Nodup:=by
   rw [abc,acd]
   refine⟨L8,by simp,fun a ha b hb=>?_⟩
   simp only [aa3,acf,aa5] at hb
   subst hb; intro e; subst e; exact hn ha
  obtain⟨⟨t,rfl⟩,a,b,c,d⟩:=ih h1 h2 h3
  refine⟨⟨[v]++t,by simp⟩,a,b,fun x hx=>?_,fun h=>d fun x hx y hy=>?_⟩
  ·rcases aa6.1 hx with rfl | hx
   ·simp
   ·exact c x (by simp [hx])
  ·rcases abb.1 hx with hx | hx
   ·rcases h x hx y hy with h | h
    ·exact .inl (by rw [abc]; exact abA _ h)
    ·rcases aa6.1 h with rfl | h
     ·exact .inl (by simp)
     ·exact .inr (by simp [h])
   ·rw [aa5] at hx; subst hx
    exact .inr (abA _ hy)
theorem Bh (cls:List Int)(l:List ai)(k:Nat)(i:Int)(o:List Int):r9 cls l (k+1) i o=if fS cls i∈o.map (fS cls) then o else (nd l i).args.foldl (fun o a=>r9 cls l k a o) (o++[i]):=rfl
theorem I9 {cls:List Int}{l:List ai}(ok:zE l):∀(k:Nat) (i:Int) (o:List Int),0≤i→i<l.length→Vs cls l.length o→Vs cls l.length (r9 cls l k i o)∧o.length≤(r9 cls l k i o).length
 | 0,i,o,_,_,v=>⟨v,aaN _⟩
 | k+1,i,o,h0,h1,v=>by
  rw [Bh]
  split
  ·exact⟨v,aaN _⟩
  ·rename_i h
   have v1:Vs cls l.length (o++[i]):=by
    refine⟨?_,fun x hx=>?_⟩
    ·rw [abc,acd]
     refine⟨v.Bb,by simp,fun a ha b hb=>?_⟩
     simp only [aa3,acf,aa5] at hb
     subst hb; intro e; subst e; exact h ha
    ·rcases abb.1 hx with hx | hx
     ·exact v.nS x hx
     ·simp only [aa5] at hx; subst hx; exact⟨h0,h1⟩
   have fold:∀(zs:List Int) (o:List Int),(∀a∈zs,0≤a∧a<l.length)→Vs cls l.length o→Vs cls l.length (zs.foldl (fun o a=>r9 cls l k a o) o)∧o.length≤(zs.foldl (fun o a=>r9 cls l k a o) o).length:=by
    intro zs
    induction zs with
    | nil=>intro o _ v; exact⟨v,aaN _⟩
    | cons a zs ih=>
     intro o ha v
     have hr:=ha a (by simp)
     obtain⟨v2,l2⟩:=I9 ok k a o hr.1 hr.2 v
     obtain⟨v3,l3⟩:=ih (r9 cls l k a o) (fun x hx=>ha x (by simp [hx])) v2
     exact⟨v3,abB l2 l3⟩
   obtain⟨v2,l2⟩:=fold (nd l i).args (o++[i]) (ok.2 _ (gR h0 h1)).2 v1
   exact⟨v2,by simp at l2; omega⟩
theorem pc {cls:List Int}{l:List ai}(ok:zE l):∀(k:Nat) (i:Int) (o st o':List Int),0≤i→i<l.length→Vs cls l.length o→l.length<k+o.length→
  zl (fS cls) (fun v=>(nd l v).args) st (r9 cls l k i o) o'→zl (fS cls) (fun v=>(nd l v).args) (i::st) o o'
 | 0,i,o,st,o',_,_,v,hk,_=>absurd v.Gf om
 | k+1,i,o,st,o',h0,h1,v,hk,h=>by
  rw [Bh] at h
  by_cases hm:fS cls i∈o.map (fS cls)
  ·rw [if_pos hm] at h
   exact .skip hm h
  ·rw [if_neg hm] at h
   refine .push hm ?_
   have v1:Vs cls l.length (o++[i]):=by
    refine⟨?_,fun x hx=>?_⟩
    ·rw [abc,acd]
     refine⟨v.Bb,by simp,fun a ha b hb=>?_⟩
     simp only [aa3,acf,aa5] at hb
     subst hb; intro e; subst e; exact hm ha
    ·rcases abb.1 hx with hx | hx
     ·exact v.nS x hx
     ·simp only [aa5] at hx; subst hx; exact⟨h0,h1⟩
   have fold:∀(zs:List Int) (o:List Int),(∀a∈zs,0≤a∧a<l.length)→Vs cls l.length o→l.length<k+o.length→zl (fS cls) (fun v=>(nd l v).args) st (zs.foldl (fun o a=>r9 cls l k a o) o) o'→zl (fS cls) (fun v=>(nd l v).args) (zs++st) o o':=by
    intro zs
    induction zs with
    | nil=>intro o _ _ _ h; exact h
    | cons a zs ih=>
     intro o ha v hk h
     have hr:=ha a (by simp)
     obtain⟨v2,l2⟩:=I9 ok k a o hr.1 hr.2 v
     exact pc ok k a o (zs++st) o' hr.1 hr.2 v hk (ih _ (fun x hx=>ha x (by simp [hx])) v2 om h)
   exact fold (nd l i).args (o++[i]) (ok.2 _ (gR h0 h1)).2 v1 (by simp; omega) h
theorem Ja {od:List Int}{n:Nat}(h:od.Nodup)(hr:∀x∈od,0≤x∧x<n):od.length≤n:=by
 have:=h.length_le_of_subset (l₂:=ints n) (fun x hx=>iV.2 (hr x hx))
 rwa [eY] at this
structure xA (l k:List ai)(R:Int→Int→Prop):Prop where
 nS:∀i j,R i j→(0≤i∧i<l.length)∧0≤j∧j<k.length
 top:∀i j,R i j→Alike (nd l i) (nd k j)
 arg:∀i j,R i j→∀n,n<(nd l i).args.length→R (gt (nd l i).args n) (gt (nd k j).args n)
theorem Min.same {l:List ai}{c:List Int}(M:Min l c){a b:Int}(a0:0≤a)(a1:a<l.length)(b0:0≤b)(b1:b<l.length)(e:fS c a=fS c b) :
  Alike (nd l a) (nd l b)∧∀n,n<(nd l a).args.length→fS c (gt (nd l a).args n)=fS c (gt (nd l b).args n):=by
 have ea:((a.toNat:Nat):Int)=a:=by omega
 have eb:((b.toNat:Nat):Int)=b:=by omega
 have hA:=M.top a.toNat b.toNat om om e
 have hg:=M.arg a.toNat b.toNat om om e
 rw [ea,eb] at hA hg
 exact⟨hA,hg⟩
theorem xA.swap {l k:List ai}{R:Int→Int→Prop}(S:xA l k R):xA k l fun j i=>R i j:=
 ⟨fun i j h=>⟨(S.nS j i h).2,(S.nS j i h).1⟩,fun i j h=>(S.top j i h).symm,fun i j h n hn=>S.arg j i h n (by have:=(S.top j i h).len; omega)⟩
theorem xA.cls {l k:List ai}{R:Int→Int→Prop}(S:xA l k R){c1 c2:List Int}(M1:Min l c1)(M2:Min k c2){i j i' j':Int}(h:R i j)(h':R i' j')(e:fS c1 i=fS c1 i'):fS c2 j=fS c2 j':=by
 have g:=S.nS _ _ h
 have g':=S.nS _ _ h'
 refine M2.max (fun a b=>∃i i':Int,R i a∧R i' b∧fS c1 i=fS c1 i') ⟨?_,?_,?_⟩ j.toNat j'.toNat ⟨i,i',by rwa [show ((j.toNat:Nat):Int)=j by omega],by rwa [show ((j'.toNat:Nat):Int)=j' by omega],e⟩
 ·rintro a b ⟨i,i',h,h',_⟩
  have:=S.nS _ _ h
  have:=S.nS _ _ h'
  omega
 ·rintro a b ⟨i,i',h,h',e⟩
  have g:=S.nS _ _ h
  have g':=S.nS _ _ h'
  exact ((S.top _ _ h).symm.trans (M1.same g.1.1 g.1.2 g'.1.1 g'.1.2 e).1).trans (S.top _ _ h')
 ·rintro a b ⟨i,i',h,h',e⟩ n hn
  have g:=S.nS _ _ h
  have g':=S.nS _ _ h'
  obtain⟨sA,sg⟩:=M1.same g.1.1 g.1.2 g'.1.1 g'.1.2 e
  have Pg:n<(nd l i).args.length:=by have:=(S.top _ _ h).len; omega
  have k1:=S.arg _ _ h n Pg
  have k2:=S.arg _ _ h' n (by have:=sA.len; omega)
  have r1:=(S.nS _ _ k1).2
  have r2:=(S.nS _ _ k2).2
  exact⟨_,_,by rwa [show (((gt (nd k a).args n).toNat:Nat):Int)=gt (nd k a).args n by omega],by rwa [show (((gt (nd k b).args n).toNat:Nat):Int)=gt (nd k b).args n by omega],sg n Pg⟩
inductive Rl (R:Int→Int→Prop):List Int→List Int→Prop
 | nil:Rl R [] []
 | cons {a b:Int} {xs ys:List Int}:R a b→Rl R xs ys→Rl R (a::xs) (b::ys)
theorem Rl.app {R:Int→Int→Prop}{a b c d:List Int}(h:Rl R a b)(k:Rl R c d):Rl R (a++c) (b++d):=by
 induction h with
 | nil=>exact k
 | cons h _ ih=>exact .cons h ih
theorem Rl.len {R:Int→Int→Prop}{a b:List Int}(h:Rl R a b):a.length=b.length:=by
 induction h with
 | nil=>rfl
 | cons _ _ ih=>simp [ih]
theorem Rl.at {R:Int→Int→Prop}{a b:List Int}(h:Rl R a b):∀n,n<a.length→R (gt a n) (gt b n):=by
 induction h with
 | nil=>intro n hn; exact absurd hn (by simp)
 | cons h _ ih=>
  intro n hn
  cases n with
  | zero=>exact h
  | succ n=>exact ih n (by simpa using hn)
theorem Rl.of {R:Int→Int→Prop}:∀{a b:List Int},a.length=b.length→(∀n,n<a.length→R (gt a n) (gt b n))→Rl R a b
 | [],[],_,_=>.nil
 | [],_::_,h,_=>by simp at h
 | _::_,[],h,_=>by simp at h
 | x::a,y::b,h,k=>.cons (k 0 (by simp)) (Rl.of (by simpa using h) fun n hn=>k (n+1) (by simpa using hn))
section
variable {l k:List ai}{R:Int→Int→Prop}{c1 c2:List Int}
theorem xA.mem (S:xA l k R)(M1:Min l c1)(M2:Min k c2){v w:Int}(h:R v w){o o2:List Int}(ho:Rl R o o2):fS c1 v∈o.map (fS c1)↔fS c2 w∈o2.map (fS c2):=by
 induction ho with
 | nil=>simp
 | cons h' _ ih=>
  rw [aa3,aa3,aa6,aa6,ih]
  have z1:=S.cls M1 M2 h h'
  have z2:=S.swap.cls M2 M1 h h'
  constructor
  ·rintro (e | e)
   ·exact .inl (z1 e)
   ·exact .inr e
  ·rintro (e | e)
   ·exact .inl (z2 e)
   ·exact .inr e
theorem xA.idx (S:xA l k R)(M1:Min l c1)(M2:Min k c2){v w:Int}(h:R v w){o o2:List Int}(ho:Rl R o o2):idx c1 o v=idx c2 o2 w:=by
 unfold Go.Proofs.YtifafejidnjckaaGreat.idx
 congr 1
 induction ho with
 | nil=>rfl
 | @cons a b xs ys h' _ ih=>
  rw [aa3,aa3,ach,ach,ih]
  have h1:=S.cls M1 M2 h' h
  have h2:=S.swap.cls M2 M1 h' h
  by_cases e:fS c1 a=fS c1 v
  ·rw [e,h1 e]; simp
  ·have e2:¬fS c2 b=fS c2 w:=fun z=>e (h2 z)
   rw [show (fS c1 a==fS c1 v)=false from by simpa using e,show (fS c2 b==fS c2 w)=false from by simpa using e2]
theorem xA.pre (S:xA l k R)(M1:Min l c1)(M2:Min k c2){st o o':List Int}(h:zl (fS c1) (fun v=>(nd l v).args) st o o'):∀{QX o2:List Int},Rl R st QX→Rl R o o2→∃NY,zl (fS c2) (fun v=>(nd k v).args) QX o2 NY∧Rl R o' NY:=by
 induction h with
 | nil o=>intro QX o2 hs ho; cases hs; exact⟨o2,.nil _,ho⟩
 | skip hm _ ih=>
  intro QX o2 hs ho
  cases hs with
  | cons h hs=>
   obtain⟨NY,k1,k2⟩:=ih hs ho
   exact⟨NY,.skip ((S.mem M1 M2 h ho).1 hm) k1,k2⟩
 | push hn _ ih=>
  intro QX o2 hs ho
  cases hs with
  | cons h hs=>
   obtain⟨NY,k1,k2⟩:=ih ((Rl.of (S.top _ _ h).len (S.arg _ _ h)).app hs) (ho.app (.cons h .nil))
   exact⟨NY,.push (fun z=>hn ((S.mem M1 M2 h ho).2 z)) k1,k2⟩
end
theorem KV {c O:List Int}{a b:Int}(h:fS c a=fS c b):idx c O a=idx c O b:=by unfold idx; rw [h]
theorem NZ {f:Int→Int}{a b:List Int}{g:Int→Int}(hl:a.length=b.length)(h:∀n,n<a.length→f (gt a n)=g (gt b n)):a.map f=b.map g:=by
 apply abO fun n=>?_
 simp only [abd]
 by_cases hn:n<a.length
 ·rw [dt hn,dt om]; simp only [aaO,h n hn]
 ·rw [aa2 om,aa2 om]; rfl
theorem pd {m:Nat}(hm:2 ^ 41≤m){t u:aI}(ht:ca t=true)(hu:ca u=true){R:Int→Int→Prop}(S:xA t.nodes u.nodes R)(hr:R t.root u.root):∃s,bA.f m t=some s∧bA.f m u=some s:=by
 have vM:(2:Nat) ^ 41=2199023255552:=by decide
 obtain⟨Ma,_,r0,r1,_⟩:=eJ ht
 obtain⟨OJ,_,q0,q1,_⟩:=eJ hu
 obtain⟨c1,n1,e1,M1,Q1,_⟩:=gS hm ht
 obtain⟨c2,n2,e2,M2,Q2,_⟩:=gS hm hu
 have l1:=Ma.1
 have l2:=OJ.1
 have P1:=pc (cls:=c1) Ma m t.root [] [] _ r0 r1 ⟨by simp,fun x hx=>by cases hx⟩ (by simp; omega) (.nil _)
 have P2:=pc (cls:=c2) OJ m u.root [] [] _ q0 q1 ⟨by simp,fun x hx=>by cases hx⟩ (by simp; omega) (.nil _)
 obtain⟨NY,k1,k2⟩:=S.pre M1 M2 P1 (.cons hr .nil) .nil
 have:=k1.W5 P2
 subst this
 generalize hO1:r9 c1 t.nodes m t.root []=O1 at *
 generalize hO2:r9 c2 u.nodes m u.root []=O2 at *
 have hl:=k2.len
 have w1:=Q1.len
 have w2:=Q2.len
 have hn:n1=n2:=by
  apply abO fun q=>?_
  by_cases hq:q<O1.length
  ·rw [Q1.new q (by simp) hq,Q2.new q (by simp) om]
   have h:=k2.at q hq
   have A:=S.top _ _ h
   unfold wP
   rw [A.kind,A.int,A.label,NZ A.len fun n hn=>S.idx M1 M2 (S.arg _ _ h n hn) k2]
  ·rw [aa2 om,aa2 om]
 subst hn
 exact⟨_,e1,e2⟩
theorem C9 {n:ai}{a b:Int}{f:Int→Int}(h:ec n a=true)(hf:∀x∈n.args,0≤f x∧f x<b):ec ⟨n.kind,n.int,n.label,n.args.map f⟩ b=true:=by
 unfold ec at h ⊢
 have he:(n.args.map f).isEmpty=n.args.isEmpty:=by cases n.args<;>rfl
 dsimp only
 rw [he,aaY]
 have ha:((n.args.map f).all fun a=>decide (0≤a)&&decide (a<b))=true:=by
  rw [aa1]
  intro x hx
  obtain⟨y,hy,rfl⟩:=abf.1 hx
  have:=hf y hy
  simp only [aaK,decide_eq_true_eq]; exact this
 rw [ha]
 split<;>rename_i h0
 ·rw [if_pos h0] at h; exact h
 ·rw [if_neg h0] at h
  split<;>rename_i h1
  ·rw [if_pos h1] at h; exact h
  ·rw [if_neg h1] at h
   split<;>rename_i h2
   ·rw [if_pos h2] at h; exact h
   ·rw [if_neg h2] at h
    split<;>rename_i h3
    ·rw [if_pos h3] at h
     simp only [aaK] at h ⊢
     exact⟨h.1,trivial⟩
    ·rw [if_neg h3] at h
     exact h
theorem kJ {m:Nat}(hm:2 ^ 41≤m){t:aI}(ht:ca t=true):∃s R,bA.f m t=some s∧ca s=true∧s.nodes.length≤t.nodes.length∧xA t.nodes s.nodes R∧R t.root s.root:=by
 have vM:(2:Nat) ^ 41=2199023255552:=by decide
 obtain⟨ok,_,r0,r1,_⟩:=eJ ht
 obtain⟨c,ns,e,M,Q,hr⟩:=gS hm ht
 have l1:=ok.1
 have fv:=ht
 unfold ca at fv
 simp only [aaK,decide_eq_true_eq] at fv
 generalize hO:r9 c t.nodes m t.root []=O at *
 have Gf:=Q.vs.Gf
 have hlen:=Q.len
 have oP:0<O.length:=by cases O with | nil=>simp at hr | cons _ _=>simp
 have L8:∀q:Nat,q<O.length→nd ns (q:Int)=wP c t.nodes O (gt O q):=fun q hq=>by
  have:=Q.new q (by simp) hq
  unfold nd
  rw [aaS,aaV,this]; rfl
 have RZ:∀{v:Int},fS c v∈O.map (fS c)→0≤idx c O v∧idx c O v<O.length∧fS c (gt O (idx c O v).toNat)=fS c v:=fun {v} hv=>by
  have h1:=abD hv
  have h2:=List.getElem_idxOf h1
  rw [aaY] at h1
  unfold idx
  refine⟨om,om,?_⟩
  rw [aaS]
  have h3:=aaL (l:=O.map (fS c)) (i:=(O.map (fS c)).idxOf (fS c v)) (by rw [aaY]; exact h1)
  rw [h2,abd,dt h1] at h3
  exact aa8 h3
 refine⟨⟨ns,0⟩,fun i j=>(0≤i∧i<t.nodes.length)∧fS c i∈O.map (fS c)∧j=idx c O i,e,?_,by show ns.length≤_; omega,⟨?_,?_,?_⟩,⟨r0,r1⟩,hr,?_⟩
 ·unfold ca
  simp only [aaK,decide_eq_true_eq]
  refine⟨⟨⟨⟨om,om⟩,om⟩,om⟩,?_⟩
  rw [aa1]
  intro x hx
  obtain⟨q,hq,e2⟩:=ab2 hx
  have h1:=Q.new q (by simp) om
  rw [aaL hq,e2] at h1
  have h1:=aa8 h1
  subst h1
  have JF:=Q.vs.nS _ (bK (l:=O) (k:=q) om)
  refine C9 (aa1.1 fv.2 _ (gR JF.1 JF.2)) fun a ha=>?_
  have:=RZ (Q.arg q (by simp) om a ha)
  omega
 ·rintro i j ⟨h1,h2,rfl⟩
  have:=RZ h2
  exact⟨h1,by show 0≤_∧_<(ns.length:Int); omega⟩
 ·rintro i j ⟨h1,h2,rfl⟩
  obtain⟨a,b,d⟩:=RZ h2
  have JF:=Q.vs.nS _ (bK (l:=O) (k:=(idx c O i).toNat) om)
  have hx:=L8 (idx c O i).toNat om
  rw [show (((idx c O i).toNat:Nat):Int)=idx c O i by omega] at hx
  rw [hx]
  have A:=(M.same h1.1 h1.2 JF.1 JF.2 d.symm).1
  exact⟨A.kind,A.int,A.label,by show _=(List.map _ _).length; rw [aaY]; exact A.len⟩
 ·rintro i j ⟨h1,h2,rfl⟩ n hn
  obtain⟨a,b,d⟩:=RZ h2
  have JF:=Q.vs.nS _ (bK (l:=O) (k:=(idx c O i).toNat) om)
  have hx:=L8 (idx c O i).toNat om
  rw [show (((idx c O i).toNat:Nat):Int)=idx c O i by omega] at hx
  rw [hx]
  obtain⟨A,hg⟩:=M.same h1.1 h1.2 JF.1 JF.2 d.symm
  have JH:n<(nd t.nodes (gt O (idx c O i).toNat)).args.length:=by have:=A.len; omega
  have hg:=hg n hn
  have hin:=Q.arg (idx c O i).toNat (by simp) om _ (bK JH)
  refine⟨(ok.2 _ (gR h1.1 h1.2)).2 _ (bK hn),by rw [hg]; exact hin,?_⟩
  have e1:gt (wP c t.nodes O (gt O (idx c O i).toNat)).args n=idx c O (gt (nd t.nodes (gt O (idx c O i).toNat)).args n):=by
   have h3:=dt (l:=(wP c t.nodes O (gt O (idx c O i).toNat)).args) (k:=n) (by show n<(List.map _ _).length; rw [aaY]; exact JH)
   have h4:(wP c t.nodes O (gt O (idx c O i).toNat)).args[n]? = some (idx c O (gt (nd t.nodes (gt O (idx c O i).toNat)).args n)):=by
    show (List.map _ _)[n]? = _
    rw [abd,dt JH]; rfl
   rw [h4] at h3; exact (aa8 h3).symm
  rw [e1]
  exact KV hg.symm
 ·show (0:Int)=idx c O t.root
  have P1:=pc (cls:=c) ok m t.root [] [] _ r0 r1 ⟨by simp,fun x hx=>by cases hx⟩ (by simp; omega) (.nil _)
  rw [hO] at P1
  cases P1 with
  | skip h _=>simp at h
  | push _ k=>
   obtain⟨⟨T,e⟩,_⟩:=k.facts (n:=t.nodes.length) (fun v a b=>(ok.2 _ (gR a b)).2) (fun v hv=>by
    rcases abb.1 hv with hv | hv
    ·exact (ok.2 _ (gR r0 r1)).2 v hv
    ·cases hv) (fun v hv=>by simp at hv; subst hv; exact⟨r0,r1⟩) (by simp)
   rw [e]
   unfold idx
   simp
theorem Da {m:Nat}(hm:2 ^ 41≤m){t:aI}(ht:ca t=true):∃s,bA.f m t=some s∧ca s=true∧s.nodes.length≤t.nodes.length∧bA.f m s=some s:=by
 obtain⟨s,R,e,v,hl,S,hr⟩:=kJ hm ht
 obtain⟨s',e1,e2⟩:=pd hm ht v S hr
 rw [e1] at e
 cases e
 exact⟨s,e1,v,hl,e2⟩
section
variable {κ κ':Int→Int}{A:Int→List Int}{n:Nat}
theorem ET (hk:∀i j:Int,0≤i→i<n→0≤j→j<n→(κ i=κ j↔κ' i=κ' j)){v:Int}{o:List Int}(h0:0≤v)(h1:v<n)(ho:∀x∈o,0≤x∧x<n):κ v∈o.map κ↔κ' v∈o.map κ':=by
 simp only [abf]
 constructor
 ·rintro⟨x,hx,e⟩; exact⟨x,hx,(hk x v (ho x hx).1 (ho x hx).2 h0 h1).1 e⟩
 ·rintro⟨x,hx,e⟩; exact⟨x,hx,(hk x v (ho x hx).1 (ho x hx).2 h0 h1).2 e⟩
theorem EU (hk:∀i j:Int,0≤i→i<n→0≤j→j<n→(κ i=κ j↔κ' i=κ' j)){v:Int}(h0:0≤v)(h1:v<n):∀{o:List Int},(∀x∈o,0≤x∧x<n)→(o.map κ).idxOf (κ v)=(o.map κ').idxOf (κ' v)
 | [],_=>rfl
 | x::o,ho=>by
  have hx:=ho x (by simp)
  have ih:=EU hk h0 h1 (o:=o) fun y hy=>ho y (by simp [hy])
  rw [aa3,aa3,ach,ach,ih]
  have:(κ x==κ v)=(κ' x==κ' v):=by
   rw [Bool.eq_iff_iff,beq_iff_eq,beq_iff_eq]; exact hk x v hx.1 hx.2 h0 h1
  rw [this]
theorem zl.Zi (hk:∀i j:Int,0≤i→i<n→0≤j→j<n→(κ i=κ j↔κ' i=κ' j))(hA:∀v:Int,0≤v→v<n→∀a∈A v,0≤a∧a<n){st o o':List Int}(h:zl κ A st o o'):(∀v∈st,0≤v∧v<n)→(∀v∈o,0≤v∧v<n)→zl κ' A st o o':=by
 induction h with
 | nil o=>intro _ _; exact .nil o
 | skip hm _ ih=>
  intro hs ho
  have hv:=hs _ (List.mem_cons_self ..)
  exact .skip ((ET hk hv.1 hv.2 ho).1 hm) (ih (fun v h=>hs v (ab0 _ h)) ho)
 | push hn _ ih=>
  intro hs ho
  have hv:=hs _ (List.mem_cons_self ..)
  refine .push (fun h=>hn ((ET hk hv.1 hv.2 ho).2 h)) (ih (fun v h=>?_) fun v h=>?_)
  ·rcases abb.1 h with h | h
   ·exact hA _ hv.1 hv.2 v h
   ·exact hs v (ab0 _ h)
  ·rcases abb.1 h with h | h
   ·exact ho v h
   ·rw [aa5] at h; subst h; exact hv
end
def hJ (g:Int→Int)(n:ai):ai:=⟨n.kind,if n.kind=0 then g n.int else n.int,n.label,n.args⟩
def iw (g:Int→Int)(t:aI):aI:=⟨t.nodes.map (hJ g),t.root⟩
def zm (g:Int→Int)(l:List ai):Prop:=∀a∈l,∀b∈l,a.kind=0→b.kind=0→g a.int=g b.int→a.int=b.int
section
variable {g:Int→Int}{l:List ai}
theorem vS {i:Int}(h0:0≤i)(h1:i<l.length):nd (l.map (hJ g)) i=hJ g (nd l i):=by
 unfold nd
 have h:i.toNat<l.length:=by omega
 rw [aaV,aaV,abd,aaL h]; rfl
theorem iy (i:Int):(nd (l.map (hJ g)) i).args=(nd l i).args:=by
 unfold nd
 rw [aaV,aaV,abd]
 cases l[i.toNat]?<;>rfl
theorem xB (hg:zm g l){i j:Int}(i0:0≤i)(i1:i<l.length)(j0:0≤j)(j1:j<l.length):Alike (nd (l.map (hJ g)) i) (nd (l.map (hJ g)) j)↔Alike (nd l i) (nd l j):=by
 rw [vS i0 i1,vS j0 j1]
 have mi:=gR i0 i1
 have mj:=gR j0 j1
 generalize nd l i=a at *
 generalize nd l j=b at *
 constructor
 ·rintro⟨h1,h2,h3,h4⟩
  have h1:a.kind=b.kind:=h1
  refine⟨h1,?_,h3,h4⟩
  have h2:(if a.kind=0 then g a.int else a.int)=if b.kind=0 then g b.int else b.int:=h2
  by_cases k:a.kind=0
  ·rw [if_pos k,if_pos (by rw [←h1]; exact k)] at h2
   exact hg a mi b mj k (by rw [←h1]; exact k) h2
  ·rw [if_neg k,if_neg (by rw [←h1]; exact k)] at h2
   exact h2
 ·rintro⟨h1,h2,h3,h4⟩
  refine⟨h1,?_,h3,h4⟩
  show (if a.kind=0 then g a.int else a.int)=if b.kind=0 then g b.int else b.int
  rw [h1,h2]
theorem EV (hg:zm g l){R:Nat→Nat→Prop}:QV (l.map (hJ g)) R↔QV l R:=by
 constructor
 ·rintro⟨h1,h2,h3⟩
  have h1:∀i j,R i j→i<l.length∧j<l.length:=fun i j h=>by simpa using h1 i j h
  refine⟨h1,fun i j h=>?_,fun i j h k hk=>?_⟩
  ·obtain⟨a,b⟩:=h1 i j h
   exact (xB hg om om om om).1 (h2 i j h)
  ·have:=h3 i j h k (by rw [iy]; exact hk)
   rwa [iy,iy] at this
 ·rintro⟨h1,h2,h3⟩
  refine⟨fun i j h=>by simpa using h1 i j h,fun i j h=>?_,fun i j h k hk=>?_⟩
  ·obtain⟨a,b⟩:=h1 i j h
   exact (xB hg om om om om).2 (h2 i j h)
  ·rw [iy] at hk
   rw [iy,iy]
   exact h3 i j h k hk
theorem Min.W6 (ok:zE l){c:List Int}(M:Min l c){i j:Nat}(hi:i<l.length)(hj:j<l.length):gt c i=gt c j↔∃R,QV l R∧R i j:=by
 constructor
 ·intro h
  refine⟨fun i j=>i<l.length∧j<l.length∧gt c i=gt c j,⟨fun i j h=>⟨h.1,h.2.1⟩,fun i j h=>M.top i j h.1 h.2.1 h.2.2,fun i j h k hk=>⟨?_,?_,M.arg i j h.1 h.2.1 h.2.2 k hk⟩⟩,hi,hj,h⟩
  ·have:=(xu ok h.1).2 _ (bK hk); omega
  ·have qh:k<(nd l j).args.length:=by rw [←(M.top i j h.1 h.2.1 h.2.2).len]; exact hk
   have:=(xu ok h.2.1).2 _ (bK qh); omega
 ·rintro⟨R,B,r⟩; exact M.max R B i j r
end
theorem Gi {m:Nat}(hm:2 ^ 41≤m){t:aI}{g:Int→Int}(ht:ca t=true)(hu:ca (iw g t)=true)(hg:zm g t.nodes):∃s,bA.f m t=some s∧bA.f m (iw g t)=some (iw g s):=by
 have vM:(2:Nat) ^ 41=2199023255552:=by decide
 obtain⟨Ma,_,r0,r1,_⟩:=eJ ht
 obtain⟨OJ,_,q0,q1,_⟩:=eJ hu
 obtain⟨c1,n1,e1,M1,Q1,_⟩:=gS hm ht
 obtain⟨c2,n2,e2,M2,Q2,_⟩:=gS hm hu
 have l1:=Ma.1
 have l2:=OJ.1
 have hl:(iw g t).nodes.length=t.nodes.length:=by simp [iw]
 have hk:∀i j:Int,0≤i→i<t.nodes.length→0≤j→j<t.nodes.length→(fS c1 i=fS c1 j↔fS c2 i=fS c2 j):=by
  intro i j i0 i1 j0 j1
  unfold fS
  rw [M1.W6 Ma om om,M2.W6 OJ om om]
  constructor
  ·rintro⟨R,B,r⟩; exact⟨R,(EV hg).2 B,r⟩
  ·rintro⟨R,B,r⟩; exact⟨R,(EV hg).1 B,r⟩
 have P1:=pc (cls:=c1) Ma m t.root [] [] _ r0 r1 ⟨by simp,fun x hx=>by cases hx⟩ (by simp; omega) (.nil _)
 have P2:=pc (cls:=c2) OJ m t.root [] [] _ q0 q1 ⟨by simp,fun x hx=>by cases hx⟩ (by simp; omega) (.nil _)
 have eA:(fun v=>(nd (iw g t).nodes v).args)=fun v=>(nd t.nodes v).args:=funext fun v=>iy v
 rw [eA] at P2
 have Zj:=P1.Zi (κ':=fS c2) hk (fun v a b=>(Ma.2 _ (gR a b)).2) (fun v hv=>by simp at hv; subst hv; exact⟨r0,r1⟩) (fun v hv=>by cases hv)
 have hO:=Zj.W5 P2
 have Q2:Ps c2 (iw g t).nodes [] (r9 c1 t.nodes m t.root []) [] n2:=by rw [hO]; exact Q2
 generalize r9 c1 t.nodes m t.root []=O at *
 have w1:=Q1.len
 have w2:=Q2.len
 have hn:n2=n1.map (hJ g):=by
  apply abO fun q=>?_
  rw [abd]
  by_cases hq:q<O.length
  ·rw [Q1.new q (by simp) hq,Q2.new q (by simp) hq]
   have hr:=Q1.vs.nS _ (bK hq)
   rw [aaO]
   unfold wP
   rw [show nd (iw g t).nodes (gt O q)=hJ g (nd t.nodes (gt O q)) from vS hr.1 hr.2]
   unfold hJ
   simp only
   congr 2
   apply abQ
   intro a ha
   have ha:=(Ma.2 _ (gR hr.1 hr.2)).2 a ha
   unfold idx
   rw [EU hk ha.1 ha.2 fun x hx=>Q1.vs.nS x hx]
  ·rw [aa2 om,aa2 om]; rfl
 subst hn
 exact⟨_,e1,e2⟩
theorem np {m:Nat}(hm:2 ^ 41≤m){r:aI}(hr:ca r=true)(h:bA.f m r=some r):r.root=0∧∀i j:Nat,i<r.nodes.length→j<r.nodes.length→(nd r.nodes i).kind=0→(nd r.nodes j).kind=0→(nd r.nodes i).int=(nd r.nodes j).int→i=j:=by
 obtain⟨ok,_,r0,r1,hT⟩:=eJ hr
 obtain⟨c,ns,e,M,Q,_⟩:=gS hm hr
 rw [h] at e
 have e:r=⟨ns,0⟩:=aa8 e
 have e1:r.nodes=ns:=by rw [e]
 refine⟨by rw [e],fun i j hi hj ki kj he=>?_⟩
 generalize r9 c r.nodes m r.root []=O at *
 have hl:=Q.len
 rw [←e1] at hl
 have nO:O.Nodup:=by
  have:=Q.vs.Bb
  unfold List.Nodup at this ⊢
  rw [List.pairwise_map] at this
  exact List.Pairwise.imp (fun h e=>h (by rw [e])) this
 have W7:∀x:Int,0≤x→x<r.nodes.length→x∈O:=fun x x0 x1=>by
  by_cases hx:x∈O
  ·exact hx
  ·have:=(List.nodup_cons.2 ⟨hx,nO⟩).length_le_of_subset (l₂:=ints r.nodes.length) (fun y hy=>by
    rcases aa6.1 hy with rfl | hy
    ·exact iV.2 ⟨x0,x1⟩
    ·exact iV.2 (Q.vs.nS y hy))
   rw [eY,aaW] at this
   omega
 have eb:∀n∈r.nodes,n.kind=0→n.label=⟨#[]⟩∧n.args=[]:=fun n hn k=>by
  have:=hT n hn
  have hv:=hr
  unfold ca at hv
  simp only [aaK,aa1] at hv
  have:=hv.2 n hn
  unfold ec at this
  rw [if_pos k] at this
  simp only [aaK,decide_eq_true_eq] at this
  exact⟨C8 this.1.2,QU this.2⟩
 have mi:=gR (l:=r.nodes) (i:=(i:Int)) om om
 have mj:=gR (l:=r.nodes) (i:=(j:Int)) om om
 have bi:=eb _ mi ki
 have bj:=eb _ mj kj
 have hc:gt c i=gt c j:=M.max (fun a b=>a=i∧b=j) ⟨fun a b h=>by rw [h.1,h.2]; exact⟨hi,hj⟩,fun a b h=>by
  rw [h.1,h.2]
  exact⟨by rw [ki,kj],he,by rw [bi.1,bj.1],by rw [bi.2,bj.2]⟩,fun a b h k hk=>by
  rw [h.1,bi.2] at hk; simp at hk⟩ i j ⟨rfl,rfl⟩
 obtain⟨p,hp,ep⟩:=pb (W7 i om om)
 obtain⟨q,hq,eq⟩:=pb (W7 j om om)
 have hn:=Q.vs.Bb
 have:p=q:=by
  have h1:(O.map (fS c))[p]? = (O.map (fS c))[q]?:=by
   rw [abd,abd,dt hp,dt hq,ep,eq]
   simp only [aaO,fS,aaS,hc]
  exact (List.getElem?_inj (by rw [aaY]; exact hp) hn).1 h1
 subst this
 rw [ep] at eq
 omega
def kB (from_:Nat)(l:List ai)(v:Int):Int:=((from_+l.findIdx fun x=>x.kind==0&&x.int==v:Nat):Int)
theorem vT {m:Nat}(hm:2 ^ 41≤m){r:aI}(hr:ca r=true)(h:bA.f m r=some r)(b:Nat){i:Nat}(hi:i<r.nodes.length)(k:(nd r.nodes i).kind=0):kB b r.nodes (nd r.nodes i).int=((b+i:Nat):Int):=by
 have h1:r.nodes.findIdx (fun x=>x.kind==0&&x.int==(nd r.nodes i).int)<r.nodes.length:=by
  rw [List.findIdx_lt_length]
  exact⟨nd r.nodes i,gR om om,by simp [k]⟩
 have h2:=List.findIdx_getElem (w:=h1)
 generalize hq:r.nodes.findIdx (fun x=>x.kind==0&&x.int==(nd r.nodes i).int)=q at *
 simp only [aaK,beq_iff_eq] at h2
 have e:nd r.nodes (q:Int)=r.nodes[q]:=by
  unfold nd; rw [aaS,aaV,aaL h1]; rfl
 have:=(np hm hr h).2 i q hi h1 k (by rw [e]; exact h2.1) (by rw [e]; exact h2.2.symm)
 unfold kB
 rw [hq,this]
theorem Db {m:Nat}(hm:2 ^ 41≤m){r:aI}(hr:ca r=true)(h:bA.f m r=some r)(b:Nat):zm (kB b r.nodes) r.nodes:=by
 intro x hx y hy kx ky e
 obtain⟨i,hi,ei⟩:=ab2 hx
 obtain⟨j,hj,ej⟩:=ab2 hy
 have nx:nd r.nodes (i:Int)=x:=by unfold nd; rw [aaS,aaV,aaL hi,ei]; rfl
 have ny:nd r.nodes (j:Int)=y:=by unfold nd; rw [aaS,aaV,aaL hj,ej]; rfl
 have e1:=vT hm hr h b hi (by rw [nx]; exact kx)
 have e2:=vT hm hr h b hj (by rw [ny]; exact ky)
 rw [nx] at e1
 rw [ny] at e2
 have:i=j:=by omega
 subst this
 rw [←nx,←ny]
theorem Gj {r:aI}(hr:ca r=true){g:Int→Int}(hg:∀v,0≤g v):ca (iw g r)=true:=by
 unfold ca at hr ⊢
 simp only [aaK,decide_eq_true_eq,aa1] at hr ⊢
 have hl:(iw g r).nodes.length=r.nodes.length:=by simp [iw]
 refine⟨⟨⟨⟨by rw [hl]; exact hr.1.1.1.1,by rw [hl]; exact hr.1.1.1.2⟩,hr.1.1.2⟩,by rw [hl]; exact hr.1.2⟩,fun n hn=>?_⟩
 obtain⟨x,hx,rfl⟩:=abf.1 hn
 have:=hr.2 x hx
 rw [hl]
 unfold hJ
 unfold ec at this ⊢
 by_cases k:x.kind=0
 ·simp only [k,if_true,aaK,decide_eq_true_eq] at this ⊢
  exact⟨⟨hg _,this.1.2⟩,this.2⟩
 ·simp only [if_neg k] at this ⊢
  exact this
theorem Bi {m:Nat}(hm:2 ^ 41≤m){r:aI}(hr:ca r=true)(h:bA.f m r=some r)(b:Nat):ca (iw (kB b r.nodes) r)=true∧bA.f m (iw (kB b r.nodes) r)=some (iw (kB b r.nodes) r):=by
 have hv:=Gj (g:=kB b r.nodes) hr (fun v=>by unfold kB; omega)
 obtain⟨s,e1,e2⟩:=Gi hm hr hv (Db hm hr h b)
 rw [h] at e1
 cases e1
 exact⟨hv,e2⟩
end Go.Proofs.YtifafejidnjckaaGreat
namespace Go.Uf
open Go Go.R
open Go.IntKind (i64 u64 u8 u32)
def jk (to:List Int)(n:Int):Int:=to.getD n.toNat n
def iz (to:List Int):Nat→Int→Int
 | 0,n=>n
 | k+1,n=>jk to (iz to k n)
def Gk:List Int→Nat→Nat
 | [],_=>0
 | x::l,i=>(if x=(i:Int) then 0 else 1)+Gk l (i+1)
def sP (to:List Int):Nat:=Gk to 0
def rp (to:List Int)(n:Int):Int:=iz to (sP to) n
def Rg (len:Nat)(n:Int):Prop:=0≤n∧n<len
instance (len:Nat) (n:Int):Decidable (Rg len n):=inferInstanceAs (Decidable (_∧_))
structure JR (to:List Int):Prop where
 rg:∀n,Rg to.length n→Rg to.length (jk to n)
 rt:∀n,Rg to.length n→jk to (rp to n)=rp to n
theorem Jb:∀(l:List Int) (i:Nat),Gk l i≤l.length
 | [],_=>aaN _
 | x::l,i=>by
  have:=Jb l (i+1)
  simp only [Gk,aaW]
  split<;>omega
theorem zn (to:List Int):sP to≤to.length:=Jb to 0
theorem EW:∀(l:List Int) (i j:Nat) (b:Int),l[j]? = some ((i+j:Nat):Int)→b≠((i+j:Nat):Int)→Gk (l.set j b) i=Gk l i+1
 | [],_,_,_,h,_=>by simp at h
 | x::l,i,0,b,h,hb=>by
  simp only [abg,aaJ,ab5] at h hb
  simp only [List.set_cons_zero,Gk,h,if_true]
  rw [if_neg hb]; omega
 | x::l,i,j+1,b,h,hb=>by
  simp only [abK] at h
  have e:i+(j+1)=i+1+j:=by omega
  rw [e] at h hb
  have:=EW l (i+1) j b h hb
  simp only [List.set_cons_succ,Gk,this]; omega
theorem EX:∀(l:List Int) (i:Nat),Gk (l++[((i+l.length:Nat):Int)]) i=Gk l i
 | [],i=>by simp [Gk]
 | x::l,i=>by
  have:=EX l (i+1)
  have e:i+(x::l).length=i+1+l.length:=by simp only [aaW]; omega
  rw [e]
  show _+Gk (l++_) (i+1)=_+Gk l (i+1)
  rw [this]
section
variable {to:List Int}{a b n:Int}
theorem tV (h:Rg to.length n):to[n.toNat]? = some (jk to n):=by
 have hl:n.toNat<to.length:=by have:=h.1; have:=h.2; omega
 unfold jk
 rw [aaV,aaL hl]; rfl
theorem zo (h:Rg to.length n):ix to n=some (jk to n):=by
 unfold ix; rw [if_pos h.1,tV h]
theorem vU (o:JR to)(h:Rg to.length n):∀k,Rg to.length (iz to k n)
 | 0=>h
 | k+1=>o.rg _ (vU o h k)
theorem Jc (o:JR to)(h:Rg to.length n):Rg to.length (rp to n):=vU o h _
theorem Bj (h:jk to n=n):∀k,iz to k n=n
 | 0=>rfl
 | k+1=>by show jk to (iz to k n)=n; rw [Bj h k,h]
theorem vV (h:jk to n=n):rp to n=n:=Bj h _
theorem Bk {d:Nat}(h:jk to (iz to d n)=iz to d n):∀e,iz to (d+e) n=iz to d n
 | 0=>rfl
 | e+1=>by show jk to (iz to (d+e) n)=_; rw [Bk h e,h]
theorem KW {d:Nat}(hd:d≤sP to)(h:jk to (iz to d n)=iz to d n):rp to n=iz to d n:=by
 have:=Bk h (sP to - d)
 rw [Nat.add_sub_cancel' hd] at this
 exact this
theorem zp (ha:Rg to.length a):∀n,jk (to.set a.toNat b) n=if n.toNat=a.toNat then b else jk to n:=by
 intro n
 have hl:a.toNat<to.length:=by have:=ha.1; have:=ha.2; omega
 unfold jk
 rw [aaV,aaV,acb]
 by_cases h:n.toNat=a.toNat
 ·rw [if_pos h.symm,if_pos hl,if_pos h]; rfl
 ·rw [if_neg (fun e=>h e.symm),if_neg h]
theorem EY (ha:Rg to.length a)(h1:jk to a=a)(hne:b≠a):sP (to.set a.toNat b)=sP to+1:=by
 have h0:=ha.1
 refine EW to 0 a.toNat b ?_ ?_
 ·rw [tV ha,h1]; congr 1; omega
 ·intro e; apply hne; rw [e]; omega
theorem QY (o:JR to)(ha:Rg to.length a)(hb:Rg to.length b)(h1:jk to a=a)(h2:jk to b=b)(hne:b≠a) :
  JR (to.set a.toNat b)∧∀n,Rg to.length n→rp (to.set a.toNat b) n=if rp to n=a then b else rp to n:=by
 have hl:(to.set a.toNat b).length=to.length:=abx
 have hs:∀n,Rg to.length n→jk (to.set a.toNat b) n=if n=a then b else jk to n:=fun n hn=>by
  rw [zp ha]
  by_cases h:n=a
  ·subst h; simp
  ·rw [if_neg h,if_neg (fun e=>h (by have:=hn.1; have:=ha.1; omega))]
 have wk:jk (to.set a.toNat b) b=b:=by rw [hs b hb,if_neg hne,h2]
 have key:∀n,Rg to.length n→∀d,iz (to.set a.toNat b) d n=iz to d n∨(iz (to.set a.toNat b) d n=b∧iz to d n=a):=fun n hn d=>by
  induction d with
  | zero=>exact .inl rfl
  | succ d ih=>
   show jk _ (iz _ d n)=jk to (iz to d n)∨(jk _ (iz _ d n)=b∧jk to (iz to d n)=a)
   rcases ih with ih | ⟨ih,Zk⟩
   ·rw [ih,hs _ (vU o hn d)]
    by_cases h:iz to d n=a
    ·rw [if_pos h,h,h1]; exact .inr ⟨rfl,rfl⟩
    ·rw [if_neg h]; exact .inl rfl
   ·rw [ih,Zk,h1,wk]; exact .inr ⟨rfl,rfl⟩
 have W8:∀n,Rg to.length n→rp (to.set a.toNat b) n=if rp to n=a then b else rp to n:=fun n hn=>by
  show iz _ (sP (to.set a.toNat b)) n=_
  rw [EY ha h1 hne]
  have hr:=o.rt n hn
  have Zl:=Jc o hn
  show jk _ (iz _ (sP to) n)=_
  rcases key n hn (sP to) with h | ⟨h,h3⟩
  ·rw [h]
   show jk _ (rp to n)=_
   rw [hs _ Zl,hr]
  ·have h3:rp to n=a:=h3
   rw [h,wk,if_pos h3]
 refine⟨⟨fun n hn=>?_,fun n hn=>?_⟩,W8⟩
 ·rw [hl] at hn ⊢
  rw [hs n hn]
  split
  ·exact hb
  ·exact o.rg n hn
 ·rw [hl] at hn
  rw [W8 n hn]
  by_cases h:rp to n=a
  ·rw [if_pos h,wk]
  ·rw [if_neg h,hs _ (Jc o hn),if_neg h,o.rt n hn]
theorem QZ (o:JR to):JR (to++[(to.length:Int)])∧(∀n,Rg to.length n→rp (to++[(to.length:Int)]) n=rp to n)∧rp (to++[(to.length:Int)]) (to.length:Int)=(to.length:Int):=by
 have hl:(to++[(to.length:Int)]).length=to.length+1:=by simp
 have hn:sP (to++[(to.length:Int)])=sP to:=by
  have:=EX to 0
  rw [aa7] at this
  exact this
 have hs:∀n,Rg to.length n→jk (to++[(to.length:Int)]) n=jk to n:=fun n h=>by
  have:n.toNat<to.length:=by have:=h.1; have:=h.2; omega
  unfold jk
  rw [aaV,aaV,aaX this]
 have hz:jk (to++[(to.length:Int)]) (to.length:Int)=(to.length:Int):=by
  unfold jk
  rw [aaV,aaS,aaZ (aaN _),abT]; rfl
 have hi:∀n,Rg to.length n→∀k,iz (to++[(to.length:Int)]) k n=iz to k n:=fun n h k=>by
  induction k with
  | zero=>rfl
  | succ k ih=>show jk _ (iz _ k n)=jk to (iz to k n); rw [ih,hs _ (vU o h k)]
 have hr:∀n,Rg to.length n→rp (to++[(to.length:Int)]) n=rp to n:=fun n h=>by
  unfold rp; rw [hn]; exact hi n h _
 have hc:∀n,Rg (to.length+1) n→Rg to.length n∨n=to.length:=fun n h=>by
  unfold Rg at h ⊢; omega
 refine⟨⟨fun n h=>?_,fun n h=>?_⟩,hr,vV hz⟩
 ·rw [hl] at h ⊢
  rcases hc n h with h | rfl
  ·rw [hs n h]; have:=o.rg n h; unfold Rg at this ⊢; omega
  ·rw [hz]; exact h
 ·rw [hl] at h
  rcases hc n h with h | rfl
  ·rw [hr n h,hs _ (Jc o h),o.rt n h]
  ·rw [vV hz,hz]
end
theorem KX:JR []:=⟨fun n h=>by have:=h.1; have:=h.2; simp at this; omega,fun n h=>by have:=h.1; have:=h.2; simp at this; omega⟩
end Go.Uf
