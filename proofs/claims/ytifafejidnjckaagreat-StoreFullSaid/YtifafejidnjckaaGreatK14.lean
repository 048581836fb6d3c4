/- Part of the proof: PT8, PT9, PT10, PR2, PR3, PR4, PR5, PR6, PR9, PT12, PA7, PB1, PB2, PB4, PB9, PV1. -/
import Derived.Test.YtifafejidnjckaaGreatK13
set_option linter.unusedVariables false
set_option linter.unusedSimpArgs false
set_option maxRecDepth 100000
open Bool renaming and_eq_true → ae3, false_eq_true → afa, or_eq_true → afR
open ByteArray renaming mk → afC
open Int renaming toNat_natCast → ae7, natCast_nonneg → af5
open List renaming getElem?_eq_some_iff → ae5, getElem?_eq_getElem → ae8, length_append → afb, length_cons → afc, mem_singleton → afd, drop_eq_getElem_cons → afe, getD_eq_getElem?_getD → aff, getElem?_append_right → afg, replicate → afh, length_nil → afi, mem_of_getElem? → afj, mem_append → afk, length_map → afl, getElem?_append_left → afm, append_assoc → afn, map_append → afo, getElem?_eq_none → afp, mem_cons → afq, all_eq_true → afr, map_cons → afs, mem_map → afu, getElem?_map → afv, drop_zero → afw, take_append_of_le_length → afy, nil_append → afz, mem_append_left → afE, cons_append → afF, length_set → afJ, take_succ_eq_append_getElem → afM, length_take → afO, all_cons → afQ, take_length → afS, length_replicate → afW, ext_getElem? → af0, getElem?_of_mem → af4, range → af7, set_append_right → agf, mem_range → agi, getElem?_set → agl, take_add_one → agm, idxOf_append → agn, nodup_append → ago, idxOf_lt_length_of_mem → agq, map_congr_left → agr, map_nil → agt, length_range → agE
open Nat renaming le_refl → ae4, zero_add → aft, le_trans → afV, sub_self → aga, add_zero → agz, add_comm → agF
open Option renaming bind_some → aeZ, map_some → ae6
open Option.some renaming injEq → ae2, inj → afB
open Prod.mk renaming injEq → ae9
open UInt8 renaming lt_iff_toNat_lt → agw
namespace Go.Proofs.YtifafejidnjckaaGreat
open Go Go.R
open Go.IntKind (i64 u64 u8 u32)
def key (out:List Int)(n:ai)(i:Nat):List Int:=(gt out i+1)::((n.args.map fun a=>gt out a.toNat+1)++afh (8 - n.args.length) 0)
def enum:List (List Int)→Nat→List (List Int × Int)
 | [],_=>[]
 | k::ks,s=>(k,(s:Int))::enum ks (s+1)
theorem qY:∀(ks:List (List Int)) (s:Nat),(enum ks s).length=ks.length
 | [],_=>rfl
 | k::ks,s=>by simp [enum,qY ks]
theorem y6:∀(ks:List (List Int)) (s:Nat) (k:List Int),ye (enum ks s) k=if k∈ks then (((s+ks.idxOf k:Nat):Int),true) else (0,false)
 | [],s,k=>rfl
 | a::ks,s,k=>by
  simp only [enum,ye,y6 ks (s+1) k,afq,List.idxOf_cons]
  by_cases h:k=a
  ·subst h; simp
  ·have h':(a==k)=false:=by simpa using fun z:a=k=>h z.symm
   rw [if_neg h,h']
   by_cases h2:k∈ks
   ·simp only [h2,if_true,or_true,cond_false]
    simp only [ae9,and_true]
    omega
   ·simp [h2,h]
theorem En:∀(ks:List (List Int)) (s:Nat) (k:List Int),k∉ks→FD (enum ks s) k ((s+ks.length:Nat):Int)=enum (ks++[k]) s
 | [],s,k,_=>rfl
 | a::ks,s,k,h=>by
  have h1:k≠a:=fun z=>h (by simp [z])
  have h2:k∉ks:=fun z=>h (by simp [z])
  simp only [enum,FD,afF,if_neg h1,afc]
  rw [show s+(ks.length+1)=s+1+ks.length by omega,En ks (s+1) k h2]
theorem rC {n:Nat}:∀(ks:List (List Int)) (s:Nat) (k:List Int),k.length=n→(∀a∈ks,a.length=n)→yd n (enum ks s) k=true
 | [],s,k,h,_=>by simp [yd,enum,h]
 | a::ks,s,k,h,h2=>by
  have:=rC ks (s+1) k h fun a ha=>h2 a (by simp [ha])
  simp only [yd,ae3,beq_iff_eq,h,true_and] at this ⊢
  simp only [enum,afQ,ae3,beq_iff_eq]
  exact⟨h2 a (by simp),this⟩
structure Part (n:Nat)(out:List Int)(many:Nat):Prop where
 len:out.length=n
 Cu:∀i,i<n→0≤gt out i∧gt out i≤many
 sur:∀v:Nat,v≤many→∃i,i<n∧gt out i=v
structure vi (l:List ai)(out:List Int)(p:Nat)(ks:List (List Int)):Prop where
 NL:ks.Nodup
 mem:∀k,k∈ks↔∃i,i<p∧key out (nd l i) i=k
def nH (l:List ai):Prop:=l.length≤8000∧∀n∈l,n.args.length≤8∧∀a∈n.args,0≤a∧a<l.length
theorem OY {a:Int}{L:List Int}{t:Nat}{v:Int}(hL:L.length=t)(ht:t<8):(a::(L++afh (8 - t) 0)).set (t+1) v=a::((L++[v])++afh (8 - (t+1)) 0):=by
 rw [List.set_cons_succ,agf _ _ om,hL,aga,show 8 - t=(8 - (t+1))+1 by omega,List.replicate_succ,List.set_cons_zero,afn]
 rfl
theorem MC {m:Nat}{out:List Int}{n:ai}(h8:n.args.length≤8)(ha:∀a∈n.args,0≤a∧a<out.length)(ho:∀i,i<out.length→0≤gt out i∧gt out i<2 ^ 40)(o:Int):∀(f t:Nat),n.args.length - t<f→t≤n.args.length→
  ∃x,aH.l4 m out n f (o::(((n.args.take t).map fun a=>gt out a.toNat+1)++afh (8 - t) 0)) (t:Int)=some (o::((n.args.map fun a=>gt out a.toNat+1)++afh (8 - n.args.length) 0),x)
 | 0,t,hf,_=>absurd hf om
 | f+1,t,hf,ht=>by
  have zo:(2:Nat) ^ 40=1099511627776:=by decide
  have i40:(2:Int) ^ 40=1099511627776:=by decide
  unfold aH.l4
  by_cases h:t<n.args.length
  ·have hx:ix n.args (t:Int)=some (gt n.args t):=dR h
   obtain⟨b0,b1⟩:=ha _ (bh h)
   obtain⟨c0,c1⟩:=ho (gt n.args t).toNat om
   have hy:ix out (gt n.args t)=some (gt out (gt n.args t).toNat):=iv om om
   have e1:i64.wrap ((t:Int)+1)=((t+1:Nat):Int):=by rw [br om om]; omega
   have hT:((n.args.take t).map fun a=>gt out a.toNat+1).length=t:=by simp; omega
   have hz:∃z,ix (o::(((n.args.take t).map fun a=>gt out a.toNat+1)++afh (8 - t) 0)) ((t+1:Nat):Int)=some z:=⟨_,dR (by simp; omega)⟩
   obtain⟨z,hz⟩:=hz
   obtain⟨x,ih⟩:=MC (m:=m) h8 ha ho o f (t+1) om om
   have hT1:n.args.take (t+1)=n.args.take t++[gt n.args t]:=by rw [agm,bZ h]; rfl
   rw [hT1,afo] at ih
   rw [if_pos dm,hx,aeZ,hy,aeZ,e1,hz,aeZ,ae7,br (x:=gt out (gt n.args t).toNat+1) om om,OY hT om]
   exact⟨x,ih⟩
  ·have:t=n.args.length:=by omega
   subst this
   exact⟨_,by rw [if_neg (by simp),afS]⟩
theorem y7 {out:List Int}{n:ai}{i:Nat}(h8:n.args.length≤8):(key out n i).length=9:=by simp [key]; omega
theorem Eo {l:List ai}(ok:nH l){i:Nat}(h:i<l.length):(nd l i).args.length≤8∧∀a∈(nd l i).args,0≤a∧a<l.length:=ok.2 _ (jd om om)
theorem F9 {m:Nat}(hm:2 ^ 30≤m){l:List ai}{out:List Int}{many:Nat}(ok:nH l)(P:Part l.length out many)(P8:many<2 ^ 30):∀(f p:Nat) (ks:List (List Int)) (next:List Int),l.length - p<f→p≤l.length→vi l out p ks→next.length=l.length→
  (∀i,i<p→gt next i=(ks.idxOf (key out (nd l i) i):Int))→
  ∃Y9 next' x,aH.l3 m l out f (enum ks 0) next (p:Int)=some (enum Y9 0,next',x)∧vi l out l.length Y9∧next'.length=l.length∧∀i,i<l.length→gt next' i=(Y9.idxOf (key out (nd l i) i):Int)
 | 0,p,ks,next,hf,_,_,_,_=>absurd hf om
 | f+1,p,ks,next,hf,hp,K,hn,hg=>by
  have vX:(2:Nat) ^ 30=1073741824:=by decide
  have zo:(2:Nat) ^ 40=1099511627776:=by decide
  have i40:(2:Int) ^ 40=1099511627776:=by decide
  have h8000:=ok.1
  have NY:=P.len
  unfold aH.l3
  by_cases h:p<l.length
  ·obtain⟨n1,n2⟩:=Eo ok h
   obtain⟨r0,r1⟩:=P.Cu p h
   have e1:i64.wrap ((p:Int)+1)=((p+1:Nat):Int):=by rw [br om om]; omega
   obtain⟨x,hk⟩:=MC (m:=m) (out:=out) (n:=nd l p) n1 (by rw [NY]; exact n2) (fun i hi=>by have:=P.Cu i om; omega) (gt out p+1) m 0 om om
   have hk:aH.l4 m out (nd l p) m [gt out p+1,0,0,0,0,0,0,0,0] 0=some (key out (nd l p) p,x):=hk
   have Wl:=y7 (out:=out) (i:=p) n1
   have GL:∀a∈ks,a.length=9:=fun a ha=>by
    obtain⟨i,hi,rfl⟩:=(K.mem a).1 ha
    exact y7 (Eo ok om).1
   have Vx:∃z,ix next (p:Int)=some z:=⟨_,dR om⟩
   obtain⟨z,hz⟩:=Vx
   rw [if_pos dm,kh om om,aeZ,dR om,aeZ,br (x:=gt out p+1) om om,hk,aeZ]
   dsimp only
   have hG:On 9 (enum ks 0) (key out (nd l p) p)=some (if key out (nd l p) p∈ks then (((ks.idxOf (key out (nd l p) p):Nat):Int),true) else (0,false)):=by
    unfold On; rw [if_pos (rC _ _ _ Wl GL),y6,aft]
   rw [hG,aeZ,e1,hz]
   by_cases hin:key out (nd l p) p∈ks
   ·rw [if_pos hin,if_neg (by simp),aeZ,aeZ,ae7]
    refine F9 hm ok P P8 f (p+1) ks _ om om ⟨K.NL,fun k=>⟨fun hk=>?_,fun ⟨i,hi,uu⟩=>?_⟩⟩ (by simpa using hn) (fun i hi=>?_)
    ·obtain⟨i,hi,h⟩:=(K.mem k).1 hk; exact⟨i,om,h⟩
    ·by_cases OZ:i=p
     ·subst OZ; rw [←uu]; exact hin
     ·exact (K.mem k).2 ⟨i,om,uu⟩
    ·rw [gW om]
     by_cases OZ:i=p
     ·subst OZ; rw [if_pos rfl]
     ·rw [if_neg OZ]; exact hg i om
   ·have hS:Uh 9 (enum ks 0) (key out (nd l p) p) (((enum ks 0).length:Nat):Int)=some (enum (ks++[key out (nd l p) p]) 0):=by
     unfold Uh; rw [if_pos (rC _ _ _ Wl GL),qY]
     have:=En ks 0 _ hin
     rw [aft] at this
     rw [this]
    have hid:(ks++[key out (nd l p) p]).idxOf (key out (nd l p) p)=ks.length:=by
     rw [agn,if_neg hin,List.idxOf_cons_self,aft]
    have hG2:On 9 (enum (ks++[key out (nd l p) p]) 0) (key out (nd l p) p)=some (((ks.length:Nat):Int),true):=by
     unfold On
     rw [if_pos (rC _ _ _ Wl (fun a ha=>by rcases afk.1 ha with ha | ha; exact GL a ha; simp only [afd] at ha; rw [ha]; exact Wl)),y6,if_pos (by simp),aft,hid]
    rw [if_neg hin,if_pos (by simp),hS,aeZ,hG2,aeZ,aeZ,ae7]
    refine F9 hm ok P P8 f (p+1) (ks++[key out (nd l p) p]) _ om om ⟨?_,fun k=>⟨fun hk=>?_,fun ⟨i,hi,uu⟩=>?_⟩⟩ (by simpa using hn) (fun i hi=>?_)
    ·rw [ago]
     refine⟨K.NL,by simp,fun a ha b hb=>?_⟩
     simp only [afd] at hb
     subst hb; intro e; subst e; exact hin ha
    ·rcases afk.1 hk with hk | hk
     ·obtain⟨i,hi,h⟩:=(K.mem k).1 hk; exact⟨i,om,h⟩
     ·simp only [afd] at hk; exact⟨p,om,hk.symm⟩
    ·by_cases OZ:i=p
     ·subst OZ; rw [←uu]; simp
     ·exact afE _ ((K.mem k).2 ⟨i,om,uu⟩)
    ·rw [gW om]
     by_cases OZ:i=p
     ·subst OZ; rw [if_pos rfl,hid]
     ·rw [if_neg OZ,agn,if_pos ((K.mem _).2 ⟨i,om,rfl⟩)]; exact hg i om
  ·have:p=l.length:=by omega
   subst this
   exact⟨ks,next,_,by rw [if_neg (by simp)],K,hn,hg⟩
theorem O0 {l:List ai}{out:List Int}{ks:List (List Int)}(K:vi l out l.length ks):ks.length≤l.length:=by
 have:=K.NL.length_le_of_subset (l₂:=(af7 l.length).map fun i:Nat=>key out (nd l i) i) (fun k hk=>by
  obtain⟨i,hi,h⟩:=(K.mem k).1 hk
  exact afu.2 ⟨i,agi.2 hi,h⟩)
 simpa using this
theorem If {l:List ai}{out:List Int}{many:Nat}{ks:List (List Int)}(P:Part l.length out many)(K:vi l out l.length ks):many+1≤ks.length:=by
 have hn:((af7 (many+1)).map fun v:Nat=>((v:Int)+1)).Nodup:=by
  unfold List.Nodup
  rw [List.pairwise_map]
  exact List.Pairwise.imp (fun h=>by omega) List.nodup_range
 have:=hn.length_le_of_subset (l₂:=ks.map fun k=>k.headD 0) (fun x hx=>by
  obtain⟨v,hv,rfl⟩:=afu.1 hx
  obtain⟨i,hi,h⟩:=P.sur v (by have:=agi.1 hv; omega)
  exact afu.2 ⟨_,(K.mem _).2 ⟨i,hi,rfl⟩,by simp [key,h]⟩)
 simpa using this
theorem Jx {l:List ai}{out next:List Int}{many:Nat}{ks:List (List Int)}(P:Part l.length out many)(K:vi l out l.length ks)(hn:next.length=l.length)(hg:∀i,i<l.length→gt next i=(ks.idxOf (key out (nd l i) i):Int)):Part l.length next (ks.length - 1):=by
 have:=If P K
 refine⟨hn,fun i hi=>?_,fun v hv=>?_⟩
 ·have:=agq ((K.mem _).2 ⟨i,hi,rfl⟩)
  rw [hg i hi]; omega
 ·have hv:v<ks.length:=by omega
  obtain⟨i,hi,h⟩:=(K.mem _).1 (List.getElem_mem hv)
  refine⟨i,hi,?_⟩
  rw [hg i hi,h,K.NL.idxOf_getElem]
theorem MD {m:Nat}(hm:2 ^ 30≤m){l:List ai}(ok:nH l)(Inv:List Int→Prop)
  (hI:∀out many ks next,Part l.length out many→Inv out→vi l out l.length ks→next.length=l.length→(∀i,i<l.length→gt next i=(ks.idxOf (key out (nd l i) i):Int))→Inv next):∀(f:Nat) (out:List Int) (many:Nat),l.length - many<f→many<l.length→Part l.length out many→Inv out→
  ∃r P9 ks,aH.l2 m l f out (many:Int)=some (.inl r)∧Part l.length r P9∧Inv r∧vi l r l.length ks∧ks.length=P9+1
 | 0,out,many,hf,_,_,_=>absurd hf om
 | f+1,out,many,hf,hlt,P,I=>by
  have vX:(2:Nat) ^ 30=1073741824:=by decide
  have h8000:=ok.1
  unfold aH.l2
  have e0:sr 8 (l.length:Int) (0:Int)=some (afh l.length 0):=by unfold sr; rw [if_pos ⟨om,by rw [ae7]; omega⟩,ae7]
  obtain⟨ks,next,x,h1,K,hn,hg⟩:=F9 hm ok P om m 0 [] (afh l.length 0) om om ⟨by simp,fun k=>⟨fun h=>by simp at h,fun ⟨i,hi,_⟩=>absurd hi om⟩⟩ (by simp) (fun i hi=>absurd hi om)
  have h1:aH.l3 m l out m [] (afh l.length 0) 0=_:=h1
  have g1:=O0 K
  have g2:=If P K
  rw [e0,aeZ,h1,aeZ]
  dsimp only
  rw [qY,br (x:=(many:Int)+1) om om,br (x:=(ks.length:Int) - 1) om om]
  by_cases h:ks.length=many+1
  ·rw [if_pos (by simp; omega)]
   exact⟨out,many,ks,rfl,P,I,K,h⟩
  ·rw [if_neg (by simp; omega),show (ks.length:Int) - 1=((ks.length - 1:Nat):Int) by omega]
   exact MD hm ok Inv hI f next (ks.length - 1) om om (Jx P K hn hg) (hI _ _ _ _ P I K hn hg)
def ints (n:Nat):List Int:=(af7 n).map fun k:Nat=>(k:Int)
theorem gk (n:Nat):(ints n).length=n:=by simp [ints]
theorem O1 {n k:Nat}(h:k<n):gt (ints n) k=k:=by
 have h1:=bZ (l:=ints n) (k:=k) (by rw [gk]; exact h)
 have h2:(ints n)[k]? = some (k:Int):=by
  unfold ints
  rw [afv,ae8 (by simpa using h)]
  simp
 rw [h2] at h1; exact (afB h1).symm
theorem lb {n:Nat}{x:Int}:x∈ints n↔0≤x∧x<n:=by
 unfold ints
 rw [afu]
 constructor
 ·rintro⟨k,hk,rfl⟩; have:=agi.1 hk; omega
 ·intro h; exact⟨x.toNat,agi.2 om,om⟩
theorem Ga (n:Nat):(ints n).Nodup:=by
 unfold ints List.Nodup
 rw [List.pairwise_map]
 exact List.Pairwise.imp (fun h=>by omega) List.nodup_range
theorem y8 {l:List Int}(h:l.Nodup){i j:Nat}(hi:i<l.length)(hj:j<l.length)(e:gt l i=gt l j):i=j:=by
 have h1:=bZ hi
 have h2:=bZ hj
 rw [ae8 hi] at h1
 rw [ae8 hj] at h2
 have h1:=afB h1
 have h2:=afB h2
 exact (List.getElem_inj (h₀:=hi) (h₁:=hj) h).1 (by rw [h1,h2,e])
theorem hZ {l:List Int}{x:Int}(h:x∈l):∃k,k<l.length∧gt l k=x:=by
 obtain⟨k,hk,e⟩:=List.getElem_of_mem h
 refine⟨k,hk,?_⟩
 have h1:=bZ hk
 rw [ae8 hk,e] at h1
 exact (afB h1).symm
theorem ME {m:Nat}{z:List Int}(hz:z.length<2 ^ 40):∀(f i:Nat) (d:List Int),z.length - i<f→i≤z.length→d.length=z.length→(∀k,k<i→gt d k=k)→
  ∃x,aH.l0 m z f d (i:Int)=some (ints z.length,x)
 | 0,i,d,hf,_,_,_=>absurd hf om
 | f+1,i,d,hf,hi,hd,hg=>by
  have zo:(2:Nat) ^ 40=1099511627776:=by decide
  unfold aH.l0
  by_cases h:i<z.length
  ·obtain⟨v,hv⟩:∃v,ix d (i:Int)=some v:=⟨_,dR om⟩
   rw [if_pos dm,hv,aeZ,ae7,br om om,show (i:Int)+1=((i+1:Nat):Int) by omega]
   refine ME hz f (i+1) _ om om (by simpa using hd) fun k hk=>?_
   rw [gW om]
   by_cases e:k=i
   ·subst e; rw [if_pos rfl]
   ·rw [if_neg e]; exact hg k om
  ·refine⟨i,?_⟩
   rw [if_neg dm]
   have:d=ints z.length:=F0 (by rw [gk,hd]) fun k hk=>by rw [hg k om,O1 om]
   rw [this]
def rk (l:List ai)(d:List Int):Nat→Nat
 | 0=>0
 | k+1=>rk l d k+if cT (nd l (gt d k)) (nd l (gt d (k+1)))=0 then 0 else 1
theorem MF (l:List ai)(d:List Int):∀k,rk l d k≤k
 | 0=>ae4 _
 | k+1=>by have:=MF l d k; unfold rk; split<;>omega
theorem Cv (l:List ai)(d:List Int)(i:Nat):∀j,i≤j→rk l d i≤rk l d j
 | 0,h=>by
   have:i=0:=by omega
   subst this; exact ae4 _
 | j+1,h=>by
  by_cases e:i=j+1
  ·subst e; exact ae4 _
  ·have:=Cv l d i j om
   show _≤rk l d j+_
   omega
theorem MG (l:List ai)(d:List Int):∀(j v:Nat),v≤rk l d j→∃k,k≤j∧rk l d k=v
 | 0,v,h=>⟨0,ae4 _,by unfold rk at h ⊢; omega⟩
 | j+1,v,h=>by
  by_cases e:v=rk l d (j+1)
  ·exact⟨j+1,ae4 _,e.symm⟩
  ·have h2:rk l d (j+1)≤rk l d j+1:=by show rk l d j+_≤_; split<;>omega
   obtain⟨k,hk,e⟩:=MG l d j v om
   exact⟨k,om,e⟩
theorem MH {m:Nat}(hm:3≤m){l:List ai}{o d:List Int}(hl:l.length≤8000)(ho:o.length=l.length)(hp:d.Perm (ints l.length)):∀(f p:Nat) (out:List Int),l.length - p<f→p≤l.length→out.length=l.length→(∀k,k<p→gt out (gt d k).toNat=rk l d k)→
  ∃Sk x,aH.l1 m l o d f out ((rk l d (p - 1):Nat):Int) (p:Int)=some (Sk,((rk l d (l.length - 1):Nat):Int),x)∧Sk.length=l.length∧∀k,k<l.length→gt Sk (gt d k).toNat=rk l d k
 | 0,p,out,hf,_,_,_=>absurd hf om
 | f+1,p,out,hf,CL,Vy,hg=>by
  have jV:d.length=l.length:=by rw [hp.length_eq,gk]
  have hd:∀k,k<l.length→0≤gt d k∧gt d k<l.length:=fun k hk=>lb.1 (hp.mem_iff.1 (bh om))
  have J2:d.Nodup:=hp.symm.nodup (Ga _)
  unfold aH.l1
  by_cases h:p<l.length
  ·obtain⟨d0,d1⟩:=hd p h
   have Fm:∀k,k<p+1→gt (out.set (gt d p).toNat ((rk l d p:Nat):Int)) (gt d k).toNat=rk l d k:=fun k hk=>by
    rw [gW om]
    by_cases e:k=p
    ·subst e; rw [if_pos rfl]
    ·have:gt d k≠gt d p:=fun h=>e (y8 J2 om om h)
     have:=hd k om
     rw [if_neg om]; exact hg k om
   obtain⟨z,hz⟩:∃z,ix out (gt d p)=some z:=⟨_,iv (k:=(gt d p).toNat) om om⟩
   have e1:i64.wrap ((p:Int)+1)=((p+1:Nat):Int):=by rw [br om om]; omega
   have hr:=MF l d p
   have IH:=MH hm hl ho hp f (p+1) (out.set (gt d p).toNat ((rk l d p:Nat):Int)) om om (by simpa using Vy) Fm
   rw [show p+1 - 1=p by omega] at IH
   rw [if_pos dm,dR om,aeZ]
   by_cases h0:0<p
   ·obtain⟨q,rfl⟩:∃q,p=q+1:=⟨p - 1,om⟩
    obtain⟨q0,q1⟩:=hd q om
    rw [show q+1 - 1=q by omega]
    have e2:i64.wrap (((q+1:Nat):Int) - 1)=(q:Int):=by rw [br om om]; omega
    rw [if_pos dm,e2,dR om,aeZ,kh q0 q1,aeZ,kh d0 d1,aeZ,Ie hm,aeZ,hz,e1]
    by_cases hc:cT (nd l (gt d q)) (nd l (gt d (q+1)))=0
    ·have Za:rk l d (q+1)=rk l d q:=by show rk l d q+_=_; rw [if_pos hc]; omega
     rw [if_neg (by simp [hc]),aeZ]
     rw [Za] at IH; exact IH
    ·have Za:rk l d (q+1)=rk l d q+1:=by show rk l d q+_=_; rw [if_neg hc]
     rw [if_pos (by simpa using hc),aeZ,br om om]
     rw [Za] at IH; exact IH
   ·have:p=0:=by omega
    subst this
    rw [if_neg (by simp),hz,aeZ,e1]
    exact IH
  ·have:p=l.length:=by omega
   subst this
   exact⟨out,_,by rw [if_neg dm],Vy,hg⟩
theorem O2 {m:Nat}(hm:3≤m)(l:List ai):Cm (fun y0 y1=>fy.f m y0 y1 l) (fun x y=>cT (nd l x) (nd l y)) (ints l.length):=fun x hx y hy=>by
 have hx:=lb.1 hx
 have hy:=lb.1 hy
 exact MB hm hx.1 hx.2 hy.1 hy.2
theorem Cw {m:Nat}(hm:2 ^ 41≤m){l:List ai}(ok:nH l)(h1:1≤l.length)(Inv:List Int→Prop)
  (hI0:∀d out,d.Perm (ints l.length)→(Ord (fun x y=>cT (nd l x) (nd l y)) (ints l.length)→Sg (fun x y=>cT (nd l x) (nd l y)) d 0 l.length)→(∀k,k<l.length→gt out (gt d k).toNat=rk l d k)→Inv out)
  (hI:∀out many ks next,Part l.length out many→Inv out→vi l out l.length ks→next.length=l.length→(∀i,i<l.length→gt next i=(ks.idxOf (key out (nd l i) i):Int))→Inv next) :
  ∃r many ks,aH.f m l=some r∧Part l.length r many∧Inv r∧vi l r l.length ks∧ks.length=many+1:=by
 have zo:(2:Nat) ^ 40=1099511627776:=by decide
 have zN:(2:Nat) ^ 41=2199023255552:=by decide
 have vX:(2:Nat) ^ 30=1073741824:=by decide
 have h8000:=ok.1
 have e0:sr 8 (l.length:Int) (0:Int)=some (afh l.length 0):=by unfold sr; rw [if_pos ⟨om,by rw [ae7]; omega⟩,ae7]
 unfold aH.f
 obtain⟨x,k1⟩:=ME (m:=m) (z:=afh l.length 0) (by simp; omega) m 0 (afh l.length 0) (by simp; omega) om rfl (fun k hk=>absurd hk om)
 have k1:aH.l0 m (afh l.length 0) m (afh l.length 0) 0=_:=k1
 rw [afW] at k1
 rw [e0,aeZ,k1,aeZ]
 dsimp only
 obtain⟨d,k2,hp,hs⟩:=Jv hm (l:=ints l.length) (by rw [gk]; omega) (O2 (m:=m) om l)
 rw [k2,aeZ,aeZ]
 obtain⟨out,x,k3,ho,hg⟩:=MH (m:=m) (l:=l) (o:=ints l.length) (d:=d) om h8000 (gk _) hp m 0 (afh l.length 0) om om (by simp) (fun k hk=>absurd hk om)
 have k3:aH.l1 m l (ints l.length) d m (afh l.length 0) 0 0=_:=k3
 rw [k3,aeZ]
 dsimp only
 rw [gk] at hs
 have jV:d.length=l.length:=by rw [hp.length_eq,gk]
 have hP:Part l.length out (rk l d (l.length - 1)):=by
  refine⟨ho,fun i hi=>?_,fun v hv=>?_⟩
  ·obtain⟨k,hk,e⟩:=hZ (hp.mem_iff.2 (lb.2 (show 0≤(i:Int)∧(i:Int)<l.length by omega)))
   have:=hg k om
   rw [e,ae7] at this
   have h2:=Cv l d k (l.length - 1) om
   omega
  ·obtain⟨k,hk,e⟩:=MG l d _ v hv
   have NR:k<l.length:=by omega
   have:=lb.1 (hp.mem_iff.1 (bh (l:=d) (k:=k) om))
   exact⟨(gt d k).toNat,om,by rw [hg k NR,e]⟩
 have Qx:=MF l d (l.length - 1)
 obtain⟨r,many,ks,k4,P,I,K,GL⟩:=MD (m:=m) om ok Inv hI m out (rk l d (l.length - 1)) om om hP (hI0 d out hp hs hg)
 rw [k4]
 exact⟨r,many,ks,rfl,P,I,K,GL⟩
def ot:List Int→Nat→List (Int × Int)
 | [],_=>[]
 | k::ks,s=>(k,(s:Int))::ot ks (s+1)
theorem AJ:∀(ks:List Int) (s:Nat) (k:Int),Dz (ot ks s) k=if k∈ks then (((s+ks.idxOf k:Nat):Int),true) else (0,false)
 | [],s,k=>rfl
 | a::ks,s,k=>by
  simp only [ot,Dz,AJ ks (s+1) k,afq,List.idxOf_cons]
  by_cases h:k=a
  ·subst h; simp
  ·have h':(a==k)=false:=by simpa using fun z:a=k=>h z.symm
   rw [if_neg h,h']
   by_cases h2:k∈ks
   ·simp only [h2,if_true,or_true,cond_false]
    simp only [ae9,and_true]
    omega
   ·simp [h2,h]
theorem AK:∀(ks:List Int) (s:Nat) (k:Int),k∉ks→Ja (ot ks s) k ((s+ks.length:Nat):Int)=ot (ks++[k]) s
 | [],s,k,_=>rfl
 | a::ks,s,k,h=>by
  have h1:k≠a:=fun z=>h (by simp [z])
  have h2:k∉ks:=fun z=>h (by simp [z])
  simp only [ot,Ja,afF,if_neg h1,afc]
  rw [show s+(ks.length+1)=s+1+ks.length by omega,AK ks (s+1) k h2]
def jg (cls:List Int)(a:Int):Int:=gt cls a.toNat
def idx (cls o:List Int)(a:Int):Int:=((o.map (jg cls)).idxOf (jg cls a):Nat)
def Cy (cls:List Int)(l:List ai)(o:List Int)(i:Int):ai:=⟨(nd l i).kind,(nd l i).int,(nd l i).label,(nd l i).args.map (idx cls o)⟩
def y9 (cls:List Int)(l:List ai):Nat→Int→List Int→List Int
 | 0,_,o=>o
 | k+1,i,o=>if jg cls i∈o.map (jg cls) then o else (nd l i).args.foldl (fun o a=>y9 cls l k a o) (o++[i])
structure Vs (cls:List Int)(n:Nat)(o:List Int):Prop where
 NL:(o.map (jg cls)).Nodup
 Cu:∀x∈o,0≤x∧x<n
structure Ps (cls:List Int)(l:List ai)(o o':List Int)(ns Gb:List ai):Prop where
 vs:Vs cls l.length o'
 pre:∃t,o'=o++t
 len:Gb.length=o'.length
 old:∀k,k<o.length→Gb[k]? = ns[k]?
 new:∀k,o.length≤k→k<o'.length→Gb[k]? = some (Cy cls l o' (gt o' k))
 arg:∀k,o.length≤k→k<o'.length→∀a∈(nd l (gt o' k)).args,jg cls a∈o'.map (jg cls)
theorem Vs.Tp {cls:List Int}{n:Nat}{o:List Int}(v:Vs cls n o):o.length≤n:=by
 have hn:o.Nodup:=by
  have:=v.NL
  unfold List.Nodup at this ⊢
  rw [List.pairwise_map] at this
  exact List.Pairwise.imp (fun h e=>h (by rw [e])) this
 have:=hn.length_le_of_subset (l₂:=ints n) (fun x hx=>lb.2 (v.Cu x hx))
 rwa [gk] at this
theorem Ps.refl {cls:List Int}{l:List ai}{o:List Int}{ns:List ai}(v:Vs cls l.length o)(h:ns.length=o.length):Ps cls l o o ns ns:=
 ⟨v,⟨[],by simp⟩,h,fun _ _=>rfl,fun k h1 h2=>by omega,fun k h1 h2=>by omega⟩
theorem kI {a b:List Int}{k:Nat}(h:k<a.length):gt (a++b) k=gt a k:=by
 unfold gt; rw [aff,aff,afm h]
theorem sG {cls o t:List Int}{a:Int}(h:jg cls a∈o.map (jg cls)):idx cls (o++t) a=idx cls o a:=by
 unfold idx; rw [afo,agn,if_pos h]
theorem Ep {cls:List Int}{l:List ai}{o t:List Int}{i:Int}(h:∀a∈(nd l i).args,jg cls a∈o.map (jg cls)):Cy cls l (o++t) i=Cy cls l o i:=by
 unfold Cy
 congr 1
 exact agr fun a ha=>sG (h a ha)
theorem Ps.trans {cls:List Int}{l:List ai}{o o1 o2:List Int}{ns n1 n2:List ai}(a:Ps cls l o o1 ns n1)(b:Ps cls l o1 o2 n1 n2):Ps cls l o o2 ns n2:=by
 obtain⟨t1,rfl⟩:=a.pre
 obtain⟨t2,rfl⟩:=b.pre
 have hl:(o++t1).length=o.length+t1.length:=by simp
 refine⟨b.vs,⟨t1++t2,by simp⟩,b.len,fun k hk=>(b.old k om).trans (a.old k hk),fun k h1 h2=>?_,fun k h1 h2 x hx=>?_⟩
 ·by_cases h:k<(o++t1).length
  ·rw [b.old k h,a.new k h1 h,kI h,Ep (a.arg k h1 h)]
  ·exact b.new k om h2
 ·by_cases h:k<(o++t1).length
  ·rw [kI h] at hx
   rw [afo]
   exact afE _ (a.arg k h1 h x hx)
  ·exact b.arg k om h2 x hx
section
variable {m:Nat}{cls:List Int}{l:List ai}{root:Int}
abbrev Vz:=Int→(List (Int × Int))→(List Int)→bm→bm→Option (Int × (List (Int × Int)) × bm)
def Qa (cls:List Int)(l:List ai)(root:Int)(rec:Vz)(df:Int→List Int→List Int)(need:Nat):Prop:=∀(i:Int) (o:List Int) (ns:List ai),0≤i→i<l.length→Vs cls l.length o→ns.length=o.length→l.length<need+o.length→
 ∃Gb,rec i (ot (o.map (jg cls)) 0) cls ⟨ns,0⟩ ⟨l,root⟩=some (idx cls (df i o) i,ot ((df i o).map (jg cls)) 0,⟨Gb,0⟩)∧Ps cls l o (df i o) ns Gb∧jg cls i∈(df i o).map (jg cls)
theorem MI {rec:Vz}{df:Int→List Int→List Int}{need:Nat}(hm:2 ^ 30≤m)(ok:nH l)(V:Qa cls l root rec df need){v:ai}(h8:v.args.length≤8)(ha:∀a∈v.args,0≤a∧a<l.length){o0:List Int}{ns0:List ai}(VA:l.length<need+o0.length):∀(f t:Nat) (o:List Int) (ns:List ai),v.args.length - t<f→t≤v.args.length→Ps cls l o0 o ns0 ns→(∀a∈v.args.take t,jg cls a∈o.map (jg cls))→
  ∃o' Gb x,o'=(v.args.drop t).foldl (fun o a=>df a o) o∧bq.l0 m cls ⟨l,root⟩ rec v f ((v.args.take t).map (idx cls o)) (t:Int) (ot (o.map (jg cls)) 0) ⟨ns,0⟩=some (v.args.map (idx cls o'),x,ot (o'.map (jg cls)) 0,⟨Gb,0⟩)∧Ps cls l o0 o' ns0 Gb∧∀a∈v.args,jg cls a∈o'.map (jg cls)
 | 0,t,o,ns,hf,_,_,_=>absurd hf om
 | f+1,t,o,ns,hf,ht,P,hin=>by
  have vX:(2:Nat) ^ 30=1073741824:=by decide
  unfold bq.l0
  by_cases h:t<v.args.length
  ·obtain⟨b0,b1⟩:=ha _ (bh h)
   have ho0:o0.length≤o.length:=by obtain⟨s,rfl⟩:=P.pre; simp
   obtain⟨ns1,k1,P1,V8⟩:=V (gt v.args t) o ns b0 b1 P.vs P.len om
   obtain⟨s,hs⟩:=P1.pre
   have hT1:v.args.take (t+1)=v.args.take t++[gt v.args t]:=by rw [agm,bZ h]; rfl
   have hD:v.args.drop t=gt v.args t::v.args.drop (t+1):=by
    obtain⟨h4,h5⟩:=ae5.1 (bZ h)
    rw [←h5]; exact afe h4
   have Zb:∀a∈v.args.take (t+1),jg cls a∈(df (gt v.args t) o).map (jg cls):=fun a ha=>by
    rw [hT1] at ha
    rcases afk.1 ha with ha | ha
    ·rw [hs,afo]; exact afE _ (hin a ha)
    ·simp only [afd] at ha; subst ha; exact V8
   obtain⟨o',Gb,x,e,k2,P2,h2⟩:=MI hm ok V h8 ha VA f (t+1) (df (gt v.args t) o) ns1 om om (P.trans P1) Zb
   refine⟨o',Gb,x,by rw [hD]; exact e,?_,P2,h2⟩
   have e1:i64.wrap ((t:Int)+1)=((t+1:Nat):Int):=by rw [br om om]; omega
   have vK:app 8 ((v.args.take t).map (idx cls o)) [idx cls (df (gt v.args t) o) (gt v.args t)]=some ((v.args.take (t+1)).map (idx cls (df (gt v.args t) o))):=by
    unfold app
    rw [if_pos (by simp; omega),hT1,afo]
    congr 2
    exact agr fun a ha=>by rw [hs]; exact (sG (hin a ha)).symm
   rw [if_pos dm,dR h,aeZ,k1,aeZ,vK,aeZ,e1]
   exact k2
  ·have:t=v.args.length:=by omega
   subst this
   rw [afS] at hin ⊢
   exact⟨o,ns,_,by rw [List.drop_length]; rfl,by rw [if_neg (by simp)],P,hin⟩
theorem za (hm:2 ^ 30≤m)(ok:nH l)(hc:cls.length=l.length):∀k,Qa cls l root (bq.f m k) (y9 cls l k) k
 | 0=>fun i o ns h0 h1 v hl hn=>absurd v.Tp om
 | k+1=>fun i o ns h0 h1 v hl hn=>by
  have vX:(2:Nat) ^ 30=1073741824:=by decide
  have h8000:=ok.1
  have VB:=v.Tp
  show ∃Gb,bq.b m (bq.f m k) i (ot (o.map (jg cls)) 0) cls ⟨ns,0⟩ ⟨l,root⟩=_∧_
  unfold bq.b
  have hx:ix cls i=some (jg cls i):=iv om om
  rw [hx,aeZ,AJ,aft]
  by_cases h:jg cls i∈o.map (jg cls)
  ·have hd:y9 cls l (k+1) i o=o:=by unfold y9; rw [if_pos h]
   rw [hd,if_pos h]
   exact⟨ns,rfl,Ps.refl v hl,h⟩
  ·have hd:y9 cls l (k+1) i o=(nd l i).args.foldl (fun o a=>y9 cls l k a o) (o++[i]):=by
    show (if jg cls i∈o.map (jg cls) then o else (nd l i).args.foldl (fun o a=>y9 cls l k a o) (o++[i]))=_
    rw [if_neg h]
   have v1:Vs cls l.length (o++[i]):=by
    refine⟨?_,fun x hx=>?_⟩
    ·rw [afo,ago]
     refine⟨v.NL,by simp,fun a ha b hb=>?_⟩
     simp only [afs,agt,afd] at hb
     subst hb; intro e; subst e; exact h ha
    ·rcases afk.1 hx with hx | hx
     ·exact v.Cu x hx
     ·simp only [afd] at hx; subst hx; exact⟨h0,h1⟩
   have MJ:=v1.Tp
   simp only [afb,afc,afi] at MJ
   have vK:app 56 ns [(⟨(nd l i).kind,(nd l i).int,(nd l i).label,[]⟩:ai)]=some (ns++[⟨(nd l i).kind,(nd l i).int,(nd l i).label,[]⟩]):=by
    unfold app; rw [if_pos (by simp; omega)]
   have TZ:Ja (ot (o.map (jg cls)) 0) (jg cls i) ((ns.length:Nat):Int)=ot ((o++[i]).map (jg cls)) 0:=by
    have:=AK (o.map (jg cls)) 0 (jg cls i) h
    rw [aft,afl,←hl] at this
    rw [this,afo]; rfl
   obtain⟨n1,n2⟩:=ok.2 _ (jd h0 h1)
   have P0:Ps cls l (o++[i]) (o++[i]) (ns++[⟨(nd l i).kind,(nd l i).int,(nd l i).label,[]⟩]) (ns++[⟨(nd l i).kind,(nd l i).int,(nd l i).label,[]⟩]):=Ps.refl v1 (by simp [hl])
   obtain⟨o',Gb,x,e,k2,P2,h2⟩:=MI (m:=m) (v:=nd l i) (need:=k) hm ok (za hm ok hc k) n1 n2 (o0:=o++[i]) (by simp; omega) m 0 (o++[i]) _ om om P0 (fun a ha=>by simp at ha)
   rw [afw] at e
   rw [List.take_zero,agt] at k2
   have k2:bq.l0 m cls ⟨l,root⟩ (bq.f m k) (nd l i) m [] 0 _ _=_:=k2
   obtain⟨s,hs⟩:=P2.pre
   have NY:o.length<o'.length:=by rw [hs]; simp
   have VC:Gb[o.length]? = some ⟨(nd l i).kind,(nd l i).int,(nd l i).label,[]⟩:=by
    rw [P2.old _ (by simp),←hl,afg (ae4 _),aga]; rfl
   have Vx:ix Gb ((ns.length:Nat):Int)=some ⟨(nd l i).kind,(nd l i).int,(nd l i).label,[]⟩:=by
    unfold ix; rw [if_pos om,ae7,hl,VC]
   have hgt:gt o' o.length=i:=by
    rw [hs,kI (by simp)]
    unfold gt; rw [aff,afg (ae4 _),aga]; rfl
   have Zc:idx cls o' i=(o.length:Nat):=by
    rw [hs,sG (by simp)]
    unfold idx
    rw [afo,agn,if_neg h]; simp
   rw [hd,←e,if_neg h,if_neg (by simp),aeZ,kh h0 h1,aeZ,vK,aeZ,TZ,k2,aeZ]
   dsimp only
   rw [Vx,aeZ,ae7,Zc,hl]
   refine⟨_,rfl,⟨P2.vs,⟨[i]++s,by rw [hs]; simp⟩,by simpa using P2.len,fun q hq=>?_,fun q h3 h4=>?_,fun q h3 h4 a ha=>?_⟩,by rw [hs]; simp⟩
   ·rw [List.getElem?_set_ne om,P2.old q (by simp; omega),afm om]
   ·by_cases hq:q=o.length
    ·subst hq
     rw [List.getElem?_set_self (by rw [P2.len]; omega),hgt]; rfl
    ·rw [List.getElem?_set_ne om]
     exact P2.new q (by simp; omega) h4
   ·by_cases hq:q=o.length
    ·subst hq; rw [hgt] at ha; exact h2 a ha
    ·exact P2.arg q (by simp; omega) h4 a ha
end
theorem Gc {m:Nat}(hm:2 ^ 41≤m){t:bm}(ok:nH t.nodes)(h1:1≤t.nodes.length)(r0:0≤t.root)(r1:t.root<t.nodes.length)(Inv:List Int→Prop)
  (hI0:∀d out,d.Perm (ints t.nodes.length)→(Ord (fun x y=>cT (nd t.nodes x) (nd t.nodes y)) (ints t.nodes.length)→Sg (fun x y=>cT (nd t.nodes x) (nd t.nodes y)) d 0 t.nodes.length)→(∀k,k<t.nodes.length→gt out (gt d k).toNat=rk t.nodes d k)→Inv out)
  (hI:∀out many ks next,Part t.nodes.length out many→Inv out→vi t.nodes out t.nodes.length ks→next.length=t.nodes.length→(∀i,i<t.nodes.length→gt next i=(ks.idxOf (key out (nd t.nodes i) i):Int))→Inv next) :
  ∃cls many ks ns,gV.f m t=some ⟨ns,0⟩∧Part t.nodes.length cls many∧Inv cls∧vi t.nodes cls t.nodes.length ks∧ks.length=many+1∧Ps cls t.nodes [] (y9 cls t.nodes m t.root []) [] ns∧jg cls t.root∈(y9 cls t.nodes m t.root []).map (jg cls):=by
 have vX:(2:Nat) ^ 30=1073741824:=by decide
 have zN:(2:Nat) ^ 41=2199023255552:=by decide
 have h8000:=ok.1
 obtain⟨cls,many,ks,k1,P,I,K,GL⟩:=Cw hm ok h1 Inv hI0 hI
 obtain⟨ns,k2,P2,h2⟩:=za (m:=m) (root:=t.root) om ok P.len m t.root [] [] r0 r1 ⟨by simp,fun x hx=>by simp at hx⟩ rfl (by simp; omega)
 refine⟨cls,many,ks,ns,?_,P,I,K,GL,P2,h2⟩
 unfold gV.f
 have k2:bq.f m m t.root [] cls ⟨[],0⟩ t=_:=k2
 rw [k1,aeZ,k2]; rfl
theorem MK {s:ByteArray}(h:(s.data.toList==[])=true):s=afC #[]:=by
 have h:=beq_iff_eq.1 h
 cases s with
 | mk d=>
  cases d with
  | mk l=>simp only at h; subst h; rfl
theorem Wm {l:List Int}(h:l.isEmpty=true):l=[]:=by cases l with | nil=>rfl | cons=>cases h
structure VD (n:ai):Prop where
 kind:n.kind=0∧0≤n.int∧n.label=afC #[]∧n.args=[]∨n.kind=1∧(-1099511627776≤n.int∧n.int≤1099511627776)∧n.label=afC #[]∧n.args=[]∨n.kind=2∧n.int=0∧n.args=[]∨n.kind=3∧n.int=0∨n.kind=4∧n.args=[]
 label:n.kind=2∨n.kind=3→1≤n.label.size∧n.label.size≤16
 args:n.args.length≤8
theorem jq {n:ai}{size:Int}(h:dt n size=true):VD n∧∀a∈n.args,0≤a∧a<size:=by
 unfold dt at h
 split at h
 ·rename_i k
  simp only [ae3,decide_eq_true_eq] at h
  have ha:=Wm h.2
  exact⟨⟨.inl ⟨k,h.1.1,MK h.1.2,ha⟩,fun z=>by omega,by rw [ha]; decide⟩,fun a h=>by rw [ha] at h; cases h⟩
 split at h
 ·rename_i k
  simp only [ae3,decide_eq_true_eq] at h
  have ha:=Wm h.2
  exact⟨⟨.inr (.inl ⟨k,h.1.1,MK h.1.2,ha⟩),fun z=>by omega,by rw [ha]; decide⟩,fun a h=>by rw [ha] at h; cases h⟩
 split at h
 ·rename_i k
  simp only [ae3,beq_iff_eq] at h
  have ha:=Wm h.2
  exact⟨⟨.inr (.inr (.inl ⟨k,h.1.1,ha⟩)),fun z=>AG h.1.2,by rw [ha]; decide⟩,fun a h=>by rw [ha] at h; cases h⟩
 split at h
 ·rename_i k
  simp only [ae3,beq_iff_eq,decide_eq_true_eq,afr] at h
  exact⟨⟨.inr (.inr (.inr (.inl ⟨k,h.1.1.1.1⟩))),fun z=>AG h.1.1.1.2,h.1.2⟩,h.2⟩
 split at h
 ·rename_i k
  simp only [ae3,decide_eq_true_eq] at h
  have ha:=Wm h.2
  exact⟨⟨.inr (.inr (.inr (.inr ⟨k,ha⟩))),fun z=>by omega,by rw [ha]; decide⟩,fun a h=>by rw [ha] at h; cases h⟩
 ·cases h
theorem rD {t:bm}(h:jw t=true):nH t.nodes∧1≤t.nodes.length∧0≤t.root∧t.root<t.nodes.length∧∀n∈t.nodes,VD n:=by
 unfold jw at h
 simp only [ae3,decide_eq_true_eq,afr] at h
 obtain⟨⟨⟨⟨h1,h2⟩,h3⟩,h4⟩,h5⟩:=h
 exact⟨⟨h2,fun n hn=>⟨(jq (h5 n hn)).1.args,(jq (h5 n hn)).2⟩⟩,h1,h3,h4,fun n hn=>(jq (h5 n hn)).1⟩
end Go.Proofs.YtifafejidnjckaaGreat
namespace Go.Proofs.YtifafejidnjckaaGreat
open Go Go.R Go.Uf
open Go.IntKind (i64 u64 u8 u32)
section
variable {m:Nat}{s s':ab}
theorem vj {f:Int→Option Bool}{g:Int→Bool}(l:List Int)(hl:l.length≤1000000)(hf:∀x∈l,f x=some (g x)):∀(k:Nat) (s1:List Int) (i j:Nat),i≤j→i<l.length→j≤l.length→l.length - j<k→s1.length=l.length→s1.take i=(l.take j).filter (fun x=>!g x)→s1.drop j=l.drop j→
  ∃(s2:List Int) (i2:Nat) (z:Int),fw.l0 m l f k s1 (i:Int) (j:Int)=some (s2,(i2:Int),z)∧i2≤l.length∧s2.length=l.length∧s2.take i2=l.filter (fun x=>!g x)
 | 0,s1,i,j,h1,_,h2,h3,_,_,_=>by omega
 | k+1,s1,i,j,h1,h0,h2,h3,h4,h5,h6=>by
  simp only [fw.l0]
  by_cases hj:j<l.length
  ·have d:decide ((j:Int)<(l.length:Int))=true:=by rw [decide_eq_true_eq]; omega
   have el:=ae8 hj
   have e1:s1[j]? = some l[j]:=by
    have:=congrArg (fun z=>z[0]?) h6
    simp only [List.getElem?_drop,agz] at this
    rw [this,el]
   have et:l.take (j+1)=l.take j++[l[j]]:=(afM hj)
   have Zd:i64.wrap ((j:Int)+1)=((j+1:Nat):Int):=by rw [mf om om]; omega
   have ewi:i64.wrap ((i:Int)+1)=((i+1:Nat):Int):=by rw [mf om om]; omega
   have hd:∀s3:List Int,s3.drop j=l.drop j→s3.drop (j+1)=l.drop (j+1):=fun s3 h=>by
    rw [agF,←List.drop_drop,←List.drop_drop] at *
    rw [agF] at *
    have a1:(s3.drop j).drop 1=(l.drop j).drop 1:=by rw [h]
    simpa [List.drop_drop,agF] using a1
   rw [if_pos d,CS e1]
   simp only [aeZ,hf _ (afj el),Zd,ewi]
   cases hg:g l[j] with
   | true=>
    rw [if_neg (by decide)]
    exact vj l hl hf k s1 i (j+1) om h0 om om h4 (by rw [et,List.filter_append,h5]; simp [hg]) (hd s1 h6)
   | false=>
    rw [if_pos (by decide)]
    have i1:i<s1.length:=by omega
    have e2:=ae8 i1
    rw [CS e2,aeZ,ae7]
    by_cases hi:i+1<l.length
    ·refine vj l hl hf k (s1.set i l[j]) (i+1) (j+1) om hi om om (by rw [afJ,h4]) ?_ ?_
     ·rw [et,List.filter_append,←h5]
      have:(s1.set i l[j]).take (i+1)=s1.take i++[l[j]]:=by
       rw [afM (by rw [afJ]; exact i1)]
       rw [List.take_set_of_le (ae4 _),List.getElem_set_self]
      rw [this]; simp [hg]
     ·rw [List.drop_set_of_lt om]
      exact hd s1 h6
    ·
     have Fv:j+1=l.length:=by omega
     have CN:i=j:=by omega
     cases k with
     | zero=>omega
     | succ k=>
      simp only [fw.l0]
      have d2:decide (((j+1:Nat):Int)<(l.length:Int))=false:=by rw [decide_eq_false_iff_not]; omega
      rw [if_neg (by rw [d2]; decide)]
      refine⟨_,i+1,_,rfl,om,by rw [afJ,h4],?_⟩
      have:(s1.set i l[j]).take (i+1)=s1.take i++[l[j]]:=by
       rw [afM (by rw [afJ]; exact i1)]
       rw [List.take_set_of_le (ae4 _),List.getElem_set_self]
      have VE:l=l.take j++[l[j]]:=by rw [←et,Fv,afS]
      rw [this,h5]
      conv=>rhs; rw [VE]
      rw [List.filter_append]; simp [hg]
  ·have d:decide ((j:Int)<(l.length:Int))=false:=by rw [decide_eq_false_iff_not]; omega
   rw [if_neg (by rw [d]; decide)]
   have Fv:j=l.length:=by omega
   refine⟨_,i,_,rfl,om,h4,?_⟩
   rw [h5,Fv,afS]
theorem ML {f:Int→Option Bool}{g:Int→Bool}(hm:2000000≤m)(l:List Int)(hl:l.length≤1000000)(hf:∀x∈l,f x=some (g x)):fw.f m l f=some (l.filter fun x=>!g x):=by
 unfold fw.f
 rcases Ia hm l hl hf with⟨j,e,j1,j2,j3⟩| ⟨e,h⟩
 ·rw [e,aeZ]
  have hne:((j:Int) == -1)=false:=by rw [beq_eq_false_iff_ne]; omega
  have Zd:i64.wrap ((j:Int)+1)=((j+1:Nat):Int):=by rw [mf om om]; omega
  have el:=ae8 j1
  obtain⟨s2,i2,z,e2,g1,g2,g3⟩:=vj (m:=m) l hl hf m l j (j+1) om j1 om om rfl (by
   rw [afM j1,List.filter_append]
   have:(l.take j).filter (fun x=>!g x)=l.take j:=by
    rw [List.filter_eq_self]
    intro x hx
    obtain⟨q,hq⟩:=af4 hx
    have Y7:q<j:=by
     have:=(ae5.1 hq).1
     rw [afO] at this; omega
    rw [List.getElem?_take_of_lt Y7] at hq
    rw [j3 q Y7 x hq]; rfl
   rw [this]; simp [j2 _ el]) rfl
  rw [hne,if_neg (by decide),Zd,e2]
  simp only [aeZ]
  have hc:SY s2 (i2:Int)=some (s2.take i2++afh (s2.length - i2) 0):=by
   unfold SY; rw [if_pos ⟨af5 _,om⟩,ae7]
  rw [hc,aeZ]
  have hs:KL (s2.take i2++afh (s2.length - i2) 0) 0 (i2:Int)=some (s2.take i2):=by
   unfold KL
   rw [if_pos ⟨Int.le_refl _,af5 _,by rw [afb,afO,afW]; omega⟩]
   congr 1
   simp only [ae7,Int.toNat_zero,afw,Nat.sub_zero]
   rw [afy (by rw [afO]; omega),List.take_take,Nat.min_self]
  rw [hs,g3]; rfl
 ·rw [e,aeZ]
  have hb:((-1:Int) == -1)=true:=rfl
  rw [hb,if_pos rfl]
  congr 1
  rw [eq_comm,List.filter_eq_self]
  intro x hx; rw [h x hx]; rfl
def MM (N:List ai)(l:List Int):List Int:=kG (l.filter fun n=>(fJ N n).kind==0)
theorem Ig (hm:2000000≤m){l:List Int}(hl:l.length≤8000)(hr:∀n∈l,Rg s.aa.length n):dP.f m s l=some (MM s.aa l):=by
 unfold dP.f
 have h1:sr 8 (l.length:Int) (0:Int)=some (afh l.length 0):=by
  unfold sr; rw [if_pos ⟨af5 _,by rw [ae7]; omega⟩,ae7]
 have h2:Ut (afh l.length (0:Int)) l=some l:=by
  unfold Ut; rw [if_pos (by rw [afW]; exact ae4 _)]; simp
 rw [h1,aeZ,h2,aeZ]
 rw [ML hm l om (g:=fun n=>!((fJ s.aa n).kind==0)) (fun x hx=>by simp only [eF.f,FY (hr x hx),aeZ])]
 simp only [aeZ,Bool.not_not]
 rfl
theorem MN (hm:2000000≤m)(v:Inv s)(c:Cl s.aa (rp s.an)){a b:Int}(ha:Rg s.aa.length a)(hb:Rg s.aa.length b) :
  ∃l ok s',aN.f m s a b=some (l,ok,s')∧H6 s s' l∧Inv s'∧l.length≤8000∧
   (ok=false→∀T,Cl s.aa T→gO s.aa (rp s.an) T→T a=T b→False)∧
   (ok=true→Cl s.aa (rp s'.an)∧gO s.aa (rp s.an) (rp s'.an)∧rp s'.an a=rp s'.an b∧∀T,Cl s.aa T→gO s.aa (rp s.an) T→T a=T b→gO s.aa (rp s'.an) T):=by
 have n1:=Ck s.an
 have n2:=v.len
 have n3:=v.max
 obtain⟨out,e1,e2⟩:=vh (m:=m) om m s [] [⟨a,b⟩] 0 (by simp) (by simp only [afc,afi]; omega) (by simp only [afc,afi]; omega) (by simp) v
  (fun p hp=>by simp only [afd] at hp; subst hp; exact⟨ha,hb⟩) (by
   rw [afw]; exact H4 c v.args)
 have e1:aN.l0 m m [] [⟨a,b⟩] 0 s=some out:=e1
 unfold aN.f
 rw [e1,aeZ]
 match out,e2 with
 | .inl (Mi,b',s'),⟨zi,l,e,u,v',hl,hT⟩=>
  subst zi
  rw [afz] at e hl
  subst e
  exact⟨Mi,false,s',rfl,u,v',hl,fun _ T cT sT pT=>hT T cT sT fun p hp=>by
   simp only [afw,afs,agt,afd] at hp; subst hp; exact pT,fun h=>by cases h⟩
 | .inr (Mi,Ef,i',s'),⟨l,e,u,v',hl,hc,hs,hq,hT⟩=>
  rw [afz] at e hl
  subst e
  exact⟨Mi,true,s',rfl,u,v',hl,(fun h=>by cases h),fun _=>⟨hc,hs,hq (a,b) (by simp [CT]),fun T cT sT pT=>hT T cT sT fun p hp=>by
   simp only [afw,afs,agt,afd] at hp; subst hp; exact pT⟩⟩
def VNs (N:List ai):Prop:=∀n,Rg N.length n→dt (fJ N n) N.length=true∧((fJ N n).kind=0→(fJ N n).int=n)
structure Inv2 (s:ab):Prop where
 inv:Inv s
 cl:Cl s.aa (rp s.an)
 vn:VNs s.aa
def qZ (s:ab)(l:List Int):Bool:=l.all fun n=>decide (Rg s.aa.length n)
theorem Gd {a b:Int}(h:qZ s [a,b]=true):Rg s.aa.length a∧Rg s.aa.length b:=by
 simpa [qZ] using h
end
end Go.Proofs.YtifafejidnjckaaGreat
namespace Go.Proofs.YtifafejidnjckaaGreat
open Go Go.R
open Go.IntKind (i64 u64 u8 u32)
theorem zb:∀(x:List UInt8),Op.bytesLess x x=false
 | []=>rfl
 | a::x=>by simp [Op.bytesLess,zb x]
theorem Cz:∀(x y:List UInt8),Op.bytesLess x y=true→Op.bytesLess y x=false
 | _,[],h=>by cases ‹List UInt8›<;>simp [Op.bytesLess] at h
 | [],b::y,_=>rfl
 | a::x,b::y,h=>by
  simp only [Op.bytesLess,afR,ae3,decide_eq_true_eq,beq_iff_eq] at h
  simp only [Op.bytesLess,Bool.or_eq_false_iff,Bool.and_eq_false_iff,decide_eq_false_iff_not,beq_eq_false_iff_ne]
  rcases h with h | ⟨rfl,h⟩
  ·refine⟨fun h2=>?_,.inl fun e=>?_⟩
   ·rw [agw] at h h2; omega
   ·subst e; rw [agw] at h; omega
  ·exact⟨by rw [agw]; omega,.inr (Cz x y h)⟩
theorem MO:∀(x y:List UInt8),Op.bytesLess x y=true∨x=y∨Op.bytesLess y x=true
 | [],[]=>.inr (.inl rfl)
 | [],b::y=>.inl rfl
 | a::x,[]=>.inr (.inr rfl)
 | a::x,b::y=>by
  simp only [Op.bytesLess,afR,ae3,decide_eq_true_eq,beq_iff_eq,List.cons.injEq]
  rcases Nat.lt_trichotomy a.toNat b.toNat with h | h | h
  ·exact .inl (.inl (agw.2 h))
  ·have:a=b:=UInt8.toNat_inj.1 h
   subst this
   rcases MO x y with h1 | h1 | h1
   ·exact .inl (.inr ⟨rfl,h1⟩)
   ·exact .inr (.inl ⟨rfl,h1⟩)
   ·exact .inr (.inr (.inr ⟨rfl,h1⟩))
  ·exact .inr (.inr (.inl (agw.2 h)))
theorem Er:∀(x y z:List UInt8),Op.bytesLess x y=true→Op.bytesLess y z=true→Op.bytesLess x z=true
 | _,_,[],_,h=>by cases ‹List UInt8›<;>simp [Op.bytesLess] at h
 | _,[],c::z,h,_=>by cases ‹List UInt8›<;>simp [Op.bytesLess] at h
 | [],b::y,c::z,_,_=>rfl
 | a::x,b::y,c::z,h1,h2=>by
  simp only [Op.bytesLess,afR,ae3,decide_eq_true_eq,beq_iff_eq] at h1 h2 ⊢
  rcases h1 with h1 | ⟨rfl,h1⟩
  ·rcases h2 with h2 | ⟨rfl,h2⟩
   ·left; rw [agw] at *; omega
   ·exact .inl h1
  ·rcases h2 with h2 | ⟨rfl,h2⟩
   ·exact .inl h2
   ·exact .inr ⟨rfl,Er x y z h1 h2⟩
theorem Ge {x y:ByteArray}(h:x.data.toList=y.data.toList):x=y:=by
 cases x with | mk a=>cases y with | mk b=>cases a; cases b; simp only at h; subst h; rfl
structure Sm {α:Type}(c:α→α→Int):Prop where
 zero:∀x y,c x y=0→x=y
 refl:∀x,c x x=0
 neg:∀x y,c y x = - c x y
 tr:∀x y z,c x y≤0→c y z≤0→c x z≤0
theorem q6:Sm cI:=by
 refine⟨fun x y h=>?_,fun x=>?_,fun x y=>?_,fun x y z h1 h2=>?_⟩
 ·unfold cI at h; split at h
  ·omega
  ·split at h<;>omega
 ·unfold cI; simp
 ·unfold cI; split<;>split<;>(try split)<;>omega
 ·unfold cI at *
  split at h1<;>split at h2<;>(try split at h1)<;>(try split at h2)<;>(try omega)<;>split<;>(try split)<;>omega
theorem Es (x y:ByteArray):cS x y=if Op.bytesLess x.data.toList y.data.toList=true then -1 else if x=y then 0 else 1:=by
 unfold cS KT
 cases h:Op.bytesLess x.data.toList y.data.toList with
 | true=>rfl
 | false=>
  simp only [Bool.false_or,afa,if_false]
  by_cases e:x=y
  ·subst e; simp
  ·rw [if_neg e]
   have:(x.data.toList==y.data.toList)=false:=by
    rw [beq_eq_false_iff_ne]; exact fun h=>e (Ge h)
   rw [this]; rfl
theorem MP:Sm cS:=by
 refine⟨fun x y h=>?_,fun x=>?_,fun x y=>?_,fun x y z h1 h2=>?_⟩
 ·rw [Es] at h
  split at h
  ·omega
  ·split at h
   ·assumption
   ·omega
 ·rw [Es,zb]; simp
 ·rw [Es,Es]
  rcases MO x.data.toList y.data.toList with h | h | h
  ·have h2:=Cz _ _ h
   have hne:¬y=x:=fun e=>by subst e; rw [zb] at h; cases h
   rw [if_pos h,h2]; simp [hne]
  ·have:=Ge h
   subst this
   rw [zb]; simp
  ·have h2:=Cz _ _ h
   have hne:¬x=y:=fun e=>by subst e; rw [zb] at h; cases h
   rw [if_pos h,h2]; simp [hne]
 ·rw [Es] at h1 h2 ⊢
  split at h1
  ·rename_i g1
   split at h2
   ·rename_i g2
    rw [if_pos (Er _ _ _ g1 g2)]; omega
   ·split at h2
    ·rename_i e; subst e; rw [if_pos g1]; omega
    ·omega
  ·split at h1
   ·rename_i e; subst e
    split at h2
    ·rename_i g2; rw [if_pos g2]; omega
    ·split at h2
     ·rename_i g e; rw [if_neg g,if_pos e]; omega
     ·omega
   ·omega
theorem MQ {α β:Type}{c:α→α→Int}{d:β→β→Int}(C:Sm c)(D:Sm d):Sm fun (p q:α × β)=>Jw (c p.1 q.1) (d p.2 q.2):=by
 refine⟨fun x y h=>?_,fun x=>?_,fun x y=>?_,fun x y z h1 h2=>?_⟩
 ·unfold Jw at h
  split at h
  ·rename_i h1; exact Prod.ext (C.zero _ _ h1) (D.zero _ _ h)
  ·exact absurd h ‹_›
 ·unfold Jw; rw [C.refl,if_pos rfl,D.refl]
 ·skip
  unfold Jw
  have:=C.neg x.1 y.1
  by_cases h:c x.1 y.1=0
  ·rw [if_pos h,if_pos om,D.neg]
  ·rw [if_neg h,if_neg om,C.neg]
 ·skip
  unfold Jw at *
  by_cases a:c x.1 y.1=0
  ·rw [if_pos a] at h1
   have e:=C.zero _ _ a
   rw [←e] at h2
   by_cases b:c x.1 z.1=0
   ·rw [if_pos b] at h2 ⊢; exact D.tr _ _ _ h1 h2
   ·rw [if_neg b] at h2 ⊢; exact h2
  ·rw [if_neg a] at h1
   have hz:c x.1 z.1≤0:=by
    by_cases b:c y.1 z.1=0
    ·rw [←C.zero _ _ b]; exact h1
    ·rw [if_neg b] at h2; exact C.tr _ _ _ h1 h2
   have hne:c x.1 z.1≠0:=fun e=>by
    have e1:=C.zero _ _ e
    by_cases b:c y.1 z.1=0
    ·have e2:=C.zero _ _ b; rw [e1,←e2] at a; exact a (C.refl _)
    ·rw [if_neg b,←e1] at h2
     have:=C.neg x.1 y.1; omega
   rw [if_neg hne]; exact hz
theorem Ih:Sm fun (p q:Int × ByteArray)=>Jw (cI p.1 q.1) (cS p.2 q.2):=MQ q6 MP
theorem Ii:Sm fun (p q:ByteArray × Int)=>Jw (cS p.1 q.1) (cI p.2 q.2):=MQ MP q6
theorem po {a b:ai}(h:a.kind=b.kind):cT a b=if a.kind=3 then Jw (cI a.args.length b.args.length) (cS a.label b.label) else Jw (cS a.label b.label) (cI a.int b.int):=by unfold cT; rw [if_pos h]
theorem mg {a b:ai}(h:a.kind≠b.kind):cT a b=cI a.kind b.kind:=by unfold cT; rw [if_neg h]
theorem lD (a b:ai):cT b a = - cT a b:=by
 by_cases h:a.kind=b.kind
 ·rw [po h,po h.symm,←h]
  split
  ·exact Ih.neg ((a.args.length:Int),a.label) ((b.args.length:Int),b.label)
  ·exact Ii.neg (a.label,a.int) (b.label,b.int)
 ·rw [mg h,mg (Ne.symm h)]; exact q6.neg _ _
theorem Et (a b c:ai)(h1:cT a b≤0)(h2:cT b c≤0):cT a c≤0:=by
 by_cases e1:a.kind=b.kind
 ·by_cases e2:b.kind=c.kind
  ·rw [po e1] at h1
   rw [po e2,←e1] at h2
   rw [po (e1.trans e2)]
   split
   ·rename_i h3; rw [if_pos h3] at h1 h2
    exact Ih.tr ((a.args.length:Int),a.label) ((b.args.length:Int),b.label) ((c.args.length:Int),c.label) h1 h2
   ·rename_i h3; rw [if_neg h3] at h1 h2
    exact Ii.tr (a.label,a.int) (b.label,b.int) (c.label,c.int) h1 h2
  ·rw [mg e2] at h2
   rw [mg (by rw [e1]; exact e2),e1]; exact h2
 ·rw [mg e1] at h1
  by_cases e2:b.kind=c.kind
  ·rw [mg (by rw [←e2]; exact e1),←e2]; exact h1
  ·rw [mg e2] at h2
   have n1:cI a.kind b.kind≠0:=fun h=>e1 (q6.zero _ _ h)
   have n2:cI b.kind c.kind≠0:=fun h=>e2 (q6.zero _ _ h)
   by_cases e3:a.kind=c.kind
   ·rw [←e3] at h2
    have:=q6.neg a.kind b.kind
    omega
   ·rw [mg e3]; exact q6.tr _ _ _ h1 h2
structure Alike (a b:ai):Prop where
 kind:a.kind=b.kind
 int:a.int=b.int
 label:a.label=b.label
 len:a.args.length=b.args.length
theorem Alike.refl (a:ai):Alike a a:=⟨rfl,rfl,rfl,rfl⟩
theorem Alike.symm {a b:ai}(h:Alike a b):Alike b a:=⟨h.1.symm,h.2.symm,h.3.symm,h.4.symm⟩
theorem Alike.trans {a b c:ai}(h:Alike a b)(k:Alike b c):Alike a c:=⟨h.1.trans k.1,h.2.trans k.2,h.3.trans k.3,h.4.trans k.4⟩
theorem Alike.cT {a b:ai}(h:Alike a b):cT a b=0:=by
 rw [po h.kind]
 split
 ·rw [h.len,h.label]; exact Ih.refl ((b.args.length:Int),b.label)
 ·rw [h.label,h.int]; exact Ii.refl (b.label,b.int)
theorem MR {a b:ai}(h:cT a b=0)(ha:a.kind=3→a.int=0)(hb:b.kind=3→b.int=0)(ha2:a.kind≠3→a.args=[])(hb2:b.kind≠3→b.args=[]):Alike a b:=by
 by_cases e:a.kind=b.kind
 ·rw [po e] at h
  split at h
  ·rename_i h3
   have:=Ih.zero ((a.args.length:Int),a.label) ((b.args.length:Int),b.label) h
   simp only [ae9] at this
   exact⟨e,by rw [ha h3,hb (by rw [←e]; exact h3)],this.2,om⟩
  ·rename_i h3
   have:=Ii.zero (a.label,a.int) (b.label,b.int) h
   simp only [ae9] at this
   exact⟨e,this.2,this.1,by rw [ha2 h3,hb2 (by rw [←e]; exact h3)]⟩
 ·rw [mg e] at h
  exact absurd (q6.zero _ _ h) e
theorem Sq (l:List ai)(s:List Int):Ord (fun x y=>cT (nd l x) (nd l y)) s:=by
 refine⟨fun x _ y _ z _ h1 h2=>?_,fun x _ y _ h=>?_⟩
 ·skip
  have a1:=lD (nd l x) (nd l y)
  have a2:=lD (nd l y) (nd l z)
  have a3:=lD (nd l x) (nd l z)
  have:=Et (nd l x) (nd l y) (nd l z) om om
  omega
 ·skip
  have a1:=lD (nd l x) (nd l y)
  omega
structure Jy (l:List ai)(R:Nat→Nat→Prop):Prop where
 Cu:∀i j,R i j→i<l.length∧j<l.length
 top:∀i j,R i j→Alike (nd l i) (nd l j)
 arg:∀i j,R i j→∀k,k<(nd l i).args.length→R (gt (nd l i).args k).toNat (gt (nd l j).args k).toNat
structure Min (l:List ai)(r:List Int):Prop where
 len:r.length=l.length
 top:∀i j,i<l.length→j<l.length→gt r i=gt r j→Alike (nd l i) (nd l j)
 arg:∀i j,i<l.length→j<l.length→gt r i=gt r j→∀k,k<(nd l i).args.length→gt r (gt (nd l i).args k).toNat=gt r (gt (nd l j).args k).toNat
 max:∀R,Jy l R→∀i j,R i j→gt r i=gt r j
theorem xm (a:ai):cT a a=0:=(Alike.refl a).cT
theorem zO {a b c:ai}(h1:cT a b=0)(h2:cT b c=0):cT a c=0:=by
 have n1:=lD a b
 have n2:=lD b c
 have n3:=lD a c
 have t1:=Et a b c om om
 have t2:=Et c b a om om
 omega
theorem CA {l:List ai}{d:List Int}{k:Nat}:∀j,k≤j→rk l d k=rk l d j→cT (nd l (gt d k)) (nd l (gt d j))=0
 | 0,h,_=>by
   have:k=0:=by omega
   subst this; exact xm _
 | j+1,h,e=>by
  by_cases hk:k=j+1
  ·subst hk; exact xm _
  ·have m1:=Cv l d k j om
   have e2:rk l d (j+1)=rk l d j+if cT (nd l (gt d j)) (nd l (gt d (j+1)))=0 then 0 else 1:=rfl
   by_cases hc:cT (nd l (gt d j)) (nd l (gt d (j+1)))=0
   ·rw [if_pos hc] at e2
    exact zO (CA j om om) hc
   ·rw [if_neg hc] at e2; omega
theorem CB {l:List ai}{d:List Int}{n:Nat}(S:Sg (fun x y=>cT (nd l x) (nd l y)) d 0 n){k q:Nat}(hq:q<n)(h0:cT (nd l (gt d k)) (nd l (gt d q))=0):∀j,k≤j→j≤q→rk l d j=rk l d k
 | 0,h,_=>by
   have:k=0:=by omega
   subst this; rfl
 | j+1,h,hj=>by
  by_cases hk:k=j+1
  ·subst hk; rfl
  ·have ih:=CB S hq h0 j om om
   have le1:cT (nd l (gt d k)) (nd l (gt d j))≤0:=by
    by_cases e:k=j
    ·subst e; rw [xm]; omega
    ·have:0≤cT (nd l (gt d j)) (nd l (gt d k)):=S k j om om om
     have n:=lD (nd l (gt d k)) (nd l (gt d j))
     omega
   have le2:cT (nd l (gt d (j+1))) (nd l (gt d q))≤0:=by
    by_cases e:j+1=q
    ·subst e; rw [xm]; omega
    ·have:0≤cT (nd l (gt d q)) (nd l (gt d (j+1))):=S (j+1) q om om hq
     have n:=lD (nd l (gt d (j+1))) (nd l (gt d q))
     omega
   have le3:cT (nd l (gt d q)) (nd l (gt d k))≤0:=by have n:=lD (nd l (gt d k)) (nd l (gt d q)); omega
   have le4:=Et _ _ _ (Et _ _ _ le2 le3) le1
   have s1:=S j (j+1) om om om
   have n:=lD (nd l (gt d j)) (nd l (gt d (j+1)))
   have hz:cT (nd l (gt d j)) (nd l (gt d (j+1)))=0:=by
    have s1:0≤cT (nd l (gt d (j+1))) (nd l (gt d j)):=s1
    omega
   show rk l d j+(if cT (nd l (gt d j)) (nd l (gt d (j+1)))=0 then 0 else 1)=_
   rw [if_pos hz,ih]; rfl
def O3 (l:List ai)(out:List Int):Prop:=(∀i j,i<l.length→j<l.length→gt out i=gt out j→cT (nd l i) (nd l j)=0)∧∀R,Jy l R→∀i j,R i j→gt out i=gt out j
theorem Jz {l:List ai}{d out:List Int}(hp:d.Perm (ints l.length))(hs:Ord (fun x y=>cT (nd l x) (nd l y)) (ints l.length)→Sg (fun x y=>cT (nd l x) (nd l y)) d 0 l.length)(hg:∀k,k<l.length→gt out (gt d k).toNat=rk l d k):O3 l out:=by
 have S:=hs (Sq _ _)
 have jV:d.length=l.length:=by rw [hp.length_eq,gk]
 have pos:∀i,i<l.length→∃k,k<l.length∧gt d k=i∧gt out i=rk l d k:=fun i hi=>by
  obtain⟨k,hk,e⟩:=hZ (hp.mem_iff.2 (lb.2 (show 0≤(i:Int)∧(i:Int)<l.length by omega)))
  have:=hg k om
  rw [e,ae7] at this
  exact⟨k,om,e,this⟩
 refine⟨fun i j hi hj e=>?_,fun R B i j hR=>?_⟩
 ·obtain⟨k,hk,ek,Ze⟩:=pos i hi
  obtain⟨q,hq,eq,Zf⟩:=pos j hj
  rw [Ze,Zf] at e
  rw [←ek,←eq]
  rcases Nat.le_total k q with h | h
  ·exact CA q h om
  ·have:=CA (l:=l) (d:=d) k h om
   have n:=lD (nd l (gt d k)) (nd l (gt d q))
   omega
 ·obtain⟨hi,hj⟩:=B.Cu i j hR
  obtain⟨k,hk,ek,Ze⟩:=pos i hi
  obtain⟨q,hq,eq,Zf⟩:=pos j hj
  have h0:=(B.top i j hR).cT
  rw [←ek,←eq] at h0
  rw [Ze,Zf]
  rcases Nat.le_total k q with h | h
  ·rw [CB S hq h0 q h (ae4 _)]
  ·have n:=lD (nd l (gt d k)) (nd l (gt d q))
   rw [CB S hk om k h (ae4 _)]
theorem MS {l:List ai}(ok:nH l){out:List Int}{i j:Nat}(h1:(nd l i).args.length=(nd l j).args.length)(e:key out (nd l i) i=key out (nd l j) j):gt out i=gt out j∧∀k,k<(nd l i).args.length→gt out (gt (nd l i).args k).toNat=gt out (gt (nd l j).args k).toNat:=by
 unfold key at e
 have e1:=List.cons.inj e
 refine⟨om,fun k hk=>?_⟩
 have e2:=e1.2
 rw [h1] at e2
 have e3:=List.append_cancel_right e2
 have e4:=congrArg (fun z=>z[k]?) e3
 simp only [afv] at e4
 rw [bZ hk,bZ om] at e4
 simp only [ae6,ae2] at e4
 omega
theorem MT {l:List ai}(ok:nH l)(out:List Int)(many:Nat)(ks:List (List Int))(next:List Int)(P:Part l.length out many)(I:O3 l out)(K:vi l out l.length ks)(hn:next.length=l.length)
  (hg:∀i,i<l.length→gt next i=(ks.idxOf (key out (nd l i) i):Int)):O3 l next:=by
 refine⟨fun i j hi hj e=>?_,fun R B i j hR=>?_⟩
 ·rw [hg i hi,hg j hj] at e
  have e:ks.idxOf (key out (nd l i) i)=ks.idxOf (key out (nd l j) j):=by omega
  have m1:=agq ((K.mem _).2 ⟨i,hi,rfl⟩)
  have m2:=agq ((K.mem _).2 ⟨j,hj,rfl⟩)
  have g1:=List.getElem_idxOf m1
  have g2:=List.getElem_idxOf m2
  have g3:key out (nd l i) i=key out (nd l j) j:=by rw [←g1,←g2]; congr 1
  exact I.1 i j hi hj (by have:=(List.cons.inj g3).1; omega)
 ·obtain⟨hi,hj⟩:=B.Cu i j hR
  rw [hg i hi,hg j hj]
  have hk:key out (nd l i) i=key out (nd l j) j:=by
   have hl:=(B.top i j hR).len
   unfold key
   rw [I.2 R B i j hR,hl]
   congr 2
   apply af0 fun k=>?_
   simp only [afv]
   by_cases h:k<(nd l i).args.length
   ·rw [bZ h,bZ om]
    simp only [ae6,ae2]
    rw [I.2 R B _ _ (B.arg i j hR k h)]
   ·rw [afp om,afp om]
  rw [hk]
theorem Ss {l:List ai}{r:List Int}{many:Nat}{ks:List (List Int)}(P:Part l.length r many)(K:vi l r l.length ks)(GL:ks.length=many+1){i j:Nat}(hi:i<l.length)(hj:j<l.length)(e:gt r i=gt r j):key r (nd l i) i=key r (nd l j) j:=by
 by_cases hne:key r (nd l i) i=key r (nd l j) j
 ·exact hne
 ·exfalso
  have hmi:=(K.mem _).2 ⟨i,hi,rfl⟩
  have hmj:=(K.mem _).2 ⟨j,hj,rfl⟩
  have hn:((af7 (many+1)).map fun v:Nat=>((v:Int)+1)).Nodup:=by
   unfold List.Nodup
   rw [List.pairwise_map]
   exact List.Pairwise.imp (fun h=>by omega) List.nodup_range
  have:=hn.length_le_of_subset (l₂:=(ks.erase (key r (nd l j) j)).map fun k=>k.headD 0) (fun x hx=>by
   obtain⟨v,hv,rfl⟩:=afu.1 hx
   obtain⟨q,hq,h⟩:=P.sur v (by have:=agi.1 hv; omega)
   by_cases ND:key r (nd l q) q=key r (nd l j) j
   ·refine afu.2 ⟨key r (nd l i) i,(List.mem_erase_of_ne hne).2 hmi,?_⟩
    have h1:=(List.cons.inj ND).1
    simp [key,e]
    omega
   ·exact afu.2 ⟨_,(List.mem_erase_of_ne ND).2 ((K.mem _).2 ⟨q,hq,rfl⟩),by simp [key,h]⟩)
  rw [afl,afl,agE,List.length_erase_of_mem hmj] at this
  omega
theorem AL {l:List ai}(hT:∀n∈l,VD n){i j:Nat}(hi:i<l.length)(hj:j<l.length)(h:cT (nd l i) (nd l j)=0):Alike (nd l i) (nd l j):=by
 have Ti:=hT _ (jd (i:=(i:Int)) om om)
 have Tj:=hT _ (jd (i:=(j:Int)) om om)
 have a3:∀{n:ai},VD n→n.kind=3→n.int=0:=fun T h=>by rcases T.kind with z | z | z | z | z<;>(have:=z.1; first | omega | exact z.2)
 have a0:∀{n:ai},VD n→n.kind≠3→n.args=[]:=fun T h=>by
  rcases T.kind with z | z | z | z | z
  ·exact z.2.2.2
  ·exact z.2.2.2
  ·exact z.2.2
  ·exact absurd z.1 h
  ·exact z.2
 exact MR h (a3 Ti) (a3 Tj) (a0 Ti) (a0 Tj)
theorem zc {m:Nat}(hm:2 ^ 41≤m){t:bm}(h:jw t=true) :
  ∃cls ns,gV.f m t=some ⟨ns,0⟩∧Min t.nodes cls∧Ps cls t.nodes [] (y9 cls t.nodes m t.root []) [] ns∧jg cls t.root∈(y9 cls t.nodes m t.root []).map (jg cls):=by
 obtain⟨ok,h1,r0,r1,hT⟩:=rD h
 obtain⟨cls,many,ks,ns,e,P,I,K,GL,Q,hr⟩:=Gc hm ok h1 r0 r1 (O3 t.nodes) (fun d out hp hs hg=>Jz hp hs hg) (fun out many ks next P I K hn hg=>MT ok out many ks next P I K hn hg)
 refine⟨cls,ns,e,⟨P.len,fun i j hi hj e=>AL hT hi hj (I.1 i j hi hj e),fun i j hi hj e k hk=>?_,I.2⟩,Q,hr⟩
 have hA:=AL hT hi hj (I.1 i j hi hj e)
 exact (MS ok hA.len (Ss P K GL hi hj e)).2 k hk
def gb (l:List Bool)(k:Nat):Bool:=l.getD k false
theorem O4 {l:List Bool}{k:Nat}(h:k<l.length):l[k]? = some (gb l k):=by
 unfold gb; rw [aff,ae8 h]; rfl
theorem Ij {l:List Bool}{i:Int}(h0:0≤i)(h:i.toNat<l.length):ix l i=some (gb l i.toNat):=by
 unfold ix; rw [if_pos h0,O4 h]
theorem MU {l:List Bool}{i k:Nat}{x:Bool}(hi:i<l.length):gb (l.set i x) k=if k=i then x else gb l k:=by
 unfold gb
 simp only [aff,agl]
 by_cases h:i=k
 ·subst h; simp [hi]
 ·rw [if_neg h,if_neg om]
def ar (l:List ai)(i k:Nat):Nat:=(gt (nd l i).args k).toNat
def na (l:List ai)(i:Nat):Nat:=(nd l i).args.length
theorem nq {l:List ai}(ok:nH l){i k:Nat}(hi:i<l.length)(hk:k<na l i):ar l i k<l.length∧gt (nd l i).args k=(ar l i k:Int):=by
 obtain⟨h0,h1⟩:=(Eo ok hi).2 _ (bh (l:=(nd l i).args) (k:=k) hk)
 unfold ar; omega
theorem Ik {l:List ai}(ok:nH l){i:Nat}(hi:i<l.length):na l i≤8:=(Eo ok hi).1
theorem zd {m:Nat}(a b:ai):∃x,ic.f m a b=some x∧(x=true↔Alike a b):=by
 unfold ic.f
 by_cases h1:a.kind=b.kind
 ·rw [if_pos (by simpa using h1)]
  by_cases h2:a.int=b.int
  ·rw [if_pos (by simpa using h2)]
   by_cases h3:a.label=b.label
   ·rw [if_pos (by rw [h3]; simp)]
    refine⟨_,rfl,⟨fun h=>⟨h1,h2,h3,by have:=beq_iff_eq.1 h; omega⟩,fun h=>by have:=h.len; rw [beq_iff_eq]; omega⟩⟩
   ·rw [if_neg (fun h=>h3 (Ge (by simpa using h)))]
    exact⟨_,rfl,⟨fun h=>(by cases h),fun h=>absurd h.label h3⟩⟩
  ·rw [if_neg (by simpa using h2)]
   exact⟨_,rfl,⟨fun h=>(by cases h),fun h=>absurd h.int h2⟩⟩
 ·rw [if_neg (by simpa using h1)]
  exact⟨_,rfl,⟨fun h=>(by cases h),fun h=>absurd h.kind h1⟩⟩
def SA (l:List ai)(c:List Int)(i j:Nat):Prop:=∀k,k<na l i→gt c (ar l i k)=gt c (ar l j k)
theorem Qb {m:Nat}{l:List ai}{c:List Int}(ok:nH l)(hc:c.length=l.length){i j:Nat}(hi:i<l.length)(hj:j<l.length)(hl:na l i=na l j):∀(f k:Nat),na l i - k<f→k≤na l i→
  ∃o,bM.l0 m (nd l i) (nd l j) c f (k:Int)=some o∧((∃x,o = .inr x)∧(∀q,k≤q→q<na l i→gt c (ar l i q)=gt c (ar l j q))∨o = .inl false∧∃q,q<na l i∧gt c (ar l i q)≠gt c (ar l j q))
 | 0,k,hf,_=>absurd hf om
 | f+1,k,hf,hk=>by
  have h8:=Ik ok hi
  unfold bM.l0
  by_cases h:k<na l i
  ·obtain⟨a1,a2⟩:=nq ok hi h
   obtain⟨b1,b2⟩:=nq ok hj (show k<na l j by omega)
   have e1:ix c (gt (nd l i).args k)=some (gt c (ar l i k)):=iv a2 om
   have e2:ix c (gt (nd l j).args k)=some (gt c (ar l j k)):=iv b2 om
   rw [if_pos (by simp only [decide_eq_true_eq]; unfold na at h; omega),dR (l:=(nd l i).args) h,aeZ,e1,aeZ,dR (l:=(nd l j).args) (show k<(nd l j).args.length by unfold na at hl h; omega),aeZ,e2,aeZ]
   by_cases e:gt c (ar l i k)=gt c (ar l j k)
   ·obtain⟨o,k1,k2⟩:=Qb (m:=m) ok hc hi hj hl f (k+1) om om
    rw [if_neg (by simp [e]),br om om,show (k:Int)+1=((k+1:Nat):Int) by omega,k1]
    refine⟨o,rfl,k2.imp (fun ⟨x,y⟩=>⟨x,fun q q1 q2=>?_⟩) id⟩
    by_cases hq:q=k
    ·subst hq; exact e
    ·exact y q om q2
   ·rw [if_pos (by simpa using e)]
    exact⟨_,rfl,.inr ⟨rfl,k,h,e⟩⟩
  ·refine⟨_,by rw [if_neg (by simp only [decide_eq_true_eq]; unfold na at h; omega)],.inl ⟨⟨_,rfl⟩,fun q q1 q2=>absurd q2 om⟩⟩
theorem Il {m:Nat}(hm:2 ^ 30≤m){l:List ai}{c:List Int}(ok:nH l)(hc:c.length=l.length){i j:Nat}(hi:i<l.length)(hj:j<l.length)(hl:na l i=na l j):∃x,bM.f m (nd l i) (nd l j) c=some x∧(x=true↔SA l c i j):=by
 have vX:(2:Nat) ^ 30=1073741824:=by decide
 have h8:=Ik ok hi
 obtain⟨o,k1,k2⟩:=Qb (m:=m) ok hc hi hj hl m 0 om om
 have k1:bM.l0 m (nd l i) (nd l j) c m 0=_:=k1
 unfold bM.f
 rw [k1,aeZ]
 rcases k2 with⟨⟨x,rfl⟩,k⟩| ⟨rfl,q,q1,q2⟩
 ·exact⟨true,rfl,⟨fun _ k0 hk=>k k0 om hk,fun _=>rfl⟩⟩
 ·exact⟨false,rfl,⟨fun h=>(by cases h),fun h=>absurd (h q q1) q2⟩⟩
def Rdy (l:List ai)(dn:List Bool)(i:Nat):Prop:=∀k,k<na l i→gb dn (ar l i k)=true
theorem MV {m:Nat}{l:List ai}{dn:List Bool}(ok:nH l)(hd:dn.length=l.length){i:Nat}(hi:i<l.length):∀(f k:Nat),na l i - k<f→k≤na l i→
  ∃o,cQ.l0 m (nd l i) dn f (k:Int)=some o∧((∃x,o = .inr x)∧(∀q,k≤q→q<na l i→gb dn (ar l i q)=true)∨o = .inl false∧∃q,q<na l i∧gb dn (ar l i q)=false)
 | 0,k,hf,_=>absurd hf om
 | f+1,k,hf,hk=>by
  have h8:=Ik ok hi
  unfold cQ.l0
  by_cases h:k<na l i
  ·obtain⟨a1,a2⟩:=nq ok hi h
   have e1:ix dn (gt (nd l i).args k)=some (gb dn (ar l i k)):=by
    have:=Ij (l:=dn) (i:=gt (nd l i).args k) om (by rw [a2,ae7]; omega)
    rw [this,a2,ae7]
   rw [if_pos (by simp only [decide_eq_true_eq]; unfold na at h; omega),dR (l:=(nd l i).args) h,aeZ,e1,aeZ]
   cases e:gb dn (ar l i k) with
   | true=>
    obtain⟨o,k1,k2⟩:=MV (m:=m) ok hd hi f (k+1) om om
    rw [if_neg (by simp),br om om,show (k:Int)+1=((k+1:Nat):Int) by omega,k1]
    refine⟨o,rfl,k2.imp (fun ⟨x,y⟩=>⟨x,fun q q1 q2=>?_⟩) id⟩
    by_cases hq:q=k
    ·subst hq; exact e
    ·exact y q om q2
   | false=>exact⟨_,rfl,.inr ⟨rfl,k,h,e⟩⟩
  ·refine⟨_,by rw [if_neg (by simp only [decide_eq_true_eq]; unfold na at h; omega)],.inl ⟨⟨_,rfl⟩,fun q q1 q2=>absurd q2 om⟩⟩
theorem MW {m:Nat}(hm:2 ^ 30≤m){l:List ai}{dn:List Bool}(ok:nH l)(hd:dn.length=l.length){i:Nat}(hi:i<l.length):∃x,cQ.f m (nd l i) dn=some x∧(x=true→Rdy l dn i)∧(x=false→∃q,q<na l i∧gb dn (ar l i q)=false):=by
 have vX:(2:Nat) ^ 30=1073741824:=by decide
 have h8:=Ik ok hi
 obtain⟨o,k1,k2⟩:=MV (m:=m) ok hd hi m 0 om om
 have k1:cQ.l0 m (nd l i) dn m 0=_:=k1
 unfold cQ.f
 rw [k1,aeZ]
 rcases k2 with⟨⟨x,rfl⟩,k⟩| ⟨rfl,hq⟩
 ·exact⟨true,rfl,fun _ k0 hk=>k k0 om hk,fun h=>by cases h⟩
 ·exact⟨false,rfl,fun h=>(by cases h),fun _=>hq⟩
def vY (l:List ai)(c:List Int)(i j:Nat):Prop:=Alike (nd l i) (nd l j)∧SA l c i j
theorem Im {m:Nat}(hm:2 ^ 30≤m){l:List ai}{c fs:List Int}(ok:nH l)(hc:c.length=l.length){i:Nat}(hi:i<l.length)(hf:∀f∈fs,0≤f∧f<l.length)(QX:fs.length≤8000):∀(f k:Nat),fs.length - k<f→k≤fs.length→
  ∃o,cW.l0 m l fs (i:Int) c f (k:Int)=some o∧((∃x,o = .inr x)∧(∀q,k≤q→q<fs.length→¬vY l c i (gt fs q).toNat)∨∃v,o = .inl v∧v∈fs∧vY l c i v.toNat)
 | 0,k,h,_=>absurd h om
 | f+1,k,h,hk=>by
  unfold cW.l0
  by_cases NR:k<fs.length
  ·obtain⟨b0,b1⟩:=hf _ (bh NR)
   have VF:((gt fs k).toNat:Int)=gt fs k:=by omega
   obtain⟨xa,a1,a2⟩:=zd (m:=m) (nd l (i:Int)) (nd l (gt fs k))
   have ih:=Im hm ok hc hi hf QX f (k+1) om om
   obtain⟨o,k1,k2⟩:=ih
   have next:¬vY l c i (gt fs k).toNat→∃o',(cW.l0 m l fs (i:Int) c f (i64.wrap ((k:Int)+1)))=some o'∧((∃x,o' = .inr x)∧(∀q,k≤q→q<fs.length→¬vY l c i (gt fs q).toNat)∨∃v,o' = .inl v∧v∈fs∧vY l c i v.toNat):=fun hn=>by
    rw [br om om,show (k:Int)+1=((k+1:Nat):Int) by omega,k1]
    refine⟨o,rfl,k2.imp (fun ⟨x,y⟩=>⟨x,fun q q1 q2=>?_⟩) id⟩
    by_cases hq:q=k
    ·subst hq; exact hn
    ·exact y q om q2
   rw [if_pos dm,kh om om,aeZ,dR NR,aeZ,kh b0 b1,aeZ,a1,aeZ]
   cases xa with
   | false=>
    rw [if_neg (by simp)]
    refine next fun hs=>?_
    have:=a2.2 (by have:=hs.1; rw [VF] at this; exact this)
    cases this
   | true=>
    have hA:=a2.1 rfl
    have hl:na l i=na l (gt fs k).toNat:=by unfold na; rw [VF]; exact hA.len
    obtain⟨xs,s1,s2⟩:=Il hm ok hc hi (j:=(gt fs k).toNat) om hl
    rw [VF] at s1
    rw [if_pos rfl,aeZ,aeZ,kh b0 b1,aeZ,s1,aeZ]
    cases xs with
    | false=>
     rw [if_neg (by simp)]
     refine next fun hs=>?_
     have:=s2.2 hs.2; cases this
    | true=>
     exact⟨_,rfl,.inr ⟨_,rfl,bh NR,by rw [VF]; exact hA,s2.1 rfl⟩⟩
  ·exact⟨_,by rw [if_neg dm],.inl ⟨⟨_,rfl⟩,fun q q1 q2=>absurd q2 om⟩⟩
theorem find_spec {m:Nat}(hm:2 ^ 30≤m){l:List ai}{c fs:List Int}(ok:nH l)(hc:c.length=l.length){i:Nat}(hi:i<l.length)(hf:∀f∈fs,0≤f∧f<l.length)(QX:fs.length≤8000) :
  ∃v,cW.f m l fs (i:Int) c=some v∧(v=i∧(∀f∈fs,¬vY l c i f.toNat)∨v∈fs∧vY l c i v.toNat):=by
 have vX:(2:Nat) ^ 30=1073741824:=by decide
 obtain⟨o,k1,k2⟩:=Im hm ok hc hi hf QX m 0 om om
 have k1:cW.l0 m l fs (i:Int) c m 0=_:=k1
 unfold cW.f
 rw [k1,aeZ]
 rcases k2 with⟨⟨x,rfl⟩,k⟩| ⟨v,rfl,hv,hs⟩
 ·refine⟨_,rfl,.inl ⟨rfl,fun f hf=>?_⟩⟩
  obtain⟨q,hq,e⟩:=hZ hf
  rw [←e]; exact k q om hq
 ·exact⟨v,rfl,.inr ⟨hv,hs⟩⟩
inductive zP (κ:Int→Int)(A:Int→List Int):List Int→List Int→List Int→Prop
 | nil (o:List Int):zP κ A [] o o
 | skip {v:Int} {st o o':List Int}:κ v∈o.map κ→zP κ A st o o'→zP κ A (v::st) o o'
 | push {v:Int} {st o o':List Int}:κ v∉o.map κ→zP κ A (A v++st) (o++[v]) o'→zP κ A (v::st) o o'
theorem zP.det {κ:Int→Int}{A:Int→List Int}{st o o1 o2:List Int}(h:zP κ A st o o1)(k:zP κ A st o o2):o1=o2:=by
 induction h with
 | nil o=>cases k; rfl
 | skip hm _ ih=>
  cases k with
  | skip _ k=>exact ih k
  | push hn _=>exact absurd hm hn
 | push hn _ ih=>
  cases k with
  | skip hm _=>exact absurd hm hn
  | push _ k=>exact ih k
theorem zP.facts {κ:Int→Int}{A:Int→List Int}{n:Nat}{st o o':List Int}(h:zP κ A st o o')(hA:∀v:Int,0≤v→v<n→∀a∈A v,0≤a∧a<n)(hst:∀v∈st,0≤v∧v<n)(ho:∀v∈o,0≤v∧v<n)(J2:(o.map κ).Nodup) :
  (∃t,o'=o++t)∧(∀v∈o',0≤v∧v<n)∧(o'.map κ).Nodup∧(∀v∈st,κ v∈o'.map κ)∧((∀v∈o,∀a∈A v,κ a∈o.map κ∨a∈st)→∀v∈o',∀a∈A v,κ a∈o'.map κ):=by
 induction h with
 | nil o=>
  refine⟨⟨[],by simp⟩,ho,J2,?_,?_⟩
  ·intro v hv; cases hv
  ·intro h v hv a ha; exact (h v hv a ha).resolve_right (by simp)
 | @skip v st o o' hm _ ih=>
  obtain⟨⟨t,rfl⟩,a,b,c,d⟩:=ih (fun x hx=>hst x (by simp [hx])) ho J2
  refine⟨⟨t,rfl⟩,a,b,fun x hx=>?_,fun h=>d fun x hx y hy=>?_⟩
  ·rcases afq.1 hx with rfl | hx
   ·rw [afo]; exact afE _ hm
   ·exact c x hx
  ·rcases h x hx y hy with h | h
   ·exact .inl h
   ·rcases afq.1 h with rfl | h
    ·exact .inl hm
    ·exact .inr h
 | @push v st o o' hn _ ih=>
  have hv:=hst v (by simp)
  have h1:∀x∈A v++st,0≤x∧x<n:=fun x hx=>by
   rcases afk.1 hx with hx | hx
   ·exact hA v hv.1 hv.2 x hx
   ·exact hst x (by simp [hx])
  have h2:∀x∈o++[v],0≤x∧x<n:=fun x hx=>by
   rcases afk.1 hx with hx | hx
   ·exact ho x hx
   ·rw [afd] at hx; subst hx; exact hv
  have h3:((o++[v]).map κ).Nodup:=by
   rw [afo,ago]
   refine⟨J2,by simp,fun a ha b hb=>?_⟩
   simp only [afs,agt,afd] at hb
   subst hb; intro e; subst e; exact hn ha
  obtain⟨⟨t,rfl⟩,a,b,c,d⟩:=ih h1 h2 h3
  refine⟨⟨[v]++t,by simp⟩,a,b,fun x hx=>?_,fun h=>d fun x hx y hy=>?_⟩
  ·rcases afq.1 hx with rfl | hx
   ·simp
   ·exact c x (by simp [hx])
  ·rcases afk.1 hx with hx | hx
   ·rcases h x hx y hy with h | h
    ·exact .inl (by rw [afo]; exact afE _ h)
    ·rcases afq.1 h with rfl | h
     ·exact .inl (by simp)
     ·exact .inr (by simp [h])
   ·rw [afd] at hx; subst hx
    exact .inr (afE _ hy)
theorem zP.from {A:Int→List Int}{root:Int}{st o o':List Int}(h:zP id A st o o')(hst:∀v∈st,v=root∨∃q,q<o.length∧v∈A (gt o q))(ho:∀i,i<o.length→gt o i=root∨∃q,q<i∧gt o i∈A (gt o q)) :
  ∀i,i<o'.length→gt o' i=root∨∃q,q<i∧gt o' i∈A (gt o' q):=by
 induction h with
 | nil o=>exact ho
 | skip hm _ ih=>exact ih (fun x hx=>hst x (by simp [hx])) ho
 | @push v st o o' hn _ ih=>
  have gl:∀q,q<o.length→gt (o++[v]) q=gt o q:=fun q hq=>kI hq
  have gv:gt (o++[v]) o.length=v:=by unfold gt; rw [aff,afg (ae4 _),aga]; rfl
  refine ih (fun x hx=>?_) (fun i hi=>?_)
  ·rcases afk.1 hx with hx | hx
   ·exact .inr ⟨o.length,by simp,by rw [gv]; exact hx⟩
   ·rcases hst x (by simp [hx]) with h | ⟨q,q1,q2⟩
    ·exact .inl h
    ·exact .inr ⟨q,by simp; omega,by rw [gl q q1]; exact q2⟩
  ·by_cases h:i<o.length
   ·rw [gl i h]
    rcases ho i h with h1 | ⟨q,q1,q2⟩
    ·exact .inl h1
    ·exact .inr ⟨q,q1,by rw [gl q om]; exact q2⟩
   ·have e:i=o.length:=by simp at hi; omega
    subst e
    rw [gv]
    rcases hst v (by simp) with h | ⟨q,q1,q2⟩
    ·exact .inl h
    ·exact .inr ⟨q,q1,by rw [gl q q1]; exact q2⟩
theorem Eu (cls:List Int)(l:List ai)(k:Nat)(i:Int)(o:List Int):y9 cls l (k+1) i o=if jg cls i∈o.map (jg cls) then o else (nd l i).args.foldl (fun o a=>y9 cls l k a o) (o++[i]):=rfl
theorem MX {cls:List Int}{l:List ai}(ok:nH l):∀(k:Nat) (i:Int) (o:List Int),0≤i→i<l.length→Vs cls l.length o→Vs cls l.length (y9 cls l k i o)∧o.length≤(y9 cls l k i o).length
 | 0,i,o,_,_,v=>⟨v,ae4 _⟩
 | k+1,i,o,h0,h1,v=>by
  rw [Eu]
  split
  ·exact⟨v,ae4 _⟩
  ·rename_i h
   have v1:Vs cls l.length (o++[i]):=by
    refine⟨?_,fun x hx=>?_⟩
    ·rw [afo,ago]
     refine⟨v.NL,by simp,fun a ha b hb=>?_⟩
     simp only [afs,agt,afd] at hb
     subst hb; intro e; subst e; exact h ha
    ·rcases afk.1 hx with hx | hx
     ·exact v.Cu x hx
     ·simp only [afd] at hx; subst hx; exact⟨h0,h1⟩
   have fold:∀(zs:List Int) (o:List Int),(∀a∈zs,0≤a∧a<l.length)→Vs cls l.length o→Vs cls l.length (zs.foldl (fun o a=>y9 cls l k a o) o)∧o.length≤(zs.foldl (fun o a=>y9 cls l k a o) o).length:=by
    intro zs
    induction zs with
    | nil=>intro o _ v; exact⟨v,ae4 _⟩
    | cons a zs ih=>
     intro o ha v
     have hr:=ha a (by simp)
     obtain⟨v2,l2⟩:=MX ok k a o hr.1 hr.2 v
     obtain⟨v3,l3⟩:=ih (y9 cls l k a o) (fun x hx=>ha x (by simp [hx])) v2
     exact⟨v3,afV l2 l3⟩
   obtain⟨v2,l2⟩:=fold (nd l i).args (o++[i]) (ok.2 _ (jd h0 h1)).2 v1
   exact⟨v2,by simp at l2; omega⟩
theorem CC {cls:List Int}{l:List ai}(ok:nH l):∀(k:Nat) (i:Int) (o st o':List Int),0≤i→i<l.length→Vs cls l.length o→l.length<k+o.length→
  zP (jg cls) (fun v=>(nd l v).args) st (y9 cls l k i o) o'→zP (jg cls) (fun v=>(nd l v).args) (i::st) o o'
 | 0,i,o,st,o',_,_,v,hk,_=>absurd v.Tp om
 | k+1,i,o,st,o',h0,h1,v,hk,h=>by
  rw [Eu] at h
  by_cases hm:jg cls i∈o.map (jg cls)
  ·rw [if_pos hm] at h
   exact .skip hm h
  ·rw [if_neg hm] at h
   refine .push hm ?_
   have v1:Vs cls l.length (o++[i]):=by
    refine⟨?_,fun x hx=>?_⟩
    ·rw [afo,ago]
     refine⟨v.NL,by simp,fun a ha b hb=>?_⟩
     simp only [afs,agt,afd] at hb
     subst hb; intro e; subst e; exact hm ha
    ·rcases afk.1 hx with hx | hx
     ·exact v.Cu x hx
     ·simp only [afd] at hx; subst hx; exact⟨h0,h1⟩
   have fold:∀(zs:List Int) (o:List Int),(∀a∈zs,0≤a∧a<l.length)→Vs cls l.length o→l.length<k+o.length→zP (jg cls) (fun v=>(nd l v).args) st (zs.foldl (fun o a=>y9 cls l k a o) o) o'→zP (jg cls) (fun v=>(nd l v).args) (zs++st) o o':=by
    intro zs
    induction zs with
    | nil=>intro o _ _ _ h; exact h
    | cons a zs ih=>
     intro o ha v hk h
     have hr:=ha a (by simp)
     obtain⟨v2,l2⟩:=MX ok k a o hr.1 hr.2 v
     exact CC ok k a o (zs++st) o' hr.1 hr.2 v hk (ih _ (fun x hx=>ha x (by simp [hx])) v2 om h)
   exact fold (nd l i).args (o++[i]) (ok.2 _ (jd h0 h1)).2 v1 (by simp; omega) h
theorem tW {od:List Int}{n:Nat}(h:od.Nodup)(hr:∀x∈od,0≤x∧x<n):od.length≤n:=by
 have:=h.length_le_of_subset (l₂:=ints n) (fun x hx=>lb.2 (hr x hx))
 rwa [gk] at this
theorem MY {m:Nat}{l:List ai}(ok:nH l){v:Int}(h0:0≤v)(h1:v<l.length):∀(f i:Nat) (st:List Int),i<f→i≤(nd l v).args.length→st.length+i≤1000000→
  ∃x,bb.l1 m l v f st ((i:Int) - 1)=some (st++((nd l v).args.take i).reverse,x)
 | 0,i,st,hf,_,_=>absurd hf om
 | f+1,0,st,hf,hi,hs=>by
  unfold bb.l1
  rw [if_neg (by simp)]
  exact⟨_,by simp; rfl⟩
 | f+1,i+1,st,hf,hi,hs=>by
  have h8:=(ok.2 _ (jd h0 h1)).1
  have ei:((i+1:Nat):Int) - 1=(i:Int):=by omega
  have ew:i64.wrap ((i:Int) - 1)=(i:Int) - 1:=br om om
  have vK:app 8 st [gt (nd l v).args i]=some (st++[gt (nd l v).args i]):=by unfold app; rw [if_pos (by simp; omega)]
  obtain⟨x,ih⟩:=MY (m:=m) ok h0 h1 f i (st++[gt (nd l v).args i]) om om (by simp; omega)
  refine⟨x,?_⟩
  unfold bb.l1
  rw [ei,if_pos (by simp),kh h0 h1,aeZ,dR om,aeZ,vK,aeZ,ew,ih]
  rw [agm,bZ om]
  simp
theorem Gg {m:Nat}(hm:2 ^ 30≤m){l:List ai}(ok:nH l):∀(f:Nat) (met:List Bool) (o st:List Int),st.length+9*(l.length - o.length)<f→st.length+9*(l.length - o.length)≤100000→met.length=l.length→(∀i,i<l.length→(gb met i=true↔(i:Int)∈o))→o.Nodup→(∀v∈o,0≤v∧v<l.length)→(∀v∈st,0≤v∧v<l.length)→
  ∃JA o' ,bb.l0 m l f met o st.reverse=some (JA,o',[])∧zP id (fun v=>(nd l v).args) st o o'
 | 0,met,o,st,hf,_,_,_,_,_,_=>absurd hf om
 | f+1,met,o,[],hf,hb,TT,VG,Wn,Wo,Sj=>by
  unfold bb.l0
  rw [if_neg (by simp)]
  exact⟨met,o,rfl,.nil o⟩
 | f+1,met,o,v::st,hf,hb,TT,VG,Wn,Wo,Sj=>by
  have vX:(2:Nat) ^ 30=1073741824:=by decide
  have VB:=tW Wn Wo
  obtain⟨v0,v1⟩:=Sj v (by simp)
  have h8:=(ok.2 _ (jd v0 v1)).1
  have Zg:((v.toNat:Nat):Int)=v:=by omega
  simp only [afc] at hf hb
  have hl8:=ok.1
  unfold bb.l0
  have hlen:((v::st).reverse.length:Int)=(st.length:Int)+1:=by simp
  have ew:i64.wrap ((st.length:Int)+1 - 1)=(st.length:Int):=by rw [br om om]; omega
  have e1:ix (v::st).reverse (st.length:Int)=some v:=by
   unfold ix
   rw [if_pos om,ae7,List.reverse_cons,afg (by simp)]
   simp
  have e2:KL (v::st).reverse 0 (st.length:Int)=some st.reverse:=by
   unfold KL
   rw [if_pos ⟨om,om,by simp; omega⟩,List.reverse_cons]
   simp only [ae7,afw,Int.toNat_zero,Nat.sub_zero]
   rw [List.take_left' (by simp)]
  have e3:ix met v=some (gb met v.toNat):=Ij v0 om
  rw [if_pos (by rw [hlen]; simp only [gt_iff_lt,decide_eq_true_eq]; omega),hlen,ew,e1,aeZ,e2,aeZ,e3,aeZ]
  cases hg:gb met v.toNat with
  | true=>
   have IV:v∈o:=by have:=(VG v.toNat om).1 hg; rwa [Zg] at this
   obtain⟨JA,o',k1,k2⟩:=Gg hm ok f met o st om om TT VG Wn Wo (fun x hx=>Sj x (by simp [hx]))
   rw [if_pos rfl]
   exact⟨JA,o',k1,.skip (by simpa using IV) k2⟩
  | false=>
   have hnm:v∉o:=fun h=>by
    have:=(VG v.toNat om).2 (by rw [Zg]; exact h)
    rw [hg] at this; cases this
   have on1:(o++[v]).Nodup:=by
    rw [ago]
    refine⟨Wn,by simp,fun a ha b hb=>?_⟩
    rw [afd] at hb
    subst hb; intro e; subst e; exact hnm ha
   have or1:∀x∈o++[v],0≤x∧x<l.length:=fun x hx=>by
    rcases afk.1 hx with hx | hx
    ·exact Wo x hx
    ·rw [afd] at hx; subst hx; exact⟨v0,v1⟩
   have MJ:=tW on1 or1
   simp only [afb,afc,afi] at MJ
   have vK:app 8 o [v]=some (o++[v]):=by unfold app; rw [if_pos (by simp; omega)]
   have ewn:i64.wrap (((nd l v).args.length:Int) - 1)=((nd l v).args.length:Int) - 1:=br om om
   obtain⟨x,q1⟩:=MY (m:=m) ok v0 v1 m (nd l v).args.length st.reverse om (ae4 _) (by simp; omega)
   rw [afS] at q1
   have Zh:st.reverse++(nd l v).args.reverse=((nd l v).args++st).reverse:=by simp
   rw [Zh] at q1
   rw [if_neg (by simp),aeZ,vK,aeZ,kh v0 v1,aeZ,ewn,q1,aeZ]
   dsimp only
   obtain⟨JA,o',k1,k2⟩:=Gg hm ok f (met.set v.toNat true) (o++[v]) ((nd l v).args++st) (by simp; omega) (by simp; omega) (by simpa using TT) (fun i hi=>by
    rw [MU om,afk,afd]
    by_cases e:i=v.toNat
    ·subst e; simp [Zg]
    ·rw [if_neg e,VG i hi]
     constructor
     ·exact fun h=>.inl h
     ·rintro (h | h)
      ·exact h
      ·omega) on1 or1 (fun x hx=>by
    rcases afk.1 hx with hx | hx
    ·exact (ok.2 _ (jd v0 v1)).2 x hx
    ·exact Sj x (by simp [hx]))
   exact⟨JA,o',k1,.push (by simpa using hnm) k2⟩
theorem O5 {n k:Nat}:gb (afh n false) k=false:=by
 unfold gb; rw [aff,List.getElem?_replicate]; split<;>rfl
theorem tX {m:Nat}(hm:2 ^ 30≤m){l:List ai}(ok:nH l){root:Int}(h0:0≤root)(h1:root<l.length):∃o,bb.f m l root=some o∧zP id (fun v=>(nd l v).args) [root] [] o:=by
 have vX:(2:Nat) ^ 30=1073741824:=by decide
 have hl8:=ok.1
 unfold bb.f
 have e1:sr 1 (l.length:Int) false=some (afh l.length false):=by unfold sr; rw [if_pos ⟨om,by rw [ae7]; omega⟩,ae7]
 have vK:app 8 ([]:List Int) [root]=some [root]:=by unfold app; rw [if_pos (by simp),afz]
 obtain⟨JA,o',k1,k2⟩:=Gg hm ok m (afh l.length false) [] [root] (by simp; omega) (by simp; omega) (by simp) (fun i hi=>by rw [O5]; simp) (by simp) (fun v hv=>by cases hv) (fun v hv=>by rw [afd] at hv; subst hv; exact⟨h0,h1⟩)
 have k1:bb.l0 m l m (afh l.length false) [] [root]=_:=k1
 rw [e1,aeZ,vK,aeZ,k1,aeZ]
 exact⟨o',rfl,k2⟩
structure Bim (l k:List ai)(R:Int→Int→Prop):Prop where
 Cu:∀i j,R i j→(0≤i∧i<l.length)∧0≤j∧j<k.length
 top:∀i j,R i j→Alike (nd l i) (nd k j)
 arg:∀i j,R i j→∀n,n<(nd l i).args.length→R (gt (nd l i).args n) (gt (nd k j).args n)
theorem Min.same {l:List ai}{c:List Int}(M:Min l c){a b:Int}(a0:0≤a)(a1:a<l.length)(b0:0≤b)(b1:b<l.length)(e:jg c a=jg c b) :
  Alike (nd l a) (nd l b)∧∀n,n<(nd l a).args.length→jg c (gt (nd l a).args n)=jg c (gt (nd l b).args n):=by
 have ea:((a.toNat:Nat):Int)=a:=by omega
 have eb:((b.toNat:Nat):Int)=b:=by omega
 have hA:=M.top a.toNat b.toNat om om e
 have hg:=M.arg a.toNat b.toNat om om e
 rw [ea,eb] at hA hg
 exact⟨hA,hg⟩
theorem O6 {c O:List Int}{a b:Int}(h:jg c a=jg c b):idx c O a=idx c O b:=by unfold idx; rw [h]
theorem Gh {n:ai}{a b:Int}{f:Int→Int}(h:dt n a=true)(hf:∀x∈n.args,0≤f x∧f x<b):dt ⟨n.kind,n.int,n.label,n.args.map f⟩ b=true:=by
 unfold dt at h ⊢
 have he:(n.args.map f).isEmpty=n.args.isEmpty:=by cases n.args<;>rfl
 dsimp only
 rw [he,afl]
 have ha:((n.args.map f).all fun a=>decide (0≤a)&&decide (a<b))=true:=by
  rw [afr]
  intro x hx
  obtain⟨y,hy,rfl⟩:=afu.1 hx
  have:=hf y hy
  simp only [ae3,decide_eq_true_eq]; exact this
 rw [ha]
 split<;>rename_i h0
 ·rw [if_pos h0] at h; exact h
 ·rw [if_neg h0] at h
  split<;>rename_i h1
  ·rw [if_pos h1] at h; exact h
  ·rw [if_neg h1] at h
   split<;>rename_i h2
   ·rw [if_pos h2] at h; exact h
   ·rw [if_neg h2] at h
    split<;>rename_i h3
    ·rw [if_pos h3] at h
     simp only [ae3] at h ⊢
     exact⟨h.1,trivial⟩
    ·rw [if_neg h3] at h
     exact h
theorem JB {m:Nat}(hm:2 ^ 41≤m){t:bm}(ht:jw t=true):∃s R,gV.f m t=some s∧jw s=true∧s.nodes.length≤t.nodes.length∧Bim t.nodes s.nodes R∧R t.root s.root:=by
 have zN:(2:Nat) ^ 41=2199023255552:=by decide
 obtain⟨ok,_,r0,r1,_⟩:=rD ht
 obtain⟨c,ns,e,M,Q,hr⟩:=zc hm ht
 have l1:=ok.1
 have fv:=ht
 unfold jw at fv
 simp only [ae3,decide_eq_true_eq] at fv
 generalize hO:y9 c t.nodes m t.root []=O at *
 have Tp:=Q.vs.Tp
 have hlen:=Q.len
 have oP:0<O.length:=by cases O with | nil=>simp at hr | cons _ _=>simp
 have J2:∀q:Nat,q<O.length→nd ns (q:Int)=Cy c t.nodes O (gt O q):=fun q hq=>by
  have:=Q.new q (by simp) hq
  unfold nd
  rw [ae7,aff,this]; rfl
 have Wp:∀{v:Int},jg c v∈O.map (jg c)→0≤idx c O v∧idx c O v<O.length∧jg c (gt O (idx c O v).toNat)=jg c v:=fun {v} hv=>by
  have h1:=agq hv
  have h2:=List.getElem_idxOf h1
  rw [afl] at h1
  unfold idx
  refine⟨om,om,?_⟩
  rw [ae7]
  have h3:=ae8 (l:=O.map (jg c)) (i:=(O.map (jg c)).idxOf (jg c v)) (by rw [afl]; exact h1)
  rw [h2,afv,bZ h1] at h3
  exact afB h3
 refine⟨⟨ns,0⟩,fun i j=>(0≤i∧i<t.nodes.length)∧jg c i∈O.map (jg c)∧j=idx c O i,e,?_,by show ns.length≤_; omega,⟨?_,?_,?_⟩,⟨r0,r1⟩,hr,?_⟩
 ·unfold jw
  simp only [ae3,decide_eq_true_eq]
  refine⟨⟨⟨⟨om,om⟩,om⟩,om⟩,?_⟩
  rw [afr]
  intro x hx
  obtain⟨q,hq,e2⟩:=List.getElem_of_mem hx
  have h1:=Q.new q (by simp) om
  rw [ae8 hq,e2] at h1
  have h1:=afB h1
  subst h1
  have GR:=Q.vs.Cu _ (bh (l:=O) (k:=q) om)
  refine Gh (afr.1 fv.2 _ (jd GR.1 GR.2)) fun a ha=>?_
  have:=Wp (Q.arg q (by simp) om a ha)
  omega
 ·rintro i j ⟨h1,h2,rfl⟩
  have:=Wp h2
  exact⟨h1,by show 0≤_∧_<(ns.length:Int); omega⟩
 ·rintro i j ⟨h1,h2,rfl⟩
  obtain⟨a,b,d⟩:=Wp h2
  have GR:=Q.vs.Cu _ (bh (l:=O) (k:=(idx c O i).toNat) om)
  have hx:=J2 (idx c O i).toNat om
  rw [show (((idx c O i).toNat:Nat):Int)=idx c O i by omega] at hx
  rw [hx]
  have A:=(M.same h1.1 h1.2 GR.1 GR.2 d.symm).1
  exact⟨A.kind,A.int,A.label,by show _=(List.map _ _).length; rw [afl]; exact A.len⟩
 ·rintro i j ⟨h1,h2,rfl⟩ n hn
  obtain⟨a,b,d⟩:=Wp h2
  have GR:=Q.vs.Cu _ (bh (l:=O) (k:=(idx c O i).toNat) om)
  have hx:=J2 (idx c O i).toNat om
  rw [show (((idx c O i).toNat:Nat):Int)=idx c O i by omega] at hx
  rw [hx]
  obtain⟨A,hg⟩:=M.same h1.1 h1.2 GR.1 GR.2 d.symm
  have Ks:n<(nd t.nodes (gt O (idx c O i).toNat)).args.length:=by have:=A.len; omega
  have hg:=hg n hn
  have hin:=Q.arg (idx c O i).toNat (by simp) om _ (bh Ks)
  refine⟨(ok.2 _ (jd h1.1 h1.2)).2 _ (bh hn),by rw [hg]; exact hin,?_⟩
  have e1:gt (Cy c t.nodes O (gt O (idx c O i).toNat)).args n=idx c O (gt (nd t.nodes (gt O (idx c O i).toNat)).args n):=by
   have h3:=bZ (l:=(Cy c t.nodes O (gt O (idx c O i).toNat)).args) (k:=n) (by show n<(List.map _ _).length; rw [afl]; exact Ks)
   have h4:(Cy c t.nodes O (gt O (idx c O i).toNat)).args[n]? = some (idx c O (gt (nd t.nodes (gt O (idx c O i).toNat)).args n)):=by
    show (List.map _ _)[n]? = _
    rw [afv,bZ Ks]; rfl
   rw [h4] at h3; exact (afB h3).symm
  rw [e1]
  exact O6 hg.symm
 ·show (0:Int)=idx c O t.root
  have P1:=CC (cls:=c) ok m t.root [] [] _ r0 r1 ⟨by simp,fun x hx=>by cases hx⟩ (by simp; omega) (.nil _)
  rw [hO] at P1
  cases P1 with
  | skip h _=>simp at h
  | push _ k=>
   obtain⟨⟨T,e⟩,_⟩:=k.facts (n:=t.nodes.length) (fun v a b=>(ok.2 _ (jd a b)).2) (fun v hv=>by
    rcases afk.1 hv with hv | hv
    ·exact (ok.2 _ (jd r0 r1)).2 v hv
    ·cases hv) (fun v hv=>by simp at hv; subst hv; exact⟨r0,r1⟩) (by simp)
   rw [e]
   unfold idx
   simp
end Go.Proofs.YtifafejidnjckaaGreat
