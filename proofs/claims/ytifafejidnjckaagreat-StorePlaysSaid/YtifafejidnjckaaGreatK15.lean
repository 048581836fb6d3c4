/- Part of the proof: PT7, PT8, PT9, PT10, PR2, PR3, PR4, PR5, PR6, PR9, PT12, PA7, PB1, PB2, PB4, PB9. -/
import Derived.Test.YtifafejidnjckaaGreatK14
set_option linter.unusedVariables false
set_option linter.unusedSimpArgs false
set_option maxRecDepth 100000
open Bool renaming and_eq_true → aiM, false_eq_true → aiW, not_true → ajA, or_eq_true → ajE
open ByteArray renaming mk → ajg
open Int renaming toNat_natCast → aiP, natCast_nonneg → ajQ
open List renaming getElem?_eq_getElem → aiN, getElem?_eq_some_iff → aiO, mem_of_getElem? → aiS, length_append → aiT, mem_singleton → aiU, length_cons → aiX, length_map → aiY, drop_eq_getElem_cons → aiZ, getElem?_append_right → ai0, replicate → ai1, getD_eq_getElem?_getD → ai2, mem_append → ai3, length_nil → ai4, map_append → ai5, getElem?_append_left → ai6, append_assoc → ai7, getElem?_eq_none → ai8, map_cons → ai9, mem_cons → aja, take_succ_eq_append_getElem → ajb, mem_map → ajc, all_eq_true → ajd, getElem?_map → aje, mem_append_left → ajh, drop_zero → aji, nil_append → ajj, take_append_of_le_length → ajl, length_take → ajo, take_length → ajr, cons_append → ajv, length_set → ajw, all_cons → ajB, idxOf_lt_length_of_mem → ajD, ext_getElem? → ajG, getElem?_of_mem → ajH, set_append_right → ajM, range → ajP, nodup_append → ajS, take_add_one → ajY, map_congr_left → aj0, mem_range → aj6, getElem?_set → aj9, idxOf_append → aka, map_nil → akc, length_replicate → ake, length_range → akh, filter_append → akm, pairwise_map → aks
open Nat renaming le_refl → aiQ, zero_add → ajf, le_trans → ajF, sub_self → ajI, add_zero → akj, add_comm → akt
open Option renaming bind_some → aiI, map_some → aiR
open Option.some renaming injEq → aiL, inj → ajn
open Prod.mk renaming injEq → aiV
open UInt8 renaming lt_iff_toNat_lt → akf
namespace Go.Proofs.YtifafejidnjckaaGreat
open Go Go.R
open Go.IntKind (i64 u64 u8 u32)
def iH (t:bh):Bool:=decide (1≤t.nodes.length)&&decide (t.nodes.length≤8000)&&decide (0≤t.root)&&decide (t.root<t.nodes.length)&&t.nodes.all fun n=>gD n t.nodes.length
theorem qH {m:Nat}(hm:2 ^ 30≤m)(t:bh):kz.f m t=some (iH t):=by
 have vM:(2:Nat) ^ 30=1073741824:=by decide
 have Bf:(2:Nat) ^ 40=1099511627776:=by decide
 unfold kz.f iH
 by_cases h1:1≤t.nodes.length
 ·rw [if_pos dm,decide_eq_true h1]
  by_cases h2:t.nodes.length≤8000
  ·rw [if_pos dm,decide_eq_true h2]
   by_cases h3:0≤t.root
   ·rw [if_pos dm,decide_eq_true h3]
    by_cases h4:t.root<t.nodes.length
    ·rw [if_pos dm,decide_eq_true h4]
     rw [L3 (g:=fun n=>!(gD n t.nodes.length)) om om (fun n _=>by unfold jW.f; rw [L4 om]; rfl),aiI]
     simp [List.not_any_eq_all_not]
    ·rw [if_neg dm,decide_eq_false h4]; rfl
   ·rw [if_neg dm,decide_eq_false h3]; rfl
  ·rw [if_neg dm,decide_eq_false h2]; rfl
 ·rw [if_neg dm,decide_eq_false h1]; rfl
def cI (x y:Int):Int:=if x<y then -1 else if y<x then 1 else 0
def cS (x y:ByteArray):Int:=if Op.bytesLess x.data.toList y.data.toList=true then -1 else if (!NF x y)=true then 1 else 0
def L6 (x y:Int):Int:=if x=0 then y else x
def cT (a b:ak):Int:=if a.kind=b.kind then (if a.kind=3 then L6 (cI a.args.length b.args.length) (cS a.label b.label) else L6 (cS a.label b.label) (cI a.int b.int)) else cI a.kind b.kind
theorem D9 {m:Nat}(x y:Int):eS.f m x y=some (cI x y):=by
 unfold eS.f cmp_isNaN_int.f cI
 simp only [beq_self_eq_true,ajA,aiI,aiW,if_false]
 by_cases h:x<y
 ·rw [if_pos (by simpa using h),if_pos h]
 ·rw [if_neg (by simpa using h),if_neg h]
  by_cases h2:y<x
  ·rw [if_pos (by simpa using h2),if_pos h2]
  ·rw [if_neg (by simpa using h2),if_neg h2]
theorem Kt {m:Nat}(x y:ByteArray):dP.f m x y=some (cS x y):=by
 unfold dP.f cmp_isNaN_string.f cS
 simp only [beq_self_eq_true,ajA,aiI,aiW,if_false]
 split
 ·rfl
 ·split
  ·rfl
  ·rfl
theorem Ga {m:Nat}(hm:3≤m)(x y:Int):dH.f m [x,y]=some (L6 x y):=by
 obtain⟨k,rfl⟩:∃k,m=k+3:=⟨m - 3,om⟩
 unfold dH.f L6
 have e1:i64.wrap ((0:Int)+1)=1:=by decide
 have e2:i64.wrap ((1:Int)+1)=2:=by decide
 have a0:ix [x,y] 0=some x:=rfl
 have a1:ix [x,y] 1=some y:=rfl
 unfold dH.l0
 rw [if_pos (by simp),a0,aiI]
 by_cases h:x=0
 ·subst h
  rw [if_neg (by simp),e1,if_pos rfl]
  unfold dH.l0
  rw [if_pos (by simp),a1,aiI]
  by_cases h2:y=0
  ·subst h2
   rw [if_neg (by simp),e2]
   unfold dH.l0
   rw [if_neg (by simp)]; rfl
  ·rw [if_pos (by simpa using h2)]; rfl
 ·rw [if_pos (by simpa using h),if_neg h]; rfl
theorem Ku {m:Nat}(hm:3≤m)(a b:ak):fF.f m a b=some (cT a b):=by
 unfold fF.f cT
 by_cases h:a.kind=b.kind
 ·rw [if_neg (by simp [h]),if_pos h]
  by_cases h3:a.kind=3
  ·rw [if_pos (by simpa using h3),if_pos h3,D9,Kt,aiI,aiI,Ga hm]; rfl
  ·rw [if_neg (by simpa using h3),if_neg h3,D9,Kt,aiI,aiI,Ga hm]; rfl
 ·rw [if_pos (by simpa using h),if_neg h,D9]; rfl
def nd (l:List ak)(i:Int):ak:=l.getD i.toNat ⟨0,0,⟨#[]⟩,[]⟩
theorem k8 {l:List ak}{i:Int}(h0:0≤i)(h1:i<l.length):ix l i=some (nd l i):=by
 unfold ix nd
 have h:i.toNat<l.length:=by omega
 rw [if_pos h0,ai2,aiN h]; rfl
theorem jE {l:List ak}{i:Int}(h0:0≤i)(h1:i<l.length):nd l i∈l:=by
 have:=k8 h0 h1
 unfold ix at this
 rw [if_pos h0] at this
 exact aiS this
theorem Pb {m:Nat}(hm:3≤m){l:List ak}{i j:Int}(h0:0≤i)(h1:i<l.length)(h2:0≤j)(h3:j<l.length):gh.f m i j l=some (cT (nd l i) (nd l j)):=by
 unfold gh.f
 rw [k8 h0 h1,k8 h2 h3,aiI,aiI,Ku hm]; rfl
def key (out:List Int)(n:ak)(i:Nat):List Int:=(gt out i+1)::((n.args.map fun a=>gt out a.toNat+1)++ai1 (8 - n.args.length) 0)
def enum:List (List Int)→Nat→List (List Int × Int)
 | [],_=>[]
 | k::ks,s=>(k,(s:Int))::enum ks (s+1)
theorem sC:∀(ks:List (List Int)) (s:Nat),(enum ks s).length=ks.length
 | [],_=>rfl
 | k::ks,s=>by simp [enum,sC ks]
theorem AN:∀(ks:List (List Int)) (s:Nat) (k:List Int),zK (enum ks s) k=if k∈ks then (((s+ks.idxOf k:Nat):Int),true) else (0,false)
 | [],s,k=>rfl
 | a::ks,s,k=>by
  simp only [enum,zK,AN ks (s+1) k,aja,List.idxOf_cons]
  by_cases h:k=a
  ·subst h; simp
  ·have h':(a==k)=false:=by simpa using fun z:a=k=>h z.symm
   rw [if_neg h,h']
   by_cases h2:k∈ks
   ·simp only [h2,if_true,or_true,cond_false]
    simp only [aiV,and_true]
    omega
   ·simp [h2,h]
theorem Gb:∀(ks:List (List Int)) (s:Nat) (k:List Int),k∉ks→HA (enum ks s) k ((s+ks.length:Nat):Int)=enum (ks++[k]) s
 | [],s,k,_=>rfl
 | a::ks,s,k,h=>by
  have h1:k≠a:=fun z=>h (by simp [z])
  have h2:k∉ks:=fun z=>h (by simp [z])
  simp only [enum,HA,ajv,if_neg h1,aiX]
  rw [show s+(ks.length+1)=s+1+ks.length by omega,Gb ks (s+1) k h2]
theorem sV {n:Nat}:∀(ks:List (List Int)) (s:Nat) (k:List Int),k.length=n→(∀a∈ks,a.length=n)→zJ n (enum ks s) k=true
 | [],s,k,h,_=>by simp [zJ,enum,h]
 | a::ks,s,k,h,h2=>by
  have:=sV ks (s+1) k h fun a ha=>h2 a (by simp [ha])
  simp only [zJ,aiM,beq_iff_eq,h,true_and] at this ⊢
  simp only [enum,ajB,aiM,beq_iff_eq]
  exact⟨h2 a (by simp),this⟩
structure Part (n:Nat)(out:List Int)(many:Nat):Prop where
 len:out.length=n
 ti:∀i,i<n→0≤gt out i∧gt out i≤many
 sur:∀v:Nat,v≤many→∃i,i<n∧gt out i=v
structure xg (l:List ak)(out:List Int)(p:Nat)(ks:List (List Int)):Prop where
 Qm:ks.Nodup
 mem:∀k,k∈ks↔∃i,i<p∧key out (nd l i) i=k
def nY (l:List ak):Prop:=l.length≤8000∧∀n∈l,n.args.length≤8∧∀a∈n.args,0≤a∧a<l.length
theorem RR {a:Int}{L:List Int}{t:Nat}{v:Int}(hL:L.length=t)(ht:t<8):(a::(L++ai1 (8 - t) 0)).set (t+1) v=a::((L++[v])++ai1 (8 - (t+1)) 0):=by
 rw [List.set_cons_succ,ajM _ _ om,hL,ajI,show 8 - t=(8 - (t+1))+1 by omega,List.replicate_succ,List.set_cons_zero,ai7]
 rfl
theorem Pc {m:Nat}{out:List Int}{n:ak}(h8:n.args.length≤8)(ha:∀a∈n.args,0≤a∧a<out.length)(ho:∀i,i<out.length→0≤gt out i∧gt out i<2 ^ 40)(o:Int):∀(f t:Nat),n.args.length - t<f→t≤n.args.length→
  ∃x,aM.l4 m out n f (o::(((n.args.take t).map fun a=>gt out a.toNat+1)++ai1 (8 - t) 0)) (t:Int)=some (o::((n.args.map fun a=>gt out a.toNat+1)++ai1 (8 - n.args.length) 0),x)
 | 0,t,hf,_=>absurd hf om
 | f+1,t,hf,ht=>by
  have Bf:(2:Nat) ^ 40=1099511627776:=by decide
  have i40:(2:Int) ^ 40=1099511627776:=by decide
  unfold aM.l4
  by_cases h:t<n.args.length
  ·have hx:ix n.args (t:Int)=some (gt n.args t):=er h
   obtain⟨b0,b1⟩:=ha _ (bC h)
   obtain⟨c0,c1⟩:=ho (gt n.args t).toNat om
   have hy:ix out (gt n.args t)=some (gt out (gt n.args t).toNat):=iV om om
   have e1:i64.wrap ((t:Int)+1)=((t+1:Nat):Int):=by rw [bL om om]; omega
   have hT:((n.args.take t).map fun a=>gt out a.toNat+1).length=t:=by simp; omega
   have hz:∃z,ix (o::(((n.args.take t).map fun a=>gt out a.toNat+1)++ai1 (8 - t) 0)) ((t+1:Nat):Int)=some z:=⟨_,er (by simp; omega)⟩
   obtain⟨z,hz⟩:=hz
   obtain⟨x,ih⟩:=Pc (m:=m) h8 ha ho o f (t+1) om om
   have hT1:n.args.take (t+1)=n.args.take t++[gt n.args t]:=by rw [ajY,cz h]; rfl
   rw [hT1,ai5] at ih
   rw [if_pos dm,hx,aiI,hy,aiI,e1,hz,aiI,aiP,bL (x:=gt out (gt n.args t).toNat+1) om om,RR hT om]
   exact⟨x,ih⟩
  ·have:t=n.args.length:=by omega
   subst this
   exact⟨_,by rw [if_neg (by simp),ajr]⟩
theorem AO {out:List Int}{n:ak}{i:Nat}(h8:n.args.length≤8):(key out n i).length=9:=by simp [key]; omega
theorem Gc {l:List ak}(ok:nY l){i:Nat}(h:i<l.length):(nd l i).args.length≤8∧∀a∈(nd l i).args,0≤a∧a<l.length:=ok.2 _ (jE om om)
theorem Ib {m:Nat}(hm:2 ^ 30≤m){l:List ak}{out:List Int}{many:Nat}(ok:nY l)(P:Part l.length out many)(Tq:many<2 ^ 30):∀(f p:Nat) (ks:List (List Int)) (next:List Int),l.length - p<f→p≤l.length→xg l out p ks→next.length=l.length→
  (∀i,i<p→gt next i=(ks.idxOf (key out (nd l i) i):Int))→
  ∃ks' next' x,aM.l3 m l out f (enum ks 0) next (p:Int)=some (enum ks' 0,next',x)∧xg l out l.length ks'∧next'.length=l.length∧∀i,i<l.length→gt next' i=(ks'.idxOf (key out (nd l i) i):Int)
 | 0,p,ks,next,hf,_,_,_,_=>absurd hf om
 | f+1,p,ks,next,hf,hp,K,hn,hg=>by
  have vM:(2:Nat) ^ 30=1073741824:=by decide
  have Bf:(2:Nat) ^ 40=1099511627776:=by decide
  have i40:(2:Int) ^ 40=1099511627776:=by decide
  have h8000:=ok.1
  have QC:=P.len
  unfold aM.l3
  by_cases h:p<l.length
  ·obtain⟨n1,n2⟩:=Gc ok h
   obtain⟨r0,r1⟩:=P.ti p h
   have e1:i64.wrap ((p:Int)+1)=((p+1:Nat):Int):=by rw [bL om om]; omega
   obtain⟨x,hk⟩:=Pc (m:=m) (out:=out) (n:=nd l p) n1 (by rw [QC]; exact n2) (fun i hi=>by have:=P.ti i om; omega) (gt out p+1) m 0 om om
   have hk:aM.l4 m out (nd l p) m [gt out p+1,0,0,0,0,0,0,0,0] 0=some (key out (nd l p) p,x):=hk
   have Zl:=AO (out:=out) (i:=p) n1
   have Hj:∀a∈ks,a.length=9:=fun a ha=>by
    obtain⟨i,hi,rfl⟩:=(K.mem a).1 ha
    exact AO (Gc ok om).1
   have Ys:∃z,ix next (p:Int)=some z:=⟨_,er om⟩
   obtain⟨z,hz⟩:=Ys
   rw [if_pos dm,k8 om om,aiI,er om,aiI,bL (x:=gt out p+1) om om,hk,aiI]
   dsimp only
   have hG:Q3 9 (enum ks 0) (key out (nd l p) p)=some (if key out (nd l p) p∈ks then (((ks.idxOf (key out (nd l p) p):Nat):Int),true) else (0,false)):=by
    unfold Q3; rw [if_pos (sV _ _ _ Zl Hj),AN,ajf]
   rw [hG,aiI,e1,hz]
   by_cases hin:key out (nd l p) p∈ks
   ·rw [if_pos hin,if_neg (by simp),aiI,aiI,aiP]
    refine Ib hm ok P Tq f (p+1) ks _ om om ⟨K.Qm,fun k=>⟨fun hk=>?_,fun ⟨i,hi,wk⟩=>?_⟩⟩ (by simpa using hn) (fun i hi=>?_)
    ·obtain⟨i,hi,h⟩:=(K.mem k).1 hk; exact⟨i,om,h⟩
    ·by_cases RU:i=p
     ·subst RU; rw [←wk]; exact hin
     ·exact (K.mem k).2 ⟨i,om,wk⟩
    ·rw [iG om]
     by_cases RU:i=p
     ·subst RU; rw [if_pos rfl]
     ·rw [if_neg RU]; exact hg i om
   ·have hS:Xc 9 (enum ks 0) (key out (nd l p) p) (((enum ks 0).length:Nat):Int)=some (enum (ks++[key out (nd l p) p]) 0):=by
     unfold Xc; rw [if_pos (sV _ _ _ Zl Hj),sC]
     have:=Gb ks 0 _ hin
     rw [ajf] at this
     rw [this]
    have hid:(ks++[key out (nd l p) p]).idxOf (key out (nd l p) p)=ks.length:=by
     rw [aka,if_neg hin,List.idxOf_cons_self,ajf]
    have hG2:Q3 9 (enum (ks++[key out (nd l p) p]) 0) (key out (nd l p) p)=some (((ks.length:Nat):Int),true):=by
     unfold Q3
     rw [if_pos (sV _ _ _ Zl (fun a ha=>by rcases ai3.1 ha with ha | ha; exact Hj a ha; simp only [aiU] at ha; rw [ha]; exact Zl)),AN,if_pos (by simp),ajf,hid]
    rw [if_neg hin,if_pos (by simp),hS,aiI,hG2,aiI,aiI,aiP]
    refine Ib hm ok P Tq f (p+1) (ks++[key out (nd l p) p]) _ om om ⟨?_,fun k=>⟨fun hk=>?_,fun ⟨i,hi,wk⟩=>?_⟩⟩ (by simpa using hn) (fun i hi=>?_)
    ·rw [ajS]
     refine⟨K.Qm,by simp,fun a ha b hb=>?_⟩
     simp only [aiU] at hb
     subst hb; intro e; subst e; exact hin ha
    ·rcases ai3.1 hk with hk | hk
     ·obtain⟨i,hi,h⟩:=(K.mem k).1 hk; exact⟨i,om,h⟩
     ·simp only [aiU] at hk; exact⟨p,om,hk.symm⟩
    ·by_cases RU:i=p
     ·subst RU; rw [←wk]; simp
     ·exact ajh _ ((K.mem k).2 ⟨i,om,wk⟩)
    ·rw [iG om]
     by_cases RU:i=p
     ·subst RU; rw [if_pos rfl,hid]
     ·rw [if_neg RU,aka,if_pos ((K.mem _).2 ⟨i,om,rfl⟩)]; exact hg i om
  ·have:p=l.length:=by omega
   subst this
   exact⟨ks,next,_,by rw [if_neg (by simp)],K,hn,hg⟩
theorem RV {l:List ak}{out:List Int}{ks:List (List Int)}(K:xg l out l.length ks):ks.length≤l.length:=by
 have:=K.Qm.length_le_of_subset (l₂:=(ajP l.length).map fun i:Nat=>key out (nd l i) i) (fun k hk=>by
  obtain⟨i,hi,h⟩:=(K.mem k).1 hk
  exact ajc.2 ⟨i,aj6.2 hi,h⟩)
 simpa using this
theorem Kv {l:List ak}{out:List Int}{many:Nat}{ks:List (List Int)}(P:Part l.length out many)(K:xg l out l.length ks):many+1≤ks.length:=by
 have hn:((ajP (many+1)).map fun v:Nat=>((v:Int)+1)).Nodup:=by
  unfold List.Nodup
  rw [aks]
  exact List.Pairwise.imp (fun h=>by omega) List.nodup_range
 have:=hn.length_le_of_subset (l₂:=ks.map fun k=>k.headD 0) (fun x hx=>by
  obtain⟨v,hv,rfl⟩:=ajc.1 hx
  obtain⟨i,hi,h⟩:=P.sur v (by have:=aj6.1 hv; omega)
  exact ajc.2 ⟨_,(K.mem _).2 ⟨i,hi,rfl⟩,by simp [key,h]⟩)
 simpa using this
theorem L7 {l:List ak}{out next:List Int}{many:Nat}{ks:List (List Int)}(P:Part l.length out many)(K:xg l out l.length ks)(hn:next.length=l.length)(hg:∀i,i<l.length→gt next i=(ks.idxOf (key out (nd l i) i):Int)):Part l.length next (ks.length - 1):=by
 have:=Kv P K
 refine⟨hn,fun i hi=>?_,fun v hv=>?_⟩
 ·have:=ajD ((K.mem _).2 ⟨i,hi,rfl⟩)
  rw [hg i hi]; omega
 ·have hv:v<ks.length:=by omega
  obtain⟨i,hi,h⟩:=(K.mem _).1 (List.getElem_mem hv)
  refine⟨i,hi,?_⟩
  rw [hg i hi,h,K.Qm.idxOf_getElem]
theorem Pd {m:Nat}(hm:2 ^ 30≤m){l:List ak}(ok:nY l)(Inv:List Int→Prop)
  (hI:∀out many ks next,Part l.length out many→Inv out→xg l out l.length ks→next.length=l.length→(∀i,i<l.length→gt next i=(ks.idxOf (key out (nd l i) i):Int))→Inv next):∀(f:Nat) (out:List Int) (many:Nat),l.length - many<f→many<l.length→Part l.length out many→Inv out→
  ∃r Ts ks,aM.l2 m l f out (many:Int)=some (.inl r)∧Part l.length r Ts∧Inv r∧xg l r l.length ks∧ks.length=Ts+1
 | 0,out,many,hf,_,_,_=>absurd hf om
 | f+1,out,many,hf,hlt,P,I=>by
  have vM:(2:Nat) ^ 30=1073741824:=by decide
  have h8000:=ok.1
  unfold aM.l2
  have e0:sY 8 (l.length:Int) (0:Int)=some (ai1 l.length 0):=by unfold sY; rw [if_pos ⟨om,by rw [aiP]; omega⟩,aiP]
  obtain⟨ks,next,x,h1,K,hn,hg⟩:=Ib hm ok P om m 0 [] (ai1 l.length 0) om om ⟨by simp,fun k=>⟨fun h=>by simp at h,fun ⟨i,hi,_⟩=>absurd hi om⟩⟩ (by simp) (fun i hi=>absurd hi om)
  have h1:aM.l3 m l out m [] (ai1 l.length 0) 0=_:=h1
  have g1:=RV K
  have g2:=Kv P K
  rw [e0,aiI,h1,aiI]
  dsimp only
  rw [sC,bL (x:=(many:Int)+1) om om,bL (x:=(ks.length:Int) - 1) om om]
  by_cases h:ks.length=many+1
  ·rw [if_pos (by simp; omega)]
   exact⟨out,many,ks,rfl,P,I,K,h⟩
  ·rw [if_neg (by simp; omega),show (ks.length:Int) - 1=((ks.length - 1:Nat):Int) by omega]
   exact Pd hm ok Inv hI f next (ks.length - 1) om om (L7 P K hn hg) (hI _ _ _ _ P I K hn hg)
def ints (n:Nat):List Int:=(ajP n).map fun k:Nat=>(k:Int)
theorem hU (n:Nat):(ints n).length=n:=by simp [ints]
theorem RW {n k:Nat}(h:k<n):gt (ints n) k=k:=by
 have h1:=cz (l:=ints n) (k:=k) (by rw [hU]; exact h)
 have h2:(ints n)[k]? = some (k:Int):=by
  unfold ints
  rw [aje,aiN (by simpa using h)]
  simp
 rw [h2] at h1; exact (ajn h1).symm
theorem lY {n:Nat}{x:Int}:x∈ints n↔0≤x∧x<n:=by
 unfold ints
 rw [ajc]
 constructor
 ·rintro⟨k,hk,rfl⟩; have:=aj6.1 hk; omega
 ·intro h; exact⟨x.toNat,aj6.2 om,om⟩
theorem Ic (n:Nat):(ints n).Nodup:=by
 unfold ints List.Nodup
 rw [aks]
 exact List.Pairwise.imp (fun h=>by omega) List.nodup_range
theorem AP {l:List Int}(h:l.Nodup){i j:Nat}(hi:i<l.length)(hj:j<l.length)(e:gt l i=gt l j):i=j:=by
 have h1:=cz hi
 have h2:=cz hj
 rw [aiN hi] at h1
 rw [aiN hj] at h2
 have h1:=ajn h1
 have h2:=ajn h2
 exact (List.getElem_inj (h₀:=hi) (h₁:=hj) h).1 (by rw [h1,h2,e])
theorem jd {l:List Int}{x:Int}(h:x∈l):∃k,k<l.length∧gt l k=x:=by
 obtain⟨k,hk,e⟩:=List.getElem_of_mem h
 refine⟨k,hk,?_⟩
 have h1:=cz hk
 rw [aiN hk,e] at h1
 exact (ajn h1).symm
theorem Pe {m:Nat}{z:List Int}(hz:z.length<2 ^ 40):∀(f i:Nat) (d:List Int),z.length - i<f→i≤z.length→d.length=z.length→(∀k,k<i→gt d k=k)→
  ∃x,aM.l0 m z f d (i:Int)=some (ints z.length,x)
 | 0,i,d,hf,_,_,_=>absurd hf om
 | f+1,i,d,hf,hi,hd,hg=>by
  have Bf:(2:Nat) ^ 40=1099511627776:=by decide
  unfold aM.l0
  by_cases h:i<z.length
  ·obtain⟨v,hv⟩:∃v,ix d (i:Int)=some v:=⟨_,er om⟩
   rw [if_pos dm,hv,aiI,aiP,bL om om,show (i:Int)+1=((i+1:Nat):Int) by omega]
   refine Pe hz f (i+1) _ om om (by simpa using hd) fun k hk=>?_
   rw [iG om]
   by_cases e:k=i
   ·subst e; rw [if_pos rfl]
   ·rw [if_neg e]; exact hg k om
  ·refine⟨i,?_⟩
   rw [if_neg dm]
   have:d=ints z.length:=H4 (by rw [hU,hd]) fun k hk=>by rw [hg k om,RW om]
   rw [this]
def rk (l:List ak)(d:List Int):Nat→Nat
 | 0=>0
 | k+1=>rk l d k+if cT (nd l (gt d k)) (nd l (gt d (k+1)))=0 then 0 else 1
theorem Pf (l:List ak)(d:List Int):∀k,rk l d k≤k
 | 0=>aiQ _
 | k+1=>by have:=Pf l d k; unfold rk; split<;>omega
theorem Ea (l:List ak)(d:List Int)(i:Nat):∀j,i≤j→rk l d i≤rk l d j
 | 0,h=>by
   have:i=0:=by omega
   subst this; exact aiQ _
 | j+1,h=>by
  by_cases e:i=j+1
  ·subst e; exact aiQ _
  ·have:=Ea l d i j om
   show _≤rk l d j+_
   omega
theorem Pg (l:List ak)(d:List Int):∀(j v:Nat),v≤rk l d j→∃k,k≤j∧rk l d k=v
 | 0,v,h=>⟨0,aiQ _,by unfold rk at h ⊢; omega⟩
 | j+1,v,h=>by
  by_cases e:v=rk l d (j+1)
  ·exact⟨j+1,aiQ _,e.symm⟩
  ·have h2:rk l d (j+1)≤rk l d j+1:=by show rk l d j+_≤_; split<;>omega
   obtain⟨k,hk,e⟩:=Pg l d j v om
   exact⟨k,om,e⟩
theorem Ph {m:Nat}(hm:3≤m){l:List ak}{o d:List Int}(hl:l.length≤8000)(ho:o.length=l.length)(hp:d.Perm (ints l.length)):∀(f p:Nat) (out:List Int),l.length - p<f→p≤l.length→out.length=l.length→(∀k,k<p→gt out (gt d k).toNat=rk l d k)→
  ∃rE x,aM.l1 m l o d f out ((rk l d (p - 1):Nat):Int) (p:Int)=some (rE,((rk l d (l.length - 1):Nat):Int),x)∧rE.length=l.length∧∀k,k<l.length→gt rE (gt d k).toNat=rk l d k
 | 0,p,out,hf,_,_,_=>absurd hf om
 | f+1,p,out,hf,Eo,Yt,hg=>by
  have iC:d.length=l.length:=by rw [hp.length_eq,hU]
  have hd:∀k,k<l.length→0≤gt d k∧gt d k<l.length:=fun k hk=>lY.1 (hp.mem_iff.1 (bC om))
  have Ie:d.Nodup:=hp.symm.nodup (Ic _)
  unfold aM.l1
  by_cases h:p<l.length
  ·obtain⟨d0,d1⟩:=hd p h
   have Hl:∀k,k<p+1→gt (out.set (gt d p).toNat ((rk l d p:Nat):Int)) (gt d k).toNat=rk l d k:=fun k hk=>by
    rw [iG om]
    by_cases e:k=p
    ·subst e; rw [if_pos rfl]
    ·have:gt d k≠gt d p:=fun h=>e (AP Ie om om h)
     have:=hd k om
     rw [if_neg om]; exact hg k om
   obtain⟨z,hz⟩:∃z,ix out (gt d p)=some z:=⟨_,iV (k:=(gt d p).toNat) om om⟩
   have e1:i64.wrap ((p:Int)+1)=((p+1:Nat):Int):=by rw [bL om om]; omega
   have hr:=Pf l d p
   have IH:=Ph hm hl ho hp f (p+1) (out.set (gt d p).toNat ((rk l d p:Nat):Int)) om om (by simpa using Yt) Hl
   rw [show p+1 - 1=p by omega] at IH
   rw [if_pos dm,er om,aiI]
   by_cases h0:0<p
   ·obtain⟨q,rfl⟩:∃q,p=q+1:=⟨p - 1,om⟩
    obtain⟨q0,q1⟩:=hd q om
    rw [show q+1 - 1=q by omega]
    have e2:i64.wrap (((q+1:Nat):Int) - 1)=(q:Int):=by rw [bL om om]; omega
    rw [if_pos dm,e2,er om,aiI,k8 q0 q1,aiI,k8 d0 d1,aiI,Ku hm,aiI,hz,e1]
    by_cases hc:cT (nd l (gt d q)) (nd l (gt d (q+1)))=0
    ·have hrk:rk l d (q+1)=rk l d q:=by show rk l d q+_=_; rw [if_pos hc]; omega
     rw [if_neg (by simp [hc]),aiI]
     rw [hrk] at IH; exact IH
    ·have hrk:rk l d (q+1)=rk l d q+1:=by show rk l d q+_=_; rw [if_neg hc]
     rw [if_pos (by simpa using hc),aiI,bL om om]
     rw [hrk] at IH; exact IH
   ·have:p=0:=by omega
    subst this
    rw [if_neg (by simp),hz,aiI,e1]
    exact IH
  ·have:p=l.length:=by omega
   subst this
   exact⟨out,_,by rw [if_neg dm],Yt,hg⟩
theorem RX {m:Nat}(hm:3≤m)(l:List ak):Cm (fun y0 y1=>gh.f m y0 y1 l) (fun x y=>cT (nd l x) (nd l y)) (ints l.length):=fun x hx y hy=>by
 have hx:=lY.1 hx
 have hy:=lY.1 hy
 exact Pb hm hx.1 hx.2 hy.1 hy.2
theorem Eb {m:Nat}(hm:2 ^ 41≤m){l:List ak}(ok:nY l)(h1:1≤l.length)(Inv:List Int→Prop)
  (hI0:∀d out,d.Perm (ints l.length)→(Ord (fun x y=>cT (nd l x) (nd l y)) (ints l.length)→Sg (fun x y=>cT (nd l x) (nd l y)) d 0 l.length)→(∀k,k<l.length→gt out (gt d k).toNat=rk l d k)→Inv out)
  (hI:∀out many ks next,Part l.length out many→Inv out→xg l out l.length ks→next.length=l.length→(∀i,i<l.length→gt next i=(ks.idxOf (key out (nd l i) i):Int))→Inv next) :
  ∃r many ks,aM.f m l=some r∧Part l.length r many∧Inv r∧xg l r l.length ks∧ks.length=many+1:=by
 have Bf:(2:Nat) ^ 40=1099511627776:=by decide
 have yG:(2:Nat) ^ 41=2199023255552:=by decide
 have vM:(2:Nat) ^ 30=1073741824:=by decide
 have h8000:=ok.1
 have e0:sY 8 (l.length:Int) (0:Int)=some (ai1 l.length 0):=by unfold sY; rw [if_pos ⟨om,by rw [aiP]; omega⟩,aiP]
 unfold aM.f
 obtain⟨x,k1⟩:=Pe (m:=m) (z:=ai1 l.length 0) (by simp; omega) m 0 (ai1 l.length 0) (by simp; omega) om rfl (fun k hk=>absurd hk om)
 have k1:aM.l0 m (ai1 l.length 0) m (ai1 l.length 0) 0=_:=k1
 rw [ake] at k1
 rw [e0,aiI,k1,aiI]
 dsimp only
 obtain⟨d,k2,hp,hs⟩:=L5 hm (l:=ints l.length) (by rw [hU]; omega) (RX (m:=m) om l)
 rw [k2,aiI,aiI]
 obtain⟨out,x,k3,ho,hg⟩:=Ph (m:=m) (l:=l) (o:=ints l.length) (d:=d) om h8000 (hU _) hp m 0 (ai1 l.length 0) om om (by simp) (fun k hk=>absurd hk om)
 have k3:aM.l1 m l (ints l.length) d m (ai1 l.length 0) 0 0=_:=k3
 rw [k3,aiI]
 dsimp only
 rw [hU] at hs
 have iC:d.length=l.length:=by rw [hp.length_eq,hU]
 have hP:Part l.length out (rk l d (l.length - 1)):=by
  refine⟨ho,fun i hi=>?_,fun v hv=>?_⟩
  ·obtain⟨k,hk,e⟩:=jd (hp.mem_iff.2 (lY.2 (show 0≤(i:Int)∧(i:Int)<l.length by omega)))
   have:=hg k om
   rw [e,aiP] at this
   have h2:=Ea l d k (l.length - 1) om
   omega
  ·obtain⟨k,hk,e⟩:=Pg l d _ v hv
   have Qv:k<l.length:=by omega
   have:=lY.1 (hp.mem_iff.1 (bC (l:=d) (k:=k) om))
   exact⟨(gt d k).toNat,om,by rw [hg k Qv,e]⟩
 have TQ:=Pf l d (l.length - 1)
 obtain⟨r,many,ks,k4,P,I,K,Hj⟩:=Pd (m:=m) om ok Inv hI m out (rk l d (l.length - 1)) om om hP (hI0 d out hp hs hg)
 rw [k4]
 exact⟨r,many,ks,rfl,P,I,K,Hj⟩
def pA:List Int→Nat→List (Int × Int)
 | [],_=>[]
 | k::ks,s=>(k,(s:Int))::pA ks (s+1)
theorem Cp:∀(ks:List Int) (s:Nat) (k:Int),qX (pA ks s) k=if k∈ks then (((s+ks.idxOf k:Nat):Int),true) else (0,false)
 | [],s,k=>rfl
 | a::ks,s,k=>by
  simp only [pA,qX,Cp ks (s+1) k,aja,List.idxOf_cons]
  by_cases h:k=a
  ·subst h; simp
  ·have h':(a==k)=false:=by simpa using fun z:a=k=>h z.symm
   rw [if_neg h,h']
   by_cases h2:k∈ks
   ·simp only [h2,if_true,or_true,cond_false]
    simp only [aiV,and_true]
    omega
   ·simp [h2,h]
theorem Cq:∀(ks:List Int) (s:Nat) (k:Int),k∉ks→Es (pA ks s) k ((s+ks.length:Nat):Int)=pA (ks++[k]) s
 | [],s,k,_=>rfl
 | a::ks,s,k,h=>by
  have h1:k≠a:=fun z=>h (by simp [z])
  have h2:k∉ks:=fun z=>h (by simp [z])
  simp only [pA,Es,ajv,if_neg h1,aiX]
  rw [show s+(ks.length+1)=s+1+ks.length by omega,Cq ks (s+1) k h2]
def iL (cls:List Int)(a:Int):Int:=gt cls a.toNat
def idx (cls o:List Int)(a:Int):Int:=((o.map (iL cls)).idxOf (iL cls a):Nat)
def BA (cls:List Int)(l:List ak)(o:List Int)(i:Int):ak:=⟨(nd l i).kind,(nd l i).int,(nd l i).label,(nd l i).args.map (idx cls o)⟩
def xQ (cls:List Int)(l:List ak):Nat→Int→List Int→List Int
 | 0,_,o=>o
 | k+1,i,o=>if iL cls i∈o.map (iL cls) then o else (nd l i).args.foldl (fun o a=>xQ cls l k a o) (o++[i])
structure Vs (cls:List Int)(n:Nat)(o:List Int):Prop where
 Qm:(o.map (iL cls)).Nodup
 ti:∀x∈o,0≤x∧x<n
structure Ps (cls:List Int)(l:List ak)(o o':List Int)(ns If:List ak):Prop where
 vs:Vs cls l.length o'
 pre:∃t,o'=o++t
 len:If.length=o'.length
 old:∀k,k<o.length→If[k]? = ns[k]?
 new:∀k,o.length≤k→k<o'.length→If[k]? = some (BA cls l o' (gt o' k))
 arg:∀k,o.length≤k→k<o'.length→∀a∈(nd l (gt o' k)).args,iL cls a∈o'.map (iL cls)
theorem Vs.Cr {cls:List Int}{n:Nat}{o:List Int}(v:Vs cls n o):o.length≤n:=by
 have hn:o.Nodup:=by
  have:=v.Qm
  unfold List.Nodup at this ⊢
  rw [aks] at this
  exact List.Pairwise.imp (fun h e=>h (by rw [e])) this
 have:=hn.length_le_of_subset (l₂:=ints n) (fun x hx=>lY.2 (v.ti x hx))
 rwa [hU] at this
theorem Ps.refl {cls:List Int}{l:List ak}{o:List Int}{ns:List ak}(v:Vs cls l.length o)(h:ns.length=o.length):Ps cls l o o ns ns:=
 ⟨v,⟨[],by simp⟩,h,fun _ _=>rfl,fun k h1 h2=>by omega,fun k h1 h2=>by omega⟩
theorem lE {a b:List Int}{k:Nat}(h:k<a.length):gt (a++b) k=gt a k:=by
 unfold gt; rw [ai2,ai2,ai6 h]
theorem ur {cls o t:List Int}{a:Int}(h:iL cls a∈o.map (iL cls)):idx cls (o++t) a=idx cls o a:=by
 unfold idx; rw [ai5,aka,if_pos h]
theorem Gd {cls:List Int}{l:List ak}{o t:List Int}{i:Int}(h:∀a∈(nd l i).args,iL cls a∈o.map (iL cls)):BA cls l (o++t) i=BA cls l o i:=by
 unfold BA
 congr 1
 exact aj0 fun a ha=>ur (h a ha)
theorem Ps.trans {cls:List Int}{l:List ak}{o o1 o2:List Int}{ns n1 n2:List ak}(a:Ps cls l o o1 ns n1)(b:Ps cls l o1 o2 n1 n2):Ps cls l o o2 ns n2:=by
 obtain⟨t1,rfl⟩:=a.pre
 obtain⟨t2,rfl⟩:=b.pre
 have hl:(o++t1).length=o.length+t1.length:=by simp
 refine⟨b.vs,⟨t1++t2,by simp⟩,b.len,fun k hk=>(b.old k om).trans (a.old k hk),fun k h1 h2=>?_,fun k h1 h2 x hx=>?_⟩
 ·by_cases h:k<(o++t1).length
  ·rw [b.old k h,a.new k h1 h,lE h,Gd (a.arg k h1 h)]
  ·exact b.new k om h2
 ·by_cases h:k<(o++t1).length
  ·rw [lE h] at hx
   rw [ai5]
   exact ajh _ (a.arg k h1 h x hx)
  ·exact b.arg k om h2 x hx
section
variable {m:Nat}{cls:List Int}{l:List ak}{root:Int}
abbrev Yu:=Int→(List (Int × Int))→(List Int)→bh→bh→Option (Int × (List (Int × Int)) × bh)
def Tt (cls:List Int)(l:List ak)(root:Int)(rec:Yu)(df:Int→List Int→List Int)(need:Nat):Prop:=∀(i:Int) (o:List Int) (ns:List ak),0≤i→i<l.length→Vs cls l.length o→ns.length=o.length→l.length<need+o.length→
 ∃If,rec i (pA (o.map (iL cls)) 0) cls ⟨ns,0⟩ ⟨l,root⟩=some (idx cls (df i o) i,pA ((df i o).map (iL cls)) 0,⟨If,0⟩)∧Ps cls l o (df i o) ns If∧iL cls i∈(df i o).map (iL cls)
theorem Pj {rec:Yu}{df:Int→List Int→List Int}{need:Nat}(hm:2 ^ 30≤m)(ok:nY l)(V:Tt cls l root rec df need){v:ak}(h8:v.args.length≤8)(ha:∀a∈v.args,0≤a∧a<l.length){o0:List Int}{ns0:List ak}(Yv:l.length<need+o0.length):∀(f t:Nat) (o:List Int) (ns:List ak),v.args.length - t<f→t≤v.args.length→Ps cls l o0 o ns0 ns→(∀a∈v.args.take t,iL cls a∈o.map (iL cls))→
  ∃o' If x,o'=(v.args.drop t).foldl (fun o a=>df a o) o∧bO.l0 m cls ⟨l,root⟩ rec v f ((v.args.take t).map (idx cls o)) (t:Int) (pA (o.map (iL cls)) 0) ⟨ns,0⟩=some (v.args.map (idx cls o'),x,pA (o'.map (iL cls)) 0,⟨If,0⟩)∧Ps cls l o0 o' ns0 If∧∀a∈v.args,iL cls a∈o'.map (iL cls)
 | 0,t,o,ns,hf,_,_,_=>absurd hf om
 | f+1,t,o,ns,hf,ht,P,hin=>by
  have vM:(2:Nat) ^ 30=1073741824:=by decide
  unfold bO.l0
  by_cases h:t<v.args.length
  ·obtain⟨b0,b1⟩:=ha _ (bC h)
   have ho0:o0.length≤o.length:=by obtain⟨s,rfl⟩:=P.pre; simp
   obtain⟨ns1,k1,P1,Y3⟩:=V (gt v.args t) o ns b0 b1 P.vs P.len om
   obtain⟨s,hs⟩:=P1.pre
   have hT1:v.args.take (t+1)=v.args.take t++[gt v.args t]:=by rw [ajY,cz h]; rfl
   have hD:v.args.drop t=gt v.args t::v.args.drop (t+1):=by
    obtain⟨h4,h5⟩:=aiO.1 (cz h)
    rw [←h5]; exact aiZ h4
   have aco:∀a∈v.args.take (t+1),iL cls a∈(df (gt v.args t) o).map (iL cls):=fun a ha=>by
    rw [hT1] at ha
    rcases ai3.1 ha with ha | ha
    ·rw [hs,ai5]; exact ajh _ (hin a ha)
    ·simp only [aiU] at ha; subst ha; exact Y3
   obtain⟨o',If,x,e,k2,P2,h2⟩:=Pj hm ok V h8 ha Yv f (t+1) (df (gt v.args t) o) ns1 om om (P.trans P1) aco
   refine⟨o',If,x,by rw [hD]; exact e,?_,P2,h2⟩
   have e1:i64.wrap ((t:Int)+1)=((t+1:Nat):Int):=by rw [bL om om]; omega
   have ux:app 8 ((v.args.take t).map (idx cls o)) [idx cls (df (gt v.args t) o) (gt v.args t)]=some ((v.args.take (t+1)).map (idx cls (df (gt v.args t) o))):=by
    unfold app
    rw [if_pos (by simp; omega),hT1,ai5]
    congr 2
    exact aj0 fun a ha=>by rw [hs]; exact (ur (hin a ha)).symm
   rw [if_pos dm,er h,aiI,k1,aiI,ux,aiI,e1]
   exact k2
  ·have:t=v.args.length:=by omega
   subst this
   rw [ajr] at hin ⊢
   exact⟨o,ns,_,by rw [List.drop_length]; rfl,by rw [if_neg (by simp)],P,hin⟩
theorem AQ (hm:2 ^ 30≤m)(ok:nY l)(hc:cls.length=l.length):∀k,Tt cls l root (bO.f m k) (xQ cls l k) k
 | 0=>fun i o ns h0 h1 v hl hn=>absurd v.Cr om
 | k+1=>fun i o ns h0 h1 v hl hn=>by
  have vM:(2:Nat) ^ 30=1073741824:=by decide
  have h8000:=ok.1
  have RY:=v.Cr
  show ∃If,bO.b m (bO.f m k) i (pA (o.map (iL cls)) 0) cls ⟨ns,0⟩ ⟨l,root⟩=_∧_
  unfold bO.b
  have hx:ix cls i=some (iL cls i):=iV om om
  rw [hx,aiI,Cp,ajf]
  by_cases h:iL cls i∈o.map (iL cls)
  ·have hd:xQ cls l (k+1) i o=o:=by unfold xQ; rw [if_pos h]
   rw [hd,if_pos h]
   exact⟨ns,rfl,Ps.refl v hl,h⟩
  ·have hd:xQ cls l (k+1) i o=(nd l i).args.foldl (fun o a=>xQ cls l k a o) (o++[i]):=by
    show (if iL cls i∈o.map (iL cls) then o else (nd l i).args.foldl (fun o a=>xQ cls l k a o) (o++[i]))=_
    rw [if_neg h]
   have v1:Vs cls l.length (o++[i]):=by
    refine⟨?_,fun x hx=>?_⟩
    ·rw [ai5,ajS]
     refine⟨v.Qm,by simp,fun a ha b hb=>?_⟩
     simp only [ai9,akc,aiU] at hb
     subst hb; intro e; subst e; exact h ha
    ·rcases ai3.1 hx with hx | hx
     ·exact v.ti x hx
     ·simp only [aiU] at hx; subst hx; exact⟨h0,h1⟩
   have Ge:=v1.Cr
   simp only [aiT,aiX,ai4] at Ge
   have ux:app 56 ns [(⟨(nd l i).kind,(nd l i).int,(nd l i).label,[]⟩:ak)]=some (ns++[⟨(nd l i).kind,(nd l i).int,(nd l i).label,[]⟩]):=by
    unfold app; rw [if_pos (by simp; omega)]
   have WV:Es (pA (o.map (iL cls)) 0) (iL cls i) ((ns.length:Nat):Int)=pA ((o++[i]).map (iL cls)) 0:=by
    have:=Cq (o.map (iL cls)) 0 (iL cls i) h
    rw [ajf,aiY,←hl] at this
    rw [this,ai5]; rfl
   obtain⟨n1,n2⟩:=ok.2 _ (jE h0 h1)
   have P0:Ps cls l (o++[i]) (o++[i]) (ns++[⟨(nd l i).kind,(nd l i).int,(nd l i).label,[]⟩]) (ns++[⟨(nd l i).kind,(nd l i).int,(nd l i).label,[]⟩]):=Ps.refl v1 (by simp [hl])
   obtain⟨o',If,x,e,k2,P2,h2⟩:=Pj (m:=m) (v:=nd l i) (need:=k) hm ok (AQ hm ok hc k) n1 n2 (o0:=o++[i]) (by simp; omega) m 0 (o++[i]) _ om om P0 (fun a ha=>by simp at ha)
   rw [aji] at e
   rw [List.take_zero,akc] at k2
   have k2:bO.l0 m cls ⟨l,root⟩ (bO.f m k) (nd l i) m [] 0 _ _=_:=k2
   obtain⟨s,hs⟩:=P2.pre
   have QC:o.length<o'.length:=by rw [hs]; simp
   have Yw:If[o.length]? = some ⟨(nd l i).kind,(nd l i).int,(nd l i).label,[]⟩:=by
    rw [P2.old _ (by simp),←hl,ai0 (aiQ _),ajI]; rfl
   have Ys:ix If ((ns.length:Nat):Int)=some ⟨(nd l i).kind,(nd l i).int,(nd l i).label,[]⟩:=by
    unfold ix; rw [if_pos om,aiP,hl,Yw]
   have hgt:gt o' o.length=i:=by
    rw [hs,lE (by simp)]
    unfold gt; rw [ai2,ai0 (aiQ _),ajI]; rfl
   have acp:idx cls o' i=(o.length:Nat):=by
    rw [hs,ur (by simp)]
    unfold idx
    rw [ai5,aka,if_neg h]; simp
   rw [hd,←e,if_neg h,if_neg (by simp),aiI,k8 h0 h1,aiI,ux,aiI,WV,k2,aiI]
   dsimp only
   rw [Ys,aiI,aiP,acp,hl]
   refine⟨_,rfl,⟨P2.vs,⟨[i]++s,by rw [hs]; simp⟩,by simpa using P2.len,fun q hq=>?_,fun q h3 h4=>?_,fun q h3 h4 a ha=>?_⟩,by rw [hs]; simp⟩
   ·rw [List.getElem?_set_ne om,P2.old q (by simp; omega),ai6 om]
   ·by_cases hq:q=o.length
    ·subst hq
     rw [List.getElem?_set_self (by rw [P2.len]; omega),hgt]; rfl
    ·rw [List.getElem?_set_ne om]
     exact P2.new q (by simp; omega) h4
   ·by_cases hq:q=o.length
    ·subst hq; rw [hgt] at ha; exact h2 a ha
    ·exact P2.arg q (by simp; omega) h4 a ha
end
theorem AR {m:Nat}(hm:2 ^ 41≤m){t:bh}(ok:nY t.nodes)(h1:1≤t.nodes.length)(r0:0≤t.root)(r1:t.root<t.nodes.length)(Inv:List Int→Prop)
  (hI0:∀d out,d.Perm (ints t.nodes.length)→(Ord (fun x y=>cT (nd t.nodes x) (nd t.nodes y)) (ints t.nodes.length)→Sg (fun x y=>cT (nd t.nodes x) (nd t.nodes y)) d 0 t.nodes.length)→(∀k,k<t.nodes.length→gt out (gt d k).toNat=rk t.nodes d k)→Inv out)
  (hI:∀out many ks next,Part t.nodes.length out many→Inv out→xg t.nodes out t.nodes.length ks→next.length=t.nodes.length→(∀i,i<t.nodes.length→gt next i=(ks.idxOf (key out (nd t.nodes i) i):Int))→Inv next) :
  ∃cls many ks ns,fM.f m t=some ⟨ns,0⟩∧Part t.nodes.length cls many∧Inv cls∧xg t.nodes cls t.nodes.length ks∧ks.length=many+1∧Ps cls t.nodes [] (xQ cls t.nodes m t.root []) [] ns∧iL cls t.root∈(xQ cls t.nodes m t.root []).map (iL cls):=by
 have vM:(2:Nat) ^ 30=1073741824:=by decide
 have yG:(2:Nat) ^ 41=2199023255552:=by decide
 have h8000:=ok.1
 obtain⟨cls,many,ks,k1,P,I,K,Hj⟩:=Eb hm ok h1 Inv hI0 hI
 obtain⟨ns,k2,P2,h2⟩:=AQ (m:=m) (root:=t.root) om ok P.len m t.root [] [] r0 r1 ⟨by simp,fun x hx=>by simp at hx⟩ rfl (by simp; omega)
 refine⟨cls,many,ks,ns,?_,P,I,K,Hj,P2,h2⟩
 unfold fM.f
 have k2:bO.f m m t.root [] cls ⟨[],0⟩ t=_:=k2
 rw [k1,aiI,k2]; rfl
def Ok0 (t:bh):Prop:=∀n∈t.nodes,n.kind=0→n.int<2 ^ 63
theorem Pk {s:ByteArray}(h:(s.data.toList==[])=true):s=ajg #[]:=by
 have h:=beq_iff_eq.1 h
 cases s with
 | mk d=>
  cases d with
  | mk l=>simp only at h; subst h; rfl
theorem Zm {l:List Int}(h:l.isEmpty=true):l=[]:=by cases l with | nil=>rfl | cons=>cases h
structure RZ (n:ak):Prop where
 kind:n.kind=0∧0≤n.int∧n.label=ajg #[]∧n.args=[]∨n.kind=1∧(-1099511627776≤n.int∧n.int≤1099511627776)∧n.label=ajg #[]∧n.args=[]∨n.kind=2∧n.int=0∧n.args=[]∨n.kind=3∧n.int=0∨n.kind=4∧n.args=[]
 label:n.kind=2∨n.kind=3→1≤n.label.size∧n.label.size≤16
 args:n.args.length≤8
theorem np {n:ak}{size:Int}(h:gD n size=true):RZ n∧∀a∈n.args,0≤a∧a<size:=by
 unfold gD at h
 split at h
 ·rename_i k
  simp only [aiM,decide_eq_true_eq] at h
  have ha:=Zm h.2
  exact⟨⟨.inl ⟨k,h.1.1,Pk h.1.2,ha⟩,fun z=>by omega,by rw [ha]; decide⟩,fun a h=>by rw [ha] at h; cases h⟩
 split at h
 ·rename_i k
  simp only [aiM,decide_eq_true_eq] at h
  have ha:=Zm h.2
  exact⟨⟨.inr (.inl ⟨k,h.1.1,Pk h.1.2,ha⟩),fun z=>by omega,by rw [ha]; decide⟩,fun a h=>by rw [ha] at h; cases h⟩
 split at h
 ·rename_i k
  simp only [aiM,beq_iff_eq] at h
  have ha:=Zm h.2
  exact⟨⟨.inr (.inr (.inl ⟨k,h.1.1,ha⟩)),fun z=>Cj h.1.2,by rw [ha]; decide⟩,fun a h=>by rw [ha] at h; cases h⟩
 split at h
 ·rename_i k
  simp only [aiM,beq_iff_eq,decide_eq_true_eq,ajd] at h
  exact⟨⟨.inr (.inr (.inr (.inl ⟨k,h.1.1.1.1⟩))),fun z=>Cj h.1.1.1.2,h.1.2⟩,h.2⟩
 split at h
 ·rename_i k
  simp only [aiM,decide_eq_true_eq] at h
  have ha:=Zm h.2
  exact⟨⟨.inr (.inr (.inr (.inr ⟨k,ha⟩))),fun z=>by omega,by rw [ha]; decide⟩,fun a h=>by rw [ha] at h; cases h⟩
 ·cases h
theorem lF {t:bh}(h:iH t=true):nY t.nodes∧1≤t.nodes.length∧0≤t.root∧t.root<t.nodes.length∧∀n∈t.nodes,RZ n:=by
 unfold iH at h
 simp only [aiM,decide_eq_true_eq,ajd] at h
 obtain⟨⟨⟨⟨h1,h2⟩,h3⟩,h4⟩,h5⟩:=h
 exact⟨⟨h2,fun n hn=>⟨(np (h5 n hn)).1.args,(np (h5 n hn)).2⟩⟩,h1,h3,h4,fun n hn=>(np (h5 n hn)).1⟩
structure Tu (s:bh):Prop where
 root:s.root=0
 Cr:s.nodes.length≤8000
 nodes:∀x∈s.nodes,RZ x∧(x.kind=0→x.int<2 ^ 63)∧∀a∈x.args,0≤a∧a<8000
theorem RZ.map {n:ak}(T:RZ n)(f:Int→Int):RZ ⟨n.kind,n.int,n.label,n.args.map f⟩:=by
 refine⟨?_,T.label,by simpa using T.args⟩
 rcases T.kind with⟨a,b,c,d⟩| ⟨a,b,c,d⟩| ⟨a,b,d⟩| ⟨a,b⟩| ⟨a,d⟩
 ·exact .inl ⟨a,b,c,by simp [d]⟩
 ·exact .inr (.inl ⟨a,b,c,by simp [d]⟩)
 ·exact .inr (.inr (.inl ⟨a,b,by simp [d]⟩))
 ·exact .inr (.inr (.inr (.inl ⟨a,b⟩)))
 ·exact .inr (.inr (.inr (.inr ⟨a,by simp [d]⟩)))
theorem L8 {m:Nat}(hm:2 ^ 41≤m){t:bh}(h:iH t=true)(h0:Ok0 t):∃s,fM.f m t=some s∧Tu s:=by
 obtain⟨ok,h1,r0,r1,hT⟩:=lF h
 obtain⟨cls,many,ks,ns,e,P,_,K,Hj,Q,hr⟩:=AR hm ok h1 r0 r1 (fun _=>True) (fun _ _ _ _ _=>trivial) (fun _ _ _ _ _ _ _ _ _=>trivial)
 have RY:=Q.vs.Cr
 have h8000:=ok.1
 have hlen:=Q.len
 refine⟨_,e,rfl,by dsimp only; omega,fun x hx=>?_⟩
 obtain⟨k,hk,e2⟩:=List.getElem_of_mem hx
 dsimp only at hk e2
 have:=Q.new k (by simp) om
 rw [aiN hk,e2] at this
 have:=ajn this
 subst this
 have wv:=Q.vs.ti _ (bC (l:=xQ cls t.nodes m t.root []) (k:=k) om)
 have Ie:=jE wv.1 wv.2
 have h0':=h0 _ Ie
 refine⟨(hT _ Ie).map _,fun hk=>h0' hk,fun a ha=>?_⟩
 obtain⟨b,hb,rfl⟩:=ajc.1 ha
 have hin:=Q.arg k (by simp) om b hb
 have:=ajD hin
 rw [aiY] at this
 unfold idx
 omega
end Go.Proofs.YtifafejidnjckaaGreat
namespace Go.Proofs.YtifafejidnjckaaGreat
open Go Go.R Go.Uf
open Go.IntKind (i64 u64 u8 u32)
section
variable {m:Nat}{s s':ae}
theorem xh {f:Int→Option Bool}{g:Int→Bool}(l:List Int)(hl:l.length≤1000000)(hf:∀x∈l,f x=some (g x)):∀(k:Nat) (s1:List Int) (i j:Nat),i≤j→i<l.length→j≤l.length→l.length - j<k→s1.length=l.length→s1.take i=(l.take j).filter (fun x=>!g x)→s1.drop j=l.drop j→
  ∃(s2:List Int) (i2:Nat) (z:Int),fQ.l0 m l f k s1 (i:Int) (j:Int)=some (s2,(i2:Int),z)∧i2≤l.length∧s2.length=l.length∧s2.take i2=l.filter (fun x=>!g x)
 | 0,s1,i,j,h1,_,h2,h3,_,_,_=>by omega
 | k+1,s1,i,j,h1,h0,h2,h3,h4,h5,h6=>by
  simp only [fQ.l0]
  by_cases hj:j<l.length
  ·have d:decide ((j:Int)<(l.length:Int))=true:=by rw [decide_eq_true_eq]; omega
   have el:=aiN hj
   have e1:s1[j]? = some l[j]:=by
    have:=congrArg (fun z=>z[0]?) h6
    simp only [List.getElem?_drop,akj] at this
    rw [this,el]
   have et:l.take (j+1)=l.take j++[l[j]]:=(ajb hj)
   have ewj:i64.wrap ((j:Int)+1)=((j+1:Nat):Int):=by rw [kh om om]; omega
   have ewi:i64.wrap ((i:Int)+1)=((i+1:Nat):Int):=by rw [kh om om]; omega
   have hd:∀s3:List Int,s3.drop j=l.drop j→s3.drop (j+1)=l.drop (j+1):=fun s3 h=>by
    rw [akt,←List.drop_drop,←List.drop_drop] at *
    rw [akt] at *
    have a1:(s3.drop j).drop 1=(l.drop j).drop 1:=by rw [h]
    simpa [List.drop_drop,akt] using a1
   rw [if_pos d,tJ e1]
   simp only [aiI,hf _ (aiS el),ewj,ewi]
   cases hg:g l[j] with
   | true=>
    rw [if_neg (by decide)]
    exact xh l hl hf k s1 i (j+1) om h0 om om h4 (by rw [et,akm,h5]; simp [hg]) (hd s1 h6)
   | false=>
    rw [if_pos (by decide)]
    have i1:i<s1.length:=by omega
    have e2:=aiN i1
    rw [tJ e2,aiI,aiP]
    by_cases hi:i+1<l.length
    ·refine xh l hl hf k (s1.set i l[j]) (i+1) (j+1) om hi om om (by rw [ajw,h4]) ?_ ?_
     ·rw [et,akm,←h5]
      have:(s1.set i l[j]).take (i+1)=s1.take i++[l[j]]:=by
       rw [ajb (by rw [ajw]; exact i1)]
       rw [List.take_set_of_le (aiQ _),List.getElem_set_self]
      rw [this]; simp [hg]
     ·rw [List.drop_set_of_lt om]
      exact hd s1 h6
    ·
     have Hs:j+1=l.length:=by omega
     have Er:i=j:=by omega
     cases k with
     | zero=>omega
     | succ k=>
      simp only [fQ.l0]
      have d2:decide (((j+1:Nat):Int)<(l.length:Int))=false:=by rw [decide_eq_false_iff_not]; omega
      rw [if_neg (by rw [d2]; decide)]
      refine⟨_,i+1,_,rfl,om,by rw [ajw,h4],?_⟩
      have:(s1.set i l[j]).take (i+1)=s1.take i++[l[j]]:=by
       rw [ajb (by rw [ajw]; exact i1)]
       rw [List.take_set_of_le (aiQ _),List.getElem_set_self]
      have Yx:l=l.take j++[l[j]]:=by rw [←et,Hs,ajr]
      rw [this,h5]
      conv=>rhs; rw [Yx]
      rw [akm]; simp [hg]
  ·have d:decide ((j:Int)<(l.length:Int))=false:=by rw [decide_eq_false_iff_not]; omega
   rw [if_neg (by rw [d]; decide)]
   have Hs:j=l.length:=by omega
   refine⟨_,i,_,rfl,om,h4,?_⟩
   rw [h5,Hs,ajr]
theorem Gg {f:Int→Option Bool}{g:Int→Bool}(hm:2000000≤m)(l:List Int)(hl:l.length≤1000000)(hf:∀x∈l,f x=some (g x)):fQ.f m l f=some (l.filter fun x=>!g x):=by
 unfold fQ.f
 rcases Kr hm l hl hf with⟨j,e,j1,j2,j3⟩| ⟨e,h⟩
 ·rw [e,aiI]
  have hne:((j:Int) == -1)=false:=by rw [beq_eq_false_iff_ne]; omega
  have ewj:i64.wrap ((j:Int)+1)=((j+1:Nat):Int):=by rw [kh om om]; omega
  have el:=aiN j1
  obtain⟨s2,i2,z,e2,g1,g2,g3⟩:=xh (m:=m) l hl hf m l j (j+1) om j1 om om rfl (by
   rw [ajb j1,akm]
   have:(l.take j).filter (fun x=>!g x)=l.take j:=by
    rw [List.filter_eq_self]
    intro x hx
    obtain⟨q,hq⟩:=ajH hx
    have hq1:q<j:=by
     have:=(aiO.1 hq).1
     rw [ajo] at this; omega
    rw [List.getElem?_take_of_lt hq1] at hq
    rw [j3 q hq1 x hq]; rfl
   rw [this]; simp [j2 _ el]) rfl
  rw [hne,if_neg (by decide),ewj,e2]
  simp only [aiI]
  have hc:V7 s2 (i2:Int)=some (s2.take i2++ai1 (s2.length - i2) 0):=by
   unfold V7; rw [if_pos ⟨ajQ _,om⟩,aiP]
  rw [hc,aiI]
  have hs:I4 (s2.take i2++ai1 (s2.length - i2) 0) 0 (i2:Int)=some (s2.take i2):=by
   unfold I4
   rw [if_pos ⟨Int.le_refl _,ajQ _,by rw [aiT,ajo,ake]; omega⟩]
   congr 1
   simp only [aiP,Int.toNat_zero,aji,Nat.sub_zero]
   rw [ajl (by rw [ajo]; omega),List.take_take,Nat.min_self]
  rw [hs,g3]; rfl
 ·rw [e,aiI]
  have hb:((-1:Int) == -1)=true:=rfl
  rw [hb,if_pos rfl]
  congr 1
  rw [eq_comm,List.filter_eq_self]
  intro x hx; rw [h x hx]; rfl
def Pl (N:List ak)(l:List Int):List Int:=kK (l.filter fun n=>(dI N n).kind==0)
theorem Kw (hm:2000000≤m){l:List Int}(hl:l.length≤8000)(hr:∀n∈l,Rg s.aa.length n):eH.f m s l=some (Pl s.aa l):=by
 unfold eH.f
 have h1:sY 8 (l.length:Int) (0:Int)=some (ai1 l.length 0):=by
  unfold sY; rw [if_pos ⟨ajQ _,by rw [aiP]; omega⟩,aiP]
 have h2:Xr (ai1 l.length (0:Int)) l=some l:=by
  unfold Xr; rw [if_pos (by rw [ake]; exact aiQ _)]; simp
 rw [h1,aiI,h2,aiI]
 rw [Gg hm l om (g:=fun n=>!((dI s.aa n).kind==0)) (fun x hx=>by simp only [fa.f,D8 (hr x hx),aiI])]
 simp only [aiI,Bool.not_not]
 rfl
theorem Pm (hm:2000000≤m)(v:Inv s)(c:Cl s.aa (rp s.an)){a b:Int}(ha:Rg s.aa.length a)(hb:Rg s.aa.length b) :
  ∃l ok s',aQ.f m s a b=some (l,ok,s')∧Kn s s' l∧Inv s'∧l.length≤8000∧
   (ok=false→∀T,Cl s.aa T→iN s.aa (rp s.an) T→T a=T b→False)∧
   (ok=true→Cl s.aa (rp s'.an)∧iN s.aa (rp s.an) (rp s'.an)∧rp s'.an a=rp s'.an b∧∀T,Cl s.aa T→iN s.aa (rp s.an) T→T a=T b→iN s.aa (rp s'.an) T):=by
 have n1:=D3 s.an
 have n2:=v.len
 have n3:=v.max
 obtain⟨out,e1,e2⟩:=xe (m:=m) om m s [] [⟨a,b⟩] 0 (by simp) (by simp only [aiX,ai4]; omega) (by simp only [aiX,ai4]; omega) (by simp) v
  (fun p hp=>by simp only [aiU] at hp; subst hp; exact⟨ha,hb⟩) (by
   rw [aji]; exact Kl c v.args)
 have e1:aQ.l0 m m [] [⟨a,b⟩] 0 s=some out:=e1
 unfold aQ.f
 rw [e1,aiI]
 match out,e2 with
 | .inl (OQ,b',s'),⟨Ba,l,e,u,v',hl,hT⟩=>
  subst Ba
  rw [ajj] at e hl
  subst e
  exact⟨OQ,false,s',rfl,u,v',hl,fun _ T cT sT pT=>hT T cT sT fun p hp=>by
   simp only [aji,ai9,akc,aiU] at hp; subst hp; exact pT,fun h=>by cases h⟩
 | .inr (OQ,F3,i',s'),⟨l,e,u,v',hl,hc,hs,hq,hT⟩=>
  rw [ajj] at e hl
  subst e
  exact⟨OQ,true,s',rfl,u,v',hl,(fun h=>by cases h),fun _=>⟨hc,hs,hq (a,b) (by simp [Ew]),fun T cT sT pT=>hT T cT sT fun p hp=>by
   simp only [aji,ai9,akc,aiU] at hp; subst hp; exact pT⟩⟩
def VNs (N:List ak):Prop:=∀n,Rg N.length n→gD (dI N n) N.length=true∧((dI N n).kind=0→(dI N n).int=n)
structure Inv2 (s:ae):Prop where
 inv:Inv s
 cl:Cl s.aa (rp s.an)
 vn:VNs s.aa
def sD (s:ae)(l:List Int):Bool:=l.all fun n=>decide (Rg s.aa.length n)
theorem Ig {a b:Int}(h:sD s [a,b]=true):Rg s.aa.length a∧Rg s.aa.length b:=by
 simpa [sD] using h
theorem Yy (hm:2000000≤m)(v:Inv s)(n:Int):gC.f m s n=some (if Rg s.aa.length n then (rp s.an n,0) else (0,1)):=by
 unfold gC.f
 rw [sS hm v.made [n] (by simp)]
 by_cases h:Rg s.aa.length n
 ·simp [h,AI (m:=m) om v h]
 ·simp [h]
end
end Go.Proofs.YtifafejidnjckaaGreat
namespace Go.Proofs.YtifafejidnjckaaGreat
open Go Go.R
open Go.IntKind (i64 u64 u8 u32)
theorem AS:∀(x:List UInt8),Op.bytesLess x x=false
 | []=>rfl
 | a::x=>by simp [Op.bytesLess,AS x]
theorem Ec:∀(x y:List UInt8),Op.bytesLess x y=true→Op.bytesLess y x=false
 | _,[],h=>by cases ‹List UInt8›<;>simp [Op.bytesLess] at h
 | [],b::y,_=>rfl
 | a::x,b::y,h=>by
  simp only [Op.bytesLess,ajE,aiM,decide_eq_true_eq,beq_iff_eq] at h
  simp only [Op.bytesLess,Bool.or_eq_false_iff,Bool.and_eq_false_iff,decide_eq_false_iff_not,beq_eq_false_iff_ne]
  rcases h with h | ⟨rfl,h⟩
  ·refine⟨fun h2=>?_,.inl fun e=>?_⟩
   ·rw [akf] at h h2; omega
   ·subst e; rw [akf] at h; omega
  ·exact⟨by rw [akf]; omega,.inr (Ec x y h)⟩
theorem Pn:∀(x y:List UInt8),Op.bytesLess x y=true∨x=y∨Op.bytesLess y x=true
 | [],[]=>.inr (.inl rfl)
 | [],b::y=>.inl rfl
 | a::x,[]=>.inr (.inr rfl)
 | a::x,b::y=>by
  simp only [Op.bytesLess,ajE,aiM,decide_eq_true_eq,beq_iff_eq,List.cons.injEq]
  rcases Nat.lt_trichotomy a.toNat b.toNat with h | h | h
  ·exact .inl (.inl (akf.2 h))
  ·have:a=b:=UInt8.toNat_inj.1 h
   subst this
   rcases Pn x y with h1 | h1 | h1
   ·exact .inl (.inr ⟨rfl,h1⟩)
   ·exact .inr (.inl ⟨rfl,h1⟩)
   ·exact .inr (.inr (.inr ⟨rfl,h1⟩))
  ·exact .inr (.inr (.inl (akf.2 h)))
theorem Gh:∀(x y z:List UInt8),Op.bytesLess x y=true→Op.bytesLess y z=true→Op.bytesLess x z=true
 | _,_,[],_,h=>by cases ‹List UInt8›<;>simp [Op.bytesLess] at h
 | _,[],c::z,h,_=>by cases ‹List UInt8›<;>simp [Op.bytesLess] at h
 | [],b::y,c::z,_,_=>rfl
 | a::x,b::y,c::z,h1,h2=>by
  simp only [Op.bytesLess,ajE,aiM,decide_eq_true_eq,beq_iff_eq] at h1 h2 ⊢
  rcases h1 with h1 | ⟨rfl,h1⟩
  ·rcases h2 with h2 | ⟨rfl,h2⟩
   ·left; rw [akf] at *; omega
   ·exact .inl h1
  ·rcases h2 with h2 | ⟨rfl,h2⟩
   ·exact .inl h2
   ·exact .inr ⟨rfl,Gh x y z h1 h2⟩
theorem Ed {x y:ByteArray}(h:x.data.toList=y.data.toList):x=y:=by
 cases x with | mk a=>cases y with | mk b=>cases a; cases b; simp only at h; subst h; rfl
structure Vu {α:Type}(c:α→α→Int):Prop where
 zero:∀x y,c x y=0→x=y
 refl:∀x,c x x=0
 neg:∀x y,c y x = - c x y
 tr:∀x y z,c x y≤0→c y z≤0→c x z≤0
theorem sE:Vu cI:=by
 refine⟨fun x y h=>?_,fun x=>?_,fun x y=>?_,fun x y z h1 h2=>?_⟩
 ·unfold cI at h; split at h
  ·omega
  ·split at h<;>omega
 ·unfold cI; simp
 ·unfold cI; split<;>split<;>(try split)<;>omega
 ·unfold cI at *
  split at h1<;>split at h2<;>(try split at h1)<;>(try split at h2)<;>(try omega)<;>split<;>(try split)<;>omega
theorem Gi (x y:ByteArray):cS x y=if Op.bytesLess x.data.toList y.data.toList=true then -1 else if x=y then 0 else 1:=by
 unfold cS NF
 cases h:Op.bytesLess x.data.toList y.data.toList with
 | true=>rfl
 | false=>
  simp only [Bool.false_or,aiW,if_false]
  by_cases e:x=y
  ·subst e; simp
  ·rw [if_neg e]
   have:(x.data.toList==y.data.toList)=false:=by
    rw [beq_eq_false_iff_ne]; exact fun h=>e (Ed h)
   rw [this]; rfl
theorem Po:Vu cS:=by
 refine⟨fun x y h=>?_,fun x=>?_,fun x y=>?_,fun x y z h1 h2=>?_⟩
 ·rw [Gi] at h
  split at h
  ·omega
  ·split at h
   ·assumption
   ·omega
 ·rw [Gi,AS]; simp
 ·rw [Gi,Gi]
  rcases Pn x.data.toList y.data.toList with h | h | h
  ·have h2:=Ec _ _ h
   have hne:¬y=x:=fun e=>by subst e; rw [AS] at h; cases h
   rw [if_pos h,h2]; simp [hne]
  ·have:=Ed h
   subst this
   rw [AS]; simp
  ·have h2:=Ec _ _ h
   have hne:¬x=y:=fun e=>by subst e; rw [AS] at h; cases h
   rw [if_pos h,h2]; simp [hne]
 ·rw [Gi] at h1 h2 ⊢
  split at h1
  ·rename_i g1
   split at h2
   ·rename_i g2
    rw [if_pos (Gh _ _ _ g1 g2)]; omega
   ·split at h2
    ·rename_i e; subst e; rw [if_pos g1]; omega
    ·omega
  ·split at h1
   ·rename_i e; subst e
    split at h2
    ·rename_i g2; rw [if_pos g2]; omega
    ·split at h2
     ·rename_i g e; rw [if_neg g,if_pos e]; omega
     ·omega
   ·omega
theorem Pp {α β:Type}{c:α→α→Int}{d:β→β→Int}(C:Vu c)(D:Vu d):Vu fun (p q:α × β)=>L6 (c p.1 q.1) (d p.2 q.2):=by
 refine⟨fun x y h=>?_,fun x=>?_,fun x y=>?_,fun x y z h1 h2=>?_⟩
 ·unfold L6 at h
  split at h
  ·rename_i h1; exact Prod.ext (C.zero _ _ h1) (D.zero _ _ h)
  ·exact absurd h ‹_›
 ·unfold L6; rw [C.refl,if_pos rfl,D.refl]
 ·skip
  unfold L6
  have:=C.neg x.1 y.1
  by_cases h:c x.1 y.1=0
  ·rw [if_pos h,if_pos om,D.neg]
  ·rw [if_neg h,if_neg om,C.neg]
 ·skip
  unfold L6 at *
  by_cases a:c x.1 y.1=0
  ·rw [if_pos a] at h1
   have e:=C.zero _ _ a
   rw [←e] at h2
   by_cases b:c x.1 z.1=0
   ·rw [if_pos b] at h2 ⊢; exact D.tr _ _ _ h1 h2
   ·rw [if_neg b] at h2 ⊢; exact h2
  ·rw [if_neg a] at h1
   have hz:c x.1 z.1≤0:=by
    by_cases b:c y.1 z.1=0
    ·rw [←C.zero _ _ b]; exact h1
    ·rw [if_neg b] at h2; exact C.tr _ _ _ h1 h2
   have hne:c x.1 z.1≠0:=fun e=>by
    have e1:=C.zero _ _ e
    by_cases b:c y.1 z.1=0
    ·have e2:=C.zero _ _ b; rw [e1,←e2] at a; exact a (C.refl _)
    ·rw [if_neg b,←e1] at h2
     have:=C.neg x.1 y.1; omega
   rw [if_neg hne]; exact hz
theorem Kx:Vu fun (p q:Int × ByteArray)=>L6 (cI p.1 q.1) (cS p.2 q.2):=Pp sE Po
theorem Ky:Vu fun (p q:ByteArray × Int)=>L6 (cS p.1 q.1) (cI p.2 q.2):=Pp Po sE
theorem qI {a b:ak}(h:a.kind=b.kind):cT a b=if a.kind=3 then L6 (cI a.args.length b.args.length) (cS a.label b.label) else L6 (cS a.label b.label) (cI a.int b.int):=by unfold cT; rw [if_pos h]
theorem nj {a b:ak}(h:a.kind≠b.kind):cT a b=cI a.kind b.kind:=by unfold cT; rw [if_neg h]
theorem mw (a b:ak):cT b a = - cT a b:=by
 by_cases h:a.kind=b.kind
 ·rw [qI h,qI h.symm,←h]
  split
  ·exact Kx.neg ((a.args.length:Int),a.label) ((b.args.length:Int),b.label)
  ·exact Ky.neg (a.label,a.int) (b.label,b.int)
 ·rw [nj h,nj (Ne.symm h)]; exact sE.neg _ _
theorem Gj (a b c:ak)(h1:cT a b≤0)(h2:cT b c≤0):cT a c≤0:=by
 by_cases e1:a.kind=b.kind
 ·by_cases e2:b.kind=c.kind
  ·rw [qI e1] at h1
   rw [qI e2,←e1] at h2
   rw [qI (e1.trans e2)]
   split
   ·rename_i h3; rw [if_pos h3] at h1 h2
    exact Kx.tr ((a.args.length:Int),a.label) ((b.args.length:Int),b.label) ((c.args.length:Int),c.label) h1 h2
   ·rename_i h3; rw [if_neg h3] at h1 h2
    exact Ky.tr (a.label,a.int) (b.label,b.int) (c.label,c.int) h1 h2
  ·rw [nj e2] at h2
   rw [nj (by rw [e1]; exact e2),e1]; exact h2
 ·rw [nj e1] at h1
  by_cases e2:b.kind=c.kind
  ·rw [nj (by rw [←e2]; exact e1),←e2]; exact h1
  ·rw [nj e2] at h2
   have n1:cI a.kind b.kind≠0:=fun h=>e1 (sE.zero _ _ h)
   have n2:cI b.kind c.kind≠0:=fun h=>e2 (sE.zero _ _ h)
   by_cases e3:a.kind=c.kind
   ·rw [←e3] at h2
    have:=sE.neg a.kind b.kind
    omega
   ·rw [nj e3]; exact sE.tr _ _ _ h1 h2
structure Alike (a b:ak):Prop where
 kind:a.kind=b.kind
 int:a.int=b.int
 label:a.label=b.label
 len:a.args.length=b.args.length
theorem Alike.refl (a:ak):Alike a a:=⟨rfl,rfl,rfl,rfl⟩
theorem Alike.symm {a b:ak}(h:Alike a b):Alike b a:=⟨h.1.symm,h.2.symm,h.3.symm,h.4.symm⟩
theorem Alike.trans {a b c:ak}(h:Alike a b)(k:Alike b c):Alike a c:=⟨h.1.trans k.1,h.2.trans k.2,h.3.trans k.3,h.4.trans k.4⟩
theorem Alike.cT {a b:ak}(h:Alike a b):cT a b=0:=by
 rw [qI h.kind]
 split
 ·rw [h.len,h.label]; exact Kx.refl ((b.args.length:Int),b.label)
 ·rw [h.label,h.int]; exact Ky.refl (b.label,b.int)
theorem Pq {a b:ak}(h:cT a b=0)(ha:a.kind=3→a.int=0)(hb:b.kind=3→b.int=0)(ha2:a.kind≠3→a.args=[])(hb2:b.kind≠3→b.args=[]):Alike a b:=by
 by_cases e:a.kind=b.kind
 ·rw [qI e] at h
  split at h
  ·rename_i h3
   have:=Kx.zero ((a.args.length:Int),a.label) ((b.args.length:Int),b.label) h
   simp only [aiV] at this
   exact⟨e,by rw [ha h3,hb (by rw [←e]; exact h3)],this.2,om⟩
  ·rename_i h3
   have:=Ky.zero (a.label,a.int) (b.label,b.int) h
   simp only [aiV] at this
   exact⟨e,this.2,this.1,by rw [ha2 h3,hb2 (by rw [←e]; exact h3)]⟩
 ·rw [nj e] at h
  exact absurd (sE.zero _ _ h) e
theorem Vv (l:List ak)(s:List Int):Ord (fun x y=>cT (nd l x) (nd l y)) s:=by
 refine⟨fun x _ y _ z _ h1 h2=>?_,fun x _ y _ h=>?_⟩
 ·skip
  have a1:=mw (nd l x) (nd l y)
  have a2:=mw (nd l y) (nd l z)
  have a3:=mw (nd l x) (nd l z)
  have:=Gj (nd l x) (nd l y) (nd l z) om om
  omega
 ·skip
  have a1:=mw (nd l x) (nd l y)
  omega
structure L9 (l:List ak)(R:Nat→Nat→Prop):Prop where
 ti:∀i j,R i j→i<l.length∧j<l.length
 top:∀i j,R i j→Alike (nd l i) (nd l j)
 arg:∀i j,R i j→∀k,k<(nd l i).args.length→R (gt (nd l i).args k).toNat (gt (nd l j).args k).toNat
structure Min (l:List ak)(r:List Int):Prop where
 len:r.length=l.length
 top:∀i j,i<l.length→j<l.length→gt r i=gt r j→Alike (nd l i) (nd l j)
 arg:∀i j,i<l.length→j<l.length→gt r i=gt r j→∀k,k<(nd l i).args.length→gt r (gt (nd l i).args k).toNat=gt r (gt (nd l j).args k).toNat
 max:∀R,L9 l R→∀i j,R i j→gt r i=gt r j
theorem y4 (a:ak):cT a a=0:=(Alike.refl a).cT
theorem BB {a b c:ak}(h1:cT a b=0)(h2:cT b c=0):cT a c=0:=by
 have n1:=mw a b
 have n2:=mw b c
 have n3:=mw a c
 have t1:=Gj a b c om om
 have t2:=Gj c b a om om
 omega
theorem Ee {l:List ak}{d:List Int}{k:Nat}:∀j,k≤j→rk l d k=rk l d j→cT (nd l (gt d k)) (nd l (gt d j))=0
 | 0,h,_=>by
   have:k=0:=by omega
   subst this; exact y4 _
 | j+1,h,e=>by
  by_cases hk:k=j+1
  ·subst hk; exact y4 _
  ·have m1:=Ea l d k j om
   have e2:rk l d (j+1)=rk l d j+if cT (nd l (gt d j)) (nd l (gt d (j+1)))=0 then 0 else 1:=rfl
   by_cases hc:cT (nd l (gt d j)) (nd l (gt d (j+1)))=0
   ·rw [if_pos hc] at e2
    exact BB (Ee j om om) hc
   ·rw [if_neg hc] at e2; omega
theorem Ef {l:List ak}{d:List Int}{n:Nat}(S:Sg (fun x y=>cT (nd l x) (nd l y)) d 0 n){k q:Nat}(hq:q<n)(h0:cT (nd l (gt d k)) (nd l (gt d q))=0):∀j,k≤j→j≤q→rk l d j=rk l d k
 | 0,h,_=>by
   have:k=0:=by omega
   subst this; rfl
 | j+1,h,hj=>by
  by_cases hk:k=j+1
  ·subst hk; rfl
  ·have ih:=Ef S hq h0 j om om
   have le1:cT (nd l (gt d k)) (nd l (gt d j))≤0:=by
    by_cases e:k=j
    ·subst e; rw [y4]; omega
    ·have:0≤cT (nd l (gt d j)) (nd l (gt d k)):=S k j om om om
     have n:=mw (nd l (gt d k)) (nd l (gt d j))
     omega
   have le2:cT (nd l (gt d (j+1))) (nd l (gt d q))≤0:=by
    by_cases e:j+1=q
    ·subst e; rw [y4]; omega
    ·have:0≤cT (nd l (gt d q)) (nd l (gt d (j+1))):=S (j+1) q om om hq
     have n:=mw (nd l (gt d (j+1))) (nd l (gt d q))
     omega
   have le3:cT (nd l (gt d q)) (nd l (gt d k))≤0:=by have n:=mw (nd l (gt d k)) (nd l (gt d q)); omega
   have le4:=Gj _ _ _ (Gj _ _ _ le2 le3) le1
   have s1:=S j (j+1) om om om
   have n:=mw (nd l (gt d j)) (nd l (gt d (j+1)))
   have hz:cT (nd l (gt d j)) (nd l (gt d (j+1)))=0:=by
    have s1:0≤cT (nd l (gt d (j+1))) (nd l (gt d j)):=s1
    omega
   show rk l d j+(if cT (nd l (gt d j)) (nd l (gt d (j+1)))=0 then 0 else 1)=_
   rw [if_pos hz,ih]; rfl
def R0 (l:List ak)(out:List Int):Prop:=(∀i j,i<l.length→j<l.length→gt out i=gt out j→cT (nd l i) (nd l j)=0)∧∀R,L9 l R→∀i j,R i j→gt out i=gt out j
theorem Ma {l:List ak}{d out:List Int}(hp:d.Perm (ints l.length))(hs:Ord (fun x y=>cT (nd l x) (nd l y)) (ints l.length)→Sg (fun x y=>cT (nd l x) (nd l y)) d 0 l.length)(hg:∀k,k<l.length→gt out (gt d k).toNat=rk l d k):R0 l out:=by
 have S:=hs (Vv _ _)
 have iC:d.length=l.length:=by rw [hp.length_eq,hU]
 have pos:∀i,i<l.length→∃k,k<l.length∧gt d k=i∧gt out i=rk l d k:=fun i hi=>by
  obtain⟨k,hk,e⟩:=jd (hp.mem_iff.2 (lY.2 (show 0≤(i:Int)∧(i:Int)<l.length by omega)))
  have:=hg k om
  rw [e,aiP] at this
  exact⟨k,om,e,this⟩
 refine⟨fun i j hi hj e=>?_,fun R B i j hR=>?_⟩
 ·obtain⟨k,hk,ek,rk1⟩:=pos i hi
  obtain⟨q,hq,eq,rk2⟩:=pos j hj
  rw [rk1,rk2] at e
  rw [←ek,←eq]
  rcases Nat.le_total k q with h | h
  ·exact Ee q h om
  ·have:=Ee (l:=l) (d:=d) k h om
   have n:=mw (nd l (gt d k)) (nd l (gt d q))
   omega
 ·obtain⟨hi,hj⟩:=B.ti i j hR
  obtain⟨k,hk,ek,rk1⟩:=pos i hi
  obtain⟨q,hq,eq,rk2⟩:=pos j hj
  have h0:=(B.top i j hR).cT
  rw [←ek,←eq] at h0
  rw [rk1,rk2]
  rcases Nat.le_total k q with h | h
  ·rw [Ef S hq h0 q h (aiQ _)]
  ·have n:=mw (nd l (gt d k)) (nd l (gt d q))
   rw [Ef S hk om k h (aiQ _)]
theorem Pt {l:List ak}(ok:nY l){out:List Int}{i j:Nat}(h1:(nd l i).args.length=(nd l j).args.length)(e:key out (nd l i) i=key out (nd l j) j):gt out i=gt out j∧∀k,k<(nd l i).args.length→gt out (gt (nd l i).args k).toNat=gt out (gt (nd l j).args k).toNat:=by
 unfold key at e
 have e1:=List.cons.inj e
 refine⟨om,fun k hk=>?_⟩
 have e2:=e1.2
 rw [h1] at e2
 have e3:=List.append_cancel_right e2
 have e4:=congrArg (fun z=>z[k]?) e3
 simp only [aje] at e4
 rw [cz hk,cz om] at e4
 simp only [aiR,aiL] at e4
 omega
theorem Pu {l:List ak}(ok:nY l)(out:List Int)(many:Nat)(ks:List (List Int))(next:List Int)(P:Part l.length out many)(I:R0 l out)(K:xg l out l.length ks)(hn:next.length=l.length)
  (hg:∀i,i<l.length→gt next i=(ks.idxOf (key out (nd l i) i):Int)):R0 l next:=by
 refine⟨fun i j hi hj e=>?_,fun R B i j hR=>?_⟩
 ·rw [hg i hi,hg j hj] at e
  have e:ks.idxOf (key out (nd l i) i)=ks.idxOf (key out (nd l j) j):=by omega
  have m1:=ajD ((K.mem _).2 ⟨i,hi,rfl⟩)
  have m2:=ajD ((K.mem _).2 ⟨j,hj,rfl⟩)
  have g1:=List.getElem_idxOf m1
  have g2:=List.getElem_idxOf m2
  have g3:key out (nd l i) i=key out (nd l j) j:=by rw [←g1,←g2]; congr 1
  exact I.1 i j hi hj (by have:=(List.cons.inj g3).1; omega)
 ·obtain⟨hi,hj⟩:=B.ti i j hR
  rw [hg i hi,hg j hj]
  have hk:key out (nd l i) i=key out (nd l j) j:=by
   have hl:=(B.top i j hR).len
   unfold key
   rw [I.2 R B i j hR,hl]
   congr 2
   apply ajG fun k=>?_
   simp only [aje]
   by_cases h:k<(nd l i).args.length
   ·rw [cz h,cz om]
    simp only [aiR,aiL]
    rw [I.2 R B _ _ (B.arg i j hR k h)]
   ·rw [ai8 om,ai8 om]
  rw [hk]
theorem Vw {l:List ak}{r:List Int}{many:Nat}{ks:List (List Int)}(P:Part l.length r many)(K:xg l r l.length ks)(Hj:ks.length=many+1){i j:Nat}(hi:i<l.length)(hj:j<l.length)(e:gt r i=gt r j):key r (nd l i) i=key r (nd l j) j:=by
 by_cases hne:key r (nd l i) i=key r (nd l j) j
 ·exact hne
 ·exfalso
  have hmi:=(K.mem _).2 ⟨i,hi,rfl⟩
  have hmj:=(K.mem _).2 ⟨j,hj,rfl⟩
  have hn:((ajP (many+1)).map fun v:Nat=>((v:Int)+1)).Nodup:=by
   unfold List.Nodup
   rw [aks]
   exact List.Pairwise.imp (fun h=>by omega) List.nodup_range
  have:=hn.length_le_of_subset (l₂:=(ks.erase (key r (nd l j) j)).map fun k=>k.headD 0) (fun x hx=>by
   obtain⟨v,hv,rfl⟩:=ajc.1 hx
   obtain⟨q,hq,h⟩:=P.sur v (by have:=aj6.1 hv; omega)
   by_cases Qh:key r (nd l q) q=key r (nd l j) j
   ·refine ajc.2 ⟨key r (nd l i) i,(List.mem_erase_of_ne hne).2 hmi,?_⟩
    have h1:=(List.cons.inj Qh).1
    simp [key,e]
    omega
   ·exact ajc.2 ⟨_,(List.mem_erase_of_ne Qh).2 ((K.mem _).2 ⟨q,hq,rfl⟩),by simp [key,h]⟩)
  rw [aiY,aiY,akh,List.length_erase_of_mem hmj] at this
  omega
theorem Cs {l:List ak}(hT:∀n∈l,RZ n){i j:Nat}(hi:i<l.length)(hj:j<l.length)(h:cT (nd l i) (nd l j)=0):Alike (nd l i) (nd l j):=by
 have Ti:=hT _ (jE (i:=(i:Int)) om om)
 have Tj:=hT _ (jE (i:=(j:Int)) om om)
 have a3:∀{n:ak},RZ n→n.kind=3→n.int=0:=fun T h=>by rcases T.kind with z | z | z | z | z<;>(have:=z.1; first | omega | exact z.2)
 have a0:∀{n:ak},RZ n→n.kind≠3→n.args=[]:=fun T h=>by
  rcases T.kind with z | z | z | z | z
  ·exact z.2.2.2
  ·exact z.2.2.2
  ·exact z.2.2
  ·exact absurd z.1 h
  ·exact z.2
 exact Pq h (a3 Ti) (a3 Tj) (a0 Ti) (a0 Tj)
theorem qJ {m:Nat}(hm:2 ^ 41≤m){t:bh}(h:iH t=true) :
  ∃cls ns,fM.f m t=some ⟨ns,0⟩∧Min t.nodes cls∧Ps cls t.nodes [] (xQ cls t.nodes m t.root []) [] ns∧iL cls t.root∈(xQ cls t.nodes m t.root []).map (iL cls):=by
 obtain⟨ok,h1,r0,r1,hT⟩:=lF h
 obtain⟨cls,many,ks,ns,e,P,I,K,Hj,Q,hr⟩:=AR hm ok h1 r0 r1 (R0 t.nodes) (fun d out hp hs hg=>Ma hp hs hg) (fun out many ks next P I K hn hg=>Pu ok out many ks next P I K hn hg)
 refine⟨cls,ns,e,⟨P.len,fun i j hi hj e=>Cs hT hi hj (I.1 i j hi hj e),fun i j hi hj e k hk=>?_,I.2⟩,Q,hr⟩
 have hA:=Cs hT hi hj (I.1 i j hi hj e)
 exact (Pt ok hA.len (Vw P K Hj hi hj e)).2 k hk
def gb (l:List Bool)(k:Nat):Bool:=l.getD k false
theorem R5 {l:List Bool}{k:Nat}(h:k<l.length):l[k]? = some (gb l k):=by
 unfold gb; rw [ai2,aiN h]; rfl
theorem AT {l:List Bool}{i:Int}(h0:0≤i)(h:i.toNat<l.length):ix l i=some (gb l i.toNat):=by
 unfold ix; rw [if_pos h0,R5 h]
theorem Eg {l:List Bool}{i k:Nat}{x:Bool}(hi:i<l.length):gb (l.set i x) k=if k=i then x else gb l k:=by
 unfold gb
 simp only [ai2,aj9]
 by_cases h:i=k
 ·subst h; simp [hi]
 ·rw [if_neg h,if_neg om]
def ar (l:List ak)(i k:Nat):Nat:=(gt (nd l i).args k).toNat
def na (l:List ak)(i:Nat):Nat:=(nd l i).args.length
theorem oy {l:List ak}(ok:nY l){i k:Nat}(hi:i<l.length)(hk:k<na l i):ar l i k<l.length∧gt (nd l i).args k=(ar l i k:Int):=by
 obtain⟨h0,h1⟩:=(Gc ok hi).2 _ (bC (l:=(nd l i).args) (k:=k) hk)
 unfold ar; omega
theorem Kz {l:List ak}(ok:nY l){i:Nat}(hi:i<l.length):na l i≤8:=(Gc ok hi).1
theorem AU {m:Nat}(a b:ak):∃x,gz.f m a b=some x∧(x=true↔Alike a b):=by
 unfold gz.f
 by_cases h1:a.kind=b.kind
 ·rw [if_pos (by simpa using h1)]
  by_cases h2:a.int=b.int
  ·rw [if_pos (by simpa using h2)]
   by_cases h3:a.label=b.label
   ·rw [if_pos (by rw [h3]; simp)]
    refine⟨_,rfl,⟨fun h=>⟨h1,h2,h3,by have:=beq_iff_eq.1 h; omega⟩,fun h=>by have:=h.len; rw [beq_iff_eq]; omega⟩⟩
   ·rw [if_neg (fun h=>h3 (Ed (by simpa using h)))]
    exact⟨_,rfl,⟨fun h=>(by cases h),fun h=>absurd h.label h3⟩⟩
  ·rw [if_neg (by simpa using h2)]
   exact⟨_,rfl,⟨fun h=>(by cases h),fun h=>absurd h.int h2⟩⟩
 ·rw [if_neg (by simpa using h1)]
  exact⟨_,rfl,⟨fun h=>(by cases h),fun h=>absurd h.kind h1⟩⟩
def SA (l:List ak)(c:List Int)(i j:Nat):Prop:=∀k,k<na l i→gt c (ar l i k)=gt c (ar l j k)
theorem Tv {m:Nat}{l:List ak}{c:List Int}(ok:nY l)(hc:c.length=l.length){i j:Nat}(hi:i<l.length)(hj:j<l.length)(hl:na l i=na l j):∀(f k:Nat),na l i - k<f→k≤na l i→
  ∃o,cb.l0 m (nd l i) (nd l j) c f (k:Int)=some o∧((∃x,o = .inr x)∧(∀q,k≤q→q<na l i→gt c (ar l i q)=gt c (ar l j q))∨o = .inl false∧∃q,q<na l i∧gt c (ar l i q)≠gt c (ar l j q))
 | 0,k,hf,_=>absurd hf om
 | f+1,k,hf,hk=>by
  have h8:=Kz ok hi
  unfold cb.l0
  by_cases h:k<na l i
  ·obtain⟨a1,a2⟩:=oy ok hi h
   obtain⟨b1,b2⟩:=oy ok hj (show k<na l j by omega)
   have e1:ix c (gt (nd l i).args k)=some (gt c (ar l i k)):=iV a2 om
   have e2:ix c (gt (nd l j).args k)=some (gt c (ar l j k)):=iV b2 om
   rw [if_pos (by simp only [decide_eq_true_eq]; unfold na at h; omega),er (l:=(nd l i).args) h,aiI,e1,aiI,er (l:=(nd l j).args) (show k<(nd l j).args.length by unfold na at hl h; omega),aiI,e2,aiI]
   by_cases e:gt c (ar l i k)=gt c (ar l j k)
   ·obtain⟨o,k1,k2⟩:=Tv (m:=m) ok hc hi hj hl f (k+1) om om
    rw [if_neg (by simp [e]),bL om om,show (k:Int)+1=((k+1:Nat):Int) by omega,k1]
    refine⟨o,rfl,k2.imp (fun ⟨x,y⟩=>⟨x,fun q q1 q2=>?_⟩) id⟩
    by_cases hq:q=k
    ·subst hq; exact e
    ·exact y q om q2
   ·rw [if_pos (by simpa using e)]
    exact⟨_,rfl,.inr ⟨rfl,k,h,e⟩⟩
  ·refine⟨_,by rw [if_neg (by simp only [decide_eq_true_eq]; unfold na at h; omega)],.inl ⟨⟨_,rfl⟩,fun q q1 q2=>absurd q2 om⟩⟩
theorem KA {m:Nat}(hm:2 ^ 30≤m){l:List ak}{c:List Int}(ok:nY l)(hc:c.length=l.length){i j:Nat}(hi:i<l.length)(hj:j<l.length)(hl:na l i=na l j):∃x,cb.f m (nd l i) (nd l j) c=some x∧(x=true↔SA l c i j):=by
 have vM:(2:Nat) ^ 30=1073741824:=by decide
 have h8:=Kz ok hi
 obtain⟨o,k1,k2⟩:=Tv (m:=m) ok hc hi hj hl m 0 om om
 have k1:cb.l0 m (nd l i) (nd l j) c m 0=_:=k1
 unfold cb.f
 rw [k1,aiI]
 rcases k2 with⟨⟨x,rfl⟩,k⟩| ⟨rfl,q,q1,q2⟩
 ·exact⟨true,rfl,⟨fun _ k0 hk=>k k0 om hk,fun _=>rfl⟩⟩
 ·exact⟨false,rfl,⟨fun h=>(by cases h),fun h=>absurd (h q q1) q2⟩⟩
def Rdy (l:List ak)(dn:List Bool)(i:Nat):Prop:=∀k,k<na l i→gb dn (ar l i k)=true
theorem Pv {m:Nat}{l:List ak}{dn:List Bool}(ok:nY l)(hd:dn.length=l.length){i:Nat}(hi:i<l.length):∀(f k:Nat),na l i - k<f→k≤na l i→
  ∃o,dv.l0 m (nd l i) dn f (k:Int)=some o∧((∃x,o = .inr x)∧(∀q,k≤q→q<na l i→gb dn (ar l i q)=true)∨o = .inl false∧∃q,q<na l i∧gb dn (ar l i q)=false)
 | 0,k,hf,_=>absurd hf om
 | f+1,k,hf,hk=>by
  have h8:=Kz ok hi
  unfold dv.l0
  by_cases h:k<na l i
  ·obtain⟨a1,a2⟩:=oy ok hi h
   have e1:ix dn (gt (nd l i).args k)=some (gb dn (ar l i k)):=by
    have:=AT (l:=dn) (i:=gt (nd l i).args k) om (by rw [a2,aiP]; omega)
    rw [this,a2,aiP]
   rw [if_pos (by simp only [decide_eq_true_eq]; unfold na at h; omega),er (l:=(nd l i).args) h,aiI,e1,aiI]
   cases e:gb dn (ar l i k) with
   | true=>
    obtain⟨o,k1,k2⟩:=Pv (m:=m) ok hd hi f (k+1) om om
    rw [if_neg (by simp),bL om om,show (k:Int)+1=((k+1:Nat):Int) by omega,k1]
    refine⟨o,rfl,k2.imp (fun ⟨x,y⟩=>⟨x,fun q q1 q2=>?_⟩) id⟩
    by_cases hq:q=k
    ·subst hq; exact e
    ·exact y q om q2
   | false=>exact⟨_,rfl,.inr ⟨rfl,k,h,e⟩⟩
  ·refine⟨_,by rw [if_neg (by simp only [decide_eq_true_eq]; unfold na at h; omega)],.inl ⟨⟨_,rfl⟩,fun q q1 q2=>absurd q2 om⟩⟩
theorem Pw {m:Nat}(hm:2 ^ 30≤m){l:List ak}{dn:List Bool}(ok:nY l)(hd:dn.length=l.length){i:Nat}(hi:i<l.length):∃x,dv.f m (nd l i) dn=some x∧(x=true→Rdy l dn i)∧(x=false→∃q,q<na l i∧gb dn (ar l i q)=false):=by
 have vM:(2:Nat) ^ 30=1073741824:=by decide
 have h8:=Kz ok hi
 obtain⟨o,k1,k2⟩:=Pv (m:=m) ok hd hi m 0 om om
 have k1:dv.l0 m (nd l i) dn m 0=_:=k1
 unfold dv.f
 rw [k1,aiI]
 rcases k2 with⟨⟨x,rfl⟩,k⟩| ⟨rfl,hq⟩
 ·exact⟨true,rfl,fun _ k0 hk=>k k0 om hk,fun h=>by cases h⟩
 ·exact⟨false,rfl,fun h=>(by cases h),fun _=>hq⟩
def xR (l:List ak)(c:List Int)(i j:Nat):Prop:=Alike (nd l i) (nd l j)∧SA l c i j
theorem KB {m:Nat}(hm:2 ^ 30≤m){l:List ak}{c fs:List Int}(ok:nY l)(hc:c.length=l.length){i:Nat}(hi:i<l.length)(hf:∀f∈fs,0≤f∧f<l.length)(Ue:fs.length≤8000):∀(f k:Nat),fs.length - k<f→k≤fs.length→
  ∃o,dB.l0 m l fs (i:Int) c f (k:Int)=some o∧((∃x,o = .inr x)∧(∀q,k≤q→q<fs.length→¬xR l c i (gt fs q).toNat)∨∃v,o = .inl v∧v∈fs∧xR l c i v.toNat)
 | 0,k,h,_=>absurd h om
 | f+1,k,h,hk=>by
  unfold dB.l0
  by_cases Qv:k<fs.length
  ·obtain⟨b0,b1⟩:=hf _ (bC Qv)
   have Yz:((gt fs k).toNat:Int)=gt fs k:=by omega
   obtain⟨xa,a1,a2⟩:=AU (m:=m) (nd l (i:Int)) (nd l (gt fs k))
   have ih:=KB hm ok hc hi hf Ue f (k+1) om om
   obtain⟨o,k1,k2⟩:=ih
   have next:¬xR l c i (gt fs k).toNat→∃o',(dB.l0 m l fs (i:Int) c f (i64.wrap ((k:Int)+1)))=some o'∧((∃x,o' = .inr x)∧(∀q,k≤q→q<fs.length→¬xR l c i (gt fs q).toNat)∨∃v,o' = .inl v∧v∈fs∧xR l c i v.toNat):=fun hn=>by
    rw [bL om om,show (k:Int)+1=((k+1:Nat):Int) by omega,k1]
    refine⟨o,rfl,k2.imp (fun ⟨x,y⟩=>⟨x,fun q q1 q2=>?_⟩) id⟩
    by_cases hq:q=k
    ·subst hq; exact hn
    ·exact y q om q2
   rw [if_pos dm,k8 om om,aiI,er Qv,aiI,k8 b0 b1,aiI,a1,aiI]
   cases xa with
   | false=>
    rw [if_neg (by simp)]
    refine next fun hs=>?_
    have:=a2.2 (by have:=hs.1; rw [Yz] at this; exact this)
    cases this
   | true=>
    have hA:=a2.1 rfl
    have hl:na l i=na l (gt fs k).toNat:=by unfold na; rw [Yz]; exact hA.len
    obtain⟨xs,s1,s2⟩:=KA hm ok hc hi (j:=(gt fs k).toNat) om hl
    rw [Yz] at s1
    rw [if_pos rfl,aiI,aiI,k8 b0 b1,aiI,s1,aiI]
    cases xs with
    | false=>
     rw [if_neg (by simp)]
     refine next fun hs=>?_
     have:=s2.2 hs.2; cases this
    | true=>
     exact⟨_,rfl,.inr ⟨_,rfl,bC Qv,by rw [Yz]; exact hA,s2.1 rfl⟩⟩
  ·exact⟨_,by rw [if_neg dm],.inl ⟨⟨_,rfl⟩,fun q q1 q2=>absurd q2 om⟩⟩
theorem find_spec {m:Nat}(hm:2 ^ 30≤m){l:List ak}{c fs:List Int}(ok:nY l)(hc:c.length=l.length){i:Nat}(hi:i<l.length)(hf:∀f∈fs,0≤f∧f<l.length)(Ue:fs.length≤8000) :
  ∃v,dB.f m l fs (i:Int) c=some v∧(v=i∧(∀f∈fs,¬xR l c i f.toNat)∨v∈fs∧xR l c i v.toNat):=by
 have vM:(2:Nat) ^ 30=1073741824:=by decide
 obtain⟨o,k1,k2⟩:=KB hm ok hc hi hf Ue m 0 om om
 have k1:dB.l0 m l fs (i:Int) c m 0=_:=k1
 unfold dB.f
 rw [k1,aiI]
 rcases k2 with⟨⟨x,rfl⟩,k⟩| ⟨v,rfl,hv,hs⟩
 ·refine⟨_,rfl,.inl ⟨rfl,fun f hf=>?_⟩⟩
  obtain⟨q,hq,e⟩:=jd hf
  rw [←e]; exact k q om hq
 ·exact⟨v,rfl,.inr ⟨hv,hs⟩⟩
inductive AW (κ:Int→Int)(A:Int→List Int):List Int→List Int→List Int→Prop
 | nil (o:List Int):AW κ A [] o o
 | skip {v:Int} {st o o':List Int}:κ v∈o.map κ→AW κ A st o o'→AW κ A (v::st) o o'
 | push {v:Int} {st o o':List Int}:κ v∉o.map κ→AW κ A (A v++st) (o++[v]) o'→AW κ A (v::st) o o'
theorem AW.det {κ:Int→Int}{A:Int→List Int}{st o o1 o2:List Int}(h:AW κ A st o o1)(k:AW κ A st o o2):o1=o2:=by
 induction h with
 | nil o=>cases k; rfl
 | skip hm _ ih=>
  cases k with
  | skip _ k=>exact ih k
  | push hn _=>exact absurd hm hn
 | push hn _ ih=>
  cases k with
  | skip hm _=>exact absurd hm hn
  | push _ k=>exact ih k
theorem AW.facts {κ:Int→Int}{A:Int→List Int}{n:Nat}{st o o':List Int}(h:AW κ A st o o')(hA:∀v:Int,0≤v→v<n→∀a∈A v,0≤a∧a<n)(hst:∀v∈st,0≤v∧v<n)(ho:∀v∈o,0≤v∧v<n)(Ie:(o.map κ).Nodup) :
  (∃t,o'=o++t)∧(∀v∈o',0≤v∧v<n)∧(o'.map κ).Nodup∧(∀v∈st,κ v∈o'.map κ)∧((∀v∈o,∀a∈A v,κ a∈o.map κ∨a∈st)→∀v∈o',∀a∈A v,κ a∈o'.map κ):=by
 induction h with
 | nil o=>
  refine⟨⟨[],by simp⟩,ho,Ie,?_,?_⟩
  ·intro v hv; cases hv
  ·intro h v hv a ha; exact (h v hv a ha).resolve_right (by simp)
 | @skip v st o o' hm _ ih=>
  obtain⟨⟨t,rfl⟩,a,b,c,d⟩:=ih (fun x hx=>hst x (by simp [hx])) ho Ie
  refine⟨⟨t,rfl⟩,a,b,fun x hx=>?_,fun h=>d fun x hx y hy=>?_⟩
  ·rcases aja.1 hx with rfl | hx
   ·rw [ai5]; exact ajh _ hm
   ·exact c x hx
  ·rcases h x hx y hy with h | h
   ·exact .inl h
   ·rcases aja.1 h with rfl | h
    ·exact .inl hm
    ·exact .inr h
 | @push v st o o' hn _ ih=>
  have hv:=hst v (by simp)
  have h1:∀x∈A v++st,0≤x∧x<n:=fun x hx=>by
   rcases ai3.1 hx with hx | hx
   ·exact hA v hv.1 hv.2 x hx
   ·exact hst x (by simp [hx])
  have h2:∀x∈o++[v],0≤x∧x<n:=fun x hx=>by
   rcases ai3.1 hx with hx | hx
   ·exact ho x hx
   ·rw [aiU] at hx; subst hx; exact hv
  have h3:((o++[v]).map κ).Nodup:=by
   rw [ai5,ajS]
   refine⟨Ie,by simp,fun a ha b hb=>?_⟩
   simp only [ai9,akc,aiU] at hb
   subst hb; intro e; subst e; exact hn ha
  obtain⟨⟨t,rfl⟩,a,b,c,d⟩:=ih h1 h2 h3
  refine⟨⟨[v]++t,by simp⟩,a,b,fun x hx=>?_,fun h=>d fun x hx y hy=>?_⟩
  ·rcases aja.1 hx with rfl | hx
   ·simp
   ·exact c x (by simp [hx])
  ·rcases ai3.1 hx with hx | hx
   ·rcases h x hx y hy with h | h
    ·exact .inl (by rw [ai5]; exact ajh _ h)
    ·rcases aja.1 h with rfl | h
     ·exact .inl (by simp)
     ·exact .inr (by simp [h])
   ·rw [aiU] at hx; subst hx
    exact .inr (ajh _ hy)
theorem AW.from {A:Int→List Int}{root:Int}{st o o':List Int}(h:AW id A st o o')(hst:∀v∈st,v=root∨∃q,q<o.length∧v∈A (gt o q))(ho:∀i,i<o.length→gt o i=root∨∃q,q<i∧gt o i∈A (gt o q)) :
  ∀i,i<o'.length→gt o' i=root∨∃q,q<i∧gt o' i∈A (gt o' q):=by
 induction h with
 | nil o=>exact ho
 | skip hm _ ih=>exact ih (fun x hx=>hst x (by simp [hx])) ho
 | @push v st o o' hn _ ih=>
  have gl:∀q,q<o.length→gt (o++[v]) q=gt o q:=fun q hq=>lE hq
  have gv:gt (o++[v]) o.length=v:=by unfold gt; rw [ai2,ai0 (aiQ _),ajI]; rfl
  refine ih (fun x hx=>?_) (fun i hi=>?_)
  ·rcases ai3.1 hx with hx | hx
   ·exact .inr ⟨o.length,by simp,by rw [gv]; exact hx⟩
   ·rcases hst x (by simp [hx]) with h | ⟨q,q1,q2⟩
    ·exact .inl h
    ·exact .inr ⟨q,by simp; omega,by rw [gl q q1]; exact q2⟩
  ·by_cases h:i<o.length
   ·rw [gl i h]
    rcases ho i h with h1 | ⟨q,q1,q2⟩
    ·exact .inl h1
    ·exact .inr ⟨q,q1,by rw [gl q om]; exact q2⟩
   ·have e:i=o.length:=by simp at hi; omega
    subst e
    rw [gv]
    rcases hst v (by simp) with h | ⟨q,q1,q2⟩
    ·exact .inl h
    ·exact .inr ⟨q,q1,by rw [gl q q1]; exact q2⟩
theorem Gk (cls:List Int)(l:List ak)(k:Nat)(i:Int)(o:List Int):xQ cls l (k+1) i o=if iL cls i∈o.map (iL cls) then o else (nd l i).args.foldl (fun o a=>xQ cls l k a o) (o++[i]):=rfl
theorem Px {cls:List Int}{l:List ak}(ok:nY l):∀(k:Nat) (i:Int) (o:List Int),0≤i→i<l.length→Vs cls l.length o→Vs cls l.length (xQ cls l k i o)∧o.length≤(xQ cls l k i o).length
 | 0,i,o,_,_,v=>⟨v,aiQ _⟩
 | k+1,i,o,h0,h1,v=>by
  rw [Gk]
  split
  ·exact⟨v,aiQ _⟩
  ·rename_i h
   have v1:Vs cls l.length (o++[i]):=by
    refine⟨?_,fun x hx=>?_⟩
    ·rw [ai5,ajS]
     refine⟨v.Qm,by simp,fun a ha b hb=>?_⟩
     simp only [ai9,akc,aiU] at hb
     subst hb; intro e; subst e; exact h ha
    ·rcases ai3.1 hx with hx | hx
     ·exact v.ti x hx
     ·simp only [aiU] at hx; subst hx; exact⟨h0,h1⟩
   have fold:∀(zs:List Int) (o:List Int),(∀a∈zs,0≤a∧a<l.length)→Vs cls l.length o→Vs cls l.length (zs.foldl (fun o a=>xQ cls l k a o) o)∧o.length≤(zs.foldl (fun o a=>xQ cls l k a o) o).length:=by
    intro zs
    induction zs with
    | nil=>intro o _ v; exact⟨v,aiQ _⟩
    | cons a zs ih=>
     intro o ha v
     have hr:=ha a (by simp)
     obtain⟨v2,l2⟩:=Px ok k a o hr.1 hr.2 v
     obtain⟨v3,l3⟩:=ih (xQ cls l k a o) (fun x hx=>ha x (by simp [hx])) v2
     exact⟨v3,ajF l2 l3⟩
   obtain⟨v2,l2⟩:=fold (nd l i).args (o++[i]) (ok.2 _ (jE h0 h1)).2 v1
   exact⟨v2,by simp at l2; omega⟩
theorem vN {cls:List Int}{l:List ak}(ok:nY l):∀(k:Nat) (i:Int) (o st o':List Int),0≤i→i<l.length→Vs cls l.length o→l.length<k+o.length→
  AW (iL cls) (fun v=>(nd l v).args) st (xQ cls l k i o) o'→AW (iL cls) (fun v=>(nd l v).args) (i::st) o o'
 | 0,i,o,st,o',_,_,v,hk,_=>absurd v.Cr om
 | k+1,i,o,st,o',h0,h1,v,hk,h=>by
  rw [Gk] at h
  by_cases hm:iL cls i∈o.map (iL cls)
  ·rw [if_pos hm] at h
   exact .skip hm h
  ·rw [if_neg hm] at h
   refine .push hm ?_
   have v1:Vs cls l.length (o++[i]):=by
    refine⟨?_,fun x hx=>?_⟩
    ·rw [ai5,ajS]
     refine⟨v.Qm,by simp,fun a ha b hb=>?_⟩
     simp only [ai9,akc,aiU] at hb
     subst hb; intro e; subst e; exact hm ha
    ·rcases ai3.1 hx with hx | hx
     ·exact v.ti x hx
     ·simp only [aiU] at hx; subst hx; exact⟨h0,h1⟩
   have fold:∀(zs:List Int) (o:List Int),(∀a∈zs,0≤a∧a<l.length)→Vs cls l.length o→l.length<k+o.length→AW (iL cls) (fun v=>(nd l v).args) st (zs.foldl (fun o a=>xQ cls l k a o) o) o'→AW (iL cls) (fun v=>(nd l v).args) (zs++st) o o':=by
    intro zs
    induction zs with
    | nil=>intro o _ _ _ h; exact h
    | cons a zs ih=>
     intro o ha v hk h
     have hr:=ha a (by simp)
     obtain⟨v2,l2⟩:=Px ok k a o hr.1 hr.2 v
     exact vN ok k a o (zs++st) o' hr.1 hr.2 v hk (ih _ (fun x hx=>ha x (by simp [hx])) v2 om h)
   exact fold (nd l i).args (o++[i]) (ok.2 _ (jE h0 h1)).2 v1 (by simp; omega) h
theorem nS {od:List Int}{n:Nat}(h:od.Nodup)(hr:∀x∈od,0≤x∧x<n):od.length≤n:=by
 have:=h.length_le_of_subset (l₂:=ints n) (fun x hx=>lY.2 (hr x hx))
 rwa [hU] at this
theorem Py {m:Nat}{l:List ak}(ok:nY l){v:Int}(h0:0≤v)(h1:v<l.length):∀(f i:Nat) (st:List Int),i<f→i≤(nd l v).args.length→st.length+i≤1000000→
  ∃x,bz.l1 m l v f st ((i:Int) - 1)=some (st++((nd l v).args.take i).reverse,x)
 | 0,i,st,hf,_,_=>absurd hf om
 | f+1,0,st,hf,hi,hs=>by
  unfold bz.l1
  rw [if_neg (by simp)]
  exact⟨_,by simp; rfl⟩
 | f+1,i+1,st,hf,hi,hs=>by
  have h8:=(ok.2 _ (jE h0 h1)).1
  have ei:((i+1:Nat):Int) - 1=(i:Int):=by omega
  have ew:i64.wrap ((i:Int) - 1)=(i:Int) - 1:=bL om om
  have ux:app 8 st [gt (nd l v).args i]=some (st++[gt (nd l v).args i]):=by unfold app; rw [if_pos (by simp; omega)]
  obtain⟨x,ih⟩:=Py (m:=m) ok h0 h1 f i (st++[gt (nd l v).args i]) om om (by simp; omega)
  refine⟨x,?_⟩
  unfold bz.l1
  rw [ei,if_pos (by simp),k8 h0 h1,aiI,er om,aiI,ux,aiI,ew,ih]
  rw [ajY,cz om]
  simp
theorem Ih {m:Nat}(hm:2 ^ 30≤m){l:List ak}(ok:nY l):∀(f:Nat) (met:List Bool) (o st:List Int),st.length+9*(l.length - o.length)<f→st.length+9*(l.length - o.length)≤100000→met.length=l.length→(∀i,i<l.length→(gb met i=true↔(i:Int)∈o))→o.Nodup→(∀v∈o,0≤v∧v<l.length)→(∀v∈st,0≤v∧v<l.length)→
  ∃Eh o' ,bz.l0 m l f met o st.reverse=some (Eh,o',[])∧AW id (fun v=>(nd l v).args) st o o'
 | 0,met,o,st,hf,_,_,_,_,_,_=>absurd hf om
 | f+1,met,o,[],hf,hb,VY,YA,Zn,Zo,Vt=>by
  unfold bz.l0
  rw [if_neg (by simp)]
  exact⟨met,o,rfl,.nil o⟩
 | f+1,met,o,v::st,hf,hb,VY,YA,Zn,Zo,Vt=>by
  have vM:(2:Nat) ^ 30=1073741824:=by decide
  have RY:=nS Zn Zo
  obtain⟨v0,v1⟩:=Vt v (by simp)
  have h8:=(ok.2 _ (jE v0 v1)).1
  have Vx:((v.toNat:Nat):Int)=v:=by omega
  simp only [aiX] at hf hb
  have YB:=ok.1
  unfold bz.l0
  have hlen:((v::st).reverse.length:Int)=(st.length:Int)+1:=by simp
  have ew:i64.wrap ((st.length:Int)+1 - 1)=(st.length:Int):=by rw [bL om om]; omega
  have e1:ix (v::st).reverse (st.length:Int)=some v:=by
   unfold ix
   rw [if_pos om,aiP,List.reverse_cons,ai0 (by simp)]
   simp
  have e2:I4 (v::st).reverse 0 (st.length:Int)=some st.reverse:=by
   unfold I4
   rw [if_pos ⟨om,om,by simp; omega⟩,List.reverse_cons]
   simp only [aiP,aji,Int.toNat_zero,Nat.sub_zero]
   rw [List.take_left' (by simp)]
  have e3:ix met v=some (gb met v.toNat):=AT v0 om
  rw [if_pos (by rw [hlen]; simp only [gt_iff_lt,decide_eq_true_eq]; omega),hlen,ew,e1,aiI,e2,aiI,e3,aiI]
  cases hg:gb met v.toNat with
  | true=>
   have wv:v∈o:=by have:=(YA v.toNat om).1 hg; rwa [Vx] at this
   obtain⟨Eh,o',k1,k2⟩:=Ih hm ok f met o st om om VY YA Zn Zo (fun x hx=>Vt x (by simp [hx]))
   rw [if_pos rfl]
   exact⟨Eh,o',k1,.skip (by simpa using wv) k2⟩
  | false=>
   have Zp:v∉o:=fun h=>by
    have:=(YA v.toNat om).2 (by rw [Vx]; exact h)
    rw [hg] at this; cases this
   have YC:(o++[v]).Nodup:=by
    rw [ajS]
    refine⟨Zn,by simp,fun a ha b hb=>?_⟩
    rw [aiU] at hb
    subst hb; intro e; subst e; exact Zp ha
   have YD:∀x∈o++[v],0≤x∧x<l.length:=fun x hx=>by
    rcases ai3.1 hx with hx | hx
    ·exact Zo x hx
    ·rw [aiU] at hx; subst hx; exact⟨v0,v1⟩
   have Ge:=nS YC YD
   simp only [aiT,aiX,ai4] at Ge
   have ux:app 8 o [v]=some (o++[v]):=by unfold app; rw [if_pos (by simp; omega)]
   have ewn:i64.wrap (((nd l v).args.length:Int) - 1)=((nd l v).args.length:Int) - 1:=bL om om
   obtain⟨x,q1⟩:=Py (m:=m) ok v0 v1 m (nd l v).args.length st.reverse om (aiQ _) (by simp; omega)
   rw [ajr] at q1
   have Vy:st.reverse++(nd l v).args.reverse=((nd l v).args++st).reverse:=by simp
   rw [Vy] at q1
   rw [if_neg (by simp),aiI,ux,aiI,k8 v0 v1,aiI,ewn,q1,aiI]
   dsimp only
   obtain⟨Eh,o',k1,k2⟩:=Ih hm ok f (met.set v.toNat true) (o++[v]) ((nd l v).args++st) (by simp; omega) (by simp; omega) (by simpa using VY) (fun i hi=>by
    rw [Eg om,ai3,aiU]
    by_cases e:i=v.toNat
    ·subst e; simp [Vx]
    ·rw [if_neg e,YA i hi]
     constructor
     ·exact fun h=>.inl h
     ·rintro (h | h)
      ·exact h
      ·omega) YC YD (fun x hx=>by
    rcases ai3.1 hx with hx | hx
    ·exact (ok.2 _ (jE v0 v1)).2 x hx
    ·exact Vt x (by simp [hx]))
   exact⟨Eh,o',k1,.push (by simpa using Zp) k2⟩
theorem Ei {n k:Nat}:gb (ai1 n false) k=false:=by
 unfold gb; rw [ai2,List.getElem?_replicate]; split<;>rfl
theorem vO {m:Nat}(hm:2 ^ 30≤m){l:List ak}(ok:nY l){root:Int}(h0:0≤root)(h1:root<l.length):∃o,bz.f m l root=some o∧AW id (fun v=>(nd l v).args) [root] [] o:=by
 have vM:(2:Nat) ^ 30=1073741824:=by decide
 have YB:=ok.1
 unfold bz.f
 have e1:sY 1 (l.length:Int) false=some (ai1 l.length false):=by unfold sY; rw [if_pos ⟨om,by rw [aiP]; omega⟩,aiP]
 have ux:app 8 ([]:List Int) [root]=some [root]:=by unfold app; rw [if_pos (by simp),ajj]
 obtain⟨Eh,o',k1,k2⟩:=Ih hm ok m (ai1 l.length false) [] [root] (by simp; omega) (by simp; omega) (by simp) (fun i hi=>by rw [Ei]; simp) (by simp) (fun v hv=>by cases hv) (fun v hv=>by rw [aiU] at hv; subst hv; exact⟨h0,h1⟩)
 have k1:bz.l0 m l m (ai1 l.length false) [] [root]=_:=k1
 rw [e1,aiI,ux,aiI,k1,aiI]
 exact⟨o',rfl,k2⟩
end Go.Proofs.YtifafejidnjckaaGreat
