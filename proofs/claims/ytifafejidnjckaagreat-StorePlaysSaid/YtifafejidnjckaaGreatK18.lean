/- Part of the proof: PD4, PD5, PD6, PFA, RCL, PdS, QJ0, QJ13. -/
import Derived.Test.YtifafejidnjckaaGreatK17
import Derived.Test.YtifafejidnjckaaGreatChecked
set_option linter.unusedVariables false
set_option linter.unusedSimpArgs false
set_option maxRecDepth 100000
open BEq renaming rfl → aj8
open Bool renaming and_eq_true → aiM, false_eq_true → aiW, not_true → ajA, true_and → ajC, not_eq_true' → ajX
open Int renaming toNat_natCast → aiP, natCast_nonneg → ajQ
open List renaming getElem?_eq_getElem → aiN, getElem?_eq_some_iff → aiO, mem_of_getElem? → aiS, length_append → aiT, mem_singleton → aiU, length_cons → aiX, length_map → aiY, drop_eq_getElem_cons → aiZ, getElem?_append_right → ai0, mem_append → ai3, length_nil → ai4, map_append → ai5, getElem?_append_left → ai6, append_assoc → ai7, getElem?_eq_none → ai8, map_cons → ai9, mem_cons → aja, take_succ_eq_append_getElem → ajb, mem_map → ajc, all_eq_true → ajd, getElem?_map → aje, mem_append_left → ajh, drop_zero → aji, nil_append → ajj, length_take → ajo, take_length → ajr, cons_append → ajv, getElem?_cons_zero → ajx, ext_getElem? → ajG, getElem?_of_mem → ajH, append_nil → ajJ, drop_eq_nil_of_le → ajL, set_append_right → ajM, range → ajP, getElem?_cons_succ → ajV, mem_filter → aj1, drop_append_of_le_length → aj4, mem_range → aj6, mem_cons_of_mem → aj7, map_nil → akc, length_range → akh, filter_append → akm, length_filter_le → akr, pairwise_map → aks, getElem?_range → aku
open Nat renaming le_refl → aiQ, zero_add → ajf, lt_of_lt_of_le → ajk, zero_le → ajm, beq → ajy, sub_self → ajI, eq_of_beq_eq_true → aj2, add_zero → akj, ble → akn, zero_lt_one → akp
open Option renaming bind_some → aiI, bind_eq_some_iff → aiJ, map_eq_some_iff → aiK, map_some → aiR
open Option.some renaming injEq → aiL, inj → ajn
namespace Go.Proofs.YtifafejidnjckaaGreat
open Go Go.R Go.Uf
open Go.IntKind (i64 u64 u8 u32)
section
variable {m:Nat}{s:ae}{t:aj}
def GH (s:ae)(V:List ak):ae:=⟨true,s.aa++V,s.an++gK s.aa.length V.length⟩
def PU (t:aj)(s:ae)(V:List ak):aj:=⟨s.aa++V,gE s++gK s.aa.length V.length,true⟩
theorem CB (v:Inv2 s)(V:List ak)(hW:∀(i:Nat) x,V[i]? = some x→gD x ((s.aa.length+V.length:Nat):Int)=true∧(x.kind=0→x.int=((s.aa.length+i:Nat):Int)))(hl:s.aa.length+V.length≤8000):Inv2 (GH s V)∧jm (GH s V) (PU t s V):=by
 have w:=(v.more V hW hl).1
 rw [v.inv.made] at w
 have w:Inv2 (GH s V):=w
 have hlen:=v.inv.len
 obtain⟨g1,g2,g3⟩:=Ik v.inv.ok V.length
 rw [hlen] at g1 g2 g3
 refine⟨w,rfl,rfl,?_⟩
 show gE s++gK s.aa.length V.length=(ajP (s.aa++V).length).map fun (i:Nat)=>rp (s.an++gK s.aa.length V.length) (i:Int)
 apply ajG fun j=>?_
 rw [aje]
 by_cases h1:j<s.aa.length
 ·rw [ai6 (by rw [hX]; exact h1),aku (by rw [aiT]; omega)]
  unfold gE
  rw [aje,aku h1]
  simp only [aiR]
  rw [g2 _ ⟨ajQ _,om⟩]
 ·rw [ai0 (by rw [hX]; omega),hX]
  unfold gK
  rw [aje]
  by_cases h2:j<s.aa.length+V.length
  ·rw [aku om,aku (by rw [aiT]; omega)]
   simp only [aiR]
   have:=g3 (j:Int) om om
   unfold gK at this
   rw [this]
   congr 2; omega
  ·rw [ai8 (by rw [akh]; omega),ai8 (by rw [akh,aiT]; omega)]
   rfl
theorem pC (v:Inv2 s)(M:jm s t)(r:Bool)(n:ak)(h0:n.kind=0→r=true∧n.label=⟨#[]⟩∧n.args=[])(h1:n.kind≠0→r=gD n s.aa.length)(hm:2000000≤m) :
  ∃k e s' t',dF.f m s (some r) n=some (k,e,s')∧du.f m t n=some (k,e,t')∧Inv2 s'∧jm s' t':=by
 have n3:=v.inv.max
 have hlen:=v.inv.len
 unfold dF.f cH.f du.f
 rw [v.inv.made,M.l8]
 simp only [aiI,ajA,aiW,if_false]
 have key:(n.args.length≤8)→(∀z:Int,z=(if n.kind=0 then (s.aa.length:Int) else n.int)→gD ⟨n.kind,z,n.label,n.args⟩ ((s.aa.length+1:Nat):Int)=true)→r=true→
   ∃k e s' t',(if (!r)=true then some ((0:Int),(1:Int),s) else if decide ((s.aa.length:Int)≥8000)=true then some ((0:Int),(7:Int),s) else jn (fun (σ:Int)=>match σ with | n1=>(app 56 s.aa ([(ak.mk n.kind n1 n.label n.args)])).bind fun x1=>(app 8 s.an ([(s.aa.length:Int)])).bind fun x2=>some ((s.aa.length:Int),(0:Int),(ae.mk true x1 x2))) fun vh=>(if (n.kind==(0:Int))=true then (vh (s.aa.length:Int)) else (vh n.int)))=some (k,e,s')∧
    (if decide ((t.ah.length:Int)≥8000)=true then some ((0:Int),(7:Int),t) else (app 8 ([]) n.args).bind fun x3=>jn (fun (σ:Int)=>match σ with | n1=>(app 56 t.ah ([(ak.mk n.kind n1 n.label x3)])).bind fun x4=>(app 8 t.ao ([(t.ah.length:Int)])).bind fun x5=>some ((t.ah.length:Int),(0:Int),(aj.mk x4 x5 t.aE))) fun LU=>(if (n.kind==(0:Int))=true then (LU (t.ah.length:Int)) else (LU n.int)))=some (k,e,t')∧Inv2 s'∧jm s' t':=by
  intro a8 hz hr
  subst hr
  rw [M.nodes,M.bG,M.made,if_neg (by decide)]
  by_cases hl:s.aa.length≥8000
  ·have d:decide ((s.aa.length:Int)≥8000)=true:=by rw [decide_eq_true_eq]; omega
   rw [d,if_pos rfl,if_pos rfl]
   exact⟨_,_,_,_,rfl,rfl,v,M⟩
  ·have d:decide ((s.aa.length:Int)≥8000)=false:=by rw [decide_eq_false_iff_not]; omega
   have hA:∀y,app 56 s.aa [y]=some (s.aa++[y]):=fun y=>nX (by simp only [aiX,ai4]; omega)
   have hB:app 8 s.an [(s.aa.length:Int)]=some (s.an++[(s.aa.length:Int)]):=nX (by simp only [aiX,ai4]; omega)
   have hC:app 8 (gE s) [(s.aa.length:Int)]=some (gE s++[(s.aa.length:Int)]):=nX (by rw [hX]; simp only [aiX,ai4]; omega)
   have hD:app 8 ([]:List Int) n.args=some n.args:=by rw [nX (by simp only [ai4]; omega),ajj]
   have es:gK s.aa.length 1=[(s.aa.length:Int)]:=by simp [gK]
   rw [d,if_neg (by decide),if_neg (by decide),hD,aiI]
   have go:∀z:Int,z=(if n.kind=0 then (s.aa.length:Int) else n.int)→Inv2 ⟨true,s.aa++[⟨n.kind,z,n.label,n.args⟩],s.an++[(s.aa.length:Int)]⟩∧jm ⟨true,s.aa++[⟨n.kind,z,n.label,n.args⟩],s.an++[(s.aa.length:Int)]⟩ ⟨s.aa++[⟨n.kind,z,n.label,n.args⟩],gE s++[(s.aa.length:Int)],true⟩:=fun z he=>by
    have:=CB (t:=t) v [⟨n.kind,z,n.label,n.args⟩] (fun i x hx=>by
     cases i with
     | succ i=>simp at hx
     | zero=>
      simp only [ajx,aiL] at hx
      subst hx
      refine⟨hz z he,fun hk=>?_⟩
      have hk:n.kind=0:=hk
      show z=_
      rw [he,if_pos hk,akj]) (by simp only [aiX,ai4]; omega)
    unfold GH PU at this
    simp only [aiX,ai4,ajf,es] at this
    exact this
   simp only [jn]
   by_cases hk:n.kind=0
   ·have:(n.kind==0)=true:=by rw [hk]; rfl
    simp only [this,if_true,hA,hB,hC,aiI]
    exact⟨_,_,_,_,rfl,rfl,go _ (by rw [if_pos hk])⟩
   ·have:(n.kind==0)=false:=by simpa using hk
    simp only [this,aiW,if_false,hA,hB,hC,aiI]
    exact⟨_,_,_,_,rfl,rfl,go _ (by rw [if_neg hk])⟩
 by_cases hk:n.kind=0
 ·obtain⟨hr,acV,hargs⟩:=h0 hk
  obtain⟨k,e,s',t',e1,e2,e3⟩:=key (by rw [hargs]; simp) (fun z hz=>by
   unfold gD
   simp only [hk,if_true]
   rw [acV,hargs]
   rw [hz,if_pos hk]
   simp) hr
  refine⟨k,e,s',t',e1,?_,e3⟩
  have:(n.kind==0)=true:=by rw [hk]; rfl
  rw [this] at e2 ⊢
  simp only [ajA,aiW,if_false,jn] at e2 ⊢
  exact e2
 ·have hr:=h1 hk
  have hb:(n.kind==0)=false:=by simpa using hk
  have hR:dd.f m n (t.ah.length:Int)=some (gD n s.aa.length):=by rw [M.nodes]; exact A0 om n _
  cases hB:gD n s.aa.length with
  | false=>
   rw [hB] at hr hR
   subst hr
   refine⟨0,1,s,t,rfl,?_,v,M⟩
   simp only [jn,hb,Bool.not_false,if_true,hR,aiI]
  | true=>
   rw [hB] at hr hR
   obtain⟨k,e,s',t',e1,e2,e3⟩:=key (np hB).1.args (fun z hz=>by
    rw [if_neg hk] at hz
    subst hz
    exact Gl hB om) hr
   refine⟨k,e,s',t',e1,?_,e3⟩
   simp only [jn,hb,Bool.not_false,ajA,if_true,aiW,if_false,hR,aiI] at e2 ⊢
   exact e2
def Sj (len i:Nat)(n:ak):ak:=⟨n.kind,if n.kind=0 then ((len+i:Nat):Int) else n.int,n.label,n.args.map (· + (len:Int))⟩
def k9 (len:Nat):Nat→List ak→List ak
 | _,[]=>[]
 | i,n::l=>Sj len i n::k9 len (i+1) l
theorem sH (len:Nat):∀(l:List ak) (i:Nat),(k9 len i l).length=l.length
 | [],i=>rfl
 | n::l,i=>by simp only [k9,aiX,sH len l (i+1)]
theorem GI (len:Nat):∀(l k:List ak) (i:Nat),k9 len i (l++k)=k9 len i l++k9 len (i+l.length) k
 | [],k,i=>by simp [k9]
 | n::l,k,i=>by
  simp only [ajv,k9,GI len l k (i+1),aiX]
  rw [show i+1+l.length=i+(l.length+1) by omega]
theorem GJ (len:Nat):∀(l:List ak) (i j:Nat),(k9 len i l)[j]? = l[j]?.map (Sj len (i+j))
 | [],i,j=>by simp [k9]
 | n::l,i,0=>by simp [k9]
 | n::l,i,j+1=>by
  simp only [k9,ajV,GJ len l (i+1) j]
  rw [show i+1+j=i+(j+1) by omega]
theorem YO {len:Nat}{l:List ak}{i:Nat}{x:ak}(h:l[i]? = some x):k9 len 0 (l.take (i+1))=k9 len 0 (l.take i)++[Sj len i x]:=by
 obtain⟨hi,he⟩:=aiO.1 h
 have et:l.take (i+1)=l.take i++[l[i]]:=ajb hi
 rw [et,GI,he]
 simp only [k9,ajo]
 rw [show 0+min i l.length=i by omega]
theorem KV {v:ak}(a8:v.args.length≤8)(aR:∀a∈v.args,0≤a∧a<8000)(M:jm s t)(hN:s.aa.length≤8000)(t2:aj):∀(k i:Nat),i≤v.args.length→v.args.length - i<k→
  bo.l1 m t v k ((v.args.take i).map (· + (s.aa.length:Int))) (i:Int) t2=some (v.args.map (· + (s.aa.length:Int)),(v.args.length:Int),t2)
 | 0,i,h1,h2=>by omega
 | k+1,i,h1,h2=>by
  simp only [bo.l1,M.nodes]
  by_cases hi:i<v.args.length
  ·have d:decide ((i:Int)<(v.args.length:Int))=true:=by rw [decide_eq_true_eq]; omega
   have eg:=aiN hi
   have et:v.args.take (i+1)=v.args.take i++[v.args[i]]:=ajb hi
   generalize v.args[i]=a at eg et
   obtain⟨b1,b2⟩:=aR a (aiS eg)
   have ew:i64.wrap ((i:Int)+1)=((i+1:Nat):Int):=by rw [kh om om]; omega
   have ev:i64.wrap ((s.aa.length:Int)+a)=a+(s.aa.length:Int):=by rw [kh om om]; omega
   rw [if_pos d,tJ eg,aiI,ev,nX (by simp only [aiY,ajo,aiX,ai4]; omega),aiI,ew]
   have:=KV a8 aR M hN t2 k (i+1) om om
   rw [et,ai5] at this
   exact this
  ·have d:decide ((i:Int)<(v.args.length:Int))=false:=by rw [decide_eq_false_iff_not]; omega
   have e:i=v.args.length:=by omega
   rw [if_neg (by rw [d]; decide),e,ajr]
theorem xV (hm:2000000≤m)(v:Inv2 s)(M:jm s t){x:bh × Int}(ok:nY x.1.nodes)(hl:s.aa.length+x.1.nodes.length≤8000):∀(k i:Nat),i≤x.1.nodes.length→x.1.nodes.length - i<k→
  (∃z,aT.l0 m s x k (i:Int) ⟨true,s.aa++k9 s.aa.length 0 (x.1.nodes.take i),s.an++gK s.aa.length i⟩=some (z,⟨true,s.aa++k9 s.aa.length 0 x.1.nodes,s.an++gK s.aa.length x.1.nodes.length⟩))∧
  ∃z,bo.l0 m t x k (i:Int) ⟨s.aa++k9 s.aa.length 0 (x.1.nodes.take i),gE s++gK s.aa.length i,true⟩=some (z,⟨s.aa++k9 s.aa.length 0 x.1.nodes,gE s++gK s.aa.length x.1.nodes.length,true⟩)
 | 0,i,h1,h2=>by omega
 | k+1,i,h1,h2=>by
  have hlen:=v.inv.len
  simp only [aT.l0,bo.l0]
  by_cases hi:i<x.1.nodes.length
  ·have d:decide ((i:Int)<(x.1.nodes.length:Int))=true:=by rw [decide_eq_true_eq]; omega
   have eg:=aiN hi
   generalize x.1.nodes[i]=n at eg
   obtain⟨n8,nR⟩:=ok.2 n (aiS eg)
   have n80:∀a∈n.args,0≤a∧a<8000:=fun a ha=>by have:=nR a ha; have:=ok.1; omega
   obtain⟨q1,q2⟩:=Pz (m:=m) (s:=s) n8 n80 om ⟨true,s.aa++k9 s.aa.length 0 (x.1.nodes.take i),s.an++gK s.aa.length i⟩ m 0 (ajm _) om
   have q1:aT.l1 m s n m 0 n.args ⟨true,s.aa++k9 s.aa.length 0 (x.1.nodes.take i),s.an++gK s.aa.length i⟩=_:=q1
   have q2:aT.l2 m s n m 0 n.args ⟨true,s.aa++k9 s.aa.length 0 (x.1.nodes.take i),s.an++gK s.aa.length i⟩=_:=q2
   have q3:=KV (m:=m) n8 n80 M om ⟨s.aa++k9 s.aa.length 0 (x.1.nodes.take i),gE s++gK s.aa.length i,true⟩ m 0 (ajm _) om
   have q3:bo.l1 m t n m [] 0 ⟨s.aa++k9 s.aa.length 0 (x.1.nodes.take i),gE s++gK s.aa.length i,true⟩=_:=q3
   have ew:i64.wrap ((i:Int)+1)=((i+1:Nat):Int):=by rw [kh om om]; omega
   have ef:i64.wrap ((s.aa.length:Int)+(i:Int))=((s.aa.length+i:Nat):Int):=by rw [kh om om]; omega
   rw [if_pos d,if_pos d,tJ eg]
   have et:=YO (len:=s.aa.length) eg
   have hL:(k9 s.aa.length 0 (x.1.nodes.take i)).length=i:=by rw [sH,ajo]; omega
   have hA:∀y,app 56 (s.aa++k9 s.aa.length 0 (x.1.nodes.take i)) [y]=some (s.aa++k9 s.aa.length 0 (x.1.nodes.take i)++[y]):=fun y=>nX (by rw [aiT,hL]; simp only [aiX,ai4]; omega)
   have hB:∀y,app 8 (s.an++gK s.aa.length i) [y]=some (s.an++gK s.aa.length i++[y]):=fun y=>nX (by rw [aiT,oz]; simp only [aiX,ai4]; omega)
   have hC:∀y,app 8 (gE s++gK s.aa.length i) [y]=some (gE s++gK s.aa.length i++[y]):=fun y=>nX (by rw [aiT,oz,hX]; simp only [aiX,ai4]; omega)
   have ih:=xV hm v M ok hl k (i+1) om om
   rw [et,Cv,←ai7,←ai7,←ai7] at ih
   unfold Sj at ih
   simp only [jn,aiI,q1,q2,q3,ew,ef,M.nodes]
   by_cases hk:n.kind=0
   ·have:(n.kind==0)=true:=by rw [hk]; rfl
    simp only [this,if_true,hA,hB,hC,aiI]
    rw [if_pos hk] at ih
    exact ih
   ·have:(n.kind==0)=false:=by simpa using hk
    simp only [this,aiW,if_false,hA,hB,hC,aiI]
    rw [if_neg hk] at ih
    exact ih
  ·have d:decide ((i:Int)<(x.1.nodes.length:Int))=false:=by rw [decide_eq_false_iff_not]; omega
   have e:i=x.1.nodes.length:=by omega
   rw [if_neg (by rw [d]; decide),if_neg (by rw [d]; decide),e,ajr]
   exact⟨⟨_,rfl⟩,_,rfl⟩
theorem Iw (hm:2 ^ 41≤m)(x:bh):∃r e,gT.f m x=some (r,e)∧gZ.f m x=some (r,e)∧(e=0∧nY r.nodes∧(∀n∈r.nodes,gD n r.nodes.length=true)∨e=2):=by
 have vM:(2:Nat) ^ 30=1073741824:=by decide
 have yG:(2:Nat) ^ 41=2199023255552:=by decide
 unfold gT.f gZ.f
 rw [qH om,xU om,aiI,aiI]
 cases h:iH x with
 | false=>exact⟨_,_,rfl,rfl,.inr rfl⟩
 | true=>
  obtain⟨w,e1,e2⟩:=Gy hm h
  obtain⟨w',R,e3,hv,_⟩:=Cu hm h
  rw [e1] at e3
  cases ajn e3
  rw [if_neg (by decide),if_neg (by decide),e1,e2]
  refine⟨_,_,rfl,rfl,.inl ⟨rfl,(lF hv).1,fun n hn=>?_⟩⟩
  unfold iH at hv
  simp only [aiM,ajd] at hv
  exact hv.2 n hn
theorem PV (hm:2 ^ 41≤m)(v:Inv2 s)(M:jm s t)(x:bh):∃k e s' t',aT.f m s x=some (k,e,s')∧bo.f m t x=some (k,e,t')∧Inv2 s'∧jm s' t':=by
 have yG:(2:Nat) ^ 41=2199023255552:=by decide
 have n3:=v.inv.max
 unfold aT.f cH.f bo.f
 rw [v.inv.made,M.l8]
 simp only [aiI,ajA,aiW,if_false]
 obtain⟨r,e,e1,e2,h⟩:=Iw hm x
 rw [e1,e2,aiI,aiI]
 rcases h with⟨rfl,ok,okB⟩| rfl
 ·rw [if_neg (show ¬(!(((r,0):bh × Int).2==(0:Int)))=true by simp),if_neg (show ¬(!(((r,0):bh × Int).2==(0:Int)))=true by simp),M.nodes]
  have hr:=ok.1
  have ew:i64.wrap ((s.aa.length:Int)+(r.nodes.length:Int))=((s.aa.length+r.nodes.length:Nat):Int):=by rw [kh om om]; omega
  rw [ew]
  by_cases hl:s.aa.length+r.nodes.length > 8000
  ·rw [if_pos (by rw [decide_eq_true_eq]; omega),if_pos (by rw [decide_eq_true_eq]; omega)]
   exact⟨_,_,_,_,rfl,rfl,v,M⟩
  ·rw [if_neg (by rw [decide_eq_true_eq]; omega),if_neg (by rw [decide_eq_true_eq]; omega)]
   obtain⟨⟨z1,a1⟩,z2,a2⟩:=xV (m:=m) om v M (x:=(r,0)) ok (by show _+r.nodes.length≤8000; omega) m 0 (ajm _) (by show r.nodes.length - 0<m; omega)
   have es:gK s.aa.length 0=[]:=by simp [gK]
   rw [es] at a1 a2
   have a1:aT.l0 m s (r,0) m 0 ⟨true,s.aa++[],s.an++[]⟩=some (z1,⟨true,s.aa++k9 s.aa.length 0 r.nodes,s.an++gK s.aa.length r.nodes.length⟩):=a1
   have a2:bo.l0 m t (r,0) m 0 ⟨s.aa++[],gE s++[],true⟩=some (z2,⟨s.aa++k9 s.aa.length 0 r.nodes,gE s++gK s.aa.length r.nodes.length,true⟩):=a2
   rw [ajJ,ajJ] at a1 a2
   have b1:aT.l0 m s (r,0) m 0 s=some (z1,⟨true,s.aa++k9 s.aa.length 0 r.nodes,s.an++gK s.aa.length r.nodes.length⟩):=by
    have:s=⟨true,s.aa,s.an⟩:=xf v.inv.made rfl rfl
    rw [←this] at a1
    exact a1
   have b2:bo.l0 m t (r,0) m 0 t=some (z2,⟨s.aa++k9 s.aa.length 0 r.nodes,gE s++gK s.aa.length r.nodes.length,true⟩):=by
    have:t=⟨s.aa,gE s,true⟩:=by
     obtain⟨a,b,c⟩:=M
     cases t
     simp only at a b c
     rw [a,b,c]
    rw [←this] at a2
    exact a2
   rw [b1,b2]
   have w:=CB (t:=t) v (k9 s.aa.length 0 r.nodes) (fun i y hy=>by
    rw [GJ,aiK] at hy
    obtain⟨n,hn,rfl⟩:=hy
    rw [sH]
    have nB:=okB n (aiS hn)
    refine⟨xi nB _ (fun a ha=>?_) (fun hk=>by rw [if_pos hk]; omega) (fun hk=>by rw [if_neg hk]),fun hk=>?_⟩
    ·have:=(ok.2 n (aiS hn)).2 a ha
     omega
    ·have hk:n.kind=0:=hk
     show (if n.kind=0 then _ else _)=_
     rw [if_pos hk,ajf]) (by rw [sH]; omega)
   unfold GH PU at w
   rw [sH] at w
   exact⟨_,_,_,_,rfl,rfl,w⟩
 ·exact⟨_,_,_,_,rfl,rfl,v,M⟩
theorem CC (hm:16000≤m)(v:Inv2 s)(M:jm s t):∀(k i:Nat),i≤s.aa.length→s.aa.length - i<k→∃z,bP.l0 m k (i:Int) t ⟨s.aa.take i,gE s,true⟩=some (z,t,⟨s.aa,gE s,true⟩)
 | 0,i,h1,h2=>by omega
 | k+1,i,h1,h2=>by
  have n3:=v.inv.max
  simp only [bP.l0,M.nodes]
  by_cases hi:i<s.aa.length
  ·have d:decide ((i:Int)<(s.aa.length:Int))=true:=by rw [decide_eq_true_eq]; omega
   have eg:=aiN hi
   have et:s.aa.take (i+1)=s.aa.take i++[s.aa[i]]:=ajb hi
   generalize s.aa[i]=x at eg et
   have h8:=(v.inv.args x (aiS eg)).1
   have ew:i64.wrap ((i:Int)+1)=((i+1:Nat):Int):=by rw [kh om om]; omega
   rw [if_pos d,tJ eg,aiI,nX (by simp only [ai4]; omega),aiI,ajj,nX (by simp only [ajo,aiX,ai4]; omega),aiI,ew]
   have:=CC hm v M k (i+1) om om
   rw [et] at this
   exact this
  ·have d:decide ((i:Int)<(s.aa.length:Int))=false:=by rw [decide_eq_false_iff_not]; omega
   have e:i=s.aa.length:=by omega
   rw [if_neg (by rw [d]; decide),e,ajr]
   exact⟨_,rfl⟩
theorem PW (hm:16000≤m)(v:Inv2 s)(M:jm s t):bP.f m t=some (some t,t):=by
 have n3:=v.inv.max
 unfold bP.f
 obtain⟨z,e⟩:=CC (m:=m) hm v M m 0 (ajm _) om
 have e:bP.l0 m m 0 t ⟨[],gE s,true⟩=_:=e
 rw [M.l8,aiI,if_neg (by decide),M.bG,nX (by rw [hX]; simp only [ai4]; omega),aiI,ajj,e]
 have:t=⟨s.aa,gE s,true⟩:=by
  obtain⟨a,b,c⟩:=M
  cases t
  simp only at a b c
  rw [a,b,c]
 rw [←this]
 rfl
end
section
variable {m:Nat}{s:ae}{t:aj}
def Gf (bG:List Int)(n:Int):Int:=gt bG n.toNat
def Em (p:wL):Int × Int:=(p.a0,p.a1)
def A8 (a b:List Int):List wL:=(a.zip b).map fun p=>⟨p.1,p.2⟩
theorem CD {v2 v3:ak}(hl:v2.args.length=v3.args.length)(h8:v2.args.length≤8):∀(k:Nat) (left:List wL) (i:Nat),i≤v2.args.length→v2.args.length - i<k→left.length+8≤1000000+i→
  ax.l1 m v2 v3 k left (i:Int)=some (left++A8 (v2.args.drop i) (v3.args.drop i),(v2.args.length:Int))
 | 0,left,i,h1,h2,_=>by omega
 | k+1,left,i,h1,h2,h3=>by
  simp only [ax.l1]
  by_cases hi:i<v2.args.length
  ·have Yp:i<v3.args.length:=by omega
   have e2:=aiN hi
   have e3:=aiN Yp
   have d:decide ((i:Int)<(v2.args.length:Int))=true:=by rw [decide_eq_true_eq]; omega
   have ea:app 16 left [(⟨v2.args[i],v3.args[i]⟩:wL)]=some (left++[⟨v2.args[i],v3.args[i]⟩]):=nX (by
    simp only [aiX,ai4]; omega)
   have ew:i64.wrap ((i:Int)+1)=((i+1:Nat):Int):=by rw [kh om om]; omega
   rw [if_pos d,tJ e2,tJ e3]
   simp only [aiI,ea,ew]
   rw [CD hl h8 k _ (i+1) om om (by simp only [aiT,aiX,ai4]; omega)]
   have e4:A8 (v2.args.drop i) (v3.args.drop i)=⟨v2.args[i],v3.args[i]⟩::A8 (v2.args.drop (i+1)) (v3.args.drop (i+1)):=by
    unfold A8
    rw [aiZ hi,aiZ Yp]; rfl
   rw [e4,ai7]; rfl
  ·have d:decide ((i:Int)<(v2.args.length:Int))=false:=by rw [decide_eq_false_iff_not]; omega
   have e:i=v2.args.length:=by omega
   rw [if_neg (by rw [d]; decide),e]
   simp [A8]
theorem GK {a b:List Int}{x:wL}(h:x∈A8 a b):∃i:Nat,a[i]? = some x.a0∧b[i]? = some x.a1:=by
 unfold A8 at h
 obtain⟨p,hp,rfl⟩:=ajc.1 h
 obtain⟨i,hi⟩:=ajH hp
 rw [List.getElem?_zip_eq_some] at hi
 exact⟨i,hi⟩
theorem PX {a b:List Int}{i:Nat}{x y:Int}(h1:a[i]? = some x)(h2:b[i]? = some y):(x,y)∈(A8 a b).map Em:=by
 unfold A8
 rw [List.map_map]
 refine ajc.2 ⟨(x,y),?_,rfl⟩
 exact aiS (i:=i) (List.getElem?_zip_eq_some.2 ⟨h1,h2⟩)
def jf (x y best r:Int):Int:=if r=x∨r=y then best else r
theorem xW (bG:List Int)(h8:bG.length≤8000)(x y best:Int):∀(k i:Nat),i≤bG.length→bG.length - i<k→
  ax.l2 m x y best k ((bG.take i).map (jf x y best)++bG.drop i) (i:Int)=some (bG.map (jf x y best),(bG.length:Int))∧
  ax.l3 m x y best k ((bG.take i).map (jf x y best)++bG.drop i) (i:Int)=some (bG.map (jf x y best),(bG.length:Int))∧
  ax.l4 m x y best k ((bG.take i).map (jf x y best)++bG.drop i) (i:Int)=some (bG.map (jf x y best),(bG.length:Int))
 | 0,i,h1,h2=>by omega
 | k+1,i,h1,h2=>by
  simp only [ax.l2,ax.l3,ax.l4]
  have hl:((bG.take i).map (jf x y best)).length=min i bG.length:=by rw [aiY,ajo]
  have hlen:(((bG.take i).map (jf x y best)++bG.drop i).length:Int)=(bG.length:Int):=by rw [aiT,hl,List.length_drop]; omega
  rw [hlen]
  by_cases hi:i<bG.length
  ·have d:decide ((i:Int)<(bG.length:Int))=true:=by rw [decide_eq_true_eq]; omega
   have ed:bG.drop i=bG[i]::bG.drop (i+1):=aiZ hi
   have et:bG.take (i+1)=bG.take i++[bG[i]]:=ajb hi
   have hl:((bG.take i).map (jf x y best)).length=i:=by rw [hl]; omega
   have eg:((bG.take i).map (jf x y best)++bG.drop i)[i]? = some bG[i]:=by
    rw [ai0 om,hl,ajI,ed]; rfl
   have es:∀z,jf x y best bG[i]=z→((bG.take i).map (jf x y best)++bG.drop i).set i z=(bG.take (i+1)).map (jf x y best)++bG.drop (i+1):=fun z hz=>by
    rw [ajM _ _ om,hl,ajI,ed,et,ai5,ai7,←hz]; rfl
   have e0:jf x y best bG[i]=bG[i]→(bG.take i).map (jf x y best)++bG.drop i=(bG.take (i+1)).map (jf x y best)++bG.drop (i+1):=fun hz=>by
    rw [ed,et,ai5,ai7]
    simp only [ai9,akc,ajv,ajj]
    rw [hz]
   have ew:i64.wrap ((i:Int)+1)=((i+1:Nat):Int):=by rw [kh om om]; omega
   have ih:=xW bG h8 x y best k (i+1) om om
   rw [if_pos d,if_pos d,if_pos d,tJ eg]
   simp only [aiI,ew,aiP]
   by_cases hx:bG[i]=x
   ·have Zx:(bG[i]==x)=true:=by simpa using hx
    simp only [Zx,if_true]
    rw [es best (by unfold jf; rw [if_pos (.inl hx)])]
    exact ih
   ·have Zx:(bG[i]==x)=false:=by simpa using hx
    by_cases hy:bG[i]=y
    ·have h2':(bG[i]==y)=true:=by simpa using hy
     simp only [Zx,h2',if_true,aiW,if_false]
     rw [es best (by unfold jf; rw [if_pos (.inr hy)])]
     exact ih
    ·have h2':(bG[i]==y)=false:=by simpa using hy
     simp only [Zx,h2',aiW,if_false]
     rw [e0 (by unfold jf; rw [if_neg (by simp [hx,hy])])]
     exact ih
  ·have d:decide ((i:Int)<(bG.length:Int))=false:=by rw [decide_eq_false_iff_not]; omega
   have e:i=bG.length:=by omega
   rw [if_neg (by rw [d]; decide),if_neg (by rw [d]; decide),if_neg (by rw [d]; decide),e]
   simp
theorem PY (M:jm s t){x y:Int}(hx:Rg s.aa.length x)(hy:Rg s.aa.length y):dA.f m t x y=some (mu s.aa x y).2:=by
 unfold dA.f
 rw [M.nodes,mS hx,aiI,mS hy,aiI]
 unfold mu kj mn
 by_cases ha:(dI s.aa x).kind=0<;>by_cases hb:(dI s.aa y).kind=0<;>by_cases Qf:x<y
 all_goals
  first
  | have ea:((dI s.aa x).kind==0)=true:=by simpa using ha
  | have ea:((dI s.aa x).kind==0)=false:=by simpa using ha
 all_goals
  first
  | have eb:((dI s.aa y).kind==0)=true:=by simpa using hb
  | have eb:((dI s.aa y).kind==0)=false:=by simpa using hb
 all_goals simp [ha,hb,Qf,ea,eb]
 all_goals (try omega)
 all_goals (split<;>omega)
def CE (N:List ak)(R:Int→Int):Nat:=((ajP N.length).filter fun (i:Nat)=>R (i:Int)==(i:Int)).length
theorem PZ (N:List ak)(R:Int→Int):CE N R≤N.length:=by
 have:=akr (fun i:Nat=>R (i:Int)==(i:Int)) (ajP N.length)
 rwa [akh] at this
theorem Ix {N:List ak}{R R':Int→Int}{q:Int × Int}(h1:Rg N.length q.1)(r1:R q.1=q.1)(r2:R q.2=q.2)(hne:q.2≠q.1)(hr:∀n,Rg N.length n→R' n=vF R q n):CE N R'<CE N R:=by
 have e:(ajP N.length).filter (fun i:Nat=>R' (i:Int)==(i:Int))=((ajP N.length).filter (fun i:Nat=>R (i:Int)==(i:Int))).filter (fun i:Nat=>R' (i:Int)==(i:Int)):=by
  rw [List.filter_filter]
  apply List.filter_congr
  intro i hi
  have hi:=aj6.1 hi
  have rg:Rg N.length (i:Int):=⟨ajQ _,om⟩
  rw [hr _ rg]
  unfold vF
  by_cases h:R (i:Int)=q.1
  ·rw [if_pos h]
   by_cases h3:q.2=(i:Int)
   ·exfalso
    rw [h3] at r2 hne
    omega
   ·simp [h3]
  ·rw [if_neg h]
   by_cases h4:R (i:Int)=(i:Int)<;>simp [h4]
 unfold CE
 rw [e]
 rw [List.length_filter_lt_length_iff_exists]
 have hq:((q.1.toNat:Nat):Int)=q.1:=by have:=h1.1; omega
 refine⟨q.1.toNat,aj1.2 ⟨aj6.2 (by have:=h1.1; have:=h1.2; omega),by rw [hq,r1]; simp⟩,?_⟩
 rw [hq,hr _ h1]
 unfold vF
 rw [if_pos r1]
 simpa using hne
theorem VM {bG:List Int}{x y best:Int}{N:List ak}(hl:bG.length=N.length){q:Int × Int}(hq:(q.1=x∧q.2=y∨q.1=y∧q.2=x)∧q.2=best):∀n,Rg N.length n→Gf (bG.map (jf x y best)) n=vF (Gf bG) q n:=by
 intro n hn
 have h0:=hn.1
 have h1:=hn.2
 unfold Gf vF
 have:gt (bG.map (jf x y best)) n.toNat=jf x y best (gt bG n.toNat):=by
  apply Tw
  rw [aje,cz (l:=bG) om]; rfl
 rw [this]
 unfold jf
 obtain⟨hq,hb⟩:=hq
 by_cases e:gt bG n.toNat=q.1
 ·rw [if_pos e,if_pos (by rcases hq with⟨a,_⟩| ⟨a,_⟩<;>rw [e,a]<;>simp),hb]
 ·rw [if_neg e]
  by_cases e2:gt bG n.toNat=q.2
  ·rw [if_pos (by rcases hq with⟨_,a⟩| ⟨_,a⟩<;>rw [e2,a]<;>simp)]
   show best=gt bG n.toNat
   rw [e2,hb]
  ·rw [if_neg]
   rintro (h | h)
   ·rcases hq with⟨a,b⟩| ⟨a,b⟩
    ·exact e (h.trans a.symm)
    ·exact e2 (h.trans b.symm)
   ·rcases hq with⟨a,b⟩| ⟨a,b⟩
    ·exact e2 (h.trans b.symm)
    ·exact e (h.trans a.symm)
def P4 (N:List ak)(R:Int→Int)(L:List (Int × Int)):Sum ((List Int) × Bool) ((List Int) × (List wL) × Int)→Prop
 | .inl (_,b)=>b=false∧∀T,Cl N T→iN N R T→(∀p∈L,T p.1=T p.2)→False
 | .inr (qU,_,_)=>qU.length=N.length∧Cn N (Gf qU)∧Cl N (Gf qU)∧iN N R (Gf qU)∧(∀p∈L,Gf qU p.1=Gf qU p.2)∧∀T,Cl N T→iN N R T→(∀p∈L,T p.1=T p.2)→iN N (Gf qU) T
theorem Sk {N:List ak}{R R2:Int→Int}{left M:List wL}{i:Nat}{p:wL}{q:Int × Int}{out:Sum ((List Int) × Bool) ((List Int) × (List wL) × Int)}
  (c:Cn N R) (hp:left[i]? = some p) (h1:Rg N.length p.a0) (h2:Rg N.length p.a1)
  (hq:(q.1=R p.a0∧q.2=R p.a1)∨(q.1=R p.a1∧q.2=R p.a0)) (hne:q.2≠q.1)
  (hr:∀n,Rg N.length n→R2 n=vF R q n)
  (hM:∀T,Cl N T→T (R p.a0)=T (R p.a1)→∀x∈M,T x.a0=T x.a1)
  (h:P4 N R2 (((left++M).drop (i+1)).map Em) out):P4 N R ((left.drop i).map Em) out:=by
 have hi:i<left.length:=(aiO.1 hp).1
 have WG:left[i]=p:=(aiO.1 hp).2
 have ed:left.drop i=p::left.drop (i+1):=by rw [aiZ hi,WG]
 have MC:(left++M).drop (i+1)=left.drop (i+1)++M:=aj4 om
 have g1:=c.rg _ h1
 have g2:=c.rg _ h2
 have gq:Rg N.length q.1∧Rg N.length q.2∧R q.1=q.1∧R q.2=q.2:=by
  rcases hq with⟨e1,e2⟩| ⟨e1,e2⟩
  ·rw [e1,e2]; exact⟨g1,g2,c.id _ h1,c.id _ h2⟩
  ·rw [e1,e2]; exact⟨g2,g1,c.id _ h2,c.id _ h1⟩
 obtain⟨q1,q2,q3,q4⟩:=gq
 have s01:iN N R R2:=iN.OR (fun n hn=>(hr n hn).symm) D7
 have eab:R2 p.a0=R2 p.a1:=by
  rw [hr _ h1,hr _ h2]
  rcases hq with⟨e1,e2⟩| ⟨e1,e2⟩
  ·exact xd e1.symm e2.symm hne
  ·exact (xd e1.symm e2.symm hne).symm
 have OS:∀T,Cl N T→iN N R T→(∀x∈(left.drop i).map Em,T x.1=T x.2)→iN N R2 T∧∀x∈((left++M).drop (i+1)).map Em,T x.1=T x.2:=by
  intro T cT sT hT
  have tp:T p.a0=T p.a1:=hT (Em p) (by rw [ed]; simp)
  have ta:T (R p.a0)=T p.a0:=sT _ _ g1 h1 (c.id _ h1)
  have tb:T (R p.a1)=T p.a1:=sT _ _ g2 h2 (c.id _ h2)
  have tt:T (R p.a0)=T (R p.a1):=by rw [ta,tb,tp]
  refine⟨iN.congr hr (Cf c q1 q2 sT ?_),fun x hx=>?_⟩
  ·rcases hq with⟨e1,e2⟩| ⟨e1,e2⟩
   ·rw [e1,e2]; exact tt
   ·rw [e1,e2]; exact tt.symm
  ·rw [MC,ai5] at hx
   rcases ai3.1 hx with hx | hx
   ·exact hT x (by rw [ed]; simp only [ai9]; exact aj7 _ hx)
   ·obtain⟨y,hy,rfl⟩:=ajc.1 hx
    exact hM T cT tt y hy
 match out,h with
 | .inl (l,b),⟨hb,hT⟩=>
  exact⟨hb,fun T cT sT pT=>by
   obtain⟨k1,k2⟩:=OS T cT sT pT
   exact hT T cT k1 k2⟩
 | .inr (qU,F3,i'),⟨hl,YP,hc,hs,RP,hT⟩=>
  refine⟨hl,YP,hc,s01.trans hs,fun x hx=>?_,fun T cT sT pT=>?_⟩
  ·rw [ed] at hx
   simp only [ai9] at hx
   rcases aja.1 hx with rfl | hx
   ·exact hs _ _ h1 h2 eab
   ·exact RP x (by rw [MC,ai5]; exact ajh _ hx)
  ·obtain⟨k1,k2⟩:=OS T cT sT pT
   exact hT T cT k1 k2
theorem xl (hm:16000≤m)(v:Inv2 s)(M0:jm s t)(a0:Int):∀(k:Nat) (bG:List Int) (left:List wL) (i:Nat),i≤left.length→9*CE s.aa (Gf bG)+(left.length - i)<k→left.length+8*CE s.aa (Gf bG)≤1+8*s.aa.length→
  bG.length=s.aa.length→Cn s.aa (Gf bG)→(∀p∈left,Rg s.aa.length p.a0∧Rg s.aa.length p.a1)→th s.aa (Gf bG) ((left.drop i).map Em)→
  ∃out,ax.l0 m t a0 k bG left (i:Int)=some out∧P4 s.aa (Gf bG) ((left.drop i).map Em) out
 | 0,bG,left,i,h1,h2,h3,hl,c,hin,hp=>by omega
 | k+1,bG,left,i,h1,h2,h3,hl,c,hin,hp=>by
  have n3:=v.inv.max
  simp only [ax.l0]
  by_cases hi:i<left.length
  rotate_left
  ·have d:decide ((i:Int)<(left.length:Int))=false:=by rw [decide_eq_false_iff_not]; omega
   rw [if_neg (by rw [d]; decide)]
   have hd:left.drop i=[]:=ajL om
   rw [hd] at hp ⊢
   exact⟨_,rfl,hl,c,F0 hp,fun _ _ _ _ h=>h,fun x hx=>by simp at hx,fun T _ s _=>s⟩
  have d:decide ((i:Int)<(left.length:Int))=true:=by rw [decide_eq_true_eq]; omega
  have ep:=aiN hi
  generalize left[i]=p at ep
  obtain⟨ra,rb⟩:=hin p (aiS ep)
  have ed:left.drop i=p::left.drop (i+1):=by
   rw [aiZ hi]; congr 1
   exact (aiO.1 ep).2
  have ew:i64.wrap ((i:Int)+1)=((i+1:Nat):Int):=by rw [kh om om]; omega
  have ix1:ix bG p.a0=some (Gf bG p.a0):=iV (k:=p.a0.toNat) (by have:=ra.1; omega) (by have:=ra.1; have:=ra.2; omega)
  have ix2:ix bG p.a1=some (Gf bG p.a1):=iV (k:=p.a1.toNat) (by have:=rb.1; omega) (by have:=rb.1; have:=rb.2; omega)
  rw [if_pos d,tJ ep]
  simp only [aiI,ix1,ix2,ew]
  have ga:=c.rg _ ra
  have gb:=c.rg _ rb
  have RP:th s.aa (Gf bG) (Em p::(left.drop (i+1)).map Em):=by rw [ed] at hp; exact hp
  by_cases he:Gf bG p.a0=Gf bG p.a1
  ·rw [if_pos (by simpa using he)]
   obtain⟨out,e1,e2⟩:=xl hm v M0 a0 k bG left (i+1) om om h3 hl c hin (Cg RP ra rb he)
   refine⟨out,e1,?_⟩
   match out,e2 with
   | .inl (l,b),⟨hb,hT⟩=>
    exact⟨hb,fun T cT sT pT=>hT T cT sT fun x hx=>pT x (by rw [ed]; simp only [ai9]; exact aj7 _ hx)⟩
   | .inr (qU,F3,i'),⟨tk,YP,hc,hs,hq,hT⟩=>
    refine⟨tk,YP,hc,hs,fun x hx=>?_,fun T cT sT pT=>hT T cT sT fun x hx=>pT x (by rw [ed]; simp only [ai9]; exact aj7 _ hx)⟩
    rw [ed] at hx
    simp only [ai9] at hx
    rcases aja.1 hx with rfl | hx
    ·exact hs _ _ ra rb he
    ·exact hq x hx
  ·rw [if_neg (by simpa using he),M0.nodes,mS ga,aiI,mS gb,aiI]
   have eB:=PY (m:=m) M0 ga gb
   obtain⟨ob,oq⟩:=xc (N:=s.aa) (Gf bG p.a0) (Gf bG p.a1)
   have hne:(mu s.aa (Gf bG p.a0) (Gf bG p.a1)).2≠(mu s.aa (Gf bG p.a0) (Gf bG p.a1)).1:=by
    rcases oq with⟨e1,e2⟩| ⟨e1,e2⟩
    ·rw [e1,e2]; exact fun h=>he h.symm
    ·rw [e1,e2]; exact he
   generalize mu s.aa (Gf bG p.a0) (Gf bG p.a1)=q at *
   have Vn:(q.1=Gf bG p.a0∧q.2=Gf bG p.a1)∨(q.1=Gf bG p.a1∧q.2=Gf bG p.a0):=oq
   have jr:=VM (bG:=bG) (x:=Gf bG p.a0) (y:=Gf bG p.a1) (best:=q.2) hl (q:=q) ⟨Vn,rfl⟩
   obtain⟨x1,x2,x3⟩:=xW (m:=m) bG om (Gf bG p.a0) (Gf bG p.a1) q.2 m 0 (ajm _) om
   have x1:ax.l2 m (Gf bG p.a0) (Gf bG p.a1) q.2 m bG 0=_:=x1
   have x2:ax.l3 m (Gf bG p.a0) (Gf bG p.a1) q.2 m bG 0=_:=x2
   have x3:ax.l4 m (Gf bG p.a0) (Gf bG p.a1) q.2 m bG 0=_:=x3
   generalize hR2:bG.map (jf (Gf bG p.a0) (Gf bG p.a1) q.2)=vw at *
   have ID:vw.length=s.aa.length:=by rw [←hR2,aiY]; exact hl
   have gq:Rg s.aa.length q.1∧Rg s.aa.length q.2∧Gf bG q.1=q.1∧Gf bG q.2=q.2:=by
    rcases Vn with⟨e1,e2⟩| ⟨e1,e2⟩
    ·rw [e1,e2]; exact⟨ga,gb,c.id _ ra,c.id _ rb⟩
    ·rw [e1,e2]; exact⟨gb,ga,c.id _ rb,c.id _ ra⟩
   obtain⟨q1,q2,q3,q4⟩:=gq
   have hn:=Ix (N:=s.aa) (R:=Gf bG) (R':=Gf vw) q1 q3 q4 hne jr
   have c2:Cn s.aa (Gf vw):=by
    have cj:=ON c q1 q2 q3 q4 hne ob
    exact⟨fun n hn=>by rw [jr n hn]; exact cj.rg n hn,fun n hn=>by rw [jr n hn,jr _ (cj.rg n hn)]; exact cj.id n hn,fun n hn=>by rw [jr n hn]; exact cj.bt n hn⟩
   have Yq:∀M:List wL,M.length≤8→(∀x∈M,Rg s.aa.length x.a0∧Rg s.aa.length x.a1)→
     (∀T,Cl s.aa T→T (Gf bG p.a0)=T (Gf bG p.a1)→∀x∈M,T x.a0=T x.a1)→
     (kj s.aa (Gf bG p.a0)→kj s.aa (Gf bG p.a1)→mr (dI s.aa (Gf bG p.a0)) (dI s.aa (Gf bG p.a1))∧∀(i:Nat) (a b:Int),(dI s.aa (Gf bG p.a0)).args[i]? = some a→(dI s.aa (Gf bG p.a1)).args[i]? = some b→(a,b)∈M.map Em)→
     ∃out,ax.l0 m t a0 k vw (left++M) ((i+1:Nat):Int)=some out∧P4 s.aa (Gf bG) ((left.drop i).map Em) out:=by
    intro M hM8 hMr hMT hMv
    have MC:((left++M).drop (i+1)).map Em=(left.drop (i+1)).map Em++M.map Em:=by
     rw [aj4 om,ai5]
    obtain⟨out,e1,e2⟩:=xl hm v M0 a0 k vw (left++M) (i+1) (by rw [aiT]; omega)
     (by rw [aiT]; omega) (by rw [aiT]; omega) ID c2
     (fun x hx=>(ai3.1 hx).elim (hin x) (hMr x)) (by
      rw [MC]
      exact th.congr jr (Ch c (p:=Em p) RP ra rb Vn hne hMv))
    exact⟨out,e1,Sk c ep ra rb Vn hne jr hMT e2⟩
   have H3:=Yq [] (by simp) (fun x hx=>by simp at hx) (fun T _ _ x hx=>by simp at hx)
   rw [ajJ] at H3
   by_cases k1:(dI s.aa (Gf bG p.a0)).kind=0
   ·have b1:(!((dI s.aa (Gf bG p.a0)).kind==(0:Int)))=false:=by rw [k1]; rfl
    rw [b1,if_neg (by decide),eB]
    simp only [aiI,x3]
    exact H3 fun h=>absurd k1 h
   have b1:(!((dI s.aa (Gf bG p.a0)).kind==(0:Int)))=true:=by simpa using k1
   rw [b1,if_pos rfl]
   by_cases k2:(dI s.aa (Gf bG p.a1)).kind=0
   ·have b2:(!((dI s.aa (Gf bG p.a1)).kind==(0:Int)))=false:=by rw [k2]; rfl
    rw [b2,if_neg (by decide),eB]
    simp only [aiI,x2]
    exact H3 fun _ h=>absurd k2 h
   have b2:(!((dI s.aa (Gf bG p.a1)).kind==(0:Int)))=true:=by simpa using k2
   rw [b2,if_pos rfl]
   have bad:¬mr (dI s.aa (Gf bG p.a0)) (dI s.aa (Gf bG p.a1))→∃out,some (Sum.inl (([]:List Int),false):Sum ((List Int) × Bool) ((List Int) × (List wL) × Int))=some out∧P4 s.aa (Gf bG) ((left.drop i).map Em) out:=fun hu=>by
    refine⟨_,rfl,rfl,fun T cT sT pT=>hu ?_⟩
    have tp:T p.a0=T p.a1:=pT (Em p) (by rw [ed]; simp)
    have ta:T (Gf bG p.a0)=T p.a0:=sT _ _ ga ra (c.id _ ra)
    have tb:T (Gf bG p.a1)=T p.a1:=sT _ _ gb rb (c.id _ rb)
    exact (cT _ _ ga gb (by rw [ta,tb,tp]) k1 k2).1
   by_cases u1:(dI s.aa (Gf bG p.a0)).kind=(dI s.aa (Gf bG p.a1)).kind
   rotate_left
   ·rw [if_pos (by simpa using u1)]
    exact bad fun h=>u1 h.1
   rw [if_neg (by simpa using u1)]
   by_cases u2:(dI s.aa (Gf bG p.a0)).int=(dI s.aa (Gf bG p.a1)).int
   rotate_left
   ·rw [if_pos (by simpa using u2)]
    exact bad fun h=>u2 h.2.1
   rw [if_neg (by simpa using u2)]
   by_cases u3:(dI s.aa (Gf bG p.a0)).label.data.toList=(dI s.aa (Gf bG p.a1)).label.data.toList
   rotate_left
   ·rw [if_pos (by simpa using u3)]
    exact bad fun h=>u3 h.2.2.1
   rw [if_neg (by rw [u3]; simp)]
   by_cases u4:(dI s.aa (Gf bG p.a0)).args.length=(dI s.aa (Gf bG p.a1)).args.length
   rotate_left
   ·rw [if_pos (by simp; omega)]
    exact bad fun h=>u4 h.2.2.2
   rw [if_neg (by simp [u4])]
   have tp:mr (dI s.aa (Gf bG p.a0)) (dI s.aa (Gf bG p.a1)):=⟨u1,u2,u3,u4⟩
   have a8:=(v.inv.args _ (iF ga)).1
   have el:=CD (m:=m) tp.2.2.2 a8 m left 0 (ajm _) om om
   have el:ax.l1 m (dI s.aa (Gf bG p.a0)) (dI s.aa (Gf bG p.a1)) m left 0=_:=el
   rw [el]
   simp only [aiI,aji,eB,x1]
   refine Yq (A8 (dI s.aa (Gf bG p.a0)).args (dI s.aa (Gf bG p.a1)).args) ?_ (fun x hx=>?_) (fun T cT hT x hx=>?_) (fun _ _=>⟨tp,fun i a b ha hb=>PX ha hb⟩)
   ·unfold A8; rw [aiY,List.length_zip]; omega
   ·obtain⟨j,j1,j2⟩:=GK hx
    exact⟨(v.inv.args _ (iF ga)).2 _ (aiS j1),(v.inv.args _ (iF gb)).2 _ (aiS j2)⟩
   ·obtain⟨j,j1,j2⟩:=GK hx
    exact (cT _ _ ga gb hT k1 k2).2 j _ _ j1 j2
end
section
variable {m:Nat}{s s':ae}{t:aj}{a b:Int}
theorem oA {n:Int}(h:Rg s.aa.length n):Gf (gE s) n=rp s.an n:=by
 have e:=qL h
 have h0:=h.1
 have:=iV (l:=gE s) (i:=n) (k:=n.toNat) om (by rw [hX]; have:=h.2; omega)
 rw [e] at this
 exact (ajn this).symm
theorem xX (hm:2 ^ 41≤m)(v:Inv2 s)(M:jm s t)(ra:Rg s.aa.length a)(rb:Rg s.aa.length b){l:List Int}{ok:Bool}(E:YF s a b l ok s'):∃r,ax.f m t a b=some (r,ok)∧(ok=true→r=gE s'):=by
 have yG:(2:Nat) ^ 41=2199023255552:=by decide
 have h8:=v.inv.max
 have eN:s'.aa=s.aa:=E.un.2.1
 have c:=v.inv.cn
 have cG:Cn s.aa (Gf (gE s)):=⟨fun n hn=>by rw [oA hn]; exact c.rg n hn,fun n hn=>by rw [oA hn,oA (c.rg n hn)]; exact c.id n hn,fun n hn=>by rw [oA hn]; exact c.bt n hn⟩
 have hn:=PZ s.aa (Gf (gE s))
 obtain⟨out,e1,e2⟩:=xl (m:=m) om v M a m (gE s) [⟨a,b⟩] 0 (by simp) (by simp only [aiX,ai4]; omega) (by simp only [aiX,ai4]; omega) hX cG
  (fun p hp=>by simp only [aiU] at hp; subst hp; exact⟨ra,rb⟩) (th.congr (fun n hn=>oA hn) (Kl v.cl v.inv.args))
 have e1:ax.l0 m t a m (gE s) [⟨a,b⟩] 0=some out:=e1
 have sub:∀{T:Int→Int},iN s.aa (rp s.an) T↔iN s.aa (Gf (gE s)) T:=fun {T}=>⟨iN.congr fun n hn=>oA hn,iN.congr fun n hn=>(oA hn).symm⟩
 unfold ax.f
 rw [M.bG,nX (by rw [hX]; simp only [ai4]; omega),aiI,ajj,e1,aiI]
 match out,e2 with
 | .inl (l',b'),⟨hb,hT⟩=>
  have:ok=false:=by
   cases ok with
   | false=>rfl
   | true=>
    obtain⟨k1,k2,k3,_⟩:=E.yes rfl
    exact (hT _ k1 (sub.1 k2) fun p hp=>by simp only [aji,ai9,akc,aiU] at hp; subst hp; exact k3).elim
  subst this
  subst hb
  exact⟨_,rfl,fun h=>by cases h⟩
 | .inr (qU,F3,i'),⟨hl,YP,hc,hs,hp,hT⟩=>
  have Qf:Gf qU a=Gf qU b:=hp (a,b) (by simp [Em])
  have:ok=true:=by
   cases ok with
   | true=>rfl
   | false=>exact (E.no rfl _ hc (sub.2 hs) Qf).elim
  subst this
  obtain⟨k1,k2,k3,k4⟩:=E.yes rfl
  refine⟨_,rfl,fun _=>?_⟩
  have c':Cn s.aa (rp s'.an):=by rw [←eN]; exact E.inv.cn
  have s1:=hT _ k1 (sub.1 k2) fun p hp=>by simp only [aji,ai9,akc,aiU] at hp; subst hp; exact k3
  have s2:=k4 _ hc (sub.2 hs) Qf
  apply H4
  ·rw [hX,eN,hl]
  ·intro k hk
   have rk:Rg s.aa.length (k:Int):=⟨ajQ _,om⟩
   have:=Cn.unique YP c' s1 s2 rk
   have h2:=oA (s:=s') (n:=(k:Int)) (by rw [eN]; exact rk)
   unfold Gf at this h2
   rw [aiP] at this h2
   rw [this,h2]
def Wn (s s':ae)(i:Nat):Bool:=((dI s.aa (i:Int)).kind==0)&&(rp s.an (i:Int)==(i:Int)) && !(rp s'.an (i:Int)==(i:Int))
def Mk (s s':ae)(i:Nat):List Int:=((ajP i).filter (Wn s s')).map fun (q:Nat)=>(q:Int)
theorem En (i:Nat):(Mk s s' i).length≤i:=by
 unfold Mk
 rw [aiY]
 have:=akr (Wn s s') (ajP i)
 rwa [akh] at this
theorem GL (v:Inv2 s)(M:jm s t)(eN:s'.aa=s.aa):∀(k i:Nat),i≤s.aa.length→s.aa.length - i<k→bB.l0 m t (gE s') k (Mk s s' i) (i:Int)=some (Mk s s' s.aa.length,(s.aa.length:Int))
 | 0,i,h1,h2=>by omega
 | k+1,i,h1,h2=>by
  have h8:=v.inv.max
  simp only [bB.l0]
  rw [hX,eN]
  by_cases hlt:i<s.aa.length
  ·have d:decide ((i:Int)<(s.aa.length:Int))=true:=by rw [decide_eq_true_eq]; omega
   have r:Rg s.aa.length (i:Int):=⟨ajQ _,om⟩
   have ew:i64.wrap ((i:Int)+1)=((i+1:Nat):Int):=by rw [kh om om]; omega
   have hs:Mk s s' (i+1)=Mk s s' i++(if Wn s s' i=true then [(i:Int)] else []):=by
    unfold Mk
    rw [List.range_succ,akm,ai5]
    congr 1
    cases hb:Wn s s' i<;>simp [hb]
   have hlen:=En (s:=s) (s':=s') i
   have ih:=GL v M eN k (i+1) om om
   rw [hs] at ih
   have ha:app 8 (Mk s s' i) [(i:Int)]=some (Mk s s' i++[(i:Int)]):=nX (by simp only [aiX,ai4]; omega)
   have r2:ix (gE s') (i:Int)=some (rp s'.an (i:Int)):=qL (by rw [eN]; exact r)
   rw [if_pos d,M.nodes,mS r,aiI,M.bG,qL r,aiI,r2,aiI,ha,aiI,ew]
   unfold Wn at ih
   cases b1:((dI s.aa (i:Int)).kind==0)<;>cases b2:(rp s.an (i:Int)==(i:Int))<;>cases b3:(rp s'.an (i:Int)==(i:Int))<;>simp only [b1,b2,b3,Bool.and_true,Bool.and_false,ajC,Bool.false_and,ajA,Bool.not_false,aiW,if_false,if_true,ajJ] at ih ⊢<;>exact ih
  ·have d:decide ((i:Int)<(s.aa.length:Int))=false:=by rw [decide_eq_false_iff_not]; omega
   have e:i=s.aa.length:=by omega
   rw [if_neg (by rw [d]; decide),e]
theorem KW (hm:16000≤m)(v:Inv2 s)(M:jm s t)(eN:s'.aa=s.aa):bB.f m t (gE s')=some (Mk s s' s.aa.length):=by
 have h8:=v.inv.max
 have e:=GL (m:=m) v M eN m 0 (ajm _) om
 have e:bB.l0 m t (gE s') m [] 0=_:=e
 unfold bB.f
 rw [e]; rfl
theorem y7 (v:Inv2 s){l:List Int}(E:YF s a b l true s'):Pl s.aa l=Mk s s' s.aa.length:=by
 have eN:s'.aa=s.aa:=E.un.2.1
 apply xk
 ·exact vS (E.un.2.2.2.2.2.2.filter _)
 ·unfold Mk
  rw [aks]
  exact (List.pairwise_lt_range.filter _).imp fun h=>by omega
 ·intro x
  unfold Pl Mk Wn
  rw [CA]
  simp only [ajc,aj1,aj6,aiM,beq_iff_eq,ajX,beq_eq_false_iff_ne]
  constructor
  ·rintro⟨hx,hk⟩
   obtain⟨x1,x2⟩:=E.un.2.2.2.1 x hx
   have x3:=E.un.2.2.2.2.2.1 x hx
   have x1':Rg s.aa.length x:=by rw [←v.inv.len]; exact x1
   have h0:=x1'.1
   have h1:=x1'.2
   have e:((x.toNat:Nat):Int)=x:=by omega
   refine⟨x.toNat,⟨om,⟨by rw [e]; exact hk,by rw [e]; exact qF x2⟩,?_⟩,e⟩
   rw [e]
   intro h
   apply x3
   have:=E.inv.ok.rt x (by rw [E.inv.len,eN]; exact x1')
   rwa [h] at this
  ·rintro⟨q,⟨hq,⟨hk,hr⟩,hn⟩,rfl⟩
   refine⟨?_,hk⟩
   by_cases hin:(q:Int)∈l
   ·exact hin
   ·exfalso
    have rq:Rg s.aa.length (q:Int):=⟨ajQ _,om⟩
    have h1:lI s.an (q:Int)=(q:Int):=by
     have:=v.inv.ok.rt (q:Int) (v.inv.rg rq)
     rwa [hr] at this
    have:=E.un.2.2.2.2.1 (q:Int) (v.inv.rg rq) hin
    exact hn (qF (this.trans h1))
theorem YF.inv2 (v:Inv2 s){l:List Int}(E:YF s a b l true s')(M:jm s t):Inv2 s'∧jm s' ⟨t.ah,gE s',t.aE⟩:=by
 have eN:s'.aa=s.aa:=E.un.2.1
 refine⟨⟨E.inv,by rw [eN]; exact (E.yes rfl).1,by rw [eN]; exact v.vn⟩,M.made,?_,rfl⟩
 show t.ah=s'.aa
 rw [M.nodes,eN]
theorem CF {a b:Int}:sD s [a,b]=(decide (Rg s.aa.length a)&&decide (Rg s.aa.length b)):=by
 simp [sD]
theorem Iy (hm:2 ^ 41≤m)(v:Inv2 s)(M:jm s t)(a b:Int):∃l e s' t',dL.f m s a b=some (l,e,s')∧fi.f m t a b=some (l,e,t')∧Inv2 s'∧jm s' t'∧l.length≤8000:=by
 have yG:(2:Nat) ^ 41=2199023255552:=by decide
 unfold fi.f
 rw [M.l8,aiI,if_neg (by decide),M.has,aiI,M.has,aiI]
 rcases KJ (show 2000000≤m by omega) v a b with⟨hn,_,f⟩| ⟨hn,l,ok,s1,E,_,f⟩
 ·rw [CF] at hn
  refine⟨_,_,s,t,f,?_,v,M,by simp⟩
  cases h1:decide (Rg s.aa.length a) with
  | false=>rfl
  | true=>
   rw [h1,ajC] at hn
   rw [hn]; rfl
 ·obtain⟨ra,rb⟩:=Ig hn
  have eN:s1.aa=s.aa:=E.un.2.1
  obtain⟨r,e1,e2⟩:=xX hm v M ra rb E
  rw [decide_eq_true ra,decide_eq_true rb,if_neg (by decide),if_neg (by decide),e1,aiI]
  cases ok with
  | false=>exact⟨_,_,s,t,f,rfl,v,M,by simp⟩
  | true=>
   have:=e2 rfl
   subst this
   obtain⟨v',M'⟩:=E.inv2 v M
   rw [if_pos rfl] at f
   refine⟨_,_,s1,_,f,?_,v',M',?_⟩
   ·simp only [ajA,aiW,if_false]
    rw [KW om v M eN,y7 v E]; rfl
   ·rw [y7 v E]
    have:=En (s:=s) (s':=s1) s.aa.length
    have:=v.inv.max
    omega
theorem Ml (hm:2 ^ 41≤m)(v:Inv2 s)(M:jm s t)(a b:Int):∃n l e,eh.f m s a b=some (n,l,e,s)∧fR.f m t a b=some (n,l,e)∧l.length≤8000:=by
 have yG:(2:Nat) ^ 41=2199023255552:=by decide
 unfold fR.f
 rw [M.l8,aiI,if_neg (by decide),M.has,aiI,M.has,aiI]
 rcases KJ (show 2000000≤m by omega) v a b with⟨hn,f,_⟩| ⟨hn,l,ok,s1,E,f,_⟩
 ·rw [CF] at hn
  refine⟨_,_,_,f,?_,by simp⟩
  cases h1:decide (Rg s.aa.length a) with
  | false=>rfl
  | true=>
   rw [h1,ajC] at hn
   rw [hn]; rfl
 ·obtain⟨ra,rb⟩:=Ig hn
  have eN:s1.aa=s.aa:=E.un.2.1
  obtain⟨r,e1,e2⟩:=xX hm v M ra rb E
  rw [decide_eq_true ra,decide_eq_true rb,if_neg (by decide),if_neg (by decide),e1,aiI]
  cases ok with
  | false=>exact⟨_,_,_,f,rfl,by simp⟩
  | true=>
   have:=e2 rfl
   subst this
   rw [if_pos rfl] at f
   simp only [ajA,aiW,if_false]
   rw [KW om v M eN,←y7 v E,aiI]
   by_cases hb:Pl s.aa l=[]
   ·rw [if_pos hb] at f
    rw [hb]
    exact⟨_,_,_,f,rfl,by simp⟩
   ·rw [if_neg hb] at f
    refine⟨_,_,_,f,?_,?_⟩
    ·have:0<(Pl s.aa l).length:=List.length_pos_iff.2 hb
     have d:decide (((Pl s.aa l).length:Int) > 0)=true:=by rw [decide_eq_true_eq]; omega
     rw [d,if_pos rfl]
    ·rw [y7 v E]
     have:=En (s:=s) (s':=s1) s.aa.length
     have:=v.inv.max
     omega
theorem Mm (hm:2 ^ 63≤m)(v:Inv2 s)(M:jm s t)(x:cF)(hx:x.iT.length≤40):∃s' t',jX.f m s t x=some (true,s',t')∧Inv2 s'∧jm s' t':=by
 have yG:(2:Nat) ^ 41=2199023255552:=by decide
 have Wm:(2:Nat) ^ 63=9223372036854775808:=by decide
 have yL:2 ^ 41≤m:=by omega
 have Wo:2000000≤m:=by omega
 unfold jX.f
 by_cases k0:x.iD=0
 ·rw [if_pos (by rw [k0]; rfl)]
  obtain⟨k,e,s',t',e1,e2,v',M'⟩:=pC (m:=m) v M true ⟨0,0,⟨#[]⟩,[]⟩ (fun _=>⟨rfl,rfl,rfl⟩) (fun h=>absurd rfl h) Wo
  refine⟨s',t',?_,v',M'⟩
  simp only [ij.f,gd.f,iq.f,e1,e2,aiI,aj8,if_true]
 rw [if_neg (by simpa using k0)]
 by_cases k1:x.iD=1
 ·rw [if_pos (by rw [k1]; rfl)]
  have h1:fc.f m x.uc=some (gD ⟨1,x.uc,⟨#[]⟩,[]⟩ s.aa.length):=by
   unfold fc.f gD
   by_cases c1 : -1099511627776≤x.uc
   ·rw [if_pos (by simpa using c1)]
    simp [c1]
   ·rw [if_neg (by simpa using c1)]
    simp [c1]
  obtain⟨k,e,s',t',e1,e2,v',M'⟩:=pC (m:=m) v M _ ⟨1,x.uc,⟨#[]⟩,[]⟩ (fun h=>by cases h) (fun _=>rfl) Wo
  refine⟨s',t',?_,v',M'⟩
  simp only [ik.f,h1,ir.f,e1,e2,aiI,aj8,if_true]
 rw [if_neg (by simpa using k1)]
 by_cases k2:x.iD=2
 ·rw [if_pos (by rw [k2]; rfl)]
  have h1:eR.f m x.dY=some (gD ⟨2,0,x.dY,[]⟩ s.aa.length):=by
   unfold eR.f gD
   rw [sU om]
   simp
  obtain⟨k,e,s',t',e1,e2,v',M'⟩:=pC (m:=m) v M _ ⟨2,0,x.dY,[]⟩ (fun h=>by cases h) (fun _=>rfl) Wo
  refine⟨s',t',?_,v',M'⟩
  simp only [gQ.f,h1,gR.f,e1,e2,aiI,aj8,if_true]
 rw [if_neg (by simpa using k2)]
 by_cases k3:x.iD=3
 ·rw [if_pos (by rw [k3]; rfl)]
  have h1:en.f m x.dY x.iT s=some (gD ⟨3,0,x.dY,x.iT⟩ s.aa.length):=by
   unfold en.f gD
   rw [sU om,aiI]
   simp only [show ¬((3:Int)=0) by decide,show ¬((3:Int)=1) by decide,show ¬((3:Int)=2) by decide,if_false,if_true,aj8,ajC]
   cases IF:pz x.dY with
   | false=>simp
   | true=>
    rw [if_pos rfl,ajC]
    by_cases c1:1≤x.iT.length
    ·rw [if_pos (by rw [decide_eq_true_eq]; omega),decide_eq_true c1,ajC]
     by_cases c2:x.iT.length≤8
     ·rw [if_pos (by rw [decide_eq_true_eq]; omega),decide_eq_true c2,ajC]
      rw [AJ Wo x.iT om (g:=fun n=>!decide (Rg s.aa.length n)) (fun a _=>by simp only [eA.f,Km,aiI]),aiI]
      congr 1
      rw [List.not_any_eq_all_not]
      congr 1
      funext n
      unfold Rg
      by_cases h1:0≤n<;>by_cases h2:n<s.aa.length<;>simp [h1,h2]
     ·rw [if_neg (by rw [decide_eq_true_eq]; omega),decide_eq_false c2]; rfl
    ·rw [if_neg (by rw [decide_eq_true_eq]; omega),decide_eq_false c1]; rfl
  have hc:GW 1 x.iT=some x.iT:=by unfold GW; rw [if_pos om]
  obtain⟨k,e,s',t',e1,e2,v',M'⟩:=pC (m:=m) v M _ ⟨3,0,x.dY,x.iT⟩ (fun h=>by cases h) (fun _=>rfl) Wo
  refine⟨s',t',?_,v',M'⟩
  simp only [gm.f,hc,h1,gp.f,e1,e2,aiI,aj8,if_true]
 rw [if_neg (by simpa using k3)]
 by_cases k4:x.iD=4
 ·rw [if_pos (by rw [k4]; rfl)]
  have h1:eQ.f m x.dY x.uc=some (gD ⟨4,x.uc,x.dY,[]⟩ s.aa.length):=by
   unfold eQ.f gD
   rw [Co,aiI]
   cases hn:Ck x.dY<;>simp
  obtain⟨k,e,s',t',e1,e2,v',M'⟩:=pC (m:=m) v M _ ⟨4,x.uc,x.dY,[]⟩ (fun h=>by cases h) (fun _=>rfl) Wo
  refine⟨s',t',?_,v',M'⟩
  simp only [gP.f,h1,gS.f,e1,e2,aiI,aj8,if_true]
 rw [if_neg (by simpa using k4)]
 by_cases k5:x.iD=5
 ·rw [if_pos (by rw [k5]; rfl)]
  obtain⟨k,e,s',t',e1,e2,v',M'⟩:=PV yL v M x.Bc
  refine⟨s',t',?_,v',M'⟩
  simp only [e1,e2,aiI,aj8,if_true]
 rw [if_neg (by simpa using k5)]
 by_cases k6:x.iD=6
 ·rw [if_pos (by rw [k6]; rfl)]
  obtain⟨l,e,s',t',e1,e2,v',M',hl⟩:=Iy yL v M x.uc x.GX
  refine⟨s',t',?_,v',M'⟩
  simp only [e1,e2,aiI,sW l om hm,aj8,if_true]
 rw [if_neg (by simpa using k6)]
 by_cases k7:x.iD=7
 ·rw [if_pos (by rw [k7]; rfl)]
  obtain⟨n,l,e,e1,e2,hl⟩:=Ml yL v M x.uc x.GX
  refine⟨s,t,?_,v,M⟩
  simp only [e1,e2,aiI,sW l om hm,aj8,if_true]
 rw [if_neg (by simpa using k7)]
 exact⟨s,t,rfl,v,M⟩
theorem GM (hm:2 ^ 63≤m)(l:List cF)(hl:Small l):∀(k i:Nat) (s:ae) (t:aj),i≤l.length→l.length - i<k→Inv2 s→jm s t→∃s' t' z,bV.l0 m l k s t (i:Int)=some (.inr (s',t',z))∧Inv2 s'∧jm s' t'
 | 0,i,s,t,h1,h2,_,_=>by omega
 | k+1,i,s,t,h1,h2,v,M=>by
  have Wm:(2:Nat) ^ 63=9223372036854775808:=by decide
  simp only [bV.l0]
  have h60:=hl.1
  by_cases hi:i<l.length
  ·have d:decide ((i:Int)<(l.length:Int))=true:=by rw [decide_eq_true_eq]; omega
   have eg:=aiN hi
   generalize l[i]=x at eg
   have ew:i64.wrap ((i:Int)+1)=((i+1:Nat):Int):=by rw [kh om om]; omega
   obtain⟨s',t',e1,v',M'⟩:=Mm hm v M x (hl.2 x (aiS eg))
   have ih:=GM hm l hl k (i+1) s' t' om om v' M'
   rw [if_pos d,tJ eg]
   simp only [aiI,R9 v.inv,PW (show 16000≤m by omega) v M,NP,e1,ew,ajA,aiW,if_false,ite_self]
   exact ih
  ·have d:decide ((i:Int)<(l.length:Int))=false:=by rw [decide_eq_false_iff_not]; omega
   rw [if_neg (by rw [d]; decide)]
   exact⟨s,t,_,rfl,v,M⟩
theorem Iz (hm:2 ^ 63≤m)(l:List cF)(h1:l.length<2 ^ 63):bV.f m l=some true:=by
 have Wm:(2:Nat) ^ 63=9223372036854775808:=by decide
 unfold bV.f
 obtain⟨q,e1,g1⟩:=R7 hm l h1
 rw [e1,aiI]
 cases q with
 | true=>rfl
 | false=>
  have h60:=(g1 rfl).1
  obtain⟨s',t',z,e2,v,M⟩:=GM hm l (g1 rfl) m 0 ⟨true,[],[]⟩ ⟨[],[],true⟩ (ajm _) om R8 ⟨rfl,rfl,rfl⟩
  have e2:bV.l0 m l m ⟨true,[],[]⟩ ⟨[],[],true⟩ 0=_:=e2
  rw [if_neg (by decide)]
  simp only [mj.f,mo.f,aiI,e2,Mj hm v M]
  rfl
end
end Go.Proofs.YtifafejidnjckaaGreat
namespace Go.Proofs.YtifafejidnjckaaGreat
open Go Go.R
open Go.IntKind (i64 u64 u8 u32)
def Nf (xs ys:List AV):Prop:=eL xs=true∧fG xs=ys
theorem CG:∀a b:List AV,eL (a++b)=(eL a&&eL b)
 | [],b=>rfl
 | x::a,b=>by rw [ajv,eL,eL,CG,Bool.and_assoc]
theorem CH:∀a b:List AV,fG (a++b)=fG a++fG b
 | [],b=>rfl
 | x::a,b=>by rw [ajv,fG,fG,CH,ajv]
theorem Nf.app {a b c d:List AV}(h:Nf a c)(k:Nf b d):Nf (a++b) (c++d):=⟨by rw [CG,h.1,k.1]; rfl,by rw [CH,h.2,k.2]⟩
theorem Nf.nil:Nf [] []:=⟨rfl,rfl⟩
theorem Nf.cons {x y:AV}{b d:List AV}(h:x.gN=true)(h2:x.mO=y)(k:Nf b d):Nf (x::b) (y::d):=⟨by simp [eL,h,k.1],by simp [fG,h2,k.2]⟩
theorem GN {α:Type}{E:bM α}{Pr:α→Prop}:∀{els:List (List AV)},(∀el∈els,∃a,Nf el (E.f a)∧Pr a)→∃l:List α,Nf els.flatten (E.l l)∧l.length=els.length∧∀a∈l,Pr a
 | [],_=>⟨[],Nf.nil,rfl,fun a ha=>by cases ha⟩
 | el::els,h=>by
  obtain⟨a,h1,h2⟩:=h el (by simp)
  obtain⟨l,h3,h4,h5⟩:=GN (E:=E) (Pr:=Pr) (els:=els) fun e he=>h e (by simp [he])
  refine⟨a::l,?_,by simp [h4],fun x hx=>?_⟩
  ·rw [List.flatten_cons,bM.iA]; exact h1.app h3
  ·rcases aja.1 hx with rfl | hx
   ·exact h2
   ·exact h5 x hx
def GO {α:Type}(E:bM α)(x:AV)(l:List α):Prop:=x.gN=true∧x.mO=E.fz l∧(x = .nils∨∃cs n b,x = .fz cs n b)∧l.length≤maxLen
theorem GO.fr {α:Type}{E:bM α}{x:AV}{l:List α}(h:GO E x l)(hp:AHeap):nF 0 hp x (E.fz l):=og h.1 (by rcases h.2.2.1 with rfl | ⟨cs,n,b,rfl⟩<;>exact fun _=>rfl) h.2.1
theorem IA {α:Type}{E:bM α}{Pr:α→Prop}{n t e:Nat}{xs:List AV}(ht:Tryz.prog.underlying t=some (.slice e))(h:Fits Tryz.prog (n+1) t xs)
  (he:∀el,Fits Tryz.prog n e el→∃a,Nf el (E.f a)∧Pr a):∃x l,xs=[x]∧GO E x l∧∀a∈l,Pr a:=by
 unfold Fits at h
 rw [ht] at h
 rcases h with rfl | ⟨els,rfl,h1,h⟩
 ·exact⟨_,[],rfl,⟨rfl,rfl,.inl rfl,ajm _⟩,fun a ha=>by cases ha⟩
 ·obtain⟨l,⟨h2,h3⟩,h4,h5⟩:=GN (E:=E) (Pr:=Pr) fun el W7=>he el (h el W7).2
  refine⟨_,l,rfl,⟨by simpa [AV.gN] using h2,?_,.inr ⟨_,_,_,rfl⟩,om⟩,h5⟩
  show AV.fz (fG els.flatten) els.length false=_
  rw [h3,←h4]; rfl
theorem uu {n:Nat}{xs:List AV}(h:Fits Tryz.prog (n+1) 3 xs):∃z:Int,xs=[.int .i64 z]:=by
 unfold Fits at h
 rw [Tryz.underlying3] at h
 obtain⟨z,rfl,_⟩:=h
 exact⟨z,rfl⟩
theorem KX {n:Nat}{xs:List AV}(h:Fits Tryz.prog (n+1) 9 xs):∃s:ByteArray,xs=[.str s]:=by
 unfold Fits at h
 rw [Tryz.underlying9] at h
 obtain⟨s,hs,_⟩:=h
 exact⟨s,hs⟩
theorem GP {n:Nat}{xs:List AV}(h:Fits Tryz.prog (n+2) 22 xs):∃x l,xs=[x]∧GO ab x l:=by
 obtain⟨x,l,e,h,_⟩:=IA (E:=ab) (Pr:=fun _=>True) Tryz.underlying22 h fun el h=>by
  obtain⟨z,rfl⟩:=uu h
  exact⟨z,⟨rfl,rfl⟩,trivial⟩
 exact⟨x,l,e,h⟩
theorem P6 {n:Nat}{xs:List AV}(h:Fits Tryz.prog (n+3) 57 xs):∃v:ak,Nf xs (af.f v):=by
 unfold Fits at h
 rw [Tryz.underlying57] at h
 obtain⟨a,b,rfl,_,h1,h⟩:=h
 obtain⟨c,d,rfl,_,h2,h⟩:=h
 obtain⟨e,f,rfl,_,h3,h⟩:=h
 obtain⟨g,k,rfl,_,h4,h⟩:=h
 have h:k=[]:=h
 subst h
 obtain⟨z1,rfl⟩:=uu h1
 obtain⟨z2,rfl⟩:=uu h2
 obtain⟨s,rfl⟩:=KX h3
 obtain⟨x,l,rfl,hx⟩:=GP h4
 exact⟨⟨z1,z2,s,l⟩,Nf.cons rfl rfl (Nf.cons rfl rfl (Nf.cons rfl rfl (Nf.cons hx.1 hx.2.1 Nf.nil)))⟩
theorem Mn {n:Nat}{xs:List AV}(h:Fits Tryz.prog (n+4) 23 xs):∃x l,xs=[x]∧GO af x l:=by
 obtain⟨x,l,e,h,_⟩:=IA (E:=af) (Pr:=fun _=>True) Tryz.underlying23 h fun el h=>by
  obtain⟨v,hv⟩:=P6 h
  exact⟨v,hv,trivial⟩
 exact⟨x,l,e,h⟩
def P7 (xs:List AV)(x:cF):Prop:=∃A T,xs=[.int .i64 x.iD,.int .i64 x.uc,.int .i64 x.GX,.str x.dY,A,T,.int .i64 x.Bc.root]∧GO ab A x.iT∧GO af T x.Bc.nodes
theorem Sm {n:Nat}{xs:List AV}(h:Fits Tryz.prog (n+6) 27 xs):∃x,P7 xs x:=by
 unfold Fits at h
 rw [Tryz.underlying27] at h
 obtain⟨a,b,rfl,_,h1,h⟩:=h
 obtain⟨c,d,rfl,_,h2,h⟩:=h
 obtain⟨e,f,rfl,_,h3,h⟩:=h
 obtain⟨g,k,rfl,_,h4,h⟩:=h
 obtain⟨i,j,rfl,_,h5,h⟩:=h
 obtain⟨o,p,rfl,_,h6,h⟩:=h
 have h:p=[]:=h
 subst h
 obtain⟨z1,rfl⟩:=uu h1
 obtain⟨z2,rfl⟩:=uu h2
 obtain⟨z3,rfl⟩:=uu h3
 obtain⟨s,rfl⟩:=KX h4
 obtain⟨x,l,rfl,hx⟩:=GP h5
 have h6:Fits Tryz.prog (n+5) 25 o:=h6
 unfold Fits at h6
 rw [Tryz.underlying25] at h6
 obtain⟨q,r,rfl,_,h7,h6⟩:=h6
 obtain⟨t,u,rfl,_,h8,h6⟩:=h6
 have h6:u=[]:=h6
 subst h6
 obtain⟨y,ns,rfl,hy⟩:=Mn h7
 obtain⟨z4,rfl⟩:=uu h8
 exact⟨⟨z1,z2,z3,s,l,⟨ns,z4⟩⟩,x,y,rfl,hx,hy⟩
theorem P7.nf {xs:List AV}{x:cF}(h:P7 xs x):Nf xs (cw.f x):=by
 obtain⟨A,T,rfl,hA,hT⟩:=h
 exact Nf.cons rfl rfl (Nf.cons rfl rfl (Nf.cons rfl rfl (Nf.cons rfl rfl (Nf.cons hA.1 hA.2.1 (Nf.cons hT.1 hT.2.1 (Nf.cons rfl rfl Nf.nil))))))
theorem P8 {n:Nat}{xs:List AV}(h:Fits Tryz.prog (n+7) 29 xs):∃x l,xs=[x]∧GO cw x l:=by
 obtain⟨x,l,e,h,_⟩:=IA (E:=cw) (Pr:=fun _=>True) Tryz.underlying29 h fun el h=>by
  obtain⟨v,hv⟩:=Sm h
  exact⟨v,hv.nf,trivial⟩
 exact⟨x,l,e,h⟩
theorem Mo:maxLen<2 ^ 63:=by decide
theorem P9 {n:Nat}{xs:List AV}(h:Fits Tryz.prog (n+7) 29 xs):∃l:List cF,l.length<2 ^ 63∧∀hp,nF 10 hp (tz Tryz.prog 29 xs) (cw.fz l):=by
 obtain⟨x,l,rfl,hx⟩:=P8 h
 have e1:tz Tryz.prog 29 [x]=x:=by unfold tz; rw [Tryz.underlying29]; rfl
 rw [e1]
 exact⟨l,Nat.lt_of_le_of_lt hx.2.2.2 Mo,fun hp=>(hx.fr hp).mono (by decide)⟩
theorem Mp {P:Program}{m:Nat}{t:TypeId}{Dd:List AV}(h:uW P m [t] Dd):∃xs,Dd=[tz P t xs]∧Fits P m t xs:=by
 match Dd,h with
 | [_],⟨⟨xs,h1,f1⟩,_⟩=>exact⟨xs,by rw [h1],f1⟩
end Go.Proofs.YtifafejidnjckaaGreat
namespace Go.R
open Go
def TB:AHeap:={get:=fun _=>none,ver:=fun _=>0,next:=2}
section
variable {P:Program}
theorem alone {cf:CallF}(hcf:CallOK P cf){f:FuncId}{us:List AV}{h0:AHeap}{r1:AV}{h1:AHeap}(hx:cf f us h0=some (r1,h1))(hg:∀id,h0.get id=none)(Lc:∀id,h0.ver id<h0.next)
  {L0:Nat→Prop} {c:Cx} {vs:List Value} (hb0:c.base≤c.w.heap.size) (hrel:HRel c L0) (zB:VRs ⟨fun _=>(0,0),h0,c.w,c.w.heap.size⟩ L0 us vs) {r:AV} (hr:∀(c1 d:Cx) (v:Value),VR c1 L0 r1 v→VR d L0 r v) :
  Calls P f vs.toArray c.w fun e w'=>∃c' v,e = .returned v∧c'.w=w'∧c'.h=c.h∧VR c' L0 r v∧HRel c' L0∧Ext c none0 c' none0:=by
 obtain⟨hin,hcall⟩:=hcf f us h0 r1 h1 hx
 let c0:Cx:=⟨fun _=>(0,0),h0,c.w,c.w.heap.size⟩
 have hnl:∀id,¬Live c0.h id:=fun id hl=>by have:=hl.2; rw [show c0.h.get id=none from hg id] at this; cases this
 have yM:∀id o,¬c0.h.get id=some o:=fun id o ho=>by rw [show c0.h.get id=none from hg id] at ho; cases ho
 have zA:HRel c0 L0:=⟨fun id o ho=>absurd ho (yM id o),fun id o ho=>absurd ho (yM id o),fun id _ hl _ _=>absurd hl (hnl id),fun id hl=>absurd hl (hnl id),hrel.bd,fun id hl=>absurd hl (hnl id),Lc⟩
 refine (hcall L0 c0 vs rfl (aiQ _) zA zB).mono ?_
 rintro e w' ⟨c1,v,rfl,rfl,V5,hv,hrel1,e1⟩
 let d:Cx:=⟨c.β,c.h,c1.w,c.base⟩
 have hk:∀b,b<c.w.heap.size→c1.w.heap[b]? = c.w.heap[b]?:=fun b hb=>e1.exact b hb
 have ed:Ext c none0 d none0:=⟨aiQ _,fun id _ hl=>⟨hl,rfl,kR.len (c:=c) (c':=d) (.inl (hk _ (hrel.block hl)))⟩,e1.size,fun b hb _ _=>.inl (hk b hb),fun b hb=>hk b (ajk hb hb0),rfl,fun id hl=>.inr ⟨id,hl,rfl⟩,fun _ h=>h,fun _ h=>.inl h,e1.os,e1.tape,e1.output⟩
 refine⟨d,v,rfl,rfl,rfl,hr c1 d v hv,⟨hrel.lt,fun id o ho=>?_,hrel.inj,hrel.out,fun b hb=>ajk (hrel.bd b hb) e1.size,hrel.low,hrel.ver⟩,ed⟩
 have hl:Live c.h id:=⟨hrel.lt _ _ ho,by rw [ho]; rfl⟩
 have:=(hrel.obj id o ho)
 have h2:=uE.ext (L0:=L0) ed (b:=(c.β id).1) (base:=(c.β id).2) (o:=o) (by rw [kU]; exact this) (hk _ (hrel.block hl))
 rw [kU] at h2
 exact h2
def VN (P:Program)(t:TypeId)(z:Nat):Bool:=
 match P.underlying t with
 | some (.slice e)=>match P.info? e with
  | some i=>ajy i.size z&&akn i.bytes 1000&&Sy i
  | none=>false
 | _=>false
theorem GQ {t:TypeId}{z:Nat}(T:VN P t z=true)(hz:z≠0){h:AHeap}{x:AV}{n:Nat}{cs:List AV}(hn:n≠0)(hb:n*1024≤1099511627776)(hx:fN h z x=some (cs,n))(hs:ly P t x=true):eC P h t t (.fz [] 0 true) x=some (.rs h.next 0 n z,h.alloc (.cells cs)):=by
 unfold VN at T
 split at T
 rotate_left
 ·cases T
 rename_i e he
 split at T
 rotate_left
 ·cases T
 rename_i i hi
 simp only [aiM] at T
 obtain⟨⟨h1,h2⟩,h3⟩:=T
 have h1:=aj2 h1
 have h2:=Nat.le_of_ble_eq_true h2
 subst h1
 have hq:n*i.bytes≤n*1000:=Nat.mul_le_mul_left n h2
 simp only [eC,he,aiI,hi,hx]
 rw [if_neg (by simp [hz,hs,h3]),if_neg (by simp only [jw,ajf,ai4]; omega),if_neg hn]
 simp
theorem CI {z:Nat}:∀args h r h',Fo z args h=some (r,h')→Steady h h':=by
 intro args h r h' hs
 unfold Fo at hs
 split at hs
 ·cases hs; exact Steady.refl _
 ·split at hs
  ·cases hs; exact Steady.refl _
  ·split at hs
   ·cases hs; exact Steady.put _ _ _
   ·cases hs
 ·split at hs
  ·cases hs; exact Steady.refl _
  ·rw [aiJ] at hs
   obtain⟨ob,_,hs⟩:=hs
   split at hs
   ·split at hs
    ·cases hs; exact Steady.put _ _ _
    ·cases hs
   ·cases hs
 ·cases hs
theorem TC {cf:CallF}(hcf:CallOK P cf){F:FuncId}{t:TypeId}{z:Nat}(T:VN P t z=true)(hz:z≠0)
  (h0:cf F [.nils] bH=some (.nils,bH)) (h1:cf F [.rs 1 0 0 z] TB=some (.rs 0 0 0 z,TB))
  (h2:∀(c:AV) (cs:List AV) (n:Nat) (ex:Bool) (h:AHeap) (i k w:Nat) (h':AHeap),eC P h t t (.fz [] 0 true) (.fz (c::cs) n ex)=some (.rs i 0 k w,h')→cf F [.fz (c::cs) n ex] h=some (.rs i 0 k w,h'))
  (h3:∀(j n q:Nat) (h:AHeap) (i k w:Nat) (h':AHeap),eC P h t t (.fz [] 0 true) (.rs (j+1) 0 n q)=some (.rs i 0 k w,h')→cf F [.rs (j+1) 0 n q] h=some (.rs i 0 k w,h'))
  (jz:∀x,(∀st,x≠.str st)→ly P t x=true) :
  CallOK P fun f' args h=>if f'=F then Fo z args h else none:=by
 intro f args h r h' hc
 dsimp only at hc
 split at hc
 rotate_left
 ·cases hc
 rename_i hf
 subst hf
 refine⟨(hcf f _ _ _ _ h0).1,fun L0 c vs hh hb0 hrel hargs=>?_⟩
 have empty:∀(v:Value),(∃a cap,v = .slice a 0 cap∧(a=none→cap=0))→Calls P f #[v] c.w fun e w'=>∃c' v,e = .returned v∧c'.w=w'∧c'.h=c.h∧VR c' L0 (.rs 0 0 0 z) v∧HRel c' L0∧Ext c none0 c' none0:=by
  rintro v ⟨a,cap,rfl,ha⟩
  cases a with
  | none=>
   have:=ha rfl
   subst this
   refine alone (vs:=[.slice none 0 0]) hcf h0 (fun _=>rfl) (fun _=>akp) hb0 hrel ⟨rfl,trivial⟩ (fun c1 d v hv=>?_)
   simp only [VR] at hv ⊢
   exact .inl ⟨trivial,trivial,trivial,none,hv⟩
  | some ad=>
   refine alone (vs:=[.slice (some ad) 0 cap]) hcf h1 (fun _=>rfl) (fun _=>Nat.zero_lt_succ 1) hb0 hrel ⟨?_,trivial⟩ (fun c1 d v hv=>?_)
   ·simp only [VR]
    exact .inr ⟨by decide,by decide,some ad,cap,rfl,ajm _,rfl,fun hl=>by have:=hl.2; cases this⟩
   ·simp only [VR] at hv ⊢
    rcases hv with hv | hv
    ·exact .inl hv
    ·exact absurd rfl hv.1
 match args,vs,hargs with
 | [],_,_=>simp [Fo] at hc
 | x::y::l,_,_=>cases x<;>simp [Fo] at hc
 | [x],[v],hargs=>
  have hx:VR c L0 x v:=hargs.1
  cases x<;>simp only [Fo] at hc<;>try (cases hc; done)
  ·cases hc
   simp only [VR] at hx
   rw [←hh]
   exact empty v ⟨none,0,hx,fun _=>rfl⟩
  ·rename_i cs n ex
   split at hc
   ·rename_i hn
    cases hc
    subst hn
    simp only [VR] at hx
    obtain⟨a,cap,e,_,_,hs,_⟩:=hx
    rw [←hh]
    refine empty v ⟨a,cap,e,fun ha=>?_⟩
    rcases hs with hs | hs
    ·rw [ha] at hs; cases hs
    ·exact hs.2
   ·rename_i hn
    split at hc
    rotate_left
    ·cases hc
    rename_i hq
    cases hc
    cases cs with
    | nil=>
     have h4:0=n*z:=hq.1
     rcases Nat.mul_eq_zero.1 h4.symm with h5 | h5
     ·exact absurd h5 hn
     ·exact absurd h5 hz
    | cons c1 cs=>
     have TJ:fN h z (.fz (c1::cs) n ex)=some ((c1::cs).map nq,n):=by
      simp only [fN,fW]; rw [if_pos hq.1]; rfl
     have:=h2 c1 cs n ex h _ _ _ _ (GQ T hz hn hq.2 TJ (jz _ (by rintro st h; cases h)))
     exact (hcf _ _ _ _ _ this).2 L0 c [v] hh hb0 hrel ⟨hx,trivial⟩
  ·rename_i id off n q
   cases off with
   | succ off=>simp [Fo] at hc
   | zero=>
   simp only [Fo] at hc
   split at hc
   ·rename_i hn
    cases hc
    subst hn
    simp only [VR] at hx
    rw [←hh]
    rcases hx with⟨_,_,_,a,e⟩| ⟨_,_,a,cap,e,_,hs,_⟩
    ·exact empty v ⟨a,0,e,fun _=>rfl⟩
    ·refine empty v ⟨a,cap,e,fun ha=>?_⟩
     rw [ha] at hs; cases hs
   ·rename_i hn
    rw [aiJ] at hc
    obtain⟨ob,ho,hc⟩:=hc
    split at hc
    rotate_left
    ·cases hc
    rename_i cs
    split at hc
    rotate_left
    ·cases hc
    rename_i hq
    cases hc
    have hid:id≠0:=by
     simp only [VR] at hx
     rcases hx with hx | hx
     ·exact absurd hx.2.2.1 hn
     ·exact hx.1
    obtain⟨j,rfl⟩:∃j,id=j+1:=⟨id - 1,by omega⟩
    have TJ:fN h z (.rs (j+1) 0 n q)=some ((cs.take (n*z)).map nq,n):=by
     simp only [fN,fW]
     rw [if_neg (fun hz=>hz.elim hid fun hz=>hn hz.1),ho]
     simp only [aiI]
     rw [if_pos ⟨hq.1,by omega⟩,aji]; rfl
    have:=h3 j n q h _ _ _ _ (GQ T hz hn hq.2.2 TJ (jz _ (by rintro st h; cases h)))
    exact (hcf _ _ _ _ _ this).2 L0 c [v] hh hb0 hrel ⟨hx,trivial⟩
 | [x],[],hargs=>exact hargs.elim
 | [x],_::_::_,hargs=>exact hargs.2.elim
end
end Go.R
namespace Go.Proofs.YtifafejidnjckaaGreat
open Go Go.R Go.Shelf
open Go.IntKind (i64 u64 u8 u32)
theorem fits:Fit Tryz.prog:=T5 kr kr
def VO:Ren:={f:=(fun x=>match x with | 189=>66 | 125=>100 | 257=>99 | 128=>125 | 129=>126 | 294=>116 | 295=>117 | 296=>118 | 297=>119 | 298=>120 | 299=>121 | 216=>122 | 300=>123 | 301=>124 | 328=>135 | 329=>136 | 330=>137 | 331=>138 | 332=>139 | 215=>140 | 343=>147 | n=>n),t:=(fun x=>match x with | 28=>22 | 3=>3 | 46=>106 | 0=>0 | 51=>131 | 53=>133 | 4=>4 | 183=>124 | 182=>123 | 131=>102 | 5=>5 | 9=>9 | 218=>139 | 222=>143 | 228=>150 | 229=>151 | n=>n),g:=(fun n=>n)}
theorem YQ:Lays.n189 Tryz.prog VO:={
 mixed:=by kernel_rfl,
 f125:=Tryz.func100.trans (congrArg some kr),
 f128:=Tryz.func125.trans (congrArg some kr),
 f129:=Tryz.func126.trans (congrArg some kr),
 f189:=Tryz.func66.trans (congrArg some kr),
 f215:=Tryz.func140.trans (congrArg some kr),
 f216:=Tryz.func122.trans (congrArg some kr),
 f257:=Tryz.func99.trans (congrArg some kr),
 f294:=Tryz.func116.trans (congrArg some kr),
 f295:=Tryz.func117.trans (congrArg some kr),
 f296:=Tryz.func118.trans (congrArg some kr),
 f297:=Tryz.func119.trans (congrArg some kr),
 f298:=Tryz.func120.trans (congrArg some kr),
 f299:=Tryz.func121.trans (congrArg some kr),
 f300:=Tryz.func123.trans (congrArg some kr),
 f301:=Tryz.func124.trans (congrArg some kr),
 f328:=Tryz.func135.trans (congrArg some kr),
 f329:=Tryz.func136.trans (congrArg some kr),
 f330:=Tryz.func137.trans (congrArg some kr),
 f331:=Tryz.func138.trans (congrArg some kr),
 f332:=Tryz.func139.trans (congrArg some kr),
 f343:=Tryz.func147.trans (congrArg some kr),
 t0:=Tryz.underlying0,
 a0:=Tryz.isAgg0,
 z0:=Tryz.sizeOf0,
 v0:=Tryz.zeroValue0,
 t3:=Tryz.underlying3,
 a3:=Tryz.isAgg3,
 z3:=Tryz.sizeOf3,
 v3:=Tryz.zeroValue3,
 t4:=Tryz.underlying4,
 a4:=Tryz.isAgg4,
 z4:=Tryz.sizeOf4,
 v4:=Tryz.zeroValue4,
 t5:=Tryz.underlying5,
 a5:=Tryz.isAgg5,
 z5:=Tryz.sizeOf5,
 v5:=Tryz.zeroValue5,
 t9:=Tryz.underlying9,
 a9:=Tryz.isAgg9,
 z9:=Tryz.sizeOf9,
 v9:=Tryz.zeroValue9,
 t28:=Tryz.underlying22,
 a28:=Tryz.isAgg22,
 z28:=Tryz.sizeOf22,
 v28:=Tryz.zeroValue22,
 t46:=Tryz.underlying106,
 a46:=Tryz.isAgg106,
 z46:=Tryz.sizeOf106,
 v46:=Tryz.zeroValue106,
 t51:=Tryz.underlying131,
 a51:=Tryz.isAgg131,
 z51:=Tryz.sizeOf131,
 v51:=Tryz.zeroValue131,
 t53:=Tryz.underlying133,
 a53:=Tryz.isAgg133,
 z53:=Tryz.sizeOf133,
 v53:=Tryz.zeroValue133,
 t131:=Tryz.underlying102,
 a131:=Tryz.isAgg102,
 z131:=Tryz.sizeOf102,
 v131:=Tryz.zeroValue102,
 t182:=Tryz.underlying123,
 a182:=Tryz.isAgg123,
 z182:=Tryz.sizeOf123,
 v182:=Tryz.zeroValue123,
 t183:=Tryz.underlying124,
 a183:=Tryz.isAgg124,
 z183:=Tryz.sizeOf124,
 v183:=Tryz.zeroValue124,
 t218:=Tryz.underlying139,
 a218:=Tryz.isAgg139,
 z218:=Tryz.sizeOf139,
 v218:=Tryz.zeroValue139,
 t222:=Tryz.underlying143,
 a222:=Tryz.isAgg143,
 z222:=Tryz.sizeOf143,
 v222:=Tryz.zeroValue143,
 t228:=Tryz.underlying150,
 a228:=Tryz.isAgg150,
 z228:=Tryz.sizeOf150,
 v228:=Tryz.zeroValue150,
 t229:=Tryz.underlying151,
 a229:=Tryz.isAgg151,
 z229:=Tryz.sizeOf151,
 v229:=Tryz.zeroValue151}
theorem VP:∀(vs:Array Value) (w:World),(callFunc (VO.f 189) vs).run Tryz.prog w = .ok (.enter (VO.f 189) vs) w:=
 rR (c:=bw Tryz.f66) Tryz.func66 kr (by decide +kernel)
def xm:b4:=gL [0,2,4] [] [] [] []
def tK:tj:={aW:=fun _=>xm,intr:=fun _=>none,pure:=fun _=>none}
noncomputable def YR:CallF:=bj Tryz.prog tK.aW (iI Tryz.prog tK 10 0) 10
theorem Qa:CallOK Tryz.prog YR:=EX fits (uV fits sM 10 0) (E1 fits.mixed (uV fits sM 10 0) (pP sM 10 0)) 10
theorem Sq (c:AV)(cs:List AV)(n:Nat)(ex:Bool)(h:AHeap)(i k w:Nat)(h':AHeap)(e:eC Tryz.prog h 22 22 (.fz [] 0 true) (.fz (c::cs) n ex)=some (.rs i 0 k w,h')):YR 37 [.fz (c::cs) n ex] h=some (.rs i 0 k w,h'):=by
 have key:∃r h2,bj Tryz.prog tK.aW (iI Tryz.prog tK 10 0) 10 37 [.fz (c::cs) n ex] h=some (r,h2)∧r = .rs i 0 k w∧h2=h':=by
  refine aw (fn:=Tryz.f37) (A:=xm) rfl Tryz.func37 kr kr ?_
  refine aI (Q:=fun s=>aK Tryz.prog (s.open xm) Tryz.f37.results.toList=some (.rs i 0 k w)∧s.h=h') (fun _ _ ⟨h1,h2,h3⟩=>⟨h1,_,h2,rfl,h3⟩) ?_
  show dE _ _ xm _ _ ⟨[.fz (c::cs) n ex,.any,.any],[],h⟩ _
  refine q1 <| qq <| q1 <| Dr <| qk <| qs [.a 2 e] <| qt <| ⟨.inl rfl,by kernel_rfl,by kernel_rfl⟩
 obtain⟨r,h2,hb,rfl,rfl⟩:=key
 exact hb
theorem Ss (j n q:Nat)(h:AHeap)(i k w:Nat)(h':AHeap)(e:eC Tryz.prog h 22 22 (.fz [] 0 true) (.rs (j+1) 0 n q)=some (.rs i 0 k w,h')):YR 37 [.rs (j+1) 0 n q] h=some (.rs i 0 k w,h'):=by
 have key:∃r h2,bj Tryz.prog tK.aW (iI Tryz.prog tK 10 0) 10 37 [.rs (j+1) 0 n q] h=some (r,h2)∧r = .rs i 0 k w∧h2=h':=by
  refine aw (fn:=Tryz.f37) (A:=xm) rfl Tryz.func37 kr kr ?_
  refine aI (Q:=fun s=>aK Tryz.prog (s.open xm) Tryz.f37.results.toList=some (.rs i 0 k w)∧s.h=h') (fun _ _ ⟨h1,h2,h3⟩=>⟨h1,_,h2,rfl,h3⟩) ?_
  show dE _ _ xm _ _ ⟨[.rs (j+1) 0 n q,.any,.any],[],h⟩ _
  refine q1 <| qq <| q1 <| Dr <| qk <| qs [.a 2 e] <| qt <| ⟨.inl rfl,by kernel_rfl,by kernel_rfl⟩
 obtain⟨r,h2,hb,rfl,rfl⟩:=key
 exact hb
theorem YS:∀x,(∀st,x≠.str st)→ly Tryz.prog 22 x=true:=by
 intro x hx
 cases x<;>first | exact absurd rfl (hx _) | kernel_rfl
theorem Su:CallOK Tryz.prog fun f args h=>if f=37 then Fo 1 args h else none:=
 TC Qa (F:=37) (t:=22) (z:=1) kr (by decide) kr kr Sq Ss YS
theorem Sv (c:AV)(cs:List AV)(n:Nat)(ex:Bool)(h:AHeap)(i k w:Nat)(h':AHeap)(e:eC Tryz.prog h 23 23 (.fz [] 0 true) (.fz (c::cs) n ex)=some (.rs i 0 k w,h')):YR 51 [.fz (c::cs) n ex] h=some (.rs i 0 k w,h'):=by
 have key:∃r h2,bj Tryz.prog tK.aW (iI Tryz.prog tK 10 0) 10 51 [.fz (c::cs) n ex] h=some (r,h2)∧r = .rs i 0 k w∧h2=h':=by
  refine aw (fn:=Tryz.f51) (A:=xm) rfl Tryz.func51 kr kr ?_
  refine aI (Q:=fun s=>aK Tryz.prog (s.open xm) Tryz.f51.results.toList=some (.rs i 0 k w)∧s.h=h') (fun _ _ ⟨h1,h2,h3⟩=>⟨h1,_,h2,rfl,h3⟩) ?_
  show dE _ _ xm _ _ ⟨[.fz (c::cs) n ex,.any,.any],[],h⟩ _
  refine q1 <| qq <| q1 <| Dr <| qk <| qs [.a 2 e] <| qt <| ⟨.inl rfl,by kernel_rfl,by kernel_rfl⟩
 obtain⟨r,h2,hb,rfl,rfl⟩:=key
 exact hb
theorem Sw (j n q:Nat)(h:AHeap)(i k w:Nat)(h':AHeap)(e:eC Tryz.prog h 23 23 (.fz [] 0 true) (.rs (j+1) 0 n q)=some (.rs i 0 k w,h')):YR 51 [.rs (j+1) 0 n q] h=some (.rs i 0 k w,h'):=by
 have key:∃r h2,bj Tryz.prog tK.aW (iI Tryz.prog tK 10 0) 10 51 [.rs (j+1) 0 n q] h=some (r,h2)∧r = .rs i 0 k w∧h2=h':=by
  refine aw (fn:=Tryz.f51) (A:=xm) rfl Tryz.func51 kr kr ?_
  refine aI (Q:=fun s=>aK Tryz.prog (s.open xm) Tryz.f51.results.toList=some (.rs i 0 k w)∧s.h=h') (fun _ _ ⟨h1,h2,h3⟩=>⟨h1,_,h2,rfl,h3⟩) ?_
  show dE _ _ xm _ _ ⟨[.rs (j+1) 0 n q,.any,.any],[],h⟩ _
  refine q1 <| qq <| q1 <| Dr <| qk <| qs [.a 2 e] <| qt <| ⟨.inl rfl,by kernel_rfl,by kernel_rfl⟩
 obtain⟨r,h2,hb,rfl,rfl⟩:=key
 exact hb
theorem YT:∀x,(∀st,x≠.str st)→ly Tryz.prog 23 x=true:=by
 intro x hx
 cases x<;>first | exact absurd rfl (hx _) | kernel_rfl
theorem Sx:CallOK Tryz.prog fun f args h=>if f=51 then Fo 4 args h else none:=
 TC Qa (F:=51) (t:=23) (z:=4) kr (by decide) kr kr Sv Sw YT
noncomputable def TD:FuncId→Option (List AV→AHeap→Option (AV × AHeap)):=fun f=>if f=66 then some Uq else if f=37 then some (Fo 1) else if f=51 then some (Fo 4) else none
theorem Qb:IntrOK Tryz.prog TD:=intr_cons (f0:=66) (Xo YQ VP) LI (intr_cons (f0:=37) Su CI (intr_cons (f0:=51) Sx CI sM))
end Go.Proofs.YtifafejidnjckaaGreat
namespace Go.Proofs.YtifafejidnjckaaGreat
open Go Go.R
open Go.IntKind (i64 u64 u8 u32)
def cD:Nat→b4
 | 5=>OI
 | 8=>N3
 | 9=>{keep:=[0,1,2,3,4,5,6,7,8,9,10,11,12,13,14,16,17,19,22,25],bb:=[]}
 | 12=>Kg
 | 13=>Jw
 | 14=>Jx
 | 15=>FV
 | 16=>Ji
 | 17=>Jj
 | 18=>Jy
 | 19=>FF
 | 20=>Kh
 | 22=>AF
 | 23=>FU
 | 24=>AG
 | 25=>Kf
 | 26=>Jz
 | 27=>JW
 | 29=>JX
 | 30=>JA
 | 31=>J6
 | 32=>JY
 | 33=>JZ
 | 34=>JB
 | 35=>Fx
 | 36=>J7
 | 38=>FR
 | 39=>J8
 | 40=>J9
 | 41=>Ka
 | 42=>J0
 | 43=>Kb
 | 44=>JO
 | 45=>Kc
 | 46=>Ce
 | 47=>JP
 | 48=>JQ
 | 49=>Jk
 | 50=>Jl
 | 52=>JC
 | 53=>J1
 | 54=>JD
 | 55=>AE
 | 56=>Ca
 | 57=>Cb
 | 59=>JR
 | 60=>Cc
 | 61=>FG
 | 62=>Ke
 | 63=>FH
 | 64=>JE
 | 65=>Jm
 | 66=>{keep:=[0,2],bb:=[]}
 | 68=>Cd
 | 69=>Fy
 | 70=>JF
 | 71=>Jn
 | 72=>Jp
 | 73=>J2
 | 74=>JS
 | 75=>Fz
 | 76=>Jq
 | 77=>JG
 | 78=>J3
 | 79=>JT
 | 80=>JU
 | 81=>J4
 | 82=>JV
 | 83=>JH
 | 84=>JI
 | 85=>Jr
 | 86=>JJ
 | 87=>Js
 | 88=>Kd
 | 89=>Jt
 | 90=>vu
 | 91=>FA
 | 92=>FB
 | 93=>B9
 | 94=>Ju
 | 95=>Jv
 | 96=>vI
 | 97=>FC
 | 98=>FE
 | 103=>DW
 | 105=>DA
 | 106=>DB
 | 107=>DC
 | 108=>Ap
 | 109=>Ae
 | 110=>DE
 | 111=>Ar
 | 112=>mR
 | 113=>DF
 | 114=>D1
 | 115=>DX
 | 127=>DT
 | 128=>Af
 | 129=>DU
 | 130=>DG
 | 131=>DH
 | 132=>wT
 | 133=>nM
 | 134=>uq
 | 140=>DI
 | 141=>DJ
 | 142=>Ah
 | 143=>As
 | 144=>Ai
 | 145=>wW
 | 146=>qz
 | 148=>Au
 | 149=>Aj
 | _=>{keep:=[],bb:=[]}
def aZ:Nat:=18014398509481984
theorem a6:ki+cd≤aZ:=by decide
def YU:Nat→Option Nat
 | 5=>some aZ
 | 8=>some aZ
 | 9=>some aZ
 | 13=>some aZ
 | 14=>some aZ
 | 15=>some aZ
 | 20=>some aZ
 | 23=>some aZ
 | 24=>some aZ
 | 25=>some aZ
 | 26=>some aZ
 | 27=>some aZ
 | 32=>some aZ
 | 35=>some aZ
 | 36=>some aZ
 | 38=>some aZ
 | 48=>some aZ
 | 49=>some aZ
 | 50=>some aZ
 | 52=>some aZ
 | 53=>some aZ
 | 54=>some aZ
 | 55=>some aZ
 | 56=>some aZ
 | 57=>some aZ
 | 59=>some aZ
 | 60=>some aZ
 | 61=>some aZ
 | 62=>some aZ
 | 64=>some aZ
 | 65=>some aZ
 | 70=>some aZ
 | 72=>some aZ
 | 73=>some aZ
 | 74=>some aZ
 | 75=>some aZ
 | 76=>some aZ
 | 77=>some aZ
 | 78=>some aZ
 | 79=>some aZ
 | 80=>some aZ
 | 82=>some aZ
 | 83=>some aZ
 | 84=>some aZ
 | 85=>some aZ
 | 86=>some aZ
 | 87=>some aZ
 | 88=>some aZ
 | 89=>some aZ
 | 90=>some aZ
 | 91=>some aZ
 | 92=>some aZ
 | 93=>some aZ
 | 94=>some aZ
 | 95=>some aZ
 | 96=>some aZ
 | 98=>some aZ
 | 103=>some aZ
 | 105=>some aZ
 | 107=>some aZ
 | 108=>some aZ
 | 109=>some aZ
 | 110=>some aZ
 | 111=>some aZ
 | 112=>some aZ
 | 113=>some aZ
 | 115=>some aZ
 | 127=>some aZ
 | 128=>some aZ
 | 129=>some aZ
 | 130=>some aZ
 | 131=>some aZ
 | 132=>some aZ
 | 133=>some aZ
 | 140=>some aZ
 | 141=>some aZ
 | 142=>some aZ
 | 143=>some aZ
 | 144=>some aZ
 | _=>none
def VQ:Nat→Bool
 | 24=>true
 | 25=>true
 | 53=>true
 | 60=>true
 | 61=>true
 | 62=>true
 | 70=>true
 | 90=>true
 | 91=>true
 | _=>false
def M:Nat:=18446744073709551616
noncomputable def bu:tj:={aW:=cD,intr:=TD,pure:=YU,gr:=VQ}
noncomputable def cE:CallF:=mb Tryz.prog bu M
theorem VS:CallOK Tryz.prog cE:=NL fits (T:=bu) Qb
theorem j66:S66 cE M:=fun args h=>tY (T:=bu) rfl
theorem j37:Zb cE M:=fun args h=>tY (T:=bu) rfl
theorem j51:S51 cE M:=fun args h=>tY (T:=bu) rfl
theorem Mq:(bj Tryz.prog cD (iI Tryz.prog bu M 98) M 9 [] bH).map (fun x=>x.1)=some (.bool true):=by kernel_rfl
theorem j9:S9 cE M:=by
 intro r H h xs hx
 have H:some true=some r:=H
 cases H
 obtain⟨⟨x,h'⟩,hb,e⟩:=aiK.1 Mq
 dsimp only at e
 subst e
 obtain⟨l,h1,h2⟩:=nn (P:=Tryz.prog) cD M 9 [] bH _ _ hb
 have hb:=h2 cE fun e he=>pd.2 ⟨_,h1 e he⟩
 exact bn (T:=bu) (deep:=aZ) rfl rfl rfl a6 hx ⟨_,_,hb,oR (jh)⟩
end Go.Proofs.YtifafejidnjckaaGreat
