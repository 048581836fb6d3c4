/- Part of the proof: RRow, RStep, RWalk, RG1, RG2, RG3, RG4, RT, RG5, RG6, RG7. -/
import Derived.Test.YtifafejidnjckaaGreatK3
import Derived.ProofKit
set_option linter.unusedVariables false
set_option linter.unusedSimpArgs false
set_option maxRecDepth 100000
open Bool renaming and_eq_true → aaK, false_eq_true → aaU, or_eq_true → abw
open List renaming getElem?_eq_some_iff → aaM, length_append → aaR, drop_eq_getElem_cons → aaT, length_cons → aaW, getElem?_append_left → aaX, getElem?_append_right → aaZ, append_assoc → aa0, all_eq_true → aa1, map_cons → aa3, replicate → aa4, mem_cons → aa6, length_nil → aba, mem_append → abb, map_append → abc, getElem?_cons_zero → abg, take_append_of_le_length → abi, drop_zero → abl, take_of_length_le → abo, nil_append → abr, eq_nil_of_length_eq_zero → abt, all_cons → abu, getElem?_of_mem → abv, length_set → abx, length_take → abz, getElem?_cons_succ → abK, ext_getElem? → abO, append_nil → abU, set_append_right → abX, take_append_drop → abY, take_length → ab3, length_replicate → aca, getElem?_set → acb
open Nat renaming le_refl → aaN, zero_add → aa7, lt_of_lt_of_le → aa9, beq → abq, lt_succ_self → aby, le_trans → abB, add_sub_cancel_left → abC, mul_le_mul_right → abE, add_assoc → abI, eq_of_beq_eq_true → abR, sub_self → abT, le_succ → abV, add_mul → abW, lt_succ_of_lt → ab1, add_zero → ab5, ble → ab7, min_eq_left → ab8, zero_lt_one → ab9, add_comm → ace
open Option renaming bind_some → aaG, bind_eq_some_iff → aaH, map_eq_some_iff → aaI, map_some → aaO, isSome_none → ab6
open Option.some renaming injEq → aaJ
open Prod.mk renaming injEq → aaQ
namespace Go.R
open Go
def Cp (P:Program)(F:TypeId→List AV→Prop):List Field→List AV→Prop
 | [],xs=>xs=[]
 | f::fs,xs=>∃a b,xs=a++b∧a.length=P.cellsOf f.type∧F f.type a∧Cp P F fs b
def Fits (P:Program):Nat→TypeId→List AV→Prop
 | 0,_,_=>False
 | n+1,t,xs=>
  match P.underlying t with
  | some .bool=>∃b,xs=[.bool b]
  | some (.int k)=>∃z,xs=[.int k z]∧k.min≤z∧z≤k.max
  | some .string=>∃s:ByteArray,xs=[.str s]∧s.size≤maxLen
  | some (.slice e)=>xs=[.nils]∨∃els:List (List AV),xs=[.fz els.flatten els.length false]∧els.length≤maxLen∧∀el∈els,el.length=P.cellsOf e∧Fits P n e el
  | some (.struct fs)=>Cp P (Fits P n) fs.toList xs
  | _=>False
def tL (P:Program):Nat→List Field→Bool
 | _,[]=>true
 | k,f::fs=>abq f.offset k&&tL P (k+P.cellsOf f.type) fs
def ot (P:Program):Nat→TypeId→Bool
 | 0,_=>false
 | n+1,t=>
  match P.underlying t with
  | some .bool | some (.int _) | some .string=>true
  | some (.slice e)=>ot P n e
  | some (.struct fs)=>tL P 0 fs.toList&&abq (P.cellsOf t) ((fs.toList.map fun f=>P.cellsOf f.type).sum)&&fs.toList.all fun f=>ot P n f.type
  | _=>false
theorem mapM_some {α β:Type}{f:α→Option β}:∀{l:List α} {ys:List β},l.mapM f=some ys→ys.length=l.length∧∀(i:Nat) (x:α),l[i]? = some x→∃y,ys[i]? = some y∧f x=some y
 | [],ys,h=>by
  simp at h; subst h
  exact⟨rfl,fun i x hx=>by simp at hx⟩
 | a::l,ys,h=>by
  simp only [List.mapM_cons,Option.bind_eq_bind,aaH,Option.pure_def,aaJ] at h
  obtain⟨y,hy,zs,hz,rfl⟩:=h
  obtain⟨h1,h2⟩:=mapM_some hz
  refine⟨by simp [h1],fun i x hx=>?_⟩
  cases i with
  | zero=>simp at hx; subst hx; exact⟨y,rfl,hy⟩
  | succ i=>simpa using h2 i x (by simpa using hx)
theorem Cq {w:World}{a:Addr}{v:Value}(h:w.cell? a=some v):w.cell? ⟨a.block,a.off,none⟩=some v∧a.spot=none:=by
 unfold World.cell? at h ⊢
 split at h
 ·rename_i c t fr hb
  rw [hb]
  simp only at h ⊢
  cases hs:a.spot with
  | none=>rw [hs] at h; exact⟨by simpa using h,rfl⟩
  | some _=>rw [hs] at h; simp at h
 ·cases h
theorem oU (a:Addr)(n:Nat):(a.add n).block=a.block∧(a.add n).off=a.off+n:=by
 unfold Addr.add
 split
 ·rename_i h; subst h; exact⟨rfl,rfl⟩
 ·exact⟨rfl,rfl⟩
theorem Ah {w:World}{base:Nat}{a:Addr}{n:Nat}{cs:List Value}(h:w.cells? base a n=some cs):cs.length=n∧∀i,i<n→w.cell? ⟨a.block,a.off+i,none⟩=cs[i]?∧(i=0→a.spot=none):=by
 unfold World.cells? at h
 split at h
 ·obtain⟨h1,h2⟩:=mapM_some h
  refine⟨by simpa using h1,fun i hi=>?_⟩
  obtain⟨y,hy,hc⟩:=h2 i i (by simp [hi])
  obtain⟨h3,h4⟩:=Cq hc
  rw [(oU a i).1,(oU a i).2] at h3
  refine⟨by rw [h3,hy],fun h0=>?_⟩
  subst h0
  simpa [Addr.add] using h4
 ·cases h
theorem sF {α:Type}{Q:Nat→α→Prop}:∀n,(∀i,i<n→∃x,Q i x)→∃l:List α,l.length=n∧∀i x,l[i]? = some x→Q i x
 | 0,_=>⟨[],rfl,fun i x h=>by simp at h⟩
 | n+1,h=>by
  obtain⟨l,h1,h2⟩:=sF n fun i hi=>h i (by omega)
  obtain⟨x,hx⟩:=h n (by omega)
  refine⟨l++[x],by simp [h1],fun i y hy=>?_⟩
  by_cases hi:i<n
  ·exact h2 i y (by rwa [aaX (by omega)] at hy)
  ·rw [aaZ (by omega)] at hy
   have:i=n:=by
    have:=(aaM.1 hy).1
    simp at this; omega
   subst this
   simp [h1] at hy
   subst hy; exact hx
theorem Cells.append {c:Cx}{L:Nat→Prop}:∀{xs ys:List AV} {b o:Nat},Cells c L xs b o→Cells c L ys b (o+xs.length)→Cells c L (xs++ys) b o
 | [],ys,b,o,_,h=>by simpa using h
 | x::xs,ys,b,o,h,k=>⟨h.1,Cells.append h.2 (by simpa [abI,ace 1] using k)⟩
theorem Cells.flatten {c:Cx}{L:Nat→Prop}{b size:Nat}:∀(els:List (List AV)) (o:Nat),(∀i el,els[i]? = some el→el.length=size∧Cells c L el b (o+i*size))→Cells c L els.flatten b o
 | [],o,_=>trivial
 | el::els,o,h=>by
  obtain⟨h1,h2⟩:=h 0 el rfl
  rw [List.flatten_cons]
  refine Cells.append (by simpa using h2) (Cells.flatten (size:=size) els _ fun i Ye he=>?_)
  obtain⟨h3,h4⟩:=h (i+1) Ye (by simpa using he)
  refine⟨h3,?_⟩
  rw [h1]
  rwa [show o+size+i*size=o+(i+1)*size by rw [abW,Nat.one_mul]; omega]
section
variable {H:Type}{enc:TypeId × Value→H}{P:Program}{c:Cx}{sp:Nat→Bool}{held:Bool}
theorem sG {F:TypeId→List AV→Prop}{g:TypeId→List Value→Option (DataW H × List MemPlace)}(hg:∀t cs x,g t cs=some x→cs.length=P.cellsOf t→(∃u:Nat,u=0)→True) :
  ∀(fs:List Field) (k:Nat) (cs:List Value) (xs:List (DataW H × List MemPlace)),tL P k fs=true→(∀f∈fs,∀cs x,g f.type cs=some x→cs.length=P.cellsOf f.type→∃ys,VRs c none0 ys cs∧F f.type ys∧∀v∈cs,v.oneCell'=true)→
   (fs.mapM fun f=>g f.type ((cs.drop f.offset).take (P.cellsOf f.type)))=some xs→k+(fs.map fun f=>P.cellsOf f.type).sum≤cs.length→
   ∃ys,VRs c none0 ys ((cs.drop k).take ((fs.map fun f=>P.cellsOf f.type).sum))∧Cp P F fs ys∧∀v∈(cs.drop k).take ((fs.map fun f=>P.cellsOf f.type).sum),v.oneCell'=true
 | [],k,cs,xs,_,_,_,_=>⟨[],by simp [VRs],rfl,by simp⟩
 | f::fs,k,cs,xs,hc,hF,h,hl=>by
  simp only [tL,aaK,beq_nat,decide_eq_true_eq] at hc
  obtain⟨rfl,hc⟩:=hc
  simp only [List.mapM_cons,Option.bind_eq_bind,aaH,Option.pure_def,aaJ] at h
  obtain⟨y,hy,zs,hz,rfl⟩:=h
  simp only [aa3,List.sum_cons] at hl ⊢
  have hlen:((cs.drop f.offset).take (P.cellsOf f.type)).length=P.cellsOf f.type:=by simp; omega
  obtain⟨a,ha,Yf,h1⟩:=hF f (by simp) _ _ hy hlen
  obtain⟨b,hb,Yg,h2⟩:=sG hg fs (f.offset+P.cellsOf f.type) cs zs hc (fun f' Sw=>hF f' (by simp [Sw])) hz (by omega)
  have MG:(cs.drop f.offset).take (P.cellsOf f.type+(fs.map fun f=>P.cellsOf f.type).sum)=(cs.drop f.offset).take (P.cellsOf f.type)++((cs.drop (f.offset+P.cellsOf f.type)).take ((fs.map fun f=>P.cellsOf f.type).sum)):=by
   rw [List.take_add,List.drop_drop]
  rw [MG]
  refine⟨a++b,VRs.append ha hb,⟨a,b,rfl,?_,Yf,Yg⟩,fun v hv=>?_⟩
  ·rw [ha.length,hlen]
  ·rcases abb.1 hv with hv | hv
   ·exact h1 v hv
   ·exact h2 v hv
theorem rH (zx:∀id,c.h.get id=none):∀(m:Nat) (t:TypeId) (fuel:Nat) (cs:List Value) (d:DataW H) (ps:List MemPlace),ot P m t=true→DataW.trod enc P c.w 0 sp held fuel t cs=some (d,ps)→
  ∃xs,VRs c none0 xs cs∧Fits P m t xs∧∀v∈cs,v.oneCell'=true
 | 0,_,_,_,_,_,hB,_=>by simp [ot] at hB
 | m+1,t,0,cs,d,ps,hB,h=>by simp [DataW.trod] at h
 | m+1,t,fuel+1,cs,d,ps,hB,h=>by
  have hnl:∀id,¬Live c.h id:=fun id hl=>by have:=hl.2; rw [zx id] at this; cases this
  unfold ot at hB
  unfold Fits
  cases hu:P.underlying t with
  | none=>rw [hu] at hB; cases hB
  | some td=>
  rw [hu] at hB
  cases td<;>simp only at hB ⊢<;>try (cases hB; done)
  ·
   unfold DataW.trod at h
   rw [hu] at h
   split at h<;>first | (rename_i heq; cases heq; done) | skip
   all_goals try (rename_i heq _; cases heq; done)
   all_goals (first | (cases h; done) | skip)
   ·rename_i b _
    exact⟨[.bool b],⟨by simp [VR],trivial⟩,⟨b,rfl⟩,by simp [Value.oneCell']⟩
  ·rename_i k
   unfold DataW.trod at h
   rw [hu] at h
   split at h<;>first | (rename_i heq; cases heq; done) | skip
   all_goals try (rename_i heq _; cases heq; done)
   ·rename_i k' k2 n heq
    cases heq
    split at h
    ·rename_i hk
     obtain⟨rfl,RE⟩:=hk
     simp only [Lit.wf,aaK,decide_eq_true_eq] at RE
     exact⟨[.int k2 n],⟨by simp [VR],trivial⟩,⟨n,rfl,RE⟩,by simp [Value.oneCell']⟩
    ·cases h
   ·cases h
  ·
   unfold DataW.trod at h
   rw [hu] at h
   split at h<;>first | (rename_i heq; cases heq; done) | skip
   all_goals try (rename_i heq _; cases heq; done)
   ·rename_i s _
    split at h
    ·rename_i hs
     exact⟨[.str s],⟨by simp [VR],trivial⟩,⟨s,rfl,hs⟩,by simp [Value.oneCell']⟩
    ·cases h
   ·cases h
  ·
   rename_i e
   unfold DataW.trod at h
   rw [hu] at h
   split at h<;>first | (rename_i heq; cases heq; done) | skip
   all_goals try (rename_i heq _; cases heq; done)
   ·exact⟨[.nils],⟨by simp [VR],trivial⟩,.inl rfl,by simp [Value.oneCell']⟩
   ·rename_i e' a len cap heq
    cases heq
    simp only at h
    split at h
    rotate_left
    ·cases h
    rename_i hbound
    obtain⟨_,hlc,hcap⟩:=hbound
    rw [aaH] at h
    obtain⟨elems,Pt,_⟩:=h
    obtain⟨hn,hget⟩:=mapM_some Pt
    have key:∀i,i<len→∃el:List AV,el.length=P.cellsOf e∧Fits P m e el∧Cells c none0 el a.block (a.off+i*P.cellsOf e)∧(i=0→0<P.cellsOf e→a.spot=none):=by
     intro i hi
     obtain⟨y,_,hy⟩:=hget i i (by simp [hi])
     rw [aaH] at hy
     obtain⟨Yh,hcs,hy⟩:=hy
     obtain⟨hl,po⟩:=Ah hcs
     obtain⟨el,hv,hf,h1⟩:=rH zx m e fuel Yh y.1 y.2 hB hy
     refine⟨el,by rw [hv.length,hl],hf,Cells.of_vals hv (fun j hj=>?_) h1,fun h0 qi=>?_⟩
     ·have:=(po j (by omega)).1
      rwa [(oU a _).1,(oU a _).2] at this
     ·subst h0
      have:=(po 0 qi).2 rfl
      simpa [Addr.add] using this
    obtain⟨els,hl,FB⟩:=sF len key
    refine⟨[.fz els.flatten els.length false],⟨?_,trivial⟩,.inr ⟨els,rfl,by omega,fun el Pt=>?_⟩,by simp [Value.oneCell']⟩
    ·simp only [VR]
     refine⟨some a,cap,by rw [hl],by omega,by simp,.inl rfl,?_⟩
     by_cases MH:els.flatten=[]
     ·exact .inl MH
     ·have qi:0<len∧0<P.cellsOf e:=by
       cases els with
       | nil=>simp at MH
       | cons el els=>
        refine⟨by simp at hl; omega,?_⟩
        rcases Nat.eq_zero_or_pos (P.cellsOf e) with h0 | h0
        ·exfalso
         apply MH
         rw [List.flatten_eq_nil_iff]
         intro l pY
         obtain⟨i,hi⟩:=abv pY
         have:=(FB i l hi).1
         exact abt (by omega)
        ·exact h0
      have LL:a.spot=none:=by
       cases els with
       | nil=>simp at hl; omega
       | cons el els=>exact (FB 0 el rfl).2.2.2 rfl qi.2
      refine .inr ⟨a.block,a.off,?_,⟨fun id hl=>absurd hl (hnl id),fun h=>h.elim⟩,by simp,Cells.flatten els a.off fun i el hi=>⟨(FB i el hi).1,(FB i el hi).2.2.1⟩⟩
      cases a; simp at LL; subst LL; rfl
    ·obtain⟨i,hi⟩:=abv Pt
     exact⟨(FB i el hi).1,(FB i el hi).2.1⟩
   ·cases h
  ·
   rename_i fs
   simp only [aaK,beq_nat,decide_eq_true_eq,aa1] at hB
   obtain⟨⟨SM,SN⟩,Pu⟩:=hB
   simp only [DataW.trod,hu] at h
   split at h
   rotate_left
   ·cases h
   rename_i hlen
   rw [aaI] at h
   obtain⟨xs,hx,_⟩:=h
   obtain⟨ys,h1,h2,h3⟩:=sG (P:=P) (c:=c) (F:=Fits P m) (g:=fun t cs=>DataW.trod enc P c.w 0 sp held fuel t cs) (fun _ _ _ _ _ _=>trivial) fs.toList 0 cs xs SM
    (fun f hf cs x hx _=>rH zx m f.type fuel cs x.1 x.2 (Pu f hf) hx) hx (by omega)
   have mh:(cs.drop 0).take ((fs.toList.map fun f=>P.cellsOf f.type).sum)=cs:=by
    rw [abl,←SN,←hlen,ab3]
   rw [mh] at h1 h3
   exact⟨ys,h1,h2,h3⟩
def kV (P:Program)(t:TypeId)(xs:List AV):AV:=
 match P.underlying t with
 | some (.struct _)=>.agg xs
 | _=>xs.headD .any
def qD (P:Program)(m:Nat):List TypeId→List AV→Prop
 | [],[]=>True
 | t::ts,x::yv=>(∃xs,x=kV P t xs∧Fits P m t xs)∧qD P m ts yv
 | _,_=>False
theorem FC {w:World}{m:Nat}{t:TypeId}{v:Value}{base:Nat}(hB:ot P m t=true)(hs:∀fs,P.underlying t≠some (.struct fs))(h:Value.okWide P w .any base t v):v.cells.toList=[v]:=by
 cases m with
 | zero=>simp [ot] at hB
 | succ m=>
 unfold ot at hB
 unfold Value.okWide at h
 cases hu:P.underlying t with
 | none=>rw [hu] at hB; cases hB
 | some td=>
 rw [hu] at hB h
 cases td<;>simp only at hB h<;>first
  | (cases hB; done)
  | (exact absurd hu (hs _))
  | (cases v<;>simp only [Cell.okWide,Cell.ok,hu] at h<;>first | (exact h.elim) | rfl | (simp [Value.cells]))
theorem Hj (zx:∀id,c.h.get id=none){m:Nat}{t:TypeId}{v:Value}{d:DataW H}{ps:List MemPlace}{base:Nat}(hB:ot P m t=true)(ho:Value.okWide P c.w .any base t v)(h:DataW.Trod enc P c.w 0 sp held t v d ps) :
  ∃xs,Fits P m t xs∧VR c none0 (kV P t xs) v:=by
 obtain⟨fuel,h⟩:=h
 obtain⟨xs,h1,h2,_⟩:=rH zx m t fuel _ d ps hB h
 refine⟨xs,h2,?_⟩
 by_cases hs:∃fs,P.underlying t=some (.struct fs)
 ·obtain⟨fs,hs⟩:=hs
  unfold Value.okWide at ho
  rw [hs] at ho
  obtain⟨cs,rfl,_⟩:=ho
  unfold kV
  rw [hs]
  simp only [VR]
  exact⟨cs,rfl,h1⟩
 ·have LC:∀fs,P.underlying t≠some (.struct fs):=fun fs h=>hs ⟨fs,h⟩
  have hc:=FC hB LC ho
  rw [hc] at h1
  have hx:kV P t xs=xs.headD .any:=by
   unfold kV
   split
   ·rename_i fs h; exact absurd h (LC fs)
   ·rfl
  rw [hx]
  cases xs with
  | nil=>exact h1.elim
  | cons x xs=>exact h1.1
theorem Ai (zx:∀id,c.h.get id=none){m base:Nat}:∀(ts:List TypeId) (vs:List Value) (ds:List (DataW H)) (ps:List MemPlace),(∀t∈ts,ot P m t=true)→(∀(j:Nat) t v,ts[j]? = some t→vs[j]? = some v→Value.okWide P c.w .any base t v)→
  DataW.TrodAll enc P c.w 0 sp held ts vs ds ps→∃yv,qD P m ts yv∧VRs c none0 yv vs
 | [],[],[],_,_,_,_=>⟨[],trivial,trivial⟩
 | t::ts,v::vs,d::ds,ps,hB,ho,h=>by
  obtain⟨p,q,h1,h2,_⟩:=h
  obtain⟨xs,h3,h4⟩:=Hj zx (hB t (by simp)) (ho 0 t v rfl rfl) h1
  obtain⟨yv,h5,h6⟩:=Ai zx ts vs ds q (fun t ht=>hB t (by simp [ht])) (fun j t v hj hv=>ho (j+1) t v (by simpa using hj) (by simpa using hv)) h2
  exact⟨kV P t xs::yv,⟨⟨xs,rfl,h3⟩,h5⟩,h4,h6⟩
 | [],[],_::_,_,_,_,h=>h.elim
 | [],_::_,_,_,_,_,h=>by cases h
 | _::_,[],_,_,_,_,h=>by cases h
 | _::_,_::_,[],_,_,_,h=>by cases h
theorem lS (hl:laidOutB P=true){W W':World}{V6:Nat→Bool}:∀{ts:List TypeId} {vs:List Value} {ds:List (DataW H)} {ps:List MemPlace},(∀t∈ts,P.readableRec t=true∧t<P.types.size)→
  DataW.TrodAll enc P W 0 (fun _=>true) true ts vs ds ps→(∀p∈ps,W.sameAt W' p)→(∀p∈ps,V6 p.block=true)→DataW.TrodAll enc P W' 0 V6 true ts vs ds ps
 | [],[],[],_,_,h,_,_=>h
 | t::ts,v::vs,d::ds,ps,hr,h,hs,hp=>by
  obtain⟨p,q,h1,h2,rfl⟩:=h
  exact⟨p,q,WideElems.Trod_stays hl (hr t (by simp)).1 (hr t (by simp)).2 h1 (fun x hx=>hs x (by simp [hx])) (fun x hx=>hp x (by simp [hx])),
   lS hl (fun t ht=>hr t (by simp [ht])) h2 (fun x hx=>hs x (by simp [hx])) (fun x hx=>hp x (by simp [hx])),rfl⟩
 | [],[],_::_,_,_,h,_,_=>h.elim
 | [],_::_,_,_,_,h,_,_=>by cases h
 | _::_,[],_,_,_,h,_,_=>by cases h
 | _::_,_::_,[],_,_,h,_,_=>by cases h
theorem FD {f:Func}{s:ChangeSpec}{apart fresh handsOn again:Bool}{W W':World}{args:Array Value}{ds gs:List (DataW H)}{before:List MemPlace}{tb:TypeId}
  (hl:laidOutB P=true) (hr:∀t∈f.params.toList,P.readableRec t=true∧t<P.types.size) (hW:DataW.Whole enc P f.params.toList s.vars apart W args.toList ds gs before) (hv:s.vars=[])
  (Hk:f.resultTypes = #[tb]) (RG:P.underlying tb=some .bool) (Pv:(s.fn H (ds++gs))={results:=[.lit (.bool true)],args:=ds}) (hb:RowKit.Below W.heap.size W W') :
  s.post enc P f apart fresh handsOn again W args (.bool true) W':=by
 have hlt:=hW.lt
 have hW0:=hW
 obtain⟨p,q,hA,hV,V7,hz,hn⟩:=hW
 rw [hv] at hV
 have SO:gs=[]∧q=[]:=by
  cases gs with
  | nil=>exact⟨rfl,hV⟩
  | cons g gs=>exact hV.elim
 obtain⟨rfl,rfl⟩:=SO
 have SP:before=p:=by simpa using V7
 subst SP
 have Aj:∀x∈before,W.sameAt W' x:=fun x hx=>hb.same (hlt x hx)
 have Pw:(Value.bool true).resultList f.resultTypes.size=[.bool true]:=by rw [Hk]; rfl
 have LM:∀(b:Nat) (sp:Nat→Bool) (hd:Bool),DataW.TrodAll enc P W' b sp hd f.resultTypes.toList ((Value.bool true).resultList f.resultTypes.size) [.lit (.bool true)] []:=by
  intro b sp hd
  rw [Pw,Hk]
  exact ChangeShapes.trodAll_mk1 (RowKit.shut_bool RG true)
 refine⟨ds,[],before,[],before,[],hW0,?_,?_,?_,?_,fun _=>⟨?_,?_⟩⟩
 ·rw [Pv]; exact LM _ _ _
 ·rw [Pv]
  exact lS hl hr hA Aj (fun x hx=>by simpa using hlt x hx)
 ·rw [Pv,hv]; rfl
 ·exact hb.frame _
 ·exact RowKit.ok_one Hk rfl (RowKit.okWide_bool_mk RG true)
 ·refine⟨_,[],before,⟨[]++before,[],ChangeShapes.trodAll_append (lS hl hr hA Aj (fun _ _=>rfl)) (LM 0 _ _),by rw [hv]; rfl,by simp,fun b off hx=>?_,hn⟩,fun p hp _=>hp⟩
  rw [hb.frozen (p:=⟨b,off,none⟩) (hlt _ hx)]
  exact hz b off hx
theorem Ext.below {c c':Cx}(e:Ext c none0 c' none0):RowKit.Below c.base c.w c'.w:=⟨e.os,e.tape,e.output,e.size,fun b hb=>e.exact b hb⟩
theorem wF {cf:CallF}{Ch:FuncId}{f:Func}{s:ChangeSpec}{apart fresh handsOn again:Bool}{m:Nat}{tb:TypeId}
  (hl:laidOutB P=true) (hr:∀t∈f.params.toList,P.readableRec t=true∧t<P.types.size) (hB:∀t∈f.params.toList,ot P m t=true) (hv:s.vars=[]) (Hk:f.resultTypes = #[tb]) (RG:P.underlying tb=some .bool)
  (Pv:∀ds:List (DataW H),ds.length=f.params.size→(s.fn H ds)={results:=[.lit (.bool true)],args:=ds})
  (hcf:∀yv,qD P m f.params.toList yv→∃cf h',CallOK P cf∧cf Ch yv bo=some (.bool true,h'))
  {W:World} {base:Nat} {args:Array Value} {ds gs:List (DataW H)} {before:List MemPlace} (eh:∀(j:Nat) t v,f.params[j]? = some t→args[j]? = some v→Value.okWide P W .any base t v)
  (hW:DataW.Whole enc P f.params.toList s.vars apart W args.toList ds gs before) :
  Calls P Ch args W fun e W'=>∃v,e = .returned v∧s.post enc P f apart fresh handsOn again W args v W':=by
 have hW0:=hW
 obtain⟨p,q,hA,hV,V7,_,_⟩:=hW
 let c:Cx:=⟨fun _=>(0,0),bo,W,W.heap.size⟩
 obtain⟨yv,h1,h2⟩:=Ai (c:=c) (P:=P) (m:=m) (base:=base) (fun _=>rfl) f.params.toList args.toList ds p hB (fun j t v hj hv=>eh j t v (by simpa using hj) (by simpa using hv)) hA
 obtain⟨cf,h',p4,SQ⟩:=hcf yv h1
 have hnl:∀id,¬Live c.h id:=fun id hl=>by have:=hl.2; cases this
 have hcall:=(p4 Ch yv bo _ _ SQ).2 none0 c args.toList rfl (aaN _) ⟨fun id o ho=>(by cases ho),fun id o ho=>(by cases ho),fun id _ hl _ _=>absurd hl (hnl id),fun id hl=>absurd hl (hnl id),fun b hb=>hb.elim,fun id hl=>absurd hl (hnl id),fun _=>ab9⟩ h2
 rw [Array.toArray_toList] at hcall
 have hlen:∀(ts:List TypeId) (vs:List Value) (ds:List (DataW H)) (p:List MemPlace),DataW.TrodAll enc P W 0 (fun _=>true) true ts vs ds p→ds.length=ts.length:=by
  intro ts
  induction ts with
  | nil=>intro vs ds p h; cases vs<;>cases ds<;>first | rfl | (cases h; done) | exact h.elim
  | cons t ts ih=>intro vs ds p h; cases vs<;>cases ds<;>first | (cases h; done) | (obtain⟨_,_,_,h2,_⟩:=h; simp [ih _ _ _ h2])
 have SO:gs=[]:=by
  rw [hv] at hV
  cases gs with
  | nil=>rfl
  | cons g gs=>exact hV.elim
 refine hcall.mono ?_
 rintro e w' ⟨c',v,rfl,rfl,hh,Dr,hrel,Mr⟩
 simp only [VR] at Dr
 subst Dr
 refine⟨_,rfl,FD hl hr hW0 hv Hk RG ?_ Mr.below⟩
 rw [SO,abU]
 exact Pv ds (by rw [hlen _ _ _ _ hA]; simp)
end
end Go.R
namespace Go.R
open Go
section
variable {P:Program}{cf:CallF}{aH ds:List Nat}{s:RS}{d:Option Tmp}{t:TypeId}{p:String}{a:Array Edge}{g:Option (Nat × Bool)}{ops:List Oper}{ρ:Nat→AV}{bx:Nat→Option (List AV)}{h:AHeap}
variable {A:bR}{m:Nat}{st:St}
end
end Go.R
namespace Go.R
open Go
def sub:List Nat→Code→Code
 | [],c=>c
 | 0::p,.seq a _=>sub p a
 | _::p,.seq _ b=>sub p b
 | 0::p,.cond _ a _=>sub p a
 | _::p,.cond _ _ b=>sub p b
 | _::p,.block _ a=>sub p a
 | _::p,.loop a=>sub p a
 | _,c=>c
def bN (f:Func):Code:=f.body.getD .skip
end Go.R
namespace Go.R
open Go
section
variable (P:Program)
def bw (h:AHeap)(t:TypeId)(x:AV):Option AV:=kL P (fun _=>none) h t x
def jF (h:AHeap)(t:TypeId)(a x:AV):Option AHeap:=
 match a with
 | .ptr id off=>(h.get id).bind fun | .cells cs=>(iB P t cs off x).map fun fQ=>h.put id (.cells fQ) | _=>none
 | _=>none
def DM (cf:CallF)(f:AV)(as:List AV)(h:AHeap):Option (AV × AHeap):=
 match f with
 | .fn f cap=>if as.all AV.lu then cf f (as++cap) h else none
 | _=>none
def Ak (h:AHeap)(cs:List AV):Option (AV × AHeap):=if cs.all AV.bY then some (.ptr h.next 0,h.alloc (.cells cs)) else none
def FE (aH:List Nat)(d:Option Nat):Bool:=match d with | some d=>!aH.contains d | none=>false
def Hl (aH:List Nat)(h:AHeap)(o:Oper)(t:TypeId)(x:Option AV):Option (AV × AHeap):=
 x.bind fun x=>(pE P aH o t x).map fun (cs,n,z)=>(.rs h.next 0 n z,h.alloc (.cells cs))
def MI (e:Operand→AV)(h:AHeap)(o:Oper)(z:AV):Prop:=
 match o.op with
 | .move x | .assign x=>e x=z
 | .load t a=>bw P h t (e a)=some z
 | .binOp op t x y _=>nW P op t (e x) (e y)=some z
 | .unOp op _ x=>((e x).gT.bind fun a=>(jl P (Op.unary op a)).bind p7)=some z
 | .convert a b x=>nV P h a b (e x)=some z
 | .slice t x lo hi mx=>mI P t (e x) (lo.map e) (hi.map e) (mx.map e)=some z
 | .indexAddr t x i=>fD P t (e x) (e i)=some z
 | .index t x i=>rq P t (e x) (e i)=some z
 | .lookup t m k ok=>eZ P h t (e m) (e k) ok=some z
 | .call {callee:=.builtin .len,args,argTypes}=>match argTypes.toList,args.toList.map e with
  | [t],[x]=>ub P h t x=some z
  | _,_=>False
 | _=>False
def MJ (cf:CallF)(aH:List Nat)(e:Operand→AV)(h:AHeap)(o:Oper)(z:AV)(h':AHeap):Prop:=
 match o.op with
 | .store t a x=>bif o.dst.isSome then False else jF P h t (e a) (e x)=some h'
 | .alloc t=>bif FE aH o.dst then (jc P t).bind (fun z=>Ak h (BZ aH o.dst z.cells))=some (z,h') else False
 | .box _ x=>bif FE aH o.dst then Ak h (e x).cells=some (z,h') else False
 | .buildSlice t n ps=>Hl P aH h o t (ig P t n (ps.toList.map fun (i,x)=>(i,e x)))=some (z,h')
 | .makeMap _ none=>(AV.mp h.next,h.alloc (.map []))=(z,h')
 | .makeSlice t l c=>ij P h t (e l) (e c)=some (z,h')
 | .mapUpdate t m k x | .insert t m k x=>bif o.dst.isSome then False else iC P h t (e m) (e k) (e x)=some h'
 | .call {callee:=.builtin .append,args,argTypes}=>match argTypes.toList,args.toList.map e with
  | [t,t2],[x,y]=>dN P h t t2 x y=some (z,h')
  | _,_=>False
 | .call {callee:=.builtin .copy,args,argTypes}=>match argTypes.toList,args.toList.map e with
  | [t,t2],[x,y]=>si P h t t2 x y=some (z,h')
  | _,_=>False
 | .call {callee:=.value f,args,..}=>bif ON aH o.dst then (DM cf (e f) (args.toList.map e) h).bind (fun x=>jR 0 x.2 x.1)=some (z,h') else DM cf (e f) (args.toList.map e) h=some (z,h')
 | .call {callee:=.builtin .clear,args,argTypes}=>match argTypes.toList,args.toList.map e with
  | [t],[x]=>(mK P h t x).map (fun h=>(AV.tup [],h))=some (z,h')
  | _,_=>False
 | _=>False
end
abbrev JK:=List (Nat × AV × Option AHeap)
def s7 (P:Program)(cf:CallF)(aH:List Nat)(ops:List Oper):RS→Nat→List Oper→JK→Option (List nz × RS × Prop)
 | s,_,[],[]=>some ([],s,True)
 | _,_,[],_::_=>none
 | s,i,o::os,zs=>
  (iD ops s.ρ o).bind fun w=>
   bif w then
    match zs with
    | []=>(xT P cf aH (ops.filterMap (·.dst)) s o).bind fun s1=>(s7 P cf aH ops s1 (i+1) os []).map fun (l,r,p)=>({o,f:=bm aH (bQ s.ρ) o,s,s':=s1}::l,r,p)
    | (j,z,oh)::xb=>
     bif abq i j then
      match oh with
      | none=>(s7 P cf aH ops (s.set o.dst z) (i+1) os xb).map fun (l,r,p)=>({o,f:=bm aH (bQ s.ρ) o,s,s':=s.set o.dst z}::l,r,MI P (bQ s.ρ) s.h o z∧p)
      | some h'=>(s7 P cf aH ops (({s with h:=h'}:RS).set o.dst z) (i+1) os xb).map fun (l,r,p)=>({o,f:=bm aH (bQ s.ρ) o,s,s':=({s with h:=h'}:RS).set o.dst z}::l,r,MJ P cf aH (bQ s.ρ) s.h o z h'∧p)
     else (xT P cf aH (ops.filterMap (·.dst)) s o).bind fun s1=>(s7 P cf aH ops s1 (i+1) os zs).map fun (l,r,p)=>({o,f:=bm aH (bQ s.ρ) o,s,s':=s1}::l,r,p)
   else (s7 P cf aH ops (s.set o.dst (.tup [])) (i+1) os zs).map fun (l,r,p)=>({o,f:={},s,s':=s.set o.dst (.tup [])}::l,r,p)
section
variable {P:Program}{cf:CallF}{aH:List Nat}
theorem Hm {h:AHeap}{t:TypeId}{x z:AV}{bx:Nat→Option (List AV)}(hh:bw P h t x=some z):kL P bx h t x=some z:=by
 cases x<;>first | exact hh | (simp [bw,kL] at hh)
theorem Kf {s:RS}{o:Oper}{z:AV}(h:MI P (bQ s.ρ) s.h o z)(ds:List Nat):xT P cf aH ds s o=some (s.set o.dst z):=by
 unfold MI at h
 unfold xT B0
 dsimp only
 split at h
 ·rename_i ho; rw [ho]; simp only [h]
 ·rename_i ho; rw [ho]; simp only [h]
 ·rename_i ho; rw [ho]; simp only [Hm h,aaO]
 ·rename_i ho; rw [ho]; simp only [h,aaO]
 ·rename_i ho; rw [ho]; simp only [h,aaO]
 ·rename_i ho; rw [ho]; simp only [h,aaO]
 ·rename_i ho; rw [ho]; simp only [h,aaO]
 ·rename_i ho; rw [ho]; simp only [h,aaO]
 ·rename_i ho; rw [ho]; simp only [h,aaO]
 ·rename_i ho; rw [ho]; simp only [h,aaO]
 ·rename_i ho
  rw [ho]
  split at h
  ·rename_i h1 h2
   simp only [h1,h2,gD,h,aaO]
  ·exact h.elim
 ·exact h.elim
theorem Al {s:RS}{o:Oper}{cs:List AV}{z:AV}{h':AHeap}(hn:FE aH o.dst=true)(h:Ak s.h cs=some (z,h'))(ds:List Nat):iZ s aH ds o cs=some (({s with h:=h'}:RS).set o.dst z):=by
 unfold Ak at h
 split at h
 rotate_left
 ·cases h
 rename_i p4
 simp only [aaJ,aaQ] at h
 obtain⟨rfl,rfl⟩:=h
 unfold iZ
 rw [if_pos p4]
 unfold FE at hn
 split at hn
 ·rename_i d hd
  rw [hd]
  have:aH.contains d=false:=by simpa using hn
  simp only [this,aaU,if_false]
 ·cases hn
theorem Kg {s:RS}{o:Oper}{z:AV}{h':AHeap}(h:MJ P cf aH (bQ s.ρ) s.h o z h')(ds:List Nat):xT P cf aH ds s o=some (({s with h:=h'}:RS).set o.dst z):=by
 unfold MJ at h
 unfold xT B0
 dsimp only
 split at h
 ·rename_i t a x ho
  rw [ho]
  cases hd:o.dst with
  | some d=>rw [hd] at h; exact h.elim
  | none=>
   rw [hd] at h
   simp only [ab6,cond_false] at h
   simp only [ab6,aaU,if_false]
   unfold jF at h
   split at h
   ·rename_i id off he
    rw [he]
    simp only [aaH] at h ⊢
    obtain⟨ob,hob,h⟩:=h
    refine⟨ob,hob,?_⟩
    split at h
    ·rw [aaI] at h ⊢
     obtain⟨fQ,hcs,rfl⟩:=h
     exact⟨fQ,hcs,rfl⟩
    ·cases h
   ·cases h
 ·rename_i t ho
  rw [ho]
  cases hn:FE aH o.dst with
  | false=>rw [hn] at h; exact h.elim
  | true=>
   rw [hn] at h
   simp only [cond_true,aaH] at h
   obtain⟨z0,h1,h2⟩:=h
   simp only [h1,aaG]
   exact Al hn h2 ds
 ·rename_i t x ho
  rw [ho]
  cases hn:FE aH o.dst with
  | false=>rw [hn] at h; exact h.elim
  | true=>
   rw [hn] at h
   exact Al hn h ds
 ·rename_i t n ps ho
  rw [ho]
  unfold Hl at h
  simp only [aaH,aaI] at h
  obtain⟨x,hx,⟨cs,k,q⟩,ht,he⟩:=h
  simp only [aaQ] at he
  obtain⟨rfl,rfl⟩:=he
  simp only [hx,aaO,ru,ht]
 ·rename_i ho
  rw [ho]
  simp only [aaQ] at h
  obtain⟨rfl,rfl⟩:=h
  rfl
 ·rename_i ho; rw [ho]; simp only [h,aaO]
 ·rename_i t m k x ho
  rw [ho]
  cases hd:o.dst with
  | some d=>rw [hd] at h; exact h.elim
  | none=>
   rw [hd] at h
   simp only [ab6,cond_false] at h
   simp only [ab6,aaU,if_false,h,aaO]
   rfl
 ·rename_i t m k x ho
  rw [ho]
  cases hd:o.dst with
  | some d=>rw [hd] at h; exact h.elim
  | none=>
   rw [hd] at h
   simp only [ab6,cond_false] at h
   simp only [ab6,aaU,if_false,h,aaO]
   rfl
 ·rename_i ho
  rw [ho]
  split at h
  ·rename_i h1 h2
   simp only [h1,h2,gD,h,aaO]
  ·exact h.elim
 ·rename_i ho
  rw [ho]
  split at h
  ·rename_i h1 h2
   simp only [h1,h2,gD,h,aaO]
  ·exact h.elim
 ·rename_i f args DG ho
  rw [ho]
  have key:∀{x:AV × AHeap},DM cf (bQ s.ρ f) (args.toList.map (bQ s.ρ)) s.h=some x→xS aH o.dst x=some (z,h')→
    (match bQ s.ρ f with
     | .fn f cap=>if (args.toList.map (bQ s.ρ)).all AV.lu then ((cf f (args.toList.map (bQ s.ρ)++cap) s.h).bind (xS aH o.dst)).map fun (r,h)=>({s with h}:RS).set o.dst r else none
     | _=>none)=some (({s with h:=h'}:RS).set o.dst z):=by
   intro x hx hm
   unfold DM at hx
   split at hx
   ·rename_i g cap he
    try rw [he]
    try dsimp only
    split at hx
    ·rename_i p4
     simp only [p4,if_true,hx,aaG,hm,aaO]
    ·cases hx
   ·cases hx
  cases hm:ON aH o.dst with
  | false=>
   rw [hm,cond_false] at h
   exact key h (by unfold xS; rw [hm]; rfl)
  | true=>
   rw [hm,cond_true,aaH] at h
   obtain⟨x,h1,h2⟩:=h
   exact key h1 (by unfold xS; rw [hm,cond_true]; exact h2)
 ·rename_i ho
  rw [ho]
  split at h
  ·rename_i h1 h2
   rw [aaI] at h
   obtain⟨g,hg,he⟩:=h
   simp only [aaQ] at he
   obtain⟨rfl,rfl⟩:=he
   simp only [h1,h2,gD,hg,aaO]
  ·exact h.elim
 ·exact h.elim
theorem yw {ops:List Oper}:∀{l:List Oper} {s r:RS} {i:Nat} {zs:JK} {es:List nz} {p:Prop},s7 P cf aH ops s i l zs=some (es,r,p)→p→p9 P cf aH ops s l=some (es,r)∧sV P cf aH ops s l=some r
 | [],s,r,i,[],es,p,h,_=>by
  simp only [s7,aaJ,aaQ] at h
  obtain⟨rfl,rfl,rfl⟩:=h
  exact⟨rfl,rfl⟩
 | [],s,r,i,_::_,es,p,h,_=>by simp [s7] at h
 | o::os,s,r,i,zs,es,p,h,hp=>by
  simp only [s7,aaH] at h
  obtain⟨w,hw,h⟩:=h
  have fin:∀(s1:RS) (l:List nz) (xb:JK) (q:Prop),(if w then xT P cf aH (ops.filterMap (·.dst)) s o else some (s.set o.dst (.tup [])))=some s1→s7 P cf aH ops s1 (i+1) os xb=some (l,r,q)→q→
    p9 P cf aH ops s (o::os)=some ({o,f:=if w then bm aH (bQ s.ρ) o else {},s,s':=s1}::l,r)∧sV P cf aH ops s (o::os)=some r:=by
   intro s1 l xb q h1 h2 hq
   obtain⟨h3,h4⟩:=yw h2 hq
   refine⟨?_,?_⟩
   ·simp only [p9,hw,aaG,h1,h3,aaO]
   ·simp only [sV,nX,hw,aaG,h1,h4]
  cases w with
  | false=>
   simp only [cond_false,aaI] at h
   obtain⟨⟨l,r',q⟩,h2,he⟩:=h
   simp only [aaQ] at he
   obtain⟨rfl,rfl,rfl⟩:=he
   simpa using fin _ l zs q (by simp) h2 hp
  | true=>
   simp only [cond_true] at h
   split at h
   ·simp only [aaH,aaI] at h
    obtain⟨s1,h1,⟨l,r',q⟩,h2,he⟩:=h
    simp only [aaQ] at he
    obtain⟨rfl,rfl,rfl⟩:=he
    simpa using fin _ l [] q (by simpa using h1) h2 hp
   ·rename_i j z oh xb
    cases hj:abq i j with
    | false=>
     rw [hj] at h
     simp only [cond_false,aaH,aaI] at h
     obtain⟨s1,h1,⟨l,r',q⟩,h2,he⟩:=h
     simp only [aaQ] at he
     obtain⟨rfl,rfl,rfl⟩:=he
     simpa using fin _ l _ q (by simpa using h1) h2 hp
    | true=>
     rw [hj] at h
     simp only [cond_true] at h
     split at h
     ·simp only [aaI] at h
      obtain⟨⟨l,r',q⟩,h2,he⟩:=h
      simp only [aaQ] at he
      obtain⟨rfl,rfl,rfl⟩:=he
      simpa using fin _ l _ q (by simpa using Kf hp.1 _) h2 hp.2
     ·simp only [aaI] at h
      obtain⟨⟨l,r',q⟩,h2,he⟩:=h
      simp only [aaQ] at he
      obtain⟨rfl,rfl,rfl⟩:=he
      simpa using fin _ l _ q (by simpa using Kg hp.1 _) h2 hp.2
end
def s8 (s:RS):List (Nat × Option Nat × Nat)→List (AV × AHeap)→Option (RS × Prop)
 | [],_=>some (s,True)
 | (t,i,k)::ps,zs=>
  match i with
  | none=>
   match k,s.ρ t,zs with
   | 0,.rs id off n z,(y,h')::xb=>(s8 {s with h:=h',ρ:=fun u=>bif abq u t then y else s.ρ u} ps xb).map fun (r,p)=>(r,jR 0 s.h (.rs id off n z)=some (y,h')∧p)
   | k,x,zs=>(jR k s.h x).bind fun (y,h')=>s8 {s with h:=h',ρ:=fun u=>bif abq u t then y else s.ρ u} ps zs
  | some i=>
   match s.bx t with
   | some cs=>(cs[i]?).bind fun x=>
    match k,x,zs with
    | 0,.rs id off n z,(y,h')::xb=>(s8 {s with h:=h',bx:=fun u=>bif abq u t then some (cs.set i y) else s.bx u} ps xb).map fun (r,p)=>(r,jR 0 s.h (.rs id off n z)=some (y,h')∧p)
    | k,x,zs=>(jR k s.h x).bind fun (y,h')=>s8 {s with h:=h',bx:=fun u=>bif abq u t then some (cs.set i y) else s.bx u} ps zs
   | none=>none
theorem tM:∀{ps:List (Nat × Option Nat × Nat)} {s r:RS} {zs:List (AV × AHeap)} {p:Prop},s8 s ps zs=some (r,p)→p→l8 s ps=some r
 | [],s,r,zs,p,h,_=>by
  simp only [s8,aaJ,aaQ] at h
  obtain⟨rfl,rfl⟩:=h
  rfl
 | (t,i,k)::ps,s,r,zs,p,h,hp=>by
  cases i with
  | none=>
   have fin:∀(y:AV) (h':AHeap) (xb:List (AV × AHeap)) (q:Prop),jR k s.h (s.ρ t)=some (y,h')→s8 {s with h:=h',ρ:=fun u=>bif abq u t then y else s.ρ u} ps xb=some (r,q)→q→l8 s ((t,none,k)::ps)=some r:=by
    intro y h' xb q h1 h2 hq
    simp only [l8,xW,h1,aaO,aaG]
    exact tM h2 hq
   simp only [s8] at h
   split at h
   ·rename_i id off n z y h' xb hx
    rw [aaI] at h
    obtain⟨⟨r',q⟩,h2,he⟩:=h
    simp only [aaQ] at he
    obtain⟨rfl,rfl⟩:=he
    exact fin y h' xb q (by rw [hx]; exact hp.1) h2 hp.2
   ·rw [aaH] at h
    obtain⟨⟨y,h'⟩,h1,h2⟩:=h
    exact fin y h' _ p h1 h2 hp
  | some i=>
   simp only [s8] at h
   split at h
   rotate_left
   ·cases h
   rename_i cs hcs
   rw [aaH] at h
   obtain⟨x,hx,h⟩:=h
   have fin:∀(y:AV) (h':AHeap) (xb:List (AV × AHeap)) (q:Prop),jR k s.h x=some (y,h')→s8 {s with h:=h',bx:=fun u=>bif abq u t then some (cs.set i y) else s.bx u} ps xb=some (r,q)→q→l8 s ((t,some i,k)::ps)=some r:=by
    intro y h' xb q h1 h2 hq
    simp only [l8,xW,hcs,hx,aaG,h1,aaO]
    exact tM h2 hq
   split at h
   ·rename_i id off n z y h' xb
    rw [aaI] at h
    obtain⟨⟨r',q⟩,h2,he⟩:=h
    simp only [aaQ] at he
    obtain⟨rfl,rfl⟩:=he
    exact fin y h' xb q hp.1 h2 hp.2
   ·rw [aaH] at h
    obtain⟨⟨y,h'⟩,h1,h2⟩:=h
    exact fin y h' _ p h1 h2 hp
def nz.tN (x y:nz):Bool:=
 (match x.f.wb with
  | some k=>!y.f.rb.contains k&&y.f.wb != some k
  | none=>true) &&
 (!x.f.wh||(!y.f.wh&&y.f.rh.isEmpty))
def Hn (ops:List Oper)(arr:Array Oper)(s:RS)(es:List nz):Bool:=
 let ms:=kc [] ops
 oO arr ms &&
  (let is:=es.zipIdx
   let xV:=is.filter fun (x,_)=>!x.f.quiet
   xV.all (fun (x,i)=>tI ms (ops.filterMap (·.dst)) s is x i&&xV.all fun (y,j)=>ab7 j i||(ms.getD j 0).testBit i||(x.tN y&&y.tN x)))
theorem uJ {x y:nz}(h:x.tN y=true):x.j6 y=true:=by
 unfold nz.tN at h
 unfold nz.j6
 simp only [aaK,abw] at h ⊢
 refine⟨h.1,h.2.imp id fun ⟨h1,h2⟩=>⟨h1,?_⟩⟩
 rw [List.isEmpty_iff] at h2
 rw [h2]; rfl
theorem Kh {P:Program}{cf:CallF}{aH:List Nat}{ops:Array Oper}{s r:RS}{es:List nz}(h:Hn ops.toList ops s es=true)(hr:p9 P cf aH ops.toList s ops.toList=some (es,r)):kM P cf aH ops s=some r:=by
 unfold Hn at h
 simp only [aaK] at h
 obtain⟨h1,h2⟩:=h
 unfold kM
 simp only [h1,if_true,hr,aaG]
 rw [if_pos]
 rw [aa1] at h2 ⊢
 intro x hx
 have:=h2 x hx
 simp only [aaK] at this ⊢
 refine⟨this.1,?_⟩
 have h3:=this.2
 rw [aa1] at h3 ⊢
 intro y hy
 have:=h3 y hy
 simp only [abw,aaK] at this ⊢
 exact this.imp id fun h=>⟨uJ h.1,uJ h.2⟩
def ou (P:Program)(cf:CallF)(A:bR)(c:Code)(fs:List (AV × AHeap))(zs:JK)(st:St):Option (Prop × St):=
 match c with
 | .region id ops draw=>(s8 (st.open A) (gH id A.JT) fs).bind fun (s0,p0)=>(s7 P cf A.aH ops.toList s0 0 ops.toList zs).bind fun (es,r,p)=>
   bif draw && !(Hn ops.toList ops s0 es) then none else (l8 r (gH id A.B3)).map fun r2=>(p0∧p,r2.nY A id)
 | _=>none
theorem Ho {P:Program}{cf:CallF}{A:bR}{m:Nat}{c:Code}{fs:List (AV × AHeap)}{zs:JK}{st jT:St}{p:Prop}(h:ou P cf A c fs zs st=some (p,jT))(hp:p):bM P cf A m c st=some (.norm,jT):=by
 unfold ou at h
 split at h
 rotate_left
 ·cases h
 rename_i id ops draw
 simp only [aaH] at h
 obtain⟨⟨s0,p0⟩,h0,⟨es,r,q⟩,h1,h⟩:=h
 have hd:∃r2,(draw=true→Hn ops.toList ops s0 es=true)∧l8 r (gH id A.B3)=some r2∧p=(p0∧q)∧jT=r2.nY A id:=by
  cases hc:(draw && !(Hn ops.toList ops s0 es)) with
  | true=>simp only [hc,cond_true] at h; cases h
  | false=>
   simp only [hc,cond_false,aaI,aaQ] at h
   obtain⟨r2,h2,h3,h4⟩:=h
   refine⟨r2,fun Fu=>?_,h2,h3.symm,h4.symm⟩
   simpa [Fu] using hc
 obtain⟨r2,Fu,h2,rfl,rfl⟩:=hd
 obtain⟨g1,g2⟩:=yw h1 hp.2
 have g0:=tM h0 hp.1
 simp only [bM,g0,aaG]
 cases draw with
 | false=>simp only [aaU,if_false,g2,aaG,h2,aaO]
 | true=>simp only [if_true,Kh (Fu rfl) g1,aaG,h2,aaO]
end Go.R
namespace Go.R
open Go
def cZ (P:Program)(cf:CallF)(A:bR)(m:Nat)(c:Code)(s:St)(Q:Ex→St→Prop):Prop:=∃e s',bM P cf A m c s=some (e,s')∧Q e s'
def MK (R:St→Prop)(Q:Ex→St→Prop):Ex→St→Prop
 | .norm,s=>R s
 | .exit i,s=>Q (.exit i) s
 | .ret,s=>Q .ret s
def SS (id:Nat)(Q:Ex→St→Prop):Ex→St→Prop
 | .norm,s=>Q .norm s
 | .exit i,s=>bif abq i id then Q .norm s else Q (.exit i) s
 | .ret,s=>Q .ret s
section
variable {P:Program}{cf:CallF}{A:bR}{m:Nat}{s:St}{Q:Ex→St→Prop}
theorem Am {a b:Code}(h:cZ P cf A m a s (MK (fun s'=>cZ P cf A m b s' Q) Q)):cZ P cf A m (.seq a b) s Q:=by
 obtain⟨e,s',h1,h2⟩:=h
 cases e with
 | norm=>
  obtain⟨e2,s2,h3,h4⟩:=h2
  exact⟨e2,s2,by simp only [bM,h1,aaG,h3],h4⟩
 | exit i=>exact⟨_,s',by simp only [bM,h1,aaG],h2⟩
 | ret=>exact⟨_,s',by simp only [bM,h1,aaG],h2⟩
theorem Cr {id:Nat}{a:Code}(h:cZ P cf A m a s (SS id Q)):cZ P cf A m (.block id a) s Q:=by
 obtain⟨e,s',h1,h2⟩:=h
 cases e with
 | norm=>exact⟨_,s',by simp only [bM,h1,aaO],h2⟩
 | exit i=>
  simp only [SS,beq_nat] at h2
  by_cases hi:i=id
  ·simp only [hi,decide_true,cond_true] at h2
   exact⟨_,s',by simp only [bM,h1,aaO,hi,if_true],h2⟩
  ·simp only [hi,decide_false,cond_false] at h2
   exact⟨_,s',by simp only [bM,h1,aaO,hi,if_false],h2⟩
 | ret=>exact⟨_,s',by simp only [bM,h1,aaO],h2⟩
theorem An {c:Code}{fs:List (AV × AHeap)}{zs:JK}{jT:St}{p:Prop}(h:ou P cf A c fs zs s=some (p,jT))(hp:p)(hQ:Q .norm jT):cZ P cf A m c s Q:=
 ⟨_,_,Ho h hp,hQ⟩
theorem FF (h:Q .norm s):cZ P cf A m .skip s Q:=⟨_,_,rfl,h⟩
theorem Hp (h:Q .ret s):cZ P cf A m .ret s Q:=⟨_,_,rfl,h⟩
theorem FG {i:Nat}(h:Q (.exit i) s):cZ P cf A m (.exit i) s Q:=⟨_,_,rfl,h⟩
theorem rI {k:Operand}{x y:Code}(b:Bool)(hk:bQ (s.open A).ρ k = .bool b)(ht:b=true→cZ P cf A m x s Q)(hf:b=false→cZ P cf A m y s Q):cZ P cf A m (.cond k x y) s Q:=by
 cases b with
 | true=>
  obtain⟨e,s',h1,h2⟩:=ht rfl
  exact⟨e,s',by simp only [bM,hk,ud,aaG,if_true,h1],h2⟩
 | false=>
  obtain⟨e,s',h1,h2⟩:=hf rfl
  exact⟨e,s',by simp only [bM,hk,ud,aaG,aaU,if_false,h1],h2⟩
def Hq {S O:Type}(l:Nat→S→Option O)(Rel:S→St→Prop)(QO:O→Ex→St→Prop)(k:Nat)(out:O):Ex→St→Prop
 | .norm,s=>∃σ,Rel σ s∧l k σ=some out
 | .exit i,s=>QO out (.exit i) s
 | .ret,s=>QO out .ret s
theorem uK {S O:Type}{l:Nat→S→Option O}{Rel:S→St→Prop}{QO:O→Ex→St→Prop}{body:Code}(h0:∀σ,l 0 σ=none)
  (step:∀k σ s out,Rel σ s→l (k+1) σ=some out→cZ P cf A m body s (Hq l Rel QO k out)):∀(n:Nat) (σ:S) (s:St) (out:O),Rel σ s→l n σ=some out→∃e s',l9 (bM P cf A m body) n s=some (e,s')∧e≠.norm∧QO out e s'
 | 0,σ,s,out,_,h=>by rw [h0] at h; cases h
 | n+1,σ,s,out,hr,h=>by
  obtain⟨e,s',h1,h2⟩:=step n σ s out hr h
  cases e with
  | norm=>
   obtain⟨σ',h3,h4⟩:=h2
   obtain⟨e',Yi,h5,h6⟩:=uK h0 step n σ' s' out h3 h4
   exact⟨e',Yi,by simp only [l9,h1,aaG,h5],h6⟩
  | exit i=>exact⟨_,s',by simp only [l9,h1,aaG],by simp,h2⟩
  | ret=>exact⟨_,s',by simp only [l9,h1,aaG],by simp,h2⟩
theorem FH {S O:Type}(l:Nat→S→Option O)(Rel:S→St→Prop)(QO:O→Ex→St→Prop){body:Code}(h0:∀σ,l 0 σ=none)
  (step:∀k σ s out,Rel σ s→l (k+1) σ=some out→cZ P cf A m body s (Hq l Rel QO k out)) {σ:S} {out:O} (hr:Rel σ s) (h:l m σ=some out) (hQ:∀e s',e≠.norm→QO out e s'→Q e s'):cZ P cf A m (.loop body) s Q:=by
 obtain⟨e,s',h1,h2,h3⟩:=uK h0 step m σ s out hr h
 exact⟨e,s',by simp only [bM,h1],hQ e s' h2 h3⟩
theorem yx {aS:FuncId→bR}{f:FuncId}{fn:Func}{args:List AV}{h:AHeap}{R:AV→AHeap→Prop}(hf:P.funcs[f]? = some fn)(hb:fn.body=some (bN fn))(hn:ab7 args.length fn.ntmps=true)
  (he:cZ P cf (aS f) m (bN fn) ⟨nZ (aS f).keep args,(aS f).aH.map fun _=>none,h⟩ (fun e s=>(e = .ret∨e = .norm)∧∃r,aE P (s.open (aS f)) fn.results.toList=some r∧R r s.h)) :
  ∃r h',a6 P aS cf m f args h=some (r,h')∧R r h':=by
 obtain⟨e,s,h1,h2,r,h3,h4⟩:=he
 refine⟨r,s.h,?_,h4⟩
 unfold a6
 rw [hf,aaG,hb,aaG,if_pos (Nat.le_of_ble_eq_true hn),h1,aaG]
 rcases h2 with rfl | rfl<;>simp only [h3,aaO]
end
end Go.R
namespace Go.R
open Go
structure bL (α:Type) where
 n:Nat
 f:α→List AV
 len:∀a,(f a).length=n
 pos:n≠0
 small:n≤1024:=by decide
 flat:Bool:=true
 pure:∀a,flat=true→cQ (f a)=true∧dH (f a)=f a
 canon:∀a,(f a).map kK=f a
section
variable {α:Type}(E:bL α)
def bL.l (l:List α):List AV:=l.flatMap E.f
def bL.fz (l:List α):AV:=.fz (E.l l) l.length false
variable {E}
theorem bL.fo {a:α}{l:List α}:E.l (a::l)=E.f a++E.l l:=rfl
theorem bL.LN:E.l []=[]:=rfl
theorem bL.iP {a b:List α}:E.l (a++b)=E.l a++E.l b:=by simp [bL.l]
theorem bL.bS:∀{l:List α},(E.l l).length=l.length*E.n
 | []=>by simp [bL.l]
 | a::l=>by rw [bL.fo,aaR,E.len,bL.bS,aaW,abW,Nat.one_mul,ace]
theorem bL.oV {l:List α}(h:l.length≤1099511627776):(E.l l).length≤1125899906842624:=by
 rw [bL.bS]
 exact abB (Nat.mul_le_mul h E.small) (by decide)
theorem bL.yy:∀{l:List α} {i:Nat},(E.l l).drop (i*E.n)=E.l (l.drop i)
 | l,0=>by simp
 | [],i+1=>by simp [bL.l]
 | a::l,i+1=>by
  rw [List.drop_succ_cons,←bL.yy,bL.fo,abW,Nat.one_mul,List.drop_append,List.drop_of_length_le (by rw [E.len]; omega),abr,E.len,Nat.add_sub_cancel]
theorem bL.Hr:∀{l:List α} {i:Nat},(E.l l).take (i*E.n)=E.l (l.take i)
 | l,0=>by simp [bL.l]
 | [],i+1=>by simp [bL.l]
 | a::l,i+1=>by
  rw [bL.fo,List.take_succ_cons,bL.fo,abW,Nat.one_mul,ace,List.take_append]
  rw [E.len,abo (by rw [E.len]; omega),abC,bL.Hr]
theorem bL.LO {l:List α}{i:Nat}{a:α}(h:l[i]? = some a){off:Nat}(ho:off<E.n):(E.l l)[i*E.n+off]? = (E.f a)[off]?:=by
 rw [←List.getElem?_drop,bL.yy,aaT (aaM.1 h).1,(aaM.1 h).2,bL.fo,aaX (by rw [E.len]; exact ho)]
theorem bL.Hs {l:List α}{i:Nat}{a:α}(h:l[i]? = some a):((E.l l).drop (i*E.n)).take E.n=E.f a:=by
 rw [bL.yy,aaT (aaM.1 h).1,(aaM.1 h).2,bL.fo,abi (by rw [E.len]; exact aaN _)]
 rw [abo (by rw [E.len]; exact aaN _)]
theorem bL.Cs {l:List α}{i:Nat}{a:α}(h:l[i]? = some a):i*E.n+E.n≤(E.l l).length:=by
 rw [bL.bS]
 have:=(aaM.1 h).1
 calc i*E.n+E.n=(i+1)*E.n:=by rw [abW,Nat.one_mul]
  _≤_:=abE _ this
theorem qE:∀{a b:List AV},cQ (a++b)=(cQ a&&cQ b)
 | [],b=>by simp [cQ]
 | x::a,b=>by simp [cQ,qE,Bool.and_assoc]
theorem qF:∀{a b:List AV},dH (a++b)=dH a++dH b
 | [],b=>rfl
 | x::a,b=>by simp [dH,qF]
theorem bL.pM (hp:E.flat=true):∀{l:List α},cQ (E.l l)=true∧dH (E.l l)=E.l l
 | []=>⟨rfl,rfl⟩
 | a::l=>by
  obtain⟨h1,h2⟩:=E.pure a hp
  obtain⟨h3,h4⟩:=bL.pM hp (l:=l)
  rw [bL.fo,qE,qF,h1,h2,h3,h4]
  exact⟨rfl,rfl⟩
theorem bL.DN:∀{l:List α},(E.l l).map kK=E.l l
 | []=>rfl
 | a::l=>by rw [bL.fo,abc,E.canon,bL.DN]
theorem bL.bp {l:List α}(hp:E.flat=true:=by rfl):(E.fz l).eu=true∧(E.fz l).j5=E.fz l:=by
 obtain⟨h1,h2⟩:=bL.pM (E:=E) hp (l:=l)
 exact⟨h1,by show AV.fz (dH (E.l l)) l.length false=_; rw [h2]; rfl⟩
theorem iQ:∀(cs vs pre ML:List AV),cs.length=vs.length→dv (pre++cs++ML) pre.length vs=pre++vs++ML
 | [],[],pre,ML,_=>by simp [dv]
 | c::cs,v::vs,pre,ML,h=>by
  have:=iQ cs vs (pre++[v]) ML (by simpa using h)
  simp only [aaR,aaW,aba,aa7] at this
  rw [dv]
  have h2:(pre++c::cs++ML).set pre.length v=pre++[v]++cs++ML:=by
   rw [aa0,abX _ _ (aaN _),abT]
   simp
  rw [h2,this]
  simp
 | [],_::_,_,_,h=>by simp at h
 | _::_,[],_,_,h=>by simp at h
theorem bL.Px {l:List α}{i:Nat}{a b:α}(h:l[i]? = some a)(rest:List AV):dv (E.l l++rest) (i*E.n) (E.f b)=E.l (l.set i b)++rest:=by
 have hi:=(aaM.1 h).1
 have hl:l=l.take i++a::l.drop (i+1):=by
  conv=>lhs; rw [←abY i l,aaT hi]
  rw [(aaM.1 h).2]
 have hs:l.set i b=l.take i++b::l.drop (i+1):=List.set_eq_take_append_cons_drop .. |>.trans (by rw [if_pos hi])
 have e1:E.l l=E.l (l.take i)++E.f a++E.l (l.drop (i+1)):=by
  conv=>lhs; rw [hl]
  rw [bL.iP,bL.fo,aa0]
 have e2:(E.l (l.take i)).length=i*E.n:=by rw [bL.bS,abz,ab8 (Nat.le_of_lt hi)]
 rw [hs,bL.iP,bL.fo,e1,←e2]
 have:=iQ (E.f a) (E.f b) (E.l (l.take i)) (E.l (l.drop (i+1))++rest) (by rw [E.len,E.len])
 simp only [aa0] at this ⊢
 exact this
theorem bL.MM {l:List α}{i:Nat}{a b:α}{off:Nat}{v:AV}(h:l[i]? = some a)(ho:off<E.n)(hb:(E.f a).set off v=E.f b)(rest:List AV):(E.l l++rest).set (i*E.n+off) v=E.l (l.set i b)++rest:=by
 have hi:=(aaM.1 h).1
 have hl:l=l.take i++a::l.drop (i+1):=by
  conv=>lhs; rw [←abY i l,aaT hi]
  rw [(aaM.1 h).2]
 have hs:l.set i b=l.take i++b::l.drop (i+1):=List.set_eq_take_append_cons_drop .. |>.trans (by rw [if_pos hi])
 have e1:E.l l=E.l (l.take i)++(E.f a++E.l (l.drop (i+1))):=by
  conv=>lhs; rw [hl]
  rw [bL.iP,bL.fo]
 have e2:(E.l (l.take i)).length=i*E.n:=by rw [bL.bS,abz,ab8 (Nat.le_of_lt hi)]
 rw [hs,bL.iP,bL.fo,e1,←hb,←e2]
 simp only [aa0]
 rw [abX _ _ (by omega),List.set_append_left _ _ (by rw [E.len]; omega)]
 congr 2
 simp
end
def ix {α:Type}(l:List α)(i:Int):Option α:=if 0≤i then l[i.toNat]? else none
theorem ia {α:Type}{l:List α}{i:Int}{a:α}(h:ix l i=some a):0≤i∧i<l.length∧l[i.toNat]? = some a:=by
 unfold ix at h
 split at h
 ·rename_i h0
  have:=(aaM.1 h).1
  exact⟨h0,by omega,h⟩
 ·cases h
def LP {α:Type}(l:List α)(lo hi:Int):Option (List α):=if 0≤lo∧lo≤hi∧hi≤l.length then some ((l.drop lo.toNat).take (hi.toNat - lo.toNat)) else none
theorem Ao {α:Type}{l r:List α}{lo hi:Int}(h:LP l lo hi=some r):0≤lo∧lo≤hi∧hi≤l.length∧r=(l.drop lo.toNat).take (hi.toNat - lo.toNat):=by
 unfold LP at h
 split at h
 ·rename_i h0; cases h; exact⟨h0.1,h0.2.1,h0.2.2,rfl⟩
 ·cases h
def bt (s:ByteArray)(i:Int):Option Int:=if 0≤i then (s.data.toList[i.toNat]?).map fun b=>(b.toNat:Int) else none
inductive Ct where
 | sl (n sz:Nat) (cs:List AV)
 | ob (cs:List AV)
 | mp (es:List (AV × AV))
 | row (e:TypeId) (cs:List AV)
def FI (h:AHeap)(i:Nat):Ct→Prop
 | .sl n sz cs=>(cs.length=n*sz∧cs.length≤1125899906842624)∧((i=0∧n=0)∨(i≠0∧∃rest,h.get i=some (.cells (cs++rest))))
 | .ob cs=>i≠0∧h.get i=some (.cells cs)
 | .mp es=>i≠0∧h.get i=some (.map es)
 | .row e cs=>i≠0∧h.get i=some (.row e cs)
abbrev Mem:=List (Nat × Ct)
structure Has (h:AHeap)(K:Mem):Prop where
 at_:∀(j i:Nat) (c:Ct),K[j]? = some (i,c)→FI h i c∧i<h.next
 nd:∀(j j' i:Nat) (c c':Ct),K[j]? = some (i,c)→K[j']? = some (i,c')→i≠0→j=j'
 pos:0<h.next
theorem pN {h h':AHeap}{i:Nat}{c:Ct}(hg:i≠0→h'.get i=h.get i)(h1:FI h i c):FI h' i c:=by
 cases c with
 | sl n sz cs=>
  obtain⟨h2,h3⟩:=h1
  refine⟨h2,h3.imp id fun ⟨h4,r,h5⟩=>⟨h4,r,(hg h4).trans h5⟩⟩
 | ob cs=>exact⟨h1.1,(hg h1.1).trans h1.2⟩
 | mp es=>exact⟨h1.1,(hg h1.1).trans h1.2⟩
 | row e cs=>exact⟨h1.1,(hg h1.1).trans h1.2⟩
theorem dc (h:AHeap)(id k:Nat)(o:AObj):(h.put id o).get k=if k=id then some o else h.get k:=by
 simp only [AHeap.put,beq_nat]
 by_cases hk:k=id<;>simp [hk]
theorem Ap (h:AHeap)(id k:Nat):(h.kill id).get k=if k=id then none else h.get k:=by
 simp only [AHeap.kill,beq_nat]
 by_cases hk:k=id<;>simp [hk]
theorem Has.Ht {h h':AHeap}{K:Mem}(o:Has h K){j i:Nat}{c:Ct}(hj:K[j]? = some (i,c)){i':Nat}{c':Ct}
  (hg:∀k,k≠i→k<h.next→h'.get k=h.get k) (hn:h.next≤h'.next) (hi:i'=i∨i'=0∨h.next≤i') (hlt:i'<h'.next) (hc:FI h' i' c'):Has h' (K.set j (i',c')):=by
 refine⟨fun q k d hq=>?_,fun q q' k d d' hq ye hk=>?_,aa9 o.pos hn⟩
 ·rw [acb] at hq
  by_cases h1:j=q
  ·subst h1
   rw [if_pos rfl] at hq
   split at hq
   ·cases hq; exact⟨hc,hlt⟩
   ·cases hq
  ·rw [if_neg h1] at hq
   obtain⟨g1,g2⟩:=o.at_ q k d hq
   refine⟨pN (fun hk=>hg k (fun he=>?_) g2) g1,aa9 g2 hn⟩
   subst he
   exact h1 (o.nd j q k c d hj hq hk)
 ·rw [acb] at hq ye
  have old:∀(q:Nat) (d:Ct),j≠q→K[q]? = some (k,d)→k≠i':=by
   intro x y hne hx he
   rcases hi with h1 | h1 | h1
   ·exact hne (o.nd j x k c y (by rw [he,h1]; exact hj) hx hk)
   ·exact hk (he.trans h1)
   ·have:=(o.at_ x k y hx).2; omega
  by_cases h1:j=q<;>by_cases h2:j=q'
  ·rw [←h1,h2]
  ·subst h1
   rw [if_pos rfl] at hq
   rw [if_neg h2] at ye
   split at hq
   ·cases hq; exact absurd rfl (old q' d' h2 ye)
   ·cases hq
  ·subst h2
   rw [if_pos rfl] at ye
   rw [if_neg h1] at hq
   split at ye
   ·cases ye; exact absurd rfl (old q d h1 hq)
   ·cases ye
  ·rw [if_neg h1] at hq; rw [if_neg h2] at ye
   exact o.nd q q' k d d' hq ye hk
theorem Has.new {h h':AHeap}{K:Mem}(o:Has h K){i:Nat}{c:Ct}(hg:∀k,k<h.next→h'.get k=h.get k)(hn:h.next≤h'.next)(hi:i=0∨h.next≤i)(hlt:i<h'.next)(hc:FI h' i c):Has h' ((i,c)::K):=by
 refine⟨fun q k d hq=>?_,fun q q' k d d' hq ye hk=>?_,aa9 o.pos hn⟩
 ·cases q with
  | zero=>simp only [abg,aaJ,aaQ] at hq; obtain⟨rfl,rfl⟩:=hq; exact⟨hc,hlt⟩
  | succ q=>
   simp only [abK] at hq
   obtain⟨g1,g2⟩:=o.at_ q k d hq
   exact⟨pN (fun _=>hg k g2) g1,aa9 g2 hn⟩
 ·have old:∀(q:Nat) (d:Ct),K[q]? = some (k,d)→k≠i:=by
   intro x y hx he
   rcases hi with h1 | h1
   ·exact hk (he.trans h1)
   ·have:=(o.at_ x k y hx).2; omega
  cases q with
  | zero=>
   simp only [abg,aaJ,aaQ] at hq
   cases q' with
   | zero=>rfl
   | succ q'=>exact absurd hq.1.symm (old q' d' (by simpa using ye))
  | succ q=>
   cases q' with
   | zero=>
    simp only [abg,aaJ,aaQ] at ye
    exact absurd ye.1.symm (old q d (by simpa using hq))
   | succ q'=>rw [o.nd q q' k d d' (by simpa using hq) (by simpa using ye) hk]
theorem Has.nil {h:AHeap}{K:Mem}(o:Has h K)(sz:Nat):Has h ((0,.sl 0 sz [])::K):=
 o.new (fun _ _=>rfl) (aaN _) (.inl rfl) o.pos ⟨⟨by simp,by simp⟩,.inl ⟨rfl,rfl⟩⟩
theorem Has.sub {h:AHeap}{K K':Mem}(o:Has h K)(f:Nat→Nat)(hf:∀j p,K'[j]? = some p→K[f j]? = some p)(hi:∀j j',f j=f j'→j=j'):Has h K':=
 ⟨fun j i c hj=>o.at_ (f j) i c (hf j _ hj),fun j j' i c c' hj BI hk=>hi _ _ (o.nd (f j) (f j') i c c' (hf j _ hj) (hf j' _ BI) hk),o.pos⟩
theorem Has.del {h:AHeap}{K:Mem}(o:Has h K)(q:Nat):Has h (K.eraseIdx q):=
 o.sub (fun j=>if j<q then j else j+1) (fun j p hj=>by
  rw [List.getElem?_eraseIdx] at hj
  split at hj
  ·rename_i h1; simpa [h1] using hj
  ·rename_i h1; simpa [h1] using hj) (fun j j' he=>by
   split at he<;>split at he<;>omega)
theorem Has.front {h:AHeap}{K:Mem}(o:Has h K)(q:Nat){p:Nat × Ct}(hq:K[q]? = some p):Has h (p::K.eraseIdx q):=
 o.sub (fun j=>match j with | 0=>q | j+1=>if j<q then j else j+1) (fun j p' hj=>by
  cases j with
  | zero=>simp only [abg,aaJ] at hj; subst hj; exact hq
  | succ j=>
   simp only [abK,List.getElem?_eraseIdx] at hj
   dsimp only
   split at hj
   ·rename_i h1; simpa [h1] using hj
   ·rename_i h1; simpa [h1] using hj) (fun j j' he=>by
   cases j with
   | zero=>cases j' with
    | zero=>rfl
    | succ j'=>dsimp only at he; split at he<;>omega
   | succ j=>cases j' with
    | zero=>dsimp only at he; split at he<;>omega
    | succ j'=>dsimp only at he; split at he<;>split at he<;>omega)
end Go.R
namespace Go.R
open Go
def Aq (P:Program)(t:TypeId)(sz b:Nat):Bool:=
 match P.underlying t with
 | some (.slice e)=>match P.info? e with
  | some i=>abq i.size sz&&abq i.bytes b&&Lu i
  | none=>false
 | _=>false
section
variable {P:Program}{t:TypeId}{sz b:Nat}
theorem kW (h:Aq P t sz b=true):∃e i,P.underlying t=some (.slice e)∧P.info? e=some i∧i.size=sz∧i.bytes=b∧Lu i=true∧fM P e=some sz:=by
 unfold Aq at h
 split at h
 ·rename_i e he
  split at h
  ·rename_i i hi
   simp only [aaK] at h
   have h1:=abR h.1.1
   exact⟨e,i,he,hi,h1,abR h.1.2,h.2,by simp [fM,hi,h1]⟩
  ·cases h
 ·cases h
variable {α:Type}{E:bL α}{h:AHeap}{K:Mem}{l:List α}{a v:α}{i q:Nat}{j:Int}{k:IntKind}{c:AV}{off:Nat}{tf:TypeId}
theorem eK (T:Aq P t E.n b=true)(h:ix l j=some a):fD P t (E.fz l) (.int k j)=some (.fp (E.l l) (j.toNat*E.n)):=by
 obtain⟨e,inf,h1,h2,h3,h4,h5,h6⟩:=kW T
 obtain⟨g1,g2,g3⟩:=ia h
 have hle:=bL.Cs (E:=E) g3
 have hp:=E.pos
 simp only [fD,h1,aaG,h6,bL.fz]
 rw [if_pos ⟨g1,g2,by omega⟩]
theorem Py (h:l[j.toNat]? = some a):(E.l l).isEmpty=false:=by
 have hle:=bL.Cs (E:=E) h
 have hp:=E.pos
 cases hl:E.l l with
 | nil=>rw [hl] at hle; simp at hle; omega
 | cons _ _=>rfl
theorem rJ (hp:AHeap)(ha:gG P tf=some false)(h:ix l j=some a)(hc:(E.f a)[off]? = some c):bw P hp tf (.fp (E.l l) (j.toNat*E.n+off))=some c:=by
 obtain⟨g1,g2,g3⟩:=ia h
 have ho:off<E.n:=by rw [←E.len a]; exact (aaM.1 hc).1
 simp only [bw,kL,Py g3,aaU,if_false,jD,ha,aaG,bL.LO g3 ho,hc]
theorem gK (hp:AHeap)(ha:gG P tf=some false)(h:ix l j=some a)(hc:(E.f a)[0]? = some c):bw P hp tf (.fp (E.l l) (j.toNat*E.n))=some c:=rJ (off:=0) hp ha h hc
theorem ke (hp:AHeap)(ha:gG P tf=some true)(hs:fM P tf=some E.n)(h:ix l j=some a):bw P hp tf (.fp (E.l l) (j.toNat*E.n))=some (.agg (E.f a)):=by
 obtain⟨g1,g2,g3⟩:=ia h
 simp only [bw,kL,Py g3,aaU,if_false,jD,ha,aaG,if_true,hs]
 rw [if_pos (bL.Cs g3),bL.Hs g3]
theorem tO (o:Has h K)(hq:K[q]? = some (i,.sl l.length E.n (E.l l)))(hj:l[j.toNat]? = some a):i≠0∧∃rest,h.get i=some (.cells (E.l l++rest)):=by
 obtain⟨⟨_,h1⟩,_⟩:=o.at_ _ _ _ hq
 rcases h1 with⟨_,h1⟩| h1
 ·have:=(aaM.1 hj).1; omega
 ·exact h1
theorem MN (T:Aq P t sz b=true){n:Nat}(h0:0≤j)(h1:j<n):fD P t (.rs i 0 n sz) (.int k j)=some (.ptr i (0+j.toNat*sz)):=by
 obtain⟨e,inf,g1,g2,g3,g4,g5,g6⟩:=kW T
 simp only [fD,g1,aaG,g6]
 rw [if_pos ⟨trivial,h0,h1⟩]
theorem xc (o:Has h K)(hq:K[q]? = some (i,.sl l.length E.n (E.l l)))(ha:gG P tf=some false)(hj:ix l j=some a)(hc:(E.f a)[off]? = some c):bw P h tf (.ptr i (0+j.toNat*E.n+off))=some c:=by
 obtain⟨g1,g2,g3⟩:=ia hj
 obtain⟨h1,rest,h2⟩:=tO o hq g3
 have ho:off<E.n:=by rw [←E.len a]; exact (aaM.1 hc).1
 have hle:=bL.Cs (E:=E) g3
 simp only [bw,kL,h2,aaG,jD,ha,aaU,if_false,aa7]
 rw [aaX (by omega),bL.LO g3 ho,hc]
theorem FJ (o:Has h K)(hq:K[q]? = some (i,.sl l.length E.n (E.l l)))(ha:gG P tf=some false)(hj:ix l j=some a)(hc:(E.f a)[0]? = some c):bw P h tf (.ptr i (0+j.toNat*E.n))=some c:=xc (off:=0) o hq ha hj hc
theorem FK (o:Has h K)(hq:K[q]? = some (i,.sl l.length E.n (E.l l)))(ha:gG P tf=some true)(hs:fM P tf=some E.n)(hj:ix l j=some a):bw P h tf (.ptr i (0+j.toNat*E.n))=some (.agg (E.f a)):=by
 obtain⟨g1,g2,g3⟩:=ia hj
 obtain⟨h1,rest,h2⟩:=tO o hq g3
 have hle:=bL.Cs (E:=E) g3
 simp only [bw,kL,h2,aaG,jD,ha,if_true,hs,aa7]
 rw [if_pos (by rw [aaR]; omega),List.drop_append_of_le_length (by omega),abi (by rw [List.length_drop]; omega),bL.Hs g3]
theorem jP (o:Has h K){c':Ct}{ct:Ct}(hq:K[q]? = some (i,ct)){ob:AObj}(hc:FI (h.put i ob) i c'):Has (h.put i ob) (K.set q (i,c')):=
 o.Ht hq (fun k hk _=>by rw [dc,if_neg hk]) (abV _) (.inl rfl) (ab1 (o.at_ _ _ _ hq).2) hc
theorem Hu (o:Has h K)(hq:K[q]? = some (i,.sl l.length E.n (E.l l)))(hs:fM P tf=some E.n)(hj:ix l j=some a){x:AV}(hv:x.cells=E.f v)(p4:(E.f v).all AV.bY=true) :
  ∃h',jF P h tf (.ptr i (0+j.toNat*E.n)) x=some h'∧Has h' (K.set q (i,.sl l.length E.n (E.l (l.set j.toNat v)))):=by
 obtain⟨g1,g2,g3⟩:=ia hj
 obtain⟨h1,rest,h2⟩:=tO o hq g3
 have hle:=bL.Cs (E:=E) g3
 refine⟨_,?_,jP o hq (ob:=.cells (E.l (l.set j.toNat v)++rest)) ⟨⟨by rw [bL.bS,abx],by rw [bL.bS,abx,←bL.bS]; exact (o.at_ _ _ _ hq).1.1.2⟩,.inr ⟨h1,rest,by rw [dc,if_pos rfl]⟩⟩⟩
 simp only [jF,h2,aaG,iB,hs,hv,aa7]
 rw [if_pos ⟨E.len v,p4,by rw [aaR]; omega⟩,aaO,bL.Px g3]
theorem FL (o:Has h K)(hq:K[q]? = some (i,.sl l.length E.n (E.l l)))(hs:fM P tf=some 1)(hj:ix l j=some a){x:AV}(hx:x.cells=[x])(p4:x.bY=true)(ho:off<E.n)(hb:(E.f a).set off x=E.f v) :
  ∃h',jF P h tf (.ptr i (0+j.toNat*E.n+off)) x=some h'∧Has h' (K.set q (i,.sl l.length E.n (E.l (l.set j.toNat v)))):=by
 obtain⟨g1,g2,g3⟩:=ia hj
 obtain⟨h1,rest,h2⟩:=tO o hq g3
 have hle:=bL.Cs (E:=E) g3
 refine⟨_,?_,jP o hq (ob:=.cells (E.l (l.set j.toNat v)++rest)) ⟨⟨by rw [bL.bS,abx],by rw [bL.bS,abx,←bL.bS]; exact (o.at_ _ _ _ hq).1.1.2⟩,.inr ⟨h1,rest,by rw [dc,if_pos rfl]⟩⟩⟩
 simp only [jF,h2,aaG,iB,hs,hx,aa7]
 rw [if_pos ⟨rfl,by simp [p4],by rw [aaR]; omega⟩,aaO]
 simp only [dv]
 rw [bL.MM g3 ho hb]
def app (b:Nat){α:Type}(l l2:List α):Option (List α):=if (l.length+l2.length)*(b+1)≤1099511627776 then some (l++l2) else none
theorem Ar {l l2 r:List α}(h:app b l l2=some r):(l.length+l2.length)*b≤hZ∧l.length+l2.length≤hZ∧r=l++l2:=by
 unfold app at h
 split at h
 ·rename_i h0
  cases h
  rw [Nat.mul_add,Nat.mul_one] at h0
  refine⟨by simp only [hZ]; omega,by simp only [hZ]; omega,rfl⟩
 ·cases h
theorem Hv {t2:TypeId}{l2 r:List α}{x:AV}(T:Aq P t E.n b=true)(o:Has h K)(hq:K[q]? = some (i,.sl l.length E.n (E.l l)))(hx:gp h E.n x=some (E.l l2,l2.length))(ic:jm P t2 x=true)(hr:app b l l2=some r) :
  ∃i' h',dN P h t t2 (.rs i 0 l.length E.n) x=some (.rs i' 0 r.length E.n,h')∧Has h' (K.set q (i',.sl r.length E.n (E.l r))):=by
 obtain⟨e,inf,g1,g2,g3,g4,g5,g6⟩:=kW T
 obtain⟨r1,r2,rfl⟩:=Ar hr
 obtain⟨⟨⟨hlen,sr⟩,mE⟩,hlt⟩:=o.at_ _ _ _ hq
 have qi:=E.pos
 have hb:inf.size=E.n:=g3
 have kR:¬(inf.size=0∨jm P t2 x=false∨Lu inf=false):=by rw [ic,g5,hb]; simp [qi]
 subst g4
 by_cases h0:l2=[]
 ·subst h0
  refine⟨i,h,?_,?_⟩
  ·simp only [dN,g1,aaG,g2,hb,hx,ic,g5]
   rw [if_neg (by simp [qi])]
   simp only [aba,Nat.zero_mul,ab5,abU]
   by_cases hi:i=0
   ·subst hi
    rcases mE with⟨_,hl0⟩| h1
    ·simp [hl0,hb,hZ]
    ·exact absurd rfl h1.1
   ·rcases mE with h1 | ⟨_,rest,h1⟩
    ·exact absurd h1.1 hi
    ·rw [if_neg hi,h1]
     simp only [aaG]
     rw [if_neg (by rw [aaR,hlen]; simp only [aba,ab5] at r1 r2; simp; omega)]
     simp
  ·rw [abU]
   have:K.set q (i,.sl l.length E.n (E.l l))=K:=by
    apply abO
    intro j
    rw [acb]
    by_cases hj:q=j
    ·subst hj; rw [if_pos rfl,if_pos (aaM.1 hq).1,hq]
    ·rw [if_neg hj]
   rw [this]; exact o
 ·have Lw:l2.length≠0:=by simpa using h0
  by_cases hi:i=0
  ·subst hi
   rcases mE with⟨_,hl0⟩| h1
   rotate_left
   ·exact absurd rfl h1.1
   have hnil:l=[]:=by simpa using hl0
   subst hnil
   refine⟨h.next,h.alloc (.cells (E.l l2)),?_,?_⟩
   ·simp only [dN,g1,aaG,g2,hb,hx,ic,g5]
    rw [if_neg (by simp [qi])]
    simp only [if_true]
    simp only [aba,aa7] at r1 r2
    rw [if_neg (by simp; omega),if_neg Lw]
    simp
   ·refine o.Ht hq (fun k _ hk=>by rw [AHeap.alloc,dc,if_neg (by omega)]) (abV _) (.inr (.inr (aaN _))) (aby _) ⟨⟨bL.bS,bL.oV (by simp only [hZ] at r2; simp at r2 ⊢; omega)⟩,.inr ⟨by have:=o.pos; omega,[],?_⟩⟩
    rw [AHeap.alloc,dc,if_pos rfl]; simp
  ·rcases mE with h1 | ⟨_,rest,h1⟩
   ·exact absurd h1.1 hi
   refine⟨h.next,(h.kill i).put h.next (.cells (E.l (l++l2))),?_,?_⟩
   ·simp only [dN,g1,aaG,g2,hb,hx,ic,g5]
    rw [if_neg (by simp [qi]),if_neg hi,h1]
    simp only [aaG]
    rw [if_neg (by rw [aaR,hlen]; simp; omega),if_neg Lw]
    rw [abl,abi (by rw [hlen]; exact aaN _),abo (by rw [hlen]; exact aaN _),bL.iP,aaR]
   ·refine o.Ht hq (fun k hk qh=>by rw [dc,if_neg (by omega),Ap,if_neg hk]) (by show h.next≤h.next+1+1; omega) (.inr (.inr (aaN _))) (by show h.next<h.next+1+1; omega) ⟨⟨bL.bS,bL.oV (by simp only [hZ] at r2; simp at r2 ⊢; omega)⟩,.inr ⟨by have:=o.pos; omega,[],?_⟩⟩
    rw [dc,if_pos rfl]; simp
def Gz (b:Nat){α:Type}(n:Int)(z:α):Option (List α):=if 0≤n∧n.toNat*(b+1)≤1099511627776 then some (aa4 n.toNat z) else none
theorem yz {n:Int}{z:α}{zv:AV}{r:List α}(T:Aq P t E.n b=true)(o:Has h K)(e0:TypeId)(Yj:P.underlying t=some (.slice e0))(hz0:jc P e0=some zv)(Sq:zv.cells=E.f z)(p4:(E.f z).all AV.bY=true)(hr:Gz b n z=some r) :
  ∃i h',ij P h t (.int .i64 n) (.int .i64 n)=some (.rs i 0 r.length E.n,h')∧Has h' ((i,.sl r.length E.n (E.l r))::K):=by
 have hz:∀e,P.underlying t=some (.slice e)→jc P e=some zv:=fun e he=>by
  rw [Yj] at he; cases he; exact hz0
 unfold Gz at hr
 split at hr
 rotate_left
 ·cases hr
 rename_i kR
 obtain⟨h0,h1⟩:=kR
 cases hr
 obtain⟨e,inf,g1,g2,g3,g4,g5,g6⟩:=kW T
 have qi:=E.pos
 have SU:∀k,jd (E.f z) k=E.l (aa4 k z):=by
  intro k
  induction k with
  | zero=>rfl
  | succ k ih=>rw [jd,ih,List.replicate_succ,bL.fo]
 refine⟨h.next,h.alloc (.cells (E.l (aa4 n.toNat z))),?_,o.new (fun k hk=>by rw [AHeap.alloc,dc,if_neg (by omega)]) (abV _) (.inr (aaN _)) (aby _) ⟨⟨bL.bS,bL.oV (by rw [aca]; rw [Nat.mul_add,Nat.mul_one] at h1; omega)⟩,.inr ⟨by have:=o.pos; omega,[],by rw [AHeap.alloc,dc,if_pos rfl]; simp⟩⟩⟩
 rw [Nat.mul_add,Nat.mul_one] at h1
 simp only [ij,g1,aaG,g2,hz e g1,Sq,E.len,SU,aca,g3,g4]
 have hb:n*(b:Int)≤hZ:=by
  have:n*(b:Int)=((n.toNat*b:Nat):Int):=by
   rw [Int.natCast_mul,Int.toNat_of_nonneg h0]
  simp only [hZ]
  rw [this]
  omega
 rw [if_pos ⟨h0,Int.le_refl _,hb,trivial,qi,by omega,p4⟩]
theorem Hw (o:Has h K)(hq:K[q]? = some (i,.sl l.length E.n (E.l l)))(hp:E.flat=true:=by rfl):∃h',jR 0 h (.rs i 0 l.length E.n)=some (E.fz l,h')∧Has h' (K.eraseIdx q):=by
 obtain⟨⟨⟨hlen,sr⟩,mE⟩,hlt⟩:=o.at_ _ _ _ hq
 rcases mE with⟨h0,h1⟩| ⟨h0,rest,h1⟩
 ·have:l=[]:=by simpa using h1
  subst this
  exact⟨h,by simp [jR,h0,bL.fz,bL.l],o.del q⟩
 ·refine⟨h.kill i,?_,?_⟩
  ·simp only [jR]
   rw [if_neg h0,h1]
   simp only [aaG]
   have e1:((E.l l++rest).drop 0).take (l.length*E.n)=E.l l:=by
    rw [abl,abi (by rw [hlen]; exact aaN _),abo (by rw [hlen]; exact aaN _)]
   rw [e1,if_pos (by rw [aaR,hlen]; omega),rC (bL.pM hp).1]
   rfl
  ·have o2:=o.Ht (i':=0) (c':=.sl 0 1 []) (h':=h.kill i) hq (fun k hk _=>by rw [Ap,if_neg hk]) (abV _) (.inr (.inl rfl)) (Nat.succ_pos _) ⟨⟨by simp,by simp⟩,.inl ⟨rfl,rfl⟩⟩
   have:=o2.del q
   rwa [List.eraseIdx_set_eq] at this
variable {n:Nat}
theorem cO (o:Has h K)(hq:K[q]? = some (i,.sl n E.n (E.l l))):n=l.length:=by
 have h1:=(o.at_ _ _ _ hq).1.1.1
 rw [bL.bS] at h1
 exact (Nat.eq_of_mul_eq_mul_right (Nat.pos_of_ne_zero E.pos) h1).symm
theorem be (T:Aq P t E.n b=true)(o:Has h K)(hq:K[q]? = some (i,.sl n E.n (E.l l)))(hj:ix l j=some a):fD P t (.rs i 0 n E.n) (.int k j)=some (.ptr i (0+j.toNat*E.n)):=by
 have hn:=cO o hq
 subst hn
 exact MN T (ia hj).1 (ia hj).2.1
theorem DO (o:Has h K)(hq:K[q]? = some (i,.sl n E.n (E.l l)))(ha:gG P tf=some false)(hj:ix l j=some a)(hc:(E.f a)[off]? = some c):bw P h tf (.ptr i (0+j.toNat*E.n+off))=some c:=by
 have hn:=cO o hq
 subst hn
 exact xc o hq ha hj hc
theorem cL (o:Has h K)(hq:K[q]? = some (i,.sl n E.n (E.l l)))(ha:gG P tf=some false)(hj:ix l j=some a)(hc:(E.f a)[0]? = some c):bw P h tf (.ptr i (0+j.toNat*E.n))=some c:=by
 have hn:=cO o hq
 subst hn
 exact FJ o hq ha hj hc
theorem qG (o:Has h K)(hq:K[q]? = some (i,.sl n E.n (E.l l)))(ha:gG P tf=some true)(hs:fM P tf=some E.n)(hj:ix l j=some a):bw P h tf (.ptr i (0+j.toNat*E.n))=some (.agg (E.f a)):=by
 have hn:=cO o hq
 subst hn
 exact FK o hq ha hs hj
theorem fN (o:Has h K)(hq:K[q]? = some (i,.sl n E.n (E.l l)))(hs:fM P tf=some E.n)(hj:ix l j=some a){x:AV}(hv:x.cells=E.f v)(p4:(E.f v).all AV.bY=true) :
  ∃h',jF P h tf (.ptr i (0+j.toNat*E.n)) x=some h'∧Has h' (K.set q (i,.sl n E.n (E.l (l.set j.toNat v)))):=by
 have hn:=cO o hq
 subst hn
 exact Hu o hq hs hj hv p4
theorem Ki (o:Has h K)(hq:K[q]? = some (i,.sl n E.n (E.l l)))(hs:fM P tf=some 1)(hj:ix l j=some a){x:AV}(hx:x.cells=[x])(p4:x.bY=true)(ho:off<E.n)(hb:(E.f a).set off x=E.f v) :
  ∃h',jF P h tf (.ptr i (0+j.toNat*E.n+off)) x=some h'∧Has h' (K.set q (i,.sl n E.n (E.l (l.set j.toNat v)))):=by
 have hn:=cO o hq
 subst hn
 exact FL o hq hs hj hx p4 ho hb
theorem ju {t2:TypeId}{l2 r:List α}{x:AV}(T:Aq P t E.n b=true)(o:Has h K)(hq:K[q]? = some (i,.sl n E.n (E.l l)))(hx:gp h E.n x=some (E.l l2,l2.length))(ic:jm P t2 x=true)(hr:app b l l2=some r) :
  ∃i' h',dN P h t t2 (.rs i 0 n E.n) x=some (.rs i' 0 r.length E.n,h')∧Has h' (K.set q (i',.sl r.length E.n (E.l r))):=by
 have hn:=cO o hq
 subst hn
 exact Hv T o hq hx ic hr
theorem rK (o:Has h K)(hq:K[q]? = some (i,.sl n E.n (E.l l)))(hp:E.flat=true:=by rfl):∃h',jR 0 h (.rs i 0 n E.n)=some (E.fz l,h')∧Has h' (K.eraseIdx q):=by
 have hn:=cO o hq
 subst hn
 exact Hw o hq hp
end
end Go.R
namespace Go.R
open Go
structure ai where
 kind:Int
 int:Int
 label:ByteArray
 args:List Int
structure aI where
 nodes:List ai
 root:Int
def eI (k:IntKind):bL Int:={n:=1,f:=fun a=>[.int k a],len:=fun _=>rfl,pos:=by decide,pure:=fun _ _=>⟨rfl,rfl⟩,canon:=fun _=>rfl}
abbrev af:bL Int:=eI .i64
theorem pure_cons {x:AV}{xs:List AV}(h:x.eu=true∧x.j5=x)(k:cQ xs=true∧dH xs=xs):cQ (x::xs)=true∧dH (x::xs)=x::xs:=
 ⟨by simp [cQ,h.1,k.1],by simp [dH,h.2,k.2]⟩
theorem pure_nil:cQ []=true∧dH []=[]:=⟨rfl,rfl⟩
theorem gW {k:IntKind}{n:Int}:(AV.int k n).eu=true∧(AV.int k n).j5 = .int k n:=⟨rfl,rfl⟩
theorem ov {s:ByteArray}:(AV.str s).eu=true∧(AV.str s).j5 = .str s:=⟨rfl,rfl⟩
theorem cu {b:Bool}:(AV.bool b).eu=true∧(AV.bool b).j5 = .bool b:=⟨rfl,rfl⟩
def ah:bL ai:={n:=4,f:=fun x=>[.int .i64 x.kind,.int .i64 x.int,.str x.label,af.fz x.args],len:=fun _=>rfl,pos:=by decide,pure:=fun x _=>pure_cons gW (pure_cons gW (pure_cons ov (pure_cons bL.bp pure_nil))),canon:=fun _=>rfl}
end Go.R
namespace Go.R
open Go
theorem Kj {b:Bool}(h:b=false):¬b=true:=by rw [h]; decide
section
variable {P:Program}{cf:CallF}{A:bR}{m:Nat}
theorem xd {c:Code}{s:St}{Q R:Ex→St→Prop}(h:cZ P cf A m c s Q)(k:∀e s',Q e s'→R e s'):cZ P cf A m c s R:=by
 obtain⟨e,s',h1,h2⟩:=h
 exact⟨e,s',h1,k _ _ h2⟩
theorem aC {c:Code}{s:St}{Q:St→Prop}{R:Ex→St→Prop}(hQ:∀e s',(e = .ret∨e = .norm)∧Q s'→R e s')(h:cZ P cf A m c s (fun e s'=>(e = .ret∨e = .norm)∧Q s')):cZ P cf A m c s R:=xd h hQ
end
def ie:Nat:=1125899906842630
def kX (k:Nat)(h:AHeap)(x y:AV):Prop:=∀n,ie+k≤n→bX h n x=some y
def aP (k:Nat)(h:AHeap)(x y:List AV):Prop:=∀n,ie+k≤n→br h n x=some y
def SV (h:AHeap)(x y:AV):Prop:=kX 4503599627370496 h x y
section
variable {h:AHeap}{α:Type}{E:bL α}{l:List α}{K:Mem}{q i:Nat}
theorem kX.mono {k k':Nat}{x y:AV}(hk:k≤k')(f:kX k h x y):kX k' h x y:=fun n hn=>f n (by omega)
theorem JT {k:Nat}{x y:AV}(f:kX k h x y)(hk:k≤4503599627370496:=by decide):SV h x y:=f.mono hk
theorem mS {n:Nat}(h:ie≤n):∃k,n=k+1∧ie≤k+1:=⟨n - 1,by simp only [ie] at h; omega,by omega⟩
theorem mT {x:AV}(h1:x.eu=true)(h2:∀n,bX h (n+1) x=if x.eu then some x.j5 else none){y:AV}(h3:x.j5=y):kX 0 h x y:=fun n hn=>by
 obtain⟨k,rfl,_⟩:=mS (show ie≤n by omega)
 rw [h2,h1,h3]; rfl
theorem bO {k:IntKind}{n:Int}:kX 0 h (.int k n) (.int k n):=mT rfl (fun _=>rfl) rfl
theorem gL {b:Bool}:kX 0 h (.bool b) (.bool b):=mT rfl (fun _=>rfl) rfl
theorem kY {s:ByteArray}:kX 0 h (.str s) (.str s):=mT rfl (fun _=>rfl) rfl
theorem km (hp:E.flat=true:=by rfl):kX 0 h (E.fz l) (E.fz l):=mT (bL.bp hp).1 (fun _=>rfl) (bL.bp hp).2
theorem rL {cs:List AV}(h1:(cQ cs=true))(h2:dH cs=E.l l){n:Nat}{b:Bool}(h3:n=l.length):kX 0 h (.fz cs n b) (E.fz l):=by
 refine mT (by simpa [AV.eu] using h1) (fun _=>rfl) ?_
 subst h3
 show AV.fz (dH cs) l.length false=_
 rw [h2]; rfl
theorem pv:∀{cs:List AV} {n:Nat},cQ cs=true→(∀x∈cs,∀n,bX h (n+1) x=if x.eu then some x.j5 else none)→cs.length+1<n→br h n cs=some (dH cs)
 | [],n,_,_,hn=>by
  obtain⟨k,rfl⟩:∃k,n=k+1:=⟨n - 1,by omega⟩
  rfl
 | x::cs,n,h1,h2,hn=>by
  obtain⟨k,rfl⟩:∃k,n=k+1+1:=⟨n - 2,by simp at hn; omega⟩
  simp only [cQ,aaK] at h1
  simp only [br]
  rw [h2 x (by simp) k,h1.1]
  simp only [if_true,aaG]
  rw [pv h1.2 (fun y hy=>h2 y (by simp [hy])) (by simp at hn; omega)]
  rfl
def As:AV→Bool
 | .agg _ | .tup _ | .fn _ _=>false
 | _=>true
theorem Hx {x:AV}(hf:As x=true)(hn:x.eu=true)(n:Nat):bX h (n+1) x=if x.eu then some x.j5 else none:=by
 cases x<;>first | rfl | (simp [AV.eu] at hn; done) | (simp [As] at hf; done)
theorem Kk (o:Has h K)(hq:K[q]? = some (i,.sl l.length E.n (E.l l)))(hf:∀a:α,(E.f a).all As=true)(hp:E.flat=true:=by rfl):kX 0 h (.rs i 0 l.length E.n) (E.fz l):=fun n hn=>by
 obtain⟨⟨⟨hlen,sr⟩,mE⟩,hlt⟩:=o.at_ _ _ _ hq
 obtain⟨k,rfl,hk⟩:=mS (show ie≤n by omega)
 simp only [bX]
 rcases mE with⟨h0,h1⟩| ⟨h0,rest,h1⟩
 ·have:l=[]:=by simpa using h1
  subst this
  simp [h0,bL.fz,bL.l]
 ·rw [if_neg h0,h1]
  simp only [aaG]
  have e1:((E.l l++rest).drop 0).take (l.length*E.n)=E.l l:=by
   rw [abl,abi (by rw [hlen]; exact aaN _),abo (by rw [hlen]; exact aaN _)]
  rw [if_pos (by rw [aaR,hlen]; omega),e1,pv (bL.pM hp).1 (fun x hx=>?_) (by simp only [ie] at hk; omega),(bL.pM hp).2]
  ·rfl
  ·have hnx:x.eu=true:=by
    have:∀(cs:List AV),cQ cs=true→x∈cs→x.eu=true:=by
     intro cs
     induction cs with
     | nil=>intro _ h; cases h
     | cons y ys ih=>
      intro h hm
      simp only [cQ,aaK] at h
      rcases aa6.1 hm with rfl | hm
      ·exact h.1
      ·exact ih h.2 hm
    exact this _ (bL.pM hp).1 hx
   have V8:As x=true:=by
    unfold bL.l at hx
    rw [List.mem_flatMap] at hx
    obtain⟨a,_,ha⟩:=hx
    exact aa1.1 (hf a) x ha
   exact fun n=>Hx V8 hnx n
theorem eM {n:Nat}(o:Has h K)(hq:K[q]? = some (i,.sl n E.n (E.l l)))(hf:∀a:α,(E.f a).all As=true)(hp:E.flat=true:=by rfl):kX 0 h (.rs i 0 n E.n) (E.fz l):=by
 have hn:=cO o hq
 subst hn
 exact Kk o hq hf hp
theorem aG:aP 0 h [] []:=fun n hn=>by
 obtain⟨k,rfl,_⟩:=mS (show ie≤n by omega)
 rfl
theorem ak {k1 k2:Nat}{x y:AV}{xs ys:List AV}(f:kX k1 h x y)(g:aP k2 h xs ys):aP (k1+k2+1) h (x::xs) (y::ys):=fun n hn=>by
 obtain⟨k,rfl⟩:∃k,n=k+1:=⟨n - 1,by omega⟩
 simp only [br]
 rw [f k (by omega),g k (by omega)]
 rfl
theorem kg {k:Nat}{xs ys:List AV}(f:aP k h xs ys):kX (k+1) h (.agg xs) (.agg ys):=fun n hn=>by
 obtain⟨k,rfl⟩:∃k,n=k+1:=⟨n - 1,by omega⟩
 simp only [bX]
 rw [f k (by omega)]; rfl
theorem MO {k:Nat}{xs ys:List AV}(f:aP k h xs ys):kX (k+1) h (.tup xs) (.tup ys):=fun n hn=>by
 obtain⟨k,rfl⟩:∃k,n=k+1:=⟨n - 1,by omega⟩
 simp only [bX]
 rw [f k (by omega)]; rfl
end
def jZ (k:IntKind)(x:Int)(n:Nat):Int:=x.fdiv (2 ^ (min n k.bits))
section
variable {P:Program}{t:TypeId}{b:Nat}{α:Type}{E:bL α}{h:AHeap}{K:Mem}{l r:List α}{i q:Nat}{j lo hi:Int}{k k':IntKind}
theorem ow {s:ByteArray}{v:Int}(hu:P.underlying t=some .string)(h:bt s j=some v):rq P t (.str s) (.int k j)=some (.int .u8 v):=by
 unfold bt at h
 split at h
 ·rename_i h0
  rw [aaI] at h
  obtain⟨b,hb,rfl⟩:=h
  simp only [rq,hu,aaG,h0,if_true,hb,aaO]
 ·cases h
theorem Hy (h:LP l lo hi=some r):(((E.l l).drop (lo.toNat*E.n)).take ((hi.toNat - lo.toNat)*E.n))=E.l r∧r.length=hi.toNat - lo.toNat:=by
 obtain⟨h0,h1,h2,rfl⟩:=Ao h
 refine⟨by rw [bL.yy,bL.Hr],?_⟩
 rw [abz,List.length_drop]
 omega
theorem Hz (o:Has h K)(hq:K[q]? = some (i,.sl l.length E.n (E.l l)))(T:Aq P t E.n b=true)(hs:LP l 0 hi=some r) :
  mI P t (.rs i 0 l.length E.n) none (some (.int k hi)) none=some (.rs i 0 r.length E.n)∧Has h (K.set q (i,.sl r.length E.n (E.l r))):=by
 obtain⟨e,inf,g1,g2,g3,g4,g5,g6⟩:=kW T
 obtain⟨h0,h1,h2,hr⟩:=Ao hs
 obtain⟨h3,h4⟩:=Hy (E:=E) hs
 simp only [Int.toNat_zero,Nat.sub_zero] at h4 hr
 have Co:r=l.take hi.toNat:=by rw [hr]; simp
 refine⟨?_,?_⟩
 ·simp only [mI,g1,aaG,g6,if_true,ly]
  rw [if_pos ⟨by omega,h2⟩]
  simp only [aaG,aaO,Nat.zero_mul,ab5,Nat.sub_zero,h4]
 ·obtain⟨⟨⟨hlen,sr⟩,mE⟩,hlt⟩:=o.at_ _ _ _ hq
  refine o.Ht hq (fun _ _ _=>rfl) (aaN _) (.inl rfl) hlt ⟨⟨bL.bS,?_⟩,?_⟩
  ·rw [bL.bS]
   refine abB (abE _ ?_) (hlen ▸ sr)
   rw [h4]; omega
  ·rcases mE with⟨h5,h6⟩| ⟨h5,rest,h6⟩
   ·left; exact⟨h5,by rw [h4]; omega⟩
   ·right
    refine⟨h5,E.l (l.drop hi.toNat)++rest,?_⟩
    rw [h6,Co,←aa0,←bL.iP,abY]
theorem MP {n:Nat}(o:Has h K)(hq:K[q]? = some (i,.sl n E.n (E.l l)))(T:Aq P t E.n b=true)(hs:LP l 0 hi=some r) :
  mI P t (.rs i 0 n E.n) none (some (.int k hi)) none=some (.rs i 0 r.length E.n)∧Has h (K.set q (i,.sl r.length E.n (E.l r))):=by
 have hn:=cO o hq
 subst hn
 exact Hz o hq T hs
end
theorem aq {P:Program}{cf:CallF}{m:Nat}{aS:FuncId→bR}{f:FuncId}{fn:Func}{A:bR}(ha:aS f=A){args:List AV}{h:AHeap}{R:AV→AHeap→Prop}(hf:P.funcs[f]? = some fn)(hb:fn.body=some (bN fn))(hn:ab7 args.length fn.ntmps=true)
  (he:cZ P cf A m (bN fn) ⟨nZ A.keep args,A.aH.map fun _=>none,h⟩ (fun e s=>(e = .ret∨e = .norm)∧∃r,aE P (s.open A) fn.results.toList=some r∧R r s.h)) :
  ∃r h',a6 P aS cf m f args h=some (r,h')∧R r h':=by
 subst ha
 exact yx hf hb hn he
def HA (a b:ByteArray):Bool:=Op.bytesLess a.data.toList b.data.toList||a.data.toList==b.data.toList
end Go.R
namespace Go.R
open Go
mutual
theorem yA {h:AHeap}:∀(n:Nat) (x y:AV),x.eu=true→bX h n x=some y→y=x.j5
 | 0,x,y,_,h=>by simp [bX] at h
 | n+1,x,y,hn,h=>by
  cases x with
  | agg cs=>
   simp only [bX,aaI] at h
   obtain⟨fQ,hcs,rfl⟩:=h
   rw [il n cs fQ (by simpa [AV.eu] using hn) hcs]; rfl
  | tup cs=>
   simp only [bX,aaI] at h
   obtain⟨fQ,hcs,rfl⟩:=h
   rw [il n cs fQ (by simpa [AV.eu] using hn) hcs]; rfl
  | fn f cs=>
   simp only [bX,aaI] at h
   obtain⟨fQ,hcs,rfl⟩:=h
   rw [il n cs fQ (by simpa [AV.eu] using hn) hcs]; rfl
  | ptr _ _=>simp [AV.eu] at hn
  | rs _ _ _ _=>simp [AV.eu] at hn
  | _=>simp only [bX,hn,if_true,aaJ] at h; exact h.symm
theorem il {h:AHeap}:∀(n:Nat) (xs ys:List AV),cQ xs=true→br h n xs=some ys→ys=dH xs
 | 0,xs,ys,_,h=>by simp [br] at h
 | n+1,[],ys,_,h=>by simp only [br,aaJ] at h; exact h.symm
 | n+1,x::xs,ys,hn,h=>by
  simp only [cQ,aaK] at hn
  simp only [br,aaH,aaI] at h
  obtain⟨y,hy,zs,hz,rfl⟩:=h
  rw [yA n x y hn.1 hy,il n xs zs hn.2 hz]; rfl
end
mutual
theorem xe {h:AHeap}:∀(n:Nat) (x y:AV),gI h n x=some y→bX h n x=some y
 | 0,x,y,h=>by simp [gI] at h
 | n+1,x,y,h=>by
  unfold gI at h
  split at h
  ·exact h
  ·exact h
  ·exact h
  ·exact h
  ·exact h
  ·exact h
  ·exact h
  ·exact h
  ·rename_i id off len jb
   simp only [bX]
   split at h
   ·rename_i h0; rw [if_pos h0]; exact h
   ·rename_i h0
    rw [if_neg h0]
    rw [aaH] at h ⊢
    obtain⟨ob,ho,h⟩:=h
    refine⟨ob,ho,?_⟩
    cases ob with
    | map es=>cases h
    | row t cs=>cases h
    | cells cs=>
     simp only at h ⊢
     split at h
     ·rename_i hle
      rw [if_pos hle]
      rw [aaI] at h ⊢
      obtain⟨fQ,hcs,h2⟩:=h
      exact⟨fQ,lI n _ _ hcs,h2⟩
     ·cases h
  ·simp only [bX]
   rw [aaI] at h ⊢
   obtain⟨fQ,hcs,h2⟩:=h
   exact⟨fQ,lI n _ _ hcs,h2⟩
  ·simp only [bX]
   rw [aaI] at h ⊢
   obtain⟨fQ,hcs,h2⟩:=h
   exact⟨fQ,lI n _ _ hcs,h2⟩
  ·cases h
theorem lI {h:AHeap}:∀(n:Nat) (xs ys:List AV),dw h n xs=some ys→br h n xs=some ys
 | 0,xs,ys,h=>by simp [dw] at h
 | n+1,[],ys,h=>h
 | n+1,x::xs,ys,h=>by
  simp only [dw,br,aaH,aaI] at h ⊢
  obtain⟨y,hy,zs,hz,h2⟩:=h
  exact⟨y,xe n x y hy,zs,lI n xs zs hz,h2⟩
end
def yB (k:Nat)(h:AHeap)(x y:AV):Prop:=∀n,ie+k≤n→gI h n x=some y
def Kl (k:Nat)(h:AHeap)(x y:List AV):Prop:=∀n,ie+k≤n→dw h n x=some y
def eR (h:AHeap)(x y:AV):Prop:=yB 4503599627370496 h x y
section
variable {h:AHeap}{α:Type}{E:bL α}{l:List α}{K:Mem}{q i:Nat}
theorem eR.JT {x y:AV}(f:eR h x y):SV h x y:=fun n hn=>xe _ _ _ (f n hn)
theorem tP {k:Nat}{x y:AV}(f:yB k h x y)(hk:k≤4503599627370496:=by decide):eR h x y:=fun n hn=>f n (by omega)
theorem yC {x y:AV}(h2:∀n,gI h (n+1) x=some y):yB 0 h x y:=fun n hn=>by
 obtain⟨k,rfl,_⟩:=mS (show ie≤n by omega)
 exact h2 k
theorem mU {k:IntKind}{n:Int}:yB 0 h (.int k n) (.int k n):=yC fun _=>rfl
theorem fU {b:Bool}:yB 0 h (.bool b) (.bool b):=yC fun _=>rfl
theorem Km:yB 0 h .nils (E.fz []):=yC fun _=>rfl
def HB:AV→Bool
 | .int _ _ | .bool _ | .str _=>true
 | _=>false
theorem ox:∀{cs:List AV} {n:Nat},cs.all HB=true→cs.length+1<n→dw h n cs=some cs
 | [],n,_,hn=>by
  obtain⟨k,rfl⟩:∃k,n=k+1:=⟨n - 1,by omega⟩
  rfl
 | x::cs,n,h1,hn=>by
  obtain⟨k,rfl⟩:∃k,n=k+1+1:=⟨n - 2,by simp at hn; omega⟩
  simp only [abu,aaK] at h1
  simp only [dw]
  have:gI h (k+1) x=some x:=by cases x<;>first | rfl | (simp [HB] at h1)
  rw [this,aaG,ox h1.2 (by simp at hn; omega)]
  rfl
theorem LQ {n:Nat}(o:Has h K)(hq:K[q]? = some (i,.sl n E.n (E.l l)))(hf:∀a:α,(E.f a).all HB=true):yB 0 h (.rs i 0 n E.n) (E.fz l):=fun m hm=>by
 have hn:=cO o hq
 subst hn
 obtain⟨⟨⟨hlen,sr⟩,mE⟩,hlt⟩:=o.at_ _ _ _ hq
 obtain⟨k,rfl,hk⟩:=mS (show ie≤m by omega)
 simp only [gI]
 rcases mE with⟨h0,h1⟩| ⟨h0,rest,h1⟩
 ·have:l=[]:=by simpa using h1
  subst this
  simp [h0,bL.fz,bL.l]
 ·rw [if_neg h0,h1]
  simp only [aaG]
  have e1:((E.l l++rest).drop 0).take (l.length*E.n)=E.l l:=by
   rw [abl,abi (by rw [hlen]; exact aaN _),abo (by rw [hlen]; exact aaN _)]
  rw [if_pos (by rw [aaR,hlen]; omega),e1,ox ?_ (by simp only [ie] at hk; omega)]
  ·rfl
  ·rw [aa1]
   intro x hx
   unfold bL.l at hx
   rw [List.mem_flatMap] at hx
   obtain⟨a,_,ha⟩:=hx
   exact aa1.1 (hf a) x ha
theorem uL:Kl 0 h [] []:=fun n hn=>by
 obtain⟨k,rfl,_⟩:=mS (show ie≤n by omega)
 rfl
theorem jQ {k1 k2:Nat}{x y:AV}{xs ys:List AV}(f:yB k1 h x y)(g:Kl k2 h xs ys):Kl (k1+k2+1) h (x::xs) (y::ys):=fun n hn=>by
 obtain⟨k,rfl⟩:∃k,n=k+1:=⟨n - 1,by omega⟩
 simp only [dw]
 rw [f k (by omega),g k (by omega)]
 rfl
theorem uM {k:Nat}{xs ys:List AV}(f:Kl k h xs ys):yB (k+1) h (.tup xs) (.tup ys):=fun n hn=>by
 obtain⟨k,rfl⟩:∃k,n=k+1:=⟨n - 1,by omega⟩
 simp only [gI]
 rw [f k (by omega)]; rfl
def bH:Nat:=9007199254740992
theorem lZ {k:Nat}{xs ys:List AV}(f:aP k h xs ys)(hk:k≤bH:=by decide):aP bH h xs ys:=fun n hn=>f n (by omega)
def sH (x y:AV):Prop:=x.eu=true∧x.j5=y
def Au (xs ys:List AV):Prop:=cQ xs=true∧dH xs=ys
theorem mV {k:IntKind}{n:Int}:sH (.int k n) (.int k n):=⟨rfl,rfl⟩
theorem Kn {b:Bool}:sH (.bool b) (.bool b):=⟨rfl,rfl⟩
theorem uN {s:ByteArray}:sH (.str s) (.str s):=⟨rfl,rfl⟩
theorem Pz (hp:E.flat=true:=by rfl):sH (E.fz l) (E.fz l):=bL.bp hp
theorem tQ:sH .nils (E.fz []):=⟨rfl,rfl⟩
theorem uO:Au [] []:=⟨rfl,rfl⟩
theorem fV {x y:AV}{xs ys:List AV}(a:sH x y)(b:Au xs ys):Au (x::xs) (y::ys):=⟨by simp [cQ,a.1,b.1],by simp [dH,a.2,b.2]⟩
theorem uP {xs ys:List AV}(a:Au xs ys):sH (.agg xs) (.agg ys):=⟨by simpa [AV.eu] using a.1,by show AV.agg (dH xs)=_; rw [a.2]⟩
end
end Go.R
namespace Go.R
open Go
section
variable {P:Program}{h:AHeap}{K:Mem}{i q:Nat}{cs fQ:List AV}{x z:AV}{t:TypeId}{off:Nat}
theorem gM (o:Has h K)(p4:cs.all AV.bY=true):∃i h',Ak h cs=some (.ptr i 0,h')∧Has h' ((i,.ob cs)::K):=by
 refine⟨h.next,h.alloc (.cells cs),by unfold Ak; rw [if_pos p4],o.new (fun k hk=>by rw [AHeap.alloc,dc,if_neg (by omega)]) (abV _) (.inr (aaN _)) (aby _) ⟨by have:=o.pos; omega,by rw [AHeap.alloc,dc,if_pos rfl]⟩⟩
theorem b6 (o:Has h K)(hq:K[q]? = some (i,.ob cs))(hr:jD P t cs off=some z):bw P h t (.ptr i off)=some z:=by
 obtain⟨⟨h1,h2⟩,_⟩:=o.at_ _ _ _ hq
 simp only [bw,kL,h2,aaG,hr]
theorem pw (o:Has h K)(hq:K[q]? = some (i,.ob cs))(hw:iB P t cs off x=some fQ):∃h',jF P h t (.ptr i off) x=some h'∧Has h' (K.set q (i,.ob fQ)):=by
 obtain⟨⟨h1,h2⟩,_⟩:=o.at_ _ _ _ hq
 exact⟨h.put i (.cells fQ),by simp only [jF,h2,aaG,hw,aaO],jP o hq ⟨h1,by rw [dc,if_pos rfl]⟩⟩
end
theorem oy {x y:AV}(h:sH x y):aN x=y:=by
 unfold aN
 rw [h.1,h.2]; rfl
theorem Ko:([]:List AV).map aN=[]:=rfl
theorem gw {x y:AV}{xs ys:List AV}(a:aN x=y)(b:xs.map aN=ys):(x::xs).map aN=y::ys:=by
 rw [aa3,a,b]
theorem jG {α:Type}{K L:List α}{q:Nat}{p:α}(h:L[q]? = some p):(K++L)[K.length+q]? = some p:=by
 rw [aaZ (by omega),abC,h]
theorem DP {α:Type}{E:bL α}{h:AHeap}{K:Mem}{l:List α}{cs:List AV}(o:Has h K)(hc:cs=E.l l)(hl:l.length≤1024:=by simp) :
  ∃i h',some (AV.rs h.next 0 l.length E.n,h.alloc (.cells cs))=some (AV.rs i 0 l.length E.n,h')∧Has h' ((i,.sl l.length E.n (E.l l))::K):=by
 subst hc
 exact⟨h.next,_,rfl,o.new (fun k hk=>by rw [AHeap.alloc,dc,if_neg (by omega)]) (abV _) (.inr (aaN _)) (aby _) ⟨⟨bL.bS,bL.oV (by omega)⟩,.inr ⟨by have:=o.pos; omega,[],by rw [AHeap.alloc,dc,if_pos rfl]; simp⟩⟩⟩
end Go.R
