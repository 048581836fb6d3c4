/- Part of the proof: RRow, RStep, RWalk, RG1, RG2, RG3, RG4, RT, RG5, RG6, RG7. -/
import Derived.Test.YtmekcfdllhphlaaGreatDoorK3
import Derived.ProofKit
set_option linter.unusedVariables false
set_option linter.unusedSimpArgs false
set_option maxRecDepth 100000
open BitVec renaming ofInt → abx
open Bool renaming and_eq_true → aaF, false_eq_true → aaS, or_eq_true → abt
open Int renaming toNat_natCast → aaH, le_refl → ab9
open List renaming length_append → aaI, getElem?_eq_some_iff → aaK, append_assoc → aaM, length_set → aaN, drop_eq_getElem_cons → aaP, mem_append → aaQ, length_cons → aaR, replicate → aaV, length_map → aaX, getElem?_append_right → aaY, drop_zero → aa3, take_of_length_le → aa4, nil_append → aa5, map_cons → aa6, take_append_of_le_length → aa7, map_append → aa8, mem_cons → abb, all_eq_true → abd, getElem?_append_left → abf, length_nil → abg, getElem?_cons_zero → abk, eq_nil_of_length_eq_zero → abn, append_nil → abu, all_cons → abA, ext_getElem? → abF, take_length → abO, length_take → abP, getElem?_cons_succ → abR, getElem?_set → ab5, flatten_cons → ab6, set_append_right → acf, length_replicate → acg
open Nat renaming le_refl → aaE, zero_add → aaZ, lt_of_lt_of_le → aa9, le_trans → abj, add_assoc → abl, lt_succ_self → abm, beq → abp, mul_le_mul_right → abq, add_sub_cancel_left → abH, add_mul → abJ, lt_succ_of_lt → abK, le_succ → abQ, eq_of_beq_eq_true → abY, mul_one → acj, sub_self → acm, min_eq_left → aco
open Option renaming bind_some → aaA, bind_eq_some_iff → aaB, map_eq_some_iff → aaC, map_some → aaG, isSome_none → acb
open Option.some renaming injEq → aaD
open Prod.mk renaming injEq → aaJ
open UInt8 renaming ofNat → acp
namespace Go.R
open Go
def CL (P:Program)(F:TypeId→List AV→Prop):List Field→List AV→Prop
 | [],xs=>xs=[]
 | f::fs,xs=>∃a b,xs=a++b∧a.length=P.cellsOf f.type∧F f.type a∧CL P F fs b
def Fits (P:Program):Nat→TypeId→List AV→Prop
 | 0,_,_=>False
 | n+1,t,xs=>
  match P.underlying t with
  | some .bool=>∃b,xs=[.bool b]
  | some (.int k)=>∃z,xs=[.int k z]∧k.min≤z∧z≤k.max
  | some .string=>∃s:ByteArray,xs=[.str s]∧s.size≤maxLen
  | some (.slice e)=>xs=[.nils]∨∃rX:List (List AV),xs=[.fz rX.flatten rX.length false]∧rX.length≤maxLen∧∀el∈rX,el.length=P.cellsOf e∧Fits P n e el
  | some (.struct fs)=>CL P (Fits P n) fs.toList xs
  | _=>False
def uv (P:Program):Nat→List Field→Bool
 | _,[]=>true
 | k,f::fs=>abp f.offset k&&uv P (k+P.cellsOf f.type) fs
def nz (P:Program):Nat→TypeId→Bool
 | 0,_=>false
 | n+1,t=>
  match P.underlying t with
  | some .bool | some (.int _) | some .string=>true
  | some (.slice e)=>nz P n e
  | some (.struct fs)=>uv P 0 fs.toList&&abp (P.cellsOf t) ((fs.toList.map fun f=>P.cellsOf f.type).sum)&&fs.toList.all fun f=>nz P n f.type
  | _=>false
theorem mapM_some {α β:Type}{f:α→Option β}:∀{l:List α} {ys:List β},l.mapM f=some ys→ys.length=l.length∧∀(i:Nat) (x:α),l[i]? = some x→∃y,ys[i]? = some y∧f x=some y
 | [],ys,h=>by
  simp at h; subst h
  exact⟨rfl,fun i x hx=>by simp at hx⟩
 | a::l,ys,h=>by
  simp only [List.mapM_cons,Option.bind_eq_bind,aaB,Option.pure_def,aaD] at h
  obtain⟨y,hy,zs,hz,rfl⟩:=h
  obtain⟨h1,h2⟩:=mapM_some hz
  refine⟨by simp [h1],fun i x hx=>?_⟩
  cases i with
  | zero=>simp at hx; subst hx; exact⟨y,rfl,hy⟩
  | succ i=>simpa using h2 i x (by simpa using hx)
theorem CM {w:World}{a:Addr}{v:Value}(h:w.cell? a=some v):w.cell? ⟨a.block,a.off,none⟩=some v∧a.spot=none:=by
 unfold World.cell? at h ⊢
 split at h
 ·rename_i c t fr hb
  rw [hb]
  simp only at h ⊢
  cases hs:a.spot with
  | none=>rw [hs] at h; exact⟨by simpa using h,rfl⟩
  | some _=>rw [hs] at h; simp at h
 ·cases h
theorem ou (a:Addr)(n:Nat):(a.add n).block=a.block∧(a.add n).off=a.off+n:=by
 unfold Addr.add
 split
 ·rename_i h; subst h; exact⟨rfl,rfl⟩
 ·exact⟨rfl,rfl⟩
theorem AH {w:World}{base:Nat}{a:Addr}{n:Nat}{cs:List Value}(h:w.cells? base a n=some cs):cs.length=n∧∀i,i<n→w.cell? ⟨a.block,a.off+i,none⟩=cs[i]?∧(i=0→a.spot=none):=by
 unfold World.cells? at h
 split at h
 ·obtain⟨h1,h2⟩:=mapM_some h
  refine⟨by simpa using h1,fun i hi=>?_⟩
  obtain⟨y,hy,hc⟩:=h2 i i (by simp [hi])
  obtain⟨h3,h4⟩:=CM hc
  rw [(ou a i).1,(ou a i).2] at h3
  refine⟨by rw [h3,hy],fun h0=>?_⟩
  subst h0
  simpa [Addr.add] using h4
 ·cases h
theorem ta {α:Type}{Q:Nat→α→Prop}:∀n,(∀i,i<n→∃x,Q i x)→∃l:List α,l.length=n∧∀i x,l[i]? = some x→Q i x
 | 0,_=>⟨[],rfl,fun i x h=>by simp at h⟩
 | n+1,h=>by
  obtain⟨l,h1,h2⟩:=ta n fun i hi=>h i (by omega)
  obtain⟨x,hx⟩:=h n (by omega)
  refine⟨l++[x],by simp [h1],fun i y hy=>?_⟩
  by_cases hi:i<n
  ·exact h2 i y (by rwa [abf (by omega)] at hy)
  ·rw [aaY (by omega)] at hy
   have:i=n:=by
    have:=(aaK.1 hy).1
    simp at this; omega
   subst this
   simp [h1] at hy
   subst hy; exact hx
theorem Cells.append {c:Cx}{L:Nat→Prop}:∀{xs ys:List AV} {b o:Nat},Cells c L xs b o→Cells c L ys b (o+xs.length)→Cells c L (xs++ys) b o
 | [],ys,b,o,_,h=>by simpa using h
 | x::xs,ys,b,o,h,k=>⟨h.1,Cells.append h.2 (by simpa [abl,Nat.add_comm 1] using k)⟩
theorem Cells.flatten {c:Cx}{L:Nat→Prop}{b size:Nat}:∀(rX:List (List AV)) (o:Nat),(∀i el,rX[i]? = some el→el.length=size∧Cells c L el b (o+i*size))→Cells c L rX.flatten b o
 | [],o,_=>trivial
 | el::rX,o,h=>by
  obtain⟨h1,h2⟩:=h 0 el rfl
  rw [ab6]
  refine Cells.append (by simpa using h2) (Cells.flatten (size:=size) rX _ fun i Yq he=>?_)
  obtain⟨h3,h4⟩:=h (i+1) Yq (by simpa using he)
  refine⟨h3,?_⟩
  rw [h1]
  rwa [show o+size+i*size=o+(i+1)*size by rw [abJ,Nat.one_mul]; omega]
section
variable {H:Type}{enc:TypeId × Value→H}{P:Program}{c:Cx}{sp:Nat→Bool}{held:Bool}
theorem tc {F:TypeId→List AV→Prop}{g:TypeId→List Value→Option (DataW H × List MemPlace)}(hg:∀t cs x,g t cs=some x→cs.length=P.cellsOf t→(∃u:Nat,u=0)→True) :
  ∀(fs:List Field) (k:Nat) (cs:List Value) (xs:List (DataW H × List MemPlace)),uv P k fs=true→(∀f∈fs,∀cs x,g f.type cs=some x→cs.length=P.cellsOf f.type→∃ys,VRs c none0 ys cs∧F f.type ys∧∀v∈cs,v.oneCell'=true)→
   (fs.mapM fun f=>g f.type ((cs.drop f.offset).take (P.cellsOf f.type)))=some xs→k+(fs.map fun f=>P.cellsOf f.type).sum≤cs.length→
   ∃ys,VRs c none0 ys ((cs.drop k).take ((fs.map fun f=>P.cellsOf f.type).sum))∧CL P F fs ys∧∀v∈(cs.drop k).take ((fs.map fun f=>P.cellsOf f.type).sum),v.oneCell'=true
 | [],k,cs,xs,_,_,_,_=>⟨[],by simp [VRs],rfl,by simp⟩
 | f::fs,k,cs,xs,hc,hF,h,hl=>by
  simp only [uv,aaF,beq_nat,decide_eq_true_eq] at hc
  obtain⟨rfl,hc⟩:=hc
  simp only [List.mapM_cons,Option.bind_eq_bind,aaB,Option.pure_def,aaD] at h
  obtain⟨y,hy,zs,hz,rfl⟩:=h
  simp only [aa6,List.sum_cons] at hl ⊢
  have hlen:((cs.drop f.offset).take (P.cellsOf f.type)).length=P.cellsOf f.type:=by simp; omega
  obtain⟨a,ha,Yr,h1⟩:=hF f (by simp) _ _ hy hlen
  obtain⟨b,hb,Ys,h2⟩:=tc hg fs (f.offset+P.cellsOf f.type) cs zs hc (fun f' PI=>hF f' (by simp [PI])) hz (by omega)
  have y7:(cs.drop f.offset).take (P.cellsOf f.type+(fs.map fun f=>P.cellsOf f.type).sum)=(cs.drop f.offset).take (P.cellsOf f.type)++((cs.drop (f.offset+P.cellsOf f.type)).take ((fs.map fun f=>P.cellsOf f.type).sum)):=by
   rw [List.take_add,List.drop_drop]
  rw [y7]
  refine⟨a++b,VRs.append ha hb,⟨a,b,rfl,?_,Yr,Ys⟩,fun v hv=>?_⟩
  ·rw [ha.length,hlen]
  ·rcases aaQ.1 hv with hv | hv
   ·exact h1 v hv
   ·exact h2 v hv
theorem rY (tE:∀id,c.h.get id=none):∀(m:Nat) (t:TypeId) (fuel:Nat) (cs:List Value) (d:DataW H) (ps:List MemPlace),nz P m t=true→DataW.trod enc P c.w 0 sp held fuel t cs=some (d,ps)→
  ∃xs,VRs c none0 xs cs∧Fits P m t xs∧∀v∈cs,v.oneCell'=true
 | 0,_,_,_,_,_,hB,_=>by simp [nz] at hB
 | m+1,t,0,cs,d,ps,hB,h=>by simp [DataW.trod] at h
 | m+1,t,fuel+1,cs,d,ps,hB,h=>by
  have hnl:∀id,¬Live c.h id:=fun id hl=>by have:=hl.2; rw [tE id] at this; cases this
  unfold nz at hB
  unfold Fits
  cases hu:P.underlying t with
  | none=>rw [hu] at hB; cases hB
  | some td=>
  rw [hu] at hB
  cases td<;>simp only at hB ⊢<;>try (cases hB; done)
  ·
   unfold DataW.trod at h
   rw [hu] at h
   split at h<;>first | (rename_i heq; cases heq; done) | skip
   all_goals try (rename_i heq _; cases heq; done)
   all_goals (first | (cases h; done) | skip)
   ·rename_i b _
    exact⟨[.bool b],⟨by simp [VR],trivial⟩,⟨b,rfl⟩,by simp [Value.oneCell']⟩
  ·rename_i k
   unfold DataW.trod at h
   rw [hu] at h
   split at h<;>first | (rename_i heq; cases heq; done) | skip
   all_goals try (rename_i heq _; cases heq; done)
   ·rename_i k' k2 n heq
    cases heq
    split at h
    ·rename_i hk
     obtain⟨rfl,RQ⟩:=hk
     simp only [Lit.wf,aaF,decide_eq_true_eq] at RQ
     exact⟨[.int k2 n],⟨by simp [VR],trivial⟩,⟨n,rfl,RQ⟩,by simp [Value.oneCell']⟩
    ·cases h
   ·cases h
  ·
   unfold DataW.trod at h
   rw [hu] at h
   split at h<;>first | (rename_i heq; cases heq; done) | skip
   all_goals try (rename_i heq _; cases heq; done)
   ·rename_i s _
    split at h
    ·rename_i hs
     exact⟨[.str s],⟨by simp [VR],trivial⟩,⟨s,rfl,hs⟩,by simp [Value.oneCell']⟩
    ·cases h
   ·cases h
  ·
   rename_i e
   unfold DataW.trod at h
   rw [hu] at h
   split at h<;>first | (rename_i heq; cases heq; done) | skip
   all_goals try (rename_i heq _; cases heq; done)
   ·exact⟨[.nils],⟨by simp [VR],trivial⟩,.inl rfl,by simp [Value.oneCell']⟩
   ·rename_i e' a len cap heq
    cases heq
    simp only at h
    split at h
    rotate_left
    ·cases h
    rename_i hbound
    obtain⟨_,hlc,hcap⟩:=hbound
    rw [aaB] at h
    obtain⟨elems,LU,_⟩:=h
    obtain⟨hn,hget⟩:=mapM_some LU
    have key:∀i,i<len→∃el:List AV,el.length=P.cellsOf e∧Fits P m e el∧Cells c none0 el a.block (a.off+i*P.cellsOf e)∧(i=0→0<P.cellsOf e→a.spot=none):=by
     intro i hi
     obtain⟨y,_,hy⟩:=hget i i (by simp [hi])
     rw [aaB] at hy
     obtain⟨Yt,hcs,hy⟩:=hy
     obtain⟨hl,oS⟩:=AH hcs
     obtain⟨el,hv,hf,h1⟩:=rY tE m e fuel Yt y.1 y.2 hB hy
     refine⟨el,by rw [hv.length,hl],hf,Cells.of_vals hv (fun j hj=>?_) h1,fun h0 iZ=>?_⟩
     ·have:=(oS j (by omega)).1
      rwa [(ou a _).1,(ou a _).2] at this
     ·subst h0
      have:=(oS 0 iZ).2 rfl
      simpa [Addr.add] using this
    obtain⟨rX,hl,FJ⟩:=ta len key
    refine⟨[.fz rX.flatten rX.length false],⟨?_,trivial⟩,.inr ⟨rX,rfl,by omega,fun el LU=>?_⟩,by simp [Value.oneCell']⟩
    ·simp only [VR]
     refine⟨some a,cap,by rw [hl],by omega,by simp,.inl rfl,?_⟩
     by_cases M8:rX.flatten=[]
     ·exact .inl M8
     ·have iZ:0<len∧0<P.cellsOf e:=by
       cases rX with
       | nil=>simp at M8
       | cons el rX=>
        refine⟨by simp at hl; omega,?_⟩
        rcases Nat.eq_zero_or_pos (P.cellsOf e) with h0 | h0
        ·exfalso
         apply M8
         rw [List.flatten_eq_nil_iff]
         intro l xy
         obtain⟨i,hi⟩:=List.getElem?_of_mem xy
         have:=(FJ i l hi).1
         exact abn (by omega)
        ·exact h0
      have LV:a.spot=none:=by
       cases rX with
       | nil=>simp at hl; omega
       | cons el rX=>exact (FJ 0 el rfl).2.2.2 rfl iZ.2
      refine .inr ⟨a.block,a.off,?_,⟨fun id hl=>absurd hl (hnl id),fun h=>h.elim⟩,by simp,Cells.flatten rX a.off fun i el hi=>⟨(FJ i el hi).1,(FJ i el hi).2.2.1⟩⟩
      cases a; simp at LV; subst LV; rfl
    ·obtain⟨i,hi⟩:=List.getElem?_of_mem LU
     exact⟨(FJ i el hi).1,(FJ i el hi).2.1⟩
   ·cases h
  ·
   rename_i fs
   simp only [aaF,beq_nat,decide_eq_true_eq,abd] at hB
   obtain⟨⟨Tm,M9⟩,PZ⟩:=hB
   simp only [DataW.trod,hu] at h
   split at h
   rotate_left
   ·cases h
   rename_i hlen
   rw [aaC] at h
   obtain⟨xs,hx,_⟩:=h
   obtain⟨ys,h1,h2,h3⟩:=tc (P:=P) (c:=c) (F:=Fits P m) (g:=fun t cs=>DataW.trod enc P c.w 0 sp held fuel t cs) (fun _ _ _ _ _ _=>trivial) fs.toList 0 cs xs Tm
    (fun f hf cs x hx _=>rY tE m f.type fuel cs x.1 x.2 (PZ f hf) hx) hx (by omega)
   have lT:(cs.drop 0).take ((fs.toList.map fun f=>P.cellsOf f.type).sum)=cs:=by
    rw [aa3,←M9,←hlen,abO]
   rw [lT] at h1 h3
   exact⟨ys,h1,h2,h3⟩
def nA (P:Program)(t:TypeId)(xs:List AV):AV:=
 match P.underlying t with
 | some (.struct _)=>.agg xs
 | _=>xs.headD .any
def qu (P:Program)(m:Nat):List TypeId→List AV→Prop
 | [],[]=>True
 | t::ts,x::vd=>(∃xs,x=nA P t xs∧Fits P m t xs)∧qu P m ts vd
 | _,_=>False
theorem FK {w:World}{m:Nat}{t:TypeId}{v:Value}{base:Nat}(hB:nz P m t=true)(hs:∀fs,P.underlying t≠some (.struct fs))(h:Value.okWide P w .any base t v):v.cells.toList=[v]:=by
 cases m with
 | zero=>simp [nz] at hB
 | succ m=>
 unfold nz at hB
 unfold Value.okWide at h
 cases hu:P.underlying t with
 | none=>rw [hu] at hB; cases hB
 | some td=>
 rw [hu] at hB h
 cases td<;>simp only at hB h<;>first
  | (cases hB; done)
  | (exact absurd hu (hs _))
  | (cases v<;>simp only [Cell.okWide,Cell.ok,hu] at h<;>first | (exact h.elim) | rfl | (simp [Value.cells]))
theorem Hm (tE:∀id,c.h.get id=none){m:Nat}{t:TypeId}{v:Value}{d:DataW H}{ps:List MemPlace}{base:Nat}(hB:nz P m t=true)(ho:Value.okWide P c.w .any base t v)(h:DataW.Trod enc P c.w 0 sp held t v d ps) :
  ∃xs,Fits P m t xs∧VR c none0 (nA P t xs) v:=by
 obtain⟨fuel,h⟩:=h
 obtain⟨xs,h1,h2,_⟩:=rY tE m t fuel _ d ps hB h
 refine⟨xs,h2,?_⟩
 by_cases hs:∃fs,P.underlying t=some (.struct fs)
 ·obtain⟨fs,hs⟩:=hs
  unfold Value.okWide at ho
  rw [hs] at ho
  obtain⟨cs,rfl,_⟩:=ho
  unfold nA
  rw [hs]
  simp only [VR]
  exact⟨cs,rfl,h1⟩
 ·have OP:∀fs,P.underlying t≠some (.struct fs):=fun fs h=>hs ⟨fs,h⟩
  have hc:=FK hB OP ho
  rw [hc] at h1
  have hx:nA P t xs=xs.headD .any:=by
   unfold nA
   split
   ·rename_i fs h; exact absurd h (OP fs)
   ·rfl
  rw [hx]
  cases xs with
  | nil=>exact h1.elim
  | cons x xs=>exact h1.1
theorem AI (tE:∀id,c.h.get id=none){m base:Nat}:∀(ts:List TypeId) (vs:List Value) (ds:List (DataW H)) (ps:List MemPlace),(∀t∈ts,nz P m t=true)→(∀(j:Nat) t v,ts[j]? = some t→vs[j]? = some v→Value.okWide P c.w .any base t v)→
  DataW.TrodAll enc P c.w 0 sp held ts vs ds ps→∃vd,qu P m ts vd∧VRs c none0 vd vs
 | [],[],[],_,_,_,_=>⟨[],trivial,trivial⟩
 | t::ts,v::vs,d::ds,ps,hB,ho,h=>by
  obtain⟨p,q,h1,h2,_⟩:=h
  obtain⟨xs,h3,h4⟩:=Hm tE (hB t (by simp)) (ho 0 t v rfl rfl) h1
  obtain⟨vd,h5,h6⟩:=AI tE ts vs ds q (fun t ht=>hB t (by simp [ht])) (fun j t v hj hv=>ho (j+1) t v (by simpa using hj) (by simpa using hv)) h2
  exact⟨nA P t xs::vd,⟨⟨xs,rfl,h3⟩,h5⟩,h4,h6⟩
 | [],[],_::_,_,_,_,h=>h.elim
 | [],_::_,_,_,_,_,h=>by cases h
 | _::_,[],_,_,_,_,h=>by cases h
 | _::_,_::_,[],_,_,_,h=>by cases h
theorem lC (hl:laidOutB P=true){W W':World}{Wb:Nat→Bool}:∀{ts:List TypeId} {vs:List Value} {ds:List (DataW H)} {ps:List MemPlace},(∀t∈ts,P.readableRec t=true∧t<P.types.size)→
  DataW.TrodAll enc P W 0 (fun _=>true) true ts vs ds ps→(∀p∈ps,W.sameAt W' p)→(∀p∈ps,Wb p.block=true)→DataW.TrodAll enc P W' 0 Wb true ts vs ds ps
 | [],[],[],_,_,h,_,_=>h
 | t::ts,v::vs,d::ds,ps,hr,h,hs,hp=>by
  obtain⟨p,q,h1,h2,rfl⟩:=h
  exact⟨p,q,WideElems.Trod_stays hl (hr t (by simp)).1 (hr t (by simp)).2 h1 (fun x hx=>hs x (by simp [hx])) (fun x hx=>hp x (by simp [hx])),
   lC hl (fun t ht=>hr t (by simp [ht])) h2 (fun x hx=>hs x (by simp [hx])) (fun x hx=>hp x (by simp [hx])),rfl⟩
 | [],[],_::_,_,_,h,_,_=>h.elim
 | [],_::_,_,_,_,h,_,_=>by cases h
 | _::_,[],_,_,_,h,_,_=>by cases h
 | _::_,_::_,[],_,_,h,_,_=>by cases h
theorem FL {f:Func}{s:ChangeSpec}{apart fresh handsOn again:Bool}{W W':World}{args:Array Value}{ds gs:List (DataW H)}{before:List MemPlace}{tb:TypeId}
  (hl:laidOutB P=true) (hr:∀t∈f.params.toList,P.readableRec t=true∧t<P.types.size) (hW:DataW.Whole enc P f.params.toList s.vars apart W args.toList ds gs before) (hv:s.vars=[])
  (Hn:f.resultTypes = #[tb]) (RR:P.underlying tb=some .bool) (Na:(s.fn H (ds++gs))={results:=[.lit (.bool true)],args:=ds}) (hb:RowKit.Below W.heap.size W W') :
  s.post enc P f apart fresh handsOn again W args (.bool true) W':=by
 have hlt:=hW.lt
 have hW0:=hW
 obtain⟨p,q,hA,hV,Wc,hz,hn⟩:=hW
 rw [hv] at hV
 have To:gs=[]∧q=[]:=by
  cases gs with
  | nil=>exact⟨rfl,hV⟩
  | cons g gs=>exact hV.elim
 obtain⟨rfl,rfl⟩:=To
 have Tp:before=p:=by simpa using Wc
 subst Tp
 have LW:∀x∈before,W.sameAt W' x:=fun x hx=>hb.same (hlt x hx)
 have Ho:(Value.bool true).resultList f.resultTypes.size=[.bool true]:=by rw [Hn]; rfl
 have LX:∀(b:Nat) (sp:Nat→Bool) (hd:Bool),DataW.TrodAll enc P W' b sp hd f.resultTypes.toList ((Value.bool true).resultList f.resultTypes.size) [.lit (.bool true)] []:=by
  intro b sp hd
  rw [Ho,Hn]
  exact ChangeShapes.trodAll_mk1 (RowKit.shut_bool RR true)
 refine⟨ds,[],before,[],before,[],hW0,?_,?_,?_,?_,fun _=>⟨?_,?_⟩⟩
 ·rw [Na]; exact LX _ _ _
 ·rw [Na]
  exact lC hl hr hA LW (fun x hx=>by simpa using hlt x hx)
 ·rw [Na,hv]; rfl
 ·exact hb.frame _
 ·exact RowKit.ok_one Hn rfl (RowKit.okWide_bool_mk RR true)
 ·refine⟨_,[],before,⟨[]++before,[],ChangeShapes.trodAll_append (lC hl hr hA LW (fun _ _=>rfl)) (LX 0 _ _),by rw [hv]; rfl,by simp,fun b off hx=>?_,hn⟩,fun p hp _=>hp⟩
  rw [hb.frozen (p:=⟨b,off,none⟩) (hlt _ hx)]
  exact hz b off hx
theorem Ext.below {c c':Cx}(e:Ext c none0 c' none0):RowKit.Below c.base c.w c'.w:=⟨e.os,e.tape,e.output,e.size,fun b hb=>e.exact b hb⟩
theorem w8 {cf:CallF}{CG:FuncId}{f:Func}{s:ChangeSpec}{apart fresh handsOn again:Bool}{m:Nat}{tb:TypeId}
  (hl:laidOutB P=true) (hr:∀t∈f.params.toList,P.readableRec t=true∧t<P.types.size) (hB:∀t∈f.params.toList,nz P m t=true) (hv:s.vars=[]) (Hn:f.resultTypes = #[tb]) (RR:P.underlying tb=some .bool)
  (Na:∀ds:List (DataW H),ds.length=f.params.size→(s.fn H ds)={results:=[.lit (.bool true)],args:=ds})
  (hcf:∀vd,qu P m f.params.toList vd→∃cf h',CallOK P cf∧cf CG vd bS=some (.bool true,h'))
  {W:World} {base:Nat} {args:Array Value} {ds gs:List (DataW H)} {before:List MemPlace} (ep:∀(j:Nat) t v,f.params[j]? = some t→args[j]? = some v→Value.okWide P W .any base t v)
  (hW:DataW.Whole enc P f.params.toList s.vars apart W args.toList ds gs before) :
  Calls P CG args W fun e W'=>∃v,e = .returned v∧s.post enc P f apart fresh handsOn again W args v W':=by
 have hW0:=hW
 obtain⟨p,q,hA,hV,Wc,_,_⟩:=hW
 let c:Cx:=⟨fun _=>(0,0),bS,W,W.heap.size⟩
 obtain⟨vd,h1,h2⟩:=AI (c:=c) (P:=P) (m:=m) (base:=base) (fun _=>rfl) f.params.toList args.toList ds p hB (fun j t v hj hv=>ep j t v (by simpa using hj) (by simpa using hv)) hA
 obtain⟨cf,h',pV,Tq⟩:=hcf vd h1
 have hnl:∀id,¬Live c.h id:=fun id hl=>by have:=hl.2; cases this
 have hcall:=(pV CG vd bS _ _ Tq).2 none0 c args.toList rfl (aaE _) ⟨fun id o ho=>(by cases ho),fun id o ho=>(by cases ho),fun id _ hl _ _=>absurd hl (hnl id),fun id hl=>absurd hl (hnl id),fun b hb=>hb.elim,fun id hl=>absurd hl (hnl id),fun _=>Nat.zero_lt_one⟩ h2
 rw [Array.toArray_toList] at hcall
 have hlen:∀(ts:List TypeId) (vs:List Value) (ds:List (DataW H)) (p:List MemPlace),DataW.TrodAll enc P W 0 (fun _=>true) true ts vs ds p→ds.length=ts.length:=by
  intro ts
  induction ts with
  | nil=>intro vs ds p h; cases vs<;>cases ds<;>first | rfl | (cases h; done) | exact h.elim
  | cons t ts ih=>intro vs ds p h; cases vs<;>cases ds<;>first | (cases h; done) | (obtain⟨_,_,_,h2,_⟩:=h; simp [ih _ _ _ h2])
 have To:gs=[]:=by
  rw [hv] at hV
  cases gs with
  | nil=>rfl
  | cons g gs=>exact hV.elim
 refine hcall.mono ?_
 rintro e w' ⟨c',v,rfl,rfl,hh,DM,hrel,MO⟩
 simp only [VR] at DM
 subst DM
 refine⟨_,rfl,FL hl hr hW0 hv Hn RR ?_ MO.below⟩
 rw [To,abu]
 exact Na ds (by rw [hlen _ _ _ _ hA]; simp)
end
end Go.R
namespace Go.R
open Go
section
variable {P:Program}{cf:CallF}{aN ds:List Nat}{s:RS}{d:Option Tmp}{t:TypeId}{p:String}{a:Array Edge}{g:Option (Nat × Bool)}{ops:List Oper}{ρ:Nat→AV}{bx:Nat→Option (List AV)}{h:AHeap}
variable {A:b9}{m:Nat}{st:St}
end
end Go.R
namespace Go.R
open Go
def sub:List Nat→Code→Code
 | [],c=>c
 | 0::p,.seq a _=>sub p a
 | _::p,.seq _ b=>sub p b
 | 0::p,.cond _ a _=>sub p a
 | _::p,.cond _ _ b=>sub p b
 | _::p,.block _ a=>sub p a
 | _::p,.loop a=>sub p a
 | _,c=>c
def codeOf (f:Func):Code:=f.body.getD .skip
end Go.R
namespace Go.R
open Go
section
variable (P:Program)
def bp (h:AHeap)(t:TypeId)(x:AV):Option AV:=jV P (fun _=>none) h t x
def jO (h:AHeap)(t:TypeId)(a x:AV):Option AHeap:=
 match a with
 | .ptr id off=>(h.get id).bind fun | .cells cs=>(iD P t cs off x).map fun fU=>h.put id (.cells fU) | _=>none
 | _=>none
def LY (cf:CallF)(f:AV)(as:List AV)(h:AHeap):Option (AV × AHeap):=
 match f with
 | .fn f cap=>if as.all AV.mO then cf f (as++cap) h else none
 | _=>none
def AJ (h:AHeap)(cs:List AV):Option (AV × AHeap):=if cs.all AV.dp then some (.ptr h.next 0,h.alloc (.cells cs)) else none
def FM (aN:List Nat)(d:Option Nat):Bool:=match d with | some d=>!aN.contains d | none=>false
def Hp (aN:List Nat)(h:AHeap)(o:Oper)(t:TypeId)(x:Option AV):Option (AV × AHeap):=
 x.bind fun x=>(pn P aN o t x).map fun (cs,n,z)=>(.rs h.next 0 n z,h.alloc (.cells cs))
def Nb (e:Operand→AV)(h:AHeap)(o:Oper)(z:AV):Prop:=
 match o.op with
 | .move x | .assign x=>e x=z
 | .load t a=>bp P h t (e a)=some z
 | .binOp op t x y _=>ml P op t (e x) (e y)=some z
 | .unOp op _ x=>((e x).gp.bind fun a=>(jl P (Op.unary op a)).bind pR)=some z
 | .convert a b x=>eu P h a b (e x)=some z
 | .slice t x lo hi mx=>eN P t (e x) (lo.map e) (hi.map e) (mx.map e)=some z
 | .indexAddr t x i=>ff P t (e x) (e i)=some z
 | .index t x i=>rJ P t (e x) (e i)=some z
 | .lookup t m k ok=>gz P h t (e m) (e k) ok=some z
 | .call {callee:=.builtin .len,args,argTypes}=>match argTypes.toList,args.toList.map e with
  | [t],[x]=>uK P h t x=some z
  | _,_=>False
 | _=>False
def Nc (cf:CallF)(aN:List Nat)(e:Operand→AV)(h:AHeap)(o:Oper)(z:AV)(h':AHeap):Prop:=
 match o.op with
 | .store t a x=>bif o.dst.isSome then False else jO P h t (e a) (e x)=some h'
 | .alloc t=>bif FM aN o.dst then (kB P t).bind (fun z=>AJ h (Fi aN o.dst z.cells))=some (z,h') else False
 | .box _ x=>bif FM aN o.dst then AJ h (e x).cells=some (z,h') else False
 | .buildSlice t n ps=>Hp P aN h o t (ib P t n (ps.toList.map fun (i,x)=>(i,e x)))=some (z,h')
 | .makeMap _ none=>(AV.mp h.next,h.alloc (.map []))=(z,h')
 | .makeSlice t l c=>ic P h t (e l) (e c)=some (z,h')
 | .mapUpdate t m k x | .insert t m k x=>bif o.dst.isSome then False else jq P h t (e m) (e k) (e x)=some h'
 | .call {callee:=.builtin .append,args,argTypes}=>match argTypes.toList,args.toList.map e with
  | [t,t2],[x,y]=>fu P h t t2 x y=some (z,h')
  | _,_=>False
 | .call {callee:=.builtin .copy,args,argTypes}=>match argTypes.toList,args.toList.map e with
  | [t,t2],[x,y]=>xt P h t t2 x y=some (z,h')
  | _,_=>False
 | .call {callee:=.value f,args,..}=>LY cf (e f) (args.toList.map e) h=some (z,h')
 | _=>False
end
abbrev Nd:=List (Nat × AV × Option AHeap)
def ve (P:Program)(cf:CallF)(aN:List Nat)(ops:List Oper):RS→Nat→List Oper→Nd→Option (List uj × RS × Prop)
 | s,_,[],[]=>some ([],s,True)
 | _,_,[],_::_=>none
 | s,i,o::os,zs=>
  (iE ops s.ρ o).bind fun w=>
   bif w then
    match zs with
    | []=>(yC P cf aN (ops.filterMap (·.dst)) s o).bind fun s1=>(ve P cf aN ops s1 (i+1) os []).map fun (l,r,p)=>({o,f:=bo aN (b8 s.ρ) o,s,s':=s1}::l,r,p)
    | (j,z,oh)::xP=>
     bif abp i j then
      match oh with
      | none=>(ve P cf aN ops (s.set o.dst z) (i+1) os xP).map fun (l,r,p)=>({o,f:=bo aN (b8 s.ρ) o,s,s':=s.set o.dst z}::l,r,Nb P (b8 s.ρ) s.h o z∧p)
      | some h'=>(ve P cf aN ops (({s with h:=h'}:RS).set o.dst z) (i+1) os xP).map fun (l,r,p)=>({o,f:=bo aN (b8 s.ρ) o,s,s':=({s with h:=h'}:RS).set o.dst z}::l,r,Nc P cf aN (b8 s.ρ) s.h o z h'∧p)
     else (yC P cf aN (ops.filterMap (·.dst)) s o).bind fun s1=>(ve P cf aN ops s1 (i+1) os zs).map fun (l,r,p)=>({o,f:=bo aN (b8 s.ρ) o,s,s':=s1}::l,r,p)
   else (ve P cf aN ops (s.set o.dst (.tup [])) (i+1) os zs).map fun (l,r,p)=>({o,f:={},s,s':=s.set o.dst (.tup [])}::l,r,p)
section
variable {P:Program}{cf:CallF}{aN:List Nat}
theorem Hq {h:AHeap}{t:TypeId}{x z:AV}{bx:Nat→Option (List AV)}(hh:bp P h t x=some z):jV P bx h t x=some z:=by
 cases x<;>first | exact hh | (simp [bp,jV] at hh)
theorem Ky {s:RS}{o:Oper}{z:AV}(h:Nb P (b8 s.ρ) s.h o z)(ds:List Nat):yC P cf aN ds s o=some (s.set o.dst z):=by
 unfold Nb at h
 unfold yC Cp
 dsimp only
 split at h
 ·rename_i ho; rw [ho]; simp only [h]
 ·rename_i ho; rw [ho]; simp only [h]
 ·rename_i ho; rw [ho]; simp only [Hq h,aaG]
 ·rename_i ho; rw [ho]; simp only [h,aaG]
 ·rename_i ho; rw [ho]; simp only [h,aaG]
 ·rename_i ho; rw [ho]; simp only [h,aaG]
 ·rename_i ho; rw [ho]; simp only [h,aaG]
 ·rename_i ho; rw [ho]; simp only [h,aaG]
 ·rename_i ho; rw [ho]; simp only [h,aaG]
 ·rename_i ho; rw [ho]; simp only [h,aaG]
 ·rename_i ho
  rw [ho]
  split at h
  ·rename_i h1 h2
   simp only [h1,h2,ie,h,aaG]
  ·exact h.elim
 ·exact h.elim
theorem AK {s:RS}{o:Oper}{cs:List AV}{z:AV}{h':AHeap}(hn:FM aN o.dst=true)(h:AJ s.h cs=some (z,h'))(ds:List Nat):iY s aN ds o cs=some (({s with h:=h'}:RS).set o.dst z):=by
 unfold AJ at h
 split at h
 rotate_left
 ·cases h
 rename_i pV
 simp only [aaD,aaJ] at h
 obtain⟨rfl,rfl⟩:=h
 unfold iY
 rw [if_pos pV]
 unfold FM at hn
 split at hn
 ·rename_i d hd
  rw [hd]
  have:aN.contains d=false:=by simpa using hn
  simp only [this,aaS,if_false]
 ·cases hn
theorem Kz {s:RS}{o:Oper}{z:AV}{h':AHeap}(h:Nc P cf aN (b8 s.ρ) s.h o z h')(ds:List Nat):yC P cf aN ds s o=some (({s with h:=h'}:RS).set o.dst z):=by
 unfold Nc at h
 unfold yC Cp
 dsimp only
 split at h
 ·rename_i t a x ho
  rw [ho]
  cases hd:o.dst with
  | some d=>rw [hd] at h; exact h.elim
  | none=>
   rw [hd] at h
   simp only [acb,cond_false] at h
   simp only [acb,aaS,if_false]
   unfold jO at h
   split at h
   ·rename_i id off he
    rw [he]
    simp only [aaB] at h ⊢
    obtain⟨ob,hob,h⟩:=h
    refine⟨ob,hob,?_⟩
    split at h
    ·rw [aaC] at h ⊢
     obtain⟨fU,hcs,rfl⟩:=h
     exact⟨fU,hcs,rfl⟩
    ·cases h
   ·cases h
 ·rename_i t ho
  rw [ho]
  cases hn:FM aN o.dst with
  | false=>rw [hn] at h; exact h.elim
  | true=>
   rw [hn] at h
   simp only [cond_true,aaB] at h
   obtain⟨z0,h1,h2⟩:=h
   simp only [h1,aaA]
   exact AK hn h2 ds
 ·rename_i t x ho
  rw [ho]
  cases hn:FM aN o.dst with
  | false=>rw [hn] at h; exact h.elim
  | true=>
   rw [hn] at h
   exact AK hn h ds
 ·rename_i t n ps ho
  rw [ho]
  unfold Hp at h
  simp only [aaB,aaC] at h
  obtain⟨x,hx,⟨cs,k,q⟩,ht,he⟩:=h
  simp only [aaJ] at he
  obtain⟨rfl,rfl⟩:=he
  simp only [hx,aaG,rL,ht]
 ·rename_i ho
  rw [ho]
  simp only [aaJ] at h
  obtain⟨rfl,rfl⟩:=h
  rfl
 ·rename_i ho; rw [ho]; simp only [h,aaG]
 ·rename_i t m k x ho
  rw [ho]
  cases hd:o.dst with
  | some d=>rw [hd] at h; exact h.elim
  | none=>
   rw [hd] at h
   simp only [acb,cond_false] at h
   simp only [acb,aaS,if_false,h,aaG]
   rfl
 ·rename_i t m k x ho
  rw [ho]
  cases hd:o.dst with
  | some d=>rw [hd] at h; exact h.elim
  | none=>
   rw [hd] at h
   simp only [acb,cond_false] at h
   simp only [acb,aaS,if_false,h,aaG]
   rfl
 ·rename_i ho
  rw [ho]
  split at h
  ·rename_i h1 h2
   simp only [h1,h2,ie,h,aaG]
  ·exact h.elim
 ·rename_i ho
  rw [ho]
  split at h
  ·rename_i h1 h2
   simp only [h1,h2,ie,h,aaG]
  ·exact h.elim
 ·rename_i f args DR ho
  rw [ho]
  unfold LY at h
  split at h
  ·rename_i g cap he
   dsimp only
   rw [he]
   split at h
   ·rename_i pV
    simp only [pV,if_true,h,aaG]
   ·cases h
  ·cases h
 ·exact h.elim
theorem DY {ops:List Oper}:∀{l:List Oper} {s r:RS} {i:Nat} {zs:Nd} {es:List uj} {p:Prop},ve P cf aN ops s i l zs=some (es,r,p)→p→rO P cf aN ops s l=some (es,r)∧tA P cf aN ops s l=some r
 | [],s,r,i,[],es,p,h,_=>by
  simp only [ve,aaD,aaJ] at h
  obtain⟨rfl,rfl,rfl⟩:=h
  exact⟨rfl,rfl⟩
 | [],s,r,i,_::_,es,p,h,_=>by simp [ve] at h
 | o::os,s,r,i,zs,es,p,h,hp=>by
  simp only [ve,aaB] at h
  obtain⟨w,hw,h⟩:=h
  have fin:∀(s1:RS) (l:List uj) (xP:Nd) (q:Prop),(if w then yC P cf aN (ops.filterMap (·.dst)) s o else some (s.set o.dst (.tup [])))=some s1→ve P cf aN ops s1 (i+1) os xP=some (l,r,q)→q→
    rO P cf aN ops s (o::os)=some ({o,f:=if w then bo aN (b8 s.ρ) o else {},s,s':=s1}::l,r)∧tA P cf aN ops s (o::os)=some r:=by
   intro s1 l xP q h1 h2 hq
   obtain⟨h3,h4⟩:=DY h2 hq
   refine⟨?_,?_⟩
   ·simp only [rO,hw,aaA,h1,h3,aaG]
   ·simp only [tA,nj,hw,aaA,h1,h4]
  cases w with
  | false=>
   simp only [cond_false,aaC] at h
   obtain⟨⟨l,r',q⟩,h2,he⟩:=h
   simp only [aaJ] at he
   obtain⟨rfl,rfl,rfl⟩:=he
   simpa using fin _ l zs q (by simp) h2 hp
  | true=>
   simp only [cond_true] at h
   split at h
   ·simp only [aaB,aaC] at h
    obtain⟨s1,h1,⟨l,r',q⟩,h2,he⟩:=h
    simp only [aaJ] at he
    obtain⟨rfl,rfl,rfl⟩:=he
    simpa using fin _ l [] q (by simpa using h1) h2 hp
   ·rename_i j z oh xP
    cases hj:abp i j with
    | false=>
     rw [hj] at h
     simp only [cond_false,aaB,aaC] at h
     obtain⟨s1,h1,⟨l,r',q⟩,h2,he⟩:=h
     simp only [aaJ] at he
     obtain⟨rfl,rfl,rfl⟩:=he
     simpa using fin _ l _ q (by simpa using h1) h2 hp
    | true=>
     rw [hj] at h
     simp only [cond_true] at h
     split at h
     ·simp only [aaC] at h
      obtain⟨⟨l,r',q⟩,h2,he⟩:=h
      simp only [aaJ] at he
      obtain⟨rfl,rfl,rfl⟩:=he
      simpa using fin _ l _ q (by simpa using Ky hp.1 _) h2 hp.2
     ·simp only [aaC] at h
      obtain⟨⟨l,r',q⟩,h2,he⟩:=h
      simp only [aaJ] at he
      obtain⟨rfl,rfl,rfl⟩:=he
      simpa using fin _ l _ q (by simpa using Kz hp.1 _) h2 hp.2
end
def vf (s:RS):List (Nat × Option Nat × Nat)→List (AV × AHeap)→Option (RS × Prop)
 | [],_=>some (s,True)
 | (t,i,k)::ps,zs=>
  match i with
  | none=>
   match k,s.ρ t,zs with
   | 0,.rs id off n z,(y,h')::xP=>(vf {s with h:=h',ρ:=fun u=>bif abp u t then y else s.ρ u} ps xP).map fun (r,p)=>(r,lJ 0 s.h (.rs id off n z)=some (y,h')∧p)
   | k,x,zs=>(lJ k s.h x).bind fun (y,h')=>vf {s with h:=h',ρ:=fun u=>bif abp u t then y else s.ρ u} ps zs
  | some i=>
   match s.bx t with
   | some cs=>(cs[i]?).bind fun x=>
    match k,x,zs with
    | 0,.rs id off n z,(y,h')::xP=>(vf {s with h:=h',bx:=fun u=>bif abp u t then some (cs.set i y) else s.bx u} ps xP).map fun (r,p)=>(r,lJ 0 s.h (.rs id off n z)=some (y,h')∧p)
    | k,x,zs=>(lJ k s.h x).bind fun (y,h')=>vf {s with h:=h',bx:=fun u=>bif abp u t then some (cs.set i y) else s.bx u} ps zs
   | none=>none
theorem y8:∀{ps:List (Nat × Option Nat × Nat)} {s r:RS} {zs:List (AV × AHeap)} {p:Prop},vf s ps zs=some (r,p)→p→mw s ps=some r
 | [],s,r,zs,p,h,_=>by
  simp only [vf,aaD,aaJ] at h
  obtain⟨rfl,rfl⟩:=h
  rfl
 | (t,i,k)::ps,s,r,zs,p,h,hp=>by
  cases i with
  | none=>
   have fin:∀(y:AV) (h':AHeap) (xP:List (AV × AHeap)) (q:Prop),lJ k s.h (s.ρ t)=some (y,h')→vf {s with h:=h',ρ:=fun u=>bif abp u t then y else s.ρ u} ps xP=some (r,q)→q→mw s ((t,none,k)::ps)=some r:=by
    intro y h' xP q h1 h2 hq
    simp only [mw,yG,h1,aaG,aaA]
    exact y8 h2 hq
   simp only [vf] at h
   split at h
   ·rename_i id off n z y h' xP hx
    rw [aaC] at h
    obtain⟨⟨r',q⟩,h2,he⟩:=h
    simp only [aaJ] at he
    obtain⟨rfl,rfl⟩:=he
    exact fin y h' xP q (by rw [hx]; exact hp.1) h2 hp.2
   ·rw [aaB] at h
    obtain⟨⟨y,h'⟩,h1,h2⟩:=h
    exact fin y h' _ p h1 h2 hp
  | some i=>
   simp only [vf] at h
   split at h
   rotate_left
   ·cases h
   rename_i cs hcs
   rw [aaB] at h
   obtain⟨x,hx,h⟩:=h
   have fin:∀(y:AV) (h':AHeap) (xP:List (AV × AHeap)) (q:Prop),lJ k s.h x=some (y,h')→vf {s with h:=h',bx:=fun u=>bif abp u t then some (cs.set i y) else s.bx u} ps xP=some (r,q)→q→mw s ((t,some i,k)::ps)=some r:=by
    intro y h' xP q h1 h2 hq
    simp only [mw,yG,hcs,hx,aaA,h1,aaG]
    exact y8 h2 hq
   split at h
   ·rename_i id off n z y h' xP
    rw [aaC] at h
    obtain⟨⟨r',q⟩,h2,he⟩:=h
    simp only [aaJ] at he
    obtain⟨rfl,rfl⟩:=he
    exact fin y h' xP q hp.1 h2 hp.2
   ·rw [aaB] at h
    obtain⟨⟨y,h'⟩,h1,h2⟩:=h
    exact fin y h' _ p h1 h2 hp
def uj.uw (x y:uj):Bool:=
 (match x.f.wb with
  | some k=>!y.f.rb.contains k&&y.f.wb != some k
  | none=>true) &&
 (!x.f.wh||(!y.f.wh&&y.f.rh.isEmpty))
def Hr (ops:List Oper)(arr:Array Oper)(s:RS)(es:List uj):Bool:=
 let ms:=kD [] ops
 rN arr ms &&
  (let is:=es.zipIdx
   let GR:=is.filter fun (x,_)=>!x.f.quiet
   GR.all (fun (x,i)=>yE ms (ops.filterMap (·.dst)) s is x i&&GR.all fun (y,j)=>Nat.ble j i||(ms.getD j 0).testBit i||(x.uw y&&y.uw x)))
theorem vg {x y:uj}(h:x.uw y=true):x.rM y=true:=by
 unfold uj.uw at h
 unfold uj.rM
 simp only [aaF,abt] at h ⊢
 refine⟨h.1,h.2.imp id fun ⟨h1,h2⟩=>⟨h1,?_⟩⟩
 rw [List.isEmpty_iff] at h2
 rw [h2]; rfl
theorem KA {P:Program}{cf:CallF}{aN:List Nat}{ops:Array Oper}{s r:RS}{es:List uj}(h:Hr ops.toList ops s es=true)(hr:rO P cf aN ops.toList s ops.toList=some (es,r)):mr P cf aN ops s=some r:=by
 unfold Hr at h
 simp only [aaF] at h
 obtain⟨h1,h2⟩:=h
 unfold mr
 simp only [h1,if_true,hr,aaA]
 rw [if_pos]
 rw [abd] at h2 ⊢
 intro x hx
 have:=h2 x hx
 simp only [aaF] at this ⊢
 refine⟨this.1,?_⟩
 have h3:=this.2
 rw [abd] at h3 ⊢
 intro y hy
 have:=h3 y hy
 simp only [abt,aaF] at this ⊢
 exact this.imp id fun h=>⟨vg h.1,vg h.2⟩
def oW (P:Program)(cf:CallF)(A:b9)(c:Code)(fs:List (AV × AHeap))(zs:Nd)(st:St):Option (Prop × St):=
 match c with
 | .region id ops draw=>(vf (st.open A) (ig id A.lI) fs).bind fun (s0,p0)=>(ve P cf A.aN ops.toList s0 0 ops.toList zs).bind fun (es,r,p)=>
   bif draw && !(Hr ops.toList ops s0 es) then none else (mw r (ig id A.Fj)).map fun r2=>(p0∧p,r2.oP A id)
 | _=>none
theorem Hs {P:Program}{cf:CallF}{A:b9}{m:Nat}{c:Code}{fs:List (AV × AHeap)}{zs:Nd}{st kx:St}{p:Prop}(h:oW P cf A c fs zs st=some (p,kx))(hp:p):b4 P cf A m c st=some (.norm,kx):=by
 unfold oW at h
 split at h
 rotate_left
 ·cases h
 rename_i id ops draw
 simp only [aaB] at h
 obtain⟨⟨s0,p0⟩,h0,⟨es,r,q⟩,h1,h⟩:=h
 have hd:∃r2,(draw=true→Hr ops.toList ops s0 es=true)∧mw r (ig id A.Fj)=some r2∧p=(p0∧q)∧kx=r2.oP A id:=by
  cases hc:(draw && !(Hr ops.toList ops s0 es)) with
  | true=>simp only [hc,cond_true] at h; cases h
  | false=>
   simp only [hc,cond_false,aaC,aaJ] at h
   obtain⟨r2,h2,h3,h4⟩:=h
   refine⟨r2,fun FC=>?_,h2,h3.symm,h4.symm⟩
   simpa [FC] using hc
 obtain⟨r2,FC,h2,rfl,rfl⟩:=hd
 obtain⟨g1,g2⟩:=DY h1 hp.2
 have g0:=y8 h0 hp.1
 simp only [b4,g0,aaA]
 cases draw with
 | false=>simp only [aaS,if_false,g2,aaA,h2,aaG]
 | true=>simp only [if_true,KA (FC rfl) g1,aaA,h2,aaG]
end Go.R
namespace Go.R
open Go
def dA (P:Program)(cf:CallF)(A:b9)(m:Nat)(c:Code)(s:St)(Q:Ex→St→Prop):Prop:=∃e s',b4 P cf A m c s=some (e,s')∧Q e s'
def Nf (R:St→Prop)(Q:Ex→St→Prop):Ex→St→Prop
 | .norm,s=>R s
 | .exit i,s=>Q (.exit i) s
 | .ret,s=>Q .ret s
def Tt (id:Nat)(Q:Ex→St→Prop):Ex→St→Prop
 | .norm,s=>Q .norm s
 | .exit i,s=>bif abp i id then Q .norm s else Q (.exit i) s
 | .ret,s=>Q .ret s
section
variable {P:Program}{cf:CallF}{A:b9}{m:Nat}{s:St}{Q:Ex→St→Prop}
theorem qv {a b:Code}(h:dA P cf A m a s (Nf (fun s'=>dA P cf A m b s' Q) Q)):dA P cf A m (.seq a b) s Q:=by
 obtain⟨e,s',h1,h2⟩:=h
 cases e with
 | norm=>
  obtain⟨e2,s2,h3,h4⟩:=h2
  exact⟨e2,s2,by simp only [b4,h1,aaA,h3],h4⟩
 | exit i=>exact⟨_,s',by simp only [b4,h1,aaA],h2⟩
 | ret=>exact⟨_,s',by simp only [b4,h1,aaA],h2⟩
theorem CN {id:Nat}{a:Code}(h:dA P cf A m a s (Tt id Q)):dA P cf A m (.block id a) s Q:=by
 obtain⟨e,s',h1,h2⟩:=h
 cases e with
 | norm=>exact⟨_,s',by simp only [b4,h1,aaG],h2⟩
 | exit i=>
  simp only [Tt,beq_nat] at h2
  by_cases hi:i=id
  ·simp only [hi,decide_true,cond_true] at h2
   exact⟨_,s',by simp only [b4,h1,aaG,hi,if_true],h2⟩
  ·simp only [hi,decide_false,cond_false] at h2
   exact⟨_,s',by simp only [b4,h1,aaG,hi,if_false],h2⟩
 | ret=>exact⟨_,s',by simp only [b4,h1,aaG],h2⟩
theorem vh {c:Code}{fs:List (AV × AHeap)}{zs:Nd}{kx:St}{p:Prop}(h:oW P cf A c fs zs s=some (p,kx))(hp:p)(hQ:Q .norm kx):dA P cf A m c s Q:=
 ⟨_,_,Hs h hp,hQ⟩
theorem FN (h:Q .norm s):dA P cf A m .skip s Q:=⟨_,_,rfl,h⟩
theorem AL (h:Q .ret s):dA P cf A m .ret s Q:=⟨_,_,rfl,h⟩
theorem FO {i:Nat}(h:Q (.exit i) s):dA P cf A m (.exit i) s Q:=⟨_,_,rfl,h⟩
theorem rZ {k:Operand}{x y:Code}(b:Bool)(hk:b8 (s.open A).ρ k = .bool b)(ht:b=true→dA P cf A m x s Q)(hf:b=false→dA P cf A m y s Q):dA P cf A m (.cond k x y) s Q:=by
 cases b with
 | true=>
  obtain⟨e,s',h1,h2⟩:=ht rfl
  exact⟨e,s',by simp only [b4,hk,uN,aaA,if_true,h1],h2⟩
 | false=>
  obtain⟨e,s',h1,h2⟩:=hf rfl
  exact⟨e,s',by simp only [b4,hk,uN,aaA,aaS,if_false,h1],h2⟩
theorem CO {c c':Code}(h:c=c')(k:dA P cf A m c' s Q):dA P cf A m c s Q:=h ▸ k
def Ht {S O:Type}(l:Nat→S→Option O)(Rel:S→St→Prop)(QO:O→Ex→St→Prop)(k:Nat)(out:O):Ex→St→Prop
 | .norm,s=>∃σ,Rel σ s∧l k σ=some out
 | .exit i,s=>QO out (.exit i) s
 | .ret,s=>QO out .ret s
theorem vi {S O:Type}{l:Nat→S→Option O}{Rel:S→St→Prop}{QO:O→Ex→St→Prop}{body:Code}(h0:∀σ,l 0 σ=none)
  (step:∀k σ s out,Rel σ s→l (k+1) σ=some out→dA P cf A m body s (Ht l Rel QO k out)):∀(n:Nat) (σ:S) (s:St) (out:O),Rel σ s→l n σ=some out→∃e s',lK (b4 P cf A m body) n s=some (e,s')∧e≠.norm∧QO out e s'
 | 0,σ,s,out,_,h=>by rw [h0] at h; cases h
 | n+1,σ,s,out,hr,h=>by
  obtain⟨e,s',h1,h2⟩:=step n σ s out hr h
  cases e with
  | norm=>
   obtain⟨σ',h3,h4⟩:=h2
   obtain⟨e',Yu,h5,h6⟩:=vi h0 step n σ' s' out h3 h4
   exact⟨e',Yu,by simp only [lK,h1,aaA,h5],h6⟩
  | exit i=>exact⟨_,s',by simp only [lK,h1,aaA],by simp,h2⟩
  | ret=>exact⟨_,s',by simp only [lK,h1,aaA],by simp,h2⟩
theorem FP {S O:Type}(l:Nat→S→Option O)(Rel:S→St→Prop)(QO:O→Ex→St→Prop){body:Code}(h0:∀σ,l 0 σ=none)
  (step:∀k σ s out,Rel σ s→l (k+1) σ=some out→dA P cf A m body s (Ht l Rel QO k out)) {σ:S} {out:O} (hr:Rel σ s) (h:l m σ=some out) (hQ:∀e s',e≠.norm→QO out e s'→Q e s'):dA P cf A m (.loop body) s Q:=by
 obtain⟨e,s',h1,h2,h3⟩:=vi h0 step m σ s out hr h
 exact⟨e,s',by simp only [b4,h1],hQ e s' h2 h3⟩
theorem y9 {aV:FuncId→b9}{f:FuncId}{fn:Func}{args:List AV}{h:AHeap}{R:AV→AHeap→Prop}(hf:P.funcs[f]? = some fn)(hb:fn.body=some (codeOf fn))(hn:Nat.ble args.length fn.ntmps=true)
  (he:dA P cf (aV f) m (codeOf fn) ⟨nk (aV f).keep args,(aV f).aN.map fun _=>none,h⟩ (fun e s=>(e = .ret∨e = .norm)∧∃r,aH P (s.open (aV f)) fn.results.toList=some r∧R r s.h)) :
  ∃r h',bg P aV cf m f args h=some (r,h')∧R r h':=by
 obtain⟨e,s,h1,h2,r,h3,h4⟩:=he
 refine⟨r,s.h,?_,h4⟩
 unfold bg
 rw [hf,aaA,hb,aaA,if_pos (Nat.le_of_ble_eq_true hn),h1,aaA]
 rcases h2 with rfl | rfl<;>simp only [h3,aaG]
end
end Go.R
namespace Go.R
open Go
structure da (α:Type) where
 n:Nat
 f:α→List AV
 len:∀a,(f a).length=n
 pos:n≠0
 small:n≤1024:=by decide
 flat:Bool:=true
 pure:∀a,flat=true→ef (f a)=true∧fE (f a)=f a
 canon:∀a,(f a).map pk=f a
section
variable {α:Type}(E:da α)
def da.l (l:List α):List AV:=l.flatMap E.f
def da.fz (l:List α):AV:=.fz (E.l l) l.length false
variable {E}
theorem da.eF {a:α}{l:List α}:E.l (a::l)=E.f a++E.l l:=rfl
theorem da.LZ:E.l []=[]:=rfl
theorem da.lV {a b:List α}:E.l (a++b)=E.l a++E.l b:=by simp [da.l]
theorem da.dc:∀{l:List α},(E.l l).length=l.length*E.n
 | []=>by simp [da.l]
 | a::l=>by rw [da.eF,aaI,E.len,da.dc,aaR,abJ,Nat.one_mul,Nat.add_comm]
theorem da.ov {l:List α}(h:l.length≤1099511627776):(E.l l).length≤1125899906842624:=by
 rw [da.dc]
 exact abj (Nat.mul_le_mul h E.small) (by decide)
theorem da.za:∀{l:List α} {i:Nat},(E.l l).drop (i*E.n)=E.l (l.drop i)
 | l,0=>by simp
 | [],i+1=>by simp [da.l]
 | a::l,i+1=>by
  rw [List.drop_succ_cons,←da.za,da.eF,abJ,Nat.one_mul,List.drop_append,List.drop_of_length_le (by rw [E.len]; omega),aa5,E.len,Nat.add_sub_cancel]
theorem da.Hu:∀{l:List α} {i:Nat},(E.l l).take (i*E.n)=E.l (l.take i)
 | l,0=>by simp [da.l]
 | [],i+1=>by simp [da.l]
 | a::l,i+1=>by
  rw [da.eF,List.take_succ_cons,da.eF,abJ,Nat.one_mul,Nat.add_comm,List.take_append]
  rw [E.len,aa4 (by rw [E.len]; omega),abH,da.Hu]
theorem da.L2 {l:List α}{i:Nat}{a:α}(h:l[i]? = some a){off:Nat}(ho:off<E.n):(E.l l)[i*E.n+off]? = (E.f a)[off]?:=by
 rw [←List.getElem?_drop,da.za,aaP (aaK.1 h).1,(aaK.1 h).2,da.eF,abf (by rw [E.len]; exact ho)]
theorem da.Hv {l:List α}{i:Nat}{a:α}(h:l[i]? = some a):((E.l l).drop (i*E.n)).take E.n=E.f a:=by
 rw [da.za,aaP (aaK.1 h).1,(aaK.1 h).2,da.eF,aa7 (by rw [E.len]; exact aaE _)]
 rw [aa4 (by rw [E.len]; exact aaE _)]
theorem da.CP {l:List α}{i:Nat}{a:α}(h:l[i]? = some a):i*E.n+E.n≤(E.l l).length:=by
 rw [da.dc]
 have:=(aaK.1 h).1
 calc i*E.n+E.n=(i+1)*E.n:=by rw [abJ,Nat.one_mul]
  _≤_:=abq _ this
theorem qw:∀{a b:List AV},ef (a++b)=(ef a&&ef b)
 | [],b=>by simp [ef]
 | x::a,b=>by simp [ef,qw,Bool.and_assoc]
theorem qy:∀{a b:List AV},fE (a++b)=fE a++fE b
 | [],b=>rfl
 | x::a,b=>by simp [fE,qy]
theorem da.r6 (hp:E.flat=true):∀{l:List α},ef (E.l l)=true∧fE (E.l l)=E.l l
 | []=>⟨rfl,rfl⟩
 | a::l=>by
  obtain⟨h1,h2⟩:=E.pure a hp
  obtain⟨h3,h4⟩:=da.r6 hp (l:=l)
  rw [da.eF,qw,qy,h1,h2,h3,h4]
  exact⟨rfl,rfl⟩
theorem da.zb:∀{l:List α},(E.l l).map pk=E.l l
 | []=>rfl
 | a::l=>by rw [da.eF,aa8,E.canon,da.zb]
theorem da.ow {l:List α}(hp:E.flat=true:=by rfl):(E.fz l).eY=true∧(E.fz l).lu=E.fz l:=by
 obtain⟨h1,h2⟩:=da.r6 (E:=E) hp (l:=l)
 exact⟨h1,by show AV.fz (fE (E.l l)) l.length false=_; rw [h2]; rfl⟩
theorem lD:∀(cs vs pre Ng:List AV),cs.length=vs.length→en (pre++cs++Ng) pre.length vs=pre++vs++Ng
 | [],[],pre,Ng,_=>by simp [en]
 | c::cs,v::vs,pre,Ng,h=>by
  have:=lD cs vs (pre++[v]) Ng (by simpa using h)
  simp only [aaI,aaR,abg,aaZ] at this
  rw [en]
  have h2:(pre++c::cs++Ng).set pre.length v=pre++[v]++cs++Ng:=by
   rw [aaM,acf _ _ (aaE _),acm]
   simp
  rw [h2,this]
  simp
 | [],_::_,_,_,h=>by simp at h
 | _::_,[],_,_,h=>by simp at h
theorem da.Hw {l:List α}{i:Nat}{a b:α}(h:l[i]? = some a)(rest:List AV):en (E.l l++rest) (i*E.n) (E.f b)=E.l (l.set i b)++rest:=by
 have hi:=(aaK.1 h).1
 have hl:l=l.take i++a::l.drop (i+1):=by
  conv=>lhs; rw [←List.take_append_drop i l,aaP hi]
  rw [(aaK.1 h).2]
 have hs:l.set i b=l.take i++b::l.drop (i+1):=List.set_eq_take_append_cons_drop .. |>.trans (by rw [if_pos hi])
 have e1:E.l l=E.l (l.take i)++E.f a++E.l (l.drop (i+1)):=by
  conv=>lhs; rw [hl]
  rw [da.lV,da.eF,aaM]
 have e2:(E.l (l.take i)).length=i*E.n:=by rw [da.dc,abP,aco (Nat.le_of_lt hi)]
 rw [hs,da.lV,da.eF,e1,←e2]
 have:=lD (E.f a) (E.f b) (E.l (l.take i)) (E.l (l.drop (i+1))++rest) (by rw [E.len,E.len])
 simp only [aaM] at this ⊢
 exact this
theorem da.Nh {l:List α}{i:Nat}{a b:α}{off:Nat}{v:AV}(h:l[i]? = some a)(ho:off<E.n)(hb:(E.f a).set off v=E.f b)(rest:List AV):(E.l l++rest).set (i*E.n+off) v=E.l (l.set i b)++rest:=by
 have hi:=(aaK.1 h).1
 have hl:l=l.take i++a::l.drop (i+1):=by
  conv=>lhs; rw [←List.take_append_drop i l,aaP hi]
  rw [(aaK.1 h).2]
 have hs:l.set i b=l.take i++b::l.drop (i+1):=List.set_eq_take_append_cons_drop .. |>.trans (by rw [if_pos hi])
 have e1:E.l l=E.l (l.take i)++(E.f a++E.l (l.drop (i+1))):=by
  conv=>lhs; rw [hl]
  rw [da.lV,da.eF]
 have e2:(E.l (l.take i)).length=i*E.n:=by rw [da.dc,abP,aco (Nat.le_of_lt hi)]
 rw [hs,da.lV,da.eF,e1,←hb,←e2]
 simp only [aaM]
 rw [acf _ _ (by omega),List.set_append_left _ _ (by rw [E.len]; omega)]
 congr 2
 simp
end
def ix {α:Type}(l:List α)(i:Int):Option α:=if 0≤i then l[i.toNat]? else none
theorem hH {α:Type}{l:List α}{i:Int}{a:α}(h:ix l i=some a):0≤i∧i<l.length∧l[i.toNat]? = some a:=by
 unfold ix at h
 split at h
 ·rename_i h0
  have:=(aaK.1 h).1
  exact⟨h0,by omega,h⟩
 ·cases h
def upd {α:Type}(l:List α)(i:Int)(a:α):Option (List α):=if 0≤i∧i<l.length then some (l.set i.toNat a) else none
def kU {α:Type}(l:List α)(lo hi:Int):Option (List α):=if 0≤lo∧lo≤hi∧hi≤l.length then some ((l.drop lo.toNat).take (hi.toNat - lo.toNat)) else none
theorem lW {α:Type}{l r:List α}{lo hi:Int}(h:kU l lo hi=some r):0≤lo∧lo≤hi∧hi≤l.length∧r=(l.drop lo.toNat).take (hi.toNat - lo.toNat):=by
 unfold kU at h
 split at h
 ·rename_i h0; cases h; exact⟨h0.1,h0.2.1,h0.2.2,rfl⟩
 ·cases h
def bt (s:ByteArray)(i:Int):Option Int:=if 0≤i then (s.data.toList[i.toNat]?).map fun b=>(b.toNat:Int) else none
inductive Ct where
 | sl (n sz:Nat) (cs:List AV)
 | ob (cs:List AV)
 | mp (es:List (AV × AV))
 | row (e:TypeId) (cs:List AV)
def FQ (h:AHeap)(i:Nat):Ct→Prop
 | .sl n sz cs=>(cs.length=n*sz∧cs.length≤1125899906842624)∧((i=0∧n=0)∨(i≠0∧∃rest,h.get i=some (.cells (cs++rest))))
 | .ob cs=>i≠0∧h.get i=some (.cells cs)
 | .mp es=>i≠0∧h.get i=some (.map es)
 | .row e cs=>i≠0∧h.get i=some (.row e cs)
abbrev Mem:=List (Nat × Ct)
structure Has (h:AHeap)(K:Mem):Prop where
 at_:∀(j i:Nat) (c:Ct),K[j]? = some (i,c)→FQ h i c∧i<h.next
 nd:∀(j j' i:Nat) (c c':Ct),K[j]? = some (i,c)→K[j']? = some (i,c')→i≠0→j=j'
 pos:0<h.next
theorem vj {h h':AHeap}{i:Nat}{c:Ct}(hg:i≠0→h'.get i=h.get i)(h1:FQ h i c):FQ h' i c:=by
 cases c with
 | sl n sz cs=>
  obtain⟨h2,h3⟩:=h1
  refine⟨h2,h3.imp id fun ⟨h4,r,h5⟩=>⟨h4,r,(hg h4).trans h5⟩⟩
 | ob cs=>exact⟨h1.1,(hg h1.1).trans h1.2⟩
 | mp es=>exact⟨h1.1,(hg h1.1).trans h1.2⟩
 | row e cs=>exact⟨h1.1,(hg h1.1).trans h1.2⟩
theorem cU (h:AHeap)(id k:Nat)(o:AObj):(h.put id o).get k=if k=id then some o else h.get k:=by
 simp only [AHeap.put,beq_nat]
 by_cases hk:k=id<;>simp [hk]
theorem vk (h:AHeap)(id k:Nat):(h.kill id).get k=if k=id then none else h.get k:=by
 simp only [AHeap.kill,beq_nat]
 by_cases hk:k=id<;>simp [hk]
theorem Has.FR {h h':AHeap}{K:Mem}(o:Has h K){j i:Nat}{c:Ct}(hj:K[j]? = some (i,c)){i':Nat}{c':Ct}
  (hg:∀k,k≠i→k<h.next→h'.get k=h.get k) (hn:h.next≤h'.next) (hi:i'=i∨i'=0∨h.next≤i') (hlt:i'<h'.next) (hc:FQ h' i' c'):Has h' (K.set j (i',c')):=by
 refine⟨fun q k d hq=>?_,fun q q' k d d' hq Aq hk=>?_,aa9 o.pos hn⟩
 ·rw [ab5] at hq
  by_cases h1:j=q
  ·subst h1
   rw [if_pos rfl] at hq
   split at hq
   ·cases hq; exact⟨hc,hlt⟩
   ·cases hq
  ·rw [if_neg h1] at hq
   obtain⟨g1,g2⟩:=o.at_ q k d hq
   refine⟨vj (fun hk=>hg k (fun he=>?_) g2) g1,aa9 g2 hn⟩
   subst he
   exact h1 (o.nd j q k c d hj hq hk)
 ·rw [ab5] at hq Aq
  have old:∀(q:Nat) (d:Ct),j≠q→K[q]? = some (k,d)→k≠i':=by
   intro x y hne hx he
   rcases hi with h1 | h1 | h1
   ·exact hne (o.nd j x k c y (by rw [he,h1]; exact hj) hx hk)
   ·exact hk (he.trans h1)
   ·have:=(o.at_ x k y hx).2; omega
  by_cases h1:j=q<;>by_cases h2:j=q'
  ·rw [←h1,h2]
  ·subst h1
   rw [if_pos rfl] at hq
   rw [if_neg h2] at Aq
   split at hq
   ·cases hq; exact absurd rfl (old q' d' h2 Aq)
   ·cases hq
  ·subst h2
   rw [if_pos rfl] at Aq
   rw [if_neg h1] at hq
   split at Aq
   ·cases Aq; exact absurd rfl (old q d h1 hq)
   ·cases Aq
  ·rw [if_neg h1] at hq; rw [if_neg h2] at Aq
   exact o.nd q q' k d d' hq Aq hk
theorem Has.new {h h':AHeap}{K:Mem}(o:Has h K){i:Nat}{c:Ct}(hg:∀k,k<h.next→h'.get k=h.get k)(hn:h.next≤h'.next)(hi:i=0∨h.next≤i)(hlt:i<h'.next)(hc:FQ h' i c):Has h' ((i,c)::K):=by
 refine⟨fun q k d hq=>?_,fun q q' k d d' hq Aq hk=>?_,aa9 o.pos hn⟩
 ·cases q with
  | zero=>simp only [abk,aaD,aaJ] at hq; obtain⟨rfl,rfl⟩:=hq; exact⟨hc,hlt⟩
  | succ q=>
   simp only [abR] at hq
   obtain⟨g1,g2⟩:=o.at_ q k d hq
   exact⟨vj (fun _=>hg k g2) g1,aa9 g2 hn⟩
 ·have old:∀(q:Nat) (d:Ct),K[q]? = some (k,d)→k≠i:=by
   intro x y hx he
   rcases hi with h1 | h1
   ·exact hk (he.trans h1)
   ·have:=(o.at_ x k y hx).2; omega
  cases q with
  | zero=>
   simp only [abk,aaD,aaJ] at hq
   cases q' with
   | zero=>rfl
   | succ q'=>exact absurd hq.1.symm (old q' d' (by simpa using Aq))
  | succ q=>
   cases q' with
   | zero=>
    simp only [abk,aaD,aaJ] at Aq
    exact absurd Aq.1.symm (old q d (by simpa using hq))
   | succ q'=>rw [o.nd q q' k d d' (by simpa using hq) (by simpa using Aq) hk]
theorem Has.nil {h:AHeap}{K:Mem}(o:Has h K)(sz:Nat):Has h ((0,.sl 0 sz [])::K):=
 o.new (fun _ _=>rfl) (aaE _) (.inl rfl) o.pos ⟨⟨by simp,by simp⟩,.inl ⟨rfl,rfl⟩⟩
theorem Has.sub {h:AHeap}{K K':Mem}(o:Has h K)(f:Nat→Nat)(hf:∀j p,K'[j]? = some p→K[f j]? = some p)(hi:∀j j',f j=f j'→j=j'):Has h K':=
 ⟨fun j i c hj=>o.at_ (f j) i c (hf j _ hj),fun j j' i c c' hj MN hk=>hi _ _ (o.nd (f j) (f j') i c c' (hf j _ hj) (hf j' _ MN) hk),o.pos⟩
theorem Has.del {h:AHeap}{K:Mem}(o:Has h K)(q:Nat):Has h (K.eraseIdx q):=
 o.sub (fun j=>if j<q then j else j+1) (fun j p hj=>by
  rw [List.getElem?_eraseIdx] at hj
  split at hj
  ·rename_i h1; simpa [h1] using hj
  ·rename_i h1; simpa [h1] using hj) (fun j j' he=>by
   split at he<;>split at he<;>omega)
theorem Has.front {h:AHeap}{K:Mem}(o:Has h K)(q:Nat){p:Nat × Ct}(hq:K[q]? = some p):Has h (p::K.eraseIdx q):=
 o.sub (fun j=>match j with | 0=>q | j+1=>if j<q then j else j+1) (fun j p' hj=>by
  cases j with
  | zero=>simp only [abk,aaD] at hj; subst hj; exact hq
  | succ j=>
   simp only [abR,List.getElem?_eraseIdx] at hj
   dsimp only
   split at hj
   ·rename_i h1; simpa [h1] using hj
   ·rename_i h1; simpa [h1] using hj) (fun j j' he=>by
   cases j with
   | zero=>cases j' with
    | zero=>rfl
    | succ j'=>dsimp only at he; split at he<;>omega
   | succ j=>cases j' with
    | zero=>dsimp only at he; split at he<;>omega
    | succ j'=>dsimp only at he; split at he<;>split at he<;>omega)
end Go.R
namespace Go.R
open Go
def w9 (P:Program)(t:TypeId)(sz b:Nat):Bool:=
 match P.underlying t with
 | some (.slice e)=>match P.info? e with
  | some i=>abp i.size sz&&abp i.bytes b&&MC i
  | none=>false
 | _=>false
section
variable {P:Program}{t:TypeId}{sz b:Nat}
theorem ju (h:w9 P t sz b=true):∃e i,P.underlying t=some (.slice e)∧P.info? e=some i∧i.size=sz∧i.bytes=b∧MC i=true∧fe P e=some sz:=by
 unfold w9 at h
 split at h
 ·rename_i e he
  split at h
  ·rename_i i hi
   simp only [aaF] at h
   have h1:=abY h.1.1
   exact⟨e,i,he,hi,h1,abY h.1.2,h.2,by simp [fe,hi,h1]⟩
  ·cases h
 ·cases h
variable {α:Type}{E:da α}{h:AHeap}{K:Mem}{l:List α}{a v:α}{i q:Nat}{j:Int}{k:IntKind}{c:AV}{off:Nat}{tf:TypeId}
theorem bN (T:w9 P t E.n b=true)(h:ix l j=some a):ff P t (E.fz l) (.int k j)=some (.fp (E.l l) (j.toNat*E.n)):=by
 obtain⟨e,inf,h1,h2,h3,h4,h5,h6⟩:=ju T
 obtain⟨g1,g2,g3⟩:=hH h
 have hle:=da.CP (E:=E) g3
 have hp:=E.pos
 simp only [ff,h1,aaA,h6,da.fz]
 rw [if_pos ⟨g1,g2,by omega⟩]
theorem P4 (h:l[j.toNat]? = some a):(E.l l).isEmpty=false:=by
 have hle:=da.CP (E:=E) h
 have hp:=E.pos
 cases hl:E.l l with
 | nil=>rw [hl] at hle; simp at hle; omega
 | cons _ _=>rfl
theorem mE (hp:AHeap)(ha:fG P tf=some false)(h:ix l j=some a)(hc:(E.f a)[off]? = some c):bp P hp tf (.fp (E.l l) (j.toNat*E.n+off))=some c:=by
 obtain⟨g1,g2,g3⟩:=hH h
 have ho:off<E.n:=by rw [←E.len a]; exact (aaK.1 hc).1
 simp only [bp,jV,P4 g3,aaS,if_false,jL,ha,aaA,da.L2 g3 ho,hc]
theorem dd (hp:AHeap)(ha:fG P tf=some false)(h:ix l j=some a)(hc:(E.f a)[0]? = some c):bp P hp tf (.fp (E.l l) (j.toNat*E.n))=some c:=mE (off:=0) hp ha h hc
theorem dI (hp:AHeap)(ha:fG P tf=some true)(hs:fe P tf=some E.n)(h:ix l j=some a):bp P hp tf (.fp (E.l l) (j.toNat*E.n))=some (.agg (E.f a)):=by
 obtain⟨g1,g2,g3⟩:=hH h
 simp only [bp,jV,P4 g3,aaS,if_false,jL,ha,aaA,if_true,hs]
 rw [if_pos (da.CP g3),da.Hv g3]
theorem ux (o:Has h K)(hq:K[q]? = some (i,.sl l.length E.n (E.l l)))(hj:l[j.toNat]? = some a):i≠0∧∃rest,h.get i=some (.cells (E.l l++rest)):=by
 obtain⟨⟨_,h1⟩,_⟩:=o.at_ _ _ _ hq
 rcases h1 with⟨_,h1⟩| h1
 ·have:=(aaK.1 hj).1; omega
 ·exact h1
theorem Ni (T:w9 P t sz b=true){n:Nat}(h0:0≤j)(h1:j<n):ff P t (.rs i 0 n sz) (.int k j)=some (.ptr i (0+j.toNat*sz)):=by
 obtain⟨e,inf,g1,g2,g3,g4,g5,g6⟩:=ju T
 simp only [ff,g1,aaA,g6]
 rw [if_pos ⟨trivial,h0,h1⟩]
theorem xQ (o:Has h K)(hq:K[q]? = some (i,.sl l.length E.n (E.l l)))(ha:fG P tf=some false)(hj:ix l j=some a)(hc:(E.f a)[off]? = some c):bp P h tf (.ptr i (0+j.toNat*E.n+off))=some c:=by
 obtain⟨g1,g2,g3⟩:=hH hj
 obtain⟨h1,rest,h2⟩:=ux o hq g3
 have ho:off<E.n:=by rw [←E.len a]; exact (aaK.1 hc).1
 have hle:=da.CP (E:=E) g3
 simp only [bp,jV,h2,aaA,jL,ha,aaS,if_false,aaZ]
 rw [abf (by omega),da.L2 g3 ho,hc]
theorem FT (o:Has h K)(hq:K[q]? = some (i,.sl l.length E.n (E.l l)))(ha:fG P tf=some false)(hj:ix l j=some a)(hc:(E.f a)[0]? = some c):bp P h tf (.ptr i (0+j.toNat*E.n))=some c:=xQ (off:=0) o hq ha hj hc
theorem FU (o:Has h K)(hq:K[q]? = some (i,.sl l.length E.n (E.l l)))(ha:fG P tf=some true)(hs:fe P tf=some E.n)(hj:ix l j=some a):bp P h tf (.ptr i (0+j.toNat*E.n))=some (.agg (E.f a)):=by
 obtain⟨g1,g2,g3⟩:=hH hj
 obtain⟨h1,rest,h2⟩:=ux o hq g3
 have hle:=da.CP (E:=E) g3
 simp only [bp,jV,h2,aaA,jL,ha,if_true,hs,aaZ]
 rw [if_pos (by rw [aaI]; omega),List.drop_append_of_le_length (by omega),aa7 (by rw [List.length_drop]; omega),da.Hv g3]
theorem jv (o:Has h K){c':Ct}{ct:Ct}(hq:K[q]? = some (i,ct)){ob:AObj}(hc:FQ (h.put i ob) i c'):Has (h.put i ob) (K.set q (i,c')):=
 o.FR hq (fun k hk _=>by rw [cU,if_neg hk]) (abQ _) (.inl rfl) (abK (o.at_ _ _ _ hq).2) hc
theorem Hx (o:Has h K)(hq:K[q]? = some (i,.sl l.length E.n (E.l l)))(hs:fe P tf=some E.n)(hj:ix l j=some a){x:AV}(hv:x.cells=E.f v)(pV:(E.f v).all AV.dp=true) :
  ∃h',jO P h tf (.ptr i (0+j.toNat*E.n)) x=some h'∧Has h' (K.set q (i,.sl l.length E.n (E.l (l.set j.toNat v)))):=by
 obtain⟨g1,g2,g3⟩:=hH hj
 obtain⟨h1,rest,h2⟩:=ux o hq g3
 have hle:=da.CP (E:=E) g3
 refine⟨_,?_,jv o hq (ob:=.cells (E.l (l.set j.toNat v)++rest)) ⟨⟨by rw [da.dc,aaN],by rw [da.dc,aaN,←da.dc]; exact (o.at_ _ _ _ hq).1.1.2⟩,.inr ⟨h1,rest,by rw [cU,if_pos rfl]⟩⟩⟩
 simp only [jO,h2,aaA,iD,hs,hv,aaZ]
 rw [if_pos ⟨E.len v,pV,by rw [aaI]; omega⟩,aaG,da.Hw g3]
theorem FV (o:Has h K)(hq:K[q]? = some (i,.sl l.length E.n (E.l l)))(hs:fe P tf=some 1)(hj:ix l j=some a){x:AV}(hx:x.cells=[x])(pV:x.dp=true)(ho:off<E.n)(hb:(E.f a).set off x=E.f v) :
  ∃h',jO P h tf (.ptr i (0+j.toNat*E.n+off)) x=some h'∧Has h' (K.set q (i,.sl l.length E.n (E.l (l.set j.toNat v)))):=by
 obtain⟨g1,g2,g3⟩:=hH hj
 obtain⟨h1,rest,h2⟩:=ux o hq g3
 have hle:=da.CP (E:=E) g3
 refine⟨_,?_,jv o hq (ob:=.cells (E.l (l.set j.toNat v)++rest)) ⟨⟨by rw [da.dc,aaN],by rw [da.dc,aaN,←da.dc]; exact (o.at_ _ _ _ hq).1.1.2⟩,.inr ⟨h1,rest,by rw [cU,if_pos rfl]⟩⟩⟩
 simp only [jO,h2,aaA,iD,hs,hx,aaZ]
 rw [if_pos ⟨rfl,by simp [pV],by rw [aaI]; omega⟩,aaG]
 simp only [en]
 rw [da.Nh g3 ho hb]
def app (b:Nat){α:Type}(l l2:List α):Option (List α):=if (l.length+l2.length)*(b+1)≤1099511627776 then some (l++l2) else none
theorem j4 {l l2 r:List α}(h:app b l l2=some r):(l.length+l2.length)*b≤gq∧l.length+l2.length≤gq∧r=l++l2:=by
 unfold app at h
 split at h
 ·rename_i h0
  cases h
  rw [Nat.mul_add,acj] at h0
  refine⟨by simp only [gq]; omega,by simp only [gq]; omega,rfl⟩
 ·cases h
theorem Hy {t2:TypeId}{l2 r:List α}{x:AV}(T:w9 P t E.n b=true)(o:Has h K)(hq:K[q]? = some (i,.sl l.length E.n (E.l l)))(hx:fJ h E.n x=some (E.l l2,l2.length))(hZ:kC P t2 x=true)(hr:app b l l2=some r) :
  ∃i' h',fu P h t t2 (.rs i 0 l.length E.n) x=some (.rs i' 0 r.length E.n,h')∧Has h' (K.set q (i',.sl r.length E.n (E.l r))):=by
 obtain⟨e,inf,g1,g2,g3,g4,g5,g6⟩:=ju T
 obtain⟨r1,r2,rfl⟩:=j4 hr
 obtain⟨⟨⟨hlen,Ce⟩,oo⟩,hlt⟩:=o.at_ _ _ _ hq
 have iZ:=E.pos
 have hb:inf.size=E.n:=g3
 have kI:¬(inf.size=0∨kC P t2 x=false∨MC inf=false):=by rw [hZ,g5,hb]; simp [iZ]
 subst g4
 by_cases h0:l2=[]
 ·subst h0
  refine⟨i,h,?_,?_⟩
  ·simp only [fu,g1,aaA,g2,hb,hx,hZ,g5]
   rw [if_neg (by simp [iZ])]
   simp only [abg,Nat.zero_mul,Nat.add_zero,abu]
   by_cases hi:i=0
   ·subst hi
    rcases oo with⟨_,hl0⟩| h1
    ·simp [hl0,hb,gq]
    ·exact absurd rfl h1.1
   ·rcases oo with h1 | ⟨_,rest,h1⟩
    ·exact absurd h1.1 hi
    ·rw [if_neg hi,h1]
     simp only [aaA]
     rw [if_neg (by rw [aaI,hlen]; simp only [abg,Nat.add_zero] at r1 r2; simp; omega)]
     simp
  ·rw [abu]
   have:K.set q (i,.sl l.length E.n (E.l l))=K:=by
    apply abF
    intro j
    rw [ab5]
    by_cases hj:q=j
    ·subst hj; rw [if_pos rfl,if_pos (aaK.1 hq).1,hq]
    ·rw [if_neg hj]
   rw [this]; exact o
 ·have J3:l2.length≠0:=by simpa using h0
  by_cases hi:i=0
  ·subst hi
   rcases oo with⟨_,hl0⟩| h1
   rotate_left
   ·exact absurd rfl h1.1
   have hnil:l=[]:=by simpa using hl0
   subst hnil
   refine⟨h.next,h.alloc (.cells (E.l l2)),?_,?_⟩
   ·simp only [fu,g1,aaA,g2,hb,hx,hZ,g5]
    rw [if_neg (by simp [iZ])]
    simp only [if_true]
    simp only [abg,aaZ] at r1 r2
    rw [if_neg (by simp; omega),if_neg J3]
    simp
   ·refine o.FR hq (fun k _ hk=>by rw [AHeap.alloc,cU,if_neg (by omega)]) (abQ _) (.inr (.inr (aaE _))) (abm _) ⟨⟨da.dc,da.ov (by simp only [gq] at r2; simp at r2 ⊢; omega)⟩,.inr ⟨by have:=o.pos; omega,[],?_⟩⟩
    rw [AHeap.alloc,cU,if_pos rfl]; simp
  ·rcases oo with h1 | ⟨_,rest,h1⟩
   ·exact absurd h1.1 hi
   refine⟨h.next,(h.kill i).put h.next (.cells (E.l (l++l2))),?_,?_⟩
   ·simp only [fu,g1,aaA,g2,hb,hx,hZ,g5]
    rw [if_neg (by simp [iZ]),if_neg hi,h1]
    simp only [aaA]
    rw [if_neg (by rw [aaI,hlen]; simp; omega),if_neg J3]
    rw [aa3,aa7 (by rw [hlen]; exact aaE _),aa4 (by rw [hlen]; exact aaE _),da.lV,aaI]
   ·refine o.FR hq (fun k hk rS=>by rw [cU,if_neg (by omega),vk,if_neg hk]) (by show h.next≤h.next+1+1; omega) (.inr (.inr (aaE _))) (by show h.next<h.next+1+1; omega) ⟨⟨da.dc,da.ov (by simp only [gq] at r2; simp at r2 ⊢; omega)⟩,.inr ⟨by have:=o.pos; omega,[],?_⟩⟩
    rw [cU,if_pos rfl]; simp
theorem Hz {t2:TypeId}{l2 r:List α}{x s:AV}(hs:s = .nils∨s = .fz [] 0 true)(T:w9 P t E.n b=true)(o:Has h K)(hx:fJ h E.n x=some (E.l l2,l2.length))(hZ:kC P t2 x=true)(hr:app b ([]:List α) l2=some r) :
  ∃i' h',fu P h t t2 s x=some (.rs i' 0 r.length E.n,h')∧Has h' ((i',.sl r.length E.n (E.l r))::K):=by
 obtain⟨e,inf,g1,g2,g3,g4,g5,g6⟩:=ju T
 obtain⟨r1,r2,AB⟩:=j4 hr
 rw [aa5] at AB
 subst r
 have iZ:=E.pos
 have hb:inf.size=E.n:=g3
 subst g4
 simp only [abg,aaZ] at r1 r2
 by_cases h0:l2=[]
 ·subst h0
  refine⟨0,h,?_,by simpa [da.l] using o.nil E.n⟩
  rcases hs with rfl | rfl
  ·simp only [fu,g1,aaA,g2,hb,hx,hZ,g5]
   rw [if_neg (by simp [iZ])]
   simp [gq]
  ·simp only [fu,g1,aaA,g2,hb,hx,hZ,g5]
   rw [if_neg (by simp [iZ])]
   simp [gq]
 ·have J3:l2.length≠0:=by simpa using h0
  refine⟨h.next,h.alloc (.cells (E.l l2)),?_,o.new (fun k hk=>by rw [AHeap.alloc,cU,if_neg (by omega)]) (abQ _) (.inr (aaE _)) (abm _) ⟨⟨da.dc,da.ov (by simp only [gq] at r2; omega)⟩,.inr ⟨by have:=o.pos; omega,[],by rw [AHeap.alloc,cU,if_pos rfl]; simp⟩⟩⟩
  rcases hs with rfl | rfl
  ·simp only [fu,g1,aaA,g2,hb,hx,hZ,g5]
   rw [if_neg (by simp [iZ]),if_neg (by omega),if_neg J3]
  ·simp only [fu,g1,aaA,g2,hb,hx,hZ,g5]
   rw [if_neg (by simp [iZ]),if_neg (by simp; omega),if_neg J3]
   simp
theorem lX {l2:List α}(h:AHeap):fJ h E.n (E.fz l2)=some (E.l l2,l2.length):=by
 simp only [fJ,dT,da.fz]
 rw [if_pos da.dc,aaG,da.zb]
theorem AM (o:Has h K)(hq:K[q]? = some (i,.sl l.length E.n (E.l l))):fJ h E.n (.rs i 0 l.length E.n)=some (E.l l,l.length):=by
 obtain⟨⟨⟨hlen,Ce⟩,oo⟩,hlt⟩:=o.at_ _ _ _ hq
 simp only [fJ,dT]
 rcases oo with⟨h0,h1⟩| ⟨h0,rest,h1⟩
 ·have:l=[]:=by simpa using h1
  subst this
  simp [h0,da.l]
 ·rw [if_neg h0,h1]
  simp only [aaA]
  rw [if_pos ⟨trivial,by rw [aaI,hlen]; omega⟩,aaG,aa3,aa7 (by rw [hlen]; exact aaE _),aa4 (by rw [hlen]; exact aaE _),da.zb]
def xb (b:Nat){α:Type}(n:Int)(z:α):Option (List α):=if 0≤n∧n.toNat*(b+1)≤1099511627776 then some (aaV n.toNat z) else none
theorem pz {n:Int}{z:α}{zv:AV}{r:List α}(T:w9 P t E.n b=true)(o:Has h K)(e0:TypeId)(Yv:P.underlying t=some (.slice e0))(hz0:kB P e0=some zv)(Yw:zv.cells=E.f z)(pV:(E.f z).all AV.dp=true)(hr:xb b n z=some r) :
  ∃i h',ic P h t (.int .i64 n) (.int .i64 n)=some (.rs i 0 r.length E.n,h')∧Has h' ((i,.sl r.length E.n (E.l r))::K):=by
 have hz:∀e,P.underlying t=some (.slice e)→kB P e=some zv:=fun e he=>by
  rw [Yv] at he; cases he; exact hz0
 unfold xb at hr
 split at hr
 rotate_left
 ·cases hr
 rename_i kI
 obtain⟨h0,h1⟩:=kI
 cases hr
 obtain⟨e,inf,g1,g2,g3,g4,g5,g6⟩:=ju T
 have iZ:=E.pos
 have Tu:∀k,mP (E.f z) k=E.l (aaV k z):=by
  intro k
  induction k with
  | zero=>rfl
  | succ k ih=>rw [mP,ih,List.replicate_succ,da.eF]
 refine⟨h.next,h.alloc (.cells (E.l (aaV n.toNat z))),?_,o.new (fun k hk=>by rw [AHeap.alloc,cU,if_neg (by omega)]) (abQ _) (.inr (aaE _)) (abm _) ⟨⟨da.dc,da.ov (by rw [acg]; rw [Nat.mul_add,acj] at h1; omega)⟩,.inr ⟨by have:=o.pos; omega,[],by rw [AHeap.alloc,cU,if_pos rfl]; simp⟩⟩⟩
 rw [Nat.mul_add,acj] at h1
 simp only [ic,g1,aaA,g2,hz e g1,Yw,E.len,Tu,acg,g3,g4]
 have hb:n*(b:Int)≤gq:=by
  have:n*(b:Int)=((n.toNat*b:Nat):Int):=by
   rw [Int.natCast_mul,Int.toNat_of_nonneg h0]
  simp only [gq]
  rw [this]
  omega
 rw [if_pos ⟨h0,ab9 _,hb,trivial,iZ,by omega,pV⟩]
theorem HA (o:Has h K)(hq:K[q]? = some (i,.sl l.length E.n (E.l l)))(hp:E.flat=true:=by rfl):∃h',lJ 0 h (.rs i 0 l.length E.n)=some (E.fz l,h')∧Has h' (K.eraseIdx q):=by
 obtain⟨⟨⟨hlen,Ce⟩,oo⟩,hlt⟩:=o.at_ _ _ _ hq
 rcases oo with⟨h0,h1⟩| ⟨h0,rest,h1⟩
 ·have:l=[]:=by simpa using h1
  subst this
  exact⟨h,by simp [lJ,h0,da.fz,da.l],o.del q⟩
 ·refine⟨h.kill i,?_,?_⟩
  ·simp only [lJ]
   rw [if_neg h0,h1]
   simp only [aaA]
   have e1:((E.l l++rest).drop 0).take (l.length*E.n)=E.l l:=by
    rw [aa3,aa7 (by rw [hlen]; exact aaE _),aa4 (by rw [hlen]; exact aaE _)]
   rw [e1,if_pos (by rw [aaI,hlen]; omega),xJ (da.r6 hp).1]
   rfl
  ·have o2:=o.FR (i':=0) (c':=.sl 0 1 []) (h':=h.kill i) hq (fun k hk _=>by rw [vk,if_neg hk]) (abQ _) (.inr (.inl rfl)) (Nat.succ_pos _) ⟨⟨by simp,by simp⟩,.inl ⟨rfl,rfl⟩⟩
   have:=o2.del q
   rwa [List.eraseIdx_set_eq] at this
variable {n:Nat}
theorem dP (o:Has h K)(hq:K[q]? = some (i,.sl n E.n (E.l l))):n=l.length:=by
 have h1:=(o.at_ _ _ _ hq).1.1.1
 rw [da.dc] at h1
 exact (Nat.eq_of_mul_eq_mul_right (Nat.pos_of_ne_zero E.pos) h1).symm
theorem aJ (T:w9 P t E.n b=true)(o:Has h K)(hq:K[q]? = some (i,.sl n E.n (E.l l)))(hj:ix l j=some a):ff P t (.rs i 0 n E.n) (.int k j)=some (.ptr i (0+j.toNat*E.n)):=by
 have hn:=dP o hq
 subst hn
 exact Ni T (hH hj).1 (hH hj).2.1
theorem ox (o:Has h K)(hq:K[q]? = some (i,.sl n E.n (E.l l)))(ha:fG P tf=some false)(hj:ix l j=some a)(hc:(E.f a)[off]? = some c):bp P h tf (.ptr i (0+j.toNat*E.n+off))=some c:=by
 have hn:=dP o hq
 subst hn
 exact xQ o hq ha hj hc
theorem bA (o:Has h K)(hq:K[q]? = some (i,.sl n E.n (E.l l)))(ha:fG P tf=some false)(hj:ix l j=some a)(hc:(E.f a)[0]? = some c):bp P h tf (.ptr i (0+j.toNat*E.n))=some c:=by
 have hn:=dP o hq
 subst hn
 exact FT o hq ha hj hc
theorem uy (o:Has h K)(hq:K[q]? = some (i,.sl n E.n (E.l l)))(ha:fG P tf=some true)(hs:fe P tf=some E.n)(hj:ix l j=some a):bp P h tf (.ptr i (0+j.toNat*E.n))=some (.agg (E.f a)):=by
 have hn:=dP o hq
 subst hn
 exact FU o hq ha hs hj
theorem eG (o:Has h K)(hq:K[q]? = some (i,.sl n E.n (E.l l)))(hs:fe P tf=some E.n)(hj:ix l j=some a){x:AV}(hv:x.cells=E.f v)(pV:(E.f v).all AV.dp=true) :
  ∃h',jO P h tf (.ptr i (0+j.toNat*E.n)) x=some h'∧Has h' (K.set q (i,.sl n E.n (E.l (l.set j.toNat v)))):=by
 have hn:=dP o hq
 subst hn
 exact Hx o hq hs hj hv pV
theorem KB (o:Has h K)(hq:K[q]? = some (i,.sl n E.n (E.l l)))(hs:fe P tf=some 1)(hj:ix l j=some a){x:AV}(hx:x.cells=[x])(pV:x.dp=true)(ho:off<E.n)(hb:(E.f a).set off x=E.f v) :
  ∃h',jO P h tf (.ptr i (0+j.toNat*E.n+off)) x=some h'∧Has h' (K.set q (i,.sl n E.n (E.l (l.set j.toNat v)))):=by
 have hn:=dP o hq
 subst hn
 exact FV o hq hs hj hx pV ho hb
theorem cL {t2:TypeId}{l2 r:List α}{x:AV}(T:w9 P t E.n b=true)(o:Has h K)(hq:K[q]? = some (i,.sl n E.n (E.l l)))(hx:fJ h E.n x=some (E.l l2,l2.length))(hZ:kC P t2 x=true)(hr:app b l l2=some r) :
  ∃i' h',fu P h t t2 (.rs i 0 n E.n) x=some (.rs i' 0 r.length E.n,h')∧Has h' (K.set q (i',.sl r.length E.n (E.l r))):=by
 have hn:=dP o hq
 subst hn
 exact Hy T o hq hx hZ hr
theorem gj (o:Has h K)(hq:K[q]? = some (i,.sl n E.n (E.l l))):fJ h E.n (.rs i 0 n E.n)=some (E.l l,l.length):=by
 have hn:=dP o hq
 subst hn
 exact AM o hq
theorem fV (o:Has h K)(hq:K[q]? = some (i,.sl n E.n (E.l l)))(hp:E.flat=true:=by rfl):∃h',lJ 0 h (.rs i 0 n E.n)=some (E.fz l,h')∧Has h' (K.eraseIdx q):=by
 have hn:=dP o hq
 subst hn
 exact HA o hq hp
end
end Go.R
namespace Go.R
open Go
structure ae where
 kind:Int
 int:Int
 label:ByteArray
 args:List Int
structure ak where
 nodes:List ae
 root:Int
def eI (k:IntKind):da Int:={n:=1,f:=fun a=>[.int k a],len:=fun _=>rfl,pos:=by decide,pure:=fun _ _=>⟨rfl,rfl⟩,canon:=fun _=>rfl}
abbrev aa:da Int:=eI .i64
abbrev af:da Int:=eI .u8
def dk:da Bool:={n:=1,f:=fun a=>[.bool a],len:=fun _=>rfl,pos:=by decide,pure:=fun _ _=>⟨rfl,rfl⟩,canon:=fun _=>rfl}
theorem pure_cons {x:AV}{xs:List AV}(h:x.eY=true∧x.lu=x)(k:ef xs=true∧fE xs=xs):ef (x::xs)=true∧fE (x::xs)=x::xs:=
 ⟨by simp [ef,h.1,k.1],by simp [fE,h.2,k.2]⟩
theorem pure_nil:ef []=true∧fE []=[]:=⟨rfl,rfl⟩
theorem vl {k:IntKind}{n:Int}:(AV.int k n).eY=true∧(AV.int k n).lu = .int k n:=⟨rfl,rfl⟩
theorem HB {s:ByteArray}:(AV.str s).eY=true∧(AV.str s).lu = .str s:=⟨rfl,rfl⟩
def ah:da ae:={n:=4,f:=fun x=>[.int .i64 x.kind,.int .i64 x.int,.str x.label,aa.fz x.args],len:=fun _=>rfl,pos:=by decide,pure:=fun x _=>pure_cons vl (pure_cons vl (pure_cons HB (pure_cons da.ow pure_nil))),canon:=fun _=>rfl}
def aL:da ak:={n:=2,f:=fun x=>[ah.fz x.nodes,.int .i64 x.root],len:=fun _=>rfl,pos:=by decide,pure:=fun x _=>pure_cons da.ow (pure_cons vl pure_nil),canon:=fun _=>rfl}
end Go.R
namespace Go.R
open Go
theorem KC {b:Bool}(h:b=false):¬b=true:=by rw [h]; decide
section
variable {P:Program}{cf:CallF}{A:b9}{m:Nat}
theorem xR {c:Code}{s:St}{Q R:Ex→St→Prop}(h:dA P cf A m c s Q)(k:∀e s',Q e s'→R e s'):dA P cf A m c s R:=by
 obtain⟨e,s',h1,h2⟩:=h
 exact⟨e,s',h1,k _ _ h2⟩
theorem aD {c:Code}{s:St}{Q:St→Prop}{R:Ex→St→Prop}(hQ:∀e s',(e = .ret∨e = .norm)∧Q s'→R e s')(h:dA P cf A m c s (fun e s'=>(e = .ret∨e = .norm)∧Q s')):dA P cf A m c s R:=xR h hQ
end
def kh:Nat:=1125899906842630
def mY (k:Nat)(h:AHeap)(x y:AV):Prop:=∀n,kh+k≤n→cW h n x=some y
def eR (k:Nat)(h:AHeap)(x y:List AV):Prop:=∀n,kh+k≤n→b5 h n x=some y
def vm (h:AHeap)(x y:AV):Prop:=mY 1000 h x y
section
variable {h:AHeap}{α:Type}{E:da α}{l:List α}{K:Mem}{q i:Nat}
theorem mY.mono {k k':Nat}{x y:AV}(hk:k≤k')(f:mY k h x y):mY k' h x y:=fun n hn=>f n (by omega)
theorem lI {k:Nat}{x y:AV}(f:mY k h x y)(hk:k≤1000:=by decide):vm h x y:=f.mono hk
theorem mF {n:Nat}(h:kh≤n):∃k,n=k+1∧kh≤k+1:=⟨n - 1,by simp only [kh] at h; omega,by omega⟩
theorem qz {x:AV}(h1:x.eY=true)(h2:∀n,cW h (n+1) x=if x.eY then some x.lu else none){y:AV}(h3:x.lu=y):mY 0 h x y:=fun n hn=>by
 obtain⟨k,rfl,_⟩:=mF (show kh≤n by omega)
 rw [h2,h1,h3]; rfl
theorem aQ {k:IntKind}{n:Int}:mY 0 h (.int k n) (.int k n):=qz rfl (fun _=>rfl) rfl
theorem cF {s:ByteArray}:mY 0 h (.str s) (.str s):=qz rfl (fun _=>rfl) rfl
theorem bB (hp:E.flat=true:=by rfl):mY 0 h (E.fz l) (E.fz l):=qz (da.ow hp).1 (fun _=>rfl) (da.ow hp).2
theorem dV:mY 0 h .nils (E.fz []):=qz rfl (fun _=>rfl) rfl
theorem HC {cs:List AV}(h1:(ef cs=true))(h2:fE cs=E.l l){n:Nat}{b:Bool}(h3:n=l.length):mY 0 h (.fz cs n b) (E.fz l):=by
 refine qz (by simpa [AV.eY] using h1) (fun _=>rfl) ?_
 subst h3
 show AV.fz (fE cs) l.length false=_
 rw [h2]; rfl
theorem oX:∀{cs:List AV} {n:Nat},ef cs=true→(∀x∈cs,∀n,cW h (n+1) x=if x.eY then some x.lu else none)→cs.length+1<n→b5 h n cs=some (fE cs)
 | [],n,_,_,hn=>by
  obtain⟨k,rfl⟩:∃k,n=k+1:=⟨n - 1,by omega⟩
  rfl
 | x::cs,n,h1,h2,hn=>by
  obtain⟨k,rfl⟩:∃k,n=k+1+1:=⟨n - 2,by simp at hn; omega⟩
  simp only [ef,aaF] at h1
  simp only [b5]
  rw [h2 x (by simp) k,h1.1]
  simp only [if_true,aaA]
  rw [oX h1.2 (fun y hy=>h2 y (by simp [hy])) (by simp at hn; omega)]
  rfl
def AN:AV→Bool
 | .agg _ | .tup _=>false
 | _=>true
theorem HD {x:AV}(hf:AN x=true)(hn:x.eY=true)(n:Nat):cW h (n+1) x=if x.eY then some x.lu else none:=by
 cases x<;>first | rfl | (simp [AV.eY] at hn; done) | (simp [AN] at hf; done)
theorem KD (o:Has h K)(hq:K[q]? = some (i,.sl l.length E.n (E.l l)))(hf:∀a:α,(E.f a).all AN=true)(hp:E.flat=true:=by rfl):mY 0 h (.rs i 0 l.length E.n) (E.fz l):=fun n hn=>by
 obtain⟨⟨⟨hlen,Ce⟩,oo⟩,hlt⟩:=o.at_ _ _ _ hq
 obtain⟨k,rfl,hk⟩:=mF (show kh≤n by omega)
 simp only [cW]
 rcases oo with⟨h0,h1⟩| ⟨h0,rest,h1⟩
 ·have:l=[]:=by simpa using h1
  subst this
  simp [h0,da.fz,da.l]
 ·rw [if_neg h0,h1]
  simp only [aaA]
  have e1:((E.l l++rest).drop 0).take (l.length*E.n)=E.l l:=by
   rw [aa3,aa7 (by rw [hlen]; exact aaE _),aa4 (by rw [hlen]; exact aaE _)]
  rw [if_pos (by rw [aaI,hlen]; omega),e1,oX (da.r6 hp).1 (fun x hx=>?_) (by simp only [kh] at hk; omega),(da.r6 hp).2]
  ·rfl
  ·have hnx:x.eY=true:=by
    have:∀(cs:List AV),ef cs=true→x∈cs→x.eY=true:=by
     intro cs
     induction cs with
     | nil=>intro _ h; cases h
     | cons y ys ih=>
      intro h hm
      simp only [ef,aaF] at h
      rcases abb.1 hm with rfl | hm
      ·exact h.1
      ·exact ih h.2 hm
    exact this _ (da.r6 hp).1 hx
   have Nj:AN x=true:=by
    unfold da.l at hx
    rw [List.mem_flatMap] at hx
    obtain⟨a,_,ha⟩:=hx
    exact abd.1 (hf a) x ha
   exact fun n=>HD Nj hnx n
theorem mS {n:Nat}(o:Has h K)(hq:K[q]? = some (i,.sl n E.n (E.l l)))(hf:∀a:α,(E.f a).all AN=true)(hp:E.flat=true:=by rfl):mY 0 h (.rs i 0 n E.n) (E.fz l):=by
 have hn:=dP o hq
 subst hn
 exact KD o hq hf hp
theorem aA:eR 0 h [] []:=fun n hn=>by
 obtain⟨k,rfl,_⟩:=mF (show kh≤n by omega)
 rfl
theorem ab {k1 k2:Nat}{x y:AV}{xs ys:List AV}(f:mY k1 h x y)(g:eR k2 h xs ys):eR (k1+k2+1) h (x::xs) (y::ys):=fun n hn=>by
 obtain⟨k,rfl⟩:∃k,n=k+1:=⟨n - 1,by omega⟩
 simp only [b5]
 rw [f k (by omega),g k (by omega)]
 rfl
theorem dJ {k:Nat}{xs ys:List AV}(f:eR k h xs ys):mY (k+1) h (.agg xs) (.agg ys):=fun n hn=>by
 obtain⟨k,rfl⟩:∃k,n=k+1:=⟨n - 1,by omega⟩
 simp only [cW]
 rw [f k (by omega)]; rfl
theorem er {k:Nat}{xs ys:List AV}(f:eR k h xs ys):mY (k+1) h (.tup xs) (.tup ys):=fun n hn=>by
 obtain⟨k,rfl⟩:∃k,n=k+1:=⟨n - 1,by omega⟩
 simp only [cW]
 rw [f k (by omega)]; rfl
end
def fv (k:IntKind)(x y:Int):Int:=k.wrap ((abx k.bits x &&& abx k.bits y).toNat:Int)
def ja (k:IntKind)(x y:Int):Int:=k.wrap ((abx k.bits x ||| abx k.bits y).toNat:Int)
def dD (k:IntKind)(x y:Int):Int:=k.wrap ((abx k.bits x ^^^ abx k.bits y).toNat:Int)
def gO (k:IntKind)(x:Int)(n:Nat):Int:=x.fdiv (2 ^ (min n k.bits))
section
variable {P:Program}{t:TypeId}{b:Nat}{α:Type}{E:da α}{h:AHeap}{K:Mem}{l r:List α}{i q:Nat}{j lo hi:Int}{k k':IntKind}
theorem nB {s:ByteArray}{v:Int}(hu:P.underlying t=some .string)(h:bt s j=some v):rJ P t (.str s) (.int k j)=some (.int .u8 v):=by
 unfold bt at h
 split at h
 ·rename_i h0
  rw [aaC] at h
  obtain⟨b,hb,rfl⟩:=h
  simp only [rJ,hu,aaA,h0,if_true,hb,aaG]
 ·cases h
theorem qA (h:kU l lo hi=some r):(((E.l l).drop (lo.toNat*E.n)).take ((hi.toNat - lo.toNat)*E.n))=E.l r∧r.length=hi.toNat - lo.toNat:=by
 obtain⟨h0,h1,h2,rfl⟩:=lW h
 refine⟨by rw [da.za,da.Hu],?_⟩
 rw [abP,List.length_drop]
 omega
theorem KE (T:w9 P t E.n b=true)(h:kU l lo hi=some r):eN P t (E.fz l) (some (.int k lo)) (some (.int k' hi)) none=some (E.fz r):=by
 obtain⟨e,inf,g1,g2,g3,g4,g5,g6⟩:=ju T
 obtain⟨h0,h1,h2,_⟩:=lW h
 obtain⟨h3,h4⟩:=qA (E:=E) h
 simp only [eN,g1,aaA,g6,da.fz,jm]
 rw [if_pos ⟨by omega,h2⟩]
 simp only [aaA]
 rw [if_pos ⟨h0,by omega⟩]
 simp only [aaA,aaG,Bool.false_and]
 rw [h3,←h4]
theorem uz (T:w9 P t E.n b=true)(h:kU l 0 hi=some r):eN P t (E.fz l) none (some (.int k' hi)) none=some (E.fz r):=by
 obtain⟨e,inf,g1,g2,g3,g4,g5,g6⟩:=ju T
 obtain⟨h0,h1,h2,_⟩:=lW h
 obtain⟨h3,h4⟩:=qA (E:=E) h
 simp only [eN,g1,aaA,g6,da.fz,jm]
 rw [if_pos ⟨by omega,h2⟩]
 simp only [aaA,aaG,Bool.false_and]
 simp only [Int.toNat_zero] at h3 h4
 rw [h3,←h4]
theorem qB (T:w9 P t E.n b=true)(h:kU l lo (l.length:Int)=some r):eN P t (E.fz l) (some (.int k lo)) none none=some (E.fz r):=by
 obtain⟨e,inf,g1,g2,g3,g4,g5,g6⟩:=ju T
 obtain⟨h0,h1,h2,_⟩:=lW h
 obtain⟨h3,h4⟩:=qA (E:=E) h
 simp only [eN,g1,aaA,g6,da.fz,jm]
 rw [if_pos ⟨h0,by omega⟩]
 simp only [aaA,aaG,Bool.false_and]
 simp only [aaH] at h3 h4
 rw [h3,←h4]
theorem HE (o:Has h K)(hq:K[q]? = some (i,.sl l.length E.n (E.l l)))(T:w9 P t E.n b=true)(hs:kU l 0 hi=some r) :
  eN P t (.rs i 0 l.length E.n) none (some (.int k hi)) none=some (.rs i 0 r.length E.n)∧Has h (K.set q (i,.sl r.length E.n (E.l r))):=by
 obtain⟨e,inf,g1,g2,g3,g4,g5,g6⟩:=ju T
 obtain⟨h0,h1,h2,hr⟩:=lW hs
 obtain⟨h3,h4⟩:=qA (E:=E) hs
 simp only [Int.toNat_zero,Nat.sub_zero] at h4 hr
 have AB:r=l.take hi.toNat:=by rw [hr]; simp
 refine⟨?_,?_⟩
 ·simp only [eN,g1,aaA,g6,if_true,jm]
  rw [if_pos ⟨by omega,h2⟩]
  simp only [aaA,aaG,Nat.zero_mul,Nat.add_zero,Nat.sub_zero,h4]
 ·obtain⟨⟨⟨hlen,Ce⟩,oo⟩,hlt⟩:=o.at_ _ _ _ hq
  refine o.FR hq (fun _ _ _=>rfl) (aaE _) (.inl rfl) hlt ⟨⟨da.dc,?_⟩,?_⟩
  ·rw [da.dc]
   refine abj (abq _ ?_) (hlen ▸ Ce)
   rw [h4]; omega
  ·rcases oo with⟨h5,h6⟩| ⟨h5,rest,h6⟩
   ·left; exact⟨h5,by rw [h4]; omega⟩
   ·right
    refine⟨h5,E.l (l.drop hi.toNat)++rest,?_⟩
    rw [h6,AB,←aaM,←da.lV,List.take_append_drop]
theorem Nk {n:Nat}(o:Has h K)(hq:K[q]? = some (i,.sl n E.n (E.l l)))(T:w9 P t E.n b=true)(hs:kU l 0 hi=some r) :
  eN P t (.rs i 0 n E.n) none (some (.int k hi)) none=some (.rs i 0 r.length E.n)∧Has h (K.set q (i,.sl r.length E.n (E.l r))):=by
 have hn:=dP o hq
 subst hn
 exact HE o hq T hs
end
theorem aj {P:Program}{cf:CallF}{m:Nat}{aV:FuncId→b9}{f:FuncId}{fn:Func}{A:b9}(ha:aV f=A){args:List AV}{h:AHeap}{R:AV→AHeap→Prop}(hf:P.funcs[f]? = some fn)(hb:fn.body=some (codeOf fn))(hn:Nat.ble args.length fn.ntmps=true)
  (he:dA P cf A m (codeOf fn) ⟨nk A.keep args,A.aN.map fun _=>none,h⟩ (fun e s=>(e = .ret∨e = .norm)∧∃r,aH P (s.open A) fn.results.toList=some r∧R r s.h)) :
  ∃r h',bg P aV cf m f args h=some (r,h')∧R r h':=by
 subst ha
 exact y9 hf hb hn he
def HF (a b:ByteArray):Bool:=Op.bytesLess a.data.toList b.data.toList||a.data.toList==b.data.toList
end Go.R
namespace Go.R
open Go
mutual
theorem zc {h:AHeap}:∀(n:Nat) (x y:AV),x.eY=true→cW h n x=some y→y=x.lu
 | 0,x,y,_,h=>by simp [cW] at h
 | n+1,x,y,hn,h=>by
  cases x with
  | agg cs=>
   simp only [cW,aaC] at h
   obtain⟨fU,hcs,rfl⟩:=h
   rw [jw n cs fU (by simpa [AV.eY] using hn) hcs]; rfl
  | tup cs=>
   simp only [cW,aaC] at h
   obtain⟨fU,hcs,rfl⟩:=h
   rw [jw n cs fU (by simpa [AV.eY] using hn) hcs]; rfl
  | ptr _ _=>simp [AV.eY] at hn
  | rs _ _ _ _=>simp [AV.eY] at hn
  | _=>simp only [cW,hn,if_true,aaD] at h; exact h.symm
theorem jw {h:AHeap}:∀(n:Nat) (xs ys:List AV),ef xs=true→b5 h n xs=some ys→ys=fE xs
 | 0,xs,ys,_,h=>by simp [b5] at h
 | n+1,[],ys,_,h=>by simp only [b5,aaD] at h; exact h.symm
 | n+1,x::xs,ys,hn,h=>by
  simp only [ef,aaF] at hn
  simp only [b5,aaB,aaC] at h
  obtain⟨y,hy,zs,hz,rfl⟩:=h
  rw [zc n x y hn.1 hy,jw n xs zs hn.2 hz]; rfl
end
mutual
theorem xS {h:AHeap}:∀(n:Nat) (x y:AV),gA h n x=some y→cW h n x=some y
 | 0,x,y,h=>by simp [gA] at h
 | n+1,x,y,h=>by
  unfold gA at h
  split at h
  ·exact h
  ·exact h
  ·exact h
  ·exact h
  ·exact h
  ·exact h
  ·exact h
  ·exact h
  ·rename_i id off len jG
   simp only [cW]
   split at h
   ·rename_i h0; rw [if_pos h0]; exact h
   ·rename_i h0
    rw [if_neg h0]
    rw [aaB] at h ⊢
    obtain⟨ob,ho,h⟩:=h
    refine⟨ob,ho,?_⟩
    cases ob with
    | map es=>cases h
    | row t cs=>cases h
    | cells cs=>
     simp only at h ⊢
     split at h
     ·rename_i hle
      rw [if_pos hle]
      rw [aaC] at h ⊢
      obtain⟨fU,hcs,h2⟩:=h
      exact⟨fU,lg n _ _ hcs,h2⟩
     ·cases h
  ·simp only [cW]
   rw [aaC] at h ⊢
   obtain⟨fU,hcs,h2⟩:=h
   exact⟨fU,lg n _ _ hcs,h2⟩
  ·simp only [cW]
   rw [aaC] at h ⊢
   obtain⟨fU,hcs,h2⟩:=h
   exact⟨fU,lg n _ _ hcs,h2⟩
  ·cases h
theorem lg {h:AHeap}:∀(n:Nat) (xs ys:List AV),dH h n xs=some ys→b5 h n xs=some ys
 | 0,xs,ys,h=>by simp [dH] at h
 | n+1,[],ys,h=>h
 | n+1,x::xs,ys,h=>by
  simp only [dH,b5,aaB,aaC] at h ⊢
  obtain⟨y,hy,zs,hz,h2⟩:=h
  exact⟨y,xS n x y hy,zs,lg n xs zs hz,h2⟩
end
def zd (k:Nat)(h:AHeap)(x y:AV):Prop:=∀n,kh+k≤n→gA h n x=some y
def KF (k:Nat)(h:AHeap)(x y:List AV):Prop:=∀n,kh+k≤n→dH h n x=some y
def gf (h:AHeap)(x y:AV):Prop:=zd 1000 h x y
section
variable {h:AHeap}{α:Type}{E:da α}{l:List α}{K:Mem}{q i:Nat}
theorem gf.lI {x y:AV}(f:gf h x y):vm h x y:=fun n hn=>xS _ _ _ (f n hn)
theorem cn {k:Nat}{x y:AV}(f:zd k h x y)(hk:k≤1000:=by decide):gf h x y:=fun n hn=>f n (by omega)
theorem ze {x y:AV}(h2:∀n,gA h (n+1) x=some y):zd 0 h x y:=fun n hn=>by
 obtain⟨k,rfl,_⟩:=mF (show kh≤n by omega)
 exact h2 k
theorem dB {k:IntKind}{n:Int}:zd 0 h (.int k n) (.int k n):=ze fun _=>rfl
theorem au {b:Bool}:zd 0 h (.bool b) (.bool b):=ze fun _=>rfl
theorem qC:zd 0 h .nils (E.fz []):=ze fun _=>rfl
def HG:AV→Bool
 | .int _ _ | .bool _ | .str _=>true
 | _=>false
theorem nC:∀{cs:List AV} {n:Nat},cs.all HG=true→cs.length+1<n→dH h n cs=some cs
 | [],n,_,hn=>by
  obtain⟨k,rfl⟩:∃k,n=k+1:=⟨n - 1,by omega⟩
  rfl
 | x::cs,n,h1,hn=>by
  obtain⟨k,rfl⟩:∃k,n=k+1+1:=⟨n - 2,by simp at hn; omega⟩
  simp only [abA,aaF] at h1
  simp only [dH]
  have:gA h (k+1) x=some x:=by cases x<;>first | rfl | (simp [HG] at h1)
  rw [this,aaA,nC h1.2 (by simp at hn; omega)]
  rfl
theorem vn {n:Nat}(o:Has h K)(hq:K[q]? = some (i,.sl n E.n (E.l l)))(hf:∀a:α,(E.f a).all HG=true):zd 0 h (.rs i 0 n E.n) (E.fz l):=fun m hm=>by
 have hn:=dP o hq
 subst hn
 obtain⟨⟨⟨hlen,Ce⟩,oo⟩,hlt⟩:=o.at_ _ _ _ hq
 obtain⟨k,rfl,hk⟩:=mF (show kh≤m by omega)
 simp only [gA]
 rcases oo with⟨h0,h1⟩| ⟨h0,rest,h1⟩
 ·have:l=[]:=by simpa using h1
  subst this
  simp [h0,da.fz,da.l]
 ·rw [if_neg h0,h1]
  simp only [aaA]
  have e1:((E.l l++rest).drop 0).take (l.length*E.n)=E.l l:=by
   rw [aa3,aa7 (by rw [hlen]; exact aaE _),aa4 (by rw [hlen]; exact aaE _)]
  rw [if_pos (by rw [aaI,hlen]; omega),e1,nC ?_ (by simp only [kh] at hk; omega)]
  ·rfl
  ·rw [abd]
   intro x hx
   unfold da.l at hx
   rw [List.mem_flatMap] at hx
   obtain⟨a,_,ha⟩:=hx
   exact abd.1 (hf a) x ha
theorem ki:KF 0 h [] []:=fun n hn=>by
 obtain⟨k,rfl,_⟩:=mF (show kh≤n by omega)
 rfl
theorem dQ {k1 k2:Nat}{x y:AV}{xs ys:List AV}(f:zd k1 h x y)(g:KF k2 h xs ys):KF (k1+k2+1) h (x::xs) (y::ys):=fun n hn=>by
 obtain⟨k,rfl⟩:∃k,n=k+1:=⟨n - 1,by omega⟩
 simp only [dH]
 rw [f k (by omega),g k (by omega)]
 rfl
theorem kj {k:Nat}{xs ys:List AV}(f:KF k h xs ys):zd (k+1) h (.tup xs) (.tup ys):=fun n hn=>by
 obtain⟨k,rfl⟩:∃k,n=k+1:=⟨n - 1,by omega⟩
 simp only [gA]
 rw [f k (by omega)]; rfl
def fh:Nat:=4503599627370496
theorem fT {k:Nat}{xs ys:List AV}(f:eR k h xs ys)(hk:k≤fh:=by decide):eR fh h xs ys:=fun n hn=>f n (by omega)
def xT (x y:AV):Prop:=x.eY=true∧x.lu=y
def lh (xs ys:List AV):Prop:=ef xs=true∧fE xs=ys
theorem bD {k:IntKind}{n:Int}:xT (.int k n) (.int k n):=⟨rfl,rfl⟩
theorem pA {s:ByteArray}:xT (.str s) (.str s):=⟨rfl,rfl⟩
theorem gP (hp:E.flat=true:=by rfl):xT (E.fz l) (E.fz l):=da.ow hp
theorem fH:lh [] []:=⟨rfl,rfl⟩
theorem cb {x y:AV}{xs ys:List AV}(a:xT x y)(b:lh xs ys):lh (x::xs) (y::ys):=⟨by simp [ef,a.1,b.1],by simp [fE,a.2,b.2]⟩
theorem pB {xs ys:List AV}(a:lh xs ys):xT (.agg xs) (.agg ys):=⟨by simpa [AV.eY] using a.1,by show AV.agg (fE xs)=_; rw [a.2]⟩
end
end Go.R
namespace Go.R
open Go
def HH (k:IntKind)(x:Int):Int:=dD k (if k.signed then -1 else k.max) x
def bQ (l:List Int):ByteArray:=⟨(l.map fun n=>acp n.toNat).toArray⟩
def cV (s:ByteArray):List Int:=s.data.toList.map fun b=>(b.toNat:Int)
section
variable {P:Program}{h:AHeap}{K:Mem}{i q:Nat}{cs fU:List AV}{x z:AV}{t:TypeId}{off:Nat}
theorem kL (o:Has h K)(pV:cs.all AV.dp=true):∃i h',AJ h cs=some (.ptr i 0,h')∧Has h' ((i,.ob cs)::K):=by
 refine⟨h.next,h.alloc (.cells cs),by unfold AJ; rw [if_pos pV],o.new (fun k hk=>by rw [AHeap.alloc,cU,if_neg (by omega)]) (abQ _) (.inr (aaE _)) (abm _) ⟨by have:=o.pos; omega,by rw [AHeap.alloc,cU,if_pos rfl]⟩⟩
theorem cg (o:Has h K)(hq:K[q]? = some (i,.ob cs))(hr:jL P t cs off=some z):bp P h t (.ptr i off)=some z:=by
 obtain⟨⟨h1,h2⟩,_⟩:=o.at_ _ _ _ hq
 simp only [bp,jV,h2,aaA,hr]
theorem jx (o:Has h K)(hq:K[q]? = some (i,.ob cs))(hw:iD P t cs off x=some fU):∃h',jO P h t (.ptr i off) x=some h'∧Has h' (K.set q (i,.ob fU)):=by
 obtain⟨⟨h1,h2⟩,_⟩:=o.at_ _ _ _ hq
 exact⟨h.put i (.cells fU),by simp only [jO,h2,aaA,hw,aaG],jv o hq ⟨h1,by rw [cU,if_pos rfl]⟩⟩
theorem DZ:∀(l:List Int),J1 (af.l l)=some (l.map fun n=>acp n.toNat)
 | []=>rfl
 | a::l=>by
  have:=DZ l
  show (J1 (af.l l)).map _=_
  rw [this]; rfl
theorem nD {a b e:TypeId}{l:List Int}{h:AHeap}{x:AV}(ha:P.underlying a=some (.slice e))(hb:P.underlying b=some .string)(hu:Cl P e=true)(hc:∃n,dT h 1 x=some (af.l l,n)):eu P h a b x=some (.str (bQ l)):=by
 obtain⟨n,hc⟩:=hc
 simp only [eu,ha,hb,hu,if_true,hc,aaA,DZ,aaG,bQ]
theorem vo {l:List Int}(h:AHeap):∃n,dT h 1 (af.fz l)=some (af.l l,n):=by
 refine⟨l.length,?_⟩
 simp only [dT,da.fz]
 rw [if_pos (by rw [da.dc]; rfl)]
theorem Nl {l:List Int}{n:Nat}(o:Has h K)(hq:K[q]? = some (i,.sl n af.n (af.l l))):∃n',dT h 1 (.rs i 0 n 1)=some (af.l l,n'):=by
 have hn:=dP o hq
 subst hn
 obtain⟨⟨⟨hlen,Ce⟩,oo⟩,hlt⟩:=o.at_ _ _ _ hq
 simp only [dT]
 rcases oo with⟨h0,h1⟩| ⟨h0,rest,h1⟩
 ·have:l=[]:=by simpa using h1
  subst this
  exact⟨0,by simp [h0,da.l]⟩
 ·rw [if_neg h0,h1]
  simp only [aaA]
  have Nn:(af.l l).length=l.length*1:=by rw [da.dc]; rfl
  refine⟨l.length,?_⟩
  rw [if_pos ⟨trivial,by rw [aaI,Nn]; omega⟩,aa3,aa7 (by rw [Nn]; exact aaE _),aa4 (by rw [Nn]; exact aaE _)]
theorem zf (s:ByteArray):(AV.fz (s.data.toList.map fun b=>AV.int .u8 b.toNat) s.size false)=af.fz (cV s):=by
 have h1:∀l:List UInt8,(l.map fun b=>AV.int .u8 b.toNat)=af.l (l.map fun b=>(b.toNat:Int)):=by
  intro l
  induction l with
  | nil=>rfl
  | cons b l ih=>rw [aa6,aa6,da.eF,←ih]; rfl
 unfold da.fz cV
 rw [h1,aaX]
 rfl
theorem HI {a b e:TypeId}{h:AHeap}{s:ByteArray}(ha:P.underlying a=some .string)(hb:P.underlying b=some (.slice e))(hu:Cl P e=true):eu P h a b (.str s)=some (af.fz (cV s)):=by
 simp only [eu,ha,hb,hu,if_true]
 rw [zf]
end
theorem aP {x y:AV}(h:xT x y):aC x=y:=by
 unfold aC
 rw [h.1,h.2]; rfl
theorem aT:([]:List AV).map aC=[]:=rfl
theorem an {x y:AV}{xs ys:List AV}(a:aC x=y)(b:xs.map aC=ys):(x::xs).map aC=y::ys:=by
 rw [aa6,a,b]
theorem No {α:Type}{K L:List α}{q:Nat}{p:α}(h:L[q]? = some p):(K++L)[K.length+q]? = some p:=by
 rw [aaY (by omega),abH,h]
def r7 (k:IntKind)(x y:Int):Option Int:=if y<0 then none else some (k.wrap (x*2 ^ (min y.toNat k.bits)))
theorem CQ {P:Program}{t:TypeId}{k k':IntKind}{x y v:Int}(h:r7 k x y=some v):ml P .shl t (.int k x) (.int k' y)=some (.int k v):=by
 unfold r7 at h
 split at h
 ·cases h
 ·rename_i hy
  cases h
  simp only [ml,AV.gp,aaA,Go.binOp,Op.shift,hy,if_false]
  rfl
theorem uA {α:Type}{E:da α}{h:AHeap}{K:Mem}{l:List α}{cs:List AV}(o:Has h K)(hc:cs=E.l l)(hl:l.length≤1024:=by simp) :
  ∃i h',some (AV.rs h.next 0 l.length E.n,h.alloc (.cells cs))=some (AV.rs i 0 l.length E.n,h')∧Has h' ((i,.sl l.length E.n (E.l l))::K):=by
 subst hc
 exact⟨h.next,_,rfl,o.new (fun k hk=>by rw [AHeap.alloc,cU,if_neg (by omega)]) (abQ _) (.inr (aaE _)) (abm _) ⟨⟨da.dc,da.ov (by omega)⟩,.inr ⟨by have:=o.pos; omega,[],by rw [AHeap.alloc,cU,if_pos rfl]; simp⟩⟩⟩
end Go.R
