/- Part of the proof: RRow, RStep, RWalk, RG1, RG2, RG3, RG4, RT, RG5, RG6, RG7. -/
import Derived.Test.YtifafejidnjckaaGreatK3
import Derived.ProofKit
set_option linter.unusedVariables false
set_option linter.unusedSimpArgs false
set_option maxRecDepth 100000
open Bool renaming and_eq_true → ae3, false_eq_true → afa, or_eq_true → afR
open List renaming getElem?_eq_some_iff → ae5, length_append → afb, length_cons → afc, drop_eq_getElem_cons → afe, getElem?_append_right → afg, replicate → afh, length_nil → afi, mem_append → afk, getElem?_append_left → afm, append_assoc → afn, map_append → afo, mem_cons → afq, all_eq_true → afr, map_cons → afs, drop_zero → afw, take_append_of_le_length → afy, nil_append → afz, take_of_length_le → afA, eq_nil_of_length_eq_zero → afG, length_set → afJ, getElem?_cons_zero → afK, length_take → afO, all_cons → afQ, take_length → afS, length_replicate → afW, append_nil → afZ, ext_getElem? → af0, getElem?_cons_succ → af1, getElem?_of_mem → af4, set_append_right → agf, drop_append_of_le_length → agh, getElem?_set → agl, take_append_drop → agu
open Nat renaming le_refl → ae4, zero_add → aft, lt_of_lt_of_le → afx, lt_succ_self → afL, beq → afN, le_trans → afV, add_sub_cancel_left → afX, mul_le_mul_right → af2, add_assoc → af8, sub_self → aga, le_succ → agb, eq_of_beq_eq_true → agd, add_mul → ags, lt_succ_of_lt → agx, add_zero → agz, ble → agB, min_eq_left → agC, zero_lt_one → agD, add_comm → agF, mul_one → agI
open Option renaming bind_some → aeZ, bind_eq_some_iff → ae0, map_eq_some_iff → ae1, map_some → ae6, isSome_none → agA
open Option.some renaming injEq → ae2
open Prod.mk renaming injEq → ae9
namespace Go.R
open Go
def Fx (P:Program)(F:TypeId→List AV→Prop):List Field→List AV→Prop
 | [],xs=>xs=[]
 | f::fs,xs=>∃a b,xs=a++b∧a.length=P.cellsOf f.type∧F f.type a∧Fx P F fs b
def Fits (P:Program):Nat→TypeId→List AV→Prop
 | 0,_,_=>False
 | n+1,t,xs=>
  match P.underlying t with
  | some .bool=>∃b,xs=[.bool b]
  | some (.int k)=>∃z,xs=[.int k z]∧k.min≤z∧z≤k.max
  | some .string=>∃s:ByteArray,xs=[.str s]∧s.size≤maxLen
  | some (.slice e)=>xs=[.nils]∨∃els:List (List AV),xs=[.fz els.flatten els.length false]∧els.length≤maxLen∧∀el∈els,el.length=P.cellsOf e∧Fits P n e el
  | some (.struct fs)=>Fx P (Fits P n) fs.toList xs
  | _=>False
def xb (P:Program):Nat→List Field→Bool
 | _,[]=>true
 | k,f::fs=>afN f.offset k&&xb P (k+P.cellsOf f.type) fs
def qp (P:Program):Nat→TypeId→Bool
 | 0,_=>false
 | n+1,t=>
  match P.underlying t with
  | some .bool | some (.int _) | some .string=>true
  | some (.slice e)=>qp P n e
  | some (.struct fs)=>xb P 0 fs.toList&&afN (P.cellsOf t) ((fs.toList.map fun f=>P.cellsOf f.type).sum)&&fs.toList.all fun f=>qp P n f.type
  | _=>false
theorem mapM_some {α β:Type}{f:α→Option β}:∀{l:List α} {ys:List β},l.mapM f=some ys→ys.length=l.length∧∀(i:Nat) (x:α),l[i]? = some x→∃y,ys[i]? = some y∧f x=some y
 | [],ys,h=>by
  simp at h; subst h
  exact⟨rfl,fun i x hx=>by simp at hx⟩
 | a::l,ys,h=>by
  simp only [List.mapM_cons,Option.bind_eq_bind,ae0,Option.pure_def,ae2] at h
  obtain⟨y,hy,zs,hz,rfl⟩:=h
  obtain⟨h1,h2⟩:=mapM_some hz
  refine⟨by simp [h1],fun i x hx=>?_⟩
  cases i with
  | zero=>simp at hx; subst hx; exact⟨y,rfl,hy⟩
  | succ i=>simpa using h2 i x (by simpa using hx)
theorem Fy {w:World}{a:Addr}{v:Value}(h:w.cell? a=some v):w.cell? ⟨a.block,a.off,none⟩=some v∧a.spot=none:=by
 unfold World.cell? at h ⊢
 split at h
 ·rename_i c t fr hb
  rw [hb]
  simp only at h ⊢
  cases hs:a.spot with
  | none=>rw [hs] at h; exact⟨by simpa using h,rfl⟩
  | some _=>rw [hs] at h; simp at h
 ·cases h
theorem ru (a:Addr)(n:Nat):(a.add n).block=a.block∧(a.add n).off=a.off+n:=by
 unfold Addr.add
 split
 ·rename_i h; subst h; exact⟨rfl,rfl⟩
 ·exact⟨rfl,rfl⟩
theorem Dq {w:World}{base:Nat}{a:Addr}{n:Nat}{cs:List Value}(h:w.cells? base a n=some cs):cs.length=n∧∀i,i<n→w.cell? ⟨a.block,a.off+i,none⟩=cs[i]?∧(i=0→a.spot=none):=by
 unfold World.cells? at h
 split at h
 ·obtain⟨h1,h2⟩:=mapM_some h
  refine⟨by simpa using h1,fun i hi=>?_⟩
  obtain⟨y,hy,hc⟩:=h2 i i (by simp [hi])
  obtain⟨h3,h4⟩:=Fy hc
  rw [(ru a i).1,(ru a i).2] at h3
  refine⟨by rw [h3,hy],fun h0=>?_⟩
  subst h0
  simpa [Addr.add] using h4
 ·cases h
theorem vN {α:Type}{Q:Nat→α→Prop}:∀n,(∀i,i<n→∃x,Q i x)→∃l:List α,l.length=n∧∀i x,l[i]? = some x→Q i x
 | 0,_=>⟨[],rfl,fun i x h=>by simp at h⟩
 | n+1,h=>by
  obtain⟨l,h1,h2⟩:=vN n fun i hi=>h i (by omega)
  obtain⟨x,hx⟩:=h n (by omega)
  refine⟨l++[x],by simp [h1],fun i y hy=>?_⟩
  by_cases hi:i<n
  ·exact h2 i y (by rwa [afm (by omega)] at hy)
  ·rw [afg (by omega)] at hy
   have:i=n:=by
    have:=(ae5.1 hy).1
    simp at this; omega
   subst this
   simp [h1] at hy
   subst hy; exact hx
theorem Cells.append {c:Cx}{L:Nat→Prop}:∀{xs ys:List AV} {b o:Nat},Cells c L xs b o→Cells c L ys b (o+xs.length)→Cells c L (xs++ys) b o
 | [],ys,b,o,_,h=>by simpa using h
 | x::xs,ys,b,o,h,k=>⟨h.1,Cells.append h.2 (by simpa [af8,agF 1] using k)⟩
theorem Cells.flatten {c:Cx}{L:Nat→Prop}{b size:Nat}:∀(els:List (List AV)) (o:Nat),(∀i el,els[i]? = some el→el.length=size∧Cells c L el b (o+i*size))→Cells c L els.flatten b o
 | [],o,_=>trivial
 | el::els,o,h=>by
  obtain⟨h1,h2⟩:=h 0 el rfl
  rw [List.flatten_cons]
  refine Cells.append (by simpa using h2) (Cells.flatten (size:=size) els _ fun i el' he=>?_)
  obtain⟨h3,h4⟩:=h (i+1) el' (by simpa using he)
  refine⟨h3,?_⟩
  rw [h1]
  rwa [show o+size+i*size=o+(i+1)*size by rw [ags,Nat.one_mul]; omega]
section
variable {H:Type}{enc:TypeId × Value→H}{P:Program}{c:Cx}{sp:Nat→Bool}{held:Bool}
theorem vO {F:TypeId→List AV→Prop}{g:TypeId→List Value→Option (DataW H × List MemPlace)}(hg:∀t cs x,g t cs=some x→cs.length=P.cellsOf t→(∃u:Nat,u=0)→True) :
  ∀(fs:List Field) (k:Nat) (cs:List Value) (xs:List (DataW H × List MemPlace)),xb P k fs=true→(∀f∈fs,∀cs x,g f.type cs=some x→cs.length=P.cellsOf f.type→∃ys,VRs c none0 ys cs∧F f.type ys∧∀v∈cs,v.oneCell'=true)→
   (fs.mapM fun f=>g f.type ((cs.drop f.offset).take (P.cellsOf f.type)))=some xs→k+(fs.map fun f=>P.cellsOf f.type).sum≤cs.length→
   ∃ys,VRs c none0 ys ((cs.drop k).take ((fs.map fun f=>P.cellsOf f.type).sum))∧Fx P F fs ys∧∀v∈(cs.drop k).take ((fs.map fun f=>P.cellsOf f.type).sum),v.oneCell'=true
 | [],k,cs,xs,_,_,_,_=>⟨[],by simp [VRs],rfl,by simp⟩
 | f::fs,k,cs,xs,hc,hF,h,hl=>by
  simp only [xb,ae3,beq_nat,decide_eq_true_eq] at hc
  obtain⟨rfl,hc⟩:=hc
  simp only [List.mapM_cons,Option.bind_eq_bind,ae0,Option.pure_def,ae2] at h
  obtain⟨y,hy,zs,hz,rfl⟩:=h
  simp only [afs,List.sum_cons] at hl ⊢
  have hlen:((cs.drop f.offset).take (P.cellsOf f.type)).length=P.cellsOf f.type:=by simp; omega
  obtain⟨a,ha,hFa,h1⟩:=hF f (by simp) _ _ hy hlen
  obtain⟨b,hb,hFb,h2⟩:=vO hg fs (f.offset+P.cellsOf f.type) cs zs hc (fun f' TU=>hF f' (by simp [TU])) hz (by omega)
  have QM:(cs.drop f.offset).take (P.cellsOf f.type+(fs.map fun f=>P.cellsOf f.type).sum)=(cs.drop f.offset).take (P.cellsOf f.type)++((cs.drop (f.offset+P.cellsOf f.type)).take ((fs.map fun f=>P.cellsOf f.type).sum)):=by
   rw [List.take_add,List.drop_drop]
  rw [QM]
  refine⟨a++b,VRs.append ha hb,⟨a,b,rfl,?_,hFa,hFb⟩,fun v hv=>?_⟩
  ·rw [ha.length,hlen]
  ·rcases afk.1 hv with hv | hv
   ·exact h1 v hv
   ·exact h2 v hv
theorem uA (w7:∀id,c.h.get id=none):∀(m:Nat) (t:TypeId) (fuel:Nat) (cs:List Value) (d:DataW H) (ps:List MemPlace),qp P m t=true→DataW.trod enc P c.w 0 sp held fuel t cs=some (d,ps)→
  ∃xs,VRs c none0 xs cs∧Fits P m t xs∧∀v∈cs,v.oneCell'=true
 | 0,_,_,_,_,_,hB,_=>by simp [qp] at hB
 | m+1,t,0,cs,d,ps,hB,h=>by simp [DataW.trod] at h
 | m+1,t,fuel+1,cs,d,ps,hB,h=>by
  have hnl:∀id,¬Live c.h id:=fun id hl=>by have:=hl.2; rw [w7 id] at this; cases this
  unfold qp at hB
  unfold Fits
  cases hu:P.underlying t with
  | none=>rw [hu] at hB; cases hB
  | some td=>
  rw [hu] at hB
  cases td<;>simp only at hB ⊢<;>try (cases hB; done)
  ·
   unfold DataW.trod at h
   rw [hu] at h
   split at h<;>first | (rename_i heq; cases heq; done) | skip
   all_goals try (rename_i heq _; cases heq; done)
   all_goals (first | (cases h; done) | skip)
   ·rename_i b _
    exact⟨[.bool b],⟨by simp [VR],trivial⟩,⟨b,rfl⟩,by simp [Value.oneCell']⟩
  ·rename_i k
   unfold DataW.trod at h
   rw [hu] at h
   split at h<;>first | (rename_i heq; cases heq; done) | skip
   all_goals try (rename_i heq _; cases heq; done)
   ·rename_i k' k2 n heq
    cases heq
    split at h
    ·rename_i hk
     obtain⟨rfl,We⟩:=hk
     simp only [Lit.wf,ae3,decide_eq_true_eq] at We
     exact⟨[.int k2 n],⟨by simp [VR],trivial⟩,⟨n,rfl,We⟩,by simp [Value.oneCell']⟩
    ·cases h
   ·cases h
  ·
   unfold DataW.trod at h
   rw [hu] at h
   split at h<;>first | (rename_i heq; cases heq; done) | skip
   all_goals try (rename_i heq _; cases heq; done)
   ·rename_i s _
    split at h
    ·rename_i hs
     exact⟨[.str s],⟨by simp [VR],trivial⟩,⟨s,rfl,hs⟩,by simp [Value.oneCell']⟩
    ·cases h
   ·cases h
  ·
   rename_i e
   unfold DataW.trod at h
   rw [hu] at h
   split at h<;>first | (rename_i heq; cases heq; done) | skip
   all_goals try (rename_i heq _; cases heq; done)
   ·exact⟨[.nils],⟨by simp [VR],trivial⟩,.inl rfl,by simp [Value.oneCell']⟩
   ·rename_i e' a len cap heq
    cases heq
    simp only at h
    split at h
    rotate_left
    ·cases h
    rename_i hbound
    obtain⟨_,hlc,hcap⟩:=hbound
    rw [ae0] at h
    obtain⟨elems,Ub,_⟩:=h
    obtain⟨hn,hget⟩:=mapM_some Ub
    have key:∀i,i<len→∃el:List AV,el.length=P.cellsOf e∧Fits P m e el∧Cells c none0 el a.block (a.off+i*P.cellsOf e)∧(i=0→0<P.cellsOf e→a.spot=none):=by
     intro i hi
     obtain⟨y,_,hy⟩:=hget i i (by simp [hi])
     rw [ae0] at hy
     obtain⟨csi,hcs,hy⟩:=hy
     obtain⟨hl,rQ⟩:=Dq hcs
     obtain⟨el,hv,hf,h1⟩:=uA w7 m e fuel csi y.1 y.2 hB hy
     refine⟨el,by rw [hv.length,hl],hf,Cells.of_vals hv (fun j hj=>?_) h1,fun h0 oI=>?_⟩
     ·have:=(rQ j (by omega)).1
      rwa [(ru a _).1,(ru a _).2] at this
     ·subst h0
      have:=(rQ 0 oI).2 rfl
      simpa [Addr.add] using this
    obtain⟨els,hl,IX⟩:=vN len key
    refine⟨[.fz els.flatten els.length false],⟨?_,trivial⟩,.inr ⟨els,rfl,by omega,fun el Ub=>?_⟩,by simp [Value.oneCell']⟩
    ·simp only [VR]
     refine⟨some a,cap,by rw [hl],by omega,by simp,.inl rfl,?_⟩
     by_cases QP:els.flatten=[]
     ·exact .inl QP
     ·have oI:0<len∧0<P.cellsOf e:=by
       cases els with
       | nil=>simp at QP
       | cons el els=>
        refine⟨by simp at hl; omega,?_⟩
        rcases Nat.eq_zero_or_pos (P.cellsOf e) with h0 | h0
        ·exfalso
         apply QP
         rw [List.flatten_eq_nil_iff]
         intro l rN
         obtain⟨i,hi⟩:=af4 rN
         have:=(IX i l hi).1
         exact afG (by omega)
        ·exact h0
      have PJ:a.spot=none:=by
       cases els with
       | nil=>simp at hl; omega
       | cons el els=>exact (IX 0 el rfl).2.2.2 rfl oI.2
      refine .inr ⟨a.block,a.off,?_,⟨fun id hl=>absurd hl (hnl id),fun h=>h.elim⟩,by simp,Cells.flatten els a.off fun i el hi=>⟨(IX i el hi).1,(IX i el hi).2.2.1⟩⟩
      cases a; simp at PJ; subst PJ; rfl
    ·obtain⟨i,hi⟩:=af4 Ub
     exact⟨(IX i el hi).1,(IX i el hi).2.1⟩
   ·cases h
  ·
   rename_i fs
   simp only [ae3,beq_nat,decide_eq_true_eq,afr] at hB
   obtain⟨⟨Xa,Xb⟩,Uc⟩:=hB
   simp only [DataW.trod,hu] at h
   split at h
   rotate_left
   ·cases h
   rename_i hlen
   rw [ae1] at h
   obtain⟨xs,hx,_⟩:=h
   obtain⟨ys,h1,h2,h3⟩:=vO (P:=P) (c:=c) (F:=Fits P m) (g:=fun t cs=>DataW.trod enc P c.w 0 sp held fuel t cs) (fun _ _ _ _ _ _=>trivial) fs.toList 0 cs xs Xa
    (fun f hf cs x hx _=>uA w7 m f.type fuel cs x.1 x.2 (Uc f hf) hx) hx (by omega)
   have mC:(cs.drop 0).take ((fs.toList.map fun f=>P.cellsOf f.type).sum)=cs:=by
    rw [afw,←Xb,←hlen,afS]
   rw [mC] at h1 h3
   exact⟨ys,h1,h2,h3⟩
def nj (P:Program)(t:TypeId)(xs:List AV):AV:=
 match P.underlying t with
 | some (.struct _)=>.agg xs
 | _=>xs.headD .any
def tq (P:Program)(m:Nat):List TypeId→List AV→Prop
 | [],[]=>True
 | t::ts,x::Bz=>(∃xs,x=nj P t xs∧Fits P m t xs)∧tq P m ts Bz
 | _,_=>False
theorem IY {w:World}{m:Nat}{t:TypeId}{v:Value}{base:Nat}(hB:qp P m t=true)(hs:∀fs,P.underlying t≠some (.struct fs))(h:Value.okWide P w .any base t v):v.cells.toList=[v]:=by
 cases m with
 | zero=>simp [qp] at hB
 | succ m=>
 unfold qp at hB
 unfold Value.okWide at h
 cases hu:P.underlying t with
 | none=>rw [hu] at hB; cases hB
 | some td=>
 rw [hu] at hB h
 cases td<;>simp only at hB h<;>first
  | (cases hB; done)
  | (exact absurd hu (hs _))
  | (cases v<;>simp only [Cell.okWide,Cell.ok,hu] at h<;>first | (exact h.elim) | rfl | (simp [Value.cells]))
theorem KA (w7:∀id,c.h.get id=none){m:Nat}{t:TypeId}{v:Value}{d:DataW H}{ps:List MemPlace}{base:Nat}(hB:qp P m t=true)(ho:Value.okWide P c.w .any base t v)(h:DataW.Trod enc P c.w 0 sp held t v d ps) :
  ∃xs,Fits P m t xs∧VR c none0 (nj P t xs) v:=by
 obtain⟨fuel,h⟩:=h
 obtain⟨xs,h1,h2,_⟩:=uA w7 m t fuel _ d ps hB h
 refine⟨xs,h2,?_⟩
 by_cases hs:∃fs,P.underlying t=some (.struct fs)
 ·obtain⟨fs,hs⟩:=hs
  unfold Value.okWide at ho
  rw [hs] at ho
  obtain⟨cs,rfl,_⟩:=ho
  unfold nj
  rw [hs]
  simp only [VR]
  exact⟨cs,rfl,h1⟩
 ·have SS:∀fs,P.underlying t≠some (.struct fs):=fun fs h=>hs ⟨fs,h⟩
  have hc:=IY hB SS ho
  rw [hc] at h1
  have hx:nj P t xs=xs.headD .any:=by
   unfold nj
   split
   ·rename_i fs h; exact absurd h (SS fs)
   ·rfl
  rw [hx]
  cases xs with
  | nil=>exact h1.elim
  | cons x xs=>exact h1.1
theorem Dr (w7:∀id,c.h.get id=none){m base:Nat}:∀(ts:List TypeId) (vs:List Value) (ds:List (DataW H)) (ps:List MemPlace),(∀t∈ts,qp P m t=true)→(∀(j:Nat) t v,ts[j]? = some t→vs[j]? = some v→Value.okWide P c.w .any base t v)→
  DataW.TrodAll enc P c.w 0 sp held ts vs ds ps→∃Bz,tq P m ts Bz∧VRs c none0 Bz vs
 | [],[],[],_,_,_,_=>⟨[],trivial,trivial⟩
 | t::ts,v::vs,d::ds,ps,hB,ho,h=>by
  obtain⟨p,q,h1,h2,_⟩:=h
  obtain⟨xs,h3,h4⟩:=KA w7 (hB t (by simp)) (ho 0 t v rfl rfl) h1
  obtain⟨Bz,h5,h6⟩:=Dr w7 ts vs ds q (fun t ht=>hB t (by simp [ht])) (fun j t v hj hv=>ho (j+1) t v (by simpa using hj) (by simpa using hv)) h2
  exact⟨nj P t xs::Bz,⟨⟨xs,rfl,h3⟩,h5⟩,h4,h6⟩
 | [],[],_::_,_,_,_,h=>h.elim
 | [],_::_,_,_,_,_,h=>by cases h
 | _::_,[],_,_,_,_,h=>by cases h
 | _::_,_::_,[],_,_,_,h=>by cases h
theorem ny (hl:laidOutB P=true){W W':World}{sp':Nat→Bool}:∀{ts:List TypeId} {vs:List Value} {ds:List (DataW H)} {ps:List MemPlace},(∀t∈ts,P.readableRec t=true∧t<P.types.size)→
  DataW.TrodAll enc P W 0 (fun _=>true) true ts vs ds ps→(∀p∈ps,W.sameAt W' p)→(∀p∈ps,sp' p.block=true)→DataW.TrodAll enc P W' 0 sp' true ts vs ds ps
 | [],[],[],_,_,h,_,_=>h
 | t::ts,v::vs,d::ds,ps,hr,h,hs,hp=>by
  obtain⟨p,q,h1,h2,rfl⟩:=h
  exact⟨p,q,WideElems.Trod_stays hl (hr t (by simp)).1 (hr t (by simp)).2 h1 (fun x hx=>hs x (by simp [hx])) (fun x hx=>hp x (by simp [hx])),
   ny hl (fun t ht=>hr t (by simp [ht])) h2 (fun x hx=>hs x (by simp [hx])) (fun x hx=>hp x (by simp [hx])),rfl⟩
 | [],[],_::_,_,_,h,_,_=>h.elim
 | [],_::_,_,_,_,h,_,_=>by cases h
 | _::_,[],_,_,_,h,_,_=>by cases h
 | _::_,_::_,[],_,_,h,_,_=>by cases h
theorem IZ {f:Func}{s:ChangeSpec}{apart fresh handsOn again:Bool}{W W':World}{args:Array Value}{ds gs:List (DataW H)}{before:List MemPlace}{tb:TypeId}
  (hl:laidOutB P=true) (hr:∀t∈f.params.toList,P.readableRec t=true∧t<P.types.size) (hW:DataW.Whole enc P f.params.toList s.vars apart W args.toList ds gs before) (hv:s.vars=[])
  (KB:f.resultTypes = #[tb]) (Wf:P.underlying tb=some .bool) (Ud:(s.fn H (ds++gs))={results:=[.lit (.bool true)],args:=ds}) (hb:RowKit.Below W.heap.size W W') :
  s.post enc P f apart fresh handsOn again W args (.bool true) W':=by
 have hlt:=hW.lt
 have hW0:=hW
 obtain⟨p,q,hA,hV,hpq,hz,hn⟩:=hW
 rw [hv] at hV
 have Xc:gs=[]∧q=[]:=by
  cases gs with
  | nil=>exact⟨rfl,hV⟩
  | cons g gs=>exact hV.elim
 obtain⟨rfl,rfl⟩:=Xc
 have Xd:before=p:=by simpa using hpq
 subst Xd
 have PK:∀x∈before,W.sameAt W' x:=fun x hx=>hb.same (hlt x hx)
 have Ue:(Value.bool true).resultList f.resultTypes.size=[.bool true]:=by rw [KB]; rfl
 have PL:∀(b:Nat) (sp:Nat→Bool) (hd:Bool),DataW.TrodAll enc P W' b sp hd f.resultTypes.toList ((Value.bool true).resultList f.resultTypes.size) [.lit (.bool true)] []:=by
  intro b sp hd
  rw [Ue,KB]
  exact ChangeShapes.trodAll_mk1 (RowKit.shut_bool Wf true)
 refine⟨ds,[],before,[],before,[],hW0,?_,?_,?_,?_,fun _=>⟨?_,?_⟩⟩
 ·rw [Ud]; exact PL _ _ _
 ·rw [Ud]
  exact ny hl hr hA PK (fun x hx=>by simpa using hlt x hx)
 ·rw [Ud,hv]; rfl
 ·exact hb.frame _
 ·exact RowKit.ok_one KB rfl (RowKit.okWide_bool_mk Wf true)
 ·refine⟨_,[],before,⟨[]++before,[],ChangeShapes.trodAll_append (ny hl hr hA PK (fun _ _=>rfl)) (PL 0 _ _),by rw [hv]; rfl,by simp,fun b off hx=>?_,hn⟩,fun p hp _=>hp⟩
  rw [hb.frozen (p:=⟨b,off,none⟩) (hlt _ hx)]
  exact hz b off hx
theorem Ext.below {c c':Cx}(e:Ext c none0 c' none0):RowKit.Below c.base c.w c'.w:=⟨e.os,e.tape,e.output,e.size,fun b hb=>e.exact b hb⟩
theorem zz {cf:CallF}{Fq:FuncId}{f:Func}{s:ChangeSpec}{apart fresh handsOn again:Bool}{m:Nat}{tb:TypeId}
  (hl:laidOutB P=true) (hr:∀t∈f.params.toList,P.readableRec t=true∧t<P.types.size) (hB:∀t∈f.params.toList,qp P m t=true) (hv:s.vars=[]) (KB:f.resultTypes = #[tb]) (Wf:P.underlying tb=some .bool)
  (Ud:∀ds:List (DataW H),ds.length=f.params.size→(s.fn H ds)={results:=[.lit (.bool true)],args:=ds})
  (hcf:∀Bz,tq P m f.params.toList Bz→∃cf h',CallOK P cf∧cf Fq Bz bC=some (.bool true,h'))
  {W:World} {base:Nat} {args:Array Value} {ds gs:List (DataW H)} {before:List MemPlace} (fL:∀(j:Nat) t v,f.params[j]? = some t→args[j]? = some v→Value.okWide P W .any base t v)
  (hW:DataW.Whole enc P f.params.toList s.vars apart W args.toList ds gs before) :
  Calls P Fq args W fun e W'=>∃v,e = .returned v∧s.post enc P f apart fresh handsOn again W args v W':=by
 have hW0:=hW
 obtain⟨p,q,hA,hV,hpq,_,_⟩:=hW
 let c:Cx:=⟨fun _=>(0,0),bC,W,W.heap.size⟩
 obtain⟨Bz,h1,h2⟩:=Dr (c:=c) (P:=P) (m:=m) (base:=base) (fun _=>rfl) f.params.toList args.toList ds p hB (fun j t v hj hv=>fL j t v (by simpa using hj) (by simpa using hv)) hA
 obtain⟨cf,h',sK,Xe⟩:=hcf Bz h1
 have hnl:∀id,¬Live c.h id:=fun id hl=>by have:=hl.2; cases this
 have hcall:=(sK Fq Bz bC _ _ Xe).2 none0 c args.toList rfl (ae4 _) ⟨fun id o ho=>(by cases ho),fun id o ho=>(by cases ho),fun id _ hl _ _=>absurd hl (hnl id),fun id hl=>absurd hl (hnl id),fun b hb=>hb.elim,fun id hl=>absurd hl (hnl id),fun _=>agD⟩ h2
 rw [Array.toArray_toList] at hcall
 have hlen:∀(ts:List TypeId) (vs:List Value) (ds:List (DataW H)) (p:List MemPlace),DataW.TrodAll enc P W 0 (fun _=>true) true ts vs ds p→ds.length=ts.length:=by
  intro ts
  induction ts with
  | nil=>intro vs ds p h; cases vs<;>cases ds<;>first | rfl | (cases h; done) | exact h.elim
  | cons t ts ih=>intro vs ds p h; cases vs<;>cases ds<;>first | (cases h; done) | (obtain⟨_,_,_,h2,_⟩:=h; simp [ih _ _ _ h2])
 have Xc:gs=[]:=by
  rw [hv] at hV
  cases gs with
  | nil=>rfl
  | cons g gs=>exact hV.elim
 refine hcall.mono ?_
 rintro e w' ⟨c',v,rfl,rfl,hh,GB,hrel,Qy⟩
 simp only [VR] at GB
 subst GB
 refine⟨_,rfl,IZ hl hr hW0 hv KB Wf ?_ Qy.below⟩
 rw [Xc,afZ]
 exact Ud ds (by rw [hlen _ _ _ _ hA]; simp)
end
end Go.R
namespace Go.R
open Go
section
variable {P:Program}{cf:CallF}{aS ds:List Nat}{s:RS}{d:Option Tmp}{t:TypeId}{p:String}{a:Array Edge}{g:Option (Nat × Bool)}{ops:List Oper}{ρ:Nat→AV}{bx:Nat→Option (List AV)}{h:AHeap}
variable {A:bX}{m:Nat}{st:St}
end
end Go.R
namespace Go.R
open Go
def sub:List Nat→Code→Code
 | [],c=>c
 | 0::p,.seq a _=>sub p a
 | _::p,.seq _ b=>sub p b
 | 0::p,.cond _ a _=>sub p a
 | _::p,.cond _ _ b=>sub p b
 | _::p,.block _ a=>sub p a
 | _::p,.loop a=>sub p a
 | _,c=>c
def bA (f:Func):Code:=f.body.getD .skip
end Go.R
namespace Go.R
open Go
section
variable (P:Program)
def bB (h:AHeap)(t:TypeId)(x:AV):Option AV:=mr P (fun _=>none) h t x
def kU (h:AHeap)(t:TypeId)(a x:AV):Option AHeap:=
 match a with
 | .ptr id off=>(h.get id).bind fun | .cells cs=>(jM P t cs off x).map fun gF=>h.put id (.cells gF) | _=>none
 | _=>none
def GY (cf:CallF)(f:AV)(as:List AV)(h:AHeap):Option (AV × AHeap):=
 match f with
 | .fn f cap=>if as.all AV.nI then cf f (as++cap) h else none
 | _=>none
def Ds (h:AHeap)(cs:List AV):Option (AV × AHeap):=if cs.all AV.cL then some (.ptr h.next 0,h.alloc (.cells cs)) else none
def I0 (aS:List Nat)(d:Option Nat):Bool:=match d with | some d=>!aS.contains d | none=>false
def KC (aS:List Nat)(h:AHeap)(o:Oper)(t:TypeId)(x:Option AV):Option (AV × AHeap):=
 x.bind fun x=>(sd P aS o t x).map fun (cs,n,z)=>(.rs h.next 0 n z,h.alloc (.cells cs))
def QQ (e:Operand→AV)(h:AHeap)(o:Oper)(z:AV):Prop:=
 match o.op with
 | .move x | .assign x=>e x=z
 | .load t a=>bB P h t (e a)=some z
 | .binOp op t x y _=>pX P op t (e x) (e y)=some z
 | .unOp op _ x=>((e x).jh.bind fun a=>(kM P (Op.unary op a)).bind sR)=some z
 | .convert a b x=>pW P h a b (e x)=some z
 | .slice t x lo hi mx=>oz P t (e x) (lo.map e) (hi.map e) (mx.map e)=some z
 | .indexAddr t x i=>gS P t (e x) (e i)=some z
 | .index t x i=>ui P t (e x) (e i)=some z
 | .lookup t m k ok=>iR P h t (e m) (e k) ok=some z
 | .call {callee:=.builtin .len,args,argTypes}=>match argTypes.toList,args.toList.map e with
  | [t],[x]=>xq P h t x=some z
  | _,_=>False
 | _=>False
def QR (cf:CallF)(aS:List Nat)(e:Operand→AV)(h:AHeap)(o:Oper)(z:AV)(h':AHeap):Prop:=
 match o.op with
 | .store t a x=>bif o.dst.isSome then False else kU P h t (e a) (e x)=some h'
 | .alloc t=>bif I0 aS o.dst then (jX P t).bind (fun z=>Ds h (E8 aS o.dst z.cells))=some (z,h') else False
 | .box _ x=>bif I0 aS o.dst then Ds h (e x).cells=some (z,h') else False
 | .buildSlice t n ps=>KC P aS h o t (jz P t n (ps.toList.map fun (i,x)=>(i,e x)))=some (z,h')
 | .makeMap _ none=>(AV.mp h.next,h.alloc (.map []))=(z,h')
 | .makeSlice t l c=>iq P h t (e l) (e c)=some (z,h')
 | .mapUpdate t m k x | .insert t m k x=>bif o.dst.isSome then False else kO P h t (e m) (e k) (e x)=some h'
 | .call {callee:=.builtin .append,args,argTypes}=>match argTypes.toList,args.toList.map e with
  | [t,t2],[x,y]=>dM P h t t2 x y=some (z,h')
  | _,_=>False
 | .call {callee:=.builtin .copy,args,argTypes}=>match argTypes.toList,args.toList.map e with
  | [t,t2],[x,y]=>vu P h t t2 x y=some (z,h')
  | _,_=>False
 | .call {callee:=.value f,args,..}=>bif Tw aS o.dst then (GY cf (e f) (args.toList.map e) h).bind (fun x=>kP 0 x.2 x.1)=some (z,h') else GY cf (e f) (args.toList.map e) h=some (z,h')
 | .call {callee:=.builtin .clear,args,argTypes}=>match argTypes.toList,args.toList.map e with
  | [t],[x]=>(oB P h t x).map (fun h=>(AV.tup [],h))=some (z,h')
  | _,_=>False
 | _=>False
end
abbrev NF:=List (Nat × AV × Option AHeap)
def wu (P:Program)(cf:CallF)(aS:List Nat)(ops:List Oper):RS→Nat→List Oper→NF→Option (List pD × RS × Prop)
 | s,_,[],[]=>some ([],s,True)
 | _,_,[],_::_=>none
 | s,i,o::os,zs=>
  (jN ops s.ρ o).bind fun w=>
   bif w then
    match zs with
    | []=>(A7 P cf aS (ops.filterMap (·.dst)) s o).bind fun s1=>(wu P cf aS ops s1 (i+1) os []).map fun (l,r,p)=>({o,f:=bE aS (ck s.ρ) o,s,s':=s1}::l,r,p)
    | (j,z,oh)::Ae=>
     bif afN i j then
      match oh with
      | none=>(wu P cf aS ops (s.set o.dst z) (i+1) os Ae).map fun (l,r,p)=>({o,f:=bE aS (ck s.ρ) o,s,s':=s.set o.dst z}::l,r,QQ P (ck s.ρ) s.h o z∧p)
      | some h'=>(wu P cf aS ops (({s with h:=h'}:RS).set o.dst z) (i+1) os Ae).map fun (l,r,p)=>({o,f:=bE aS (ck s.ρ) o,s,s':=({s with h:=h'}:RS).set o.dst z}::l,r,QR P cf aS (ck s.ρ) s.h o z h'∧p)
     else (A7 P cf aS (ops.filterMap (·.dst)) s o).bind fun s1=>(wu P cf aS ops s1 (i+1) os zs).map fun (l,r,p)=>({o,f:=bE aS (ck s.ρ) o,s,s':=s1}::l,r,p)
   else (wu P cf aS ops (s.set o.dst (.tup [])) (i+1) os zs).map fun (l,r,p)=>({o,f:={},s,s':=s.set o.dst (.tup [])}::l,r,p)
section
variable {P:Program}{cf:CallF}{aS:List Nat}
theorem KD {h:AHeap}{t:TypeId}{x z:AV}{bx:Nat→Option (List AV)}(hh:bB P h t x=some z):mr P bx h t x=some z:=by
 cases x<;>first | exact hh | (simp [bB,mr] at hh)
theorem Oc {s:RS}{o:Oper}{z:AV}(h:QQ P (ck s.ρ) s.h o z)(ds:List Nat):A7 P cf aS ds s o=some (s.set o.dst z):=by
 unfold QQ at h
 unfold A7 E9
 dsimp only
 split at h
 ·rename_i ho; rw [ho]; simp only [h]
 ·rename_i ho; rw [ho]; simp only [h]
 ·rename_i ho; rw [ho]; simp only [KD h,ae6]
 ·rename_i ho; rw [ho]; simp only [h,ae6]
 ·rename_i ho; rw [ho]; simp only [h,ae6]
 ·rename_i ho; rw [ho]; simp only [h,ae6]
 ·rename_i ho; rw [ho]; simp only [h,ae6]
 ·rename_i ho; rw [ho]; simp only [h,ae6]
 ·rename_i ho; rw [ho]; simp only [h,ae6]
 ·rename_i ho; rw [ho]; simp only [h,ae6]
 ·rename_i ho
  rw [ho]
  split at h
  ·rename_i h1 h2
   simp only [h1,h2,iL,h,ae6]
  ·exact h.elim
 ·exact h.elim
theorem Dt {s:RS}{o:Oper}{cs:List AV}{z:AV}{h':AHeap}(hn:I0 aS o.dst=true)(h:Ds s.h cs=some (z,h'))(ds:List Nat):kp s aS ds o cs=some (({s with h:=h'}:RS).set o.dst z):=by
 unfold Ds at h
 split at h
 rotate_left
 ·cases h
 rename_i sK
 simp only [ae2,ae9] at h
 obtain⟨rfl,rfl⟩:=h
 unfold kp
 rw [if_pos sK]
 unfold I0 at hn
 split at hn
 ·rename_i d hd
  rw [hd]
  have:aS.contains d=false:=by simpa using hn
  simp only [this,afa,if_false]
 ·cases hn
theorem Od {s:RS}{o:Oper}{z:AV}{h':AHeap}(h:QR P cf aS (ck s.ρ) s.h o z h')(ds:List Nat):A7 P cf aS ds s o=some (({s with h:=h'}:RS).set o.dst z):=by
 unfold QR at h
 unfold A7 E9
 dsimp only
 split at h
 ·rename_i t a x ho
  rw [ho]
  cases hd:o.dst with
  | some d=>rw [hd] at h; exact h.elim
  | none=>
   rw [hd] at h
   simp only [agA,cond_false] at h
   simp only [agA,afa,if_false]
   unfold kU at h
   split at h
   ·rename_i id off he
    rw [he]
    simp only [ae0] at h ⊢
    obtain⟨ob,hob,h⟩:=h
    refine⟨ob,hob,?_⟩
    split at h
    ·rw [ae1] at h ⊢
     obtain⟨gF,hcs,rfl⟩:=h
     exact⟨gF,hcs,rfl⟩
    ·cases h
   ·cases h
 ·rename_i t ho
  rw [ho]
  cases hn:I0 aS o.dst with
  | false=>rw [hn] at h; exact h.elim
  | true=>
   rw [hn] at h
   simp only [cond_true,ae0] at h
   obtain⟨z0,h1,h2⟩:=h
   simp only [h1,aeZ]
   exact Dt hn h2 ds
 ·rename_i t x ho
  rw [ho]
  cases hn:I0 aS o.dst with
  | false=>rw [hn] at h; exact h.elim
  | true=>
   rw [hn] at h
   exact Dt hn h ds
 ·rename_i t n ps ho
  rw [ho]
  unfold KC at h
  simp only [ae0,ae1] at h
  obtain⟨x,hx,⟨cs,k,q⟩,ht,he⟩:=h
  simp only [ae9] at he
  obtain⟨rfl,rfl⟩:=he
  simp only [hx,ae6,uk,ht]
 ·rename_i ho
  rw [ho]
  simp only [ae9] at h
  obtain⟨rfl,rfl⟩:=h
  rfl
 ·rename_i ho; rw [ho]; simp only [h,ae6]
 ·rename_i t m k x ho
  rw [ho]
  cases hd:o.dst with
  | some d=>rw [hd] at h; exact h.elim
  | none=>
   rw [hd] at h
   simp only [agA,cond_false] at h
   simp only [agA,afa,if_false,h,ae6]
   rfl
 ·rename_i t m k x ho
  rw [ho]
  cases hd:o.dst with
  | some d=>rw [hd] at h; exact h.elim
  | none=>
   rw [hd] at h
   simp only [agA,cond_false] at h
   simp only [agA,afa,if_false,h,ae6]
   rfl
 ·rename_i ho
  rw [ho]
  split at h
  ·rename_i h1 h2
   simp only [h1,h2,iL,h,ae6]
  ·exact h.elim
 ·rename_i ho
  rw [ho]
  split at h
  ·rename_i h1 h2
   simp only [h1,h2,iL,h,ae6]
  ·exact h.elim
 ·rename_i f args GQ ho
  rw [ho]
  have key:∀{x:AV × AHeap},GY cf (ck s.ρ f) (args.toList.map (ck s.ρ)) s.h=some x→A6 aS o.dst x=some (z,h')→
    (match ck s.ρ f with
     | .fn f cap=>if (args.toList.map (ck s.ρ)).all AV.nI then ((cf f (args.toList.map (ck s.ρ)++cap) s.h).bind (A6 aS o.dst)).map fun (r,h)=>({s with h}:RS).set o.dst r else none
     | _=>none)=some (({s with h:=h'}:RS).set o.dst z):=by
   intro x hx hm
   unfold GY at hx
   split at hx
   ·rename_i g cap he
    try rw [he]
    try dsimp only
    split at hx
    ·rename_i sK
     simp only [sK,if_true,hx,aeZ,hm,ae6]
    ·cases hx
   ·cases hx
  cases hm:Tw aS o.dst with
  | false=>
   rw [hm,cond_false] at h
   exact key h (by unfold A6; rw [hm]; rfl)
  | true=>
   rw [hm,cond_true,ae0] at h
   obtain⟨x,h1,h2⟩:=h
   exact key h1 (by unfold A6; rw [hm,cond_true]; exact h2)
 ·rename_i ho
  rw [ho]
  split at h
  ·rename_i h1 h2
   rw [ae1] at h
   obtain⟨g,hg,he⟩:=h
   simp only [ae9] at he
   obtain⟨rfl,rfl⟩:=he
   simp only [h1,h2,iL,hg,ae6]
  ·exact h.elim
 ·exact h.elim
theorem BA {ops:List Oper}:∀{l:List Oper} {s r:RS} {i:Nat} {zs:NF} {es:List pD} {p:Prop},wu P cf aS ops s i l zs=some (es,r,p)→p→sU P cf aS ops s l=some (es,r)∧wi P cf aS ops s l=some r
 | [],s,r,i,[],es,p,h,_=>by
  simp only [wu,ae2,ae9] at h
  obtain⟨rfl,rfl,rfl⟩:=h
  exact⟨rfl,rfl⟩
 | [],s,r,i,_::_,es,p,h,_=>by simp [wu] at h
 | o::os,s,r,i,zs,es,p,h,hp=>by
  simp only [wu,ae0] at h
  obtain⟨w,hw,h⟩:=h
  have fin:∀(s1:RS) (l:List pD) (Ae:NF) (q:Prop),(if w then A7 P cf aS (ops.filterMap (·.dst)) s o else some (s.set o.dst (.tup [])))=some s1→wu P cf aS ops s1 (i+1) os Ae=some (l,r,q)→q→
    sU P cf aS ops s (o::os)=some ({o,f:=if w then bE aS (ck s.ρ) o else {},s,s':=s1}::l,r)∧wi P cf aS ops s (o::os)=some r:=by
   intro s1 l Ae q h1 h2 hq
   obtain⟨h3,h4⟩:=BA h2 hq
   refine⟨?_,?_⟩
   ·simp only [sU,hw,aeZ,h1,h3,ae6]
   ·simp only [wi,pY,hw,aeZ,h1,h4]
  cases w with
  | false=>
   simp only [cond_false,ae1] at h
   obtain⟨⟨l,r',q⟩,h2,he⟩:=h
   simp only [ae9] at he
   obtain⟨rfl,rfl,rfl⟩:=he
   simpa using fin _ l zs q (by simp) h2 hp
  | true=>
   simp only [cond_true] at h
   split at h
   ·simp only [ae0,ae1] at h
    obtain⟨s1,h1,⟨l,r',q⟩,h2,he⟩:=h
    simp only [ae9] at he
    obtain⟨rfl,rfl,rfl⟩:=he
    simpa using fin _ l [] q (by simpa using h1) h2 hp
   ·rename_i j z oh Ae
    cases hj:afN i j with
    | false=>
     rw [hj] at h
     simp only [cond_false,ae0,ae1] at h
     obtain⟨s1,h1,⟨l,r',q⟩,h2,he⟩:=h
     simp only [ae9] at he
     obtain⟨rfl,rfl,rfl⟩:=he
     simpa using fin _ l _ q (by simpa using h1) h2 hp
    | true=>
     rw [hj] at h
     simp only [cond_true] at h
     split at h
     ·simp only [ae1] at h
      obtain⟨⟨l,r',q⟩,h2,he⟩:=h
      simp only [ae9] at he
      obtain⟨rfl,rfl,rfl⟩:=he
      simpa using fin _ l _ q (by simpa using Oc hp.1 _) h2 hp.2
     ·simp only [ae1] at h
      obtain⟨⟨l,r',q⟩,h2,he⟩:=h
      simp only [ae9] at he
      obtain⟨rfl,rfl,rfl⟩:=he
      simpa using fin _ l _ q (by simpa using Od hp.1 _) h2 hp.2
end
def wv (s:RS):List (Nat × Option Nat × Nat)→List (AV × AHeap)→Option (RS × Prop)
 | [],_=>some (s,True)
 | (t,i,k)::ps,zs=>
  match i with
  | none=>
   match k,s.ρ t,zs with
   | 0,.rs id off n z,(y,h')::Ae=>(wv {s with h:=h',ρ:=fun u=>bif afN u t then y else s.ρ u} ps Ae).map fun (r,p)=>(r,kP 0 s.h (.rs id off n z)=some (y,h')∧p)
   | k,x,zs=>(kP k s.h x).bind fun (y,h')=>wv {s with h:=h',ρ:=fun u=>bif afN u t then y else s.ρ u} ps zs
  | some i=>
   match s.bx t with
   | some cs=>(cs[i]?).bind fun x=>
    match k,x,zs with
    | 0,.rs id off n z,(y,h')::Ae=>(wv {s with h:=h',bx:=fun u=>bif afN u t then some (cs.set i y) else s.bx u} ps Ae).map fun (r,p)=>(r,kP 0 s.h (.rs id off n z)=some (y,h')∧p)
    | k,x,zs=>(kP k s.h x).bind fun (y,h')=>wv {s with h:=h',bx:=fun u=>bif afN u t then some (cs.set i y) else s.bx u} ps zs
   | none=>none
theorem xc:∀{ps:List (Nat × Option Nat × Nat)} {s r:RS} {zs:List (AV × AHeap)} {p:Prop},wv s ps zs=some (r,p)→p→nK s ps=some r
 | [],s,r,zs,p,h,_=>by
  simp only [wv,ae2,ae9] at h
  obtain⟨rfl,rfl⟩:=h
  rfl
 | (t,i,k)::ps,s,r,zs,p,h,hp=>by
  cases i with
  | none=>
   have fin:∀(y:AV) (h':AHeap) (Ae:List (AV × AHeap)) (q:Prop),kP k s.h (s.ρ t)=some (y,h')→wv {s with h:=h',ρ:=fun u=>bif afN u t then y else s.ρ u} ps Ae=some (r,q)→q→nK s ((t,none,k)::ps)=some r:=by
    intro y h' Ae q h1 h2 hq
    simp only [nK,Ba,h1,ae6,aeZ]
    exact xc h2 hq
   simp only [wv] at h
   split at h
   ·rename_i id off n z y h' Ae hx
    rw [ae1] at h
    obtain⟨⟨r',q⟩,h2,he⟩:=h
    simp only [ae9] at he
    obtain⟨rfl,rfl⟩:=he
    exact fin y h' Ae q (by rw [hx]; exact hp.1) h2 hp.2
   ·rw [ae0] at h
    obtain⟨⟨y,h'⟩,h1,h2⟩:=h
    exact fin y h' _ p h1 h2 hp
  | some i=>
   simp only [wv] at h
   split at h
   rotate_left
   ·cases h
   rename_i cs hcs
   rw [ae0] at h
   obtain⟨x,hx,h⟩:=h
   have fin:∀(y:AV) (h':AHeap) (Ae:List (AV × AHeap)) (q:Prop),kP k s.h x=some (y,h')→wv {s with h:=h',bx:=fun u=>bif afN u t then some (cs.set i y) else s.bx u} ps Ae=some (r,q)→q→nK s ((t,some i,k)::ps)=some r:=by
    intro y h' Ae q h1 h2 hq
    simp only [nK,Ba,hcs,hx,aeZ,h1,ae6]
    exact xc h2 hq
   split at h
   ·rename_i id off n z y h' Ae
    rw [ae1] at h
    obtain⟨⟨r',q⟩,h2,he⟩:=h
    simp only [ae9] at he
    obtain⟨rfl,rfl⟩:=he
    exact fin y h' Ae q hp.1 h2 hp.2
   ·rw [ae0] at h
    obtain⟨⟨y,h'⟩,h1,h2⟩:=h
    exact fin y h' _ p h1 h2 hp
def pD.xd (x y:pD):Bool:=
 (match x.f.wb with
  | some k=>!y.f.rb.contains k&&y.f.wb != some k
  | none=>true) &&
 (!x.f.wh||(!y.f.wh&&y.f.rh.isEmpty))
def KE (ops:List Oper)(arr:Array Oper)(s:RS)(es:List pD):Bool:=
 let ms:=lR [] ops
 rf arr ms &&
  (let is:=es.zipIdx
   let A9:=is.filter fun (x,_)=>!x.f.quiet
   A9.all (fun (x,i)=>w5 ms (ops.filterMap (·.dst)) s is x i&&A9.all fun (y,j)=>agB j i||(ms.getD j 0).testBit i||(x.xd y&&y.xd x)))
theorem xW {x y:pD}(h:x.xd y=true):x.lQ y=true:=by
 unfold pD.xd at h
 unfold pD.lQ
 simp only [ae3,afR] at h ⊢
 refine⟨h.1,h.2.imp id fun ⟨h1,h2⟩=>⟨h1,?_⟩⟩
 rw [List.isEmpty_iff] at h2
 rw [h2]; rfl
theorem Oe {P:Program}{cf:CallF}{aS:List Nat}{ops:Array Oper}{s r:RS}{es:List pD}(h:KE ops.toList ops s es=true)(hr:sU P cf aS ops.toList s ops.toList=some (es,r)):mu P cf aS ops s=some r:=by
 unfold KE at h
 simp only [ae3] at h
 obtain⟨h1,h2⟩:=h
 unfold mu
 simp only [h1,if_true,hr,aeZ]
 rw [if_pos]
 rw [afr] at h2 ⊢
 intro x hx
 have:=h2 x hx
 simp only [ae3] at this ⊢
 refine⟨this.1,?_⟩
 have h3:=this.2
 rw [afr] at h3 ⊢
 intro y hy
 have:=h3 y hy
 simp only [afR,ae3] at this ⊢
 exact this.imp id fun h=>⟨xW h.1,xW h.2⟩
def qu (P:Program)(cf:CallF)(A:bX)(c:Code)(fs:List (AV × AHeap))(zs:NF)(st:St):Option (Prop × St):=
 match c with
 | .region id ops draw=>(wv (st.open A) (iS id A.JP) fs).bind fun (s0,p0)=>(wu P cf A.aS ops.toList s0 0 ops.toList zs).bind fun (es,r,p)=>
   bif draw && !(KE ops.toList ops s0 es) then none else (nK r (iS id A.Fa)).map fun r2=>(p0∧p,r2.pZ A id)
 | _=>none
theorem KF {P:Program}{cf:CallF}{A:bX}{m:Nat}{c:Code}{fs:List (AV × AHeap)}{zs:NF}{st lK:St}{p:Prop}(h:qu P cf A c fs zs st=some (p,lK))(hp:p):cb P cf A m c st=some (.norm,lK):=by
 unfold qu at h
 split at h
 rotate_left
 ·cases h
 rename_i id ops draw
 simp only [ae0] at h
 obtain⟨⟨s0,p0⟩,h0,⟨es,r,q⟩,h1,h⟩:=h
 have hd:∃r2,(draw=true→KE ops.toList ops s0 es=true)∧nK r (iS id A.Fa)=some r2∧p=(p0∧q)∧lK=r2.pZ A id:=by
  cases hc:(draw && !(KE ops.toList ops s0 es)) with
  | true=>simp only [hc,cond_true] at h; cases h
  | false=>
   simp only [hc,cond_false,ae1,ae9] at h
   obtain⟨r2,h2,h3,h4⟩:=h
   refine⟨r2,fun IP=>?_,h2,h3.symm,h4.symm⟩
   simpa [IP] using hc
 obtain⟨r2,IP,h2,rfl,rfl⟩:=hd
 obtain⟨g1,g2⟩:=BA h1 hp.2
 have g0:=xc h0 hp.1
 simp only [cb,g0,aeZ]
 cases draw with
 | false=>simp only [afa,if_false,g2,aeZ,h2,ae6]
 | true=>simp only [if_true,Oe (IP rfl) g1,aeZ,h2,ae6]
end Go.R
namespace Go.R
open Go
def dB (P:Program)(cf:CallF)(A:bX)(m:Nat)(c:Code)(s:St)(Q:Ex→St→Prop):Prop:=∃e s',cb P cf A m c s=some (e,s')∧Q e s'
def QS (R:St→Prop)(Q:Ex→St→Prop):Ex→St→Prop
 | .norm,s=>R s
 | .exit i,s=>Q (.exit i) s
 | .ret,s=>Q .ret s
def Xf (id:Nat)(Q:Ex→St→Prop):Ex→St→Prop
 | .norm,s=>Q .norm s
 | .exit i,s=>bif afN i id then Q .norm s else Q (.exit i) s
 | .ret,s=>Q .ret s
section
variable {P:Program}{cf:CallF}{A:bX}{m:Nat}{s:St}{Q:Ex→St→Prop}
theorem Du {a b:Code}(h:dB P cf A m a s (QS (fun s'=>dB P cf A m b s' Q) Q)):dB P cf A m (.seq a b) s Q:=by
 obtain⟨e,s',h1,h2⟩:=h
 cases e with
 | norm=>
  obtain⟨e2,s2,h3,h4⟩:=h2
  exact⟨e2,s2,by simp only [cb,h1,aeZ,h3],h4⟩
 | exit i=>exact⟨_,s',by simp only [cb,h1,aeZ],h2⟩
 | ret=>exact⟨_,s',by simp only [cb,h1,aeZ],h2⟩
theorem Fz {id:Nat}{a:Code}(h:dB P cf A m a s (Xf id Q)):dB P cf A m (.block id a) s Q:=by
 obtain⟨e,s',h1,h2⟩:=h
 cases e with
 | norm=>exact⟨_,s',by simp only [cb,h1,ae6],h2⟩
 | exit i=>
  simp only [Xf,beq_nat] at h2
  by_cases hi:i=id
  ·simp only [hi,decide_true,cond_true] at h2
   exact⟨_,s',by simp only [cb,h1,ae6,hi,if_true],h2⟩
  ·simp only [hi,decide_false,cond_false] at h2
   exact⟨_,s',by simp only [cb,h1,ae6,hi,if_false],h2⟩
 | ret=>exact⟨_,s',by simp only [cb,h1,ae6],h2⟩
theorem Dv {c:Code}{fs:List (AV × AHeap)}{zs:NF}{lK:St}{p:Prop}(h:qu P cf A c fs zs s=some (p,lK))(hp:p)(hQ:Q .norm lK):dB P cf A m c s Q:=
 ⟨_,_,KF h hp,hQ⟩
theorem I1 (h:Q .norm s):dB P cf A m .skip s Q:=⟨_,_,rfl,h⟩
theorem KG (h:Q .ret s):dB P cf A m .ret s Q:=⟨_,_,rfl,h⟩
theorem I2 {i:Nat}(h:Q (.exit i) s):dB P cf A m (.exit i) s Q:=⟨_,_,rfl,h⟩
theorem uB {k:Operand}{x y:Code}(b:Bool)(hk:ck (s.open A).ρ k = .bool b)(ht:b=true→dB P cf A m x s Q)(hf:b=false→dB P cf A m y s Q):dB P cf A m (.cond k x y) s Q:=by
 cases b with
 | true=>
  obtain⟨e,s',h1,h2⟩:=ht rfl
  exact⟨e,s',by simp only [cb,hk,xu,aeZ,if_true,h1],h2⟩
 | false=>
  obtain⟨e,s',h1,h2⟩:=hf rfl
  exact⟨e,s',by simp only [cb,hk,xu,aeZ,afa,if_false,h1],h2⟩
def KH {S O:Type}(l:Nat→S→Option O)(Rel:S→St→Prop)(QO:O→Ex→St→Prop)(k:Nat)(out:O):Ex→St→Prop
 | .norm,s=>∃σ,Rel σ s∧l k σ=some out
 | .exit i,s=>QO out (.exit i) s
 | .ret,s=>QO out .ret s
theorem xX {S O:Type}{l:Nat→S→Option O}{Rel:S→St→Prop}{QO:O→Ex→St→Prop}{body:Code}(h0:∀σ,l 0 σ=none)
  (step:∀k σ s out,Rel σ s→l (k+1) σ=some out→dB P cf A m body s (KH l Rel QO k out)):∀(n:Nat) (σ:S) (s:St) (out:O),Rel σ s→l n σ=some out→∃e s',nL (cb P cf A m body) n s=some (e,s')∧e≠.norm∧QO out e s'
 | 0,σ,s,out,_,h=>by rw [h0] at h; cases h
 | n+1,σ,s,out,hr,h=>by
  obtain⟨e,s',h1,h2⟩:=step n σ s out hr h
  cases e with
  | norm=>
   obtain⟨σ',h3,h4⟩:=h2
   obtain⟨e',s'',h5,h6⟩:=xX h0 step n σ' s' out h3 h4
   exact⟨e',s'',by simp only [nL,h1,aeZ,h5],h6⟩
  | exit i=>exact⟨_,s',by simp only [nL,h1,aeZ],by simp,h2⟩
  | ret=>exact⟨_,s',by simp only [nL,h1,aeZ],by simp,h2⟩
theorem I3 {S O:Type}(l:Nat→S→Option O)(Rel:S→St→Prop)(QO:O→Ex→St→Prop){body:Code}(h0:∀σ,l 0 σ=none)
  (step:∀k σ s out,Rel σ s→l (k+1) σ=some out→dB P cf A m body s (KH l Rel QO k out)) {σ:S} {out:O} (hr:Rel σ s) (h:l m σ=some out) (hQ:∀e s',e≠.norm→QO out e s'→Q e s'):dB P cf A m (.loop body) s Q:=by
 obtain⟨e,s',h1,h2,h3⟩:=xX h0 step m σ s out hr h
 exact⟨e,s',by simp only [cb,h1],hQ e s' h2 h3⟩
theorem BB {aX:FuncId→bX}{f:FuncId}{fn:Func}{args:List AV}{h:AHeap}{R:AV→AHeap→Prop}(hf:P.funcs[f]? = some fn)(hb:fn.body=some (bA fn))(hn:agB args.length fn.ntmps=true)
  (he:dB P cf (aX f) m (bA fn) ⟨qa (aX f).keep args,(aX f).aS.map fun _=>none,h⟩ (fun e s=>(e = .ret∨e = .norm)∧∃r,aM P (s.open (aX f)) fn.results.toList=some r∧R r s.h)) :
  ∃r h',ba P aX cf m f args h=some (r,h')∧R r h':=by
 obtain⟨e,s,h1,h2,r,h3,h4⟩:=he
 refine⟨r,s.h,?_,h4⟩
 unfold ba
 rw [hf,aeZ,hb,aeZ,if_pos (Nat.le_of_ble_eq_true hn),h1,aeZ]
 rcases h2 with rfl | rfl<;>simp only [h3,ae6]
end
end Go.R
namespace Go.R
open Go
structure bY (α:Type) where
 n:Nat
 f:α→List AV
 len:∀a,(f a).length=n
 pos:n≠0
 small:n≤1024:=by decide
 flat:Bool:=true
 pure:∀a,flat=true→dH (f a)=true∧en (f a)=f a
 canon:∀a,(f a).map mo=f a
section
variable {α:Type}(E:bY α)
def bY.l (l:List α):List AV:=l.flatMap E.f
def bY.fz (l:List α):AV:=.fz (E.l l) l.length false
variable {E}
theorem bY.gy {a:α}{l:List α}:E.l (a::l)=E.f a++E.l l:=rfl
theorem bY.PM:E.l []=[]:=rfl
theorem bY.j7 {a b:List α}:E.l (a++b)=E.l a++E.l b:=by simp [bY.l]
theorem bY.b9:∀{l:List α},(E.l l).length=l.length*E.n
 | []=>by simp [bY.l]
 | a::l=>by rw [bY.gy,afb,E.len,bY.b9,afc,ags,Nat.one_mul,agF]
theorem bY.oK {l:List α}(h:l.length≤1099511627776):(E.l l).length≤1125899906842624:=by
 rw [bY.b9]
 exact afV (Nat.mul_le_mul h E.small) (by decide)
theorem bY.BC:∀{l:List α} {i:Nat},(E.l l).drop (i*E.n)=E.l (l.drop i)
 | l,0=>by simp
 | [],i+1=>by simp [bY.l]
 | a::l,i+1=>by
  rw [List.drop_succ_cons,←bY.BC,bY.gy,ags,Nat.one_mul,List.drop_append,List.drop_of_length_le (by rw [E.len]; omega),afz,E.len,Nat.add_sub_cancel]
theorem bY.KI:∀{l:List α} {i:Nat},(E.l l).take (i*E.n)=E.l (l.take i)
 | l,0=>by simp [bY.l]
 | [],i+1=>by simp [bY.l]
 | a::l,i+1=>by
  rw [bY.gy,List.take_succ_cons,bY.gy,ags,Nat.one_mul,agF,List.take_append]
  rw [E.len,afA (by rw [E.len]; omega),afX,bY.KI]
theorem bY.PN {l:List α}{i:Nat}{a:α}(h:l[i]? = some a){off:Nat}(ho:off<E.n):(E.l l)[i*E.n+off]? = (E.f a)[off]?:=by
 rw [←List.getElem?_drop,bY.BC,afe (ae5.1 h).1,(ae5.1 h).2,bY.gy,afm (by rw [E.len]; exact ho)]
theorem bY.KJ {l:List α}{i:Nat}{a:α}(h:l[i]? = some a):((E.l l).drop (i*E.n)).take E.n=E.f a:=by
 rw [bY.BC,afe (ae5.1 h).1,(ae5.1 h).2,bY.gy,afy (by rw [E.len]; exact ae4 _)]
 rw [afA (by rw [E.len]; exact ae4 _)]
theorem bY.FA {l:List α}{i:Nat}{a:α}(h:l[i]? = some a):i*E.n+E.n≤(E.l l).length:=by
 rw [bY.b9]
 have:=(ae5.1 h).1
 calc i*E.n+E.n=(i+1)*E.n:=by rw [ags,Nat.one_mul]
  _≤_:=af2 _ this
theorem tu:∀{a b:List AV},dH (a++b)=(dH a&&dH b)
 | [],b=>by simp [dH]
 | x::a,b=>by simp [dH,tu,Bool.and_assoc]
theorem tv:∀{a b:List AV},en (a++b)=en a++en b
 | [],b=>rfl
 | x::a,b=>by simp [en,tv]
theorem bY.so (hp:E.flat=true):∀{l:List α},dH (E.l l)=true∧en (E.l l)=E.l l
 | []=>⟨rfl,rfl⟩
 | a::l=>by
  obtain⟨h1,h2⟩:=E.pure a hp
  obtain⟨h3,h4⟩:=bY.so hp (l:=l)
  rw [bY.gy,tu,tv,h1,h2,h3,h4]
  exact⟨rfl,rfl⟩
theorem bY.xe:∀{l:List α},(E.l l).map mo=E.l l
 | []=>rfl
 | a::l=>by rw [bY.gy,afo,E.canon,bY.xe]
theorem bY.bz {l:List α}(hp:E.flat=true:=by rfl):(E.fz l).fK=true∧(E.fz l).lH=E.fz l:=by
 obtain⟨h1,h2⟩:=bY.so (E:=E) hp (l:=l)
 exact⟨h1,by show AV.fz (en (E.l l)) l.length false=_; rw [h2]; rfl⟩
theorem ka:∀(cs vs pre QT:List AV),cs.length=vs.length→eO (pre++cs++QT) pre.length vs=pre++vs++QT
 | [],[],pre,QT,_=>by simp [eO]
 | c::cs,v::vs,pre,QT,h=>by
  have:=ka cs vs (pre++[v]) QT (by simpa using h)
  simp only [afb,afc,afi,aft] at this
  rw [eO]
  have h2:(pre++c::cs++QT).set pre.length v=pre++[v]++cs++QT:=by
   rw [afn,agf _ _ (ae4 _),aga]
   simp
  rw [h2,this]
  simp
 | [],_::_,_,_,h=>by simp at h
 | _::_,[],_,_,h=>by simp at h
theorem bY.KK {l:List α}{i:Nat}{a b:α}(h:l[i]? = some a)(rest:List AV):eO (E.l l++rest) (i*E.n) (E.f b)=E.l (l.set i b)++rest:=by
 have hi:=(ae5.1 h).1
 have hl:l=l.take i++a::l.drop (i+1):=by
  conv=>lhs; rw [←agu i l,afe hi]
  rw [(ae5.1 h).2]
 have hs:l.set i b=l.take i++b::l.drop (i+1):=List.set_eq_take_append_cons_drop .. |>.trans (by rw [if_pos hi])
 have e1:E.l l=E.l (l.take i)++E.f a++E.l (l.drop (i+1)):=by
  conv=>lhs; rw [hl]
  rw [bY.j7,bY.gy,afn]
 have e2:(E.l (l.take i)).length=i*E.n:=by rw [bY.b9,afO,agC (Nat.le_of_lt hi)]
 rw [hs,bY.j7,bY.gy,e1,←e2]
 have:=ka (E.f a) (E.f b) (E.l (l.take i)) (E.l (l.drop (i+1))++rest) (by rw [E.len,E.len])
 simp only [afn] at this ⊢
 exact this
theorem bY.QU {l:List α}{i:Nat}{a b:α}{off:Nat}{v:AV}(h:l[i]? = some a)(ho:off<E.n)(hb:(E.f a).set off v=E.f b)(rest:List AV):(E.l l++rest).set (i*E.n+off) v=E.l (l.set i b)++rest:=by
 have hi:=(ae5.1 h).1
 have hl:l=l.take i++a::l.drop (i+1):=by
  conv=>lhs; rw [←agu i l,afe hi]
  rw [(ae5.1 h).2]
 have hs:l.set i b=l.take i++b::l.drop (i+1):=List.set_eq_take_append_cons_drop .. |>.trans (by rw [if_pos hi])
 have e1:E.l l=E.l (l.take i)++(E.f a++E.l (l.drop (i+1))):=by
  conv=>lhs; rw [hl]
  rw [bY.j7,bY.gy]
 have e2:(E.l (l.take i)).length=i*E.n:=by rw [bY.b9,afO,agC (Nat.le_of_lt hi)]
 rw [hs,bY.j7,bY.gy,e1,←hb,←e2]
 simp only [afn]
 rw [agf _ _ (by omega),List.set_append_left _ _ (by rw [E.len]; omega)]
 congr 2
 simp
end
def ix {α:Type}(l:List α)(i:Int):Option α:=if 0≤i then l[i.toNat]? else none
theorem iV {α:Type}{l:List α}{i:Int}{a:α}(h:ix l i=some a):0≤i∧i<l.length∧l[i.toNat]? = some a:=by
 unfold ix at h
 split at h
 ·rename_i h0
  have:=(ae5.1 h).1
  exact⟨h0,by omega,h⟩
 ·cases h
def KL {α:Type}(l:List α)(lo hi:Int):Option (List α):=if 0≤lo∧lo≤hi∧hi≤l.length then some ((l.drop lo.toNat).take (hi.toNat - lo.toNat)) else none
theorem Dw {α:Type}{l r:List α}{lo hi:Int}(h:KL l lo hi=some r):0≤lo∧lo≤hi∧hi≤l.length∧r=(l.drop lo.toNat).take (hi.toNat - lo.toNat):=by
 unfold KL at h
 split at h
 ·rename_i h0; cases h; exact⟨h0.1,h0.2.1,h0.2.2,rfl⟩
 ·cases h
def bt (s:ByteArray)(i:Int):Option Int:=if 0≤i then (s.data.toList[i.toNat]?).map fun b=>(b.toNat:Int) else none
inductive Ct where
 | sl (n sz:Nat) (cs:List AV)
 | ob (cs:List AV)
 | mp (es:List (AV × AV))
 | row (e:TypeId) (cs:List AV)
def I4 (h:AHeap)(i:Nat):Ct→Prop
 | .sl n sz cs=>(cs.length=n*sz∧cs.length≤1125899906842624)∧((i=0∧n=0)∨(i≠0∧∃rest,h.get i=some (.cells (cs++rest))))
 | .ob cs=>i≠0∧h.get i=some (.cells cs)
 | .mp es=>i≠0∧h.get i=some (.map es)
 | .row e cs=>i≠0∧h.get i=some (.row e cs)
abbrev Mem:=List (Nat × Ct)
structure Has (h:AHeap)(K:Mem):Prop where
 at_:∀(j i:Nat) (c:Ct),K[j]? = some (i,c)→I4 h i c∧i<h.next
 nd:∀(j j' i:Nat) (c c':Ct),K[j]? = some (i,c)→K[j']? = some (i,c')→i≠0→j=j'
 pos:0<h.next
theorem sq {h h':AHeap}{i:Nat}{c:Ct}(hg:i≠0→h'.get i=h.get i)(h1:I4 h i c):I4 h' i c:=by
 cases c with
 | sl n sz cs=>
  obtain⟨h2,h3⟩:=h1
  refine⟨h2,h3.imp id fun ⟨h4,r,h5⟩=>⟨h4,r,(hg h4).trans h5⟩⟩
 | ob cs=>exact⟨h1.1,(hg h1.1).trans h1.2⟩
 | mp es=>exact⟨h1.1,(hg h1.1).trans h1.2⟩
 | row e cs=>exact⟨h1.1,(hg h1.1).trans h1.2⟩
theorem dC (h:AHeap)(id k:Nat)(o:AObj):(h.put id o).get k=if k=id then some o else h.get k:=by
 simp only [AHeap.put,beq_nat]
 by_cases hk:k=id<;>simp [hk]
theorem xY (h:AHeap)(id k:Nat):(h.kill id).get k=if k=id then none else h.get k:=by
 simp only [AHeap.kill,beq_nat]
 by_cases hk:k=id<;>simp [hk]
theorem Has.I5 {h h':AHeap}{K:Mem}(o:Has h K){j i:Nat}{c:Ct}(hj:K[j]? = some (i,c)){i':Nat}{c':Ct}
  (hg:∀k,k≠i→k<h.next→h'.get k=h.get k) (hn:h.next≤h'.next) (hi:i'=i∨i'=0∨h.next≤i') (hlt:i'<h'.next) (hc:I4 h' i' c'):Has h' (K.set j (i',c')):=by
 refine⟨fun q k d hq=>?_,fun q q' k d d' hq Bi hk=>?_,afx o.pos hn⟩
 ·rw [agl] at hq
  by_cases h1:j=q
  ·subst h1
   rw [if_pos rfl] at hq
   split at hq
   ·cases hq; exact⟨hc,hlt⟩
   ·cases hq
  ·rw [if_neg h1] at hq
   obtain⟨g1,g2⟩:=o.at_ q k d hq
   refine⟨sq (fun hk=>hg k (fun he=>?_) g2) g1,afx g2 hn⟩
   subst he
   exact h1 (o.nd j q k c d hj hq hk)
 ·rw [agl] at hq Bi
  have old:∀(q:Nat) (d:Ct),j≠q→K[q]? = some (k,d)→k≠i':=by
   intro x y hne hx he
   rcases hi with h1 | h1 | h1
   ·exact hne (o.nd j x k c y (by rw [he,h1]; exact hj) hx hk)
   ·exact hk (he.trans h1)
   ·have:=(o.at_ x k y hx).2; omega
  by_cases h1:j=q<;>by_cases h2:j=q'
  ·rw [←h1,h2]
  ·subst h1
   rw [if_pos rfl] at hq
   rw [if_neg h2] at Bi
   split at hq
   ·cases hq; exact absurd rfl (old q' d' h2 Bi)
   ·cases hq
  ·subst h2
   rw [if_pos rfl] at Bi
   rw [if_neg h1] at hq
   split at Bi
   ·cases Bi; exact absurd rfl (old q d h1 hq)
   ·cases Bi
  ·rw [if_neg h1] at hq; rw [if_neg h2] at Bi
   exact o.nd q q' k d d' hq Bi hk
theorem Has.new {h h':AHeap}{K:Mem}(o:Has h K){i:Nat}{c:Ct}(hg:∀k,k<h.next→h'.get k=h.get k)(hn:h.next≤h'.next)(hi:i=0∨h.next≤i)(hlt:i<h'.next)(hc:I4 h' i c):Has h' ((i,c)::K):=by
 refine⟨fun q k d hq=>?_,fun q q' k d d' hq Bi hk=>?_,afx o.pos hn⟩
 ·cases q with
  | zero=>simp only [afK,ae2,ae9] at hq; obtain⟨rfl,rfl⟩:=hq; exact⟨hc,hlt⟩
  | succ q=>
   simp only [af1] at hq
   obtain⟨g1,g2⟩:=o.at_ q k d hq
   exact⟨sq (fun _=>hg k g2) g1,afx g2 hn⟩
 ·have old:∀(q:Nat) (d:Ct),K[q]? = some (k,d)→k≠i:=by
   intro x y hx he
   rcases hi with h1 | h1
   ·exact hk (he.trans h1)
   ·have:=(o.at_ x k y hx).2; omega
  cases q with
  | zero=>
   simp only [afK,ae2,ae9] at hq
   cases q' with
   | zero=>rfl
   | succ q'=>exact absurd hq.1.symm (old q' d' (by simpa using Bi))
  | succ q=>
   cases q' with
   | zero=>
    simp only [afK,ae2,ae9] at Bi
    exact absurd Bi.1.symm (old q d (by simpa using hq))
   | succ q'=>rw [o.nd q q' k d d' (by simpa using hq) (by simpa using Bi) hk]
theorem Has.nil {h:AHeap}{K:Mem}(o:Has h K)(sz:Nat):Has h ((0,.sl 0 sz [])::K):=
 o.new (fun _ _=>rfl) (ae4 _) (.inl rfl) o.pos ⟨⟨by simp,by simp⟩,.inl ⟨rfl,rfl⟩⟩
theorem Has.sub {h:AHeap}{K K':Mem}(o:Has h K)(f:Nat→Nat)(hf:∀j p,K'[j]? = some p→K[f j]? = some p)(hi:∀j j',f j=f j'→j=j'):Has h K':=
 ⟨fun j i c hj=>o.at_ (f j) i c (hf j _ hj),fun j j' i c c' hj EX hk=>hi _ _ (o.nd (f j) (f j') i c c' (hf j _ hj) (hf j' _ EX) hk),o.pos⟩
theorem Has.del {h:AHeap}{K:Mem}(o:Has h K)(q:Nat):Has h (K.eraseIdx q):=
 o.sub (fun j=>if j<q then j else j+1) (fun j p hj=>by
  rw [List.getElem?_eraseIdx] at hj
  split at hj
  ·rename_i h1; simpa [h1] using hj
  ·rename_i h1; simpa [h1] using hj) (fun j j' he=>by
   split at he<;>split at he<;>omega)
theorem Has.front {h:AHeap}{K:Mem}(o:Has h K)(q:Nat){p:Nat × Ct}(hq:K[q]? = some p):Has h (p::K.eraseIdx q):=
 o.sub (fun j=>match j with | 0=>q | j+1=>if j<q then j else j+1) (fun j p' hj=>by
  cases j with
  | zero=>simp only [afK,ae2] at hj; subst hj; exact hq
  | succ j=>
   simp only [af1,List.getElem?_eraseIdx] at hj
   dsimp only
   split at hj
   ·rename_i h1; simpa [h1] using hj
   ·rename_i h1; simpa [h1] using hj) (fun j j' he=>by
   cases j with
   | zero=>cases j' with
    | zero=>rfl
    | succ j'=>dsimp only at he; split at he<;>omega
   | succ j=>cases j' with
    | zero=>dsimp only at he; split at he<;>omega
    | succ j'=>dsimp only at he; split at he<;>split at he<;>omega)
end Go.R
namespace Go.R
open Go
def zA (P:Program)(t:TypeId)(sz b:Nat):Bool:=
 match P.underlying t with
 | some (.slice e)=>match P.info? e with
  | some i=>afN i.size sz&&afN i.bytes b&&Pv i
  | none=>false
 | _=>false
section
variable {P:Program}{t:TypeId}{sz b:Nat}
theorem kV (h:zA P t sz b=true):∃e i,P.underlying t=some (.slice e)∧P.info? e=some i∧i.size=sz∧i.bytes=b∧Pv i=true∧hH P e=some sz:=by
 unfold zA at h
 split at h
 ·rename_i e he
  split at h
  ·rename_i i hi
   simp only [ae3] at h
   have h1:=agd h.1.1
   exact⟨e,i,he,hi,h1,agd h.1.2,h.2,by simp [hH,hi,h1]⟩
  ·cases h
 ·cases h
variable {α:Type}{E:bY α}{h:AHeap}{K:Mem}{l:List α}{a v:α}{i q:Nat}{j:Int}{k:IntKind}{c:AV}{off:Nat}{tf:TypeId}
theorem bW (T:zA P t E.n b=true)(h:ix l j=some a):gS P t (E.fz l) (.int k j)=some (.fp (E.l l) (j.toNat*E.n)):=by
 obtain⟨e,inf,h1,h2,h3,h4,h5,h6⟩:=kV T
 obtain⟨g1,g2,g3⟩:=iV h
 have hle:=bY.FA (E:=E) g3
 have hp:=E.pos
 simp only [gS,h1,aeZ,h6,bY.fz]
 rw [if_pos ⟨g1,g2,by omega⟩]
theorem Ug (h:l[j.toNat]? = some a):(E.l l).isEmpty=false:=by
 have hle:=bY.FA (E:=E) h
 have hp:=E.pos
 cases hl:E.l l with
 | nil=>rw [hl] at hle; simp at hle; omega
 | cons _ _=>rfl
theorem lS (hp:AHeap)(ha:iQ P tf=some false)(h:ix l j=some a)(hc:(E.f a)[off]? = some c):bB P hp tf (.fp (E.l l) (j.toNat*E.n+off))=some c:=by
 obtain⟨g1,g2,g3⟩:=iV h
 have ho:off<E.n:=by rw [←E.len a]; exact (ae5.1 hc).1
 simp only [bB,mr,Ug g3,afa,if_false,ls,ha,aeZ,bY.PN g3 ho,hc]
theorem dk (hp:AHeap)(ha:iQ P tf=some false)(h:ix l j=some a)(hc:(E.f a)[0]? = some c):bB P hp tf (.fp (E.l l) (j.toNat*E.n))=some c:=lS (off:=0) hp ha h hc
theorem gf (hp:AHeap)(ha:iQ P tf=some true)(hs:hH P tf=some E.n)(h:ix l j=some a):bB P hp tf (.fp (E.l l) (j.toNat*E.n))=some (.agg (E.f a)):=by
 obtain⟨g1,g2,g3⟩:=iV h
 simp only [bB,mr,Ug g3,afa,if_false,ls,ha,aeZ,if_true,hs]
 rw [if_pos (bY.FA g3),bY.KJ g3]
theorem xf (o:Has h K)(hq:K[q]? = some (i,.sl l.length E.n (E.l l)))(hj:l[j.toNat]? = some a):i≠0∧∃rest,h.get i=some (.cells (E.l l++rest)):=by
 obtain⟨⟨_,h1⟩,_⟩:=o.at_ _ _ _ hq
 rcases h1 with⟨_,h1⟩| h1
 ·have:=(ae5.1 hj).1; omega
 ·exact h1
theorem QV (T:zA P t sz b=true){n:Nat}(h0:0≤j)(h1:j<n):gS P t (.rs i 0 n sz) (.int k j)=some (.ptr i (0+j.toNat*sz)):=by
 obtain⟨e,inf,g1,g2,g3,g4,g5,g6⟩:=kV T
 simp only [gS,g1,aeZ,g6]
 rw [if_pos ⟨trivial,h0,h1⟩]
theorem Af (o:Has h K)(hq:K[q]? = some (i,.sl l.length E.n (E.l l)))(ha:iQ P tf=some false)(hj:ix l j=some a)(hc:(E.f a)[off]? = some c):bB P h tf (.ptr i (0+j.toNat*E.n+off))=some c:=by
 obtain⟨g1,g2,g3⟩:=iV hj
 obtain⟨h1,rest,h2⟩:=xf o hq g3
 have ho:off<E.n:=by rw [←E.len a]; exact (ae5.1 hc).1
 have hle:=bY.FA (E:=E) g3
 simp only [bB,mr,h2,aeZ,ls,ha,afa,if_false,aft]
 rw [afm (by omega),bY.PN g3 ho,hc]
theorem I6 (o:Has h K)(hq:K[q]? = some (i,.sl l.length E.n (E.l l)))(ha:iQ P tf=some false)(hj:ix l j=some a)(hc:(E.f a)[0]? = some c):bB P h tf (.ptr i (0+j.toNat*E.n))=some c:=Af (off:=0) o hq ha hj hc
theorem I7 (o:Has h K)(hq:K[q]? = some (i,.sl l.length E.n (E.l l)))(ha:iQ P tf=some true)(hs:hH P tf=some E.n)(hj:ix l j=some a):bB P h tf (.ptr i (0+j.toNat*E.n))=some (.agg (E.f a)):=by
 obtain⟨g1,g2,g3⟩:=iV hj
 obtain⟨h1,rest,h2⟩:=xf o hq g3
 have hle:=bY.FA (E:=E) g3
 simp only [bB,mr,h2,aeZ,ls,ha,if_true,hs,aft]
 rw [if_pos (by rw [afb]; omega),agh (by omega),afy (by rw [List.length_drop]; omega),bY.KJ g3]
theorem mb (o:Has h K){c':Ct}{ct:Ct}(hq:K[q]? = some (i,ct)){ob:AObj}(hc:I4 (h.put i ob) i c'):Has (h.put i ob) (K.set q (i,c')):=
 o.I5 hq (fun k hk _=>by rw [dC,if_neg hk]) (agb _) (.inl rfl) (agx (o.at_ _ _ _ hq).2) hc
theorem KM (o:Has h K)(hq:K[q]? = some (i,.sl l.length E.n (E.l l)))(hs:hH P tf=some E.n)(hj:ix l j=some a){x:AV}(hv:x.cells=E.f v)(sK:(E.f v).all AV.cL=true) :
  ∃h',kU P h tf (.ptr i (0+j.toNat*E.n)) x=some h'∧Has h' (K.set q (i,.sl l.length E.n (E.l (l.set j.toNat v)))):=by
 obtain⟨g1,g2,g3⟩:=iV hj
 obtain⟨h1,rest,h2⟩:=xf o hq g3
 have hle:=bY.FA (E:=E) g3
 refine⟨_,?_,mb o hq (ob:=.cells (E.l (l.set j.toNat v)++rest)) ⟨⟨by rw [bY.b9,afJ],by rw [bY.b9,afJ,←bY.b9]; exact (o.at_ _ _ _ hq).1.1.2⟩,.inr ⟨h1,rest,by rw [dC,if_pos rfl]⟩⟩⟩
 simp only [kU,h2,aeZ,jM,hs,hv,aft]
 rw [if_pos ⟨E.len v,sK,by rw [afb]; omega⟩,ae6,bY.KK g3]
theorem I8 (o:Has h K)(hq:K[q]? = some (i,.sl l.length E.n (E.l l)))(hs:hH P tf=some 1)(hj:ix l j=some a){x:AV}(hx:x.cells=[x])(sK:x.cL=true)(ho:off<E.n)(hb:(E.f a).set off x=E.f v) :
  ∃h',kU P h tf (.ptr i (0+j.toNat*E.n+off)) x=some h'∧Has h' (K.set q (i,.sl l.length E.n (E.l (l.set j.toNat v)))):=by
 obtain⟨g1,g2,g3⟩:=iV hj
 obtain⟨h1,rest,h2⟩:=xf o hq g3
 have hle:=bY.FA (E:=E) g3
 refine⟨_,?_,mb o hq (ob:=.cells (E.l (l.set j.toNat v)++rest)) ⟨⟨by rw [bY.b9,afJ],by rw [bY.b9,afJ,←bY.b9]; exact (o.at_ _ _ _ hq).1.1.2⟩,.inr ⟨h1,rest,by rw [dC,if_pos rfl]⟩⟩⟩
 simp only [kU,h2,aeZ,jM,hs,hx,aft]
 rw [if_pos ⟨rfl,by simp [sK],by rw [afb]; omega⟩,ae6]
 simp only [eO]
 rw [bY.QU g3 ho hb]
def app (b:Nat){α:Type}(l l2:List α):Option (List α):=if (l.length+l2.length)*(b+1)≤1099511627776 then some (l++l2) else none
theorem xZ {l l2 r:List α}(h:app b l l2=some r):(l.length+l2.length)*b≤ia∧l.length+l2.length≤ia∧r=l++l2:=by
 unfold app at h
 split at h
 ·rename_i h0
  cases h
  rw [Nat.mul_add,agI] at h0
  refine⟨by simp only [ia]; omega,by simp only [ia]; omega,rfl⟩
 ·cases h
theorem KN {t2:TypeId}{l2 r:List α}{x:AV}(T:zA P t E.n b=true)(o:Has h K)(hq:K[q]? = some (i,.sl l.length E.n (E.l l)))(hx:eY h E.n x=some (E.l l2,l2.length))(iD:kB P t2 x=true)(hr:app b l l2=some r) :
  ∃i' h',dM P h t t2 (.rs i 0 l.length E.n) x=some (.rs i' 0 r.length E.n,h')∧Has h' (K.set q (i',.sl r.length E.n (E.l r))):=by
 obtain⟨e,inf,g1,g2,g3,g4,g5,g6⟩:=kV T
 obtain⟨r1,r2,rfl⟩:=xZ hr
 obtain⟨⟨⟨hlen,uf⟩,nf⟩,hlt⟩:=o.at_ _ _ _ hq
 have oI:=E.pos
 have hb:inf.size=E.n:=g3
 have lJ:¬(inf.size=0∨kB P t2 x=false∨Pv inf=false):=by rw [iD,g5,hb]; simp [oI]
 subst g4
 by_cases h0:l2=[]
 ·subst h0
  refine⟨i,h,?_,?_⟩
  ·simp only [dM,g1,aeZ,g2,hb,hx,iD,g5]
   rw [if_neg (by simp [oI])]
   simp only [afi,Nat.zero_mul,agz,afZ]
   by_cases hi:i=0
   ·subst hi
    rcases nf with⟨_,hl0⟩| h1
    ·simp [hl0,hb,ia]
    ·exact absurd rfl h1.1
   ·rcases nf with h1 | ⟨_,rest,h1⟩
    ·exact absurd h1.1 hi
    ·rw [if_neg hi,h1]
     simp only [aeZ]
     rw [if_neg (by rw [afb,hlen]; simp only [afi,agz] at r1 r2; simp; omega)]
     simp
  ·rw [afZ]
   have:K.set q (i,.sl l.length E.n (E.l l))=K:=by
    apply af0
    intro j
    rw [agl]
    by_cases hj:q=j
    ·subst hj; rw [if_pos rfl,if_pos (ae5.1 hq).1,hq]
    ·rw [if_neg hj]
   rw [this]; exact o
 ·have Gy:l2.length≠0:=by simpa using h0
  by_cases hi:i=0
  ·subst hi
   rcases nf with⟨_,hl0⟩| h1
   rotate_left
   ·exact absurd rfl h1.1
   have hnil:l=[]:=by simpa using hl0
   subst hnil
   refine⟨h.next,h.alloc (.cells (E.l l2)),?_,?_⟩
   ·simp only [dM,g1,aeZ,g2,hb,hx,iD,g5]
    rw [if_neg (by simp [oI])]
    simp only [if_true]
    simp only [afi,aft] at r1 r2
    rw [if_neg (by simp; omega),if_neg Gy]
    simp
   ·refine o.I5 hq (fun k _ hk=>by rw [AHeap.alloc,dC,if_neg (by omega)]) (agb _) (.inr (.inr (ae4 _))) (afL _) ⟨⟨bY.b9,bY.oK (by simp only [ia] at r2; simp at r2 ⊢; omega)⟩,.inr ⟨by have:=o.pos; omega,[],?_⟩⟩
    rw [AHeap.alloc,dC,if_pos rfl]; simp
  ·rcases nf with h1 | ⟨_,rest,h1⟩
   ·exact absurd h1.1 hi
   refine⟨h.next,(h.kill i).put h.next (.cells (E.l (l++l2))),?_,?_⟩
   ·simp only [dM,g1,aeZ,g2,hb,hx,iD,g5]
    rw [if_neg (by simp [oI]),if_neg hi,h1]
    simp only [aeZ]
    rw [if_neg (by rw [afb,hlen]; simp; omega),if_neg Gy]
    rw [afw,afy (by rw [hlen]; exact ae4 _),afA (by rw [hlen]; exact ae4 _),bY.j7,afb]
   ·refine o.I5 hq (fun k hk uu=>by rw [dC,if_neg (by omega),xY,if_neg hk]) (by show h.next≤h.next+1+1; omega) (.inr (.inr (ae4 _))) (by show h.next<h.next+1+1; omega) ⟨⟨bY.b9,bY.oK (by simp only [ia] at r2; simp at r2 ⊢; omega)⟩,.inr ⟨by have:=o.pos; omega,[],?_⟩⟩
    rw [dC,if_pos rfl]; simp
theorem FB {t2:TypeId}{l2 r:List α}{x s:AV}(hs:s = .nils∨s = .fz [] 0 true)(T:zA P t E.n b=true)(o:Has h K)(hx:eY h E.n x=some (E.l l2,l2.length))(iD:kB P t2 x=true)(hr:app b ([]:List α) l2=some r) :
  ∃i' h',dM P h t t2 s x=some (.rs i' 0 r.length E.n,h')∧Has h' ((i',.sl r.length E.n (E.l r))::K):=by
 obtain⟨e,inf,g1,g2,g3,g4,g5,g6⟩:=kV T
 obtain⟨r1,r2,Dh⟩:=xZ hr
 rw [afz] at Dh
 subst r
 have oI:=E.pos
 have hb:inf.size=E.n:=g3
 subst g4
 simp only [afi,aft] at r1 r2
 by_cases h0:l2=[]
 ·subst h0
  refine⟨0,h,?_,by simpa [bY.l] using o.nil E.n⟩
  rcases hs with rfl | rfl
  ·simp only [dM,g1,aeZ,g2,hb,hx,iD,g5]
   rw [if_neg (by simp [oI])]
   simp [ia]
  ·simp only [dM,g1,aeZ,g2,hb,hx,iD,g5]
   rw [if_neg (by simp [oI])]
   simp [ia]
 ·have Gy:l2.length≠0:=by simpa using h0
  refine⟨h.next,h.alloc (.cells (E.l l2)),?_,o.new (fun k hk=>by rw [AHeap.alloc,dC,if_neg (by omega)]) (agb _) (.inr (ae4 _)) (afL _) ⟨⟨bY.b9,bY.oK (by simp only [ia] at r2; omega)⟩,.inr ⟨by have:=o.pos; omega,[],by rw [AHeap.alloc,dC,if_pos rfl]; simp⟩⟩⟩
  rcases hs with rfl | rfl
  ·simp only [dM,g1,aeZ,g2,hb,hx,iD,g5]
   rw [if_neg (by simp [oI]),if_neg (by omega),if_neg Gy]
  ·simp only [dM,g1,aeZ,g2,hb,hx,iD,g5]
   rw [if_neg (by simp [oI]),if_neg (by simp; omega),if_neg Gy]
   simp
theorem ya {l2:List α}(h:AHeap):eY h E.n (E.fz l2)=some (E.l l2,l2.length):=by
 simp only [eY,fi,bY.fz]
 rw [if_pos bY.b9,ae6,bY.xe]
theorem Dx (o:Has h K)(hq:K[q]? = some (i,.sl l.length E.n (E.l l))):eY h E.n (.rs i 0 l.length E.n)=some (E.l l,l.length):=by
 obtain⟨⟨⟨hlen,uf⟩,nf⟩,hlt⟩:=o.at_ _ _ _ hq
 simp only [eY,fi]
 rcases nf with⟨h0,h1⟩| ⟨h0,rest,h1⟩
 ·have:l=[]:=by simpa using h1
  subst this
  simp [h0,bY.l]
 ·rw [if_neg (fun z=>z.elim h0 fun z=>by rw [h1] at z; cases z.2),h1]
  simp only [aeZ]
  rw [if_pos ⟨trivial,by rw [afb,hlen]; omega⟩,ae6,afw,afy (by rw [hlen]; exact ae4 _),afA (by rw [hlen]; exact ae4 _),bY.xe]
def sr (b:Nat){α:Type}(n:Int)(z:α):Option (List α):=if 0≤n∧n.toNat*(b+1)≤1099511627776 then some (afh n.toNat z) else none
theorem qv {n:Int}{z:α}{zv:AV}{r:List α}(T:zA P t E.n b=true)(o:Has h K)(e0:TypeId)(Xg:P.underlying t=some (.slice e0))(hz0:jX P e0=some zv)(WO:zv.cells=E.f z)(sK:(E.f z).all AV.cL=true)(hr:sr b n z=some r) :
  ∃i h',iq P h t (.int .i64 n) (.int .i64 n)=some (.rs i 0 r.length E.n,h')∧Has h' ((i,.sl r.length E.n (E.l r))::K):=by
 have hz:∀e,P.underlying t=some (.slice e)→jX P e=some zv:=fun e he=>by
  rw [Xg] at he; cases he; exact hz0
 unfold sr at hr
 split at hr
 rotate_left
 ·cases hr
 rename_i lJ
 obtain⟨h0,h1⟩:=lJ
 cases hr
 obtain⟨e,inf,g1,g2,g3,g4,g5,g6⟩:=kV T
 have oI:=E.pos
 have Xh:∀k,jU (E.f z) k=E.l (afh k z):=by
  intro k
  induction k with
  | zero=>rfl
  | succ k ih=>rw [jU,ih,List.replicate_succ,bY.gy]
 refine⟨h.next,h.alloc (.cells (E.l (afh n.toNat z))),?_,o.new (fun k hk=>by rw [AHeap.alloc,dC,if_neg (by omega)]) (agb _) (.inr (ae4 _)) (afL _) ⟨⟨bY.b9,bY.oK (by rw [afW]; rw [Nat.mul_add,agI] at h1; omega)⟩,.inr ⟨by have:=o.pos; omega,[],by rw [AHeap.alloc,dC,if_pos rfl]; simp⟩⟩⟩
 rw [Nat.mul_add,agI] at h1
 simp only [iq,g1,aeZ,g2,hz e g1,WO,E.len,Xh,afW,g3,g4]
 have hb:n*(b:Int)≤ia:=by
  have:n*(b:Int)=((n.toNat*b:Nat):Int):=by
   rw [Int.natCast_mul,Int.toNat_of_nonneg h0]
  simp only [ia]
  rw [this]
  omega
 rw [if_pos ⟨h0,Int.le_refl _,hb,trivial,oI,by omega,sK⟩]
theorem KO (o:Has h K)(hq:K[q]? = some (i,.sl l.length E.n (E.l l)))(hp:E.flat=true:=by rfl):∃h',kP 0 h (.rs i 0 l.length E.n)=some (E.fz l,h')∧Has h' (K.eraseIdx q):=by
 obtain⟨⟨⟨hlen,uf⟩,nf⟩,hlt⟩:=o.at_ _ _ _ hq
 rcases nf with⟨h0,h1⟩| ⟨h0,rest,h1⟩
 ·have:l=[]:=by simpa using h1
  subst this
  exact⟨h,by simp [kP,h0,bY.fz,bY.l],o.del q⟩
 ·refine⟨h.kill i,?_,?_⟩
  ·simp only [kP]
   rw [if_neg h0,h1]
   simp only [aeZ]
   have e1:((E.l l++rest).drop 0).take (l.length*E.n)=E.l l:=by
    rw [afw,afy (by rw [hlen]; exact ae4 _),afA (by rw [hlen]; exact ae4 _)]
   rw [e1,if_pos (by rw [afb,hlen]; omega),rm (bY.so hp).1]
   rfl
  ·have o2:=o.I5 (i':=0) (c':=.sl 0 1 []) (h':=h.kill i) hq (fun k hk _=>by rw [xY,if_neg hk]) (agb _) (.inr (.inl rfl)) (Nat.succ_pos _) ⟨⟨by simp,by simp⟩,.inl ⟨rfl,rfl⟩⟩
   have:=o2.del q
   rwa [List.eraseIdx_set_eq] at this
variable {n:Nat}
theorem dN (o:Has h K)(hq:K[q]? = some (i,.sl n E.n (E.l l))):n=l.length:=by
 have h1:=(o.at_ _ _ _ hq).1.1.1
 rw [bY.b9] at h1
 exact (Nat.eq_of_mul_eq_mul_right (Nat.pos_of_ne_zero E.pos) h1).symm
theorem aL (T:zA P t E.n b=true)(o:Has h K)(hq:K[q]? = some (i,.sl n E.n (E.l l)))(hj:ix l j=some a):gS P t (.rs i 0 n E.n) (.int k j)=some (.ptr i (0+j.toNat*E.n)):=by
 have hn:=dN o hq
 subst hn
 exact QV T (iV hj).1 (iV hj).2.1
theorem oL (o:Has h K)(hq:K[q]? = some (i,.sl n E.n (E.l l)))(ha:iQ P tf=some false)(hj:ix l j=some a)(hc:(E.f a)[off]? = some c):bB P h tf (.ptr i (0+j.toNat*E.n+off))=some c:=by
 have hn:=dN o hq
 subst hn
 exact Af o hq ha hj hc
theorem bn (o:Has h K)(hq:K[q]? = some (i,.sl n E.n (E.l l)))(ha:iQ P tf=some false)(hj:ix l j=some a)(hc:(E.f a)[0]? = some c):bB P h tf (.ptr i (0+j.toNat*E.n))=some c:=by
 have hn:=dN o hq
 subst hn
 exact I6 o hq ha hj hc
theorem xg (o:Has h K)(hq:K[q]? = some (i,.sl n E.n (E.l l)))(ha:iQ P tf=some true)(hs:hH P tf=some E.n)(hj:ix l j=some a):bB P h tf (.ptr i (0+j.toNat*E.n))=some (.agg (E.f a)):=by
 have hn:=dN o hq
 subst hn
 exact I7 o hq ha hs hj
theorem dJ (o:Has h K)(hq:K[q]? = some (i,.sl n E.n (E.l l)))(hs:hH P tf=some E.n)(hj:ix l j=some a){x:AV}(hv:x.cells=E.f v)(sK:(E.f v).all AV.cL=true) :
  ∃h',kU P h tf (.ptr i (0+j.toNat*E.n)) x=some h'∧Has h' (K.set q (i,.sl n E.n (E.l (l.set j.toNat v)))):=by
 have hn:=dN o hq
 subst hn
 exact KM o hq hs hj hv sK
theorem Of (o:Has h K)(hq:K[q]? = some (i,.sl n E.n (E.l l)))(hs:hH P tf=some 1)(hj:ix l j=some a){x:AV}(hx:x.cells=[x])(sK:x.cL=true)(ho:off<E.n)(hb:(E.f a).set off x=E.f v) :
  ∃h',kU P h tf (.ptr i (0+j.toNat*E.n+off)) x=some h'∧Has h' (K.set q (i,.sl n E.n (E.l (l.set j.toNat v)))):=by
 have hn:=dN o hq
 subst hn
 exact I8 o hq hs hj hx sK ho hb
theorem dY {t2:TypeId}{l2 r:List α}{x:AV}(T:zA P t E.n b=true)(o:Has h K)(hq:K[q]? = some (i,.sl n E.n (E.l l)))(hx:eY h E.n x=some (E.l l2,l2.length))(iD:kB P t2 x=true)(hr:app b l l2=some r) :
  ∃i' h',dM P h t t2 (.rs i 0 n E.n) x=some (.rs i' 0 r.length E.n,h')∧Has h' (K.set q (i',.sl r.length E.n (E.l r))):=by
 have hn:=dN o hq
 subst hn
 exact KN T o hq hx iD hr
theorem I9 (o:Has h K)(hq:K[q]? = some (i,.sl n E.n (E.l l))):eY h E.n (.rs i 0 n E.n)=some (E.l l,l.length):=by
 have hn:=dN o hq
 subst hn
 exact Dx o hq
theorem lT (o:Has h K)(hq:K[q]? = some (i,.sl n E.n (E.l l)))(hp:E.flat=true:=by rfl):∃h',kP 0 h (.rs i 0 n E.n)=some (E.fz l,h')∧Has h' (K.eraseIdx q):=by
 have hn:=dN o hq
 subst hn
 exact KO o hq hp
end
end Go.R
namespace Go.R
open Go
structure ai where
 kind:Int
 int:Int
 label:ByteArray
 args:List Int
structure bm where
 nodes:List ai
 root:Int
def eI (k:IntKind):bY Int:={n:=1,f:=fun a=>[.int k a],len:=fun _=>rfl,pos:=by decide,pure:=fun _ _=>⟨rfl,rfl⟩,canon:=fun _=>rfl}
abbrev ae:bY Int:=eI .i64
def eZ:bY Bool:={n:=1,f:=fun a=>[.bool a],len:=fun _=>rfl,pos:=by decide,pure:=fun _ _=>⟨rfl,rfl⟩,canon:=fun _=>rfl}
theorem pure_cons {x:AV}{xs:List AV}(h:x.fK=true∧x.lH=x)(k:dH xs=true∧en xs=xs):dH (x::xs)=true∧en (x::xs)=x::xs:=
 ⟨by simp [dH,h.1,k.1],by simp [en,h.2,k.2]⟩
theorem pure_nil:dH []=true∧en []=[]:=⟨rfl,rfl⟩
theorem eu {k:IntKind}{n:Int}:(AV.int k n).fK=true∧(AV.int k n).lH = .int k n:=⟨rfl,rfl⟩
theorem mG {s:ByteArray}:(AV.str s).fK=true∧(AV.str s).lH = .str s:=⟨rfl,rfl⟩
theorem dj {b:Bool}:(AV.bool b).fK=true∧(AV.bool b).lH = .bool b:=⟨rfl,rfl⟩
def af:bY ai:={n:=4,f:=fun x=>[.int .i64 x.kind,.int .i64 x.int,.str x.label,ae.fz x.args],len:=fun _=>rfl,pos:=by decide,pure:=fun x _=>pure_cons eu (pure_cons eu (pure_cons mG (pure_cons bY.bz pure_nil))),canon:=fun _=>rfl}
end Go.R
namespace Go.R
open Go
theorem Og {b:Bool}(h:b=false):¬b=true:=by rw [h]; decide
section
variable {P:Program}{cf:CallF}{A:bX}{m:Nat}
theorem Ag {c:Code}{s:St}{Q R:Ex→St→Prop}(h:dB P cf A m c s Q)(k:∀e s',Q e s'→R e s'):dB P cf A m c s R:=by
 obtain⟨e,s',h1,h2⟩:=h
 exact⟨e,s',h1,k _ _ h2⟩
theorem aI {c:Code}{s:St}{Q:St→Prop}{R:Ex→St→Prop}(hQ:∀e s',(e = .ret∨e = .norm)∧Q s'→R e s')(h:dB P cf A m c s (fun e s'=>(e = .ret∨e = .norm)∧Q s')):dB P cf A m c s R:=Ag h hQ
end
def jx:Nat:=1125899906842630
def mc (k:Nat)(h:AHeap)(x y:AV):Prop:=∀n,jx+k≤n→cK h n x=some y
def aZ (k:Nat)(h:AHeap)(x y:List AV):Prop:=∀n,jx+k≤n→bK h n x=some y
def Oh (h:AHeap)(x y:AV):Prop:=mc 4503599627370496 h x y
section
variable {h:AHeap}{α:Type}{E:bY α}{l:List α}{K:Mem}{q i:Nat}
theorem mc.mono {k k':Nat}{x y:AV}(hk:k≤k')(f:mc k h x y):mc k' h x y:=fun n hn=>f n (by omega)
theorem JP {k:Nat}{x y:AV}(f:mc k h x y)(hk:k≤4503599627370496:=by decide):Oh h x y:=f.mono hk
theorem oM {n:Nat}(h:jx≤n):∃k,n=k+1∧jx≤k+1:=⟨n - 1,by simp only [jx] at h; omega,by omega⟩
theorem nk {x:AV}(h1:x.fK=true)(h2:∀n,cK h (n+1) x=if x.fK then some x.lH else none){y:AV}(h3:x.lH=y):mc 0 h x y:=fun n hn=>by
 obtain⟨k,rfl,_⟩:=oM (show jx≤n by omega)
 rw [h2,h1,h3]; rfl
theorem bP {k:IntKind}{n:Int}:mc 0 h (.int k n) (.int k n):=nk rfl (fun _=>rfl) rfl
theorem dD {b:Bool}:mc 0 h (.bool b) (.bool b):=nk rfl (fun _=>rfl) rfl
theorem oN {s:ByteArray}:mc 0 h (.str s) (.str s):=nk rfl (fun _=>rfl) rfl
theorem kF (hp:E.flat=true:=by rfl):mc 0 h (E.fz l) (E.fz l):=nk (bY.bz hp).1 (fun _=>rfl) (bY.bz hp).2
theorem Oi:mc 0 h .nils (E.fz []):=nk rfl (fun _=>rfl) rfl
theorem yb {cs:List AV}(h1:(dH cs=true))(h2:en cs=E.l l){n:Nat}{b:Bool}(h3:n=l.length):mc 0 h (.fz cs n b) (E.fz l):=by
 refine nk (by simpa [AV.fK] using h1) (fun _=>rfl) ?_
 subst h3
 show AV.fz (en cs) l.length false=_
 rw [h2]; rfl
theorem rV:∀{cs:List AV} {n:Nat},dH cs=true→(∀x∈cs,∀n,cK h (n+1) x=if x.fK then some x.lH else none)→cs.length+1<n→bK h n cs=some (en cs)
 | [],n,_,_,hn=>by
  obtain⟨k,rfl⟩:∃k,n=k+1:=⟨n - 1,by omega⟩
  rfl
 | x::cs,n,h1,h2,hn=>by
  obtain⟨k,rfl⟩:∃k,n=k+1+1:=⟨n - 2,by simp at hn; omega⟩
  simp only [dH,ae3] at h1
  simp only [bK]
  rw [h2 x (by simp) k,h1.1]
  simp only [if_true,aeZ]
  rw [rV h1.2 (fun y hy=>h2 y (by simp [hy])) (by simp at hn; omega)]
  rfl
def Dy:AV→Bool
 | .agg _ | .tup _ | .fn _ _=>false
 | _=>true
theorem KP {x:AV}(hf:Dy x=true)(hn:x.fK=true)(n:Nat):cK h (n+1) x=if x.fK then some x.lH else none:=by
 cases x<;>first | rfl | (simp [AV.fK] at hn; done) | (simp [Dy] at hf; done)
theorem Oj (o:Has h K)(hq:K[q]? = some (i,.sl l.length E.n (E.l l)))(hf:∀a:α,(E.f a).all Dy=true)(hp:E.flat=true:=by rfl):mc 0 h (.rs i 0 l.length E.n) (E.fz l):=fun n hn=>by
 obtain⟨⟨⟨hlen,uf⟩,nf⟩,hlt⟩:=o.at_ _ _ _ hq
 obtain⟨k,rfl,hk⟩:=oM (show jx≤n by omega)
 simp only [cK]
 rcases nf with⟨h0,h1⟩| ⟨h0,rest,h1⟩
 ·have:l=[]:=by simpa using h1
  subst this
  simp [h0,bY.fz,bY.l]
 ·rw [if_neg h0,h1]
  simp only [aeZ]
  have e1:((E.l l++rest).drop 0).take (l.length*E.n)=E.l l:=by
   rw [afw,afy (by rw [hlen]; exact ae4 _),afA (by rw [hlen]; exact ae4 _)]
  rw [if_pos (by rw [afb,hlen]; omega),e1,rV (bY.so hp).1 (fun x hx=>?_) (by simp only [jx] at hk; omega),(bY.so hp).2]
  ·rfl
  ·have hnx:x.fK=true:=by
    have:∀(cs:List AV),dH cs=true→x∈cs→x.fK=true:=by
     intro cs
     induction cs with
     | nil=>intro _ h; cases h
     | cons y ys ih=>
      intro h hm
      simp only [dH,ae3] at h
      rcases afq.1 hm with rfl | hm
      ·exact h.1
      ·exact ih h.2 hm
    exact this _ (bY.so hp).1 hx
   have QX:Dy x=true:=by
    unfold bY.l at hx
    rw [List.mem_flatMap] at hx
    obtain⟨a,_,ha⟩:=hx
    exact afr.1 (hf a) x ha
   exact fun n=>KP QX hnx n
theorem b4 {n:Nat}(o:Has h K)(hq:K[q]? = some (i,.sl n E.n (E.l l)))(hf:∀a:α,(E.f a).all Dy=true)(hp:E.flat=true:=by rfl):mc 0 h (.rs i 0 n E.n) (E.fz l):=by
 have hn:=dN o hq
 subst hn
 exact Oj o hq hf hp
theorem aJ:aZ 0 h [] []:=fun n hn=>by
 obtain⟨k,rfl,_⟩:=oM (show jx≤n by omega)
 rfl
theorem ao {k1 k2:Nat}{x y:AV}{xs ys:List AV}(f:mc k1 h x y)(g:aZ k2 h xs ys):aZ (k1+k2+1) h (x::xs) (y::ys):=fun n hn=>by
 obtain⟨k,rfl⟩:∃k,n=k+1:=⟨n - 1,by omega⟩
 simp only [bK]
 rw [f k (by omega),g k (by omega)]
 rfl
theorem oO {k:Nat}{xs ys:List AV}(f:aZ k h xs ys):mc (k+1) h (.agg xs) (.agg ys):=fun n hn=>by
 obtain⟨k,rfl⟩:∃k,n=k+1:=⟨n - 1,by omega⟩
 simp only [cK]
 rw [f k (by omega)]; rfl
theorem FC {k:Nat}{xs ys:List AV}(f:aZ k h xs ys):mc (k+1) h (.tup xs) (.tup ys):=fun n hn=>by
 obtain⟨k,rfl⟩:∃k,n=k+1:=⟨n - 1,by omega⟩
 simp only [cK]
 rw [f k (by omega)]; rfl
end
def lP (k:IntKind)(x:Int)(n:Nat):Int:=x.fdiv (2 ^ (min n k.bits))
section
variable {P:Program}{t:TypeId}{b:Nat}{α:Type}{E:bY α}{h:AHeap}{K:Mem}{l r:List α}{i q:Nat}{j lo hi:Int}{k k':IntKind}
theorem qw {s:ByteArray}{v:Int}(hu:P.underlying t=some .string)(h:bt s j=some v):ui P t (.str s) (.int k j)=some (.int .u8 v):=by
 unfold bt at h
 split at h
 ·rename_i h0
  rw [ae1] at h
  obtain⟨b,hb,rfl⟩:=h
  simp only [ui,hu,aeZ,h0,if_true,hb,ae6]
 ·cases h
theorem KQ (h:KL l lo hi=some r):(((E.l l).drop (lo.toNat*E.n)).take ((hi.toNat - lo.toNat)*E.n))=E.l r∧r.length=hi.toNat - lo.toNat:=by
 obtain⟨h0,h1,h2,rfl⟩:=Dw h
 refine⟨by rw [bY.BC,bY.KI],?_⟩
 rw [afO,List.length_drop]
 omega
theorem KR (o:Has h K)(hq:K[q]? = some (i,.sl l.length E.n (E.l l)))(T:zA P t E.n b=true)(hs:KL l 0 hi=some r) :
  oz P t (.rs i 0 l.length E.n) none (some (.int k hi)) none=some (.rs i 0 r.length E.n)∧Has h (K.set q (i,.sl r.length E.n (E.l r))):=by
 obtain⟨e,inf,g1,g2,g3,g4,g5,g6⟩:=kV T
 obtain⟨h0,h1,h2,hr⟩:=Dw hs
 obtain⟨h3,h4⟩:=KQ (E:=E) hs
 simp only [Int.toNat_zero,Nat.sub_zero] at h4 hr
 have Dh:r=l.take hi.toNat:=by rw [hr]; simp
 refine⟨?_,?_⟩
 ·simp only [oz,g1,aeZ,g6,if_true,mY]
  rw [if_pos ⟨by omega,h2⟩]
  simp only [aeZ,ae6,Nat.zero_mul,agz,Nat.sub_zero,h4]
 ·obtain⟨⟨⟨hlen,uf⟩,nf⟩,hlt⟩:=o.at_ _ _ _ hq
  refine o.I5 hq (fun _ _ _=>rfl) (ae4 _) (.inl rfl) hlt ⟨⟨bY.b9,?_⟩,?_⟩
  ·rw [bY.b9]
   refine afV (af2 _ ?_) (hlen ▸ uf)
   rw [h4]; omega
  ·rcases nf with⟨h5,h6⟩| ⟨h5,rest,h6⟩
   ·left; exact⟨h5,by rw [h4]; omega⟩
   ·right
    refine⟨h5,E.l (l.drop hi.toNat)++rest,?_⟩
    rw [h6,Dh,←afn,←bY.j7,agu]
theorem KS {n:Nat}(o:Has h K)(hq:K[q]? = some (i,.sl n E.n (E.l l)))(T:zA P t E.n b=true)(hs:KL l 0 hi=some r) :
  oz P t (.rs i 0 n E.n) none (some (.int k hi)) none=some (.rs i 0 r.length E.n)∧Has h (K.set q (i,.sl r.length E.n (E.l r))):=by
 have hn:=dN o hq
 subst hn
 exact KR o hq T hs
end
theorem ax {P:Program}{cf:CallF}{m:Nat}{aX:FuncId→bX}{f:FuncId}{fn:Func}{A:bX}(ha:aX f=A){args:List AV}{h:AHeap}{R:AV→AHeap→Prop}(hf:P.funcs[f]? = some fn)(hb:fn.body=some (bA fn))(hn:agB args.length fn.ntmps=true)
  (he:dB P cf A m (bA fn) ⟨qa A.keep args,A.aS.map fun _=>none,h⟩ (fun e s=>(e = .ret∨e = .norm)∧∃r,aM P (s.open A) fn.results.toList=some r∧R r s.h)) :
  ∃r h',ba P aX cf m f args h=some (r,h')∧R r h':=by
 subst ha
 exact BB hf hb hn he
def KT (a b:ByteArray):Bool:=Op.bytesLess a.data.toList b.data.toList||a.data.toList==b.data.toList
end Go.R
namespace Go.R
open Go
mutual
theorem BD {h:AHeap}:∀(n:Nat) (x y:AV),x.fK=true→cK h n x=some y→y=x.lH
 | 0,x,y,_,h=>by simp [cK] at h
 | n+1,x,y,hn,h=>by
  cases x with
  | agg cs=>
   simp only [cK,ae1] at h
   obtain⟨gF,hcs,rfl⟩:=h
   rw [jB n cs gF (by simpa [AV.fK] using hn) hcs]; rfl
  | tup cs=>
   simp only [cK,ae1] at h
   obtain⟨gF,hcs,rfl⟩:=h
   rw [jB n cs gF (by simpa [AV.fK] using hn) hcs]; rfl
  | fn f cs=>
   simp only [cK,ae1] at h
   obtain⟨gF,hcs,rfl⟩:=h
   rw [jB n cs gF (by simpa [AV.fK] using hn) hcs]; rfl
  | ptr _ _=>simp [AV.fK] at hn
  | rs _ _ _ _=>simp [AV.fK] at hn
  | _=>simp only [cK,hn,if_true,ae2] at h; exact h.symm
theorem jB {h:AHeap}:∀(n:Nat) (xs ys:List AV),dH xs=true→bK h n xs=some ys→ys=en xs
 | 0,xs,ys,_,h=>by simp [bK] at h
 | n+1,[],ys,_,h=>by simp only [bK,ae2] at h; exact h.symm
 | n+1,x::xs,ys,hn,h=>by
  simp only [dH,ae3] at hn
  simp only [bK,ae0,ae1] at h
  obtain⟨y,hy,zs,hz,rfl⟩:=h
  rw [BD n x y hn.1 hy,jB n xs zs hn.2 hz]; rfl
end
mutual
theorem Ah {h:AHeap}:∀(n:Nat) (x y:AV),iT h n x=some y→cK h n x=some y
 | 0,x,y,h=>by simp [iT] at h
 | n+1,x,y,h=>by
  unfold iT at h
  split at h
  ·exact h
  ·exact h
  ·exact h
  ·exact h
  ·exact h
  ·exact h
  ·exact h
  ·exact h
  ·rename_i id off len kA
   simp only [cK]
   split at h
   ·rename_i h0; rw [if_pos h0]; exact h
   ·rename_i h0
    rw [if_neg h0]
    rw [ae0] at h ⊢
    obtain⟨ob,ho,h⟩:=h
    refine⟨ob,ho,?_⟩
    cases ob with
    | map es=>cases h
    | row t cs=>cases h
    | cells cs=>
     simp only at h ⊢
     split at h
     ·rename_i hle
      rw [if_pos hle]
      rw [ae1] at h ⊢
      obtain⟨gF,hcs,h2⟩:=h
      exact⟨gF,nl n _ _ hcs,h2⟩
     ·cases h
  ·simp only [cK]
   rw [ae1] at h ⊢
   obtain⟨gF,hcs,h2⟩:=h
   exact⟨gF,nl n _ _ hcs,h2⟩
  ·simp only [cK]
   rw [ae1] at h ⊢
   obtain⟨gF,hcs,h2⟩:=h
   exact⟨gF,nl n _ _ hcs,h2⟩
  ·cases h
theorem nl {h:AHeap}:∀(n:Nat) (xs ys:List AV),eP h n xs=some ys→bK h n xs=some ys
 | 0,xs,ys,h=>by simp [eP] at h
 | n+1,[],ys,h=>h
 | n+1,x::xs,ys,h=>by
  simp only [eP,bK,ae0,ae1] at h ⊢
  obtain⟨y,hy,zs,hz,h2⟩:=h
  exact⟨y,Ah n x y hy,zs,nl n xs zs hz,h2⟩
end
def BE (k:Nat)(h:AHeap)(x y:AV):Prop:=∀n,jx+k≤n→iT h n x=some y
def Ol (k:Nat)(h:AHeap)(x y:List AV):Prop:=∀n,jx+k≤n→eP h n x=some y
def fG (h:AHeap)(x y:AV):Prop:=BE 4503599627370496 h x y
section
variable {h:AHeap}{α:Type}{E:bY α}{l:List α}{K:Mem}{q i:Nat}
theorem fG.JP {x y:AV}(f:fG h x y):Oh h x y:=fun n hn=>Ah _ _ _ (f n hn)
theorem vP {k:Nat}{x y:AV}(f:BE k h x y)(hk:k≤4503599627370496:=by decide):fG h x y:=fun n hn=>f n (by omega)
theorem BF {x y:AV}(h2:∀n,iT h (n+1) x=some y):BE 0 h x y:=fun n hn=>by
 obtain⟨k,rfl,_⟩:=oM (show jx≤n by omega)
 exact h2 k
theorem jC {k:IntKind}{n:Int}:BE 0 h (.int k n) (.int k n):=BF fun _=>rfl
theorem kl {b:Bool}:BE 0 h (.bool b) (.bool b):=BF fun _=>rfl
theorem tw:BE 0 h .nils (E.fz []):=BF fun _=>rfl
def KU:AV→Bool
 | .int _ _ | .bool _ | .str _=>true
 | _=>false
theorem qy:∀{cs:List AV} {n:Nat},cs.all KU=true→cs.length+1<n→eP h n cs=some cs
 | [],n,_,hn=>by
  obtain⟨k,rfl⟩:∃k,n=k+1:=⟨n - 1,by omega⟩
  rfl
 | x::cs,n,h1,hn=>by
  obtain⟨k,rfl⟩:∃k,n=k+1+1:=⟨n - 2,by simp at hn; omega⟩
  simp only [afQ,ae3] at h1
  simp only [eP]
  have:iT h (k+1) x=some x:=by cases x<;>first | rfl | (simp [KU] at h1)
  rw [this,aeZ,qy h1.2 (by simp at hn; omega)]
  rfl
theorem GZ {n:Nat}(o:Has h K)(hq:K[q]? = some (i,.sl n E.n (E.l l)))(hf:∀a:α,(E.f a).all KU=true):BE 0 h (.rs i 0 n E.n) (E.fz l):=fun m hm=>by
 have hn:=dN o hq
 subst hn
 obtain⟨⟨⟨hlen,uf⟩,nf⟩,hlt⟩:=o.at_ _ _ _ hq
 obtain⟨k,rfl,hk⟩:=oM (show jx≤m by omega)
 simp only [iT]
 rcases nf with⟨h0,h1⟩| ⟨h0,rest,h1⟩
 ·have:l=[]:=by simpa using h1
  subst this
  simp [h0,bY.fz,bY.l]
 ·rw [if_neg h0,h1]
  simp only [aeZ]
  have e1:((E.l l++rest).drop 0).take (l.length*E.n)=E.l l:=by
   rw [afw,afy (by rw [hlen]; exact ae4 _),afA (by rw [hlen]; exact ae4 _)]
  rw [if_pos (by rw [afb,hlen]; omega),e1,qy ?_ (by simp only [jx] at hk; omega)]
  ·rfl
  ·rw [afr]
   intro x hx
   unfold bY.l at hx
   rw [List.mem_flatMap] at hx
   obtain⟨a,_,ha⟩:=hx
   exact afr.1 (hf a) x ha
theorem uC:Ol 0 h [] []:=fun n hn=>by
 obtain⟨k,rfl,_⟩:=oM (show jx≤n by omega)
 rfl
theorem gX {k1 k2:Nat}{x y:AV}{xs ys:List AV}(f:BE k1 h x y)(g:Ol k2 h xs ys):Ol (k1+k2+1) h (x::xs) (y::ys):=fun n hn=>by
 obtain⟨k,rfl⟩:∃k,n=k+1:=⟨n - 1,by omega⟩
 simp only [eP]
 rw [f k (by omega),g k (by omega)]
 rfl
theorem uD {k:Nat}{xs ys:List AV}(f:Ol k h xs ys):BE (k+1) h (.tup xs) (.tup ys):=fun n hn=>by
 obtain⟨k,rfl⟩:∃k,n=k+1:=⟨n - 1,by omega⟩
 simp only [iT]
 rw [f k (by omega)]; rfl
def b5:Nat:=9007199254740992
theorem km {k:Nat}{xs ys:List AV}(f:aZ k h xs ys)(hk:k≤b5:=by decide):aZ b5 h xs ys:=fun n hn=>f n (by omega)
def vQ (x y:AV):Prop:=x.fK=true∧x.lH=y
def yc (xs ys:List AV):Prop:=dH xs=true∧en xs=ys
theorem iW {k:IntKind}{n:Int}:vQ (.int k n) (.int k n):=⟨rfl,rfl⟩
theorem Om {b:Bool}:vQ (.bool b) (.bool b):=⟨rfl,rfl⟩
theorem oQ {s:ByteArray}:vQ (.str s) (.str s):=⟨rfl,rfl⟩
theorem KV (hp:E.flat=true:=by rfl):vQ (E.fz l) (E.fz l):=bY.bz hp
theorem nn:vQ .nils (E.fz []):=⟨rfl,rfl⟩
theorem lU:yc [] []:=⟨rfl,rfl⟩
theorem cz {x y:AV}{xs ys:List AV}(a:vQ x y)(b:yc xs ys):yc (x::xs) (y::ys):=⟨by simp [dH,a.1,b.1],by simp [en,a.2,b.2]⟩
theorem nz {xs ys:List AV}(a:yc xs ys):vQ (.agg xs) (.agg ys):=⟨by simpa [AV.fK] using a.1,by show AV.agg (en xs)=_; rw [a.2]⟩
end
end Go.R
namespace Go.R
open Go
section
variable {P:Program}{h:AHeap}{K:Mem}{i q:Nat}{cs gF:List AV}{x z:AV}{t:TypeId}{off:Nat}
theorem iX (o:Has h K)(sK:cs.all AV.cL=true):∃i h',Ds h cs=some (.ptr i 0,h')∧Has h' ((i,.ob cs)::K):=by
 refine⟨h.next,h.alloc (.cells cs),by unfold Ds; rw [if_pos sK],o.new (fun k hk=>by rw [AHeap.alloc,dC,if_neg (by omega)]) (agb _) (.inr (ae4 _)) (afL _) ⟨by have:=o.pos; omega,by rw [AHeap.alloc,dC,if_pos rfl]⟩⟩
theorem b7 (o:Has h K)(hq:K[q]? = some (i,.ob cs))(hr:ls P t cs off=some z):bB P h t (.ptr i off)=some z:=by
 obtain⟨⟨h1,h2⟩,_⟩:=o.at_ _ _ _ hq
 simp only [bB,mr,h2,aeZ,hr]
theorem kb (o:Has h K)(hq:K[q]? = some (i,.ob cs))(hw:jM P t cs off x=some gF):∃h',kU P h t (.ptr i off) x=some h'∧Has h' (K.set q (i,.ob gF)):=by
 obtain⟨⟨h1,h2⟩,_⟩:=o.at_ _ _ _ hq
 exact⟨h.put i (.cells gF),by simp only [kU,h2,aeZ,hw,ae6],mb o hq ⟨h1,by rw [dC,if_pos rfl]⟩⟩
end
theorem kW {x y:AV}(h:vQ x y):aP x=y:=by
 unfold aP
 rw [h.1,h.2]; rfl
theorem oR:([]:List AV).map aP=[]:=rfl
theorem cZ {x y:AV}{xs ys:List AV}(a:aP x=y)(b:xs.map aP=ys):(x::xs).map aP=y::ys:=by
 rw [afs,a,b]
theorem lV {α:Type}{K L:List α}{q:Nat}{p:α}(h:L[q]? = some p):(K++L)[K.length+q]? = some p:=by
 rw [afg (by omega),afX,h]
theorem G0 {α:Type}{E:bY α}{h:AHeap}{K:Mem}{l:List α}{cs:List AV}(o:Has h K)(hc:cs=E.l l)(hl:l.length≤1024:=by simp) :
  ∃i h',some (AV.rs h.next 0 l.length E.n,h.alloc (.cells cs))=some (AV.rs i 0 l.length E.n,h')∧Has h' ((i,.sl l.length E.n (E.l l))::K):=by
 subst hc
 exact⟨h.next,_,rfl,o.new (fun k hk=>by rw [AHeap.alloc,dC,if_neg (by omega)]) (agb _) (.inr (ae4 _)) (afL _) ⟨⟨bY.b9,bY.oK (by omega)⟩,.inr ⟨by have:=o.pos; omega,[],by rw [AHeap.alloc,dC,if_pos rfl]; simp⟩⟩⟩
end Go.R
