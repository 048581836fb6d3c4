/- Part of the proof: RRow, RStep, RWalk, RG1, RG2, RG3, RG4, RT, RG5, RG6, RG7. -/
import Derived.Test.YtifafejidnjckaaK3
import Derived.ProofKit
set_option linter.unusedVariables false
set_option linter.unusedSimpArgs false
set_option maxRecDepth 100000
open Bool renaming and_eq_true → Ui, false_eq_true → Up, or_eq_true → UY
open List renaming getElem?_eq_some_iff → Ul, length_append → Uo, length_set → Uq, drop_eq_getElem_cons → Us, length_cons → Ut, getElem?_append_left → Uu, append_assoc → Uv, replicate → Uw, all_eq_true → Uy, getElem?_append_right → Uz, mem_cons → UF, length_nil → UG, map_cons → UH, mem_append → UJ, map_append → UK, take_append_of_le_length → UO, nil_append → UR, take_of_length_le → UT, eq_nil_of_length_eq_zero → UU, getElem?_cons_zero → UW, drop_zero → UX, all_cons → U2, length_take → Vi, getElem?_of_mem → Vj, getElem?_cons_succ → Vk, take_append_drop → Vp, append_nil → VC, length_replicate → VD, ext_getElem? → VE, getElem?_set → VF
open Nat renaming le_refl → Uj, zero_add → UC, lt_of_lt_of_le → UD, beq → UP, lt_succ_self → U0, le_trans → U1, mul_le_mul_right → U4, add_assoc → Va, eq_of_beq_eq_true → Vf, le_succ → Vn, add_mul → Vo, lt_succ_of_lt → Vr, add_sub_cancel_left → Vt, ble → Vz, min_eq_left → VA, zero_lt_one → VB, add_comm → VH, add_zero → VJ, sub_self → VK
open Option renaming bind_eq_some_iff → Ud, bind_some → Ue, map_eq_some_iff → Ug, map_some → Uk, isSome_none → Vw
open Option.some renaming injEq → Uh
open Prod.mk renaming injEq → Um
namespace Go.R
open Go
def yq (P:Program)(F:TypeId→List AV→Prop):List Field→List AV→Prop
 | [],xs=>xs=[]
 | f::fs,xs=>∃a b,xs=a++b∧a.length=P.cellsOf f.type∧F f.type a∧yq P F fs b
def Fits (P:Program):Nat→TypeId→List AV→Prop
 | 0,_,_=>False
 | n+1,t,xs=>
  match P.underlying t with
  | some .bool=>∃b,xs=[.bool b]
  | some (.int k)=>∃z,xs=[.int k z]∧k.min≤z∧z≤k.max
  | some .string=>∃s:ByteArray,xs=[.str s]∧s.size≤maxLen
  | some (.slice e)=>xs=[.nils]∨∃els:List (List AV),xs=[.fz els.flatten els.length false]∧els.length≤maxLen∧∀el∈els,el.length=P.cellsOf e∧Fits P n e el
  | some (.struct fs)=>yq P (Fits P n) fs.toList xs
  | _=>False
def qQ (P:Program):Nat→List Field→Bool
 | _,[]=>true
 | k,f::fs=>UP f.offset k&&qQ P (k+P.cellsOf f.type) fs
def lW (P:Program):Nat→TypeId→Bool
 | 0,_=>false
 | n+1,t=>
  match P.underlying t with
  | some .bool | some (.int _) | some .string=>true
  | some (.slice e)=>lW P n e
  | some (.struct fs)=>qQ P 0 fs.toList&&UP (P.cellsOf t) ((fs.toList.map fun f=>P.cellsOf f.type).sum)&&fs.toList.all fun f=>lW P n f.type
  | _=>false
theorem mapM_some {α β:Type}{f:α→Option β}:∀{l:List α} {ys:List β},l.mapM f=some ys→ys.length=l.length∧∀(i:Nat) (x:α),l[i]? = some x→∃y,ys[i]? = some y∧f x=some y
 | [],ys,h=>by
  simp at h; subst h
  exact⟨rfl,fun i x hx=>by simp at hx⟩
 | a::l,ys,h=>by
  simp only [List.mapM_cons,Option.bind_eq_bind,Ud,Option.pure_def,Uh] at h
  obtain⟨y,hy,zs,hz,rfl⟩:=h
  obtain⟨h1,h2⟩:=mapM_some hz
  refine⟨by simp [h1],fun i x hx=>?_⟩
  cases i with
  | zero=>simp at hx; subst hx; exact⟨y,rfl,hy⟩
  | succ i=>simpa using h2 i x (by simpa using hx)
theorem yr {w:World}{a:Addr}{v:Value}(h:w.cell? a=some v):w.cell? ⟨a.block,a.off,none⟩=some v∧a.spot=none:=by
 unfold World.cell? at h ⊢
 split at h
 ·rename_i c t fr hb
  rw [hb]
  simp only at h ⊢
  cases hs:a.spot with
  | none=>rw [hs] at h; exact⟨by simpa using h,rfl⟩
  | some _=>rw [hs] at h; simp at h
 ·cases h
theorem mE (a:Addr)(n:Nat):(a.add n).block=a.block∧(a.add n).off=a.off+n:=by
 unfold Addr.add
 split
 ·rename_i h; subst h; exact⟨rfl,rfl⟩
 ·exact⟨rfl,rfl⟩
theorem wu {w:World}{base:Nat}{a:Addr}{n:Nat}{cs:List Value}(h:w.cells? base a n=some cs):cs.length=n∧∀i,i<n→w.cell? ⟨a.block,a.off+i,none⟩=cs[i]?∧(i=0→a.spot=none):=by
 unfold World.cells? at h
 split at h
 ·obtain⟨h1,h2⟩:=mapM_some h
  refine⟨by simpa using h1,fun i hi=>?_⟩
  obtain⟨y,hy,hc⟩:=h2 i i (by simp [hi])
  obtain⟨h3,h4⟩:=yr hc
  rw [(mE a i).1,(mE a i).2] at h3
  refine⟨by rw [h3,hy],fun h0=>?_⟩
  subst h0
  simpa [Addr.add] using h4
 ·cases h
theorem pZ {α:Type}{Q:Nat→α→Prop}:∀n,(∀i,i<n→∃x,Q i x)→∃l:List α,l.length=n∧∀i x,l[i]? = some x→Q i x
 | 0,_=>⟨[],rfl,fun i x h=>by simp at h⟩
 | n+1,h=>by
  obtain⟨l,h1,h2⟩:=pZ n fun i hi=>h i (by omega)
  obtain⟨x,hx⟩:=h n (by omega)
  refine⟨l++[x],by simp [h1],fun i y hy=>?_⟩
  by_cases hi:i<n
  ·exact h2 i y (by rwa [Uu (by omega)] at hy)
  ·rw [Uz (by omega)] at hy
   have:i=n:=by
    have:=(Ul.1 hy).1
    simp at this; omega
   subst this
   simp [h1] at hy
   subst hy; exact hx
theorem Cells.append {c:Cx}{L:Nat→Prop}:∀{xs ys:List AV} {b o:Nat},Cells c L xs b o→Cells c L ys b (o+xs.length)→Cells c L (xs++ys) b o
 | [],ys,b,o,_,h=>by simpa using h
 | x::xs,ys,b,o,h,k=>⟨h.1,Cells.append h.2 (by simpa [Va,VH 1] using k)⟩
theorem Cells.flatten {c:Cx}{L:Nat→Prop}{b size:Nat}:∀(els:List (List AV)) (o:Nat),(∀i el,els[i]? = some el→el.length=size∧Cells c L el b (o+i*size))→Cells c L els.flatten b o
 | [],o,_=>trivial
 | el::els,o,h=>by
  obtain⟨h1,h2⟩:=h 0 el rfl
  rw [List.flatten_cons]
  refine Cells.append (by simpa using h2) (Cells.flatten (size:=size) els _ fun i RJ he=>?_)
  obtain⟨h3,h4⟩:=h (i+1) RJ (by simpa using he)
  refine⟨h3,?_⟩
  rw [h1]
  rwa [show o+size+i*size=o+(i+1)*size by rw [Vo,Nat.one_mul]; omega]
section
variable {H:Type}{enc:TypeId × Value→H}{P:Program}{c:Cx}{sp:Nat→Bool}{held:Bool}
theorem p4 {F:TypeId→List AV→Prop}{g:TypeId→List Value→Option (DataW H × List MemPlace)}(hg:∀t cs x,g t cs=some x→cs.length=P.cellsOf t→(∃u:Nat,u=0)→True) :
  ∀(fs:List Field) (k:Nat) (cs:List Value) (xs:List (DataW H × List MemPlace)),qQ P k fs=true→(∀f∈fs,∀cs x,g f.type cs=some x→cs.length=P.cellsOf f.type→∃ys,VRs c none0 ys cs∧F f.type ys∧∀v∈cs,v.oneCell'=true)→
   (fs.mapM fun f=>g f.type ((cs.drop f.offset).take (P.cellsOf f.type)))=some xs→k+(fs.map fun f=>P.cellsOf f.type).sum≤cs.length→
   ∃ys,VRs c none0 ys ((cs.drop k).take ((fs.map fun f=>P.cellsOf f.type).sum))∧yq P F fs ys∧∀v∈(cs.drop k).take ((fs.map fun f=>P.cellsOf f.type).sum),v.oneCell'=true
 | [],k,cs,xs,_,_,_,_=>⟨[],by simp [VRs],rfl,by simp⟩
 | f::fs,k,cs,xs,hc,hF,h,hl=>by
  simp only [qQ,Ui,beq_nat,decide_eq_true_eq] at hc
  obtain⟨rfl,hc⟩:=hc
  simp only [List.mapM_cons,Option.bind_eq_bind,Ud,Option.pure_def,Uh] at h
  obtain⟨y,hy,zs,hz,rfl⟩:=h
  simp only [UH,List.sum_cons] at hl ⊢
  have hlen:((cs.drop f.offset).take (P.cellsOf f.type)).length=P.cellsOf f.type:=by simp; omega
  obtain⟨a,ha,RK,h1⟩:=hF f (by simp) _ _ hy hlen
  obtain⟨b,hb,RL,h2⟩:=p4 hg fs (f.offset+P.cellsOf f.type) cs zs hc (fun f' ME=>hF f' (by simp [ME])) hz (by omega)
  have HX:(cs.drop f.offset).take (P.cellsOf f.type+(fs.map fun f=>P.cellsOf f.type).sum)=(cs.drop f.offset).take (P.cellsOf f.type)++((cs.drop (f.offset+P.cellsOf f.type)).take ((fs.map fun f=>P.cellsOf f.type).sum)):=by
   rw [List.take_add,List.drop_drop]
  rw [HX]
  refine⟨a++b,VRs.append ha hb,⟨a,b,rfl,?_,RK,RL⟩,fun v hv=>?_⟩
  ·rw [ha.length,hlen]
  ·rcases UJ.1 hv with hv | hv
   ·exact h1 v hv
   ·exact h2 v hv
theorem pf (vA:∀id,c.h.get id=none):∀(m:Nat) (t:TypeId) (fuel:Nat) (cs:List Value) (d:DataW H) (ps:List MemPlace),lW P m t=true→DataW.trod enc P c.w 0 sp held fuel t cs=some (d,ps)→
  ∃xs,VRs c none0 xs cs∧Fits P m t xs∧∀v∈cs,v.oneCell'=true
 | 0,_,_,_,_,_,hB,_=>by simp [lW] at hB
 | m+1,t,0,cs,d,ps,hB,h=>by simp [DataW.trod] at h
 | m+1,t,fuel+1,cs,d,ps,hB,h=>by
  have hnl:∀id,¬Live c.h id:=fun id hl=>by have:=hl.2; rw [vA id] at this; cases this
  unfold lW at hB
  unfold Fits
  cases hu:P.underlying t with
  | none=>rw [hu] at hB; cases hB
  | some td=>
  rw [hu] at hB
  cases td<;>simp only at hB ⊢<;>try (cases hB; done)
  ·
   unfold DataW.trod at h
   rw [hu] at h
   split at h<;>first | (rename_i heq; cases heq; done) | skip
   all_goals try (rename_i heq _; cases heq; done)
   all_goals (first | (cases h; done) | skip)
   ·rename_i b _
    exact⟨[.bool b],⟨by simp [VR],trivial⟩,⟨b,rfl⟩,by simp [Value.oneCell']⟩
  ·rename_i k
   unfold DataW.trod at h
   rw [hu] at h
   split at h<;>first | (rename_i heq; cases heq; done) | skip
   all_goals try (rename_i heq _; cases heq; done)
   ·rename_i k' k2 n heq
    cases heq
    split at h
    ·rename_i hk
     obtain⟨rfl,LO⟩:=hk
     simp only [Lit.wf,Ui,decide_eq_true_eq] at LO
     exact⟨[.int k2 n],⟨by simp [VR],trivial⟩,⟨n,rfl,LO⟩,by simp [Value.oneCell']⟩
    ·cases h
   ·cases h
  ·
   unfold DataW.trod at h
   rw [hu] at h
   split at h<;>first | (rename_i heq; cases heq; done) | skip
   all_goals try (rename_i heq _; cases heq; done)
   ·rename_i s _
    split at h
    ·rename_i hs
     exact⟨[.str s],⟨by simp [VR],trivial⟩,⟨s,rfl,hs⟩,by simp [Value.oneCell']⟩
    ·cases h
   ·cases h
  ·
   rename_i e
   unfold DataW.trod at h
   rw [hu] at h
   split at h<;>first | (rename_i heq; cases heq; done) | skip
   all_goals try (rename_i heq _; cases heq; done)
   ·exact⟨[.nils],⟨by simp [VR],trivial⟩,.inl rfl,by simp [Value.oneCell']⟩
   ·rename_i e' a len cap heq
    cases heq
    simp only at h
    split at h
    rotate_left
    ·cases h
    rename_i hbound
    obtain⟨_,hlc,hcap⟩:=hbound
    rw [Ud] at h
    obtain⟨elems,Ki,_⟩:=h
    obtain⟨hn,hget⟩:=mapM_some Ki
    have key:∀i,i<len→∃el:List AV,el.length=P.cellsOf e∧Fits P m e el∧Cells c none0 el a.block (a.off+i*P.cellsOf e)∧(i=0→0<P.cellsOf e→a.spot=none):=by
     intro i hi
     obtain⟨y,_,hy⟩:=hget i i (by simp [hi])
     rw [Ud] at hy
     obtain⟨RM,hcs,hy⟩:=hy
     obtain⟨hl,mV⟩:=wu hcs
     obtain⟨el,hv,hf,h1⟩:=pf vA m e fuel RM y.1 y.2 hB hy
     refine⟨el,by rw [hv.length,hl],hf,Cells.of_vals hv (fun j hj=>?_) h1,fun h0 nU=>?_⟩
     ·have:=(mV j (by omega)).1
      rwa [(mE a _).1,(mE a _).2] at this
     ·subst h0
      have:=(mV 0 nU).2 rfl
      simpa [Addr.add] using this
    obtain⟨els,hl,By⟩:=pZ len key
    refine⟨[.fz els.flatten els.length false],⟨?_,trivial⟩,.inr ⟨els,rfl,by omega,fun el Ki=>?_⟩,by simp [Value.oneCell']⟩
    ·simp only [VR]
     refine⟨some a,cap,by rw [hl],by omega,by simp,.inl rfl,?_⟩
     by_cases HY:els.flatten=[]
     ·exact .inl HY
     ·have nU:0<len∧0<P.cellsOf e:=by
       cases els with
       | nil=>simp at HY
       | cons el els=>
        refine⟨by simp at hl; omega,?_⟩
        rcases Nat.eq_zero_or_pos (P.cellsOf e) with h0 | h0
        ·exfalso
         apply HY
         rw [List.flatten_eq_nil_iff]
         intro l nF
         obtain⟨i,hi⟩:=Vj nF
         have:=(By i l hi).1
         exact UU (by omega)
        ·exact h0
      have G6:a.spot=none:=by
       cases els with
       | nil=>simp at hl; omega
       | cons el els=>exact (By 0 el rfl).2.2.2 rfl nU.2
      refine .inr ⟨a.block,a.off,?_,⟨fun id hl=>absurd hl (hnl id),fun h=>h.elim⟩,by simp,Cells.flatten els a.off fun i el hi=>⟨(By i el hi).1,(By i el hi).2.2.1⟩⟩
      cases a; simp at G6; subst G6; rfl
    ·obtain⟨i,hi⟩:=Vj Ki
     exact⟨(By i el hi).1,(By i el hi).2.1⟩
   ·cases h
  ·
   rename_i fs
   simp only [Ui,beq_nat,decide_eq_true_eq,Uy] at hB
   obtain⟨⟨MU,MV⟩,Kj⟩:=hB
   simp only [DataW.trod,hu] at h
   split at h
   rotate_left
   ·cases h
   rename_i hlen
   rw [Ug] at h
   obtain⟨xs,hx,_⟩:=h
   obtain⟨ys,h1,h2,h3⟩:=p4 (P:=P) (c:=c) (F:=Fits P m) (g:=fun t cs=>DataW.trod enc P c.w 0 sp held fuel t cs) (fun _ _ _ _ _ _=>trivial) fs.toList 0 cs xs MU
    (fun f hf cs x hx _=>pf vA m f.type fuel cs x.1 x.2 (Kj f hf) hx) hx (by omega)
   have kr:(cs.drop 0).take ((fs.toList.map fun f=>P.cellsOf f.type).sum)=cs:=by
    rw [UX,←MV,←hlen,List.take_length]
   rw [kr] at h1 h3
   exact⟨ys,h1,h2,h3⟩
def jQ (P:Program)(t:TypeId)(xs:List AV):AV:=
 match P.underlying t with
 | some (.struct _)=>.agg xs
 | _=>xs.headD .any
def oe (P:Program)(m:Nat):List TypeId→List AV→Prop
 | [],[]=>True
 | t::ts,x::uM=>(∃xs,x=jQ P t xs∧Fits P m t xs)∧oe P m ts uM
 | _,_=>False
theorem Bz {w:World}{m:Nat}{t:TypeId}{v:Value}{base:Nat}(hB:lW P m t=true)(hs:∀fs,P.underlying t≠some (.struct fs))(h:Value.okWide P w .any base t v):v.cells.toList=[v]:=by
 cases m with
 | zero=>simp [lW] at hB
 | succ m=>
 unfold lW at hB
 unfold Value.okWide at h
 cases hu:P.underlying t with
 | none=>rw [hu] at hB; cases hB
 | some td=>
 rw [hu] at hB h
 cases td<;>simp only at hB h<;>first
  | (cases hB; done)
  | (exact absurd hu (hs _))
  | (cases v<;>simp only [Cell.okWide,Cell.ok,hu] at h<;>first | (exact h.elim) | rfl | (simp [Value.cells]))
theorem C8 (vA:∀id,c.h.get id=none){m:Nat}{t:TypeId}{v:Value}{d:DataW H}{ps:List MemPlace}{base:Nat}(hB:lW P m t=true)(ho:Value.okWide P c.w .any base t v)(h:DataW.Trod enc P c.w 0 sp held t v d ps) :
  ∃xs,Fits P m t xs∧VR c none0 (jQ P t xs) v:=by
 obtain⟨fuel,h⟩:=h
 obtain⟨xs,h1,h2,_⟩:=pf vA m t fuel _ d ps hB h
 refine⟨xs,h2,?_⟩
 by_cases hs:∃fs,P.underlying t=some (.struct fs)
 ·obtain⟨fs,hs⟩:=hs
  unfold Value.okWide at ho
  rw [hs] at ho
  obtain⟨cs,rfl,_⟩:=ho
  unfold jQ
  rw [hs]
  simp only [VR]
  exact⟨cs,rfl,h1⟩
 ·have Ju:∀fs,P.underlying t≠some (.struct fs):=fun fs h=>hs ⟨fs,h⟩
  have hc:=Bz hB Ju ho
  rw [hc] at h1
  have hx:jQ P t xs=xs.headD .any:=by
   unfold jQ
   split
   ·rename_i fs h; exact absurd h (Ju fs)
   ·rfl
  rw [hx]
  cases xs with
  | nil=>exact h1.elim
  | cons x xs=>exact h1.1
theorem wv (vA:∀id,c.h.get id=none){m base:Nat}:∀(ts:List TypeId) (vs:List Value) (ds:List (DataW H)) (ps:List MemPlace),(∀t∈ts,lW P m t=true)→(∀(j:Nat) t v,ts[j]? = some t→vs[j]? = some v→Value.okWide P c.w .any base t v)→
  DataW.TrodAll enc P c.w 0 sp held ts vs ds ps→∃uM,oe P m ts uM∧VRs c none0 uM vs
 | [],[],[],_,_,_,_=>⟨[],trivial,trivial⟩
 | t::ts,v::vs,d::ds,ps,hB,ho,h=>by
  obtain⟨p,q,h1,h2,_⟩:=h
  obtain⟨xs,h3,h4⟩:=C8 vA (hB t (by simp)) (ho 0 t v rfl rfl) h1
  obtain⟨uM,h5,h6⟩:=wv vA ts vs ds q (fun t ht=>hB t (by simp [ht])) (fun j t v hj hv=>ho (j+1) t v (by simpa using hj) (by simpa using hv)) h2
  exact⟨jQ P t xs::uM,⟨⟨xs,rfl,h3⟩,h5⟩,h4,h6⟩
 | [],[],_::_,_,_,_,h=>h.elim
 | [],_::_,_,_,_,_,h=>by cases h
 | _::_,[],_,_,_,_,h=>by cases h
 | _::_,_::_,[],_,_,_,h=>by cases h
theorem jY (hl:laidOutB P=true){W W':World}{PC:Nat→Bool}:∀{ts:List TypeId} {vs:List Value} {ds:List (DataW H)} {ps:List MemPlace},(∀t∈ts,P.readableRec t=true∧t<P.types.size)→
  DataW.TrodAll enc P W 0 (fun _=>true) true ts vs ds ps→(∀p∈ps,W.sameAt W' p)→(∀p∈ps,PC p.block=true)→DataW.TrodAll enc P W' 0 PC true ts vs ds ps
 | [],[],[],_,_,h,_,_=>h
 | t::ts,v::vs,d::ds,ps,hr,h,hs,hp=>by
  obtain⟨p,q,h1,h2,rfl⟩:=h
  exact⟨p,q,WideElems.Trod_stays hl (hr t (by simp)).1 (hr t (by simp)).2 h1 (fun x hx=>hs x (by simp [hx])) (fun x hx=>hp x (by simp [hx])),
   jY hl (fun t ht=>hr t (by simp [ht])) h2 (fun x hx=>hs x (by simp [hx])) (fun x hx=>hp x (by simp [hx])),rfl⟩
 | [],[],_::_,_,_,h,_,_=>h.elim
 | [],_::_,_,_,_,h,_,_=>by cases h
 | _::_,[],_,_,_,h,_,_=>by cases h
 | _::_,_::_,[],_,_,h,_,_=>by cases h
theorem BA {f:Func}{s:ChangeSpec}{apart fresh handsOn again:Bool}{W W':World}{args:Array Value}{ds gs:List (DataW H)}{before:List MemPlace}{tb:TypeId}
  (hl:laidOutB P=true) (hr:∀t∈f.params.toList,P.readableRec t=true∧t<P.types.size) (hW:DataW.Whole enc P f.params.toList s.vars apart W args.toList ds gs before) (hv:s.vars=[])
  (C9:f.resultTypes = #[tb]) (LP:P.underlying tb=some .bool) (Kk:(s.fn H (ds++gs))={results:=[.lit (.bool true)],args:=ds}) (hb:RowKit.Below W.heap.size W W') :
  s.post enc P f apart fresh handsOn again W args (.bool true) W':=by
 have hlt:=hW.lt
 have hW0:=hW
 obtain⟨p,q,hA,hV,PD,hz,hn⟩:=hW
 rw [hv] at hV
 have MW:gs=[]∧q=[]:=by
  cases gs with
  | nil=>exact⟨rfl,hV⟩
  | cons g gs=>exact hV.elim
 obtain⟨rfl,rfl⟩:=MW
 have MX:before=p:=by simpa using PD
 subst MX
 have G7:∀x∈before,W.sameAt W' x:=fun x hx=>hb.same (hlt x hx)
 have Kl:(Value.bool true).resultList f.resultTypes.size=[.bool true]:=by rw [C9]; rfl
 have G8:∀(b:Nat) (sp:Nat→Bool) (hd:Bool),DataW.TrodAll enc P W' b sp hd f.resultTypes.toList ((Value.bool true).resultList f.resultTypes.size) [.lit (.bool true)] []:=by
  intro b sp hd
  rw [Kl,C9]
  exact ChangeShapes.trodAll_mk1 (RowKit.shut_bool LP true)
 refine⟨ds,[],before,[],before,[],hW0,?_,?_,?_,?_,fun _=>⟨?_,?_⟩⟩
 ·rw [Kk]; exact G8 _ _ _
 ·rw [Kk]
  exact jY hl hr hA G7 (fun x hx=>by simpa using hlt x hx)
 ·rw [Kk,hv]; rfl
 ·exact hb.frame _
 ·exact RowKit.ok_one C9 rfl (RowKit.okWide_bool_mk LP true)
 ·refine⟨_,[],before,⟨[]++before,[],ChangeShapes.trodAll_append (jY hl hr hA G7 (fun _ _=>rfl)) (G8 0 _ _),by rw [hv]; rfl,by simp,fun b off hx=>?_,hn⟩,fun p hp _=>hp⟩
  rw [hb.frozen (p:=⟨b,off,none⟩) (hlt _ hx)]
  exact hz b off hx
theorem Ext.below {c c':Cx}(e:Ext c none0 c' none0):RowKit.Below c.base c.w c'.w:=⟨e.os,e.tape,e.output,e.size,fun b hb=>e.exact b hb⟩
theorem sR {cf:CallF}{yl:FuncId}{f:Func}{s:ChangeSpec}{apart fresh handsOn again:Bool}{m:Nat}{tb:TypeId}
  (hl:laidOutB P=true) (hr:∀t∈f.params.toList,P.readableRec t=true∧t<P.types.size) (hB:∀t∈f.params.toList,lW P m t=true) (hv:s.vars=[]) (C9:f.resultTypes = #[tb]) (LP:P.underlying tb=some .bool)
  (Kk:∀ds:List (DataW H),ds.length=f.params.size→(s.fn H ds)={results:=[.lit (.bool true)],args:=ds})
  (hcf:∀uM,oe P m f.params.toList uM→∃cf h',CallOK P cf∧cf yl uM bz=some (.bool true,h'))
  {W:World} {base:Nat} {args:Array Value} {ds gs:List (DataW H)} {before:List MemPlace} (dP:∀(j:Nat) t v,f.params[j]? = some t→args[j]? = some v→Value.okWide P W .any base t v)
  (hW:DataW.Whole enc P f.params.toList s.vars apart W args.toList ds gs before) :
  Calls P yl args W fun e W'=>∃v,e = .returned v∧s.post enc P f apart fresh handsOn again W args v W':=by
 have hW0:=hW
 obtain⟨p,q,hA,hV,PD,_,_⟩:=hW
 let c:Cx:=⟨fun _=>(0,0),bz,W,W.heap.size⟩
 obtain⟨uM,h1,h2⟩:=wv (c:=c) (P:=P) (m:=m) (base:=base) (fun _=>rfl) f.params.toList args.toList ds p hB (fun j t v hj hv=>dP j t v (by simpa using hj) (by simpa using hv)) hA
 obtain⟨cf,h',nH,MY⟩:=hcf uM h1
 have hnl:∀id,¬Live c.h id:=fun id hl=>by have:=hl.2; cases this
 have hcall:=(nH yl uM bz _ _ MY).2 none0 c args.toList rfl (Uj _) ⟨fun id o ho=>(by cases ho),fun id o ho=>(by cases ho),fun id _ hl _ _=>absurd hl (hnl id),fun id hl=>absurd hl (hnl id),fun b hb=>hb.elim,fun id hl=>absurd hl (hnl id),fun _=>VB⟩ h2
 rw [Array.toArray_toList] at hcall
 have hlen:∀(ts:List TypeId) (vs:List Value) (ds:List (DataW H)) (p:List MemPlace),DataW.TrodAll enc P W 0 (fun _=>true) true ts vs ds p→ds.length=ts.length:=by
  intro ts
  induction ts with
  | nil=>intro vs ds p h; cases vs<;>cases ds<;>first | rfl | (cases h; done) | exact h.elim
  | cons t ts ih=>intro vs ds p h; cases vs<;>cases ds<;>first | (cases h; done) | (obtain⟨_,_,_,h2,_⟩:=h; simp [ih _ _ _ h2])
 have MW:gs=[]:=by
  rw [hv] at hV
  cases gs with
  | nil=>rfl
  | cons g gs=>exact hV.elim
 refine hcall.mono ?_
 rintro e w' ⟨c',v,rfl,rfl,hh,ze,hrel,HJ⟩
 simp only [VR] at ze
 subst ze
 refine⟨_,rfl,BA hl hr hW0 hv C9 LP ?_ HJ.below⟩
 rw [MW,VC]
 exact Kk ds (by rw [hlen _ _ _ _ hA]; simp)
end
end Go.R
namespace Go.R
open Go
section
variable {P:Program}{cf:CallF}{aE ds:List Nat}{s:RS}{d:Option Tmp}{t:TypeId}{p:String}{a:Array Edge}{g:Option (Nat × Bool)}{ops:List Oper}{ρ:Nat→AV}{bx:Nat→Option (List AV)}{h:AHeap}
variable {A:bY}{m:Nat}{st:St}
end
end Go.R
namespace Go.R
open Go
def sub:List Nat→Code→Code
 | [],c=>c
 | 0::p,.seq a _=>sub p a
 | _::p,.seq _ b=>sub p b
 | 0::p,.cond _ a _=>sub p a
 | _::p,.cond _ _ b=>sub p b
 | _::p,.block _ a=>sub p a
 | _::p,.loop a=>sub p a
 | _,c=>c
def b8 (f:Func):Code:=f.body.getD .skip
end Go.R
namespace Go.R
open Go
section
variable (P:Program)
def bl (h:AHeap)(t:TypeId)(x:AV):Option AV:=jl P (fun _=>none) h t x
def iH (h:AHeap)(t:TypeId)(a x:AV):Option AHeap:=
 match a with
 | .ptr id off=>(h.get id).bind fun | .cells cs=>(gD P t cs off x).map fun eS=>h.put id (.cells eS) | _=>none
 | _=>none
def zB (cf:CallF)(f:AV)(as:List AV)(h:AHeap):Option (AV × AHeap):=
 match f with
 | .fn f cap=>if as.all AV.kg then cf f (as++cap) h else none
 | _=>none
def wz (h:AHeap)(cs:List AV):Option (AV × AHeap):=if cs.all AV.bQ then some (.ptr h.next 0,h.alloc (.cells cs)) else none
def BB (aE:List Nat)(d:Option Nat):Bool:=match d with | some d=>!aE.contains d | none=>false
def Da (aE:List Nat)(h:AHeap)(o:Oper)(t:TypeId)(x:Option AV):Option (AV × AHeap):=
 x.bind fun x=>(nj P aE o t x).map fun (cs,n,z)=>(.rs h.next 0 n z,h.alloc (.cells cs))
def HZ (e:Operand→AV)(h:AHeap)(o:Oper)(z:AV):Prop:=
 match o.op with
 | .move x | .assign x=>e x=z
 | .load t a=>bl P h t (e a)=some z
 | .binOp op t x y _=>lJ P op t (e x) (e y)=some z
 | .unOp op _ x=>((e x).fR.bind fun a=>(ic P (Op.unary op a)).bind nL)=some z
 | .convert a b x=>lI P h a b (e x)=some z
 | .slice t x lo hi mx=>kJ P t (e x) (lo.map e) (hi.map e) (mx.map e)=some z
 | .indexAddr t x i=>eG P t (e x) (e i)=some z
 | .index t x i=>oS P t (e x) (e i)=some z
 | .lookup t m k ok=>fI P h t (e m) (e k) ok=some z
 | .call {callee:=.builtin .len,args,argTypes}=>match argTypes.toList,args.toList.map e with
  | [t],[x]=>q7 P h t x=some z
  | _,_=>False
 | _=>False
def H0 (cf:CallF)(aE:List Nat)(e:Operand→AV)(h:AHeap)(o:Oper)(z:AV)(h':AHeap):Prop:=
 match o.op with
 | .store t a x=>bif o.dst.isSome then False else iH P h t (e a) (e x)=some h'
 | .alloc t=>bif BB aE o.dst then (ie P t).bind (fun z=>wz h (xW aE o.dst z.cells))=some (z,h') else False
 | .box _ x=>bif BB aE o.dst then wz h (e x).cells=some (z,h') else False
 | .buildSlice t n ps=>Da P aE h o t (gm P t n (ps.toList.map fun (i,x)=>(i,e x)))=some (z,h')
 | .makeMap _ none=>(AV.mp h.next,h.alloc (.map []))=(z,h')
 | .makeSlice t l c=>gp P h t (e l) (e c)=some (z,h')
 | .mapUpdate t m k x | .insert t m k x=>bif o.dst.isSome then False else ik P h t (e m) (e k) (e x)=some h'
 | .call {callee:=.builtin .append,args,argTypes}=>match argTypes.toList,args.toList.map e with
  | [t,t2],[x,y]=>dy P h t t2 x y=some (z,h')
  | _,_=>False
 | .call {callee:=.builtin .copy,args,argTypes}=>match argTypes.toList,args.toList.map e with
  | [t,t2],[x,y]=>pJ P h t t2 x y=some (z,h')
  | _,_=>False
 | .call {callee:=.value f,args,..}=>bif JI aE o.dst then (zB cf (e f) (args.toList.map e) h).bind (fun x=>iO 0 x.2 x.1)=some (z,h') else zB cf (e f) (args.toList.map e) h=some (z,h')
 | .call {callee:=.builtin .clear,args,argTypes}=>match argTypes.toList,args.toList.map e with
  | [t],[x]=>(kL P h t x).map (fun h=>(AV.tup [],h))=some (z,h')
  | _,_=>False
 | _=>False
end
abbrev FM:=List (Nat × AV × Option AHeap)
def qi (P:Program)(cf:CallF)(aE:List Nat)(ops:List Oper):RS→Nat→List Oper→FM→Option (List ly × RS × Prop)
 | s,_,[],[]=>some ([],s,True)
 | _,_,[],_::_=>none
 | s,i,o::os,zs=>
  (gE ops s.ρ o).bind fun w=>
   bif w then
    match zs with
    | []=>(ug P cf aE (ops.filterMap (·.dst)) s o).bind fun s1=>(qi P cf aE ops s1 (i+1) os []).map fun (l,r,p)=>({o,f:=bb aE (bI s.ρ) o,s,s':=s1}::l,r,p)
    | (j,z,oh)::tC=>
     bif UP i j then
      match oh with
      | none=>(qi P cf aE ops (s.set o.dst z) (i+1) os tC).map fun (l,r,p)=>({o,f:=bb aE (bI s.ρ) o,s,s':=s.set o.dst z}::l,r,HZ P (bI s.ρ) s.h o z∧p)
      | some h'=>(qi P cf aE ops (({s with h:=h'}:RS).set o.dst z) (i+1) os tC).map fun (l,r,p)=>({o,f:=bb aE (bI s.ρ) o,s,s':=({s with h:=h'}:RS).set o.dst z}::l,r,H0 P cf aE (bI s.ρ) s.h o z h'∧p)
     else (ug P cf aE (ops.filterMap (·.dst)) s o).bind fun s1=>(qi P cf aE ops s1 (i+1) os zs).map fun (l,r,p)=>({o,f:=bb aE (bI s.ρ) o,s,s':=s1}::l,r,p)
   else (qi P cf aE ops (s.set o.dst (.tup [])) (i+1) os zs).map fun (l,r,p)=>({o,f:={},s,s':=s.set o.dst (.tup [])}::l,r,p)
section
variable {P:Program}{cf:CallF}{aE:List Nat}
theorem Db {h:AHeap}{t:TypeId}{x z:AV}{bx:Nat→Option (List AV)}(hh:bl P h t x=some z):jl P bx h t x=some z:=by
 cases x<;>first | exact hh | (simp [bl,jl] at hh)
theorem FN {s:RS}{o:Oper}{z:AV}(h:HZ P (bI s.ρ) s.h o z)(ds:List Nat):ug P cf aE ds s o=some (s.set o.dst z):=by
 unfold HZ at h
 unfold ug xX
 dsimp only
 split at h
 ·rename_i ho; rw [ho]; simp only [h]
 ·rename_i ho; rw [ho]; simp only [h]
 ·rename_i ho; rw [ho]; simp only [Db h,Uk]
 ·rename_i ho; rw [ho]; simp only [h,Uk]
 ·rename_i ho; rw [ho]; simp only [h,Uk]
 ·rename_i ho; rw [ho]; simp only [h,Uk]
 ·rename_i ho; rw [ho]; simp only [h,Uk]
 ·rename_i ho; rw [ho]; simp only [h,Uk]
 ·rename_i ho; rw [ho]; simp only [h,Uk]
 ·rename_i ho; rw [ho]; simp only [h,Uk]
 ·rename_i ho
  rw [ho]
  split at h
  ·rename_i h1 h2
   simp only [h1,h2,fC,h,Uk]
  ·exact h.elim
 ·exact h.elim
theorem wA {s:RS}{o:Oper}{cs:List AV}{z:AV}{h':AHeap}(hn:BB aE o.dst=true)(h:wz s.h cs=some (z,h'))(ds:List Nat):gX s aE ds o cs=some (({s with h:=h'}:RS).set o.dst z):=by
 unfold wz at h
 split at h
 rotate_left
 ·cases h
 rename_i nH
 simp only [Uh,Um] at h
 obtain⟨rfl,rfl⟩:=h
 unfold gX
 rw [if_pos nH]
 unfold BB at hn
 split at hn
 ·rename_i d hd
  rw [hd]
  have:aE.contains d=false:=by simpa using hn
  simp only [this,Up,if_false]
 ·cases hn
theorem FO {s:RS}{o:Oper}{z:AV}{h':AHeap}(h:H0 P cf aE (bI s.ρ) s.h o z h')(ds:List Nat):ug P cf aE ds s o=some (({s with h:=h'}:RS).set o.dst z):=by
 unfold H0 at h
 unfold ug xX
 dsimp only
 split at h
 ·rename_i t a x ho
  rw [ho]
  cases hd:o.dst with
  | some d=>rw [hd] at h; exact h.elim
  | none=>
   rw [hd] at h
   simp only [Vw,cond_false] at h
   simp only [Vw,Up,if_false]
   unfold iH at h
   split at h
   ·rename_i id off he
    rw [he]
    simp only [Ud] at h ⊢
    obtain⟨ob,hob,h⟩:=h
    refine⟨ob,hob,?_⟩
    split at h
    ·rw [Ug] at h ⊢
     obtain⟨eS,hcs,rfl⟩:=h
     exact⟨eS,hcs,rfl⟩
    ·cases h
   ·cases h
 ·rename_i t ho
  rw [ho]
  cases hn:BB aE o.dst with
  | false=>rw [hn] at h; exact h.elim
  | true=>
   rw [hn] at h
   simp only [cond_true,Ud] at h
   obtain⟨z0,h1,h2⟩:=h
   simp only [h1,Ue]
   exact wA hn h2 ds
 ·rename_i t x ho
  rw [ho]
  cases hn:BB aE o.dst with
  | false=>rw [hn] at h; exact h.elim
  | true=>
   rw [hn] at h
   exact wA hn h ds
 ·rename_i t n ps ho
  rw [ho]
  unfold Da at h
  simp only [Ud,Ug] at h
  obtain⟨x,hx,⟨cs,k,q⟩,ht,he⟩:=h
  simp only [Um] at he
  obtain⟨rfl,rfl⟩:=he
  simp only [hx,Uk,oU,ht]
 ·rename_i ho
  rw [ho]
  simp only [Um] at h
  obtain⟨rfl,rfl⟩:=h
  rfl
 ·rename_i ho; rw [ho]; simp only [h,Uk]
 ·rename_i t m k x ho
  rw [ho]
  cases hd:o.dst with
  | some d=>rw [hd] at h; exact h.elim
  | none=>
   rw [hd] at h
   simp only [Vw,cond_false] at h
   simp only [Vw,Up,if_false,h,Uk]
   rfl
 ·rename_i t m k x ho
  rw [ho]
  cases hd:o.dst with
  | some d=>rw [hd] at h; exact h.elim
  | none=>
   rw [hd] at h
   simp only [Vw,cond_false] at h
   simp only [Vw,Up,if_false,h,Uk]
   rfl
 ·rename_i ho
  rw [ho]
  split at h
  ·rename_i h1 h2
   simp only [h1,h2,fC,h,Uk]
  ·exact h.elim
 ·rename_i ho
  rw [ho]
  split at h
  ·rename_i h1 h2
   simp only [h1,h2,fC,h,Uk]
  ·exact h.elim
 ·rename_i f args zu ho
  rw [ho]
  have key:∀{x:AV × AHeap},zB cf (bI s.ρ f) (args.toList.map (bI s.ρ)) s.h=some x→uf aE o.dst x=some (z,h')→
    (match bI s.ρ f with
     | .fn f cap=>if (args.toList.map (bI s.ρ)).all AV.kg then ((cf f (args.toList.map (bI s.ρ)++cap) s.h).bind (uf aE o.dst)).map fun (r,h)=>({s with h}:RS).set o.dst r else none
     | _=>none)=some (({s with h:=h'}:RS).set o.dst z):=by
   intro x hx hm
   unfold zB at hx
   split at hx
   ·rename_i g cap he
    try rw [he]
    try dsimp only
    split at hx
    ·rename_i nH
     simp only [nH,if_true,hx,Ue,hm,Uk]
    ·cases hx
   ·cases hx
  cases hm:JI aE o.dst with
  | false=>
   rw [hm,cond_false] at h
   exact key h (by unfold uf; rw [hm]; rfl)
  | true=>
   rw [hm,cond_true,Ud] at h
   obtain⟨x,h1,h2⟩:=h
   exact key h1 (by unfold uf; rw [hm,cond_true]; exact h2)
 ·rename_i ho
  rw [ho]
  split at h
  ·rename_i h1 h2
   rw [Ug] at h
   obtain⟨g,hg,he⟩:=h
   simp only [Um] at he
   obtain⟨rfl,rfl⟩:=he
   simp only [h1,h2,fC,hg,Uk]
  ·exact h.elim
 ·exact h.elim
theorem uN {ops:List Oper}:∀{l:List Oper} {s r:RS} {i:Nat} {zs:FM} {es:List ly} {p:Prop},qi P cf aE ops s i l zs=some (es,r,p)→p→nN P cf aE ops s l=some (es,r)∧p9 P cf aE ops s l=some r
 | [],s,r,i,[],es,p,h,_=>by
  simp only [qi,Uh,Um] at h
  obtain⟨rfl,rfl,rfl⟩:=h
  exact⟨rfl,rfl⟩
 | [],s,r,i,_::_,es,p,h,_=>by simp [qi] at h
 | o::os,s,r,i,zs,es,p,h,hp=>by
  simp only [qi,Ud] at h
  obtain⟨w,hw,h⟩:=h
  have fin:∀(s1:RS) (l:List ly) (tC:FM) (q:Prop),(if w then ug P cf aE (ops.filterMap (·.dst)) s o else some (s.set o.dst (.tup [])))=some s1→qi P cf aE ops s1 (i+1) os tC=some (l,r,q)→q→
    nN P cf aE ops s (o::os)=some ({o,f:=if w then bb aE (bI s.ρ) o else {},s,s':=s1}::l,r)∧p9 P cf aE ops s (o::os)=some r:=by
   intro s1 l tC q h1 h2 hq
   obtain⟨h3,h4⟩:=uN h2 hq
   refine⟨?_,?_⟩
   ·simp only [nN,hw,Ue,h1,h3,Uk]
   ·simp only [p9,lK,hw,Ue,h1,h4]
  cases w with
  | false=>
   simp only [cond_false,Ug] at h
   obtain⟨⟨l,r',q⟩,h2,he⟩:=h
   simp only [Um] at he
   obtain⟨rfl,rfl,rfl⟩:=he
   simpa using fin _ l zs q (by simp) h2 hp
  | true=>
   simp only [cond_true] at h
   split at h
   ·simp only [Ud,Ug] at h
    obtain⟨s1,h1,⟨l,r',q⟩,h2,he⟩:=h
    simp only [Um] at he
    obtain⟨rfl,rfl,rfl⟩:=he
    simpa using fin _ l [] q (by simpa using h1) h2 hp
   ·rename_i j z oh tC
    cases hj:UP i j with
    | false=>
     rw [hj] at h
     simp only [cond_false,Ud,Ug] at h
     obtain⟨s1,h1,⟨l,r',q⟩,h2,he⟩:=h
     simp only [Um] at he
     obtain⟨rfl,rfl,rfl⟩:=he
     simpa using fin _ l _ q (by simpa using h1) h2 hp
    | true=>
     rw [hj] at h
     simp only [cond_true] at h
     split at h
     ·simp only [Ug] at h
      obtain⟨⟨l,r',q⟩,h2,he⟩:=h
      simp only [Um] at he
      obtain⟨rfl,rfl,rfl⟩:=he
      simpa using fin _ l _ q (by simpa using FN hp.1 _) h2 hp.2
     ·simp only [Ug] at h
      obtain⟨⟨l,r',q⟩,h2,he⟩:=h
      simp only [Um] at he
      obtain⟨rfl,rfl,rfl⟩:=he
      simpa using fin _ l _ q (by simpa using FO hp.1 _) h2 hp.2
end
def qm (s:RS):List (Nat × Option Nat × Nat)→List (AV × AHeap)→Option (RS × Prop)
 | [],_=>some (s,True)
 | (t,i,k)::ps,zs=>
  match i with
  | none=>
   match k,s.ρ t,zs with
   | 0,.rs id off n z,(y,h')::tC=>(qm {s with h:=h',ρ:=fun u=>bif UP u t then y else s.ρ u} ps tC).map fun (r,p)=>(r,iO 0 s.h (.rs id off n z)=some (y,h')∧p)
   | k,x,zs=>(iO k s.h x).bind fun (y,h')=>qm {s with h:=h',ρ:=fun u=>bif UP u t then y else s.ρ u} ps zs
  | some i=>
   match s.bx t with
   | some cs=>(cs[i]?).bind fun x=>
    match k,x,zs with
    | 0,.rs id off n z,(y,h')::tC=>(qm {s with h:=h',bx:=fun u=>bif UP u t then some (cs.set i y) else s.bx u} ps tC).map fun (r,p)=>(r,iO 0 s.h (.rs id off n z)=some (y,h')∧p)
    | k,x,zs=>(iO k s.h x).bind fun (y,h')=>qm {s with h:=h',bx:=fun u=>bif UP u t then some (cs.set i y) else s.bx u} ps zs
   | none=>none
theorem qR:∀{ps:List (Nat × Option Nat × Nat)} {s r:RS} {zs:List (AV × AHeap)} {p:Prop},qm s ps zs=some (r,p)→p→ki s ps=some r
 | [],s,r,zs,p,h,_=>by
  simp only [qm,Uh,Um] at h
  obtain⟨rfl,rfl⟩:=h
  rfl
 | (t,i,k)::ps,s,r,zs,p,h,hp=>by
  cases i with
  | none=>
   have fin:∀(y:AV) (h':AHeap) (tC:List (AV × AHeap)) (q:Prop),iO k s.h (s.ρ t)=some (y,h')→qm {s with h:=h',ρ:=fun u=>bif UP u t then y else s.ρ u} ps tC=some (r,q)→q→ki s ((t,none,k)::ps)=some r:=by
    intro y h' tC q h1 h2 hq
    simp only [ki,uj,h1,Uk,Ue]
    exact qR h2 hq
   simp only [qm] at h
   split at h
   ·rename_i id off n z y h' tC hx
    rw [Ug] at h
    obtain⟨⟨r',q⟩,h2,he⟩:=h
    simp only [Um] at he
    obtain⟨rfl,rfl⟩:=he
    exact fin y h' tC q (by rw [hx]; exact hp.1) h2 hp.2
   ·rw [Ud] at h
    obtain⟨⟨y,h'⟩,h1,h2⟩:=h
    exact fin y h' _ p h1 h2 hp
  | some i=>
   simp only [qm] at h
   split at h
   rotate_left
   ·cases h
   rename_i cs hcs
   rw [Ud] at h
   obtain⟨x,hx,h⟩:=h
   have fin:∀(y:AV) (h':AHeap) (tC:List (AV × AHeap)) (q:Prop),iO k s.h x=some (y,h')→qm {s with h:=h',bx:=fun u=>bif UP u t then some (cs.set i y) else s.bx u} ps tC=some (r,q)→q→ki s ((t,some i,k)::ps)=some r:=by
    intro y h' tC q h1 h2 hq
    simp only [ki,uj,hcs,hx,Ue,h1,Uk]
    exact qR h2 hq
   split at h
   ·rename_i id off n z y h' tC
    rw [Ug] at h
    obtain⟨⟨r',q⟩,h2,he⟩:=h
    simp only [Um] at he
    obtain⟨rfl,rfl⟩:=he
    exact fin y h' tC q hp.1 h2 hp.2
   ·rw [Ud] at h
    obtain⟨⟨y,h'⟩,h1,h2⟩:=h
    exact fin y h' _ p h1 h2 hp
def ly.qS (x y:ly):Bool:=
 (match x.f.wb with
  | some k=>!y.f.rb.contains k&&y.f.wb != some k
  | none=>true) &&
 (!x.f.wh||(!y.f.wh&&y.f.rh.isEmpty))
def Dc (ops:List Oper)(arr:Array Oper)(s:RS)(es:List ly):Bool:=
 let ms:=iX [] ops
 mz arr ms &&
  (let is:=es.zipIdx
   let ui:=is.filter fun (x,_)=>!x.f.quiet
   ui.all (fun (x,i)=>qN ms (ops.filterMap (·.dst)) s is x i&&ui.all fun (y,j)=>Vz j i||(ms.getD j 0).testBit i||(x.qS y&&y.qS x)))
theorem rO {x y:ly}(h:x.qS y=true):x.iW y=true:=by
 unfold ly.qS at h
 unfold ly.iW
 simp only [Ui,UY] at h ⊢
 refine⟨h.1,h.2.imp id fun ⟨h1,h2⟩=>⟨h1,?_⟩⟩
 rw [List.isEmpty_iff] at h2
 rw [h2]; rfl
theorem FP {P:Program}{cf:CallF}{aE:List Nat}{ops:Array Oper}{s r:RS}{es:List ly}(h:Dc ops.toList ops s es=true)(hr:nN P cf aE ops.toList s ops.toList=some (es,r)):jm P cf aE ops s=some r:=by
 unfold Dc at h
 simp only [Ui] at h
 obtain⟨h1,h2⟩:=h
 unfold jm
 simp only [h1,if_true,hr,Ue]
 rw [if_pos]
 rw [Uy] at h2 ⊢
 intro x hx
 have:=h2 x hx
 simp only [Ui] at this ⊢
 refine⟨this.1,?_⟩
 have h3:=this.2
 rw [Uy] at h3 ⊢
 intro y hy
 have:=h3 y hy
 simp only [UY,Ui] at this ⊢
 exact this.imp id fun h=>⟨rO h.1,rO h.2⟩
def mY (P:Program)(cf:CallF)(A:bY)(c:Code)(fs:List (AV × AHeap))(zs:FM)(st:St):Option (Prop × St):=
 match c with
 | .region id ops draw=>(qm (st.open A) (fJ id A.Fp) fs).bind fun (s0,p0)=>(qi P cf A.aE ops.toList s0 0 ops.toList zs).bind fun (es,r,p)=>
   bif draw && !(Dc ops.toList ops s0 es) then none else (ki r (fJ id A.xY)).map fun r2=>(p0∧p,r2.lL A id)
 | _=>none
theorem Dd {P:Program}{cf:CallF}{A:bY}{m:Nat}{c:Code}{fs:List (AV × AHeap)}{zs:FM}{st ja:St}{p:Prop}(h:mY P cf A c fs zs st=some (p,ja))(hp:p):bH P cf A m c st=some (.norm,ja):=by
 unfold mY at h
 split at h
 rotate_left
 ·cases h
 rename_i id ops draw
 simp only [Ud] at h
 obtain⟨⟨s0,p0⟩,h0,⟨es,r,q⟩,h1,h⟩:=h
 have hd:∃r2,(draw=true→Dc ops.toList ops s0 es=true)∧ki r (fJ id A.xY)=some r2∧p=(p0∧q)∧ja=r2.lL A id:=by
  cases hc:(draw && !(Dc ops.toList ops s0 es)) with
  | true=>simp only [hc,cond_true] at h; cases h
  | false=>
   simp only [hc,cond_false,Ug,Um] at h
   obtain⟨r2,h2,h3,h4⟩:=h
   refine⟨r2,fun Br=>?_,h2,h3.symm,h4.symm⟩
   simpa [Br] using hc
 obtain⟨r2,Br,h2,rfl,rfl⟩:=hd
 obtain⟨g1,g2⟩:=uN h1 hp.2
 have g0:=qR h0 hp.1
 simp only [bH,g0,Ue]
 cases draw with
 | false=>simp only [Up,if_false,g2,Ue,h2,Uk]
 | true=>simp only [if_true,FP (Br rfl) g1,Ue,h2,Uk]
end Go.R
namespace Go.R
open Go
def dn (P:Program)(cf:CallF)(A:bY)(m:Nat)(c:Code)(s:St)(Q:Ex→St→Prop):Prop:=∃e s',bH P cf A m c s=some (e,s')∧Q e s'
def H2 (R:St→Prop)(Q:Ex→St→Prop):Ex→St→Prop
 | .norm,s=>R s
 | .exit i,s=>Q (.exit i) s
 | .ret,s=>Q .ret s
def MZ (id:Nat)(Q:Ex→St→Prop):Ex→St→Prop
 | .norm,s=>Q .norm s
 | .exit i,s=>bif UP i id then Q .norm s else Q (.exit i) s
 | .ret,s=>Q .ret s
section
variable {P:Program}{cf:CallF}{A:bY}{m:Nat}{s:St}{Q:Ex→St→Prop}
theorem wB {a b:Code}(h:dn P cf A m a s (H2 (fun s'=>dn P cf A m b s' Q) Q)):dn P cf A m (.seq a b) s Q:=by
 obtain⟨e,s',h1,h2⟩:=h
 cases e with
 | norm=>
  obtain⟨e2,s2,h3,h4⟩:=h2
  exact⟨e2,s2,by simp only [bH,h1,Ue,h3],h4⟩
 | exit i=>exact⟨_,s',by simp only [bH,h1,Ue],h2⟩
 | ret=>exact⟨_,s',by simp only [bH,h1,Ue],h2⟩
theorem yt {id:Nat}{a:Code}(h:dn P cf A m a s (MZ id Q)):dn P cf A m (.block id a) s Q:=by
 obtain⟨e,s',h1,h2⟩:=h
 cases e with
 | norm=>exact⟨_,s',by simp only [bH,h1,Uk],h2⟩
 | exit i=>
  simp only [MZ,beq_nat] at h2
  by_cases hi:i=id
  ·simp only [hi,decide_true,cond_true] at h2
   exact⟨_,s',by simp only [bH,h1,Uk,hi,if_true],h2⟩
  ·simp only [hi,decide_false,cond_false] at h2
   exact⟨_,s',by simp only [bH,h1,Uk,hi,if_false],h2⟩
 | ret=>exact⟨_,s',by simp only [bH,h1,Uk],h2⟩
theorem De {c:Code}{fs:List (AV × AHeap)}{zs:FM}{ja:St}{p:Prop}(h:mY P cf A c fs zs s=some (p,ja))(hp:p)(hQ:Q .norm ja):dn P cf A m c s Q:=
 ⟨_,_,Dd h hp,hQ⟩
theorem BC (h:Q .norm s):dn P cf A m .skip s Q:=⟨_,_,rfl,h⟩
theorem Df (h:Q .ret s):dn P cf A m .ret s Q:=⟨_,_,rfl,h⟩
theorem BD {i:Nat}(h:Q (.exit i) s):dn P cf A m (.exit i) s Q:=⟨_,_,rfl,h⟩
theorem pg {k:Operand}{x y:Code}(b:Bool)(hk:bI (s.open A).ρ k = .bool b)(ht:b=true→dn P cf A m x s Q)(hf:b=false→dn P cf A m y s Q):dn P cf A m (.cond k x y) s Q:=by
 cases b with
 | true=>
  obtain⟨e,s',h1,h2⟩:=ht rfl
  exact⟨e,s',by simp only [bH,hk,q9,Ue,if_true,h1],h2⟩
 | false=>
  obtain⟨e,s',h1,h2⟩:=hf rfl
  exact⟨e,s',by simp only [bH,hk,q9,Ue,Up,if_false,h1],h2⟩
def Dg {S O:Type}(l:Nat→S→Option O)(Rel:S→St→Prop)(QO:O→Ex→St→Prop)(k:Nat)(out:O):Ex→St→Prop
 | .norm,s=>∃σ,Rel σ s∧l k σ=some out
 | .exit i,s=>QO out (.exit i) s
 | .ret,s=>QO out .ret s
theorem rP {S O:Type}{l:Nat→S→Option O}{Rel:S→St→Prop}{QO:O→Ex→St→Prop}{body:Code}(h0:∀σ,l 0 σ=none)
  (step:∀k σ s out,Rel σ s→l (k+1) σ=some out→dn P cf A m body s (Dg l Rel QO k out)):∀(n:Nat) (σ:S) (s:St) (out:O),Rel σ s→l n σ=some out→∃e s',kj (bH P cf A m body) n s=some (e,s')∧e≠.norm∧QO out e s'
 | 0,σ,s,out,_,h=>by rw [h0] at h; cases h
 | n+1,σ,s,out,hr,h=>by
  obtain⟨e,s',h1,h2⟩:=step n σ s out hr h
  cases e with
  | norm=>
   obtain⟨σ',h3,h4⟩:=h2
   obtain⟨e',RN,h5,h6⟩:=rP h0 step n σ' s' out h3 h4
   exact⟨e',RN,by simp only [kj,h1,Ue,h5],h6⟩
  | exit i=>exact⟨_,s',by simp only [kj,h1,Ue],by simp,h2⟩
  | ret=>exact⟨_,s',by simp only [kj,h1,Ue],by simp,h2⟩
theorem BE {S O:Type}(l:Nat→S→Option O)(Rel:S→St→Prop)(QO:O→Ex→St→Prop){body:Code}(h0:∀σ,l 0 σ=none)
  (step:∀k σ s out,Rel σ s→l (k+1) σ=some out→dn P cf A m body s (Dg l Rel QO k out)) {σ:S} {out:O} (hr:Rel σ s) (h:l m σ=some out) (hQ:∀e s',e≠.norm→QO out e s'→Q e s'):dn P cf A m (.loop body) s Q:=by
 obtain⟨e,s',h1,h2,h3⟩:=rP h0 step m σ s out hr h
 exact⟨e,s',by simp only [bH,h1],hQ e s' h2 h3⟩
theorem uO {aV:FuncId→bY}{f:FuncId}{fn:Func}{args:List AV}{h:AHeap}{R:AV→AHeap→Prop}(hf:P.funcs[f]? = some fn)(hb:fn.body=some (b8 fn))(hn:Vz args.length fn.ntmps=true)
  (he:dn P cf (aV f) m (b8 fn) ⟨lM (aV f).keep args,(aV f).aE.map fun _=>none,h⟩ (fun e s=>(e = .ret∨e = .norm)∧∃r,aM P (s.open (aV f)) fn.results.toList=some r∧R r s.h)) :
  ∃r h',a6 P aV cf m f args h=some (r,h')∧R r h':=by
 obtain⟨e,s,h1,h2,r,h3,h4⟩:=he
 refine⟨r,s.h,?_,h4⟩
 unfold a6
 rw [hf,Ue,hb,Ue,if_pos (Nat.le_of_ble_eq_true hn),h1,Ue]
 rcases h2 with rfl | rfl<;>simp only [h3,Uk]
end
end Go.R
namespace Go.R
open Go
structure bJ (α:Type) where
 n:Nat
 f:α→List AV
 len:∀a,(f a).length=n
 pos:n≠0
 small:n≤1024:=by decide
 flat:Bool:=true
 pure:∀a,flat=true→cy (f a)=true∧dm (f a)=f a
 canon:∀a,(f a).map jk=f a
section
variable {α:Type}(E:bJ α)
def bJ.l (l:List α):List AV:=l.flatMap E.f
def bJ.fz (l:List α):AV:=.fz (E.l l) l.length false
variable {E}
theorem bJ.eA {a:α}{l:List α}:E.l (a::l)=E.f a++E.l l:=rfl
theorem bJ.G9:E.l []=[]:=rfl
theorem bJ.gQ {a b:List α}:E.l (a++b)=E.l a++E.l b:=by simp [bJ.l]
theorem bJ.bL:∀{l:List α},(E.l l).length=l.length*E.n
 | []=>by simp [bJ.l]
 | a::l=>by rw [bJ.eA,Uo,E.len,bJ.bL,Ut,Vo,Nat.one_mul,VH]
theorem bJ.mF {l:List α}(h:l.length≤1099511627776):(E.l l).length≤1125899906842624:=by
 rw [bJ.bL]
 exact U1 (Nat.mul_le_mul h E.small) (by decide)
theorem bJ.uP:∀{l:List α} {i:Nat},(E.l l).drop (i*E.n)=E.l (l.drop i)
 | l,0=>by simp
 | [],i+1=>by simp [bJ.l]
 | a::l,i+1=>by
  rw [List.drop_succ_cons,←bJ.uP,bJ.eA,Vo,Nat.one_mul,List.drop_append,List.drop_of_length_le (by rw [E.len]; omega),UR,E.len,Nat.add_sub_cancel]
theorem bJ.Dh:∀{l:List α} {i:Nat},(E.l l).take (i*E.n)=E.l (l.take i)
 | l,0=>by simp [bJ.l]
 | [],i+1=>by simp [bJ.l]
 | a::l,i+1=>by
  rw [bJ.eA,List.take_succ_cons,bJ.eA,Vo,Nat.one_mul,VH,List.take_append]
  rw [E.len,UT (by rw [E.len]; omega),Vt,bJ.Dh]
theorem bJ.Ha {l:List α}{i:Nat}{a:α}(h:l[i]? = some a){off:Nat}(ho:off<E.n):(E.l l)[i*E.n+off]? = (E.f a)[off]?:=by
 rw [←List.getElem?_drop,bJ.uP,Us (Ul.1 h).1,(Ul.1 h).2,bJ.eA,Uu (by rw [E.len]; exact ho)]
theorem bJ.Di {l:List α}{i:Nat}{a:α}(h:l[i]? = some a):((E.l l).drop (i*E.n)).take E.n=E.f a:=by
 rw [bJ.uP,Us (Ul.1 h).1,(Ul.1 h).2,bJ.eA,UO (by rw [E.len]; exact Uj _)]
 rw [UT (by rw [E.len]; exact Uj _)]
theorem bJ.yu {l:List α}{i:Nat}{a:α}(h:l[i]? = some a):i*E.n+E.n≤(E.l l).length:=by
 rw [bJ.bL]
 have:=(Ul.1 h).1
 calc i*E.n+E.n=(i+1)*E.n:=by rw [Vo,Nat.one_mul]
  _≤_:=U4 _ this
theorem og:∀{a b:List AV},cy (a++b)=(cy a&&cy b)
 | [],b=>by simp [cy]
 | x::a,b=>by simp [cy,og,Bool.and_assoc]
theorem om:∀{a b:List AV},dm (a++b)=dm a++dm b
 | [],b=>rfl
 | x::a,b=>by simp [dm,om]
theorem bJ.nu (hp:E.flat=true):∀{l:List α},cy (E.l l)=true∧dm (E.l l)=E.l l
 | []=>⟨rfl,rfl⟩
 | a::l=>by
  obtain⟨h1,h2⟩:=E.pure a hp
  obtain⟨h3,h4⟩:=bJ.nu hp (l:=l)
  rw [bJ.eA,og,om,h1,h2,h3,h4]
  exact⟨rfl,rfl⟩
theorem bJ.zC:∀{l:List α},(E.l l).map jk=E.l l
 | []=>rfl
 | a::l=>by rw [bJ.eA,UK,E.canon,bJ.zC]
theorem bJ.bw {l:List α}(hp:E.flat=true:=by rfl):(E.fz l).dT=true∧(E.fz l).iV=E.fz l:=by
 obtain⟨h1,h2⟩:=bJ.nu (E:=E) hp (l:=l)
 exact⟨h1,by show AV.fz (dm (E.l l)) l.length false=_; rw [h2]; rfl⟩
theorem gR:∀(cs vs pre H3:List AV),cs.length=vs.length→db (pre++cs++H3) pre.length vs=pre++vs++H3
 | [],[],pre,H3,_=>by simp [db]
 | c::cs,v::vs,pre,H3,h=>by
  have:=gR cs vs (pre++[v]) H3 (by simpa using h)
  simp only [Uo,Ut,UG,UC] at this
  rw [db]
  have h2:(pre++c::cs++H3).set pre.length v=pre++[v]++cs++H3:=by
   rw [Uv,List.set_append_right _ _ (Uj _),VK]
   simp
  rw [h2,this]
  simp
 | [],_::_,_,_,h=>by simp at h
 | _::_,[],_,_,h=>by simp at h
theorem bJ.Km {l:List α}{i:Nat}{a b:α}(h:l[i]? = some a)(rest:List AV):db (E.l l++rest) (i*E.n) (E.f b)=E.l (l.set i b)++rest:=by
 have hi:=(Ul.1 h).1
 have hl:l=l.take i++a::l.drop (i+1):=by
  conv=>lhs; rw [←Vp i l,Us hi]
  rw [(Ul.1 h).2]
 have hs:l.set i b=l.take i++b::l.drop (i+1):=List.set_eq_take_append_cons_drop .. |>.trans (by rw [if_pos hi])
 have e1:E.l l=E.l (l.take i)++E.f a++E.l (l.drop (i+1)):=by
  conv=>lhs; rw [hl]
  rw [bJ.gQ,bJ.eA,Uv]
 have e2:(E.l (l.take i)).length=i*E.n:=by rw [bJ.bL,Vi,VA (Nat.le_of_lt hi)]
 rw [hs,bJ.gQ,bJ.eA,e1,←e2]
 have:=gR (E.f a) (E.f b) (E.l (l.take i)) (E.l (l.drop (i+1))++rest) (by rw [E.len,E.len])
 simp only [Uv] at this ⊢
 exact this
theorem bJ.H4 {l:List α}{i:Nat}{a b:α}{off:Nat}{v:AV}(h:l[i]? = some a)(ho:off<E.n)(hb:(E.f a).set off v=E.f b)(rest:List AV):(E.l l++rest).set (i*E.n+off) v=E.l (l.set i b)++rest:=by
 have hi:=(Ul.1 h).1
 have hl:l=l.take i++a::l.drop (i+1):=by
  conv=>lhs; rw [←Vp i l,Us hi]
  rw [(Ul.1 h).2]
 have hs:l.set i b=l.take i++b::l.drop (i+1):=List.set_eq_take_append_cons_drop .. |>.trans (by rw [if_pos hi])
 have e1:E.l l=E.l (l.take i)++(E.f a++E.l (l.drop (i+1))):=by
  conv=>lhs; rw [hl]
  rw [bJ.gQ,bJ.eA]
 have e2:(E.l (l.take i)).length=i*E.n:=by rw [bJ.bL,Vi,VA (Nat.le_of_lt hi)]
 rw [hs,bJ.gQ,bJ.eA,e1,←hb,←e2]
 simp only [Uv]
 rw [List.set_append_right _ _ (by omega),List.set_append_left _ _ (by rw [E.len]; omega)]
 congr 2
 simp
end
def ix {α:Type}(l:List α)(i:Int):Option α:=if 0≤i then l[i.toNat]? else none
theorem gG {α:Type}{l:List α}{i:Int}{a:α}(h:ix l i=some a):0≤i∧i<l.length∧l[i.toNat]? = some a:=by
 unfold ix at h
 split at h
 ·rename_i h0
  have:=(Ul.1 h).1
  exact⟨h0,by omega,h⟩
 ·cases h
def Hb {α:Type}(l:List α)(lo hi:Int):Option (List α):=if 0≤lo∧lo≤hi∧hi≤l.length then some ((l.drop lo.toNat).take (hi.toNat - lo.toNat)) else none
theorem wC {α:Type}{l r:List α}{lo hi:Int}(h:Hb l lo hi=some r):0≤lo∧lo≤hi∧hi≤l.length∧r=(l.drop lo.toNat).take (hi.toNat - lo.toNat):=by
 unfold Hb at h
 split at h
 ·rename_i h0; cases h; exact⟨h0.1,h0.2.1,h0.2.2,rfl⟩
 ·cases h
def bt (s:ByteArray)(i:Int):Option Int:=if 0≤i then (s.data.toList[i.toNat]?).map fun b=>(b.toNat:Int) else none
inductive Ct where
 | sl (n sz:Nat) (cs:List AV)
 | ob (cs:List AV)
 | mp (es:List (AV × AV))
 | row (e:TypeId) (cs:List AV)
def BF (h:AHeap)(i:Nat):Ct→Prop
 | .sl n sz cs=>(cs.length=n*sz∧cs.length≤1125899906842624)∧((i=0∧n=0)∨(i≠0∧∃rest,h.get i=some (.cells (cs++rest))))
 | .ob cs=>i≠0∧h.get i=some (.cells cs)
 | .mp es=>i≠0∧h.get i=some (.map es)
 | .row e cs=>i≠0∧h.get i=some (.row e cs)
abbrev Mem:=List (Nat × Ct)
structure Has (h:AHeap)(K:Mem):Prop where
 at_:∀(j i:Nat) (c:Ct),K[j]? = some (i,c)→BF h i c∧i<h.next
 nd:∀(j j' i:Nat) (c c':Ct),K[j]? = some (i,c)→K[j']? = some (i,c')→i≠0→j=j'
 pos:0<h.next
theorem nv {h h':AHeap}{i:Nat}{c:Ct}(hg:i≠0→h'.get i=h.get i)(h1:BF h i c):BF h' i c:=by
 cases c with
 | sl n sz cs=>
  obtain⟨h2,h3⟩:=h1
  refine⟨h2,h3.imp id fun ⟨h4,r,h5⟩=>⟨h4,r,(hg h4).trans h5⟩⟩
 | ob cs=>exact⟨h1.1,(hg h1.1).trans h1.2⟩
 | mp es=>exact⟨h1.1,(hg h1.1).trans h1.2⟩
 | row e cs=>exact⟨h1.1,(hg h1.1).trans h1.2⟩
theorem cV (h:AHeap)(id k:Nat)(o:AObj):(h.put id o).get k=if k=id then some o else h.get k:=by
 simp only [AHeap.put,beq_nat]
 by_cases hk:k=id<;>simp [hk]
theorem wD (h:AHeap)(id k:Nat):(h.kill id).get k=if k=id then none else h.get k:=by
 simp only [AHeap.kill,beq_nat]
 by_cases hk:k=id<;>simp [hk]
theorem Has.Dj {h h':AHeap}{K:Mem}(o:Has h K){j i:Nat}{c:Ct}(hj:K[j]? = some (i,c)){i':Nat}{c':Ct}
  (hg:∀k,k≠i→k<h.next→h'.get k=h.get k) (hn:h.next≤h'.next) (hi:i'=i∨i'=0∨h.next≤i') (hlt:i'<h'.next) (hc:BF h' i' c'):Has h' (K.set j (i',c')):=by
 refine⟨fun q k d hq=>?_,fun q q' k d d' hq uw hk=>?_,UD o.pos hn⟩
 ·rw [VF] at hq
  by_cases h1:j=q
  ·subst h1
   rw [if_pos rfl] at hq
   split at hq
   ·cases hq; exact⟨hc,hlt⟩
   ·cases hq
  ·rw [if_neg h1] at hq
   obtain⟨g1,g2⟩:=o.at_ q k d hq
   refine⟨nv (fun hk=>hg k (fun he=>?_) g2) g1,UD g2 hn⟩
   subst he
   exact h1 (o.nd j q k c d hj hq hk)
 ·rw [VF] at hq uw
  have old:∀(q:Nat) (d:Ct),j≠q→K[q]? = some (k,d)→k≠i':=by
   intro x y hne hx he
   rcases hi with h1 | h1 | h1
   ·exact hne (o.nd j x k c y (by rw [he,h1]; exact hj) hx hk)
   ·exact hk (he.trans h1)
   ·have:=(o.at_ x k y hx).2; omega
  by_cases h1:j=q<;>by_cases h2:j=q'
  ·rw [←h1,h2]
  ·subst h1
   rw [if_pos rfl] at hq
   rw [if_neg h2] at uw
   split at hq
   ·cases hq; exact absurd rfl (old q' d' h2 uw)
   ·cases hq
  ·subst h2
   rw [if_pos rfl] at uw
   rw [if_neg h1] at hq
   split at uw
   ·cases uw; exact absurd rfl (old q d h1 hq)
   ·cases uw
  ·rw [if_neg h1] at hq; rw [if_neg h2] at uw
   exact o.nd q q' k d d' hq uw hk
theorem Has.new {h h':AHeap}{K:Mem}(o:Has h K){i:Nat}{c:Ct}(hg:∀k,k<h.next→h'.get k=h.get k)(hn:h.next≤h'.next)(hi:i=0∨h.next≤i)(hlt:i<h'.next)(hc:BF h' i c):Has h' ((i,c)::K):=by
 refine⟨fun q k d hq=>?_,fun q q' k d d' hq uw hk=>?_,UD o.pos hn⟩
 ·cases q with
  | zero=>simp only [UW,Uh,Um] at hq; obtain⟨rfl,rfl⟩:=hq; exact⟨hc,hlt⟩
  | succ q=>
   simp only [Vk] at hq
   obtain⟨g1,g2⟩:=o.at_ q k d hq
   exact⟨nv (fun _=>hg k g2) g1,UD g2 hn⟩
 ·have old:∀(q:Nat) (d:Ct),K[q]? = some (k,d)→k≠i:=by
   intro x y hx he
   rcases hi with h1 | h1
   ·exact hk (he.trans h1)
   ·have:=(o.at_ x k y hx).2; omega
  cases q with
  | zero=>
   simp only [UW,Uh,Um] at hq
   cases q' with
   | zero=>rfl
   | succ q'=>exact absurd hq.1.symm (old q' d' (by simpa using uw))
  | succ q=>
   cases q' with
   | zero=>
    simp only [UW,Uh,Um] at uw
    exact absurd uw.1.symm (old q d (by simpa using hq))
   | succ q'=>rw [o.nd q q' k d d' (by simpa using hq) (by simpa using uw) hk]
theorem Has.nil {h:AHeap}{K:Mem}(o:Has h K)(sz:Nat):Has h ((0,.sl 0 sz [])::K):=
 o.new (fun _ _=>rfl) (Uj _) (.inl rfl) o.pos ⟨⟨by simp,by simp⟩,.inl ⟨rfl,rfl⟩⟩
theorem Has.sub {h:AHeap}{K K':Mem}(o:Has h K)(f:Nat→Nat)(hf:∀j p,K'[j]? = some p→K[f j]? = some p)(hi:∀j j',f j=f j'→j=j'):Has h K':=
 ⟨fun j i c hj=>o.at_ (f j) i c (hf j _ hj),fun j j' i c c' hj xJ hk=>hi _ _ (o.nd (f j) (f j') i c c' (hf j _ hj) (hf j' _ xJ) hk),o.pos⟩
theorem Has.del {h:AHeap}{K:Mem}(o:Has h K)(q:Nat):Has h (K.eraseIdx q):=
 o.sub (fun j=>if j<q then j else j+1) (fun j p hj=>by
  rw [List.getElem?_eraseIdx] at hj
  split at hj
  ·rename_i h1; simpa [h1] using hj
  ·rename_i h1; simpa [h1] using hj) (fun j j' he=>by
   split at he<;>split at he<;>omega)
theorem Has.front {h:AHeap}{K:Mem}(o:Has h K)(q:Nat){p:Nat × Ct}(hq:K[q]? = some p):Has h (p::K.eraseIdx q):=
 o.sub (fun j=>match j with | 0=>q | j+1=>if j<q then j else j+1) (fun j p' hj=>by
  cases j with
  | zero=>simp only [UW,Uh] at hj; subst hj; exact hq
  | succ j=>
   simp only [Vk,List.getElem?_eraseIdx] at hj
   dsimp only
   split at hj
   ·rename_i h1; simpa [h1] using hj
   ·rename_i h1; simpa [h1] using hj) (fun j j' he=>by
   cases j with
   | zero=>cases j' with
    | zero=>rfl
    | succ j'=>dsimp only at he; split at he<;>omega
   | succ j=>cases j' with
    | zero=>dsimp only at he; split at he<;>omega
    | succ j'=>dsimp only at he; split at he<;>split at he<;>omega)
end Go.R
namespace Go.R
open Go
def wE (P:Program)(t:TypeId)(sz b:Nat):Bool:=
 match P.underlying t with
 | some (.slice e)=>match P.info? e with
  | some i=>UP i.size sz&&UP i.bytes b&&GR i
  | none=>false
 | _=>false
section
variable {P:Program}{t:TypeId}{sz b:Nat}
theorem jA (h:wE P t sz b=true):∃e i,P.underlying t=some (.slice e)∧P.info? e=some i∧i.size=sz∧i.bytes=b∧GR i=true∧eP P e=some sz:=by
 unfold wE at h
 split at h
 ·rename_i e he
  split at h
  ·rename_i i hi
   simp only [Ui] at h
   have h1:=Vf h.1.1
   exact⟨e,i,he,hi,h1,Vf h.1.2,h.2,by simp [eP,hi,h1]⟩
  ·cases h
 ·cases h
variable {α:Type}{E:bJ α}{h:AHeap}{K:Mem}{l:List α}{a v:α}{i q:Nat}{j:Int}{k:IntKind}{c:AV}{off:Nat}{tf:TypeId}
theorem fV (T:wE P t E.n b=true)(h:ix l j=some a):eG P t (E.fz l) (.int k j)=some (.fp (E.l l) (j.toNat*E.n)):=by
 obtain⟨e,inf,h1,h2,h3,h4,h5,h6⟩:=jA T
 obtain⟨g1,g2,g3⟩:=gG h
 have hle:=bJ.yu (E:=E) g3
 have hp:=E.pos
 simp only [eG,h1,Ue,h6,bJ.fz]
 rw [if_pos ⟨g1,g2,by omega⟩]
theorem Kn (h:l[j.toNat]? = some a):(E.l l).isEmpty=false:=by
 have hle:=bJ.yu (E:=E) h
 have hp:=E.pos
 cases hl:E.l l with
 | nil=>rw [hl] at hle; simp at hle; omega
 | cons _ _=>rfl
theorem rQ (hp:AHeap)(ha:fH P tf=some false)(h:ix l j=some a)(hc:(E.f a)[off]? = some c):bl P hp tf (.fp (E.l l) (j.toNat*E.n+off))=some c:=by
 obtain⟨g1,g2,g3⟩:=gG h
 have ho:off<E.n:=by rw [←E.len a]; exact (Ul.1 hc).1
 simp only [bl,jl,Kn g3,Up,if_false,iE,ha,Ue,bJ.Ha g3 ho,hc]
theorem iI (hp:AHeap)(ha:fH P tf=some false)(h:ix l j=some a)(hc:(E.f a)[0]? = some c):bl P hp tf (.fp (E.l l) (j.toNat*E.n))=some c:=rQ (off:=0) hp ha h hc
theorem lX (hp:AHeap)(ha:fH P tf=some true)(hs:eP P tf=some E.n)(h:ix l j=some a):bl P hp tf (.fp (E.l l) (j.toNat*E.n))=some (.agg (E.f a)):=by
 obtain⟨g1,g2,g3⟩:=gG h
 simp only [bl,jl,Kn g3,Up,if_false,iE,ha,Ue,if_true,hs]
 rw [if_pos (bJ.yu g3),bJ.Di g3]
theorem qT (o:Has h K)(hq:K[q]? = some (i,.sl l.length E.n (E.l l)))(hj:l[j.toNat]? = some a):i≠0∧∃rest,h.get i=some (.cells (E.l l++rest)):=by
 obtain⟨⟨_,h1⟩,_⟩:=o.at_ _ _ _ hq
 rcases h1 with⟨_,h1⟩| h1
 ·have:=(Ul.1 hj).1; omega
 ·exact h1
theorem H5 (T:wE P t sz b=true){n:Nat}(h0:0≤j)(h1:j<n):eG P t (.rs i 0 n sz) (.int k j)=some (.ptr i (0+j.toNat*sz)):=by
 obtain⟨e,inf,g1,g2,g3,g4,g5,g6⟩:=jA T
 simp only [eG,g1,Ue,g6]
 rw [if_pos ⟨trivial,h0,h1⟩]
theorem tD (o:Has h K)(hq:K[q]? = some (i,.sl l.length E.n (E.l l)))(ha:fH P tf=some false)(hj:ix l j=some a)(hc:(E.f a)[off]? = some c):bl P h tf (.ptr i (0+j.toNat*E.n+off))=some c:=by
 obtain⟨g1,g2,g3⟩:=gG hj
 obtain⟨h1,rest,h2⟩:=qT o hq g3
 have ho:off<E.n:=by rw [←E.len a]; exact (Ul.1 hc).1
 have hle:=bJ.yu (E:=E) g3
 simp only [bl,jl,h2,Ue,iE,ha,Up,if_false,UC]
 rw [Uu (by omega),bJ.Ha g3 ho,hc]
theorem BG (o:Has h K)(hq:K[q]? = some (i,.sl l.length E.n (E.l l)))(ha:fH P tf=some false)(hj:ix l j=some a)(hc:(E.f a)[0]? = some c):bl P h tf (.ptr i (0+j.toNat*E.n))=some c:=tD (off:=0) o hq ha hj hc
theorem BH (o:Has h K)(hq:K[q]? = some (i,.sl l.length E.n (E.l l)))(ha:fH P tf=some true)(hs:eP P tf=some E.n)(hj:ix l j=some a):bl P h tf (.ptr i (0+j.toNat*E.n))=some (.agg (E.f a)):=by
 obtain⟨g1,g2,g3⟩:=gG hj
 obtain⟨h1,rest,h2⟩:=qT o hq g3
 have hle:=bJ.yu (E:=E) g3
 simp only [bl,jl,h2,Ue,iE,ha,if_true,hs,UC]
 rw [if_pos (by rw [Uo]; omega),List.drop_append_of_le_length (by omega),UO (by rw [List.length_drop]; omega),bJ.Di g3]
theorem jd (o:Has h K){c':Ct}{ct:Ct}(hq:K[q]? = some (i,ct)){ob:AObj}(hc:BF (h.put i ob) i c'):Has (h.put i ob) (K.set q (i,c')):=
 o.Dj hq (fun k hk _=>by rw [cV,if_neg hk]) (Vn _) (.inl rfl) (Vr (o.at_ _ _ _ hq).2) hc
theorem Dk (o:Has h K)(hq:K[q]? = some (i,.sl l.length E.n (E.l l)))(hs:eP P tf=some E.n)(hj:ix l j=some a){x:AV}(hv:x.cells=E.f v)(nH:(E.f v).all AV.bQ=true) :
  ∃h',iH P h tf (.ptr i (0+j.toNat*E.n)) x=some h'∧Has h' (K.set q (i,.sl l.length E.n (E.l (l.set j.toNat v)))):=by
 obtain⟨g1,g2,g3⟩:=gG hj
 obtain⟨h1,rest,h2⟩:=qT o hq g3
 have hle:=bJ.yu (E:=E) g3
 refine⟨_,?_,jd o hq (ob:=.cells (E.l (l.set j.toNat v)++rest)) ⟨⟨by rw [bJ.bL,Uq],by rw [bJ.bL,Uq,←bJ.bL]; exact (o.at_ _ _ _ hq).1.1.2⟩,.inr ⟨h1,rest,by rw [cV,if_pos rfl]⟩⟩⟩
 simp only [iH,h2,Ue,gD,hs,hv,UC]
 rw [if_pos ⟨E.len v,nH,by rw [Uo]; omega⟩,Uk,bJ.Km g3]
theorem BI (o:Has h K)(hq:K[q]? = some (i,.sl l.length E.n (E.l l)))(hs:eP P tf=some 1)(hj:ix l j=some a){x:AV}(hx:x.cells=[x])(nH:x.bQ=true)(ho:off<E.n)(hb:(E.f a).set off x=E.f v) :
  ∃h',iH P h tf (.ptr i (0+j.toNat*E.n+off)) x=some h'∧Has h' (K.set q (i,.sl l.length E.n (E.l (l.set j.toNat v)))):=by
 obtain⟨g1,g2,g3⟩:=gG hj
 obtain⟨h1,rest,h2⟩:=qT o hq g3
 have hle:=bJ.yu (E:=E) g3
 refine⟨_,?_,jd o hq (ob:=.cells (E.l (l.set j.toNat v)++rest)) ⟨⟨by rw [bJ.bL,Uq],by rw [bJ.bL,Uq,←bJ.bL]; exact (o.at_ _ _ _ hq).1.1.2⟩,.inr ⟨h1,rest,by rw [cV,if_pos rfl]⟩⟩⟩
 simp only [iH,h2,Ue,gD,hs,hx,UC]
 rw [if_pos ⟨rfl,by simp [nH],by rw [Uo]; omega⟩,Uk]
 simp only [db]
 rw [bJ.H4 g3 ho hb]
def app (b:Nat){α:Type}(l l2:List α):Option (List α):=if (l.length+l2.length)*(b+1)≤1099511627776 then some (l++l2) else none
theorem wF {l l2 r:List α}(h:app b l l2=some r):(l.length+l2.length)*b≤gh∧l.length+l2.length≤gh∧r=l++l2:=by
 unfold app at h
 split at h
 ·rename_i h0
  cases h
  rw [Nat.mul_add,Nat.mul_one] at h0
  refine⟨by simp only [gh]; omega,by simp only [gh]; omega,rfl⟩
 ·cases h
theorem Dl {t2:TypeId}{l2 r:List α}{x:AV}(T:wE P t E.n b=true)(o:Has h K)(hq:K[q]? = some (i,.sl l.length E.n (E.l l)))(hx:fk h E.n x=some (E.l l2,l2.length))(gj:ig P t2 x=true)(hr:app b l l2=some r) :
  ∃i' h',dy P h t t2 (.rs i 0 l.length E.n) x=some (.rs i' 0 r.length E.n,h')∧Has h' (K.set q (i',.sl r.length E.n (E.l r))):=by
 obtain⟨e,inf,g1,g2,g3,g4,g5,g6⟩:=jA T
 obtain⟨r1,r2,rfl⟩:=wF hr
 obtain⟨⟨⟨hlen,qg⟩,ll⟩,hlt⟩:=o.at_ _ _ _ hq
 have nU:=E.pos
 have hb:inf.size=E.n:=g3
 have jw:¬(inf.size=0∨ig P t2 x=false∨GR inf=false):=by rw [gj,g5,hb]; simp [nU]
 subst g4
 by_cases h0:l2=[]
 ·subst h0
  refine⟨i,h,?_,?_⟩
  ·simp only [dy,g1,Ue,g2,hb,hx,gj,g5]
   rw [if_neg (by simp [nU])]
   simp only [UG,Nat.zero_mul,VJ,VC]
   by_cases hi:i=0
   ·subst hi
    rcases ll with⟨_,hl0⟩| h1
    ·simp [hl0,hb,gh]
    ·exact absurd rfl h1.1
   ·rcases ll with h1 | ⟨_,rest,h1⟩
    ·exact absurd h1.1 hi
    ·rw [if_neg hi,h1]
     simp only [Ue]
     rw [if_neg (by rw [Uo,hlen]; simp only [UG,VJ] at r1 r2; simp; omega)]
     simp
  ·rw [VC]
   have:K.set q (i,.sl l.length E.n (E.l l))=K:=by
    apply VE
    intro j
    rw [VF]
    by_cases hj:q=j
    ·subst hj; rw [if_pos rfl,if_pos (Ul.1 hq).1,hq]
    ·rw [if_neg hj]
   rw [this]; exact o
 ·have Hy:l2.length≠0:=by simpa using h0
  by_cases hi:i=0
  ·subst hi
   rcases ll with⟨_,hl0⟩| h1
   rotate_left
   ·exact absurd rfl h1.1
   have hnil:l=[]:=by simpa using hl0
   subst hnil
   refine⟨h.next,h.alloc (.cells (E.l l2)),?_,?_⟩
   ·simp only [dy,g1,Ue,g2,hb,hx,gj,g5]
    rw [if_neg (by simp [nU])]
    simp only [if_true]
    simp only [UG,UC] at r1 r2
    rw [if_neg (by simp; omega),if_neg Hy]
    simp
   ·refine o.Dj hq (fun k _ hk=>by rw [AHeap.alloc,cV,if_neg (by omega)]) (Vn _) (.inr (.inr (Uj _))) (U0 _) ⟨⟨bJ.bL,bJ.mF (by simp only [gh] at r2; simp at r2 ⊢; omega)⟩,.inr ⟨by have:=o.pos; omega,[],?_⟩⟩
    rw [AHeap.alloc,cV,if_pos rfl]; simp
  ·rcases ll with h1 | ⟨_,rest,h1⟩
   ·exact absurd h1.1 hi
   refine⟨h.next,(h.kill i).put h.next (.cells (E.l (l++l2))),?_,?_⟩
   ·simp only [dy,g1,Ue,g2,hb,hx,gj,g5]
    rw [if_neg (by simp [nU]),if_neg hi,h1]
    simp only [Ue]
    rw [if_neg (by rw [Uo,hlen]; simp; omega),if_neg Hy]
    rw [UX,UO (by rw [hlen]; exact Uj _),UT (by rw [hlen]; exact Uj _),bJ.gQ,Uo]
   ·refine o.Dj hq (fun k hk rF=>by rw [cV,if_neg (by omega),wD,if_neg hk]) (by show h.next≤h.next+1+1; omega) (.inr (.inr (Uj _))) (by show h.next<h.next+1+1; omega) ⟨⟨bJ.bL,bJ.mF (by simp only [gh] at r2; simp at r2 ⊢; omega)⟩,.inr ⟨by have:=o.pos; omega,[],?_⟩⟩
    rw [cV,if_pos rfl]; simp
def Cq (b:Nat){α:Type}(n:Int)(z:α):Option (List α):=if 0≤n∧n.toNat*(b+1)≤1099511627776 then some (Uw n.toNat z) else none
theorem uQ {n:Int}{z:α}{zv:AV}{r:List α}(T:wE P t E.n b=true)(o:Has h K)(e0:TypeId)(RP:P.underlying t=some (.slice e0))(hz0:ie P e0=some zv)(Mz:zv.cells=E.f z)(nH:(E.f z).all AV.bQ=true)(hr:Cq b n z=some r) :
  ∃i h',gp P h t (.int .i64 n) (.int .i64 n)=some (.rs i 0 r.length E.n,h')∧Has h' ((i,.sl r.length E.n (E.l r))::K):=by
 have hz:∀e,P.underlying t=some (.slice e)→ie P e=some zv:=fun e he=>by
  rw [RP] at he; cases he; exact hz0
 unfold Cq at hr
 split at hr
 rotate_left
 ·cases hr
 rename_i jw
 obtain⟨h0,h1⟩:=jw
 cases hr
 obtain⟨e,inf,g1,g2,g3,g4,g5,g6⟩:=jA T
 have nU:=E.pos
 have M0:∀k,hJ (E.f z) k=E.l (Uw k z):=by
  intro k
  induction k with
  | zero=>rfl
  | succ k ih=>rw [hJ,ih,List.replicate_succ,bJ.eA]
 refine⟨h.next,h.alloc (.cells (E.l (Uw n.toNat z))),?_,o.new (fun k hk=>by rw [AHeap.alloc,cV,if_neg (by omega)]) (Vn _) (.inr (Uj _)) (U0 _) ⟨⟨bJ.bL,bJ.mF (by rw [VD]; rw [Nat.mul_add,Nat.mul_one] at h1; omega)⟩,.inr ⟨by have:=o.pos; omega,[],by rw [AHeap.alloc,cV,if_pos rfl]; simp⟩⟩⟩
 rw [Nat.mul_add,Nat.mul_one] at h1
 simp only [gp,g1,Ue,g2,hz e g1,Mz,E.len,M0,VD,g3,g4]
 have hb:n*(b:Int)≤gh:=by
  have:n*(b:Int)=((n.toNat*b:Nat):Int):=by
   rw [Int.natCast_mul,Int.toNat_of_nonneg h0]
  simp only [gh]
  rw [this]
  omega
 rw [if_pos ⟨h0,Int.le_refl _,hb,trivial,nU,by omega,nH⟩]
theorem Dm (o:Has h K)(hq:K[q]? = some (i,.sl l.length E.n (E.l l)))(hp:E.flat=true:=by rfl):∃h',iO 0 h (.rs i 0 l.length E.n)=some (E.fz l,h')∧Has h' (K.eraseIdx q):=by
 obtain⟨⟨⟨hlen,qg⟩,ll⟩,hlt⟩:=o.at_ _ _ _ hq
 rcases ll with⟨h0,h1⟩| ⟨h0,rest,h1⟩
 ·have:l=[]:=by simpa using h1
  subst this
  exact⟨h,by simp [iO,h0,bJ.fz,bJ.l],o.del q⟩
 ·refine⟨h.kill i,?_,?_⟩
  ·simp only [iO]
   rw [if_neg h0,h1]
   simp only [Ue]
   have e1:((E.l l++rest).drop 0).take (l.length*E.n)=E.l l:=by
    rw [UX,UO (by rw [hlen]; exact Uj _),UT (by rw [hlen]; exact Uj _)]
   rw [e1,if_pos (by rw [Uo,hlen]; omega),pa (bJ.nu hp).1]
   rfl
  ·have o2:=o.Dj (i':=0) (c':=.sl 0 1 []) (h':=h.kill i) hq (fun k hk _=>by rw [wD,if_neg hk]) (Vn _) (.inr (.inl rfl)) (Nat.succ_pos _) ⟨⟨by simp,by simp⟩,.inl ⟨rfl,rfl⟩⟩
   have:=o2.del q
   rwa [List.eraseIdx_set_eq] at this
variable {n:Nat}
theorem cG (o:Has h K)(hq:K[q]? = some (i,.sl n E.n (E.l l))):n=l.length:=by
 have h1:=(o.at_ _ _ _ hq).1.1.1
 rw [bJ.bL] at h1
 exact (Nat.eq_of_mul_eq_mul_right (Nat.pos_of_ne_zero E.pos) h1).symm
theorem bn (T:wE P t E.n b=true)(o:Has h K)(hq:K[q]? = some (i,.sl n E.n (E.l l)))(hj:ix l j=some a):eG P t (.rs i 0 n E.n) (.int k j)=some (.ptr i (0+j.toNat*E.n)):=by
 have hn:=cG o hq
 subst hn
 exact H5 T (gG hj).1 (gG hj).2.1
theorem zD (o:Has h K)(hq:K[q]? = some (i,.sl n E.n (E.l l)))(ha:fH P tf=some false)(hj:ix l j=some a)(hc:(E.f a)[off]? = some c):bl P h tf (.ptr i (0+j.toNat*E.n+off))=some c:=by
 have hn:=cG o hq
 subst hn
 exact tD o hq ha hj hc
theorem dD (o:Has h K)(hq:K[q]? = some (i,.sl n E.n (E.l l)))(ha:fH P tf=some false)(hj:ix l j=some a)(hc:(E.f a)[0]? = some c):bl P h tf (.ptr i (0+j.toNat*E.n))=some c:=by
 have hn:=cG o hq
 subst hn
 exact BG o hq ha hj hc
theorem uR (o:Has h K)(hq:K[q]? = some (i,.sl n E.n (E.l l)))(ha:fH P tf=some true)(hs:eP P tf=some E.n)(hj:ix l j=some a):bl P h tf (.ptr i (0+j.toNat*E.n))=some (.agg (E.f a)):=by
 have hn:=cG o hq
 subst hn
 exact BH o hq ha hs hj
theorem fo (o:Has h K)(hq:K[q]? = some (i,.sl n E.n (E.l l)))(hs:eP P tf=some E.n)(hj:ix l j=some a){x:AV}(hv:x.cells=E.f v)(nH:(E.f v).all AV.bQ=true) :
  ∃h',iH P h tf (.ptr i (0+j.toNat*E.n)) x=some h'∧Has h' (K.set q (i,.sl n E.n (E.l (l.set j.toNat v)))):=by
 have hn:=cG o hq
 subst hn
 exact Dk o hq hs hj hv nH
theorem FQ (o:Has h K)(hq:K[q]? = some (i,.sl n E.n (E.l l)))(hs:eP P tf=some 1)(hj:ix l j=some a){x:AV}(hx:x.cells=[x])(nH:x.bQ=true)(ho:off<E.n)(hb:(E.f a).set off x=E.f v) :
  ∃h',iH P h tf (.ptr i (0+j.toNat*E.n+off)) x=some h'∧Has h' (K.set q (i,.sl n E.n (E.l (l.set j.toNat v)))):=by
 have hn:=cG o hq
 subst hn
 exact BI o hq hs hj hx nH ho hb
theorem iv {t2:TypeId}{l2 r:List α}{x:AV}(T:wE P t E.n b=true)(o:Has h K)(hq:K[q]? = some (i,.sl n E.n (E.l l)))(hx:fk h E.n x=some (E.l l2,l2.length))(gj:ig P t2 x=true)(hr:app b l l2=some r) :
  ∃i' h',dy P h t t2 (.rs i 0 n E.n) x=some (.rs i' 0 r.length E.n,h')∧Has h' (K.set q (i',.sl r.length E.n (E.l r))):=by
 have hn:=cG o hq
 subst hn
 exact Dl T o hq hx gj hr
theorem rR (o:Has h K)(hq:K[q]? = some (i,.sl n E.n (E.l l)))(hp:E.flat=true:=by rfl):∃h',iO 0 h (.rs i 0 n E.n)=some (E.fz l,h')∧Has h' (K.eraseIdx q):=by
 have hn:=cG o hq
 subst hn
 exact Dm o hq hp
end
end Go.R
namespace Go.R
open Go
structure aq where
 kind:Int
 int:Int
 label:ByteArray
 args:List Int
structure bu where
 nodes:List aq
 root:Int
def eI (k:IntKind):bJ Int:={n:=1,f:=fun a=>[.int k a],len:=fun _=>rfl,pos:=by decide,pure:=fun _ _=>⟨rfl,rfl⟩,canon:=fun _=>rfl}
abbrev af:bJ Int:=eI .i64
theorem pure_cons {x:AV}{xs:List AV}(h:x.dT=true∧x.iV=x)(k:cy xs=true∧dm xs=xs):cy (x::xs)=true∧dm (x::xs)=x::xs:=
 ⟨by simp [cy,h.1,k.1],by simp [dm,h.2,k.2]⟩
theorem pure_nil:cy []=true∧dm []=[]:=⟨rfl,rfl⟩
theorem dp {k:IntKind}{n:Int}:(AV.int k n).dT=true∧(AV.int k n).iV = .int k n:=⟨rfl,rfl⟩
theorem jB {s:ByteArray}:(AV.str s).dT=true∧(AV.str s).iV = .str s:=⟨rfl,rfl⟩
theorem dN {b:Bool}:(AV.bool b).dT=true∧(AV.bool b).iV = .bool b:=⟨rfl,rfl⟩
def ai:bJ aq:={n:=4,f:=fun x=>[.int .i64 x.kind,.int .i64 x.int,.str x.label,af.fz x.args],len:=fun _=>rfl,pos:=by decide,pure:=fun x _=>pure_cons dp (pure_cons dp (pure_cons jB (pure_cons bJ.bw pure_nil))),canon:=fun _=>rfl}
end Go.R
namespace Go.R
open Go
theorem FR {b:Bool}(h:b=false):¬b=true:=by rw [h]; decide
section
variable {P:Program}{cf:CallF}{A:bY}{m:Nat}
theorem tE {c:Code}{s:St}{Q R:Ex→St→Prop}(h:dn P cf A m c s Q)(k:∀e s',Q e s'→R e s'):dn P cf A m c s R:=by
 obtain⟨e,s',h1,h2⟩:=h
 exact⟨e,s',h1,k _ _ h2⟩
theorem aH {c:Code}{s:St}{Q:St→Prop}{R:Ex→St→Prop}(hQ:∀e s',(e = .ret∨e = .norm)∧Q s'→R e s')(h:dn P cf A m c s (fun e s'=>(e = .ret∨e = .norm)∧Q s')):dn P cf A m c s R:=tE h hQ
end
def gZ:Nat:=1125899906842630
def jZ (k:Nat)(h:AHeap)(x y:AV):Prop:=∀n,gZ+k≤n→b7 h n x=some y
def aO (k:Nat)(h:AHeap)(x y:List AV):Prop:=∀n,gZ+k≤n→bq h n x=some y
def M3 (h:AHeap)(x y:AV):Prop:=jZ 4503599627370496 h x y
section
variable {h:AHeap}{α:Type}{E:bJ α}{l:List α}{K:Mem}{q i:Nat}
theorem jZ.mono {k k':Nat}{x y:AV}(hk:k≤k')(f:jZ k h x y):jZ k' h x y:=fun n hn=>f n (by omega)
theorem Fp {k:Nat}{x y:AV}(f:jZ k h x y)(hk:k≤4503599627370496:=by decide):M3 h x y:=f.mono hk
theorem mG {n:Nat}(h:gZ≤n):∃k,n=k+1∧gZ≤k+1:=⟨n - 1,by simp only [gZ] at h; omega,by omega⟩
theorem kT {x:AV}(h1:x.dT=true)(h2:∀n,b7 h (n+1) x=if x.dT then some x.iV else none){y:AV}(h3:x.iV=y):jZ 0 h x y:=fun n hn=>by
 obtain⟨k,rfl,_⟩:=mG (show gZ≤n by omega)
 rw [h2,h1,h3]; rfl
theorem br {k:IntKind}{n:Int}:jZ 0 h (.int k n) (.int k n):=kT rfl (fun _=>rfl) rfl
theorem dR {b:Bool}:jZ 0 h (.bool b) (.bool b):=kT rfl (fun _=>rfl) rfl
theorem cH {s:ByteArray}:jZ 0 h (.str s) (.str s):=kT rfl (fun _=>rfl) rfl
theorem fe (hp:E.flat=true:=by rfl):jZ 0 h (E.fz l) (E.fz l):=kT (bJ.bw hp).1 (fun _=>rfl) (bJ.bw hp).2
theorem ph {cs:List AV}(h1:(cy cs=true))(h2:dm cs=E.l l){n:Nat}{b:Bool}(h3:n=l.length):jZ 0 h (.fz cs n b) (E.fz l):=by
 refine kT (by simpa [AV.dT] using h1) (fun _=>rfl) ?_
 subst h3
 show AV.fz (dm cs) l.length false=_
 rw [h2]; rfl
theorem mZ:∀{cs:List AV} {n:Nat},cy cs=true→(∀x∈cs,∀n,b7 h (n+1) x=if x.dT then some x.iV else none)→cs.length+1<n→bq h n cs=some (dm cs)
 | [],n,_,_,hn=>by
  obtain⟨k,rfl⟩:∃k,n=k+1:=⟨n - 1,by omega⟩
  rfl
 | x::cs,n,h1,h2,hn=>by
  obtain⟨k,rfl⟩:∃k,n=k+1+1:=⟨n - 2,by simp at hn; omega⟩
  simp only [cy,Ui] at h1
  simp only [bq]
  rw [h2 x (by simp) k,h1.1]
  simp only [if_true,Ue]
  rw [mZ h1.2 (fun y hy=>h2 y (by simp [hy])) (by simp at hn; omega)]
  rfl
def wG:AV→Bool
 | .agg _ | .tup _ | .fn _ _=>false
 | _=>true
theorem Dn {x:AV}(hf:wG x=true)(hn:x.dT=true)(n:Nat):b7 h (n+1) x=if x.dT then some x.iV else none:=by
 cases x<;>first | rfl | (simp [AV.dT] at hn; done) | (simp [wG] at hf; done)
theorem FT (o:Has h K)(hq:K[q]? = some (i,.sl l.length E.n (E.l l)))(hf:∀a:α,(E.f a).all wG=true)(hp:E.flat=true:=by rfl):jZ 0 h (.rs i 0 l.length E.n) (E.fz l):=fun n hn=>by
 obtain⟨⟨⟨hlen,qg⟩,ll⟩,hlt⟩:=o.at_ _ _ _ hq
 obtain⟨k,rfl,hk⟩:=mG (show gZ≤n by omega)
 simp only [b7]
 rcases ll with⟨h0,h1⟩| ⟨h0,rest,h1⟩
 ·have:l=[]:=by simpa using h1
  subst this
  simp [h0,bJ.fz,bJ.l]
 ·rw [if_neg h0,h1]
  simp only [Ue]
  have e1:((E.l l++rest).drop 0).take (l.length*E.n)=E.l l:=by
   rw [UX,UO (by rw [hlen]; exact Uj _),UT (by rw [hlen]; exact Uj _)]
  rw [if_pos (by rw [Uo,hlen]; omega),e1,mZ (bJ.nu hp).1 (fun x hx=>?_) (by simp only [gZ] at hk; omega),(bJ.nu hp).2]
  ·rfl
  ·have hnx:x.dT=true:=by
    have:∀(cs:List AV),cy cs=true→x∈cs→x.dT=true:=by
     intro cs
     induction cs with
     | nil=>intro _ h; cases h
     | cons y ys ih=>
      intro h hm
      simp only [cy,Ui] at h
      rcases UF.1 hm with rfl | hm
      ·exact h.1
      ·exact ih h.2 hm
    exact this _ (bJ.nu hp).1 hx
   have RQ:wG x=true:=by
    unfold bJ.l at hx
    rw [List.mem_flatMap] at hx
    obtain⟨a,_,ha⟩:=hx
    exact Uy.1 (hf a) x ha
   exact fun n=>Dn RQ hnx n
theorem cF {n:Nat}(o:Has h K)(hq:K[q]? = some (i,.sl n E.n (E.l l)))(hf:∀a:α,(E.f a).all wG=true)(hp:E.flat=true:=by rfl):jZ 0 h (.rs i 0 n E.n) (E.fz l):=by
 have hn:=cG o hq
 subst hn
 exact FT o hq hf hp
theorem ax:aO 0 h [] []:=fun n hn=>by
 obtain⟨k,rfl,_⟩:=mG (show gZ≤n by omega)
 rfl
theorem ah {k1 k2:Nat}{x y:AV}{xs ys:List AV}(f:jZ k1 h x y)(g:aO k2 h xs ys):aO (k1+k2+1) h (x::xs) (y::ys):=fun n hn=>by
 obtain⟨k,rfl⟩:∃k,n=k+1:=⟨n - 1,by omega⟩
 simp only [bq]
 rw [f k (by omega),g k (by omega)]
 rfl
theorem iY {k:Nat}{xs ys:List AV}(f:aO k h xs ys):jZ (k+1) h (.agg xs) (.agg ys):=fun n hn=>by
 obtain⟨k,rfl⟩:∃k,n=k+1:=⟨n - 1,by omega⟩
 simp only [b7]
 rw [f k (by omega)]; rfl
end
def iU (k:IntKind)(x:Int)(n:Nat):Int:=x.fdiv (2 ^ (min n k.bits))
section
variable {P:Program}{t:TypeId}{b:Nat}{α:Type}{E:bJ α}{h:AHeap}{K:Mem}{l r:List α}{i q:Nat}{j lo hi:Int}{k k':IntKind}
theorem uS {s:ByteArray}{v:Int}(hu:P.underlying t=some .string)(h:bt s j=some v):oS P t (.str s) (.int k j)=some (.int .u8 v):=by
 unfold bt at h
 split at h
 ·rename_i h0
  rw [Ug] at h
  obtain⟨b,hb,rfl⟩:=h
  simp only [oS,hu,Ue,h0,if_true,hb,Uk]
 ·cases h
theorem Dp (h:Hb l lo hi=some r):(((E.l l).drop (lo.toNat*E.n)).take ((hi.toNat - lo.toNat)*E.n))=E.l r∧r.length=hi.toNat - lo.toNat:=by
 obtain⟨h0,h1,h2,rfl⟩:=wC h
 refine⟨by rw [bJ.uP,bJ.Dh],?_⟩
 rw [Vi,List.length_drop]
 omega
theorem Dq (o:Has h K)(hq:K[q]? = some (i,.sl l.length E.n (E.l l)))(T:wE P t E.n b=true)(hs:Hb l 0 hi=some r) :
  kJ P t (.rs i 0 l.length E.n) none (some (.int k hi)) none=some (.rs i 0 r.length E.n)∧Has h (K.set q (i,.sl r.length E.n (E.l r))):=by
 obtain⟨e,inf,g1,g2,g3,g4,g5,g6⟩:=jA T
 obtain⟨h0,h1,h2,hr⟩:=wC hs
 obtain⟨h3,h4⟩:=Dp (E:=E) hs
 simp only [Int.toNat_zero,Nat.sub_zero] at h4 hr
 have yp:r=l.take hi.toNat:=by rw [hr]; simp
 refine⟨?_,?_⟩
 ·simp only [kJ,g1,Ue,g6,if_true,jJ]
  rw [if_pos ⟨by omega,h2⟩]
  simp only [Ue,Uk,Nat.zero_mul,VJ,Nat.sub_zero,h4]
 ·obtain⟨⟨⟨hlen,qg⟩,ll⟩,hlt⟩:=o.at_ _ _ _ hq
  refine o.Dj hq (fun _ _ _=>rfl) (Uj _) (.inl rfl) hlt ⟨⟨bJ.bL,?_⟩,?_⟩
  ·rw [bJ.bL]
   refine U1 (U4 _ ?_) (hlen ▸ qg)
   rw [h4]; omega
  ·rcases ll with⟨h5,h6⟩| ⟨h5,rest,h6⟩
   ·left; exact⟨h5,by rw [h4]; omega⟩
   ·right
    refine⟨h5,E.l (l.drop hi.toNat)++rest,?_⟩
    rw [h6,yp,←Uv,←bJ.gQ,Vp]
theorem H6 {n:Nat}(o:Has h K)(hq:K[q]? = some (i,.sl n E.n (E.l l)))(T:wE P t E.n b=true)(hs:Hb l 0 hi=some r) :
  kJ P t (.rs i 0 n E.n) none (some (.int k hi)) none=some (.rs i 0 r.length E.n)∧Has h (K.set q (i,.sl r.length E.n (E.l r))):=by
 have hn:=cG o hq
 subst hn
 exact Dq o hq T hs
end
theorem ar {P:Program}{cf:CallF}{m:Nat}{aV:FuncId→bY}{f:FuncId}{fn:Func}{A:bY}(ha:aV f=A){args:List AV}{h:AHeap}{R:AV→AHeap→Prop}(hf:P.funcs[f]? = some fn)(hb:fn.body=some (b8 fn))(hn:Vz args.length fn.ntmps=true)
  (he:dn P cf A m (b8 fn) ⟨lM A.keep args,A.aE.map fun _=>none,h⟩ (fun e s=>(e = .ret∨e = .norm)∧∃r,aM P (s.open A) fn.results.toList=some r∧R r s.h)) :
  ∃r h',a6 P aV cf m f args h=some (r,h')∧R r h':=by
 subst ha
 exact uO hf hb hn he
def Dr (a b:ByteArray):Bool:=Op.bytesLess a.data.toList b.data.toList||a.data.toList==b.data.toList
end Go.R
namespace Go.R
open Go
mutual
theorem uT {h:AHeap}:∀(n:Nat) (x y:AV),x.dT=true→b7 h n x=some y→y=x.iV
 | 0,x,y,_,h=>by simp [b7] at h
 | n+1,x,y,hn,h=>by
  cases x with
  | agg cs=>
   simp only [b7,Ug] at h
   obtain⟨eS,hcs,rfl⟩:=h
   rw [gu n cs eS (by simpa [AV.dT] using hn) hcs]; rfl
  | tup cs=>
   simp only [b7,Ug] at h
   obtain⟨eS,hcs,rfl⟩:=h
   rw [gu n cs eS (by simpa [AV.dT] using hn) hcs]; rfl
  | fn f cs=>
   simp only [b7,Ug] at h
   obtain⟨eS,hcs,rfl⟩:=h
   rw [gu n cs eS (by simpa [AV.dT] using hn) hcs]; rfl
  | ptr _ _=>simp [AV.dT] at hn
  | rs _ _ _ _=>simp [AV.dT] at hn
  | _=>simp only [b7,hn,if_true,Uh] at h; exact h.symm
theorem gu {h:AHeap}:∀(n:Nat) (xs ys:List AV),cy xs=true→bq h n xs=some ys→ys=dm xs
 | 0,xs,ys,_,h=>by simp [bq] at h
 | n+1,[],ys,_,h=>by simp only [bq,Uh] at h; exact h.symm
 | n+1,x::xs,ys,hn,h=>by
  simp only [cy,Ui] at hn
  simp only [bq,Ud,Ug] at h
  obtain⟨y,hy,zs,hz,rfl⟩:=h
  rw [uT n x y hn.1 hy,gu n xs zs hn.2 hz]; rfl
end
mutual
theorem tF {h:AHeap}:∀(n:Nat) (x y:AV),fK h n x=some y→b7 h n x=some y
 | 0,x,y,h=>by simp [fK] at h
 | n+1,x,y,h=>by
  unfold fK at h
  split at h
  ·exact h
  ·exact h
  ·exact h
  ·exact h
  ·exact h
  ·exact h
  ·exact h
  ·exact h
  ·rename_i id off len hH
   simp only [b7]
   split at h
   ·rename_i h0; rw [if_pos h0]; exact h
   ·rename_i h0
    rw [if_neg h0]
    rw [Ud] at h ⊢
    obtain⟨ob,ho,h⟩:=h
    refine⟨ob,ho,?_⟩
    cases ob with
    | map es=>cases h
    | row t cs=>cases h
    | cells cs=>
     simp only at h ⊢
     split at h
     ·rename_i hle
      rw [if_pos hle]
      rw [Ug] at h ⊢
      obtain⟨eS,hcs,h2⟩:=h
      exact⟨eS,jR n _ _ hcs,h2⟩
     ·cases h
  ·simp only [b7]
   rw [Ug] at h ⊢
   obtain⟨eS,hcs,h2⟩:=h
   exact⟨eS,jR n _ _ hcs,h2⟩
  ·simp only [b7]
   rw [Ug] at h ⊢
   obtain⟨eS,hcs,h2⟩:=h
   exact⟨eS,jR n _ _ hcs,h2⟩
  ·cases h
theorem jR {h:AHeap}:∀(n:Nat) (xs ys:List AV),dc h n xs=some ys→bq h n xs=some ys
 | 0,xs,ys,h=>by simp [dc] at h
 | n+1,[],ys,h=>h
 | n+1,x::xs,ys,h=>by
  simp only [dc,bq,Ud,Ug] at h ⊢
  obtain⟨y,hy,zs,hz,h2⟩:=h
  exact⟨y,tF n x y hy,zs,jR n xs zs hz,h2⟩
end
def wH (k:Nat)(h:AHeap)(x y:AV):Prop:=∀n,gZ+k≤n→fK h n x=some y
def FU (k:Nat)(h:AHeap)(x y:List AV):Prop:=∀n,gZ+k≤n→dc h n x=some y
def ff (h:AHeap)(x y:AV):Prop:=wH 4503599627370496 h x y
section
variable {h:AHeap}{α:Type}{E:bJ α}{l:List α}{K:Mem}{q i:Nat}
theorem ff.Fp {x y:AV}(f:ff h x y):M3 h x y:=fun n hn=>tF _ _ _ (f n hn)
theorem dz {k:Nat}{x y:AV}(f:wH k h x y)(hk:k≤4503599627370496:=by decide):ff h x y:=fun n hn=>f n (by omega)
theorem zE {x y:AV}(h2:∀n,fK h (n+1) x=some y):wH 0 h x y:=fun n hn=>by
 obtain⟨k,rfl,_⟩:=mG (show gZ≤n by omega)
 exact h2 k
theorem dd {k:IntKind}{n:Int}:wH 0 h (.int k n) (.int k n):=zE fun _=>rfl
theorem aD {b:Bool}:wH 0 h (.bool b) (.bool b):=zE fun _=>rfl
def Ds:AV→Bool
 | .int _ _ | .bool _ | .str _=>true
 | _=>false
theorem lY:∀{cs:List AV} {n:Nat},cs.all Ds=true→cs.length+1<n→dc h n cs=some cs
 | [],n,_,hn=>by
  obtain⟨k,rfl⟩:∃k,n=k+1:=⟨n - 1,by omega⟩
  rfl
 | x::cs,n,h1,hn=>by
  obtain⟨k,rfl⟩:∃k,n=k+1+1:=⟨n - 2,by simp at hn; omega⟩
  simp only [U2,Ui] at h1
  simp only [dc]
  have:fK h (k+1) x=some x:=by cases x<;>first | rfl | (simp [Ds] at h1)
  rw [this,Ue,lY h1.2 (by simp at hn; omega)]
  rfl
theorem Hc {n:Nat}(o:Has h K)(hq:K[q]? = some (i,.sl n E.n (E.l l)))(hf:∀a:α,(E.f a).all Ds=true):wH 0 h (.rs i 0 n E.n) (E.fz l):=fun m hm=>by
 have hn:=cG o hq
 subst hn
 obtain⟨⟨⟨hlen,qg⟩,ll⟩,hlt⟩:=o.at_ _ _ _ hq
 obtain⟨k,rfl,hk⟩:=mG (show gZ≤m by omega)
 simp only [fK]
 rcases ll with⟨h0,h1⟩| ⟨h0,rest,h1⟩
 ·have:l=[]:=by simpa using h1
  subst this
  simp [h0,bJ.fz,bJ.l]
 ·rw [if_neg h0,h1]
  simp only [Ue]
  have e1:((E.l l++rest).drop 0).take (l.length*E.n)=E.l l:=by
   rw [UX,UO (by rw [hlen]; exact Uj _),UT (by rw [hlen]; exact Uj _)]
  rw [if_pos (by rw [Uo,hlen]; omega),e1,lY ?_ (by simp only [gZ] at hk; omega)]
  ·rfl
  ·rw [Uy]
   intro x hx
   unfold bJ.l at hx
   rw [List.mem_flatMap] at hx
   obtain⟨a,_,ha⟩:=hx
   exact Uy.1 (hf a) x ha
theorem Dt:FU 0 h [] []:=fun n hn=>by
 obtain⟨k,rfl,_⟩:=mG (show gZ≤n by omega)
 rfl
theorem qU {k1 k2:Nat}{x y:AV}{xs ys:List AV}(f:wH k1 h x y)(g:FU k2 h xs ys):FU (k1+k2+1) h (x::xs) (y::ys):=fun n hn=>by
 obtain⟨k,rfl⟩:∃k,n=k+1:=⟨n - 1,by omega⟩
 simp only [dc]
 rw [f k (by omega),g k (by omega)]
 rfl
theorem Du {k:Nat}{xs ys:List AV}(f:FU k h xs ys):wH (k+1) h (.tup xs) (.tup ys):=fun n hn=>by
 obtain⟨k,rfl⟩:∃k,n=k+1:=⟨n - 1,by omega⟩
 simp only [fK]
 rw [f k (by omega)]; rfl
def bO:Nat:=9007199254740992
theorem fq {k:Nat}{xs ys:List AV}(f:aO k h xs ys)(hk:k≤bO:=by decide):aO bO h xs ys:=fun n hn=>f n (by omega)
def rS (x y:AV):Prop:=x.dT=true∧x.iV=y
def wI (xs ys:List AV):Prop:=cy xs=true∧dm xs=ys
theorem bg {k:IntKind}{n:Int}:rS (.int k n) (.int k n):=⟨rfl,rfl⟩
theorem j6 {s:ByteArray}:rS (.str s) (.str s):=⟨rfl,rfl⟩
theorem lZ (hp:E.flat=true:=by rfl):rS (E.fz l) (E.fz l):=bJ.bw hp
theorem qV:rS .nils (E.fz []):=⟨rfl,rfl⟩
theorem l7:wI [] []:=⟨rfl,rfl⟩
theorem bP {x y:AV}{xs ys:List AV}(a:rS x y)(b:wI xs ys):wI (x::xs) (y::ys):=⟨by simp [cy,a.1,b.1],by simp [dm,a.2,b.2]⟩
theorem l8 {xs ys:List AV}(a:wI xs ys):rS (.agg xs) (.agg ys):=⟨by simpa [AV.dT] using a.1,by show AV.agg (dm xs)=_; rw [a.2]⟩
end
end Go.R
namespace Go.R
open Go
section
variable {P:Program}{h:AHeap}{K:Mem}{i q:Nat}{cs eS:List AV}{x z:AV}{t:TypeId}{off:Nat}
theorem gg (o:Has h K)(nH:cs.all AV.bQ=true):∃i h',wz h cs=some (.ptr i 0,h')∧Has h' ((i,.ob cs)::K):=by
 refine⟨h.next,h.alloc (.cells cs),by unfold wz; rw [if_pos nH],o.new (fun k hk=>by rw [AHeap.alloc,cV,if_neg (by omega)]) (Vn _) (.inr (Uj _)) (U0 _) ⟨by have:=o.pos; omega,by rw [AHeap.alloc,cV,if_pos rfl]⟩⟩
theorem bX (o:Has h K)(hq:K[q]? = some (i,.ob cs))(hr:iE P t cs off=some z):bl P h t (.ptr i off)=some z:=by
 obtain⟨⟨h1,h2⟩,_⟩:=o.at_ _ _ _ hq
 simp only [bl,jl,h2,Ue,hr]
theorem na (o:Has h K)(hq:K[q]? = some (i,.ob cs))(hw:gD P t cs off x=some eS):∃h',iH P h t (.ptr i off) x=some h'∧Has h' (K.set q (i,.ob eS)):=by
 obtain⟨⟨h1,h2⟩,_⟩:=o.at_ _ _ _ hq
 exact⟨h.put i (.cells eS),by simp only [iH,h2,Ue,hw,Uk],jd o hq ⟨h1,by rw [cV,if_pos rfl]⟩⟩
end
theorem aN {x y:AV}(h:rS x y):aL x=y:=by
 unfold aL
 rw [h.1,h.2]; rfl
theorem bG:([]:List AV).map aL=[]:=rfl
theorem au {x y:AV}{xs ys:List AV}(a:aL x=y)(b:xs.map aL=ys):(x::xs).map aL=y::ys:=by
 rw [UH,a,b]
theorem iZ {α:Type}{K L:List α}{q:Nat}{p:α}(h:L[q]? = some p):(K++L)[K.length+q]? = some p:=by
 rw [Uz (by omega),Vt,h]
theorem FV {α:Type}{E:bJ α}{h:AHeap}{K:Mem}{l:List α}{cs:List AV}(o:Has h K)(hc:cs=E.l l)(hl:l.length≤1024:=by simp) :
  ∃i h',some (AV.rs h.next 0 l.length E.n,h.alloc (.cells cs))=some (AV.rs i 0 l.length E.n,h')∧Has h' ((i,.sl l.length E.n (E.l l))::K):=by
 subst hc
 exact⟨h.next,_,rfl,o.new (fun k hk=>by rw [AHeap.alloc,cV,if_neg (by omega)]) (Vn _) (.inr (Uj _)) (U0 _) ⟨⟨bJ.bL,bJ.mF (by omega)⟩,.inr ⟨by have:=o.pos; omega,[],by rw [AHeap.alloc,cV,if_pos rfl]; simp⟩⟩⟩
end Go.R
