/- Part of the proof: RRow, RStep, RWalk, RG1, RG2, RG3, RG4, RT, RG5, RG6, RG7. -/
import Derived.Test.YtifafejidnjckaaK3
import Derived.ProofKit
set_option linter.unusedVariables false
set_option linter.unusedSimpArgs false
set_option maxRecDepth 100000
open Bool renaming and_eq_true → Ux, false_eq_true → UE, or_eq_true → Ve
open List renaming getElem?_eq_some_iff → UA, length_append → UD, length_set → UF, drop_eq_getElem_cons → UH, length_cons → UI, getElem?_append_left → UJ, append_assoc → UK, replicate → UL, all_eq_true → UN, getElem?_append_right → UO, mem_cons → UT, length_nil → UW, map_cons → UX, mem_append → UZ, map_append → U0, take_append_of_le_length → U4, nil_append → U7, take_of_length_le → Va, eq_nil_of_length_eq_zero → Vb, getElem?_cons_zero → Vc, drop_zero → Vd, all_cons → Vi, length_take → Vz, getElem?_of_mem → VA, getElem?_cons_succ → VB, take_append_drop → VF, append_nil → VT, length_replicate → VU, ext_getElem? → VV, getElem?_set → VW
open Nat renaming le_refl → Uy, zero_add → UR, lt_of_lt_of_le → US, beq → U5, lt_succ_self → Vh, le_trans → Vj, mul_le_mul_right → Vm, add_assoc → Vq, eq_of_beq_eq_true → Vx, le_succ → VD, add_mul → VE, lt_succ_of_lt → VI, add_sub_cancel_left → VJ, ble → VP, min_eq_left → VQ, zero_lt_one → VS, add_comm → VZ, add_zero → V1, sub_self → V3
open Option renaming bind_eq_some_iff → Ut, bind_some → Uu, map_eq_some_iff → Uv, map_some → Uz, isSome_none → VN
open Option.some renaming injEq → Uw
open Prod.mk renaming injEq → UB
namespace Go.R
open Go
def yx (P:Program)(F:TypeId→List AV→Prop):List Field→List AV→Prop
 | [],xs=>xs=[]
 | f::fs,xs=>∃a b,xs=a++b∧a.length=P.cellsOf f.type∧F f.type a∧yx P F fs b
def Fits (P:Program):Nat→TypeId→List AV→Prop
 | 0,_,_=>False
 | n+1,t,xs=>
  match P.underlying t with
  | some .bool=>∃b,xs=[.bool b]
  | some (.int k)=>∃z,xs=[.int k z]∧k.min≤z∧z≤k.max
  | some .string=>∃s:ByteArray,xs=[.str s]∧s.size≤maxLen
  | some (.slice e)=>xs=[.nils]∨∃els:List (List AV),xs=[.fz els.flatten els.length false]∧els.length≤maxLen∧∀el∈els,el.length=P.cellsOf e∧Fits P n e el
  | some (.struct fs)=>yx P (Fits P n) fs.toList xs
  | _=>False
def qR (P:Program):Nat→List Field→Bool
 | _,[]=>true
 | k,f::fs=>U5 f.offset k&&qR P (k+P.cellsOf f.type) fs
def l8 (P:Program):Nat→TypeId→Bool
 | 0,_=>false
 | n+1,t=>
  match P.underlying t with
  | some .bool | some (.int _) | some .string=>true
  | some (.slice e)=>l8 P n e
  | some (.struct fs)=>qR P 0 fs.toList&&U5 (P.cellsOf t) ((fs.toList.map fun f=>P.cellsOf f.type).sum)&&fs.toList.all fun f=>l8 P n f.type
  | _=>false
theorem mapM_some {α β:Type}{f:α→Option β}:∀{l:List α} {ys:List β},l.mapM f=some ys→ys.length=l.length∧∀(i:Nat) (x:α),l[i]? = some x→∃y,ys[i]? = some y∧f x=some y
 | [],ys,h=>by
  simp at h; subst h
  exact⟨rfl,fun i x hx=>by simp at hx⟩
 | a::l,ys,h=>by
  simp only [List.mapM_cons,Option.bind_eq_bind,Ut,Option.pure_def,Uw] at h
  obtain⟨y,hy,zs,hz,rfl⟩:=h
  obtain⟨h1,h2⟩:=mapM_some hz
  refine⟨by simp [h1],fun i x hx=>?_⟩
  cases i with
  | zero=>simp at hx; subst hx; exact⟨y,rfl,hy⟩
  | succ i=>simpa using h2 i x (by simpa using hx)
theorem yy {w:World}{a:Addr}{v:Value}(h:w.cell? a=some v):w.cell? ⟨a.block,a.off,none⟩=some v∧a.spot=none:=by
 unfold World.cell? at h ⊢
 split at h
 ·rename_i c t fr hb
  rw [hb]
  simp only at h ⊢
  cases hs:a.spot with
  | none=>rw [hs] at h; exact⟨by simpa using h,rfl⟩
  | some _=>rw [hs] at h; simp at h
 ·cases h
theorem mK (a:Addr)(n:Nat):(a.add n).block=a.block∧(a.add n).off=a.off+n:=by
 unfold Addr.add
 split
 ·rename_i h; subst h; exact⟨rfl,rfl⟩
 ·exact⟨rfl,rfl⟩
theorem wC {w:World}{base:Nat}{a:Addr}{n:Nat}{cs:List Value}(h:w.cells? base a n=some cs):cs.length=n∧∀i,i<n→w.cell? ⟨a.block,a.off+i,none⟩=cs[i]?∧(i=0→a.spot=none):=by
 unfold World.cells? at h
 split at h
 ·obtain⟨h1,h2⟩:=mapM_some h
  refine⟨by simpa using h1,fun i hi=>?_⟩
  obtain⟨y,hy,hc⟩:=h2 i i (by simp [hi])
  obtain⟨h3,h4⟩:=yy hc
  rw [(mK a i).1,(mK a i).2] at h3
  refine⟨by rw [h3,hy],fun h0=>?_⟩
  subst h0
  simpa [Addr.add] using h4
 ·cases h
theorem p4 {α:Type}{Q:Nat→α→Prop}:∀n,(∀i,i<n→∃x,Q i x)→∃l:List α,l.length=n∧∀i x,l[i]? = some x→Q i x
 | 0,_=>⟨[],rfl,fun i x h=>by simp at h⟩
 | n+1,h=>by
  obtain⟨l,h1,h2⟩:=p4 n fun i hi=>h i (by omega)
  obtain⟨x,hx⟩:=h n (by omega)
  refine⟨l++[x],by simp [h1],fun i y hy=>?_⟩
  by_cases hi:i<n
  ·exact h2 i y (by rwa [UJ (by omega)] at hy)
  ·rw [UO (by omega)] at hy
   have:i=n:=by
    have:=(UA.1 hy).1
    simp at this; omega
   subst this
   simp [h1] at hy
   subst hy; exact hx
theorem Cells.append {c:Cx}{L:Nat→Prop}:∀{xs ys:List AV} {b o:Nat},Cells c L xs b o→Cells c L ys b (o+xs.length)→Cells c L (xs++ys) b o
 | [],ys,b,o,_,h=>by simpa using h
 | x::xs,ys,b,o,h,k=>⟨h.1,Cells.append h.2 (by simpa [Vq,VZ 1] using k)⟩
theorem Cells.flatten {c:Cx}{L:Nat→Prop}{b size:Nat}:∀(els:List (List AV)) (o:Nat),(∀i el,els[i]? = some el→el.length=size∧Cells c L el b (o+i*size))→Cells c L els.flatten b o
 | [],o,_=>trivial
 | el::els,o,h=>by
  obtain⟨h1,h2⟩:=h 0 el rfl
  rw [List.flatten_cons]
  refine Cells.append (by simpa using h2) (Cells.flatten (size:=size) els _ fun i RZ he=>?_)
  obtain⟨h3,h4⟩:=h (i+1) RZ (by simpa using he)
  refine⟨h3,?_⟩
  rw [h1]
  rwa [show o+size+i*size=o+(i+1)*size by rw [VE,Nat.one_mul]; omega]
section
variable {H:Type}{enc:TypeId × Value→H}{P:Program}{c:Cx}{sp:Nat→Bool}{held:Bool}
theorem p5 {F:TypeId→List AV→Prop}{g:TypeId→List Value→Option (DataW H × List MemPlace)}(hg:∀t cs x,g t cs=some x→cs.length=P.cellsOf t→(∃u:Nat,u=0)→True) :
  ∀(fs:List Field) (k:Nat) (cs:List Value) (xs:List (DataW H × List MemPlace)),qR P k fs=true→(∀f∈fs,∀cs x,g f.type cs=some x→cs.length=P.cellsOf f.type→∃ys,VRs c none0 ys cs∧F f.type ys∧∀v∈cs,v.oneCell'=true)→
   (fs.mapM fun f=>g f.type ((cs.drop f.offset).take (P.cellsOf f.type)))=some xs→k+(fs.map fun f=>P.cellsOf f.type).sum≤cs.length→
   ∃ys,VRs c none0 ys ((cs.drop k).take ((fs.map fun f=>P.cellsOf f.type).sum))∧yx P F fs ys∧∀v∈(cs.drop k).take ((fs.map fun f=>P.cellsOf f.type).sum),v.oneCell'=true
 | [],k,cs,xs,_,_,_,_=>⟨[],by simp [VRs],rfl,by simp⟩
 | f::fs,k,cs,xs,hc,hF,h,hl=>by
  simp only [qR,Ux,beq_nat,decide_eq_true_eq] at hc
  obtain⟨rfl,hc⟩:=hc
  simp only [List.mapM_cons,Option.bind_eq_bind,Ut,Option.pure_def,Uw] at h
  obtain⟨y,hy,zs,hz,rfl⟩:=h
  simp only [UX,List.sum_cons] at hl ⊢
  have hlen:((cs.drop f.offset).take (P.cellsOf f.type)).length=P.cellsOf f.type:=by simp; omega
  obtain⟨a,ha,R0,h1⟩:=hF f (by simp) _ _ hy hlen
  obtain⟨b,hb,R5,h2⟩:=p5 hg fs (f.offset+P.cellsOf f.type) cs zs hc (fun f' MN=>hF f' (by simp [MN])) hz (by omega)
  have Ia:(cs.drop f.offset).take (P.cellsOf f.type+(fs.map fun f=>P.cellsOf f.type).sum)=(cs.drop f.offset).take (P.cellsOf f.type)++((cs.drop (f.offset+P.cellsOf f.type)).take ((fs.map fun f=>P.cellsOf f.type).sum)):=by
   rw [List.take_add,List.drop_drop]
  rw [Ia]
  refine⟨a++b,VRs.append ha hb,⟨a,b,rfl,?_,R0,R5⟩,fun v hv=>?_⟩
  ·rw [ha.length,hlen]
  ·rcases UZ.1 hv with hv | hv
   ·exact h1 v hv
   ·exact h2 v hv
theorem pj (vE:∀id,c.h.get id=none):∀(m:Nat) (t:TypeId) (fuel:Nat) (cs:List Value) (d:DataW H) (ps:List MemPlace),l8 P m t=true→DataW.trod enc P c.w 0 sp held fuel t cs=some (d,ps)→
  ∃xs,VRs c none0 xs cs∧Fits P m t xs∧∀v∈cs,v.oneCell'=true
 | 0,_,_,_,_,_,hB,_=>by simp [l8] at hB
 | m+1,t,0,cs,d,ps,hB,h=>by simp [DataW.trod] at h
 | m+1,t,fuel+1,cs,d,ps,hB,h=>by
  have hnl:∀id,¬Live c.h id:=fun id hl=>by have:=hl.2; rw [vE id] at this; cases this
  unfold l8 at hB
  unfold Fits
  cases hu:P.underlying t with
  | none=>rw [hu] at hB; cases hB
  | some td=>
  rw [hu] at hB
  cases td<;>simp only at hB ⊢<;>try (cases hB; done)
  ·
   unfold DataW.trod at h
   rw [hu] at h
   split at h<;>first | (rename_i heq; cases heq; done) | skip
   all_goals try (rename_i heq _; cases heq; done)
   all_goals (first | (cases h; done) | skip)
   ·rename_i b _
    exact⟨[.bool b],⟨by simp [VR],trivial⟩,⟨b,rfl⟩,by simp [Value.oneCell']⟩
  ·rename_i k
   unfold DataW.trod at h
   rw [hu] at h
   split at h<;>first | (rename_i heq; cases heq; done) | skip
   all_goals try (rename_i heq _; cases heq; done)
   ·rename_i k' k2 n heq
    cases heq
    split at h
    ·rename_i hk
     obtain⟨rfl,LZ⟩:=hk
     simp only [Lit.wf,Ux,decide_eq_true_eq] at LZ
     exact⟨[.int k2 n],⟨by simp [VR],trivial⟩,⟨n,rfl,LZ⟩,by simp [Value.oneCell']⟩
    ·cases h
   ·cases h
  ·
   unfold DataW.trod at h
   rw [hu] at h
   split at h<;>first | (rename_i heq; cases heq; done) | skip
   all_goals try (rename_i heq _; cases heq; done)
   ·rename_i s _
    split at h
    ·rename_i hs
     exact⟨[.str s],⟨by simp [VR],trivial⟩,⟨s,rfl,hs⟩,by simp [Value.oneCell']⟩
    ·cases h
   ·cases h
  ·
   rename_i e
   unfold DataW.trod at h
   rw [hu] at h
   split at h<;>first | (rename_i heq; cases heq; done) | skip
   all_goals try (rename_i heq _; cases heq; done)
   ·exact⟨[.nils],⟨by simp [VR],trivial⟩,.inl rfl,by simp [Value.oneCell']⟩
   ·rename_i e' a len cap heq
    cases heq
    simp only at h
    split at h
    rotate_left
    ·cases h
    rename_i hbound
    obtain⟨_,hlc,hcap⟩:=hbound
    rw [Ut] at h
    obtain⟨elems,Kx,_⟩:=h
    obtain⟨hn,hget⟩:=mapM_some Kx
    have key:∀i,i<len→∃el:List AV,el.length=P.cellsOf e∧Fits P m e el∧Cells c none0 el a.block (a.off+i*P.cellsOf e)∧(i=0→0<P.cellsOf e→a.spot=none):=by
     intro i hi
     obtain⟨y,_,hy⟩:=hget i i (by simp [hi])
     rw [Ut] at hy
     obtain⟨R6,hcs,hy⟩:=hy
     obtain⟨hl,mZ⟩:=wC hcs
     obtain⟨el,hv,hf,h1⟩:=pj vE m e fuel R6 y.1 y.2 hB hy
     refine⟨el,by rw [hv.length,hl],hf,Cells.of_vals hv (fun j hj=>?_) h1,fun h0 nW=>?_⟩
     ·have:=(mZ j (by omega)).1
      rwa [(mK a _).1,(mK a _).2] at this
     ·subst h0
      have:=(mZ 0 nW).2 rfl
      simpa [Addr.add] using this
    obtain⟨els,hl,BF⟩:=p4 len key
    refine⟨[.fz els.flatten els.length false],⟨?_,trivial⟩,.inr ⟨els,rfl,by omega,fun el Kx=>?_⟩,by simp [Value.oneCell']⟩
    ·simp only [VR]
     refine⟨some a,cap,by rw [hl],by omega,by simp,.inl rfl,?_⟩
     by_cases Ib:els.flatten=[]
     ·exact .inl Ib
     ·have nW:0<len∧0<P.cellsOf e:=by
       cases els with
       | nil=>simp at Ib
       | cons el els=>
        refine⟨by simp at hl; omega,?_⟩
        rcases Nat.eq_zero_or_pos (P.cellsOf e) with h0 | h0
        ·exfalso
         apply Ib
         rw [List.flatten_eq_nil_iff]
         intro l nH
         obtain⟨i,hi⟩:=VA nH
         have:=(BF i l hi).1
         exact Vb (by omega)
        ·exact h0
      have Hi:a.spot=none:=by
       cases els with
       | nil=>simp at hl; omega
       | cons el els=>exact (BF 0 el rfl).2.2.2 rfl nW.2
      refine .inr ⟨a.block,a.off,?_,⟨fun id hl=>absurd hl (hnl id),fun h=>h.elim⟩,by simp,Cells.flatten els a.off fun i el hi=>⟨(BF i el hi).1,(BF i el hi).2.2.1⟩⟩
      cases a; simp at Hi; subst Hi; rfl
    ·obtain⟨i,hi⟩:=VA Kx
     exact⟨(BF i el hi).1,(BF i el hi).2.1⟩
   ·cases h
  ·
   rename_i fs
   simp only [Ux,beq_nat,decide_eq_true_eq,UN] at hB
   obtain⟨⟨M4,M8⟩,Ky⟩:=hB
   simp only [DataW.trod,hu] at h
   split at h
   rotate_left
   ·cases h
   rename_i hlen
   rw [Uv] at h
   obtain⟨xs,hx,_⟩:=h
   obtain⟨ys,h1,h2,h3⟩:=p5 (P:=P) (c:=c) (F:=Fits P m) (g:=fun t cs=>DataW.trod enc P c.w 0 sp held fuel t cs) (fun _ _ _ _ _ _=>trivial) fs.toList 0 cs xs M4
    (fun f hf cs x hx _=>pj vE m f.type fuel cs x.1 x.2 (Ky f hf) hx) hx (by omega)
   have ky:(cs.drop 0).take ((fs.toList.map fun f=>P.cellsOf f.type).sum)=cs:=by
    rw [Vd,←M8,←hlen,List.take_length]
   rw [ky] at h1 h3
   exact⟨ys,h1,h2,h3⟩
def iC (P:Program)(t:TypeId)(xs:List AV):AV:=
 match P.underlying t with
 | some (.struct _)=>.agg xs
 | _=>xs.headD .any
def om (P:Program)(m:Nat):List TypeId→List AV→Prop
 | [],[]=>True
 | t::ts,x::uR=>(∃xs,x=iC P t xs∧Fits P m t xs)∧om P m ts uR
 | _,_=>False
theorem BG {w:World}{m:Nat}{t:TypeId}{v:Value}{base:Nat}(hB:l8 P m t=true)(hs:∀fs,P.underlying t≠some (.struct fs))(h:Value.okWide P w .any base t v):v.cells.toList=[v]:=by
 cases m with
 | zero=>simp [l8] at hB
 | succ m=>
 unfold l8 at hB
 unfold Value.okWide at h
 cases hu:P.underlying t with
 | none=>rw [hu] at hB; cases hB
 | some td=>
 rw [hu] at hB h
 cases td<;>simp only at hB h<;>first
  | (cases hB; done)
  | (exact absurd hu (hs _))
  | (cases v<;>simp only [Cell.okWide,Cell.ok,hu] at h<;>first | (exact h.elim) | rfl | (simp [Value.cells]))
theorem Di (vE:∀id,c.h.get id=none){m:Nat}{t:TypeId}{v:Value}{d:DataW H}{ps:List MemPlace}{base:Nat}(hB:l8 P m t=true)(ho:Value.okWide P c.w .any base t v)(h:DataW.Trod enc P c.w 0 sp held t v d ps) :
  ∃xs,Fits P m t xs∧VR c none0 (iC P t xs) v:=by
 obtain⟨fuel,h⟩:=h
 obtain⟨xs,h1,h2,_⟩:=pj vE m t fuel _ d ps hB h
 refine⟨xs,h2,?_⟩
 by_cases hs:∃fs,P.underlying t=some (.struct fs)
 ·obtain⟨fs,hs⟩:=hs
  unfold Value.okWide at ho
  rw [hs] at ho
  obtain⟨cs,rfl,_⟩:=ho
  unfold iC
  rw [hs]
  simp only [VR]
  exact⟨cs,rfl,h1⟩
 ·have JG:∀fs,P.underlying t≠some (.struct fs):=fun fs h=>hs ⟨fs,h⟩
  have hc:=BG hB JG ho
  rw [hc] at h1
  have hx:iC P t xs=xs.headD .any:=by
   unfold iC
   split
   ·rename_i fs h; exact absurd h (JG fs)
   ·rfl
  rw [hx]
  cases xs with
  | nil=>exact h1.elim
  | cons x xs=>exact h1.1
theorem wD (vE:∀id,c.h.get id=none){m base:Nat}:∀(ts:List TypeId) (vs:List Value) (ds:List (DataW H)) (ps:List MemPlace),(∀t∈ts,l8 P m t=true)→(∀(j:Nat) t v,ts[j]? = some t→vs[j]? = some v→Value.okWide P c.w .any base t v)→
  DataW.TrodAll enc P c.w 0 sp held ts vs ds ps→∃uR,om P m ts uR∧VRs c none0 uR vs
 | [],[],[],_,_,_,_=>⟨[],trivial,trivial⟩
 | t::ts,v::vs,d::ds,ps,hB,ho,h=>by
  obtain⟨p,q,h1,h2,_⟩:=h
  obtain⟨xs,h3,h4⟩:=Di vE (hB t (by simp)) (ho 0 t v rfl rfl) h1
  obtain⟨uR,h5,h6⟩:=wD vE ts vs ds q (fun t ht=>hB t (by simp [ht])) (fun j t v hj hv=>ho (j+1) t v (by simpa using hj) (by simpa using hv)) h2
  exact⟨iC P t xs::uR,⟨⟨xs,rfl,h3⟩,h5⟩,h4,h6⟩
 | [],[],_::_,_,_,_,h=>h.elim
 | [],_::_,_,_,_,_,h=>by cases h
 | _::_,[],_,_,_,_,h=>by cases h
 | _::_,_::_,[],_,_,_,h=>by cases h
theorem j8 (hl:laidOutB P=true){W W':World}{PO:Nat→Bool}:∀{ts:List TypeId} {vs:List Value} {ds:List (DataW H)} {ps:List MemPlace},(∀t∈ts,P.readableRec t=true∧t<P.types.size)→
  DataW.TrodAll enc P W 0 (fun _=>true) true ts vs ds ps→(∀p∈ps,W.sameAt W' p)→(∀p∈ps,PO p.block=true)→DataW.TrodAll enc P W' 0 PO true ts vs ds ps
 | [],[],[],_,_,h,_,_=>h
 | t::ts,v::vs,d::ds,ps,hr,h,hs,hp=>by
  obtain⟨p,q,h1,h2,rfl⟩:=h
  exact⟨p,q,WideElems.Trod_stays hl (hr t (by simp)).1 (hr t (by simp)).2 h1 (fun x hx=>hs x (by simp [hx])) (fun x hx=>hp x (by simp [hx])),
   j8 hl (fun t ht=>hr t (by simp [ht])) h2 (fun x hx=>hs x (by simp [hx])) (fun x hx=>hp x (by simp [hx])),rfl⟩
 | [],[],_::_,_,_,h,_,_=>h.elim
 | [],_::_,_,_,_,h,_,_=>by cases h
 | _::_,[],_,_,_,h,_,_=>by cases h
 | _::_,_::_,[],_,_,h,_,_=>by cases h
theorem BH {f:Func}{s:ChangeSpec}{apart fresh handsOn again:Bool}{W W':World}{args:Array Value}{ds gs:List (DataW H)}{before:List MemPlace}{tb:TypeId}
  (hl:laidOutB P=true) (hr:∀t∈f.params.toList,P.readableRec t=true∧t<P.types.size) (hW:DataW.Whole enc P f.params.toList s.vars apart W args.toList ds gs before) (hv:s.vars=[])
  (Dj:f.resultTypes = #[tb]) (L2:P.underlying tb=some .bool) (Kz:(s.fn H (ds++gs))={results:=[.lit (.bool true)],args:=ds}) (hb:RowKit.Below W.heap.size W W') :
  s.post enc P f apart fresh handsOn again W args (.bool true) W':=by
 have hlt:=hW.lt
 have hW0:=hW
 obtain⟨p,q,hA,hV,PQ,hz,hn⟩:=hW
 rw [hv] at hV
 have M9:gs=[]∧q=[]:=by
  cases gs with
  | nil=>exact⟨rfl,hV⟩
  | cons g gs=>exact hV.elim
 obtain⟨rfl,rfl⟩:=M9
 have Na:before=p:=by simpa using PQ
 subst Na
 have Hj:∀x∈before,W.sameAt W' x:=fun x hx=>hb.same (hlt x hx)
 have KA:(Value.bool true).resultList f.resultTypes.size=[.bool true]:=by rw [Dj]; rfl
 have Hk:∀(b:Nat) (sp:Nat→Bool) (hd:Bool),DataW.TrodAll enc P W' b sp hd f.resultTypes.toList ((Value.bool true).resultList f.resultTypes.size) [.lit (.bool true)] []:=by
  intro b sp hd
  rw [KA,Dj]
  exact ChangeShapes.trodAll_mk1 (RowKit.shut_bool L2 true)
 refine⟨ds,[],before,[],before,[],hW0,?_,?_,?_,?_,fun _=>⟨?_,?_⟩⟩
 ·rw [Kz]; exact Hk _ _ _
 ·rw [Kz]
  exact j8 hl hr hA Hj (fun x hx=>by simpa using hlt x hx)
 ·rw [Kz,hv]; rfl
 ·exact hb.frame _
 ·exact RowKit.ok_one Dj rfl (RowKit.okWide_bool_mk L2 true)
 ·refine⟨_,[],before,⟨[]++before,[],ChangeShapes.trodAll_append (j8 hl hr hA Hj (fun _ _=>rfl)) (Hk 0 _ _),by rw [hv]; rfl,by simp,fun b off hx=>?_,hn⟩,fun p hp _=>hp⟩
  rw [hb.frozen (p:=⟨b,off,none⟩) (hlt _ hx)]
  exact hz b off hx
theorem Ext.below {c c':Cx}(e:Ext c none0 c' none0):RowKit.Below c.base c.w c'.w:=⟨e.os,e.tape,e.output,e.size,fun b hb=>e.exact b hb⟩
theorem sS {cf:CallF}{yr:FuncId}{f:Func}{s:ChangeSpec}{apart fresh handsOn again:Bool}{m:Nat}{tb:TypeId}
  (hl:laidOutB P=true) (hr:∀t∈f.params.toList,P.readableRec t=true∧t<P.types.size) (hB:∀t∈f.params.toList,l8 P m t=true) (hv:s.vars=[]) (Dj:f.resultTypes = #[tb]) (L2:P.underlying tb=some .bool)
  (Kz:∀ds:List (DataW H),ds.length=f.params.size→(s.fn H ds)={results:=[.lit (.bool true)],args:=ds})
  (hcf:∀uR,om P m f.params.toList uR→∃cf h',CallOK P cf∧cf yr uR bu=some (.bool true,h'))
  {W:World} {base:Nat} {args:Array Value} {ds gs:List (DataW H)} {before:List MemPlace} (dK:∀(j:Nat) t v,f.params[j]? = some t→args[j]? = some v→Value.okWide P W .any base t v)
  (hW:DataW.Whole enc P f.params.toList s.vars apart W args.toList ds gs before) :
  Calls P yr args W fun e W'=>∃v,e = .returned v∧s.post enc P f apart fresh handsOn again W args v W':=by
 have hW0:=hW
 obtain⟨p,q,hA,hV,PQ,_,_⟩:=hW
 let c:Cx:=⟨fun _=>(0,0),bu,W,W.heap.size⟩
 obtain⟨uR,h1,h2⟩:=wD (c:=c) (P:=P) (m:=m) (base:=base) (fun _=>rfl) f.params.toList args.toList ds p hB (fun j t v hj hv=>dK j t v (by simpa using hj) (by simpa using hv)) hA
 obtain⟨cf,h',nJ,Nb⟩:=hcf uR h1
 have hnl:∀id,¬Live c.h id:=fun id hl=>by have:=hl.2; cases this
 have hcall:=(nJ yr uR bu _ _ Nb).2 none0 c args.toList rfl (Uy _) ⟨fun id o ho=>(by cases ho),fun id o ho=>(by cases ho),fun id _ hl _ _=>absurd hl (hnl id),fun id hl=>absurd hl (hnl id),fun b hb=>hb.elim,fun id hl=>absurd hl (hnl id),fun _=>VS⟩ h2
 rw [Array.toArray_toList] at hcall
 have hlen:∀(ts:List TypeId) (vs:List Value) (ds:List (DataW H)) (p:List MemPlace),DataW.TrodAll enc P W 0 (fun _=>true) true ts vs ds p→ds.length=ts.length:=by
  intro ts
  induction ts with
  | nil=>intro vs ds p h; cases vs<;>cases ds<;>first | rfl | (cases h; done) | exact h.elim
  | cons t ts ih=>intro vs ds p h; cases vs<;>cases ds<;>first | (cases h; done) | (obtain⟨_,_,_,h2,_⟩:=h; simp [ih _ _ _ h2])
 have M9:gs=[]:=by
  rw [hv] at hV
  cases gs with
  | nil=>rfl
  | cons g gs=>exact hV.elim
 refine hcall.mono ?_
 rintro e w' ⟨c',v,rfl,rfl,hh,zn,hrel,HV⟩
 simp only [VR] at zn
 subst zn
 refine⟨_,rfl,BH hl hr hW0 hv Dj L2 ?_ HV.below⟩
 rw [M9,VT]
 exact Kz ds (by rw [hlen _ _ _ _ hA]; simp)
end
end Go.R
namespace Go.R
open Go
section
variable {P:Program}{cf:CallF}{aE ds:List Nat}{s:RS}{d:Option Tmp}{t:TypeId}{p:String}{a:Array Edge}{g:Option (Nat × Bool)}{ops:List Oper}{ρ:Nat→AV}{bx:Nat→Option (List AV)}{h:AHeap}
variable {A:bX}{m:Nat}{st:St}
end
end Go.R
namespace Go.R
open Go
def sub:List Nat→Code→Code
 | [],c=>c
 | 0::p,.seq a _=>sub p a
 | _::p,.seq _ b=>sub p b
 | 0::p,.cond _ a _=>sub p a
 | _::p,.cond _ _ b=>sub p b
 | _::p,.block _ a=>sub p a
 | _::p,.loop a=>sub p a
 | _,c=>c
def b8 (f:Func):Code:=f.body.getD .skip
end Go.R
namespace Go.R
open Go
section
variable (P:Program)
def bm (h:AHeap)(t:TypeId)(x:AV):Option AV:=jt P (fun _=>none) h t x
def iO (h:AHeap)(t:TypeId)(a x:AV):Option AHeap:=
 match a with
 | .ptr id off=>(h.get id).bind fun | .cells cs=>(gI P t cs off x).map fun eQ=>h.put id (.cells eQ) | _=>none
 | _=>none
def zK (cf:CallF)(f:AV)(as:List AV)(h:AHeap):Option (AV × AHeap):=
 match f with
 | .fn f cap=>if as.all AV.kj then cf f (as++cap) h else none
 | _=>none
def wE (h:AHeap)(cs:List AV):Option (AV × AHeap):=if cs.all AV.bP then some (.ptr h.next 0,h.alloc (.cells cs)) else none
def BI (aE:List Nat)(d:Option Nat):Bool:=match d with | some d=>!aE.contains d | none=>false
def Dk (aE:List Nat)(h:AHeap)(o:Oper)(t:TypeId)(x:Option AV):Option (AV × AHeap):=
 x.bind fun x=>(np P aE o t x).map fun (cs,n,z)=>(.rs h.next 0 n z,h.alloc (.cells cs))
def Ic (e:Operand→AV)(h:AHeap)(o:Oper)(z:AV):Prop:=
 match o.op with
 | .move x | .assign x=>e x=z
 | .load t a=>bm P h t (e a)=some z
 | .binOp op t x y _=>lO P op t (e x) (e y)=some z
 | .unOp op _ x=>((e x).fV.bind fun a=>(iq P (Op.unary op a)).bind nN)=some z
 | .convert a b x=>lN P h a b (e x)=some z
 | .slice t x lo hi mx=>kM P t (e x) (lo.map e) (hi.map e) (mx.map e)=some z
 | .indexAddr t x i=>eD P t (e x) (e i)=some z
 | .index t x i=>oV P t (e x) (e i)=some z
 | .lookup t m k ok=>fK P h t (e m) (e k) ok=some z
 | .call {callee:=.builtin .len,args,argTypes}=>match argTypes.toList,args.toList.map e with
  | [t],[x]=>q8 P h t x=some z
  | _,_=>False
 | _=>False
def Ie (cf:CallF)(aE:List Nat)(e:Operand→AV)(h:AHeap)(o:Oper)(z:AV)(h':AHeap):Prop:=
 match o.op with
 | .store t a x=>bif o.dst.isSome then False else iO P h t (e a) (e x)=some h'
 | .alloc t=>bif BI aE o.dst then (ir P t).bind (fun z=>wE h (yc aE o.dst z.cells))=some (z,h') else False
 | .box _ x=>bif BI aE o.dst then wE h (e x).cells=some (z,h') else False
 | .buildSlice t n ps=>Dk P aE h o t (gx P t n (ps.toList.map fun (i,x)=>(i,e x)))=some (z,h')
 | .makeMap _ none=>(AV.mp h.next,h.alloc (.map []))=(z,h')
 | .makeSlice t l c=>gy P h t (e l) (e c)=some (z,h')
 | .mapUpdate t m k x | .insert t m k x=>bif o.dst.isSome then False else iw P h t (e m) (e k) (e x)=some h'
 | .call {callee:=.builtin .append,args,argTypes}=>match argTypes.toList,args.toList.map e with
  | [t,t2],[x,y]=>dv P h t t2 x y=some (z,h')
  | _,_=>False
 | .call {callee:=.builtin .copy,args,argTypes}=>match argTypes.toList,args.toList.map e with
  | [t,t2],[x,y]=>pK P h t t2 x y=some (z,h')
  | _,_=>False
 | .call {callee:=.value f,args,..}=>bif JW aE o.dst then (zK cf (e f) (args.toList.map e) h).bind (fun x=>iU 0 x.2 x.1)=some (z,h') else zK cf (e f) (args.toList.map e) h=some (z,h')
 | .call {callee:=.builtin .clear,args,argTypes}=>match argTypes.toList,args.toList.map e with
  | [t],[x]=>(kO P h t x).map (fun h=>(AV.tup [],h))=some (z,h')
  | _,_=>False
 | _=>False
end
abbrev Fx:=List (Nat × AV × Option AHeap)
def qi (P:Program)(cf:CallF)(aE:List Nat)(ops:List Oper):RS→Nat→List Oper→Fx→Option (List lC × RS × Prop)
 | s,_,[],[]=>some ([],s,True)
 | _,_,[],_::_=>none
 | s,i,o::os,zs=>
  (gJ ops s.ρ o).bind fun w=>
   bif w then
    match zs with
    | []=>(um P cf aE (ops.filterMap (·.dst)) s o).bind fun s1=>(qi P cf aE ops s1 (i+1) os []).map fun (l,r,p)=>({o,f:=bc aE (bJ s.ρ) o,s,s':=s1}::l,r,p)
    | (j,z,oh)::tE=>
     bif U5 i j then
      match oh with
      | none=>(qi P cf aE ops (s.set o.dst z) (i+1) os tE).map fun (l,r,p)=>({o,f:=bc aE (bJ s.ρ) o,s,s':=s.set o.dst z}::l,r,Ic P (bJ s.ρ) s.h o z∧p)
      | some h'=>(qi P cf aE ops (({s with h:=h'}:RS).set o.dst z) (i+1) os tE).map fun (l,r,p)=>({o,f:=bc aE (bJ s.ρ) o,s,s':=({s with h:=h'}:RS).set o.dst z}::l,r,Ie P cf aE (bJ s.ρ) s.h o z h'∧p)
     else (um P cf aE (ops.filterMap (·.dst)) s o).bind fun s1=>(qi P cf aE ops s1 (i+1) os zs).map fun (l,r,p)=>({o,f:=bc aE (bJ s.ρ) o,s,s':=s1}::l,r,p)
   else (qi P cf aE ops (s.set o.dst (.tup [])) (i+1) os zs).map fun (l,r,p)=>({o,f:={},s,s':=s.set o.dst (.tup [])}::l,r,p)
section
variable {P:Program}{cf:CallF}{aE:List Nat}
theorem Dl {h:AHeap}{t:TypeId}{x z:AV}{bx:Nat→Option (List AV)}(hh:bm P h t x=some z):jt P bx h t x=some z:=by
 cases x<;>first | exact hh | (simp [bm,jt] at hh)
theorem F4 {s:RS}{o:Oper}{z:AV}(h:Ic P (bJ s.ρ) s.h o z)(ds:List Nat):um P cf aE ds s o=some (s.set o.dst z):=by
 unfold Ic at h
 unfold um yd
 dsimp only
 split at h
 ·rename_i ho; rw [ho]; simp only [h]
 ·rename_i ho; rw [ho]; simp only [h]
 ·rename_i ho; rw [ho]; simp only [Dl h,Uz]
 ·rename_i ho; rw [ho]; simp only [h,Uz]
 ·rename_i ho; rw [ho]; simp only [h,Uz]
 ·rename_i ho; rw [ho]; simp only [h,Uz]
 ·rename_i ho; rw [ho]; simp only [h,Uz]
 ·rename_i ho; rw [ho]; simp only [h,Uz]
 ·rename_i ho; rw [ho]; simp only [h,Uz]
 ·rename_i ho; rw [ho]; simp only [h,Uz]
 ·rename_i ho
  rw [ho]
  split at h
  ·rename_i h1 h2
   simp only [h1,h2,fF,h,Uz]
  ·exact h.elim
 ·exact h.elim
theorem wF {s:RS}{o:Oper}{cs:List AV}{z:AV}{h':AHeap}(hn:BI aE o.dst=true)(h:wE s.h cs=some (z,h'))(ds:List Nat):hY s aE ds o cs=some (({s with h:=h'}:RS).set o.dst z):=by
 unfold wE at h
 split at h
 rotate_left
 ·cases h
 rename_i nJ
 simp only [Uw,UB] at h
 obtain⟨rfl,rfl⟩:=h
 unfold hY
 rw [if_pos nJ]
 unfold BI at hn
 split at hn
 ·rename_i d hd
  rw [hd]
  have:aE.contains d=false:=by simpa using hn
  simp only [this,UE,if_false]
 ·cases hn
theorem F5 {s:RS}{o:Oper}{z:AV}{h':AHeap}(h:Ie P cf aE (bJ s.ρ) s.h o z h')(ds:List Nat):um P cf aE ds s o=some (({s with h:=h'}:RS).set o.dst z):=by
 unfold Ie at h
 unfold um yd
 dsimp only
 split at h
 ·rename_i t a x ho
  rw [ho]
  cases hd:o.dst with
  | some d=>rw [hd] at h; exact h.elim
  | none=>
   rw [hd] at h
   simp only [VN,cond_false] at h
   simp only [VN,UE,if_false]
   unfold iO at h
   split at h
   ·rename_i id off he
    rw [he]
    simp only [Ut] at h ⊢
    obtain⟨ob,hob,h⟩:=h
    refine⟨ob,hob,?_⟩
    split at h
    ·rw [Uv] at h ⊢
     obtain⟨eQ,hcs,rfl⟩:=h
     exact⟨eQ,hcs,rfl⟩
    ·cases h
   ·cases h
 ·rename_i t ho
  rw [ho]
  cases hn:BI aE o.dst with
  | false=>rw [hn] at h; exact h.elim
  | true=>
   rw [hn] at h
   simp only [cond_true,Ut] at h
   obtain⟨z0,h1,h2⟩:=h
   simp only [h1,Uu]
   exact wF hn h2 ds
 ·rename_i t x ho
  rw [ho]
  cases hn:BI aE o.dst with
  | false=>rw [hn] at h; exact h.elim
  | true=>
   rw [hn] at h
   exact wF hn h ds
 ·rename_i t n ps ho
  rw [ho]
  unfold Dk at h
  simp only [Ut,Uv] at h
  obtain⟨x,hx,⟨cs,k,q⟩,ht,he⟩:=h
  simp only [UB] at he
  obtain⟨rfl,rfl⟩:=he
  simp only [hx,Uz,oX,ht]
 ·rename_i ho
  rw [ho]
  simp only [UB] at h
  obtain⟨rfl,rfl⟩:=h
  rfl
 ·rename_i ho; rw [ho]; simp only [h,Uz]
 ·rename_i t m k x ho
  rw [ho]
  cases hd:o.dst with
  | some d=>rw [hd] at h; exact h.elim
  | none=>
   rw [hd] at h
   simp only [VN,cond_false] at h
   simp only [VN,UE,if_false,h,Uz]
   rfl
 ·rename_i t m k x ho
  rw [ho]
  cases hd:o.dst with
  | some d=>rw [hd] at h; exact h.elim
  | none=>
   rw [hd] at h
   simp only [VN,cond_false] at h
   simp only [VN,UE,if_false,h,Uz]
   rfl
 ·rename_i ho
  rw [ho]
  split at h
  ·rename_i h1 h2
   simp only [h1,h2,fF,h,Uz]
  ·exact h.elim
 ·rename_i ho
  rw [ho]
  split at h
  ·rename_i h1 h2
   simp only [h1,h2,fF,h,Uz]
  ·exact h.elim
 ·rename_i f args zE ho
  rw [ho]
  have key:∀{x:AV × AHeap},zK cf (bJ s.ρ f) (args.toList.map (bJ s.ρ)) s.h=some x→uk aE o.dst x=some (z,h')→
    (match bJ s.ρ f with
     | .fn f cap=>if (args.toList.map (bJ s.ρ)).all AV.kj then ((cf f (args.toList.map (bJ s.ρ)++cap) s.h).bind (uk aE o.dst)).map fun (r,h)=>({s with h}:RS).set o.dst r else none
     | _=>none)=some (({s with h:=h'}:RS).set o.dst z):=by
   intro x hx hm
   unfold zK at hx
   split at hx
   ·rename_i g cap he
    try rw [he]
    try dsimp only
    split at hx
    ·rename_i nJ
     simp only [nJ,if_true,hx,Uu,hm,Uz]
    ·cases hx
   ·cases hx
  cases hm:JW aE o.dst with
  | false=>
   rw [hm,cond_false] at h
   exact key h (by unfold uk; rw [hm]; rfl)
  | true=>
   rw [hm,cond_true,Ut] at h
   obtain⟨x,h1,h2⟩:=h
   exact key h1 (by unfold uk; rw [hm,cond_true]; exact h2)
 ·rename_i ho
  rw [ho]
  split at h
  ·rename_i h1 h2
   rw [Uv] at h
   obtain⟨g,hg,he⟩:=h
   simp only [UB] at he
   obtain⟨rfl,rfl⟩:=he
   simp only [h1,h2,fF,hg,Uz]
  ·exact h.elim
 ·exact h.elim
theorem uS {ops:List Oper}:∀{l:List Oper} {s r:RS} {i:Nat} {zs:Fx} {es:List lC} {p:Prop},qi P cf aE ops s i l zs=some (es,r,p)→p→nP P cf aE ops s l=some (es,r)∧qa P cf aE ops s l=some r
 | [],s,r,i,[],es,p,h,_=>by
  simp only [qi,Uw,UB] at h
  obtain⟨rfl,rfl,rfl⟩:=h
  exact⟨rfl,rfl⟩
 | [],s,r,i,_::_,es,p,h,_=>by simp [qi] at h
 | o::os,s,r,i,zs,es,p,h,hp=>by
  simp only [qi,Ut] at h
  obtain⟨w,hw,h⟩:=h
  have fin:∀(s1:RS) (l:List lC) (tE:Fx) (q:Prop),(if w then um P cf aE (ops.filterMap (·.dst)) s o else some (s.set o.dst (.tup [])))=some s1→qi P cf aE ops s1 (i+1) os tE=some (l,r,q)→q→
    nP P cf aE ops s (o::os)=some ({o,f:=if w then bc aE (bJ s.ρ) o else {},s,s':=s1}::l,r)∧qa P cf aE ops s (o::os)=some r:=by
   intro s1 l tE q h1 h2 hq
   obtain⟨h3,h4⟩:=uS h2 hq
   refine⟨?_,?_⟩
   ·simp only [nP,hw,Uu,h1,h3,Uz]
   ·simp only [qa,lP,hw,Uu,h1,h4]
  cases w with
  | false=>
   simp only [cond_false,Uv] at h
   obtain⟨⟨l,r',q⟩,h2,he⟩:=h
   simp only [UB] at he
   obtain⟨rfl,rfl,rfl⟩:=he
   simpa using fin _ l zs q (by simp) h2 hp
  | true=>
   simp only [cond_true] at h
   split at h
   ·simp only [Ut,Uv] at h
    obtain⟨s1,h1,⟨l,r',q⟩,h2,he⟩:=h
    simp only [UB] at he
    obtain⟨rfl,rfl,rfl⟩:=he
    simpa using fin _ l [] q (by simpa using h1) h2 hp
   ·rename_i j z oh tE
    cases hj:U5 i j with
    | false=>
     rw [hj] at h
     simp only [cond_false,Ut,Uv] at h
     obtain⟨s1,h1,⟨l,r',q⟩,h2,he⟩:=h
     simp only [UB] at he
     obtain⟨rfl,rfl,rfl⟩:=he
     simpa using fin _ l _ q (by simpa using h1) h2 hp
    | true=>
     rw [hj] at h
     simp only [cond_true] at h
     split at h
     ·simp only [Uv] at h
      obtain⟨⟨l,r',q⟩,h2,he⟩:=h
      simp only [UB] at he
      obtain⟨rfl,rfl,rfl⟩:=he
      simpa using fin _ l _ q (by simpa using F4 hp.1 _) h2 hp.2
     ·simp only [Uv] at h
      obtain⟨⟨l,r',q⟩,h2,he⟩:=h
      simp only [UB] at he
      obtain⟨rfl,rfl,rfl⟩:=he
      simpa using fin _ l _ q (by simpa using F5 hp.1 _) h2 hp.2
end
def qm (s:RS):List (Nat × Option Nat × Nat)→List (AV × AHeap)→Option (RS × Prop)
 | [],_=>some (s,True)
 | (t,i,k)::ps,zs=>
  match i with
  | none=>
   match k,s.ρ t,zs with
   | 0,.rs id off n z,(y,h')::tE=>(qm {s with h:=h',ρ:=fun u=>bif U5 u t then y else s.ρ u} ps tE).map fun (r,p)=>(r,iU 0 s.h (.rs id off n z)=some (y,h')∧p)
   | k,x,zs=>(iU k s.h x).bind fun (y,h')=>qm {s with h:=h',ρ:=fun u=>bif U5 u t then y else s.ρ u} ps zs
  | some i=>
   match s.bx t with
   | some cs=>(cs[i]?).bind fun x=>
    match k,x,zs with
    | 0,.rs id off n z,(y,h')::tE=>(qm {s with h:=h',bx:=fun u=>bif U5 u t then some (cs.set i y) else s.bx u} ps tE).map fun (r,p)=>(r,iU 0 s.h (.rs id off n z)=some (y,h')∧p)
    | k,x,zs=>(iU k s.h x).bind fun (y,h')=>qm {s with h:=h',bx:=fun u=>bif U5 u t then some (cs.set i y) else s.bx u} ps zs
   | none=>none
theorem qS:∀{ps:List (Nat × Option Nat × Nat)} {s r:RS} {zs:List (AV × AHeap)} {p:Prop},qm s ps zs=some (r,p)→p→km s ps=some r
 | [],s,r,zs,p,h,_=>by
  simp only [qm,Uw,UB] at h
  obtain⟨rfl,rfl⟩:=h
  rfl
 | (t,i,k)::ps,s,r,zs,p,h,hp=>by
  cases i with
  | none=>
   have fin:∀(y:AV) (h':AHeap) (tE:List (AV × AHeap)) (q:Prop),iU k s.h (s.ρ t)=some (y,h')→qm {s with h:=h',ρ:=fun u=>bif U5 u t then y else s.ρ u} ps tE=some (r,q)→q→km s ((t,none,k)::ps)=some r:=by
    intro y h' tE q h1 h2 hq
    simp only [km,ur,h1,Uz,Uu]
    exact qS h2 hq
   simp only [qm] at h
   split at h
   ·rename_i id off n z y h' tE hx
    rw [Uv] at h
    obtain⟨⟨r',q⟩,h2,he⟩:=h
    simp only [UB] at he
    obtain⟨rfl,rfl⟩:=he
    exact fin y h' tE q (by rw [hx]; exact hp.1) h2 hp.2
   ·rw [Ut] at h
    obtain⟨⟨y,h'⟩,h1,h2⟩:=h
    exact fin y h' _ p h1 h2 hp
  | some i=>
   simp only [qm] at h
   split at h
   rotate_left
   ·cases h
   rename_i cs hcs
   rw [Ut] at h
   obtain⟨x,hx,h⟩:=h
   have fin:∀(y:AV) (h':AHeap) (tE:List (AV × AHeap)) (q:Prop),iU k s.h x=some (y,h')→qm {s with h:=h',bx:=fun u=>bif U5 u t then some (cs.set i y) else s.bx u} ps tE=some (r,q)→q→km s ((t,some i,k)::ps)=some r:=by
    intro y h' tE q h1 h2 hq
    simp only [km,ur,hcs,hx,Uu,h1,Uz]
    exact qS h2 hq
   split at h
   ·rename_i id off n z y h' tE
    rw [Uv] at h
    obtain⟨⟨r',q⟩,h2,he⟩:=h
    simp only [UB] at he
    obtain⟨rfl,rfl⟩:=he
    exact fin y h' tE q hp.1 h2 hp.2
   ·rw [Ut] at h
    obtain⟨⟨y,h'⟩,h1,h2⟩:=h
    exact fin y h' _ p h1 h2 hp
def lC.qT (x y:lC):Bool:=
 (match x.f.wb with
  | some k=>!y.f.rb.contains k&&y.f.wb != some k
  | none=>true) &&
 (!x.f.wh||(!y.f.wh&&y.f.rh.isEmpty))
def Dm (ops:List Oper)(arr:Array Oper)(s:RS)(es:List lC):Bool:=
 let ms:=jf [] ops
 mF arr ms &&
  (let is:=es.zipIdx
   let uq:=is.filter fun (x,_)=>!x.f.quiet
   uq.all (fun (x,i)=>qN ms (ops.filterMap (·.dst)) s is x i&&uq.all fun (y,j)=>VP j i||(ms.getD j 0).testBit i||(x.qT y&&y.qT x)))
theorem rP {x y:lC}(h:x.qT y=true):x.je y=true:=by
 unfold lC.qT at h
 unfold lC.je
 simp only [Ux,Ve] at h ⊢
 refine⟨h.1,h.2.imp id fun ⟨h1,h2⟩=>⟨h1,?_⟩⟩
 rw [List.isEmpty_iff] at h2
 rw [h2]; rfl
theorem F6 {P:Program}{cf:CallF}{aE:List Nat}{ops:Array Oper}{s r:RS}{es:List lC}(h:Dm ops.toList ops s es=true)(hr:nP P cf aE ops.toList s ops.toList=some (es,r)):ju P cf aE ops s=some r:=by
 unfold Dm at h
 simp only [Ux] at h
 obtain⟨h1,h2⟩:=h
 unfold ju
 simp only [h1,if_true,hr,Uu]
 rw [if_pos]
 rw [UN] at h2 ⊢
 intro x hx
 have:=h2 x hx
 simp only [Ux] at this ⊢
 refine⟨this.1,?_⟩
 have h3:=this.2
 rw [UN] at h3 ⊢
 intro y hy
 have:=h3 y hy
 simp only [Ve,Ux] at this ⊢
 exact this.imp id fun h=>⟨rP h.1,rP h.2⟩
def l9 (P:Program)(cf:CallF)(A:bX)(c:Code)(fs:List (AV × AHeap))(zs:Fx)(st:St):Option (Prop × St):=
 match c with
 | .region id ops draw=>(qm (st.open A) (fL id A.FF) fs).bind fun (s0,p0)=>(qi P cf A.aE ops.toList s0 0 ops.toList zs).bind fun (es,r,p)=>
   bif draw && !(Dm ops.toList ops s0 es) then none else (km r (fL id A.ye)).map fun r2=>(p0∧p,r2.lQ A id)
 | _=>none
theorem Dn {P:Program}{cf:CallF}{A:bX}{m:Nat}{c:Code}{fs:List (AV × AHeap)}{zs:Fx}{st iW:St}{p:Prop}(h:l9 P cf A c fs zs st=some (p,iW))(hp:p):bI P cf A m c st=some (.norm,iW):=by
 unfold l9 at h
 split at h
 rotate_left
 ·cases h
 rename_i id ops draw
 simp only [Ut] at h
 obtain⟨⟨s0,p0⟩,h0,⟨es,r,q⟩,h1,h⟩:=h
 have hd:∃r2,(draw=true→Dm ops.toList ops s0 es=true)∧km r (fL id A.ye)=some r2∧p=(p0∧q)∧iW=r2.lQ A id:=by
  cases hc:(draw && !(Dm ops.toList ops s0 es)) with
  | true=>simp only [hc,cond_true] at h; cases h
  | false=>
   simp only [hc,cond_false,Uv,UB] at h
   obtain⟨r2,h2,h3,h4⟩:=h
   refine⟨r2,fun Bz=>?_,h2,h3.symm,h4.symm⟩
   simpa [Bz] using hc
 obtain⟨r2,Bz,h2,rfl,rfl⟩:=hd
 obtain⟨g1,g2⟩:=uS h1 hp.2
 have g0:=qS h0 hp.1
 simp only [bI,g0,Uu]
 cases draw with
 | false=>simp only [UE,if_false,g2,Uu,h2,Uz]
 | true=>simp only [if_true,F6 (Bz rfl) g1,Uu,h2,Uz]
end Go.R
namespace Go.R
open Go
def dj (P:Program)(cf:CallF)(A:bX)(m:Nat)(c:Code)(s:St)(Q:Ex→St→Prop):Prop:=∃e s',bI P cf A m c s=some (e,s')∧Q e s'
def If (R:St→Prop)(Q:Ex→St→Prop):Ex→St→Prop
 | .norm,s=>R s
 | .exit i,s=>Q (.exit i) s
 | .ret,s=>Q .ret s
def Nc (id:Nat)(Q:Ex→St→Prop):Ex→St→Prop
 | .norm,s=>Q .norm s
 | .exit i,s=>bif U5 i id then Q .norm s else Q (.exit i) s
 | .ret,s=>Q .ret s
section
variable {P:Program}{cf:CallF}{A:bX}{m:Nat}{s:St}{Q:Ex→St→Prop}
theorem wG {a b:Code}(h:dj P cf A m a s (If (fun s'=>dj P cf A m b s' Q) Q)):dj P cf A m (.seq a b) s Q:=by
 obtain⟨e,s',h1,h2⟩:=h
 cases e with
 | norm=>
  obtain⟨e2,s2,h3,h4⟩:=h2
  exact⟨e2,s2,by simp only [bI,h1,Uu,h3],h4⟩
 | exit i=>exact⟨_,s',by simp only [bI,h1,Uu],h2⟩
 | ret=>exact⟨_,s',by simp only [bI,h1,Uu],h2⟩
theorem yz {id:Nat}{a:Code}(h:dj P cf A m a s (Nc id Q)):dj P cf A m (.block id a) s Q:=by
 obtain⟨e,s',h1,h2⟩:=h
 cases e with
 | norm=>exact⟨_,s',by simp only [bI,h1,Uz],h2⟩
 | exit i=>
  simp only [Nc,beq_nat] at h2
  by_cases hi:i=id
  ·simp only [hi,decide_true,cond_true] at h2
   exact⟨_,s',by simp only [bI,h1,Uz,hi,if_true],h2⟩
  ·simp only [hi,decide_false,cond_false] at h2
   exact⟨_,s',by simp only [bI,h1,Uz,hi,if_false],h2⟩
 | ret=>exact⟨_,s',by simp only [bI,h1,Uz],h2⟩
theorem wH {c:Code}{fs:List (AV × AHeap)}{zs:Fx}{iW:St}{p:Prop}(h:l9 P cf A c fs zs s=some (p,iW))(hp:p)(hQ:Q .norm iW):dj P cf A m c s Q:=
 ⟨_,_,Dn h hp,hQ⟩
theorem BJ (h:Q .norm s):dj P cf A m .skip s Q:=⟨_,_,rfl,h⟩
theorem Dp (h:Q .ret s):dj P cf A m .ret s Q:=⟨_,_,rfl,h⟩
theorem BK {i:Nat}(h:Q (.exit i) s):dj P cf A m (.exit i) s Q:=⟨_,_,rfl,h⟩
theorem pk {k:Operand}{x y:Code}(b:Bool)(hk:bJ (s.open A).ρ k = .bool b)(ht:b=true→dj P cf A m x s Q)(hf:b=false→dj P cf A m y s Q):dj P cf A m (.cond k x y) s Q:=by
 cases b with
 | true=>
  obtain⟨e,s',h1,h2⟩:=ht rfl
  exact⟨e,s',by simp only [bI,hk,re,Uu,if_true,h1],h2⟩
 | false=>
  obtain⟨e,s',h1,h2⟩:=hf rfl
  exact⟨e,s',by simp only [bI,hk,re,Uu,UE,if_false,h1],h2⟩
def Dq {S O:Type}(l:Nat→S→Option O)(Rel:S→St→Prop)(QO:O→Ex→St→Prop)(k:Nat)(out:O):Ex→St→Prop
 | .norm,s=>∃σ,Rel σ s∧l k σ=some out
 | .exit i,s=>QO out (.exit i) s
 | .ret,s=>QO out .ret s
theorem rQ {S O:Type}{l:Nat→S→Option O}{Rel:S→St→Prop}{QO:O→Ex→St→Prop}{body:Code}(h0:∀σ,l 0 σ=none)
  (step:∀k σ s out,Rel σ s→l (k+1) σ=some out→dj P cf A m body s (Dq l Rel QO k out)):∀(n:Nat) (σ:S) (s:St) (out:O),Rel σ s→l n σ=some out→∃e s',kn (bI P cf A m body) n s=some (e,s')∧e≠.norm∧QO out e s'
 | 0,σ,s,out,_,h=>by rw [h0] at h; cases h
 | n+1,σ,s,out,hr,h=>by
  obtain⟨e,s',h1,h2⟩:=step n σ s out hr h
  cases e with
  | norm=>
   obtain⟨σ',h3,h4⟩:=h2
   obtain⟨e',R7,h5,h6⟩:=rQ h0 step n σ' s' out h3 h4
   exact⟨e',R7,by simp only [kn,h1,Uu,h5],h6⟩
  | exit i=>exact⟨_,s',by simp only [kn,h1,Uu],by simp,h2⟩
  | ret=>exact⟨_,s',by simp only [kn,h1,Uu],by simp,h2⟩
theorem BL {S O:Type}(l:Nat→S→Option O)(Rel:S→St→Prop)(QO:O→Ex→St→Prop){body:Code}(h0:∀σ,l 0 σ=none)
  (step:∀k σ s out,Rel σ s→l (k+1) σ=some out→dj P cf A m body s (Dq l Rel QO k out)) {σ:S} {out:O} (hr:Rel σ s) (h:l m σ=some out) (hQ:∀e s',e≠.norm→QO out e s'→Q e s'):dj P cf A m (.loop body) s Q:=by
 obtain⟨e,s',h1,h2,h3⟩:=rQ h0 step m σ s out hr h
 exact⟨e,s',by simp only [bI,h1],hQ e s' h2 h3⟩
theorem uT {aV:FuncId→bX}{f:FuncId}{fn:Func}{args:List AV}{h:AHeap}{R:AV→AHeap→Prop}(hf:P.funcs[f]? = some fn)(hb:fn.body=some (b8 fn))(hn:VP args.length fn.ntmps=true)
  (he:dj P cf (aV f) m (b8 fn) ⟨lR (aV f).keep args,(aV f).aE.map fun _=>none,h⟩ (fun e s=>(e = .ret∨e = .norm)∧∃r,aM P (s.open (aV f)) fn.results.toList=some r∧R r s.h)) :
  ∃r h',a7 P aV cf m f args h=some (r,h')∧R r h':=by
 obtain⟨e,s,h1,h2,r,h3,h4⟩:=he
 refine⟨r,s.h,?_,h4⟩
 unfold a7
 rw [hf,Uu,hb,Uu,if_pos (Nat.le_of_ble_eq_true hn),h1,Uu]
 rcases h2 with rfl | rfl<;>simp only [h3,Uz]
end
end Go.R
namespace Go.R
open Go
structure bL (α:Type) where
 n:Nat
 f:α→List AV
 len:∀a,(f a).length=n
 pos:n≠0
 small:n≤1024:=by decide
 flat:Bool:=true
 pure:∀a,flat=true→cC (f a)=true∧dk (f a)=f a
 canon:∀a,(f a).map js=f a
section
variable {α:Type}(E:bL α)
def bL.l (l:List α):List AV:=l.flatMap E.f
def bL.fz (l:List α):AV:=.fz (E.l l) l.length false
variable {E}
theorem bL.eo {a:α}{l:List α}:E.l (a::l)=E.f a++E.l l:=rfl
theorem bL.Hl:E.l []=[]:=rfl
theorem bL.gW {a b:List α}:E.l (a++b)=E.l a++E.l b:=by simp [bL.l]
theorem bL.bK:∀{l:List α},(E.l l).length=l.length*E.n
 | []=>by simp [bL.l]
 | a::l=>by rw [bL.eo,UD,E.len,bL.bK,UI,VE,Nat.one_mul,VZ]
theorem bL.mL {l:List α}(h:l.length≤1099511627776):(E.l l).length≤1125899906842624:=by
 rw [bL.bK]
 exact Vj (Nat.mul_le_mul h E.small) (by decide)
theorem bL.uU:∀{l:List α} {i:Nat},(E.l l).drop (i*E.n)=E.l (l.drop i)
 | l,0=>by simp
 | [],i+1=>by simp [bL.l]
 | a::l,i+1=>by
  rw [List.drop_succ_cons,←bL.uU,bL.eo,VE,Nat.one_mul,List.drop_append,List.drop_of_length_le (by rw [E.len]; omega),U7,E.len,Nat.add_sub_cancel]
theorem bL.Dr:∀{l:List α} {i:Nat},(E.l l).take (i*E.n)=E.l (l.take i)
 | l,0=>by simp [bL.l]
 | [],i+1=>by simp [bL.l]
 | a::l,i+1=>by
  rw [bL.eo,List.take_succ_cons,bL.eo,VE,Nat.one_mul,VZ,List.take_append]
  rw [E.len,Va (by rw [E.len]; omega),VJ,bL.Dr]
theorem bL.Hm {l:List α}{i:Nat}{a:α}(h:l[i]? = some a){off:Nat}(ho:off<E.n):(E.l l)[i*E.n+off]? = (E.f a)[off]?:=by
 rw [←List.getElem?_drop,bL.uU,UH (UA.1 h).1,(UA.1 h).2,bL.eo,UJ (by rw [E.len]; exact ho)]
theorem bL.Ds {l:List α}{i:Nat}{a:α}(h:l[i]? = some a):((E.l l).drop (i*E.n)).take E.n=E.f a:=by
 rw [bL.uU,UH (UA.1 h).1,(UA.1 h).2,bL.eo,U4 (by rw [E.len]; exact Uy _)]
 rw [Va (by rw [E.len]; exact Uy _)]
theorem bL.yA {l:List α}{i:Nat}{a:α}(h:l[i]? = some a):i*E.n+E.n≤(E.l l).length:=by
 rw [bL.bK]
 have:=(UA.1 h).1
 calc i*E.n+E.n=(i+1)*E.n:=by rw [VE,Nat.one_mul]
  _≤_:=Vm _ this
theorem oo:∀{a b:List AV},cC (a++b)=(cC a&&cC b)
 | [],b=>by simp [cC]
 | x::a,b=>by simp [cC,oo,Bool.and_assoc]
theorem ot:∀{a b:List AV},dk (a++b)=dk a++dk b
 | [],b=>rfl
 | x::a,b=>by simp [dk,ot]
theorem bL.nz (hp:E.flat=true):∀{l:List α},cC (E.l l)=true∧dk (E.l l)=E.l l
 | []=>⟨rfl,rfl⟩
 | a::l=>by
  obtain⟨h1,h2⟩:=E.pure a hp
  obtain⟨h3,h4⟩:=bL.nz hp (l:=l)
  rw [bL.eo,oo,ot,h1,h2,h3,h4]
  exact⟨rfl,rfl⟩
theorem bL.zL:∀{l:List α},(E.l l).map js=E.l l
 | []=>rfl
 | a::l=>by rw [bL.eo,U0,E.canon,bL.zL]
theorem bL.bD {l:List α}(hp:E.flat=true:=by rfl):(E.fz l).dO=true∧(E.fz l).jd=E.fz l:=by
 obtain⟨h1,h2⟩:=bL.nz (E:=E) hp (l:=l)
 exact⟨h1,by show AV.fz (dk (E.l l)) l.length false=_; rw [h2]; rfl⟩
theorem gX:∀(cs vs pre Ig:List AV),cs.length=vs.length→da (pre++cs++Ig) pre.length vs=pre++vs++Ig
 | [],[],pre,Ig,_=>by simp [da]
 | c::cs,v::vs,pre,Ig,h=>by
  have:=gX cs vs (pre++[v]) Ig (by simpa using h)
  simp only [UD,UI,UW,UR] at this
  rw [da]
  have h2:(pre++c::cs++Ig).set pre.length v=pre++[v]++cs++Ig:=by
   rw [UK,List.set_append_right _ _ (Uy _),V3]
   simp
  rw [h2,this]
  simp
 | [],_::_,_,_,h=>by simp at h
 | _::_,[],_,_,h=>by simp at h
theorem bL.KB {l:List α}{i:Nat}{a b:α}(h:l[i]? = some a)(rest:List AV):da (E.l l++rest) (i*E.n) (E.f b)=E.l (l.set i b)++rest:=by
 have hi:=(UA.1 h).1
 have hl:l=l.take i++a::l.drop (i+1):=by
  conv=>lhs; rw [←VF i l,UH hi]
  rw [(UA.1 h).2]
 have hs:l.set i b=l.take i++b::l.drop (i+1):=List.set_eq_take_append_cons_drop .. |>.trans (by rw [if_pos hi])
 have e1:E.l l=E.l (l.take i)++E.f a++E.l (l.drop (i+1)):=by
  conv=>lhs; rw [hl]
  rw [bL.gW,bL.eo,UK]
 have e2:(E.l (l.take i)).length=i*E.n:=by rw [bL.bK,Vz,VQ (Nat.le_of_lt hi)]
 rw [hs,bL.gW,bL.eo,e1,←e2]
 have:=gX (E.f a) (E.f b) (E.l (l.take i)) (E.l (l.drop (i+1))++rest) (by rw [E.len,E.len])
 simp only [UK] at this ⊢
 exact this
theorem bL.Ih {l:List α}{i:Nat}{a b:α}{off:Nat}{v:AV}(h:l[i]? = some a)(ho:off<E.n)(hb:(E.f a).set off v=E.f b)(rest:List AV):(E.l l++rest).set (i*E.n+off) v=E.l (l.set i b)++rest:=by
 have hi:=(UA.1 h).1
 have hl:l=l.take i++a::l.drop (i+1):=by
  conv=>lhs; rw [←VF i l,UH hi]
  rw [(UA.1 h).2]
 have hs:l.set i b=l.take i++b::l.drop (i+1):=List.set_eq_take_append_cons_drop .. |>.trans (by rw [if_pos hi])
 have e1:E.l l=E.l (l.take i)++(E.f a++E.l (l.drop (i+1))):=by
  conv=>lhs; rw [hl]
  rw [bL.gW,bL.eo]
 have e2:(E.l (l.take i)).length=i*E.n:=by rw [bL.bK,Vz,VQ (Nat.le_of_lt hi)]
 rw [hs,bL.gW,bL.eo,e1,←hb,←e2]
 simp only [UK]
 rw [List.set_append_right _ _ (by omega),List.set_append_left _ _ (by rw [E.len]; omega)]
 congr 2
 simp
end
def ix {α:Type}(l:List α)(i:Int):Option α:=if 0≤i then l[i.toNat]? else none
theorem gL {α:Type}{l:List α}{i:Int}{a:α}(h:ix l i=some a):0≤i∧i<l.length∧l[i.toNat]? = some a:=by
 unfold ix at h
 split at h
 ·rename_i h0
  have:=(UA.1 h).1
  exact⟨h0,by omega,h⟩
 ·cases h
def Hn {α:Type}(l:List α)(lo hi:Int):Option (List α):=if 0≤lo∧lo≤hi∧hi≤l.length then some ((l.drop lo.toNat).take (hi.toNat - lo.toNat)) else none
theorem wI {α:Type}{l r:List α}{lo hi:Int}(h:Hn l lo hi=some r):0≤lo∧lo≤hi∧hi≤l.length∧r=(l.drop lo.toNat).take (hi.toNat - lo.toNat):=by
 unfold Hn at h
 split at h
 ·rename_i h0; cases h; exact⟨h0.1,h0.2.1,h0.2.2,rfl⟩
 ·cases h
def bt (s:ByteArray)(i:Int):Option Int:=if 0≤i then (s.data.toList[i.toNat]?).map fun b=>(b.toNat:Int) else none
inductive Ct where
 | sl (n sz:Nat) (cs:List AV)
 | ob (cs:List AV)
 | mp (es:List (AV × AV))
 | row (e:TypeId) (cs:List AV)
def BM (h:AHeap)(i:Nat):Ct→Prop
 | .sl n sz cs=>(cs.length=n*sz∧cs.length≤1125899906842624)∧((i=0∧n=0)∨(i≠0∧∃rest,h.get i=some (.cells (cs++rest))))
 | .ob cs=>i≠0∧h.get i=some (.cells cs)
 | .mp es=>i≠0∧h.get i=some (.map es)
 | .row e cs=>i≠0∧h.get i=some (.row e cs)
abbrev Mem:=List (Nat × Ct)
structure Has (h:AHeap)(K:Mem):Prop where
 at_:∀(j i:Nat) (c:Ct),K[j]? = some (i,c)→BM h i c∧i<h.next
 nd:∀(j j' i:Nat) (c c':Ct),K[j]? = some (i,c)→K[j']? = some (i,c')→i≠0→j=j'
 pos:0<h.next
theorem nA {h h':AHeap}{i:Nat}{c:Ct}(hg:i≠0→h'.get i=h.get i)(h1:BM h i c):BM h' i c:=by
 cases c with
 | sl n sz cs=>
  obtain⟨h2,h3⟩:=h1
  refine⟨h2,h3.imp id fun ⟨h4,r,h5⟩=>⟨h4,r,(hg h4).trans h5⟩⟩
 | ob cs=>exact⟨h1.1,(hg h1.1).trans h1.2⟩
 | mp es=>exact⟨h1.1,(hg h1.1).trans h1.2⟩
 | row e cs=>exact⟨h1.1,(hg h1.1).trans h1.2⟩
theorem cR (h:AHeap)(id k:Nat)(o:AObj):(h.put id o).get k=if k=id then some o else h.get k:=by
 simp only [AHeap.put,beq_nat]
 by_cases hk:k=id<;>simp [hk]
theorem wJ (h:AHeap)(id k:Nat):(h.kill id).get k=if k=id then none else h.get k:=by
 simp only [AHeap.kill,beq_nat]
 by_cases hk:k=id<;>simp [hk]
theorem Has.Dt {h h':AHeap}{K:Mem}(o:Has h K){j i:Nat}{c:Ct}(hj:K[j]? = some (i,c)){i':Nat}{c':Ct}
  (hg:∀k,k≠i→k<h.next→h'.get k=h.get k) (hn:h.next≤h'.next) (hi:i'=i∨i'=0∨h.next≤i') (hlt:i'<h'.next) (hc:BM h' i' c'):Has h' (K.set j (i',c')):=by
 refine⟨fun q k d hq=>?_,fun q q' k d d' hq uB hk=>?_,US o.pos hn⟩
 ·rw [VW] at hq
  by_cases h1:j=q
  ·subst h1
   rw [if_pos rfl] at hq
   split at hq
   ·cases hq; exact⟨hc,hlt⟩
   ·cases hq
  ·rw [if_neg h1] at hq
   obtain⟨g1,g2⟩:=o.at_ q k d hq
   refine⟨nA (fun hk=>hg k (fun he=>?_) g2) g1,US g2 hn⟩
   subst he
   exact h1 (o.nd j q k c d hj hq hk)
 ·rw [VW] at hq uB
  have old:∀(q:Nat) (d:Ct),j≠q→K[q]? = some (k,d)→k≠i':=by
   intro x y hne hx he
   rcases hi with h1 | h1 | h1
   ·exact hne (o.nd j x k c y (by rw [he,h1]; exact hj) hx hk)
   ·exact hk (he.trans h1)
   ·have:=(o.at_ x k y hx).2; omega
  by_cases h1:j=q<;>by_cases h2:j=q'
  ·rw [←h1,h2]
  ·subst h1
   rw [if_pos rfl] at hq
   rw [if_neg h2] at uB
   split at hq
   ·cases hq; exact absurd rfl (old q' d' h2 uB)
   ·cases hq
  ·subst h2
   rw [if_pos rfl] at uB
   rw [if_neg h1] at hq
   split at uB
   ·cases uB; exact absurd rfl (old q d h1 hq)
   ·cases uB
  ·rw [if_neg h1] at hq; rw [if_neg h2] at uB
   exact o.nd q q' k d d' hq uB hk
theorem Has.new {h h':AHeap}{K:Mem}(o:Has h K){i:Nat}{c:Ct}(hg:∀k,k<h.next→h'.get k=h.get k)(hn:h.next≤h'.next)(hi:i=0∨h.next≤i)(hlt:i<h'.next)(hc:BM h' i c):Has h' ((i,c)::K):=by
 refine⟨fun q k d hq=>?_,fun q q' k d d' hq uB hk=>?_,US o.pos hn⟩
 ·cases q with
  | zero=>simp only [Vc,Uw,UB] at hq; obtain⟨rfl,rfl⟩:=hq; exact⟨hc,hlt⟩
  | succ q=>
   simp only [VB] at hq
   obtain⟨g1,g2⟩:=o.at_ q k d hq
   exact⟨nA (fun _=>hg k g2) g1,US g2 hn⟩
 ·have old:∀(q:Nat) (d:Ct),K[q]? = some (k,d)→k≠i:=by
   intro x y hx he
   rcases hi with h1 | h1
   ·exact hk (he.trans h1)
   ·have:=(o.at_ x k y hx).2; omega
  cases q with
  | zero=>
   simp only [Vc,Uw,UB] at hq
   cases q' with
   | zero=>rfl
   | succ q'=>exact absurd hq.1.symm (old q' d' (by simpa using uB))
  | succ q=>
   cases q' with
   | zero=>
    simp only [Vc,Uw,UB] at uB
    exact absurd uB.1.symm (old q d (by simpa using hq))
   | succ q'=>rw [o.nd q q' k d d' (by simpa using hq) (by simpa using uB) hk]
theorem Has.nil {h:AHeap}{K:Mem}(o:Has h K)(sz:Nat):Has h ((0,.sl 0 sz [])::K):=
 o.new (fun _ _=>rfl) (Uy _) (.inl rfl) o.pos ⟨⟨by simp,by simp⟩,.inl ⟨rfl,rfl⟩⟩
theorem Has.sub {h:AHeap}{K K':Mem}(o:Has h K)(f:Nat→Nat)(hf:∀j p,K'[j]? = some p→K[f j]? = some p)(hi:∀j j',f j=f j'→j=j'):Has h K':=
 ⟨fun j i c hj=>o.at_ (f j) i c (hf j _ hj),fun j j' i c c' hj xP hk=>hi _ _ (o.nd (f j) (f j') i c c' (hf j _ hj) (hf j' _ xP) hk),o.pos⟩
theorem Has.del {h:AHeap}{K:Mem}(o:Has h K)(q:Nat):Has h (K.eraseIdx q):=
 o.sub (fun j=>if j<q then j else j+1) (fun j p hj=>by
  rw [List.getElem?_eraseIdx] at hj
  split at hj
  ·rename_i h1; simpa [h1] using hj
  ·rename_i h1; simpa [h1] using hj) (fun j j' he=>by
   split at he<;>split at he<;>omega)
theorem Has.front {h:AHeap}{K:Mem}(o:Has h K)(q:Nat){p:Nat × Ct}(hq:K[q]? = some p):Has h (p::K.eraseIdx q):=
 o.sub (fun j=>match j with | 0=>q | j+1=>if j<q then j else j+1) (fun j p' hj=>by
  cases j with
  | zero=>simp only [Vc,Uw] at hj; subst hj; exact hq
  | succ j=>
   simp only [VB,List.getElem?_eraseIdx] at hj
   dsimp only
   split at hj
   ·rename_i h1; simpa [h1] using hj
   ·rename_i h1; simpa [h1] using hj) (fun j j' he=>by
   cases j with
   | zero=>cases j' with
    | zero=>rfl
    | succ j'=>dsimp only at he; split at he<;>omega
   | succ j=>cases j' with
    | zero=>dsimp only at he; split at he<;>omega
    | succ j'=>dsimp only at he; split at he<;>split at he<;>omega)
end Go.R
namespace Go.R
open Go
def wK (P:Program)(t:TypeId)(sz b:Nat):Bool:=
 match P.underlying t with
 | some (.slice e)=>match P.info? e with
  | some i=>U5 i.size sz&&U5 i.bytes b&&G4 i
  | none=>false
 | _=>false
section
variable {P:Program}{t:TypeId}{sz b:Nat}
theorem jF (h:wK P t sz b=true):∃e i,P.underlying t=some (.slice e)∧P.info? e=some i∧i.size=sz∧i.bytes=b∧G4 i=true∧eO P e=some sz:=by
 unfold wK at h
 split at h
 ·rename_i e he
  split at h
  ·rename_i i hi
   simp only [Ux] at h
   have h1:=Vx h.1.1
   exact⟨e,i,he,hi,h1,Vx h.1.2,h.2,by simp [eO,hi,h1]⟩
  ·cases h
 ·cases h
variable {α:Type}{E:bL α}{h:AHeap}{K:Mem}{l:List α}{a v:α}{i q:Nat}{j:Int}{k:IntKind}{c:AV}{off:Nat}{tf:TypeId}
theorem eA (T:wK P t E.n b=true)(h:ix l j=some a):eD P t (E.fz l) (.int k j)=some (.fp (E.l l) (j.toNat*E.n)):=by
 obtain⟨e,inf,h1,h2,h3,h4,h5,h6⟩:=jF T
 obtain⟨g1,g2,g3⟩:=gL h
 have hle:=bL.yA (E:=E) g3
 have hp:=E.pos
 simp only [eD,h1,Uu,h6,bL.fz]
 rw [if_pos ⟨g1,g2,by omega⟩]
theorem KC (h:l[j.toNat]? = some a):(E.l l).isEmpty=false:=by
 have hle:=bL.yA (E:=E) h
 have hp:=E.pos
 cases hl:E.l l with
 | nil=>rw [hl] at hle; simp at hle; omega
 | cons _ _=>rfl
theorem rR (hp:AHeap)(ha:fJ P tf=some false)(h:ix l j=some a)(hc:(E.f a)[off]? = some c):bm P hp tf (.fp (E.l l) (j.toNat*E.n+off))=some c:=by
 obtain⟨g1,g2,g3⟩:=gL h
 have ho:off<E.n:=by rw [←E.len a]; exact (UA.1 hc).1
 simp only [bm,jt,KC g3,UE,if_false,iL,ha,Uu,bL.Hm g3 ho,hc]
theorem fu (hp:AHeap)(ha:fJ P tf=some false)(h:ix l j=some a)(hc:(E.f a)[0]? = some c):bm P hp tf (.fp (E.l l) (j.toNat*E.n))=some c:=rR (off:=0) hp ha h hc
theorem ma (hp:AHeap)(ha:fJ P tf=some true)(hs:eO P tf=some E.n)(h:ix l j=some a):bm P hp tf (.fp (E.l l) (j.toNat*E.n))=some (.agg (E.f a)):=by
 obtain⟨g1,g2,g3⟩:=gL h
 simp only [bm,jt,KC g3,UE,if_false,iL,ha,Uu,if_true,hs]
 rw [if_pos (bL.yA g3),bL.Ds g3]
theorem qU (o:Has h K)(hq:K[q]? = some (i,.sl l.length E.n (E.l l)))(hj:l[j.toNat]? = some a):i≠0∧∃rest,h.get i=some (.cells (E.l l++rest)):=by
 obtain⟨⟨_,h1⟩,_⟩:=o.at_ _ _ _ hq
 rcases h1 with⟨_,h1⟩| h1
 ·have:=(UA.1 hj).1; omega
 ·exact h1
theorem Ii (T:wK P t sz b=true){n:Nat}(h0:0≤j)(h1:j<n):eD P t (.rs i 0 n sz) (.int k j)=some (.ptr i (0+j.toNat*sz)):=by
 obtain⟨e,inf,g1,g2,g3,g4,g5,g6⟩:=jF T
 simp only [eD,g1,Uu,g6]
 rw [if_pos ⟨trivial,h0,h1⟩]
theorem tF (o:Has h K)(hq:K[q]? = some (i,.sl l.length E.n (E.l l)))(ha:fJ P tf=some false)(hj:ix l j=some a)(hc:(E.f a)[off]? = some c):bm P h tf (.ptr i (0+j.toNat*E.n+off))=some c:=by
 obtain⟨g1,g2,g3⟩:=gL hj
 obtain⟨h1,rest,h2⟩:=qU o hq g3
 have ho:off<E.n:=by rw [←E.len a]; exact (UA.1 hc).1
 have hle:=bL.yA (E:=E) g3
 simp only [bm,jt,h2,Uu,iL,ha,UE,if_false,UR]
 rw [UJ (by omega),bL.Hm g3 ho,hc]
theorem BN (o:Has h K)(hq:K[q]? = some (i,.sl l.length E.n (E.l l)))(ha:fJ P tf=some false)(hj:ix l j=some a)(hc:(E.f a)[0]? = some c):bm P h tf (.ptr i (0+j.toNat*E.n))=some c:=tF (off:=0) o hq ha hj hc
theorem BO (o:Has h K)(hq:K[q]? = some (i,.sl l.length E.n (E.l l)))(ha:fJ P tf=some true)(hs:eO P tf=some E.n)(hj:ix l j=some a):bm P h tf (.ptr i (0+j.toNat*E.n))=some (.agg (E.f a)):=by
 obtain⟨g1,g2,g3⟩:=gL hj
 obtain⟨h1,rest,h2⟩:=qU o hq g3
 have hle:=bL.yA (E:=E) g3
 simp only [bm,jt,h2,Uu,iL,ha,if_true,hs,UR]
 rw [if_pos (by rw [UD]; omega),List.drop_append_of_le_length (by omega),U4 (by rw [List.length_drop]; omega),bL.Ds g3]
theorem jj (o:Has h K){c':Ct}{ct:Ct}(hq:K[q]? = some (i,ct)){ob:AObj}(hc:BM (h.put i ob) i c'):Has (h.put i ob) (K.set q (i,c')):=
 o.Dt hq (fun k hk _=>by rw [cR,if_neg hk]) (VD _) (.inl rfl) (VI (o.at_ _ _ _ hq).2) hc
theorem Du (o:Has h K)(hq:K[q]? = some (i,.sl l.length E.n (E.l l)))(hs:eO P tf=some E.n)(hj:ix l j=some a){x:AV}(hv:x.cells=E.f v)(nJ:(E.f v).all AV.bP=true) :
  ∃h',iO P h tf (.ptr i (0+j.toNat*E.n)) x=some h'∧Has h' (K.set q (i,.sl l.length E.n (E.l (l.set j.toNat v)))):=by
 obtain⟨g1,g2,g3⟩:=gL hj
 obtain⟨h1,rest,h2⟩:=qU o hq g3
 have hle:=bL.yA (E:=E) g3
 refine⟨_,?_,jj o hq (ob:=.cells (E.l (l.set j.toNat v)++rest)) ⟨⟨by rw [bL.bK,UF],by rw [bL.bK,UF,←bL.bK]; exact (o.at_ _ _ _ hq).1.1.2⟩,.inr ⟨h1,rest,by rw [cR,if_pos rfl]⟩⟩⟩
 simp only [iO,h2,Uu,gI,hs,hv,UR]
 rw [if_pos ⟨E.len v,nJ,by rw [UD]; omega⟩,Uz,bL.KB g3]
theorem BP (o:Has h K)(hq:K[q]? = some (i,.sl l.length E.n (E.l l)))(hs:eO P tf=some 1)(hj:ix l j=some a){x:AV}(hx:x.cells=[x])(nJ:x.bP=true)(ho:off<E.n)(hb:(E.f a).set off x=E.f v) :
  ∃h',iO P h tf (.ptr i (0+j.toNat*E.n+off)) x=some h'∧Has h' (K.set q (i,.sl l.length E.n (E.l (l.set j.toNat v)))):=by
 obtain⟨g1,g2,g3⟩:=gL hj
 obtain⟨h1,rest,h2⟩:=qU o hq g3
 have hle:=bL.yA (E:=E) g3
 refine⟨_,?_,jj o hq (ob:=.cells (E.l (l.set j.toNat v)++rest)) ⟨⟨by rw [bL.bK,UF],by rw [bL.bK,UF,←bL.bK]; exact (o.at_ _ _ _ hq).1.1.2⟩,.inr ⟨h1,rest,by rw [cR,if_pos rfl]⟩⟩⟩
 simp only [iO,h2,Uu,gI,hs,hx,UR]
 rw [if_pos ⟨rfl,by simp [nJ],by rw [UD]; omega⟩,Uz]
 simp only [da]
 rw [bL.Ih g3 ho hb]
def app (b:Nat){α:Type}(l l2:List α):Option (List α):=if (l.length+l2.length)*(b+1)≤1099511627776 then some (l++l2) else none
theorem wL {l l2 r:List α}(h:app b l l2=some r):(l.length+l2.length)*b≤gm∧l.length+l2.length≤gm∧r=l++l2:=by
 unfold app at h
 split at h
 ·rename_i h0
  cases h
  rw [Nat.mul_add,Nat.mul_one] at h0
  refine⟨by simp only [gm]; omega,by simp only [gm]; omega,rfl⟩
 ·cases h
theorem Dv {t2:TypeId}{l2 r:List α}{x:AV}(T:wK P t E.n b=true)(o:Has h K)(hq:K[q]? = some (i,.sl l.length E.n (E.l l)))(hx:fo h E.n x=some (E.l l2,l2.length))(gu:iu P t2 x=true)(hr:app b l l2=some r) :
  ∃i' h',dv P h t t2 (.rs i 0 l.length E.n) x=some (.rs i' 0 r.length E.n,h')∧Has h' (K.set q (i',.sl r.length E.n (E.l r))):=by
 obtain⟨e,inf,g1,g2,g3,g4,g5,g6⟩:=jF T
 obtain⟨r1,r2,rfl⟩:=wL hr
 obtain⟨⟨⟨hlen,qg⟩,ls⟩,hlt⟩:=o.at_ _ _ _ hq
 have nW:=E.pos
 have hb:inf.size=E.n:=g3
 have jB:¬(inf.size=0∨iu P t2 x=false∨G4 inf=false):=by rw [gu,g5,hb]; simp [nW]
 subst g4
 by_cases h0:l2=[]
 ·subst h0
  refine⟨i,h,?_,?_⟩
  ·simp only [dv,g1,Uu,g2,hb,hx,gu,g5]
   rw [if_neg (by simp [nW])]
   simp only [UW,Nat.zero_mul,V1,VT]
   by_cases hi:i=0
   ·subst hi
    rcases ls with⟨_,hl0⟩| h1
    ·simp [hl0,hb,gm]
    ·exact absurd rfl h1.1
   ·rcases ls with h1 | ⟨_,rest,h1⟩
    ·exact absurd h1.1 hi
    ·rw [if_neg hi,h1]
     simp only [Uu]
     rw [if_neg (by rw [UD,hlen]; simp only [UW,V1] at r1 r2; simp; omega)]
     simp
  ·rw [VT]
   have:K.set q (i,.sl l.length E.n (E.l l))=K:=by
    apply VV
    intro j
    rw [VW]
    by_cases hj:q=j
    ·subst hj; rw [if_pos rfl,if_pos (UA.1 hq).1,hq]
    ·rw [if_neg hj]
   rw [this]; exact o
 ·have HK:l2.length≠0:=by simpa using h0
  by_cases hi:i=0
  ·subst hi
   rcases ls with⟨_,hl0⟩| h1
   rotate_left
   ·exact absurd rfl h1.1
   have hnil:l=[]:=by simpa using hl0
   subst hnil
   refine⟨h.next,h.alloc (.cells (E.l l2)),?_,?_⟩
   ·simp only [dv,g1,Uu,g2,hb,hx,gu,g5]
    rw [if_neg (by simp [nW])]
    simp only [if_true]
    simp only [UW,UR] at r1 r2
    rw [if_neg (by simp; omega),if_neg HK]
    simp
   ·refine o.Dt hq (fun k _ hk=>by rw [AHeap.alloc,cR,if_neg (by omega)]) (VD _) (.inr (.inr (Uy _))) (Vh _) ⟨⟨bL.bK,bL.mL (by simp only [gm] at r2; simp at r2 ⊢; omega)⟩,.inr ⟨by have:=o.pos; omega,[],?_⟩⟩
    rw [AHeap.alloc,cR,if_pos rfl]; simp
  ·rcases ls with h1 | ⟨_,rest,h1⟩
   ·exact absurd h1.1 hi
   refine⟨h.next,(h.kill i).put h.next (.cells (E.l (l++l2))),?_,?_⟩
   ·simp only [dv,g1,Uu,g2,hb,hx,gu,g5]
    rw [if_neg (by simp [nW]),if_neg hi,h1]
    simp only [Uu]
    rw [if_neg (by rw [UD,hlen]; simp; omega),if_neg HK]
    rw [Vd,U4 (by rw [hlen]; exact Uy _),Va (by rw [hlen]; exact Uy _),bL.gW,UD]
   ·refine o.Dt hq (fun k hk rG=>by rw [cR,if_neg (by omega),wJ,if_neg hk]) (by show h.next≤h.next+1+1; omega) (.inr (.inr (Uy _))) (by show h.next<h.next+1+1; omega) ⟨⟨bL.bK,bL.mL (by simp only [gm] at r2; simp at r2 ⊢; omega)⟩,.inr ⟨by have:=o.pos; omega,[],?_⟩⟩
    rw [cR,if_pos rfl]; simp
def CB (b:Nat){α:Type}(n:Int)(z:α):Option (List α):=if 0≤n∧n.toNat*(b+1)≤1099511627776 then some (UL n.toNat z) else none
theorem uV {n:Int}{z:α}{zv:AV}{r:List α}(T:wK P t E.n b=true)(o:Has h K)(e0:TypeId)(R8:P.underlying t=some (.slice e0))(hz0:ir P e0=some zv)(MI:zv.cells=E.f z)(nJ:(E.f z).all AV.bP=true)(hr:CB b n z=some r) :
  ∃i h',gy P h t (.int .i64 n) (.int .i64 n)=some (.rs i 0 r.length E.n,h')∧Has h' ((i,.sl r.length E.n (E.l r))::K):=by
 have hz:∀e,P.underlying t=some (.slice e)→ir P e=some zv:=fun e he=>by
  rw [R8] at he; cases he; exact hz0
 unfold CB at hr
 split at hr
 rotate_left
 ·cases hr
 rename_i jB
 obtain⟨h0,h1⟩:=jB
 cases hr
 obtain⟨e,inf,g1,g2,g3,g4,g5,g6⟩:=jF T
 have nW:=E.pos
 have Nd:∀k,ic (E.f z) k=E.l (UL k z):=by
  intro k
  induction k with
  | zero=>rfl
  | succ k ih=>rw [ic,ih,List.replicate_succ,bL.eo]
 refine⟨h.next,h.alloc (.cells (E.l (UL n.toNat z))),?_,o.new (fun k hk=>by rw [AHeap.alloc,cR,if_neg (by omega)]) (VD _) (.inr (Uy _)) (Vh _) ⟨⟨bL.bK,bL.mL (by rw [VU]; rw [Nat.mul_add,Nat.mul_one] at h1; omega)⟩,.inr ⟨by have:=o.pos; omega,[],by rw [AHeap.alloc,cR,if_pos rfl]; simp⟩⟩⟩
 rw [Nat.mul_add,Nat.mul_one] at h1
 simp only [gy,g1,Uu,g2,hz e g1,MI,E.len,Nd,VU,g3,g4]
 have hb:n*(b:Int)≤gm:=by
  have:n*(b:Int)=((n.toNat*b:Nat):Int):=by
   rw [Int.natCast_mul,Int.toNat_of_nonneg h0]
  simp only [gm]
  rw [this]
  omega
 rw [if_pos ⟨h0,Int.le_refl _,hb,trivial,nW,by omega,nJ⟩]
theorem Dw (o:Has h K)(hq:K[q]? = some (i,.sl l.length E.n (E.l l)))(hp:E.flat=true:=by rfl):∃h',iU 0 h (.rs i 0 l.length E.n)=some (E.fz l,h')∧Has h' (K.eraseIdx q):=by
 obtain⟨⟨⟨hlen,qg⟩,ls⟩,hlt⟩:=o.at_ _ _ _ hq
 rcases ls with⟨h0,h1⟩| ⟨h0,rest,h1⟩
 ·have:l=[]:=by simpa using h1
  subst this
  exact⟨h,by simp [iU,h0,bL.fz,bL.l],o.del q⟩
 ·refine⟨h.kill i,?_,?_⟩
  ·simp only [iU]
   rw [if_neg h0,h1]
   simp only [Uu]
   have e1:((E.l l++rest).drop 0).take (l.length*E.n)=E.l l:=by
    rw [Vd,U4 (by rw [hlen]; exact Uy _),Va (by rw [hlen]; exact Uy _)]
   rw [e1,if_pos (by rw [UD,hlen]; omega),pd (bL.nz hp).1]
   rfl
  ·have o2:=o.Dt (i':=0) (c':=.sl 0 1 []) (h':=h.kill i) hq (fun k hk _=>by rw [wJ,if_neg hk]) (VD _) (.inr (.inl rfl)) (Nat.succ_pos _) ⟨⟨by simp,by simp⟩,.inl ⟨rfl,rfl⟩⟩
   have:=o2.del q
   rwa [List.eraseIdx_set_eq] at this
variable {n:Nat}
theorem cG (o:Has h K)(hq:K[q]? = some (i,.sl n E.n (E.l l))):n=l.length:=by
 have h1:=(o.at_ _ _ _ hq).1.1.1
 rw [bL.bK] at h1
 exact (Nat.eq_of_mul_eq_mul_right (Nat.pos_of_ne_zero E.pos) h1).symm
theorem bo (T:wK P t E.n b=true)(o:Has h K)(hq:K[q]? = some (i,.sl n E.n (E.l l)))(hj:ix l j=some a):eD P t (.rs i 0 n E.n) (.int k j)=some (.ptr i (0+j.toNat*E.n)):=by
 have hn:=cG o hq
 subst hn
 exact Ii T (gL hj).1 (gL hj).2.1
theorem zM (o:Has h K)(hq:K[q]? = some (i,.sl n E.n (E.l l)))(ha:fJ P tf=some false)(hj:ix l j=some a)(hc:(E.f a)[off]? = some c):bm P h tf (.ptr i (0+j.toNat*E.n+off))=some c:=by
 have hn:=cG o hq
 subst hn
 exact tF o hq ha hj hc
theorem dB (o:Has h K)(hq:K[q]? = some (i,.sl n E.n (E.l l)))(ha:fJ P tf=some false)(hj:ix l j=some a)(hc:(E.f a)[0]? = some c):bm P h tf (.ptr i (0+j.toNat*E.n))=some c:=by
 have hn:=cG o hq
 subst hn
 exact BN o hq ha hj hc
theorem uW (o:Has h K)(hq:K[q]? = some (i,.sl n E.n (E.l l)))(ha:fJ P tf=some true)(hs:eO P tf=some E.n)(hj:ix l j=some a):bm P h tf (.ptr i (0+j.toNat*E.n))=some (.agg (E.f a)):=by
 have hn:=cG o hq
 subst hn
 exact BO o hq ha hs hj
theorem fw (o:Has h K)(hq:K[q]? = some (i,.sl n E.n (E.l l)))(hs:eO P tf=some E.n)(hj:ix l j=some a){x:AV}(hv:x.cells=E.f v)(nJ:(E.f v).all AV.bP=true) :
  ∃h',iO P h tf (.ptr i (0+j.toNat*E.n)) x=some h'∧Has h' (K.set q (i,.sl n E.n (E.l (l.set j.toNat v)))):=by
 have hn:=cG o hq
 subst hn
 exact Du o hq hs hj hv nJ
theorem F7 (o:Has h K)(hq:K[q]? = some (i,.sl n E.n (E.l l)))(hs:eO P tf=some 1)(hj:ix l j=some a){x:AV}(hx:x.cells=[x])(nJ:x.bP=true)(ho:off<E.n)(hb:(E.f a).set off x=E.f v) :
  ∃h',iO P h tf (.ptr i (0+j.toNat*E.n+off)) x=some h'∧Has h' (K.set q (i,.sl n E.n (E.l (l.set j.toNat v)))):=by
 have hn:=cG o hq
 subst hn
 exact BP o hq hs hj hx nJ ho hb
theorem iD {t2:TypeId}{l2 r:List α}{x:AV}(T:wK P t E.n b=true)(o:Has h K)(hq:K[q]? = some (i,.sl n E.n (E.l l)))(hx:fo h E.n x=some (E.l l2,l2.length))(gu:iu P t2 x=true)(hr:app b l l2=some r) :
  ∃i' h',dv P h t t2 (.rs i 0 n E.n) x=some (.rs i' 0 r.length E.n,h')∧Has h' (K.set q (i',.sl r.length E.n (E.l r))):=by
 have hn:=cG o hq
 subst hn
 exact Dv T o hq hx gu hr
theorem rS (o:Has h K)(hq:K[q]? = some (i,.sl n E.n (E.l l)))(hp:E.flat=true:=by rfl):∃h',iU 0 h (.rs i 0 n E.n)=some (E.fz l,h')∧Has h' (K.eraseIdx q):=by
 have hn:=cG o hq
 subst hn
 exact Dw o hq hp
end
end Go.R
namespace Go.R
open Go
structure aq where
 kind:Int
 int:Int
 label:ByteArray
 args:List Int
structure br where
 nodes:List aq
 root:Int
def eI (k:IntKind):bL Int:={n:=1,f:=fun a=>[.int k a],len:=fun _=>rfl,pos:=by decide,pure:=fun _ _=>⟨rfl,rfl⟩,canon:=fun _=>rfl}
abbrev af:bL Int:=eI .i64
theorem pure_cons {x:AV}{xs:List AV}(h:x.dO=true∧x.jd=x)(k:cC xs=true∧dk xs=xs):cC (x::xs)=true∧dk (x::xs)=x::xs:=
 ⟨by simp [cC,h.1,k.1],by simp [dk,h.2,k.2]⟩
theorem pure_nil:cC []=true∧dk []=[]:=⟨rfl,rfl⟩
theorem fZ {k:IntKind}{n:Int}:(AV.int k n).dO=true∧(AV.int k n).jd = .int k n:=⟨rfl,rfl⟩
theorem mb {s:ByteArray}:(AV.str s).dO=true∧(AV.str s).jd = .str s:=⟨rfl,rfl⟩
theorem dI {b:Bool}:(AV.bool b).dO=true∧(AV.bool b).jd = .bool b:=⟨rfl,rfl⟩
def ai:bL aq:={n:=4,f:=fun x=>[.int .i64 x.kind,.int .i64 x.int,.str x.label,af.fz x.args],len:=fun _=>rfl,pos:=by decide,pure:=fun x _=>pure_cons fZ (pure_cons fZ (pure_cons mb (pure_cons bL.bD pure_nil))),canon:=fun _=>rfl}
end Go.R
namespace Go.R
open Go
theorem F8 {b:Bool}(h:b=false):¬b=true:=by rw [h]; decide
section
variable {P:Program}{cf:CallF}{A:bX}{m:Nat}
theorem tG {c:Code}{s:St}{Q R:Ex→St→Prop}(h:dj P cf A m c s Q)(k:∀e s',Q e s'→R e s'):dj P cf A m c s R:=by
 obtain⟨e,s',h1,h2⟩:=h
 exact⟨e,s',h1,k _ _ h2⟩
theorem aH {c:Code}{s:St}{Q:St→Prop}{R:Ex→St→Prop}(hQ:∀e s',(e = .ret∨e = .norm)∧Q s'→R e s')(h:dj P cf A m c s (fun e s'=>(e = .ret∨e = .norm)∧Q s')):dj P cf A m c s R:=tG h hQ
end
def ia:Nat:=1125899906842630
def jM (k:Nat)(h:AHeap)(x y:AV):Prop:=∀n,ia+k≤n→b9 h n x=some y
def aO (k:Nat)(h:AHeap)(x y:List AV):Prop:=∀n,ia+k≤n→bq h n x=some y
def Ng (h:AHeap)(x y:AV):Prop:=jM 4503599627370496 h x y
section
variable {h:AHeap}{α:Type}{E:bL α}{l:List α}{K:Mem}{q i:Nat}
theorem jM.mono {k k':Nat}{x y:AV}(hk:k≤k')(f:jM k h x y):jM k' h x y:=fun n hn=>f n (by omega)
theorem FF {k:Nat}{x y:AV}(f:jM k h x y)(hk:k≤4503599627370496:=by decide):Ng h x y:=f.mono hk
theorem mM {n:Nat}(h:ia≤n):∃k,n=k+1∧ia≤k+1:=⟨n - 1,by simp only [ia] at h; omega,by omega⟩
theorem kW {x:AV}(h1:x.dO=true)(h2:∀n,b9 h (n+1) x=if x.dO then some x.jd else none){y:AV}(h3:x.jd=y):jM 0 h x y:=fun n hn=>by
 obtain⟨k,rfl,_⟩:=mM (show ia≤n by omega)
 rw [h2,h1,h3]; rfl
theorem bz {k:IntKind}{n:Int}:jM 0 h (.int k n) (.int k n):=kW rfl (fun _=>rfl) rfl
theorem eU {b:Bool}:jM 0 h (.bool b) (.bool b):=kW rfl (fun _=>rfl) rfl
theorem cN {s:ByteArray}:jM 0 h (.str s) (.str s):=kW rfl (fun _=>rfl) rfl
theorem fy (hp:E.flat=true:=by rfl):jM 0 h (E.fz l) (E.fz l):=kW (bL.bD hp).1 (fun _=>rfl) (bL.bD hp).2
theorem rT {cs:List AV}(h1:(cC cs=true))(h2:dk cs=E.l l){n:Nat}{b:Bool}(h3:n=l.length):jM 0 h (.fz cs n b) (E.fz l):=by
 refine kW (by simpa [AV.dO] using h1) (fun _=>rfl) ?_
 subst h3
 show AV.fz (dk cs) l.length false=_
 rw [h2]; rfl
theorem nc:∀{cs:List AV} {n:Nat},cC cs=true→(∀x∈cs,∀n,b9 h (n+1) x=if x.dO then some x.jd else none)→cs.length+1<n→bq h n cs=some (dk cs)
 | [],n,_,_,hn=>by
  obtain⟨k,rfl⟩:∃k,n=k+1:=⟨n - 1,by omega⟩
  rfl
 | x::cs,n,h1,h2,hn=>by
  obtain⟨k,rfl⟩:∃k,n=k+1+1:=⟨n - 2,by simp at hn; omega⟩
  simp only [cC,Ux] at h1
  simp only [bq]
  rw [h2 x (by simp) k,h1.1]
  simp only [if_true,Uu]
  rw [nc h1.2 (fun y hy=>h2 y (by simp [hy])) (by simp at hn; omega)]
  rfl
def wM:AV→Bool
 | .agg _ | .tup _ | .fn _ _=>false
 | _=>true
theorem Dx {x:AV}(hf:wM x=true)(hn:x.dO=true)(n:Nat):b9 h (n+1) x=if x.dO then some x.jd else none:=by
 cases x<;>first | rfl | (simp [AV.dO] at hn; done) | (simp [wM] at hf; done)
theorem F9 (o:Has h K)(hq:K[q]? = some (i,.sl l.length E.n (E.l l)))(hf:∀a:α,(E.f a).all wM=true)(hp:E.flat=true:=by rfl):jM 0 h (.rs i 0 l.length E.n) (E.fz l):=fun n hn=>by
 obtain⟨⟨⟨hlen,qg⟩,ls⟩,hlt⟩:=o.at_ _ _ _ hq
 obtain⟨k,rfl,hk⟩:=mM (show ia≤n by omega)
 simp only [b9]
 rcases ls with⟨h0,h1⟩| ⟨h0,rest,h1⟩
 ·have:l=[]:=by simpa using h1
  subst this
  simp [h0,bL.fz,bL.l]
 ·rw [if_neg h0,h1]
  simp only [Uu]
  have e1:((E.l l++rest).drop 0).take (l.length*E.n)=E.l l:=by
   rw [Vd,U4 (by rw [hlen]; exact Uy _),Va (by rw [hlen]; exact Uy _)]
  rw [if_pos (by rw [UD,hlen]; omega),e1,nc (bL.nz hp).1 (fun x hx=>?_) (by simp only [ia] at hk; omega),(bL.nz hp).2]
  ·rfl
  ·have hnx:x.dO=true:=by
    have:∀(cs:List AV),cC cs=true→x∈cs→x.dO=true:=by
     intro cs
     induction cs with
     | nil=>intro _ h; cases h
     | cons y ys ih=>
      intro h hm
      simp only [cC,Ux] at h
      rcases UT.1 hm with rfl | hm
      ·exact h.1
      ·exact ih h.2 hm
    exact this _ (bL.nz hp).1 hx
   have R9:wM x=true:=by
    unfold bL.l at hx
    rw [List.mem_flatMap] at hx
    obtain⟨a,_,ha⟩:=hx
    exact UN.1 (hf a) x ha
   exact fun n=>Dx R9 hnx n
theorem dW {n:Nat}(o:Has h K)(hq:K[q]? = some (i,.sl n E.n (E.l l)))(hf:∀a:α,(E.f a).all wM=true)(hp:E.flat=true:=by rfl):jM 0 h (.rs i 0 n E.n) (E.fz l):=by
 have hn:=cG o hq
 subst hn
 exact F9 o hq hf hp
theorem ay:aO 0 h [] []:=fun n hn=>by
 obtain⟨k,rfl,_⟩:=mM (show ia≤n by omega)
 rfl
theorem ah {k1 k2:Nat}{x y:AV}{xs ys:List AV}(f:jM k1 h x y)(g:aO k2 h xs ys):aO (k1+k2+1) h (x::xs) (y::ys):=fun n hn=>by
 obtain⟨k,rfl⟩:∃k,n=k+1:=⟨n - 1,by omega⟩
 simp only [bq]
 rw [f k (by omega),g k (by omega)]
 rfl
theorem jG {k:Nat}{xs ys:List AV}(f:aO k h xs ys):jM (k+1) h (.agg xs) (.agg ys):=fun n hn=>by
 obtain⟨k,rfl⟩:∃k,n=k+1:=⟨n - 1,by omega⟩
 simp only [b9]
 rw [f k (by omega)]; rfl
end
def jb (k:IntKind)(x:Int)(n:Nat):Int:=x.fdiv (2 ^ (min n k.bits))
section
variable {P:Program}{t:TypeId}{b:Nat}{α:Type}{E:bL α}{h:AHeap}{K:Mem}{l r:List α}{i q:Nat}{j lo hi:Int}{k k':IntKind}
theorem uX {s:ByteArray}{v:Int}(hu:P.underlying t=some .string)(h:bt s j=some v):oV P t (.str s) (.int k j)=some (.int .u8 v):=by
 unfold bt at h
 split at h
 ·rename_i h0
  rw [Uv] at h
  obtain⟨b,hb,rfl⟩:=h
  simp only [oV,hu,Uu,h0,if_true,hb,Uz]
 ·cases h
theorem Dy (h:Hn l lo hi=some r):(((E.l l).drop (lo.toNat*E.n)).take ((hi.toNat - lo.toNat)*E.n))=E.l r∧r.length=hi.toNat - lo.toNat:=by
 obtain⟨h0,h1,h2,rfl⟩:=wI h
 refine⟨by rw [bL.uU,bL.Dr],?_⟩
 rw [Vz,List.length_drop]
 omega
theorem Dz (o:Has h K)(hq:K[q]? = some (i,.sl l.length E.n (E.l l)))(T:wK P t E.n b=true)(hs:Hn l 0 hi=some r) :
  kM P t (.rs i 0 l.length E.n) none (some (.int k hi)) none=some (.rs i 0 r.length E.n)∧Has h (K.set q (i,.sl r.length E.n (E.l r))):=by
 obtain⟨e,inf,g1,g2,g3,g4,g5,g6⟩:=jF T
 obtain⟨h0,h1,h2,hr⟩:=wI hs
 obtain⟨h3,h4⟩:=Dy (E:=E) hs
 simp only [Int.toNat_zero,Nat.sub_zero] at h4 hr
 have yw:r=l.take hi.toNat:=by rw [hr]; simp
 refine⟨?_,?_⟩
 ·simp only [kM,g1,Uu,g6,if_true,jP]
  rw [if_pos ⟨by omega,h2⟩]
  simp only [Uu,Uz,Nat.zero_mul,V1,Nat.sub_zero,h4]
 ·obtain⟨⟨⟨hlen,qg⟩,ls⟩,hlt⟩:=o.at_ _ _ _ hq
  refine o.Dt hq (fun _ _ _=>rfl) (Uy _) (.inl rfl) hlt ⟨⟨bL.bK,?_⟩,?_⟩
  ·rw [bL.bK]
   refine Vj (Vm _ ?_) (hlen ▸ qg)
   rw [h4]; omega
  ·rcases ls with⟨h5,h6⟩| ⟨h5,rest,h6⟩
   ·left; exact⟨h5,by rw [h4]; omega⟩
   ·right
    refine⟨h5,E.l (l.drop hi.toNat)++rest,?_⟩
    rw [h6,yw,←UK,←bL.gW,VF]
theorem Ij {n:Nat}(o:Has h K)(hq:K[q]? = some (i,.sl n E.n (E.l l)))(T:wK P t E.n b=true)(hs:Hn l 0 hi=some r) :
  kM P t (.rs i 0 n E.n) none (some (.int k hi)) none=some (.rs i 0 r.length E.n)∧Has h (K.set q (i,.sl r.length E.n (E.l r))):=by
 have hn:=cG o hq
 subst hn
 exact Dz o hq T hs
end
theorem au {P:Program}{cf:CallF}{m:Nat}{aV:FuncId→bX}{f:FuncId}{fn:Func}{A:bX}(ha:aV f=A){args:List AV}{h:AHeap}{R:AV→AHeap→Prop}(hf:P.funcs[f]? = some fn)(hb:fn.body=some (b8 fn))(hn:VP args.length fn.ntmps=true)
  (he:dj P cf A m (b8 fn) ⟨lR A.keep args,A.aE.map fun _=>none,h⟩ (fun e s=>(e = .ret∨e = .norm)∧∃r,aM P (s.open A) fn.results.toList=some r∧R r s.h)) :
  ∃r h',a7 P aV cf m f args h=some (r,h')∧R r h':=by
 subst ha
 exact uT hf hb hn he
def DA (a b:ByteArray):Bool:=Op.bytesLess a.data.toList b.data.toList||a.data.toList==b.data.toList
end Go.R
namespace Go.R
open Go
mutual
theorem uY {h:AHeap}:∀(n:Nat) (x y:AV),x.dO=true→b9 h n x=some y→y=x.jd
 | 0,x,y,_,h=>by simp [b9] at h
 | n+1,x,y,hn,h=>by
  cases x with
  | agg cs=>
   simp only [b9,Uv] at h
   obtain⟨eQ,hcs,rfl⟩:=h
   rw [gA n cs eQ (by simpa [AV.dO] using hn) hcs]; rfl
  | tup cs=>
   simp only [b9,Uv] at h
   obtain⟨eQ,hcs,rfl⟩:=h
   rw [gA n cs eQ (by simpa [AV.dO] using hn) hcs]; rfl
  | fn f cs=>
   simp only [b9,Uv] at h
   obtain⟨eQ,hcs,rfl⟩:=h
   rw [gA n cs eQ (by simpa [AV.dO] using hn) hcs]; rfl
  | ptr _ _=>simp [AV.dO] at hn
  | rs _ _ _ _=>simp [AV.dO] at hn
  | _=>simp only [b9,hn,if_true,Uw] at h; exact h.symm
theorem gA {h:AHeap}:∀(n:Nat) (xs ys:List AV),cC xs=true→bq h n xs=some ys→ys=dk xs
 | 0,xs,ys,_,h=>by simp [bq] at h
 | n+1,[],ys,_,h=>by simp only [bq,Uw] at h; exact h.symm
 | n+1,x::xs,ys,hn,h=>by
  simp only [cC,Ux] at hn
  simp only [bq,Ut,Uv] at h
  obtain⟨y,hy,zs,hz,rfl⟩:=h
  rw [uY n x y hn.1 hy,gA n xs zs hn.2 hz]; rfl
end
mutual
theorem tH {h:AHeap}:∀(n:Nat) (x y:AV),fM h n x=some y→b9 h n x=some y
 | 0,x,y,h=>by simp [fM] at h
 | n+1,x,y,h=>by
  unfold fM at h
  split at h
  ·exact h
  ·exact h
  ·exact h
  ·exact h
  ·exact h
  ·exact h
  ·exact h
  ·exact h
  ·rename_i id off len ib
   simp only [b9]
   split at h
   ·rename_i h0; rw [if_pos h0]; exact h
   ·rename_i h0
    rw [if_neg h0]
    rw [Ut] at h ⊢
    obtain⟨ob,ho,h⟩:=h
    refine⟨ob,ho,?_⟩
    cases ob with
    | map es=>cases h
    | row t cs=>cases h
    | cells cs=>
     simp only at h ⊢
     split at h
     ·rename_i hle
      rw [if_pos hle]
      rw [Uv] at h ⊢
      obtain⟨eQ,hcs,h2⟩:=h
      exact⟨eQ,jW n _ _ hcs,h2⟩
     ·cases h
  ·simp only [b9]
   rw [Uv] at h ⊢
   obtain⟨eQ,hcs,h2⟩:=h
   exact⟨eQ,jW n _ _ hcs,h2⟩
  ·simp only [b9]
   rw [Uv] at h ⊢
   obtain⟨eQ,hcs,h2⟩:=h
   exact⟨eQ,jW n _ _ hcs,h2⟩
  ·cases h
theorem jW {h:AHeap}:∀(n:Nat) (xs ys:List AV),db h n xs=some ys→bq h n xs=some ys
 | 0,xs,ys,h=>by simp [db] at h
 | n+1,[],ys,h=>h
 | n+1,x::xs,ys,h=>by
  simp only [db,bq,Ut,Uv] at h ⊢
  obtain⟨y,hy,zs,hz,h2⟩:=h
  exact⟨y,tH n x y hy,zs,jW n xs zs hz,h2⟩
end
def wN (k:Nat)(h:AHeap)(x y:AV):Prop:=∀n,ia+k≤n→fM h n x=some y
def Ga (k:Nat)(h:AHeap)(x y:List AV):Prop:=∀n,ia+k≤n→db h n x=some y
def ff (h:AHeap)(x y:AV):Prop:=wN 4503599627370496 h x y
section
variable {h:AHeap}{α:Type}{E:bL α}{l:List α}{K:Mem}{q i:Nat}
theorem ff.FF {x y:AV}(f:ff h x y):Ng h x y:=fun n hn=>tH _ _ _ (f n hn)
theorem dw {k:Nat}{x y:AV}(f:wN k h x y)(hk:k≤4503599627370496:=by decide):ff h x y:=fun n hn=>f n (by omega)
theorem zN {x y:AV}(h2:∀n,fM h (n+1) x=some y):wN 0 h x y:=fun n hn=>by
 obtain⟨k,rfl,_⟩:=mM (show ia≤n by omega)
 exact h2 k
theorem dc {k:IntKind}{n:Int}:wN 0 h (.int k n) (.int k n):=zN fun _=>rfl
theorem aD {b:Bool}:wN 0 h (.bool b) (.bool b):=zN fun _=>rfl
def DB:AV→Bool
 | .int _ _ | .bool _ | .str _=>true
 | _=>false
theorem mc:∀{cs:List AV} {n:Nat},cs.all DB=true→cs.length+1<n→db h n cs=some cs
 | [],n,_,hn=>by
  obtain⟨k,rfl⟩:∃k,n=k+1:=⟨n - 1,by omega⟩
  rfl
 | x::cs,n,h1,hn=>by
  obtain⟨k,rfl⟩:∃k,n=k+1+1:=⟨n - 2,by simp at hn; omega⟩
  simp only [Vi,Ux] at h1
  simp only [db]
  have:fM h (k+1) x=some x:=by cases x<;>first | rfl | (simp [DB] at h1)
  rw [this,Uu,mc h1.2 (by simp at hn; omega)]
  rfl
theorem Ho {n:Nat}(o:Has h K)(hq:K[q]? = some (i,.sl n E.n (E.l l)))(hf:∀a:α,(E.f a).all DB=true):wN 0 h (.rs i 0 n E.n) (E.fz l):=fun m hm=>by
 have hn:=cG o hq
 subst hn
 obtain⟨⟨⟨hlen,qg⟩,ls⟩,hlt⟩:=o.at_ _ _ _ hq
 obtain⟨k,rfl,hk⟩:=mM (show ia≤m by omega)
 simp only [fM]
 rcases ls with⟨h0,h1⟩| ⟨h0,rest,h1⟩
 ·have:l=[]:=by simpa using h1
  subst this
  simp [h0,bL.fz,bL.l]
 ·rw [if_neg h0,h1]
  simp only [Uu]
  have e1:((E.l l++rest).drop 0).take (l.length*E.n)=E.l l:=by
   rw [Vd,U4 (by rw [hlen]; exact Uy _),Va (by rw [hlen]; exact Uy _)]
  rw [if_pos (by rw [UD,hlen]; omega),e1,mc ?_ (by simp only [ia] at hk; omega)]
  ·rfl
  ·rw [UN]
   intro x hx
   unfold bL.l at hx
   rw [List.mem_flatMap] at hx
   obtain⟨a,_,ha⟩:=hx
   exact UN.1 (hf a) x ha
theorem DC:Ga 0 h [] []:=fun n hn=>by
 obtain⟨k,rfl,_⟩:=mM (show ia≤n by omega)
 rfl
theorem qV {k1 k2:Nat}{x y:AV}{xs ys:List AV}(f:wN k1 h x y)(g:Ga k2 h xs ys):Ga (k1+k2+1) h (x::xs) (y::ys):=fun n hn=>by
 obtain⟨k,rfl⟩:∃k,n=k+1:=⟨n - 1,by omega⟩
 simp only [db]
 rw [f k (by omega),g k (by omega)]
 rfl
theorem DD {k:Nat}{xs ys:List AV}(f:Ga k h xs ys):wN (k+1) h (.tup xs) (.tup ys):=fun n hn=>by
 obtain⟨k,rfl⟩:∃k,n=k+1:=⟨n - 1,by omega⟩
 simp only [fM]
 rw [f k (by omega)]; rfl
def bO:Nat:=9007199254740992
theorem gp {k:Nat}{xs ys:List AV}(f:aO k h xs ys)(hk:k≤bO:=by decide):aO bO h xs ys:=fun n hn=>f n (by omega)
def rU (x y:AV):Prop:=x.dO=true∧x.jd=y
def wO (xs ys:List AV):Prop:=cC xs=true∧dk xs=ys
theorem bh {k:IntKind}{n:Int}:rU (.int k n) (.int k n):=⟨rfl,rfl⟩
theorem kX {s:ByteArray}:rU (.str s) (.str s):=⟨rfl,rfl⟩
theorem ou (hp:E.flat=true:=by rfl):rU (E.fz l) (E.fz l):=bL.bD hp
theorem qW:rU .nils (E.fz []):=⟨rfl,rfl⟩
theorem nB:wO [] []:=⟨rfl,rfl⟩
theorem cp {x y:AV}{xs ys:List AV}(a:rU x y)(b:wO xs ys):wO (x::xs) (y::ys):=⟨by simp [cC,a.1,b.1],by simp [dk,a.2,b.2]⟩
theorem nC {xs ys:List AV}(a:wO xs ys):rU (.agg xs) (.agg ys):=⟨by simpa [AV.dO] using a.1,by show AV.agg (dk xs)=_; rw [a.2]⟩
end
end Go.R
namespace Go.R
open Go
section
variable {P:Program}{h:AHeap}{K:Mem}{i q:Nat}{cs eQ:List AV}{x z:AV}{t:TypeId}{off:Nat}
theorem gk (o:Has h K)(nJ:cs.all AV.bP=true):∃i h',wE h cs=some (.ptr i 0,h')∧Has h' ((i,.ob cs)::K):=by
 refine⟨h.next,h.alloc (.cells cs),by unfold wE; rw [if_pos nJ],o.new (fun k hk=>by rw [AHeap.alloc,cR,if_neg (by omega)]) (VD _) (.inr (Uy _)) (Vh _) ⟨by have:=o.pos; omega,by rw [AHeap.alloc,cR,if_pos rfl]⟩⟩
theorem bW (o:Has h K)(hq:K[q]? = some (i,.ob cs))(hr:iL P t cs off=some z):bm P h t (.ptr i off)=some z:=by
 obtain⟨⟨h1,h2⟩,_⟩:=o.at_ _ _ _ hq
 simp only [bm,jt,h2,Uu,hr]
theorem ng (o:Has h K)(hq:K[q]? = some (i,.ob cs))(hw:gI P t cs off x=some eQ):∃h',iO P h t (.ptr i off) x=some h'∧Has h' (K.set q (i,.ob eQ)):=by
 obtain⟨⟨h1,h2⟩,_⟩:=o.at_ _ _ _ hq
 exact⟨h.put i (.cells eQ),by simp only [iO,h2,Uu,hw,Uz],jj o hq ⟨h1,by rw [cR,if_pos rfl]⟩⟩
end
theorem aL {x y:AV}(h:rU x y):aK x=y:=by
 unfold aK
 rw [h.1,h.2]; rfl
theorem bE:([]:List AV).map aK=[]:=rfl
theorem ar {x y:AV}{xs ys:List AV}(a:aK x=y)(b:xs.map aK=ys):(x::xs).map aK=y::ys:=by
 rw [UX,a,b]
theorem jg {α:Type}{K L:List α}{q:Nat}{p:α}(h:L[q]? = some p):(K++L)[K.length+q]? = some p:=by
 rw [UO (by omega),VJ,h]
theorem Gb {α:Type}{E:bL α}{h:AHeap}{K:Mem}{l:List α}{cs:List AV}(o:Has h K)(hc:cs=E.l l)(hl:l.length≤1024:=by simp) :
  ∃i h',some (AV.rs h.next 0 l.length E.n,h.alloc (.cells cs))=some (AV.rs i 0 l.length E.n,h')∧Has h' ((i,.sl l.length E.n (E.l l))::K):=by
 subst hc
 exact⟨h.next,_,rfl,o.new (fun k hk=>by rw [AHeap.alloc,cR,if_neg (by omega)]) (VD _) (.inr (Uy _)) (Vh _) ⟨⟨bL.bK,bL.mL (by omega)⟩,.inr ⟨by have:=o.pos; omega,[],by rw [AHeap.alloc,cR,if_pos rfl]; simp⟩⟩⟩
end Go.R
