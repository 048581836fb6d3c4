/- Part of the proof: RRow, RStep, RWalk, RG1, RG2, RG3, RG4, RT, RG5, RG6, RG7. -/
import Derived.Test.YtifafejidnjckaaK3
import Derived.ProofKit
set_option linter.unusedVariables false
set_option linter.unusedSimpArgs false
set_option maxRecDepth 100000
open Bool renaming and_eq_true → Ud, false_eq_true → Um, or_eq_true → UW
open List renaming getElem?_eq_some_iff → Uh, length_append → Uk, length_set → Ul, drop_eq_getElem_cons → Uo, length_cons → Up, append_assoc → Uq, getElem?_append_left → Ur, getElem?_append_right → Us, replicate → Uu, all_eq_true → Uv, mem_cons → UA, map_cons → UC, length_nil → UD, mem_append → UF, map_append → UG, take_append_of_le_length → UK, nil_append → UN, take_of_length_le → UP, eq_nil_of_length_eq_zero → UQ, getElem?_cons_zero → UR, drop_zero → US, all_cons → UZ, length_take → U8, getElem?_of_mem → Vd, getElem?_cons_succ → Ve, take_append_drop → Vk, append_nil → Vy, set_append_right → Vz, length_replicate → VA, ext_getElem? → VC, getElem?_set → VD
open Nat renaming le_refl → Ue, zero_add → Uy, lt_of_lt_of_le → Uz, beq → UL, le_trans → UT, lt_succ_self → UY, mul_le_mul_right → U1, add_assoc → U6, eq_of_beq_eq_true → Vb, le_succ → Vi, add_mul → Vj, sub_self → Vm, lt_succ_of_lt → Vn, add_sub_cancel_left → Vp, ble → Vv, min_eq_left → Vw, zero_lt_one → Vx, add_comm → VE, add_zero → VG
open Option renaming bind_eq_some_iff → T9, bind_some → Ua, map_eq_some_iff → Ub, map_some → Ug, isSome_none → Vt
open Option.some renaming injEq → Uc
open Prod.mk renaming injEq → Ui
namespace Go.R
open Go
def yp (P:Program)(F:TypeId→List AV→Prop):List Field→List AV→Prop
 | [],xs=>xs=[]
 | f::fs,xs=>∃a b,xs=a++b∧a.length=P.cellsOf f.type∧F f.type a∧yp P F fs b
def Fits (P:Program):Nat→TypeId→List AV→Prop
 | 0,_,_=>False
 | n+1,t,xs=>
  match P.underlying t with
  | some .bool=>∃b,xs=[.bool b]
  | some (.int k)=>∃z,xs=[.int k z]∧k.min≤z∧z≤k.max
  | some .string=>∃s:ByteArray,xs=[.str s]∧s.size≤maxLen
  | some (.slice e)=>xs=[.nils]∨∃els:List (List AV),xs=[.fz els.flatten els.length false]∧els.length≤maxLen∧∀el∈els,el.length=P.cellsOf e∧Fits P n e el
  | some (.struct fs)=>yp P (Fits P n) fs.toList xs
  | _=>False
def qP (P:Program):Nat→List Field→Bool
 | _,[]=>true
 | k,f::fs=>UL f.offset k&&qP P (k+P.cellsOf f.type) fs
def l7 (P:Program):Nat→TypeId→Bool
 | 0,_=>false
 | n+1,t=>
  match P.underlying t with
  | some .bool | some (.int _) | some .string=>true
  | some (.slice e)=>l7 P n e
  | some (.struct fs)=>qP P 0 fs.toList&&UL (P.cellsOf t) ((fs.toList.map fun f=>P.cellsOf f.type).sum)&&fs.toList.all fun f=>l7 P n f.type
  | _=>false
theorem mapM_some {α β:Type}{f:α→Option β}:∀{l:List α} {ys:List β},l.mapM f=some ys→ys.length=l.length∧∀(i:Nat) (x:α),l[i]? = some x→∃y,ys[i]? = some y∧f x=some y
 | [],ys,h=>by
  simp at h; subst h
  exact⟨rfl,fun i x hx=>by simp at hx⟩
 | a::l,ys,h=>by
  simp only [List.mapM_cons,Option.bind_eq_bind,T9,Option.pure_def,Uc] at h
  obtain⟨y,hy,zs,hz,rfl⟩:=h
  obtain⟨h1,h2⟩:=mapM_some hz
  refine⟨by simp [h1],fun i x hx=>?_⟩
  cases i with
  | zero=>simp at hx; subst hx; exact⟨y,rfl,hy⟩
  | succ i=>simpa using h2 i x (by simpa using hx)
theorem yq {w:World}{a:Addr}{v:Value}(h:w.cell? a=some v):w.cell? ⟨a.block,a.off,none⟩=some v∧a.spot=none:=by
 unfold World.cell? at h ⊢
 split at h
 ·rename_i c t fr hb
  rw [hb]
  simp only at h ⊢
  cases hs:a.spot with
  | none=>rw [hs] at h; exact⟨by simpa using h,rfl⟩
  | some _=>rw [hs] at h; simp at h
 ·cases h
theorem mI (a:Addr)(n:Nat):(a.add n).block=a.block∧(a.add n).off=a.off+n:=by
 unfold Addr.add
 split
 ·rename_i h; subst h; exact⟨rfl,rfl⟩
 ·exact⟨rfl,rfl⟩
theorem wz {w:World}{base:Nat}{a:Addr}{n:Nat}{cs:List Value}(h:w.cells? base a n=some cs):cs.length=n∧∀i,i<n→w.cell? ⟨a.block,a.off+i,none⟩=cs[i]?∧(i=0→a.spot=none):=by
 unfold World.cells? at h
 split at h
 ·obtain⟨h1,h2⟩:=mapM_some h
  refine⟨by simpa using h1,fun i hi=>?_⟩
  obtain⟨y,hy,hc⟩:=h2 i i (by simp [hi])
  obtain⟨h3,h4⟩:=yq hc
  rw [(mI a i).1,(mI a i).2] at h3
  refine⟨by rw [h3,hy],fun h0=>?_⟩
  subst h0
  simpa [Addr.add] using h4
 ·cases h
theorem pY {α:Type}{Q:Nat→α→Prop}:∀n,(∀i,i<n→∃x,Q i x)→∃l:List α,l.length=n∧∀i x,l[i]? = some x→Q i x
 | 0,_=>⟨[],rfl,fun i x h=>by simp at h⟩
 | n+1,h=>by
  obtain⟨l,h1,h2⟩:=pY n fun i hi=>h i (by omega)
  obtain⟨x,hx⟩:=h n (by omega)
  refine⟨l++[x],by simp [h1],fun i y hy=>?_⟩
  by_cases hi:i<n
  ·exact h2 i y (by rwa [Ur (by omega)] at hy)
  ·rw [Us (by omega)] at hy
   have:i=n:=by
    have:=(Uh.1 hy).1
    simp at this; omega
   subst this
   simp [h1] at hy
   subst hy; exact hx
theorem Cells.append {c:Cx}{L:Nat→Prop}:∀{xs ys:List AV} {b o:Nat},Cells c L xs b o→Cells c L ys b (o+xs.length)→Cells c L (xs++ys) b o
 | [],ys,b,o,_,h=>by simpa using h
 | x::xs,ys,b,o,h,k=>⟨h.1,Cells.append h.2 (by simpa [U6,VE 1] using k)⟩
theorem Cells.flatten {c:Cx}{L:Nat→Prop}{b size:Nat}:∀(els:List (List AV)) (o:Nat),(∀i el,els[i]? = some el→el.length=size∧Cells c L el b (o+i*size))→Cells c L els.flatten b o
 | [],o,_=>trivial
 | el::els,o,h=>by
  obtain⟨h1,h2⟩:=h 0 el rfl
  rw [List.flatten_cons]
  refine Cells.append (by simpa using h2) (Cells.flatten (size:=size) els _ fun i RA he=>?_)
  obtain⟨h3,h4⟩:=h (i+1) RA (by simpa using he)
  refine⟨h3,?_⟩
  rw [h1]
  rwa [show o+size+i*size=o+(i+1)*size by rw [Vj,Nat.one_mul]; omega]
section
variable {H:Type}{enc:TypeId × Value→H}{P:Program}{c:Cx}{sp:Nat→Bool}{held:Bool}
theorem pZ {F:TypeId→List AV→Prop}{g:TypeId→List Value→Option (DataW H × List MemPlace)}(hg:∀t cs x,g t cs=some x→cs.length=P.cellsOf t→(∃u:Nat,u=0)→True) :
  ∀(fs:List Field) (k:Nat) (cs:List Value) (xs:List (DataW H × List MemPlace)),qP P k fs=true→(∀f∈fs,∀cs x,g f.type cs=some x→cs.length=P.cellsOf f.type→∃ys,VRs c none0 ys cs∧F f.type ys∧∀v∈cs,v.oneCell'=true)→
   (fs.mapM fun f=>g f.type ((cs.drop f.offset).take (P.cellsOf f.type)))=some xs→k+(fs.map fun f=>P.cellsOf f.type).sum≤cs.length→
   ∃ys,VRs c none0 ys ((cs.drop k).take ((fs.map fun f=>P.cellsOf f.type).sum))∧yp P F fs ys∧∀v∈(cs.drop k).take ((fs.map fun f=>P.cellsOf f.type).sum),v.oneCell'=true
 | [],k,cs,xs,_,_,_,_=>⟨[],by simp [VRs],rfl,by simp⟩
 | f::fs,k,cs,xs,hc,hF,h,hl=>by
  simp only [qP,Ud,beq_nat,decide_eq_true_eq] at hc
  obtain⟨rfl,hc⟩:=hc
  simp only [List.mapM_cons,Option.bind_eq_bind,T9,Option.pure_def,Uc] at h
  obtain⟨y,hy,zs,hz,rfl⟩:=h
  simp only [UC,List.sum_cons] at hl ⊢
  have hlen:((cs.drop f.offset).take (P.cellsOf f.type)).length=P.cellsOf f.type:=by simp; omega
  obtain⟨a,ha,RB,h1⟩:=hF f (by simp) _ _ hy hlen
  obtain⟨b,hb,RC,h2⟩:=pZ hg fs (f.offset+P.cellsOf f.type) cs zs hc (fun f' Mo=>hF f' (by simp [Mo])) hz (by omega)
  have HP:(cs.drop f.offset).take (P.cellsOf f.type+(fs.map fun f=>P.cellsOf f.type).sum)=(cs.drop f.offset).take (P.cellsOf f.type)++((cs.drop (f.offset+P.cellsOf f.type)).take ((fs.map fun f=>P.cellsOf f.type).sum)):=by
   rw [List.take_add,List.drop_drop]
  rw [HP]
  refine⟨a++b,VRs.append ha hb,⟨a,b,rfl,?_,RB,RC⟩,fun v hv=>?_⟩
  ·rw [ha.length,hlen]
  ·rcases UF.1 hv with hv | hv
   ·exact h1 v hv
   ·exact h2 v hv
theorem pg (vB:∀id,c.h.get id=none):∀(m:Nat) (t:TypeId) (fuel:Nat) (cs:List Value) (d:DataW H) (ps:List MemPlace),l7 P m t=true→DataW.trod enc P c.w 0 sp held fuel t cs=some (d,ps)→
  ∃xs,VRs c none0 xs cs∧Fits P m t xs∧∀v∈cs,v.oneCell'=true
 | 0,_,_,_,_,_,hB,_=>by simp [l7] at hB
 | m+1,t,0,cs,d,ps,hB,h=>by simp [DataW.trod] at h
 | m+1,t,fuel+1,cs,d,ps,hB,h=>by
  have hnl:∀id,¬Live c.h id:=fun id hl=>by have:=hl.2; rw [vB id] at this; cases this
  unfold l7 at hB
  unfold Fits
  cases hu:P.underlying t with
  | none=>rw [hu] at hB; cases hB
  | some td=>
  rw [hu] at hB
  cases td<;>simp only at hB ⊢<;>try (cases hB; done)
  ·
   unfold DataW.trod at h
   rw [hu] at h
   split at h<;>first | (rename_i heq; cases heq; done) | skip
   all_goals try (rename_i heq _; cases heq; done)
   all_goals (first | (cases h; done) | skip)
   ·rename_i b _
    exact⟨[.bool b],⟨by simp [VR],trivial⟩,⟨b,rfl⟩,by simp [Value.oneCell']⟩
  ·rename_i k
   unfold DataW.trod at h
   rw [hu] at h
   split at h<;>first | (rename_i heq; cases heq; done) | skip
   all_goals try (rename_i heq _; cases heq; done)
   ·rename_i k' k2 n heq
    cases heq
    split at h
    ·rename_i hk
     obtain⟨rfl,LF⟩:=hk
     simp only [Lit.wf,Ud,decide_eq_true_eq] at LF
     exact⟨[.int k2 n],⟨by simp [VR],trivial⟩,⟨n,rfl,LF⟩,by simp [Value.oneCell']⟩
    ·cases h
   ·cases h
  ·
   unfold DataW.trod at h
   rw [hu] at h
   split at h<;>first | (rename_i heq; cases heq; done) | skip
   all_goals try (rename_i heq _; cases heq; done)
   ·rename_i s _
    split at h
    ·rename_i hs
     exact⟨[.str s],⟨by simp [VR],trivial⟩,⟨s,rfl,hs⟩,by simp [Value.oneCell']⟩
    ·cases h
   ·cases h
  ·
   rename_i e
   unfold DataW.trod at h
   rw [hu] at h
   split at h<;>first | (rename_i heq; cases heq; done) | skip
   all_goals try (rename_i heq _; cases heq; done)
   ·exact⟨[.nils],⟨by simp [VR],trivial⟩,.inl rfl,by simp [Value.oneCell']⟩
   ·rename_i e' a len cap heq
    cases heq
    simp only at h
    split at h
    rotate_left
    ·cases h
    rename_i hbound
    obtain⟨_,hlc,hcap⟩:=hbound
    rw [T9] at h
    obtain⟨elems,Ke,_⟩:=h
    obtain⟨hn,hget⟩:=mapM_some Ke
    have key:∀i,i<len→∃el:List AV,el.length=P.cellsOf e∧Fits P m e el∧Cells c none0 el a.block (a.off+i*P.cellsOf e)∧(i=0→0<P.cellsOf e→a.spot=none):=by
     intro i hi
     obtain⟨y,_,hy⟩:=hget i i (by simp [hi])
     rw [T9] at hy
     obtain⟨RD,hcs,hy⟩:=hy
     obtain⟨hl,mY⟩:=wz hcs
     obtain⟨el,hv,hf,h1⟩:=pg vB m e fuel RD y.1 y.2 hB hy
     refine⟨el,by rw [hv.length,hl],hf,Cells.of_vals hv (fun j hj=>?_) h1,fun h0 nV=>?_⟩
     ·have:=(mY j (by omega)).1
      rwa [(mI a _).1,(mI a _).2] at this
     ·subst h0
      have:=(mY 0 nV).2 rfl
      simpa [Addr.add] using this
    obtain⟨els,hl,By⟩:=pY len key
    refine⟨[.fz els.flatten els.length false],⟨?_,trivial⟩,.inr ⟨els,rfl,by omega,fun el Ke=>?_⟩,by simp [Value.oneCell']⟩
    ·simp only [VR]
     refine⟨some a,cap,by rw [hl],by omega,by simp,.inl rfl,?_⟩
     by_cases HQ:els.flatten=[]
     ·exact .inl HQ
     ·have nV:0<len∧0<P.cellsOf e:=by
       cases els with
       | nil=>simp at HQ
       | cons el els=>
        refine⟨by simp at hl; omega,?_⟩
        rcases Nat.eq_zero_or_pos (P.cellsOf e) with h0 | h0
        ·exfalso
         apply HQ
         rw [List.flatten_eq_nil_iff]
         intro l nG
         obtain⟨i,hi⟩:=Vd nG
         have:=(By i l hi).1
         exact UQ (by omega)
        ·exact h0
      have GZ:a.spot=none:=by
       cases els with
       | nil=>simp at hl; omega
       | cons el els=>exact (By 0 el rfl).2.2.2 rfl nV.2
      refine .inr ⟨a.block,a.off,?_,⟨fun id hl=>absurd hl (hnl id),fun h=>h.elim⟩,by simp,Cells.flatten els a.off fun i el hi=>⟨(By i el hi).1,(By i el hi).2.2.1⟩⟩
      cases a; simp at GZ; subst GZ; rfl
    ·obtain⟨i,hi⟩:=Vd Ke
     exact⟨(By i el hi).1,(By i el hi).2.1⟩
   ·cases h
  ·
   rename_i fs
   simp only [Ud,beq_nat,decide_eq_true_eq,Uv] at hB
   obtain⟨⟨ME,MF⟩,Kf⟩:=hB
   simp only [DataW.trod,hu] at h
   split at h
   rotate_left
   ·cases h
   rename_i hlen
   rw [Ub] at h
   obtain⟨xs,hx,_⟩:=h
   obtain⟨ys,h1,h2,h3⟩:=pZ (P:=P) (c:=c) (F:=Fits P m) (g:=fun t cs=>DataW.trod enc P c.w 0 sp held fuel t cs) (fun _ _ _ _ _ _=>trivial) fs.toList 0 cs xs ME
    (fun f hf cs x hx _=>pg vB m f.type fuel cs x.1 x.2 (Kf f hf) hx) hx (by omega)
   have kx:(cs.drop 0).take ((fs.toList.map fun f=>P.cellsOf f.type).sum)=cs:=by
    rw [US,←MF,←hlen,List.take_length]
   rw [kx] at h1 h3
   exact⟨ys,h1,h2,h3⟩
def jy (P:Program)(t:TypeId)(xs:List AV):AV:=
 match P.underlying t with
 | some (.struct _)=>.agg xs
 | _=>xs.headD .any
def og (P:Program)(m:Nat):List TypeId→List AV→Prop
 | [],[]=>True
 | t::ts,x::uM=>(∃xs,x=jy P t xs∧Fits P m t xs)∧og P m ts uM
 | _,_=>False
theorem Bz {w:World}{m:Nat}{t:TypeId}{v:Value}{base:Nat}(hB:l7 P m t=true)(hs:∀fs,P.underlying t≠some (.struct fs))(h:Value.okWide P w .any base t v):v.cells.toList=[v]:=by
 cases m with
 | zero=>simp [l7] at hB
 | succ m=>
 unfold l7 at hB
 unfold Value.okWide at h
 cases hu:P.underlying t with
 | none=>rw [hu] at hB; cases hB
 | some td=>
 rw [hu] at hB h
 cases td<;>simp only at hB h<;>first
  | (cases hB; done)
  | (exact absurd hu (hs _))
  | (cases v<;>simp only [Cell.okWide,Cell.ok,hu] at h<;>first | (exact h.elim) | rfl | (simp [Value.cells]))
theorem C7 (vB:∀id,c.h.get id=none){m:Nat}{t:TypeId}{v:Value}{d:DataW H}{ps:List MemPlace}{base:Nat}(hB:l7 P m t=true)(ho:Value.okWide P c.w .any base t v)(h:DataW.Trod enc P c.w 0 sp held t v d ps) :
  ∃xs,Fits P m t xs∧VR c none0 (jy P t xs) v:=by
 obtain⟨fuel,h⟩:=h
 obtain⟨xs,h1,h2,_⟩:=pg vB m t fuel _ d ps hB h
 refine⟨xs,h2,?_⟩
 by_cases hs:∃fs,P.underlying t=some (.struct fs)
 ·obtain⟨fs,hs⟩:=hs
  unfold Value.okWide at ho
  rw [hs] at ho
  obtain⟨cs,rfl,_⟩:=ho
  unfold jy
  rw [hs]
  simp only [VR]
  exact⟨cs,rfl,h1⟩
 ·have Jn:∀fs,P.underlying t≠some (.struct fs):=fun fs h=>hs ⟨fs,h⟩
  have hc:=Bz hB Jn ho
  rw [hc] at h1
  have hx:jy P t xs=xs.headD .any:=by
   unfold jy
   split
   ·rename_i fs h; exact absurd h (Jn fs)
   ·rfl
  rw [hx]
  cases xs with
  | nil=>exact h1.elim
  | cons x xs=>exact h1.1
theorem wA (vB:∀id,c.h.get id=none){m base:Nat}:∀(ts:List TypeId) (vs:List Value) (ds:List (DataW H)) (ps:List MemPlace),(∀t∈ts,l7 P m t=true)→(∀(j:Nat) t v,ts[j]? = some t→vs[j]? = some v→Value.okWide P c.w .any base t v)→
  DataW.TrodAll enc P c.w 0 sp held ts vs ds ps→∃uM,og P m ts uM∧VRs c none0 uM vs
 | [],[],[],_,_,_,_=>⟨[],trivial,trivial⟩
 | t::ts,v::vs,d::ds,ps,hB,ho,h=>by
  obtain⟨p,q,h1,h2,_⟩:=h
  obtain⟨xs,h3,h4⟩:=C7 vB (hB t (by simp)) (ho 0 t v rfl rfl) h1
  obtain⟨uM,h5,h6⟩:=wA vB ts vs ds q (fun t ht=>hB t (by simp [ht])) (fun j t v hj hv=>ho (j+1) t v (by simpa using hj) (by simpa using hv)) h2
  exact⟨jy P t xs::uM,⟨⟨xs,rfl,h3⟩,h5⟩,h4,h6⟩
 | [],[],_::_,_,_,_,h=>h.elim
 | [],_::_,_,_,_,_,h=>by cases h
 | _::_,[],_,_,_,_,h=>by cases h
 | _::_,_::_,[],_,_,_,h=>by cases h
theorem jY (hl:laidOutB P=true){W W':World}{Pu:Nat→Bool}:∀{ts:List TypeId} {vs:List Value} {ds:List (DataW H)} {ps:List MemPlace},(∀t∈ts,P.readableRec t=true∧t<P.types.size)→
  DataW.TrodAll enc P W 0 (fun _=>true) true ts vs ds ps→(∀p∈ps,W.sameAt W' p)→(∀p∈ps,Pu p.block=true)→DataW.TrodAll enc P W' 0 Pu true ts vs ds ps
 | [],[],[],_,_,h,_,_=>h
 | t::ts,v::vs,d::ds,ps,hr,h,hs,hp=>by
  obtain⟨p,q,h1,h2,rfl⟩:=h
  exact⟨p,q,WideElems.Trod_stays hl (hr t (by simp)).1 (hr t (by simp)).2 h1 (fun x hx=>hs x (by simp [hx])) (fun x hx=>hp x (by simp [hx])),
   jY hl (fun t ht=>hr t (by simp [ht])) h2 (fun x hx=>hs x (by simp [hx])) (fun x hx=>hp x (by simp [hx])),rfl⟩
 | [],[],_::_,_,_,h,_,_=>h.elim
 | [],_::_,_,_,_,h,_,_=>by cases h
 | _::_,[],_,_,_,h,_,_=>by cases h
 | _::_,_::_,[],_,_,h,_,_=>by cases h
theorem BA {f:Func}{s:ChangeSpec}{apart fresh handsOn again:Bool}{W W':World}{args:Array Value}{ds gs:List (DataW H)}{before:List MemPlace}{tb:TypeId}
  (hl:laidOutB P=true) (hr:∀t∈f.params.toList,P.readableRec t=true∧t<P.types.size) (hW:DataW.Whole enc P f.params.toList s.vars apart W args.toList ds gs before) (hv:s.vars=[])
  (C8:f.resultTypes = #[tb]) (LG:P.underlying tb=some .bool) (Kg:(s.fn H (ds++gs))={results:=[.lit (.bool true)],args:=ds}) (hb:RowKit.Below W.heap.size W W') :
  s.post enc P f apart fresh handsOn again W args (.bool true) W':=by
 have hlt:=hW.lt
 have hW0:=hW
 obtain⟨p,q,hA,hV,Pv,hz,hn⟩:=hW
 rw [hv] at hV
 have MG:gs=[]∧q=[]:=by
  cases gs with
  | nil=>exact⟨rfl,hV⟩
  | cons g gs=>exact hV.elim
 obtain⟨rfl,rfl⟩:=MG
 have MH:before=p:=by simpa using Pv
 subst MH
 have G0:∀x∈before,W.sameAt W' x:=fun x hx=>hb.same (hlt x hx)
 have Kh:(Value.bool true).resultList f.resultTypes.size=[.bool true]:=by rw [C8]; rfl
 have G1:∀(b:Nat) (sp:Nat→Bool) (hd:Bool),DataW.TrodAll enc P W' b sp hd f.resultTypes.toList ((Value.bool true).resultList f.resultTypes.size) [.lit (.bool true)] []:=by
  intro b sp hd
  rw [Kh,C8]
  exact ChangeShapes.trodAll_mk1 (RowKit.shut_bool LG true)
 refine⟨ds,[],before,[],before,[],hW0,?_,?_,?_,?_,fun _=>⟨?_,?_⟩⟩
 ·rw [Kg]; exact G1 _ _ _
 ·rw [Kg]
  exact jY hl hr hA G0 (fun x hx=>by simpa using hlt x hx)
 ·rw [Kg,hv]; rfl
 ·exact hb.frame _
 ·exact RowKit.ok_one C8 rfl (RowKit.okWide_bool_mk LG true)
 ·refine⟨_,[],before,⟨[]++before,[],ChangeShapes.trodAll_append (jY hl hr hA G0 (fun _ _=>rfl)) (G1 0 _ _),by rw [hv]; rfl,by simp,fun b off hx=>?_,hn⟩,fun p hp _=>hp⟩
  rw [hb.frozen (p:=⟨b,off,none⟩) (hlt _ hx)]
  exact hz b off hx
theorem Ext.below {c c':Cx}(e:Ext c none0 c' none0):RowKit.Below c.base c.w c'.w:=⟨e.os,e.tape,e.output,e.size,fun b hb=>e.exact b hb⟩
theorem sO {cf:CallF}{yk:FuncId}{f:Func}{s:ChangeSpec}{apart fresh handsOn again:Bool}{m:Nat}{tb:TypeId}
  (hl:laidOutB P=true) (hr:∀t∈f.params.toList,P.readableRec t=true∧t<P.types.size) (hB:∀t∈f.params.toList,l7 P m t=true) (hv:s.vars=[]) (C8:f.resultTypes = #[tb]) (LG:P.underlying tb=some .bool)
  (Kg:∀ds:List (DataW H),ds.length=f.params.size→(s.fn H ds)={results:=[.lit (.bool true)],args:=ds})
  (hcf:∀uM,og P m f.params.toList uM→∃cf h',CallOK P cf∧cf yk uM bz=some (.bool true,h'))
  {W:World} {base:Nat} {args:Array Value} {ds gs:List (DataW H)} {before:List MemPlace} (dJ:∀(j:Nat) t v,f.params[j]? = some t→args[j]? = some v→Value.okWide P W .any base t v)
  (hW:DataW.Whole enc P f.params.toList s.vars apart W args.toList ds gs before) :
  Calls P yk args W fun e W'=>∃v,e = .returned v∧s.post enc P f apart fresh handsOn again W args v W':=by
 have hW0:=hW
 obtain⟨p,q,hA,hV,Pv,_,_⟩:=hW
 let c:Cx:=⟨fun _=>(0,0),bz,W,W.heap.size⟩
 obtain⟨uM,h1,h2⟩:=wA (c:=c) (P:=P) (m:=m) (base:=base) (fun _=>rfl) f.params.toList args.toList ds p hB (fun j t v hj hv=>dJ j t v (by simpa using hj) (by simpa using hv)) hA
 obtain⟨cf,h',nI,MI⟩:=hcf uM h1
 have hnl:∀id,¬Live c.h id:=fun id hl=>by have:=hl.2; cases this
 have hcall:=(nI yk uM bz _ _ MI).2 none0 c args.toList rfl (Ue _) ⟨fun id o ho=>(by cases ho),fun id o ho=>(by cases ho),fun id _ hl _ _=>absurd hl (hnl id),fun id hl=>absurd hl (hnl id),fun b hb=>hb.elim,fun id hl=>absurd hl (hnl id),fun _=>Vx⟩ h2
 rw [Array.toArray_toList] at hcall
 have hlen:∀(ts:List TypeId) (vs:List Value) (ds:List (DataW H)) (p:List MemPlace),DataW.TrodAll enc P W 0 (fun _=>true) true ts vs ds p→ds.length=ts.length:=by
  intro ts
  induction ts with
  | nil=>intro vs ds p h; cases vs<;>cases ds<;>first | rfl | (cases h; done) | exact h.elim
  | cons t ts ih=>intro vs ds p h; cases vs<;>cases ds<;>first | (cases h; done) | (obtain⟨_,_,_,h2,_⟩:=h; simp [ih _ _ _ h2])
 have MG:gs=[]:=by
  rw [hv] at hV
  cases gs with
  | nil=>rfl
  | cons g gs=>exact hV.elim
 refine hcall.mono ?_
 rintro e w' ⟨c',v,rfl,rfl,hh,zf,hrel,HB⟩
 simp only [VR] at zf
 subst zf
 refine⟨_,rfl,BA hl hr hW0 hv C8 LG ?_ HB.below⟩
 rw [MG,Vy]
 exact Kg ds (by rw [hlen _ _ _ _ hA]; simp)
end
end Go.R
namespace Go.R
open Go
section
variable {P:Program}{cf:CallF}{aE ds:List Nat}{s:RS}{d:Option Tmp}{t:TypeId}{p:String}{a:Array Edge}{g:Option (Nat × Bool)}{ops:List Oper}{ρ:Nat→AV}{bx:Nat→Option (List AV)}{h:AHeap}
variable {A:b4}{m:Nat}{st:St}
end
end Go.R
namespace Go.R
open Go
def sub:List Nat→Code→Code
 | [],c=>c
 | 0::p,.seq a _=>sub p a
 | _::p,.seq _ b=>sub p b
 | 0::p,.cond _ a _=>sub p a
 | _::p,.cond _ _ b=>sub p b
 | _::p,.block _ a=>sub p a
 | _::p,.loop a=>sub p a
 | _,c=>c
def b6 (f:Func):Code:=f.body.getD .skip
end Go.R
namespace Go.R
open Go
section
variable (P:Program)
def bn (h:AHeap)(t:TypeId)(x:AV):Option AV:=jj P (fun _=>none) h t x
def iF (h:AHeap)(t:TypeId)(a x:AV):Option AHeap:=
 match a with
 | .ptr id off=>(h.get id).bind fun | .cells cs=>(gD P t cs off x).map fun eO=>h.put id (.cells eO) | _=>none
 | _=>none
def zC (cf:CallF)(f:AV)(as:List AV)(h:AHeap):Option (AV × AHeap):=
 match f with
 | .fn f cap=>if as.all AV.kh then cf f (as++cap) h else none
 | _=>none
def wB (h:AHeap)(cs:List AV):Option (AV × AHeap):=if cs.all AV.bP then some (.ptr h.next 0,h.alloc (.cells cs)) else none
def BB (aE:List Nat)(d:Option Nat):Bool:=match d with | some d=>!aE.contains d | none=>false
def C9 (aE:List Nat)(h:AHeap)(o:Oper)(t:TypeId)(x:Option AV):Option (AV × AHeap):=
 x.bind fun x=>(nq P aE o t x).map fun (cs,n,z)=>(.rs h.next 0 n z,h.alloc (.cells cs))
def HR (e:Operand→AV)(h:AHeap)(o:Oper)(z:AV):Prop:=
 match o.op with
 | .move x | .assign x=>e x=z
 | .load t a=>bn P h t (e a)=some z
 | .binOp op t x y _=>lN P op t (e x) (e y)=some z
 | .unOp op _ x=>((e x).fN.bind fun a=>(ib P (Op.unary op a)).bind nM)=some z
 | .convert a b x=>lM P h a b (e x)=some z
 | .slice t x lo hi mx=>kO P t (e x) (lo.map e) (hi.map e) (mx.map e)=some z
 | .indexAddr t x i=>eD P t (e x) (e i)=some z
 | .index t x i=>oS P t (e x) (e i)=some z
 | .lookup t m k ok=>fD P h t (e m) (e k) ok=some z
 | .call {callee:=.builtin .len,args,argTypes}=>match argTypes.toList,args.toList.map e with
  | [t],[x]=>qY P h t x=some z
  | _,_=>False
 | _=>False
def HS (cf:CallF)(aE:List Nat)(e:Operand→AV)(h:AHeap)(o:Oper)(z:AV)(h':AHeap):Prop:=
 match o.op with
 | .store t a x=>bif o.dst.isSome then False else iF P h t (e a) (e x)=some h'
 | .alloc t=>bif BB aE o.dst then (ic P t).bind (fun z=>wB h (xV aE o.dst z.cells))=some (z,h') else False
 | .box _ x=>bif BB aE o.dst then wB h (e x).cells=some (z,h') else False
 | .buildSlice t n ps=>C9 P aE h o t (gp P t n (ps.toList.map fun (i,x)=>(i,e x)))=some (z,h')
 | .makeMap _ none=>(AV.mp h.next,h.alloc (.map []))=(z,h')
 | .makeSlice t l c=>gr P h t (e l) (e c)=some (z,h')
 | .mapUpdate t m k x | .insert t m k x=>bif o.dst.isSome then False else ij P h t (e m) (e k) (e x)=some h'
 | .call {callee:=.builtin .append,args,argTypes}=>match argTypes.toList,args.toList.map e with
  | [t,t2],[x,y]=>dq P h t t2 x y=some (z,h')
  | _,_=>False
 | .call {callee:=.builtin .copy,args,argTypes}=>match argTypes.toList,args.toList.map e with
  | [t,t2],[x,y]=>pI P h t t2 x y=some (z,h')
  | _,_=>False
 | .call {callee:=.value f,args,..}=>bif JC aE o.dst then (zC cf (e f) (args.toList.map e) h).bind (fun x=>iL 0 x.2 x.1)=some (z,h') else zC cf (e f) (args.toList.map e) h=some (z,h')
 | .call {callee:=.builtin .clear,args,argTypes}=>match argTypes.toList,args.toList.map e with
  | [t],[x]=>(kQ P h t x).map (fun h=>(AV.tup [],h))=some (z,h')
  | _,_=>False
 | _=>False
end
abbrev FJ:=List (Nat × AV × Option AHeap)
def qh (P:Program)(cf:CallF)(aE:List Nat)(ops:List Oper):RS→Nat→List Oper→FJ→Option (List lD × RS × Prop)
 | s,_,[],[]=>some ([],s,True)
 | _,_,[],_::_=>none
 | s,i,o::os,zs=>
  (gE ops s.ρ o).bind fun w=>
   bif w then
    match zs with
    | []=>(ug P cf aE (ops.filterMap (·.dst)) s o).bind fun s1=>(qh P cf aE ops s1 (i+1) os []).map fun (l,r,p)=>({o,f:=bc aE (bG s.ρ) o,s,s':=s1}::l,r,p)
    | (j,z,oh)::tz=>
     bif UL i j then
      match oh with
      | none=>(qh P cf aE ops (s.set o.dst z) (i+1) os tz).map fun (l,r,p)=>({o,f:=bc aE (bG s.ρ) o,s,s':=s.set o.dst z}::l,r,HR P (bG s.ρ) s.h o z∧p)
      | some h'=>(qh P cf aE ops (({s with h:=h'}:RS).set o.dst z) (i+1) os tz).map fun (l,r,p)=>({o,f:=bc aE (bG s.ρ) o,s,s':=({s with h:=h'}:RS).set o.dst z}::l,r,HS P cf aE (bG s.ρ) s.h o z h'∧p)
     else (ug P cf aE (ops.filterMap (·.dst)) s o).bind fun s1=>(qh P cf aE ops s1 (i+1) os zs).map fun (l,r,p)=>({o,f:=bc aE (bG s.ρ) o,s,s':=s1}::l,r,p)
   else (qh P cf aE ops (s.set o.dst (.tup [])) (i+1) os zs).map fun (l,r,p)=>({o,f:={},s,s':=s.set o.dst (.tup [])}::l,r,p)
section
variable {P:Program}{cf:CallF}{aE:List Nat}
theorem Da {h:AHeap}{t:TypeId}{x z:AV}{bx:Nat→Option (List AV)}(hh:bn P h t x=some z):jj P bx h t x=some z:=by
 cases x<;>first | exact hh | (simp [bn,jj] at hh)
theorem FK {s:RS}{o:Oper}{z:AV}(h:HR P (bG s.ρ) s.h o z)(ds:List Nat):ug P cf aE ds s o=some (s.set o.dst z):=by
 unfold HR at h
 unfold ug xW
 dsimp only
 split at h
 ·rename_i ho; rw [ho]; simp only [h]
 ·rename_i ho; rw [ho]; simp only [h]
 ·rename_i ho; rw [ho]; simp only [Da h,Ug]
 ·rename_i ho; rw [ho]; simp only [h,Ug]
 ·rename_i ho; rw [ho]; simp only [h,Ug]
 ·rename_i ho; rw [ho]; simp only [h,Ug]
 ·rename_i ho; rw [ho]; simp only [h,Ug]
 ·rename_i ho; rw [ho]; simp only [h,Ug]
 ·rename_i ho; rw [ho]; simp only [h,Ug]
 ·rename_i ho; rw [ho]; simp only [h,Ug]
 ·rename_i ho
  rw [ho]
  split at h
  ·rename_i h1 h2
   simp only [h1,h2,fw,h,Ug]
  ·exact h.elim
 ·exact h.elim
theorem wC {s:RS}{o:Oper}{cs:List AV}{z:AV}{h':AHeap}(hn:BB aE o.dst=true)(h:wB s.h cs=some (z,h'))(ds:List Nat):gX s aE ds o cs=some (({s with h:=h'}:RS).set o.dst z):=by
 unfold wB at h
 split at h
 rotate_left
 ·cases h
 rename_i nI
 simp only [Uc,Ui] at h
 obtain⟨rfl,rfl⟩:=h
 unfold gX
 rw [if_pos nI]
 unfold BB at hn
 split at hn
 ·rename_i d hd
  rw [hd]
  have:aE.contains d=false:=by simpa using hn
  simp only [this,Um,if_false]
 ·cases hn
theorem FL {s:RS}{o:Oper}{z:AV}{h':AHeap}(h:HS P cf aE (bG s.ρ) s.h o z h')(ds:List Nat):ug P cf aE ds s o=some (({s with h:=h'}:RS).set o.dst z):=by
 unfold HS at h
 unfold ug xW
 dsimp only
 split at h
 ·rename_i t a x ho
  rw [ho]
  cases hd:o.dst with
  | some d=>rw [hd] at h; exact h.elim
  | none=>
   rw [hd] at h
   simp only [Vt,cond_false] at h
   simp only [Vt,Um,if_false]
   unfold iF at h
   split at h
   ·rename_i id off he
    rw [he]
    simp only [T9] at h ⊢
    obtain⟨ob,hob,h⟩:=h
    refine⟨ob,hob,?_⟩
    split at h
    ·rw [Ub] at h ⊢
     obtain⟨eO,hcs,rfl⟩:=h
     exact⟨eO,hcs,rfl⟩
    ·cases h
   ·cases h
 ·rename_i t ho
  rw [ho]
  cases hn:BB aE o.dst with
  | false=>rw [hn] at h; exact h.elim
  | true=>
   rw [hn] at h
   simp only [cond_true,T9] at h
   obtain⟨z0,h1,h2⟩:=h
   simp only [h1,Ua]
   exact wC hn h2 ds
 ·rename_i t x ho
  rw [ho]
  cases hn:BB aE o.dst with
  | false=>rw [hn] at h; exact h.elim
  | true=>
   rw [hn] at h
   exact wC hn h ds
 ·rename_i t n ps ho
  rw [ho]
  unfold C9 at h
  simp only [T9,Ub] at h
  obtain⟨x,hx,⟨cs,k,q⟩,ht,he⟩:=h
  simp only [Ui] at he
  obtain⟨rfl,rfl⟩:=he
  simp only [hx,Ug,oU,ht]
 ·rename_i ho
  rw [ho]
  simp only [Ui] at h
  obtain⟨rfl,rfl⟩:=h
  rfl
 ·rename_i ho; rw [ho]; simp only [h,Ug]
 ·rename_i t m k x ho
  rw [ho]
  cases hd:o.dst with
  | some d=>rw [hd] at h; exact h.elim
  | none=>
   rw [hd] at h
   simp only [Vt,cond_false] at h
   simp only [Vt,Um,if_false,h,Ug]
   rfl
 ·rename_i t m k x ho
  rw [ho]
  cases hd:o.dst with
  | some d=>rw [hd] at h; exact h.elim
  | none=>
   rw [hd] at h
   simp only [Vt,cond_false] at h
   simp only [Vt,Um,if_false,h,Ug]
   rfl
 ·rename_i ho
  rw [ho]
  split at h
  ·rename_i h1 h2
   simp only [h1,h2,fw,h,Ug]
  ·exact h.elim
 ·rename_i ho
  rw [ho]
  split at h
  ·rename_i h1 h2
   simp only [h1,h2,fw,h,Ug]
  ·exact h.elim
 ·rename_i f args zw ho
  rw [ho]
  have key:∀{x:AV × AHeap},zC cf (bG s.ρ f) (args.toList.map (bG s.ρ)) s.h=some x→uf aE o.dst x=some (z,h')→
    (match bG s.ρ f with
     | .fn f cap=>if (args.toList.map (bG s.ρ)).all AV.kh then ((cf f (args.toList.map (bG s.ρ)++cap) s.h).bind (uf aE o.dst)).map fun (r,h)=>({s with h}:RS).set o.dst r else none
     | _=>none)=some (({s with h:=h'}:RS).set o.dst z):=by
   intro x hx hm
   unfold zC at hx
   split at hx
   ·rename_i g cap he
    try rw [he]
    try dsimp only
    split at hx
    ·rename_i nI
     simp only [nI,if_true,hx,Ua,hm,Ug]
    ·cases hx
   ·cases hx
  cases hm:JC aE o.dst with
  | false=>
   rw [hm,cond_false] at h
   exact key h (by unfold uf; rw [hm]; rfl)
  | true=>
   rw [hm,cond_true,T9] at h
   obtain⟨x,h1,h2⟩:=h
   exact key h1 (by unfold uf; rw [hm,cond_true]; exact h2)
 ·rename_i ho
  rw [ho]
  split at h
  ·rename_i h1 h2
   rw [Ub] at h
   obtain⟨g,hg,he⟩:=h
   simp only [Ui] at he
   obtain⟨rfl,rfl⟩:=he
   simp only [h1,h2,fw,hg,Ug]
  ·exact h.elim
 ·exact h.elim
theorem uN {ops:List Oper}:∀{l:List Oper} {s r:RS} {i:Nat} {zs:FJ} {es:List lD} {p:Prop},qh P cf aE ops s i l zs=some (es,r,p)→p→nO P cf aE ops s l=some (es,r)∧p8 P cf aE ops s l=some r
 | [],s,r,i,[],es,p,h,_=>by
  simp only [qh,Uc,Ui] at h
  obtain⟨rfl,rfl,rfl⟩:=h
  exact⟨rfl,rfl⟩
 | [],s,r,i,_::_,es,p,h,_=>by simp [qh] at h
 | o::os,s,r,i,zs,es,p,h,hp=>by
  simp only [qh,T9] at h
  obtain⟨w,hw,h⟩:=h
  have fin:∀(s1:RS) (l:List lD) (tz:FJ) (q:Prop),(if w then ug P cf aE (ops.filterMap (·.dst)) s o else some (s.set o.dst (.tup [])))=some s1→qh P cf aE ops s1 (i+1) os tz=some (l,r,q)→q→
    nO P cf aE ops s (o::os)=some ({o,f:=if w then bc aE (bG s.ρ) o else {},s,s':=s1}::l,r)∧p8 P cf aE ops s (o::os)=some r:=by
   intro s1 l tz q h1 h2 hq
   obtain⟨h3,h4⟩:=uN h2 hq
   refine⟨?_,?_⟩
   ·simp only [nO,hw,Ua,h1,h3,Ug]
   ·simp only [p8,lO,hw,Ua,h1,h4]
  cases w with
  | false=>
   simp only [cond_false,Ub] at h
   obtain⟨⟨l,r',q⟩,h2,he⟩:=h
   simp only [Ui] at he
   obtain⟨rfl,rfl,rfl⟩:=he
   simpa using fin _ l zs q (by simp) h2 hp
  | true=>
   simp only [cond_true] at h
   split at h
   ·simp only [T9,Ub] at h
    obtain⟨s1,h1,⟨l,r',q⟩,h2,he⟩:=h
    simp only [Ui] at he
    obtain⟨rfl,rfl,rfl⟩:=he
    simpa using fin _ l [] q (by simpa using h1) h2 hp
   ·rename_i j z oh tz
    cases hj:UL i j with
    | false=>
     rw [hj] at h
     simp only [cond_false,T9,Ub] at h
     obtain⟨s1,h1,⟨l,r',q⟩,h2,he⟩:=h
     simp only [Ui] at he
     obtain⟨rfl,rfl,rfl⟩:=he
     simpa using fin _ l _ q (by simpa using h1) h2 hp
    | true=>
     rw [hj] at h
     simp only [cond_true] at h
     split at h
     ·simp only [Ub] at h
      obtain⟨⟨l,r',q⟩,h2,he⟩:=h
      simp only [Ui] at he
      obtain⟨rfl,rfl,rfl⟩:=he
      simpa using fin _ l _ q (by simpa using FK hp.1 _) h2 hp.2
     ·simp only [Ub] at h
      obtain⟨⟨l,r',q⟩,h2,he⟩:=h
      simp only [Ui] at he
      obtain⟨rfl,rfl,rfl⟩:=he
      simpa using fin _ l _ q (by simpa using FL hp.1 _) h2 hp.2
end
def qi (s:RS):List (Nat × Option Nat × Nat)→List (AV × AHeap)→Option (RS × Prop)
 | [],_=>some (s,True)
 | (t,i,k)::ps,zs=>
  match i with
  | none=>
   match k,s.ρ t,zs with
   | 0,.rs id off n z,(y,h')::tz=>(qi {s with h:=h',ρ:=fun u=>bif UL u t then y else s.ρ u} ps tz).map fun (r,p)=>(r,iL 0 s.h (.rs id off n z)=some (y,h')∧p)
   | k,x,zs=>(iL k s.h x).bind fun (y,h')=>qi {s with h:=h',ρ:=fun u=>bif UL u t then y else s.ρ u} ps zs
  | some i=>
   match s.bx t with
   | some cs=>(cs[i]?).bind fun x=>
    match k,x,zs with
    | 0,.rs id off n z,(y,h')::tz=>(qi {s with h:=h',bx:=fun u=>bif UL u t then some (cs.set i y) else s.bx u} ps tz).map fun (r,p)=>(r,iL 0 s.h (.rs id off n z)=some (y,h')∧p)
    | k,x,zs=>(iL k s.h x).bind fun (y,h')=>qi {s with h:=h',bx:=fun u=>bif UL u t then some (cs.set i y) else s.bx u} ps zs
   | none=>none
theorem qQ:∀{ps:List (Nat × Option Nat × Nat)} {s r:RS} {zs:List (AV × AHeap)} {p:Prop},qi s ps zs=some (r,p)→p→kj s ps=some r
 | [],s,r,zs,p,h,_=>by
  simp only [qi,Uc,Ui] at h
  obtain⟨rfl,rfl⟩:=h
  rfl
 | (t,i,k)::ps,s,r,zs,p,h,hp=>by
  cases i with
  | none=>
   have fin:∀(y:AV) (h':AHeap) (tz:List (AV × AHeap)) (q:Prop),iL k s.h (s.ρ t)=some (y,h')→qi {s with h:=h',ρ:=fun u=>bif UL u t then y else s.ρ u} ps tz=some (r,q)→q→kj s ((t,none,k)::ps)=some r:=by
    intro y h' tz q h1 h2 hq
    simp only [kj,uj,h1,Ug,Ua]
    exact qQ h2 hq
   simp only [qi] at h
   split at h
   ·rename_i id off n z y h' tz hx
    rw [Ub] at h
    obtain⟨⟨r',q⟩,h2,he⟩:=h
    simp only [Ui] at he
    obtain⟨rfl,rfl⟩:=he
    exact fin y h' tz q (by rw [hx]; exact hp.1) h2 hp.2
   ·rw [T9] at h
    obtain⟨⟨y,h'⟩,h1,h2⟩:=h
    exact fin y h' _ p h1 h2 hp
  | some i=>
   simp only [qi] at h
   split at h
   rotate_left
   ·cases h
   rename_i cs hcs
   rw [T9] at h
   obtain⟨x,hx,h⟩:=h
   have fin:∀(y:AV) (h':AHeap) (tz:List (AV × AHeap)) (q:Prop),iL k s.h x=some (y,h')→qi {s with h:=h',bx:=fun u=>bif UL u t then some (cs.set i y) else s.bx u} ps tz=some (r,q)→q→kj s ((t,some i,k)::ps)=some r:=by
    intro y h' tz q h1 h2 hq
    simp only [kj,uj,hcs,hx,Ua,h1,Ug]
    exact qQ h2 hq
   split at h
   ·rename_i id off n z y h' tz
    rw [Ub] at h
    obtain⟨⟨r',q⟩,h2,he⟩:=h
    simp only [Ui] at he
    obtain⟨rfl,rfl⟩:=he
    exact fin y h' tz q hp.1 h2 hp.2
   ·rw [T9] at h
    obtain⟨⟨y,h'⟩,h1,h2⟩:=h
    exact fin y h' _ p h1 h2 hp
def lD.qR (x y:lD):Bool:=
 (match x.f.wb with
  | some k=>!y.f.rb.contains k&&y.f.wb != some k
  | none=>true) &&
 (!x.f.wh||(!y.f.wh&&y.f.rh.isEmpty))
def Db (ops:List Oper)(arr:Array Oper)(s:RS)(es:List lD):Bool:=
 let ms:=iU [] ops
 mD arr ms &&
  (let is:=es.zipIdx
   let ui:=is.filter fun (x,_)=>!x.f.quiet
   ui.all (fun (x,i)=>qM ms (ops.filterMap (·.dst)) s is x i&&ui.all fun (y,j)=>Vv j i||(ms.getD j 0).testBit i||(x.qR y&&y.qR x)))
theorem rL {x y:lD}(h:x.qR y=true):x.iT y=true:=by
 unfold lD.qR at h
 unfold lD.iT
 simp only [Ud,UW] at h ⊢
 refine⟨h.1,h.2.imp id fun ⟨h1,h2⟩=>⟨h1,?_⟩⟩
 rw [List.isEmpty_iff] at h2
 rw [h2]; rfl
theorem FM {P:Program}{cf:CallF}{aE:List Nat}{ops:Array Oper}{s r:RS}{es:List lD}(h:Db ops.toList ops s es=true)(hr:nO P cf aE ops.toList s ops.toList=some (es,r)):jk P cf aE ops s=some r:=by
 unfold Db at h
 simp only [Ud] at h
 obtain⟨h1,h2⟩:=h
 unfold jk
 simp only [h1,if_true,hr,Ua]
 rw [if_pos]
 rw [Uv] at h2 ⊢
 intro x hx
 have:=h2 x hx
 simp only [Ud] at this ⊢
 refine⟨this.1,?_⟩
 have h3:=this.2
 rw [Uv] at h3 ⊢
 intro y hy
 have:=h3 y hy
 simp only [UW,Ud] at this ⊢
 exact this.imp id fun h=>⟨rL h.1,rL h.2⟩
def nb (P:Program)(cf:CallF)(A:b4)(c:Code)(fs:List (AV × AHeap))(zs:FJ)(st:St):Option (Prop × St):=
 match c with
 | .region id ops draw=>(qi (st.open A) (fE id A.Fk) fs).bind fun (s0,p0)=>(qh P cf A.aE ops.toList s0 0 ops.toList zs).bind fun (es,r,p)=>
   bif draw && !(Db ops.toList ops s0 es) then none else (kj r (fE id A.xX)).map fun r2=>(p0∧p,r2.lP A id)
 | _=>none
theorem Dc {P:Program}{cf:CallF}{A:b4}{m:Nat}{c:Code}{fs:List (AV × AHeap)}{zs:FJ}{st iX:St}{p:Prop}(h:nb P cf A c fs zs st=some (p,iX))(hp:p):bF P cf A m c st=some (.norm,iX):=by
 unfold nb at h
 split at h
 rotate_left
 ·cases h
 rename_i id ops draw
 simp only [T9] at h
 obtain⟨⟨s0,p0⟩,h0,⟨es,r,q⟩,h1,h⟩:=h
 have hd:∃r2,(draw=true→Db ops.toList ops s0 es=true)∧kj r (fE id A.xX)=some r2∧p=(p0∧q)∧iX=r2.lP A id:=by
  cases hc:(draw && !(Db ops.toList ops s0 es)) with
  | true=>simp only [hc,cond_true] at h; cases h
  | false=>
   simp only [hc,cond_false,Ub,Ui] at h
   obtain⟨r2,h2,h3,h4⟩:=h
   refine⟨r2,fun Br=>?_,h2,h3.symm,h4.symm⟩
   simpa [Br] using hc
 obtain⟨r2,Br,h2,rfl,rfl⟩:=hd
 obtain⟨g1,g2⟩:=uN h1 hp.2
 have g0:=qQ h0 hp.1
 simp only [bF,g0,Ua]
 cases draw with
 | false=>simp only [Um,if_false,g2,Ua,h2,Ug]
 | true=>simp only [if_true,FM (Br rfl) g1,Ua,h2,Ug]
end Go.R
namespace Go.R
open Go
def dt (P:Program)(cf:CallF)(A:b4)(m:Nat)(c:Code)(s:St)(Q:Ex→St→Prop):Prop:=∃e s',bF P cf A m c s=some (e,s')∧Q e s'
def HT (R:St→Prop)(Q:Ex→St→Prop):Ex→St→Prop
 | .norm,s=>R s
 | .exit i,s=>Q (.exit i) s
 | .ret,s=>Q .ret s
def MJ (id:Nat)(Q:Ex→St→Prop):Ex→St→Prop
 | .norm,s=>Q .norm s
 | .exit i,s=>bif UL i id then Q .norm s else Q (.exit i) s
 | .ret,s=>Q .ret s
section
variable {P:Program}{cf:CallF}{A:b4}{m:Nat}{s:St}{Q:Ex→St→Prop}
theorem wD {a b:Code}(h:dt P cf A m a s (HT (fun s'=>dt P cf A m b s' Q) Q)):dt P cf A m (.seq a b) s Q:=by
 obtain⟨e,s',h1,h2⟩:=h
 cases e with
 | norm=>
  obtain⟨e2,s2,h3,h4⟩:=h2
  exact⟨e2,s2,by simp only [bF,h1,Ua,h3],h4⟩
 | exit i=>exact⟨_,s',by simp only [bF,h1,Ua],h2⟩
 | ret=>exact⟨_,s',by simp only [bF,h1,Ua],h2⟩
theorem yr {id:Nat}{a:Code}(h:dt P cf A m a s (MJ id Q)):dt P cf A m (.block id a) s Q:=by
 obtain⟨e,s',h1,h2⟩:=h
 cases e with
 | norm=>exact⟨_,s',by simp only [bF,h1,Ug],h2⟩
 | exit i=>
  simp only [MJ,beq_nat] at h2
  by_cases hi:i=id
  ·simp only [hi,decide_true,cond_true] at h2
   exact⟨_,s',by simp only [bF,h1,Ug,hi,if_true],h2⟩
  ·simp only [hi,decide_false,cond_false] at h2
   exact⟨_,s',by simp only [bF,h1,Ug,hi,if_false],h2⟩
 | ret=>exact⟨_,s',by simp only [bF,h1,Ug],h2⟩
theorem Dd {c:Code}{fs:List (AV × AHeap)}{zs:FJ}{iX:St}{p:Prop}(h:nb P cf A c fs zs s=some (p,iX))(hp:p)(hQ:Q .norm iX):dt P cf A m c s Q:=
 ⟨_,_,Dc h hp,hQ⟩
theorem BC (h:Q .norm s):dt P cf A m .skip s Q:=⟨_,_,rfl,h⟩
theorem De (h:Q .ret s):dt P cf A m .ret s Q:=⟨_,_,rfl,h⟩
theorem BD {i:Nat}(h:Q (.exit i) s):dt P cf A m (.exit i) s Q:=⟨_,_,rfl,h⟩
theorem ph {k:Operand}{x y:Code}(b:Bool)(hk:bG (s.open A).ρ k = .bool b)(ht:b=true→dt P cf A m x s Q)(hf:b=false→dt P cf A m y s Q):dt P cf A m (.cond k x y) s Q:=by
 cases b with
 | true=>
  obtain⟨e,s',h1,h2⟩:=ht rfl
  exact⟨e,s',by simp only [bF,hk,q6,Ua,if_true,h1],h2⟩
 | false=>
  obtain⟨e,s',h1,h2⟩:=hf rfl
  exact⟨e,s',by simp only [bF,hk,q6,Ua,Um,if_false,h1],h2⟩
def Df {S O:Type}(l:Nat→S→Option O)(Rel:S→St→Prop)(QO:O→Ex→St→Prop)(k:Nat)(out:O):Ex→St→Prop
 | .norm,s=>∃σ,Rel σ s∧l k σ=some out
 | .exit i,s=>QO out (.exit i) s
 | .ret,s=>QO out .ret s
theorem rM {S O:Type}{l:Nat→S→Option O}{Rel:S→St→Prop}{QO:O→Ex→St→Prop}{body:Code}(h0:∀σ,l 0 σ=none)
  (step:∀k σ s out,Rel σ s→l (k+1) σ=some out→dt P cf A m body s (Df l Rel QO k out)):∀(n:Nat) (σ:S) (s:St) (out:O),Rel σ s→l n σ=some out→∃e s',kl (bF P cf A m body) n s=some (e,s')∧e≠.norm∧QO out e s'
 | 0,σ,s,out,_,h=>by rw [h0] at h; cases h
 | n+1,σ,s,out,hr,h=>by
  obtain⟨e,s',h1,h2⟩:=step n σ s out hr h
  cases e with
  | norm=>
   obtain⟨σ',h3,h4⟩:=h2
   obtain⟨e',RE,h5,h6⟩:=rM h0 step n σ' s' out h3 h4
   exact⟨e',RE,by simp only [kl,h1,Ua,h5],h6⟩
  | exit i=>exact⟨_,s',by simp only [kl,h1,Ua],by simp,h2⟩
  | ret=>exact⟨_,s',by simp only [kl,h1,Ua],by simp,h2⟩
theorem BE {S O:Type}(l:Nat→S→Option O)(Rel:S→St→Prop)(QO:O→Ex→St→Prop){body:Code}(h0:∀σ,l 0 σ=none)
  (step:∀k σ s out,Rel σ s→l (k+1) σ=some out→dt P cf A m body s (Df l Rel QO k out)) {σ:S} {out:O} (hr:Rel σ s) (h:l m σ=some out) (hQ:∀e s',e≠.norm→QO out e s'→Q e s'):dt P cf A m (.loop body) s Q:=by
 obtain⟨e,s',h1,h2,h3⟩:=rM h0 step m σ s out hr h
 exact⟨e,s',by simp only [bF,h1],hQ e s' h2 h3⟩
theorem uO {aV:FuncId→b4}{f:FuncId}{fn:Func}{args:List AV}{h:AHeap}{R:AV→AHeap→Prop}(hf:P.funcs[f]? = some fn)(hb:fn.body=some (b6 fn))(hn:Vv args.length fn.ntmps=true)
  (he:dt P cf (aV f) m (b6 fn) ⟨lQ (aV f).keep args,(aV f).aE.map fun _=>none,h⟩ (fun e s=>(e = .ret∨e = .norm)∧∃r,aM P (s.open (aV f)) fn.results.toList=some r∧R r s.h)) :
  ∃r h',ba P aV cf m f args h=some (r,h')∧R r h':=by
 obtain⟨e,s,h1,h2,r,h3,h4⟩:=he
 refine⟨r,s.h,?_,h4⟩
 unfold ba
 rw [hf,Ua,hb,Ua,if_pos (Nat.le_of_ble_eq_true hn),h1,Ua]
 rcases h2 with rfl | rfl<;>simp only [h3,Ug]
end
end Go.R
namespace Go.R
open Go
structure bL (α:Type) where
 n:Nat
 f:α→List AV
 len:∀a,(f a).length=n
 pos:n≠0
 small:n≤1024:=by decide
 flat:Bool:=true
 pure:∀a,flat=true→cw (f a)=true∧dh (f a)=f a
 canon:∀a,(f a).map ji=f a
section
variable {α:Type}(E:bL α)
def bL.l (l:List α):List AV:=l.flatMap E.f
def bL.fz (l:List α):AV:=.fz (E.l l) l.length false
variable {E}
theorem bL.eo {a:α}{l:List α}:E.l (a::l)=E.f a++E.l l:=rfl
theorem bL.G2:E.l []=[]:=rfl
theorem bL.gR {a b:List α}:E.l (a++b)=E.l a++E.l b:=by simp [bL.l]
theorem bL.bJ:∀{l:List α},(E.l l).length=l.length*E.n
 | []=>by simp [bL.l]
 | a::l=>by rw [bL.eo,Uk,E.len,bL.bJ,Up,Vj,Nat.one_mul,VE]
theorem bL.mJ {l:List α}(h:l.length≤1099511627776):(E.l l).length≤1125899906842624:=by
 rw [bL.bJ]
 exact UT (Nat.mul_le_mul h E.small) (by decide)
theorem bL.uP:∀{l:List α} {i:Nat},(E.l l).drop (i*E.n)=E.l (l.drop i)
 | l,0=>by simp
 | [],i+1=>by simp [bL.l]
 | a::l,i+1=>by
  rw [List.drop_succ_cons,←bL.uP,bL.eo,Vj,Nat.one_mul,List.drop_append,List.drop_of_length_le (by rw [E.len]; omega),UN,E.len,Nat.add_sub_cancel]
theorem bL.Dg:∀{l:List α} {i:Nat},(E.l l).take (i*E.n)=E.l (l.take i)
 | l,0=>by simp [bL.l]
 | [],i+1=>by simp [bL.l]
 | a::l,i+1=>by
  rw [bL.eo,List.take_succ_cons,bL.eo,Vj,Nat.one_mul,VE,List.take_append]
  rw [E.len,UP (by rw [E.len]; omega),Vp,bL.Dg]
theorem bL.G3 {l:List α}{i:Nat}{a:α}(h:l[i]? = some a){off:Nat}(ho:off<E.n):(E.l l)[i*E.n+off]? = (E.f a)[off]?:=by
 rw [←List.getElem?_drop,bL.uP,Uo (Uh.1 h).1,(Uh.1 h).2,bL.eo,Ur (by rw [E.len]; exact ho)]
theorem bL.Dh {l:List α}{i:Nat}{a:α}(h:l[i]? = some a):((E.l l).drop (i*E.n)).take E.n=E.f a:=by
 rw [bL.uP,Uo (Uh.1 h).1,(Uh.1 h).2,bL.eo,UK (by rw [E.len]; exact Ue _)]
 rw [UP (by rw [E.len]; exact Ue _)]
theorem bL.yt {l:List α}{i:Nat}{a:α}(h:l[i]? = some a):i*E.n+E.n≤(E.l l).length:=by
 rw [bL.bJ]
 have:=(Uh.1 h).1
 calc i*E.n+E.n=(i+1)*E.n:=by rw [Vj,Nat.one_mul]
  _≤_:=U1 _ this
theorem om:∀{a b:List AV},cw (a++b)=(cw a&&cw b)
 | [],b=>by simp [cw]
 | x::a,b=>by simp [cw,om,Bool.and_assoc]
theorem oo:∀{a b:List AV},dh (a++b)=dh a++dh b
 | [],b=>rfl
 | x::a,b=>by simp [dh,oo]
theorem bL.nA (hp:E.flat=true):∀{l:List α},cw (E.l l)=true∧dh (E.l l)=E.l l
 | []=>⟨rfl,rfl⟩
 | a::l=>by
  obtain⟨h1,h2⟩:=E.pure a hp
  obtain⟨h3,h4⟩:=bL.nA hp (l:=l)
  rw [bL.eo,om,oo,h1,h2,h3,h4]
  exact⟨rfl,rfl⟩
theorem bL.zD:∀{l:List α},(E.l l).map ji=E.l l
 | []=>rfl
 | a::l=>by rw [bL.eo,UG,E.canon,bL.zD]
theorem bL.bH {l:List α}(hp:E.flat=true:=by rfl):(E.fz l).dM=true∧(E.fz l).iS=E.fz l:=by
 obtain⟨h1,h2⟩:=bL.nA (E:=E) hp (l:=l)
 exact⟨h1,by show AV.fz (dh (E.l l)) l.length false=_; rw [h2]; rfl⟩
theorem gS:∀(cs vs pre HU:List AV),cs.length=vs.length→cX (pre++cs++HU) pre.length vs=pre++vs++HU
 | [],[],pre,HU,_=>by simp [cX]
 | c::cs,v::vs,pre,HU,h=>by
  have:=gS cs vs (pre++[v]) HU (by simpa using h)
  simp only [Uk,Up,UD,Uy] at this
  rw [cX]
  have h2:(pre++c::cs++HU).set pre.length v=pre++[v]++cs++HU:=by
   rw [Uq,Vz _ _ (Ue _),Vm]
   simp
  rw [h2,this]
  simp
 | [],_::_,_,_,h=>by simp at h
 | _::_,[],_,_,h=>by simp at h
theorem bL.Ki {l:List α}{i:Nat}{a b:α}(h:l[i]? = some a)(rest:List AV):cX (E.l l++rest) (i*E.n) (E.f b)=E.l (l.set i b)++rest:=by
 have hi:=(Uh.1 h).1
 have hl:l=l.take i++a::l.drop (i+1):=by
  conv=>lhs; rw [←Vk i l,Uo hi]
  rw [(Uh.1 h).2]
 have hs:l.set i b=l.take i++b::l.drop (i+1):=List.set_eq_take_append_cons_drop .. |>.trans (by rw [if_pos hi])
 have e1:E.l l=E.l (l.take i)++E.f a++E.l (l.drop (i+1)):=by
  conv=>lhs; rw [hl]
  rw [bL.gR,bL.eo,Uq]
 have e2:(E.l (l.take i)).length=i*E.n:=by rw [bL.bJ,U8,Vw (Nat.le_of_lt hi)]
 rw [hs,bL.gR,bL.eo,e1,←e2]
 have:=gS (E.f a) (E.f b) (E.l (l.take i)) (E.l (l.drop (i+1))++rest) (by rw [E.len,E.len])
 simp only [Uq] at this ⊢
 exact this
theorem bL.HV {l:List α}{i:Nat}{a b:α}{off:Nat}{v:AV}(h:l[i]? = some a)(ho:off<E.n)(hb:(E.f a).set off v=E.f b)(rest:List AV):(E.l l++rest).set (i*E.n+off) v=E.l (l.set i b)++rest:=by
 have hi:=(Uh.1 h).1
 have hl:l=l.take i++a::l.drop (i+1):=by
  conv=>lhs; rw [←Vk i l,Uo hi]
  rw [(Uh.1 h).2]
 have hs:l.set i b=l.take i++b::l.drop (i+1):=List.set_eq_take_append_cons_drop .. |>.trans (by rw [if_pos hi])
 have e1:E.l l=E.l (l.take i)++(E.f a++E.l (l.drop (i+1))):=by
  conv=>lhs; rw [hl]
  rw [bL.gR,bL.eo]
 have e2:(E.l (l.take i)).length=i*E.n:=by rw [bL.bJ,U8,Vw (Nat.le_of_lt hi)]
 rw [hs,bL.gR,bL.eo,e1,←hb,←e2]
 simp only [Uq]
 rw [Vz _ _ (by omega),List.set_append_left _ _ (by rw [E.len]; omega)]
 congr 2
 simp
end
def ix {α:Type}(l:List α)(i:Int):Option α:=if 0≤i then l[i.toNat]? else none
theorem gG {α:Type}{l:List α}{i:Int}{a:α}(h:ix l i=some a):0≤i∧i<l.length∧l[i.toNat]? = some a:=by
 unfold ix at h
 split at h
 ·rename_i h0
  have:=(Uh.1 h).1
  exact⟨h0,by omega,h⟩
 ·cases h
def G4 {α:Type}(l:List α)(lo hi:Int):Option (List α):=if 0≤lo∧lo≤hi∧hi≤l.length then some ((l.drop lo.toNat).take (hi.toNat - lo.toNat)) else none
theorem wE {α:Type}{l r:List α}{lo hi:Int}(h:G4 l lo hi=some r):0≤lo∧lo≤hi∧hi≤l.length∧r=(l.drop lo.toNat).take (hi.toNat - lo.toNat):=by
 unfold G4 at h
 split at h
 ·rename_i h0; cases h; exact⟨h0.1,h0.2.1,h0.2.2,rfl⟩
 ·cases h
def bt (s:ByteArray)(i:Int):Option Int:=if 0≤i then (s.data.toList[i.toNat]?).map fun b=>(b.toNat:Int) else none
inductive Ct where
 | sl (n sz:Nat) (cs:List AV)
 | ob (cs:List AV)
 | mp (es:List (AV × AV))
 | row (e:TypeId) (cs:List AV)
def BF (h:AHeap)(i:Nat):Ct→Prop
 | .sl n sz cs=>(cs.length=n*sz∧cs.length≤1125899906842624)∧((i=0∧n=0)∨(i≠0∧∃rest,h.get i=some (.cells (cs++rest))))
 | .ob cs=>i≠0∧h.get i=some (.cells cs)
 | .mp es=>i≠0∧h.get i=some (.map es)
 | .row e cs=>i≠0∧h.get i=some (.row e cs)
abbrev Mem:=List (Nat × Ct)
structure Has (h:AHeap)(K:Mem):Prop where
 at_:∀(j i:Nat) (c:Ct),K[j]? = some (i,c)→BF h i c∧i<h.next
 nd:∀(j j' i:Nat) (c c':Ct),K[j]? = some (i,c)→K[j']? = some (i,c')→i≠0→j=j'
 pos:0<h.next
theorem nB {h h':AHeap}{i:Nat}{c:Ct}(hg:i≠0→h'.get i=h.get i)(h1:BF h i c):BF h' i c:=by
 cases c with
 | sl n sz cs=>
  obtain⟨h2,h3⟩:=h1
  refine⟨h2,h3.imp id fun ⟨h4,r,h5⟩=>⟨h4,r,(hg h4).trans h5⟩⟩
 | ob cs=>exact⟨h1.1,(hg h1.1).trans h1.2⟩
 | mp es=>exact⟨h1.1,(hg h1.1).trans h1.2⟩
 | row e cs=>exact⟨h1.1,(hg h1.1).trans h1.2⟩
theorem cO (h:AHeap)(id k:Nat)(o:AObj):(h.put id o).get k=if k=id then some o else h.get k:=by
 simp only [AHeap.put,beq_nat]
 by_cases hk:k=id<;>simp [hk]
theorem wF (h:AHeap)(id k:Nat):(h.kill id).get k=if k=id then none else h.get k:=by
 simp only [AHeap.kill,beq_nat]
 by_cases hk:k=id<;>simp [hk]
theorem Has.Di {h h':AHeap}{K:Mem}(o:Has h K){j i:Nat}{c:Ct}(hj:K[j]? = some (i,c)){i':Nat}{c':Ct}
  (hg:∀k,k≠i→k<h.next→h'.get k=h.get k) (hn:h.next≤h'.next) (hi:i'=i∨i'=0∨h.next≤i') (hlt:i'<h'.next) (hc:BF h' i' c'):Has h' (K.set j (i',c')):=by
 refine⟨fun q k d hq=>?_,fun q q' k d d' hq uw hk=>?_,Uz o.pos hn⟩
 ·rw [VD] at hq
  by_cases h1:j=q
  ·subst h1
   rw [if_pos rfl] at hq
   split at hq
   ·cases hq; exact⟨hc,hlt⟩
   ·cases hq
  ·rw [if_neg h1] at hq
   obtain⟨g1,g2⟩:=o.at_ q k d hq
   refine⟨nB (fun hk=>hg k (fun he=>?_) g2) g1,Uz g2 hn⟩
   subst he
   exact h1 (o.nd j q k c d hj hq hk)
 ·rw [VD] at hq uw
  have old:∀(q:Nat) (d:Ct),j≠q→K[q]? = some (k,d)→k≠i':=by
   intro x y hne hx he
   rcases hi with h1 | h1 | h1
   ·exact hne (o.nd j x k c y (by rw [he,h1]; exact hj) hx hk)
   ·exact hk (he.trans h1)
   ·have:=(o.at_ x k y hx).2; omega
  by_cases h1:j=q<;>by_cases h2:j=q'
  ·rw [←h1,h2]
  ·subst h1
   rw [if_pos rfl] at hq
   rw [if_neg h2] at uw
   split at hq
   ·cases hq; exact absurd rfl (old q' d' h2 uw)
   ·cases hq
  ·subst h2
   rw [if_pos rfl] at uw
   rw [if_neg h1] at hq
   split at uw
   ·cases uw; exact absurd rfl (old q d h1 hq)
   ·cases uw
  ·rw [if_neg h1] at hq; rw [if_neg h2] at uw
   exact o.nd q q' k d d' hq uw hk
theorem Has.new {h h':AHeap}{K:Mem}(o:Has h K){i:Nat}{c:Ct}(hg:∀k,k<h.next→h'.get k=h.get k)(hn:h.next≤h'.next)(hi:i=0∨h.next≤i)(hlt:i<h'.next)(hc:BF h' i c):Has h' ((i,c)::K):=by
 refine⟨fun q k d hq=>?_,fun q q' k d d' hq uw hk=>?_,Uz o.pos hn⟩
 ·cases q with
  | zero=>simp only [UR,Uc,Ui] at hq; obtain⟨rfl,rfl⟩:=hq; exact⟨hc,hlt⟩
  | succ q=>
   simp only [Ve] at hq
   obtain⟨g1,g2⟩:=o.at_ q k d hq
   exact⟨nB (fun _=>hg k g2) g1,Uz g2 hn⟩
 ·have old:∀(q:Nat) (d:Ct),K[q]? = some (k,d)→k≠i:=by
   intro x y hx he
   rcases hi with h1 | h1
   ·exact hk (he.trans h1)
   ·have:=(o.at_ x k y hx).2; omega
  cases q with
  | zero=>
   simp only [UR,Uc,Ui] at hq
   cases q' with
   | zero=>rfl
   | succ q'=>exact absurd hq.1.symm (old q' d' (by simpa using uw))
  | succ q=>
   cases q' with
   | zero=>
    simp only [UR,Uc,Ui] at uw
    exact absurd uw.1.symm (old q d (by simpa using hq))
   | succ q'=>rw [o.nd q q' k d d' (by simpa using hq) (by simpa using uw) hk]
theorem Has.nil {h:AHeap}{K:Mem}(o:Has h K)(sz:Nat):Has h ((0,.sl 0 sz [])::K):=
 o.new (fun _ _=>rfl) (Ue _) (.inl rfl) o.pos ⟨⟨by simp,by simp⟩,.inl ⟨rfl,rfl⟩⟩
theorem Has.sub {h:AHeap}{K K':Mem}(o:Has h K)(f:Nat→Nat)(hf:∀j p,K'[j]? = some p→K[f j]? = some p)(hi:∀j j',f j=f j'→j=j'):Has h K':=
 ⟨fun j i c hj=>o.at_ (f j) i c (hf j _ hj),fun j j' i c c' hj xJ hk=>hi _ _ (o.nd (f j) (f j') i c c' (hf j _ hj) (hf j' _ xJ) hk),o.pos⟩
theorem Has.del {h:AHeap}{K:Mem}(o:Has h K)(q:Nat):Has h (K.eraseIdx q):=
 o.sub (fun j=>if j<q then j else j+1) (fun j p hj=>by
  rw [List.getElem?_eraseIdx] at hj
  split at hj
  ·rename_i h1; simpa [h1] using hj
  ·rename_i h1; simpa [h1] using hj) (fun j j' he=>by
   split at he<;>split at he<;>omega)
theorem Has.front {h:AHeap}{K:Mem}(o:Has h K)(q:Nat){p:Nat × Ct}(hq:K[q]? = some p):Has h (p::K.eraseIdx q):=
 o.sub (fun j=>match j with | 0=>q | j+1=>if j<q then j else j+1) (fun j p' hj=>by
  cases j with
  | zero=>simp only [UR,Uc] at hj; subst hj; exact hq
  | succ j=>
   simp only [Ve,List.getElem?_eraseIdx] at hj
   dsimp only
   split at hj
   ·rename_i h1; simpa [h1] using hj
   ·rename_i h1; simpa [h1] using hj) (fun j j' he=>by
   cases j with
   | zero=>cases j' with
    | zero=>rfl
    | succ j'=>dsimp only at he; split at he<;>omega
   | succ j=>cases j' with
    | zero=>dsimp only at he; split at he<;>omega
    | succ j'=>dsimp only at he; split at he<;>split at he<;>omega)
end Go.R
namespace Go.R
open Go
def wG (P:Program)(t:TypeId)(sz b:Nat):Bool:=
 match P.underlying t with
 | some (.slice e)=>match P.info? e with
  | some i=>UL i.size sz&&UL i.bytes b&&GK i
  | none=>false
 | _=>false
section
variable {P:Program}{t:TypeId}{sz b:Nat}
theorem jz (h:wG P t sz b=true):∃e i,P.underlying t=some (.slice e)∧P.info? e=some i∧i.size=sz∧i.bytes=b∧GK i=true∧eL P e=some sz:=by
 unfold wG at h
 split at h
 ·rename_i e he
  split at h
  ·rename_i i hi
   simp only [Ud] at h
   have h1:=Vb h.1.1
   exact⟨e,i,he,hi,h1,Vb h.1.2,h.2,by simp [eL,hi,h1]⟩
  ·cases h
 ·cases h
variable {α:Type}{E:bL α}{h:AHeap}{K:Mem}{l:List α}{a v:α}{i q:Nat}{j:Int}{k:IntKind}{c:AV}{off:Nat}{tf:TypeId}
theorem fR (T:wG P t E.n b=true)(h:ix l j=some a):eD P t (E.fz l) (.int k j)=some (.fp (E.l l) (j.toNat*E.n)):=by
 obtain⟨e,inf,h1,h2,h3,h4,h5,h6⟩:=jz T
 obtain⟨g1,g2,g3⟩:=gG h
 have hle:=bL.yt (E:=E) g3
 have hp:=E.pos
 simp only [eD,h1,Ua,h6,bL.fz]
 rw [if_pos ⟨g1,g2,by omega⟩]
theorem Kj (h:l[j.toNat]? = some a):(E.l l).isEmpty=false:=by
 have hle:=bL.yt (E:=E) h
 have hp:=E.pos
 cases hl:E.l l with
 | nil=>rw [hl] at hle; simp at hle; omega
 | cons _ _=>rfl
theorem rN (hp:AHeap)(ha:fC P tf=some false)(h:ix l j=some a)(hc:(E.f a)[off]? = some c):bn P hp tf (.fp (E.l l) (j.toNat*E.n+off))=some c:=by
 obtain⟨g1,g2,g3⟩:=gG h
 have ho:off<E.n:=by rw [←E.len a]; exact (Uh.1 hc).1
 simp only [bn,jj,Kj g3,Um,if_false,iC,ha,Ua,bL.G3 g3 ho,hc]
theorem jA (hp:AHeap)(ha:fC P tf=some false)(h:ix l j=some a)(hc:(E.f a)[0]? = some c):bn P hp tf (.fp (E.l l) (j.toNat*E.n))=some c:=rN (off:=0) hp ha h hc
theorem jZ (hp:AHeap)(ha:fC P tf=some true)(hs:eL P tf=some E.n)(h:ix l j=some a):bn P hp tf (.fp (E.l l) (j.toNat*E.n))=some (.agg (E.f a)):=by
 obtain⟨g1,g2,g3⟩:=gG h
 simp only [bn,jj,Kj g3,Um,if_false,iC,ha,Ua,if_true,hs]
 rw [if_pos (bL.yt g3),bL.Dh g3]
theorem qS (o:Has h K)(hq:K[q]? = some (i,.sl l.length E.n (E.l l)))(hj:l[j.toNat]? = some a):i≠0∧∃rest,h.get i=some (.cells (E.l l++rest)):=by
 obtain⟨⟨_,h1⟩,_⟩:=o.at_ _ _ _ hq
 rcases h1 with⟨_,h1⟩| h1
 ·have:=(Uh.1 hj).1; omega
 ·exact h1
theorem HW (T:wG P t sz b=true){n:Nat}(h0:0≤j)(h1:j<n):eD P t (.rs i 0 n sz) (.int k j)=some (.ptr i (0+j.toNat*sz)):=by
 obtain⟨e,inf,g1,g2,g3,g4,g5,g6⟩:=jz T
 simp only [eD,g1,Ua,g6]
 rw [if_pos ⟨trivial,h0,h1⟩]
theorem tA (o:Has h K)(hq:K[q]? = some (i,.sl l.length E.n (E.l l)))(ha:fC P tf=some false)(hj:ix l j=some a)(hc:(E.f a)[off]? = some c):bn P h tf (.ptr i (0+j.toNat*E.n+off))=some c:=by
 obtain⟨g1,g2,g3⟩:=gG hj
 obtain⟨h1,rest,h2⟩:=qS o hq g3
 have ho:off<E.n:=by rw [←E.len a]; exact (Uh.1 hc).1
 have hle:=bL.yt (E:=E) g3
 simp only [bn,jj,h2,Ua,iC,ha,Um,if_false,Uy]
 rw [Ur (by omega),bL.G3 g3 ho,hc]
theorem BG (o:Has h K)(hq:K[q]? = some (i,.sl l.length E.n (E.l l)))(ha:fC P tf=some false)(hj:ix l j=some a)(hc:(E.f a)[0]? = some c):bn P h tf (.ptr i (0+j.toNat*E.n))=some c:=tA (off:=0) o hq ha hj hc
theorem BH (o:Has h K)(hq:K[q]? = some (i,.sl l.length E.n (E.l l)))(ha:fC P tf=some true)(hs:eL P tf=some E.n)(hj:ix l j=some a):bn P h tf (.ptr i (0+j.toNat*E.n))=some (.agg (E.f a)):=by
 obtain⟨g1,g2,g3⟩:=gG hj
 obtain⟨h1,rest,h2⟩:=qS o hq g3
 have hle:=bL.yt (E:=E) g3
 simp only [bn,jj,h2,Ua,iC,ha,if_true,hs,Uy]
 rw [if_pos (by rw [Uk]; omega),List.drop_append_of_le_length (by omega),UK (by rw [List.length_drop]; omega),bL.Dh g3]
theorem ja (o:Has h K){c':Ct}{ct:Ct}(hq:K[q]? = some (i,ct)){ob:AObj}(hc:BF (h.put i ob) i c'):Has (h.put i ob) (K.set q (i,c')):=
 o.Di hq (fun k hk _=>by rw [cO,if_neg hk]) (Vi _) (.inl rfl) (Vn (o.at_ _ _ _ hq).2) hc
theorem Dj (o:Has h K)(hq:K[q]? = some (i,.sl l.length E.n (E.l l)))(hs:eL P tf=some E.n)(hj:ix l j=some a){x:AV}(hv:x.cells=E.f v)(nI:(E.f v).all AV.bP=true) :
  ∃h',iF P h tf (.ptr i (0+j.toNat*E.n)) x=some h'∧Has h' (K.set q (i,.sl l.length E.n (E.l (l.set j.toNat v)))):=by
 obtain⟨g1,g2,g3⟩:=gG hj
 obtain⟨h1,rest,h2⟩:=qS o hq g3
 have hle:=bL.yt (E:=E) g3
 refine⟨_,?_,ja o hq (ob:=.cells (E.l (l.set j.toNat v)++rest)) ⟨⟨by rw [bL.bJ,Ul],by rw [bL.bJ,Ul,←bL.bJ]; exact (o.at_ _ _ _ hq).1.1.2⟩,.inr ⟨h1,rest,by rw [cO,if_pos rfl]⟩⟩⟩
 simp only [iF,h2,Ua,gD,hs,hv,Uy]
 rw [if_pos ⟨E.len v,nI,by rw [Uk]; omega⟩,Ug,bL.Ki g3]
theorem BI (o:Has h K)(hq:K[q]? = some (i,.sl l.length E.n (E.l l)))(hs:eL P tf=some 1)(hj:ix l j=some a){x:AV}(hx:x.cells=[x])(nI:x.bP=true)(ho:off<E.n)(hb:(E.f a).set off x=E.f v) :
  ∃h',iF P h tf (.ptr i (0+j.toNat*E.n+off)) x=some h'∧Has h' (K.set q (i,.sl l.length E.n (E.l (l.set j.toNat v)))):=by
 obtain⟨g1,g2,g3⟩:=gG hj
 obtain⟨h1,rest,h2⟩:=qS o hq g3
 have hle:=bL.yt (E:=E) g3
 refine⟨_,?_,ja o hq (ob:=.cells (E.l (l.set j.toNat v)++rest)) ⟨⟨by rw [bL.bJ,Ul],by rw [bL.bJ,Ul,←bL.bJ]; exact (o.at_ _ _ _ hq).1.1.2⟩,.inr ⟨h1,rest,by rw [cO,if_pos rfl]⟩⟩⟩
 simp only [iF,h2,Ua,gD,hs,hx,Uy]
 rw [if_pos ⟨rfl,by simp [nI],by rw [Uk]; omega⟩,Ug]
 simp only [cX]
 rw [bL.HV g3 ho hb]
def app (b:Nat){α:Type}(l l2:List α):Option (List α):=if (l.length+l2.length)*(b+1)≤1099511627776 then some (l++l2) else none
theorem wH {l l2 r:List α}(h:app b l l2=some r):(l.length+l2.length)*b≤gg∧l.length+l2.length≤gg∧r=l++l2:=by
 unfold app at h
 split at h
 ·rename_i h0
  cases h
  rw [Nat.mul_add,Nat.mul_one] at h0
  refine⟨by simp only [gg]; omega,by simp only [gg]; omega,rfl⟩
 ·cases h
theorem Dk {t2:TypeId}{l2 r:List α}{x:AV}(T:wG P t E.n b=true)(o:Has h K)(hq:K[q]? = some (i,.sl l.length E.n (E.l l)))(hx:fc h E.n x=some (E.l l2,l2.length))(gk:ie P t2 x=true)(hr:app b l l2=some r) :
  ∃i' h',dq P h t t2 (.rs i 0 l.length E.n) x=some (.rs i' 0 r.length E.n,h')∧Has h' (K.set q (i',.sl r.length E.n (E.l r))):=by
 obtain⟨e,inf,g1,g2,g3,g4,g5,g6⟩:=jz T
 obtain⟨r1,r2,rfl⟩:=wH hr
 obtain⟨⟨⟨hlen,qf⟩,ly⟩,hlt⟩:=o.at_ _ _ _ hq
 have nV:=E.pos
 have hb:inf.size=E.n:=g3
 have jt:¬(inf.size=0∨ie P t2 x=false∨GK inf=false):=by rw [gk,g5,hb]; simp [nV]
 subst g4
 by_cases h0:l2=[]
 ·subst h0
  refine⟨i,h,?_,?_⟩
  ·simp only [dq,g1,Ua,g2,hb,hx,gk,g5]
   rw [if_neg (by simp [nV])]
   simp only [UD,Nat.zero_mul,VG,Vy]
   by_cases hi:i=0
   ·subst hi
    rcases ly with⟨_,hl0⟩| h1
    ·simp [hl0,hb,gg]
    ·exact absurd rfl h1.1
   ·rcases ly with h1 | ⟨_,rest,h1⟩
    ·exact absurd h1.1 hi
    ·rw [if_neg hi,h1]
     simp only [Ua]
     rw [if_neg (by rw [Uk,hlen]; simp only [UD,VG] at r1 r2; simp; omega)]
     simp
  ·rw [Vy]
   have:K.set q (i,.sl l.length E.n (E.l l))=K:=by
    apply VC
    intro j
    rw [VD]
    by_cases hj:q=j
    ·subst hj; rw [if_pos rfl,if_pos (Uh.1 hq).1,hq]
    ·rw [if_neg hj]
   rw [this]; exact o
 ·have Hr:l2.length≠0:=by simpa using h0
  by_cases hi:i=0
  ·subst hi
   rcases ly with⟨_,hl0⟩| h1
   rotate_left
   ·exact absurd rfl h1.1
   have hnil:l=[]:=by simpa using hl0
   subst hnil
   refine⟨h.next,h.alloc (.cells (E.l l2)),?_,?_⟩
   ·simp only [dq,g1,Ua,g2,hb,hx,gk,g5]
    rw [if_neg (by simp [nV])]
    simp only [if_true]
    simp only [UD,Uy] at r1 r2
    rw [if_neg (by simp; omega),if_neg Hr]
    simp
   ·refine o.Di hq (fun k _ hk=>by rw [AHeap.alloc,cO,if_neg (by omega)]) (Vi _) (.inr (.inr (Ue _))) (UY _) ⟨⟨bL.bJ,bL.mJ (by simp only [gg] at r2; simp at r2 ⊢; omega)⟩,.inr ⟨by have:=o.pos; omega,[],?_⟩⟩
    rw [AHeap.alloc,cO,if_pos rfl]; simp
  ·rcases ly with h1 | ⟨_,rest,h1⟩
   ·exact absurd h1.1 hi
   refine⟨h.next,(h.kill i).put h.next (.cells (E.l (l++l2))),?_,?_⟩
   ·simp only [dq,g1,Ua,g2,hb,hx,gk,g5]
    rw [if_neg (by simp [nV]),if_neg hi,h1]
    simp only [Ua]
    rw [if_neg (by rw [Uk,hlen]; simp; omega),if_neg Hr]
    rw [US,UK (by rw [hlen]; exact Ue _),UP (by rw [hlen]; exact Ue _),bL.gR,Uk]
   ·refine o.Di hq (fun k hk rC=>by rw [cO,if_neg (by omega),wF,if_neg hk]) (by show h.next≤h.next+1+1; omega) (.inr (.inr (Ue _))) (by show h.next<h.next+1+1; omega) ⟨⟨bL.bJ,bL.mJ (by simp only [gg] at r2; simp at r2 ⊢; omega)⟩,.inr ⟨by have:=o.pos; omega,[],?_⟩⟩
    rw [cO,if_pos rfl]; simp
def Cv (b:Nat){α:Type}(n:Int)(z:α):Option (List α):=if 0≤n∧n.toNat*(b+1)≤1099511627776 then some (Uu n.toNat z) else none
theorem uQ {n:Int}{z:α}{zv:AV}{r:List α}(T:wG P t E.n b=true)(o:Has h K)(e0:TypeId)(RF:P.underlying t=some (.slice e0))(hz0:ic P e0=some zv)(Mj:zv.cells=E.f z)(nI:(E.f z).all AV.bP=true)(hr:Cv b n z=some r) :
  ∃i h',gr P h t (.int .i64 n) (.int .i64 n)=some (.rs i 0 r.length E.n,h')∧Has h' ((i,.sl r.length E.n (E.l r))::K):=by
 have hz:∀e,P.underlying t=some (.slice e)→ic P e=some zv:=fun e he=>by
  rw [RF] at he; cases he; exact hz0
 unfold Cv at hr
 split at hr
 rotate_left
 ·cases hr
 rename_i jt
 obtain⟨h0,h1⟩:=jt
 cases hr
 obtain⟨e,inf,g1,g2,g3,g4,g5,g6⟩:=jz T
 have nV:=E.pos
 have MK:∀k,hH (E.f z) k=E.l (Uu k z):=by
  intro k
  induction k with
  | zero=>rfl
  | succ k ih=>rw [hH,ih,List.replicate_succ,bL.eo]
 refine⟨h.next,h.alloc (.cells (E.l (Uu n.toNat z))),?_,o.new (fun k hk=>by rw [AHeap.alloc,cO,if_neg (by omega)]) (Vi _) (.inr (Ue _)) (UY _) ⟨⟨bL.bJ,bL.mJ (by rw [VA]; rw [Nat.mul_add,Nat.mul_one] at h1; omega)⟩,.inr ⟨by have:=o.pos; omega,[],by rw [AHeap.alloc,cO,if_pos rfl]; simp⟩⟩⟩
 rw [Nat.mul_add,Nat.mul_one] at h1
 simp only [gr,g1,Ua,g2,hz e g1,Mj,E.len,MK,VA,g3,g4]
 have hb:n*(b:Int)≤gg:=by
  have:n*(b:Int)=((n.toNat*b:Nat):Int):=by
   rw [Int.natCast_mul,Int.toNat_of_nonneg h0]
  simp only [gg]
  rw [this]
  omega
 rw [if_pos ⟨h0,Int.le_refl _,hb,trivial,nV,by omega,nI⟩]
theorem Dl (o:Has h K)(hq:K[q]? = some (i,.sl l.length E.n (E.l l)))(hp:E.flat=true:=by rfl):∃h',iL 0 h (.rs i 0 l.length E.n)=some (E.fz l,h')∧Has h' (K.eraseIdx q):=by
 obtain⟨⟨⟨hlen,qf⟩,ly⟩,hlt⟩:=o.at_ _ _ _ hq
 rcases ly with⟨h0,h1⟩| ⟨h0,rest,h1⟩
 ·have:l=[]:=by simpa using h1
  subst this
  exact⟨h,by simp [iL,h0,bL.fz,bL.l],o.del q⟩
 ·refine⟨h.kill i,?_,?_⟩
  ·simp only [iL]
   rw [if_neg h0,h1]
   simp only [Ua]
   have e1:((E.l l++rest).drop 0).take (l.length*E.n)=E.l l:=by
    rw [US,UK (by rw [hlen]; exact Ue _),UP (by rw [hlen]; exact Ue _)]
   rw [e1,if_pos (by rw [Uk,hlen]; omega),pa (bL.nA hp).1]
   rfl
  ·have o2:=o.Di (i':=0) (c':=.sl 0 1 []) (h':=h.kill i) hq (fun k hk _=>by rw [wF,if_neg hk]) (Vi _) (.inr (.inl rfl)) (Nat.succ_pos _) ⟨⟨by simp,by simp⟩,.inl ⟨rfl,rfl⟩⟩
   have:=o2.del q
   rwa [List.eraseIdx_set_eq] at this
variable {n:Nat}
theorem cD (o:Has h K)(hq:K[q]? = some (i,.sl n E.n (E.l l))):n=l.length:=by
 have h1:=(o.at_ _ _ _ hq).1.1.1
 rw [bL.bJ] at h1
 exact (Nat.eq_of_mul_eq_mul_right (Nat.pos_of_ne_zero E.pos) h1).symm
theorem bj (T:wG P t E.n b=true)(o:Has h K)(hq:K[q]? = some (i,.sl n E.n (E.l l)))(hj:ix l j=some a):eD P t (.rs i 0 n E.n) (.int k j)=some (.ptr i (0+j.toNat*E.n)):=by
 have hn:=cD o hq
 subst hn
 exact HW T (gG hj).1 (gG hj).2.1
theorem zE (o:Has h K)(hq:K[q]? = some (i,.sl n E.n (E.l l)))(ha:fC P tf=some false)(hj:ix l j=some a)(hc:(E.f a)[off]? = some c):bn P h tf (.ptr i (0+j.toNat*E.n+off))=some c:=by
 have hn:=cD o hq
 subst hn
 exact tA o hq ha hj hc
theorem dr (o:Has h K)(hq:K[q]? = some (i,.sl n E.n (E.l l)))(ha:fC P tf=some false)(hj:ix l j=some a)(hc:(E.f a)[0]? = some c):bn P h tf (.ptr i (0+j.toNat*E.n))=some c:=by
 have hn:=cD o hq
 subst hn
 exact BG o hq ha hj hc
theorem uR (o:Has h K)(hq:K[q]? = some (i,.sl n E.n (E.l l)))(ha:fC P tf=some true)(hs:eL P tf=some E.n)(hj:ix l j=some a):bn P h tf (.ptr i (0+j.toNat*E.n))=some (.agg (E.f a)):=by
 have hn:=cD o hq
 subst hn
 exact BH o hq ha hs hj
theorem eV (o:Has h K)(hq:K[q]? = some (i,.sl n E.n (E.l l)))(hs:eL P tf=some E.n)(hj:ix l j=some a){x:AV}(hv:x.cells=E.f v)(nI:(E.f v).all AV.bP=true) :
  ∃h',iF P h tf (.ptr i (0+j.toNat*E.n)) x=some h'∧Has h' (K.set q (i,.sl n E.n (E.l (l.set j.toNat v)))):=by
 have hn:=cD o hq
 subst hn
 exact Dj o hq hs hj hv nI
theorem FN (o:Has h K)(hq:K[q]? = some (i,.sl n E.n (E.l l)))(hs:eL P tf=some 1)(hj:ix l j=some a){x:AV}(hx:x.cells=[x])(nI:x.bP=true)(ho:off<E.n)(hb:(E.f a).set off x=E.f v) :
  ∃h',iF P h tf (.ptr i (0+j.toNat*E.n+off)) x=some h'∧Has h' (K.set q (i,.sl n E.n (E.l (l.set j.toNat v)))):=by
 have hn:=cD o hq
 subst hn
 exact BI o hq hs hj hx nI ho hb
theorem iV {t2:TypeId}{l2 r:List α}{x:AV}(T:wG P t E.n b=true)(o:Has h K)(hq:K[q]? = some (i,.sl n E.n (E.l l)))(hx:fc h E.n x=some (E.l l2,l2.length))(gk:ie P t2 x=true)(hr:app b l l2=some r) :
  ∃i' h',dq P h t t2 (.rs i 0 n E.n) x=some (.rs i' 0 r.length E.n,h')∧Has h' (K.set q (i',.sl r.length E.n (E.l r))):=by
 have hn:=cD o hq
 subst hn
 exact Dk T o hq hx gk hr
theorem rO (o:Has h K)(hq:K[q]? = some (i,.sl n E.n (E.l l)))(hp:E.flat=true:=by rfl):∃h',iL 0 h (.rs i 0 n E.n)=some (E.fz l,h')∧Has h' (K.eraseIdx q):=by
 have hn:=cD o hq
 subst hn
 exact Dl o hq hp
end
end Go.R
namespace Go.R
open Go
structure ao where
 kind:Int
 int:Int
 label:ByteArray
 args:List Int
structure bu where
 nodes:List ao
 root:Int
def eI (k:IntKind):bL Int:={n:=1,f:=fun a=>[.int k a],len:=fun _=>rfl,pos:=by decide,pure:=fun _ _=>⟨rfl,rfl⟩,canon:=fun _=>rfl}
abbrev af:bL Int:=eI .i64
theorem pure_cons {x:AV}{xs:List AV}(h:x.dM=true∧x.iS=x)(k:cw xs=true∧dh xs=xs):cw (x::xs)=true∧dh (x::xs)=x::xs:=
 ⟨by simp [cw,h.1,k.1],by simp [dh,h.2,k.2]⟩
theorem pure_nil:cw []=true∧dh []=[]:=⟨rfl,rfl⟩
theorem fS {k:IntKind}{n:Int}:(AV.int k n).dM=true∧(AV.int k n).iS = .int k n:=⟨rfl,rfl⟩
theorem l8 {s:ByteArray}:(AV.str s).dM=true∧(AV.str s).iS = .str s:=⟨rfl,rfl⟩
theorem dO {b:Bool}:(AV.bool b).dM=true∧(AV.bool b).iS = .bool b:=⟨rfl,rfl⟩
def ah:bL ao:={n:=4,f:=fun x=>[.int .i64 x.kind,.int .i64 x.int,.str x.label,af.fz x.args],len:=fun _=>rfl,pos:=by decide,pure:=fun x _=>pure_cons fS (pure_cons fS (pure_cons l8 (pure_cons bL.bH pure_nil))),canon:=fun _=>rfl}
end Go.R
namespace Go.R
open Go
theorem FO {b:Bool}(h:b=false):¬b=true:=by rw [h]; decide
section
variable {P:Program}{cf:CallF}{A:b4}{m:Nat}
theorem tB {c:Code}{s:St}{Q R:Ex→St→Prop}(h:dt P cf A m c s Q)(k:∀e s',Q e s'→R e s'):dt P cf A m c s R:=by
 obtain⟨e,s',h1,h2⟩:=h
 exact⟨e,s',h1,k _ _ h2⟩
theorem aI {c:Code}{s:St}{Q:St→Prop}{R:Ex→St→Prop}(hQ:∀e s',(e = .ret∨e = .norm)∧Q s'→R e s')(h:dt P cf A m c s (fun e s'=>(e = .ret∨e = .norm)∧Q s')):dt P cf A m c s R:=tB h hQ
end
def iu:Nat:=1125899906842630
def j5 (k:Nat)(h:AHeap)(x y:AV):Prop:=∀n,iu+k≤n→b5 h n x=some y
def aP (k:Nat)(h:AHeap)(x y:List AV):Prop:=∀n,iu+k≤n→bq h n x=some y
def ML (h:AHeap)(x y:AV):Prop:=j5 4503599627370496 h x y
section
variable {h:AHeap}{α:Type}{E:bL α}{l:List α}{K:Mem}{q i:Nat}
theorem j5.mono {k k':Nat}{x y:AV}(hk:k≤k')(f:j5 k h x y):j5 k' h x y:=fun n hn=>f n (by omega)
theorem Fk {k:Nat}{x y:AV}(f:j5 k h x y)(hk:k≤4503599627370496:=by decide):ML h x y:=f.mono hk
theorem ot {n:Nat}(h:iu≤n):∃k,n=k+1∧iu≤k+1:=⟨n - 1,by simp only [iu] at h; omega,by omega⟩
theorem kY {x:AV}(h1:x.dM=true)(h2:∀n,b5 h (n+1) x=if x.dM then some x.iS else none){y:AV}(h3:x.iS=y):j5 0 h x y:=fun n hn=>by
 obtain⟨k,rfl,_⟩:=ot (show iu≤n by omega)
 rw [h2,h1,h3]; rfl
theorem br {k:IntKind}{n:Int}:j5 0 h (.int k n) (.int k n):=kY rfl (fun _=>rfl) rfl
theorem gi {b:Bool}:j5 0 h (.bool b) (.bool b):=kY rfl (fun _=>rfl) rfl
theorem cH {s:ByteArray}:j5 0 h (.str s) (.str s):=kY rfl (fun _=>rfl) rfl
theorem fT (hp:E.flat=true:=by rfl):j5 0 h (E.fz l) (E.fz l):=kY (bL.bH hp).1 (fun _=>rfl) (bL.bH hp).2
theorem rP {cs:List AV}(h1:(cw cs=true))(h2:dh cs=E.l l){n:Nat}{b:Bool}(h3:n=l.length):j5 0 h (.fz cs n b) (E.fz l):=by
 refine kY (by simpa [AV.dM] using h1) (fun _=>rfl) ?_
 subst h3
 show AV.fz (dh cs) l.length false=_
 rw [h2]; rfl
theorem nc:∀{cs:List AV} {n:Nat},cw cs=true→(∀x∈cs,∀n,b5 h (n+1) x=if x.dM then some x.iS else none)→cs.length+1<n→bq h n cs=some (dh cs)
 | [],n,_,_,hn=>by
  obtain⟨k,rfl⟩:∃k,n=k+1:=⟨n - 1,by omega⟩
  rfl
 | x::cs,n,h1,h2,hn=>by
  obtain⟨k,rfl⟩:∃k,n=k+1+1:=⟨n - 2,by simp at hn; omega⟩
  simp only [cw,Ud] at h1
  simp only [bq]
  rw [h2 x (by simp) k,h1.1]
  simp only [if_true,Ua]
  rw [nc h1.2 (fun y hy=>h2 y (by simp [hy])) (by simp at hn; omega)]
  rfl
def wI:AV→Bool
 | .agg _ | .tup _ | .fn _ _=>false
 | _=>true
theorem Dm {x:AV}(hf:wI x=true)(hn:x.dM=true)(n:Nat):b5 h (n+1) x=if x.dM then some x.iS else none:=by
 cases x<;>first | rfl | (simp [AV.dM] at hn; done) | (simp [wI] at hf; done)
theorem FP (o:Has h K)(hq:K[q]? = some (i,.sl l.length E.n (E.l l)))(hf:∀a:α,(E.f a).all wI=true)(hp:E.flat=true:=by rfl):j5 0 h (.rs i 0 l.length E.n) (E.fz l):=fun n hn=>by
 obtain⟨⟨⟨hlen,qf⟩,ly⟩,hlt⟩:=o.at_ _ _ _ hq
 obtain⟨k,rfl,hk⟩:=ot (show iu≤n by omega)
 simp only [b5]
 rcases ly with⟨h0,h1⟩| ⟨h0,rest,h1⟩
 ·have:l=[]:=by simpa using h1
  subst this
  simp [h0,bL.fz,bL.l]
 ·rw [if_neg h0,h1]
  simp only [Ua]
  have e1:((E.l l++rest).drop 0).take (l.length*E.n)=E.l l:=by
   rw [US,UK (by rw [hlen]; exact Ue _),UP (by rw [hlen]; exact Ue _)]
  rw [if_pos (by rw [Uk,hlen]; omega),e1,nc (bL.nA hp).1 (fun x hx=>?_) (by simp only [iu] at hk; omega),(bL.nA hp).2]
  ·rfl
  ·have hnx:x.dM=true:=by
    have:∀(cs:List AV),cw cs=true→x∈cs→x.dM=true:=by
     intro cs
     induction cs with
     | nil=>intro _ h; cases h
     | cons y ys ih=>
      intro h hm
      simp only [cw,Ud] at h
      rcases UA.1 hm with rfl | hm
      ·exact h.1
      ·exact ih h.2 hm
    exact this _ (bL.nA hp).1 hx
   have RG:wI x=true:=by
    unfold bL.l at hx
    rw [List.mem_flatMap] at hx
    obtain⟨a,_,ha⟩:=hx
    exact Uv.1 (hf a) x ha
   exact fun n=>Dm RG hnx n
theorem eK {n:Nat}(o:Has h K)(hq:K[q]? = some (i,.sl n E.n (E.l l)))(hf:∀a:α,(E.f a).all wI=true)(hp:E.flat=true:=by rfl):j5 0 h (.rs i 0 n E.n) (E.fz l):=by
 have hn:=cD o hq
 subst hn
 exact FP o hq hf hp
theorem ay:aP 0 h [] []:=fun n hn=>by
 obtain⟨k,rfl,_⟩:=ot (show iu≤n by omega)
 rfl
theorem ai {k1 k2:Nat}{x y:AV}{xs ys:List AV}(f:j5 k1 h x y)(g:aP k2 h xs ys):aP (k1+k2+1) h (x::xs) (y::ys):=fun n hn=>by
 obtain⟨k,rfl⟩:∃k,n=k+1:=⟨n - 1,by omega⟩
 simp only [bq]
 rw [f k (by omega),g k (by omega)]
 rfl
theorem jB {k:Nat}{xs ys:List AV}(f:aP k h xs ys):j5 (k+1) h (.agg xs) (.agg ys):=fun n hn=>by
 obtain⟨k,rfl⟩:∃k,n=k+1:=⟨n - 1,by omega⟩
 simp only [b5]
 rw [f k (by omega)]; rfl
end
def iR (k:IntKind)(x:Int)(n:Nat):Int:=x.fdiv (2 ^ (min n k.bits))
section
variable {P:Program}{t:TypeId}{b:Nat}{α:Type}{E:bL α}{h:AHeap}{K:Mem}{l r:List α}{i q:Nat}{j lo hi:Int}{k k':IntKind}
theorem uS {s:ByteArray}{v:Int}(hu:P.underlying t=some .string)(h:bt s j=some v):oS P t (.str s) (.int k j)=some (.int .u8 v):=by
 unfold bt at h
 split at h
 ·rename_i h0
  rw [Ub] at h
  obtain⟨b,hb,rfl⟩:=h
  simp only [oS,hu,Ua,h0,if_true,hb,Ug]
 ·cases h
theorem Dn (h:G4 l lo hi=some r):(((E.l l).drop (lo.toNat*E.n)).take ((hi.toNat - lo.toNat)*E.n))=E.l r∧r.length=hi.toNat - lo.toNat:=by
 obtain⟨h0,h1,h2,rfl⟩:=wE h
 refine⟨by rw [bL.uP,bL.Dg],?_⟩
 rw [U8,List.length_drop]
 omega
theorem Dp (o:Has h K)(hq:K[q]? = some (i,.sl l.length E.n (E.l l)))(T:wG P t E.n b=true)(hs:G4 l 0 hi=some r) :
  kO P t (.rs i 0 l.length E.n) none (some (.int k hi)) none=some (.rs i 0 r.length E.n)∧Has h (K.set q (i,.sl r.length E.n (E.l r))):=by
 obtain⟨e,inf,g1,g2,g3,g4,g5,g6⟩:=jz T
 obtain⟨h0,h1,h2,hr⟩:=wE hs
 obtain⟨h3,h4⟩:=Dn (E:=E) hs
 simp only [Int.toNat_zero,Nat.sub_zero] at h4 hr
 have yo:r=l.take hi.toNat:=by rw [hr]; simp
 refine⟨?_,?_⟩
 ·simp only [kO,g1,Ua,g6,if_true,jK]
  rw [if_pos ⟨by omega,h2⟩]
  simp only [Ua,Ug,Nat.zero_mul,VG,Nat.sub_zero,h4]
 ·obtain⟨⟨⟨hlen,qf⟩,ly⟩,hlt⟩:=o.at_ _ _ _ hq
  refine o.Di hq (fun _ _ _=>rfl) (Ue _) (.inl rfl) hlt ⟨⟨bL.bJ,?_⟩,?_⟩
  ·rw [bL.bJ]
   refine UT (U1 _ ?_) (hlen ▸ qf)
   rw [h4]; omega
  ·rcases ly with⟨h5,h6⟩| ⟨h5,rest,h6⟩
   ·left; exact⟨h5,by rw [h4]; omega⟩
   ·right
    refine⟨h5,E.l (l.drop hi.toNat)++rest,?_⟩
    rw [h6,yo,←Uq,←bL.gR,Vk]
theorem HX {n:Nat}(o:Has h K)(hq:K[q]? = some (i,.sl n E.n (E.l l)))(T:wG P t E.n b=true)(hs:G4 l 0 hi=some r) :
  kO P t (.rs i 0 n E.n) none (some (.int k hi)) none=some (.rs i 0 r.length E.n)∧Has h (K.set q (i,.sl r.length E.n (E.l r))):=by
 have hn:=cD o hq
 subst hn
 exact Dp o hq T hs
end
theorem ar {P:Program}{cf:CallF}{m:Nat}{aV:FuncId→b4}{f:FuncId}{fn:Func}{A:b4}(ha:aV f=A){args:List AV}{h:AHeap}{R:AV→AHeap→Prop}(hf:P.funcs[f]? = some fn)(hb:fn.body=some (b6 fn))(hn:Vv args.length fn.ntmps=true)
  (he:dt P cf A m (b6 fn) ⟨lQ A.keep args,A.aE.map fun _=>none,h⟩ (fun e s=>(e = .ret∨e = .norm)∧∃r,aM P (s.open A) fn.results.toList=some r∧R r s.h)) :
  ∃r h',ba P aV cf m f args h=some (r,h')∧R r h':=by
 subst ha
 exact uO hf hb hn he
def Dq (a b:ByteArray):Bool:=Op.bytesLess a.data.toList b.data.toList||a.data.toList==b.data.toList
end Go.R
namespace Go.R
open Go
mutual
theorem uT {h:AHeap}:∀(n:Nat) (x y:AV),x.dM=true→b5 h n x=some y→y=x.iS
 | 0,x,y,_,h=>by simp [b5] at h
 | n+1,x,y,hn,h=>by
  cases x with
  | agg cs=>
   simp only [b5,Ub] at h
   obtain⟨eO,hcs,rfl⟩:=h
   rw [gv n cs eO (by simpa [AV.dM] using hn) hcs]; rfl
  | tup cs=>
   simp only [b5,Ub] at h
   obtain⟨eO,hcs,rfl⟩:=h
   rw [gv n cs eO (by simpa [AV.dM] using hn) hcs]; rfl
  | fn f cs=>
   simp only [b5,Ub] at h
   obtain⟨eO,hcs,rfl⟩:=h
   rw [gv n cs eO (by simpa [AV.dM] using hn) hcs]; rfl
  | ptr _ _=>simp [AV.dM] at hn
  | rs _ _ _ _=>simp [AV.dM] at hn
  | _=>simp only [b5,hn,if_true,Uc] at h; exact h.symm
theorem gv {h:AHeap}:∀(n:Nat) (xs ys:List AV),cw xs=true→bq h n xs=some ys→ys=dh xs
 | 0,xs,ys,_,h=>by simp [bq] at h
 | n+1,[],ys,_,h=>by simp only [bq,Uc] at h; exact h.symm
 | n+1,x::xs,ys,hn,h=>by
  simp only [cw,Ud] at hn
  simp only [bq,T9,Ub] at h
  obtain⟨y,hy,zs,hz,rfl⟩:=h
  rw [uT n x y hn.1 hy,gv n xs zs hn.2 hz]; rfl
end
mutual
theorem tC {h:AHeap}:∀(n:Nat) (x y:AV),gh h n x=some y→b5 h n x=some y
 | 0,x,y,h=>by simp [gh] at h
 | n+1,x,y,h=>by
  unfold gh at h
  split at h
  ·exact h
  ·exact h
  ·exact h
  ·exact h
  ·exact h
  ·exact h
  ·exact h
  ·exact h
  ·rename_i id off len gZ
   simp only [b5]
   split at h
   ·rename_i h0; rw [if_pos h0]; exact h
   ·rename_i h0
    rw [if_neg h0]
    rw [T9] at h ⊢
    obtain⟨ob,ho,h⟩:=h
    refine⟨ob,ho,?_⟩
    cases ob with
    | map es=>cases h
    | row t cs=>cases h
    | cells cs=>
     simp only at h ⊢
     split at h
     ·rename_i hle
      rw [if_pos hle]
      rw [Ub] at h ⊢
      obtain⟨eO,hcs,h2⟩:=h
      exact⟨eO,jR n _ _ hcs,h2⟩
     ·cases h
  ·simp only [b5]
   rw [Ub] at h ⊢
   obtain⟨eO,hcs,h2⟩:=h
   exact⟨eO,jR n _ _ hcs,h2⟩
  ·simp only [b5]
   rw [Ub] at h ⊢
   obtain⟨eO,hcs,h2⟩:=h
   exact⟨eO,jR n _ _ hcs,h2⟩
  ·cases h
theorem jR {h:AHeap}:∀(n:Nat) (xs ys:List AV),dv h n xs=some ys→bq h n xs=some ys
 | 0,xs,ys,h=>by simp [dv] at h
 | n+1,[],ys,h=>h
 | n+1,x::xs,ys,h=>by
  simp only [dv,bq,T9,Ub] at h ⊢
  obtain⟨y,hy,zs,hz,h2⟩:=h
  exact⟨y,tC n x y hy,zs,jR n xs zs hz,h2⟩
end
def BJ (k:Nat)(h:AHeap)(x y:AV):Prop:=∀n,iu+k≤n→gh h n x=some y
def fL (h:AHeap)(x y:AV):Prop:=BJ 4503599627370496 h x y
section
variable {h:AHeap}{α:Type}{E:bL α}{l:List α}{K:Mem}{q i:Nat}
theorem fL.Fk {x y:AV}(f:fL h x y):ML h x y:=fun n hn=>tC _ _ _ (f n hn)
theorem du {k:Nat}{x y:AV}(f:BJ k h x y)(hk:k≤4503599627370496:=by decide):fL h x y:=fun n hn=>f n (by omega)
theorem zF {x y:AV}(h2:∀n,gh h (n+1) x=some y):BJ 0 h x y:=fun n hn=>by
 obtain⟨k,rfl,_⟩:=ot (show iu≤n by omega)
 exact h2 k
theorem dT {k:IntKind}{n:Int}:BJ 0 h (.int k n) (.int k n):=zF fun _=>rfl
theorem aD {b:Bool}:BJ 0 h (.bool b) (.bool b):=zF fun _=>rfl
def Dr:AV→Bool
 | .int _ _ | .bool _ | .str _=>true
 | _=>false
theorem l9:∀{cs:List AV} {n:Nat},cs.all Dr=true→cs.length+1<n→dv h n cs=some cs
 | [],n,_,hn=>by
  obtain⟨k,rfl⟩:∃k,n=k+1:=⟨n - 1,by omega⟩
  rfl
 | x::cs,n,h1,hn=>by
  obtain⟨k,rfl⟩:∃k,n=k+1+1:=⟨n - 2,by simp at hn; omega⟩
  simp only [UZ,Ud] at h1
  simp only [dv]
  have:gh h (k+1) x=some x:=by cases x<;>first | rfl | (simp [Dr] at h1)
  rw [this,Ua,l9 h1.2 (by simp at hn; omega)]
  rfl
theorem Kk {n:Nat}(o:Has h K)(hq:K[q]? = some (i,.sl n E.n (E.l l)))(hf:∀a:α,(E.f a).all Dr=true):BJ 0 h (.rs i 0 n E.n) (E.fz l):=fun m hm=>by
 have hn:=cD o hq
 subst hn
 obtain⟨⟨⟨hlen,qf⟩,ly⟩,hlt⟩:=o.at_ _ _ _ hq
 obtain⟨k,rfl,hk⟩:=ot (show iu≤m by omega)
 simp only [gh]
 rcases ly with⟨h0,h1⟩| ⟨h0,rest,h1⟩
 ·have:l=[]:=by simpa using h1
  subst this
  simp [h0,bL.fz,bL.l]
 ·rw [if_neg h0,h1]
  simp only [Ua]
  have e1:((E.l l++rest).drop 0).take (l.length*E.n)=E.l l:=by
   rw [US,UK (by rw [hlen]; exact Ue _),UP (by rw [hlen]; exact Ue _)]
  rw [if_pos (by rw [Uk,hlen]; omega),e1,l9 ?_ (by simp only [iu] at hk; omega)]
  ·rfl
  ·rw [Uv]
   intro x hx
   unfold bL.l at hx
   rw [List.mem_flatMap] at hx
   obtain⟨a,_,ha⟩:=hx
   exact Uv.1 (hf a) x ha
def bQ:Nat:=9007199254740992
theorem gm {k:Nat}{xs ys:List AV}(f:aP k h xs ys)(hk:k≤bQ:=by decide):aP bQ h xs ys:=fun n hn=>f n (by omega)
def rQ (x y:AV):Prop:=x.dM=true∧x.iS=y
def wJ (xs ys:List AV):Prop:=cw xs=true∧dh xs=ys
theorem bf {k:IntKind}{n:Int}:rQ (.int k n) (.int k n):=⟨rfl,rfl⟩
theorem j6 {s:ByteArray}:rQ (.str s) (.str s):=⟨rfl,rfl⟩
theorem ng (hp:E.flat=true:=by rfl):rQ (E.fz l) (E.fz l):=bL.bH hp
theorem qT:rQ .nils (E.fz []):=⟨rfl,rfl⟩
theorem ma:wJ [] []:=⟨rfl,rfl⟩
theorem bO {x y:AV}{xs ys:List AV}(a:rQ x y)(b:wJ xs ys):wJ (x::xs) (y::ys):=⟨by simp [cw,a.1,b.1],by simp [dh,a.2,b.2]⟩
theorem mb {xs ys:List AV}(a:wJ xs ys):rQ (.agg xs) (.agg ys):=⟨by simpa [AV.dM] using a.1,by show AV.agg (dh xs)=_; rw [a.2]⟩
end
end Go.R
namespace Go.R
open Go
section
variable {P:Program}{h:AHeap}{K:Mem}{i q:Nat}{cs eO:List AV}{x z:AV}{t:TypeId}{off:Nat}
theorem gd (o:Has h K)(nI:cs.all AV.bP=true):∃i h',wB h cs=some (.ptr i 0,h')∧Has h' ((i,.ob cs)::K):=by
 refine⟨h.next,h.alloc (.cells cs),by unfold wB; rw [if_pos nI],o.new (fun k hk=>by rw [AHeap.alloc,cO,if_neg (by omega)]) (Vi _) (.inr (Ue _)) (UY _) ⟨by have:=o.pos; omega,by rw [AHeap.alloc,cO,if_pos rfl]⟩⟩
theorem bV (o:Has h K)(hq:K[q]? = some (i,.ob cs))(hr:iC P t cs off=some z):bn P h t (.ptr i off)=some z:=by
 obtain⟨⟨h1,h2⟩,_⟩:=o.at_ _ _ _ hq
 simp only [bn,jj,h2,Ua,hr]
theorem nh (o:Has h K)(hq:K[q]? = some (i,.ob cs))(hw:gD P t cs off x=some eO):∃h',iF P h t (.ptr i off) x=some h'∧Has h' (K.set q (i,.ob eO)):=by
 obtain⟨⟨h1,h2⟩,_⟩:=o.at_ _ _ _ hq
 exact⟨h.put i (.cells eO),by simp only [iF,h2,Ua,hw,Ug],ja o hq ⟨h1,by rw [cO,if_pos rfl]⟩⟩
end
theorem aN {x y:AV}(h:rQ x y):aK x=y:=by
 unfold aK
 rw [h.1,h.2]; rfl
theorem bI:([]:List AV).map aK=[]:=rfl
theorem au {x y:AV}{xs ys:List AV}(a:aK x=y)(b:xs.map aK=ys):(x::xs).map aK=y::ys:=by
 rw [UC,a,b]
theorem iW {α:Type}{K L:List α}{q:Nat}{p:α}(h:L[q]? = some p):(K++L)[K.length+q]? = some p:=by
 rw [Us (by omega),Vp,h]
theorem FQ {α:Type}{E:bL α}{h:AHeap}{K:Mem}{l:List α}{cs:List AV}(o:Has h K)(hc:cs=E.l l)(hl:l.length≤1024:=by simp) :
  ∃i h',some (AV.rs h.next 0 l.length E.n,h.alloc (.cells cs))=some (AV.rs i 0 l.length E.n,h')∧Has h' ((i,.sl l.length E.n (E.l l))::K):=by
 subst hc
 exact⟨h.next,_,rfl,o.new (fun k hk=>by rw [AHeap.alloc,cO,if_neg (by omega)]) (Vi _) (.inr (Ue _)) (UY _) ⟨⟨bL.bJ,bL.mJ (by omega)⟩,.inr ⟨by have:=o.pos; omega,[],by rw [AHeap.alloc,cO,if_pos rfl]; simp⟩⟩⟩
end Go.R
