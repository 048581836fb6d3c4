/- Part of the proof: RRow, RStep, RWalk, RG1, RG2, RG3, RG4, RT, RG5, RG6, RG7. -/
import Derived.Test.YtmekcfdllhphlaaDoorK3
import Derived.ProofKit
set_option linter.unusedVariables false
set_option linter.unusedSimpArgs false
set_option maxRecDepth 100000
open BitVec renaming ofInt → Yy
open Bool renaming and_eq_true → Xt, false_eq_true → XG, or_eq_true → Yc
open Int renaming toNat_natCast → Xv
open List renaming getElem?_eq_some_iff → Xx, length_append → Xy, length_set → Xz, append_assoc → XC, drop_eq_getElem_cons → XD, mem_append → XE, replicate → XH, map_cons → XK, getElem?_append_right → XL, length_cons → XO, all_eq_true → XQ, map_append → XT, take_append_of_le_length → XV, take_of_length_le → XY, nil_append → XZ, getElem?_append_left → X1, drop_zero → X3, getElem?_cons_zero → X4, mem_cons → X5, eq_nil_of_length_eq_zero → X7, ext_getElem? → Ye, length_nil → Yh, all_cons → Yj, append_nil → Yo, take_length → Yx, getElem?_cons_succ → YA, length_take → YF, getElem?_set → YP, set_append_right → YT, length_replicate → YU
open Nat renaming le_refl → Xs, zero_add → XP, lt_of_lt_of_le → XU, le_trans → X6, beq → X9, lt_succ_self → Ya, add_assoc → Yb, mul_le_mul_right → Yg, add_sub_cancel_left → Yq, lt_succ_of_lt → Yt, add_mul → Yz, le_succ → YD, eq_of_beq_eq_true → YG, mul_one → YW, sub_self → YX, min_eq_left → Y0
open Option renaming bind_some → Xo, bind_eq_some_iff → Xp, map_eq_some_iff → Xq, map_some → Xu, isSome_none → YS
open Option.some renaming injEq → Xr
open Prod.mk renaming injEq → Xw
namespace Go.R
open Go
def Aq (P:Program)(F:TypeId→List AV→Prop):List Field→List AV→Prop
 | [],xs=>xs=[]
 | f::fs,xs=>∃a b,xs=a++b∧a.length=P.cellsOf f.type∧F f.type a∧Aq P F fs b
def Fits (P:Program):Nat→TypeId→List AV→Prop
 | 0,_,_=>False
 | n+1,t,xs=>
  match P.underlying t with
  | some .bool=>∃b,xs=[.bool b]
  | some (.int k)=>∃z,xs=[.int k z]∧k.min≤z∧z≤k.max
  | some .string=>∃s:ByteArray,xs=[.str s]∧s.size≤maxLen
  | some (.slice e)=>xs=[.nils]∨∃els:List (List AV),xs=[.fz els.flatten els.length false]∧els.length≤maxLen∧∀el∈els,el.length=P.cellsOf e∧Fits P n e el
  | some (.struct fs)=>Aq P (Fits P n) fs.toList xs
  | _=>False
def sd (P:Program):Nat→List Field→Bool
 | _,[]=>true
 | k,f::fs=>X9 f.offset k&&sd P (k+P.cellsOf f.type) fs
def lX (P:Program):Nat→TypeId→Bool
 | 0,_=>false
 | n+1,t=>
  match P.underlying t with
  | some .bool | some (.int _) | some .string=>true
  | some (.slice e)=>lX P n e
  | some (.struct fs)=>sd P 0 fs.toList&&X9 (P.cellsOf t) ((fs.toList.map fun f=>P.cellsOf f.type).sum)&&fs.toList.all fun f=>lX P n f.type
  | _=>false
theorem mapM_some {α β:Type}{f:α→Option β}:∀{l:List α} {ys:List β},l.mapM f=some ys→ys.length=l.length∧∀(i:Nat) (x:α),l[i]? = some x→∃y,ys[i]? = some y∧f x=some y
 | [],ys,h=>by
  simp at h; subst h
  exact⟨rfl,fun i x hx=>by simp at hx⟩
 | a::l,ys,h=>by
  simp only [List.mapM_cons,Option.bind_eq_bind,Xp,Option.pure_def,Xr] at h
  obtain⟨y,hy,zs,hz,rfl⟩:=h
  obtain⟨h1,h2⟩:=mapM_some hz
  refine⟨by simp [h1],fun i x hx=>?_⟩
  cases i with
  | zero=>simp at hx; subst hx; exact⟨y,rfl,hy⟩
  | succ i=>simpa using h2 i x (by simpa using hx)
theorem Ar {w:World}{a:Addr}{v:Value}(h:w.cell? a=some v):w.cell? ⟨a.block,a.off,none⟩=some v∧a.spot=none:=by
 unfold World.cell? at h ⊢
 split at h
 ·rename_i c t fr hb
  rw [hb]
  simp only at h ⊢
  cases hs:a.spot with
  | none=>rw [hs] at h; exact⟨by simpa using h,rfl⟩
  | some _=>rw [hs] at h; simp at h
 ·cases h
theorem mD (a:Addr)(n:Nat):(a.add n).block=a.block∧(a.add n).off=a.off+n:=by
 unfold Addr.add
 split
 ·rename_i h; subst h; exact⟨rfl,rfl⟩
 ·exact⟨rfl,rfl⟩
theorem yx {w:World}{base:Nat}{a:Addr}{n:Nat}{cs:List Value}(h:w.cells? base a n=some cs):cs.length=n∧∀i,i<n→w.cell? ⟨a.block,a.off+i,none⟩=cs[i]?∧(i=0→a.spot=none):=by
 unfold World.cells? at h
 split at h
 ·obtain⟨h1,h2⟩:=mapM_some h
  refine⟨by simpa using h1,fun i hi=>?_⟩
  obtain⟨y,hy,hc⟩:=h2 i i (by simp [hi])
  obtain⟨h3,h4⟩:=Ar hc
  rw [(mD a i).1,(mD a i).2] at h3
  refine⟨by rw [h3,hy],fun h0=>?_⟩
  subst h0
  simpa [Addr.add] using h4
 ·cases h
theorem qZ {α:Type}{Q:Nat→α→Prop}:∀n,(∀i,i<n→∃x,Q i x)→∃l:List α,l.length=n∧∀i x,l[i]? = some x→Q i x
 | 0,_=>⟨[],rfl,fun i x h=>by simp at h⟩
 | n+1,h=>by
  obtain⟨l,h1,h2⟩:=qZ n fun i hi=>h i (by omega)
  obtain⟨x,hx⟩:=h n (by omega)
  refine⟨l++[x],by simp [h1],fun i y hy=>?_⟩
  by_cases hi:i<n
  ·exact h2 i y (by rwa [X1 (by omega)] at hy)
  ·rw [XL (by omega)] at hy
   have:i=n:=by
    have:=(Xx.1 hy).1
    simp at this; omega
   subst this
   simp [h1] at hy
   subst hy; exact hx
theorem Cells.append {c:Cx}{L:Nat→Prop}:∀{xs ys:List AV} {b o:Nat},Cells c L xs b o→Cells c L ys b (o+xs.length)→Cells c L (xs++ys) b o
 | [],ys,b,o,_,h=>by simpa using h
 | x::xs,ys,b,o,h,k=>⟨h.1,Cells.append h.2 (by simpa [Yb,Nat.add_comm 1] using k)⟩
theorem Cells.flatten {c:Cx}{L:Nat→Prop}{b size:Nat}:∀(els:List (List AV)) (o:Nat),(∀i el,els[i]? = some el→el.length=size∧Cells c L el b (o+i*size))→Cells c L els.flatten b o
 | [],o,_=>trivial
 | el::els,o,h=>by
  obtain⟨h1,h2⟩:=h 0 el rfl
  rw [List.flatten_cons]
  refine Cells.append (by simpa using h2) (Cells.flatten (size:=size) els _ fun i Vg he=>?_)
  obtain⟨h3,h4⟩:=h (i+1) Vg (by simpa using he)
  refine⟨h3,?_⟩
  rw [h1]
  rwa [show o+size+i*size=o+(i+1)*size by rw [Yz,Nat.one_mul]; omega]
section
variable {H:Type}{enc:TypeId × Value→H}{P:Program}{c:Cx}{sp:Nat→Bool}{held:Bool}
theorem q6 {F:TypeId→List AV→Prop}{g:TypeId→List Value→Option (DataW H × List MemPlace)}(hg:∀t cs x,g t cs=some x→cs.length=P.cellsOf t→(∃u:Nat,u=0)→True) :
  ∀(fs:List Field) (k:Nat) (cs:List Value) (xs:List (DataW H × List MemPlace)),sd P k fs=true→(∀f∈fs,∀cs x,g f.type cs=some x→cs.length=P.cellsOf f.type→∃ys,VRs c none0 ys cs∧F f.type ys∧∀v∈cs,v.oneCell'=true)→
   (fs.mapM fun f=>g f.type ((cs.drop f.offset).take (P.cellsOf f.type)))=some xs→k+(fs.map fun f=>P.cellsOf f.type).sum≤cs.length→
   ∃ys,VRs c none0 ys ((cs.drop k).take ((fs.map fun f=>P.cellsOf f.type).sum))∧Aq P F fs ys∧∀v∈(cs.drop k).take ((fs.map fun f=>P.cellsOf f.type).sum),v.oneCell'=true
 | [],k,cs,xs,_,_,_,_=>⟨[],by simp [VRs],rfl,by simp⟩
 | f::fs,k,cs,xs,hc,hF,h,hl=>by
  simp only [sd,Xt,beq_nat,decide_eq_true_eq] at hc
  obtain⟨rfl,hc⟩:=hc
  simp only [List.mapM_cons,Option.bind_eq_bind,Xp,Option.pure_def,Xr] at h
  obtain⟨y,hy,zs,hz,rfl⟩:=h
  simp only [XK,List.sum_cons] at hl ⊢
  have hlen:((cs.drop f.offset).take (P.cellsOf f.type)).length=P.cellsOf f.type:=by simp; omega
  obtain⟨a,ha,Vh,h1⟩:=hF f (by simp) _ _ hy hlen
  obtain⟨b,hb,Vi,h2⟩:=q6 hg fs (f.offset+P.cellsOf f.type) cs zs hc (fun f' MM=>hF f' (by simp [MM])) hz (by omega)
  have Kc:(cs.drop f.offset).take (P.cellsOf f.type+(fs.map fun f=>P.cellsOf f.type).sum)=(cs.drop f.offset).take (P.cellsOf f.type)++((cs.drop (f.offset+P.cellsOf f.type)).take ((fs.map fun f=>P.cellsOf f.type).sum)):=by
   rw [List.take_add,List.drop_drop]
  rw [Kc]
  refine⟨a++b,VRs.append ha hb,⟨a,b,rfl,?_,Vh,Vi⟩,fun v hv=>?_⟩
  ·rw [ha.length,hlen]
  ·rcases XE.1 hv with hv | hv
   ·exact h1 v hv
   ·exact h2 v hv
theorem pT (sH:∀id,c.h.get id=none):∀(m:Nat) (t:TypeId) (fuel:Nat) (cs:List Value) (d:DataW H) (ps:List MemPlace),lX P m t=true→DataW.trod enc P c.w 0 sp held fuel t cs=some (d,ps)→
  ∃xs,VRs c none0 xs cs∧Fits P m t xs∧∀v∈cs,v.oneCell'=true
 | 0,_,_,_,_,_,hB,_=>by simp [lX] at hB
 | m+1,t,0,cs,d,ps,hB,h=>by simp [DataW.trod] at h
 | m+1,t,fuel+1,cs,d,ps,hB,h=>by
  have hnl:∀id,¬Live c.h id:=fun id hl=>by have:=hl.2; rw [sH id] at this; cases this
  unfold lX at hB
  unfold Fits
  cases hu:P.underlying t with
  | none=>rw [hu] at hB; cases hB
  | some td=>
  rw [hu] at hB
  cases td<;>simp only at hB ⊢<;>try (cases hB; done)
  ·
   unfold DataW.trod at h
   rw [hu] at h
   split at h<;>first | (rename_i heq; cases heq; done) | skip
   all_goals try (rename_i heq _; cases heq; done)
   all_goals (first | (cases h; done) | skip)
   ·rename_i b _
    exact⟨[.bool b],⟨by simp [VR],trivial⟩,⟨b,rfl⟩,by simp [Value.oneCell']⟩
  ·rename_i k
   unfold DataW.trod at h
   rw [hu] at h
   split at h<;>first | (rename_i heq; cases heq; done) | skip
   all_goals try (rename_i heq _; cases heq; done)
   ·rename_i k' k2 n heq
    cases heq
    split at h
    ·rename_i hk
     obtain⟨rfl,OV⟩:=hk
     simp only [Lit.wf,Xt,decide_eq_true_eq] at OV
     exact⟨[.int k2 n],⟨by simp [VR],trivial⟩,⟨n,rfl,OV⟩,by simp [Value.oneCell']⟩
    ·cases h
   ·cases h
  ·
   unfold DataW.trod at h
   rw [hu] at h
   split at h<;>first | (rename_i heq; cases heq; done) | skip
   all_goals try (rename_i heq _; cases heq; done)
   ·rename_i s _
    split at h
    ·rename_i hs
     exact⟨[.str s],⟨by simp [VR],trivial⟩,⟨s,rfl,hs⟩,by simp [Value.oneCell']⟩
    ·cases h
   ·cases h
  ·
   rename_i e
   unfold DataW.trod at h
   rw [hu] at h
   split at h<;>first | (rename_i heq; cases heq; done) | skip
   all_goals try (rename_i heq _; cases heq; done)
   ·exact⟨[.nils],⟨by simp [VR],trivial⟩,.inl rfl,by simp [Value.oneCell']⟩
   ·rename_i e' a len cap heq
    cases heq
    simp only at h
    split at h
    rotate_left
    ·cases h
    rename_i hbound
    obtain⟨_,hlc,hcap⟩:=hbound
    rw [Xp] at h
    obtain⟨elems,M3,_⟩:=h
    obtain⟨hn,hget⟩:=mapM_some M3
    have key:∀i,i<len→∃el:List AV,el.length=P.cellsOf e∧Fits P m e el∧Cells c none0 el a.block (a.off+i*P.cellsOf e)∧(i=0→0<P.cellsOf e→a.spot=none):=by
     intro i hi
     obtain⟨y,_,hy⟩:=hget i i (by simp [hi])
     rw [Xp] at hy
     obtain⟨Vj,hcs,hy⟩:=hy
     obtain⟨hl,mY⟩:=yx hcs
     obtain⟨el,hv,hf,h1⟩:=pT sH m e fuel Vj y.1 y.2 hB hy
     refine⟨el,by rw [hv.length,hl],hf,Cells.of_vals hv (fun j hj=>?_) h1,fun h0 jg=>?_⟩
     ·have:=(mY j (by omega)).1
      rwa [(mD a _).1,(mD a _).2] at this
     ·subst h0
      have:=(mY 0 jg).2 rfl
      simpa [Addr.add] using this
    obtain⟨els,hl,Dc⟩:=qZ len key
    refine⟨[.fz els.flatten els.length false],⟨?_,trivial⟩,.inr ⟨els,rfl,by omega,fun el M3=>?_⟩,by simp [Value.oneCell']⟩
    ·simp only [VR]
     refine⟨some a,cap,by rw [hl],by omega,by simp,.inl rfl,?_⟩
     by_cases Kd:els.flatten=[]
     ·exact .inl Kd
     ·have jg:0<len∧0<P.cellsOf e:=by
       cases els with
       | nil=>simp at Kd
       | cons el els=>
        refine⟨by simp at hl; omega,?_⟩
        rcases Nat.eq_zero_or_pos (P.cellsOf e) with h0 | h0
        ·exfalso
         apply Kd
         rw [List.flatten_eq_nil_iff]
         intro l u5
         obtain⟨i,hi⟩:=List.getElem?_of_mem u5
         have:=(Dc i l hi).1
         exact X7 (by omega)
        ·exact h0
      have Jc:a.spot=none:=by
       cases els with
       | nil=>simp at hl; omega
       | cons el els=>exact (Dc 0 el rfl).2.2.2 rfl jg.2
      refine .inr ⟨a.block,a.off,?_,⟨fun id hl=>absurd hl (hnl id),fun h=>h.elim⟩,by simp,Cells.flatten els a.off fun i el hi=>⟨(Dc i el hi).1,(Dc i el hi).2.2.1⟩⟩
      cases a; simp at Jc; subst Jc; rfl
    ·obtain⟨i,hi⟩:=List.getElem?_of_mem M3
     exact⟨(Dc i el hi).1,(Dc i el hi).2.1⟩
   ·cases h
  ·
   rename_i fs
   simp only [Xt,beq_nat,decide_eq_true_eq,XQ] at hB
   obtain⟨⟨PY,Ke⟩,M4⟩:=hB
   simp only [DataW.trod,hu] at h
   split at h
   rotate_left
   ·cases h
   rename_i hlen
   rw [Xq] at h
   obtain⟨xs,hx,_⟩:=h
   obtain⟨ys,h1,h2,h3⟩:=q6 (P:=P) (c:=c) (F:=Fits P m) (g:=fun t cs=>DataW.trod enc P c.w 0 sp held fuel t cs) (fun _ _ _ _ _ _=>trivial) fs.toList 0 cs xs PY
    (fun f hf cs x hx _=>pT sH m f.type fuel cs x.1 x.2 (M4 f hf) hx) hx (by omega)
   have kA:(cs.drop 0).take ((fs.toList.map fun f=>P.cellsOf f.type).sum)=cs:=by
    rw [X3,←Ke,←hlen,Yx]
   rw [kA] at h1 h3
   exact⟨ys,h1,h2,h3⟩
def oB (P:Program)(t:TypeId)(xs:List AV):AV:=
 match P.underlying t with
 | some (.struct _)=>.agg xs
 | _=>xs.headD .any
def oC (P:Program)(m:Nat):List TypeId→List AV→Prop
 | [],[]=>True
 | t::ts,x::uG=>(∃xs,x=oB P t xs∧Fits P m t xs)∧oC P m ts uG
 | _,_=>False
theorem Dd {w:World}{m:Nat}{t:TypeId}{v:Value}{base:Nat}(hB:lX P m t=true)(hs:∀fs,P.underlying t≠some (.struct fs))(h:Value.okWide P w .any base t v):v.cells.toList=[v]:=by
 cases m with
 | zero=>simp [lX] at hB
 | succ m=>
 unfold lX at hB
 unfold Value.okWide at h
 cases hu:P.underlying t with
 | none=>rw [hu] at hB; cases hB
 | some td=>
 rw [hu] at hB h
 cases td<;>simp only at hB h<;>first
  | (cases hB; done)
  | (exact absurd hu (hs _))
  | (cases v<;>simp only [Cell.okWide,Cell.ok,hu] at h<;>first | (exact h.elim) | rfl | (simp [Value.cells]))
theorem EN (sH:∀id,c.h.get id=none){m:Nat}{t:TypeId}{v:Value}{d:DataW H}{ps:List MemPlace}{base:Nat}(hB:lX P m t=true)(ho:Value.okWide P c.w .any base t v)(h:DataW.Trod enc P c.w 0 sp held t v d ps) :
  ∃xs,Fits P m t xs∧VR c none0 (oB P t xs) v:=by
 obtain⟨fuel,h⟩:=h
 obtain⟨xs,h1,h2,_⟩:=pT sH m t fuel _ d ps hB h
 refine⟨xs,h2,?_⟩
 by_cases hs:∃fs,P.underlying t=some (.struct fs)
 ·obtain⟨fs,hs⟩:=hs
  unfold Value.okWide at ho
  rw [hs] at ho
  obtain⟨cs,rfl,_⟩:=ho
  unfold oB
  rw [hs]
  simp only [VR]
  exact⟨cs,rfl,h1⟩
 ·have LZ:∀fs,P.underlying t≠some (.struct fs):=fun fs h=>hs ⟨fs,h⟩
  have hc:=Dd hB LZ ho
  rw [hc] at h1
  have hx:oB P t xs=xs.headD .any:=by
   unfold oB
   split
   ·rename_i fs h; exact absurd h (LZ fs)
   ·rfl
  rw [hx]
  cases xs with
  | nil=>exact h1.elim
  | cons x xs=>exact h1.1
theorem yy (sH:∀id,c.h.get id=none){m base:Nat}:∀(ts:List TypeId) (vs:List Value) (ds:List (DataW H)) (ps:List MemPlace),(∀t∈ts,lX P m t=true)→(∀(j:Nat) t v,ts[j]? = some t→vs[j]? = some v→Value.okWide P c.w .any base t v)→
  DataW.TrodAll enc P c.w 0 sp held ts vs ds ps→∃uG,oC P m ts uG∧VRs c none0 uG vs
 | [],[],[],_,_,_,_=>⟨[],trivial,trivial⟩
 | t::ts,v::vs,d::ds,ps,hB,ho,h=>by
  obtain⟨p,q,h1,h2,_⟩:=h
  obtain⟨xs,h3,h4⟩:=EN sH (hB t (by simp)) (ho 0 t v rfl rfl) h1
  obtain⟨uG,h5,h6⟩:=yy sH ts vs ds q (fun t ht=>hB t (by simp [ht])) (fun j t v hj hv=>ho (j+1) t v (by simpa using hj) (by simpa using hv)) h2
  exact⟨oB P t xs::uG,⟨⟨xs,rfl,h3⟩,h5⟩,h4,h6⟩
 | [],[],_::_,_,_,_,h=>h.elim
 | [],_::_,_,_,_,_,h=>by cases h
 | _::_,[],_,_,_,_,h=>by cases h
 | _::_,_::_,[],_,_,_,h=>by cases h
theorem kg (hl:laidOutB P=true){W W':World}{SX:Nat→Bool}:∀{ts:List TypeId} {vs:List Value} {ds:List (DataW H)} {ps:List MemPlace},(∀t∈ts,P.readableRec t=true∧t<P.types.size)→
  DataW.TrodAll enc P W 0 (fun _=>true) true ts vs ds ps→(∀p∈ps,W.sameAt W' p)→(∀p∈ps,SX p.block=true)→DataW.TrodAll enc P W' 0 SX true ts vs ds ps
 | [],[],[],_,_,h,_,_=>h
 | t::ts,v::vs,d::ds,ps,hr,h,hs,hp=>by
  obtain⟨p,q,h1,h2,rfl⟩:=h
  exact⟨p,q,WideElems.Trod_stays hl (hr t (by simp)).1 (hr t (by simp)).2 h1 (fun x hx=>hs x (by simp [hx])) (fun x hx=>hp x (by simp [hx])),
   kg hl (fun t ht=>hr t (by simp [ht])) h2 (fun x hx=>hs x (by simp [hx])) (fun x hx=>hp x (by simp [hx])),rfl⟩
 | [],[],_::_,_,_,h,_,_=>h.elim
 | [],_::_,_,_,_,h,_,_=>by cases h
 | _::_,[],_,_,_,h,_,_=>by cases h
 | _::_,_::_,[],_,_,h,_,_=>by cases h
theorem De {f:Func}{s:ChangeSpec}{apart fresh handsOn again:Bool}{W W':World}{args:Array Value}{ds gs:List (DataW H)}{before:List MemPlace}{tb:TypeId}
  (hl:laidOutB P=true) (hr:∀t∈f.params.toList,P.readableRec t=true∧t<P.types.size) (hW:DataW.Whole enc P f.params.toList s.vars apart W args.toList ds gs before) (hv:s.vars=[])
  (EO:f.resultTypes = #[tb]) (OW:P.underlying tb=some .bool) (Kf:(s.fn H (ds++gs))={results:=[.lit (.bool true)],args:=ds}) (hb:RowKit.Below W.heap.size W W') :
  s.post enc P f apart fresh handsOn again W args (.bool true) W':=by
 have hlt:=hW.lt
 have hW0:=hW
 obtain⟨p,q,hA,hV,SY,hz,hn⟩:=hW
 rw [hv] at hV
 have PZ:gs=[]∧q=[]:=by
  cases gs with
  | nil=>exact⟨rfl,hV⟩
  | cons g gs=>exact hV.elim
 obtain⟨rfl,rfl⟩:=PZ
 have P4:before=p:=by simpa using SY
 subst P4
 have Jd:∀x∈before,W.sameAt W' x:=fun x hx=>hb.same (hlt x hx)
 have M8:(Value.bool true).resultList f.resultTypes.size=[.bool true]:=by rw [EO]; rfl
 have Je:∀(b:Nat) (sp:Nat→Bool) (hd:Bool),DataW.TrodAll enc P W' b sp hd f.resultTypes.toList ((Value.bool true).resultList f.resultTypes.size) [.lit (.bool true)] []:=by
  intro b sp hd
  rw [M8,EO]
  exact ChangeShapes.trodAll_mk1 (RowKit.shut_bool OW true)
 refine⟨ds,[],before,[],before,[],hW0,?_,?_,?_,?_,fun _=>⟨?_,?_⟩⟩
 ·rw [Kf]; exact Je _ _ _
 ·rw [Kf]
  exact kg hl hr hA Jd (fun x hx=>by simpa using hlt x hx)
 ·rw [Kf,hv]; rfl
 ·exact hb.frame _
 ·exact RowKit.ok_one EO rfl (RowKit.okWide_bool_mk OW true)
 ·refine⟨_,[],before,⟨[]++before,[],ChangeShapes.trodAll_append (kg hl hr hA Jd (fun _ _=>rfl)) (Je 0 _ _),by rw [hv]; rfl,by simp,fun b off hx=>?_,hn⟩,fun p hp _=>hp⟩
  rw [hb.frozen (p:=⟨b,off,none⟩) (hlt _ hx)]
  exact hz b off hx
theorem Ext.below {c c':Cx}(e:Ext c none0 c' none0):RowKit.Below c.base c.w c'.w:=⟨e.os,e.tape,e.output,e.size,fun b hb=>e.exact b hb⟩
theorem uH {cf:CallF}{Ak:FuncId}{f:Func}{s:ChangeSpec}{apart fresh handsOn again:Bool}{m:Nat}{tb:TypeId}
  (hl:laidOutB P=true) (hr:∀t∈f.params.toList,P.readableRec t=true∧t<P.types.size) (hB:∀t∈f.params.toList,lX P m t=true) (hv:s.vars=[]) (EO:f.resultTypes = #[tb]) (OW:P.underlying tb=some .bool)
  (Kf:∀ds:List (DataW H),ds.length=f.params.size→(s.fn H ds)={results:=[.lit (.bool true)],args:=ds})
  (hcf:∀uG,oC P m f.params.toList uG→∃cf h',CallOK P cf∧cf Ak uG bL=some (.bool true,h'))
  {W:World} {base:Nat} {args:Array Value} {ds gs:List (DataW H)} {before:List MemPlace} (dv:∀(j:Nat) t v,f.params[j]? = some t→args[j]? = some v→Value.okWide P W .any base t v)
  (hW:DataW.Whole enc P f.params.toList s.vars apart W args.toList ds gs before) :
  Calls P Ak args W fun e W'=>∃v,e = .returned v∧s.post enc P f apart fresh handsOn again W args v W':=by
 have hW0:=hW
 obtain⟨p,q,hA,hV,SY,_,_⟩:=hW
 let c:Cx:=⟨fun _=>(0,0),bL,W,W.heap.size⟩
 obtain⟨uG,h1,h2⟩:=yy (c:=c) (P:=P) (m:=m) (base:=base) (fun _=>rfl) f.params.toList args.toList ds p hB (fun j t v hj hv=>dv j t v (by simpa using hj) (by simpa using hv)) hA
 obtain⟨cf,h',nZ,P6⟩:=hcf uG h1
 have hnl:∀id,¬Live c.h id:=fun id hl=>by have:=hl.2; cases this
 have hcall:=(nZ Ak uG bL _ _ P6).2 none0 c args.toList rfl (Xs _) ⟨fun id o ho=>(by cases ho),fun id o ho=>(by cases ho),fun id _ hl _ _=>absurd hl (hnl id),fun id hl=>absurd hl (hnl id),fun b hb=>hb.elim,fun id hl=>absurd hl (hnl id),fun _=>Nat.zero_lt_one⟩ h2
 rw [Array.toArray_toList] at hcall
 have hlen:∀(ts:List TypeId) (vs:List Value) (ds:List (DataW H)) (p:List MemPlace),DataW.TrodAll enc P W 0 (fun _=>true) true ts vs ds p→ds.length=ts.length:=by
  intro ts
  induction ts with
  | nil=>intro vs ds p h; cases vs<;>cases ds<;>first | rfl | (cases h; done) | exact h.elim
  | cons t ts ih=>intro vs ds p h; cases vs<;>cases ds<;>first | (cases h; done) | (obtain⟨_,_,_,h2,_⟩:=h; simp [ih _ _ _ h2])
 have PZ:gs=[]:=by
  rw [hv] at hV
  cases gs with
  | nil=>rfl
  | cons g gs=>exact hV.elim
 refine hcall.mono ?_
 rintro e w' ⟨c',v,rfl,rfl,hh,Bs,hrel,JV⟩
 simp only [VR] at Bs
 subst Bs
 refine⟨_,rfl,De hl hr hW0 hv EO OW ?_ JV.below⟩
 rw [PZ,Yo]
 exact Kf ds (by rw [hlen _ _ _ _ hA]; simp)
end
end Go.R
namespace Go.R
open Go
section
variable {P:Program}{cf:CallF}{aF ds:List Nat}{s:RS}{d:Option Tmp}{t:TypeId}{p:String}{a:Array Edge}{g:Option (Nat × Bool)}{ops:List Oper}{ρ:Nat→AV}{bx:Nat→Option (List AV)}{h:AHeap}
variable {A:cg}{m:Nat}{st:St}
end
end Go.R
namespace Go.R
open Go
def sub:List Nat→Code→Code
 | [],c=>c
 | 0::p,.seq a _=>sub p a
 | _::p,.seq _ b=>sub p b
 | 0::p,.cond _ a _=>sub p a
 | _::p,.cond _ _ b=>sub p b
 | _::p,.block _ a=>sub p a
 | _::p,.loop a=>sub p a
 | _,c=>c
def codeOf (f:Func):Code:=f.body.getD .skip
end Go.R
namespace Go.R
open Go
section
variable (P:Program)
def bl (h:AHeap)(t:TypeId)(x:AV):Option AV:=jd P (fun _=>none) h t x
def iT (h:AHeap)(t:TypeId)(a x:AV):Option AHeap:=
 match a with
 | .ptr id off=>(h.get id).bind fun | .cells cs=>(gB P t cs off x).map fun fm=>h.put id (.cells fm) | _=>none
 | _=>none
def Jf (cf:CallF)(f:AV)(as:List AV)(h:AHeap):Option (AV × AHeap):=
 match f with
 | .fn f cap=>if as.all AV.lq then cf f (as++cap) h else none
 | _=>none
def yz (h:AHeap)(cs:List AV):Option (AV × AHeap):=if cs.all AV.cE then some (.ptr h.next 0,h.alloc (.cells cs)) else none
def Df (aF:List Nat)(d:Option Nat):Bool:=match d with | some d=>!aF.contains d | none=>false
def EP (aF:List Nat)(h:AHeap)(o:Oper)(t:TypeId)(x:Option AV):Option (AV × AHeap):=
 x.bind fun x=>(nv P aF o t x).map fun (cs,n,z)=>(.rs h.next 0 n z,h.alloc (.cells cs))
def Kg (e:Operand→AV)(h:AHeap)(o:Oper)(z:AV):Prop:=
 match o.op with
 | .move x | .assign x=>e x=z
 | .load t a=>bl P h t (e a)=some z
 | .binOp op t x y _=>lL P op t (e x) (e y)=some z
 | .unOp op _ x=>((e x).fu.bind fun a=>(iq P (Op.unary op a)).bind nV)=some z
 | .convert a b x=>gT P h a b (e x)=some z
 | .slice t x lo hi mx=>eZ P t (e x) (lo.map e) (hi.map e) (mx.map e)=some z
 | .indexAddr t x i=>ec P t (e x) (e i)=some z
 | .index t x i=>pF P t (e x) (e i)=some z
 | .lookup t m k ok=>fB P h t (e m) (e k) ok=some z
 | .call {callee:=.builtin .len,args,argTypes}=>match argTypes.toList,args.toList.map e with
  | [t],[x]=>sr P h t x=some z
  | _,_=>False
 | _=>False
def Kh (cf:CallF)(aF:List Nat)(e:Operand→AV)(h:AHeap)(o:Oper)(z:AV)(h':AHeap):Prop:=
 match o.op with
 | .store t a x=>bif o.dst.isSome then False else iT P h t (e a) (e x)=some h'
 | .alloc t=>bif Df aF o.dst then (jC P t).bind (fun z=>yz h (CP aF o.dst z.cells))=some (z,h') else False
 | .box _ x=>bif Df aF o.dst then yz h (e x).cells=some (z,h') else False
 | .buildSlice t n ps=>EP P aF h o t (gd P t n (ps.toList.map fun (i,x)=>(i,e x)))=some (z,h')
 | .makeMap _ none=>(AV.mp h.next,h.alloc (.map []))=(z,h')
 | .makeSlice t l c=>gg P h t (e l) (e c)=some (z,h')
 | .mapUpdate t m k x | .insert t m k x=>bif o.dst.isSome then False else iv P h t (e m) (e k) (e x)=some h'
 | .call {callee:=.builtin .append,args,argTypes}=>match argTypes.toList,args.toList.map e with
  | [t,t2],[x,y]=>gC P h t t2 x y=some (z,h')
  | _,_=>False
 | .call {callee:=.builtin .copy,args,argTypes}=>match argTypes.toList,args.toList.map e with
  | [t,t2],[x,y]=>uZ P h t t2 x y=some (z,h')
  | _,_=>False
 | .call {callee:=.value f,args,..}=>Jf cf (e f) (args.toList.map e) h=some (z,h')
 | _=>False
end
abbrev Ki:=List (Nat × AV × Option AHeap)
def sV (P:Program)(cf:CallF)(aF:List Nat)(ops:List Oper):RS→Nat→List Oper→Ki→Option (List r6 × RS × Prop)
 | s,_,[],[]=>some ([],s,True)
 | _,_,[],_::_=>none
 | s,i,o::os,zs=>
  (gD ops s.ρ o).bind fun w=>
   bif w then
    match zs with
    | []=>(wg P cf aF (ops.filterMap (·.dst)) s o).bind fun s1=>(sV P cf aF ops s1 (i+1) os []).map fun (l,r,p)=>({o,f:=aZ aF (bN s.ρ) o,s,s':=s1}::l,r,p)
    | (j,z,oh)::vn=>
     bif X9 i j then
      match oh with
      | none=>(sV P cf aF ops (s.set o.dst z) (i+1) os vn).map fun (l,r,p)=>({o,f:=aZ aF (bN s.ρ) o,s,s':=s.set o.dst z}::l,r,Kg P (bN s.ρ) s.h o z∧p)
      | some h'=>(sV P cf aF ops (({s with h:=h'}:RS).set o.dst z) (i+1) os vn).map fun (l,r,p)=>({o,f:=aZ aF (bN s.ρ) o,s,s':=({s with h:=h'}:RS).set o.dst z}::l,r,Kh P cf aF (bN s.ρ) s.h o z h'∧p)
     else (wg P cf aF (ops.filterMap (·.dst)) s o).bind fun s1=>(sV P cf aF ops s1 (i+1) os zs).map fun (l,r,p)=>({o,f:=aZ aF (bN s.ρ) o,s,s':=s1}::l,r,p)
   else (sV P cf aF ops (s.set o.dst (.tup [])) (i+1) os zs).map fun (l,r,p)=>({o,f:={},s,s':=s.set o.dst (.tup [])}::l,r,p)
section
variable {P:Program}{cf:CallF}{aF:List Nat}
theorem ER {h:AHeap}{t:TypeId}{x z:AV}{bx:Nat→Option (List AV)}(hh:bl P h t x=some z):jd P bx h t x=some z:=by
 cases x<;>first | exact hh | (simp [bl,jd] at hh)
theorem HX {s:RS}{o:Oper}{z:AV}(h:Kg P (bN s.ρ) s.h o z)(ds:List Nat):wg P cf aF ds s o=some (s.set o.dst z):=by
 unfold Kg at h
 unfold wg zW
 dsimp only
 split at h
 ·rename_i ho; rw [ho]; simp only [h]
 ·rename_i ho; rw [ho]; simp only [h]
 ·rename_i ho; rw [ho]; simp only [ER h,Xu]
 ·rename_i ho; rw [ho]; simp only [h,Xu]
 ·rename_i ho; rw [ho]; simp only [h,Xu]
 ·rename_i ho; rw [ho]; simp only [h,Xu]
 ·rename_i ho; rw [ho]; simp only [h,Xu]
 ·rename_i ho; rw [ho]; simp only [h,Xu]
 ·rename_i ho; rw [ho]; simp only [h,Xu]
 ·rename_i ho; rw [ho]; simp only [h,Xu]
 ·rename_i ho
  rw [ho]
  split at h
  ·rename_i h1 h2
   simp only [h1,h2,gh,h,Xu]
  ·exact h.elim
 ·exact h.elim
theorem yA {s:RS}{o:Oper}{cs:List AV}{z:AV}{h':AHeap}(hn:Df aF o.dst=true)(h:yz s.h cs=some (z,h'))(ds:List Nat):hU s aF ds o cs=some (({s with h:=h'}:RS).set o.dst z):=by
 unfold yz at h
 split at h
 rotate_left
 ·cases h
 rename_i nZ
 simp only [Xr,Xw] at h
 obtain⟨rfl,rfl⟩:=h
 unfold hU
 rw [if_pos nZ]
 unfold Df at hn
 split at hn
 ·rename_i d hd
  rw [hd]
  have:aF.contains d=false:=by simpa using hn
  simp only [this,XG,if_false]
 ·cases hn
theorem HY {s:RS}{o:Oper}{z:AV}{h':AHeap}(h:Kh P cf aF (bN s.ρ) s.h o z h')(ds:List Nat):wg P cf aF ds s o=some (({s with h:=h'}:RS).set o.dst z):=by
 unfold Kh at h
 unfold wg zW
 dsimp only
 split at h
 ·rename_i t a x ho
  rw [ho]
  cases hd:o.dst with
  | some d=>rw [hd] at h; exact h.elim
  | none=>
   rw [hd] at h
   simp only [YS,cond_false] at h
   simp only [YS,XG,if_false]
   unfold iT at h
   split at h
   ·rename_i id off he
    rw [he]
    simp only [Xp] at h ⊢
    obtain⟨ob,hob,h⟩:=h
    refine⟨ob,hob,?_⟩
    split at h
    ·rw [Xq] at h ⊢
     obtain⟨fm,hcs,rfl⟩:=h
     exact⟨fm,hcs,rfl⟩
    ·cases h
   ·cases h
 ·rename_i t ho
  rw [ho]
  cases hn:Df aF o.dst with
  | false=>rw [hn] at h; exact h.elim
  | true=>
   rw [hn] at h
   simp only [cond_true,Xp] at h
   obtain⟨z0,h1,h2⟩:=h
   simp only [h1,Xo]
   exact yA hn h2 ds
 ·rename_i t x ho
  rw [ho]
  cases hn:Df aF o.dst with
  | false=>rw [hn] at h; exact h.elim
  | true=>
   rw [hn] at h
   exact yA hn h ds
 ·rename_i t n ps ho
  rw [ho]
  unfold EP at h
  simp only [Xp,Xq] at h
  obtain⟨x,hx,⟨cs,k,q⟩,ht,he⟩:=h
  simp only [Xw] at he
  obtain⟨rfl,rfl⟩:=he
  simp only [hx,Xu,pH,ht]
 ·rename_i ho
  rw [ho]
  simp only [Xw] at h
  obtain⟨rfl,rfl⟩:=h
  rfl
 ·rename_i ho; rw [ho]; simp only [h,Xu]
 ·rename_i t m k x ho
  rw [ho]
  cases hd:o.dst with
  | some d=>rw [hd] at h; exact h.elim
  | none=>
   rw [hd] at h
   simp only [YS,cond_false] at h
   simp only [YS,XG,if_false,h,Xu]
   rfl
 ·rename_i t m k x ho
  rw [ho]
  cases hd:o.dst with
  | some d=>rw [hd] at h; exact h.elim
  | none=>
   rw [hd] at h
   simp only [YS,cond_false] at h
   simp only [YS,XG,if_false,h,Xu]
   rfl
 ·rename_i ho
  rw [ho]
  split at h
  ·rename_i h1 h2
   simp only [h1,h2,gh,h,Xu]
  ·exact h.elim
 ·rename_i ho
  rw [ho]
  split at h
  ·rename_i h1 h2
   simp only [h1,h2,gh,h,Xu]
  ·exact h.elim
 ·rename_i f args By ho
  rw [ho]
  unfold Jf at h
  split at h
  ·rename_i g cap he
   dsimp only
   rw [he]
   split at h
   ·rename_i nZ
    simp only [nZ,if_true,h,Xu]
   ·cases h
  ·cases h
 ·exact h.elim
theorem BF {ops:List Oper}:∀{l:List Oper} {s r:RS} {i:Nat} {zs:Ki} {es:List r6} {p:Prop},sV P cf aF ops s i l zs=some (es,r,p)→p→pK P cf aF ops s l=some (es,r)∧rp P cf aF ops s l=some r
 | [],s,r,i,[],es,p,h,_=>by
  simp only [sV,Xr,Xw] at h
  obtain⟨rfl,rfl,rfl⟩:=h
  exact⟨rfl,rfl⟩
 | [],s,r,i,_::_,es,p,h,_=>by simp [sV] at h
 | o::os,s,r,i,zs,es,p,h,hp=>by
  simp only [sV,Xp] at h
  obtain⟨w,hw,h⟩:=h
  have fin:∀(s1:RS) (l:List r6) (vn:Ki) (q:Prop),(if w then wg P cf aF (ops.filterMap (·.dst)) s o else some (s.set o.dst (.tup [])))=some s1→sV P cf aF ops s1 (i+1) os vn=some (l,r,q)→q→
    pK P cf aF ops s (o::os)=some ({o,f:=if w then aZ aF (bN s.ρ) o else {},s,s':=s1}::l,r)∧rp P cf aF ops s (o::os)=some r:=by
   intro s1 l vn q h1 h2 hq
   obtain⟨h3,h4⟩:=BF h2 hq
   refine⟨?_,?_⟩
   ·simp only [pK,hw,Xo,h1,h3,Xu]
   ·simp only [rp,lM,hw,Xo,h1,h4]
  cases w with
  | false=>
   simp only [cond_false,Xq] at h
   obtain⟨⟨l,r',q⟩,h2,he⟩:=h
   simp only [Xw] at he
   obtain⟨rfl,rfl,rfl⟩:=he
   simpa using fin _ l zs q (by simp) h2 hp
  | true=>
   simp only [cond_true] at h
   split at h
   ·simp only [Xp,Xq] at h
    obtain⟨s1,h1,⟨l,r',q⟩,h2,he⟩:=h
    simp only [Xw] at he
    obtain⟨rfl,rfl,rfl⟩:=he
    simpa using fin _ l [] q (by simpa using h1) h2 hp
   ·rename_i j z oh vn
    cases hj:X9 i j with
    | false=>
     rw [hj] at h
     simp only [cond_false,Xp,Xq] at h
     obtain⟨s1,h1,⟨l,r',q⟩,h2,he⟩:=h
     simp only [Xw] at he
     obtain⟨rfl,rfl,rfl⟩:=he
     simpa using fin _ l _ q (by simpa using h1) h2 hp
    | true=>
     rw [hj] at h
     simp only [cond_true] at h
     split at h
     ·simp only [Xq] at h
      obtain⟨⟨l,r',q⟩,h2,he⟩:=h
      simp only [Xw] at he
      obtain⟨rfl,rfl,rfl⟩:=he
      simpa using fin _ l _ q (by simpa using HX hp.1 _) h2 hp.2
     ·simp only [Xq] at h
      obtain⟨⟨l,r',q⟩,h2,he⟩:=h
      simp only [Xw] at he
      obtain⟨rfl,rfl,rfl⟩:=he
      simpa using fin _ l _ q (by simpa using HY hp.1 _) h2 hp.2
end
def sW (s:RS):List (Nat × Option Nat × Nat)→List (AV × AHeap)→Option (RS × Prop)
 | [],_=>some (s,True)
 | (t,i,k)::ps,zs=>
  match i with
  | none=>
   match k,s.ρ t,zs with
   | 0,.rs id off n z,(y,h')::vn=>(sW {s with h:=h',ρ:=fun u=>bif X9 u t then y else s.ρ u} ps vn).map fun (r,p)=>(r,km 0 s.h (.rs id off n z)=some (y,h')∧p)
   | k,x,zs=>(km k s.h x).bind fun (y,h')=>sW {s with h:=h',ρ:=fun u=>bif X9 u t then y else s.ρ u} ps zs
  | some i=>
   match s.bx t with
   | some cs=>(cs[i]?).bind fun x=>
    match k,x,zs with
    | 0,.rs id off n z,(y,h')::vn=>(sW {s with h:=h',bx:=fun u=>bif X9 u t then some (cs.set i y) else s.bx u} ps vn).map fun (r,p)=>(r,km 0 s.h (.rs id off n z)=some (y,h')∧p)
    | k,x,zs=>(km k s.h x).bind fun (y,h')=>sW {s with h:=h',bx:=fun u=>bif X9 u t then some (cs.set i y) else s.bx u} ps zs
   | none=>none
theorem wQ:∀{ps:List (Nat × Option Nat × Nat)} {s r:RS} {zs:List (AV × AHeap)} {p:Prop},sW s ps zs=some (r,p)→p→kR s ps=some r
 | [],s,r,zs,p,h,_=>by
  simp only [sW,Xr,Xw] at h
  obtain⟨rfl,rfl⟩:=h
  rfl
 | (t,i,k)::ps,s,r,zs,p,h,hp=>by
  cases i with
  | none=>
   have fin:∀(y:AV) (h':AHeap) (vn:List (AV × AHeap)) (q:Prop),km k s.h (s.ρ t)=some (y,h')→sW {s with h:=h',ρ:=fun u=>bif X9 u t then y else s.ρ u} ps vn=some (r,q)→q→kR s ((t,none,k)::ps)=some r:=by
    intro y h' vn q h1 h2 hq
    simp only [kR,wo,h1,Xu,Xo]
    exact wQ h2 hq
   simp only [sW] at h
   split at h
   ·rename_i id off n z y h' vn hx
    rw [Xq] at h
    obtain⟨⟨r',q⟩,h2,he⟩:=h
    simp only [Xw] at he
    obtain⟨rfl,rfl⟩:=he
    exact fin y h' vn q (by rw [hx]; exact hp.1) h2 hp.2
   ·rw [Xp] at h
    obtain⟨⟨y,h'⟩,h1,h2⟩:=h
    exact fin y h' _ p h1 h2 hp
  | some i=>
   simp only [sW] at h
   split at h
   rotate_left
   ·cases h
   rename_i cs hcs
   rw [Xp] at h
   obtain⟨x,hx,h⟩:=h
   have fin:∀(y:AV) (h':AHeap) (vn:List (AV × AHeap)) (q:Prop),km k s.h x=some (y,h')→sW {s with h:=h',bx:=fun u=>bif X9 u t then some (cs.set i y) else s.bx u} ps vn=some (r,q)→q→kR s ((t,some i,k)::ps)=some r:=by
    intro y h' vn q h1 h2 hq
    simp only [kR,wo,hcs,hx,Xo,h1,Xu]
    exact wQ h2 hq
   split at h
   ·rename_i id off n z y h' vn
    rw [Xq] at h
    obtain⟨⟨r',q⟩,h2,he⟩:=h
    simp only [Xw] at he
    obtain⟨rfl,rfl⟩:=he
    exact fin y h' vn q hp.1 h2 hp.2
   ·rw [Xp] at h
    obtain⟨⟨y,h'⟩,h1,h2⟩:=h
    exact fin y h' _ p h1 h2 hp
def r6.se (x y:r6):Bool:=
 (match x.f.wb with
  | some k=>!y.f.rb.contains k&&y.f.wb != some k
  | none=>true) &&
 (!x.f.wh||(!y.f.wh&&y.f.rh.isEmpty))
def ES (ops:List Oper)(arr:Array Oper)(s:RS)(es:List r6):Bool:=
 let ms:=jD [] ops
 pJ arr ms &&
  (let is:=es.zipIdx
   let Eh:=is.filter fun (x,_)=>!x.f.quiet
   Eh.all (fun (x,i)=>wj ms (ops.filterMap (·.dst)) s is x i&&Eh.all fun (y,j)=>Nat.ble j i||(ms.getD j 0).testBit i||(x.se y&&y.se x)))
theorem sX {x y:r6}(h:x.se y=true):x.pI y=true:=by
 unfold r6.se at h
 unfold r6.pI
 simp only [Xt,Yc] at h ⊢
 refine⟨h.1,h.2.imp id fun ⟨h1,h2⟩=>⟨h1,?_⟩⟩
 rw [List.isEmpty_iff] at h2
 rw [h2]; rfl
theorem HZ {P:Program}{cf:CallF}{aF:List Nat}{ops:Array Oper}{s r:RS}{es:List r6}(h:ES ops.toList ops s es=true)(hr:pK P cf aF ops.toList s ops.toList=some (es,r)):kQ P cf aF ops s=some r:=by
 unfold ES at h
 simp only [Xt] at h
 obtain⟨h1,h2⟩:=h
 unfold kQ
 simp only [h1,if_true,hr,Xo]
 rw [if_pos]
 rw [XQ] at h2 ⊢
 intro x hx
 have:=h2 x hx
 simp only [Xt] at this ⊢
 refine⟨this.1,?_⟩
 have h3:=this.2
 rw [XQ] at h3 ⊢
 intro y hy
 have:=h3 y hy
 simp only [Yc,Xt] at this ⊢
 exact this.imp id fun h=>⟨sX h.1,sX h.2⟩
def nf (P:Program)(cf:CallF)(A:cg)(c:Code)(fs:List (AV × AHeap))(zs:Ki)(st:St):Option (Prop × St):=
 match c with
 | .region id ops draw=>(sW (st.open A) (gj id A.pC) fs).bind fun (s0,p0)=>(sV P cf A.aF ops.toList s0 0 ops.toList zs).bind fun (es,r,p)=>
   bif draw && !(ES ops.toList ops s0 es) then none else (kR r (gj id A.CQ)).map fun r2=>(p0∧p,r2.mU A id)
 | _=>none
theorem ET {P:Program}{cf:CallF}{A:cg}{m:Nat}{c:Code}{fs:List (AV × AHeap)}{zs:Ki}{st jv:St}{p:Prop}(h:nf P cf A c fs zs st=some (p,jv))(hp:p):bG P cf A m c st=some (.norm,jv):=by
 unfold nf at h
 split at h
 rotate_left
 ·cases h
 rename_i id ops draw
 simp only [Xp] at h
 obtain⟨⟨s0,p0⟩,h0,⟨es,r,q⟩,h1,h⟩:=h
 have hd:∃r2,(draw=true→ES ops.toList ops s0 es=true)∧kR r (gj id A.CQ)=some r2∧p=(p0∧q)∧jv=r2.mU A id:=by
  cases hc:(draw && !(ES ops.toList ops s0 es)) with
  | true=>simp only [hc,cond_true] at h; cases h
  | false=>
   simp only [hc,cond_false,Xq,Xw] at h
   obtain⟨r2,h2,h3,h4⟩:=h
   refine⟨r2,fun C5=>?_,h2,h3.symm,h4.symm⟩
   simpa [C5] using hc
 obtain⟨r2,C5,h2,rfl,rfl⟩:=hd
 obtain⟨g1,g2⟩:=BF h1 hp.2
 have g0:=wQ h0 hp.1
 simp only [bG,g0,Xo]
 cases draw with
 | false=>simp only [XG,if_false,g2,Xo,h2,Xu]
 | true=>simp only [if_true,HZ (C5 rfl) g1,Xo,h2,Xu]
end Go.R
namespace Go.R
open Go
def de (P:Program)(cf:CallF)(A:cg)(m:Nat)(c:Code)(s:St)(Q:Ex→St→Prop):Prop:=∃e s',bG P cf A m c s=some (e,s')∧Q e s'
def Kj (R:St→Prop)(Q:Ex→St→Prop):Ex→St→Prop
 | .norm,s=>R s
 | .exit i,s=>Q (.exit i) s
 | .ret,s=>Q .ret s
def P7 (id:Nat)(Q:Ex→St→Prop):Ex→St→Prop
 | .norm,s=>Q .norm s
 | .exit i,s=>bif X9 i id then Q .norm s else Q (.exit i) s
 | .ret,s=>Q .ret s
section
variable {P:Program}{cf:CallF}{A:cg}{m:Nat}{s:St}{Q:Ex→St→Prop}
theorem oD {a b:Code}(h:de P cf A m a s (Kj (fun s'=>de P cf A m b s' Q) Q)):de P cf A m (.seq a b) s Q:=by
 obtain⟨e,s',h1,h2⟩:=h
 cases e with
 | norm=>
  obtain⟨e2,s2,h3,h4⟩:=h2
  exact⟨e2,s2,by simp only [bG,h1,Xo,h3],h4⟩
 | exit i=>exact⟨_,s',by simp only [bG,h1,Xo],h2⟩
 | ret=>exact⟨_,s',by simp only [bG,h1,Xo],h2⟩
theorem As {id:Nat}{a:Code}(h:de P cf A m a s (P7 id Q)):de P cf A m (.block id a) s Q:=by
 obtain⟨e,s',h1,h2⟩:=h
 cases e with
 | norm=>exact⟨_,s',by simp only [bG,h1,Xu],h2⟩
 | exit i=>
  simp only [P7,beq_nat] at h2
  by_cases hi:i=id
  ·simp only [hi,decide_true,cond_true] at h2
   exact⟨_,s',by simp only [bG,h1,Xu,hi,if_true],h2⟩
  ·simp only [hi,decide_false,cond_false] at h2
   exact⟨_,s',by simp only [bG,h1,Xu,hi,if_false],h2⟩
 | ret=>exact⟨_,s',by simp only [bG,h1,Xu],h2⟩
theorem sY {c:Code}{fs:List (AV × AHeap)}{zs:Ki}{jv:St}{p:Prop}(h:nf P cf A c fs zs s=some (p,jv))(hp:p)(hQ:Q .norm jv):de P cf A m c s Q:=
 ⟨_,_,ET h hp,hQ⟩
theorem Dg (h:Q .norm s):de P cf A m .skip s Q:=⟨_,_,rfl,h⟩
theorem yB (h:Q .ret s):de P cf A m .ret s Q:=⟨_,_,rfl,h⟩
theorem Dh {i:Nat}(h:Q (.exit i) s):de P cf A m (.exit i) s Q:=⟨_,_,rfl,h⟩
theorem pU {k:Operand}{x y:Code}(b:Bool)(hk:bN (s.open A).ρ k = .bool b)(ht:b=true→de P cf A m x s Q)(hf:b=false→de P cf A m y s Q):de P cf A m (.cond k x y) s Q:=by
 cases b with
 | true=>
  obtain⟨e,s',h1,h2⟩:=ht rfl
  exact⟨e,s',by simp only [bG,hk,sv,Xo,if_true,h1],h2⟩
 | false=>
  obtain⟨e,s',h1,h2⟩:=hf rfl
  exact⟨e,s',by simp only [bG,hk,sv,Xo,XG,if_false,h1],h2⟩
theorem Au {c c':Code}(h:c=c')(k:de P cf A m c' s Q):de P cf A m c s Q:=h ▸ k
def EU {S O:Type}(l:Nat→S→Option O)(Rel:S→St→Prop)(QO:O→Ex→St→Prop)(k:Nat)(out:O):Ex→St→Prop
 | .norm,s=>∃σ,Rel σ s∧l k σ=some out
 | .exit i,s=>QO out (.exit i) s
 | .ret,s=>QO out .ret s
theorem sZ {S O:Type}{l:Nat→S→Option O}{Rel:S→St→Prop}{QO:O→Ex→St→Prop}{body:Code}(h0:∀σ,l 0 σ=none)
  (step:∀k σ s out,Rel σ s→l (k+1) σ=some out→de P cf A m body s (EU l Rel QO k out)):∀(n:Nat) (σ:S) (s:St) (out:O),Rel σ s→l n σ=some out→∃e s',kn (bG P cf A m body) n s=some (e,s')∧e≠.norm∧QO out e s'
 | 0,σ,s,out,_,h=>by rw [h0] at h; cases h
 | n+1,σ,s,out,hr,h=>by
  obtain⟨e,s',h1,h2⟩:=step n σ s out hr h
  cases e with
  | norm=>
   obtain⟨σ',h3,h4⟩:=h2
   obtain⟨e',Vk,h5,h6⟩:=sZ h0 step n σ' s' out h3 h4
   exact⟨e',Vk,by simp only [kn,h1,Xo,h5],h6⟩
  | exit i=>exact⟨_,s',by simp only [kn,h1,Xo],by simp,h2⟩
  | ret=>exact⟨_,s',by simp only [kn,h1,Xo],by simp,h2⟩
theorem Di {S O:Type}(l:Nat→S→Option O)(Rel:S→St→Prop)(QO:O→Ex→St→Prop){body:Code}(h0:∀σ,l 0 σ=none)
  (step:∀k σ s out,Rel σ s→l (k+1) σ=some out→de P cf A m body s (EU l Rel QO k out)) {σ:S} {out:O} (hr:Rel σ s) (h:l m σ=some out) (hQ:∀e s',e≠.norm→QO out e s'→Q e s'):de P cf A m (.loop body) s Q:=by
 obtain⟨e,s',h1,h2,h3⟩:=sZ h0 step m σ s out hr h
 exact⟨e,s',by simp only [bG,h1],hQ e s' h2 h3⟩
theorem wR {aU:FuncId→cg}{f:FuncId}{fn:Func}{args:List AV}{h:AHeap}{R:AV→AHeap→Prop}(hf:P.funcs[f]? = some fn)(hb:fn.body=some (codeOf fn))(hn:Nat.ble args.length fn.ntmps=true)
  (he:de P cf (aU f) m (codeOf fn) ⟨lN (aU f).keep args,(aU f).aF.map fun _=>none,h⟩ (fun e s=>(e = .ret∨e = .norm)∧∃r,aH P (s.open (aU f)) fn.results.toList=some r∧R r s.h)) :
  ∃r h',bc P aU cf m f args h=some (r,h')∧R r h':=by
 obtain⟨e,s,h1,h2,r,h3,h4⟩:=he
 refine⟨r,s.h,?_,h4⟩
 unfold bc
 rw [hf,Xo,hb,Xo,if_pos (Nat.le_of_ble_eq_true hn),h1,Xo]
 rcases h2 with rfl | rfl<;>simp only [h3,Xu]
end
end Go.R
namespace Go.R
open Go
structure cw (α:Type) where
 n:Nat
 f:α→List AV
 len:∀a,(f a).length=n
 pos:n≠0
 small:n≤1024:=by decide
 flat:Bool:=true
 pure:∀a,flat=true→cH (f a)=true∧dq (f a)=f a
 canon:∀a,(f a).map nu=f a
section
variable {α:Type}(E:cw α)
def cw.l (l:List α):List AV:=l.flatMap E.f
def cw.fz (l:List α):AV:=.fz (E.l l) l.length false
variable {E}
theorem cw.dO {a:α}{l:List α}:E.l (a::l)=E.f a++E.l l:=rfl
theorem cw.Jg:E.l []=[]:=rfl
theorem cw.kC {a b:List α}:E.l (a++b)=E.l a++E.l b:=by simp [cw.l]
theorem cw.cJ:∀{l:List α},(E.l l).length=l.length*E.n
 | []=>by simp [cw.l]
 | a::l=>by rw [cw.dO,Xy,E.len,cw.cJ,XO,Yz,Nat.one_mul,Nat.add_comm]
theorem cw.oE {l:List α}(h:l.length≤1099511627776):(E.l l).length≤1125899906842624:=by
 rw [cw.cJ]
 exact X6 (Nat.mul_le_mul h E.small) (by decide)
theorem cw.wS:∀{l:List α} {i:Nat},(E.l l).drop (i*E.n)=E.l (l.drop i)
 | l,0=>by simp
 | [],i+1=>by simp [cw.l]
 | a::l,i+1=>by
  rw [List.drop_succ_cons,←cw.wS,cw.dO,Yz,Nat.one_mul,List.drop_append,List.drop_of_length_le (by rw [E.len]; omega),XZ,E.len,Nat.add_sub_cancel]
theorem cw.EV:∀{l:List α} {i:Nat},(E.l l).take (i*E.n)=E.l (l.take i)
 | l,0=>by simp [cw.l]
 | [],i+1=>by simp [cw.l]
 | a::l,i+1=>by
  rw [cw.dO,List.take_succ_cons,cw.dO,Yz,Nat.one_mul,Nat.add_comm,List.take_append]
  rw [E.len,XY (by rw [E.len]; omega),Yq,cw.EV]
theorem cw.Jh {l:List α}{i:Nat}{a:α}(h:l[i]? = some a){off:Nat}(ho:off<E.n):(E.l l)[i*E.n+off]? = (E.f a)[off]?:=by
 rw [←List.getElem?_drop,cw.wS,XD (Xx.1 h).1,(Xx.1 h).2,cw.dO,X1 (by rw [E.len]; exact ho)]
theorem cw.EW {l:List α}{i:Nat}{a:α}(h:l[i]? = some a):((E.l l).drop (i*E.n)).take E.n=E.f a:=by
 rw [cw.wS,XD (Xx.1 h).1,(Xx.1 h).2,cw.dO,XV (by rw [E.len]; exact Xs _)]
 rw [XY (by rw [E.len]; exact Xs _)]
theorem cw.Av {l:List α}{i:Nat}{a:α}(h:l[i]? = some a):i*E.n+E.n≤(E.l l).length:=by
 rw [cw.cJ]
 have:=(Xx.1 h).1
 calc i*E.n+E.n=(i+1)*E.n:=by rw [Yz,Nat.one_mul]
  _≤_:=Yg _ this
theorem oF:∀{a b:List AV},cH (a++b)=(cH a&&cH b)
 | [],b=>by simp [cH]
 | x::a,b=>by simp [cH,oF,Bool.and_assoc]
theorem oG:∀{a b:List AV},dq (a++b)=dq a++dq b
 | [],b=>rfl
 | x::a,b=>by simp [dq,oG]
theorem cw.pV (hp:E.flat=true):∀{l:List α},cH (E.l l)=true∧dq (E.l l)=E.l l
 | []=>⟨rfl,rfl⟩
 | a::l=>by
  obtain⟨h1,h2⟩:=E.pure a hp
  obtain⟨h3,h4⟩:=cw.pV hp (l:=l)
  rw [cw.dO,oF,oG,h1,h2,h3,h4]
  exact⟨rfl,rfl⟩
theorem cw.wT:∀{l:List α},(E.l l).map nu=E.l l
 | []=>rfl
 | a::l=>by rw [cw.dO,XT,E.canon,cw.wT]
theorem cw.oH {l:List α}(hp:E.flat=true:=by rfl):(E.fz l).dN=true∧(E.fz l).jO=E.fz l:=by
 obtain⟨h1,h2⟩:=cw.pV (E:=E) hp (l:=l)
 exact⟨h1,by show AV.fz (dq (E.l l)) l.length false=_; rw [h2]; rfl⟩
theorem kh:∀(cs vs pre Kk:List AV),cs.length=vs.length→du (pre++cs++Kk) pre.length vs=pre++vs++Kk
 | [],[],pre,Kk,_=>by simp [du]
 | c::cs,v::vs,pre,Kk,h=>by
  have:=kh cs vs (pre++[v]) Kk (by simpa using h)
  simp only [Xy,XO,Yh,XP] at this
  rw [du]
  have h2:(pre++c::cs++Kk).set pre.length v=pre++[v]++cs++Kk:=by
   rw [XC,YT _ _ (Xs _),YX]
   simp
  rw [h2,this]
  simp
 | [],_::_,_,_,h=>by simp at h
 | _::_,[],_,_,h=>by simp at h
theorem cw.EX {l:List α}{i:Nat}{a b:α}(h:l[i]? = some a)(rest:List AV):du (E.l l++rest) (i*E.n) (E.f b)=E.l (l.set i b)++rest:=by
 have hi:=(Xx.1 h).1
 have hl:l=l.take i++a::l.drop (i+1):=by
  conv=>lhs; rw [←List.take_append_drop i l,XD hi]
  rw [(Xx.1 h).2]
 have hs:l.set i b=l.take i++b::l.drop (i+1):=List.set_eq_take_append_cons_drop .. |>.trans (by rw [if_pos hi])
 have e1:E.l l=E.l (l.take i)++E.f a++E.l (l.drop (i+1)):=by
  conv=>lhs; rw [hl]
  rw [cw.kC,cw.dO,XC]
 have e2:(E.l (l.take i)).length=i*E.n:=by rw [cw.cJ,YF,Y0 (Nat.le_of_lt hi)]
 rw [hs,cw.kC,cw.dO,e1,←e2]
 have:=kh (E.f a) (E.f b) (E.l (l.take i)) (E.l (l.drop (i+1))++rest) (by rw [E.len,E.len])
 simp only [XC] at this ⊢
 exact this
theorem cw.Kl {l:List α}{i:Nat}{a b:α}{off:Nat}{v:AV}(h:l[i]? = some a)(ho:off<E.n)(hb:(E.f a).set off v=E.f b)(rest:List AV):(E.l l++rest).set (i*E.n+off) v=E.l (l.set i b)++rest:=by
 have hi:=(Xx.1 h).1
 have hl:l=l.take i++a::l.drop (i+1):=by
  conv=>lhs; rw [←List.take_append_drop i l,XD hi]
  rw [(Xx.1 h).2]
 have hs:l.set i b=l.take i++b::l.drop (i+1):=List.set_eq_take_append_cons_drop .. |>.trans (by rw [if_pos hi])
 have e1:E.l l=E.l (l.take i)++(E.f a++E.l (l.drop (i+1))):=by
  conv=>lhs; rw [hl]
  rw [cw.kC,cw.dO]
 have e2:(E.l (l.take i)).length=i*E.n:=by rw [cw.cJ,YF,Y0 (Nat.le_of_lt hi)]
 rw [hs,cw.kC,cw.dO,e1,←hb,←e2]
 simp only [XC]
 rw [YT _ _ (by omega),List.set_append_left _ _ (by rw [E.len]; omega)]
 congr 2
 simp
end
def ix {α:Type}(l:List α)(i:Int):Option α:=if 0≤i then l[i.toNat]? else none
theorem gF {α:Type}{l:List α}{i:Int}{a:α}(h:ix l i=some a):0≤i∧i<l.length∧l[i.toNat]? = some a:=by
 unfold ix at h
 split at h
 ·rename_i h0
  have:=(Xx.1 h).1
  exact⟨h0,by omega,h⟩
 ·cases h
def upd {α:Type}(l:List α)(i:Int)(a:α):Option (List α):=if 0≤i∧i<l.length then some (l.set i.toNat a) else none
def pD {α:Type}(l:List α)(lo hi:Int):Option (List α):=if 0≤lo∧lo≤hi∧hi≤l.length then some ((l.drop lo.toNat).take (hi.toNat - lo.toNat)) else none
theorem lY {α:Type}{l r:List α}{lo hi:Int}(h:pD l lo hi=some r):0≤lo∧lo≤hi∧hi≤l.length∧r=(l.drop lo.toNat).take (hi.toNat - lo.toNat):=by
 unfold pD at h
 split at h
 ·rename_i h0; cases h; exact⟨h0.1,h0.2.1,h0.2.2,rfl⟩
 ·cases h
def bt (s:ByteArray)(i:Int):Option Int:=if 0≤i then (s.data.toList[i.toNat]?).map fun b=>(b.toNat:Int) else none
inductive Ct where
 | sl (n sz:Nat) (cs:List AV)
 | ob (cs:List AV)
 | mp (es:List (AV × AV))
 | row (e:TypeId) (cs:List AV)
def Dj (h:AHeap)(i:Nat):Ct→Prop
 | .sl n sz cs=>(cs.length=n*sz∧cs.length≤1125899906842624)∧((i=0∧n=0)∨(i≠0∧∃rest,h.get i=some (.cells (cs++rest))))
 | .ob cs=>i≠0∧h.get i=some (.cells cs)
 | .mp es=>i≠0∧h.get i=some (.map es)
 | .row e cs=>i≠0∧h.get i=some (.row e cs)
abbrev Mem:=List (Nat × Ct)
structure Has (h:AHeap)(K:Mem):Prop where
 at_:∀(j i:Nat) (c:Ct),K[j]? = some (i,c)→Dj h i c∧i<h.next
 nd:∀(j j' i:Nat) (c c':Ct),K[j]? = some (i,c)→K[j']? = some (i,c')→i≠0→j=j'
 pos:0<h.next
theorem s4 {h h':AHeap}{i:Nat}{c:Ct}(hg:i≠0→h'.get i=h.get i)(h1:Dj h i c):Dj h' i c:=by
 cases c with
 | sl n sz cs=>
  obtain⟨h2,h3⟩:=h1
  refine⟨h2,h3.imp id fun ⟨h4,r,h5⟩=>⟨h4,r,(hg h4).trans h5⟩⟩
 | ob cs=>exact⟨h1.1,(hg h1.1).trans h1.2⟩
 | mp es=>exact⟨h1.1,(hg h1.1).trans h1.2⟩
 | row e cs=>exact⟨h1.1,(hg h1.1).trans h1.2⟩
theorem cq (h:AHeap)(id k:Nat)(o:AObj):(h.put id o).get k=if k=id then some o else h.get k:=by
 simp only [AHeap.put,beq_nat]
 by_cases hk:k=id<;>simp [hk]
theorem s5 (h:AHeap)(id k:Nat):(h.kill id).get k=if k=id then none else h.get k:=by
 simp only [AHeap.kill,beq_nat]
 by_cases hk:k=id<;>simp [hk]
theorem Has.Dk {h h':AHeap}{K:Mem}(o:Has h K){j i:Nat}{c:Ct}(hj:K[j]? = some (i,c)){i':Nat}{c':Ct}
  (hg:∀k,k≠i→k<h.next→h'.get k=h.get k) (hn:h.next≤h'.next) (hi:i'=i∨i'=0∨h.next≤i') (hlt:i'<h'.next) (hc:Dj h' i' c'):Has h' (K.set j (i',c')):=by
 refine⟨fun q k d hq=>?_,fun q q' k d d' hq yj hk=>?_,XU o.pos hn⟩
 ·rw [YP] at hq
  by_cases h1:j=q
  ·subst h1
   rw [if_pos rfl] at hq
   split at hq
   ·cases hq; exact⟨hc,hlt⟩
   ·cases hq
  ·rw [if_neg h1] at hq
   obtain⟨g1,g2⟩:=o.at_ q k d hq
   refine⟨s4 (fun hk=>hg k (fun he=>?_) g2) g1,XU g2 hn⟩
   subst he
   exact h1 (o.nd j q k c d hj hq hk)
 ·rw [YP] at hq yj
  have old:∀(q:Nat) (d:Ct),j≠q→K[q]? = some (k,d)→k≠i':=by
   intro x y hne hx he
   rcases hi with h1 | h1 | h1
   ·exact hne (o.nd j x k c y (by rw [he,h1]; exact hj) hx hk)
   ·exact hk (he.trans h1)
   ·have:=(o.at_ x k y hx).2; omega
  by_cases h1:j=q<;>by_cases h2:j=q'
  ·rw [←h1,h2]
  ·subst h1
   rw [if_pos rfl] at hq
   rw [if_neg h2] at yj
   split at hq
   ·cases hq; exact absurd rfl (old q' d' h2 yj)
   ·cases hq
  ·subst h2
   rw [if_pos rfl] at yj
   rw [if_neg h1] at hq
   split at yj
   ·cases yj; exact absurd rfl (old q d h1 hq)
   ·cases yj
  ·rw [if_neg h1] at hq; rw [if_neg h2] at yj
   exact o.nd q q' k d d' hq yj hk
theorem Has.new {h h':AHeap}{K:Mem}(o:Has h K){i:Nat}{c:Ct}(hg:∀k,k<h.next→h'.get k=h.get k)(hn:h.next≤h'.next)(hi:i=0∨h.next≤i)(hlt:i<h'.next)(hc:Dj h' i c):Has h' ((i,c)::K):=by
 refine⟨fun q k d hq=>?_,fun q q' k d d' hq yj hk=>?_,XU o.pos hn⟩
 ·cases q with
  | zero=>simp only [X4,Xr,Xw] at hq; obtain⟨rfl,rfl⟩:=hq; exact⟨hc,hlt⟩
  | succ q=>
   simp only [YA] at hq
   obtain⟨g1,g2⟩:=o.at_ q k d hq
   exact⟨s4 (fun _=>hg k g2) g1,XU g2 hn⟩
 ·have old:∀(q:Nat) (d:Ct),K[q]? = some (k,d)→k≠i:=by
   intro x y hx he
   rcases hi with h1 | h1
   ·exact hk (he.trans h1)
   ·have:=(o.at_ x k y hx).2; omega
  cases q with
  | zero=>
   simp only [X4,Xr,Xw] at hq
   cases q' with
   | zero=>rfl
   | succ q'=>exact absurd hq.1.symm (old q' d' (by simpa using yj))
  | succ q=>
   cases q' with
   | zero=>
    simp only [X4,Xr,Xw] at yj
    exact absurd yj.1.symm (old q d (by simpa using hq))
   | succ q'=>rw [o.nd q q' k d d' (by simpa using hq) (by simpa using yj) hk]
theorem Has.nil {h:AHeap}{K:Mem}(o:Has h K)(sz:Nat):Has h ((0,.sl 0 sz [])::K):=
 o.new (fun _ _=>rfl) (Xs _) (.inl rfl) o.pos ⟨⟨by simp,by simp⟩,.inl ⟨rfl,rfl⟩⟩
theorem Has.sub {h:AHeap}{K K':Mem}(o:Has h K)(f:Nat→Nat)(hf:∀j p,K'[j]? = some p→K[f j]? = some p)(hi:∀j j',f j=f j'→j=j'):Has h K':=
 ⟨fun j i c hj=>o.at_ (f j) i c (hf j _ hj),fun j j' i c c' hj JU hk=>hi _ _ (o.nd (f j) (f j') i c c' (hf j _ hj) (hf j' _ JU) hk),o.pos⟩
theorem Has.del {h:AHeap}{K:Mem}(o:Has h K)(q:Nat):Has h (K.eraseIdx q):=
 o.sub (fun j=>if j<q then j else j+1) (fun j p hj=>by
  rw [List.getElem?_eraseIdx] at hj
  split at hj
  ·rename_i h1; simpa [h1] using hj
  ·rename_i h1; simpa [h1] using hj) (fun j j' he=>by
   split at he<;>split at he<;>omega)
theorem Has.front {h:AHeap}{K:Mem}(o:Has h K)(q:Nat){p:Nat × Ct}(hq:K[q]? = some p):Has h (p::K.eraseIdx q):=
 o.sub (fun j=>match j with | 0=>q | j+1=>if j<q then j else j+1) (fun j p' hj=>by
  cases j with
  | zero=>simp only [X4,Xr] at hj; subst hj; exact hq
  | succ j=>
   simp only [YA,List.getElem?_eraseIdx] at hj
   dsimp only
   split at hj
   ·rename_i h1; simpa [h1] using hj
   ·rename_i h1; simpa [h1] using hj) (fun j j' he=>by
   cases j with
   | zero=>cases j' with
    | zero=>rfl
    | succ j'=>dsimp only at he; split at he<;>omega
   | succ j=>cases j' with
    | zero=>dsimp only at he; split at he<;>omega
    | succ j'=>dsimp only at he; split at he<;>split at he<;>omega)
end Go.R
namespace Go.R
open Go
def wU (P:Program)(t:TypeId)(sz b:Nat):Bool:=
 match P.underlying t with
 | some (.slice e)=>match P.info? e with
  | some i=>X9 i.size sz&&X9 i.bytes b&&JJ i
  | none=>false
 | _=>false
section
variable {P:Program}{t:TypeId}{sz b:Nat}
theorem jj (h:wU P t sz b=true):∃e i,P.underlying t=some (.slice e)∧P.info? e=some i∧i.size=sz∧i.bytes=b∧JJ i=true∧dZ P e=some sz:=by
 unfold wU at h
 split at h
 ·rename_i e he
  split at h
  ·rename_i i hi
   simp only [Xt] at h
   have h1:=YG h.1.1
   exact⟨e,i,he,hi,h1,YG h.1.2,h.2,by simp [dZ,hi,h1]⟩
  ·cases h
 ·cases h
variable {α:Type}{E:cw α}{h:AHeap}{K:Mem}{l:List α}{a v:α}{i q:Nat}{j:Int}{k:IntKind}{c:AV}{off:Nat}{tf:TypeId}
theorem bw (T:wU P t E.n b=true)(h:ix l j=some a):ec P t (E.fz l) (.int k j)=some (.fp (E.l l) (j.toNat*E.n)):=by
 obtain⟨e,inf,h1,h2,h3,h4,h5,h6⟩:=jj T
 obtain⟨g1,g2,g3⟩:=gF h
 have hle:=cw.Av (E:=E) g3
 have hp:=E.pos
 simp only [ec,h1,Xo,h6,cw.fz]
 rw [if_pos ⟨g1,g2,by omega⟩]
theorem M9 (h:l[j.toNat]? = some a):(E.l l).isEmpty=false:=by
 have hle:=cw.Av (E:=E) h
 have hp:=E.pos
 cases hl:E.l l with
 | nil=>rw [hl] at hle; simp at hle; omega
 | cons _ _=>rfl
theorem iA (hp:AHeap)(ha:eF P tf=some false)(h:ix l j=some a)(hc:(E.f a)[off]? = some c):bl P hp tf (.fp (E.l l) (j.toNat*E.n+off))=some c:=by
 obtain⟨g1,g2,g3⟩:=gF h
 have ho:off<E.n:=by rw [←E.len a]; exact (Xx.1 hc).1
 simp only [bl,jd,M9 g3,XG,if_false,iQ,ha,Xo,cw.Jh g3 ho,hc]
theorem cY (hp:AHeap)(ha:eF P tf=some false)(h:ix l j=some a)(hc:(E.f a)[0]? = some c):bl P hp tf (.fp (E.l l) (j.toNat*E.n))=some c:=iA (off:=0) hp ha h hc
theorem dw (hp:AHeap)(ha:eF P tf=some true)(hs:dZ P tf=some E.n)(h:ix l j=some a):bl P hp tf (.fp (E.l l) (j.toNat*E.n))=some (.agg (E.f a)):=by
 obtain⟨g1,g2,g3⟩:=gF h
 simp only [bl,jd,M9 g3,XG,if_false,iQ,ha,Xo,if_true,hs]
 rw [if_pos (cw.Av g3),cw.EW g3]
theorem sf (o:Has h K)(hq:K[q]? = some (i,.sl l.length E.n (E.l l)))(hj:l[j.toNat]? = some a):i≠0∧∃rest,h.get i=some (.cells (E.l l++rest)):=by
 obtain⟨⟨_,h1⟩,_⟩:=o.at_ _ _ _ hq
 rcases h1 with⟨_,h1⟩| h1
 ·have:=(Xx.1 hj).1; omega
 ·exact h1
theorem Km (T:wU P t sz b=true){n:Nat}(h0:0≤j)(h1:j<n):ec P t (.rs i 0 n sz) (.int k j)=some (.ptr i (0+j.toNat*sz)):=by
 obtain⟨e,inf,g1,g2,g3,g4,g5,g6⟩:=jj T
 simp only [ec,g1,Xo,g6]
 rw [if_pos ⟨trivial,h0,h1⟩]
theorem vo (o:Has h K)(hq:K[q]? = some (i,.sl l.length E.n (E.l l)))(ha:eF P tf=some false)(hj:ix l j=some a)(hc:(E.f a)[off]? = some c):bl P h tf (.ptr i (0+j.toNat*E.n+off))=some c:=by
 obtain⟨g1,g2,g3⟩:=gF hj
 obtain⟨h1,rest,h2⟩:=sf o hq g3
 have ho:off<E.n:=by rw [←E.len a]; exact (Xx.1 hc).1
 have hle:=cw.Av (E:=E) g3
 simp only [bl,jd,h2,Xo,iQ,ha,XG,if_false,XP]
 rw [X1 (by omega),cw.Jh g3 ho,hc]
theorem Dl (o:Has h K)(hq:K[q]? = some (i,.sl l.length E.n (E.l l)))(ha:eF P tf=some false)(hj:ix l j=some a)(hc:(E.f a)[0]? = some c):bl P h tf (.ptr i (0+j.toNat*E.n))=some c:=vo (off:=0) o hq ha hj hc
theorem Dm (o:Has h K)(hq:K[q]? = some (i,.sl l.length E.n (E.l l)))(ha:eF P tf=some true)(hs:dZ P tf=some E.n)(hj:ix l j=some a):bl P h tf (.ptr i (0+j.toNat*E.n))=some (.agg (E.f a)):=by
 obtain⟨g1,g2,g3⟩:=gF hj
 obtain⟨h1,rest,h2⟩:=sf o hq g3
 have hle:=cw.Av (E:=E) g3
 simp only [bl,jd,h2,Xo,iQ,ha,if_true,hs,XP]
 rw [if_pos (by rw [Xy]; omega),List.drop_append_of_le_length (by omega),XV (by rw [List.length_drop]; omega),cw.EW g3]
theorem iB (o:Has h K){c':Ct}{ct:Ct}(hq:K[q]? = some (i,ct)){ob:AObj}(hc:Dj (h.put i ob) i c'):Has (h.put i ob) (K.set q (i,c')):=
 o.Dk hq (fun k hk _=>by rw [cq,if_neg hk]) (YD _) (.inl rfl) (Yt (o.at_ _ _ _ hq).2) hc
theorem EY (o:Has h K)(hq:K[q]? = some (i,.sl l.length E.n (E.l l)))(hs:dZ P tf=some E.n)(hj:ix l j=some a){x:AV}(hv:x.cells=E.f v)(nZ:(E.f v).all AV.cE=true) :
  ∃h',iT P h tf (.ptr i (0+j.toNat*E.n)) x=some h'∧Has h' (K.set q (i,.sl l.length E.n (E.l (l.set j.toNat v)))):=by
 obtain⟨g1,g2,g3⟩:=gF hj
 obtain⟨h1,rest,h2⟩:=sf o hq g3
 have hle:=cw.Av (E:=E) g3
 refine⟨_,?_,iB o hq (ob:=.cells (E.l (l.set j.toNat v)++rest)) ⟨⟨by rw [cw.cJ,Xz],by rw [cw.cJ,Xz,←cw.cJ]; exact (o.at_ _ _ _ hq).1.1.2⟩,.inr ⟨h1,rest,by rw [cq,if_pos rfl]⟩⟩⟩
 simp only [iT,h2,Xo,gB,hs,hv,XP]
 rw [if_pos ⟨E.len v,nZ,by rw [Xy]; omega⟩,Xu,cw.EX g3]
theorem Dn (o:Has h K)(hq:K[q]? = some (i,.sl l.length E.n (E.l l)))(hs:dZ P tf=some 1)(hj:ix l j=some a){x:AV}(hx:x.cells=[x])(nZ:x.cE=true)(ho:off<E.n)(hb:(E.f a).set off x=E.f v) :
  ∃h',iT P h tf (.ptr i (0+j.toNat*E.n+off)) x=some h'∧Has h' (K.set q (i,.sl l.length E.n (E.l (l.set j.toNat v)))):=by
 obtain⟨g1,g2,g3⟩:=gF hj
 obtain⟨h1,rest,h2⟩:=sf o hq g3
 have hle:=cw.Av (E:=E) g3
 refine⟨_,?_,iB o hq (ob:=.cells (E.l (l.set j.toNat v)++rest)) ⟨⟨by rw [cw.cJ,Xz],by rw [cw.cJ,Xz,←cw.cJ]; exact (o.at_ _ _ _ hq).1.1.2⟩,.inr ⟨h1,rest,by rw [cq,if_pos rfl]⟩⟩⟩
 simp only [iT,h2,Xo,gB,hs,hx,XP]
 rw [if_pos ⟨rfl,by simp [nZ],by rw [Xy]; omega⟩,Xu]
 simp only [du]
 rw [cw.Kl g3 ho hb]
def app (b:Nat){α:Type}(l l2:List α):Option (List α):=if (l.length+l2.length)*(b+1)≤1099511627776 then some (l++l2) else none
theorem yC {l l2 r:List α}(h:app b l l2=some r):(l.length+l2.length)*b≤gf∧l.length+l2.length≤gf∧r=l++l2:=by
 unfold app at h
 split at h
 ·rename_i h0
  cases h
  rw [Nat.mul_add,YW] at h0
  refine⟨by simp only [gf]; omega,by simp only [gf]; omega,rfl⟩
 ·cases h
theorem EZ {t2:TypeId}{l2 r:List α}{x:AV}(T:wU P t E.n b=true)(o:Has h K)(hq:K[q]? = some (i,.sl l.length E.n (E.l l)))(hx:fj h E.n x=some (E.l l2,l2.length))(hX:jR P t2 x=true)(hr:app b l l2=some r) :
  ∃i' h',gC P h t t2 (.rs i 0 l.length E.n) x=some (.rs i' 0 r.length E.n,h')∧Has h' (K.set q (i',.sl r.length E.n (E.l r))):=by
 obtain⟨e,inf,g1,g2,g3,g4,g5,g6⟩:=jj T
 obtain⟨r1,r2,rfl⟩:=yC hr
 obtain⟨⟨⟨hlen,Af⟩,mV⟩,hlt⟩:=o.at_ _ _ _ hq
 have jg:=E.pos
 have hb:inf.size=E.n:=g3
 have jI:¬(inf.size=0∨jR P t2 x=false∨JJ inf=false):=by rw [hX,g5,hb]; simp [jg]
 subst g4
 by_cases h0:l2=[]
 ·subst h0
  refine⟨i,h,?_,?_⟩
  ·simp only [gC,g1,Xo,g2,hb,hx,hX,g5]
   rw [if_neg (by simp [jg])]
   simp only [Yh,Nat.zero_mul,Nat.add_zero,Yo]
   by_cases hi:i=0
   ·subst hi
    rcases mV with⟨_,hl0⟩| h1
    ·simp [hl0,hb,gf]
    ·exact absurd rfl h1.1
   ·rcases mV with h1 | ⟨_,rest,h1⟩
    ·exact absurd h1.1 hi
    ·rw [if_neg hi,h1]
     simp only [Xo]
     rw [if_neg (by rw [Xy,hlen]; simp only [Yh,Nat.add_zero] at r1 r2; simp; omega)]
     simp
  ·rw [Yo]
   have:K.set q (i,.sl l.length E.n (E.l l))=K:=by
    apply Ye
    intro j
    rw [YP]
    by_cases hj:q=j
    ·subst hj; rw [if_pos rfl,if_pos (Xx.1 hq).1,hq]
    ·rw [if_neg hj]
   rw [this]; exact o
 ·have LV:l2.length≠0:=by simpa using h0
  by_cases hi:i=0
  ·subst hi
   rcases mV with⟨_,hl0⟩| h1
   rotate_left
   ·exact absurd rfl h1.1
   have hnil:l=[]:=by simpa using hl0
   subst hnil
   refine⟨h.next,h.alloc (.cells (E.l l2)),?_,?_⟩
   ·simp only [gC,g1,Xo,g2,hb,hx,hX,g5]
    rw [if_neg (by simp [jg])]
    simp only [if_true]
    simp only [Yh,XP] at r1 r2
    rw [if_neg (by simp; omega),if_neg LV]
    simp
   ·refine o.Dk hq (fun k _ hk=>by rw [AHeap.alloc,cq,if_neg (by omega)]) (YD _) (.inr (.inr (Xs _))) (Ya _) ⟨⟨cw.cJ,cw.oE (by simp only [gf] at r2; simp at r2 ⊢; omega)⟩,.inr ⟨by have:=o.pos; omega,[],?_⟩⟩
    rw [AHeap.alloc,cq,if_pos rfl]; simp
  ·rcases mV with h1 | ⟨_,rest,h1⟩
   ·exact absurd h1.1 hi
   refine⟨h.next,(h.kill i).put h.next (.cells (E.l (l++l2))),?_,?_⟩
   ·simp only [gC,g1,Xo,g2,hb,hx,hX,g5]
    rw [if_neg (by simp [jg]),if_neg hi,h1]
    simp only [Xo]
    rw [if_neg (by rw [Xy,hlen]; simp; omega),if_neg LV]
    rw [X3,XV (by rw [hlen]; exact Xs _),XY (by rw [hlen]; exact Xs _),cw.kC,Xy]
   ·refine o.Dk hq (fun k hk pO=>by rw [cq,if_neg (by omega),s5,if_neg hk]) (by show h.next≤h.next+1+1; omega) (.inr (.inr (Xs _))) (by show h.next<h.next+1+1; omega) ⟨⟨cw.cJ,cw.oE (by simp only [gf] at r2; simp at r2 ⊢; omega)⟩,.inr ⟨by have:=o.pos; omega,[],?_⟩⟩
    rw [cq,if_pos rfl]; simp
theorem E0 {l2:List α}(h:AHeap):fj h E.n (E.fz l2)=some (E.l l2,l2.length):=by
 simp only [fj,dF,cw.fz]
 rw [if_pos cw.cJ,Xu,cw.wT]
theorem yD (o:Has h K)(hq:K[q]? = some (i,.sl l.length E.n (E.l l))):fj h E.n (.rs i 0 l.length E.n)=some (E.l l,l.length):=by
 obtain⟨⟨⟨hlen,Af⟩,mV⟩,hlt⟩:=o.at_ _ _ _ hq
 simp only [fj,dF]
 rcases mV with⟨h0,h1⟩| ⟨h0,rest,h1⟩
 ·have:l=[]:=by simpa using h1
  subst this
  simp [h0,cw.l]
 ·rw [if_neg h0,h1]
  simp only [Xo]
  rw [if_pos ⟨trivial,by rw [Xy,hlen]; omega⟩,Xu,X3,XV (by rw [hlen]; exact Xs _),XY (by rw [hlen]; exact Xs _),cw.wT]
def sh (b:Nat){α:Type}(n:Int)(z:α):Option (List α):=if 0≤n∧n.toNat*(b+1)≤1099511627776 then some (XH n.toNat z) else none
theorem lZ {n:Int}{z:α}{zv:AV}{r:List α}(T:wU P t E.n b=true)(o:Has h K)(e0:TypeId)(Vl:P.underlying t=some (.slice e0))(hz0:jC P e0=some zv)(Vm:zv.cells=E.f z)(nZ:(E.f z).all AV.cE=true)(hr:sh b n z=some r) :
  ∃i h',gg P h t (.int .i64 n) (.int .i64 n)=some (.rs i 0 r.length E.n,h')∧Has h' ((i,.sl r.length E.n (E.l r))::K):=by
 have hz:∀e,P.underlying t=some (.slice e)→jC P e=some zv:=fun e he=>by
  rw [Vl] at he; cases he; exact hz0
 unfold sh at hr
 split at hr
 rotate_left
 ·cases hr
 rename_i jI
 obtain⟨h0,h1⟩:=jI
 cases hr
 obtain⟨e,inf,g1,g2,g3,g4,g5,g6⟩:=jj T
 have jg:=E.pos
 have P8:∀k,ls (E.f z) k=E.l (XH k z):=by
  intro k
  induction k with
  | zero=>rfl
  | succ k ih=>rw [ls,ih,List.replicate_succ,cw.dO]
 refine⟨h.next,h.alloc (.cells (E.l (XH n.toNat z))),?_,o.new (fun k hk=>by rw [AHeap.alloc,cq,if_neg (by omega)]) (YD _) (.inr (Xs _)) (Ya _) ⟨⟨cw.cJ,cw.oE (by rw [YU]; rw [Nat.mul_add,YW] at h1; omega)⟩,.inr ⟨by have:=o.pos; omega,[],by rw [AHeap.alloc,cq,if_pos rfl]; simp⟩⟩⟩
 rw [Nat.mul_add,YW] at h1
 simp only [gg,g1,Xo,g2,hz e g1,Vm,E.len,P8,YU,g3,g4]
 have hb:n*(b:Int)≤gf:=by
  have:n*(b:Int)=((n.toNat*b:Nat):Int):=by
   rw [Int.natCast_mul,Int.toNat_of_nonneg h0]
  simp only [gf]
  rw [this]
  omega
 rw [if_pos ⟨h0,Int.le_refl _,hb,trivial,jg,by omega,nZ⟩]
theorem E1 (o:Has h K)(hq:K[q]? = some (i,.sl l.length E.n (E.l l)))(hp:E.flat=true:=by rfl):∃h',km 0 h (.rs i 0 l.length E.n)=some (E.fz l,h')∧Has h' (K.eraseIdx q):=by
 obtain⟨⟨⟨hlen,Af⟩,mV⟩,hlt⟩:=o.at_ _ _ _ hq
 rcases mV with⟨h0,h1⟩| ⟨h0,rest,h1⟩
 ·have:l=[]:=by simpa using h1
  subst this
  exact⟨h,by simp [km,h0,cw.fz,cw.l],o.del q⟩
 ·refine⟨h.kill i,?_,?_⟩
  ·simp only [km]
   rw [if_neg h0,h1]
   simp only [Xo]
   have e1:((E.l l++rest).drop 0).take (l.length*E.n)=E.l l:=by
    rw [X3,XV (by rw [hlen]; exact Xs _),XY (by rw [hlen]; exact Xs _)]
   rw [e1,if_pos (by rw [Xy,hlen]; omega),vh (cw.pV hp).1]
   rfl
  ·have o2:=o.Dk (i':=0) (c':=.sl 0 1 []) (h':=h.kill i) hq (fun k hk _=>by rw [s5,if_neg hk]) (YD _) (.inr (.inl rfl)) (Nat.succ_pos _) ⟨⟨by simp,by simp⟩,.inl ⟨rfl,rfl⟩⟩
   have:=o2.del q
   rwa [List.eraseIdx_set_eq] at this
variable {n:Nat}
theorem di (o:Has h K)(hq:K[q]? = some (i,.sl n E.n (E.l l))):n=l.length:=by
 have h1:=(o.at_ _ _ _ hq).1.1.1
 rw [cw.cJ] at h1
 exact (Nat.eq_of_mul_eq_mul_right (Nat.pos_of_ne_zero E.pos) h1).symm
theorem aE (T:wU P t E.n b=true)(o:Has h K)(hq:K[q]? = some (i,.sl n E.n (E.l l)))(hj:ix l j=some a):ec P t (.rs i 0 n E.n) (.int k j)=some (.ptr i (0+j.toNat*E.n)):=by
 have hn:=di o hq
 subst hn
 exact Km T (gF hj).1 (gF hj).2.1
theorem wV (o:Has h K)(hq:K[q]? = some (i,.sl n E.n (E.l l)))(ha:eF P tf=some false)(hj:ix l j=some a)(hc:(E.f a)[off]? = some c):bl P h tf (.ptr i (0+j.toNat*E.n+off))=some c:=by
 have hn:=di o hq
 subst hn
 exact vo o hq ha hj hc
theorem be (o:Has h K)(hq:K[q]? = some (i,.sl n E.n (E.l l)))(ha:eF P tf=some false)(hj:ix l j=some a)(hc:(E.f a)[0]? = some c):bl P h tf (.ptr i (0+j.toNat*E.n))=some c:=by
 have hn:=di o hq
 subst hn
 exact Dl o hq ha hj hc
theorem H0 (o:Has h K)(hq:K[q]? = some (i,.sl n E.n (E.l l)))(ha:eF P tf=some true)(hs:dZ P tf=some E.n)(hj:ix l j=some a):bl P h tf (.ptr i (0+j.toNat*E.n))=some (.agg (E.f a)):=by
 have hn:=di o hq
 subst hn
 exact Dm o hq ha hs hj
theorem dD (o:Has h K)(hq:K[q]? = some (i,.sl n E.n (E.l l)))(hs:dZ P tf=some E.n)(hj:ix l j=some a){x:AV}(hv:x.cells=E.f v)(nZ:(E.f v).all AV.cE=true) :
  ∃h',iT P h tf (.ptr i (0+j.toNat*E.n)) x=some h'∧Has h' (K.set q (i,.sl n E.n (E.l (l.set j.toNat v)))):=by
 have hn:=di o hq
 subst hn
 exact EY o hq hs hj hv nZ
theorem H2 (o:Has h K)(hq:K[q]? = some (i,.sl n E.n (E.l l)))(hs:dZ P tf=some 1)(hj:ix l j=some a){x:AV}(hx:x.cells=[x])(nZ:x.cE=true)(ho:off<E.n)(hb:(E.f a).set off x=E.f v) :
  ∃h',iT P h tf (.ptr i (0+j.toNat*E.n+off)) x=some h'∧Has h' (K.set q (i,.sl n E.n (E.l (l.set j.toNat v)))):=by
 have hn:=di o hq
 subst hn
 exact Dn o hq hs hj hx nZ ho hb
theorem fF {t2:TypeId}{l2 r:List α}{x:AV}(T:wU P t E.n b=true)(o:Has h K)(hq:K[q]? = some (i,.sl n E.n (E.l l)))(hx:fj h E.n x=some (E.l l2,l2.length))(hX:jR P t2 x=true)(hr:app b l l2=some r) :
  ∃i' h',gC P h t t2 (.rs i 0 n E.n) x=some (.rs i' 0 r.length E.n,h')∧Has h' (K.set q (i',.sl r.length E.n (E.l r))):=by
 have hn:=di o hq
 subst hn
 exact EZ T o hq hx hX hr
theorem Dp (o:Has h K)(hq:K[q]? = some (i,.sl n E.n (E.l l))):fj h E.n (.rs i 0 n E.n)=some (E.l l,l.length):=by
 have hn:=di o hq
 subst hn
 exact yD o hq
theorem iU (o:Has h K)(hq:K[q]? = some (i,.sl n E.n (E.l l)))(hp:E.flat=true:=by rfl):∃h',km 0 h (.rs i 0 n E.n)=some (E.fz l,h')∧Has h' (K.eraseIdx q):=by
 have hn:=di o hq
 subst hn
 exact E1 o hq hp
end
end Go.R
namespace Go.R
open Go
structure ab where
 kind:Int
 int:Int
 label:ByteArray
 args:List Int
structure ak where
 nodes:List ab
 root:Int
def eI (k:IntKind):cw Int:={n:=1,f:=fun a=>[.int k a],len:=fun _=>rfl,pos:=by decide,pure:=fun _ _=>⟨rfl,rfl⟩,canon:=fun _=>rfl}
abbrev aa:cw Int:=eI .i64
abbrev aw:cw Int:=eI .u8
def bO:cw Bool:={n:=1,f:=fun a=>[.bool a],len:=fun _=>rfl,pos:=by decide,pure:=fun _ _=>⟨rfl,rfl⟩,canon:=fun _=>rfl}
theorem pure_cons {x:AV}{xs:List AV}(h:x.dN=true∧x.jO=x)(k:cH xs=true∧dq xs=xs):cH (x::xs)=true∧dq (x::xs)=x::xs:=
 ⟨by simp [cH,h.1,k.1],by simp [dq,h.2,k.2]⟩
theorem pure_nil:cH []=true∧dq []=[]:=⟨rfl,rfl⟩
theorem s6 {k:IntKind}{n:Int}:(AV.int k n).dN=true∧(AV.int k n).jO = .int k n:=⟨rfl,rfl⟩
theorem E2 {s:ByteArray}:(AV.str s).dN=true∧(AV.str s).jO = .str s:=⟨rfl,rfl⟩
def af:cw ab:={n:=4,f:=fun x=>[.int .i64 x.kind,.int .i64 x.int,.str x.label,aa.fz x.args],len:=fun _=>rfl,pos:=by decide,pure:=fun x _=>pure_cons s6 (pure_cons s6 (pure_cons E2 (pure_cons cw.oH pure_nil))),canon:=fun _=>rfl}
def aR:cw ak:={n:=2,f:=fun x=>[af.fz x.nodes,.int .i64 x.root],len:=fun _=>rfl,pos:=by decide,pure:=fun x _=>pure_cons cw.oH (pure_cons s6 pure_nil),canon:=fun _=>rfl}
end Go.R
namespace Go.R
open Go
theorem H3 {b:Bool}(h:b=false):¬b=true:=by rw [h]; decide
section
variable {P:Program}{cf:CallF}{A:cg}{m:Nat}
theorem vp {c:Code}{s:St}{Q R:Ex→St→Prop}(h:de P cf A m c s Q)(k:∀e s',Q e s'→R e s'):de P cf A m c s R:=by
 obtain⟨e,s',h1,h2⟩:=h
 exact⟨e,s',h1,k _ _ h2⟩
theorem aG {c:Code}{s:St}{Q:St→Prop}{R:Ex→St→Prop}(hQ:∀e s',(e = .ret∨e = .norm)∧Q s'→R e s')(h:de P cf A m c s (fun e s'=>(e = .ret∨e = .norm)∧Q s')):de P cf A m c s R:=vp h hQ
end
def jm:Nat:=1125899906842630
def lF (k:Nat)(h:AHeap)(x y:AV):Prop:=∀n,jm+k≤n→ck h n x=some y
def eN (k:Nat)(h:AHeap)(x y:List AV):Prop:=∀n,jm+k≤n→bH h n x=some y
def wW (h:AHeap)(x y:AV):Prop:=lF 1000 h x y
section
variable {h:AHeap}{α:Type}{E:cw α}{l:List α}{K:Mem}{q i:Nat}
theorem lF.mono {k k':Nat}{x y:AV}(hk:k≤k')(f:lF k h x y):lF k' h x y:=fun n hn=>f n (by omega)
theorem pC {k:Nat}{x y:AV}(f:lF k h x y)(hk:k≤1000:=by decide):wW h x y:=f.mono hk
theorem kY {n:Nat}(h:jm≤n):∃k,n=k+1∧jm≤k+1:=⟨n - 1,by simp only [jm] at h; omega,by omega⟩
theorem mE {x:AV}(h1:x.dN=true)(h2:∀n,ck h (n+1) x=if x.dN then some x.jO else none){y:AV}(h3:x.jO=y):lF 0 h x y:=fun n hn=>by
 obtain⟨k,rfl,_⟩:=kY (show jm≤n by omega)
 rw [h2,h1,h3]; rfl
theorem aO {k:IntKind}{n:Int}:lF 0 h (.int k n) (.int k n):=mE rfl (fun _=>rfl) rfl
theorem bY {s:ByteArray}:lF 0 h (.str s) (.str s):=mE rfl (fun _=>rfl) rfl
theorem db (hp:E.flat=true:=by rfl):lF 0 h (E.fz l) (E.fz l):=mE (cw.oH hp).1 (fun _=>rfl) (cw.oH hp).2
theorem gG:lF 0 h .nils (E.fz []):=mE rfl (fun _=>rfl) rfl
theorem E3 {cs:List AV}(h1:(cH cs=true))(h2:dq cs=E.l l){n:Nat}{b:Bool}(h3:n=l.length):lF 0 h (.fz cs n b) (E.fz l):=by
 refine mE (by simpa [AV.dN] using h1) (fun _=>rfl) ?_
 subst h3
 show AV.fz (dq cs) l.length false=_
 rw [h2]; rfl
theorem ng:∀{cs:List AV} {n:Nat},cH cs=true→(∀x∈cs,∀n,ck h (n+1) x=if x.dN then some x.jO else none)→cs.length+1<n→bH h n cs=some (dq cs)
 | [],n,_,_,hn=>by
  obtain⟨k,rfl⟩:∃k,n=k+1:=⟨n - 1,by omega⟩
  rfl
 | x::cs,n,h1,h2,hn=>by
  obtain⟨k,rfl⟩:∃k,n=k+1+1:=⟨n - 2,by simp at hn; omega⟩
  simp only [cH,Xt] at h1
  simp only [bH]
  rw [h2 x (by simp) k,h1.1]
  simp only [if_true,Xo]
  rw [ng h1.2 (fun y hy=>h2 y (by simp [hy])) (by simp at hn; omega)]
  rfl
def yE:AV→Bool
 | .agg _ | .tup _=>false
 | _=>true
theorem E4 {x:AV}(hf:yE x=true)(hn:x.dN=true)(n:Nat):ck h (n+1) x=if x.dN then some x.jO else none:=by
 cases x<;>first | rfl | (simp [AV.dN] at hn; done) | (simp [yE] at hf; done)
theorem H4 (o:Has h K)(hq:K[q]? = some (i,.sl l.length E.n (E.l l)))(hf:∀a:α,(E.f a).all yE=true)(hp:E.flat=true:=by rfl):lF 0 h (.rs i 0 l.length E.n) (E.fz l):=fun n hn=>by
 obtain⟨⟨⟨hlen,Af⟩,mV⟩,hlt⟩:=o.at_ _ _ _ hq
 obtain⟨k,rfl,hk⟩:=kY (show jm≤n by omega)
 simp only [ck]
 rcases mV with⟨h0,h1⟩| ⟨h0,rest,h1⟩
 ·have:l=[]:=by simpa using h1
  subst this
  simp [h0,cw.fz,cw.l]
 ·rw [if_neg h0,h1]
  simp only [Xo]
  have e1:((E.l l++rest).drop 0).take (l.length*E.n)=E.l l:=by
   rw [X3,XV (by rw [hlen]; exact Xs _),XY (by rw [hlen]; exact Xs _)]
  rw [if_pos (by rw [Xy,hlen]; omega),e1,ng (cw.pV hp).1 (fun x hx=>?_) (by simp only [jm] at hk; omega),(cw.pV hp).2]
  ·rfl
  ·have hnx:x.dN=true:=by
    have:∀(cs:List AV),cH cs=true→x∈cs→x.dN=true:=by
     intro cs
     induction cs with
     | nil=>intro _ h; cases h
     | cons y ys ih=>
      intro h hm
      simp only [cH,Xt] at h
      rcases X5.1 hm with rfl | hm
      ·exact h.1
      ·exact ih h.2 hm
    exact this _ (cw.pV hp).1 hx
   have Kn:yE x=true:=by
    unfold cw.l at hx
    rw [List.mem_flatMap] at hx
    obtain⟨a,_,ha⟩:=hx
    exact XQ.1 (hf a) x ha
   exact fun n=>E4 Kn hnx n
theorem s7 {n:Nat}(o:Has h K)(hq:K[q]? = some (i,.sl n E.n (E.l l)))(hf:∀a:α,(E.f a).all yE=true)(hp:E.flat=true:=by rfl):lF 0 h (.rs i 0 n E.n) (E.fz l):=by
 have hn:=di o hq
 subst hn
 exact H4 o hq hf hp
theorem aC:eN 0 h [] []:=fun n hn=>by
 obtain⟨k,rfl,_⟩:=kY (show jm≤n by omega)
 rfl
theorem ae {k1 k2:Nat}{x y:AV}{xs ys:List AV}(f:lF k1 h x y)(g:eN k2 h xs ys):eN (k1+k2+1) h (x::xs) (y::ys):=fun n hn=>by
 obtain⟨k,rfl⟩:∃k,n=k+1:=⟨n - 1,by omega⟩
 simp only [bH]
 rw [f k (by omega),g k (by omega)]
 rfl
theorem dy {k:Nat}{xs ys:List AV}(f:eN k h xs ys):lF (k+1) h (.agg xs) (.agg ys):=fun n hn=>by
 obtain⟨k,rfl⟩:∃k,n=k+1:=⟨n - 1,by omega⟩
 simp only [ck]
 rw [f k (by omega)]; rfl
theorem fU {k:Nat}{xs ys:List AV}(f:eN k h xs ys):lF (k+1) h (.tup xs) (.tup ys):=fun n hn=>by
 obtain⟨k,rfl⟩:∃k,n=k+1:=⟨n - 1,by omega⟩
 simp only [ck]
 rw [f k (by omega)]; rfl
end
def hH (k:IntKind)(x y:Int):Int:=k.wrap ((Yy k.bits x &&& Yy k.bits y).toNat:Int)
def iV (k:IntKind)(x y:Int):Int:=k.wrap ((Yy k.bits x ||| Yy k.bits y).toNat:Int)
def kZ (k:IntKind)(x y:Int):Int:=k.wrap ((Yy k.bits x ^^^ Yy k.bits y).toNat:Int)
def ga (k:IntKind)(x:Int)(n:Nat):Int:=x.fdiv (2 ^ (min n k.bits))
section
variable {P:Program}{t:TypeId}{b:Nat}{α:Type}{E:cw α}{h:AHeap}{K:Mem}{l r:List α}{i q:Nat}{j lo hi:Int}{k k':IntKind}
theorem l8 {s:ByteArray}{v:Int}(hu:P.underlying t=some .string)(h:bt s j=some v):pF P t (.str s) (.int k j)=some (.int .u8 v):=by
 unfold bt at h
 split at h
 ·rename_i h0
  rw [Xq] at h
  obtain⟨b,hb,rfl⟩:=h
  simp only [pF,hu,Xo,h0,if_true,hb,Xu]
 ·cases h
theorem oI (h:pD l lo hi=some r):(((E.l l).drop (lo.toNat*E.n)).take ((hi.toNat - lo.toNat)*E.n))=E.l r∧r.length=hi.toNat - lo.toNat:=by
 obtain⟨h0,h1,h2,rfl⟩:=lY h
 refine⟨by rw [cw.wS,cw.EV],?_⟩
 rw [YF,List.length_drop]
 omega
theorem H5 (T:wU P t E.n b=true)(h:pD l lo hi=some r):eZ P t (E.fz l) (some (.int k lo)) (some (.int k' hi)) none=some (E.fz r):=by
 obtain⟨e,inf,g1,g2,g3,g4,g5,g6⟩:=jj T
 obtain⟨h0,h1,h2,_⟩:=lY h
 obtain⟨h3,h4⟩:=oI (E:=E) h
 simp only [eZ,g1,Xo,g6,cw.fz,ir]
 rw [if_pos ⟨by omega,h2⟩]
 simp only [Xo]
 rw [if_pos ⟨h0,by omega⟩]
 simp only [Xo,Xu,Bool.false_and]
 rw [h3,←h4]
theorem BG (T:wU P t E.n b=true)(h:pD l 0 hi=some r):eZ P t (E.fz l) none (some (.int k' hi)) none=some (E.fz r):=by
 obtain⟨e,inf,g1,g2,g3,g4,g5,g6⟩:=jj T
 obtain⟨h0,h1,h2,_⟩:=lY h
 obtain⟨h3,h4⟩:=oI (E:=E) h
 simp only [eZ,g1,Xo,g6,cw.fz,ir]
 rw [if_pos ⟨by omega,h2⟩]
 simp only [Xo,Xu,Bool.false_and]
 simp only [Int.toNat_zero] at h3 h4
 rw [h3,←h4]
theorem wX (T:wU P t E.n b=true)(h:pD l lo (l.length:Int)=some r):eZ P t (E.fz l) (some (.int k lo)) none none=some (E.fz r):=by
 obtain⟨e,inf,g1,g2,g3,g4,g5,g6⟩:=jj T
 obtain⟨h0,h1,h2,_⟩:=lY h
 obtain⟨h3,h4⟩:=oI (E:=E) h
 simp only [eZ,g1,Xo,g6,cw.fz,ir]
 rw [if_pos ⟨h0,by omega⟩]
 simp only [Xo,Xu,Bool.false_and]
 simp only [Xv] at h3 h4
 rw [h3,←h4]
theorem E5 (o:Has h K)(hq:K[q]? = some (i,.sl l.length E.n (E.l l)))(T:wU P t E.n b=true)(hs:pD l 0 hi=some r) :
  eZ P t (.rs i 0 l.length E.n) none (some (.int k hi)) none=some (.rs i 0 r.length E.n)∧Has h (K.set q (i,.sl r.length E.n (E.l r))):=by
 obtain⟨e,inf,g1,g2,g3,g4,g5,g6⟩:=jj T
 obtain⟨h0,h1,h2,hr⟩:=lY hs
 obtain⟨h3,h4⟩:=oI (E:=E) hs
 simp only [Int.toNat_zero,Nat.sub_zero] at h4 hr
 have Ao:r=l.take hi.toNat:=by rw [hr]; simp
 refine⟨?_,?_⟩
 ·simp only [eZ,g1,Xo,g6,if_true,ir]
  rw [if_pos ⟨by omega,h2⟩]
  simp only [Xo,Xu,Nat.zero_mul,Nat.add_zero,Nat.sub_zero,h4]
 ·obtain⟨⟨⟨hlen,Af⟩,mV⟩,hlt⟩:=o.at_ _ _ _ hq
  refine o.Dk hq (fun _ _ _=>rfl) (Xs _) (.inl rfl) hlt ⟨⟨cw.cJ,?_⟩,?_⟩
  ·rw [cw.cJ]
   refine X6 (Yg _ ?_) (hlen ▸ Af)
   rw [h4]; omega
  ·rcases mV with⟨h5,h6⟩| ⟨h5,rest,h6⟩
   ·left; exact⟨h5,by rw [h4]; omega⟩
   ·right
    refine⟨h5,E.l (l.drop hi.toNat)++rest,?_⟩
    rw [h6,Ao,←XC,←cw.kC,List.take_append_drop]
theorem Ko {n:Nat}(o:Has h K)(hq:K[q]? = some (i,.sl n E.n (E.l l)))(T:wU P t E.n b=true)(hs:pD l 0 hi=some r) :
  eZ P t (.rs i 0 n E.n) none (some (.int k hi)) none=some (.rs i 0 r.length E.n)∧Has h (K.set q (i,.sl r.length E.n (E.l r))):=by
 have hn:=di o hq
 subst hn
 exact E5 o hq T hs
end
theorem aq {P:Program}{cf:CallF}{m:Nat}{aU:FuncId→cg}{f:FuncId}{fn:Func}{A:cg}(ha:aU f=A){args:List AV}{h:AHeap}{R:AV→AHeap→Prop}(hf:P.funcs[f]? = some fn)(hb:fn.body=some (codeOf fn))(hn:Nat.ble args.length fn.ntmps=true)
  (he:de P cf A m (codeOf fn) ⟨lN A.keep args,A.aF.map fun _=>none,h⟩ (fun e s=>(e = .ret∨e = .norm)∧∃r,aH P (s.open A) fn.results.toList=some r∧R r s.h)) :
  ∃r h',bc P aU cf m f args h=some (r,h')∧R r h':=by
 subst ha
 exact wR hf hb hn he
def E6 (a b:ByteArray):Bool:=Op.bytesLess a.data.toList b.data.toList||a.data.toList==b.data.toList
end Go.R
namespace Go.R
open Go
mutual
theorem wY {h:AHeap}:∀(n:Nat) (x y:AV),x.dN=true→ck h n x=some y→y=x.jO
 | 0,x,y,_,h=>by simp [ck] at h
 | n+1,x,y,hn,h=>by
  cases x with
  | agg cs=>
   simp only [ck,Xq] at h
   obtain⟨fm,hcs,rfl⟩:=h
   rw [iC n cs fm (by simpa [AV.dN] using hn) hcs]; rfl
  | tup cs=>
   simp only [ck,Xq] at h
   obtain⟨fm,hcs,rfl⟩:=h
   rw [iC n cs fm (by simpa [AV.dN] using hn) hcs]; rfl
  | ptr _ _=>simp [AV.dN] at hn
  | rs _ _ _ _=>simp [AV.dN] at hn
  | _=>simp only [ck,hn,if_true,Xr] at h; exact h.symm
theorem iC {h:AHeap}:∀(n:Nat) (xs ys:List AV),cH xs=true→bH h n xs=some ys→ys=dq xs
 | 0,xs,ys,_,h=>by simp [bH] at h
 | n+1,[],ys,_,h=>by simp only [bH,Xr] at h; exact h.symm
 | n+1,x::xs,ys,hn,h=>by
  simp only [cH,Xt] at hn
  simp only [bH,Xp,Xq] at h
  obtain⟨y,hy,zs,hz,rfl⟩:=h
  rw [wY n x y hn.1 hy,iC n xs zs hn.2 hz]; rfl
end
mutual
theorem vq {h:AHeap}:∀(n:Nat) (x y:AV),fC h n x=some y→ck h n x=some y
 | 0,x,y,h=>by simp [fC] at h
 | n+1,x,y,h=>by
  unfold fC at h
  split at h
  ·exact h
  ·exact h
  ·exact h
  ·exact h
  ·exact h
  ·exact h
  ·exact h
  ·exact h
  ·rename_i id off len iL
   simp only [ck]
   split at h
   ·rename_i h0; rw [if_pos h0]; exact h
   ·rename_i h0
    rw [if_neg h0]
    rw [Xp] at h ⊢
    obtain⟨ob,ho,h⟩:=h
    refine⟨ob,ho,?_⟩
    cases ob with
    | map es=>cases h
    | row t cs=>cases h
    | cells cs=>
     simp only at h ⊢
     split at h
     ·rename_i hle
      rw [if_pos hle]
      rw [Xq] at h ⊢
      obtain⟨fm,hcs,h2⟩:=h
      exact⟨fm,jY n _ _ hcs,h2⟩
     ·cases h
  ·simp only [ck]
   rw [Xq] at h ⊢
   obtain⟨fm,hcs,h2⟩:=h
   exact⟨fm,jY n _ _ hcs,h2⟩
  ·simp only [ck]
   rw [Xq] at h ⊢
   obtain⟨fm,hcs,h2⟩:=h
   exact⟨fm,jY n _ _ hcs,h2⟩
  ·cases h
theorem jY {h:AHeap}:∀(n:Nat) (xs ys:List AV),cX h n xs=some ys→bH h n xs=some ys
 | 0,xs,ys,h=>by simp [cX] at h
 | n+1,[],ys,h=>h
 | n+1,x::xs,ys,h=>by
  simp only [cX,bH,Xp,Xq] at h ⊢
  obtain⟨y,hy,zs,hz,h2⟩:=h
  exact⟨y,vq n x y hy,zs,jY n xs zs hz,h2⟩
end
def wZ (k:Nat)(h:AHeap)(x y:AV):Prop:=∀n,jm+k≤n→fC h n x=some y
def H6 (k:Nat)(h:AHeap)(x y:List AV):Prop:=∀n,jm+k≤n→cX h n x=some y
def fX (h:AHeap)(x y:AV):Prop:=wZ 1000 h x y
section
variable {h:AHeap}{α:Type}{E:cw α}{l:List α}{K:Mem}{q i:Nat}
theorem fX.pC {x y:AV}(f:fX h x y):wW h x y:=fun n hn=>vq _ _ _ (f n hn)
theorem b9 {k:Nat}{x y:AV}(f:wZ k h x y)(hk:k≤1000:=by decide):fX h x y:=fun n hn=>f n (by omega)
theorem w5 {x y:AV}(h2:∀n,fC h (n+1) x=some y):wZ 0 h x y:=fun n hn=>by
 obtain⟨k,rfl,_⟩:=kY (show jm≤n by omega)
 exact h2 k
theorem eG {k:IntKind}{n:Int}:wZ 0 h (.int k n) (.int k n):=w5 fun _=>rfl
theorem au {b:Bool}:wZ 0 h (.bool b) (.bool b):=w5 fun _=>rfl
theorem H7:wZ 0 h .nils (E.fz []):=w5 fun _=>rfl
def E7:AV→Bool
 | .int _ _ | .bool _ | .str _=>true
 | _=>false
theorem l9:∀{cs:List AV} {n:Nat},cs.all E7=true→cs.length+1<n→cX h n cs=some cs
 | [],n,_,hn=>by
  obtain⟨k,rfl⟩:∃k,n=k+1:=⟨n - 1,by omega⟩
  rfl
 | x::cs,n,h1,hn=>by
  obtain⟨k,rfl⟩:∃k,n=k+1+1:=⟨n - 2,by simp at hn; omega⟩
  simp only [Yj,Xt] at h1
  simp only [cX]
  have:fC h (k+1) x=some x:=by cases x<;>first | rfl | (simp [E7] at h1)
  rw [this,Xo,l9 h1.2 (by simp at hn; omega)]
  rfl
theorem vt {n:Nat}(o:Has h K)(hq:K[q]? = some (i,.sl n E.n (E.l l)))(hf:∀a:α,(E.f a).all E7=true):wZ 0 h (.rs i 0 n E.n) (E.fz l):=fun m hm=>by
 have hn:=di o hq
 subst hn
 obtain⟨⟨⟨hlen,Af⟩,mV⟩,hlt⟩:=o.at_ _ _ _ hq
 obtain⟨k,rfl,hk⟩:=kY (show jm≤m by omega)
 simp only [fC]
 rcases mV with⟨h0,h1⟩| ⟨h0,rest,h1⟩
 ·have:l=[]:=by simpa using h1
  subst this
  simp [h0,cw.fz,cw.l]
 ·rw [if_neg h0,h1]
  simp only [Xo]
  have e1:((E.l l++rest).drop 0).take (l.length*E.n)=E.l l:=by
   rw [X3,XV (by rw [hlen]; exact Xs _),XY (by rw [hlen]; exact Xs _)]
  rw [if_pos (by rw [Xy,hlen]; omega),e1,l9 ?_ (by simp only [jm] at hk; omega)]
  ·rfl
  ·rw [XQ]
   intro x hx
   unfold cw.l at hx
   rw [List.mem_flatMap] at hx
   obtain⟨a,_,ha⟩:=hx
   exact XQ.1 (hf a) x ha
theorem E8:H6 0 h [] []:=fun n hn=>by
 obtain⟨k,rfl,_⟩:=kY (show jm≤n by omega)
 rfl
theorem si {k1 k2:Nat}{x y:AV}{xs ys:List AV}(f:wZ k1 h x y)(g:H6 k2 h xs ys):H6 (k1+k2+1) h (x::xs) (y::ys):=fun n hn=>by
 obtain⟨k,rfl⟩:∃k,n=k+1:=⟨n - 1,by omega⟩
 simp only [cX]
 rw [f k (by omega),g k (by omega)]
 rfl
theorem E9 {k:Nat}{xs ys:List AV}(f:H6 k h xs ys):wZ (k+1) h (.tup xs) (.tup ys):=fun n hn=>by
 obtain⟨k,rfl⟩:∃k,n=k+1:=⟨n - 1,by omega⟩
 simp only [fC]
 rw [f k (by omega)]; rfl
def fi:Nat:=4503599627370496
theorem fG {k:Nat}{xs ys:List AV}(f:eN k h xs ys)(hk:k≤fi:=by decide):eN fi h xs ys:=fun n hn=>f n (by omega)
def vu (x y:AV):Prop:=x.dN=true∧x.jO=y
def lA (xs ys:List AV):Prop:=cH xs=true∧dq xs=ys
theorem bE {k:IntKind}{n:Int}:vu (.int k n) (.int k n):=⟨rfl,rfl⟩
theorem w6 {s:ByteArray}:vu (.str s) (.str s):=⟨rfl,rfl⟩
theorem iN (hp:E.flat=true:=by rfl):vu (E.fz l) (E.fz l):=cw.oH hp
theorem gM:lA [] []:=⟨rfl,rfl⟩
theorem cG {x y:AV}{xs ys:List AV}(a:vu x y)(b:lA xs ys):lA (x::xs) (y::ys):=⟨by simp [cH,a.1,b.1],by simp [dq,a.2,b.2]⟩
theorem nE {xs ys:List AV}(a:lA xs ys):vu (.agg xs) (.agg ys):=⟨by simpa [AV.dN] using a.1,by show AV.agg (dq xs)=_; rw [a.2]⟩
end
end Go.R
namespace Go.R
open Go
def Ji (k:IntKind)(x:Int):Int:=kZ k (if k.signed then -1 else k.max) x
def eO (l:List Int):ByteArray:=⟨(l.map fun n=>UInt8.ofNat n.toNat).toArray⟩
def eP (s:ByteArray):List Int:=s.data.toList.map fun b=>(b.toNat:Int)
section
variable {P:Program}{h:AHeap}{K:Mem}{i q:Nat}{cs fm:List AV}{x z:AV}{t:TypeId}{off:Nat}
theorem ki (o:Has h K)(nZ:cs.all AV.cE=true):∃i h',yz h cs=some (.ptr i 0,h')∧Has h' ((i,.ob cs)::K):=by
 refine⟨h.next,h.alloc (.cells cs),by unfold yz; rw [if_pos nZ],o.new (fun k hk=>by rw [AHeap.alloc,cq,if_neg (by omega)]) (YD _) (.inr (Xs _)) (Ya _) ⟨by have:=o.pos; omega,by rw [AHeap.alloc,cq,if_pos rfl]⟩⟩
theorem ca (o:Has h K)(hq:K[q]? = some (i,.ob cs))(hr:iQ P t cs off=some z):bl P h t (.ptr i off)=some z:=by
 obtain⟨⟨h1,h2⟩,_⟩:=o.at_ _ _ _ hq
 simp only [bl,jd,h2,Xo,hr]
theorem kD (o:Has h K)(hq:K[q]? = some (i,.ob cs))(hw:gB P t cs off x=some fm):∃h',iT P h t (.ptr i off) x=some h'∧Has h' (K.set q (i,.ob fm)):=by
 obtain⟨⟨h1,h2⟩,_⟩:=o.at_ _ _ _ hq
 exact⟨h.put i (.cells fm),by simp only [iT,h2,Xo,hw,Xu],iB o hq ⟨h1,by rw [cq,if_pos rfl]⟩⟩
theorem BH:∀(l:List Int),Hp (aw.l l)=some (l.map fun n=>UInt8.ofNat n.toNat)
 | []=>rfl
 | a::l=>by
  have:=BH l
  show (Hp (aw.l l)).map _=_
  rw [this]; rfl
theorem Aw {a b e:TypeId}{l:List Int}{h:AHeap}{x:AV}(ha:P.underlying a=some (.slice e))(hb:P.underlying b=some .string)(hu:CO P e=true)(hc:∃n,dF h 1 x=some (aw.l l,n)):gT P h a b x=some (.str (eO l)):=by
 obtain⟨n,hc⟩:=hc
 simp only [gT,ha,hb,hu,if_true,hc,Xo,BH,Xu,eO]
theorem Fa {l:List Int}(h:AHeap):∃n,dF h 1 (aw.fz l)=some (aw.l l,n):=by
 refine⟨l.length,?_⟩
 simp only [dF,cw.fz]
 rw [if_pos (by rw [cw.cJ]; rfl)]
end
theorem aP {x y:AV}(h:vu x y):az x=y:=by
 unfold az
 rw [h.1,h.2]; rfl
theorem bo:([]:List AV).map az=[]:=rfl
theorem an {x y:AV}{xs ys:List AV}(a:az x=y)(b:xs.map az=ys):(x::xs).map az=y::ys:=by
 rw [XK,a,b]
theorem Kp {α:Type}{K L:List α}{q:Nat}{p:α}(h:L[q]? = some p):(K++L)[K.length+q]? = some p:=by
 rw [XL (by omega),Yq,h]
def Dq (k:IntKind)(x y:Int):Option Int:=if y<0 then none else some (k.wrap (x*2 ^ (min y.toNat k.bits)))
theorem Fb {P:Program}{t:TypeId}{k k':IntKind}{x y v:Int}(h:Dq k x y=some v):lL P .shl t (.int k x) (.int k' y)=some (.int k v):=by
 unfold Dq at h
 split at h
 ·cases h
 ·rename_i hy
  cases h
  simp only [lL,AV.fu,Xo,Go.binOp,Op.shift,hy,if_false]
  rfl
theorem H8 {α:Type}{E:cw α}{h:AHeap}{K:Mem}{l:List α}{cs:List AV}(o:Has h K)(hc:cs=E.l l)(hl:l.length≤1024:=by simp) :
  ∃i h',some (AV.rs h.next 0 l.length E.n,h.alloc (.cells cs))=some (AV.rs i 0 l.length E.n,h')∧Has h' ((i,.sl l.length E.n (E.l l))::K):=by
 subst hc
 exact⟨h.next,_,rfl,o.new (fun k hk=>by rw [AHeap.alloc,cq,if_neg (by omega)]) (YD _) (.inr (Xs _)) (Ya _) ⟨⟨cw.cJ,cw.oE (by omega)⟩,.inr ⟨by have:=o.pos; omega,[],by rw [AHeap.alloc,cq,if_pos rfl]; simp⟩⟩⟩
end Go.R
