/- Part of the proof: RRow, RStep, RWalk, RG1, RG2, RG3, RG4, RT, RG5, RG6, RG7. -/
import Derived.Test.YtmekcfdllhphlaaDoorK3
import Derived.ProofKit
set_option linter.unusedVariables false
set_option linter.unusedSimpArgs false
set_option maxRecDepth 100000
open BitVec renaming ofInt → YB
open Bool renaming and_eq_true → Xw, false_eq_true → XJ, or_eq_true → Yf
open Int renaming toNat_natCast → Xy
open List renaming getElem?_eq_some_iff → XA, length_append → XB, length_set → XC, append_assoc → XF, drop_eq_getElem_cons → XG, mem_append → XH, replicate → XK, map_cons → XN, getElem?_append_right → XO, length_cons → XR, all_eq_true → XT, map_append → XW, take_append_of_le_length → XY, take_of_length_le → X1, nil_append → X2, getElem?_append_left → X4, drop_zero → X6, getElem?_cons_zero → X7, mem_cons → X8, eq_nil_of_length_eq_zero → Ya, ext_getElem? → Yh, length_nil → Yk, all_cons → Ym, append_nil → Yr, take_length → YA, getElem?_cons_succ → YD, length_take → YI, getElem?_set → YS, set_append_right → YW, length_replicate → YX
open Nat renaming le_refl → Xv, zero_add → XS, lt_of_lt_of_le → XX, le_trans → X9, beq → Yc, lt_succ_self → Yd, add_assoc → Ye, mul_le_mul_right → Yj, add_sub_cancel_left → Yt, lt_succ_of_lt → Yw, add_mul → YC, le_succ → YG, eq_of_beq_eq_true → YJ, mul_one → YZ, sub_self → Y0, min_eq_left → Y3
open Option renaming bind_some → Xr, bind_eq_some_iff → Xs, map_eq_some_iff → Xt, map_some → Xx, isSome_none → YV
open Option.some renaming injEq → Xu
open Prod.mk renaming injEq → Xz
namespace Go.R
open Go
def Av (P:Program)(F:TypeId→List AV→Prop):List Field→List AV→Prop
 | [],xs=>xs=[]
 | f::fs,xs=>∃a b,xs=a++b∧a.length=P.cellsOf f.type∧F f.type a∧Av P F fs b
def Fits (P:Program):Nat→TypeId→List AV→Prop
 | 0,_,_=>False
 | n+1,t,xs=>
  match P.underlying t with
  | some .bool=>∃b,xs=[.bool b]
  | some (.int k)=>∃z,xs=[.int k z]∧k.min≤z∧z≤k.max
  | some .string=>∃s:ByteArray,xs=[.str s]∧s.size≤maxLen
  | some (.slice e)=>xs=[.nils]∨∃els:List (List AV),xs=[.fz els.flatten els.length false]∧els.length≤maxLen∧∀el∈els,el.length=P.cellsOf e∧Fits P n e el
  | some (.struct fs)=>Av P (Fits P n) fs.toList xs
  | _=>False
def sf (P:Program):Nat→List Field→Bool
 | _,[]=>true
 | k,f::fs=>Yc f.offset k&&sf P (k+P.cellsOf f.type) fs
def lX (P:Program):Nat→TypeId→Bool
 | 0,_=>false
 | n+1,t=>
  match P.underlying t with
  | some .bool | some (.int _) | some .string=>true
  | some (.slice e)=>lX P n e
  | some (.struct fs)=>sf P 0 fs.toList&&Yc (P.cellsOf t) ((fs.toList.map fun f=>P.cellsOf f.type).sum)&&fs.toList.all fun f=>lX P n f.type
  | _=>false
theorem mapM_some {α β:Type}{f:α→Option β}:∀{l:List α} {ys:List β},l.mapM f=some ys→ys.length=l.length∧∀(i:Nat) (x:α),l[i]? = some x→∃y,ys[i]? = some y∧f x=some y
 | [],ys,h=>by
  simp at h; subst h
  exact⟨rfl,fun i x hx=>by simp at hx⟩
 | a::l,ys,h=>by
  simp only [List.mapM_cons,Option.bind_eq_bind,Xs,Option.pure_def,Xu] at h
  obtain⟨y,hy,zs,hz,rfl⟩:=h
  obtain⟨h1,h2⟩:=mapM_some hz
  refine⟨by simp [h1],fun i x hx=>?_⟩
  cases i with
  | zero=>simp at hx; subst hx; exact⟨y,rfl,hy⟩
  | succ i=>simpa using h2 i x (by simpa using hx)
theorem Aw {w:World}{a:Addr}{v:Value}(h:w.cell? a=some v):w.cell? ⟨a.block,a.off,none⟩=some v∧a.spot=none:=by
 unfold World.cell? at h ⊢
 split at h
 ·rename_i c t fr hb
  rw [hb]
  simp only at h ⊢
  cases hs:a.spot with
  | none=>rw [hs] at h; exact⟨by simpa using h,rfl⟩
  | some _=>rw [hs] at h; simp at h
 ·cases h
theorem mD (a:Addr)(n:Nat):(a.add n).block=a.block∧(a.add n).off=a.off+n:=by
 unfold Addr.add
 split
 ·rename_i h; subst h; exact⟨rfl,rfl⟩
 ·exact⟨rfl,rfl⟩
theorem yy {w:World}{base:Nat}{a:Addr}{n:Nat}{cs:List Value}(h:w.cells? base a n=some cs):cs.length=n∧∀i,i<n→w.cell? ⟨a.block,a.off+i,none⟩=cs[i]?∧(i=0→a.spot=none):=by
 unfold World.cells? at h
 split at h
 ·obtain⟨h1,h2⟩:=mapM_some h
  refine⟨by simpa using h1,fun i hi=>?_⟩
  obtain⟨y,hy,hc⟩:=h2 i i (by simp [hi])
  obtain⟨h3,h4⟩:=Aw hc
  rw [(mD a i).1,(mD a i).2] at h3
  refine⟨by rw [h3,hy],fun h0=>?_⟩
  subst h0
  simpa [Addr.add] using h4
 ·cases h
theorem q7 {α:Type}{Q:Nat→α→Prop}:∀n,(∀i,i<n→∃x,Q i x)→∃l:List α,l.length=n∧∀i x,l[i]? = some x→Q i x
 | 0,_=>⟨[],rfl,fun i x h=>by simp at h⟩
 | n+1,h=>by
  obtain⟨l,h1,h2⟩:=q7 n fun i hi=>h i (by omega)
  obtain⟨x,hx⟩:=h n (by omega)
  refine⟨l++[x],by simp [h1],fun i y hy=>?_⟩
  by_cases hi:i<n
  ·exact h2 i y (by rwa [X4 (by omega)] at hy)
  ·rw [XO (by omega)] at hy
   have:i=n:=by
    have:=(XA.1 hy).1
    simp at this; omega
   subst this
   simp [h1] at hy
   subst hy; exact hx
theorem Cells.append {c:Cx}{L:Nat→Prop}:∀{xs ys:List AV} {b o:Nat},Cells c L xs b o→Cells c L ys b (o+xs.length)→Cells c L (xs++ys) b o
 | [],ys,b,o,_,h=>by simpa using h
 | x::xs,ys,b,o,h,k=>⟨h.1,Cells.append h.2 (by simpa [Ye,Nat.add_comm 1] using k)⟩
theorem Cells.flatten {c:Cx}{L:Nat→Prop}{b size:Nat}:∀(els:List (List AV)) (o:Nat),(∀i el,els[i]? = some el→el.length=size∧Cells c L el b (o+i*size))→Cells c L els.flatten b o
 | [],o,_=>trivial
 | el::els,o,h=>by
  obtain⟨h1,h2⟩:=h 0 el rfl
  rw [List.flatten_cons]
  refine Cells.append (by simpa using h2) (Cells.flatten (size:=size) els _ fun i Vj he=>?_)
  obtain⟨h3,h4⟩:=h (i+1) Vj (by simpa using he)
  refine⟨h3,?_⟩
  rw [h1]
  rwa [show o+size+i*size=o+(i+1)*size by rw [YC,Nat.one_mul]; omega]
section
variable {H:Type}{enc:TypeId × Value→H}{P:Program}{c:Cx}{sp:Nat→Bool}{held:Bool}
theorem q8 {F:TypeId→List AV→Prop}{g:TypeId→List Value→Option (DataW H × List MemPlace)}(hg:∀t cs x,g t cs=some x→cs.length=P.cellsOf t→(∃u:Nat,u=0)→True) :
  ∀(fs:List Field) (k:Nat) (cs:List Value) (xs:List (DataW H × List MemPlace)),sf P k fs=true→(∀f∈fs,∀cs x,g f.type cs=some x→cs.length=P.cellsOf f.type→∃ys,VRs c none0 ys cs∧F f.type ys∧∀v∈cs,v.oneCell'=true)→
   (fs.mapM fun f=>g f.type ((cs.drop f.offset).take (P.cellsOf f.type)))=some xs→k+(fs.map fun f=>P.cellsOf f.type).sum≤cs.length→
   ∃ys,VRs c none0 ys ((cs.drop k).take ((fs.map fun f=>P.cellsOf f.type).sum))∧Av P F fs ys∧∀v∈(cs.drop k).take ((fs.map fun f=>P.cellsOf f.type).sum),v.oneCell'=true
 | [],k,cs,xs,_,_,_,_=>⟨[],by simp [VRs],rfl,by simp⟩
 | f::fs,k,cs,xs,hc,hF,h,hl=>by
  simp only [sf,Xw,beq_nat,decide_eq_true_eq] at hc
  obtain⟨rfl,hc⟩:=hc
  simp only [List.mapM_cons,Option.bind_eq_bind,Xs,Option.pure_def,Xu] at h
  obtain⟨y,hy,zs,hz,rfl⟩:=h
  simp only [XN,List.sum_cons] at hl ⊢
  have hlen:((cs.drop f.offset).take (P.cellsOf f.type)).length=P.cellsOf f.type:=by simp; omega
  obtain⟨a,ha,Vk,h1⟩:=hF f (by simp) _ _ hy hlen
  obtain⟨b,hb,Vl,h2⟩:=q8 hg fs (f.offset+P.cellsOf f.type) cs zs hc (fun f' MP=>hF f' (by simp [MP])) hz (by omega)
  have Kf:(cs.drop f.offset).take (P.cellsOf f.type+(fs.map fun f=>P.cellsOf f.type).sum)=(cs.drop f.offset).take (P.cellsOf f.type)++((cs.drop (f.offset+P.cellsOf f.type)).take ((fs.map fun f=>P.cellsOf f.type).sum)):=by
   rw [List.take_add,List.drop_drop]
  rw [Kf]
  refine⟨a++b,VRs.append ha hb,⟨a,b,rfl,?_,Vk,Vl⟩,fun v hv=>?_⟩
  ·rw [ha.length,hlen]
  ·rcases XH.1 hv with hv | hv
   ·exact h1 v hv
   ·exact h2 v hv
theorem pU (sJ:∀id,c.h.get id=none):∀(m:Nat) (t:TypeId) (fuel:Nat) (cs:List Value) (d:DataW H) (ps:List MemPlace),lX P m t=true→DataW.trod enc P c.w 0 sp held fuel t cs=some (d,ps)→
  ∃xs,VRs c none0 xs cs∧Fits P m t xs∧∀v∈cs,v.oneCell'=true
 | 0,_,_,_,_,_,hB,_=>by simp [lX] at hB
 | m+1,t,0,cs,d,ps,hB,h=>by simp [DataW.trod] at h
 | m+1,t,fuel+1,cs,d,ps,hB,h=>by
  have hnl:∀id,¬Live c.h id:=fun id hl=>by have:=hl.2; rw [sJ id] at this; cases this
  unfold lX at hB
  unfold Fits
  cases hu:P.underlying t with
  | none=>rw [hu] at hB; cases hB
  | some td=>
  rw [hu] at hB
  cases td<;>simp only at hB ⊢<;>try (cases hB; done)
  ·
   unfold DataW.trod at h
   rw [hu] at h
   split at h<;>first | (rename_i heq; cases heq; done) | skip
   all_goals try (rename_i heq _; cases heq; done)
   all_goals (first | (cases h; done) | skip)
   ·rename_i b _
    exact⟨[.bool b],⟨by simp [VR],trivial⟩,⟨b,rfl⟩,by simp [Value.oneCell']⟩
  ·rename_i k
   unfold DataW.trod at h
   rw [hu] at h
   split at h<;>first | (rename_i heq; cases heq; done) | skip
   all_goals try (rename_i heq _; cases heq; done)
   ·rename_i k' k2 n heq
    cases heq
    split at h
    ·rename_i hk
     obtain⟨rfl,OY⟩:=hk
     simp only [Lit.wf,Xw,decide_eq_true_eq] at OY
     exact⟨[.int k2 n],⟨by simp [VR],trivial⟩,⟨n,rfl,OY⟩,by simp [Value.oneCell']⟩
    ·cases h
   ·cases h
  ·
   unfold DataW.trod at h
   rw [hu] at h
   split at h<;>first | (rename_i heq; cases heq; done) | skip
   all_goals try (rename_i heq _; cases heq; done)
   ·rename_i s _
    split at h
    ·rename_i hs
     exact⟨[.str s],⟨by simp [VR],trivial⟩,⟨s,rfl,hs⟩,by simp [Value.oneCell']⟩
    ·cases h
   ·cases h
  ·
   rename_i e
   unfold DataW.trod at h
   rw [hu] at h
   split at h<;>first | (rename_i heq; cases heq; done) | skip
   all_goals try (rename_i heq _; cases heq; done)
   ·exact⟨[.nils],⟨by simp [VR],trivial⟩,.inl rfl,by simp [Value.oneCell']⟩
   ·rename_i e' a len cap heq
    cases heq
    simp only at h
    split at h
    rotate_left
    ·cases h
    rename_i hbound
    obtain⟨_,hlc,hcap⟩:=hbound
    rw [Xs] at h
    obtain⟨elems,M9,_⟩:=h
    obtain⟨hn,hget⟩:=mapM_some M9
    have key:∀i,i<len→∃el:List AV,el.length=P.cellsOf e∧Fits P m e el∧Cells c none0 el a.block (a.off+i*P.cellsOf e)∧(i=0→0<P.cellsOf e→a.spot=none):=by
     intro i hi
     obtain⟨y,_,hy⟩:=hget i i (by simp [hi])
     rw [Xs] at hy
     obtain⟨Vm,hcs,hy⟩:=hy
     obtain⟨hl,mY⟩:=yy hcs
     obtain⟨el,hv,hf,h1⟩:=pU sJ m e fuel Vm y.1 y.2 hB hy
     refine⟨el,by rw [hv.length,hl],hf,Cells.of_vals hv (fun j hj=>?_) h1,fun h0 jg=>?_⟩
     ·have:=(mY j (by omega)).1
      rwa [(mD a _).1,(mD a _).2] at this
     ·subst h0
      have:=(mY 0 jg).2 rfl
      simpa [Addr.add] using this
    obtain⟨els,hl,Dg⟩:=q7 len key
    refine⟨[.fz els.flatten els.length false],⟨?_,trivial⟩,.inr ⟨els,rfl,by omega,fun el M9=>?_⟩,by simp [Value.oneCell']⟩
    ·simp only [VR]
     refine⟨some a,cap,by rw [hl],by omega,by simp,.inl rfl,?_⟩
     by_cases Kg:els.flatten=[]
     ·exact .inl Kg
     ·have jg:0<len∧0<P.cellsOf e:=by
       cases els with
       | nil=>simp at Kg
       | cons el els=>
        refine⟨by simp at hl; omega,?_⟩
        rcases Nat.eq_zero_or_pos (P.cellsOf e) with h0 | h0
        ·exfalso
         apply Kg
         rw [List.flatten_eq_nil_iff]
         intro l u6
         obtain⟨i,hi⟩:=List.getElem?_of_mem u6
         have:=(Dg i l hi).1
         exact Ya (by omega)
        ·exact h0
      have Jf:a.spot=none:=by
       cases els with
       | nil=>simp at hl; omega
       | cons el els=>exact (Dg 0 el rfl).2.2.2 rfl jg.2
      refine .inr ⟨a.block,a.off,?_,⟨fun id hl=>absurd hl (hnl id),fun h=>h.elim⟩,by simp,Cells.flatten els a.off fun i el hi=>⟨(Dg i el hi).1,(Dg i el hi).2.2.1⟩⟩
      cases a; simp at Jf; subst Jf; rfl
    ·obtain⟨i,hi⟩:=List.getElem?_of_mem M9
     exact⟨(Dg i el hi).1,(Dg i el hi).2.1⟩
   ·cases h
  ·
   rename_i fs
   simp only [Xw,beq_nat,decide_eq_true_eq,XT] at hB
   obtain⟨⟨P6,Kh⟩,Na⟩:=hB
   simp only [DataW.trod,hu] at h
   split at h
   rotate_left
   ·cases h
   rename_i hlen
   rw [Xt] at h
   obtain⟨xs,hx,_⟩:=h
   obtain⟨ys,h1,h2,h3⟩:=q8 (P:=P) (c:=c) (F:=Fits P m) (g:=fun t cs=>DataW.trod enc P c.w 0 sp held fuel t cs) (fun _ _ _ _ _ _=>trivial) fs.toList 0 cs xs P6
    (fun f hf cs x hx _=>pU sJ m f.type fuel cs x.1 x.2 (Na f hf) hx) hx (by omega)
   have kA:(cs.drop 0).take ((fs.toList.map fun f=>P.cellsOf f.type).sum)=cs:=by
    rw [X6,←Kh,←hlen,YA]
   rw [kA] at h1 h3
   exact⟨ys,h1,h2,h3⟩
def oB (P:Program)(t:TypeId)(xs:List AV):AV:=
 match P.underlying t with
 | some (.struct _)=>.agg xs
 | _=>xs.headD .any
def oC (P:Program)(m:Nat):List TypeId→List AV→Prop
 | [],[]=>True
 | t::ts,x::uH=>(∃xs,x=oB P t xs∧Fits P m t xs)∧oC P m ts uH
 | _,_=>False
theorem Dh {w:World}{m:Nat}{t:TypeId}{v:Value}{base:Nat}(hB:lX P m t=true)(hs:∀fs,P.underlying t≠some (.struct fs))(h:Value.okWide P w .any base t v):v.cells.toList=[v]:=by
 cases m with
 | zero=>simp [lX] at hB
 | succ m=>
 unfold lX at hB
 unfold Value.okWide at h
 cases hu:P.underlying t with
 | none=>rw [hu] at hB; cases hB
 | some td=>
 rw [hu] at hB h
 cases td<;>simp only at hB h<;>first
  | (cases hB; done)
  | (exact absurd hu (hs _))
  | (cases v<;>simp only [Cell.okWide,Cell.ok,hu] at h<;>first | (exact h.elim) | rfl | (simp [Value.cells]))
theorem ES (sJ:∀id,c.h.get id=none){m:Nat}{t:TypeId}{v:Value}{d:DataW H}{ps:List MemPlace}{base:Nat}(hB:lX P m t=true)(ho:Value.okWide P c.w .any base t v)(h:DataW.Trod enc P c.w 0 sp held t v d ps) :
  ∃xs,Fits P m t xs∧VR c none0 (oB P t xs) v:=by
 obtain⟨fuel,h⟩:=h
 obtain⟨xs,h1,h2,_⟩:=pU sJ m t fuel _ d ps hB h
 refine⟨xs,h2,?_⟩
 by_cases hs:∃fs,P.underlying t=some (.struct fs)
 ·obtain⟨fs,hs⟩:=hs
  unfold Value.okWide at ho
  rw [hs] at ho
  obtain⟨cs,rfl,_⟩:=ho
  unfold oB
  rw [hs]
  simp only [VR]
  exact⟨cs,rfl,h1⟩
 ·have L4:∀fs,P.underlying t≠some (.struct fs):=fun fs h=>hs ⟨fs,h⟩
  have hc:=Dh hB L4 ho
  rw [hc] at h1
  have hx:oB P t xs=xs.headD .any:=by
   unfold oB
   split
   ·rename_i fs h; exact absurd h (L4 fs)
   ·rfl
  rw [hx]
  cases xs with
  | nil=>exact h1.elim
  | cons x xs=>exact h1.1
theorem yz (sJ:∀id,c.h.get id=none){m base:Nat}:∀(ts:List TypeId) (vs:List Value) (ds:List (DataW H)) (ps:List MemPlace),(∀t∈ts,lX P m t=true)→(∀(j:Nat) t v,ts[j]? = some t→vs[j]? = some v→Value.okWide P c.w .any base t v)→
  DataW.TrodAll enc P c.w 0 sp held ts vs ds ps→∃uH,oC P m ts uH∧VRs c none0 uH vs
 | [],[],[],_,_,_,_=>⟨[],trivial,trivial⟩
 | t::ts,v::vs,d::ds,ps,hB,ho,h=>by
  obtain⟨p,q,h1,h2,_⟩:=h
  obtain⟨xs,h3,h4⟩:=ES sJ (hB t (by simp)) (ho 0 t v rfl rfl) h1
  obtain⟨uH,h5,h6⟩:=yz sJ ts vs ds q (fun t ht=>hB t (by simp [ht])) (fun j t v hj hv=>ho (j+1) t v (by simpa using hj) (by simpa using hv)) h2
  exact⟨oB P t xs::uH,⟨⟨xs,rfl,h3⟩,h5⟩,h4,h6⟩
 | [],[],_::_,_,_,_,h=>h.elim
 | [],_::_,_,_,_,_,h=>by cases h
 | _::_,[],_,_,_,_,h=>by cases h
 | _::_,_::_,[],_,_,_,h=>by cases h
theorem kg (hl:laidOutB P=true){W W':World}{S3:Nat→Bool}:∀{ts:List TypeId} {vs:List Value} {ds:List (DataW H)} {ps:List MemPlace},(∀t∈ts,P.readableRec t=true∧t<P.types.size)→
  DataW.TrodAll enc P W 0 (fun _=>true) true ts vs ds ps→(∀p∈ps,W.sameAt W' p)→(∀p∈ps,S3 p.block=true)→DataW.TrodAll enc P W' 0 S3 true ts vs ds ps
 | [],[],[],_,_,h,_,_=>h
 | t::ts,v::vs,d::ds,ps,hr,h,hs,hp=>by
  obtain⟨p,q,h1,h2,rfl⟩:=h
  exact⟨p,q,WideElems.Trod_stays hl (hr t (by simp)).1 (hr t (by simp)).2 h1 (fun x hx=>hs x (by simp [hx])) (fun x hx=>hp x (by simp [hx])),
   kg hl (fun t ht=>hr t (by simp [ht])) h2 (fun x hx=>hs x (by simp [hx])) (fun x hx=>hp x (by simp [hx])),rfl⟩
 | [],[],_::_,_,_,h,_,_=>h.elim
 | [],_::_,_,_,_,h,_,_=>by cases h
 | _::_,[],_,_,_,h,_,_=>by cases h
 | _::_,_::_,[],_,_,h,_,_=>by cases h
theorem Di {f:Func}{s:ChangeSpec}{apart fresh handsOn again:Bool}{W W':World}{args:Array Value}{ds gs:List (DataW H)}{before:List MemPlace}{tb:TypeId}
  (hl:laidOutB P=true) (hr:∀t∈f.params.toList,P.readableRec t=true∧t<P.types.size) (hW:DataW.Whole enc P f.params.toList s.vars apart W args.toList ds gs before) (hv:s.vars=[])
  (ET:f.resultTypes = #[tb]) (OZ:P.underlying tb=some .bool) (Ki:(s.fn H (ds++gs))={results:=[.lit (.bool true)],args:=ds}) (hb:RowKit.Below W.heap.size W W') :
  s.post enc P f apart fresh handsOn again W args (.bool true) W':=by
 have hlt:=hW.lt
 have hW0:=hW
 obtain⟨p,q,hA,hV,S4,hz,hn⟩:=hW
 rw [hv] at hV
 have P7:gs=[]∧q=[]:=by
  cases gs with
  | nil=>exact⟨rfl,hV⟩
  | cons g gs=>exact hV.elim
 obtain⟨rfl,rfl⟩:=P7
 have P8:before=p:=by simpa using S4
 subst P8
 have Jg:∀x∈before,W.sameAt W' x:=fun x hx=>hb.same (hlt x hx)
 have Nb:(Value.bool true).resultList f.resultTypes.size=[.bool true]:=by rw [ET]; rfl
 have Jh:∀(b:Nat) (sp:Nat→Bool) (hd:Bool),DataW.TrodAll enc P W' b sp hd f.resultTypes.toList ((Value.bool true).resultList f.resultTypes.size) [.lit (.bool true)] []:=by
  intro b sp hd
  rw [Nb,ET]
  exact ChangeShapes.trodAll_mk1 (RowKit.shut_bool OZ true)
 refine⟨ds,[],before,[],before,[],hW0,?_,?_,?_,?_,fun _=>⟨?_,?_⟩⟩
 ·rw [Ki]; exact Jh _ _ _
 ·rw [Ki]
  exact kg hl hr hA Jg (fun x hx=>by simpa using hlt x hx)
 ·rw [Ki,hv]; rfl
 ·exact hb.frame _
 ·exact RowKit.ok_one ET rfl (RowKit.okWide_bool_mk OZ true)
 ·refine⟨_,[],before,⟨[]++before,[],ChangeShapes.trodAll_append (kg hl hr hA Jg (fun _ _=>rfl)) (Jh 0 _ _),by rw [hv]; rfl,by simp,fun b off hx=>?_,hn⟩,fun p hp _=>hp⟩
  rw [hb.frozen (p:=⟨b,off,none⟩) (hlt _ hx)]
  exact hz b off hx
theorem Ext.below {c c':Cx}(e:Ext c none0 c' none0):RowKit.Below c.base c.w c'.w:=⟨e.os,e.tape,e.output,e.size,fun b hb=>e.exact b hb⟩
theorem uI {cf:CallF}{Ao:FuncId}{f:Func}{s:ChangeSpec}{apart fresh handsOn again:Bool}{m:Nat}{tb:TypeId}
  (hl:laidOutB P=true) (hr:∀t∈f.params.toList,P.readableRec t=true∧t<P.types.size) (hB:∀t∈f.params.toList,lX P m t=true) (hv:s.vars=[]) (ET:f.resultTypes = #[tb]) (OZ:P.underlying tb=some .bool)
  (Ki:∀ds:List (DataW H),ds.length=f.params.size→(s.fn H ds)={results:=[.lit (.bool true)],args:=ds})
  (hcf:∀uH,oC P m f.params.toList uH→∃cf h',CallOK P cf∧cf Ao uH bL=some (.bool true,h'))
  {W:World} {base:Nat} {args:Array Value} {ds gs:List (DataW H)} {before:List MemPlace} (dv:∀(j:Nat) t v,f.params[j]? = some t→args[j]? = some v→Value.okWide P W .any base t v)
  (hW:DataW.Whole enc P f.params.toList s.vars apart W args.toList ds gs before) :
  Calls P Ao args W fun e W'=>∃v,e = .returned v∧s.post enc P f apart fresh handsOn again W args v W':=by
 have hW0:=hW
 obtain⟨p,q,hA,hV,S4,_,_⟩:=hW
 let c:Cx:=⟨fun _=>(0,0),bL,W,W.heap.size⟩
 obtain⟨uH,h1,h2⟩:=yz (c:=c) (P:=P) (m:=m) (base:=base) (fun _=>rfl) f.params.toList args.toList ds p hB (fun j t v hj hv=>dv j t v (by simpa using hj) (by simpa using hv)) hA
 obtain⟨cf,h',nZ,P9⟩:=hcf uH h1
 have hnl:∀id,¬Live c.h id:=fun id hl=>by have:=hl.2; cases this
 have hcall:=(nZ Ao uH bL _ _ P9).2 none0 c args.toList rfl (Xv _) ⟨fun id o ho=>(by cases ho),fun id o ho=>(by cases ho),fun id _ hl _ _=>absurd hl (hnl id),fun id hl=>absurd hl (hnl id),fun b hb=>hb.elim,fun id hl=>absurd hl (hnl id),fun _=>Nat.zero_lt_one⟩ h2
 rw [Array.toArray_toList] at hcall
 have hlen:∀(ts:List TypeId) (vs:List Value) (ds:List (DataW H)) (p:List MemPlace),DataW.TrodAll enc P W 0 (fun _=>true) true ts vs ds p→ds.length=ts.length:=by
  intro ts
  induction ts with
  | nil=>intro vs ds p h; cases vs<;>cases ds<;>first | rfl | (cases h; done) | exact h.elim
  | cons t ts ih=>intro vs ds p h; cases vs<;>cases ds<;>first | (cases h; done) | (obtain⟨_,_,_,h2,_⟩:=h; simp [ih _ _ _ h2])
 have P7:gs=[]:=by
  rw [hv] at hV
  cases gs with
  | nil=>rfl
  | cons g gs=>exact hV.elim
 refine hcall.mono ?_
 rintro e w' ⟨c',v,rfl,rfl,hh,Bw,hrel,JY⟩
 simp only [VR] at Bw
 subst Bw
 refine⟨_,rfl,Di hl hr hW0 hv ET OZ ?_ JY.below⟩
 rw [P7,Yr]
 exact Ki ds (by rw [hlen _ _ _ _ hA]; simp)
end
end Go.R
namespace Go.R
open Go
section
variable {P:Program}{cf:CallF}{aF ds:List Nat}{s:RS}{d:Option Tmp}{t:TypeId}{p:String}{a:Array Edge}{g:Option (Nat × Bool)}{ops:List Oper}{ρ:Nat→AV}{bx:Nat→Option (List AV)}{h:AHeap}
variable {A:cg}{m:Nat}{st:St}
end
end Go.R
namespace Go.R
open Go
def sub:List Nat→Code→Code
 | [],c=>c
 | 0::p,.seq a _=>sub p a
 | _::p,.seq _ b=>sub p b
 | 0::p,.cond _ a _=>sub p a
 | _::p,.cond _ _ b=>sub p b
 | _::p,.block _ a=>sub p a
 | _::p,.loop a=>sub p a
 | _,c=>c
def codeOf (f:Func):Code:=f.body.getD .skip
end Go.R
namespace Go.R
open Go
section
variable (P:Program)
def bl (h:AHeap)(t:TypeId)(x:AV):Option AV:=jd P (fun _=>none) h t x
def iT (h:AHeap)(t:TypeId)(a x:AV):Option AHeap:=
 match a with
 | .ptr id off=>(h.get id).bind fun | .cells cs=>(gA P t cs off x).map fun fm=>h.put id (.cells fm) | _=>none
 | _=>none
def Ji (cf:CallF)(f:AV)(as:List AV)(h:AHeap):Option (AV × AHeap):=
 match f with
 | .fn f cap=>if as.all AV.lq then cf f (as++cap) h else none
 | _=>none
def yA (h:AHeap)(cs:List AV):Option (AV × AHeap):=if cs.all AV.cE then some (.ptr h.next 0,h.alloc (.cells cs)) else none
def Dj (aF:List Nat)(d:Option Nat):Bool:=match d with | some d=>!aF.contains d | none=>false
def EU (aF:List Nat)(h:AHeap)(o:Oper)(t:TypeId)(x:Option AV):Option (AV × AHeap):=
 x.bind fun x=>(nv P aF o t x).map fun (cs,n,z)=>(.rs h.next 0 n z,h.alloc (.cells cs))
def Kj (e:Operand→AV)(h:AHeap)(o:Oper)(z:AV):Prop:=
 match o.op with
 | .move x | .assign x=>e x=z
 | .load t a=>bl P h t (e a)=some z
 | .binOp op t x y _=>lL P op t (e x) (e y)=some z
 | .unOp op _ x=>((e x).fu.bind fun a=>(iq P (Op.unary op a)).bind nV)=some z
 | .convert a b x=>gS P h a b (e x)=some z
 | .slice t x lo hi mx=>eZ P t (e x) (lo.map e) (hi.map e) (mx.map e)=some z
 | .indexAddr t x i=>ec P t (e x) (e i)=some z
 | .index t x i=>pG P t (e x) (e i)=some z
 | .lookup t m k ok=>fB P h t (e m) (e k) ok=some z
 | .call {callee:=.builtin .len,args,argTypes}=>match argTypes.toList,args.toList.map e with
  | [t],[x]=>su P h t x=some z
  | _,_=>False
 | _=>False
def Kk (cf:CallF)(aF:List Nat)(e:Operand→AV)(h:AHeap)(o:Oper)(z:AV)(h':AHeap):Prop:=
 match o.op with
 | .store t a x=>bif o.dst.isSome then False else iT P h t (e a) (e x)=some h'
 | .alloc t=>bif Dj aF o.dst then (jC P t).bind (fun z=>yA h (CT aF o.dst z.cells))=some (z,h') else False
 | .box _ x=>bif Dj aF o.dst then yA h (e x).cells=some (z,h') else False
 | .buildSlice t n ps=>EU P aF h o t (ga P t n (ps.toList.map fun (i,x)=>(i,e x)))=some (z,h')
 | .makeMap _ none=>(AV.mp h.next,h.alloc (.map []))=(z,h')
 | .makeSlice t l c=>gf P h t (e l) (e c)=some (z,h')
 | .mapUpdate t m k x | .insert t m k x=>bif o.dst.isSome then False else iv P h t (e m) (e k) (e x)=some h'
 | .call {callee:=.builtin .append,args,argTypes}=>match argTypes.toList,args.toList.map e with
  | [t,t2],[x,y]=>gB P h t t2 x y=some (z,h')
  | _,_=>False
 | .call {callee:=.builtin .copy,args,argTypes}=>match argTypes.toList,args.toList.map e with
  | [t,t2],[x,y]=>u3 P h t t2 x y=some (z,h')
  | _,_=>False
 | .call {callee:=.value f,args,..}=>Ji cf (e f) (args.toList.map e) h=some (z,h')
 | _=>False
end
abbrev Kl:=List (Nat × AV × Option AHeap)
def sX (P:Program)(cf:CallF)(aF:List Nat)(ops:List Oper):RS→Nat→List Oper→Kl→Option (List r8 × RS × Prop)
 | s,_,[],[]=>some ([],s,True)
 | _,_,[],_::_=>none
 | s,i,o::os,zs=>
  (gC ops s.ρ o).bind fun w=>
   bif w then
    match zs with
    | []=>(wi P cf aF (ops.filterMap (·.dst)) s o).bind fun s1=>(sX P cf aF ops s1 (i+1) os []).map fun (l,r,p)=>({o,f:=aZ aF (bN s.ρ) o,s,s':=s1}::l,r,p)
    | (j,z,oh)::vo=>
     bif Yc i j then
      match oh with
      | none=>(sX P cf aF ops (s.set o.dst z) (i+1) os vo).map fun (l,r,p)=>({o,f:=aZ aF (bN s.ρ) o,s,s':=s.set o.dst z}::l,r,Kj P (bN s.ρ) s.h o z∧p)
      | some h'=>(sX P cf aF ops (({s with h:=h'}:RS).set o.dst z) (i+1) os vo).map fun (l,r,p)=>({o,f:=aZ aF (bN s.ρ) o,s,s':=({s with h:=h'}:RS).set o.dst z}::l,r,Kk P cf aF (bN s.ρ) s.h o z h'∧p)
     else (wi P cf aF (ops.filterMap (·.dst)) s o).bind fun s1=>(sX P cf aF ops s1 (i+1) os zs).map fun (l,r,p)=>({o,f:=aZ aF (bN s.ρ) o,s,s':=s1}::l,r,p)
   else (sX P cf aF ops (s.set o.dst (.tup [])) (i+1) os zs).map fun (l,r,p)=>({o,f:={},s,s':=s.set o.dst (.tup [])}::l,r,p)
section
variable {P:Program}{cf:CallF}{aF:List Nat}
theorem EV {h:AHeap}{t:TypeId}{x z:AV}{bx:Nat→Option (List AV)}(hh:bl P h t x=some z):jd P bx h t x=some z:=by
 cases x<;>first | exact hh | (simp [bl,jd] at hh)
theorem H0 {s:RS}{o:Oper}{z:AV}(h:Kj P (bN s.ρ) s.h o z)(ds:List Nat):wi P cf aF ds s o=some (s.set o.dst z):=by
 unfold Kj at h
 unfold wi z6
 dsimp only
 split at h
 ·rename_i ho; rw [ho]; simp only [h]
 ·rename_i ho; rw [ho]; simp only [h]
 ·rename_i ho; rw [ho]; simp only [EV h,Xx]
 ·rename_i ho; rw [ho]; simp only [h,Xx]
 ·rename_i ho; rw [ho]; simp only [h,Xx]
 ·rename_i ho; rw [ho]; simp only [h,Xx]
 ·rename_i ho; rw [ho]; simp only [h,Xx]
 ·rename_i ho; rw [ho]; simp only [h,Xx]
 ·rename_i ho; rw [ho]; simp only [h,Xx]
 ·rename_i ho; rw [ho]; simp only [h,Xx]
 ·rename_i ho
  rw [ho]
  split at h
  ·rename_i h1 h2
   simp only [h1,h2,gg,h,Xx]
  ·exact h.elim
 ·exact h.elim
theorem yB {s:RS}{o:Oper}{cs:List AV}{z:AV}{h':AHeap}(hn:Dj aF o.dst=true)(h:yA s.h cs=some (z,h'))(ds:List Nat):hU s aF ds o cs=some (({s with h:=h'}:RS).set o.dst z):=by
 unfold yA at h
 split at h
 rotate_left
 ·cases h
 rename_i nZ
 simp only [Xu,Xz] at h
 obtain⟨rfl,rfl⟩:=h
 unfold hU
 rw [if_pos nZ]
 unfold Dj at hn
 split at hn
 ·rename_i d hd
  rw [hd]
  have:aF.contains d=false:=by simpa using hn
  simp only [this,XJ,if_false]
 ·cases hn
theorem H2 {s:RS}{o:Oper}{z:AV}{h':AHeap}(h:Kk P cf aF (bN s.ρ) s.h o z h')(ds:List Nat):wi P cf aF ds s o=some (({s with h:=h'}:RS).set o.dst z):=by
 unfold Kk at h
 unfold wi z6
 dsimp only
 split at h
 ·rename_i t a x ho
  rw [ho]
  cases hd:o.dst with
  | some d=>rw [hd] at h; exact h.elim
  | none=>
   rw [hd] at h
   simp only [YV,cond_false] at h
   simp only [YV,XJ,if_false]
   unfold iT at h
   split at h
   ·rename_i id off he
    rw [he]
    simp only [Xs] at h ⊢
    obtain⟨ob,hob,h⟩:=h
    refine⟨ob,hob,?_⟩
    split at h
    ·rw [Xt] at h ⊢
     obtain⟨fm,hcs,rfl⟩:=h
     exact⟨fm,hcs,rfl⟩
    ·cases h
   ·cases h
 ·rename_i t ho
  rw [ho]
  cases hn:Dj aF o.dst with
  | false=>rw [hn] at h; exact h.elim
  | true=>
   rw [hn] at h
   simp only [cond_true,Xs] at h
   obtain⟨z0,h1,h2⟩:=h
   simp only [h1,Xr]
   exact yB hn h2 ds
 ·rename_i t x ho
  rw [ho]
  cases hn:Dj aF o.dst with
  | false=>rw [hn] at h; exact h.elim
  | true=>
   rw [hn] at h
   exact yB hn h ds
 ·rename_i t n ps ho
  rw [ho]
  unfold EU at h
  simp only [Xs,Xt] at h
  obtain⟨x,hx,⟨cs,k,q⟩,ht,he⟩:=h
  simp only [Xz] at he
  obtain⟨rfl,rfl⟩:=he
  simp only [hx,Xx,pI,ht]
 ·rename_i ho
  rw [ho]
  simp only [Xz] at h
  obtain⟨rfl,rfl⟩:=h
  rfl
 ·rename_i ho; rw [ho]; simp only [h,Xx]
 ·rename_i t m k x ho
  rw [ho]
  cases hd:o.dst with
  | some d=>rw [hd] at h; exact h.elim
  | none=>
   rw [hd] at h
   simp only [YV,cond_false] at h
   simp only [YV,XJ,if_false,h,Xx]
   rfl
 ·rename_i t m k x ho
  rw [ho]
  cases hd:o.dst with
  | some d=>rw [hd] at h; exact h.elim
  | none=>
   rw [hd] at h
   simp only [YV,cond_false] at h
   simp only [YV,XJ,if_false,h,Xx]
   rfl
 ·rename_i ho
  rw [ho]
  split at h
  ·rename_i h1 h2
   simp only [h1,h2,gg,h,Xx]
  ·exact h.elim
 ·rename_i ho
  rw [ho]
  split at h
  ·rename_i h1 h2
   simp only [h1,h2,gg,h,Xx]
  ·exact h.elim
 ·rename_i f args BC ho
  rw [ho]
  unfold Ji at h
  split at h
  ·rename_i g cap he
   dsimp only
   rw [he]
   split at h
   ·rename_i nZ
    simp only [nZ,if_true,h,Xx]
   ·cases h
  ·cases h
 ·exact h.elim
theorem BJ {ops:List Oper}:∀{l:List Oper} {s r:RS} {i:Nat} {zs:Kl} {es:List r8} {p:Prop},sX P cf aF ops s i l zs=some (es,r,p)→p→pL P cf aF ops s l=some (es,r)∧rr P cf aF ops s l=some r
 | [],s,r,i,[],es,p,h,_=>by
  simp only [sX,Xu,Xz] at h
  obtain⟨rfl,rfl,rfl⟩:=h
  exact⟨rfl,rfl⟩
 | [],s,r,i,_::_,es,p,h,_=>by simp [sX] at h
 | o::os,s,r,i,zs,es,p,h,hp=>by
  simp only [sX,Xs] at h
  obtain⟨w,hw,h⟩:=h
  have fin:∀(s1:RS) (l:List r8) (vo:Kl) (q:Prop),(if w then wi P cf aF (ops.filterMap (·.dst)) s o else some (s.set o.dst (.tup [])))=some s1→sX P cf aF ops s1 (i+1) os vo=some (l,r,q)→q→
    pL P cf aF ops s (o::os)=some ({o,f:=if w then aZ aF (bN s.ρ) o else {},s,s':=s1}::l,r)∧rr P cf aF ops s (o::os)=some r:=by
   intro s1 l vo q h1 h2 hq
   obtain⟨h3,h4⟩:=BJ h2 hq
   refine⟨?_,?_⟩
   ·simp only [pL,hw,Xr,h1,h3,Xx]
   ·simp only [rr,lM,hw,Xr,h1,h4]
  cases w with
  | false=>
   simp only [cond_false,Xt] at h
   obtain⟨⟨l,r',q⟩,h2,he⟩:=h
   simp only [Xz] at he
   obtain⟨rfl,rfl,rfl⟩:=he
   simpa using fin _ l zs q (by simp) h2 hp
  | true=>
   simp only [cond_true] at h
   split at h
   ·simp only [Xs,Xt] at h
    obtain⟨s1,h1,⟨l,r',q⟩,h2,he⟩:=h
    simp only [Xz] at he
    obtain⟨rfl,rfl,rfl⟩:=he
    simpa using fin _ l [] q (by simpa using h1) h2 hp
   ·rename_i j z oh vo
    cases hj:Yc i j with
    | false=>
     rw [hj] at h
     simp only [cond_false,Xs,Xt] at h
     obtain⟨s1,h1,⟨l,r',q⟩,h2,he⟩:=h
     simp only [Xz] at he
     obtain⟨rfl,rfl,rfl⟩:=he
     simpa using fin _ l _ q (by simpa using h1) h2 hp
    | true=>
     rw [hj] at h
     simp only [cond_true] at h
     split at h
     ·simp only [Xt] at h
      obtain⟨⟨l,r',q⟩,h2,he⟩:=h
      simp only [Xz] at he
      obtain⟨rfl,rfl,rfl⟩:=he
      simpa using fin _ l _ q (by simpa using H0 hp.1 _) h2 hp.2
     ·simp only [Xt] at h
      obtain⟨⟨l,r',q⟩,h2,he⟩:=h
      simp only [Xz] at he
      obtain⟨rfl,rfl,rfl⟩:=he
      simpa using fin _ l _ q (by simpa using H2 hp.1 _) h2 hp.2
end
def sY (s:RS):List (Nat × Option Nat × Nat)→List (AV × AHeap)→Option (RS × Prop)
 | [],_=>some (s,True)
 | (t,i,k)::ps,zs=>
  match i with
  | none=>
   match k,s.ρ t,zs with
   | 0,.rs id off n z,(y,h')::vo=>(sY {s with h:=h',ρ:=fun u=>bif Yc u t then y else s.ρ u} ps vo).map fun (r,p)=>(r,km 0 s.h (.rs id off n z)=some (y,h')∧p)
   | k,x,zs=>(km k s.h x).bind fun (y,h')=>sY {s with h:=h',ρ:=fun u=>bif Yc u t then y else s.ρ u} ps zs
  | some i=>
   match s.bx t with
   | some cs=>(cs[i]?).bind fun x=>
    match k,x,zs with
    | 0,.rs id off n z,(y,h')::vo=>(sY {s with h:=h',bx:=fun u=>bif Yc u t then some (cs.set i y) else s.bx u} ps vo).map fun (r,p)=>(r,km 0 s.h (.rs id off n z)=some (y,h')∧p)
    | k,x,zs=>(km k s.h x).bind fun (y,h')=>sY {s with h:=h',bx:=fun u=>bif Yc u t then some (cs.set i y) else s.bx u} ps zs
   | none=>none
theorem wR:∀{ps:List (Nat × Option Nat × Nat)} {s r:RS} {zs:List (AV × AHeap)} {p:Prop},sY s ps zs=some (r,p)→p→kR s ps=some r
 | [],s,r,zs,p,h,_=>by
  simp only [sY,Xu,Xz] at h
  obtain⟨rfl,rfl⟩:=h
  rfl
 | (t,i,k)::ps,s,r,zs,p,h,hp=>by
  cases i with
  | none=>
   have fin:∀(y:AV) (h':AHeap) (vo:List (AV × AHeap)) (q:Prop),km k s.h (s.ρ t)=some (y,h')→sY {s with h:=h',ρ:=fun u=>bif Yc u t then y else s.ρ u} ps vo=some (r,q)→q→kR s ((t,none,k)::ps)=some r:=by
    intro y h' vo q h1 h2 hq
    simp only [kR,wq,h1,Xx,Xr]
    exact wR h2 hq
   simp only [sY] at h
   split at h
   ·rename_i id off n z y h' vo hx
    rw [Xt] at h
    obtain⟨⟨r',q⟩,h2,he⟩:=h
    simp only [Xz] at he
    obtain⟨rfl,rfl⟩:=he
    exact fin y h' vo q (by rw [hx]; exact hp.1) h2 hp.2
   ·rw [Xs] at h
    obtain⟨⟨y,h'⟩,h1,h2⟩:=h
    exact fin y h' _ p h1 h2 hp
  | some i=>
   simp only [sY] at h
   split at h
   rotate_left
   ·cases h
   rename_i cs hcs
   rw [Xs] at h
   obtain⟨x,hx,h⟩:=h
   have fin:∀(y:AV) (h':AHeap) (vo:List (AV × AHeap)) (q:Prop),km k s.h x=some (y,h')→sY {s with h:=h',bx:=fun u=>bif Yc u t then some (cs.set i y) else s.bx u} ps vo=some (r,q)→q→kR s ((t,some i,k)::ps)=some r:=by
    intro y h' vo q h1 h2 hq
    simp only [kR,wq,hcs,hx,Xr,h1,Xx]
    exact wR h2 hq
   split at h
   ·rename_i id off n z y h' vo
    rw [Xt] at h
    obtain⟨⟨r',q⟩,h2,he⟩:=h
    simp only [Xz] at he
    obtain⟨rfl,rfl⟩:=he
    exact fin y h' vo q hp.1 h2 hp.2
   ·rw [Xs] at h
    obtain⟨⟨y,h'⟩,h1,h2⟩:=h
    exact fin y h' _ p h1 h2 hp
def r8.sh (x y:r8):Bool:=
 (match x.f.wb with
  | some k=>!y.f.rb.contains k&&y.f.wb != some k
  | none=>true) &&
 (!x.f.wh||(!y.f.wh&&y.f.rh.isEmpty))
def EW (ops:List Oper)(arr:Array Oper)(s:RS)(es:List r8):Bool:=
 let ms:=jD [] ops
 pK arr ms &&
  (let is:=es.zipIdx
   let El:=is.filter fun (x,_)=>!x.f.quiet
   El.all (fun (x,i)=>wk ms (ops.filterMap (·.dst)) s is x i&&El.all fun (y,j)=>Nat.ble j i||(ms.getD j 0).testBit i||(x.sh y&&y.sh x)))
theorem sZ {x y:r8}(h:x.sh y=true):x.pJ y=true:=by
 unfold r8.sh at h
 unfold r8.pJ
 simp only [Xw,Yf] at h ⊢
 refine⟨h.1,h.2.imp id fun ⟨h1,h2⟩=>⟨h1,?_⟩⟩
 rw [List.isEmpty_iff] at h2
 rw [h2]; rfl
theorem H3 {P:Program}{cf:CallF}{aF:List Nat}{ops:Array Oper}{s r:RS}{es:List r8}(h:EW ops.toList ops s es=true)(hr:pL P cf aF ops.toList s ops.toList=some (es,r)):kQ P cf aF ops s=some r:=by
 unfold EW at h
 simp only [Xw] at h
 obtain⟨h1,h2⟩:=h
 unfold kQ
 simp only [h1,if_true,hr,Xr]
 rw [if_pos]
 rw [XT] at h2 ⊢
 intro x hx
 have:=h2 x hx
 simp only [Xw] at this ⊢
 refine⟨this.1,?_⟩
 have h3:=this.2
 rw [XT] at h3 ⊢
 intro y hy
 have:=h3 y hy
 simp only [Yf,Xw] at this ⊢
 exact this.imp id fun h=>⟨sZ h.1,sZ h.2⟩
def nf (P:Program)(cf:CallF)(A:cg)(c:Code)(fs:List (AV × AHeap))(zs:Kl)(st:St):Option (Prop × St):=
 match c with
 | .region id ops draw=>(sY (st.open A) (gh id A.pD) fs).bind fun (s0,p0)=>(sX P cf A.aF ops.toList s0 0 ops.toList zs).bind fun (es,r,p)=>
   bif draw && !(EW ops.toList ops s0 es) then none else (kR r (gh id A.CU)).map fun r2=>(p0∧p,r2.mU A id)
 | _=>none
theorem EX {P:Program}{cf:CallF}{A:cg}{m:Nat}{c:Code}{fs:List (AV × AHeap)}{zs:Kl}{st jv:St}{p:Prop}(h:nf P cf A c fs zs st=some (p,jv))(hp:p):bG P cf A m c st=some (.norm,jv):=by
 unfold nf at h
 split at h
 rotate_left
 ·cases h
 rename_i id ops draw
 simp only [Xs] at h
 obtain⟨⟨s0,p0⟩,h0,⟨es,r,q⟩,h1,h⟩:=h
 have hd:∃r2,(draw=true→EW ops.toList ops s0 es=true)∧kR r (gh id A.CU)=some r2∧p=(p0∧q)∧jv=r2.mU A id:=by
  cases hc:(draw && !(EW ops.toList ops s0 es)) with
  | true=>simp only [hc,cond_true] at h; cases h
  | false=>
   simp only [hc,cond_false,Xt,Xz] at h
   obtain⟨r2,h2,h3,h4⟩:=h
   refine⟨r2,fun C9=>?_,h2,h3.symm,h4.symm⟩
   simpa [C9] using hc
 obtain⟨r2,C9,h2,rfl,rfl⟩:=hd
 obtain⟨g1,g2⟩:=BJ h1 hp.2
 have g0:=wR h0 hp.1
 simp only [bG,g0,Xr]
 cases draw with
 | false=>simp only [XJ,if_false,g2,Xr,h2,Xx]
 | true=>simp only [if_true,H3 (C9 rfl) g1,Xr,h2,Xx]
end Go.R
namespace Go.R
open Go
def de (P:Program)(cf:CallF)(A:cg)(m:Nat)(c:Code)(s:St)(Q:Ex→St→Prop):Prop:=∃e s',bG P cf A m c s=some (e,s')∧Q e s'
def Km (R:St→Prop)(Q:Ex→St→Prop):Ex→St→Prop
 | .norm,s=>R s
 | .exit i,s=>Q (.exit i) s
 | .ret,s=>Q .ret s
def Qa (id:Nat)(Q:Ex→St→Prop):Ex→St→Prop
 | .norm,s=>Q .norm s
 | .exit i,s=>bif Yc i id then Q .norm s else Q (.exit i) s
 | .ret,s=>Q .ret s
section
variable {P:Program}{cf:CallF}{A:cg}{m:Nat}{s:St}{Q:Ex→St→Prop}
theorem oD {a b:Code}(h:de P cf A m a s (Km (fun s'=>de P cf A m b s' Q) Q)):de P cf A m (.seq a b) s Q:=by
 obtain⟨e,s',h1,h2⟩:=h
 cases e with
 | norm=>
  obtain⟨e2,s2,h3,h4⟩:=h2
  exact⟨e2,s2,by simp only [bG,h1,Xr,h3],h4⟩
 | exit i=>exact⟨_,s',by simp only [bG,h1,Xr],h2⟩
 | ret=>exact⟨_,s',by simp only [bG,h1,Xr],h2⟩
theorem Ax {id:Nat}{a:Code}(h:de P cf A m a s (Qa id Q)):de P cf A m (.block id a) s Q:=by
 obtain⟨e,s',h1,h2⟩:=h
 cases e with
 | norm=>exact⟨_,s',by simp only [bG,h1,Xx],h2⟩
 | exit i=>
  simp only [Qa,beq_nat] at h2
  by_cases hi:i=id
  ·simp only [hi,decide_true,cond_true] at h2
   exact⟨_,s',by simp only [bG,h1,Xx,hi,if_true],h2⟩
  ·simp only [hi,decide_false,cond_false] at h2
   exact⟨_,s',by simp only [bG,h1,Xx,hi,if_false],h2⟩
 | ret=>exact⟨_,s',by simp only [bG,h1,Xx],h2⟩
theorem s4 {c:Code}{fs:List (AV × AHeap)}{zs:Kl}{jv:St}{p:Prop}(h:nf P cf A c fs zs s=some (p,jv))(hp:p)(hQ:Q .norm jv):de P cf A m c s Q:=
 ⟨_,_,EX h hp,hQ⟩
theorem Dk (h:Q .norm s):de P cf A m .skip s Q:=⟨_,_,rfl,h⟩
theorem yC (h:Q .ret s):de P cf A m .ret s Q:=⟨_,_,rfl,h⟩
theorem Dl {i:Nat}(h:Q (.exit i) s):de P cf A m (.exit i) s Q:=⟨_,_,rfl,h⟩
theorem pV {k:Operand}{x y:Code}(b:Bool)(hk:bN (s.open A).ρ k = .bool b)(ht:b=true→de P cf A m x s Q)(hf:b=false→de P cf A m y s Q):de P cf A m (.cond k x y) s Q:=by
 cases b with
 | true=>
  obtain⟨e,s',h1,h2⟩:=ht rfl
  exact⟨e,s',by simp only [bG,hk,sy,Xr,if_true,h1],h2⟩
 | false=>
  obtain⟨e,s',h1,h2⟩:=hf rfl
  exact⟨e,s',by simp only [bG,hk,sy,Xr,XJ,if_false,h1],h2⟩
theorem Ay {c c':Code}(h:c=c')(k:de P cf A m c' s Q):de P cf A m c s Q:=h ▸ k
def EY {S O:Type}(l:Nat→S→Option O)(Rel:S→St→Prop)(QO:O→Ex→St→Prop)(k:Nat)(out:O):Ex→St→Prop
 | .norm,s=>∃σ,Rel σ s∧l k σ=some out
 | .exit i,s=>QO out (.exit i) s
 | .ret,s=>QO out .ret s
theorem s5 {S O:Type}{l:Nat→S→Option O}{Rel:S→St→Prop}{QO:O→Ex→St→Prop}{body:Code}(h0:∀σ,l 0 σ=none)
  (step:∀k σ s out,Rel σ s→l (k+1) σ=some out→de P cf A m body s (EY l Rel QO k out)):∀(n:Nat) (σ:S) (s:St) (out:O),Rel σ s→l n σ=some out→∃e s',kn (bG P cf A m body) n s=some (e,s')∧e≠.norm∧QO out e s'
 | 0,σ,s,out,_,h=>by rw [h0] at h; cases h
 | n+1,σ,s,out,hr,h=>by
  obtain⟨e,s',h1,h2⟩:=step n σ s out hr h
  cases e with
  | norm=>
   obtain⟨σ',h3,h4⟩:=h2
   obtain⟨e',Vn,h5,h6⟩:=s5 h0 step n σ' s' out h3 h4
   exact⟨e',Vn,by simp only [kn,h1,Xr,h5],h6⟩
  | exit i=>exact⟨_,s',by simp only [kn,h1,Xr],by simp,h2⟩
  | ret=>exact⟨_,s',by simp only [kn,h1,Xr],by simp,h2⟩
theorem Dm {S O:Type}(l:Nat→S→Option O)(Rel:S→St→Prop)(QO:O→Ex→St→Prop){body:Code}(h0:∀σ,l 0 σ=none)
  (step:∀k σ s out,Rel σ s→l (k+1) σ=some out→de P cf A m body s (EY l Rel QO k out)) {σ:S} {out:O} (hr:Rel σ s) (h:l m σ=some out) (hQ:∀e s',e≠.norm→QO out e s'→Q e s'):de P cf A m (.loop body) s Q:=by
 obtain⟨e,s',h1,h2,h3⟩:=s5 h0 step m σ s out hr h
 exact⟨e,s',by simp only [bG,h1],hQ e s' h2 h3⟩
theorem wS {aU:FuncId→cg}{f:FuncId}{fn:Func}{args:List AV}{h:AHeap}{R:AV→AHeap→Prop}(hf:P.funcs[f]? = some fn)(hb:fn.body=some (codeOf fn))(hn:Nat.ble args.length fn.ntmps=true)
  (he:de P cf (aU f) m (codeOf fn) ⟨lN (aU f).keep args,(aU f).aF.map fun _=>none,h⟩ (fun e s=>(e = .ret∨e = .norm)∧∃r,aH P (s.open (aU f)) fn.results.toList=some r∧R r s.h)) :
  ∃r h',bc P aU cf m f args h=some (r,h')∧R r h':=by
 obtain⟨e,s,h1,h2,r,h3,h4⟩:=he
 refine⟨r,s.h,?_,h4⟩
 unfold bc
 rw [hf,Xr,hb,Xr,if_pos (Nat.le_of_ble_eq_true hn),h1,Xr]
 rcases h2 with rfl | rfl<;>simp only [h3,Xx]
end
end Go.R
namespace Go.R
open Go
structure cw (α:Type) where
 n:Nat
 f:α→List AV
 len:∀a,(f a).length=n
 pos:n≠0
 small:n≤1024:=by decide
 flat:Bool:=true
 pure:∀a,flat=true→cH (f a)=true∧dq (f a)=f a
 canon:∀a,(f a).map nu=f a
section
variable {α:Type}(E:cw α)
def cw.l (l:List α):List AV:=l.flatMap E.f
def cw.fz (l:List α):AV:=.fz (E.l l) l.length false
variable {E}
theorem cw.dO {a:α}{l:List α}:E.l (a::l)=E.f a++E.l l:=rfl
theorem cw.Jj:E.l []=[]:=rfl
theorem cw.kC {a b:List α}:E.l (a++b)=E.l a++E.l b:=by simp [cw.l]
theorem cw.cJ:∀{l:List α},(E.l l).length=l.length*E.n
 | []=>by simp [cw.l]
 | a::l=>by rw [cw.dO,XB,E.len,cw.cJ,XR,YC,Nat.one_mul,Nat.add_comm]
theorem cw.oE {l:List α}(h:l.length≤1099511627776):(E.l l).length≤1125899906842624:=by
 rw [cw.cJ]
 exact X9 (Nat.mul_le_mul h E.small) (by decide)
theorem cw.wT:∀{l:List α} {i:Nat},(E.l l).drop (i*E.n)=E.l (l.drop i)
 | l,0=>by simp
 | [],i+1=>by simp [cw.l]
 | a::l,i+1=>by
  rw [List.drop_succ_cons,←cw.wT,cw.dO,YC,Nat.one_mul,List.drop_append,List.drop_of_length_le (by rw [E.len]; omega),X2,E.len,Nat.add_sub_cancel]
theorem cw.EZ:∀{l:List α} {i:Nat},(E.l l).take (i*E.n)=E.l (l.take i)
 | l,0=>by simp [cw.l]
 | [],i+1=>by simp [cw.l]
 | a::l,i+1=>by
  rw [cw.dO,List.take_succ_cons,cw.dO,YC,Nat.one_mul,Nat.add_comm,List.take_append]
  rw [E.len,X1 (by rw [E.len]; omega),Yt,cw.EZ]
theorem cw.Jk {l:List α}{i:Nat}{a:α}(h:l[i]? = some a){off:Nat}(ho:off<E.n):(E.l l)[i*E.n+off]? = (E.f a)[off]?:=by
 rw [←List.getElem?_drop,cw.wT,XG (XA.1 h).1,(XA.1 h).2,cw.dO,X4 (by rw [E.len]; exact ho)]
theorem cw.E0 {l:List α}{i:Nat}{a:α}(h:l[i]? = some a):((E.l l).drop (i*E.n)).take E.n=E.f a:=by
 rw [cw.wT,XG (XA.1 h).1,(XA.1 h).2,cw.dO,XY (by rw [E.len]; exact Xv _)]
 rw [X1 (by rw [E.len]; exact Xv _)]
theorem cw.Az {l:List α}{i:Nat}{a:α}(h:l[i]? = some a):i*E.n+E.n≤(E.l l).length:=by
 rw [cw.cJ]
 have:=(XA.1 h).1
 calc i*E.n+E.n=(i+1)*E.n:=by rw [YC,Nat.one_mul]
  _≤_:=Yj _ this
theorem oF:∀{a b:List AV},cH (a++b)=(cH a&&cH b)
 | [],b=>by simp [cH]
 | x::a,b=>by simp [cH,oF,Bool.and_assoc]
theorem oG:∀{a b:List AV},dq (a++b)=dq a++dq b
 | [],b=>rfl
 | x::a,b=>by simp [dq,oG]
theorem cw.pW (hp:E.flat=true):∀{l:List α},cH (E.l l)=true∧dq (E.l l)=E.l l
 | []=>⟨rfl,rfl⟩
 | a::l=>by
  obtain⟨h1,h2⟩:=E.pure a hp
  obtain⟨h3,h4⟩:=cw.pW hp (l:=l)
  rw [cw.dO,oF,oG,h1,h2,h3,h4]
  exact⟨rfl,rfl⟩
theorem cw.wU:∀{l:List α},(E.l l).map nu=E.l l
 | []=>rfl
 | a::l=>by rw [cw.dO,XW,E.canon,cw.wU]
theorem cw.oH {l:List α}(hp:E.flat=true:=by rfl):(E.fz l).dN=true∧(E.fz l).jO=E.fz l:=by
 obtain⟨h1,h2⟩:=cw.pW (E:=E) hp (l:=l)
 exact⟨h1,by show AV.fz (dq (E.l l)) l.length false=_; rw [h2]; rfl⟩
theorem kh:∀(cs vs pre Kn:List AV),cs.length=vs.length→du (pre++cs++Kn) pre.length vs=pre++vs++Kn
 | [],[],pre,Kn,_=>by simp [du]
 | c::cs,v::vs,pre,Kn,h=>by
  have:=kh cs vs (pre++[v]) Kn (by simpa using h)
  simp only [XB,XR,Yk,XS] at this
  rw [du]
  have h2:(pre++c::cs++Kn).set pre.length v=pre++[v]++cs++Kn:=by
   rw [XF,YW _ _ (Xv _),Y0]
   simp
  rw [h2,this]
  simp
 | [],_::_,_,_,h=>by simp at h
 | _::_,[],_,_,h=>by simp at h
theorem cw.E1 {l:List α}{i:Nat}{a b:α}(h:l[i]? = some a)(rest:List AV):du (E.l l++rest) (i*E.n) (E.f b)=E.l (l.set i b)++rest:=by
 have hi:=(XA.1 h).1
 have hl:l=l.take i++a::l.drop (i+1):=by
  conv=>lhs; rw [←List.take_append_drop i l,XG hi]
  rw [(XA.1 h).2]
 have hs:l.set i b=l.take i++b::l.drop (i+1):=List.set_eq_take_append_cons_drop .. |>.trans (by rw [if_pos hi])
 have e1:E.l l=E.l (l.take i)++E.f a++E.l (l.drop (i+1)):=by
  conv=>lhs; rw [hl]
  rw [cw.kC,cw.dO,XF]
 have e2:(E.l (l.take i)).length=i*E.n:=by rw [cw.cJ,YI,Y3 (Nat.le_of_lt hi)]
 rw [hs,cw.kC,cw.dO,e1,←e2]
 have:=kh (E.f a) (E.f b) (E.l (l.take i)) (E.l (l.drop (i+1))++rest) (by rw [E.len,E.len])
 simp only [XF] at this ⊢
 exact this
theorem cw.Ko {l:List α}{i:Nat}{a b:α}{off:Nat}{v:AV}(h:l[i]? = some a)(ho:off<E.n)(hb:(E.f a).set off v=E.f b)(rest:List AV):(E.l l++rest).set (i*E.n+off) v=E.l (l.set i b)++rest:=by
 have hi:=(XA.1 h).1
 have hl:l=l.take i++a::l.drop (i+1):=by
  conv=>lhs; rw [←List.take_append_drop i l,XG hi]
  rw [(XA.1 h).2]
 have hs:l.set i b=l.take i++b::l.drop (i+1):=List.set_eq_take_append_cons_drop .. |>.trans (by rw [if_pos hi])
 have e1:E.l l=E.l (l.take i)++(E.f a++E.l (l.drop (i+1))):=by
  conv=>lhs; rw [hl]
  rw [cw.kC,cw.dO]
 have e2:(E.l (l.take i)).length=i*E.n:=by rw [cw.cJ,YI,Y3 (Nat.le_of_lt hi)]
 rw [hs,cw.kC,cw.dO,e1,←hb,←e2]
 simp only [XF]
 rw [YW _ _ (by omega),List.set_append_left _ _ (by rw [E.len]; omega)]
 congr 2
 simp
end
def ix {α:Type}(l:List α)(i:Int):Option α:=if 0≤i then l[i.toNat]? else none
theorem gE {α:Type}{l:List α}{i:Int}{a:α}(h:ix l i=some a):0≤i∧i<l.length∧l[i.toNat]? = some a:=by
 unfold ix at h
 split at h
 ·rename_i h0
  have:=(XA.1 h).1
  exact⟨h0,by omega,h⟩
 ·cases h
def upd {α:Type}(l:List α)(i:Int)(a:α):Option (List α):=if 0≤i∧i<l.length then some (l.set i.toNat a) else none
def pE {α:Type}(l:List α)(lo hi:Int):Option (List α):=if 0≤lo∧lo≤hi∧hi≤l.length then some ((l.drop lo.toNat).take (hi.toNat - lo.toNat)) else none
theorem lY {α:Type}{l r:List α}{lo hi:Int}(h:pE l lo hi=some r):0≤lo∧lo≤hi∧hi≤l.length∧r=(l.drop lo.toNat).take (hi.toNat - lo.toNat):=by
 unfold pE at h
 split at h
 ·rename_i h0; cases h; exact⟨h0.1,h0.2.1,h0.2.2,rfl⟩
 ·cases h
def bt (s:ByteArray)(i:Int):Option Int:=if 0≤i then (s.data.toList[i.toNat]?).map fun b=>(b.toNat:Int) else none
inductive Ct where
 | sl (n sz:Nat) (cs:List AV)
 | ob (cs:List AV)
 | mp (es:List (AV × AV))
 | row (e:TypeId) (cs:List AV)
def Dn (h:AHeap)(i:Nat):Ct→Prop
 | .sl n sz cs=>(cs.length=n*sz∧cs.length≤1125899906842624)∧((i=0∧n=0)∨(i≠0∧∃rest,h.get i=some (.cells (cs++rest))))
 | .ob cs=>i≠0∧h.get i=some (.cells cs)
 | .mp es=>i≠0∧h.get i=some (.map es)
 | .row e cs=>i≠0∧h.get i=some (.row e cs)
abbrev Mem:=List (Nat × Ct)
structure Has (h:AHeap)(K:Mem):Prop where
 at_:∀(j i:Nat) (c:Ct),K[j]? = some (i,c)→Dn h i c∧i<h.next
 nd:∀(j j' i:Nat) (c c':Ct),K[j]? = some (i,c)→K[j']? = some (i,c')→i≠0→j=j'
 pos:0<h.next
theorem s6 {h h':AHeap}{i:Nat}{c:Ct}(hg:i≠0→h'.get i=h.get i)(h1:Dn h i c):Dn h' i c:=by
 cases c with
 | sl n sz cs=>
  obtain⟨h2,h3⟩:=h1
  refine⟨h2,h3.imp id fun ⟨h4,r,h5⟩=>⟨h4,r,(hg h4).trans h5⟩⟩
 | ob cs=>exact⟨h1.1,(hg h1.1).trans h1.2⟩
 | mp es=>exact⟨h1.1,(hg h1.1).trans h1.2⟩
 | row e cs=>exact⟨h1.1,(hg h1.1).trans h1.2⟩
theorem cq (h:AHeap)(id k:Nat)(o:AObj):(h.put id o).get k=if k=id then some o else h.get k:=by
 simp only [AHeap.put,beq_nat]
 by_cases hk:k=id<;>simp [hk]
theorem s7 (h:AHeap)(id k:Nat):(h.kill id).get k=if k=id then none else h.get k:=by
 simp only [AHeap.kill,beq_nat]
 by_cases hk:k=id<;>simp [hk]
theorem Has.Dp {h h':AHeap}{K:Mem}(o:Has h K){j i:Nat}{c:Ct}(hj:K[j]? = some (i,c)){i':Nat}{c':Ct}
  (hg:∀k,k≠i→k<h.next→h'.get k=h.get k) (hn:h.next≤h'.next) (hi:i'=i∨i'=0∨h.next≤i') (hlt:i'<h'.next) (hc:Dn h' i' c'):Has h' (K.set j (i',c')):=by
 refine⟨fun q k d hq=>?_,fun q q' k d d' hq yk hk=>?_,XX o.pos hn⟩
 ·rw [YS] at hq
  by_cases h1:j=q
  ·subst h1
   rw [if_pos rfl] at hq
   split at hq
   ·cases hq; exact⟨hc,hlt⟩
   ·cases hq
  ·rw [if_neg h1] at hq
   obtain⟨g1,g2⟩:=o.at_ q k d hq
   refine⟨s6 (fun hk=>hg k (fun he=>?_) g2) g1,XX g2 hn⟩
   subst he
   exact h1 (o.nd j q k c d hj hq hk)
 ·rw [YS] at hq yk
  have old:∀(q:Nat) (d:Ct),j≠q→K[q]? = some (k,d)→k≠i':=by
   intro x y hne hx he
   rcases hi with h1 | h1 | h1
   ·exact hne (o.nd j x k c y (by rw [he,h1]; exact hj) hx hk)
   ·exact hk (he.trans h1)
   ·have:=(o.at_ x k y hx).2; omega
  by_cases h1:j=q<;>by_cases h2:j=q'
  ·rw [←h1,h2]
  ·subst h1
   rw [if_pos rfl] at hq
   rw [if_neg h2] at yk
   split at hq
   ·cases hq; exact absurd rfl (old q' d' h2 yk)
   ·cases hq
  ·subst h2
   rw [if_pos rfl] at yk
   rw [if_neg h1] at hq
   split at yk
   ·cases yk; exact absurd rfl (old q d h1 hq)
   ·cases yk
  ·rw [if_neg h1] at hq; rw [if_neg h2] at yk
   exact o.nd q q' k d d' hq yk hk
theorem Has.new {h h':AHeap}{K:Mem}(o:Has h K){i:Nat}{c:Ct}(hg:∀k,k<h.next→h'.get k=h.get k)(hn:h.next≤h'.next)(hi:i=0∨h.next≤i)(hlt:i<h'.next)(hc:Dn h' i c):Has h' ((i,c)::K):=by
 refine⟨fun q k d hq=>?_,fun q q' k d d' hq yk hk=>?_,XX o.pos hn⟩
 ·cases q with
  | zero=>simp only [X7,Xu,Xz] at hq; obtain⟨rfl,rfl⟩:=hq; exact⟨hc,hlt⟩
  | succ q=>
   simp only [YD] at hq
   obtain⟨g1,g2⟩:=o.at_ q k d hq
   exact⟨s6 (fun _=>hg k g2) g1,XX g2 hn⟩
 ·have old:∀(q:Nat) (d:Ct),K[q]? = some (k,d)→k≠i:=by
   intro x y hx he
   rcases hi with h1 | h1
   ·exact hk (he.trans h1)
   ·have:=(o.at_ x k y hx).2; omega
  cases q with
  | zero=>
   simp only [X7,Xu,Xz] at hq
   cases q' with
   | zero=>rfl
   | succ q'=>exact absurd hq.1.symm (old q' d' (by simpa using yk))
  | succ q=>
   cases q' with
   | zero=>
    simp only [X7,Xu,Xz] at yk
    exact absurd yk.1.symm (old q d (by simpa using hq))
   | succ q'=>rw [o.nd q q' k d d' (by simpa using hq) (by simpa using yk) hk]
theorem Has.nil {h:AHeap}{K:Mem}(o:Has h K)(sz:Nat):Has h ((0,.sl 0 sz [])::K):=
 o.new (fun _ _=>rfl) (Xv _) (.inl rfl) o.pos ⟨⟨by simp,by simp⟩,.inl ⟨rfl,rfl⟩⟩
theorem Has.sub {h:AHeap}{K K':Mem}(o:Has h K)(f:Nat→Nat)(hf:∀j p,K'[j]? = some p→K[f j]? = some p)(hi:∀j j',f j=f j'→j=j'):Has h K':=
 ⟨fun j i c hj=>o.at_ (f j) i c (hf j _ hj),fun j j' i c c' hj JX hk=>hi _ _ (o.nd (f j) (f j') i c c' (hf j _ hj) (hf j' _ JX) hk),o.pos⟩
theorem Has.del {h:AHeap}{K:Mem}(o:Has h K)(q:Nat):Has h (K.eraseIdx q):=
 o.sub (fun j=>if j<q then j else j+1) (fun j p hj=>by
  rw [List.getElem?_eraseIdx] at hj
  split at hj
  ·rename_i h1; simpa [h1] using hj
  ·rename_i h1; simpa [h1] using hj) (fun j j' he=>by
   split at he<;>split at he<;>omega)
theorem Has.front {h:AHeap}{K:Mem}(o:Has h K)(q:Nat){p:Nat × Ct}(hq:K[q]? = some p):Has h (p::K.eraseIdx q):=
 o.sub (fun j=>match j with | 0=>q | j+1=>if j<q then j else j+1) (fun j p' hj=>by
  cases j with
  | zero=>simp only [X7,Xu] at hj; subst hj; exact hq
  | succ j=>
   simp only [YD,List.getElem?_eraseIdx] at hj
   dsimp only
   split at hj
   ·rename_i h1; simpa [h1] using hj
   ·rename_i h1; simpa [h1] using hj) (fun j j' he=>by
   cases j with
   | zero=>cases j' with
    | zero=>rfl
    | succ j'=>dsimp only at he; split at he<;>omega
   | succ j=>cases j' with
    | zero=>dsimp only at he; split at he<;>omega
    | succ j'=>dsimp only at he; split at he<;>split at he<;>omega)
end Go.R
namespace Go.R
open Go
def wV (P:Program)(t:TypeId)(sz b:Nat):Bool:=
 match P.underlying t with
 | some (.slice e)=>match P.info? e with
  | some i=>Yc i.size sz&&Yc i.bytes b&&JM i
  | none=>false
 | _=>false
section
variable {P:Program}{t:TypeId}{sz b:Nat}
theorem jj (h:wV P t sz b=true):∃e i,P.underlying t=some (.slice e)∧P.info? e=some i∧i.size=sz∧i.bytes=b∧JM i=true∧dZ P e=some sz:=by
 unfold wV at h
 split at h
 ·rename_i e he
  split at h
  ·rename_i i hi
   simp only [Xw] at h
   have h1:=YJ h.1.1
   exact⟨e,i,he,hi,h1,YJ h.1.2,h.2,by simp [dZ,hi,h1]⟩
  ·cases h
 ·cases h
variable {α:Type}{E:cw α}{h:AHeap}{K:Mem}{l:List α}{a v:α}{i q:Nat}{j:Int}{k:IntKind}{c:AV}{off:Nat}{tf:TypeId}
theorem bw (T:wV P t E.n b=true)(h:ix l j=some a):ec P t (E.fz l) (.int k j)=some (.fp (E.l l) (j.toNat*E.n)):=by
 obtain⟨e,inf,h1,h2,h3,h4,h5,h6⟩:=jj T
 obtain⟨g1,g2,g3⟩:=gE h
 have hle:=cw.Az (E:=E) g3
 have hp:=E.pos
 simp only [ec,h1,Xr,h6,cw.fz]
 rw [if_pos ⟨g1,g2,by omega⟩]
theorem Nc (h:l[j.toNat]? = some a):(E.l l).isEmpty=false:=by
 have hle:=cw.Az (E:=E) h
 have hp:=E.pos
 cases hl:E.l l with
 | nil=>rw [hl] at hle; simp at hle; omega
 | cons _ _=>rfl
theorem iA (hp:AHeap)(ha:eF P tf=some false)(h:ix l j=some a)(hc:(E.f a)[off]? = some c):bl P hp tf (.fp (E.l l) (j.toNat*E.n+off))=some c:=by
 obtain⟨g1,g2,g3⟩:=gE h
 have ho:off<E.n:=by rw [←E.len a]; exact (XA.1 hc).1
 simp only [bl,jd,Nc g3,XJ,if_false,iQ,ha,Xr,cw.Jk g3 ho,hc]
theorem cY (hp:AHeap)(ha:eF P tf=some false)(h:ix l j=some a)(hc:(E.f a)[0]? = some c):bl P hp tf (.fp (E.l l) (j.toNat*E.n))=some c:=iA (off:=0) hp ha h hc
theorem dw (hp:AHeap)(ha:eF P tf=some true)(hs:dZ P tf=some E.n)(h:ix l j=some a):bl P hp tf (.fp (E.l l) (j.toNat*E.n))=some (.agg (E.f a)):=by
 obtain⟨g1,g2,g3⟩:=gE h
 simp only [bl,jd,Nc g3,XJ,if_false,iQ,ha,Xr,if_true,hs]
 rw [if_pos (cw.Az g3),cw.E0 g3]
theorem si (o:Has h K)(hq:K[q]? = some (i,.sl l.length E.n (E.l l)))(hj:l[j.toNat]? = some a):i≠0∧∃rest,h.get i=some (.cells (E.l l++rest)):=by
 obtain⟨⟨_,h1⟩,_⟩:=o.at_ _ _ _ hq
 rcases h1 with⟨_,h1⟩| h1
 ·have:=(XA.1 hj).1; omega
 ·exact h1
theorem Kp (T:wV P t sz b=true){n:Nat}(h0:0≤j)(h1:j<n):ec P t (.rs i 0 n sz) (.int k j)=some (.ptr i (0+j.toNat*sz)):=by
 obtain⟨e,inf,g1,g2,g3,g4,g5,g6⟩:=jj T
 simp only [ec,g1,Xr,g6]
 rw [if_pos ⟨trivial,h0,h1⟩]
theorem vp (o:Has h K)(hq:K[q]? = some (i,.sl l.length E.n (E.l l)))(ha:eF P tf=some false)(hj:ix l j=some a)(hc:(E.f a)[off]? = some c):bl P h tf (.ptr i (0+j.toNat*E.n+off))=some c:=by
 obtain⟨g1,g2,g3⟩:=gE hj
 obtain⟨h1,rest,h2⟩:=si o hq g3
 have ho:off<E.n:=by rw [←E.len a]; exact (XA.1 hc).1
 have hle:=cw.Az (E:=E) g3
 simp only [bl,jd,h2,Xr,iQ,ha,XJ,if_false,XS]
 rw [X4 (by omega),cw.Jk g3 ho,hc]
theorem Dq (o:Has h K)(hq:K[q]? = some (i,.sl l.length E.n (E.l l)))(ha:eF P tf=some false)(hj:ix l j=some a)(hc:(E.f a)[0]? = some c):bl P h tf (.ptr i (0+j.toNat*E.n))=some c:=vp (off:=0) o hq ha hj hc
theorem Dr (o:Has h K)(hq:K[q]? = some (i,.sl l.length E.n (E.l l)))(ha:eF P tf=some true)(hs:dZ P tf=some E.n)(hj:ix l j=some a):bl P h tf (.ptr i (0+j.toNat*E.n))=some (.agg (E.f a)):=by
 obtain⟨g1,g2,g3⟩:=gE hj
 obtain⟨h1,rest,h2⟩:=si o hq g3
 have hle:=cw.Az (E:=E) g3
 simp only [bl,jd,h2,Xr,iQ,ha,if_true,hs,XS]
 rw [if_pos (by rw [XB]; omega),List.drop_append_of_le_length (by omega),XY (by rw [List.length_drop]; omega),cw.E0 g3]
theorem iB (o:Has h K){c':Ct}{ct:Ct}(hq:K[q]? = some (i,ct)){ob:AObj}(hc:Dn (h.put i ob) i c'):Has (h.put i ob) (K.set q (i,c')):=
 o.Dp hq (fun k hk _=>by rw [cq,if_neg hk]) (YG _) (.inl rfl) (Yw (o.at_ _ _ _ hq).2) hc
theorem E2 (o:Has h K)(hq:K[q]? = some (i,.sl l.length E.n (E.l l)))(hs:dZ P tf=some E.n)(hj:ix l j=some a){x:AV}(hv:x.cells=E.f v)(nZ:(E.f v).all AV.cE=true) :
  ∃h',iT P h tf (.ptr i (0+j.toNat*E.n)) x=some h'∧Has h' (K.set q (i,.sl l.length E.n (E.l (l.set j.toNat v)))):=by
 obtain⟨g1,g2,g3⟩:=gE hj
 obtain⟨h1,rest,h2⟩:=si o hq g3
 have hle:=cw.Az (E:=E) g3
 refine⟨_,?_,iB o hq (ob:=.cells (E.l (l.set j.toNat v)++rest)) ⟨⟨by rw [cw.cJ,XC],by rw [cw.cJ,XC,←cw.cJ]; exact (o.at_ _ _ _ hq).1.1.2⟩,.inr ⟨h1,rest,by rw [cq,if_pos rfl]⟩⟩⟩
 simp only [iT,h2,Xr,gA,hs,hv,XS]
 rw [if_pos ⟨E.len v,nZ,by rw [XB]; omega⟩,Xx,cw.E1 g3]
theorem Ds (o:Has h K)(hq:K[q]? = some (i,.sl l.length E.n (E.l l)))(hs:dZ P tf=some 1)(hj:ix l j=some a){x:AV}(hx:x.cells=[x])(nZ:x.cE=true)(ho:off<E.n)(hb:(E.f a).set off x=E.f v) :
  ∃h',iT P h tf (.ptr i (0+j.toNat*E.n+off)) x=some h'∧Has h' (K.set q (i,.sl l.length E.n (E.l (l.set j.toNat v)))):=by
 obtain⟨g1,g2,g3⟩:=gE hj
 obtain⟨h1,rest,h2⟩:=si o hq g3
 have hle:=cw.Az (E:=E) g3
 refine⟨_,?_,iB o hq (ob:=.cells (E.l (l.set j.toNat v)++rest)) ⟨⟨by rw [cw.cJ,XC],by rw [cw.cJ,XC,←cw.cJ]; exact (o.at_ _ _ _ hq).1.1.2⟩,.inr ⟨h1,rest,by rw [cq,if_pos rfl]⟩⟩⟩
 simp only [iT,h2,Xr,gA,hs,hx,XS]
 rw [if_pos ⟨rfl,by simp [nZ],by rw [XB]; omega⟩,Xx]
 simp only [du]
 rw [cw.Ko g3 ho hb]
def app (b:Nat){α:Type}(l l2:List α):Option (List α):=if (l.length+l2.length)*(b+1)≤1099511627776 then some (l++l2) else none
theorem yD {l l2 r:List α}(h:app b l l2=some r):(l.length+l2.length)*b≤gd∧l.length+l2.length≤gd∧r=l++l2:=by
 unfold app at h
 split at h
 ·rename_i h0
  cases h
  rw [Nat.mul_add,YZ] at h0
  refine⟨by simp only [gd]; omega,by simp only [gd]; omega,rfl⟩
 ·cases h
theorem E3 {t2:TypeId}{l2 r:List α}{x:AV}(T:wV P t E.n b=true)(o:Has h K)(hq:K[q]? = some (i,.sl l.length E.n (E.l l)))(hx:fj h E.n x=some (E.l l2,l2.length))(hX:jR P t2 x=true)(hr:app b l l2=some r) :
  ∃i' h',gB P h t t2 (.rs i 0 l.length E.n) x=some (.rs i' 0 r.length E.n,h')∧Has h' (K.set q (i',.sl r.length E.n (E.l r))):=by
 obtain⟨e,inf,g1,g2,g3,g4,g5,g6⟩:=jj T
 obtain⟨r1,r2,rfl⟩:=yD hr
 obtain⟨⟨⟨hlen,Aj⟩,mV⟩,hlt⟩:=o.at_ _ _ _ hq
 have jg:=E.pos
 have hb:inf.size=E.n:=g3
 have jI:¬(inf.size=0∨jR P t2 x=false∨JM inf=false):=by rw [hX,g5,hb]; simp [jg]
 subst g4
 by_cases h0:l2=[]
 ·subst h0
  refine⟨i,h,?_,?_⟩
  ·simp only [gB,g1,Xr,g2,hb,hx,hX,g5]
   rw [if_neg (by simp [jg])]
   simp only [Yk,Nat.zero_mul,Nat.add_zero,Yr]
   by_cases hi:i=0
   ·subst hi
    rcases mV with⟨_,hl0⟩| h1
    ·simp [hl0,hb,gd]
    ·exact absurd rfl h1.1
   ·rcases mV with h1 | ⟨_,rest,h1⟩
    ·exact absurd h1.1 hi
    ·rw [if_neg hi,h1]
     simp only [Xr]
     rw [if_neg (by rw [XB,hlen]; simp only [Yk,Nat.add_zero] at r1 r2; simp; omega)]
     simp
  ·rw [Yr]
   have:K.set q (i,.sl l.length E.n (E.l l))=K:=by
    apply Yh
    intro j
    rw [YS]
    by_cases hj:q=j
    ·subst hj; rw [if_pos rfl,if_pos (XA.1 hq).1,hq]
    ·rw [if_neg hj]
   rw [this]; exact o
 ·have LY:l2.length≠0:=by simpa using h0
  by_cases hi:i=0
  ·subst hi
   rcases mV with⟨_,hl0⟩| h1
   rotate_left
   ·exact absurd rfl h1.1
   have hnil:l=[]:=by simpa using hl0
   subst hnil
   refine⟨h.next,h.alloc (.cells (E.l l2)),?_,?_⟩
   ·simp only [gB,g1,Xr,g2,hb,hx,hX,g5]
    rw [if_neg (by simp [jg])]
    simp only [if_true]
    simp only [Yk,XS] at r1 r2
    rw [if_neg (by simp; omega),if_neg LY]
    simp
   ·refine o.Dp hq (fun k _ hk=>by rw [AHeap.alloc,cq,if_neg (by omega)]) (YG _) (.inr (.inr (Xv _))) (Yd _) ⟨⟨cw.cJ,cw.oE (by simp only [gd] at r2; simp at r2 ⊢; omega)⟩,.inr ⟨by have:=o.pos; omega,[],?_⟩⟩
    rw [AHeap.alloc,cq,if_pos rfl]; simp
  ·rcases mV with h1 | ⟨_,rest,h1⟩
   ·exact absurd h1.1 hi
   refine⟨h.next,(h.kill i).put h.next (.cells (E.l (l++l2))),?_,?_⟩
   ·simp only [gB,g1,Xr,g2,hb,hx,hX,g5]
    rw [if_neg (by simp [jg]),if_neg hi,h1]
    simp only [Xr]
    rw [if_neg (by rw [XB,hlen]; simp; omega),if_neg LY]
    rw [X6,XY (by rw [hlen]; exact Xv _),X1 (by rw [hlen]; exact Xv _),cw.kC,XB]
   ·refine o.Dp hq (fun k hk pP=>by rw [cq,if_neg (by omega),s7,if_neg hk]) (by show h.next≤h.next+1+1; omega) (.inr (.inr (Xv _))) (by show h.next<h.next+1+1; omega) ⟨⟨cw.cJ,cw.oE (by simp only [gd] at r2; simp at r2 ⊢; omega)⟩,.inr ⟨by have:=o.pos; omega,[],?_⟩⟩
    rw [cq,if_pos rfl]; simp
theorem E4 {l2:List α}(h:AHeap):fj h E.n (E.fz l2)=some (E.l l2,l2.length):=by
 simp only [fj,dF,cw.fz]
 rw [if_pos cw.cJ,Xx,cw.wU]
theorem yE (o:Has h K)(hq:K[q]? = some (i,.sl l.length E.n (E.l l))):fj h E.n (.rs i 0 l.length E.n)=some (E.l l,l.length):=by
 obtain⟨⟨⟨hlen,Aj⟩,mV⟩,hlt⟩:=o.at_ _ _ _ hq
 simp only [fj,dF]
 rcases mV with⟨h0,h1⟩| ⟨h0,rest,h1⟩
 ·have:l=[]:=by simpa using h1
  subst this
  simp [h0,cw.l]
 ·rw [if_neg h0,h1]
  simp only [Xr]
  rw [if_pos ⟨trivial,by rw [XB,hlen]; omega⟩,Xx,X6,XY (by rw [hlen]; exact Xv _),X1 (by rw [hlen]; exact Xv _),cw.wU]
def sj (b:Nat){α:Type}(n:Int)(z:α):Option (List α):=if 0≤n∧n.toNat*(b+1)≤1099511627776 then some (XK n.toNat z) else none
theorem lZ {n:Int}{z:α}{zv:AV}{r:List α}(T:wV P t E.n b=true)(o:Has h K)(e0:TypeId)(Vo:P.underlying t=some (.slice e0))(hz0:jC P e0=some zv)(Vp:zv.cells=E.f z)(nZ:(E.f z).all AV.cE=true)(hr:sj b n z=some r) :
  ∃i h',gf P h t (.int .i64 n) (.int .i64 n)=some (.rs i 0 r.length E.n,h')∧Has h' ((i,.sl r.length E.n (E.l r))::K):=by
 have hz:∀e,P.underlying t=some (.slice e)→jC P e=some zv:=fun e he=>by
  rw [Vo] at he; cases he; exact hz0
 unfold sj at hr
 split at hr
 rotate_left
 ·cases hr
 rename_i jI
 obtain⟨h0,h1⟩:=jI
 cases hr
 obtain⟨e,inf,g1,g2,g3,g4,g5,g6⟩:=jj T
 have jg:=E.pos
 have Qb:∀k,ls (E.f z) k=E.l (XK k z):=by
  intro k
  induction k with
  | zero=>rfl
  | succ k ih=>rw [ls,ih,List.replicate_succ,cw.dO]
 refine⟨h.next,h.alloc (.cells (E.l (XK n.toNat z))),?_,o.new (fun k hk=>by rw [AHeap.alloc,cq,if_neg (by omega)]) (YG _) (.inr (Xv _)) (Yd _) ⟨⟨cw.cJ,cw.oE (by rw [YX]; rw [Nat.mul_add,YZ] at h1; omega)⟩,.inr ⟨by have:=o.pos; omega,[],by rw [AHeap.alloc,cq,if_pos rfl]; simp⟩⟩⟩
 rw [Nat.mul_add,YZ] at h1
 simp only [gf,g1,Xr,g2,hz e g1,Vp,E.len,Qb,YX,g3,g4]
 have hb:n*(b:Int)≤gd:=by
  have:n*(b:Int)=((n.toNat*b:Nat):Int):=by
   rw [Int.natCast_mul,Int.toNat_of_nonneg h0]
  simp only [gd]
  rw [this]
  omega
 rw [if_pos ⟨h0,Int.le_refl _,hb,trivial,jg,by omega,nZ⟩]
theorem E5 (o:Has h K)(hq:K[q]? = some (i,.sl l.length E.n (E.l l)))(hp:E.flat=true:=by rfl):∃h',km 0 h (.rs i 0 l.length E.n)=some (E.fz l,h')∧Has h' (K.eraseIdx q):=by
 obtain⟨⟨⟨hlen,Aj⟩,mV⟩,hlt⟩:=o.at_ _ _ _ hq
 rcases mV with⟨h0,h1⟩| ⟨h0,rest,h1⟩
 ·have:l=[]:=by simpa using h1
  subst this
  exact⟨h,by simp [km,h0,cw.fz,cw.l],o.del q⟩
 ·refine⟨h.kill i,?_,?_⟩
  ·simp only [km]
   rw [if_neg h0,h1]
   simp only [Xr]
   have e1:((E.l l++rest).drop 0).take (l.length*E.n)=E.l l:=by
    rw [X6,XY (by rw [hlen]; exact Xv _),X1 (by rw [hlen]; exact Xv _)]
   rw [e1,if_pos (by rw [XB,hlen]; omega),vi (cw.pW hp).1]
   rfl
  ·have o2:=o.Dp (i':=0) (c':=.sl 0 1 []) (h':=h.kill i) hq (fun k hk _=>by rw [s7,if_neg hk]) (YG _) (.inr (.inl rfl)) (Nat.succ_pos _) ⟨⟨by simp,by simp⟩,.inl ⟨rfl,rfl⟩⟩
   have:=o2.del q
   rwa [List.eraseIdx_set_eq] at this
variable {n:Nat}
theorem di (o:Has h K)(hq:K[q]? = some (i,.sl n E.n (E.l l))):n=l.length:=by
 have h1:=(o.at_ _ _ _ hq).1.1.1
 rw [cw.cJ] at h1
 exact (Nat.eq_of_mul_eq_mul_right (Nat.pos_of_ne_zero E.pos) h1).symm
theorem aE (T:wV P t E.n b=true)(o:Has h K)(hq:K[q]? = some (i,.sl n E.n (E.l l)))(hj:ix l j=some a):ec P t (.rs i 0 n E.n) (.int k j)=some (.ptr i (0+j.toNat*E.n)):=by
 have hn:=di o hq
 subst hn
 exact Kp T (gE hj).1 (gE hj).2.1
theorem wW (o:Has h K)(hq:K[q]? = some (i,.sl n E.n (E.l l)))(ha:eF P tf=some false)(hj:ix l j=some a)(hc:(E.f a)[off]? = some c):bl P h tf (.ptr i (0+j.toNat*E.n+off))=some c:=by
 have hn:=di o hq
 subst hn
 exact vp o hq ha hj hc
theorem be (o:Has h K)(hq:K[q]? = some (i,.sl n E.n (E.l l)))(ha:eF P tf=some false)(hj:ix l j=some a)(hc:(E.f a)[0]? = some c):bl P h tf (.ptr i (0+j.toNat*E.n))=some c:=by
 have hn:=di o hq
 subst hn
 exact Dq o hq ha hj hc
theorem H4 (o:Has h K)(hq:K[q]? = some (i,.sl n E.n (E.l l)))(ha:eF P tf=some true)(hs:dZ P tf=some E.n)(hj:ix l j=some a):bl P h tf (.ptr i (0+j.toNat*E.n))=some (.agg (E.f a)):=by
 have hn:=di o hq
 subst hn
 exact Dr o hq ha hs hj
theorem dD (o:Has h K)(hq:K[q]? = some (i,.sl n E.n (E.l l)))(hs:dZ P tf=some E.n)(hj:ix l j=some a){x:AV}(hv:x.cells=E.f v)(nZ:(E.f v).all AV.cE=true) :
  ∃h',iT P h tf (.ptr i (0+j.toNat*E.n)) x=some h'∧Has h' (K.set q (i,.sl n E.n (E.l (l.set j.toNat v)))):=by
 have hn:=di o hq
 subst hn
 exact E2 o hq hs hj hv nZ
theorem H5 (o:Has h K)(hq:K[q]? = some (i,.sl n E.n (E.l l)))(hs:dZ P tf=some 1)(hj:ix l j=some a){x:AV}(hx:x.cells=[x])(nZ:x.cE=true)(ho:off<E.n)(hb:(E.f a).set off x=E.f v) :
  ∃h',iT P h tf (.ptr i (0+j.toNat*E.n+off)) x=some h'∧Has h' (K.set q (i,.sl n E.n (E.l (l.set j.toNat v)))):=by
 have hn:=di o hq
 subst hn
 exact Ds o hq hs hj hx nZ ho hb
theorem fF {t2:TypeId}{l2 r:List α}{x:AV}(T:wV P t E.n b=true)(o:Has h K)(hq:K[q]? = some (i,.sl n E.n (E.l l)))(hx:fj h E.n x=some (E.l l2,l2.length))(hX:jR P t2 x=true)(hr:app b l l2=some r) :
  ∃i' h',gB P h t t2 (.rs i 0 n E.n) x=some (.rs i' 0 r.length E.n,h')∧Has h' (K.set q (i',.sl r.length E.n (E.l r))):=by
 have hn:=di o hq
 subst hn
 exact E3 T o hq hx hX hr
theorem Dt (o:Has h K)(hq:K[q]? = some (i,.sl n E.n (E.l l))):fj h E.n (.rs i 0 n E.n)=some (E.l l,l.length):=by
 have hn:=di o hq
 subst hn
 exact yE o hq
theorem iU (o:Has h K)(hq:K[q]? = some (i,.sl n E.n (E.l l)))(hp:E.flat=true:=by rfl):∃h',km 0 h (.rs i 0 n E.n)=some (E.fz l,h')∧Has h' (K.eraseIdx q):=by
 have hn:=di o hq
 subst hn
 exact E5 o hq hp
end
end Go.R
namespace Go.R
open Go
structure ab where
 kind:Int
 int:Int
 label:ByteArray
 args:List Int
structure ak where
 nodes:List ab
 root:Int
def eI (k:IntKind):cw Int:={n:=1,f:=fun a=>[.int k a],len:=fun _=>rfl,pos:=by decide,pure:=fun _ _=>⟨rfl,rfl⟩,canon:=fun _=>rfl}
abbrev aa:cw Int:=eI .i64
abbrev aw:cw Int:=eI .u8
def bO:cw Bool:={n:=1,f:=fun a=>[.bool a],len:=fun _=>rfl,pos:=by decide,pure:=fun _ _=>⟨rfl,rfl⟩,canon:=fun _=>rfl}
theorem pure_cons {x:AV}{xs:List AV}(h:x.dN=true∧x.jO=x)(k:cH xs=true∧dq xs=xs):cH (x::xs)=true∧dq (x::xs)=x::xs:=
 ⟨by simp [cH,h.1,k.1],by simp [dq,h.2,k.2]⟩
theorem pure_nil:cH []=true∧dq []=[]:=⟨rfl,rfl⟩
theorem s8 {k:IntKind}{n:Int}:(AV.int k n).dN=true∧(AV.int k n).jO = .int k n:=⟨rfl,rfl⟩
theorem E6 {s:ByteArray}:(AV.str s).dN=true∧(AV.str s).jO = .str s:=⟨rfl,rfl⟩
def af:cw ab:={n:=4,f:=fun x=>[.int .i64 x.kind,.int .i64 x.int,.str x.label,aa.fz x.args],len:=fun _=>rfl,pos:=by decide,pure:=fun x _=>pure_cons s8 (pure_cons s8 (pure_cons E6 (pure_cons cw.oH pure_nil))),canon:=fun _=>rfl}
def aR:cw ak:={n:=2,f:=fun x=>[af.fz x.nodes,.int .i64 x.root],len:=fun _=>rfl,pos:=by decide,pure:=fun x _=>pure_cons cw.oH (pure_cons s8 pure_nil),canon:=fun _=>rfl}
end Go.R
namespace Go.R
open Go
theorem H6 {b:Bool}(h:b=false):¬b=true:=by rw [h]; decide
section
variable {P:Program}{cf:CallF}{A:cg}{m:Nat}
theorem vq {c:Code}{s:St}{Q R:Ex→St→Prop}(h:de P cf A m c s Q)(k:∀e s',Q e s'→R e s'):de P cf A m c s R:=by
 obtain⟨e,s',h1,h2⟩:=h
 exact⟨e,s',h1,k _ _ h2⟩
theorem aG {c:Code}{s:St}{Q:St→Prop}{R:Ex→St→Prop}(hQ:∀e s',(e = .ret∨e = .norm)∧Q s'→R e s')(h:de P cf A m c s (fun e s'=>(e = .ret∨e = .norm)∧Q s')):de P cf A m c s R:=vq h hQ
end
def jm:Nat:=1125899906842630
def lF (k:Nat)(h:AHeap)(x y:AV):Prop:=∀n,jm+k≤n→ck h n x=some y
def eN (k:Nat)(h:AHeap)(x y:List AV):Prop:=∀n,jm+k≤n→bH h n x=some y
def wX (h:AHeap)(x y:AV):Prop:=lF 1000 h x y
section
variable {h:AHeap}{α:Type}{E:cw α}{l:List α}{K:Mem}{q i:Nat}
theorem lF.mono {k k':Nat}{x y:AV}(hk:k≤k')(f:lF k h x y):lF k' h x y:=fun n hn=>f n (by omega)
theorem pD {k:Nat}{x y:AV}(f:lF k h x y)(hk:k≤1000:=by decide):wX h x y:=f.mono hk
theorem kY {n:Nat}(h:jm≤n):∃k,n=k+1∧jm≤k+1:=⟨n - 1,by simp only [jm] at h; omega,by omega⟩
theorem mE {x:AV}(h1:x.dN=true)(h2:∀n,ck h (n+1) x=if x.dN then some x.jO else none){y:AV}(h3:x.jO=y):lF 0 h x y:=fun n hn=>by
 obtain⟨k,rfl,_⟩:=kY (show jm≤n by omega)
 rw [h2,h1,h3]; rfl
theorem aO {k:IntKind}{n:Int}:lF 0 h (.int k n) (.int k n):=mE rfl (fun _=>rfl) rfl
theorem bY {s:ByteArray}:lF 0 h (.str s) (.str s):=mE rfl (fun _=>rfl) rfl
theorem db (hp:E.flat=true:=by rfl):lF 0 h (E.fz l) (E.fz l):=mE (cw.oH hp).1 (fun _=>rfl) (cw.oH hp).2
theorem gF:lF 0 h .nils (E.fz []):=mE rfl (fun _=>rfl) rfl
theorem E7 {cs:List AV}(h1:(cH cs=true))(h2:dq cs=E.l l){n:Nat}{b:Bool}(h3:n=l.length):lF 0 h (.fz cs n b) (E.fz l):=by
 refine mE (by simpa [AV.dN] using h1) (fun _=>rfl) ?_
 subst h3
 show AV.fz (dq cs) l.length false=_
 rw [h2]; rfl
theorem ng:∀{cs:List AV} {n:Nat},cH cs=true→(∀x∈cs,∀n,ck h (n+1) x=if x.dN then some x.jO else none)→cs.length+1<n→bH h n cs=some (dq cs)
 | [],n,_,_,hn=>by
  obtain⟨k,rfl⟩:∃k,n=k+1:=⟨n - 1,by omega⟩
  rfl
 | x::cs,n,h1,h2,hn=>by
  obtain⟨k,rfl⟩:∃k,n=k+1+1:=⟨n - 2,by simp at hn; omega⟩
  simp only [cH,Xw] at h1
  simp only [bH]
  rw [h2 x (by simp) k,h1.1]
  simp only [if_true,Xr]
  rw [ng h1.2 (fun y hy=>h2 y (by simp [hy])) (by simp at hn; omega)]
  rfl
def yF:AV→Bool
 | .agg _ | .tup _=>false
 | _=>true
theorem E8 {x:AV}(hf:yF x=true)(hn:x.dN=true)(n:Nat):ck h (n+1) x=if x.dN then some x.jO else none:=by
 cases x<;>first | rfl | (simp [AV.dN] at hn; done) | (simp [yF] at hf; done)
theorem H7 (o:Has h K)(hq:K[q]? = some (i,.sl l.length E.n (E.l l)))(hf:∀a:α,(E.f a).all yF=true)(hp:E.flat=true:=by rfl):lF 0 h (.rs i 0 l.length E.n) (E.fz l):=fun n hn=>by
 obtain⟨⟨⟨hlen,Aj⟩,mV⟩,hlt⟩:=o.at_ _ _ _ hq
 obtain⟨k,rfl,hk⟩:=kY (show jm≤n by omega)
 simp only [ck]
 rcases mV with⟨h0,h1⟩| ⟨h0,rest,h1⟩
 ·have:l=[]:=by simpa using h1
  subst this
  simp [h0,cw.fz,cw.l]
 ·rw [if_neg h0,h1]
  simp only [Xr]
  have e1:((E.l l++rest).drop 0).take (l.length*E.n)=E.l l:=by
   rw [X6,XY (by rw [hlen]; exact Xv _),X1 (by rw [hlen]; exact Xv _)]
  rw [if_pos (by rw [XB,hlen]; omega),e1,ng (cw.pW hp).1 (fun x hx=>?_) (by simp only [jm] at hk; omega),(cw.pW hp).2]
  ·rfl
  ·have hnx:x.dN=true:=by
    have:∀(cs:List AV),cH cs=true→x∈cs→x.dN=true:=by
     intro cs
     induction cs with
     | nil=>intro _ h; cases h
     | cons y ys ih=>
      intro h hm
      simp only [cH,Xw] at h
      rcases X8.1 hm with rfl | hm
      ·exact h.1
      ·exact ih h.2 hm
    exact this _ (cw.pW hp).1 hx
   have Kq:yF x=true:=by
    unfold cw.l at hx
    rw [List.mem_flatMap] at hx
    obtain⟨a,_,ha⟩:=hx
    exact XT.1 (hf a) x ha
   exact fun n=>E8 Kq hnx n
theorem s9 {n:Nat}(o:Has h K)(hq:K[q]? = some (i,.sl n E.n (E.l l)))(hf:∀a:α,(E.f a).all yF=true)(hp:E.flat=true:=by rfl):lF 0 h (.rs i 0 n E.n) (E.fz l):=by
 have hn:=di o hq
 subst hn
 exact H7 o hq hf hp
theorem aC:eN 0 h [] []:=fun n hn=>by
 obtain⟨k,rfl,_⟩:=kY (show jm≤n by omega)
 rfl
theorem ae {k1 k2:Nat}{x y:AV}{xs ys:List AV}(f:lF k1 h x y)(g:eN k2 h xs ys):eN (k1+k2+1) h (x::xs) (y::ys):=fun n hn=>by
 obtain⟨k,rfl⟩:∃k,n=k+1:=⟨n - 1,by omega⟩
 simp only [bH]
 rw [f k (by omega),g k (by omega)]
 rfl
theorem dy {k:Nat}{xs ys:List AV}(f:eN k h xs ys):lF (k+1) h (.agg xs) (.agg ys):=fun n hn=>by
 obtain⟨k,rfl⟩:∃k,n=k+1:=⟨n - 1,by omega⟩
 simp only [ck]
 rw [f k (by omega)]; rfl
theorem fT {k:Nat}{xs ys:List AV}(f:eN k h xs ys):lF (k+1) h (.tup xs) (.tup ys):=fun n hn=>by
 obtain⟨k,rfl⟩:∃k,n=k+1:=⟨n - 1,by omega⟩
 simp only [ck]
 rw [f k (by omega)]; rfl
end
def gZ (k:IntKind)(x y:Int):Int:=k.wrap ((YB k.bits x &&& YB k.bits y).toNat:Int)
def iV (k:IntKind)(x y:Int):Int:=k.wrap ((YB k.bits x ||| YB k.bits y).toNat:Int)
def kZ (k:IntKind)(x y:Int):Int:=k.wrap ((YB k.bits x ^^^ YB k.bits y).toNat:Int)
def fZ (k:IntKind)(x:Int)(n:Nat):Int:=x.fdiv (2 ^ (min n k.bits))
section
variable {P:Program}{t:TypeId}{b:Nat}{α:Type}{E:cw α}{h:AHeap}{K:Mem}{l r:List α}{i q:Nat}{j lo hi:Int}{k k':IntKind}
theorem l8 {s:ByteArray}{v:Int}(hu:P.underlying t=some .string)(h:bt s j=some v):pG P t (.str s) (.int k j)=some (.int .u8 v):=by
 unfold bt at h
 split at h
 ·rename_i h0
  rw [Xt] at h
  obtain⟨b,hb,rfl⟩:=h
  simp only [pG,hu,Xr,h0,if_true,hb,Xx]
 ·cases h
theorem oI (h:pE l lo hi=some r):(((E.l l).drop (lo.toNat*E.n)).take ((hi.toNat - lo.toNat)*E.n))=E.l r∧r.length=hi.toNat - lo.toNat:=by
 obtain⟨h0,h1,h2,rfl⟩:=lY h
 refine⟨by rw [cw.wT,cw.EZ],?_⟩
 rw [YI,List.length_drop]
 omega
theorem H8 (T:wV P t E.n b=true)(h:pE l lo hi=some r):eZ P t (E.fz l) (some (.int k lo)) (some (.int k' hi)) none=some (E.fz r):=by
 obtain⟨e,inf,g1,g2,g3,g4,g5,g6⟩:=jj T
 obtain⟨h0,h1,h2,_⟩:=lY h
 obtain⟨h3,h4⟩:=oI (E:=E) h
 simp only [eZ,g1,Xr,g6,cw.fz,ir]
 rw [if_pos ⟨by omega,h2⟩]
 simp only [Xr]
 rw [if_pos ⟨h0,by omega⟩]
 simp only [Xr,Xx,Bool.false_and]
 rw [h3,←h4]
theorem BK (T:wV P t E.n b=true)(h:pE l 0 hi=some r):eZ P t (E.fz l) none (some (.int k' hi)) none=some (E.fz r):=by
 obtain⟨e,inf,g1,g2,g3,g4,g5,g6⟩:=jj T
 obtain⟨h0,h1,h2,_⟩:=lY h
 obtain⟨h3,h4⟩:=oI (E:=E) h
 simp only [eZ,g1,Xr,g6,cw.fz,ir]
 rw [if_pos ⟨by omega,h2⟩]
 simp only [Xr,Xx,Bool.false_and]
 simp only [Int.toNat_zero] at h3 h4
 rw [h3,←h4]
theorem wY (T:wV P t E.n b=true)(h:pE l lo (l.length:Int)=some r):eZ P t (E.fz l) (some (.int k lo)) none none=some (E.fz r):=by
 obtain⟨e,inf,g1,g2,g3,g4,g5,g6⟩:=jj T
 obtain⟨h0,h1,h2,_⟩:=lY h
 obtain⟨h3,h4⟩:=oI (E:=E) h
 simp only [eZ,g1,Xr,g6,cw.fz,ir]
 rw [if_pos ⟨h0,by omega⟩]
 simp only [Xr,Xx,Bool.false_and]
 simp only [Xy] at h3 h4
 rw [h3,←h4]
theorem E9 (o:Has h K)(hq:K[q]? = some (i,.sl l.length E.n (E.l l)))(T:wV P t E.n b=true)(hs:pE l 0 hi=some r) :
  eZ P t (.rs i 0 l.length E.n) none (some (.int k hi)) none=some (.rs i 0 r.length E.n)∧Has h (K.set q (i,.sl r.length E.n (E.l r))):=by
 obtain⟨e,inf,g1,g2,g3,g4,g5,g6⟩:=jj T
 obtain⟨h0,h1,h2,hr⟩:=lY hs
 obtain⟨h3,h4⟩:=oI (E:=E) hs
 simp only [Int.toNat_zero,Nat.sub_zero] at h4 hr
 have As:r=l.take hi.toNat:=by rw [hr]; simp
 refine⟨?_,?_⟩
 ·simp only [eZ,g1,Xr,g6,if_true,ir]
  rw [if_pos ⟨by omega,h2⟩]
  simp only [Xr,Xx,Nat.zero_mul,Nat.add_zero,Nat.sub_zero,h4]
 ·obtain⟨⟨⟨hlen,Aj⟩,mV⟩,hlt⟩:=o.at_ _ _ _ hq
  refine o.Dp hq (fun _ _ _=>rfl) (Xv _) (.inl rfl) hlt ⟨⟨cw.cJ,?_⟩,?_⟩
  ·rw [cw.cJ]
   refine X9 (Yj _ ?_) (hlen ▸ Aj)
   rw [h4]; omega
  ·rcases mV with⟨h5,h6⟩| ⟨h5,rest,h6⟩
   ·left; exact⟨h5,by rw [h4]; omega⟩
   ·right
    refine⟨h5,E.l (l.drop hi.toNat)++rest,?_⟩
    rw [h6,As,←XF,←cw.kC,List.take_append_drop]
theorem Kr {n:Nat}(o:Has h K)(hq:K[q]? = some (i,.sl n E.n (E.l l)))(T:wV P t E.n b=true)(hs:pE l 0 hi=some r) :
  eZ P t (.rs i 0 n E.n) none (some (.int k hi)) none=some (.rs i 0 r.length E.n)∧Has h (K.set q (i,.sl r.length E.n (E.l r))):=by
 have hn:=di o hq
 subst hn
 exact E9 o hq T hs
end
theorem aq {P:Program}{cf:CallF}{m:Nat}{aU:FuncId→cg}{f:FuncId}{fn:Func}{A:cg}(ha:aU f=A){args:List AV}{h:AHeap}{R:AV→AHeap→Prop}(hf:P.funcs[f]? = some fn)(hb:fn.body=some (codeOf fn))(hn:Nat.ble args.length fn.ntmps=true)
  (he:de P cf A m (codeOf fn) ⟨lN A.keep args,A.aF.map fun _=>none,h⟩ (fun e s=>(e = .ret∨e = .norm)∧∃r,aH P (s.open A) fn.results.toList=some r∧R r s.h)) :
  ∃r h',bc P aU cf m f args h=some (r,h')∧R r h':=by
 subst ha
 exact wS hf hb hn he
def Fa (a b:ByteArray):Bool:=Op.bytesLess a.data.toList b.data.toList||a.data.toList==b.data.toList
end Go.R
namespace Go.R
open Go
mutual
theorem wZ {h:AHeap}:∀(n:Nat) (x y:AV),x.dN=true→ck h n x=some y→y=x.jO
 | 0,x,y,_,h=>by simp [ck] at h
 | n+1,x,y,hn,h=>by
  cases x with
  | agg cs=>
   simp only [ck,Xt] at h
   obtain⟨fm,hcs,rfl⟩:=h
   rw [iC n cs fm (by simpa [AV.dN] using hn) hcs]; rfl
  | tup cs=>
   simp only [ck,Xt] at h
   obtain⟨fm,hcs,rfl⟩:=h
   rw [iC n cs fm (by simpa [AV.dN] using hn) hcs]; rfl
  | ptr _ _=>simp [AV.dN] at hn
  | rs _ _ _ _=>simp [AV.dN] at hn
  | _=>simp only [ck,hn,if_true,Xu] at h; exact h.symm
theorem iC {h:AHeap}:∀(n:Nat) (xs ys:List AV),cH xs=true→bH h n xs=some ys→ys=dq xs
 | 0,xs,ys,_,h=>by simp [bH] at h
 | n+1,[],ys,_,h=>by simp only [bH,Xu] at h; exact h.symm
 | n+1,x::xs,ys,hn,h=>by
  simp only [cH,Xw] at hn
  simp only [bH,Xs,Xt] at h
  obtain⟨y,hy,zs,hz,rfl⟩:=h
  rw [wZ n x y hn.1 hy,iC n xs zs hn.2 hz]; rfl
end
mutual
theorem vt {h:AHeap}:∀(n:Nat) (x y:AV),fC h n x=some y→ck h n x=some y
 | 0,x,y,h=>by simp [fC] at h
 | n+1,x,y,h=>by
  unfold fC at h
  split at h
  ·exact h
  ·exact h
  ·exact h
  ·exact h
  ·exact h
  ·exact h
  ·exact h
  ·exact h
  ·rename_i id off len iL
   simp only [ck]
   split at h
   ·rename_i h0; rw [if_pos h0]; exact h
   ·rename_i h0
    rw [if_neg h0]
    rw [Xs] at h ⊢
    obtain⟨ob,ho,h⟩:=h
    refine⟨ob,ho,?_⟩
    cases ob with
    | map es=>cases h
    | row t cs=>cases h
    | cells cs=>
     simp only at h ⊢
     split at h
     ·rename_i hle
      rw [if_pos hle]
      rw [Xt] at h ⊢
      obtain⟨fm,hcs,h2⟩:=h
      exact⟨fm,jY n _ _ hcs,h2⟩
     ·cases h
  ·simp only [ck]
   rw [Xt] at h ⊢
   obtain⟨fm,hcs,h2⟩:=h
   exact⟨fm,jY n _ _ hcs,h2⟩
  ·simp only [ck]
   rw [Xt] at h ⊢
   obtain⟨fm,hcs,h2⟩:=h
   exact⟨fm,jY n _ _ hcs,h2⟩
  ·cases h
theorem jY {h:AHeap}:∀(n:Nat) (xs ys:List AV),cX h n xs=some ys→bH h n xs=some ys
 | 0,xs,ys,h=>by simp [cX] at h
 | n+1,[],ys,h=>h
 | n+1,x::xs,ys,h=>by
  simp only [cX,bH,Xs,Xt] at h ⊢
  obtain⟨y,hy,zs,hz,h2⟩:=h
  exact⟨y,vt n x y hy,zs,jY n xs zs hz,h2⟩
end
def w5 (k:Nat)(h:AHeap)(x y:AV):Prop:=∀n,jm+k≤n→fC h n x=some y
def H9 (k:Nat)(h:AHeap)(x y:List AV):Prop:=∀n,jm+k≤n→cX h n x=some y
def fW (h:AHeap)(x y:AV):Prop:=w5 1000 h x y
section
variable {h:AHeap}{α:Type}{E:cw α}{l:List α}{K:Mem}{q i:Nat}
theorem fW.pD {x y:AV}(f:fW h x y):wX h x y:=fun n hn=>vt _ _ _ (f n hn)
theorem b9 {k:Nat}{x y:AV}(f:w5 k h x y)(hk:k≤1000:=by decide):fW h x y:=fun n hn=>f n (by omega)
theorem w6 {x y:AV}(h2:∀n,fC h (n+1) x=some y):w5 0 h x y:=fun n hn=>by
 obtain⟨k,rfl,_⟩:=kY (show jm≤n by omega)
 exact h2 k
theorem eG {k:IntKind}{n:Int}:w5 0 h (.int k n) (.int k n):=w6 fun _=>rfl
theorem au {b:Bool}:w5 0 h (.bool b) (.bool b):=w6 fun _=>rfl
theorem Ia:w5 0 h .nils (E.fz []):=w6 fun _=>rfl
def Fb:AV→Bool
 | .int _ _ | .bool _ | .str _=>true
 | _=>false
theorem l9:∀{cs:List AV} {n:Nat},cs.all Fb=true→cs.length+1<n→cX h n cs=some cs
 | [],n,_,hn=>by
  obtain⟨k,rfl⟩:∃k,n=k+1:=⟨n - 1,by omega⟩
  rfl
 | x::cs,n,h1,hn=>by
  obtain⟨k,rfl⟩:∃k,n=k+1+1:=⟨n - 2,by simp at hn; omega⟩
  simp only [Ym,Xw] at h1
  simp only [cX]
  have:fC h (k+1) x=some x:=by cases x<;>first | rfl | (simp [Fb] at h1)
  rw [this,Xr,l9 h1.2 (by simp at hn; omega)]
  rfl
theorem vu {n:Nat}(o:Has h K)(hq:K[q]? = some (i,.sl n E.n (E.l l)))(hf:∀a:α,(E.f a).all Fb=true):w5 0 h (.rs i 0 n E.n) (E.fz l):=fun m hm=>by
 have hn:=di o hq
 subst hn
 obtain⟨⟨⟨hlen,Aj⟩,mV⟩,hlt⟩:=o.at_ _ _ _ hq
 obtain⟨k,rfl,hk⟩:=kY (show jm≤m by omega)
 simp only [fC]
 rcases mV with⟨h0,h1⟩| ⟨h0,rest,h1⟩
 ·have:l=[]:=by simpa using h1
  subst this
  simp [h0,cw.fz,cw.l]
 ·rw [if_neg h0,h1]
  simp only [Xr]
  have e1:((E.l l++rest).drop 0).take (l.length*E.n)=E.l l:=by
   rw [X6,XY (by rw [hlen]; exact Xv _),X1 (by rw [hlen]; exact Xv _)]
  rw [if_pos (by rw [XB,hlen]; omega),e1,l9 ?_ (by simp only [jm] at hk; omega)]
  ·rfl
  ·rw [XT]
   intro x hx
   unfold cw.l at hx
   rw [List.mem_flatMap] at hx
   obtain⟨a,_,ha⟩:=hx
   exact XT.1 (hf a) x ha
theorem Fc:H9 0 h [] []:=fun n hn=>by
 obtain⟨k,rfl,_⟩:=kY (show jm≤n by omega)
 rfl
theorem sk {k1 k2:Nat}{x y:AV}{xs ys:List AV}(f:w5 k1 h x y)(g:H9 k2 h xs ys):H9 (k1+k2+1) h (x::xs) (y::ys):=fun n hn=>by
 obtain⟨k,rfl⟩:∃k,n=k+1:=⟨n - 1,by omega⟩
 simp only [cX]
 rw [f k (by omega),g k (by omega)]
 rfl
theorem Fe {k:Nat}{xs ys:List AV}(f:H9 k h xs ys):w5 (k+1) h (.tup xs) (.tup ys):=fun n hn=>by
 obtain⟨k,rfl⟩:∃k,n=k+1:=⟨n - 1,by omega⟩
 simp only [fC]
 rw [f k (by omega)]; rfl
def fi:Nat:=4503599627370496
theorem hH {k:Nat}{xs ys:List AV}(f:eN k h xs ys)(hk:k≤fi:=by decide):eN fi h xs ys:=fun n hn=>f n (by omega)
def vw (x y:AV):Prop:=x.dN=true∧x.jO=y
def lA (xs ys:List AV):Prop:=cH xs=true∧dq xs=ys
theorem bE {k:IntKind}{n:Int}:vw (.int k n) (.int k n):=⟨rfl,rfl⟩
theorem w7 {s:ByteArray}:vw (.str s) (.str s):=⟨rfl,rfl⟩
theorem iN (hp:E.flat=true:=by rfl):vw (E.fz l) (E.fz l):=cw.oH hp
theorem gL:lA [] []:=⟨rfl,rfl⟩
theorem cG {x y:AV}{xs ys:List AV}(a:vw x y)(b:lA xs ys):lA (x::xs) (y::ys):=⟨by simp [cH,a.1,b.1],by simp [dq,a.2,b.2]⟩
theorem nE {xs ys:List AV}(a:lA xs ys):vw (.agg xs) (.agg ys):=⟨by simpa [AV.dN] using a.1,by show AV.agg (dq xs)=_; rw [a.2]⟩
end
end Go.R
namespace Go.R
open Go
def Jl (k:IntKind)(x:Int):Int:=kZ k (if k.signed then -1 else k.max) x
def eO (l:List Int):ByteArray:=⟨(l.map fun n=>UInt8.ofNat n.toNat).toArray⟩
def eP (s:ByteArray):List Int:=s.data.toList.map fun b=>(b.toNat:Int)
section
variable {P:Program}{h:AHeap}{K:Mem}{i q:Nat}{cs fm:List AV}{x z:AV}{t:TypeId}{off:Nat}
theorem ki (o:Has h K)(nZ:cs.all AV.cE=true):∃i h',yA h cs=some (.ptr i 0,h')∧Has h' ((i,.ob cs)::K):=by
 refine⟨h.next,h.alloc (.cells cs),by unfold yA; rw [if_pos nZ],o.new (fun k hk=>by rw [AHeap.alloc,cq,if_neg (by omega)]) (YG _) (.inr (Xv _)) (Yd _) ⟨by have:=o.pos; omega,by rw [AHeap.alloc,cq,if_pos rfl]⟩⟩
theorem ca (o:Has h K)(hq:K[q]? = some (i,.ob cs))(hr:iQ P t cs off=some z):bl P h t (.ptr i off)=some z:=by
 obtain⟨⟨h1,h2⟩,_⟩:=o.at_ _ _ _ hq
 simp only [bl,jd,h2,Xr,hr]
theorem kD (o:Has h K)(hq:K[q]? = some (i,.ob cs))(hw:gA P t cs off x=some fm):∃h',iT P h t (.ptr i off) x=some h'∧Has h' (K.set q (i,.ob fm)):=by
 obtain⟨⟨h1,h2⟩,_⟩:=o.at_ _ _ _ hq
 exact⟨h.put i (.cells fm),by simp only [iT,h2,Xr,hw,Xx],iB o hq ⟨h1,by rw [cq,if_pos rfl]⟩⟩
theorem BL:∀(l:List Int),Hs (aw.l l)=some (l.map fun n=>UInt8.ofNat n.toNat)
 | []=>rfl
 | a::l=>by
  have:=BL l
  show (Hs (aw.l l)).map _=_
  rw [this]; rfl
theorem AA {a b e:TypeId}{l:List Int}{h:AHeap}{x:AV}(ha:P.underlying a=some (.slice e))(hb:P.underlying b=some .string)(hu:CS P e=true)(hc:∃n,dF h 1 x=some (aw.l l,n)):gS P h a b x=some (.str (eO l)):=by
 obtain⟨n,hc⟩:=hc
 simp only [gS,ha,hb,hu,if_true,hc,Xr,BL,Xx,eO]
theorem Ff {l:List Int}(h:AHeap):∃n,dF h 1 (aw.fz l)=some (aw.l l,n):=by
 refine⟨l.length,?_⟩
 simp only [dF,cw.fz]
 rw [if_pos (by rw [cw.cJ]; rfl)]
end
theorem aP {x y:AV}(h:vw x y):az x=y:=by
 unfold az
 rw [h.1,h.2]; rfl
theorem bo:([]:List AV).map az=[]:=rfl
theorem an {x y:AV}{xs ys:List AV}(a:az x=y)(b:xs.map az=ys):(x::xs).map az=y::ys:=by
 rw [XN,a,b]
theorem Ks {α:Type}{K L:List α}{q:Nat}{p:α}(h:L[q]? = some p):(K++L)[K.length+q]? = some p:=by
 rw [XO (by omega),Yt,h]
def Du (k:IntKind)(x y:Int):Option Int:=if y<0 then none else some (k.wrap (x*2 ^ (min y.toNat k.bits)))
theorem Fg {P:Program}{t:TypeId}{k k':IntKind}{x y v:Int}(h:Du k x y=some v):lL P .shl t (.int k x) (.int k' y)=some (.int k v):=by
 unfold Du at h
 split at h
 ·cases h
 ·rename_i hy
  cases h
  simp only [lL,AV.fu,Xr,Go.binOp,Op.shift,hy,if_false]
  rfl
theorem Ib {α:Type}{E:cw α}{h:AHeap}{K:Mem}{l:List α}{cs:List AV}(o:Has h K)(hc:cs=E.l l)(hl:l.length≤1024:=by simp) :
  ∃i h',some (AV.rs h.next 0 l.length E.n,h.alloc (.cells cs))=some (AV.rs i 0 l.length E.n,h')∧Has h' ((i,.sl l.length E.n (E.l l))::K):=by
 subst hc
 exact⟨h.next,_,rfl,o.new (fun k hk=>by rw [AHeap.alloc,cq,if_neg (by omega)]) (YG _) (.inr (Xv _)) (Yd _) ⟨⟨cw.cJ,cw.oE (by omega)⟩,.inr ⟨by have:=o.pos; omega,[],by rw [AHeap.alloc,cq,if_pos rfl]; simp⟩⟩⟩
end Go.R
