/- Part of the proof: RRow, RStep, RWalk, RG1, RG2, RG3, RG4, RT, RG5, RG6, RG7. -/
import Derived.Test.YtifafejidnjckaaK3
import Derived.ProofKit
set_option linter.unusedVariables false
set_option linter.unusedSimpArgs false
set_option maxRecDepth 100000
open Bool renaming and_eq_true → XN, false_eq_true → XX, or_eq_true → Yw
open List renaming getElem?_eq_some_iff → XQ, length_append → XU, length_set → XV, drop_eq_getElem_cons → XW, getElem?_append_left → XZ, getElem?_append_right → X1, length_cons → X2, append_assoc → X3, all_eq_true → X5, replicate → X6, mem_cons → X7, map_cons → X8, eq_nil_of_length_eq_zero → Yd, map_append → Ye, length_nil → Yf, mem_append → Yg, take_append_of_le_length → Yi, getElem?_cons_zero → Ym, take_of_length_le → Yn, nil_append → Yr, drop_zero → Ys, all_cons → YA, getElem?_of_mem → YC, length_take → YD, getElem?_cons_succ → YR, ext_getElem? → YS, set_append_right → YV, take_append_drop → YW, append_nil → Y9, length_replicate → Za, getElem?_set → Zb, take_length → Zf
open Nat renaming le_refl → XP, zero_add → Ya, lt_of_lt_of_le → Yb, beq → Yp, lt_succ_self → Yx, le_trans → Yz, mul_le_mul_right → YF, add_assoc → YI, add_sub_cancel_left → YK, eq_of_beq_eq_true → YN, sub_self → YP, le_succ → YT, add_mul → YU, lt_succ_of_lt → YZ, add_zero → Y3, ble → Y6, min_eq_left → Y7, zero_lt_one → Y8, add_comm → Zd
open Option renaming bind_some → XJ, bind_eq_some_iff → XK, map_eq_some_iff → XL, map_some → XR, isSome_none → Y4
open Option.some renaming injEq → XM
open Prod.mk renaming injEq → XS
namespace Go.R
open Go
def Ap (P:Program)(F:TypeId→List AV→Prop):List Field→List AV→Prop
 | [],xs=>xs=[]
 | f::fs,xs=>∃a b,xs=a++b∧a.length=P.cellsOf f.type∧F f.type a∧Ap P F fs b
def Fits (P:Program):Nat→TypeId→List AV→Prop
 | 0,_,_=>False
 | n+1,t,xs=>
  match P.underlying t with
  | some .bool=>∃b,xs=[.bool b]
  | some (.int k)=>∃z,xs=[.int k z]∧k.min≤z∧z≤k.max
  | some .string=>∃s:ByteArray,xs=[.str s]∧s.size≤maxLen
  | some (.slice e)=>xs=[.nils]∨∃els:List (List AV),xs=[.fz els.flatten els.length false]∧els.length≤maxLen∧∀el∈els,el.length=P.cellsOf e∧Fits P n e el
  | some (.struct fs)=>Ap P (Fits P n) fs.toList xs
  | _=>False
def sc (P:Program):Nat→List Field→Bool
 | _,[]=>true
 | k,f::fs=>Yp f.offset k&&sc P (k+P.cellsOf f.type) fs
def nj (P:Program):Nat→TypeId→Bool
 | 0,_=>false
 | n+1,t=>
  match P.underlying t with
  | some .bool | some (.int _) | some .string=>true
  | some (.slice e)=>nj P n e
  | some (.struct fs)=>sc P 0 fs.toList&&Yp (P.cellsOf t) ((fs.toList.map fun f=>P.cellsOf f.type).sum)&&fs.toList.all fun f=>nj P n f.type
  | _=>false
theorem mapM_some {α β:Type}{f:α→Option β}:∀{l:List α} {ys:List β},l.mapM f=some ys→ys.length=l.length∧∀(i:Nat) (x:α),l[i]? = some x→∃y,ys[i]? = some y∧f x=some y
 | [],ys,h=>by
  simp at h; subst h
  exact⟨rfl,fun i x hx=>by simp at hx⟩
 | a::l,ys,h=>by
  simp only [List.mapM_cons,Option.bind_eq_bind,XK,Option.pure_def,XM] at h
  obtain⟨y,hy,zs,hz,rfl⟩:=h
  obtain⟨h1,h2⟩:=mapM_some hz
  refine⟨by simp [h1],fun i x hx=>?_⟩
  cases i with
  | zero=>simp at hx; subst hx; exact⟨y,rfl,hy⟩
  | succ i=>simpa using h2 i x (by simpa using hx)
theorem Aq {w:World}{a:Addr}{v:Value}(h:w.cell? a=some v):w.cell? ⟨a.block,a.off,none⟩=some v∧a.spot=none:=by
 unfold World.cell? at h ⊢
 split at h
 ·rename_i c t fr hb
  rw [hb]
  simp only at h ⊢
  cases hs:a.spot with
  | none=>rw [hs] at h; exact⟨by simpa using h,rfl⟩
  | some _=>rw [hs] at h; simp at h
 ·cases h
theorem nP (a:Addr)(n:Nat):(a.add n).block=a.block∧(a.add n).off=a.off+n:=by
 unfold Addr.add
 split
 ·rename_i h; subst h; exact⟨rfl,rfl⟩
 ·exact⟨rfl,rfl⟩
theorem yp {w:World}{base:Nat}{a:Addr}{n:Nat}{cs:List Value}(h:w.cells? base a n=some cs):cs.length=n∧∀i,i<n→w.cell? ⟨a.block,a.off+i,none⟩=cs[i]?∧(i=0→a.spot=none):=by
 unfold World.cells? at h
 split at h
 ·obtain⟨h1,h2⟩:=mapM_some h
  refine⟨by simpa using h1,fun i hi=>?_⟩
  obtain⟨y,hy,hc⟩:=h2 i i (by simp [hi])
  obtain⟨h3,h4⟩:=Aq hc
  rw [(nP a i).1,(nP a i).2] at h3
  refine⟨by rw [h3,hy],fun h0=>?_⟩
  subst h0
  simpa [Addr.add] using h4
 ·cases h
theorem ri {α:Type}{Q:Nat→α→Prop}:∀n,(∀i,i<n→∃x,Q i x)→∃l:List α,l.length=n∧∀i x,l[i]? = some x→Q i x
 | 0,_=>⟨[],rfl,fun i x h=>by simp at h⟩
 | n+1,h=>by
  obtain⟨l,h1,h2⟩:=ri n fun i hi=>h i (by omega)
  obtain⟨x,hx⟩:=h n (by omega)
  refine⟨l++[x],by simp [h1],fun i y hy=>?_⟩
  by_cases hi:i<n
  ·exact h2 i y (by rwa [XZ (by omega)] at hy)
  ·rw [X1 (by omega)] at hy
   have:i=n:=by
    have:=(XQ.1 hy).1
    simp at this; omega
   subst this
   simp [h1] at hy
   subst hy; exact hx
theorem Cells.append {c:Cx}{L:Nat→Prop}:∀{xs ys:List AV} {b o:Nat},Cells c L xs b o→Cells c L ys b (o+xs.length)→Cells c L (xs++ys) b o
 | [],ys,b,o,_,h=>by simpa using h
 | x::xs,ys,b,o,h,k=>⟨h.1,Cells.append h.2 (by simpa [YI,Zd 1] using k)⟩
theorem Cells.flatten {c:Cx}{L:Nat→Prop}{b size:Nat}:∀(els:List (List AV)) (o:Nat),(∀i el,els[i]? = some el→el.length=size∧Cells c L el b (o+i*size))→Cells c L els.flatten b o
 | [],o,_=>trivial
 | el::els,o,h=>by
  obtain⟨h1,h2⟩:=h 0 el rfl
  rw [List.flatten_cons]
  refine Cells.append (by simpa using h2) (Cells.flatten (size:=size) els _ fun i U5 he=>?_)
  obtain⟨h3,h4⟩:=h (i+1) U5 (by simpa using he)
  refine⟨h3,?_⟩
  rw [h1]
  rwa [show o+size+i*size=o+(i+1)*size by rw [YU,Nat.one_mul]; omega]
section
variable {H:Type}{enc:TypeId × Value→H}{P:Program}{c:Cx}{sp:Nat→Bool}{held:Bool}
theorem rj {F:TypeId→List AV→Prop}{g:TypeId→List Value→Option (DataW H × List MemPlace)}(hg:∀t cs x,g t cs=some x→cs.length=P.cellsOf t→(∃u:Nat,u=0)→True) :
  ∀(fs:List Field) (k:Nat) (cs:List Value) (xs:List (DataW H × List MemPlace)),sc P k fs=true→(∀f∈fs,∀cs x,g f.type cs=some x→cs.length=P.cellsOf f.type→∃ys,VRs c none0 ys cs∧F f.type ys∧∀v∈cs,v.oneCell'=true)→
   (fs.mapM fun f=>g f.type ((cs.drop f.offset).take (P.cellsOf f.type)))=some xs→k+(fs.map fun f=>P.cellsOf f.type).sum≤cs.length→
   ∃ys,VRs c none0 ys ((cs.drop k).take ((fs.map fun f=>P.cellsOf f.type).sum))∧Ap P F fs ys∧∀v∈(cs.drop k).take ((fs.map fun f=>P.cellsOf f.type).sum),v.oneCell'=true
 | [],k,cs,xs,_,_,_,_=>⟨[],by simp [VRs],rfl,by simp⟩
 | f::fs,k,cs,xs,hc,hF,h,hl=>by
  simp only [sc,XN,beq_nat,decide_eq_true_eq] at hc
  obtain⟨rfl,hc⟩:=hc
  simp only [List.mapM_cons,Option.bind_eq_bind,XK,Option.pure_def,XM] at h
  obtain⟨y,hy,zs,hz,rfl⟩:=h
  simp only [X8,List.sum_cons] at hl ⊢
  have hlen:((cs.drop f.offset).take (P.cellsOf f.type)).length=P.cellsOf f.type:=by simp; omega
  obtain⟨a,ha,U6,h1⟩:=hF f (by simp) _ _ hy hlen
  obtain⟨b,hb,U7,h2⟩:=rj hg fs (f.offset+P.cellsOf f.type) cs zs hc (fun f' Pd=>hF f' (by simp [Pd])) hz (by omega)
  have Kc:(cs.drop f.offset).take (P.cellsOf f.type+(fs.map fun f=>P.cellsOf f.type).sum)=(cs.drop f.offset).take (P.cellsOf f.type)++((cs.drop (f.offset+P.cellsOf f.type)).take ((fs.map fun f=>P.cellsOf f.type).sum)):=by
   rw [List.take_add,List.drop_drop]
  rw [Kc]
  refine⟨a++b,VRs.append ha hb,⟨a,b,rfl,?_,U6,U7⟩,fun v hv=>?_⟩
  ·rw [ha.length,hlen]
  ·rcases Yg.1 hv with hv | hv
   ·exact h1 v hv
   ·exact h2 v hv
theorem qu (xD:∀id,c.h.get id=none):∀(m:Nat) (t:TypeId) (fuel:Nat) (cs:List Value) (d:DataW H) (ps:List MemPlace),nj P m t=true→DataW.trod enc P c.w 0 sp held fuel t cs=some (d,ps)→
  ∃xs,VRs c none0 xs cs∧Fits P m t xs∧∀v∈cs,v.oneCell'=true
 | 0,_,_,_,_,_,hB,_=>by simp [nj] at hB
 | m+1,t,0,cs,d,ps,hB,h=>by simp [DataW.trod] at h
 | m+1,t,fuel+1,cs,d,ps,hB,h=>by
  have hnl:∀id,¬Live c.h id:=fun id hl=>by have:=hl.2; rw [xD id] at this; cases this
  unfold nj at hB
  unfold Fits
  cases hu:P.underlying t with
  | none=>rw [hu] at hB; cases hB
  | some td=>
  rw [hu] at hB
  cases td<;>simp only at hB ⊢<;>try (cases hB; done)
  ·
   unfold DataW.trod at h
   rw [hu] at h
   split at h<;>first | (rename_i heq; cases heq; done) | skip
   all_goals try (rename_i heq _; cases heq; done)
   all_goals (first | (cases h; done) | skip)
   ·rename_i b _
    exact⟨[.bool b],⟨by simp [VR],trivial⟩,⟨b,rfl⟩,by simp [Value.oneCell']⟩
  ·rename_i k
   unfold DataW.trod at h
   rw [hu] at h
   split at h<;>first | (rename_i heq; cases heq; done) | skip
   all_goals try (rename_i heq _; cases heq; done)
   ·rename_i k' k2 n heq
    cases heq
    split at h
    ·rename_i hk
     obtain⟨rfl,Ox⟩:=hk
     simp only [Lit.wf,XN,decide_eq_true_eq] at Ox
     exact⟨[.int k2 n],⟨by simp [VR],trivial⟩,⟨n,rfl,Ox⟩,by simp [Value.oneCell']⟩
    ·cases h
   ·cases h
  ·
   unfold DataW.trod at h
   rw [hu] at h
   split at h<;>first | (rename_i heq; cases heq; done) | skip
   all_goals try (rename_i heq _; cases heq; done)
   ·rename_i s _
    split at h
    ·rename_i hs
     exact⟨[.str s],⟨by simp [VR],trivial⟩,⟨s,rfl,hs⟩,by simp [Value.oneCell']⟩
    ·cases h
   ·cases h
  ·
   rename_i e
   unfold DataW.trod at h
   rw [hu] at h
   split at h<;>first | (rename_i heq; cases heq; done) | skip
   all_goals try (rename_i heq _; cases heq; done)
   ·exact⟨[.nils],⟨by simp [VR],trivial⟩,.inl rfl,by simp [Value.oneCell']⟩
   ·rename_i e' a len cap heq
    cases heq
    simp only at h
    split at h
    rotate_left
    ·cases h
    rename_i hbound
    obtain⟨_,hlc,hcap⟩:=hbound
    rw [XK] at h
    obtain⟨elems,MV,_⟩:=h
    obtain⟨hn,hget⟩:=mapM_some MV
    have key:∀i,i<len→∃el:List AV,el.length=P.cellsOf e∧Fits P m e el∧Cells c none0 el a.block (a.off+i*P.cellsOf e)∧(i=0→0<P.cellsOf e→a.spot=none):=by
     intro i hi
     obtain⟨y,_,hy⟩:=hget i i (by simp [hi])
     rw [XK] at hy
     obtain⟨U8,hcs,hy⟩:=hy
     obtain⟨hl,og⟩:=yp hcs
     obtain⟨el,hv,hf,h1⟩:=qu xD m e fuel U8 y.1 y.2 hB hy
     refine⟨el,by rw [hv.length,hl],hf,Cells.of_vals hv (fun j hj=>?_) h1,fun h0 pj=>?_⟩
     ·have:=(og j (by omega)).1
      rwa [(nP a _).1,(nP a _).2] at this
     ·subst h0
      have:=(og 0 pj).2 rfl
      simpa [Addr.add] using this
    obtain⟨els,hl,DF⟩:=ri len key
    refine⟨[.fz els.flatten els.length false],⟨?_,trivial⟩,.inr ⟨els,rfl,by omega,fun el MV=>?_⟩,by simp [Value.oneCell']⟩
    ·simp only [VR]
     refine⟨some a,cap,by rw [hl],by omega,by simp,.inl rfl,?_⟩
     by_cases Kd:els.flatten=[]
     ·exact .inl Kd
     ·have pj:0<len∧0<P.cellsOf e:=by
       cases els with
       | nil=>simp at Kd
       | cons el els=>
        refine⟨by simp at hl; omega,?_⟩
        rcases Nat.eq_zero_or_pos (P.cellsOf e) with h0 | h0
        ·exfalso
         apply Kd
         rw [List.flatten_eq_nil_iff]
         intro l oV
         obtain⟨i,hi⟩:=YC oV
         have:=(DF i l hi).1
         exact Yd (by omega)
        ·exact h0
      have Jp:a.spot=none:=by
       cases els with
       | nil=>simp at hl; omega
       | cons el els=>exact (DF 0 el rfl).2.2.2 rfl pj.2
      refine .inr ⟨a.block,a.off,?_,⟨fun id hl=>absurd hl (hnl id),fun h=>h.elim⟩,by simp,Cells.flatten els a.off fun i el hi=>⟨(DF i el hi).1,(DF i el hi).2.2.1⟩⟩
      cases a; simp at Jp; subst Jp; rfl
    ·obtain⟨i,hi⟩:=YC MV
     exact⟨(DF i el hi).1,(DF i el hi).2.1⟩
   ·cases h
  ·
   rename_i fs
   simp only [XN,beq_nat,decide_eq_true_eq,X5] at hB
   obtain⟨⟨Pu,Pv⟩,MW⟩:=hB
   simp only [DataW.trod,hu] at h
   split at h
   rotate_left
   ·cases h
   rename_i hlen
   rw [XL] at h
   obtain⟨xs,hx,_⟩:=h
   obtain⟨ys,h1,h2,h3⟩:=rj (P:=P) (c:=c) (F:=Fits P m) (g:=fun t cs=>DataW.trod enc P c.w 0 sp held fuel t cs) (fun _ _ _ _ _ _=>trivial) fs.toList 0 cs xs Pu
    (fun f hf cs x hx _=>qu xD m f.type fuel cs x.1 x.2 (MW f hf) hx) hx (by omega)
   have lq:(cs.drop 0).take ((fs.toList.map fun f=>P.cellsOf f.type).sum)=cs:=by
    rw [Ys,←Pv,←hlen,Zf]
   rw [lq] at h1 h3
   exact⟨ys,h1,h2,h3⟩
def kh (P:Program)(t:TypeId)(xs:List AV):AV:=
 match P.underlying t with
 | some (.struct _)=>.agg xs
 | _=>xs.headD .any
def pC (P:Program)(m:Nat):List TypeId→List AV→Prop
 | [],[]=>True
 | t::ts,x::wK=>(∃xs,x=kh P t xs∧Fits P m t xs)∧pC P m ts wK
 | _,_=>False
theorem DG {w:World}{m:Nat}{t:TypeId}{v:Value}{base:Nat}(hB:nj P m t=true)(hs:∀fs,P.underlying t≠some (.struct fs))(h:Value.okWide P w .any base t v):v.cells.toList=[v]:=by
 cases m with
 | zero=>simp [nj] at hB
 | succ m=>
 unfold nj at hB
 unfold Value.okWide at h
 cases hu:P.underlying t with
 | none=>rw [hu] at hB; cases hB
 | some td=>
 rw [hu] at hB h
 cases td<;>simp only at hB h<;>first
  | (cases hB; done)
  | (exact absurd hu (hs _))
  | (cases v<;>simp only [Cell.okWide,Cell.ok,hu] at h<;>first | (exact h.elim) | rfl | (simp [Value.cells]))
theorem Fg (xD:∀id,c.h.get id=none){m:Nat}{t:TypeId}{v:Value}{d:DataW H}{ps:List MemPlace}{base:Nat}(hB:nj P m t=true)(ho:Value.okWide P c.w .any base t v)(h:DataW.Trod enc P c.w 0 sp held t v d ps) :
  ∃xs,Fits P m t xs∧VR c none0 (kh P t xs) v:=by
 obtain⟨fuel,h⟩:=h
 obtain⟨xs,h1,h2,_⟩:=qu xD m t fuel _ d ps hB h
 refine⟨xs,h2,?_⟩
 by_cases hs:∃fs,P.underlying t=some (.struct fs)
 ·obtain⟨fs,hs⟩:=hs
  unfold Value.okWide at ho
  rw [hs] at ho
  obtain⟨cs,rfl,_⟩:=ho
  unfold kh
  rw [hs]
  simp only [VR]
  exact⟨cs,rfl,h1⟩
 ·have Jg:∀fs,P.underlying t≠some (.struct fs):=fun fs h=>hs ⟨fs,h⟩
  have hc:=DG hB Jg ho
  rw [hc] at h1
  have hx:kh P t xs=xs.headD .any:=by
   unfold kh
   split
   ·rename_i fs h; exact absurd h (Jg fs)
   ·rfl
  rw [hx]
  cases xs with
  | nil=>exact h1.elim
  | cons x xs=>exact h1.1
theorem yq (xD:∀id,c.h.get id=none){m base:Nat}:∀(ts:List TypeId) (vs:List Value) (ds:List (DataW H)) (ps:List MemPlace),(∀t∈ts,nj P m t=true)→(∀(j:Nat) t v,ts[j]? = some t→vs[j]? = some v→Value.okWide P c.w .any base t v)→
  DataW.TrodAll enc P c.w 0 sp held ts vs ds ps→∃wK,pC P m ts wK∧VRs c none0 wK vs
 | [],[],[],_,_,_,_=>⟨[],trivial,trivial⟩
 | t::ts,v::vs,d::ds,ps,hB,ho,h=>by
  obtain⟨p,q,h1,h2,_⟩:=h
  obtain⟨xs,h3,h4⟩:=Fg xD (hB t (by simp)) (ho 0 t v rfl rfl) h1
  obtain⟨wK,h5,h6⟩:=yq xD ts vs ds q (fun t ht=>hB t (by simp [ht])) (fun j t v hj hv=>ho (j+1) t v (by simpa using hj) (by simpa using hv)) h2
  exact⟨kh P t xs::wK,⟨⟨xs,rfl,h3⟩,h5⟩,h4,h6⟩
 | [],[],_::_,_,_,_,h=>h.elim
 | [],_::_,_,_,_,_,h=>by cases h
 | _::_,[],_,_,_,_,h=>by cases h
 | _::_,_::_,[],_,_,_,h=>by cases h
theorem kS (hl:laidOutB P=true){W W':World}{SL:Nat→Bool}:∀{ts:List TypeId} {vs:List Value} {ds:List (DataW H)} {ps:List MemPlace},(∀t∈ts,P.readableRec t=true∧t<P.types.size)→
  DataW.TrodAll enc P W 0 (fun _=>true) true ts vs ds ps→(∀p∈ps,W.sameAt W' p)→(∀p∈ps,SL p.block=true)→DataW.TrodAll enc P W' 0 SL true ts vs ds ps
 | [],[],[],_,_,h,_,_=>h
 | t::ts,v::vs,d::ds,ps,hr,h,hs,hp=>by
  obtain⟨p,q,h1,h2,rfl⟩:=h
  exact⟨p,q,WideElems.Trod_stays hl (hr t (by simp)).1 (hr t (by simp)).2 h1 (fun x hx=>hs x (by simp [hx])) (fun x hx=>hp x (by simp [hx])),
   kS hl (fun t ht=>hr t (by simp [ht])) h2 (fun x hx=>hs x (by simp [hx])) (fun x hx=>hp x (by simp [hx])),rfl⟩
 | [],[],_::_,_,_,h,_,_=>h.elim
 | [],_::_,_,_,_,h,_,_=>by cases h
 | _::_,[],_,_,_,h,_,_=>by cases h
 | _::_,_::_,[],_,_,h,_,_=>by cases h
theorem DH {f:Func}{s:ChangeSpec}{apart fresh handsOn again:Bool}{W W':World}{args:Array Value}{ds gs:List (DataW H)}{before:List MemPlace}{tb:TypeId}
  (hl:laidOutB P=true) (hr:∀t∈f.params.toList,P.readableRec t=true∧t<P.types.size) (hW:DataW.Whole enc P f.params.toList s.vars apart W args.toList ds gs before) (hv:s.vars=[])
  (Fh:f.resultTypes = #[tb]) (Oy:P.underlying tb=some .bool) (MX:(s.fn H (ds++gs))={results:=[.lit (.bool true)],args:=ds}) (hb:RowKit.Below W.heap.size W W') :
  s.post enc P f apart fresh handsOn again W args (.bool true) W':=by
 have hlt:=hW.lt
 have hW0:=hW
 obtain⟨p,q,hA,hV,SM,hz,hn⟩:=hW
 rw [hv] at hV
 have Pw:gs=[]∧q=[]:=by
  cases gs with
  | nil=>exact⟨rfl,hV⟩
  | cons g gs=>exact hV.elim
 obtain⟨rfl,rfl⟩:=Pw
 have Px:before=p:=by simpa using SM
 subst Px
 have Jq:∀x∈before,W.sameAt W' x:=fun x hx=>hb.same (hlt x hx)
 have MY:(Value.bool true).resultList f.resultTypes.size=[.bool true]:=by rw [Fh]; rfl
 have Jr:∀(b:Nat) (sp:Nat→Bool) (hd:Bool),DataW.TrodAll enc P W' b sp hd f.resultTypes.toList ((Value.bool true).resultList f.resultTypes.size) [.lit (.bool true)] []:=by
  intro b sp hd
  rw [MY,Fh]
  exact ChangeShapes.trodAll_mk1 (RowKit.shut_bool Oy true)
 refine⟨ds,[],before,[],before,[],hW0,?_,?_,?_,?_,fun _=>⟨?_,?_⟩⟩
 ·rw [MX]; exact Jr _ _ _
 ·rw [MX]
  exact kS hl hr hA Jq (fun x hx=>by simpa using hlt x hx)
 ·rw [MX,hv]; rfl
 ·exact hb.frame _
 ·exact RowKit.ok_one Fh rfl (RowKit.okWide_bool_mk Oy true)
 ·refine⟨_,[],before,⟨[]++before,[],ChangeShapes.trodAll_append (kS hl hr hA Jq (fun _ _=>rfl)) (Jr 0 _ _),by rw [hv]; rfl,by simp,fun b off hx=>?_,hn⟩,fun p hp _=>hp⟩
  rw [hb.frozen (p:=⟨b,off,none⟩) (hlt _ hx)]
  exact hz b off hx
theorem Ext.below {c c':Cx}(e:Ext c none0 c' none0):RowKit.Below c.base c.w c'.w:=⟨e.os,e.tape,e.output,e.size,fun b hb=>e.exact b hb⟩
theorem uF {cf:CallF}{Ak:FuncId}{f:Func}{s:ChangeSpec}{apart fresh handsOn again:Bool}{m:Nat}{tb:TypeId}
  (hl:laidOutB P=true) (hr:∀t∈f.params.toList,P.readableRec t=true∧t<P.types.size) (hB:∀t∈f.params.toList,nj P m t=true) (hv:s.vars=[]) (Fh:f.resultTypes = #[tb]) (Oy:P.underlying tb=some .bool)
  (MX:∀ds:List (DataW H),ds.length=f.params.size→(s.fn H ds)={results:=[.lit (.bool true)],args:=ds})
  (hcf:∀wK,pC P m f.params.toList wK→∃cf h',CallOK P cf∧cf Ak wK bA=some (.bool true,h'))
  {W:World} {base:Nat} {args:Array Value} {ds gs:List (DataW H)} {before:List MemPlace} (eC:∀(j:Nat) t v,f.params[j]? = some t→args[j]? = some v→Value.okWide P W .any base t v)
  (hW:DataW.Whole enc P f.params.toList s.vars apart W args.toList ds gs before) :
  Calls P Ak args W fun e W'=>∃v,e = .returned v∧s.post enc P f apart fresh handsOn again W args v W':=by
 have hW0:=hW
 obtain⟨p,q,hA,hV,SM,_,_⟩:=hW
 let c:Cx:=⟨fun _=>(0,0),bA,W,W.heap.size⟩
 obtain⟨wK,h1,h2⟩:=yq (c:=c) (P:=P) (m:=m) (base:=base) (fun _=>rfl) f.params.toList args.toList ds p hB (fun j t v hj hv=>eC j t v (by simpa using hj) (by simpa using hv)) hA
 obtain⟨cf,h',oX,Py⟩:=hcf wK h1
 have hnl:∀id,¬Live c.h id:=fun id hl=>by have:=hl.2; cases this
 have hcall:=(oX Ak wK bA _ _ Py).2 none0 c args.toList rfl (XP _) ⟨fun id o ho=>(by cases ho),fun id o ho=>(by cases ho),fun id _ hl _ _=>absurd hl (hnl id),fun id hl=>absurd hl (hnl id),fun b hb=>hb.elim,fun id hl=>absurd hl (hnl id),fun _=>Y8⟩ h2
 rw [Array.toArray_toList] at hcall
 have hlen:∀(ts:List TypeId) (vs:List Value) (ds:List (DataW H)) (p:List MemPlace),DataW.TrodAll enc P W 0 (fun _=>true) true ts vs ds p→ds.length=ts.length:=by
  intro ts
  induction ts with
  | nil=>intro vs ds p h; cases vs<;>cases ds<;>first | rfl | (cases h; done) | exact h.elim
  | cons t ts ih=>intro vs ds p h; cases vs<;>cases ds<;>first | (cases h; done) | (obtain⟨_,_,_,h2,_⟩:=h; simp [ih _ _ _ h2])
 have Pw:gs=[]:=by
  rw [hv] at hV
  cases gs with
  | nil=>rfl
  | cons g gs=>exact hV.elim
 refine hcall.mono ?_
 rintro e w' ⟨c',v,rfl,rfl,hh,Bi,hrel,JY⟩
 simp only [VR] at Bi
 subst Bi
 refine⟨_,rfl,DH hl hr hW0 hv Fh Oy ?_ JY.below⟩
 rw [Pw,Y9]
 exact MX ds (by rw [hlen _ _ _ _ hA]; simp)
end
end Go.R
namespace Go.R
open Go
section
variable {P:Program}{cf:CallF}{aI ds:List Nat}{s:RS}{d:Option Tmp}{t:TypeId}{p:String}{a:Array Edge}{g:Option (Nat × Bool)}{ops:List Oper}{ρ:Nat→AV}{bx:Nat→Option (List AV)}{h:AHeap}
variable {A:bY}{m:Nat}{st:St}
end
end Go.R
namespace Go.R
open Go
def sub:List Nat→Code→Code
 | [],c=>c
 | 0::p,.seq a _=>sub p a
 | _::p,.seq _ b=>sub p b
 | 0::p,.cond _ a _=>sub p a
 | _::p,.cond _ _ b=>sub p b
 | _::p,.block _ a=>sub p a
 | _::p,.loop a=>sub p a
 | _,c=>c
def bW (f:Func):Code:=f.body.getD .skip
end Go.R
namespace Go.R
open Go
section
variable (P:Program)
def bC (h:AHeap)(t:TypeId)(x:AV):Option AV:=jZ P (fun _=>none) h t x
def jf (h:AHeap)(t:TypeId)(a x:AV):Option AHeap:=
 match a with
 | .ptr id off=>(h.get id).bind fun | .cells cs=>(hH P t cs off x).map fun fI=>h.put id (.cells fI) | _=>none
 | _=>none
def BE (cf:CallF)(f:AV)(as:List AV)(h:AHeap):Option (AV × AHeap):=
 match f with
 | .fn f cap=>if as.all AV.kE then cf f (as++cap) h else none
 | _=>none
def yr (h:AHeap)(cs:List AV):Option (AV × AHeap):=if cs.all AV.b4 then some (.ptr h.next 0,h.alloc (.cells cs)) else none
def DI (aI:List Nat)(d:Option Nat):Bool:=match d with | some d=>!aI.contains d | none=>false
def Fi (aI:List Nat)(h:AHeap)(o:Oper)(t:TypeId)(x:Option AV):Option (AV × AHeap):=
 x.bind fun x=>(oB P aI o t x).map fun (cs,n,z)=>(.rs h.next 0 n z,h.alloc (.cells cs))
def Ke (e:Operand→AV)(h:AHeap)(o:Oper)(z:AV):Prop:=
 match o.op with
 | .move x | .assign x=>e x=z
 | .load t a=>bC P h t (e a)=some z
 | .binOp op t x y _=>mT P op t (e x) (e y)=some z
 | .unOp op _ x=>((e x).gC.bind fun a=>(iQ P (Op.unary op a)).bind pa)=some z
 | .convert a b x=>mS P h a b (e x)=some z
 | .slice t x lo hi mx=>lN P t (e x) (lo.map e) (hi.map e) (mx.map e)=some z
 | .indexAddr t x i=>fo P t (e x) (e i)=some z
 | .index t x i=>p8 P t (e x) (e i)=some z
 | .lookup t m k ok=>eR P h t (e m) (e k) ok=some z
 | .call {callee:=.builtin .len,args,argTypes}=>match argTypes.toList,args.toList.map e with
  | [t],[x]=>sv P h t x=some z
  | _,_=>False
 | _=>False
def Kf (cf:CallF)(aI:List Nat)(e:Operand→AV)(h:AHeap)(o:Oper)(z:AV)(h':AHeap):Prop:=
 match o.op with
 | .store t a x=>bif o.dst.isSome then False else jf P h t (e a) (e x)=some h'
 | .alloc t=>bif DI aI o.dst then (iI P t).bind (fun z=>yr h (zX aI o.dst z.cells))=some (z,h') else False
 | .box _ x=>bif DI aI o.dst then yr h (e x).cells=some (z,h') else False
 | .buildSlice t n ps=>Fi P aI h o t (gP P t n (ps.toList.map fun (i,x)=>(i,e x)))=some (z,h')
 | .makeMap _ none=>(AV.mp h.next,h.alloc (.map []))=(z,h')
 | .makeSlice t l c=>gQ P h t (e l) (e c)=some (z,h')
 | .mapUpdate t m k x | .insert t m k x=>bif o.dst.isSome then False else hJ P h t (e m) (e k) (e x)=some h'
 | .call {callee:=.builtin .append,args,argTypes}=>match argTypes.toList,args.toList.map e with
  | [t,t2],[x,y]=>dU P h t t2 x y=some (z,h')
  | _,_=>False
 | .call {callee:=.builtin .copy,args,argTypes}=>match argTypes.toList,args.toList.map e with
  | [t,t2],[x,y]=>qQ P h t t2 x y=some (z,h')
  | _,_=>False
 | .call {callee:=.value f,args,..}=>bif Mi aI o.dst then (BE cf (e f) (args.toList.map e) h).bind (fun x=>jw 0 x.2 x.1)=some (z,h') else BE cf (e f) (args.toList.map e) h=some (z,h')
 | .call {callee:=.builtin .clear,args,argTypes}=>match argTypes.toList,args.toList.map e with
  | [t],[x]=>(lP P h t x).map (fun h=>(AV.tup [],h))=some (z,h')
  | _,_=>False
 | _=>False
end
abbrev H4:=List (Nat × AV × Option AHeap)
def rH (P:Program)(cf:CallF)(aI:List Nat)(ops:List Oper):RS→Nat→List Oper→H4→Option (List mD × RS × Prop)
 | s,_,[],[]=>some ([],s,True)
 | _,_,[],_::_=>none
 | s,i,o::os,zs=>
  (hU ops s.ρ o).bind fun w=>
   bif w then
    match zs with
    | []=>(vV P cf aI (ops.filterMap (·.dst)) s o).bind fun s1=>(rH P cf aI ops s1 (i+1) os []).map fun (l,r,p)=>({o,f:=bq aI (bP s.ρ) o,s,s':=s1}::l,r,p)
    | (j,z,oh)::ve=>
     bif Yp i j then
      match oh with
      | none=>(rH P cf aI ops (s.set o.dst z) (i+1) os ve).map fun (l,r,p)=>({o,f:=bq aI (bP s.ρ) o,s,s':=s.set o.dst z}::l,r,Ke P (bP s.ρ) s.h o z∧p)
      | some h'=>(rH P cf aI ops (({s with h:=h'}:RS).set o.dst z) (i+1) os ve).map fun (l,r,p)=>({o,f:=bq aI (bP s.ρ) o,s,s':=({s with h:=h'}:RS).set o.dst z}::l,r,Kf P cf aI (bP s.ρ) s.h o z h'∧p)
     else (vV P cf aI (ops.filterMap (·.dst)) s o).bind fun s1=>(rH P cf aI ops s1 (i+1) os zs).map fun (l,r,p)=>({o,f:=bq aI (bP s.ρ) o,s,s':=s1}::l,r,p)
   else (rH P cf aI ops (s.set o.dst (.tup [])) (i+1) os zs).map fun (l,r,p)=>({o,f:={},s,s':=s.set o.dst (.tup [])}::l,r,p)
section
variable {P:Program}{cf:CallF}{aI:List Nat}
theorem Fj {h:AHeap}{t:TypeId}{x z:AV}{bx:Nat→Option (List AV)}(hh:bC P h t x=some z):jZ P bx h t x=some z:=by
 cases x<;>first | exact hh | (simp [bC,jZ] at hh)
theorem H5 {s:RS}{o:Oper}{z:AV}(h:Ke P (bP s.ρ) s.h o z)(ds:List Nat):vV P cf aI ds s o=some (s.set o.dst z):=by
 unfold Ke at h
 unfold vV zY
 dsimp only
 split at h
 ·rename_i ho; rw [ho]; simp only [h]
 ·rename_i ho; rw [ho]; simp only [h]
 ·rename_i ho; rw [ho]; simp only [Fj h,XR]
 ·rename_i ho; rw [ho]; simp only [h,XR]
 ·rename_i ho; rw [ho]; simp only [h,XR]
 ·rename_i ho; rw [ho]; simp only [h,XR]
 ·rename_i ho; rw [ho]; simp only [h,XR]
 ·rename_i ho; rw [ho]; simp only [h,XR]
 ·rename_i ho; rw [ho]; simp only [h,XR]
 ·rename_i ho; rw [ho]; simp only [h,XR]
 ·rename_i ho
  rw [ho]
  split at h
  ·rename_i h1 h2
   simp only [h1,h2,gi,h,XR]
  ·exact h.elim
 ·exact h.elim
theorem yt {s:RS}{o:Oper}{cs:List AV}{z:AV}{h':AHeap}(hn:DI aI o.dst=true)(h:yr s.h cs=some (z,h'))(ds:List Nat):iD s aI ds o cs=some (({s with h:=h'}:RS).set o.dst z):=by
 unfold yr at h
 split at h
 rotate_left
 ·cases h
 rename_i oX
 simp only [XM,XS] at h
 obtain⟨rfl,rfl⟩:=h
 unfold iD
 rw [if_pos oX]
 unfold DI at hn
 split at hn
 ·rename_i d hd
  rw [hd]
  have:aI.contains d=false:=by simpa using hn
  simp only [this,XX,if_false]
 ·cases hn
theorem H6 {s:RS}{o:Oper}{z:AV}{h':AHeap}(h:Kf P cf aI (bP s.ρ) s.h o z h')(ds:List Nat):vV P cf aI ds s o=some (({s with h:=h'}:RS).set o.dst z):=by
 unfold Kf at h
 unfold vV zY
 dsimp only
 split at h
 ·rename_i t a x ho
  rw [ho]
  cases hd:o.dst with
  | some d=>rw [hd] at h; exact h.elim
  | none=>
   rw [hd] at h
   simp only [Y4,cond_false] at h
   simp only [Y4,XX,if_false]
   unfold jf at h
   split at h
   ·rename_i id off he
    rw [he]
    simp only [XK] at h ⊢
    obtain⟨ob,hob,h⟩:=h
    refine⟨ob,hob,?_⟩
    split at h
    ·rw [XL] at h ⊢
     obtain⟨fI,hcs,rfl⟩:=h
     exact⟨fI,hcs,rfl⟩
    ·cases h
   ·cases h
 ·rename_i t ho
  rw [ho]
  cases hn:DI aI o.dst with
  | false=>rw [hn] at h; exact h.elim
  | true=>
   rw [hn] at h
   simp only [cond_true,XK] at h
   obtain⟨z0,h1,h2⟩:=h
   simp only [h1,XJ]
   exact yt hn h2 ds
 ·rename_i t x ho
  rw [ho]
  cases hn:DI aI o.dst with
  | false=>rw [hn] at h; exact h.elim
  | true=>
   rw [hn] at h
   exact yt hn h ds
 ·rename_i t n ps ho
  rw [ho]
  unfold Fi at h
  simp only [XK,XL] at h
  obtain⟨x,hx,⟨cs,k,q⟩,ht,he⟩:=h
  simp only [XS] at he
  obtain⟨rfl,rfl⟩:=he
  simp only [hx,XR,qa,ht]
 ·rename_i ho
  rw [ho]
  simp only [XS] at h
  obtain⟨rfl,rfl⟩:=h
  rfl
 ·rename_i ho; rw [ho]; simp only [h,XR]
 ·rename_i t m k x ho
  rw [ho]
  cases hd:o.dst with
  | some d=>rw [hd] at h; exact h.elim
  | none=>
   rw [hd] at h
   simp only [Y4,cond_false] at h
   simp only [Y4,XX,if_false,h,XR]
   rfl
 ·rename_i t m k x ho
  rw [ho]
  cases hd:o.dst with
  | some d=>rw [hd] at h; exact h.elim
  | none=>
   rw [hd] at h
   simp only [Y4,cond_false] at h
   simp only [Y4,XX,if_false,h,XR]
   rfl
 ·rename_i ho
  rw [ho]
  split at h
  ·rename_i h1 h2
   simp only [h1,h2,gi,h,XR]
  ·exact h.elim
 ·rename_i ho
  rw [ho]
  split at h
  ·rename_i h1 h2
   simp only [h1,h2,gi,h,XR]
  ·exact h.elim
 ·rename_i f args By ho
  rw [ho]
  have key:∀{x:AV × AHeap},BE cf (bP s.ρ f) (args.toList.map (bP s.ρ)) s.h=some x→vU aI o.dst x=some (z,h')→
    (match bP s.ρ f with
     | .fn f cap=>if (args.toList.map (bP s.ρ)).all AV.kE then ((cf f (args.toList.map (bP s.ρ)++cap) s.h).bind (vU aI o.dst)).map fun (r,h)=>({s with h}:RS).set o.dst r else none
     | _=>none)=some (({s with h:=h'}:RS).set o.dst z):=by
   intro x hx hm
   unfold BE at hx
   split at hx
   ·rename_i g cap he
    try rw [he]
    try dsimp only
    split at hx
    ·rename_i oX
     simp only [oX,if_true,hx,XJ,hm,XR]
    ·cases hx
   ·cases hx
  cases hm:Mi aI o.dst with
  | false=>
   rw [hm,cond_false] at h
   exact key h (by unfold vU; rw [hm]; rfl)
  | true=>
   rw [hm,cond_true,XK] at h
   obtain⟨x,h1,h2⟩:=h
   exact key h1 (by unfold vU; rw [hm,cond_true]; exact h2)
 ·rename_i ho
  rw [ho]
  split at h
  ·rename_i h1 h2
   rw [XL] at h
   obtain⟨g,hg,he⟩:=h
   simp only [XS] at he
   obtain⟨rfl,rfl⟩:=he
   simp only [h1,h2,gi,hg,XR]
  ·exact h.elim
 ·exact h.elim
theorem wL {ops:List Oper}:∀{l:List Oper} {s r:RS} {i:Nat} {zs:H4} {es:List mD} {p:Prop},rH P cf aI ops s i l zs=some (es,r,p)→p→pc P cf aI ops s l=some (es,r)∧rB P cf aI ops s l=some r
 | [],s,r,i,[],es,p,h,_=>by
  simp only [rH,XM,XS] at h
  obtain⟨rfl,rfl,rfl⟩:=h
  exact⟨rfl,rfl⟩
 | [],s,r,i,_::_,es,p,h,_=>by simp [rH] at h
 | o::os,s,r,i,zs,es,p,h,hp=>by
  simp only [rH,XK] at h
  obtain⟨w,hw,h⟩:=h
  have fin:∀(s1:RS) (l:List mD) (ve:H4) (q:Prop),(if w then vV P cf aI (ops.filterMap (·.dst)) s o else some (s.set o.dst (.tup [])))=some s1→rH P cf aI ops s1 (i+1) os ve=some (l,r,q)→q→
    pc P cf aI ops s (o::os)=some ({o,f:=if w then bq aI (bP s.ρ) o else {},s,s':=s1}::l,r)∧rB P cf aI ops s (o::os)=some r:=by
   intro s1 l ve q h1 h2 hq
   obtain⟨h3,h4⟩:=wL h2 hq
   refine⟨?_,?_⟩
   ·simp only [pc,hw,XJ,h1,h3,XR]
   ·simp only [rB,mU,hw,XJ,h1,h4]
  cases w with
  | false=>
   simp only [cond_false,XL] at h
   obtain⟨⟨l,r',q⟩,h2,he⟩:=h
   simp only [XS] at he
   obtain⟨rfl,rfl,rfl⟩:=he
   simpa using fin _ l zs q (by simp) h2 hp
  | true=>
   simp only [cond_true] at h
   split at h
   ·simp only [XK,XL] at h
    obtain⟨s1,h1,⟨l,r',q⟩,h2,he⟩:=h
    simp only [XS] at he
    obtain⟨rfl,rfl,rfl⟩:=he
    simpa using fin _ l [] q (by simpa using h1) h2 hp
   ·rename_i j z oh ve
    cases hj:Yp i j with
    | false=>
     rw [hj] at h
     simp only [cond_false,XK,XL] at h
     obtain⟨s1,h1,⟨l,r',q⟩,h2,he⟩:=h
     simp only [XS] at he
     obtain⟨rfl,rfl,rfl⟩:=he
     simpa using fin _ l _ q (by simpa using h1) h2 hp
    | true=>
     rw [hj] at h
     simp only [cond_true] at h
     split at h
     ·simp only [XL] at h
      obtain⟨⟨l,r',q⟩,h2,he⟩:=h
      simp only [XS] at he
      obtain⟨rfl,rfl,rfl⟩:=he
      simpa using fin _ l _ q (by simpa using H5 hp.1 _) h2 hp.2
     ·simp only [XL] at h
      obtain⟨⟨l,r',q⟩,h2,he⟩:=h
      simp only [XS] at he
      obtain⟨rfl,rfl,rfl⟩:=he
      simpa using fin _ l _ q (by simpa using H6 hp.1 _) h2 hp.2
end
def rI (s:RS):List (Nat × Option Nat × Nat)→List (AV × AHeap)→Option (RS × Prop)
 | [],_=>some (s,True)
 | (t,i,k)::ps,zs=>
  match i with
  | none=>
   match k,s.ρ t,zs with
   | 0,.rs id off n z,(y,h')::ve=>(rI {s with h:=h',ρ:=fun u=>bif Yp u t then y else s.ρ u} ps ve).map fun (r,p)=>(r,jw 0 s.h (.rs id off n z)=some (y,h')∧p)
   | k,x,zs=>(jw k s.h x).bind fun (y,h')=>rI {s with h:=h',ρ:=fun u=>bif Yp u t then y else s.ρ u} ps zs
  | some i=>
   match s.bx t with
   | some cs=>(cs[i]?).bind fun x=>
    match k,x,zs with
    | 0,.rs id off n z,(y,h')::ve=>(rI {s with h:=h',bx:=fun u=>bif Yp u t then some (cs.set i y) else s.bx u} ps ve).map fun (r,p)=>(r,jw 0 s.h (.rs id off n z)=some (y,h')∧p)
    | k,x,zs=>(jw k s.h x).bind fun (y,h')=>rI {s with h:=h',bx:=fun u=>bif Yp u t then some (cs.set i y) else s.bx u} ps zs
   | none=>none
theorem sd:∀{ps:List (Nat × Option Nat × Nat)} {s r:RS} {zs:List (AV × AHeap)} {p:Prop},rI s ps zs=some (r,p)→p→ld s ps=some r
 | [],s,r,zs,p,h,_=>by
  simp only [rI,XM,XS] at h
  obtain⟨rfl,rfl⟩:=h
  rfl
 | (t,i,k)::ps,s,r,zs,p,h,hp=>by
  cases i with
  | none=>
   have fin:∀(y:AV) (h':AHeap) (ve:List (AV × AHeap)) (q:Prop),jw k s.h (s.ρ t)=some (y,h')→rI {s with h:=h',ρ:=fun u=>bif Yp u t then y else s.ρ u} ps ve=some (r,q)→q→ld s ((t,none,k)::ps)=some r:=by
    intro y h' ve q h1 h2 hq
    simp only [ld,vY,h1,XR,XJ]
    exact sd h2 hq
   simp only [rI] at h
   split at h
   ·rename_i id off n z y h' ve hx
    rw [XL] at h
    obtain⟨⟨r',q⟩,h2,he⟩:=h
    simp only [XS] at he
    obtain⟨rfl,rfl⟩:=he
    exact fin y h' ve q (by rw [hx]; exact hp.1) h2 hp.2
   ·rw [XK] at h
    obtain⟨⟨y,h'⟩,h1,h2⟩:=h
    exact fin y h' _ p h1 h2 hp
  | some i=>
   simp only [rI] at h
   split at h
   rotate_left
   ·cases h
   rename_i cs hcs
   rw [XK] at h
   obtain⟨x,hx,h⟩:=h
   have fin:∀(y:AV) (h':AHeap) (ve:List (AV × AHeap)) (q:Prop),jw k s.h x=some (y,h')→rI {s with h:=h',bx:=fun u=>bif Yp u t then some (cs.set i y) else s.bx u} ps ve=some (r,q)→q→ld s ((t,some i,k)::ps)=some r:=by
    intro y h' ve q h1 h2 hq
    simp only [ld,vY,hcs,hx,XJ,h1,XR]
    exact sd h2 hq
   split at h
   ·rename_i id off n z y h' ve
    rw [XL] at h
    obtain⟨⟨r',q⟩,h2,he⟩:=h
    simp only [XS] at he
    obtain⟨rfl,rfl⟩:=he
    exact fin y h' ve q hp.1 h2 hp.2
   ·rw [XK] at h
    obtain⟨⟨y,h'⟩,h1,h2⟩:=h
    exact fin y h' _ p h1 h2 hp
def mD.se (x y:mD):Bool:=
 (match x.f.wb with
  | some k=>!y.f.rb.contains k&&y.f.wb != some k
  | none=>true) &&
 (!x.f.wh||(!y.f.wh&&y.f.rh.isEmpty))
def Fk (ops:List Oper)(arr:Array Oper)(s:RS)(es:List mD):Bool:=
 let ms:=jG [] ops
 nK arr ms &&
  (let is:=es.zipIdx
   let vX:=is.filter fun (x,_)=>!x.f.quiet
   vX.all (fun (x,i)=>r9 ms (ops.filterMap (·.dst)) s is x i&&vX.all fun (y,j)=>Y6 j i||(ms.getD j 0).testBit i||(x.se y&&y.se x)))
theorem s9 {x y:mD}(h:x.se y=true):x.jF y=true:=by
 unfold mD.se at h
 unfold mD.jF
 simp only [XN,Yw] at h ⊢
 refine⟨h.1,h.2.imp id fun ⟨h1,h2⟩=>⟨h1,?_⟩⟩
 rw [List.isEmpty_iff] at h2
 rw [h2]; rfl
theorem H7 {P:Program}{cf:CallF}{aI:List Nat}{ops:Array Oper}{s r:RS}{es:List mD}(h:Fk ops.toList ops s es=true)(hr:pc P cf aI ops.toList s ops.toList=some (es,r)):j5 P cf aI ops s=some r:=by
 unfold Fk at h
 simp only [XN] at h
 obtain⟨h1,h2⟩:=h
 unfold j5
 simp only [h1,if_true,hr,XJ]
 rw [if_pos]
 rw [X5] at h2 ⊢
 intro x hx
 have:=h2 x hx
 simp only [XN] at this ⊢
 refine⟨this.1,?_⟩
 have h3:=this.2
 rw [X5] at h3 ⊢
 intro y hy
 have:=h3 y hy
 simp only [Yw,XN] at this ⊢
 exact this.imp id fun h=>⟨s9 h.1,s9 h.2⟩
def ot (P:Program)(cf:CallF)(A:bY)(c:Code)(fs:List (AV × AHeap))(zs:H4)(st:St):Option (Prop × St):=
 match c with
 | .region id ops draw=>(rI (st.open A) (gr id A.HG) fs).bind fun (s0,p0)=>(rH P cf A.aI ops.toList s0 0 ops.toList zs).bind fun (es,r,p)=>
   bif draw && !(Fk ops.toList ops s0 es) then none else (ld r (gr id A.zZ)).map fun r2=>(p0∧p,r2.mV A id)
 | _=>none
theorem Fl {P:Program}{cf:CallF}{A:bY}{m:Nat}{c:Code}{fs:List (AV × AHeap)}{zs:H4}{st jN:St}{p:Prop}(h:ot P cf A c fs zs st=some (p,jN))(hp:p):bO P cf A m c st=some (.norm,jN):=by
 unfold ot at h
 split at h
 rotate_left
 ·cases h
 rename_i id ops draw
 simp only [XK] at h
 obtain⟨⟨s0,p0⟩,h0,⟨es,r,q⟩,h1,h⟩:=h
 have hd:∃r2,(draw=true→Fk ops.toList ops s0 es=true)∧ld r (gr id A.zZ)=some r2∧p=(p0∧q)∧jN=r2.mV A id:=by
  cases hc:(draw && !(Fk ops.toList ops s0 es)) with
  | true=>simp only [hc,cond_true] at h; cases h
  | false=>
   simp only [hc,cond_false,XL,XS] at h
   obtain⟨r2,h2,h3,h4⟩:=h
   refine⟨r2,fun Dz=>?_,h2,h3.symm,h4.symm⟩
   simpa [Dz] using hc
 obtain⟨r2,Dz,h2,rfl,rfl⟩:=hd
 obtain⟨g1,g2⟩:=wL h1 hp.2
 have g0:=sd h0 hp.1
 simp only [bO,g0,XJ]
 cases draw with
 | false=>simp only [XX,if_false,g2,XJ,h2,XR]
 | true=>simp only [if_true,H7 (Dz rfl) g1,XJ,h2,XR]
end Go.R
namespace Go.R
open Go
def dy (P:Program)(cf:CallF)(A:bY)(m:Nat)(c:Code)(s:St)(Q:Ex→St→Prop):Prop:=∃e s',bO P cf A m c s=some (e,s')∧Q e s'
def Kg (R:St→Prop)(Q:Ex→St→Prop):Ex→St→Prop
 | .norm,s=>R s
 | .exit i,s=>Q (.exit i) s
 | .ret,s=>Q .ret s
def Pz (id:Nat)(Q:Ex→St→Prop):Ex→St→Prop
 | .norm,s=>Q .norm s
 | .exit i,s=>bif Yp i id then Q .norm s else Q (.exit i) s
 | .ret,s=>Q .ret s
section
variable {P:Program}{cf:CallF}{A:bY}{m:Nat}{s:St}{Q:Ex→St→Prop}
theorem yu {a b:Code}(h:dy P cf A m a s (Kg (fun s'=>dy P cf A m b s' Q) Q)):dy P cf A m (.seq a b) s Q:=by
 obtain⟨e,s',h1,h2⟩:=h
 cases e with
 | norm=>
  obtain⟨e2,s2,h3,h4⟩:=h2
  exact⟨e2,s2,by simp only [bO,h1,XJ,h3],h4⟩
 | exit i=>exact⟨_,s',by simp only [bO,h1,XJ],h2⟩
 | ret=>exact⟨_,s',by simp only [bO,h1,XJ],h2⟩
theorem Ar {id:Nat}{a:Code}(h:dy P cf A m a s (Pz id Q)):dy P cf A m (.block id a) s Q:=by
 obtain⟨e,s',h1,h2⟩:=h
 cases e with
 | norm=>exact⟨_,s',by simp only [bO,h1,XR],h2⟩
 | exit i=>
  simp only [Pz,beq_nat] at h2
  by_cases hi:i=id
  ·simp only [hi,decide_true,cond_true] at h2
   exact⟨_,s',by simp only [bO,h1,XR,hi,if_true],h2⟩
  ·simp only [hi,decide_false,cond_false] at h2
   exact⟨_,s',by simp only [bO,h1,XR,hi,if_false],h2⟩
 | ret=>exact⟨_,s',by simp only [bO,h1,XR],h2⟩
theorem Fm {c:Code}{fs:List (AV × AHeap)}{zs:H4}{jN:St}{p:Prop}(h:ot P cf A c fs zs s=some (p,jN))(hp:p)(hQ:Q .norm jN):dy P cf A m c s Q:=
 ⟨_,_,Fl h hp,hQ⟩
theorem DJ (h:Q .norm s):dy P cf A m .skip s Q:=⟨_,_,rfl,h⟩
theorem Fo (h:Q .ret s):dy P cf A m .ret s Q:=⟨_,_,rfl,h⟩
theorem DK {i:Nat}(h:Q (.exit i) s):dy P cf A m (.exit i) s Q:=⟨_,_,rfl,h⟩
theorem qv {k:Operand}{x y:Code}(b:Bool)(hk:bP (s.open A).ρ k = .bool b)(ht:b=true→dy P cf A m x s Q)(hf:b=false→dy P cf A m y s Q):dy P cf A m (.cond k x y) s Q:=by
 cases b with
 | true=>
  obtain⟨e,s',h1,h2⟩:=ht rfl
  exact⟨e,s',by simp only [bO,hk,sy,XJ,if_true,h1],h2⟩
 | false=>
  obtain⟨e,s',h1,h2⟩:=hf rfl
  exact⟨e,s',by simp only [bO,hk,sy,XJ,XX,if_false,h1],h2⟩
def Fp {S O:Type}(l:Nat→S→Option O)(Rel:S→St→Prop)(QO:O→Ex→St→Prop)(k:Nat)(out:O):Ex→St→Prop
 | .norm,s=>∃σ,Rel σ s∧l k σ=some out
 | .exit i,s=>QO out (.exit i) s
 | .ret,s=>QO out .ret s
theorem tc {S O:Type}{l:Nat→S→Option O}{Rel:S→St→Prop}{QO:O→Ex→St→Prop}{body:Code}(h0:∀σ,l 0 σ=none)
  (step:∀k σ s out,Rel σ s→l (k+1) σ=some out→dy P cf A m body s (Fp l Rel QO k out)):∀(n:Nat) (σ:S) (s:St) (out:O),Rel σ s→l n σ=some out→∃e s',lf (bO P cf A m body) n s=some (e,s')∧e≠.norm∧QO out e s'
 | 0,σ,s,out,_,h=>by rw [h0] at h; cases h
 | n+1,σ,s,out,hr,h=>by
  obtain⟨e,s',h1,h2⟩:=step n σ s out hr h
  cases e with
  | norm=>
   obtain⟨σ',h3,h4⟩:=h2
   obtain⟨e',Va,h5,h6⟩:=tc h0 step n σ' s' out h3 h4
   exact⟨e',Va,by simp only [lf,h1,XJ,h5],h6⟩
  | exit i=>exact⟨_,s',by simp only [lf,h1,XJ],by simp,h2⟩
  | ret=>exact⟨_,s',by simp only [lf,h1,XJ],by simp,h2⟩
theorem DL {S O:Type}(l:Nat→S→Option O)(Rel:S→St→Prop)(QO:O→Ex→St→Prop){body:Code}(h0:∀σ,l 0 σ=none)
  (step:∀k σ s out,Rel σ s→l (k+1) σ=some out→dy P cf A m body s (Fp l Rel QO k out)) {σ:S} {out:O} (hr:Rel σ s) (h:l m σ=some out) (hQ:∀e s',e≠.norm→QO out e s'→Q e s'):dy P cf A m (.loop body) s Q:=by
 obtain⟨e,s',h1,h2,h3⟩:=tc h0 step m σ s out hr h
 exact⟨e,s',by simp only [bO,h1],hQ e s' h2 h3⟩
theorem wM {aW:FuncId→bY}{f:FuncId}{fn:Func}{args:List AV}{h:AHeap}{R:AV→AHeap→Prop}(hf:P.funcs[f]? = some fn)(hb:fn.body=some (bW fn))(hn:Y6 args.length fn.ntmps=true)
  (he:dy P cf (aW f) m (bW fn) ⟨mW (aW f).keep args,(aW f).aI.map fun _=>none,h⟩ (fun e s=>(e = .ret∨e = .norm)∧∃r,aM P (s.open (aW f)) fn.results.toList=some r∧R r s.h)) :
  ∃r h',bb P aW cf m f args h=some (r,h')∧R r h':=by
 obtain⟨e,s,h1,h2,r,h3,h4⟩:=he
 refine⟨r,s.h,?_,h4⟩
 unfold bb
 rw [hf,XJ,hb,XJ,if_pos (Nat.le_of_ble_eq_true hn),h1,XJ]
 rcases h2 with rfl | rfl<;>simp only [h3,XR]
end
end Go.R
namespace Go.R
open Go
structure bK (α:Type) where
 n:Nat
 f:α→List AV
 len:∀a,(f a).length=n
 pos:n≠0
 small:n≤1024:=by decide
 flat:Bool:=true
 pure:∀a,flat=true→cZ (f a)=true∧dN (f a)=f a
 canon:∀a,(f a).map jY=f a
section
variable {α:Type}(E:bK α)
def bK.l (l:List α):List AV:=l.flatMap E.f
def bK.fz (l:List α):AV:=.fz (E.l l) l.length false
variable {E}
theorem bK.eY {a:α}{l:List α}:E.l (a::l)=E.f a++E.l l:=rfl
theorem bK.Js:E.l []=[]:=rfl
theorem bK.iu {a b:List α}:E.l (a++b)=E.l a++E.l b:=by simp [bK.l]
theorem bK.bR:∀{l:List α},(E.l l).length=l.length*E.n
 | []=>by simp [bK.l]
 | a::l=>by rw [bK.eY,XU,E.len,bK.bR,X2,YU,Nat.one_mul,Zd]
theorem bK.nQ {l:List α}(h:l.length≤1099511627776):(E.l l).length≤1125899906842624:=by
 rw [bK.bR]
 exact Yz (Nat.mul_le_mul h E.small) (by decide)
theorem bK.wN:∀{l:List α} {i:Nat},(E.l l).drop (i*E.n)=E.l (l.drop i)
 | l,0=>by simp
 | [],i+1=>by simp [bK.l]
 | a::l,i+1=>by
  rw [List.drop_succ_cons,←bK.wN,bK.eY,YU,Nat.one_mul,List.drop_append,List.drop_of_length_le (by rw [E.len]; omega),Yr,E.len,Nat.add_sub_cancel]
theorem bK.Fq:∀{l:List α} {i:Nat},(E.l l).take (i*E.n)=E.l (l.take i)
 | l,0=>by simp [bK.l]
 | [],i+1=>by simp [bK.l]
 | a::l,i+1=>by
  rw [bK.eY,List.take_succ_cons,bK.eY,YU,Nat.one_mul,Zd,List.take_append]
  rw [E.len,Yn (by rw [E.len]; omega),YK,bK.Fq]
theorem bK.Jt {l:List α}{i:Nat}{a:α}(h:l[i]? = some a){off:Nat}(ho:off<E.n):(E.l l)[i*E.n+off]? = (E.f a)[off]?:=by
 rw [←List.getElem?_drop,bK.wN,XW (XQ.1 h).1,(XQ.1 h).2,bK.eY,XZ (by rw [E.len]; exact ho)]
theorem bK.Fs {l:List α}{i:Nat}{a:α}(h:l[i]? = some a):((E.l l).drop (i*E.n)).take E.n=E.f a:=by
 rw [bK.wN,XW (XQ.1 h).1,(XQ.1 h).2,bK.eY,Yi (by rw [E.len]; exact XP _)]
 rw [Yn (by rw [E.len]; exact XP _)]
theorem bK.As {l:List α}{i:Nat}{a:α}(h:l[i]? = some a):i*E.n+E.n≤(E.l l).length:=by
 rw [bK.bR]
 have:=(XQ.1 h).1
 calc i*E.n+E.n=(i+1)*E.n:=by rw [YU,Nat.one_mul]
  _≤_:=YF _ this
theorem pD:∀{a b:List AV},cZ (a++b)=(cZ a&&cZ b)
 | [],b=>by simp [cZ]
 | x::a,b=>by simp [cZ,pD,Bool.and_assoc]
theorem pE:∀{a b:List AV},dN (a++b)=dN a++dN b
 | [],b=>rfl
 | x::a,b=>by simp [dN,pE]
theorem bK.oJ (hp:E.flat=true):∀{l:List α},cZ (E.l l)=true∧dN (E.l l)=E.l l
 | []=>⟨rfl,rfl⟩
 | a::l=>by
  obtain⟨h1,h2⟩:=E.pure a hp
  obtain⟨h3,h4⟩:=bK.oJ hp (l:=l)
  rw [bK.eY,pD,pE,h1,h2,h3,h4]
  exact⟨rfl,rfl⟩
theorem bK.BF:∀{l:List α},(E.l l).map jY=E.l l
 | []=>rfl
 | a::l=>by rw [bK.eY,Ye,E.canon,bK.BF]
theorem bK.bo {l:List α}(hp:E.flat=true:=by rfl):(E.fz l).eH=true∧(E.fz l).jE=E.fz l:=by
 obtain⟨h1,h2⟩:=bK.oJ (E:=E) hp (l:=l)
 exact⟨h1,by show AV.fz (dN (E.l l)) l.length false=_; rw [h2]; rfl⟩
theorem iv:∀(cs vs pre Kh:List AV),cs.length=vs.length→dD (pre++cs++Kh) pre.length vs=pre++vs++Kh
 | [],[],pre,Kh,_=>by simp [dD]
 | c::cs,v::vs,pre,Kh,h=>by
  have:=iv cs vs (pre++[v]) Kh (by simpa using h)
  simp only [XU,X2,Yf,Ya] at this
  rw [dD]
  have h2:(pre++c::cs++Kh).set pre.length v=pre++[v]++cs++Kh:=by
   rw [X3,YV _ _ (XP _),YP]
   simp
  rw [h2,this]
  simp
 | [],_::_,_,_,h=>by simp at h
 | _::_,[],_,_,h=>by simp at h
theorem bK.MZ {l:List α}{i:Nat}{a b:α}(h:l[i]? = some a)(rest:List AV):dD (E.l l++rest) (i*E.n) (E.f b)=E.l (l.set i b)++rest:=by
 have hi:=(XQ.1 h).1
 have hl:l=l.take i++a::l.drop (i+1):=by
  conv=>lhs; rw [←YW i l,XW hi]
  rw [(XQ.1 h).2]
 have hs:l.set i b=l.take i++b::l.drop (i+1):=List.set_eq_take_append_cons_drop .. |>.trans (by rw [if_pos hi])
 have e1:E.l l=E.l (l.take i)++E.f a++E.l (l.drop (i+1)):=by
  conv=>lhs; rw [hl]
  rw [bK.iu,bK.eY,X3]
 have e2:(E.l (l.take i)).length=i*E.n:=by rw [bK.bR,YD,Y7 (Nat.le_of_lt hi)]
 rw [hs,bK.iu,bK.eY,e1,←e2]
 have:=iv (E.f a) (E.f b) (E.l (l.take i)) (E.l (l.drop (i+1))++rest) (by rw [E.len,E.len])
 simp only [X3] at this ⊢
 exact this
theorem bK.Ki {l:List α}{i:Nat}{a b:α}{off:Nat}{v:AV}(h:l[i]? = some a)(ho:off<E.n)(hb:(E.f a).set off v=E.f b)(rest:List AV):(E.l l++rest).set (i*E.n+off) v=E.l (l.set i b)++rest:=by
 have hi:=(XQ.1 h).1
 have hl:l=l.take i++a::l.drop (i+1):=by
  conv=>lhs; rw [←YW i l,XW hi]
  rw [(XQ.1 h).2]
 have hs:l.set i b=l.take i++b::l.drop (i+1):=List.set_eq_take_append_cons_drop .. |>.trans (by rw [if_pos hi])
 have e1:E.l l=E.l (l.take i)++(E.f a++E.l (l.drop (i+1))):=by
  conv=>lhs; rw [hl]
  rw [bK.iu,bK.eY]
 have e2:(E.l (l.take i)).length=i*E.n:=by rw [bK.bR,YD,Y7 (Nat.le_of_lt hi)]
 rw [hs,bK.iu,bK.eY,e1,←hb,←e2]
 simp only [X3]
 rw [YV _ _ (by omega),List.set_append_left _ _ (by rw [E.len]; omega)]
 congr 2
 simp
end
def ix {α:Type}(l:List α)(i:Int):Option α:=if 0≤i then l[i.toNat]? else none
theorem hY {α:Type}{l:List α}{i:Int}{a:α}(h:ix l i=some a):0≤i∧i<l.length∧l[i.toNat]? = some a:=by
 unfold ix at h
 split at h
 ·rename_i h0
  have:=(XQ.1 h).1
  exact⟨h0,by omega,h⟩
 ·cases h
def Ju {α:Type}(l:List α)(lo hi:Int):Option (List α):=if 0≤lo∧lo≤hi∧hi≤l.length then some ((l.drop lo.toNat).take (hi.toNat - lo.toNat)) else none
theorem yv {α:Type}{l r:List α}{lo hi:Int}(h:Ju l lo hi=some r):0≤lo∧lo≤hi∧hi≤l.length∧r=(l.drop lo.toNat).take (hi.toNat - lo.toNat):=by
 unfold Ju at h
 split at h
 ·rename_i h0; cases h; exact⟨h0.1,h0.2.1,h0.2.2,rfl⟩
 ·cases h
def bt (s:ByteArray)(i:Int):Option Int:=if 0≤i then (s.data.toList[i.toNat]?).map fun b=>(b.toNat:Int) else none
inductive Ct where
 | sl (n sz:Nat) (cs:List AV)
 | ob (cs:List AV)
 | mp (es:List (AV × AV))
 | row (e:TypeId) (cs:List AV)
def DM (h:AHeap)(i:Nat):Ct→Prop
 | .sl n sz cs=>(cs.length=n*sz∧cs.length≤1125899906842624)∧((i=0∧n=0)∨(i≠0∧∃rest,h.get i=some (.cells (cs++rest))))
 | .ob cs=>i≠0∧h.get i=some (.cells cs)
 | .mp es=>i≠0∧h.get i=some (.map es)
 | .row e cs=>i≠0∧h.get i=some (.row e cs)
abbrev Mem:=List (Nat × Ct)
structure Has (h:AHeap)(K:Mem):Prop where
 at_:∀(j i:Nat) (c:Ct),K[j]? = some (i,c)→DM h i c∧i<h.next
 nd:∀(j j' i:Nat) (c c':Ct),K[j]? = some (i,c)→K[j']? = some (i,c')→i≠0→j=j'
 pos:0<h.next
theorem oK {h h':AHeap}{i:Nat}{c:Ct}(hg:i≠0→h'.get i=h.get i)(h1:DM h i c):DM h' i c:=by
 cases c with
 | sl n sz cs=>
  obtain⟨h2,h3⟩:=h1
  refine⟨h2,h3.imp id fun ⟨h4,r,h5⟩=>⟨h4,r,(hg h4).trans h5⟩⟩
 | ob cs=>exact⟨h1.1,(hg h1.1).trans h1.2⟩
 | mp es=>exact⟨h1.1,(hg h1.1).trans h1.2⟩
 | row e cs=>exact⟨h1.1,(hg h1.1).trans h1.2⟩
theorem dm (h:AHeap)(id k:Nat)(o:AObj):(h.put id o).get k=if k=id then some o else h.get k:=by
 simp only [AHeap.put,beq_nat]
 by_cases hk:k=id<;>simp [hk]
theorem yw (h:AHeap)(id k:Nat):(h.kill id).get k=if k=id then none else h.get k:=by
 simp only [AHeap.kill,beq_nat]
 by_cases hk:k=id<;>simp [hk]
theorem Has.Ft {h h':AHeap}{K:Mem}(o:Has h K){j i:Nat}{c:Ct}(hj:K[j]? = some (i,c)){i':Nat}{c':Ct}
  (hg:∀k,k≠i→k<h.next→h'.get k=h.get k) (hn:h.next≤h'.next) (hi:i'=i∨i'=0∨h.next≤i') (hlt:i'<h'.next) (hc:DM h' i' c'):Has h' (K.set j (i',c')):=by
 refine⟨fun q k d hq=>?_,fun q q' k d d' hq wk hk=>?_,Yb o.pos hn⟩
 ·rw [Zb] at hq
  by_cases h1:j=q
  ·subst h1
   rw [if_pos rfl] at hq
   split at hq
   ·cases hq; exact⟨hc,hlt⟩
   ·cases hq
  ·rw [if_neg h1] at hq
   obtain⟨g1,g2⟩:=o.at_ q k d hq
   refine⟨oK (fun hk=>hg k (fun he=>?_) g2) g1,Yb g2 hn⟩
   subst he
   exact h1 (o.nd j q k c d hj hq hk)
 ·rw [Zb] at hq wk
  have old:∀(q:Nat) (d:Ct),j≠q→K[q]? = some (k,d)→k≠i':=by
   intro x y hne hx he
   rcases hi with h1 | h1 | h1
   ·exact hne (o.nd j x k c y (by rw [he,h1]; exact hj) hx hk)
   ·exact hk (he.trans h1)
   ·have:=(o.at_ x k y hx).2; omega
  by_cases h1:j=q<;>by_cases h2:j=q'
  ·rw [←h1,h2]
  ·subst h1
   rw [if_pos rfl] at hq
   rw [if_neg h2] at wk
   split at hq
   ·cases hq; exact absurd rfl (old q' d' h2 wk)
   ·cases hq
  ·subst h2
   rw [if_pos rfl] at wk
   rw [if_neg h1] at hq
   split at wk
   ·cases wk; exact absurd rfl (old q d h1 hq)
   ·cases wk
  ·rw [if_neg h1] at hq; rw [if_neg h2] at wk
   exact o.nd q q' k d d' hq wk hk
theorem Has.new {h h':AHeap}{K:Mem}(o:Has h K){i:Nat}{c:Ct}(hg:∀k,k<h.next→h'.get k=h.get k)(hn:h.next≤h'.next)(hi:i=0∨h.next≤i)(hlt:i<h'.next)(hc:DM h' i c):Has h' ((i,c)::K):=by
 refine⟨fun q k d hq=>?_,fun q q' k d d' hq wk hk=>?_,Yb o.pos hn⟩
 ·cases q with
  | zero=>simp only [Ym,XM,XS] at hq; obtain⟨rfl,rfl⟩:=hq; exact⟨hc,hlt⟩
  | succ q=>
   simp only [YR] at hq
   obtain⟨g1,g2⟩:=o.at_ q k d hq
   exact⟨oK (fun _=>hg k g2) g1,Yb g2 hn⟩
 ·have old:∀(q:Nat) (d:Ct),K[q]? = some (k,d)→k≠i:=by
   intro x y hx he
   rcases hi with h1 | h1
   ·exact hk (he.trans h1)
   ·have:=(o.at_ x k y hx).2; omega
  cases q with
  | zero=>
   simp only [Ym,XM,XS] at hq
   cases q' with
   | zero=>rfl
   | succ q'=>exact absurd hq.1.symm (old q' d' (by simpa using wk))
  | succ q=>
   cases q' with
   | zero=>
    simp only [Ym,XM,XS] at wk
    exact absurd wk.1.symm (old q d (by simpa using hq))
   | succ q'=>rw [o.nd q q' k d d' (by simpa using hq) (by simpa using wk) hk]
theorem Has.nil {h:AHeap}{K:Mem}(o:Has h K)(sz:Nat):Has h ((0,.sl 0 sz [])::K):=
 o.new (fun _ _=>rfl) (XP _) (.inl rfl) o.pos ⟨⟨by simp,by simp⟩,.inl ⟨rfl,rfl⟩⟩
theorem Has.sub {h:AHeap}{K K':Mem}(o:Has h K)(f:Nat→Nat)(hf:∀j p,K'[j]? = some p→K[f j]? = some p)(hi:∀j j',f j=f j'→j=j'):Has h K':=
 ⟨fun j i c hj=>o.at_ (f j) i c (hf j _ hj),fun j j' i c c' hj zI hk=>hi _ _ (o.nd (f j) (f j') i c c' (hf j _ hj) (hf j' _ zI) hk),o.pos⟩
theorem Has.del {h:AHeap}{K:Mem}(o:Has h K)(q:Nat):Has h (K.eraseIdx q):=
 o.sub (fun j=>if j<q then j else j+1) (fun j p hj=>by
  rw [List.getElem?_eraseIdx] at hj
  split at hj
  ·rename_i h1; simpa [h1] using hj
  ·rename_i h1; simpa [h1] using hj) (fun j j' he=>by
   split at he<;>split at he<;>omega)
theorem Has.front {h:AHeap}{K:Mem}(o:Has h K)(q:Nat){p:Nat × Ct}(hq:K[q]? = some p):Has h (p::K.eraseIdx q):=
 o.sub (fun j=>match j with | 0=>q | j+1=>if j<q then j else j+1) (fun j p' hj=>by
  cases j with
  | zero=>simp only [Ym,XM] at hj; subst hj; exact hq
  | succ j=>
   simp only [YR,List.getElem?_eraseIdx] at hj
   dsimp only
   split at hj
   ·rename_i h1; simpa [h1] using hj
   ·rename_i h1; simpa [h1] using hj) (fun j j' he=>by
   cases j with
   | zero=>cases j' with
    | zero=>rfl
    | succ j'=>dsimp only at he; split at he<;>omega
   | succ j=>cases j' with
    | zero=>dsimp only at he; split at he<;>omega
    | succ j'=>dsimp only at he; split at he<;>split at he<;>omega)
end Go.R
namespace Go.R
open Go
def yx (P:Program)(t:TypeId)(sz b:Nat):Bool:=
 match P.underlying t with
 | some (.slice e)=>match P.info? e with
  | some i=>Yp i.size sz&&Yp i.bytes b&&I9 i
  | none=>false
 | _=>false
section
variable {P:Program}{t:TypeId}{sz b:Nat}
theorem ki (h:yx P t sz b=true):∃e i,P.underlying t=some (.slice e)∧P.info? e=some i∧i.size=sz∧i.bytes=b∧I9 i=true∧fF P e=some sz:=by
 unfold yx at h
 split at h
 ·rename_i e he
  split at h
  ·rename_i i hi
   simp only [XN] at h
   have h1:=YN h.1.1
   exact⟨e,i,he,hi,h1,YN h.1.2,h.2,by simp [fF,hi,h1]⟩
  ·cases h
 ·cases h
variable {α:Type}{E:bK α}{h:AHeap}{K:Mem}{l:List α}{a v:α}{i q:Nat}{j:Int}{k:IntKind}{c:AV}{off:Nat}{tf:TypeId}
theorem fe (T:yx P t E.n b=true)(h:ix l j=some a):fo P t (E.fz l) (.int k j)=some (.fp (E.l l) (j.toNat*E.n)):=by
 obtain⟨e,inf,h1,h2,h3,h4,h5,h6⟩:=ki T
 obtain⟨g1,g2,g3⟩:=hY h
 have hle:=bK.As (E:=E) g3
 have hp:=E.pos
 simp only [fo,h1,XJ,h6,bK.fz]
 rw [if_pos ⟨g1,g2,by omega⟩]
theorem M0 (h:l[j.toNat]? = some a):(E.l l).isEmpty=false:=by
 have hle:=bK.As (E:=E) h
 have hp:=E.pos
 cases hl:E.l l with
 | nil=>rw [hl] at hle; simp at hle; omega
 | cons _ _=>rfl
theorem qw (hp:AHeap)(ha:gp P tf=some false)(h:ix l j=some a)(hc:(E.f a)[off]? = some c):bC P hp tf (.fp (E.l l) (j.toNat*E.n+off))=some c:=by
 obtain⟨g1,g2,g3⟩:=hY h
 have ho:off<E.n:=by rw [←E.len a]; exact (XQ.1 hc).1
 simp only [bC,jZ,M0 g3,XX,if_false,jd,ha,XJ,bK.Jt g3 ho,hc]
theorem ie (hp:AHeap)(ha:gp P tf=some false)(h:ix l j=some a)(hc:(E.f a)[0]? = some c):bC P hp tf (.fp (E.l l) (j.toNat*E.n))=some c:=qw (off:=0) hp ha h hc
theorem kj (hp:AHeap)(ha:gp P tf=some true)(hs:fF P tf=some E.n)(h:ix l j=some a):bC P hp tf (.fp (E.l l) (j.toNat*E.n))=some (.agg (E.f a)):=by
 obtain⟨g1,g2,g3⟩:=hY h
 simp only [bC,jZ,M0 g3,XX,if_false,jd,ha,XJ,if_true,hs]
 rw [if_pos (bK.As g3),bK.Fs g3]
theorem sf (o:Has h K)(hq:K[q]? = some (i,.sl l.length E.n (E.l l)))(hj:l[j.toNat]? = some a):i≠0∧∃rest,h.get i=some (.cells (E.l l++rest)):=by
 obtain⟨⟨_,h1⟩,_⟩:=o.at_ _ _ _ hq
 rcases h1 with⟨_,h1⟩| h1
 ·have:=(XQ.1 hj).1; omega
 ·exact h1
theorem Kj (T:yx P t sz b=true){n:Nat}(h0:0≤j)(h1:j<n):fo P t (.rs i 0 n sz) (.int k j)=some (.ptr i (0+j.toNat*sz)):=by
 obtain⟨e,inf,g1,g2,g3,g4,g5,g6⟩:=ki T
 simp only [fo,g1,XJ,g6]
 rw [if_pos ⟨trivial,h0,h1⟩]
theorem vf (o:Has h K)(hq:K[q]? = some (i,.sl l.length E.n (E.l l)))(ha:gp P tf=some false)(hj:ix l j=some a)(hc:(E.f a)[off]? = some c):bC P h tf (.ptr i (0+j.toNat*E.n+off))=some c:=by
 obtain⟨g1,g2,g3⟩:=hY hj
 obtain⟨h1,rest,h2⟩:=sf o hq g3
 have ho:off<E.n:=by rw [←E.len a]; exact (XQ.1 hc).1
 have hle:=bK.As (E:=E) g3
 simp only [bC,jZ,h2,XJ,jd,ha,XX,if_false,Ya]
 rw [XZ (by omega),bK.Jt g3 ho,hc]
theorem DN (o:Has h K)(hq:K[q]? = some (i,.sl l.length E.n (E.l l)))(ha:gp P tf=some false)(hj:ix l j=some a)(hc:(E.f a)[0]? = some c):bC P h tf (.ptr i (0+j.toNat*E.n))=some c:=vf (off:=0) o hq ha hj hc
theorem DO (o:Has h K)(hq:K[q]? = some (i,.sl l.length E.n (E.l l)))(ha:gp P tf=some true)(hs:fF P tf=some E.n)(hj:ix l j=some a):bC P h tf (.ptr i (0+j.toNat*E.n))=some (.agg (E.f a)):=by
 obtain⟨g1,g2,g3⟩:=hY hj
 obtain⟨h1,rest,h2⟩:=sf o hq g3
 have hle:=bK.As (E:=E) g3
 simp only [bC,jZ,h2,XJ,jd,ha,if_true,hs,Ya]
 rw [if_pos (by rw [XU]; omega),List.drop_append_of_le_length (by omega),Yi (by rw [List.length_drop]; omega),bK.Fs g3]
theorem js (o:Has h K){c':Ct}{ct:Ct}(hq:K[q]? = some (i,ct)){ob:AObj}(hc:DM (h.put i ob) i c'):Has (h.put i ob) (K.set q (i,c')):=
 o.Ft hq (fun k hk _=>by rw [dm,if_neg hk]) (YT _) (.inl rfl) (YZ (o.at_ _ _ _ hq).2) hc
theorem Fu (o:Has h K)(hq:K[q]? = some (i,.sl l.length E.n (E.l l)))(hs:fF P tf=some E.n)(hj:ix l j=some a){x:AV}(hv:x.cells=E.f v)(oX:(E.f v).all AV.b4=true) :
  ∃h',jf P h tf (.ptr i (0+j.toNat*E.n)) x=some h'∧Has h' (K.set q (i,.sl l.length E.n (E.l (l.set j.toNat v)))):=by
 obtain⟨g1,g2,g3⟩:=hY hj
 obtain⟨h1,rest,h2⟩:=sf o hq g3
 have hle:=bK.As (E:=E) g3
 refine⟨_,?_,js o hq (ob:=.cells (E.l (l.set j.toNat v)++rest)) ⟨⟨by rw [bK.bR,XV],by rw [bK.bR,XV,←bK.bR]; exact (o.at_ _ _ _ hq).1.1.2⟩,.inr ⟨h1,rest,by rw [dm,if_pos rfl]⟩⟩⟩
 simp only [jf,h2,XJ,hH,hs,hv,Ya]
 rw [if_pos ⟨E.len v,oX,by rw [XU]; omega⟩,XR,bK.MZ g3]
theorem DP (o:Has h K)(hq:K[q]? = some (i,.sl l.length E.n (E.l l)))(hs:fF P tf=some 1)(hj:ix l j=some a){x:AV}(hx:x.cells=[x])(oX:x.b4=true)(ho:off<E.n)(hb:(E.f a).set off x=E.f v) :
  ∃h',jf P h tf (.ptr i (0+j.toNat*E.n+off)) x=some h'∧Has h' (K.set q (i,.sl l.length E.n (E.l (l.set j.toNat v)))):=by
 obtain⟨g1,g2,g3⟩:=hY hj
 obtain⟨h1,rest,h2⟩:=sf o hq g3
 have hle:=bK.As (E:=E) g3
 refine⟨_,?_,js o hq (ob:=.cells (E.l (l.set j.toNat v)++rest)) ⟨⟨by rw [bK.bR,XV],by rw [bK.bR,XV,←bK.bR]; exact (o.at_ _ _ _ hq).1.1.2⟩,.inr ⟨h1,rest,by rw [dm,if_pos rfl]⟩⟩⟩
 simp only [jf,h2,XJ,hH,hs,hx,Ya]
 rw [if_pos ⟨rfl,by simp [oX],by rw [XU]; omega⟩,XR]
 simp only [dD]
 rw [bK.Ki g3 ho hb]
def app (b:Nat){α:Type}(l l2:List α):Option (List α):=if (l.length+l2.length)*(b+1)≤1099511627776 then some (l++l2) else none
theorem yy {l l2 r:List α}(h:app b l l2=some r):(l.length+l2.length)*b≤gM∧l.length+l2.length≤gM∧r=l++l2:=by
 unfold app at h
 split at h
 ·rename_i h0
  cases h
  rw [Nat.mul_add,Nat.mul_one] at h0
  refine⟨by simp only [gM]; omega,by simp only [gM]; omega,rfl⟩
 ·cases h
theorem Fv {t2:TypeId}{l2 r:List α}{x:AV}(T:yx P t E.n b=true)(o:Has h K)(hq:K[q]? = some (i,.sl l.length E.n (E.l l)))(hx:fU h E.n x=some (E.l l2,l2.length))(gN:iR P t2 x=true)(hr:app b l l2=some r) :
  ∃i' h',dU P h t t2 (.rs i 0 l.length E.n) x=some (.rs i' 0 r.length E.n,h')∧Has h' (K.set q (i',.sl r.length E.n (E.l r))):=by
 obtain⟨e,inf,g1,g2,g3,g4,g5,g6⟩:=ki T
 obtain⟨r1,r2,rfl⟩:=yy hr
 obtain⟨⟨⟨hlen,qW⟩,lJ⟩,hlt⟩:=o.at_ _ _ _ hq
 have pj:=E.pos
 have hb:inf.size=E.n:=g3
 have kb:¬(inf.size=0∨iR P t2 x=false∨I9 inf=false):=by rw [gN,g5,hb]; simp [pj]
 subst g4
 by_cases h0:l2=[]
 ·subst h0
  refine⟨i,h,?_,?_⟩
  ·simp only [dU,g1,XJ,g2,hb,hx,gN,g5]
   rw [if_neg (by simp [pj])]
   simp only [Yf,Nat.zero_mul,Y3,Y9]
   by_cases hi:i=0
   ·subst hi
    rcases lJ with⟨_,hl0⟩| h1
    ·simp [hl0,hb,gM]
    ·exact absurd rfl h1.1
   ·rcases lJ with h1 | ⟨_,rest,h1⟩
    ·exact absurd h1.1 hi
    ·rw [if_neg hi,h1]
     simp only [XJ]
     rw [if_neg (by rw [XU,hlen]; simp only [Yf,Y3] at r1 r2; simp; omega)]
     simp
  ·rw [Y9]
   have:K.set q (i,.sl l.length E.n (E.l l))=K:=by
    apply YS
    intro j
    rw [Zb]
    by_cases hj:q=j
    ·subst hj; rw [if_pos rfl,if_pos (XQ.1 hq).1,hq]
    ·rw [if_neg hj]
   rw [this]; exact o
 ·have JN:l2.length≠0:=by simpa using h0
  by_cases hi:i=0
  ·subst hi
   rcases lJ with⟨_,hl0⟩| h1
   rotate_left
   ·exact absurd rfl h1.1
   have hnil:l=[]:=by simpa using hl0
   subst hnil
   refine⟨h.next,h.alloc (.cells (E.l l2)),?_,?_⟩
   ·simp only [dU,g1,XJ,g2,hb,hx,gN,g5]
    rw [if_neg (by simp [pj])]
    simp only [if_true]
    simp only [Yf,Ya] at r1 r2
    rw [if_neg (by simp; omega),if_neg JN]
    simp
   ·refine o.Ft hq (fun k _ hk=>by rw [AHeap.alloc,dm,if_neg (by omega)]) (YT _) (.inr (.inr (XP _))) (Yx _) ⟨⟨bK.bR,bK.nQ (by simp only [gM] at r2; simp at r2 ⊢; omega)⟩,.inr ⟨by have:=o.pos; omega,[],?_⟩⟩
    rw [AHeap.alloc,dm,if_pos rfl]; simp
  ·rcases lJ with h1 | ⟨_,rest,h1⟩
   ·exact absurd h1.1 hi
   refine⟨h.next,(h.kill i).put h.next (.cells (E.l (l++l2))),?_,?_⟩
   ·simp only [dU,g1,XJ,g2,hb,hx,gN,g5]
    rw [if_neg (by simp [pj]),if_neg hi,h1]
    simp only [XJ]
    rw [if_neg (by rw [XU,hlen]; simp; omega),if_neg JN]
    rw [Ys,Yi (by rw [hlen]; exact XP _),Yn (by rw [hlen]; exact XP _),bK.iu,XU]
   ·refine o.Ft hq (fun k hk sS=>by rw [dm,if_neg (by omega),yw,if_neg hk]) (by show h.next≤h.next+1+1; omega) (.inr (.inr (XP _))) (by show h.next<h.next+1+1; omega) ⟨⟨bK.bR,bK.nQ (by simp only [gM] at r2; simp at r2 ⊢; omega)⟩,.inr ⟨by have:=o.pos; omega,[],?_⟩⟩
    rw [dm,if_pos rfl]; simp
def Ez (b:Nat){α:Type}(n:Int)(z:α):Option (List α):=if 0≤n∧n.toNat*(b+1)≤1099511627776 then some (X6 n.toNat z) else none
theorem wO {n:Int}{z:α}{zv:AV}{r:List α}(T:yx P t E.n b=true)(o:Has h K)(e0:TypeId)(Vb:P.underlying t=some (.slice e0))(hz0:iI P e0=some zv)(O8:zv.cells=E.f z)(oX:(E.f z).all AV.b4=true)(hr:Ez b n z=some r) :
  ∃i h',gQ P h t (.int .i64 n) (.int .i64 n)=some (.rs i 0 r.length E.n,h')∧Has h' ((i,.sl r.length E.n (E.l r))::K):=by
 have hz:∀e,P.underlying t=some (.slice e)→iI P e=some zv:=fun e he=>by
  rw [Vb] at he; cases he; exact hz0
 unfold Ez at hr
 split at hr
 rotate_left
 ·cases hr
 rename_i kb
 obtain⟨h0,h1⟩:=kb
 cases hr
 obtain⟨e,inf,g1,g2,g3,g4,g5,g6⟩:=ki T
 have pj:=E.pos
 have PA:∀k,iJ (E.f z) k=E.l (X6 k z):=by
  intro k
  induction k with
  | zero=>rfl
  | succ k ih=>rw [iJ,ih,List.replicate_succ,bK.eY]
 refine⟨h.next,h.alloc (.cells (E.l (X6 n.toNat z))),?_,o.new (fun k hk=>by rw [AHeap.alloc,dm,if_neg (by omega)]) (YT _) (.inr (XP _)) (Yx _) ⟨⟨bK.bR,bK.nQ (by rw [Za]; rw [Nat.mul_add,Nat.mul_one] at h1; omega)⟩,.inr ⟨by have:=o.pos; omega,[],by rw [AHeap.alloc,dm,if_pos rfl]; simp⟩⟩⟩
 rw [Nat.mul_add,Nat.mul_one] at h1
 simp only [gQ,g1,XJ,g2,hz e g1,O8,E.len,PA,Za,g3,g4]
 have hb:n*(b:Int)≤gM:=by
  have:n*(b:Int)=((n.toNat*b:Nat):Int):=by
   rw [Int.natCast_mul,Int.toNat_of_nonneg h0]
  simp only [gM]
  rw [this]
  omega
 rw [if_pos ⟨h0,Int.le_refl _,hb,trivial,pj,by omega,oX⟩]
theorem Fw (o:Has h K)(hq:K[q]? = some (i,.sl l.length E.n (E.l l)))(hp:E.flat=true:=by rfl):∃h',jw 0 h (.rs i 0 l.length E.n)=some (E.fz l,h')∧Has h' (K.eraseIdx q):=by
 obtain⟨⟨⟨hlen,qW⟩,lJ⟩,hlt⟩:=o.at_ _ _ _ hq
 rcases lJ with⟨h0,h1⟩| ⟨h0,rest,h1⟩
 ·have:l=[]:=by simpa using h1
  subst this
  exact⟨h,by simp [jw,h0,bK.fz,bK.l],o.del q⟩
 ·refine⟨h.kill i,?_,?_⟩
  ·simp only [jw]
   rw [if_neg h0,h1]
   simp only [XJ]
   have e1:((E.l l++rest).drop 0).take (l.length*E.n)=E.l l:=by
    rw [Ys,Yi (by rw [hlen]; exact XP _),Yn (by rw [hlen]; exact XP _)]
   rw [e1,if_pos (by rw [XU,hlen]; omega),qi (bK.oJ hp).1]
   rfl
  ·have o2:=o.Ft (i':=0) (c':=.sl 0 1 []) (h':=h.kill i) hq (fun k hk _=>by rw [yw,if_neg hk]) (YT _) (.inr (.inl rfl)) (Nat.succ_pos _) ⟨⟨by simp,by simp⟩,.inl ⟨rfl,rfl⟩⟩
   have:=o2.del q
   rwa [List.eraseIdx_set_eq] at this
variable {n:Nat}
theorem cW (o:Has h K)(hq:K[q]? = some (i,.sl n E.n (E.l l))):n=l.length:=by
 have h1:=(o.at_ _ _ _ hq).1.1.1
 rw [bK.bR] at h1
 exact (Nat.eq_of_mul_eq_mul_right (Nat.pos_of_ne_zero E.pos) h1).symm
theorem bm (T:yx P t E.n b=true)(o:Has h K)(hq:K[q]? = some (i,.sl n E.n (E.l l)))(hj:ix l j=some a):fo P t (.rs i 0 n E.n) (.int k j)=some (.ptr i (0+j.toNat*E.n)):=by
 have hn:=cW o hq
 subst hn
 exact Kj T (hY hj).1 (hY hj).2.1
theorem BG (o:Has h K)(hq:K[q]? = some (i,.sl n E.n (E.l l)))(ha:gp P tf=some false)(hj:ix l j=some a)(hc:(E.f a)[off]? = some c):bC P h tf (.ptr i (0+j.toNat*E.n+off))=some c:=by
 have hn:=cW o hq
 subst hn
 exact vf o hq ha hj hc
theorem cM (o:Has h K)(hq:K[q]? = some (i,.sl n E.n (E.l l)))(ha:gp P tf=some false)(hj:ix l j=some a)(hc:(E.f a)[0]? = some c):bC P h tf (.ptr i (0+j.toNat*E.n))=some c:=by
 have hn:=cW o hq
 subst hn
 exact DN o hq ha hj hc
theorem wP (o:Has h K)(hq:K[q]? = some (i,.sl n E.n (E.l l)))(ha:gp P tf=some true)(hs:fF P tf=some E.n)(hj:ix l j=some a):bC P h tf (.ptr i (0+j.toNat*E.n))=some (.agg (E.f a)):=by
 have hn:=cW o hq
 subst hn
 exact DO o hq ha hs hj
theorem fG (o:Has h K)(hq:K[q]? = some (i,.sl n E.n (E.l l)))(hs:fF P tf=some E.n)(hj:ix l j=some a){x:AV}(hv:x.cells=E.f v)(oX:(E.f v).all AV.b4=true) :
  ∃h',jf P h tf (.ptr i (0+j.toNat*E.n)) x=some h'∧Has h' (K.set q (i,.sl n E.n (E.l (l.set j.toNat v)))):=by
 have hn:=cW o hq
 subst hn
 exact Fu o hq hs hj hv oX
theorem H8 (o:Has h K)(hq:K[q]? = some (i,.sl n E.n (E.l l)))(hs:fF P tf=some 1)(hj:ix l j=some a){x:AV}(hx:x.cells=[x])(oX:x.b4=true)(ho:off<E.n)(hb:(E.f a).set off x=E.f v) :
  ∃h',jf P h tf (.ptr i (0+j.toNat*E.n+off)) x=some h'∧Has h' (K.set q (i,.sl n E.n (E.l (l.set j.toNat v)))):=by
 have hn:=cW o hq
 subst hn
 exact DP o hq hs hj hx oX ho hb
theorem iW {t2:TypeId}{l2 r:List α}{x:AV}(T:yx P t E.n b=true)(o:Has h K)(hq:K[q]? = some (i,.sl n E.n (E.l l)))(hx:fU h E.n x=some (E.l l2,l2.length))(gN:iR P t2 x=true)(hr:app b l l2=some r) :
  ∃i' h',dU P h t t2 (.rs i 0 n E.n) x=some (.rs i' 0 r.length E.n,h')∧Has h' (K.set q (i',.sl r.length E.n (E.l r))):=by
 have hn:=cW o hq
 subst hn
 exact Fv T o hq hx gN hr
theorem qy (o:Has h K)(hq:K[q]? = some (i,.sl n E.n (E.l l)))(hp:E.flat=true:=by rfl):∃h',jw 0 h (.rs i 0 n E.n)=some (E.fz l,h')∧Has h' (K.eraseIdx q):=by
 have hn:=cW o hq
 subst hn
 exact Fw o hq hp
end
end Go.R
namespace Go.R
open Go
structure aj where
 kind:Int
 int:Int
 label:ByteArray
 args:List Int
structure bc where
 nodes:List aj
 root:Int
def eI (k:IntKind):bK Int:={n:=1,f:=fun a=>[.int k a],len:=fun _=>rfl,pos:=by decide,pure:=fun _ _=>⟨rfl,rfl⟩,canon:=fun _=>rfl}
abbrev af:bK Int:=eI .i64
theorem pure_cons {x:AV}{xs:List AV}(h:x.eH=true∧x.jE=x)(k:cZ xs=true∧dN xs=xs):cZ (x::xs)=true∧dN (x::xs)=x::xs:=
 ⟨by simp [cZ,h.1,k.1],by simp [dN,h.2,k.2]⟩
theorem pure_nil:cZ []=true∧dN []=[]:=⟨rfl,rfl⟩
theorem gF {k:IntKind}{n:Int}:(AV.int k n).eH=true∧(AV.int k n).jE = .int k n:=⟨rfl,rfl⟩
theorem nk {s:ByteArray}:(AV.str s).eH=true∧(AV.str s).jE = .str s:=⟨rfl,rfl⟩
theorem cp {b:Bool}:(AV.bool b).eH=true∧(AV.bool b).jE = .bool b:=⟨rfl,rfl⟩
def ai:bK aj:={n:=4,f:=fun x=>[.int .i64 x.kind,.int .i64 x.int,.str x.label,af.fz x.args],len:=fun _=>rfl,pos:=by decide,pure:=fun x _=>pure_cons gF (pure_cons gF (pure_cons nk (pure_cons bK.bo pure_nil))),canon:=fun _=>rfl}
end Go.R
namespace Go.R
open Go
theorem H9 {b:Bool}(h:b=false):¬b=true:=by rw [h]; decide
section
variable {P:Program}{cf:CallF}{A:bY}{m:Nat}
theorem vg {c:Code}{s:St}{Q R:Ex→St→Prop}(h:dy P cf A m c s Q)(k:∀e s',Q e s'→R e s'):dy P cf A m c s R:=by
 obtain⟨e,s',h1,h2⟩:=h
 exact⟨e,s',h1,k _ _ h2⟩
theorem aG {c:Code}{s:St}{Q:St→Prop}{R:Ex→St→Prop}(hQ:∀e s',(e = .ret∨e = .norm)∧Q s'→R e s')(h:dy P cf A m c s (fun e s'=>(e = .ret∨e = .norm)∧Q s')):dy P cf A m c s R:=vg h hQ
end
def gO:Nat:=1125899906842630
def kB (k:Nat)(h:AHeap)(x y:AV):Prop:=∀n,gO+k≤n→b8 h n x=some y
def aQ (k:Nat)(h:AHeap)(x y:List AV):Prop:=∀n,gO+k≤n→bz h n x=some y
def PB (h:AHeap)(x y:AV):Prop:=kB 4503599627370496 h x y
section
variable {h:AHeap}{α:Type}{E:bK α}{l:List α}{K:Mem}{q i:Nat}
theorem kB.mono {k k':Nat}{x y:AV}(hk:k≤k')(f:kB k h x y):kB k' h x y:=fun n hn=>f n (by omega)
theorem HG {k:Nat}{x y:AV}(f:kB k h x y)(hk:k≤4503599627370496:=by decide):PB h x y:=f.mono hk
theorem lX {n:Nat}(h:gO≤n):∃k,n=k+1∧gO≤k+1:=⟨n - 1,by simp only [gO] at h; omega,by omega⟩
theorem lY {x:AV}(h1:x.eH=true)(h2:∀n,b8 h (n+1) x=if x.eH then some x.jE else none){y:AV}(h3:x.jE=y):kB 0 h x y:=fun n hn=>by
 obtain⟨k,rfl,_⟩:=lX (show gO≤n by omega)
 rw [h2,h1,h3]; rfl
theorem aT {k:IntKind}{n:Int}:kB 0 h (.int k n) (.int k n):=lY rfl (fun _=>rfl) rfl
theorem fB {b:Bool}:kB 0 h (.bool b) (.bool b):=lY rfl (fun _=>rfl) rfl
theorem cq {s:ByteArray}:kB 0 h (.str s) (.str s):=lY rfl (fun _=>rfl) rfl
theorem dW (hp:E.flat=true:=by rfl):kB 0 h (E.fz l) (E.fz l):=lY (bK.bo hp).1 (fun _=>rfl) (bK.bo hp).2
theorem oL {cs:List AV}(h1:(cZ cs=true))(h2:dN cs=E.l l){n:Nat}{b:Bool}(h3:n=l.length):kB 0 h (.fz cs n b) (E.fz l):=by
 refine lY (by simpa [AV.eH] using h1) (fun _=>rfl) ?_
 subst h3
 show AV.fz (dN cs) l.length false=_
 rw [h2]; rfl
theorem ou:∀{cs:List AV} {n:Nat},cZ cs=true→(∀x∈cs,∀n,b8 h (n+1) x=if x.eH then some x.jE else none)→cs.length+1<n→bz h n cs=some (dN cs)
 | [],n,_,_,hn=>by
  obtain⟨k,rfl⟩:∃k,n=k+1:=⟨n - 1,by omega⟩
  rfl
 | x::cs,n,h1,h2,hn=>by
  obtain⟨k,rfl⟩:∃k,n=k+1+1:=⟨n - 2,by simp at hn; omega⟩
  simp only [cZ,XN] at h1
  simp only [bz]
  rw [h2 x (by simp) k,h1.1]
  simp only [if_true,XJ]
  rw [ou h1.2 (fun y hy=>h2 y (by simp [hy])) (by simp at hn; omega)]
  rfl
def yz:AV→Bool
 | .agg _ | .tup _ | .fn _ _=>false
 | _=>true
theorem Fx {x:AV}(hf:yz x=true)(hn:x.eH=true)(n:Nat):b8 h (n+1) x=if x.eH then some x.jE else none:=by
 cases x<;>first | rfl | (simp [AV.eH] at hn; done) | (simp [yz] at hf; done)
theorem Ia (o:Has h K)(hq:K[q]? = some (i,.sl l.length E.n (E.l l)))(hf:∀a:α,(E.f a).all yz=true)(hp:E.flat=true:=by rfl):kB 0 h (.rs i 0 l.length E.n) (E.fz l):=fun n hn=>by
 obtain⟨⟨⟨hlen,qW⟩,lJ⟩,hlt⟩:=o.at_ _ _ _ hq
 obtain⟨k,rfl,hk⟩:=lX (show gO≤n by omega)
 simp only [b8]
 rcases lJ with⟨h0,h1⟩| ⟨h0,rest,h1⟩
 ·have:l=[]:=by simpa using h1
  subst this
  simp [h0,bK.fz,bK.l]
 ·rw [if_neg h0,h1]
  simp only [XJ]
  have e1:((E.l l++rest).drop 0).take (l.length*E.n)=E.l l:=by
   rw [Ys,Yi (by rw [hlen]; exact XP _),Yn (by rw [hlen]; exact XP _)]
  rw [if_pos (by rw [XU,hlen]; omega),e1,ou (bK.oJ hp).1 (fun x hx=>?_) (by simp only [gO] at hk; omega),(bK.oJ hp).2]
  ·rfl
  ·have hnx:x.eH=true:=by
    have:∀(cs:List AV),cZ cs=true→x∈cs→x.eH=true:=by
     intro cs
     induction cs with
     | nil=>intro _ h; cases h
     | cons y ys ih=>
      intro h hm
      simp only [cZ,XN] at h
      rcases X7.1 hm with rfl | hm
      ·exact h.1
      ·exact ih h.2 hm
    exact this _ (bK.oJ hp).1 hx
   have Vc:yz x=true:=by
    unfold bK.l at hx
    rw [List.mem_flatMap] at hx
    obtain⟨a,_,ha⟩:=hx
    exact X5.1 (hf a) x ha
   exact fun n=>Fx Vc hnx n
theorem dK {n:Nat}(o:Has h K)(hq:K[q]? = some (i,.sl n E.n (E.l l)))(hf:∀a:α,(E.f a).all yz=true)(hp:E.flat=true:=by rfl):kB 0 h (.rs i 0 n E.n) (E.fz l):=by
 have hn:=cW o hq
 subst hn
 exact Ia o hq hf hp
theorem aw:aQ 0 h [] []:=fun n hn=>by
 obtain⟨k,rfl,_⟩:=lX (show gO≤n by omega)
 rfl
theorem ah {k1 k2:Nat}{x y:AV}{xs ys:List AV}(f:kB k1 h x y)(g:aQ k2 h xs ys):aQ (k1+k2+1) h (x::xs) (y::ys):=fun n hn=>by
 obtain⟨k,rfl⟩:∃k,n=k+1:=⟨n - 1,by omega⟩
 simp only [bz]
 rw [f k (by omega),g k (by omega)]
 rfl
theorem eh {k:Nat}{xs ys:List AV}(f:aQ k h xs ys):kB (k+1) h (.agg xs) (.agg ys):=fun n hn=>by
 obtain⟨k,rfl⟩:∃k,n=k+1:=⟨n - 1,by omega⟩
 simp only [b8]
 rw [f k (by omega)]; rfl
end
def jD (k:IntKind)(x:Int)(n:Nat):Int:=x.fdiv (2 ^ (min n k.bits))
section
variable {P:Program}{t:TypeId}{b:Nat}{α:Type}{E:bK α}{h:AHeap}{K:Mem}{l r:List α}{i q:Nat}{j lo hi:Int}{k k':IntKind}
theorem wQ {s:ByteArray}{v:Int}(hu:P.underlying t=some .string)(h:bt s j=some v):p8 P t (.str s) (.int k j)=some (.int .u8 v):=by
 unfold bt at h
 split at h
 ·rename_i h0
  rw [XL] at h
  obtain⟨b,hb,rfl⟩:=h
  simp only [p8,hu,XJ,h0,if_true,hb,XR]
 ·cases h
theorem Fy (h:Ju l lo hi=some r):(((E.l l).drop (lo.toNat*E.n)).take ((hi.toNat - lo.toNat)*E.n))=E.l r∧r.length=hi.toNat - lo.toNat:=by
 obtain⟨h0,h1,h2,rfl⟩:=yv h
 refine⟨by rw [bK.wN,bK.Fq],?_⟩
 rw [YD,List.length_drop]
 omega
theorem Fz (o:Has h K)(hq:K[q]? = some (i,.sl l.length E.n (E.l l)))(T:yx P t E.n b=true)(hs:Ju l 0 hi=some r) :
  lN P t (.rs i 0 l.length E.n) none (some (.int k hi)) none=some (.rs i 0 r.length E.n)∧Has h (K.set q (i,.sl r.length E.n (E.l r))):=by
 obtain⟨e,inf,g1,g2,g3,g4,g5,g6⟩:=ki T
 obtain⟨h0,h1,h2,hr⟩:=yv hs
 obtain⟨h3,h4⟩:=Fy (E:=E) hs
 simp only [Int.toNat_zero,Nat.sub_zero] at h4 hr
 have Ao:r=l.take hi.toNat:=by rw [hr]; simp
 refine⟨?_,?_⟩
 ·simp only [lN,g1,XJ,g6,if_true,kF]
  rw [if_pos ⟨by omega,h2⟩]
  simp only [XJ,XR,Nat.zero_mul,Y3,Nat.sub_zero,h4]
 ·obtain⟨⟨⟨hlen,qW⟩,lJ⟩,hlt⟩:=o.at_ _ _ _ hq
  refine o.Ft hq (fun _ _ _=>rfl) (XP _) (.inl rfl) hlt ⟨⟨bK.bR,?_⟩,?_⟩
  ·rw [bK.bR]
   refine Yz (YF _ ?_) (hlen ▸ qW)
   rw [h4]; omega
  ·rcases lJ with⟨h5,h6⟩| ⟨h5,rest,h6⟩
   ·left; exact⟨h5,by rw [h4]; omega⟩
   ·right
    refine⟨h5,E.l (l.drop hi.toNat)++rest,?_⟩
    rw [h6,Ao,←X3,←bK.iu,YW]
theorem Kk {n:Nat}(o:Has h K)(hq:K[q]? = some (i,.sl n E.n (E.l l)))(T:yx P t E.n b=true)(hs:Ju l 0 hi=some r) :
  lN P t (.rs i 0 n E.n) none (some (.int k hi)) none=some (.rs i 0 r.length E.n)∧Has h (K.set q (i,.sl r.length E.n (E.l r))):=by
 have hn:=cW o hq
 subst hn
 exact Fz o hq T hs
end
theorem ar {P:Program}{cf:CallF}{m:Nat}{aW:FuncId→bY}{f:FuncId}{fn:Func}{A:bY}(ha:aW f=A){args:List AV}{h:AHeap}{R:AV→AHeap→Prop}(hf:P.funcs[f]? = some fn)(hb:fn.body=some (bW fn))(hn:Y6 args.length fn.ntmps=true)
  (he:dy P cf A m (bW fn) ⟨mW A.keep args,A.aI.map fun _=>none,h⟩ (fun e s=>(e = .ret∨e = .norm)∧∃r,aM P (s.open A) fn.results.toList=some r∧R r s.h)) :
  ∃r h',bb P aW cf m f args h=some (r,h')∧R r h':=by
 subst ha
 exact wM hf hb hn he
def FA (a b:ByteArray):Bool:=Op.bytesLess a.data.toList b.data.toList||a.data.toList==b.data.toList
end Go.R
namespace Go.R
open Go
mutual
theorem wR {h:AHeap}:∀(n:Nat) (x y:AV),x.eH=true→b8 h n x=some y→y=x.jE
 | 0,x,y,_,h=>by simp [b8] at h
 | n+1,x,y,hn,h=>by
  cases x with
  | agg cs=>
   simp only [b8,XL] at h
   obtain⟨fI,hcs,rfl⟩:=h
   rw [gS n cs fI (by simpa [AV.eH] using hn) hcs]; rfl
  | tup cs=>
   simp only [b8,XL] at h
   obtain⟨fI,hcs,rfl⟩:=h
   rw [gS n cs fI (by simpa [AV.eH] using hn) hcs]; rfl
  | fn f cs=>
   simp only [b8,XL] at h
   obtain⟨fI,hcs,rfl⟩:=h
   rw [gS n cs fI (by simpa [AV.eH] using hn) hcs]; rfl
  | ptr _ _=>simp [AV.eH] at hn
  | rs _ _ _ _=>simp [AV.eH] at hn
  | _=>simp only [b8,hn,if_true,XM] at h; exact h.symm
theorem gS {h:AHeap}:∀(n:Nat) (xs ys:List AV),cZ xs=true→bz h n xs=some ys→ys=dN xs
 | 0,xs,ys,_,h=>by simp [bz] at h
 | n+1,[],ys,_,h=>by simp only [bz,XM] at h; exact h.symm
 | n+1,x::xs,ys,hn,h=>by
  simp only [cZ,XN] at hn
  simp only [bz,XK,XL] at h
  obtain⟨y,hy,zs,hz,rfl⟩:=h
  rw [wR n x y hn.1 hy,gS n xs zs hn.2 hz]; rfl
end
mutual
theorem vh {h:AHeap}:∀(n:Nat) (x y:AV),gu h n x=some y→b8 h n x=some y
 | 0,x,y,h=>by simp [gu] at h
 | n+1,x,y,h=>by
  unfold gu at h
  split at h
  ·exact h
  ·exact h
  ·exact h
  ·exact h
  ·exact h
  ·exact h
  ·exact h
  ·exact h
  ·rename_i id off len iH
   simp only [b8]
   split at h
   ·rename_i h0; rw [if_pos h0]; exact h
   ·rename_i h0
    rw [if_neg h0]
    rw [XK] at h ⊢
    obtain⟨ob,ho,h⟩:=h
    refine⟨ob,ho,?_⟩
    cases ob with
    | map es=>cases h
    | row t cs=>cases h
    | cells cs=>
     simp only at h ⊢
     split at h
     ·rename_i hle
      rw [if_pos hle]
      rw [XL] at h ⊢
      obtain⟨fI,hcs,h2⟩:=h
      exact⟨fI,kM n _ _ hcs,h2⟩
     ·cases h
  ·simp only [b8]
   rw [XL] at h ⊢
   obtain⟨fI,hcs,h2⟩:=h
   exact⟨fI,kM n _ _ hcs,h2⟩
  ·simp only [b8]
   rw [XL] at h ⊢
   obtain⟨fI,hcs,h2⟩:=h
   exact⟨fI,kM n _ _ hcs,h2⟩
  ·cases h
theorem kM {h:AHeap}:∀(n:Nat) (xs ys:List AV),dE h n xs=some ys→bz h n xs=some ys
 | 0,xs,ys,h=>by simp [dE] at h
 | n+1,[],ys,h=>h
 | n+1,x::xs,ys,h=>by
  simp only [dE,bz,XK,XL] at h ⊢
  obtain⟨y,hy,zs,hz,h2⟩:=h
  exact⟨y,vh n x y hy,zs,kM n xs zs hz,h2⟩
end
def yA (k:Nat)(h:AHeap)(x y:AV):Prop:=∀n,gO+k≤n→gu h n x=some y
def Ib (k:Nat)(h:AHeap)(x y:List AV):Prop:=∀n,gO+k≤n→dE h n x=some y
def fj (h:AHeap)(x y:AV):Prop:=yA 4503599627370496 h x y
section
variable {h:AHeap}{α:Type}{E:bK α}{l:List α}{K:Mem}{q i:Nat}
theorem fj.HG {x y:AV}(f:fj h x y):PB h x y:=fun n hn=>vh _ _ _ (f n hn)
theorem cV {k:Nat}{x y:AV}(f:yA k h x y)(hk:k≤4503599627370496:=by decide):fj h x y:=fun n hn=>f n (by omega)
theorem BH {x y:AV}(h2:∀n,gu h (n+1) x=some y):yA 0 h x y:=fun n hn=>by
 obtain⟨k,rfl,_⟩:=lX (show gO≤n by omega)
 exact h2 k
theorem dc {k:IntKind}{n:Int}:yA 0 h (.int k n) (.int k n):=BH fun _=>rfl
theorem aA {b:Bool}:yA 0 h (.bool b) (.bool b):=BH fun _=>rfl
def FB:AV→Bool
 | .int _ _ | .bool _ | .str _=>true
 | _=>false
theorem nl:∀{cs:List AV} {n:Nat},cs.all FB=true→cs.length+1<n→dE h n cs=some cs
 | [],n,_,hn=>by
  obtain⟨k,rfl⟩:∃k,n=k+1:=⟨n - 1,by omega⟩
  rfl
 | x::cs,n,h1,hn=>by
  obtain⟨k,rfl⟩:∃k,n=k+1+1:=⟨n - 2,by simp at hn; omega⟩
  simp only [YA,XN] at h1
  simp only [dE]
  have:gu h (k+1) x=some x:=by cases x<;>first | rfl | (simp [FB] at h1)
  rw [this,XJ,nl h1.2 (by simp at hn; omega)]
  rfl
theorem M3 {n:Nat}(o:Has h K)(hq:K[q]? = some (i,.sl n E.n (E.l l)))(hf:∀a:α,(E.f a).all FB=true):yA 0 h (.rs i 0 n E.n) (E.fz l):=fun m hm=>by
 have hn:=cW o hq
 subst hn
 obtain⟨⟨⟨hlen,qW⟩,lJ⟩,hlt⟩:=o.at_ _ _ _ hq
 obtain⟨k,rfl,hk⟩:=lX (show gO≤m by omega)
 simp only [gu]
 rcases lJ with⟨h0,h1⟩| ⟨h0,rest,h1⟩
 ·have:l=[]:=by simpa using h1
  subst this
  simp [h0,bK.fz,bK.l]
 ·rw [if_neg h0,h1]
  simp only [XJ]
  have e1:((E.l l++rest).drop 0).take (l.length*E.n)=E.l l:=by
   rw [Ys,Yi (by rw [hlen]; exact XP _),Yn (by rw [hlen]; exact XP _)]
  rw [if_pos (by rw [XU,hlen]; omega),e1,nl ?_ (by simp only [gO] at hk; omega)]
  ·rfl
  ·rw [X5]
   intro x hx
   unfold bK.l at hx
   rw [List.mem_flatMap] at hx
   obtain⟨a,_,ha⟩:=hx
   exact X5.1 (hf a) x ha
theorem te:Ib 0 h [] []:=fun n hn=>by
 obtain⟨k,rfl,_⟩:=lX (show gO≤n by omega)
 rfl
theorem jt {k1 k2:Nat}{x y:AV}{xs ys:List AV}(f:yA k1 h x y)(g:Ib k2 h xs ys):Ib (k1+k2+1) h (x::xs) (y::ys):=fun n hn=>by
 obtain⟨k,rfl⟩:∃k,n=k+1:=⟨n - 1,by omega⟩
 simp only [dE]
 rw [f k (by omega),g k (by omega)]
 rfl
theorem tg {k:Nat}{xs ys:List AV}(f:Ib k h xs ys):yA (k+1) h (.tup xs) (.tup ys):=fun n hn=>by
 obtain⟨k,rfl⟩:∃k,n=k+1:=⟨n - 1,by omega⟩
 simp only [gu]
 rw [f k (by omega)]; rfl
def bJ:Nat:=9007199254740992
theorem fq {k:Nat}{xs ys:List AV}(f:aQ k h xs ys)(hk:k≤bJ:=by decide):aQ bJ h xs ys:=fun n hn=>f n (by omega)
def th (x y:AV):Prop:=x.eH=true∧x.jE=y
def yB (xs ys:List AV):Prop:=cZ xs=true∧dN xs=ys
theorem bu {k:IntKind}{n:Int}:th (.int k n) (.int k n):=⟨rfl,rfl⟩
theorem lZ {s:ByteArray}:th (.str s) (.str s):=⟨rfl,rfl⟩
theorem rl (hp:E.flat=true:=by rfl):th (E.fz l) (E.fz l):=bK.bo hp
theorem sh:th .nils (E.fz []):=⟨rfl,rfl⟩
theorem oM:yB [] []:=⟨rfl,rfl⟩
theorem cN {x y:AV}{xs ys:List AV}(a:th x y)(b:yB xs ys):yB (x::xs) (y::ys):=⟨by simp [cZ,a.1,b.1],by simp [dN,a.2,b.2]⟩
theorem oN {xs ys:List AV}(a:yB xs ys):th (.agg xs) (.agg ys):=⟨by simpa [AV.eH] using a.1,by show AV.agg (dN xs)=_; rw [a.2]⟩
end
end Go.R
namespace Go.R
open Go
section
variable {P:Program}{h:AHeap}{K:Mem}{i q:Nat}{cs fI:List AV}{x z:AV}{t:TypeId}{off:Nat}
theorem gL (o:Has h K)(oX:cs.all AV.b4=true):∃i h',yr h cs=some (.ptr i 0,h')∧Has h' ((i,.ob cs)::K):=by
 refine⟨h.next,h.alloc (.cells cs),by unfold yr; rw [if_pos oX],o.new (fun k hk=>by rw [AHeap.alloc,dm,if_neg (by omega)]) (YT _) (.inr (XP _)) (Yx _) ⟨by have:=o.pos; omega,by rw [AHeap.alloc,dm,if_pos rfl]⟩⟩
theorem cj (o:Has h K)(hq:K[q]? = some (i,.ob cs))(hr:jd P t cs off=some z):bC P h t (.ptr i off)=some z:=by
 obtain⟨⟨h1,h2⟩,_⟩:=o.at_ _ _ _ hq
 simp only [bC,jZ,h2,XJ,hr]
theorem ov (o:Has h K)(hq:K[q]? = some (i,.ob cs))(hw:hH P t cs off x=some fI):∃h',jf P h t (.ptr i off) x=some h'∧Has h' (K.set q (i,.ob fI)):=by
 obtain⟨⟨h1,h2⟩,_⟩:=o.at_ _ _ _ hq
 exact⟨h.put i (.cells fI),by simp only [jf,h2,XJ,hw,XR],js o hq ⟨h1,by rw [dm,if_pos rfl]⟩⟩
end
theorem aP {x y:AV}(h:th x y):aO x=y:=by
 unfold aO
 rw [h.1,h.2]; rfl
theorem bN:([]:List AV).map aO=[]:=rfl
theorem au {x y:AV}{xs ys:List AV}(a:aO x=y)(b:xs.map aO=ys):(x::xs).map aO=y::ys:=by
 rw [X8,a,b]
theorem jH {α:Type}{K L:List α}{q:Nat}{p:α}(h:L[q]? = some p):(K++L)[K.length+q]? = some p:=by
 rw [X1 (by omega),YK,h]
theorem BI {α:Type}{E:bK α}{h:AHeap}{K:Mem}{l:List α}{cs:List AV}(o:Has h K)(hc:cs=E.l l)(hl:l.length≤1024:=by simp) :
  ∃i h',some (AV.rs h.next 0 l.length E.n,h.alloc (.cells cs))=some (AV.rs i 0 l.length E.n,h')∧Has h' ((i,.sl l.length E.n (E.l l))::K):=by
 subst hc
 exact⟨h.next,_,rfl,o.new (fun k hk=>by rw [AHeap.alloc,dm,if_neg (by omega)]) (YT _) (.inr (XP _)) (Yx _) ⟨⟨bK.bR,bK.nQ (by omega)⟩,.inr ⟨by have:=o.pos; omega,[],by rw [AHeap.alloc,dm,if_pos rfl]; simp⟩⟩⟩
end Go.R
