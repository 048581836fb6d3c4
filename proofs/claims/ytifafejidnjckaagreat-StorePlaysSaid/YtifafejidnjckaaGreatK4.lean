/- Part of the proof: RRow, RStep, RWalk, RG1, RG2, RG3, RG4, RT, RG5, RG6, RG7. -/
import Derived.Test.YtifafejidnjckaaGreatK3
import Derived.ProofKit
set_option linter.unusedVariables false
set_option linter.unusedSimpArgs false
set_option maxRecDepth 100000
open Bool renaming and_eq_true → aiM, false_eq_true → aiW, or_eq_true → ajE
open List renaming getElem?_eq_some_iff → aiO, length_append → aiT, length_cons → aiX, drop_eq_getElem_cons → aiZ, getElem?_append_right → ai0, replicate → ai1, mem_append → ai3, length_nil → ai4, map_append → ai5, getElem?_append_left → ai6, append_assoc → ai7, map_cons → ai9, mem_cons → aja, all_eq_true → ajd, drop_zero → aji, nil_append → ajj, take_append_of_le_length → ajl, length_take → ajo, take_of_length_le → ajp, take_length → ajr, eq_nil_of_length_eq_zero → ajs, length_set → ajw, getElem?_cons_zero → ajx, all_cons → ajB, ext_getElem? → ajG, getElem?_of_mem → ajH, append_nil → ajJ, set_append_right → ajM, getElem?_cons_succ → ajV, drop_append_of_le_length → aj4, getElem?_set → aj9, take_append_drop → akd, length_replicate → ake
open Nat renaming le_refl → aiQ, zero_add → ajf, lt_of_lt_of_le → ajk, beq → ajy, lt_succ_self → ajz, le_trans → ajF, sub_self → ajI, add_sub_cancel_left → ajK, mul_le_mul_right → ajN, add_assoc → ajT, eq_of_beq_eq_true → aj2, le_succ → aj5, add_mul → akb, lt_succ_of_lt → akg, add_zero → akj, ble → akn, min_eq_left → ako, zero_lt_one → akp, add_comm → akt
open Option renaming bind_some → aiI, bind_eq_some_iff → aiJ, map_eq_some_iff → aiK, map_some → aiR, isSome_none → akk
open Option.some renaming injEq → aiL
open Prod.mk renaming injEq → aiV
namespace Go.R
open Go
def Hu (P:Program)(F:TypeId→List AV→Prop):List Field→List AV→Prop
 | [],xs=>xs=[]
 | f::fs,xs=>∃a b,xs=a++b∧a.length=P.cellsOf f.type∧F f.type a∧Hu P F fs b
def Fits (P:Program):Nat→TypeId→List AV→Prop
 | 0,_,_=>False
 | n+1,t,xs=>
  match P.underlying t with
  | some .bool=>∃b,xs=[.bool b]
  | some (.int k)=>∃z,xs=[.int k z]∧k.min≤z∧z≤k.max
  | some .string=>∃s:ByteArray,xs=[.str s]∧s.size≤maxLen
  | some (.slice e)=>xs=[.nils]∨∃els:List (List AV),xs=[.fz els.flatten els.length false]∧els.length≤maxLen∧∀el∈els,el.length=P.cellsOf e∧Fits P n e el
  | some (.struct fs)=>Hu P (Fits P n) fs.toList xs
  | _=>False
def yP (P:Program):Nat→List Field→Bool
 | _,[]=>true
 | k,f::fs=>ajy f.offset k&&yP P (k+P.cellsOf f.type) fs
def rU (P:Program):Nat→TypeId→Bool
 | 0,_=>false
 | n+1,t=>
  match P.underlying t with
  | some .bool | some (.int _) | some .string=>true
  | some (.slice e)=>rU P n e
  | some (.struct fs)=>yP P 0 fs.toList&&ajy (P.cellsOf t) ((fs.toList.map fun f=>P.cellsOf f.type).sum)&&fs.toList.all fun f=>rU P n f.type
  | _=>false
theorem mapM_some {α β:Type}{f:α→Option β}:∀{l:List α} {ys:List β},l.mapM f=some ys→ys.length=l.length∧∀(i:Nat) (x:α),l[i]? = some x→∃y,ys[i]? = some y∧f x=some y
 | [],ys,h=>by
  simp at h; subst h
  exact⟨rfl,fun i x hx=>by simp at hx⟩
 | a::l,ys,h=>by
  simp only [List.mapM_cons,Option.bind_eq_bind,aiJ,Option.pure_def,aiL] at h
  obtain⟨y,hy,zs,hz,rfl⟩:=h
  obtain⟨h1,h2⟩:=mapM_some hz
  refine⟨by simp [h1],fun i x hx=>?_⟩
  cases i with
  | zero=>simp at hx; subst hx; exact⟨y,rfl,hy⟩
  | succ i=>simpa using h2 i x (by simpa using hx)
theorem Hv {w:World}{a:Addr}{v:Value}(h:w.cell? a=some v):w.cell? ⟨a.block,a.off,none⟩=some v∧a.spot=none:=by
 unfold World.cell? at h ⊢
 split at h
 ·rename_i c t fr hb
  rw [hb]
  simp only at h ⊢
  cases hs:a.spot with
  | none=>rw [hs] at h; exact⟨by simpa using h,rfl⟩
  | some _=>rw [hs] at h; simp at h
 ·cases h
theorem sN (a:Addr)(n:Nat):(a.add n).block=a.block∧(a.add n).off=a.off+n:=by
 unfold Addr.add
 split
 ·rename_i h; subst h; exact⟨rfl,rfl⟩
 ·exact⟨rfl,rfl⟩
theorem E4 {w:World}{base:Nat}{a:Addr}{n:Nat}{cs:List Value}(h:w.cells? base a n=some cs):cs.length=n∧∀i,i<n→w.cell? ⟨a.block,a.off+i,none⟩=cs[i]?∧(i=0→a.spot=none):=by
 unfold World.cells? at h
 split at h
 ·obtain⟨h1,h2⟩:=mapM_some h
  refine⟨by simpa using h1,fun i hi=>?_⟩
  obtain⟨y,hy,hc⟩:=h2 i i (by simp [hi])
  obtain⟨h3,h4⟩:=Hv hc
  rw [(sN a i).1,(sN a i).2] at h3
  refine⟨by rw [h3,hy],fun h0=>?_⟩
  subst h0
  simpa [Addr.add] using h4
 ·cases h
theorem xI {α:Type}{Q:Nat→α→Prop}:∀n,(∀i,i<n→∃x,Q i x)→∃l:List α,l.length=n∧∀i x,l[i]? = some x→Q i x
 | 0,_=>⟨[],rfl,fun i x h=>by simp at h⟩
 | n+1,h=>by
  obtain⟨l,h1,h2⟩:=xI n fun i hi=>h i (by omega)
  obtain⟨x,hx⟩:=h n (by omega)
  refine⟨l++[x],by simp [h1],fun i y hy=>?_⟩
  by_cases hi:i<n
  ·exact h2 i y (by rwa [ai6 (by omega)] at hy)
  ·rw [ai0 (by omega)] at hy
   have:i=n:=by
    have:=(aiO.1 hy).1
    simp at this; omega
   subst this
   simp [h1] at hy
   subst hy; exact hx
theorem Cells.append {c:Cx}{L:Nat→Prop}:∀{xs ys:List AV} {b o:Nat},Cells c L xs b o→Cells c L ys b (o+xs.length)→Cells c L (xs++ys) b o
 | [],ys,b,o,_,h=>by simpa using h
 | x::xs,ys,b,o,h,k=>⟨h.1,Cells.append h.2 (by simpa [ajT,akt 1] using k)⟩
theorem Cells.flatten {c:Cx}{L:Nat→Prop}{b size:Nat}:∀(els:List (List AV)) (o:Nat),(∀i el,els[i]? = some el→el.length=size∧Cells c L el b (o+i*size))→Cells c L els.flatten b o
 | [],o,_=>trivial
 | el::els,o,h=>by
  obtain⟨h1,h2⟩:=h 0 el rfl
  rw [List.flatten_cons]
  refine Cells.append (by simpa using h2) (Cells.flatten (size:=size) els _ fun i el' he=>?_)
  obtain⟨h3,h4⟩:=h (i+1) el' (by simpa using he)
  refine⟨h3,?_⟩
  rw [h1]
  rwa [show o+size+i*size=o+(i+1)*size by rw [akb,Nat.one_mul]; omega]
section
variable {H:Type}{enc:TypeId × Value→H}{P:Program}{c:Cx}{sp:Nat→Bool}{held:Bool}
theorem xJ {F:TypeId→List AV→Prop}{g:TypeId→List Value→Option (DataW H × List MemPlace)}(hg:∀t cs x,g t cs=some x→cs.length=P.cellsOf t→(∃u:Nat,u=0)→True) :
  ∀(fs:List Field) (k:Nat) (cs:List Value) (xs:List (DataW H × List MemPlace)),yP P k fs=true→(∀f∈fs,∀cs x,g f.type cs=some x→cs.length=P.cellsOf f.type→∃ys,VRs c none0 ys cs∧F f.type ys∧∀v∈cs,v.oneCell'=true)→
   (fs.mapM fun f=>g f.type ((cs.drop f.offset).take (P.cellsOf f.type)))=some xs→k+(fs.map fun f=>P.cellsOf f.type).sum≤cs.length→
   ∃ys,VRs c none0 ys ((cs.drop k).take ((fs.map fun f=>P.cellsOf f.type).sum))∧Hu P F fs ys∧∀v∈(cs.drop k).take ((fs.map fun f=>P.cellsOf f.type).sum),v.oneCell'=true
 | [],k,cs,xs,_,_,_,_=>⟨[],by simp [VRs],rfl,by simp⟩
 | f::fs,k,cs,xs,hc,hF,h,hl=>by
  simp only [yP,aiM,beq_nat,decide_eq_true_eq] at hc
  obtain⟨rfl,hc⟩:=hc
  simp only [List.mapM_cons,Option.bind_eq_bind,aiJ,Option.pure_def,aiL] at h
  obtain⟨y,hy,zs,hz,rfl⟩:=h
  simp only [ai9,List.sum_cons] at hl ⊢
  have hlen:((cs.drop f.offset).take (P.cellsOf f.type)).length=P.cellsOf f.type:=by simp; omega
  obtain⟨a,ha,hFa,h1⟩:=hF f (by simp) _ _ hy hlen
  obtain⟨b,hb,hFb,h2⟩:=xJ hg fs (f.offset+P.cellsOf f.type) cs zs hc (fun f' WQ=>hF f' (by simp [WQ])) hz (by omega)
  have T6:(cs.drop f.offset).take (P.cellsOf f.type+(fs.map fun f=>P.cellsOf f.type).sum)=(cs.drop f.offset).take (P.cellsOf f.type)++((cs.drop (f.offset+P.cellsOf f.type)).take ((fs.map fun f=>P.cellsOf f.type).sum)):=by
   rw [List.take_add,List.drop_drop]
  rw [T6]
  refine⟨a++b,VRs.append ha hb,⟨a,b,rfl,?_,hFa,hFb⟩,fun v hv=>?_⟩
  ·rw [ha.length,hlen]
  ·rcases ai3.1 hv with hv | hv
   ·exact h1 v hv
   ·exact h2 v hv
theorem wC (yM:∀id,c.h.get id=none):∀(m:Nat) (t:TypeId) (fuel:Nat) (cs:List Value) (d:DataW H) (ps:List MemPlace),rU P m t=true→DataW.trod enc P c.w 0 sp held fuel t cs=some (d,ps)→
  ∃xs,VRs c none0 xs cs∧Fits P m t xs∧∀v∈cs,v.oneCell'=true
 | 0,_,_,_,_,_,hB,_=>by simp [rU] at hB
 | m+1,t,0,cs,d,ps,hB,h=>by simp [DataW.trod] at h
 | m+1,t,fuel+1,cs,d,ps,hB,h=>by
  have hnl:∀id,¬Live c.h id:=fun id hl=>by have:=hl.2; rw [yM id] at this; cases this
  unfold rU at hB
  unfold Fits
  cases hu:P.underlying t with
  | none=>rw [hu] at hB; cases hB
  | some td=>
  rw [hu] at hB
  cases td<;>simp only at hB ⊢<;>try (cases hB; done)
  ·
   unfold DataW.trod at h
   rw [hu] at h
   split at h<;>first | (rename_i heq; cases heq; done) | skip
   all_goals try (rename_i heq _; cases heq; done)
   all_goals (first | (cases h; done) | skip)
   ·rename_i b _
    exact⟨[.bool b],⟨by simp [VR],trivial⟩,⟨b,rfl⟩,by simp [Value.oneCell']⟩
  ·rename_i k
   unfold DataW.trod at h
   rw [hu] at h
   split at h<;>first | (rename_i heq; cases heq; done) | skip
   all_goals try (rename_i heq _; cases heq; done)
   ·rename_i k' k2 n heq
    cases heq
    split at h
    ·rename_i hk
     obtain⟨rfl,Y9⟩:=hk
     simp only [Lit.wf,aiM,decide_eq_true_eq] at Y9
     exact⟨[.int k2 n],⟨by simp [VR],trivial⟩,⟨n,rfl,Y9⟩,by simp [Value.oneCell']⟩
    ·cases h
   ·cases h
  ·
   unfold DataW.trod at h
   rw [hu] at h
   split at h<;>first | (rename_i heq; cases heq; done) | skip
   all_goals try (rename_i heq _; cases heq; done)
   ·rename_i s _
    split at h
    ·rename_i hs
     exact⟨[.str s],⟨by simp [VR],trivial⟩,⟨s,rfl,hs⟩,by simp [Value.oneCell']⟩
    ·cases h
   ·cases h
  ·
   rename_i e
   unfold DataW.trod at h
   rw [hu] at h
   split at h<;>first | (rename_i heq; cases heq; done) | skip
   all_goals try (rename_i heq _; cases heq; done)
   ·exact⟨[.nils],⟨by simp [VR],trivial⟩,.inl rfl,by simp [Value.oneCell']⟩
   ·rename_i e' a len cap heq
    cases heq
    simp only at h
    split at h
    rotate_left
    ·cases h
    rename_i hbound
    obtain⟨_,hlc,hcap⟩:=hbound
    rw [aiJ] at h
    obtain⟨elems,W7,_⟩:=h
    obtain⟨hn,hget⟩:=mapM_some W7
    have key:∀i,i<len→∃el:List AV,el.length=P.cellsOf e∧Fits P m e el∧Cells c none0 el a.block (a.off+i*P.cellsOf e)∧(i=0→0<P.cellsOf e→a.spot=none):=by
     intro i hi
     obtain⟨y,_,hy⟩:=hget i i (by simp [hi])
     rw [aiJ] at hy
     obtain⟨csi,hcs,hy⟩:=hy
     obtain⟨hl,tq⟩:=E4 hcs
     obtain⟨el,hv,hf,h1⟩:=wC yM m e fuel csi y.1 y.2 hB hy
     refine⟨el,by rw [hv.length,hl],hf,Cells.of_vals hv (fun j hj=>?_) h1,fun h0 pO=>?_⟩
     ·have:=(tq j (by omega)).1
      rwa [(sN a _).1,(sN a _).2] at this
     ·subst h0
      have:=(tq 0 pO).2 rfl
      simpa [Addr.add] using this
    obtain⟨els,hl,Ls⟩:=xI len key
    refine⟨[.fz els.flatten els.length false],⟨?_,trivial⟩,.inr ⟨els,rfl,by omega,fun el W7=>?_⟩,by simp [Value.oneCell']⟩
    ·simp only [VR]
     refine⟨some a,cap,by rw [hl],by omega,by simp,.inl rfl,?_⟩
     by_cases T7:els.flatten=[]
     ·exact .inl T7
     ·have pO:0<len∧0<P.cellsOf e:=by
       cases els with
       | nil=>simp at T7
       | cons el els=>
        refine⟨by simp at hl; omega,?_⟩
        rcases Nat.eq_zero_or_pos (P.cellsOf e) with h0 | h0
        ·exfalso
         apply T7
         rw [List.flatten_eq_nil_iff]
         intro l tk
         obtain⟨i,hi⟩:=ajH tk
         have:=(Ls i l hi).1
         exact ajs (by omega)
        ·exact h0
      have SQ:a.spot=none:=by
       cases els with
       | nil=>simp at hl; omega
       | cons el els=>exact (Ls 0 el rfl).2.2.2 rfl pO.2
      refine .inr ⟨a.block,a.off,?_,⟨fun id hl=>absurd hl (hnl id),fun h=>h.elim⟩,by simp,Cells.flatten els a.off fun i el hi=>⟨(Ls i el hi).1,(Ls i el hi).2.2.1⟩⟩
      cases a; simp at SQ; subst SQ; rfl
    ·obtain⟨i,hi⟩:=ajH W7
     exact⟨(Ls i el hi).1,(Ls i el hi).2.1⟩
   ·cases h
  ·
   rename_i fs
   simp only [aiM,beq_nat,decide_eq_true_eq,ajd] at hB
   obtain⟨⟨Z8,Z9⟩,W8⟩:=hB
   simp only [DataW.trod,hu] at h
   split at h
   rotate_left
   ·cases h
   rename_i hlen
   rw [aiK] at h
   obtain⟨xs,hx,_⟩:=h
   obtain⟨ys,h1,h2,h3⟩:=xJ (P:=P) (c:=c) (F:=Fits P m) (g:=fun t cs=>DataW.trod enc P c.w 0 sp held fuel t cs) (fun _ _ _ _ _ _=>trivial) fs.toList 0 cs xs Z8
    (fun f hf cs x hx _=>wC yM m f.type fuel cs x.1 x.2 (W8 f hf) hx) hx (by omega)
   have pc:(cs.drop 0).take ((fs.toList.map fun f=>P.cellsOf f.type).sum)=cs:=by
    rw [aji,←Z9,←hlen,ajr]
   rw [pc] at h1 h3
   exact⟨ys,h1,h2,h3⟩
def tz (P:Program)(t:TypeId)(xs:List AV):AV:=
 match P.underlying t with
 | some (.struct _)=>.agg xs
 | _=>xs.headD .any
def uW (P:Program)(m:Nat):List TypeId→List AV→Prop
 | [],[]=>True
 | t::ts,x::Dd=>(∃xs,x=tz P t xs∧Fits P m t xs)∧uW P m ts Dd
 | _,_=>False
theorem Lt {w:World}{m:Nat}{t:TypeId}{v:Value}{base:Nat}(hB:rU P m t=true)(hs:∀fs,P.underlying t≠some (.struct fs))(h:Value.okWide P w .any base t v):v.cells.toList=[v]:=by
 cases m with
 | zero=>simp [rU] at hB
 | succ m=>
 unfold rU at hB
 unfold Value.okWide at h
 cases hu:P.underlying t with
 | none=>rw [hu] at hB; cases hB
 | some td=>
 rw [hu] at hB h
 cases td<;>simp only at hB h<;>first
  | (cases hB; done)
  | (exact absurd hu (hs _))
  | (cases v<;>simp only [Cell.okWide,Cell.ok,hu] at h<;>first | (exact h.elim) | rfl | (simp [Value.cells]))
theorem Nk (yM:∀id,c.h.get id=none){m:Nat}{t:TypeId}{v:Value}{d:DataW H}{ps:List MemPlace}{base:Nat}(hB:rU P m t=true)(ho:Value.okWide P c.w .any base t v)(h:DataW.Trod enc P c.w 0 sp held t v d ps) :
  ∃xs,Fits P m t xs∧VR c none0 (tz P t xs) v:=by
 obtain⟨fuel,h⟩:=h
 obtain⟨xs,h1,h2,_⟩:=wC yM m t fuel _ d ps hB h
 refine⟨xs,h2,?_⟩
 by_cases hs:∃fs,P.underlying t=some (.struct fs)
 ·obtain⟨fs,hs⟩:=hs
  unfold Value.okWide at ho
  rw [hs] at ho
  obtain⟨cs,rfl,_⟩:=ho
  unfold tz
  rw [hs]
  simp only [VR]
  exact⟨cs,rfl,h1⟩
 ·have SJ:∀fs,P.underlying t≠some (.struct fs):=fun fs h=>hs ⟨fs,h⟩
  have hc:=Lt hB SJ ho
  rw [hc] at h1
  have hx:tz P t xs=xs.headD .any:=by
   unfold tz
   split
   ·rename_i fs h; exact absurd h (SJ fs)
   ·rfl
  rw [hx]
  cases xs with
  | nil=>exact h1.elim
  | cons x xs=>exact h1.1
theorem E5 (yM:∀id,c.h.get id=none){m base:Nat}:∀(ts:List TypeId) (vs:List Value) (ds:List (DataW H)) (ps:List MemPlace),(∀t∈ts,rU P m t=true)→(∀(j:Nat) t v,ts[j]? = some t→vs[j]? = some v→Value.okWide P c.w .any base t v)→
  DataW.TrodAll enc P c.w 0 sp held ts vs ds ps→∃Dd,uW P m ts Dd∧VRs c none0 Dd vs
 | [],[],[],_,_,_,_=>⟨[],trivial,trivial⟩
 | t::ts,v::vs,d::ds,ps,hB,ho,h=>by
  obtain⟨p,q,h1,h2,_⟩:=h
  obtain⟨xs,h3,h4⟩:=Nk yM (hB t (by simp)) (ho 0 t v rfl rfl) h1
  obtain⟨Dd,h5,h6⟩:=E5 yM ts vs ds q (fun t ht=>hB t (by simp [ht])) (fun j t v hj hv=>ho (j+1) t v (by simpa using hj) (by simpa using hv)) h2
  exact⟨tz P t xs::Dd,⟨⟨xs,rfl,h3⟩,h5⟩,h4,h6⟩
 | [],[],_::_,_,_,_,h=>h.elim
 | [],_::_,_,_,_,_,h=>by cases h
 | _::_,[],_,_,_,_,h=>by cases h
 | _::_,_::_,[],_,_,_,h=>by cases h
theorem oF (hl:laidOutB P=true){W W':World}{sp':Nat→Bool}:∀{ts:List TypeId} {vs:List Value} {ds:List (DataW H)} {ps:List MemPlace},(∀t∈ts,P.readableRec t=true∧t<P.types.size)→
  DataW.TrodAll enc P W 0 (fun _=>true) true ts vs ds ps→(∀p∈ps,W.sameAt W' p)→(∀p∈ps,sp' p.block=true)→DataW.TrodAll enc P W' 0 sp' true ts vs ds ps
 | [],[],[],_,_,h,_,_=>h
 | t::ts,v::vs,d::ds,ps,hr,h,hs,hp=>by
  obtain⟨p,q,h1,h2,rfl⟩:=h
  exact⟨p,q,WideElems.Trod_stays hl (hr t (by simp)).1 (hr t (by simp)).2 h1 (fun x hx=>hs x (by simp [hx])) (fun x hx=>hp x (by simp [hx])),
   oF hl (fun t ht=>hr t (by simp [ht])) h2 (fun x hx=>hs x (by simp [hx])) (fun x hx=>hp x (by simp [hx])),rfl⟩
 | [],[],_::_,_,_,h,_,_=>h.elim
 | [],_::_,_,_,_,h,_,_=>by cases h
 | _::_,[],_,_,_,h,_,_=>by cases h
 | _::_,_::_,[],_,_,h,_,_=>by cases h
theorem Lu {f:Func}{s:ChangeSpec}{apart fresh handsOn again:Bool}{W W':World}{args:Array Value}{ds gs:List (DataW H)}{before:List MemPlace}{tb:TypeId}
  (hl:laidOutB P=true) (hr:∀t∈f.params.toList,P.readableRec t=true∧t<P.types.size) (hW:DataW.Whole enc P f.params.toList s.vars apart W args.toList ds gs before) (hv:s.vars=[])
  (Nl:f.resultTypes = #[tb]) (Za:P.underlying tb=some .bool) (W9:(s.fn H (ds++gs))={results:=[.lit (.bool true)],args:=ds}) (hb:RowKit.Below W.heap.size W W') :
  s.post enc P f apart fresh handsOn again W args (.bool true) W':=by
 have hlt:=hW.lt
 have hW0:=hW
 obtain⟨p,q,hA,hV,hpq,hz,hn⟩:=hW
 rw [hv] at hV
 have hgs:gs=[]∧q=[]:=by
  cases gs with
  | nil=>exact⟨rfl,hV⟩
  | cons g gs=>exact hV.elim
 obtain⟨rfl,rfl⟩:=hgs
 have aab:before=p:=by simpa using hpq
 subst aab
 have SS:∀x∈before,W.sameAt W' x:=fun x hx=>hb.same (hlt x hx)
 have Xa:(Value.bool true).resultList f.resultTypes.size=[.bool true]:=by rw [Nl]; rfl
 have SU:∀(b:Nat) (sp:Nat→Bool) (hd:Bool),DataW.TrodAll enc P W' b sp hd f.resultTypes.toList ((Value.bool true).resultList f.resultTypes.size) [.lit (.bool true)] []:=by
  intro b sp hd
  rw [Xa,Nl]
  exact ChangeShapes.trodAll_mk1 (RowKit.shut_bool Za true)
 refine⟨ds,[],before,[],before,[],hW0,?_,?_,?_,?_,fun _=>⟨?_,?_⟩⟩
 ·rw [W9]; exact SU _ _ _
 ·rw [W9]
  exact oF hl hr hA SS (fun x hx=>by simpa using hlt x hx)
 ·rw [W9,hv]; rfl
 ·exact hb.frame _
 ·exact RowKit.ok_one Nl rfl (RowKit.okWide_bool_mk Za true)
 ·refine⟨_,[],before,⟨[]++before,[],ChangeShapes.trodAll_append (oF hl hr hA SS (fun _ _=>rfl)) (SU 0 _ _),by rw [hv]; rfl,by simp,fun b off hx=>?_,hn⟩,fun p hp _=>hp⟩
  rw [hb.frozen (p:=⟨b,off,none⟩) (hlt _ hx)]
  exact hz b off hx
theorem Ext.below {c c':Cx}(e:Ext c none0 c' none0):RowKit.Below c.base c.w c'.w:=⟨e.os,e.tape,e.output,e.size,fun b hb=>e.exact b hb⟩
theorem Bo {cf:CallF}{Ho:FuncId}{f:Func}{s:ChangeSpec}{apart fresh handsOn again:Bool}{m:Nat}{tb:TypeId}
  (hl:laidOutB P=true) (hr:∀t∈f.params.toList,P.readableRec t=true∧t<P.types.size) (hB:∀t∈f.params.toList,rU P m t=true) (hv:s.vars=[]) (Nl:f.resultTypes = #[tb]) (Za:P.underlying tb=some .bool)
  (W9:∀ds:List (DataW H),ds.length=f.params.size→(s.fn H ds)={results:=[.lit (.bool true)],args:=ds})
  (hcf:∀Dd,uW P m f.params.toList Dd→∃cf h',CallOK P cf∧cf Ho Dd bH=some (.bool true,h'))
  {W:World} {base:Nat} {args:Array Value} {ds gs:List (DataW H)} {before:List MemPlace} (gF:∀(j:Nat) t v,f.params[j]? = some t→args[j]? = some v→Value.okWide P W .any base t v)
  (hW:DataW.Whole enc P f.params.toList s.vars apart W args.toList ds gs before) :
  Calls P Ho args W fun e W'=>∃v,e = .returned v∧s.post enc P f apart fresh handsOn again W args v W':=by
 have hW0:=hW
 obtain⟨p,q,hA,hV,hpq,_,_⟩:=hW
 let c:Cx:=⟨fun _=>(0,0),bH,W,W.heap.size⟩
 obtain⟨Dd,h1,h2⟩:=E5 (c:=c) (P:=P) (m:=m) (base:=base) (fun _=>rfl) f.params.toList args.toList ds p hB (fun j t v hj hv=>gF j t v (by simpa using hj) (by simpa using hv)) hA
 obtain⟨cf,h',uw,aac⟩:=hcf Dd h1
 have hnl:∀id,¬Live c.h id:=fun id hl=>by have:=hl.2; cases this
 have hcall:=(uw Ho Dd bH _ _ aac).2 none0 c args.toList rfl (aiQ _) ⟨fun id o ho=>(by cases ho),fun id o ho=>(by cases ho),fun id _ hl _ _=>absurd hl (hnl id),fun id hl=>absurd hl (hnl id),fun b hb=>hb.elim,fun id hl=>absurd hl (hnl id),fun _=>akp⟩ h2
 rw [Array.toArray_toList] at hcall
 have hlen:∀(ts:List TypeId) (vs:List Value) (ds:List (DataW H)) (p:List MemPlace),DataW.TrodAll enc P W 0 (fun _=>true) true ts vs ds p→ds.length=ts.length:=by
  intro ts
  induction ts with
  | nil=>intro vs ds p h; cases vs<;>cases ds<;>first | rfl | (cases h; done) | exact h.elim
  | cons t ts ih=>intro vs ds p h; cases vs<;>cases ds<;>first | (cases h; done) | (obtain⟨_,_,_,h2,_⟩:=h; simp [ih _ _ _ h2])
 have hgs:gs=[]:=by
  rw [hv] at hV
  cases gs with
  | nil=>rfl
  | cons g gs=>exact hV.elim
 refine hcall.mono ?_
 rintro e w' ⟨c',v,rfl,rfl,hh,IG,hrel,TR⟩
 simp only [VR] at IG
 subst IG
 refine⟨_,rfl,Lu hl hr hW0 hv Nl Za ?_ TR.below⟩
 rw [hgs,ajJ]
 exact W9 ds (by rw [hlen _ _ _ _ hA]; simp)
end
end Go.R
namespace Go.R
open Go
section
variable {P:Program}{cf:CallF}{bb ds:List Nat}{s:RS}{d:Option Tmp}{t:TypeId}{p:String}{a:Array Edge}{g:Option (Nat × Bool)}{ops:List Oper}{ρ:Nat→AV}{bx:Nat→Option (List AV)}{h:AHeap}
variable {A:b4}{m:Nat}{st:St}
end
end Go.R
namespace Go.R
open Go
def sub:List Nat→Code→Code
 | [],c=>c
 | 0::p,.seq a _=>sub p a
 | _::p,.seq _ b=>sub p b
 | 0::p,.cond _ a _=>sub p a
 | _::p,.cond _ _ b=>sub p b
 | _::p,.block _ a=>sub p a
 | _::p,.loop a=>sub p a
 | _,c=>c
def bw (f:Func):Code:=f.body.getD .skip
end Go.R
namespace Go.R
open Go
section
variable (P:Program)
def bR (h:AHeap)(t:TypeId)(x:AV):Option AV:=nr P (fun _=>none) h t x
def lP (h:AHeap)(t:TypeId)(a x:AV):Option AHeap:=
 match a with
 | .ptr id off=>(h.get id).bind fun | .cells cs=>(kB P t cs off x).map fun iO=>h.put id (.cells iO) | _=>none
 | _=>none
def I3 (cf:CallF)(f:AV)(as:List AV)(h:AHeap):Option (AV × AHeap):=
 match f with
 | .fn f cap=>if as.all AV.nZ then cf f (as++cap) h else none
 | _=>none
def E6 (h:AHeap)(cs:List AV):Option (AV × AHeap):=if cs.all AV.dp then some (.ptr h.next 0,h.alloc (.cells cs)) else none
def Lv (bb:List Nat)(d:Option Nat):Bool:=match d with | some d=>!bb.contains d | none=>false
def Nn (bb:List Nat)(h:AHeap)(o:Oper)(t:TypeId)(x:Option AV):Option (AV × AHeap):=
 x.bind fun x=>(tM P bb o t x).map fun (cs,n,z)=>(.rs h.next 0 n z,h.alloc (.cells cs))
def T8 (e:Operand→AV)(h:AHeap)(o:Oper)(z:AV):Prop:=
 match o.op with
 | .move x | .assign x=>e x=z
 | .load t a=>bR P h t (e a)=some z
 | .binOp op t x y _=>rH P op t (e x) (e y)=some z
 | .unOp op _ x=>((e x).jZ.bind fun a=>(lK P (Op.unary op a)).bind uB)=some z
 | .convert a b x=>rG P h a b (e x)=some z
 | .slice t x lo hi mx=>pF P t (e x) (lo.map e) (hi.map e) (mx.map e)=some z
 | .indexAddr t x i=>iS P t (e x) (e i)=some z
 | .index t x i=>vY P t (e x) (e i)=some z
 | .lookup t m k ok=>hZ P h t (e m) (e k) ok=some z
 | .call {callee:=.builtin .len,args,argTypes}=>match argTypes.toList,args.toList.map e with
  | [t],[x]=>za P h t x=some z
  | _,_=>False
 | _=>False
def T9 (cf:CallF)(bb:List Nat)(e:Operand→AV)(h:AHeap)(o:Oper)(z:AV)(h':AHeap):Prop:=
 match o.op with
 | .store t a x=>bif o.dst.isSome then False else lP P h t (e a) (e x)=some h'
 | .alloc t=>bif Lv bb o.dst then (ls P t).bind (fun z=>E6 h (G7 bb o.dst z.cells))=some (z,h') else False
 | .box _ x=>bif Lv bb o.dst then E6 h (e x).cells=some (z,h') else False
 | .buildSlice t n ps=>Nn P bb h o t (km P t n (ps.toList.map fun (i,x)=>(i,e x)))=some (z,h')
 | .makeMap _ none=>(AV.mp h.next,h.alloc (.map []))=(z,h')
 | .makeSlice t l c=>kn P h t (e l) (e c)=some (z,h')
 | .mapUpdate t m k x | .insert t m k x=>bif o.dst.isSome then False else kC P h t (e m) (e k) (e x)=some h'
 | .call {callee:=.builtin .append,args,argTypes}=>match argTypes.toList,args.toList.map e with
  | [t,t2],[x,y]=>eC P h t t2 x y=some (z,h')
  | _,_=>False
 | .call {callee:=.builtin .copy,args,argTypes}=>match argTypes.toList,args.toList.map e with
  | [t,t2],[x,y]=>xp P h t t2 x y=some (z,h')
  | _,_=>False
 | .call {callee:=.value f,args,..}=>bif Wr bb o.dst then (I3 cf (e f) (args.toList.map e) h).bind (fun x=>mC 0 x.2 x.1)=some (z,h') else I3 cf (e f) (args.toList.map e) h=some (z,h')
 | .call {callee:=.builtin .clear,args,argTypes}=>match argTypes.toList,args.toList.map e with
  | [t],[x]=>(pH P h t x).map (fun h=>(AV.tup [],h))=some (z,h')
  | _,_=>False
 | _=>False
end
abbrev QQ:=List (Nat × AV × Option AHeap)
def yd (P:Program)(cf:CallF)(bb:List Nat)(ops:List Oper):RS→Nat→List Oper→QQ→Option (List qW × RS × Prop)
 | s,_,[],[]=>some ([],s,True)
 | _,_,[],_::_=>none
 | s,i,o::os,zs=>
  (kD ops s.ρ o).bind fun w=>
   bif w then
    match zs with
    | []=>(CL P cf bb (ops.filterMap (·.dst)) s o).bind fun s1=>(yd P cf bb ops s1 (i+1) os []).map fun (l,r,p)=>({o,f:=bX bb (cZ s.ρ) o,s,s':=s1}::l,r,p)
    | (j,z,oh)::BT=>
     bif ajy i j then
      match oh with
      | none=>(yd P cf bb ops (s.set o.dst z) (i+1) os BT).map fun (l,r,p)=>({o,f:=bX bb (cZ s.ρ) o,s,s':=s.set o.dst z}::l,r,T8 P (cZ s.ρ) s.h o z∧p)
      | some h'=>(yd P cf bb ops (({s with h:=h'}:RS).set o.dst z) (i+1) os BT).map fun (l,r,p)=>({o,f:=bX bb (cZ s.ρ) o,s,s':=({s with h:=h'}:RS).set o.dst z}::l,r,T9 P cf bb (cZ s.ρ) s.h o z h'∧p)
     else (CL P cf bb (ops.filterMap (·.dst)) s o).bind fun s1=>(yd P cf bb ops s1 (i+1) os zs).map fun (l,r,p)=>({o,f:=bX bb (cZ s.ρ) o,s,s':=s1}::l,r,p)
   else (yd P cf bb ops (s.set o.dst (.tup [])) (i+1) os zs).map fun (l,r,p)=>({o,f:={},s,s':=s.set o.dst (.tup [])}::l,r,p)
section
variable {P:Program}{cf:CallF}{bb:List Nat}
theorem No {h:AHeap}{t:TypeId}{x z:AV}{bx:Nat→Option (List AV)}(hh:bR P h t x=some z):nr P bx h t x=some z:=by
 cases x<;>first | exact hh | (simp [bR,nr] at hh)
theorem QR {s:RS}{o:Oper}{z:AV}(h:T8 P (cZ s.ρ) s.h o z)(ds:List Nat):CL P cf bb ds s o=some (s.set o.dst z):=by
 unfold T8 at h
 unfold CL G8
 dsimp only
 split at h
 ·rename_i ho; rw [ho]; simp only [h]
 ·rename_i ho; rw [ho]; simp only [h]
 ·rename_i ho; rw [ho]; simp only [No h,aiR]
 ·rename_i ho; rw [ho]; simp only [h,aiR]
 ·rename_i ho; rw [ho]; simp only [h,aiR]
 ·rename_i ho; rw [ho]; simp only [h,aiR]
 ·rename_i ho; rw [ho]; simp only [h,aiR]
 ·rename_i ho; rw [ho]; simp only [h,aiR]
 ·rename_i ho; rw [ho]; simp only [h,aiR]
 ·rename_i ho; rw [ho]; simp only [h,aiR]
 ·rename_i ho
  rw [ho]
  split at h
  ·rename_i h1 h2
   simp only [h1,h2,jI,h,aiR]
  ·exact h.elim
 ·exact h.elim
theorem E7 {s:RS}{o:Oper}{cs:List AV}{z:AV}{h':AHeap}(hn:Lv bb o.dst=true)(h:E6 s.h cs=some (z,h'))(ds:List Nat):lh s bb ds o cs=some (({s with h:=h'}:RS).set o.dst z):=by
 unfold E6 at h
 split at h
 rotate_left
 ·cases h
 rename_i uw
 simp only [aiL,aiV] at h
 obtain⟨rfl,rfl⟩:=h
 unfold lh
 rw [if_pos uw]
 unfold Lv at hn
 split at hn
 ·rename_i d hd
  rw [hd]
  have:bb.contains d=false:=by simpa using hn
  simp only [this,aiW,if_false]
 ·cases hn
theorem QS {s:RS}{o:Oper}{z:AV}{h':AHeap}(h:T9 P cf bb (cZ s.ρ) s.h o z h')(ds:List Nat):CL P cf bb ds s o=some (({s with h:=h'}:RS).set o.dst z):=by
 unfold T9 at h
 unfold CL G8
 dsimp only
 split at h
 ·rename_i t a x ho
  rw [ho]
  cases hd:o.dst with
  | some d=>rw [hd] at h; exact h.elim
  | none=>
   rw [hd] at h
   simp only [akk,cond_false] at h
   simp only [akk,aiW,if_false]
   unfold lP at h
   split at h
   ·rename_i id off he
    rw [he]
    simp only [aiJ] at h ⊢
    obtain⟨ob,hob,h⟩:=h
    refine⟨ob,hob,?_⟩
    split at h
    ·rw [aiK] at h ⊢
     obtain⟨iO,hcs,rfl⟩:=h
     exact⟨iO,hcs,rfl⟩
    ·cases h
   ·cases h
 ·rename_i t ho
  rw [ho]
  cases hn:Lv bb o.dst with
  | false=>rw [hn] at h; exact h.elim
  | true=>
   rw [hn] at h
   simp only [cond_true,aiJ] at h
   obtain⟨z0,h1,h2⟩:=h
   simp only [h1,aiI]
   exact E7 hn h2 ds
 ·rename_i t x ho
  rw [ho]
  cases hn:Lv bb o.dst with
  | false=>rw [hn] at h; exact h.elim
  | true=>
   rw [hn] at h
   exact E7 hn h ds
 ·rename_i t n ps ho
  rw [ho]
  unfold Nn at h
  simp only [aiJ,aiK] at h
  obtain⟨x,hx,⟨cs,k,q⟩,ht,he⟩:=h
  simp only [aiV] at he
  obtain⟨rfl,rfl⟩:=he
  simp only [hx,aiR,wa,ht]
 ·rename_i ho
  rw [ho]
  simp only [aiV] at h
  obtain⟨rfl,rfl⟩:=h
  rfl
 ·rename_i ho; rw [ho]; simp only [h,aiR]
 ·rename_i t m k x ho
  rw [ho]
  cases hd:o.dst with
  | some d=>rw [hd] at h; exact h.elim
  | none=>
   rw [hd] at h
   simp only [akk,cond_false] at h
   simp only [akk,aiW,if_false,h,aiR]
   rfl
 ·rename_i t m k x ho
  rw [ho]
  cases hd:o.dst with
  | some d=>rw [hd] at h; exact h.elim
  | none=>
   rw [hd] at h
   simp only [akk,cond_false] at h
   simp only [akk,aiW,if_false,h,aiR]
   rfl
 ·rename_i ho
  rw [ho]
  split at h
  ·rename_i h1 h2
   simp only [h1,h2,jI,h,aiR]
  ·exact h.elim
 ·rename_i ho
  rw [ho]
  split at h
  ·rename_i h1 h2
   simp only [h1,h2,jI,h,aiR]
  ·exact h.elim
 ·rename_i f args IW ho
  rw [ho]
  have key:∀{x:AV × AHeap},I3 cf (cZ s.ρ f) (args.toList.map (cZ s.ρ)) s.h=some x→CK bb o.dst x=some (z,h')→
    (match cZ s.ρ f with
     | .fn f cap=>if (args.toList.map (cZ s.ρ)).all AV.nZ then ((cf f (args.toList.map (cZ s.ρ)++cap) s.h).bind (CK bb o.dst)).map fun (r,h)=>({s with h}:RS).set o.dst r else none
     | _=>none)=some (({s with h:=h'}:RS).set o.dst z):=by
   intro x hx hm
   unfold I3 at hx
   split at hx
   ·rename_i g cap he
    try rw [he]
    try dsimp only
    split at hx
    ·rename_i uw
     simp only [uw,if_true,hx,aiI,hm,aiR]
    ·cases hx
   ·cases hx
  cases hm:Wr bb o.dst with
  | false=>
   rw [hm,cond_false] at h
   exact key h (by unfold CK; rw [hm]; rfl)
  | true=>
   rw [hm,cond_true,aiJ] at h
   obtain⟨x,h1,h2⟩:=h
   exact key h1 (by unfold CK; rw [hm,cond_true]; exact h2)
 ·rename_i ho
  rw [ho]
  split at h
  ·rename_i h1 h2
   rw [aiK] at h
   obtain⟨g,hg,he⟩:=h
   simp only [aiV] at he
   obtain⟨rfl,rfl⟩:=he
   simp only [h1,h2,jI,hg,aiR]
  ·exact h.elim
 ·exact h.elim
theorem De {ops:List Oper}:∀{l:List Oper} {s r:RS} {i:Nat} {zs:QQ} {es:List qW} {p:Prop},yd P cf bb ops s i l zs=some (es,r,p)→p→uD P cf bb ops s l=some (es,r)∧xY P cf bb ops s l=some r
 | [],s,r,i,[],es,p,h,_=>by
  simp only [yd,aiL,aiV] at h
  obtain⟨rfl,rfl,rfl⟩:=h
  exact⟨rfl,rfl⟩
 | [],s,r,i,_::_,es,p,h,_=>by simp [yd] at h
 | o::os,s,r,i,zs,es,p,h,hp=>by
  simp only [yd,aiJ] at h
  obtain⟨w,hw,h⟩:=h
  have fin:∀(s1:RS) (l:List qW) (BT:QQ) (q:Prop),(if w then CL P cf bb (ops.filterMap (·.dst)) s o else some (s.set o.dst (.tup [])))=some s1→yd P cf bb ops s1 (i+1) os BT=some (l,r,q)→q→
    uD P cf bb ops s (o::os)=some ({o,f:=if w then bX bb (cZ s.ρ) o else {},s,s':=s1}::l,r)∧xY P cf bb ops s (o::os)=some r:=by
   intro s1 l BT q h1 h2 hq
   obtain⟨h3,h4⟩:=De h2 hq
   refine⟨?_,?_⟩
   ·simp only [uD,hw,aiI,h1,h3,aiR]
   ·simp only [xY,rI,hw,aiI,h1,h4]
  cases w with
  | false=>
   simp only [cond_false,aiK] at h
   obtain⟨⟨l,r',q⟩,h2,he⟩:=h
   simp only [aiV] at he
   obtain⟨rfl,rfl,rfl⟩:=he
   simpa using fin _ l zs q (by simp) h2 hp
  | true=>
   simp only [cond_true] at h
   split at h
   ·simp only [aiJ,aiK] at h
    obtain⟨s1,h1,⟨l,r',q⟩,h2,he⟩:=h
    simp only [aiV] at he
    obtain⟨rfl,rfl,rfl⟩:=he
    simpa using fin _ l [] q (by simpa using h1) h2 hp
   ·rename_i j z oh BT
    cases hj:ajy i j with
    | false=>
     rw [hj] at h
     simp only [cond_false,aiJ,aiK] at h
     obtain⟨s1,h1,⟨l,r',q⟩,h2,he⟩:=h
     simp only [aiV] at he
     obtain⟨rfl,rfl,rfl⟩:=he
     simpa using fin _ l _ q (by simpa using h1) h2 hp
    | true=>
     rw [hj] at h
     simp only [cond_true] at h
     split at h
     ·simp only [aiK] at h
      obtain⟨⟨l,r',q⟩,h2,he⟩:=h
      simp only [aiV] at he
      obtain⟨rfl,rfl,rfl⟩:=he
      simpa using fin _ l _ q (by simpa using QR hp.1 _) h2 hp.2
     ·simp only [aiK] at h
      obtain⟨⟨l,r',q⟩,h2,he⟩:=h
      simp only [aiV] at he
      obtain⟨rfl,rfl,rfl⟩:=he
      simpa using fin _ l _ q (by simpa using QS hp.1 _) h2 hp.2
end
def ye (s:RS):List (Nat × Option Nat × Nat)→List (AV × AHeap)→Option (RS × Prop)
 | [],_=>some (s,True)
 | (t,i,k)::ps,zs=>
  match i with
  | none=>
   match k,s.ρ t,zs with
   | 0,.rs id off n z,(y,h')::BT=>(ye {s with h:=h',ρ:=fun u=>bif ajy u t then y else s.ρ u} ps BT).map fun (r,p)=>(r,mC 0 s.h (.rs id off n z)=some (y,h')∧p)
   | k,x,zs=>(mC k s.h x).bind fun (y,h')=>ye {s with h:=h',ρ:=fun u=>bif ajy u t then y else s.ρ u} ps zs
  | some i=>
   match s.bx t with
   | some cs=>(cs[i]?).bind fun x=>
    match k,x,zs with
    | 0,.rs id off n z,(y,h')::BT=>(ye {s with h:=h',bx:=fun u=>bif ajy u t then some (cs.set i y) else s.bx u} ps BT).map fun (r,p)=>(r,mC 0 s.h (.rs id off n z)=some (y,h')∧p)
    | k,x,zs=>(mC k s.h x).bind fun (y,h')=>ye {s with h:=h',bx:=fun u=>bif ajy u t then some (cs.set i y) else s.bx u} ps zs
   | none=>none
theorem yQ:∀{ps:List (Nat × Option Nat × Nat)} {s r:RS} {zs:List (AV × AHeap)} {p:Prop},ye s ps zs=some (r,p)→p→oU s ps=some r
 | [],s,r,zs,p,h,_=>by
  simp only [ye,aiL,aiV] at h
  obtain⟨rfl,rfl⟩:=h
  rfl
 | (t,i,k)::ps,s,r,zs,p,h,hp=>by
  cases i with
  | none=>
   have fin:∀(y:AV) (h':AHeap) (BT:List (AV × AHeap)) (q:Prop),mC k s.h (s.ρ t)=some (y,h')→ye {s with h:=h',ρ:=fun u=>bif ajy u t then y else s.ρ u} ps BT=some (r,q)→q→oU s ((t,none,k)::ps)=some r:=by
    intro y h' BT q h1 h2 hq
    simp only [oU,CP,h1,aiR,aiI]
    exact yQ h2 hq
   simp only [ye] at h
   split at h
   ·rename_i id off n z y h' BT hx
    rw [aiK] at h
    obtain⟨⟨r',q⟩,h2,he⟩:=h
    simp only [aiV] at he
    obtain⟨rfl,rfl⟩:=he
    exact fin y h' BT q (by rw [hx]; exact hp.1) h2 hp.2
   ·rw [aiJ] at h
    obtain⟨⟨y,h'⟩,h1,h2⟩:=h
    exact fin y h' _ p h1 h2 hp
  | some i=>
   simp only [ye] at h
   split at h
   rotate_left
   ·cases h
   rename_i cs hcs
   rw [aiJ] at h
   obtain⟨x,hx,h⟩:=h
   have fin:∀(y:AV) (h':AHeap) (BT:List (AV × AHeap)) (q:Prop),mC k s.h x=some (y,h')→ye {s with h:=h',bx:=fun u=>bif ajy u t then some (cs.set i y) else s.bx u} ps BT=some (r,q)→q→oU s ((t,some i,k)::ps)=some r:=by
    intro y h' BT q h1 h2 hq
    simp only [oU,CP,hcs,hx,aiI,h1,aiR]
    exact yQ h2 hq
   split at h
   ·rename_i id off n z y h' BT
    rw [aiK] at h
    obtain⟨⟨r',q⟩,h2,he⟩:=h
    simp only [aiV] at he
    obtain⟨rfl,rfl⟩:=he
    exact fin y h' BT q hp.1 h2 hp.2
   ·rw [aiJ] at h
    obtain⟨⟨y,h'⟩,h1,h2⟩:=h
    exact fin y h' _ p h1 h2 hp
def qW.yR (x y:qW):Bool:=
 (match x.f.wb with
  | some k=>!y.f.rb.contains k&&y.f.wb != some k
  | none=>true) &&
 (!x.f.wh||(!y.f.wh&&y.f.rh.isEmpty))
def Np (ops:List Oper)(arr:Array Oper)(s:RS)(es:List qW):Bool:=
 let ms:=mQ [] ops
 sI arr ms &&
  (let is:=es.zipIdx
   let CN:=is.filter fun (x,_)=>!x.f.quiet
   CN.all (fun (x,i)=>yJ ms (ops.filterMap (·.dst)) s is x i&&CN.all fun (y,j)=>akn j i||(ms.getD j 0).testBit i||(x.yR y&&y.yR x)))
theorem zE {x y:qW}(h:x.yR y=true):x.mP y=true:=by
 unfold qW.yR at h
 unfold qW.mP
 simp only [aiM,ajE] at h ⊢
 refine⟨h.1,h.2.imp id fun ⟨h1,h2⟩=>⟨h1,?_⟩⟩
 rw [List.isEmpty_iff] at h2
 rw [h2]; rfl
theorem QT {P:Program}{cf:CallF}{bb:List Nat}{ops:Array Oper}{s r:RS}{es:List qW}(h:Np ops.toList ops s es=true)(hr:uD P cf bb ops.toList s ops.toList=some (es,r)):nt P cf bb ops s=some r:=by
 unfold Np at h
 simp only [aiM] at h
 obtain⟨h1,h2⟩:=h
 unfold nt
 simp only [h1,if_true,hr,aiI]
 rw [if_pos]
 rw [ajd] at h2 ⊢
 intro x hx
 have:=h2 x hx
 simp only [aiM] at this ⊢
 refine⟨this.1,?_⟩
 have h3:=this.2
 rw [ajd] at h3 ⊢
 intro y hy
 have:=h3 y hy
 simp only [ajE,aiM] at this ⊢
 exact this.imp id fun h=>⟨zE h.1,zE h.2⟩
def tA (P:Program)(cf:CallF)(A:b4)(c:Code)(fs:List (AV × AHeap))(zs:QQ)(st:St):Option (Prop × St):=
 match c with
 | .region id ops draw=>(ye (st.open A) (jN id A.CO) fs).bind fun (s0,p0)=>(yd P cf A.bb ops.toList s0 0 ops.toList zs).bind fun (es,r,p)=>
   bif draw && !(Np ops.toList ops s0 es) then none else (oU r (jN id A.G9)).map fun r2=>(p0∧p,r2.rJ A id)
 | _=>none
theorem Nq {P:Program}{cf:CallF}{A:b4}{m:Nat}{c:Code}{fs:List (AV × AHeap)}{zs:QQ}{st mU:St}{p:Prop}(h:tA P cf A c fs zs st=some (p,mU))(hp:p):cW P cf A m c st=some (.norm,mU):=by
 unfold tA at h
 split at h
 rotate_left
 ·cases h
 rename_i id ops draw
 simp only [aiJ] at h
 obtain⟨⟨s0,p0⟩,h0,⟨es,r,q⟩,h1,h⟩:=h
 have hd:∃r2,(draw=true→Np ops.toList ops s0 es=true)∧oU r (jN id A.G9)=some r2∧p=(p0∧q)∧mU=r2.rJ A id:=by
  cases hc:(draw && !(Np ops.toList ops s0 es)) with
  | true=>simp only [hc,cond_true] at h; cases h
  | false=>
   simp only [hc,cond_false,aiK,aiV] at h
   obtain⟨r2,h2,h3,h4⟩:=h
   refine⟨r2,fun Ll=>?_,h2,h3.symm,h4.symm⟩
   simpa [Ll] using hc
 obtain⟨r2,Ll,h2,rfl,rfl⟩:=hd
 obtain⟨g1,g2⟩:=De h1 hp.2
 have g0:=yQ h0 hp.1
 simp only [cW,g0,aiI]
 cases draw with
 | false=>simp only [aiW,if_false,g2,aiI,h2,aiR]
 | true=>simp only [if_true,QT (Ll rfl) g1,aiI,h2,aiR]
end Go.R
namespace Go.R
open Go
def dE (P:Program)(cf:CallF)(A:b4)(m:Nat)(c:Code)(s:St)(Q:Ex→St→Prop):Prop:=∃e s',cW P cf A m c s=some (e,s')∧Q e s'
def Ua (R:St→Prop)(Q:Ex→St→Prop):Ex→St→Prop
 | .norm,s=>R s
 | .exit i,s=>Q (.exit i) s
 | .ret,s=>Q .ret s
def Blk (id:Nat)(Q:Ex→St→Prop):Ex→St→Prop
 | .norm,s=>Q .norm s
 | .exit i,s=>bif ajy i id then Q .norm s else Q (.exit i) s
 | .ret,s=>Q .ret s
section
variable {P:Program}{cf:CallF}{A:b4}{m:Nat}{s:St}{Q:Ex→St→Prop}
theorem E8 {a b:Code}(h:dE P cf A m a s (Ua (fun s'=>dE P cf A m b s' Q) Q)):dE P cf A m (.seq a b) s Q:=by
 obtain⟨e,s',h1,h2⟩:=h
 cases e with
 | norm=>
  obtain⟨e2,s2,h3,h4⟩:=h2
  exact⟨e2,s2,by simp only [cW,h1,aiI,h3],h4⟩
 | exit i=>exact⟨_,s',by simp only [cW,h1,aiI],h2⟩
 | ret=>exact⟨_,s',by simp only [cW,h1,aiI],h2⟩
theorem Hw {id:Nat}{a:Code}(h:dE P cf A m a s (Blk id Q)):dE P cf A m (.block id a) s Q:=by
 obtain⟨e,s',h1,h2⟩:=h
 cases e with
 | norm=>exact⟨_,s',by simp only [cW,h1,aiR],h2⟩
 | exit i=>
  simp only [Blk,beq_nat] at h2
  by_cases hi:i=id
  ·simp only [hi,decide_true,cond_true] at h2
   exact⟨_,s',by simp only [cW,h1,aiR,hi,if_true],h2⟩
  ·simp only [hi,decide_false,cond_false] at h2
   exact⟨_,s',by simp only [cW,h1,aiR,hi,if_false],h2⟩
 | ret=>exact⟨_,s',by simp only [cW,h1,aiR],h2⟩
theorem Nr {c:Code}{fs:List (AV × AHeap)}{zs:QQ}{mU:St}{p:Prop}(h:tA P cf A c fs zs s=some (p,mU))(hp:p)(hQ:Q .norm mU):dE P cf A m c s Q:=
 ⟨_,_,Nq h hp,hQ⟩
theorem Lw (h:Q .norm s):dE P cf A m .skip s Q:=⟨_,_,rfl,h⟩
theorem Ns (h:Q .ret s):dE P cf A m .ret s Q:=⟨_,_,rfl,h⟩
theorem Lx {i:Nat}(h:Q (.exit i) s):dE P cf A m (.exit i) s Q:=⟨_,_,rfl,h⟩
theorem wD {k:Operand}{x y:Code}(b:Bool)(hk:cZ (s.open A).ρ k = .bool b)(ht:b=true→dE P cf A m x s Q)(hf:b=false→dE P cf A m y s Q):dE P cf A m (.cond k x y) s Q:=by
 cases b with
 | true=>
  obtain⟨e,s',h1,h2⟩:=ht rfl
  exact⟨e,s',by simp only [cW,hk,zc,aiI,if_true,h1],h2⟩
 | false=>
  obtain⟨e,s',h1,h2⟩:=hf rfl
  exact⟨e,s',by simp only [cW,hk,zc,aiI,aiW,if_false,h1],h2⟩
def Nt {S O:Type}(l:Nat→S→Option O)(Rel:S→St→Prop)(QO:O→Ex→St→Prop)(k:Nat)(out:O):Ex→St→Prop
 | .norm,s=>∃σ,Rel σ s∧l k σ=some out
 | .exit i,s=>QO out (.exit i) s
 | .ret,s=>QO out .ret s
theorem zF {S O:Type}{l:Nat→S→Option O}{Rel:S→St→Prop}{QO:O→Ex→St→Prop}{body:Code}(h0:∀σ,l 0 σ=none)
  (step:∀k σ s out,Rel σ s→l (k+1) σ=some out→dE P cf A m body s (Nt l Rel QO k out)):∀(n:Nat) (σ:S) (s:St) (out:O),Rel σ s→l n σ=some out→∃e s',oV (cW P cf A m body) n s=some (e,s')∧e≠.norm∧QO out e s'
 | 0,σ,s,out,_,h=>by rw [h0] at h; cases h
 | n+1,σ,s,out,hr,h=>by
  obtain⟨e,s',h1,h2⟩:=step n σ s out hr h
  cases e with
  | norm=>
   obtain⟨σ',h3,h4⟩:=h2
   obtain⟨e',s'',h5,h6⟩:=zF h0 step n σ' s' out h3 h4
   exact⟨e',s'',by simp only [oV,h1,aiI,h5],h6⟩
  | exit i=>exact⟨_,s',by simp only [oV,h1,aiI],by simp,h2⟩
  | ret=>exact⟨_,s',by simp only [oV,h1,aiI],by simp,h2⟩
theorem Ly {S O:Type}(l:Nat→S→Option O)(Rel:S→St→Prop)(QO:O→Ex→St→Prop){body:Code}(h0:∀σ,l 0 σ=none)
  (step:∀k σ s out,Rel σ s→l (k+1) σ=some out→dE P cf A m body s (Nt l Rel QO k out)) {σ:S} {out:O} (hr:Rel σ s) (h:l m σ=some out) (hQ:∀e s',e≠.norm→QO out e s'→Q e s'):dE P cf A m (.loop body) s Q:=by
 obtain⟨e,s',h1,h2,h3⟩:=zF h0 step m σ s out hr h
 exact⟨e,s',by simp only [cW,h1],hQ e s' h2 h3⟩
theorem Df {aW:FuncId→b4}{f:FuncId}{fn:Func}{args:List AV}{h:AHeap}{R:AV→AHeap→Prop}(hf:P.funcs[f]? = some fn)(hb:fn.body=some (bw fn))(hn:akn args.length fn.ntmps=true)
  (he:dE P cf (aW f) m (bw fn) ⟨rK (aW f).keep args,(aW f).bb.map fun _=>none,h⟩ (fun e s=>(e = .ret∨e = .norm)∧∃r,aK P (s.open (aW f)) fn.results.toList=some r∧R r s.h)) :
  ∃r h',bj P aW cf m f args h=some (r,h')∧R r h':=by
 obtain⟨e,s,h1,h2,r,h3,h4⟩:=he
 refine⟨r,s.h,?_,h4⟩
 unfold bj
 rw [hf,aiI,hb,aiI,if_pos (Nat.le_of_ble_eq_true hn),h1,aiI]
 rcases h2 with rfl | rfl<;>simp only [h3,aiR]
end
end Go.R
namespace Go.R
open Go
structure bM (α:Type) where
 n:Nat
 f:α→List AV
 len:∀a,(f a).length=n
 pos:n≠0
 small:n≤1024:=by decide
 flat:Bool:=true
 pure:∀a,flat=true→eL (f a)=true∧fG (f a)=f a
 canon:∀a,(f a).map nq=f a
section
variable {α:Type}(E:bM α)
def bM.l (l:List α):List AV:=l.flatMap E.f
def bM.fz (l:List α):AV:=.fz (E.l l) l.length false
variable {E}
theorem bM.iA {a:α}{l:List α}:E.l (a::l)=E.f a++E.l l:=rfl
theorem bM.SV:E.l []=[]:=rfl
theorem bM.kV {a b:List α}:E.l (a++b)=E.l a++E.l b:=by simp [bM.l]
theorem bM.cN:∀{l:List α},(E.l l).length=l.length*E.n
 | []=>by simp [bM.l]
 | a::l=>by rw [bM.iA,aiT,E.len,bM.cN,aiX,akb,Nat.one_mul,akt]
theorem bM.pQ {l:List α}(h:l.length≤1099511627776):(E.l l).length≤1125899906842624:=by
 rw [bM.cN]
 exact ajF (Nat.mul_le_mul h E.small) (by decide)
theorem bM.Dg:∀{l:List α} {i:Nat},(E.l l).drop (i*E.n)=E.l (l.drop i)
 | l,0=>by simp
 | [],i+1=>by simp [bM.l]
 | a::l,i+1=>by
  rw [List.drop_succ_cons,←bM.Dg,bM.iA,akb,Nat.one_mul,List.drop_append,List.drop_of_length_le (by rw [E.len]; omega),ajj,E.len,Nat.add_sub_cancel]
theorem bM.Nu:∀{l:List α} {i:Nat},(E.l l).take (i*E.n)=E.l (l.take i)
 | l,0=>by simp [bM.l]
 | [],i+1=>by simp [bM.l]
 | a::l,i+1=>by
  rw [bM.iA,List.take_succ_cons,bM.iA,akb,Nat.one_mul,akt,List.take_append]
  rw [E.len,ajp (by rw [E.len]; omega),ajK,bM.Nu]
theorem bM.SW {l:List α}{i:Nat}{a:α}(h:l[i]? = some a){off:Nat}(ho:off<E.n):(E.l l)[i*E.n+off]? = (E.f a)[off]?:=by
 rw [←List.getElem?_drop,bM.Dg,aiZ (aiO.1 h).1,(aiO.1 h).2,bM.iA,ai6 (by rw [E.len]; exact ho)]
theorem bM.Nv {l:List α}{i:Nat}{a:α}(h:l[i]? = some a):((E.l l).drop (i*E.n)).take E.n=E.f a:=by
 rw [bM.Dg,aiZ (aiO.1 h).1,(aiO.1 h).2,bM.iA,ajl (by rw [E.len]; exact aiQ _)]
 rw [ajp (by rw [E.len]; exact aiQ _)]
theorem bM.Hx {l:List α}{i:Nat}{a:α}(h:l[i]? = some a):i*E.n+E.n≤(E.l l).length:=by
 rw [bM.cN]
 have:=(aiO.1 h).1
 calc i*E.n+E.n=(i+1)*E.n:=by rw [akb,Nat.one_mul]
  _≤_:=ajN _ this
theorem uX:∀{a b:List AV},eL (a++b)=(eL a&&eL b)
 | [],b=>by simp [eL]
 | x::a,b=>by simp [eL,uX,Bool.and_assoc]
theorem uY:∀{a b:List AV},fG (a++b)=fG a++fG b
 | [],b=>rfl
 | x::a,b=>by simp [fG,uY]
theorem bM.tV (hp:E.flat=true):∀{l:List α},eL (E.l l)=true∧fG (E.l l)=E.l l
 | []=>⟨rfl,rfl⟩
 | a::l=>by
  obtain⟨h1,h2⟩:=E.pure a hp
  obtain⟨h3,h4⟩:=bM.tV hp (l:=l)
  rw [bM.iA,uX,uY,h1,h2,h3,h4]
  exact⟨rfl,rfl⟩
theorem bM.uZ:∀{l:List α},(E.l l).map nq=E.l l
 | []=>rfl
 | a::l=>by rw [bM.iA,ai5,E.canon,bM.uZ]
theorem bM.aJ {l:List α}(hp:E.flat=true:=by rfl):(E.fz l).gN=true∧(E.fz l).mO=E.fz l:=by
 obtain⟨h1,h2⟩:=bM.tV (E:=E) hp (l:=l)
 exact⟨h1,by show AV.fz (fG (E.l l)) l.length false=_; rw [h2]; rfl⟩
theorem kW:∀(cs vs pre Ub:List AV),cs.length=vs.length→fm (pre++cs++Ub) pre.length vs=pre++vs++Ub
 | [],[],pre,Ub,_=>by simp [fm]
 | c::cs,v::vs,pre,Ub,h=>by
  have:=kW cs vs (pre++[v]) Ub (by simpa using h)
  simp only [aiT,aiX,ai4,ajf] at this
  rw [fm]
  have h2:(pre++c::cs++Ub).set pre.length v=pre++[v]++cs++Ub:=by
   rw [ai7,ajM _ _ (aiQ _),ajI]
   simp
  rw [h2,this]
  simp
 | [],_::_,_,_,h=>by simp at h
 | _::_,[],_,_,h=>by simp at h
theorem bM.Nw {l:List α}{i:Nat}{a b:α}(h:l[i]? = some a)(rest:List AV):fm (E.l l++rest) (i*E.n) (E.f b)=E.l (l.set i b)++rest:=by
 have hi:=(aiO.1 h).1
 have hl:l=l.take i++a::l.drop (i+1):=by
  conv=>lhs; rw [←akd i l,aiZ hi]
  rw [(aiO.1 h).2]
 have hs:l.set i b=l.take i++b::l.drop (i+1):=List.set_eq_take_append_cons_drop .. |>.trans (by rw [if_pos hi])
 have e1:E.l l=E.l (l.take i)++E.f a++E.l (l.drop (i+1)):=by
  conv=>lhs; rw [hl]
  rw [bM.kV,bM.iA,ai7]
 have e2:(E.l (l.take i)).length=i*E.n:=by rw [bM.cN,ajo,ako (Nat.le_of_lt hi)]
 rw [hs,bM.kV,bM.iA,e1,←e2]
 have:=kW (E.f a) (E.f b) (E.l (l.take i)) (E.l (l.drop (i+1))++rest) (by rw [E.len,E.len])
 simp only [ai7] at this ⊢
 exact this
theorem bM.Uc {l:List α}{i:Nat}{a b:α}{off:Nat}{v:AV}(h:l[i]? = some a)(ho:off<E.n)(hb:(E.f a).set off v=E.f b)(rest:List AV):(E.l l++rest).set (i*E.n+off) v=E.l (l.set i b)++rest:=by
 have hi:=(aiO.1 h).1
 have hl:l=l.take i++a::l.drop (i+1):=by
  conv=>lhs; rw [←akd i l,aiZ hi]
  rw [(aiO.1 h).2]
 have hs:l.set i b=l.take i++b::l.drop (i+1):=List.set_eq_take_append_cons_drop .. |>.trans (by rw [if_pos hi])
 have e1:E.l l=E.l (l.take i)++(E.f a++E.l (l.drop (i+1))):=by
  conv=>lhs; rw [hl]
  rw [bM.kV,bM.iA]
 have e2:(E.l (l.take i)).length=i*E.n:=by rw [bM.cN,ajo,ako (Nat.le_of_lt hi)]
 rw [hs,bM.kV,bM.iA,e1,←hb,←e2]
 simp only [ai7]
 rw [ajM _ _ (by omega),List.set_append_left _ _ (by rw [E.len]; omega)]
 congr 2
 simp
end
def ix {α:Type}(l:List α)(i:Int):Option α:=if 0≤i then l[i.toNat]? else none
theorem jQ {α:Type}{l:List α}{i:Int}{a:α}(h:ix l i=some a):0≤i∧i<l.length∧l[i.toNat]? = some a:=by
 unfold ix at h
 split at h
 ·rename_i h0
  have:=(aiO.1 h).1
  exact⟨h0,by omega,h⟩
 ·cases h
def I4 {α:Type}(l:List α)(lo hi:Int):Option (List α):=if 0≤lo∧lo≤hi∧hi≤l.length then some ((l.drop lo.toNat).take (hi.toNat - lo.toNat)) else none
theorem E9 {α:Type}{l r:List α}{lo hi:Int}(h:I4 l lo hi=some r):0≤lo∧lo≤hi∧hi≤l.length∧r=(l.drop lo.toNat).take (hi.toNat - lo.toNat):=by
 unfold I4 at h
 split at h
 ·rename_i h0; cases h; exact⟨h0.1,h0.2.1,h0.2.2,rfl⟩
 ·cases h
def bt (s:ByteArray)(i:Int):Option Int:=if 0≤i then (s.data.toList[i.toNat]?).map fun b=>(b.toNat:Int) else none
inductive Ct where
 | sl (n sz:Nat) (cs:List AV)
 | ob (cs:List AV)
 | mp (es:List (AV × AV))
 | row (e:TypeId) (cs:List AV)
def Lz (h:AHeap)(i:Nat):Ct→Prop
 | .sl n sz cs=>(cs.length=n*sz∧cs.length≤1125899906842624)∧((i=0∧n=0)∨(i≠0∧∃rest,h.get i=some (.cells (cs++rest))))
 | .ob cs=>i≠0∧h.get i=some (.cells cs)
 | .mp es=>i≠0∧h.get i=some (.map es)
 | .row e cs=>i≠0∧h.get i=some (.row e cs)
abbrev Mem:=List (Nat × Ct)
structure Has (h:AHeap)(K:Mem):Prop where
 at_:∀(j i:Nat) (c:Ct),K[j]? = some (i,c)→Lz h i c∧i<h.next
 nd:∀(j j' i:Nat) (c c':Ct),K[j]? = some (i,c)→K[j']? = some (i,c')→i≠0→j=j'
 pos:0<h.next
theorem tW {h h':AHeap}{i:Nat}{c:Ct}(hg:i≠0→h'.get i=h.get i)(h1:Lz h i c):Lz h' i c:=by
 cases c with
 | sl n sz cs=>
  obtain⟨h2,h3⟩:=h1
  refine⟨h2,h3.imp id fun ⟨h4,r,h5⟩=>⟨h4,r,(hg h4).trans h5⟩⟩
 | ob cs=>exact⟨h1.1,(hg h1.1).trans h1.2⟩
 | mp es=>exact⟨h1.1,(hg h1.1).trans h1.2⟩
 | row e cs=>exact⟨h1.1,(hg h1.1).trans h1.2⟩
theorem eF (h:AHeap)(id k:Nat)(o:AObj):(h.put id o).get k=if k=id then some o else h.get k:=by
 simp only [AHeap.put,beq_nat]
 by_cases hk:k=id<;>simp [hk]
theorem Fa (h:AHeap)(id k:Nat):(h.kill id).get k=if k=id then none else h.get k:=by
 simp only [AHeap.kill,beq_nat]
 by_cases hk:k=id<;>simp [hk]
theorem Has.Nx {h h':AHeap}{K:Mem}(o:Has h K){j i:Nat}{c:Ct}(hj:K[j]? = some (i,c)){i':Nat}{c':Ct}
  (hg:∀k,k≠i→k<h.next→h'.get k=h.get k) (hn:h.next≤h'.next) (hi:i'=i∨i'=0∨h.next≤i') (hlt:i'<h'.next) (hc:Lz h' i' c'):Has h' (K.set j (i',c')):=by
 refine⟨fun q k d hq=>?_,fun q q' k d d' hq CX hk=>?_,ajk o.pos hn⟩
 ·rw [aj9] at hq
  by_cases h1:j=q
  ·subst h1
   rw [if_pos rfl] at hq
   split at hq
   ·cases hq; exact⟨hc,hlt⟩
   ·cases hq
  ·rw [if_neg h1] at hq
   obtain⟨g1,g2⟩:=o.at_ q k d hq
   refine⟨tW (fun hk=>hg k (fun he=>?_) g2) g1,ajk g2 hn⟩
   subst he
   exact h1 (o.nd j q k c d hj hq hk)
 ·rw [aj9] at hq CX
  have old:∀(q:Nat) (d:Ct),j≠q→K[q]? = some (k,d)→k≠i':=by
   intro x y hne hx he
   rcases hi with h1 | h1 | h1
   ·exact hne (o.nd j x k c y (by rw [he,h1]; exact hj) hx hk)
   ·exact hk (he.trans h1)
   ·have:=(o.at_ x k y hx).2; omega
  by_cases h1:j=q<;>by_cases h2:j=q'
  ·rw [←h1,h2]
  ·subst h1
   rw [if_pos rfl] at hq
   rw [if_neg h2] at CX
   split at hq
   ·cases hq; exact absurd rfl (old q' d' h2 CX)
   ·cases hq
  ·subst h2
   rw [if_pos rfl] at CX
   rw [if_neg h1] at hq
   split at CX
   ·cases CX; exact absurd rfl (old q d h1 hq)
   ·cases CX
  ·rw [if_neg h1] at hq; rw [if_neg h2] at CX
   exact o.nd q q' k d d' hq CX hk
theorem Has.new {h h':AHeap}{K:Mem}(o:Has h K){i:Nat}{c:Ct}(hg:∀k,k<h.next→h'.get k=h.get k)(hn:h.next≤h'.next)(hi:i=0∨h.next≤i)(hlt:i<h'.next)(hc:Lz h' i c):Has h' ((i,c)::K):=by
 refine⟨fun q k d hq=>?_,fun q q' k d d' hq CX hk=>?_,ajk o.pos hn⟩
 ·cases q with
  | zero=>simp only [ajx,aiL,aiV] at hq; obtain⟨rfl,rfl⟩:=hq; exact⟨hc,hlt⟩
  | succ q=>
   simp only [ajV] at hq
   obtain⟨g1,g2⟩:=o.at_ q k d hq
   exact⟨tW (fun _=>hg k g2) g1,ajk g2 hn⟩
 ·have old:∀(q:Nat) (d:Ct),K[q]? = some (k,d)→k≠i:=by
   intro x y hx he
   rcases hi with h1 | h1
   ·exact hk (he.trans h1)
   ·have:=(o.at_ x k y hx).2; omega
  cases q with
  | zero=>
   simp only [ajx,aiL,aiV] at hq
   cases q' with
   | zero=>rfl
   | succ q'=>exact absurd hq.1.symm (old q' d' (by simpa using CX))
  | succ q=>
   cases q' with
   | zero=>
    simp only [ajx,aiL,aiV] at CX
    exact absurd CX.1.symm (old q d (by simpa using hq))
   | succ q'=>rw [o.nd q q' k d d' (by simpa using hq) (by simpa using CX) hk]
theorem Has.nil {h:AHeap}{K:Mem}(o:Has h K)(sz:Nat):Has h ((0,.sl 0 sz [])::K):=
 o.new (fun _ _=>rfl) (aiQ _) (.inl rfl) o.pos ⟨⟨by simp,by simp⟩,.inl ⟨rfl,rfl⟩⟩
theorem Has.sub {h:AHeap}{K K':Mem}(o:Has h K)(f:Nat→Nat)(hf:∀j p,K'[j]? = some p→K[f j]? = some p)(hi:∀j j',f j=f j'→j=j'):Has h K':=
 ⟨fun j i c hj=>o.at_ (f j) i c (hf j _ hj),fun j j' i c c' hj GV hk=>hi _ _ (o.nd (f j) (f j') i c c' (hf j _ hj) (hf j' _ GV) hk),o.pos⟩
theorem Has.del {h:AHeap}{K:Mem}(o:Has h K)(q:Nat):Has h (K.eraseIdx q):=
 o.sub (fun j=>if j<q then j else j+1) (fun j p hj=>by
  rw [List.getElem?_eraseIdx] at hj
  split at hj
  ·rename_i h1; simpa [h1] using hj
  ·rename_i h1; simpa [h1] using hj) (fun j j' he=>by
   split at he<;>split at he<;>omega)
theorem Has.front {h:AHeap}{K:Mem}(o:Has h K)(q:Nat){p:Nat × Ct}(hq:K[q]? = some p):Has h (p::K.eraseIdx q):=
 o.sub (fun j=>match j with | 0=>q | j+1=>if j<q then j else j+1) (fun j p' hj=>by
  cases j with
  | zero=>simp only [ajx,aiL] at hj; subst hj; exact hq
  | succ j=>
   simp only [ajV,List.getElem?_eraseIdx] at hj
   dsimp only
   split at hj
   ·rename_i h1; simpa [h1] using hj
   ·rename_i h1; simpa [h1] using hj) (fun j j' he=>by
   cases j with
   | zero=>cases j' with
    | zero=>rfl
    | succ j'=>dsimp only at he; split at he<;>omega
   | succ j=>cases j' with
    | zero=>dsimp only at he; split at he<;>omega
    | succ j'=>dsimp only at he; split at he<;>split at he<;>omega)
end Go.R
namespace Go.R
open Go
def BU (P:Program)(t:TypeId)(sz b:Nat):Bool:=
 match P.underlying t with
 | some (.slice e)=>match P.info? e with
  | some i=>ajy i.size sz&&ajy i.bytes b&&Sy i
  | none=>false
 | _=>false
section
variable {P:Program}{t:TypeId}{sz b:Nat}
theorem mH (h:BU P t sz b=true):∃e i,P.underlying t=some (.slice e)∧P.info? e=some i∧i.size=sz∧i.bytes=b∧Sy i=true∧iR P e=some sz:=by
 unfold BU at h
 split at h
 ·rename_i e he
  split at h
  ·rename_i i hi
   simp only [aiM] at h
   have h1:=aj2 h.1.1
   exact⟨e,i,he,hi,h1,aj2 h.1.2,h.2,by simp [iR,hi,h1]⟩
  ·cases h
 ·cases h
variable {α:Type}{E:bM α}{h:AHeap}{K:Mem}{l:List α}{a v:α}{i q:Nat}{j:Int}{k:IntKind}{c:AV}{off:Nat}{tf:TypeId}
theorem bN (T:BU P t E.n b=true)(h:ix l j=some a):iS P t (E.fz l) (.int k j)=some (.fp (E.l l) (j.toNat*E.n)):=by
 obtain⟨e,inf,h1,h2,h3,h4,h5,h6⟩:=mH T
 obtain⟨g1,g2,g3⟩:=jQ h
 have hle:=bM.Hx (E:=E) g3
 have hp:=E.pos
 simp only [iS,h1,aiI,h6,bM.fz]
 rw [if_pos ⟨g1,g2,by omega⟩]
theorem Xb (h:l[j.toNat]? = some a):(E.l l).isEmpty=false:=by
 have hle:=bM.Hx (E:=E) h
 have hp:=E.pos
 cases hl:E.l l with
 | nil=>rw [hl] at hle; simp at hle; omega
 | cons _ _=>rfl
theorem kc (hp:AHeap)(ha:ju P tf=some false)(h:ix l j=some a)(hc:(E.f a)[off]? = some c):bR P hp tf (.fp (E.l l) (j.toNat*E.n+off))=some c:=by
 obtain⟨g1,g2,g3⟩:=jQ h
 have ho:off<E.n:=by rw [←E.len a]; exact (aiO.1 hc).1
 simp only [bR,nr,Xb g3,aiW,if_false,me,ha,aiI,bM.SW g3 ho,hc]
theorem cO (hp:AHeap)(ha:ju P tf=some false)(h:ix l j=some a)(hc:(E.f a)[0]? = some c):bR P hp tf (.fp (E.l l) (j.toNat*E.n))=some c:=kc (off:=0) hp ha h hc
theorem fZ (hp:AHeap)(ha:ju P tf=some true)(hs:iR P tf=some E.n)(h:ix l j=some a):bR P hp tf (.fp (E.l l) (j.toNat*E.n))=some (.agg (E.f a)):=by
 obtain⟨g1,g2,g3⟩:=jQ h
 simp only [bR,nr,Xb g3,aiW,if_false,me,ha,aiI,if_true,hs]
 rw [if_pos (bM.Hx g3),bM.Nv g3]
theorem yS (o:Has h K)(hq:K[q]? = some (i,.sl l.length E.n (E.l l)))(hj:l[j.toNat]? = some a):i≠0∧∃rest,h.get i=some (.cells (E.l l++rest)):=by
 obtain⟨⟨_,h1⟩,_⟩:=o.at_ _ _ _ hq
 rcases h1 with⟨_,h1⟩| h1
 ·have:=(aiO.1 hj).1; omega
 ·exact h1
theorem Ud (T:BU P t sz b=true){n:Nat}(h0:0≤j)(h1:j<n):iS P t (.rs i 0 n sz) (.int k j)=some (.ptr i (0+j.toNat*sz)):=by
 obtain⟨e,inf,g1,g2,g3,g4,g5,g6⟩:=mH T
 simp only [iS,g1,aiI,g6]
 rw [if_pos ⟨trivial,h0,h1⟩]
theorem BV (o:Has h K)(hq:K[q]? = some (i,.sl l.length E.n (E.l l)))(ha:ju P tf=some false)(hj:ix l j=some a)(hc:(E.f a)[off]? = some c):bR P h tf (.ptr i (0+j.toNat*E.n+off))=some c:=by
 obtain⟨g1,g2,g3⟩:=jQ hj
 obtain⟨h1,rest,h2⟩:=yS o hq g3
 have ho:off<E.n:=by rw [←E.len a]; exact (aiO.1 hc).1
 have hle:=bM.Hx (E:=E) g3
 simp only [bR,nr,h2,aiI,me,ha,aiW,if_false,ajf]
 rw [ai6 (by omega),bM.SW g3 ho,hc]
theorem LA (o:Has h K)(hq:K[q]? = some (i,.sl l.length E.n (E.l l)))(ha:ju P tf=some false)(hj:ix l j=some a)(hc:(E.f a)[0]? = some c):bR P h tf (.ptr i (0+j.toNat*E.n))=some c:=BV (off:=0) o hq ha hj hc
theorem LB (o:Has h K)(hq:K[q]? = some (i,.sl l.length E.n (E.l l)))(ha:ju P tf=some true)(hs:iR P tf=some E.n)(hj:ix l j=some a):bR P h tf (.ptr i (0+j.toNat*E.n))=some (.agg (E.f a)):=by
 obtain⟨g1,g2,g3⟩:=jQ hj
 obtain⟨h1,rest,h2⟩:=yS o hq g3
 have hle:=bM.Hx (E:=E) g3
 simp only [bR,nr,h2,aiI,me,ha,if_true,hs,ajf]
 rw [if_pos (by rw [aiT]; omega),aj4 (by omega),ajl (by rw [List.length_drop]; omega),bM.Nv g3]
theorem mz (o:Has h K){c':Ct}{ct:Ct}(hq:K[q]? = some (i,ct)){ob:AObj}(hc:Lz (h.put i ob) i c'):Has (h.put i ob) (K.set q (i,c')):=
 o.Nx hq (fun k hk _=>by rw [eF,if_neg hk]) (aj5 _) (.inl rfl) (akg (o.at_ _ _ _ hq).2) hc
theorem Ny (o:Has h K)(hq:K[q]? = some (i,.sl l.length E.n (E.l l)))(hs:iR P tf=some E.n)(hj:ix l j=some a){x:AV}(hv:x.cells=E.f v)(uw:(E.f v).all AV.dp=true) :
  ∃h',lP P h tf (.ptr i (0+j.toNat*E.n)) x=some h'∧Has h' (K.set q (i,.sl l.length E.n (E.l (l.set j.toNat v)))):=by
 obtain⟨g1,g2,g3⟩:=jQ hj
 obtain⟨h1,rest,h2⟩:=yS o hq g3
 have hle:=bM.Hx (E:=E) g3
 refine⟨_,?_,mz o hq (ob:=.cells (E.l (l.set j.toNat v)++rest)) ⟨⟨by rw [bM.cN,ajw],by rw [bM.cN,ajw,←bM.cN]; exact (o.at_ _ _ _ hq).1.1.2⟩,.inr ⟨h1,rest,by rw [eF,if_pos rfl]⟩⟩⟩
 simp only [lP,h2,aiI,kB,hs,hv,ajf]
 rw [if_pos ⟨E.len v,uw,by rw [aiT]; omega⟩,aiR,bM.Nw g3]
theorem LC (o:Has h K)(hq:K[q]? = some (i,.sl l.length E.n (E.l l)))(hs:iR P tf=some 1)(hj:ix l j=some a){x:AV}(hx:x.cells=[x])(uw:x.dp=true)(ho:off<E.n)(hb:(E.f a).set off x=E.f v) :
  ∃h',lP P h tf (.ptr i (0+j.toNat*E.n+off)) x=some h'∧Has h' (K.set q (i,.sl l.length E.n (E.l (l.set j.toNat v)))):=by
 obtain⟨g1,g2,g3⟩:=jQ hj
 obtain⟨h1,rest,h2⟩:=yS o hq g3
 have hle:=bM.Hx (E:=E) g3
 refine⟨_,?_,mz o hq (ob:=.cells (E.l (l.set j.toNat v)++rest)) ⟨⟨by rw [bM.cN,ajw],by rw [bM.cN,ajw,←bM.cN]; exact (o.at_ _ _ _ hq).1.1.2⟩,.inr ⟨h1,rest,by rw [eF,if_pos rfl]⟩⟩⟩
 simp only [lP,h2,aiI,kB,hs,hx,ajf]
 rw [if_pos ⟨rfl,by simp [uw],by rw [aiT]; omega⟩,aiR]
 simp only [fm]
 rw [bM.Uc g3 ho hb]
def app (b:Nat){α:Type}(l l2:List α):Option (List α):=if (l.length+l2.length)*(b+1)≤1099511627776 then some (l++l2) else none
theorem zG {l l2 r:List α}(h:app b l l2=some r):(l.length+l2.length)*b≤jw∧l.length+l2.length≤jw∧r=l++l2:=by
 unfold app at h
 split at h
 ·rename_i h0
  cases h
  rw [Nat.mul_add,Nat.mul_one] at h0
  refine⟨by simp only [jw]; omega,by simp only [jw]; omega,rfl⟩
 ·cases h
theorem Nz {t2:TypeId}{l2 r:List α}{x:AV}(T:BU P t E.n b=true)(o:Has h K)(hq:K[q]? = some (i,.sl l.length E.n (E.l l)))(hx:fN h E.n x=some (E.l l2,l2.length))(jz:ly P t2 x=true)(hr:app b l l2=some r) :
  ∃i' h',eC P h t t2 (.rs i 0 l.length E.n) x=some (.rs i' 0 r.length E.n,h')∧Has h' (K.set q (i',.sl r.length E.n (E.l r))):=by
 obtain⟨e,inf,g1,g2,g3,g4,g5,g6⟩:=mH T
 obtain⟨r1,r2,rfl⟩:=zG hr
 obtain⟨⟨⟨hlen,wj⟩,oQ⟩,hlt⟩:=o.at_ _ _ _ hq
 have pO:=E.pos
 have hb:inf.size=E.n:=g3
 have nz:¬(inf.size=0∨ly P t2 x=false∨Sy inf=false):=by rw [jz,g5,hb]; simp [pO]
 subst g4
 by_cases h0:l2=[]
 ·subst h0
  refine⟨i,h,?_,?_⟩
  ·simp only [eC,g1,aiI,g2,hb,hx,jz,g5]
   rw [if_neg (by simp [pO])]
   simp only [ai4,Nat.zero_mul,akj,ajJ]
   by_cases hi:i=0
   ·subst hi
    rcases oQ with⟨_,hl0⟩| h1
    ·simp [hl0,hb,jw]
    ·exact absurd rfl h1.1
   ·rcases oQ with h1 | ⟨_,rest,h1⟩
    ·exact absurd h1.1 hi
    ·rw [if_neg hi,h1]
     simp only [aiI]
     rw [if_neg (by rw [aiT,hlen]; simp only [ai4,akj] at r1 r2; simp; omega)]
     simp
  ·rw [ajJ]
   have:K.set q (i,.sl l.length E.n (E.l l))=K:=by
    apply ajG
    intro j
    rw [aj9]
    by_cases hj:q=j
    ·subst hj; rw [if_pos rfl,if_pos (aiO.1 hq).1,hq]
    ·rw [if_neg hj]
   rw [this]; exact o
 ·have ID:l2.length≠0:=by simpa using h0
  by_cases hi:i=0
  ·subst hi
   rcases oQ with⟨_,hl0⟩| h1
   rotate_left
   ·exact absurd rfl h1.1
   have hnil:l=[]:=by simpa using hl0
   subst hnil
   refine⟨h.next,h.alloc (.cells (E.l l2)),?_,?_⟩
   ·simp only [eC,g1,aiI,g2,hb,hx,jz,g5]
    rw [if_neg (by simp [pO])]
    simp only [if_true]
    simp only [ai4,ajf] at r1 r2
    rw [if_neg (by simp; omega),if_neg ID]
    simp
   ·refine o.Nx hq (fun k _ hk=>by rw [AHeap.alloc,eF,if_neg (by omega)]) (aj5 _) (.inr (.inr (aiQ _))) (ajz _) ⟨⟨bM.cN,bM.pQ (by simp only [jw] at r2; simp at r2 ⊢; omega)⟩,.inr ⟨by have:=o.pos; omega,[],?_⟩⟩
    rw [AHeap.alloc,eF,if_pos rfl]; simp
  ·rcases oQ with h1 | ⟨_,rest,h1⟩
   ·exact absurd h1.1 hi
   refine⟨h.next,(h.kill i).put h.next (.cells (E.l (l++l2))),?_,?_⟩
   ·simp only [eC,g1,aiI,g2,hb,hx,jz,g5]
    rw [if_neg (by simp [pO]),if_neg hi,h1]
    simp only [aiI]
    rw [if_neg (by rw [aiT,hlen]; simp; omega),if_neg ID]
    rw [aji,ajl (by rw [hlen]; exact aiQ _),ajp (by rw [hlen]; exact aiQ _),bM.kV,aiT]
   ·refine o.Nx hq (fun k hk wk=>by rw [eF,if_neg (by omega),Fa,if_neg hk]) (by show h.next≤h.next+1+1; omega) (.inr (.inr (aiQ _))) (by show h.next<h.next+1+1; omega) ⟨⟨bM.cN,bM.pQ (by simp only [jw] at r2; simp at r2 ⊢; omega)⟩,.inr ⟨by have:=o.pos; omega,[],?_⟩⟩
    rw [eF,if_pos rfl]; simp
theorem Dh {t2:TypeId}{l2 r:List α}{x s:AV}(hs:s = .nils∨s = .fz [] 0 true)(T:BU P t E.n b=true)(o:Has h K)(hx:fN h E.n x=some (E.l l2,l2.length))(jz:ly P t2 x=true)(hr:app b ([]:List α) l2=some r) :
  ∃i' h',eC P h t t2 s x=some (.rs i' 0 r.length E.n,h')∧Has h' ((i',.sl r.length E.n (E.l r))::K):=by
 obtain⟨e,inf,g1,g2,g3,g4,g5,g6⟩:=mH T
 obtain⟨r1,r2,EW⟩:=zG hr
 rw [ajj] at EW
 subst r
 have pO:=E.pos
 have hb:inf.size=E.n:=g3
 subst g4
 simp only [ai4,ajf] at r1 r2
 by_cases h0:l2=[]
 ·subst h0
  refine⟨0,h,?_,by simpa [bM.l] using o.nil E.n⟩
  rcases hs with rfl | rfl
  ·simp only [eC,g1,aiI,g2,hb,hx,jz,g5]
   rw [if_neg (by simp [pO])]
   simp [jw]
  ·simp only [eC,g1,aiI,g2,hb,hx,jz,g5]
   rw [if_neg (by simp [pO])]
   simp [jw]
 ·have ID:l2.length≠0:=by simpa using h0
  refine⟨h.next,h.alloc (.cells (E.l l2)),?_,o.new (fun k hk=>by rw [AHeap.alloc,eF,if_neg (by omega)]) (aj5 _) (.inr (aiQ _)) (ajz _) ⟨⟨bM.cN,bM.pQ (by simp only [jw] at r2; omega)⟩,.inr ⟨by have:=o.pos; omega,[],by rw [AHeap.alloc,eF,if_pos rfl]; simp⟩⟩⟩
  rcases hs with rfl | rfl
  ·simp only [eC,g1,aiI,g2,hb,hx,jz,g5]
   rw [if_neg (by simp [pO]),if_neg (by omega),if_neg ID]
  ·simp only [eC,g1,aiI,g2,hb,hx,jz,g5]
   rw [if_neg (by simp [pO]),if_neg (by simp; omega),if_neg ID]
   simp
theorem zH {l2:List α}(h:AHeap):fN h E.n (E.fz l2)=some (E.l l2,l2.length):=by
 simp only [fN,fW,bM.fz]
 rw [if_pos bM.cN,aiR,bM.uZ]
theorem Fb (o:Has h K)(hq:K[q]? = some (i,.sl l.length E.n (E.l l))):fN h E.n (.rs i 0 l.length E.n)=some (E.l l,l.length):=by
 obtain⟨⟨⟨hlen,wj⟩,oQ⟩,hlt⟩:=o.at_ _ _ _ hq
 simp only [fN,fW]
 rcases oQ with⟨h0,h1⟩| ⟨h0,rest,h1⟩
 ·have:l=[]:=by simpa using h1
  subst this
  simp [h0,bM.l]
 ·rw [if_neg (fun z=>z.elim h0 fun z=>by rw [h1] at z; cases z.2),h1]
  simp only [aiI]
  rw [if_pos ⟨trivial,by rw [aiT,hlen]; omega⟩,aiR,aji,ajl (by rw [hlen]; exact aiQ _),ajp (by rw [hlen]; exact aiQ _),bM.uZ]
def sY (b:Nat){α:Type}(n:Int)(z:α):Option (List α):=if 0≤n∧n.toNat*(b+1)≤1099511627776 then some (ai1 n.toNat z) else none
theorem nE {n:Int}{z:α}{zv:AV}{r:List α}(T:BU P t E.n b=true)(o:Has h K)(e0:TypeId)(he0:P.underlying t=some (.slice e0))(hz0:ls P e0=some zv)(ZN:zv.cells=E.f z)(uw:(E.f z).all AV.dp=true)(hr:sY b n z=some r) :
  ∃i h',kn P h t (.int .i64 n) (.int .i64 n)=some (.rs i 0 r.length E.n,h')∧Has h' ((i,.sl r.length E.n (E.l r))::K):=by
 have hz:∀e,P.underlying t=some (.slice e)→ls P e=some zv:=fun e he=>by
  rw [he0] at he; cases he; exact hz0
 unfold sY at hr
 split at hr
 rotate_left
 ·cases hr
 rename_i nz
 obtain⟨h0,h1⟩:=nz
 cases hr
 obtain⟨e,inf,g1,g2,g3,g4,g5,g6⟩:=mH T
 have pO:=E.pos
 have aae:∀k,lu (E.f z) k=E.l (ai1 k z):=by
  intro k
  induction k with
  | zero=>rfl
  | succ k ih=>rw [lu,ih,List.replicate_succ,bM.iA]
 refine⟨h.next,h.alloc (.cells (E.l (ai1 n.toNat z))),?_,o.new (fun k hk=>by rw [AHeap.alloc,eF,if_neg (by omega)]) (aj5 _) (.inr (aiQ _)) (ajz _) ⟨⟨bM.cN,bM.pQ (by rw [ake]; rw [Nat.mul_add,Nat.mul_one] at h1; omega)⟩,.inr ⟨by have:=o.pos; omega,[],by rw [AHeap.alloc,eF,if_pos rfl]; simp⟩⟩⟩
 rw [Nat.mul_add,Nat.mul_one] at h1
 simp only [kn,g1,aiI,g2,hz e g1,ZN,E.len,aae,ake,g3,g4]
 have hb:n*(b:Int)≤jw:=by
  have:n*(b:Int)=((n.toNat*b:Nat):Int):=by
   rw [Int.natCast_mul,Int.toNat_of_nonneg h0]
  simp only [jw]
  rw [this]
  omega
 rw [if_pos ⟨h0,Int.le_refl _,hb,trivial,pO,by omega,uw⟩]
theorem NA (o:Has h K)(hq:K[q]? = some (i,.sl l.length E.n (E.l l)))(hp:E.flat=true:=by rfl):∃h',mC 0 h (.rs i 0 l.length E.n)=some (E.fz l,h')∧Has h' (K.eraseIdx q):=by
 obtain⟨⟨⟨hlen,wj⟩,oQ⟩,hlt⟩:=o.at_ _ _ _ hq
 rcases oQ with⟨h0,h1⟩| ⟨h0,rest,h1⟩
 ·have:l=[]:=by simpa using h1
  subst this
  exact⟨h,by simp [mC,h0,bM.fz,bM.l],o.del q⟩
 ·refine⟨h.kill i,?_,?_⟩
  ·simp only [mC]
   rw [if_neg h0,h1]
   simp only [aiI]
   have e1:((E.l l++rest).drop 0).take (l.length*E.n)=E.l l:=by
    rw [aji,ajl (by rw [hlen]; exact aiQ _),ajp (by rw [hlen]; exact aiQ _)]
   rw [e1,if_pos (by rw [aiT,hlen]; omega),wq (bM.tV hp).1]
   rfl
  ·have o2:=o.Nx (i':=0) (c':=.sl 0 1 []) (h':=h.kill i) hq (fun k hk _=>by rw [Fa,if_neg hk]) (aj5 _) (.inr (.inl rfl)) (Nat.succ_pos _) ⟨⟨by simp,by simp⟩,.inl ⟨rfl,rfl⟩⟩
   have:=o2.del q
   rwa [List.eraseIdx_set_eq] at this
variable {n:Nat}
theorem dX (o:Has h K)(hq:K[q]? = some (i,.sl n E.n (E.l l))):n=l.length:=by
 have h1:=(o.at_ _ _ _ hq).1.1.1
 rw [bM.cN] at h1
 exact (Nat.eq_of_mul_eq_mul_right (Nat.pos_of_ne_zero E.pos) h1).symm
theorem aL (T:BU P t E.n b=true)(o:Has h K)(hq:K[q]? = some (i,.sl n E.n (E.l l)))(hj:ix l j=some a):iS P t (.rs i 0 n E.n) (.int k j)=some (.ptr i (0+j.toNat*E.n)):=by
 have hn:=dX o hq
 subst hn
 exact Ud T (jQ hj).1 (jQ hj).2.1
theorem pR (o:Has h K)(hq:K[q]? = some (i,.sl n E.n (E.l l)))(ha:ju P tf=some false)(hj:ix l j=some a)(hc:(E.f a)[off]? = some c):bR P h tf (.ptr i (0+j.toNat*E.n+off))=some c:=by
 have hn:=dX o hq
 subst hn
 exact BV o hq ha hj hc
theorem bq (o:Has h K)(hq:K[q]? = some (i,.sl n E.n (E.l l)))(ha:ju P tf=some false)(hj:ix l j=some a)(hc:(E.f a)[0]? = some c):bR P h tf (.ptr i (0+j.toNat*E.n))=some c:=by
 have hn:=dX o hq
 subst hn
 exact LA o hq ha hj hc
theorem u9 (o:Has h K)(hq:K[q]? = some (i,.sl n E.n (E.l l)))(ha:ju P tf=some true)(hs:iR P tf=some E.n)(hj:ix l j=some a):bR P h tf (.ptr i (0+j.toNat*E.n))=some (.agg (E.f a)):=by
 have hn:=dX o hq
 subst hn
 exact LB o hq ha hs hj
theorem dD (o:Has h K)(hq:K[q]? = some (i,.sl n E.n (E.l l)))(hs:iR P tf=some E.n)(hj:ix l j=some a){x:AV}(hv:x.cells=E.f v)(uw:(E.f v).all AV.dp=true) :
  ∃h',lP P h tf (.ptr i (0+j.toNat*E.n)) x=some h'∧Has h' (K.set q (i,.sl n E.n (E.l (l.set j.toNat v)))):=by
 have hn:=dX o hq
 subst hn
 exact Ny o hq hs hj hv uw
theorem QU (o:Has h K)(hq:K[q]? = some (i,.sl n E.n (E.l l)))(hs:iR P tf=some 1)(hj:ix l j=some a){x:AV}(hx:x.cells=[x])(uw:x.dp=true)(ho:off<E.n)(hb:(E.f a).set off x=E.f v) :
  ∃h',lP P h tf (.ptr i (0+j.toNat*E.n+off)) x=some h'∧Has h' (K.set q (i,.sl n E.n (E.l (l.set j.toNat v)))):=by
 have hn:=dX o hq
 subst hn
 exact LC o hq hs hj hx uw ho hb
theorem eu {t2:TypeId}{l2 r:List α}{x:AV}(T:BU P t E.n b=true)(o:Has h K)(hq:K[q]? = some (i,.sl n E.n (E.l l)))(hx:fN h E.n x=some (E.l l2,l2.length))(jz:ly P t2 x=true)(hr:app b l l2=some r) :
  ∃i' h',eC P h t t2 (.rs i 0 n E.n) x=some (.rs i' 0 r.length E.n,h')∧Has h' (K.set q (i',.sl r.length E.n (E.l r))):=by
 have hn:=dX o hq
 subst hn
 exact Nz T o hq hx jz hr
theorem BW (o:Has h K)(hq:K[q]? = some (i,.sl n E.n (E.l l))):fN h E.n (.rs i 0 n E.n)=some (E.l l,l.length):=by
 have hn:=dX o hq
 subst hn
 exact Fb o hq
theorem lQ (o:Has h K)(hq:K[q]? = some (i,.sl n E.n (E.l l)))(hp:E.flat=true:=by rfl):∃h',mC 0 h (.rs i 0 n E.n)=some (E.fz l,h')∧Has h' (K.eraseIdx q):=by
 have hn:=dX o hq
 subst hn
 exact NA o hq hp
end
end Go.R
namespace Go.R
open Go
structure ak where
 kind:Int
 int:Int
 label:ByteArray
 args:List Int
structure bh where
 nodes:List ak
 root:Int
def eI (k:IntKind):bM Int:={n:=1,f:=fun a=>[.int k a],len:=fun _=>rfl,pos:=by decide,pure:=fun _ _=>⟨rfl,rfl⟩,canon:=fun _=>rfl}
abbrev ab:bM Int:=eI .i64
def di:bM Bool:={n:=1,f:=fun a=>[.bool a],len:=fun _=>rfl,pos:=by decide,pure:=fun _ _=>⟨rfl,rfl⟩,canon:=fun _=>rfl}
theorem pure_cons {x:AV}{xs:List AV}(h:x.gN=true∧x.mO=x)(k:eL xs=true∧fG xs=xs):eL (x::xs)=true∧fG (x::xs)=x::xs:=
 ⟨by simp [eL,h.1,k.1],by simp [fG,h.2,k.2]⟩
theorem pure_nil:eL []=true∧fG []=[]:=⟨rfl,rfl⟩
theorem jg {k:IntKind}{n:Int}:(AV.int k n).gN=true∧(AV.int k n).mO = .int k n:=⟨rfl,rfl⟩
theorem rV {s:ByteArray}:(AV.str s).gN=true∧(AV.str s).mO = .str s:=⟨rfl,rfl⟩
theorem bc {b:Bool}:(AV.bool b).gN=true∧(AV.bool b).mO = .bool b:=⟨rfl,rfl⟩
def af:bM ak:={n:=4,f:=fun x=>[.int .i64 x.kind,.int .i64 x.int,.str x.label,ab.fz x.args],len:=fun _=>rfl,pos:=by decide,pure:=fun x _=>pure_cons jg (pure_cons jg (pure_cons rV (pure_cons bM.aJ pure_nil))),canon:=fun _=>rfl}
end Go.R
namespace Go.R
open Go
theorem QV {b:Bool}(h:b=false):¬b=true:=by rw [h]; decide
section
variable {P:Program}{cf:CallF}{A:b4}{m:Nat}
theorem BX {c:Code}{s:St}{Q R:Ex→St→Prop}(h:dE P cf A m c s Q)(k:∀e s',Q e s'→R e s'):dE P cf A m c s R:=by
 obtain⟨e,s',h1,h2⟩:=h
 exact⟨e,s',h1,k _ _ h2⟩
theorem aI {c:Code}{s:St}{Q:St→Prop}{R:Ex→St→Prop}(hQ:∀e s',(e = .ret∨e = .norm)∧Q s'→R e s')(h:dE P cf A m c s (fun e s'=>(e = .ret∨e = .norm)∧Q s')):dE P cf A m c s R:=BX h hQ
end
def ki:Nat:=1125899906842630
def nF (k:Nat)(h:AHeap)(x y:AV):Prop:=∀n,ki+k≤n→dk h n x=some y
def bl (k:Nat)(h:AHeap)(x y:List AV):Prop:=∀n,ki+k≤n→b6 h n x=some y
def Hy (h:AHeap)(x y:AV):Prop:=nF 4503599627370496 h x y
section
variable {h:AHeap}{α:Type}{E:bM α}{l:List α}{K:Mem}{q i:Nat}
theorem nF.mono {k k':Nat}{x y:AV}(hk:k≤k')(f:nF k h x y):nF k' h x y:=fun n hn=>f n (by omega)
theorem CO {k:Nat}{x y:AV}(f:nF k h x y)(hk:k≤4503599627370496:=by decide):Hy h x y:=f.mono hk
theorem pS {n:Nat}(h:ki≤n):∃k,n=k+1∧ki≤k+1:=⟨n - 1,by simp only [ki] at h; omega,by omega⟩
theorem og {x:AV}(h1:x.gN=true)(h2:∀n,dk h (n+1) x=if x.gN then some x.mO else none){y:AV}(h3:x.mO=y):nF 0 h x y:=fun n hn=>by
 obtain⟨k,rfl,_⟩:=pS (show ki≤n by omega)
 rw [h2,h1,h3]; rfl
theorem aU {k:IntKind}{n:Int}:nF 0 h (.int k n) (.int k n):=og rfl (fun _=>rfl) rfl
theorem eM {b:Bool}:nF 0 h (.bool b) (.bool b):=og rfl (fun _=>rfl) rfl
theorem iB {s:ByteArray}:nF 0 h (.str s) (.str s):=og rfl (fun _=>rfl) rfl
theorem iu (hp:E.flat=true:=by rfl):nF 0 h (E.fz l) (E.fz l):=og (bM.aJ hp).1 (fun _=>rfl) (bM.aJ hp).2
theorem va:nF 0 h .nils (E.fz []):=og rfl (fun _=>rfl) rfl
theorem rW {cs:List AV}(h1:(eL cs=true))(h2:fG cs=E.l l){n:Nat}{b:Bool}(h3:n=l.length):nF 0 h (.fz cs n b) (E.fz l):=by
 refine og (by simpa [AV.gN] using h1) (fun _=>rfl) ?_
 subst h3
 show AV.fz (fG cs) l.length false=_
 rw [h2]; rfl
theorem tB:∀{cs:List AV} {n:Nat},eL cs=true→(∀x∈cs,∀n,dk h (n+1) x=if x.gN then some x.mO else none)→cs.length+1<n→b6 h n cs=some (fG cs)
 | [],n,_,_,hn=>by
  obtain⟨k,rfl⟩:∃k,n=k+1:=⟨n - 1,by omega⟩
  rfl
 | x::cs,n,h1,h2,hn=>by
  obtain⟨k,rfl⟩:∃k,n=k+1+1:=⟨n - 2,by simp at hn; omega⟩
  simp only [eL,aiM] at h1
  simp only [b6]
  rw [h2 x (by simp) k,h1.1]
  simp only [if_true,aiI]
  rw [tB h1.2 (fun y hy=>h2 y (by simp [hy])) (by simp at hn; omega)]
  rfl
def Fc:AV→Bool
 | .agg _ | .tup _ | .fn _ _=>false
 | _=>true
theorem NB {x:AV}(hf:Fc x=true)(hn:x.gN=true)(n:Nat):dk h (n+1) x=if x.gN then some x.mO else none:=by
 cases x<;>first | rfl | (simp [AV.gN] at hn; done) | (simp [Fc] at hf; done)
theorem QX (o:Has h K)(hq:K[q]? = some (i,.sl l.length E.n (E.l l)))(hf:∀a:α,(E.f a).all Fc=true)(hp:E.flat=true:=by rfl):nF 0 h (.rs i 0 l.length E.n) (E.fz l):=fun n hn=>by
 obtain⟨⟨⟨hlen,wj⟩,oQ⟩,hlt⟩:=o.at_ _ _ _ hq
 obtain⟨k,rfl,hk⟩:=pS (show ki≤n by omega)
 simp only [dk]
 rcases oQ with⟨h0,h1⟩| ⟨h0,rest,h1⟩
 ·have:l=[]:=by simpa using h1
  subst this
  simp [h0,bM.fz,bM.l]
 ·rw [if_neg h0,h1]
  simp only [aiI]
  have e1:((E.l l++rest).drop 0).take (l.length*E.n)=E.l l:=by
   rw [aji,ajl (by rw [hlen]; exact aiQ _),ajp (by rw [hlen]; exact aiQ _)]
  rw [if_pos (by rw [aiT,hlen]; omega),e1,tB (bM.tV hp).1 (fun x hx=>?_) (by simp only [ki] at hk; omega),(bM.tV hp).2]
  ·rfl
  ·have hnx:x.gN=true:=by
    have:∀(cs:List AV),eL cs=true→x∈cs→x.gN=true:=by
     intro cs
     induction cs with
     | nil=>intro _ h; cases h
     | cons y ys ih=>
      intro h hm
      simp only [eL,aiM] at h
      rcases aja.1 hm with rfl | hm
      ·exact h.1
      ·exact ih h.2 hm
    exact this _ (bM.tV hp).1 hx
   have Ue:Fc x=true:=by
    unfold bM.l at hx
    rw [List.mem_flatMap] at hx
    obtain⟨a,_,ha⟩:=hx
    exact ajd.1 (hf a) x ha
   exact fun n=>NB Ue hnx n
theorem cC {n:Nat}(o:Has h K)(hq:K[q]? = some (i,.sl n E.n (E.l l)))(hf:∀a:α,(E.f a).all Fc=true)(hp:E.flat=true:=by rfl):nF 0 h (.rs i 0 n E.n) (E.fz l):=by
 have hn:=dX o hq
 subst hn
 exact QX o hq hf hp
theorem aD:bl 0 h [] []:=fun n hn=>by
 obtain⟨k,rfl,_⟩:=pS (show ki≤n by omega)
 rfl
theorem ai {k1 k2:Nat}{x y:AV}{xs ys:List AV}(f:nF k1 h x y)(g:bl k2 h xs ys):bl (k1+k2+1) h (x::xs) (y::ys):=fun n hn=>by
 obtain⟨k,rfl⟩:∃k,n=k+1:=⟨n - 1,by omega⟩
 simp only [b6]
 rw [f k (by omega),g k (by omega)]
 rfl
theorem eJ {k:Nat}{xs ys:List AV}(f:bl k h xs ys):nF (k+1) h (.agg xs) (.agg ys):=fun n hn=>by
 obtain⟨k,rfl⟩:∃k,n=k+1:=⟨n - 1,by omega⟩
 simp only [dk]
 rw [f k (by omega)]; rfl
theorem pU {k:Nat}{xs ys:List AV}(f:bl k h xs ys):nF (k+1) h (.tup xs) (.tup ys):=fun n hn=>by
 obtain⟨k,rfl⟩:∃k,n=k+1:=⟨n - 1,by omega⟩
 simp only [dk]
 rw [f k (by omega)]; rfl
end
def mN (k:IntKind)(x:Int)(n:Nat):Int:=x.fdiv (2 ^ (min n k.bits))
section
variable {P:Program}{t:TypeId}{b:Nat}{α:Type}{E:bM α}{h:AHeap}{K:Mem}{l r:List α}{i q:Nat}{j lo hi:Int}{k k':IntKind}
theorem rX {s:ByteArray}{v:Int}(hu:P.underlying t=some .string)(h:bt s j=some v):vY P t (.str s) (.int k j)=some (.int .u8 v):=by
 unfold bt at h
 split at h
 ·rename_i h0
  rw [aiK] at h
  obtain⟨b,hb,rfl⟩:=h
  simp only [vY,hu,aiI,h0,if_true,hb,aiR]
 ·cases h
theorem NC (h:I4 l lo hi=some r):(((E.l l).drop (lo.toNat*E.n)).take ((hi.toNat - lo.toNat)*E.n))=E.l r∧r.length=hi.toNat - lo.toNat:=by
 obtain⟨h0,h1,h2,rfl⟩:=E9 h
 refine⟨by rw [bM.Dg,bM.Nu],?_⟩
 rw [ajo,List.length_drop]
 omega
theorem ND (o:Has h K)(hq:K[q]? = some (i,.sl l.length E.n (E.l l)))(T:BU P t E.n b=true)(hs:I4 l 0 hi=some r) :
  pF P t (.rs i 0 l.length E.n) none (some (.int k hi)) none=some (.rs i 0 r.length E.n)∧Has h (K.set q (i,.sl r.length E.n (E.l r))):=by
 obtain⟨e,inf,g1,g2,g3,g4,g5,g6⟩:=mH T
 obtain⟨h0,h1,h2,hr⟩:=E9 hs
 obtain⟨h3,h4⟩:=NC (E:=E) hs
 simp only [Int.toNat_zero,Nat.sub_zero] at h4 hr
 have EW:r=l.take hi.toNat:=by rw [hr]; simp
 refine⟨?_,?_⟩
 ·simp only [pF,g1,aiI,g6,if_true,n5]
  rw [if_pos ⟨by omega,h2⟩]
  simp only [aiI,aiR,Nat.zero_mul,akj,Nat.sub_zero,h4]
 ·obtain⟨⟨⟨hlen,wj⟩,oQ⟩,hlt⟩:=o.at_ _ _ _ hq
  refine o.Nx hq (fun _ _ _=>rfl) (aiQ _) (.inl rfl) hlt ⟨⟨bM.cN,?_⟩,?_⟩
  ·rw [bM.cN]
   refine ajF (ajN _ ?_) (hlen ▸ wj)
   rw [h4]; omega
  ·rcases oQ with⟨h5,h6⟩| ⟨h5,rest,h6⟩
   ·left; exact⟨h5,by rw [h4]; omega⟩
   ·right
    refine⟨h5,E.l (l.drop hi.toNat)++rest,?_⟩
    rw [h6,EW,←ai7,←bM.kV,akd]
theorem Hz {n:Nat}(o:Has h K)(hq:K[q]? = some (i,.sl n E.n (E.l l)))(T:BU P t E.n b=true)(hs:I4 l 0 hi=some r) :
  pF P t (.rs i 0 n E.n) none (some (.int k hi)) none=some (.rs i 0 r.length E.n)∧Has h (K.set q (i,.sl r.length E.n (E.l r))):=by
 have hn:=dX o hq
 subst hn
 exact ND o hq T hs
end
theorem aw {P:Program}{cf:CallF}{m:Nat}{aW:FuncId→b4}{f:FuncId}{fn:Func}{A:b4}(ha:aW f=A){args:List AV}{h:AHeap}{R:AV→AHeap→Prop}(hf:P.funcs[f]? = some fn)(hb:fn.body=some (bw fn))(hn:akn args.length fn.ntmps=true)
  (he:dE P cf A m (bw fn) ⟨rK A.keep args,A.bb.map fun _=>none,h⟩ (fun e s=>(e = .ret∨e = .norm)∧∃r,aK P (s.open A) fn.results.toList=some r∧R r s.h)) :
  ∃r h',bj P aW cf m f args h=some (r,h')∧R r h':=by
 subst ha
 exact Df hf hb hn he
def NF (a b:ByteArray):Bool:=Op.bytesLess a.data.toList b.data.toList||a.data.toList==b.data.toList
end Go.R
namespace Go.R
open Go
mutual
theorem Di {h:AHeap}:∀(n:Nat) (x y:AV),x.gN=true→dk h n x=some y→y=x.mO
 | 0,x,y,_,h=>by simp [dk] at h
 | n+1,x,y,hn,h=>by
  cases x with
  | agg cs=>
   simp only [dk,aiK] at h
   obtain⟨iO,hcs,rfl⟩:=h
   rw [kp n cs iO (by simpa [AV.gN] using hn) hcs]; rfl
  | tup cs=>
   simp only [dk,aiK] at h
   obtain⟨iO,hcs,rfl⟩:=h
   rw [kp n cs iO (by simpa [AV.gN] using hn) hcs]; rfl
  | fn f cs=>
   simp only [dk,aiK] at h
   obtain⟨iO,hcs,rfl⟩:=h
   rw [kp n cs iO (by simpa [AV.gN] using hn) hcs]; rfl
  | ptr _ _=>simp [AV.gN] at hn
  | rs _ _ _ _=>simp [AV.gN] at hn
  | _=>simp only [dk,hn,if_true,aiL] at h; exact h.symm
theorem kp {h:AHeap}:∀(n:Nat) (xs ys:List AV),eL xs=true→b6 h n xs=some ys→ys=fG xs
 | 0,xs,ys,_,h=>by simp [b6] at h
 | n+1,[],ys,_,h=>by simp only [b6,aiL] at h; exact h.symm
 | n+1,x::xs,ys,hn,h=>by
  simp only [eL,aiM] at hn
  simp only [b6,aiJ,aiK] at h
  obtain⟨y,hy,zs,hz,rfl⟩:=h
  rw [Di n x y hn.1 hy,kp n xs zs hn.2 hz]; rfl
end
mutual
theorem BY {h:AHeap}:∀(n:Nat) (x y:AV),jO h n x=some y→dk h n x=some y
 | 0,x,y,h=>by simp [jO] at h
 | n+1,x,y,h=>by
  unfold jO at h
  split at h
  ·exact h
  ·exact h
  ·exact h
  ·exact h
  ·exact h
  ·exact h
  ·exact h
  ·exact h
  ·rename_i id off len lq
   simp only [dk]
   split at h
   ·rename_i h0; rw [if_pos h0]; exact h
   ·rename_i h0
    rw [if_neg h0]
    rw [aiJ] at h ⊢
    obtain⟨ob,ho,h⟩:=h
    refine⟨ob,ho,?_⟩
    cases ob with
    | map es=>cases h
    | row t cs=>cases h
    | cells cs=>
     simp only at h ⊢
     split at h
     ·rename_i hle
      rw [if_pos hle]
      rw [aiK] at h ⊢
      obtain⟨iO,hcs,h2⟩:=h
      exact⟨iO,oo n _ _ hcs,h2⟩
     ·cases h
  ·simp only [dk]
   rw [aiK] at h ⊢
   obtain⟨iO,hcs,h2⟩:=h
   exact⟨iO,oo n _ _ hcs,h2⟩
  ·simp only [dk]
   rw [aiK] at h ⊢
   obtain⟨iO,hcs,h2⟩:=h
   exact⟨iO,oo n _ _ hcs,h2⟩
  ·cases h
theorem oo {h:AHeap}:∀(n:Nat) (xs ys:List AV),fu h n xs=some ys→b6 h n xs=some ys
 | 0,xs,ys,h=>by simp [fu] at h
 | n+1,[],ys,h=>h
 | n+1,x::xs,ys,h=>by
  simp only [fu,b6,aiJ,aiK] at h ⊢
  obtain⟨y,hy,zs,hz,h2⟩:=h
  exact⟨y,BY n x y hy,zs,oo n xs zs hz,h2⟩
end
def Dj (k:Nat)(h:AHeap)(x y:AV):Prop:=∀n,ki+k≤n→jO h n x=some y
def QY (k:Nat)(h:AHeap)(x y:List AV):Prop:=∀n,ki+k≤n→fu h n x=some y
def eX (h:AHeap)(x y:AV):Prop:=Dj 4503599627370496 h x y
section
variable {h:AHeap}{α:Type}{E:bM α}{l:List α}{K:Mem}{q i:Nat}
theorem eX.CO {x y:AV}(f:eX h x y):Hy h x y:=fun n hn=>BY _ _ _ (f n hn)
theorem oR {k:Nat}{x y:AV}(f:Dj k h x y)(hk:k≤4503599627370496:=by decide):eX h x y:=fun n hn=>f n (by omega)
theorem Dk {x y:AV}(h2:∀n,jO h (n+1) x=some y):Dj 0 h x y:=fun n hn=>by
 obtain⟨k,rfl,_⟩:=pS (show ki≤n by omega)
 exact h2 k
theorem fw {k:IntKind}{n:Int}:Dj 0 h (.int k n) (.int k n):=Dk fun _=>rfl
theorem jh {b:Bool}:Dj 0 h (.bool b) (.bool b):=Dk fun _=>rfl
theorem ot:Dj 0 h .nils (E.fz []):=Dk fun _=>rfl
def NG:AV→Bool
 | .int _ _ | .bool _ | .str _=>true
 | _=>false
theorem rY:∀{cs:List AV} {n:Nat},cs.all NG=true→cs.length+1<n→fu h n cs=some cs
 | [],n,_,hn=>by
  obtain⟨k,rfl⟩:∃k,n=k+1:=⟨n - 1,by omega⟩
  rfl
 | x::cs,n,h1,hn=>by
  obtain⟨k,rfl⟩:∃k,n=k+1+1:=⟨n - 2,by simp at hn; omega⟩
  simp only [ajB,aiM] at h1
  simp only [fu]
  have:jO h (k+1) x=some x:=by cases x<;>first | rfl | (simp [NG] at h1)
  rw [this,aiI,rY h1.2 (by simp at hn; omega)]
  rfl
theorem zI {n:Nat}(o:Has h K)(hq:K[q]? = some (i,.sl n E.n (E.l l)))(hf:∀a:α,(E.f a).all NG=true):Dj 0 h (.rs i 0 n E.n) (E.fz l):=fun m hm=>by
 have hn:=dX o hq
 subst hn
 obtain⟨⟨⟨hlen,wj⟩,oQ⟩,hlt⟩:=o.at_ _ _ _ hq
 obtain⟨k,rfl,hk⟩:=pS (show ki≤m by omega)
 simp only [jO]
 rcases oQ with⟨h0,h1⟩| ⟨h0,rest,h1⟩
 ·have:l=[]:=by simpa using h1
  subst this
  simp [h0,bM.fz,bM.l]
 ·rw [if_neg h0,h1]
  simp only [aiI]
  have e1:((E.l l++rest).drop 0).take (l.length*E.n)=E.l l:=by
   rw [aji,ajl (by rw [hlen]; exact aiQ _),ajp (by rw [hlen]; exact aiQ _)]
  rw [if_pos (by rw [aiT,hlen]; omega),e1,rY ?_ (by simp only [ki] at hk; omega)]
  ·rfl
  ·rw [ajd]
   intro x hx
   unfold bM.l at hx
   rw [List.mem_flatMap] at hx
   obtain⟨a,_,ha⟩:=hx
   exact ajd.1 (hf a) x ha
theorem kM:QY 0 h [] []:=fun n hn=>by
 obtain⟨k,rfl,_⟩:=pS (show ki≤n by omega)
 rfl
theorem de {k1 k2:Nat}{x y:AV}{xs ys:List AV}(f:Dj k1 h x y)(g:QY k2 h xs ys):QY (k1+k2+1) h (x::xs) (y::ys):=fun n hn=>by
 obtain⟨k,rfl⟩:∃k,n=k+1:=⟨n - 1,by omega⟩
 simp only [fu]
 rw [f k (by omega),g k (by omega)]
 rfl
theorem kN {k:Nat}{xs ys:List AV}(f:QY k h xs ys):Dj (k+1) h (.tup xs) (.tup ys):=fun n hn=>by
 obtain⟨k,rfl⟩:∃k,n=k+1:=⟨n - 1,by omega⟩
 simp only [jO]
 rw [f k (by omega)]; rfl
def cd:Nat:=9007199254740992
theorem ia {k:Nat}{xs ys:List AV}(f:bl k h xs ys)(hk:k≤cd:=by decide):bl cd h xs ys:=fun n hn=>f n (by omega)
def vb (x y:AV):Prop:=x.gN=true∧x.mO=y
def tC (xs ys:List AV):Prop:=eL xs=true∧fG xs=ys
theorem ig {k:IntKind}{n:Int}:vb (.int k n) (.int k n):=⟨rfl,rfl⟩
theorem QZ {b:Bool}:vb (.bool b) (.bool b):=⟨rfl,rfl⟩
theorem pV {s:ByteArray}:vb (.str s) (.str s):=⟨rfl,rfl⟩
theorem I5 (hp:E.flat=true:=by rfl):vb (E.fz l) (E.fz l):=bM.aJ hp
theorem ou:vb .nils (E.fz []):=⟨rfl,rfl⟩
theorem jR:tC [] []:=⟨rfl,rfl⟩
theorem b5 {x y:AV}{xs ys:List AV}(a:vb x y)(b:tC xs ys):tC (x::xs) (y::ys):=⟨by simp [eL,a.1,b.1],by simp [fG,a.2,b.2]⟩
theorem nG {xs ys:List AV}(a:tC xs ys):vb (.agg xs) (.agg ys):=⟨by simpa [AV.gN] using a.1,by show AV.agg (fG xs)=_; rw [a.2]⟩
end
end Go.R
namespace Go.R
open Go
section
variable {P:Program}{h:AHeap}{K:Mem}{i q:Nat}{cs iO:List AV}{x z:AV}{t:TypeId}{off:Nat}
theorem ja (o:Has h K)(uw:cs.all AV.dp=true):∃i h',E6 h cs=some (.ptr i 0,h')∧Has h' ((i,.ob cs)::K):=by
 refine⟨h.next,h.alloc (.cells cs),by unfold E6; rw [if_pos uw],o.new (fun k hk=>by rw [AHeap.alloc,eF,if_neg (by omega)]) (aj5 _) (.inr (aiQ _)) (ajz _) ⟨by have:=o.pos; omega,by rw [AHeap.alloc,eF,if_pos rfl]⟩⟩
theorem cJ (o:Has h K)(hq:K[q]? = some (i,.ob cs))(hr:me P t cs off=some z):bR P h t (.ptr i off)=some z:=by
 obtain⟨⟨h1,h2⟩,_⟩:=o.at_ _ _ _ hq
 simp only [bR,nr,h2,aiI,hr]
theorem mV (o:Has h K)(hq:K[q]? = some (i,.ob cs))(hw:kB P t cs off x=some iO):∃h',lP P h t (.ptr i off) x=some h'∧Has h' (K.set q (i,.ob iO)):=by
 obtain⟨⟨h1,h2⟩,_⟩:=o.at_ _ _ _ hq
 exact⟨h.put i (.cells iO),by simp only [lP,h2,aiI,hw,aiR],mz o hq ⟨h1,by rw [eF,if_pos rfl]⟩⟩
end
theorem lR {x y:AV}(h:vb x y):ba x=y:=by
 unfold ba
 rw [h.1,h.2]; rfl
theorem Q0:([]:List AV).map ba=[]:=rfl
theorem fy {x y:AV}{xs ys:List AV}(a:ba x=y)(b:xs.map ba=ys):(x::xs).map ba=y::ys:=by
 rw [ai9,a,b]
theorem mg {α:Type}{K L:List α}{q:Nat}{p:α}(h:L[q]? = some p):(K++L)[K.length+q]? = some p:=by
 rw [ai0 (by omega),ajK,h]
theorem yT {α:Type}{E:bM α}{h:AHeap}{K:Mem}{l:List α}{cs:List AV}(o:Has h K)(hc:cs=E.l l)(hl:l.length≤1024:=by simp) :
  ∃i h',some (AV.rs h.next 0 l.length E.n,h.alloc (.cells cs))=some (AV.rs i 0 l.length E.n,h')∧Has h' ((i,.sl l.length E.n (E.l l))::K):=by
 subst hc
 exact⟨h.next,_,rfl,o.new (fun k hk=>by rw [AHeap.alloc,eF,if_neg (by omega)]) (aj5 _) (.inr (aiQ _)) (ajz _) ⟨⟨bM.cN,bM.pQ (by omega)⟩,.inr ⟨by have:=o.pos; omega,[],by rw [AHeap.alloc,eF,if_pos rfl]; simp⟩⟩⟩
end Go.R
