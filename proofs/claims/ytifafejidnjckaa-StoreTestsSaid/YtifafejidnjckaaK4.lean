/- Part of the proof: RRow, RStep, RWalk, RG1, RG2, RG3, RG4, RT, RG5, RG6, RG7. -/
import Derived.Test.YtifafejidnjckaaK3
import Derived.ProofKit
set_option linter.unusedVariables false
set_option linter.unusedSimpArgs false
set_option maxRecDepth 100000
open Bool renaming and_eq_true → ZF, false_eq_true → ZN, or_eq_true → aar
open List renaming getElem?_eq_some_iff → ZH, length_append → ZM, length_set → ZO, drop_eq_getElem_cons → ZP, getElem?_append_left → ZS, getElem?_append_right → ZT, length_cons → ZU, append_assoc → ZV, all_eq_true → ZX, replicate → ZY, mem_cons → ZZ, map_cons → Z0, eq_nil_of_length_eq_zero → Z6, map_append → Z7, length_nil → Z8, take_append_of_le_length → Z9, mem_append → aaa, take_of_length_le → aae, getElem?_cons_zero → aag, nil_append → aal, drop_zero → aam, all_cons → aao, getElem?_of_mem → aav, length_take → aaw, getElem?_cons_succ → aaK, ext_getElem? → aaL, set_append_right → aaO, take_append_drop → aaP, append_nil → aa2, length_replicate → aa3, getElem?_set → aa4, take_length → aa9
open Nat renaming le_refl → ZI, zero_add → Z2, lt_of_lt_of_le → Z4, beq → aaj, le_trans → aap, lt_succ_self → aas, mul_le_mul_right → aay, add_assoc → aaB, add_sub_cancel_left → aaE, eq_of_beq_eq_true → aaH, sub_self → aaJ, le_succ → aaM, add_mul → aaN, lt_succ_of_lt → aaS, add_zero → aaW, ble → aaZ, min_eq_left → aa0, zero_lt_one → aa1, add_comm → aa7
open Option renaming bind_some → ZB, bind_eq_some_iff → ZC, map_eq_some_iff → ZD, map_some → ZJ, isSome_none → aaX
open Option.some renaming injEq → ZE
open Prod.mk renaming injEq → ZL
namespace Go.R
open Go
def AR (P:Program)(F:TypeId→List AV→Prop):List Field→List AV→Prop
 | [],xs=>xs=[]
 | f::fs,xs=>∃a b,xs=a++b∧a.length=P.cellsOf f.type∧F f.type a∧AR P F fs b
def Fits (P:Program):Nat→TypeId→List AV→Prop
 | 0,_,_=>False
 | n+1,t,xs=>
  match P.underlying t with
  | some .bool=>∃b,xs=[.bool b]
  | some (.int k)=>∃z,xs=[.int k z]∧k.min≤z∧z≤k.max
  | some .string=>∃s:ByteArray,xs=[.str s]∧s.size≤maxLen
  | some (.slice e)=>xs=[.nils]∨∃els:List (List AV),xs=[.fz els.flatten els.length false]∧els.length≤maxLen∧∀el∈els,el.length=P.cellsOf e∧Fits P n e el
  | some (.struct fs)=>AR P (Fits P n) fs.toList xs
  | _=>False
def sr (P:Program):Nat→List Field→Bool
 | _,[]=>true
 | k,f::fs=>aaj f.offset k&&sr P (k+P.cellsOf f.type) fs
def nz (P:Program):Nat→TypeId→Bool
 | 0,_=>false
 | n+1,t=>
  match P.underlying t with
  | some .bool | some (.int _) | some .string=>true
  | some (.slice e)=>nz P n e
  | some (.struct fs)=>sr P 0 fs.toList&&aaj (P.cellsOf t) ((fs.toList.map fun f=>P.cellsOf f.type).sum)&&fs.toList.all fun f=>nz P n f.type
  | _=>false
theorem mapM_some {α β:Type}{f:α→Option β}:∀{l:List α} {ys:List β},l.mapM f=some ys→ys.length=l.length∧∀(i:Nat) (x:α),l[i]? = some x→∃y,ys[i]? = some y∧f x=some y
 | [],ys,h=>by
  simp at h; subst h
  exact⟨rfl,fun i x hx=>by simp at hx⟩
 | a::l,ys,h=>by
  simp only [List.mapM_cons,Option.bind_eq_bind,ZC,Option.pure_def,ZE] at h
  obtain⟨y,hy,zs,hz,rfl⟩:=h
  obtain⟨h1,h2⟩:=mapM_some hz
  refine⟨by simp [h1],fun i x hx=>?_⟩
  cases i with
  | zero=>simp at hx; subst hx; exact⟨y,rfl,hy⟩
  | succ i=>simpa using h2 i x (by simpa using hx)
theorem AS {w:World}{a:Addr}{v:Value}(h:w.cell? a=some v):w.cell? ⟨a.block,a.off,none⟩=some v∧a.spot=none:=by
 unfold World.cell? at h ⊢
 split at h
 ·rename_i c t fr hb
  rw [hb]
  simp only at h ⊢
  cases hs:a.spot with
  | none=>rw [hs] at h; exact⟨by simpa using h,rfl⟩
  | some _=>rw [hs] at h; simp at h
 ·cases h
theorem n7 (a:Addr)(n:Nat):(a.add n).block=a.block∧(a.add n).off=a.off+n:=by
 unfold Addr.add
 split
 ·rename_i h; subst h; exact⟨rfl,rfl⟩
 ·exact⟨rfl,rfl⟩
theorem yL {w:World}{base:Nat}{a:Addr}{n:Nat}{cs:List Value}(h:w.cells? base a n=some cs):cs.length=n∧∀i,i<n→w.cell? ⟨a.block,a.off+i,none⟩=cs[i]?∧(i=0→a.spot=none):=by
 unfold World.cells? at h
 split at h
 ·obtain⟨h1,h2⟩:=mapM_some h
  refine⟨by simpa using h1,fun i hi=>?_⟩
  obtain⟨y,hy,hc⟩:=h2 i i (by simp [hi])
  obtain⟨h3,h4⟩:=AS hc
  rw [(n7 a i).1,(n7 a i).2] at h3
  refine⟨by rw [h3,hy],fun h0=>?_⟩
  subst h0
  simpa [Addr.add] using h4
 ·cases h
theorem rF {α:Type}{Q:Nat→α→Prop}:∀n,(∀i,i<n→∃x,Q i x)→∃l:List α,l.length=n∧∀i x,l[i]? = some x→Q i x
 | 0,_=>⟨[],rfl,fun i x h=>by simp at h⟩
 | n+1,h=>by
  obtain⟨l,h1,h2⟩:=rF n fun i hi=>h i (by omega)
  obtain⟨x,hx⟩:=h n (by omega)
  refine⟨l++[x],by simp [h1],fun i y hy=>?_⟩
  by_cases hi:i<n
  ·exact h2 i y (by rwa [ZS (by omega)] at hy)
  ·rw [ZT (by omega)] at hy
   have:i=n:=by
    have:=(ZH.1 hy).1
    simp at this; omega
   subst this
   simp [h1] at hy
   subst hy; exact hx
theorem Cells.append {c:Cx}{L:Nat→Prop}:∀{xs ys:List AV} {b o:Nat},Cells c L xs b o→Cells c L ys b (o+xs.length)→Cells c L (xs++ys) b o
 | [],ys,b,o,_,h=>by simpa using h
 | x::xs,ys,b,o,h,k=>⟨h.1,Cells.append h.2 (by simpa [aaB,aa7 1] using k)⟩
theorem Cells.flatten {c:Cx}{L:Nat→Prop}{b size:Nat}:∀(els:List (List AV)) (o:Nat),(∀i el,els[i]? = some el→el.length=size∧Cells c L el b (o+i*size))→Cells c L els.flatten b o
 | [],o,_=>trivial
 | el::els,o,h=>by
  obtain⟨h1,h2⟩:=h 0 el rfl
  rw [List.flatten_cons]
  refine Cells.append (by simpa using h2) (Cells.flatten (size:=size) els _ fun i Wd he=>?_)
  obtain⟨h3,h4⟩:=h (i+1) Wd (by simpa using he)
  refine⟨h3,?_⟩
  rw [h1]
  rwa [show o+size+i*size=o+(i+1)*size by rw [aaN,Nat.one_mul]; omega]
section
variable {H:Type}{enc:TypeId × Value→H}{P:Program}{c:Cx}{sp:Nat→Bool}{held:Bool}
theorem rG {F:TypeId→List AV→Prop}{g:TypeId→List Value→Option (DataW H × List MemPlace)}(hg:∀t cs x,g t cs=some x→cs.length=P.cellsOf t→(∃u:Nat,u=0)→True) :
  ∀(fs:List Field) (k:Nat) (cs:List Value) (xs:List (DataW H × List MemPlace)),sr P k fs=true→(∀f∈fs,∀cs x,g f.type cs=some x→cs.length=P.cellsOf f.type→∃ys,VRs c none0 ys cs∧F f.type ys∧∀v∈cs,v.oneCell'=true)→
   (fs.mapM fun f=>g f.type ((cs.drop f.offset).take (P.cellsOf f.type)))=some xs→k+(fs.map fun f=>P.cellsOf f.type).sum≤cs.length→
   ∃ys,VRs c none0 ys ((cs.drop k).take ((fs.map fun f=>P.cellsOf f.type).sum))∧AR P F fs ys∧∀v∈(cs.drop k).take ((fs.map fun f=>P.cellsOf f.type).sum),v.oneCell'=true
 | [],k,cs,xs,_,_,_,_=>⟨[],by simp [VRs],rfl,by simp⟩
 | f::fs,k,cs,xs,hc,hF,h,hl=>by
  simp only [sr,ZF,beq_nat,decide_eq_true_eq] at hc
  obtain⟨rfl,hc⟩:=hc
  simp only [List.mapM_cons,Option.bind_eq_bind,ZC,Option.pure_def,ZE] at h
  obtain⟨y,hy,zs,hz,rfl⟩:=h
  simp only [Z0,List.sum_cons] at hl ⊢
  have hlen:((cs.drop f.offset).take (P.cellsOf f.type)).length=P.cellsOf f.type:=by simp; omega
  obtain⟨a,ha,We,h1⟩:=hF f (by simp) _ _ hy hlen
  obtain⟨b,hb,Wf,h2⟩:=rG hg fs (f.offset+P.cellsOf f.type) cs zs hc (fun f' PV=>hF f' (by simp [PV])) hz (by omega)
  have KG:(cs.drop f.offset).take (P.cellsOf f.type+(fs.map fun f=>P.cellsOf f.type).sum)=(cs.drop f.offset).take (P.cellsOf f.type)++((cs.drop (f.offset+P.cellsOf f.type)).take ((fs.map fun f=>P.cellsOf f.type).sum)):=by
   rw [List.take_add,List.drop_drop]
  rw [KG]
  refine⟨a++b,VRs.append ha hb,⟨a,b,rfl,?_,We,Wf⟩,fun v hv=>?_⟩
  ·rw [ha.length,hlen]
  ·rcases aaa.1 hv with hv | hv
   ·exact h1 v hv
   ·exact h2 v hv
theorem qH (ya:∀id,c.h.get id=none):∀(m:Nat) (t:TypeId) (fuel:Nat) (cs:List Value) (d:DataW H) (ps:List MemPlace),nz P m t=true→DataW.trod enc P c.w 0 sp held fuel t cs=some (d,ps)→
  ∃xs,VRs c none0 xs cs∧Fits P m t xs∧∀v∈cs,v.oneCell'=true
 | 0,_,_,_,_,_,hB,_=>by simp [nz] at hB
 | m+1,t,0,cs,d,ps,hB,h=>by simp [DataW.trod] at h
 | m+1,t,fuel+1,cs,d,ps,hB,h=>by
  have hnl:∀id,¬Live c.h id:=fun id hl=>by have:=hl.2; rw [ya id] at this; cases this
  unfold nz at hB
  unfold Fits
  cases hu:P.underlying t with
  | none=>rw [hu] at hB; cases hB
  | some td=>
  rw [hu] at hB
  cases td<;>simp only at hB ⊢<;>try (cases hB; done)
  ·
   unfold DataW.trod at h
   rw [hu] at h
   split at h<;>first | (rename_i heq; cases heq; done) | skip
   all_goals try (rename_i heq _; cases heq; done)
   all_goals (first | (cases h; done) | skip)
   ·rename_i b _
    exact⟨[.bool b],⟨by simp [VR],trivial⟩,⟨b,rfl⟩,by simp [Value.oneCell']⟩
  ·rename_i k
   unfold DataW.trod at h
   rw [hu] at h
   split at h<;>first | (rename_i heq; cases heq; done) | skip
   all_goals try (rename_i heq _; cases heq; done)
   ·rename_i k' k2 n heq
    cases heq
    split at h
    ·rename_i hk
     obtain⟨rfl,O6⟩:=hk
     simp only [Lit.wf,ZF,decide_eq_true_eq] at O6
     exact⟨[.int k2 n],⟨by simp [VR],trivial⟩,⟨n,rfl,O6⟩,by simp [Value.oneCell']⟩
    ·cases h
   ·cases h
  ·
   unfold DataW.trod at h
   rw [hu] at h
   split at h<;>first | (rename_i heq; cases heq; done) | skip
   all_goals try (rename_i heq _; cases heq; done)
   ·rename_i s _
    split at h
    ·rename_i hs
     exact⟨[.str s],⟨by simp [VR],trivial⟩,⟨s,rfl,hs⟩,by simp [Value.oneCell']⟩
    ·cases h
   ·cases h
  ·
   rename_i e
   unfold DataW.trod at h
   rw [hu] at h
   split at h<;>first | (rename_i heq; cases heq; done) | skip
   all_goals try (rename_i heq _; cases heq; done)
   ·exact⟨[.nils],⟨by simp [VR],trivial⟩,.inl rfl,by simp [Value.oneCell']⟩
   ·rename_i e' a len cap heq
    cases heq
    simp only at h
    split at h
    rotate_left
    ·cases h
    rename_i hbound
    obtain⟨_,hlc,hcap⟩:=hbound
    rw [ZC] at h
    obtain⟨elems,Nt,_⟩:=h
    obtain⟨hn,hget⟩:=mapM_some Nt
    have key:∀i,i<len→∃el:List AV,el.length=P.cellsOf e∧Fits P m e el∧Cells c none0 el a.block (a.off+i*P.cellsOf e)∧(i=0→0<P.cellsOf e→a.spot=none):=by
     intro i hi
     obtain⟨y,_,hy⟩:=hget i i (by simp [hi])
     rw [ZC] at hy
     obtain⟨Wg,hcs,hy⟩:=hy
     obtain⟨hl,oC⟩:=yL hcs
     obtain⟨el,hv,hf,h1⟩:=qH ya m e fuel Wg y.1 y.2 hB hy
     refine⟨el,by rw [hv.length,hl],hf,Cells.of_vals hv (fun j hj=>?_) h1,fun h0 pE=>?_⟩
     ·have:=(oC j (by omega)).1
      rwa [(n7 a _).1,(n7 a _).2] at this
     ·subst h0
      have:=(oC 0 pE).2 rfl
      simpa [Addr.add] using this
    obtain⟨els,hl,Eb⟩:=rF len key
    refine⟨[.fz els.flatten els.length false],⟨?_,trivial⟩,.inr ⟨els,rfl,by omega,fun el Nt=>?_⟩,by simp [Value.oneCell']⟩
    ·simp only [VR]
     refine⟨some a,cap,by rw [hl],by omega,by simp,.inl rfl,?_⟩
     by_cases KH:els.flatten=[]
     ·exact .inl KH
     ·have pE:0<len∧0<P.cellsOf e:=by
       cases els with
       | nil=>simp at KH
       | cons el els=>
        refine⟨by simp at hl; omega,?_⟩
        rcases Nat.eq_zero_or_pos (P.cellsOf e) with h0 | h0
        ·exfalso
         apply KH
         rw [List.flatten_eq_nil_iff]
         intro l pn
         obtain⟨i,hi⟩:=aav pn
         have:=(Eb i l hi).1
         exact Z6 (by omega)
        ·exact h0
      have JV:a.spot=none:=by
       cases els with
       | nil=>simp at hl; omega
       | cons el els=>exact (Eb 0 el rfl).2.2.2 rfl pE.2
      refine .inr ⟨a.block,a.off,?_,⟨fun id hl=>absurd hl (hnl id),fun h=>h.elim⟩,by simp,Cells.flatten els a.off fun i el hi=>⟨(Eb i el hi).1,(Eb i el hi).2.2.1⟩⟩
      cases a; simp at JV; subst JV; rfl
    ·obtain⟨i,hi⟩:=aav Nt
     exact⟨(Eb i el hi).1,(Eb i el hi).2.1⟩
   ·cases h
  ·
   rename_i fs
   simp only [ZF,beq_nat,decide_eq_true_eq,ZX] at hB
   obtain⟨⟨Qc,Qd⟩,Nu⟩:=hB
   simp only [DataW.trod,hu] at h
   split at h
   rotate_left
   ·cases h
   rename_i hlen
   rw [ZD] at h
   obtain⟨xs,hx,_⟩:=h
   obtain⟨ys,h1,h2,h3⟩:=rG (P:=P) (c:=c) (F:=Fits P m) (g:=fun t cs=>DataW.trod enc P c.w 0 sp held fuel t cs) (fun _ _ _ _ _ _=>trivial) fs.toList 0 cs xs Qc
    (fun f hf cs x hx _=>qH ya m f.type fuel cs x.1 x.2 (Nu f hf) hx) hx (by omega)
   have lG:(cs.drop 0).take ((fs.toList.map fun f=>P.cellsOf f.type).sum)=cs:=by
    rw [aam,←Qd,←hlen,aa9]
   rw [lG] at h1 h3
   exact⟨ys,h1,h2,h3⟩
def jW (P:Program)(t:TypeId)(xs:List AV):AV:=
 match P.underlying t with
 | some (.struct _)=>.agg xs
 | _=>xs.headD .any
def pR (P:Program)(m:Nat):List TypeId→List AV→Prop
 | [],[]=>True
 | t::ts,x::w0=>(∃xs,x=jW P t xs∧Fits P m t xs)∧pR P m ts w0
 | _,_=>False
theorem Ec {w:World}{m:Nat}{t:TypeId}{v:Value}{base:Nat}(hB:nz P m t=true)(hs:∀fs,P.underlying t≠some (.struct fs))(h:Value.okWide P w .any base t v):v.cells.toList=[v]:=by
 cases m with
 | zero=>simp [nz] at hB
 | succ m=>
 unfold nz at hB
 unfold Value.okWide at h
 cases hu:P.underlying t with
 | none=>rw [hu] at hB; cases hB
 | some td=>
 rw [hu] at hB h
 cases td<;>simp only at hB h<;>first
  | (cases hB; done)
  | (exact absurd hu (hs _))
  | (cases v<;>simp only [Cell.okWide,Cell.ok,hu] at h<;>first | (exact h.elim) | rfl | (simp [Value.cells]))
theorem FP (ya:∀id,c.h.get id=none){m:Nat}{t:TypeId}{v:Value}{d:DataW H}{ps:List MemPlace}{base:Nat}(hB:nz P m t=true)(ho:Value.okWide P c.w .any base t v)(h:DataW.Trod enc P c.w 0 sp held t v d ps) :
  ∃xs,Fits P m t xs∧VR c none0 (jW P t xs) v:=by
 obtain⟨fuel,h⟩:=h
 obtain⟨xs,h1,h2,_⟩:=qH ya m t fuel _ d ps hB h
 refine⟨xs,h2,?_⟩
 by_cases hs:∃fs,P.underlying t=some (.struct fs)
 ·obtain⟨fs,hs⟩:=hs
  unfold Value.okWide at ho
  rw [hs] at ho
  obtain⟨cs,rfl,_⟩:=ho
  unfold jW
  rw [hs]
  simp only [VR]
  exact⟨cs,rfl,h1⟩
 ·have JN:∀fs,P.underlying t≠some (.struct fs):=fun fs h=>hs ⟨fs,h⟩
  have hc:=Ec hB JN ho
  rw [hc] at h1
  have hx:jW P t xs=xs.headD .any:=by
   unfold jW
   split
   ·rename_i fs h; exact absurd h (JN fs)
   ·rfl
  rw [hx]
  cases xs with
  | nil=>exact h1.elim
  | cons x xs=>exact h1.1
theorem yM (ya:∀id,c.h.get id=none){m base:Nat}:∀(ts:List TypeId) (vs:List Value) (ds:List (DataW H)) (ps:List MemPlace),(∀t∈ts,nz P m t=true)→(∀(j:Nat) t v,ts[j]? = some t→vs[j]? = some v→Value.okWide P c.w .any base t v)→
  DataW.TrodAll enc P c.w 0 sp held ts vs ds ps→∃w0,pR P m ts w0∧VRs c none0 w0 vs
 | [],[],[],_,_,_,_=>⟨[],trivial,trivial⟩
 | t::ts,v::vs,d::ds,ps,hB,ho,h=>by
  obtain⟨p,q,h1,h2,_⟩:=h
  obtain⟨xs,h3,h4⟩:=FP ya (hB t (by simp)) (ho 0 t v rfl rfl) h1
  obtain⟨w0,h5,h6⟩:=yM ya ts vs ds q (fun t ht=>hB t (by simp [ht])) (fun j t v hj hv=>ho (j+1) t v (by simpa using hj) (by simpa using hv)) h2
  exact⟨jW P t xs::w0,⟨⟨xs,rfl,h3⟩,h5⟩,h4,h6⟩
 | [],[],_::_,_,_,_,h=>h.elim
 | [],_::_,_,_,_,_,h=>by cases h
 | _::_,[],_,_,_,_,h=>by cases h
 | _::_,_::_,[],_,_,_,h=>by cases h
theorem ld (hl:laidOutB P=true){W W':World}{TW:Nat→Bool}:∀{ts:List TypeId} {vs:List Value} {ds:List (DataW H)} {ps:List MemPlace},(∀t∈ts,P.readableRec t=true∧t<P.types.size)→
  DataW.TrodAll enc P W 0 (fun _=>true) true ts vs ds ps→(∀p∈ps,W.sameAt W' p)→(∀p∈ps,TW p.block=true)→DataW.TrodAll enc P W' 0 TW true ts vs ds ps
 | [],[],[],_,_,h,_,_=>h
 | t::ts,v::vs,d::ds,ps,hr,h,hs,hp=>by
  obtain⟨p,q,h1,h2,rfl⟩:=h
  exact⟨p,q,WideElems.Trod_stays hl (hr t (by simp)).1 (hr t (by simp)).2 h1 (fun x hx=>hs x (by simp [hx])) (fun x hx=>hp x (by simp [hx])),
   ld hl (fun t ht=>hr t (by simp [ht])) h2 (fun x hx=>hs x (by simp [hx])) (fun x hx=>hp x (by simp [hx])),rfl⟩
 | [],[],_::_,_,_,h,_,_=>h.elim
 | [],_::_,_,_,_,h,_,_=>by cases h
 | _::_,[],_,_,_,h,_,_=>by cases h
 | _::_,_::_,[],_,_,h,_,_=>by cases h
theorem Ed {f:Func}{s:ChangeSpec}{apart fresh handsOn again:Bool}{W W':World}{args:Array Value}{ds gs:List (DataW H)}{before:List MemPlace}{tb:TypeId}
  (hl:laidOutB P=true) (hr:∀t∈f.params.toList,P.readableRec t=true∧t<P.types.size) (hW:DataW.Whole enc P f.params.toList s.vars apart W args.toList ds gs before) (hv:s.vars=[])
  (FQ:f.resultTypes = #[tb]) (O7:P.underlying tb=some .bool) (Nv:(s.fn H (ds++gs))={results:=[.lit (.bool true)],args:=ds}) (hb:RowKit.Below W.heap.size W W') :
  s.post enc P f apart fresh handsOn again W args (.bool true) W':=by
 have hlt:=hW.lt
 have hW0:=hW
 obtain⟨p,q,hA,hV,TX,hz,hn⟩:=hW
 rw [hv] at hV
 have Qe:gs=[]∧q=[]:=by
  cases gs with
  | nil=>exact⟨rfl,hV⟩
  | cons g gs=>exact hV.elim
 obtain⟨rfl,rfl⟩:=Qe
 have Qf:before=p:=by simpa using TX
 subst Qf
 have JW:∀x∈before,W.sameAt W' x:=fun x hx=>hb.same (hlt x hx)
 have Nw:(Value.bool true).resultList f.resultTypes.size=[.bool true]:=by rw [FQ]; rfl
 have JX:∀(b:Nat) (sp:Nat→Bool) (hd:Bool),DataW.TrodAll enc P W' b sp hd f.resultTypes.toList ((Value.bool true).resultList f.resultTypes.size) [.lit (.bool true)] []:=by
  intro b sp hd
  rw [Nw,FQ]
  exact ChangeShapes.trodAll_mk1 (RowKit.shut_bool O7 true)
 refine⟨ds,[],before,[],before,[],hW0,?_,?_,?_,?_,fun _=>⟨?_,?_⟩⟩
 ·rw [Nv]; exact JX _ _ _
 ·rw [Nv]
  exact ld hl hr hA JW (fun x hx=>by simpa using hlt x hx)
 ·rw [Nv,hv]; rfl
 ·exact hb.frame _
 ·exact RowKit.ok_one FQ rfl (RowKit.okWide_bool_mk O7 true)
 ·refine⟨_,[],before,⟨[]++before,[],ChangeShapes.trodAll_append (ld hl hr hA JW (fun _ _=>rfl)) (JX 0 _ _),by rw [hv]; rfl,by simp,fun b off hx=>?_,hn⟩,fun p hp _=>hp⟩
  rw [hb.frozen (p:=⟨b,off,none⟩) (hlt _ hx)]
  exact hz b off hx
theorem Ext.below {c c':Cx}(e:Ext c none0 c' none0):RowKit.Below c.base c.w c'.w:=⟨e.os,e.tape,e.output,e.size,fun b hb=>e.exact b hb⟩
theorem uQ {cf:CallF}{AM:FuncId}{f:Func}{s:ChangeSpec}{apart fresh handsOn again:Bool}{m:Nat}{tb:TypeId}
  (hl:laidOutB P=true) (hr:∀t∈f.params.toList,P.readableRec t=true∧t<P.types.size) (hB:∀t∈f.params.toList,nz P m t=true) (hv:s.vars=[]) (FQ:f.resultTypes = #[tb]) (O7:P.underlying tb=some .bool)
  (Nv:∀ds:List (DataW H),ds.length=f.params.size→(s.fn H ds)={results:=[.lit (.bool true)],args:=ds})
  (hcf:∀w0,pR P m f.params.toList w0→∃cf h',CallOK P cf∧cf AM w0 bD=some (.bool true,h'))
  {W:World} {base:Nat} {args:Array Value} {ds gs:List (DataW H)} {before:List MemPlace} (eO:∀(j:Nat) t v,f.params[j]? = some t→args[j]? = some v→Value.okWide P W .any base t v)
  (hW:DataW.Whole enc P f.params.toList s.vars apart W args.toList ds gs before) :
  Calls P AM args W fun e W'=>∃v,e = .returned v∧s.post enc P f apart fresh handsOn again W args v W':=by
 have hW0:=hW
 obtain⟨p,q,hA,hV,TX,_,_⟩:=hW
 let c:Cx:=⟨fun _=>(0,0),bD,W,W.heap.size⟩
 obtain⟨w0,h1,h2⟩:=yM (c:=c) (P:=P) (m:=m) (base:=base) (fun _=>rfl) f.params.toList args.toList ds p hB (fun j t v hj hv=>eO j t v (by simpa using hj) (by simpa using hv)) hA
 obtain⟨cf,h',pq,Qg⟩:=hcf w0 h1
 have hnl:∀id,¬Live c.h id:=fun id hl=>by have:=hl.2; cases this
 have hcall:=(pq AM w0 bD _ _ Qg).2 none0 c args.toList rfl (ZI _) ⟨fun id o ho=>(by cases ho),fun id o ho=>(by cases ho),fun id _ hl _ _=>absurd hl (hnl id),fun id hl=>absurd hl (hnl id),fun b hb=>hb.elim,fun id hl=>absurd hl (hnl id),fun _=>aa1⟩ h2
 rw [Array.toArray_toList] at hcall
 have hlen:∀(ts:List TypeId) (vs:List Value) (ds:List (DataW H)) (p:List MemPlace),DataW.TrodAll enc P W 0 (fun _=>true) true ts vs ds p→ds.length=ts.length:=by
  intro ts
  induction ts with
  | nil=>intro vs ds p h; cases vs<;>cases ds<;>first | rfl | (cases h; done) | exact h.elim
  | cons t ts ih=>intro vs ds p h; cases vs<;>cases ds<;>first | (cases h; done) | (obtain⟨_,_,_,h2,_⟩:=h; simp [ih _ _ _ h2])
 have Qe:gs=[]:=by
  rw [hv] at hV
  cases gs with
  | nil=>rfl
  | cons g gs=>exact hV.elim
 refine hcall.mono ?_
 rintro e w' ⟨c',v,rfl,rfl,hh,BN,hrel,Ks⟩
 simp only [VR] at BN
 subst BN
 refine⟨_,rfl,Ed hl hr hW0 hv FQ O7 ?_ Ks.below⟩
 rw [Qe,aa2]
 exact Nv ds (by rw [hlen _ _ _ _ hA]; simp)
end
end Go.R
namespace Go.R
open Go
section
variable {P:Program}{cf:CallF}{aI ds:List Nat}{s:RS}{d:Option Tmp}{t:TypeId}{p:String}{a:Array Edge}{g:Option (Nat × Bool)}{ops:List Oper}{ρ:Nat→AV}{bx:Nat→Option (List AV)}{h:AHeap}
variable {A:b9}{m:Nat}{st:St}
end
end Go.R
namespace Go.R
open Go
def sub:List Nat→Code→Code
 | [],c=>c
 | 0::p,.seq a _=>sub p a
 | _::p,.seq _ b=>sub p b
 | 0::p,.cond _ a _=>sub p a
 | _::p,.cond _ _ b=>sub p b
 | _::p,.block _ a=>sub p a
 | _::p,.loop a=>sub p a
 | _,c=>c
def bZ (f:Func):Code:=f.body.getD .skip
end Go.R
namespace Go.R
open Go
section
variable (P:Program)
def bE (h:AHeap)(t:TypeId)(x:AV):Option AV:=kh P (fun _=>none) h t x
def jo (h:AHeap)(t:TypeId)(a x:AV):Option AHeap:=
 match a with
 | .ptr id off=>(h.get id).bind fun | .cells cs=>(ig P t cs off x).map fun fU=>h.put id (.cells fU) | _=>none
 | _=>none
def Ca (cf:CallF)(f:AV)(as:List AV)(h:AHeap):Option (AV × AHeap):=
 match f with
 | .fn f cap=>if as.all AV.kM then cf f (as++cap) h else none
 | _=>none
def yN (h:AHeap)(cs:List AV):Option (AV × AHeap):=if cs.all AV.cg then some (.ptr h.next 0,h.alloc (.cells cs)) else none
def Ee (aI:List Nat)(d:Option Nat):Bool:=match d with | some d=>!aI.contains d | none=>false
def FR (aI:List Nat)(h:AHeap)(o:Oper)(t:TypeId)(x:Option AV):Option (AV × AHeap):=
 x.bind fun x=>(oN P aI o t x).map fun (cs,n,z)=>(.rs h.next 0 n z,h.alloc (.cells cs))
def KI (e:Operand→AV)(h:AHeap)(o:Oper)(z:AV):Prop:=
 match o.op with
 | .move x | .assign x=>e x=z
 | .load t a=>bE P h t (e a)=some z
 | .binOp op t x y _=>ni P op t (e x) (e y)=some z
 | .unOp op _ x=>((e x).gO.bind fun a=>(iZ P (Op.unary op a)).bind pw)=some z
 | .convert a b x=>nh P h a b (e x)=some z
 | .slice t x lo hi mx=>lZ P t (e x) (lo.map e) (hi.map e) (mx.map e)=some z
 | .indexAddr t x i=>fJ P t (e x) (e i)=some z
 | .index t x i=>qo P t (e x) (e i)=some z
 | .lookup t m k ok=>fh P h t (e m) (e k) ok=some z
 | .call {callee:=.builtin .len,args,argTypes}=>match argTypes.toList,args.toList.map e with
  | [t],[x]=>sL P h t x=some z
  | _,_=>False
 | _=>False
def KJ (cf:CallF)(aI:List Nat)(e:Operand→AV)(h:AHeap)(o:Oper)(z:AV)(h':AHeap):Prop:=
 match o.op with
 | .store t a x=>bif o.dst.isSome then False else jo P h t (e a) (e x)=some h'
 | .alloc t=>bif Ee aI o.dst then (iS P t).bind (fun z=>yN h (Av aI o.dst z.cells))=some (z,h') else False
 | .box _ x=>bif Ee aI o.dst then yN h (e x).cells=some (z,h') else False
 | .buildSlice t n ps=>FR P aI h o t (hJ P t n (ps.toList.map fun (i,x)=>(i,e x)))=some (z,h')
 | .makeMap _ none=>(AV.mp h.next,h.alloc (.map []))=(z,h')
 | .makeSlice t l c=>hU P h t (e l) (e c)=some (z,h')
 | .mapUpdate t m k x | .insert t m k x=>bif o.dst.isSome then False else ij P h t (e m) (e k) (e x)=some h'
 | .call {callee:=.builtin .append,args,argTypes}=>match argTypes.toList,args.toList.map e with
  | [t,t2],[x,y]=>ei P h t t2 x y=some (z,h')
  | _,_=>False
 | .call {callee:=.builtin .copy,args,argTypes}=>match argTypes.toList,args.toList.map e with
  | [t,t2],[x,y]=>re P h t t2 x y=some (z,h')
  | _,_=>False
 | .call {callee:=.value f,args,..}=>bif MK aI o.dst then (Ca cf (e f) (args.toList.map e) h).bind (fun x=>jC 0 x.2 x.1)=some (z,h') else Ca cf (e f) (args.toList.map e) h=some (z,h')
 | .call {callee:=.builtin .clear,args,argTypes}=>match argTypes.toList,args.toList.map e with
  | [t],[x]=>(l8 P h t x).map (fun h=>(AV.tup [],h))=some (z,h')
  | _,_=>False
 | _=>False
end
abbrev IC:=List (Nat × AV × Option AHeap)
def rT (P:Program)(cf:CallF)(aI:List Nat)(ops:List Oper):RS→Nat→List Oper→IC→Option (List mO × RS × Prop)
 | s,_,[],[]=>some ([],s,True)
 | _,_,[],_::_=>none
 | s,i,o::os,zs=>
  (ik ops s.ρ o).bind fun w=>
   bif w then
    match zs with
    | []=>(wz P cf aI (ops.filterMap (·.dst)) s o).bind fun s1=>(rT P cf aI ops s1 (i+1) os []).map fun (l,r,p)=>({o,f:=bw aI (bX s.ρ) o,s,s':=s1}::l,r,p)
    | (j,z,oh)::vA=>
     bif aaj i j then
      match oh with
      | none=>(rT P cf aI ops (s.set o.dst z) (i+1) os vA).map fun (l,r,p)=>({o,f:=bw aI (bX s.ρ) o,s,s':=s.set o.dst z}::l,r,KI P (bX s.ρ) s.h o z∧p)
      | some h'=>(rT P cf aI ops (({s with h:=h'}:RS).set o.dst z) (i+1) os vA).map fun (l,r,p)=>({o,f:=bw aI (bX s.ρ) o,s,s':=({s with h:=h'}:RS).set o.dst z}::l,r,KJ P cf aI (bX s.ρ) s.h o z h'∧p)
     else (wz P cf aI (ops.filterMap (·.dst)) s o).bind fun s1=>(rT P cf aI ops s1 (i+1) os zs).map fun (l,r,p)=>({o,f:=bw aI (bX s.ρ) o,s,s':=s1}::l,r,p)
   else (rT P cf aI ops (s.set o.dst (.tup [])) (i+1) os zs).map fun (l,r,p)=>({o,f:={},s,s':=s.set o.dst (.tup [])}::l,r,p)
section
variable {P:Program}{cf:CallF}{aI:List Nat}
theorem FT {h:AHeap}{t:TypeId}{x z:AV}{bx:Nat→Option (List AV)}(hh:bE P h t x=some z):kh P bx h t x=some z:=by
 cases x<;>first | exact hh | (simp [bE,kh] at hh)
theorem ID {s:RS}{o:Oper}{z:AV}(h:KI P (bX s.ρ) s.h o z)(ds:List Nat):wz P cf aI ds s o=some (s.set o.dst z):=by
 unfold KI at h
 unfold wz Aw
 dsimp only
 split at h
 ·rename_i ho; rw [ho]; simp only [h]
 ·rename_i ho; rw [ho]; simp only [h]
 ·rename_i ho; rw [ho]; simp only [FT h,ZJ]
 ·rename_i ho; rw [ho]; simp only [h,ZJ]
 ·rename_i ho; rw [ho]; simp only [h,ZJ]
 ·rename_i ho; rw [ho]; simp only [h,ZJ]
 ·rename_i ho; rw [ho]; simp only [h,ZJ]
 ·rename_i ho; rw [ho]; simp only [h,ZJ]
 ·rename_i ho; rw [ho]; simp only [h,ZJ]
 ·rename_i ho; rw [ho]; simp only [h,ZJ]
 ·rename_i ho
  rw [ho]
  split at h
  ·rename_i h1 h2
   simp only [h1,h2,gC,h,ZJ]
  ·exact h.elim
 ·exact h.elim
theorem yO {s:RS}{o:Oper}{cs:List AV}{z:AV}{h':AHeap}(hn:Ee aI o.dst=true)(h:yN s.h cs=some (z,h'))(ds:List Nat):iO s aI ds o cs=some (({s with h:=h'}:RS).set o.dst z):=by
 unfold yN at h
 split at h
 rotate_left
 ·cases h
 rename_i pq
 simp only [ZE,ZL] at h
 obtain⟨rfl,rfl⟩:=h
 unfold iO
 rw [if_pos pq]
 unfold Ee at hn
 split at hn
 ·rename_i d hd
  rw [hd]
  have:aI.contains d=false:=by simpa using hn
  simp only [this,ZN,if_false]
 ·cases hn
theorem IE {s:RS}{o:Oper}{z:AV}{h':AHeap}(h:KJ P cf aI (bX s.ρ) s.h o z h')(ds:List Nat):wz P cf aI ds s o=some (({s with h:=h'}:RS).set o.dst z):=by
 unfold KJ at h
 unfold wz Aw
 dsimp only
 split at h
 ·rename_i t a x ho
  rw [ho]
  cases hd:o.dst with
  | some d=>rw [hd] at h; exact h.elim
  | none=>
   rw [hd] at h
   simp only [aaX,cond_false] at h
   simp only [aaX,ZN,if_false]
   unfold jo at h
   split at h
   ·rename_i id off he
    rw [he]
    simp only [ZC] at h ⊢
    obtain⟨ob,hob,h⟩:=h
    refine⟨ob,hob,?_⟩
    split at h
    ·rw [ZD] at h ⊢
     obtain⟨fU,hcs,rfl⟩:=h
     exact⟨fU,hcs,rfl⟩
    ·cases h
   ·cases h
 ·rename_i t ho
  rw [ho]
  cases hn:Ee aI o.dst with
  | false=>rw [hn] at h; exact h.elim
  | true=>
   rw [hn] at h
   simp only [cond_true,ZC] at h
   obtain⟨z0,h1,h2⟩:=h
   simp only [h1,ZB]
   exact yO hn h2 ds
 ·rename_i t x ho
  rw [ho]
  cases hn:Ee aI o.dst with
  | false=>rw [hn] at h; exact h.elim
  | true=>
   rw [hn] at h
   exact yO hn h ds
 ·rename_i t n ps ho
  rw [ho]
  unfold FR at h
  simp only [ZC,ZD] at h
  obtain⟨x,hx,⟨cs,k,q⟩,ht,he⟩:=h
  simp only [ZL] at he
  obtain⟨rfl,rfl⟩:=he
  simp only [hx,ZJ,qu,ht]
 ·rename_i ho
  rw [ho]
  simp only [ZL] at h
  obtain⟨rfl,rfl⟩:=h
  rfl
 ·rename_i ho; rw [ho]; simp only [h,ZJ]
 ·rename_i t m k x ho
  rw [ho]
  cases hd:o.dst with
  | some d=>rw [hd] at h; exact h.elim
  | none=>
   rw [hd] at h
   simp only [aaX,cond_false] at h
   simp only [aaX,ZN,if_false,h,ZJ]
   rfl
 ·rename_i t m k x ho
  rw [ho]
  cases hd:o.dst with
  | some d=>rw [hd] at h; exact h.elim
  | none=>
   rw [hd] at h
   simp only [aaX,cond_false] at h
   simp only [aaX,ZN,if_false,h,ZJ]
   rfl
 ·rename_i ho
  rw [ho]
  split at h
  ·rename_i h1 h2
   simp only [h1,h2,gC,h,ZJ]
  ·exact h.elim
 ·rename_i ho
  rw [ho]
  split at h
  ·rename_i h1 h2
   simp only [h1,h2,gC,h,ZJ]
  ·exact h.elim
 ·rename_i f args B4 ho
  rw [ho]
  have key:∀{x:AV × AHeap},Ca cf (bX s.ρ f) (args.toList.map (bX s.ρ)) s.h=some x→wv aI o.dst x=some (z,h')→
    (match bX s.ρ f with
     | .fn f cap=>if (args.toList.map (bX s.ρ)).all AV.kM then ((cf f (args.toList.map (bX s.ρ)++cap) s.h).bind (wv aI o.dst)).map fun (r,h)=>({s with h}:RS).set o.dst r else none
     | _=>none)=some (({s with h:=h'}:RS).set o.dst z):=by
   intro x hx hm
   unfold Ca at hx
   split at hx
   ·rename_i g cap he
    try rw [he]
    try dsimp only
    split at hx
    ·rename_i pq
     simp only [pq,if_true,hx,ZB,hm,ZJ]
    ·cases hx
   ·cases hx
  cases hm:MK aI o.dst with
  | false=>
   rw [hm,cond_false] at h
   exact key h (by unfold wv; rw [hm]; rfl)
  | true=>
   rw [hm,cond_true,ZC] at h
   obtain⟨x,h1,h2⟩:=h
   exact key h1 (by unfold wv; rw [hm,cond_true]; exact h2)
 ·rename_i ho
  rw [ho]
  split at h
  ·rename_i h1 h2
   rw [ZD] at h
   obtain⟨g,hg,he⟩:=h
   simp only [ZL] at he
   obtain⟨rfl,rfl⟩:=he
   simp only [h1,h2,gC,hg,ZJ]
  ·exact h.elim
 ·exact h.elim
theorem w5 {ops:List Oper}:∀{l:List Oper} {s r:RS} {i:Nat} {zs:IC} {es:List mO} {p:Prop},rT P cf aI ops s i l zs=some (es,r,p)→p→py P cf aI ops s l=some (es,r)∧rO P cf aI ops s l=some r
 | [],s,r,i,[],es,p,h,_=>by
  simp only [rT,ZE,ZL] at h
  obtain⟨rfl,rfl,rfl⟩:=h
  exact⟨rfl,rfl⟩
 | [],s,r,i,_::_,es,p,h,_=>by simp [rT] at h
 | o::os,s,r,i,zs,es,p,h,hp=>by
  simp only [rT,ZC] at h
  obtain⟨w,hw,h⟩:=h
  have fin:∀(s1:RS) (l:List mO) (vA:IC) (q:Prop),(if w then wz P cf aI (ops.filterMap (·.dst)) s o else some (s.set o.dst (.tup [])))=some s1→rT P cf aI ops s1 (i+1) os vA=some (l,r,q)→q→
    py P cf aI ops s (o::os)=some ({o,f:=if w then bw aI (bX s.ρ) o else {},s,s':=s1}::l,r)∧rO P cf aI ops s (o::os)=some r:=by
   intro s1 l vA q h1 h2 hq
   obtain⟨h3,h4⟩:=w5 h2 hq
   refine⟨?_,?_⟩
   ·simp only [py,hw,ZB,h1,h3,ZJ]
   ·simp only [rO,nj,hw,ZB,h1,h4]
  cases w with
  | false=>
   simp only [cond_false,ZD] at h
   obtain⟨⟨l,r',q⟩,h2,he⟩:=h
   simp only [ZL] at he
   obtain⟨rfl,rfl,rfl⟩:=he
   simpa using fin _ l zs q (by simp) h2 hp
  | true=>
   simp only [cond_true] at h
   split at h
   ·simp only [ZC,ZD] at h
    obtain⟨s1,h1,⟨l,r',q⟩,h2,he⟩:=h
    simp only [ZL] at he
    obtain⟨rfl,rfl,rfl⟩:=he
    simpa using fin _ l [] q (by simpa using h1) h2 hp
   ·rename_i j z oh vA
    cases hj:aaj i j with
    | false=>
     rw [hj] at h
     simp only [cond_false,ZC,ZD] at h
     obtain⟨s1,h1,⟨l,r',q⟩,h2,he⟩:=h
     simp only [ZL] at he
     obtain⟨rfl,rfl,rfl⟩:=he
     simpa using fin _ l _ q (by simpa using h1) h2 hp
    | true=>
     rw [hj] at h
     simp only [cond_true] at h
     split at h
     ·simp only [ZD] at h
      obtain⟨⟨l,r',q⟩,h2,he⟩:=h
      simp only [ZL] at he
      obtain⟨rfl,rfl,rfl⟩:=he
      simpa using fin _ l _ q (by simpa using ID hp.1 _) h2 hp.2
     ·simp only [ZD] at h
      obtain⟨⟨l,r',q⟩,h2,he⟩:=h
      simp only [ZL] at he
      obtain⟨rfl,rfl,rfl⟩:=he
      simpa using fin _ l _ q (by simpa using IE hp.1 _) h2 hp.2
end
def rU (s:RS):List (Nat × Option Nat × Nat)→List (AV × AHeap)→Option (RS × Prop)
 | [],_=>some (s,True)
 | (t,i,k)::ps,zs=>
  match i with
  | none=>
   match k,s.ρ t,zs with
   | 0,.rs id off n z,(y,h')::vA=>(rU {s with h:=h',ρ:=fun u=>bif aaj u t then y else s.ρ u} ps vA).map fun (r,p)=>(r,jC 0 s.h (.rs id off n z)=some (y,h')∧p)
   | k,x,zs=>(jC k s.h x).bind fun (y,h')=>rU {s with h:=h',ρ:=fun u=>bif aaj u t then y else s.ρ u} ps zs
  | some i=>
   match s.bx t with
   | some cs=>(cs[i]?).bind fun x=>
    match k,x,zs with
    | 0,.rs id off n z,(y,h')::vA=>(rU {s with h:=h',bx:=fun u=>bif aaj u t then some (cs.set i y) else s.bx u} ps vA).map fun (r,p)=>(r,jC 0 s.h (.rs id off n z)=some (y,h')∧p)
    | k,x,zs=>(jC k s.h x).bind fun (y,h')=>rU {s with h:=h',bx:=fun u=>bif aaj u t then some (cs.set i y) else s.bx u} ps zs
   | none=>none
theorem ss:∀{ps:List (Nat × Option Nat × Nat)} {s r:RS} {zs:List (AV × AHeap)} {p:Prop},rU s ps zs=some (r,p)→p→ly s ps=some r
 | [],s,r,zs,p,h,_=>by
  simp only [rU,ZE,ZL] at h
  obtain⟨rfl,rfl⟩:=h
  rfl
 | (t,i,k)::ps,s,r,zs,p,h,hp=>by
  cases i with
  | none=>
   have fin:∀(y:AV) (h':AHeap) (vA:List (AV × AHeap)) (q:Prop),jC k s.h (s.ρ t)=some (y,h')→rU {s with h:=h',ρ:=fun u=>bif aaj u t then y else s.ρ u} ps vA=some (r,q)→q→ly s ((t,none,k)::ps)=some r:=by
    intro y h' vA q h1 h2 hq
    simp only [ly,wC,h1,ZJ,ZB]
    exact ss h2 hq
   simp only [rU] at h
   split at h
   ·rename_i id off n z y h' vA hx
    rw [ZD] at h
    obtain⟨⟨r',q⟩,h2,he⟩:=h
    simp only [ZL] at he
    obtain⟨rfl,rfl⟩:=he
    exact fin y h' vA q (by rw [hx]; exact hp.1) h2 hp.2
   ·rw [ZC] at h
    obtain⟨⟨y,h'⟩,h1,h2⟩:=h
    exact fin y h' _ p h1 h2 hp
  | some i=>
   simp only [rU] at h
   split at h
   rotate_left
   ·cases h
   rename_i cs hcs
   rw [ZC] at h
   obtain⟨x,hx,h⟩:=h
   have fin:∀(y:AV) (h':AHeap) (vA:List (AV × AHeap)) (q:Prop),jC k s.h x=some (y,h')→rU {s with h:=h',bx:=fun u=>bif aaj u t then some (cs.set i y) else s.bx u} ps vA=some (r,q)→q→ly s ((t,some i,k)::ps)=some r:=by
    intro y h' vA q h1 h2 hq
    simp only [ly,wC,hcs,hx,ZB,h1,ZJ]
    exact ss h2 hq
   split at h
   ·rename_i id off n z y h' vA
    rw [ZD] at h
    obtain⟨⟨r',q⟩,h2,he⟩:=h
    simp only [ZL] at he
    obtain⟨rfl,rfl⟩:=he
    exact fin y h' vA q hp.1 h2 hp.2
   ·rw [ZC] at h
    obtain⟨⟨y,h'⟩,h1,h2⟩:=h
    exact fin y h' _ p h1 h2 hp
def mO.su (x y:mO):Bool:=
 (match x.f.wb with
  | some k=>!y.f.rb.contains k&&y.f.wb != some k
  | none=>true) &&
 (!x.f.wh||(!y.f.wh&&y.f.rh.isEmpty))
def FU (ops:List Oper)(arr:Array Oper)(s:RS)(es:List mO):Bool:=
 let ms:=jO [] ops
 nX arr ms &&
  (let is:=es.zipIdx
   let wB:=is.filter fun (x,_)=>!x.f.quiet
   wB.all (fun (x,i)=>sm ms (ops.filterMap (·.dst)) s is x i&&wB.all fun (y,j)=>aaZ j i||(ms.getD j 0).testBit i||(x.su y&&y.su x)))
theorem tv {x y:mO}(h:x.su y=true):x.jN y=true:=by
 unfold mO.su at h
 unfold mO.jN
 simp only [ZF,aar] at h ⊢
 refine⟨h.1,h.2.imp id fun ⟨h1,h2⟩=>⟨h1,?_⟩⟩
 rw [List.isEmpty_iff] at h2
 rw [h2]; rfl
theorem IF {P:Program}{cf:CallF}{aI:List Nat}{ops:Array Oper}{s r:RS}{es:List mO}(h:FU ops.toList ops s es=true)(hr:py P cf aI ops.toList s ops.toList=some (es,r)):ki P cf aI ops s=some r:=by
 unfold FU at h
 simp only [ZF] at h
 obtain⟨h1,h2⟩:=h
 unfold ki
 simp only [h1,if_true,hr,ZB]
 rw [if_pos]
 rw [ZX] at h2 ⊢
 intro x hx
 have:=h2 x hx
 simp only [ZF] at this ⊢
 refine⟨this.1,?_⟩
 have h3:=this.2
 rw [ZX] at h3 ⊢
 intro y hy
 have:=h3 y hy
 simp only [aar,ZF] at this ⊢
 exact this.imp id fun h=>⟨tv h.1,tv h.2⟩
def oF (P:Program)(cf:CallF)(A:b9)(c:Code)(fs:List (AV × AHeap))(zs:IC)(st:St):Option (Prop × St):=
 match c with
 | .region id ops draw=>(rU (st.open A) (gG id A.If) fs).bind fun (s0,p0)=>(rT P cf A.aI ops.toList s0 0 ops.toList zs).bind fun (es,r,p)=>
   bif draw && !(FU ops.toList ops s0 es) then none else (ly r (gG id A.Ax)).map fun r2=>(p0∧p,r2.nk A id)
 | _=>none
theorem FV {P:Program}{cf:CallF}{A:b9}{m:Nat}{c:Code}{fs:List (AV × AHeap)}{zs:IC}{st jV:St}{p:Prop}(h:oF P cf A c fs zs st=some (p,jV))(hp:p):bV P cf A m c st=some (.norm,jV):=by
 unfold oF at h
 split at h
 rotate_left
 ·cases h
 rename_i id ops draw
 simp only [ZC] at h
 obtain⟨⟨s0,p0⟩,h0,⟨es,r,q⟩,h1,h⟩:=h
 have hd:∃r2,(draw=true→FU ops.toList ops s0 es=true)∧ly r (gG id A.Ax)=some r2∧p=(p0∧q)∧jV=r2.nk A id:=by
  cases hc:(draw && !(FU ops.toList ops s0 es)) with
  | true=>simp only [hc,cond_true] at h; cases h
  | false=>
   simp only [hc,cond_false,ZD,ZL] at h
   obtain⟨r2,h2,h3,h4⟩:=h
   refine⟨r2,fun D5=>?_,h2,h3.symm,h4.symm⟩
   simpa [D5] using hc
 obtain⟨r2,D5,h2,rfl,rfl⟩:=hd
 obtain⟨g1,g2⟩:=w5 h1 hp.2
 have g0:=ss h0 hp.1
 simp only [bV,g0,ZB]
 cases draw with
 | false=>simp only [ZN,if_false,g2,ZB,h2,ZJ]
 | true=>simp only [if_true,IF (D5 rfl) g1,ZB,h2,ZJ]
end Go.R
namespace Go.R
open Go
def dK (P:Program)(cf:CallF)(A:b9)(m:Nat)(c:Code)(s:St)(Q:Ex→St→Prop):Prop:=∃e s',bV P cf A m c s=some (e,s')∧Q e s'
def KK (R:St→Prop)(Q:Ex→St→Prop):Ex→St→Prop
 | .norm,s=>R s
 | .exit i,s=>Q (.exit i) s
 | .ret,s=>Q .ret s
def Qh (id:Nat)(Q:Ex→St→Prop):Ex→St→Prop
 | .norm,s=>Q .norm s
 | .exit i,s=>bif aaj i id then Q .norm s else Q (.exit i) s
 | .ret,s=>Q .ret s
section
variable {P:Program}{cf:CallF}{A:b9}{m:Nat}{s:St}{Q:Ex→St→Prop}
theorem yP {a b:Code}(h:dK P cf A m a s (KK (fun s'=>dK P cf A m b s' Q) Q)):dK P cf A m (.seq a b) s Q:=by
 obtain⟨e,s',h1,h2⟩:=h
 cases e with
 | norm=>
  obtain⟨e2,s2,h3,h4⟩:=h2
  exact⟨e2,s2,by simp only [bV,h1,ZB,h3],h4⟩
 | exit i=>exact⟨_,s',by simp only [bV,h1,ZB],h2⟩
 | ret=>exact⟨_,s',by simp only [bV,h1,ZB],h2⟩
theorem AT {id:Nat}{a:Code}(h:dK P cf A m a s (Qh id Q)):dK P cf A m (.block id a) s Q:=by
 obtain⟨e,s',h1,h2⟩:=h
 cases e with
 | norm=>exact⟨_,s',by simp only [bV,h1,ZJ],h2⟩
 | exit i=>
  simp only [Qh,beq_nat] at h2
  by_cases hi:i=id
  ·simp only [hi,decide_true,cond_true] at h2
   exact⟨_,s',by simp only [bV,h1,ZJ,hi,if_true],h2⟩
  ·simp only [hi,decide_false,cond_false] at h2
   exact⟨_,s',by simp only [bV,h1,ZJ,hi,if_false],h2⟩
 | ret=>exact⟨_,s',by simp only [bV,h1,ZJ],h2⟩
theorem FW {c:Code}{fs:List (AV × AHeap)}{zs:IC}{jV:St}{p:Prop}(h:oF P cf A c fs zs s=some (p,jV))(hp:p)(hQ:Q .norm jV):dK P cf A m c s Q:=
 ⟨_,_,FV h hp,hQ⟩
theorem Ef (h:Q .norm s):dK P cf A m .skip s Q:=⟨_,_,rfl,h⟩
theorem FX (h:Q .ret s):dK P cf A m .ret s Q:=⟨_,_,rfl,h⟩
theorem Eg {i:Nat}(h:Q (.exit i) s):dK P cf A m (.exit i) s Q:=⟨_,_,rfl,h⟩
theorem qI {k:Operand}{x y:Code}(b:Bool)(hk:bX (s.open A).ρ k = .bool b)(ht:b=true→dK P cf A m x s Q)(hf:b=false→dK P cf A m y s Q):dK P cf A m (.cond k x y) s Q:=by
 cases b with
 | true=>
  obtain⟨e,s',h1,h2⟩:=ht rfl
  exact⟨e,s',by simp only [bV,hk,sN,ZB,if_true,h1],h2⟩
 | false=>
  obtain⟨e,s',h1,h2⟩:=hf rfl
  exact⟨e,s',by simp only [bV,hk,sN,ZB,ZN,if_false,h1],h2⟩
def FY {S O:Type}(l:Nat→S→Option O)(Rel:S→St→Prop)(QO:O→Ex→St→Prop)(k:Nat)(out:O):Ex→St→Prop
 | .norm,s=>∃σ,Rel σ s∧l k σ=some out
 | .exit i,s=>QO out (.exit i) s
 | .ret,s=>QO out .ret s
theorem tw {S O:Type}{l:Nat→S→Option O}{Rel:S→St→Prop}{QO:O→Ex→St→Prop}{body:Code}(h0:∀σ,l 0 σ=none)
  (step:∀k σ s out,Rel σ s→l (k+1) σ=some out→dK P cf A m body s (FY l Rel QO k out)):∀(n:Nat) (σ:S) (s:St) (out:O),Rel σ s→l n σ=some out→∃e s',lz (bV P cf A m body) n s=some (e,s')∧e≠.norm∧QO out e s'
 | 0,σ,s,out,_,h=>by rw [h0] at h; cases h
 | n+1,σ,s,out,hr,h=>by
  obtain⟨e,s',h1,h2⟩:=step n σ s out hr h
  cases e with
  | norm=>
   obtain⟨σ',h3,h4⟩:=h2
   obtain⟨e',Wh,h5,h6⟩:=tw h0 step n σ' s' out h3 h4
   exact⟨e',Wh,by simp only [lz,h1,ZB,h5],h6⟩
  | exit i=>exact⟨_,s',by simp only [lz,h1,ZB],by simp,h2⟩
  | ret=>exact⟨_,s',by simp only [lz,h1,ZB],by simp,h2⟩
theorem Eh {S O:Type}(l:Nat→S→Option O)(Rel:S→St→Prop)(QO:O→Ex→St→Prop){body:Code}(h0:∀σ,l 0 σ=none)
  (step:∀k σ s out,Rel σ s→l (k+1) σ=some out→dK P cf A m body s (FY l Rel QO k out)) {σ:S} {out:O} (hr:Rel σ s) (h:l m σ=some out) (hQ:∀e s',e≠.norm→QO out e s'→Q e s'):dK P cf A m (.loop body) s Q:=by
 obtain⟨e,s',h1,h2,h3⟩:=tw h0 step m σ s out hr h
 exact⟨e,s',by simp only [bV,h1],hQ e s' h2 h3⟩
theorem w6 {aY:FuncId→b9}{f:FuncId}{fn:Func}{args:List AV}{h:AHeap}{R:AV→AHeap→Prop}(hf:P.funcs[f]? = some fn)(hb:fn.body=some (bZ fn))(hn:aaZ args.length fn.ntmps=true)
  (he:dK P cf (aY f) m (bZ fn) ⟨nl (aY f).keep args,(aY f).aI.map fun _=>none,h⟩ (fun e s=>(e = .ret∨e = .norm)∧∃r,aO P (s.open (aY f)) fn.results.toList=some r∧R r s.h)) :
  ∃r h',bf P aY cf m f args h=some (r,h')∧R r h':=by
 obtain⟨e,s,h1,h2,r,h3,h4⟩:=he
 refine⟨r,s.h,?_,h4⟩
 unfold bf
 rw [hf,ZB,hb,ZB,if_pos (Nat.le_of_ble_eq_true hn),h1,ZB]
 rcases h2 with rfl | rfl<;>simp only [h3,ZJ]
end
end Go.R
namespace Go.R
open Go
structure bQ (α:Type) where
 n:Nat
 f:α→List AV
 len:∀a,(f a).length=n
 pos:n≠0
 small:n≤1024:=by decide
 flat:Bool:=true
 pure:∀a,flat=true→dq (f a)=true∧dX (f a)=f a
 canon:∀a,(f a).map kg=f a
section
variable {α:Type}(E:bQ α)
def bQ.l (l:List α):List AV:=l.flatMap E.f
def bQ.fz (l:List α):AV:=.fz (E.l l) l.length false
variable {E}
theorem bQ.fB {a:α}{l:List α}:E.l (a::l)=E.f a++E.l l:=rfl
theorem bQ.JY:E.l []=[]:=rfl
theorem bQ.iG {a b:List α}:E.l (a++b)=E.l a++E.l b:=by simp [bQ.l]
theorem bQ.bW:∀{l:List α},(E.l l).length=l.length*E.n
 | []=>by simp [bQ.l]
 | a::l=>by rw [bQ.fB,ZM,E.len,bQ.bW,ZU,aaN,Nat.one_mul,aa7]
theorem bQ.n9 {l:List α}(h:l.length≤1099511627776):(E.l l).length≤1125899906842624:=by
 rw [bQ.bW]
 exact aap (Nat.mul_le_mul h E.small) (by decide)
theorem bQ.w7:∀{l:List α} {i:Nat},(E.l l).drop (i*E.n)=E.l (l.drop i)
 | l,0=>by simp
 | [],i+1=>by simp [bQ.l]
 | a::l,i+1=>by
  rw [List.drop_succ_cons,←bQ.w7,bQ.fB,aaN,Nat.one_mul,List.drop_append,List.drop_of_length_le (by rw [E.len]; omega),aal,E.len,Nat.add_sub_cancel]
theorem bQ.FZ:∀{l:List α} {i:Nat},(E.l l).take (i*E.n)=E.l (l.take i)
 | l,0=>by simp [bQ.l]
 | [],i+1=>by simp [bQ.l]
 | a::l,i+1=>by
  rw [bQ.fB,List.take_succ_cons,bQ.fB,aaN,Nat.one_mul,aa7,List.take_append]
  rw [E.len,aae (by rw [E.len]; omega),aaE,bQ.FZ]
theorem bQ.JZ {l:List α}{i:Nat}{a:α}(h:l[i]? = some a){off:Nat}(ho:off<E.n):(E.l l)[i*E.n+off]? = (E.f a)[off]?:=by
 rw [←List.getElem?_drop,bQ.w7,ZP (ZH.1 h).1,(ZH.1 h).2,bQ.fB,ZS (by rw [E.len]; exact ho)]
theorem bQ.F0 {l:List α}{i:Nat}{a:α}(h:l[i]? = some a):((E.l l).drop (i*E.n)).take E.n=E.f a:=by
 rw [bQ.w7,ZP (ZH.1 h).1,(ZH.1 h).2,bQ.fB,Z9 (by rw [E.len]; exact ZI _)]
 rw [aae (by rw [E.len]; exact ZI _)]
theorem bQ.AU {l:List α}{i:Nat}{a:α}(h:l[i]? = some a):i*E.n+E.n≤(E.l l).length:=by
 rw [bQ.bW]
 have:=(ZH.1 h).1
 calc i*E.n+E.n=(i+1)*E.n:=by rw [aaN,Nat.one_mul]
  _≤_:=aay _ this
theorem pS:∀{a b:List AV},dq (a++b)=(dq a&&dq b)
 | [],b=>by simp [dq]
 | x::a,b=>by simp [dq,pS,Bool.and_assoc]
theorem pU:∀{a b:List AV},dX (a++b)=dX a++dX b
 | [],b=>rfl
 | x::a,b=>by simp [dX,pU]
theorem bQ.oX (hp:E.flat=true):∀{l:List α},dq (E.l l)=true∧dX (E.l l)=E.l l
 | []=>⟨rfl,rfl⟩
 | a::l=>by
  obtain⟨h1,h2⟩:=E.pure a hp
  obtain⟨h3,h4⟩:=bQ.oX hp (l:=l)
  rw [bQ.fB,pS,pU,h1,h2,h3,h4]
  exact⟨rfl,rfl⟩
theorem bQ.w8:∀{l:List α},(E.l l).map kg=E.l l
 | []=>rfl
 | a::l=>by rw [bQ.fB,Z7,E.canon,bQ.w8]
theorem bQ.bA {l:List α}(hp:E.flat=true:=by rfl):(E.fz l).eT=true∧(E.fz l).jM=E.fz l:=by
 obtain⟨h1,h2⟩:=bQ.oX (E:=E) hp (l:=l)
 exact⟨h1,by show AV.fz (dX (E.l l)) l.length false=_; rw [h2]; rfl⟩
theorem iH:∀(cs vs pre KL:List AV),cs.length=vs.length→dQ (pre++cs++KL) pre.length vs=pre++vs++KL
 | [],[],pre,KL,_=>by simp [dQ]
 | c::cs,v::vs,pre,KL,h=>by
  have:=iH cs vs (pre++[v]) KL (by simpa using h)
  simp only [ZM,ZU,Z8,Z2] at this
  rw [dQ]
  have h2:(pre++c::cs++KL).set pre.length v=pre++[v]++cs++KL:=by
   rw [ZV,aaO _ _ (ZI _),aaJ]
   simp
  rw [h2,this]
  simp
 | [],_::_,_,_,h=>by simp at h
 | _::_,[],_,_,h=>by simp at h
theorem bQ.Nx {l:List α}{i:Nat}{a b:α}(h:l[i]? = some a)(rest:List AV):dQ (E.l l++rest) (i*E.n) (E.f b)=E.l (l.set i b)++rest:=by
 have hi:=(ZH.1 h).1
 have hl:l=l.take i++a::l.drop (i+1):=by
  conv=>lhs; rw [←aaP i l,ZP hi]
  rw [(ZH.1 h).2]
 have hs:l.set i b=l.take i++b::l.drop (i+1):=List.set_eq_take_append_cons_drop .. |>.trans (by rw [if_pos hi])
 have e1:E.l l=E.l (l.take i)++E.f a++E.l (l.drop (i+1)):=by
  conv=>lhs; rw [hl]
  rw [bQ.iG,bQ.fB,ZV]
 have e2:(E.l (l.take i)).length=i*E.n:=by rw [bQ.bW,aaw,aa0 (Nat.le_of_lt hi)]
 rw [hs,bQ.iG,bQ.fB,e1,←e2]
 have:=iH (E.f a) (E.f b) (E.l (l.take i)) (E.l (l.drop (i+1))++rest) (by rw [E.len,E.len])
 simp only [ZV] at this ⊢
 exact this
theorem bQ.KM {l:List α}{i:Nat}{a b:α}{off:Nat}{v:AV}(h:l[i]? = some a)(ho:off<E.n)(hb:(E.f a).set off v=E.f b)(rest:List AV):(E.l l++rest).set (i*E.n+off) v=E.l (l.set i b)++rest:=by
 have hi:=(ZH.1 h).1
 have hl:l=l.take i++a::l.drop (i+1):=by
  conv=>lhs; rw [←aaP i l,ZP hi]
  rw [(ZH.1 h).2]
 have hs:l.set i b=l.take i++b::l.drop (i+1):=List.set_eq_take_append_cons_drop .. |>.trans (by rw [if_pos hi])
 have e1:E.l l=E.l (l.take i)++(E.f a++E.l (l.drop (i+1))):=by
  conv=>lhs; rw [hl]
  rw [bQ.iG,bQ.fB]
 have e2:(E.l (l.take i)).length=i*E.n:=by rw [bQ.bW,aaw,aa0 (Nat.le_of_lt hi)]
 rw [hs,bQ.iG,bQ.fB,e1,←hb,←e2]
 simp only [ZV]
 rw [aaO _ _ (by omega),List.set_append_left _ _ (by rw [E.len]; omega)]
 congr 2
 simp
end
def ix {α:Type}(l:List α)(i:Int):Option α:=if 0≤i then l[i.toNat]? else none
theorem iq {α:Type}{l:List α}{i:Int}{a:α}(h:ix l i=some a):0≤i∧i<l.length∧l[i.toNat]? = some a:=by
 unfold ix at h
 split at h
 ·rename_i h0
  have:=(ZH.1 h).1
  exact⟨h0,by omega,h⟩
 ·cases h
def J0 {α:Type}(l:List α)(lo hi:Int):Option (List α):=if 0≤lo∧lo≤hi∧hi≤l.length then some ((l.drop lo.toNat).take (hi.toNat - lo.toNat)) else none
theorem yQ {α:Type}{l r:List α}{lo hi:Int}(h:J0 l lo hi=some r):0≤lo∧lo≤hi∧hi≤l.length∧r=(l.drop lo.toNat).take (hi.toNat - lo.toNat):=by
 unfold J0 at h
 split at h
 ·rename_i h0; cases h; exact⟨h0.1,h0.2.1,h0.2.2,rfl⟩
 ·cases h
def bt (s:ByteArray)(i:Int):Option Int:=if 0≤i then (s.data.toList[i.toNat]?).map fun b=>(b.toNat:Int) else none
inductive Ct where
 | sl (n sz:Nat) (cs:List AV)
 | ob (cs:List AV)
 | mp (es:List (AV × AV))
 | row (e:TypeId) (cs:List AV)
def Ei (h:AHeap)(i:Nat):Ct→Prop
 | .sl n sz cs=>(cs.length=n*sz∧cs.length≤1125899906842624)∧((i=0∧n=0)∨(i≠0∧∃rest,h.get i=some (.cells (cs++rest))))
 | .ob cs=>i≠0∧h.get i=some (.cells cs)
 | .mp es=>i≠0∧h.get i=some (.map es)
 | .row e cs=>i≠0∧h.get i=some (.row e cs)
abbrev Mem:=List (Nat × Ct)
structure Has (h:AHeap)(K:Mem):Prop where
 at_:∀(j i:Nat) (c:Ct),K[j]? = some (i,c)→Ei h i c∧i<h.next
 nd:∀(j j' i:Nat) (c c':Ct),K[j]? = some (i,c)→K[j']? = some (i,c')→i≠0→j=j'
 pos:0<h.next
theorem oY {h h':AHeap}{i:Nat}{c:Ct}(hg:i≠0→h'.get i=h.get i)(h1:Ei h i c):Ei h' i c:=by
 cases c with
 | sl n sz cs=>
  obtain⟨h2,h3⟩:=h1
  refine⟨h2,h3.imp id fun ⟨h4,r,h5⟩=>⟨h4,r,(hg h4).trans h5⟩⟩
 | ob cs=>exact⟨h1.1,(hg h1.1).trans h1.2⟩
 | mp es=>exact⟨h1.1,(hg h1.1).trans h1.2⟩
 | row e cs=>exact⟨h1.1,(hg h1.1).trans h1.2⟩
theorem dB (h:AHeap)(id k:Nat)(o:AObj):(h.put id o).get k=if k=id then some o else h.get k:=by
 simp only [AHeap.put,beq_nat]
 by_cases hk:k=id<;>simp [hk]
theorem yR (h:AHeap)(id k:Nat):(h.kill id).get k=if k=id then none else h.get k:=by
 simp only [AHeap.kill,beq_nat]
 by_cases hk:k=id<;>simp [hk]
theorem Has.F3 {h h':AHeap}{K:Mem}(o:Has h K){j i:Nat}{c:Ct}(hj:K[j]? = some (i,c)){i':Nat}{c':Ct}
  (hg:∀k,k≠i→k<h.next→h'.get k=h.get k) (hn:h.next≤h'.next) (hi:i'=i∨i'=0∨h.next≤i') (hlt:i'<h'.next) (hc:Ei h' i' c'):Has h' (K.set j (i',c')):=by
 refine⟨fun q k d hq=>?_,fun q q' k d d' hq wK hk=>?_,Z4 o.pos hn⟩
 ·rw [aa4] at hq
  by_cases h1:j=q
  ·subst h1
   rw [if_pos rfl] at hq
   split at hq
   ·cases hq; exact⟨hc,hlt⟩
   ·cases hq
  ·rw [if_neg h1] at hq
   obtain⟨g1,g2⟩:=o.at_ q k d hq
   refine⟨oY (fun hk=>hg k (fun he=>?_) g2) g1,Z4 g2 hn⟩
   subst he
   exact h1 (o.nd j q k c d hj hq hk)
 ·rw [aa4] at hq wK
  have old:∀(q:Nat) (d:Ct),j≠q→K[q]? = some (k,d)→k≠i':=by
   intro x y hne hx he
   rcases hi with h1 | h1 | h1
   ·exact hne (o.nd j x k c y (by rw [he,h1]; exact hj) hx hk)
   ·exact hk (he.trans h1)
   ·have:=(o.at_ x k y hx).2; omega
  by_cases h1:j=q<;>by_cases h2:j=q'
  ·rw [←h1,h2]
  ·subst h1
   rw [if_pos rfl] at hq
   rw [if_neg h2] at wK
   split at hq
   ·cases hq; exact absurd rfl (old q' d' h2 wK)
   ·cases hq
  ·subst h2
   rw [if_pos rfl] at wK
   rw [if_neg h1] at hq
   split at wK
   ·cases wK; exact absurd rfl (old q d h1 hq)
   ·cases wK
  ·rw [if_neg h1] at hq; rw [if_neg h2] at wK
   exact o.nd q q' k d d' hq wK hk
theorem Has.new {h h':AHeap}{K:Mem}(o:Has h K){i:Nat}{c:Ct}(hg:∀k,k<h.next→h'.get k=h.get k)(hn:h.next≤h'.next)(hi:i=0∨h.next≤i)(hlt:i<h'.next)(hc:Ei h' i c):Has h' ((i,c)::K):=by
 refine⟨fun q k d hq=>?_,fun q q' k d d' hq wK hk=>?_,Z4 o.pos hn⟩
 ·cases q with
  | zero=>simp only [aag,ZE,ZL] at hq; obtain⟨rfl,rfl⟩:=hq; exact⟨hc,hlt⟩
  | succ q=>
   simp only [aaK] at hq
   obtain⟨g1,g2⟩:=o.at_ q k d hq
   exact⟨oY (fun _=>hg k g2) g1,Z4 g2 hn⟩
 ·have old:∀(q:Nat) (d:Ct),K[q]? = some (k,d)→k≠i:=by
   intro x y hx he
   rcases hi with h1 | h1
   ·exact hk (he.trans h1)
   ·have:=(o.at_ x k y hx).2; omega
  cases q with
  | zero=>
   simp only [aag,ZE,ZL] at hq
   cases q' with
   | zero=>rfl
   | succ q'=>exact absurd hq.1.symm (old q' d' (by simpa using wK))
  | succ q=>
   cases q' with
   | zero=>
    simp only [aag,ZE,ZL] at wK
    exact absurd wK.1.symm (old q d (by simpa using hq))
   | succ q'=>rw [o.nd q q' k d d' (by simpa using hq) (by simpa using wK) hk]
theorem Has.nil {h:AHeap}{K:Mem}(o:Has h K)(sz:Nat):Has h ((0,.sl 0 sz [])::K):=
 o.new (fun _ _=>rfl) (ZI _) (.inl rfl) o.pos ⟨⟨by simp,by simp⟩,.inl ⟨rfl,rfl⟩⟩
theorem Has.sub {h:AHeap}{K K':Mem}(o:Has h K)(f:Nat→Nat)(hf:∀j p,K'[j]? = some p→K[f j]? = some p)(hi:∀j j',f j=f j'→j=j'):Has h K':=
 ⟨fun j i c hj=>o.at_ (f j) i c (hf j _ hj),fun j j' i c c' hj Ag hk=>hi _ _ (o.nd (f j) (f j') i c c' (hf j _ hj) (hf j' _ Ag) hk),o.pos⟩
theorem Has.del {h:AHeap}{K:Mem}(o:Has h K)(q:Nat):Has h (K.eraseIdx q):=
 o.sub (fun j=>if j<q then j else j+1) (fun j p hj=>by
  rw [List.getElem?_eraseIdx] at hj
  split at hj
  ·rename_i h1; simpa [h1] using hj
  ·rename_i h1; simpa [h1] using hj) (fun j j' he=>by
   split at he<;>split at he<;>omega)
theorem Has.front {h:AHeap}{K:Mem}(o:Has h K)(q:Nat){p:Nat × Ct}(hq:K[q]? = some p):Has h (p::K.eraseIdx q):=
 o.sub (fun j=>match j with | 0=>q | j+1=>if j<q then j else j+1) (fun j p' hj=>by
  cases j with
  | zero=>simp only [aag,ZE] at hj; subst hj; exact hq
  | succ j=>
   simp only [aaK,List.getElem?_eraseIdx] at hj
   dsimp only
   split at hj
   ·rename_i h1; simpa [h1] using hj
   ·rename_i h1; simpa [h1] using hj) (fun j j' he=>by
   cases j with
   | zero=>cases j' with
    | zero=>rfl
    | succ j'=>dsimp only at he; split at he<;>omega
   | succ j=>cases j' with
    | zero=>dsimp only at he; split at he<;>omega
    | succ j'=>dsimp only at he; split at he<;>split at he<;>omega)
end Go.R
namespace Go.R
open Go
def yS (P:Program)(t:TypeId)(sz b:Nat):Bool:=
 match P.underlying t with
 | some (.slice e)=>match P.info? e with
  | some i=>aaj i.size sz&&aaj i.bytes b&&JE i
  | none=>false
 | _=>false
section
variable {P:Program}{t:TypeId}{sz b:Nat}
theorem ky (h:yS P t sz b=true):∃e i,P.underlying t=some (.slice e)∧P.info? e=some i∧i.size=sz∧i.bytes=b∧JE i=true∧fR P e=some sz:=by
 unfold yS at h
 split at h
 ·rename_i e he
  split at h
  ·rename_i i hi
   simp only [ZF] at h
   have h1:=aaH h.1.1
   exact⟨e,i,he,hi,h1,aaH h.1.2,h.2,by simp [fR,hi,h1]⟩
  ·cases h
 ·cases h
variable {α:Type}{E:bQ α}{h:AHeap}{K:Mem}{l:List α}{a v:α}{i q:Nat}{j:Int}{k:IntKind}{c:AV}{off:Nat}{tf:TypeId}
theorem fy (T:yS P t E.n b=true)(h:ix l j=some a):fJ P t (E.fz l) (.int k j)=some (.fp (E.l l) (j.toNat*E.n)):=by
 obtain⟨e,inf,h1,h2,h3,h4,h5,h6⟩:=ky T
 obtain⟨g1,g2,g3⟩:=iq h
 have hle:=bQ.AU (E:=E) g3
 have hp:=E.pos
 simp only [fJ,h1,ZB,h6,bQ.fz]
 rw [if_pos ⟨g1,g2,by omega⟩]
theorem Ny (h:l[j.toNat]? = some a):(E.l l).isEmpty=false:=by
 have hle:=bQ.AU (E:=E) h
 have hp:=E.pos
 cases hl:E.l l with
 | nil=>rw [hl] at hle; simp at hle; omega
 | cons _ _=>rfl
theorem qJ (hp:AHeap)(ha:gF P tf=some false)(h:ix l j=some a)(hc:(E.f a)[off]? = some c):bE P hp tf (.fp (E.l l) (j.toNat*E.n+off))=some c:=by
 obtain⟨g1,g2,g3⟩:=iq h
 have ho:off<E.n:=by rw [←E.len a]; exact (ZH.1 hc).1
 simp only [bE,kh,Ny g3,ZN,if_false,jl,ha,ZB,bQ.JZ g3 ho,hc]
theorem iz (hp:AHeap)(ha:gF P tf=some false)(h:ix l j=some a)(hc:(E.f a)[0]? = some c):bE P hp tf (.fp (E.l l) (j.toNat*E.n))=some c:=qJ (off:=0) hp ha h hc
theorem jP (hp:AHeap)(ha:gF P tf=some true)(hs:fR P tf=some E.n)(h:ix l j=some a):bE P hp tf (.fp (E.l l) (j.toNat*E.n))=some (.agg (E.f a)):=by
 obtain⟨g1,g2,g3⟩:=iq h
 simp only [bE,kh,Ny g3,ZN,if_false,jl,ha,ZB,if_true,hs]
 rw [if_pos (bQ.AU g3),bQ.F0 g3]
theorem sv (o:Has h K)(hq:K[q]? = some (i,.sl l.length E.n (E.l l)))(hj:l[j.toNat]? = some a):i≠0∧∃rest,h.get i=some (.cells (E.l l++rest)):=by
 obtain⟨⟨_,h1⟩,_⟩:=o.at_ _ _ _ hq
 rcases h1 with⟨_,h1⟩| h1
 ·have:=(ZH.1 hj).1; omega
 ·exact h1
theorem KN (T:yS P t sz b=true){n:Nat}(h0:0≤j)(h1:j<n):fJ P t (.rs i 0 n sz) (.int k j)=some (.ptr i (0+j.toNat*sz)):=by
 obtain⟨e,inf,g1,g2,g3,g4,g5,g6⟩:=ky T
 simp only [fJ,g1,ZB,g6]
 rw [if_pos ⟨trivial,h0,h1⟩]
theorem vB (o:Has h K)(hq:K[q]? = some (i,.sl l.length E.n (E.l l)))(ha:gF P tf=some false)(hj:ix l j=some a)(hc:(E.f a)[off]? = some c):bE P h tf (.ptr i (0+j.toNat*E.n+off))=some c:=by
 obtain⟨g1,g2,g3⟩:=iq hj
 obtain⟨h1,rest,h2⟩:=sv o hq g3
 have ho:off<E.n:=by rw [←E.len a]; exact (ZH.1 hc).1
 have hle:=bQ.AU (E:=E) g3
 simp only [bE,kh,h2,ZB,jl,ha,ZN,if_false,Z2]
 rw [ZS (by omega),bQ.JZ g3 ho,hc]
theorem Ej (o:Has h K)(hq:K[q]? = some (i,.sl l.length E.n (E.l l)))(ha:gF P tf=some false)(hj:ix l j=some a)(hc:(E.f a)[0]? = some c):bE P h tf (.ptr i (0+j.toNat*E.n))=some c:=vB (off:=0) o hq ha hj hc
theorem Ek (o:Has h K)(hq:K[q]? = some (i,.sl l.length E.n (E.l l)))(ha:gF P tf=some true)(hs:fR P tf=some E.n)(hj:ix l j=some a):bE P h tf (.ptr i (0+j.toNat*E.n))=some (.agg (E.f a)):=by
 obtain⟨g1,g2,g3⟩:=iq hj
 obtain⟨h1,rest,h2⟩:=sv o hq g3
 have hle:=bQ.AU (E:=E) g3
 simp only [bE,kh,h2,ZB,jl,ha,if_true,hs,Z2]
 rw [if_pos (by rw [ZM]; omega),List.drop_append_of_le_length (by omega),Z9 (by rw [List.length_drop]; omega),bQ.F0 g3]
theorem jA (o:Has h K){c':Ct}{ct:Ct}(hq:K[q]? = some (i,ct)){ob:AObj}(hc:Ei (h.put i ob) i c'):Has (h.put i ob) (K.set q (i,c')):=
 o.F3 hq (fun k hk _=>by rw [dB,if_neg hk]) (aaM _) (.inl rfl) (aaS (o.at_ _ _ _ hq).2) hc
theorem F4 (o:Has h K)(hq:K[q]? = some (i,.sl l.length E.n (E.l l)))(hs:fR P tf=some E.n)(hj:ix l j=some a){x:AV}(hv:x.cells=E.f v)(pq:(E.f v).all AV.cg=true) :
  ∃h',jo P h tf (.ptr i (0+j.toNat*E.n)) x=some h'∧Has h' (K.set q (i,.sl l.length E.n (E.l (l.set j.toNat v)))):=by
 obtain⟨g1,g2,g3⟩:=iq hj
 obtain⟨h1,rest,h2⟩:=sv o hq g3
 have hle:=bQ.AU (E:=E) g3
 refine⟨_,?_,jA o hq (ob:=.cells (E.l (l.set j.toNat v)++rest)) ⟨⟨by rw [bQ.bW,ZO],by rw [bQ.bW,ZO,←bQ.bW]; exact (o.at_ _ _ _ hq).1.1.2⟩,.inr ⟨h1,rest,by rw [dB,if_pos rfl]⟩⟩⟩
 simp only [jo,h2,ZB,ig,hs,hv,Z2]
 rw [if_pos ⟨E.len v,pq,by rw [ZM]; omega⟩,ZJ,bQ.Nx g3]
theorem El (o:Has h K)(hq:K[q]? = some (i,.sl l.length E.n (E.l l)))(hs:fR P tf=some 1)(hj:ix l j=some a){x:AV}(hx:x.cells=[x])(pq:x.cg=true)(ho:off<E.n)(hb:(E.f a).set off x=E.f v) :
  ∃h',jo P h tf (.ptr i (0+j.toNat*E.n+off)) x=some h'∧Has h' (K.set q (i,.sl l.length E.n (E.l (l.set j.toNat v)))):=by
 obtain⟨g1,g2,g3⟩:=iq hj
 obtain⟨h1,rest,h2⟩:=sv o hq g3
 have hle:=bQ.AU (E:=E) g3
 refine⟨_,?_,jA o hq (ob:=.cells (E.l (l.set j.toNat v)++rest)) ⟨⟨by rw [bQ.bW,ZO],by rw [bQ.bW,ZO,←bQ.bW]; exact (o.at_ _ _ _ hq).1.1.2⟩,.inr ⟨h1,rest,by rw [dB,if_pos rfl]⟩⟩⟩
 simp only [jo,h2,ZB,ig,hs,hx,Z2]
 rw [if_pos ⟨rfl,by simp [pq],by rw [ZM]; omega⟩,ZJ]
 simp only [dQ]
 rw [bQ.KM g3 ho hb]
def app (b:Nat){α:Type}(l l2:List α):Option (List α):=if (l.length+l2.length)*(b+1)≤1099511627776 then some (l++l2) else none
theorem yT {l l2 r:List α}(h:app b l l2=some r):(l.length+l2.length)*b≤gX∧l.length+l2.length≤gX∧r=l++l2:=by
 unfold app at h
 split at h
 ·rename_i h0
  cases h
  rw [Nat.mul_add,Nat.mul_one] at h0
  refine⟨by simp only [gX]; omega,by simp only [gX]; omega,rfl⟩
 ·cases h
theorem F5 {t2:TypeId}{l2 r:List α}{x:AV}(T:yS P t E.n b=true)(o:Has h K)(hq:K[q]? = some (i,.sl l.length E.n (E.l l)))(hx:gm h E.n x=some (E.l l2,l2.length))(gZ:ja P t2 x=true)(hr:app b l l2=some r) :
  ∃i' h',ei P h t t2 (.rs i 0 l.length E.n) x=some (.rs i' 0 r.length E.n,h')∧Has h' (K.set q (i',.sl r.length E.n (E.l r))):=by
 obtain⟨e,inf,g1,g2,g3,g4,g5,g6⟩:=ky T
 obtain⟨r1,r2,rfl⟩:=yT hr
 obtain⟨⟨⟨hlen,rq⟩,lU⟩,hlt⟩:=o.at_ _ _ _ hq
 have pE:=E.pos
 have hb:inf.size=E.n:=g3
 have kq:¬(inf.size=0∨ja P t2 x=false∨JE inf=false):=by rw [gZ,g5,hb]; simp [pE]
 subst g4
 by_cases h0:l2=[]
 ·subst h0
  refine⟨i,h,?_,?_⟩
  ·simp only [ei,g1,ZB,g2,hb,hx,gZ,g5]
   rw [if_neg (by simp [pE])]
   simp only [Z8,Nat.zero_mul,aaW,aa2]
   by_cases hi:i=0
   ·subst hi
    rcases lU with⟨_,hl0⟩| h1
    ·simp [hl0,hb,gX]
    ·exact absurd rfl h1.1
   ·rcases lU with h1 | ⟨_,rest,h1⟩
    ·exact absurd h1.1 hi
    ·rw [if_neg hi,h1]
     simp only [ZB]
     rw [if_neg (by rw [ZM,hlen]; simp only [Z8,aaW] at r1 r2; simp; omega)]
     simp
  ·rw [aa2]
   have:K.set q (i,.sl l.length E.n (E.l l))=K:=by
    apply aaL
    intro j
    rw [aa4]
    by_cases hj:q=j
    ·subst hj; rw [if_pos rfl,if_pos (ZH.1 hq).1,hq]
    ·rw [if_neg hj]
   rw [this]; exact o
 ·have Ki:l2.length≠0:=by simpa using h0
  by_cases hi:i=0
  ·subst hi
   rcases lU with⟨_,hl0⟩| h1
   rotate_left
   ·exact absurd rfl h1.1
   have hnil:l=[]:=by simpa using hl0
   subst hnil
   refine⟨h.next,h.alloc (.cells (E.l l2)),?_,?_⟩
   ·simp only [ei,g1,ZB,g2,hb,hx,gZ,g5]
    rw [if_neg (by simp [pE])]
    simp only [if_true]
    simp only [Z8,Z2] at r1 r2
    rw [if_neg (by simp; omega),if_neg Ki]
    simp
   ·refine o.F3 hq (fun k _ hk=>by rw [AHeap.alloc,dB,if_neg (by omega)]) (aaM _) (.inr (.inr (ZI _))) (aas _) ⟨⟨bQ.bW,bQ.n9 (by simp only [gX] at r2; simp at r2 ⊢; omega)⟩,.inr ⟨by have:=o.pos; omega,[],?_⟩⟩
    rw [AHeap.alloc,dB,if_pos rfl]; simp
  ·rcases lU with h1 | ⟨_,rest,h1⟩
   ·exact absurd h1.1 hi
   refine⟨h.next,(h.kill i).put h.next (.cells (E.l (l++l2))),?_,?_⟩
   ·simp only [ei,g1,ZB,g2,hb,hx,gZ,g5]
    rw [if_neg (by simp [pE]),if_neg hi,h1]
    simp only [ZB]
    rw [if_neg (by rw [ZM,hlen]; simp; omega),if_neg Ki]
    rw [aam,Z9 (by rw [hlen]; exact ZI _),aae (by rw [hlen]; exact ZI _),bQ.iG,ZM]
   ·refine o.F3 hq (fun k hk qA=>by rw [dB,if_neg (by omega),yR,if_neg hk]) (by show h.next≤h.next+1+1; omega) (.inr (.inr (ZI _))) (by show h.next<h.next+1+1; omega) ⟨⟨bQ.bW,bQ.n9 (by simp only [gX] at r2; simp at r2 ⊢; omega)⟩,.inr ⟨by have:=o.pos; omega,[],?_⟩⟩
    rw [dB,if_pos rfl]; simp
def E7 (b:Nat){α:Type}(n:Int)(z:α):Option (List α):=if 0≤n∧n.toNat*(b+1)≤1099511627776 then some (ZY n.toNat z) else none
theorem w9 {n:Int}{z:α}{zv:AV}{r:List α}(T:yS P t E.n b=true)(o:Has h K)(e0:TypeId)(Wi:P.underlying t=some (.slice e0))(hz0:iS P e0=some zv)(PQ:zv.cells=E.f z)(pq:(E.f z).all AV.cg=true)(hr:E7 b n z=some r) :
  ∃i h',hU P h t (.int .i64 n) (.int .i64 n)=some (.rs i 0 r.length E.n,h')∧Has h' ((i,.sl r.length E.n (E.l r))::K):=by
 have hz:∀e,P.underlying t=some (.slice e)→iS P e=some zv:=fun e he=>by
  rw [Wi] at he; cases he; exact hz0
 unfold E7 at hr
 split at hr
 rotate_left
 ·cases hr
 rename_i kq
 obtain⟨h0,h1⟩:=kq
 cases hr
 obtain⟨e,inf,g1,g2,g3,g4,g5,g6⟩:=ky T
 have pE:=E.pos
 have Qi:∀k,iT (E.f z) k=E.l (ZY k z):=by
  intro k
  induction k with
  | zero=>rfl
  | succ k ih=>rw [iT,ih,List.replicate_succ,bQ.fB]
 refine⟨h.next,h.alloc (.cells (E.l (ZY n.toNat z))),?_,o.new (fun k hk=>by rw [AHeap.alloc,dB,if_neg (by omega)]) (aaM _) (.inr (ZI _)) (aas _) ⟨⟨bQ.bW,bQ.n9 (by rw [aa3]; rw [Nat.mul_add,Nat.mul_one] at h1; omega)⟩,.inr ⟨by have:=o.pos; omega,[],by rw [AHeap.alloc,dB,if_pos rfl]; simp⟩⟩⟩
 rw [Nat.mul_add,Nat.mul_one] at h1
 simp only [hU,g1,ZB,g2,hz e g1,PQ,E.len,Qi,aa3,g3,g4]
 have hb:n*(b:Int)≤gX:=by
  have:n*(b:Int)=((n.toNat*b:Nat):Int):=by
   rw [Int.natCast_mul,Int.toNat_of_nonneg h0]
  simp only [gX]
  rw [this]
  omega
 rw [if_pos ⟨h0,Int.le_refl _,hb,trivial,pE,by omega,pq⟩]
theorem F6 (o:Has h K)(hq:K[q]? = some (i,.sl l.length E.n (E.l l)))(hp:E.flat=true:=by rfl):∃h',jC 0 h (.rs i 0 l.length E.n)=some (E.fz l,h')∧Has h' (K.eraseIdx q):=by
 obtain⟨⟨⟨hlen,rq⟩,lU⟩,hlt⟩:=o.at_ _ _ _ hq
 rcases lU with⟨h0,h1⟩| ⟨h0,rest,h1⟩
 ·have:l=[]:=by simpa using h1
  subst this
  exact⟨h,by simp [jC,h0,bQ.fz,bQ.l],o.del q⟩
 ·refine⟨h.kill i,?_,?_⟩
  ·simp only [jC]
   rw [if_neg h0,h1]
   simp only [ZB]
   have e1:((E.l l++rest).drop 0).take (l.length*E.n)=E.l l:=by
    rw [aam,Z9 (by rw [hlen]; exact ZI _),aae (by rw [hlen]; exact ZI _)]
   rw [e1,if_pos (by rw [ZM,hlen]; omega),qC (bQ.oX hp).1]
   rfl
  ·have o2:=o.F3 (i':=0) (c':=.sl 0 1 []) (h':=h.kill i) hq (fun k hk _=>by rw [yR,if_neg hk]) (aaM _) (.inr (.inl rfl)) (Nat.succ_pos _) ⟨⟨by simp,by simp⟩,.inl ⟨rfl,rfl⟩⟩
   have:=o2.del q
   rwa [List.eraseIdx_set_eq] at this
variable {n:Nat}
theorem dh (o:Has h K)(hq:K[q]? = some (i,.sl n E.n (E.l l))):n=l.length:=by
 have h1:=(o.at_ _ _ _ hq).1.1.1
 rw [bQ.bW] at h1
 exact (Nat.eq_of_mul_eq_mul_right (Nat.pos_of_ne_zero E.pos) h1).symm
theorem bp (T:yS P t E.n b=true)(o:Has h K)(hq:K[q]? = some (i,.sl n E.n (E.l l)))(hj:ix l j=some a):fJ P t (.rs i 0 n E.n) (.int k j)=some (.ptr i (0+j.toNat*E.n)):=by
 have hn:=dh o hq
 subst hn
 exact KN T (iq hj).1 (iq hj).2.1
theorem Cb (o:Has h K)(hq:K[q]? = some (i,.sl n E.n (E.l l)))(ha:gF P tf=some false)(hj:ix l j=some a)(hc:(E.f a)[off]? = some c):bE P h tf (.ptr i (0+j.toNat*E.n+off))=some c:=by
 have hn:=dh o hq
 subst hn
 exact vB o hq ha hj hc
theorem di (o:Has h K)(hq:K[q]? = some (i,.sl n E.n (E.l l)))(ha:gF P tf=some false)(hj:ix l j=some a)(hc:(E.f a)[0]? = some c):bE P h tf (.ptr i (0+j.toNat*E.n))=some c:=by
 have hn:=dh o hq
 subst hn
 exact Ej o hq ha hj hc
theorem xa (o:Has h K)(hq:K[q]? = some (i,.sl n E.n (E.l l)))(ha:gF P tf=some true)(hs:fR P tf=some E.n)(hj:ix l j=some a):bE P h tf (.ptr i (0+j.toNat*E.n))=some (.agg (E.f a)):=by
 have hn:=dh o hq
 subst hn
 exact Ek o hq ha hs hj
theorem fS (o:Has h K)(hq:K[q]? = some (i,.sl n E.n (E.l l)))(hs:fR P tf=some E.n)(hj:ix l j=some a){x:AV}(hv:x.cells=E.f v)(pq:(E.f v).all AV.cg=true) :
  ∃h',jo P h tf (.ptr i (0+j.toNat*E.n)) x=some h'∧Has h' (K.set q (i,.sl n E.n (E.l (l.set j.toNat v)))):=by
 have hn:=dh o hq
 subst hn
 exact F4 o hq hs hj hv pq
theorem IG (o:Has h K)(hq:K[q]? = some (i,.sl n E.n (E.l l)))(hs:fR P tf=some 1)(hj:ix l j=some a){x:AV}(hx:x.cells=[x])(pq:x.cg=true)(ho:off<E.n)(hb:(E.f a).set off x=E.f v) :
  ∃h',jo P h tf (.ptr i (0+j.toNat*E.n+off)) x=some h'∧Has h' (K.set q (i,.sl n E.n (E.l (l.set j.toNat v)))):=by
 have hn:=dh o hq
 subst hn
 exact El o hq hs hj hx pq ho hb
theorem iA {t2:TypeId}{l2 r:List α}{x:AV}(T:yS P t E.n b=true)(o:Has h K)(hq:K[q]? = some (i,.sl n E.n (E.l l)))(hx:gm h E.n x=some (E.l l2,l2.length))(gZ:ja P t2 x=true)(hr:app b l l2=some r) :
  ∃i' h',ei P h t t2 (.rs i 0 n E.n) x=some (.rs i' 0 r.length E.n,h')∧Has h' (K.set q (i',.sl r.length E.n (E.l r))):=by
 have hn:=dh o hq
 subst hn
 exact F5 T o hq hx gZ hr
theorem qK (o:Has h K)(hq:K[q]? = some (i,.sl n E.n (E.l l)))(hp:E.flat=true:=by rfl):∃h',jC 0 h (.rs i 0 n E.n)=some (E.fz l,h')∧Has h' (K.eraseIdx q):=by
 have hn:=dh o hq
 subst hn
 exact F6 o hq hp
end
end Go.R
namespace Go.R
open Go
structure ak where
 kind:Int
 int:Int
 label:ByteArray
 args:List Int
structure bg where
 nodes:List ak
 root:Int
def eI (k:IntKind):bQ Int:={n:=1,f:=fun a=>[.int k a],len:=fun _=>rfl,pos:=by decide,pure:=fun _ _=>⟨rfl,rfl⟩,canon:=fun _=>rfl}
abbrev af:bQ Int:=eI .i64
theorem pure_cons {x:AV}{xs:List AV}(h:x.eT=true∧x.jM=x)(k:dq xs=true∧dX xs=xs):dq (x::xs)=true∧dX (x::xs)=x::xs:=
 ⟨by simp [dq,h.1,k.1],by simp [dX,h.2,k.2]⟩
theorem pure_nil:dq []=true∧dX []=[]:=⟨rfl,rfl⟩
theorem gR {k:IntKind}{n:Int}:(AV.int k n).eT=true∧(AV.int k n).jM = .int k n:=⟨rfl,rfl⟩
theorem nA {s:ByteArray}:(AV.str s).eT=true∧(AV.str s).jM = .str s:=⟨rfl,rfl⟩
theorem cJ {b:Bool}:(AV.bool b).eT=true∧(AV.bool b).jM = .bool b:=⟨rfl,rfl⟩
def ai:bQ ak:={n:=4,f:=fun x=>[.int .i64 x.kind,.int .i64 x.int,.str x.label,af.fz x.args],len:=fun _=>rfl,pos:=by decide,pure:=fun x _=>pure_cons gR (pure_cons gR (pure_cons nA (pure_cons bQ.bA pure_nil))),canon:=fun _=>rfl}
end Go.R
namespace Go.R
open Go
theorem II {b:Bool}(h:b=false):¬b=true:=by rw [h]; decide
section
variable {P:Program}{cf:CallF}{A:b9}{m:Nat}
theorem vC {c:Code}{s:St}{Q R:Ex→St→Prop}(h:dK P cf A m c s Q)(k:∀e s',Q e s'→R e s'):dK P cf A m c s R:=by
 obtain⟨e,s',h1,h2⟩:=h
 exact⟨e,s',h1,k _ _ h2⟩
theorem aH {c:Code}{s:St}{Q:St→Prop}{R:Ex→St→Prop}(hQ:∀e s',(e = .ret∨e = .norm)∧Q s'→R e s')(h:dK P cf A m c s (fun e s'=>(e = .ret∨e = .norm)∧Q s')):dK P cf A m c s R:=vC h hQ
end
def hH:Nat:=1125899906842630
def kJ (k:Nat)(h:AHeap)(x y:AV):Prop:=∀n,hH+k≤n→cp h n x=some y
def aU (k:Nat)(h:AHeap)(x y:List AV):Prop:=∀n,hH+k≤n→bC h n x=some y
def Qj (h:AHeap)(x y:AV):Prop:=kJ 4503599627370496 h x y
section
variable {h:AHeap}{α:Type}{E:bQ α}{l:List α}{K:Mem}{q i:Nat}
theorem kJ.mono {k k':Nat}{x y:AV}(hk:k≤k')(f:kJ k h x y):kJ k' h x y:=fun n hn=>f n (by omega)
theorem If {k:Nat}{x y:AV}(f:kJ k h x y)(hk:k≤4503599627370496:=by decide):Qj h x y:=f.mono hk
theorem mh {n:Nat}(h:hH≤n):∃k,n=k+1∧hH≤k+1:=⟨n - 1,by simp only [hH] at h; omega,by omega⟩
theorem mi {x:AV}(h1:x.eT=true)(h2:∀n,cp h (n+1) x=if x.eT then some x.jM else none){y:AV}(h3:x.jM=y):kJ 0 h x y:=fun n hn=>by
 obtain⟨k,rfl,_⟩:=mh (show hH≤n by omega)
 rw [h2,h1,h3]; rfl
theorem aZ {k:IntKind}{n:Int}:kJ 0 h (.int k n) (.int k n):=mi rfl (fun _=>rfl) rfl
theorem fW {b:Bool}:kJ 0 h (.bool b) (.bool b):=mi rfl (fun _=>rfl) rfl
theorem cK {s:ByteArray}:kJ 0 h (.str s) (.str s):=mi rfl (fun _=>rfl) rfl
theorem dU (hp:E.flat=true:=by rfl):kJ 0 h (E.fz l) (E.fz l):=mi (bQ.bA hp).1 (fun _=>rfl) (bQ.bA hp).2
theorem qL {cs:List AV}(h1:(dq cs=true))(h2:dX cs=E.l l){n:Nat}{b:Bool}(h3:n=l.length):kJ 0 h (.fz cs n b) (E.fz l):=by
 refine mi (by simpa [AV.eT] using h1) (fun _=>rfl) ?_
 subst h3
 show AV.fz (dX cs) l.length false=_
 rw [h2]; rfl
theorem oG:∀{cs:List AV} {n:Nat},dq cs=true→(∀x∈cs,∀n,cp h (n+1) x=if x.eT then some x.jM else none)→cs.length+1<n→bC h n cs=some (dX cs)
 | [],n,_,_,hn=>by
  obtain⟨k,rfl⟩:∃k,n=k+1:=⟨n - 1,by omega⟩
  rfl
 | x::cs,n,h1,h2,hn=>by
  obtain⟨k,rfl⟩:∃k,n=k+1+1:=⟨n - 2,by simp at hn; omega⟩
  simp only [dq,ZF] at h1
  simp only [bC]
  rw [h2 x (by simp) k,h1.1]
  simp only [if_true,ZB]
  rw [oG h1.2 (fun y hy=>h2 y (by simp [hy])) (by simp at hn; omega)]
  rfl
def yU:AV→Bool
 | .agg _ | .tup _ | .fn _ _=>false
 | _=>true
theorem F7 {x:AV}(hf:yU x=true)(hn:x.eT=true)(n:Nat):cp h (n+1) x=if x.eT then some x.jM else none:=by
 cases x<;>first | rfl | (simp [AV.eT] at hn; done) | (simp [yU] at hf; done)
theorem IJ (o:Has h K)(hq:K[q]? = some (i,.sl l.length E.n (E.l l)))(hf:∀a:α,(E.f a).all yU=true)(hp:E.flat=true:=by rfl):kJ 0 h (.rs i 0 l.length E.n) (E.fz l):=fun n hn=>by
 obtain⟨⟨⟨hlen,rq⟩,lU⟩,hlt⟩:=o.at_ _ _ _ hq
 obtain⟨k,rfl,hk⟩:=mh (show hH≤n by omega)
 simp only [cp]
 rcases lU with⟨h0,h1⟩| ⟨h0,rest,h1⟩
 ·have:l=[]:=by simpa using h1
  subst this
  simp [h0,bQ.fz,bQ.l]
 ·rw [if_neg h0,h1]
  simp only [ZB]
  have e1:((E.l l++rest).drop 0).take (l.length*E.n)=E.l l:=by
   rw [aam,Z9 (by rw [hlen]; exact ZI _),aae (by rw [hlen]; exact ZI _)]
  rw [if_pos (by rw [ZM,hlen]; omega),e1,oG (bQ.oX hp).1 (fun x hx=>?_) (by simp only [hH] at hk; omega),(bQ.oX hp).2]
  ·rfl
  ·have hnx:x.eT=true:=by
    have:∀(cs:List AV),dq cs=true→x∈cs→x.eT=true:=by
     intro cs
     induction cs with
     | nil=>intro _ h; cases h
     | cons y ys ih=>
      intro h hm
      simp only [dq,ZF] at h
      rcases ZZ.1 hm with rfl | hm
      ·exact h.1
      ·exact ih h.2 hm
    exact this _ (bQ.oX hp).1 hx
   have Wj:yU x=true:=by
    unfold bQ.l at hx
    rw [List.mem_flatMap] at hx
    obtain⟨a,_,ha⟩:=hx
    exact ZX.1 (hf a) x ha
   exact fun n=>F7 Wj hnx n
theorem cZ {n:Nat}(o:Has h K)(hq:K[q]? = some (i,.sl n E.n (E.l l)))(hf:∀a:α,(E.f a).all yU=true)(hp:E.flat=true:=by rfl):kJ 0 h (.rs i 0 n E.n) (E.fz l):=by
 have hn:=dh o hq
 subst hn
 exact IJ o hq hf hp
theorem aw:aU 0 h [] []:=fun n hn=>by
 obtain⟨k,rfl,_⟩:=mh (show hH≤n by omega)
 rfl
theorem ah {k1 k2:Nat}{x y:AV}{xs ys:List AV}(f:kJ k1 h x y)(g:aU k2 h xs ys):aU (k1+k2+1) h (x::xs) (y::ys):=fun n hn=>by
 obtain⟨k,rfl⟩:∃k,n=k+1:=⟨n - 1,by omega⟩
 simp only [bC]
 rw [f k (by omega),g k (by omega)]
 rfl
theorem eV {k:Nat}{xs ys:List AV}(f:aU k h xs ys):kJ (k+1) h (.agg xs) (.agg ys):=fun n hn=>by
 obtain⟨k,rfl⟩:∃k,n=k+1:=⟨n - 1,by omega⟩
 simp only [cp]
 rw [f k (by omega)]; rfl
end
def jL (k:IntKind)(x:Int)(n:Nat):Int:=x.fdiv (2 ^ (min n k.bits))
section
variable {P:Program}{t:TypeId}{b:Nat}{α:Type}{E:bQ α}{h:AHeap}{K:Mem}{l r:List α}{i q:Nat}{j lo hi:Int}{k k':IntKind}
theorem xb {s:ByteArray}{v:Int}(hu:P.underlying t=some .string)(h:bt s j=some v):qo P t (.str s) (.int k j)=some (.int .u8 v):=by
 unfold bt at h
 split at h
 ·rename_i h0
  rw [ZD] at h
  obtain⟨b,hb,rfl⟩:=h
  simp only [qo,hu,ZB,h0,if_true,hb,ZJ]
 ·cases h
theorem F8 (h:J0 l lo hi=some r):(((E.l l).drop (lo.toNat*E.n)).take ((hi.toNat - lo.toNat)*E.n))=E.l r∧r.length=hi.toNat - lo.toNat:=by
 obtain⟨h0,h1,h2,rfl⟩:=yQ h
 refine⟨by rw [bQ.w7,bQ.FZ],?_⟩
 rw [aaw,List.length_drop]
 omega
theorem F9 (o:Has h K)(hq:K[q]? = some (i,.sl l.length E.n (E.l l)))(T:yS P t E.n b=true)(hs:J0 l 0 hi=some r) :
  lZ P t (.rs i 0 l.length E.n) none (some (.int k hi)) none=some (.rs i 0 r.length E.n)∧Has h (K.set q (i,.sl r.length E.n (E.l r))):=by
 obtain⟨e,inf,g1,g2,g3,g4,g5,g6⟩:=ky T
 obtain⟨h0,h1,h2,hr⟩:=yQ hs
 obtain⟨h3,h4⟩:=F8 (E:=E) hs
 simp only [Int.toNat_zero,Nat.sub_zero] at h4 hr
 have AQ:r=l.take hi.toNat:=by rw [hr]; simp
 refine⟨?_,?_⟩
 ·simp only [lZ,g1,ZB,g6,if_true,kN]
  rw [if_pos ⟨by omega,h2⟩]
  simp only [ZB,ZJ,Nat.zero_mul,aaW,Nat.sub_zero,h4]
 ·obtain⟨⟨⟨hlen,rq⟩,lU⟩,hlt⟩:=o.at_ _ _ _ hq
  refine o.F3 hq (fun _ _ _=>rfl) (ZI _) (.inl rfl) hlt ⟨⟨bQ.bW,?_⟩,?_⟩
  ·rw [bQ.bW]
   refine aap (aay _ ?_) (hlen ▸ rq)
   rw [h4]; omega
  ·rcases lU with⟨h5,h6⟩| ⟨h5,rest,h6⟩
   ·left; exact⟨h5,by rw [h4]; omega⟩
   ·right
    refine⟨h5,E.l (l.drop hi.toNat)++rest,?_⟩
    rw [h6,AQ,←ZV,←bQ.iG,aaP]
theorem KO {n:Nat}(o:Has h K)(hq:K[q]? = some (i,.sl n E.n (E.l l)))(T:yS P t E.n b=true)(hs:J0 l 0 hi=some r) :
  lZ P t (.rs i 0 n E.n) none (some (.int k hi)) none=some (.rs i 0 r.length E.n)∧Has h (K.set q (i,.sl r.length E.n (E.l r))):=by
 have hn:=dh o hq
 subst hn
 exact F9 o hq T hs
end
theorem ar {P:Program}{cf:CallF}{m:Nat}{aY:FuncId→b9}{f:FuncId}{fn:Func}{A:b9}(ha:aY f=A){args:List AV}{h:AHeap}{R:AV→AHeap→Prop}(hf:P.funcs[f]? = some fn)(hb:fn.body=some (bZ fn))(hn:aaZ args.length fn.ntmps=true)
  (he:dK P cf A m (bZ fn) ⟨nl A.keep args,A.aI.map fun _=>none,h⟩ (fun e s=>(e = .ret∨e = .norm)∧∃r,aO P (s.open A) fn.results.toList=some r∧R r s.h)) :
  ∃r h',bf P aY cf m f args h=some (r,h')∧R r h':=by
 subst ha
 exact w6 hf hb hn he
def Ga (a b:ByteArray):Bool:=Op.bytesLess a.data.toList b.data.toList||a.data.toList==b.data.toList
end Go.R
namespace Go.R
open Go
mutual
theorem xc {h:AHeap}:∀(n:Nat) (x y:AV),x.eT=true→cp h n x=some y→y=x.jM
 | 0,x,y,_,h=>by simp [cp] at h
 | n+1,x,y,hn,h=>by
  cases x with
  | agg cs=>
   simp only [cp,ZD] at h
   obtain⟨fU,hcs,rfl⟩:=h
   rw [hY n cs fU (by simpa [AV.eT] using hn) hcs]; rfl
  | tup cs=>
   simp only [cp,ZD] at h
   obtain⟨fU,hcs,rfl⟩:=h
   rw [hY n cs fU (by simpa [AV.eT] using hn) hcs]; rfl
  | fn f cs=>
   simp only [cp,ZD] at h
   obtain⟨fU,hcs,rfl⟩:=h
   rw [hY n cs fU (by simpa [AV.eT] using hn) hcs]; rfl
  | ptr _ _=>simp [AV.eT] at hn
  | rs _ _ _ _=>simp [AV.eT] at hn
  | _=>simp only [cp,hn,if_true,ZE] at h; exact h.symm
theorem hY {h:AHeap}:∀(n:Nat) (xs ys:List AV),dq xs=true→bC h n xs=some ys→ys=dX xs
 | 0,xs,ys,_,h=>by simp [bC] at h
 | n+1,[],ys,_,h=>by simp only [bC,ZE] at h; exact h.symm
 | n+1,x::xs,ys,hn,h=>by
  simp only [dq,ZF] at hn
  simp only [bC,ZC,ZD] at h
  obtain⟨y,hy,zs,hz,rfl⟩:=h
  rw [xc n x y hn.1 hy,hY n xs zs hn.2 hz]; rfl
end
mutual
theorem vD {h:AHeap}:∀(n:Nat) (x y:AV),gH h n x=some y→cp h n x=some y
 | 0,x,y,h=>by simp [gH] at h
 | n+1,x,y,h=>by
  unfold gH at h
  split at h
  ·exact h
  ·exact h
  ·exact h
  ·exact h
  ·exact h
  ·exact h
  ·exact h
  ·exact h
  ·rename_i id off len iR
   simp only [cp]
   split at h
   ·rename_i h0; rw [if_pos h0]; exact h
   ·rename_i h0
    rw [if_neg h0]
    rw [ZC] at h ⊢
    obtain⟨ob,ho,h⟩:=h
    refine⟨ob,ho,?_⟩
    cases ob with
    | map es=>cases h
    | row t cs=>cases h
    | cells cs=>
     simp only at h ⊢
     split at h
     ·rename_i hle
      rw [if_pos hle]
      rw [ZD] at h ⊢
      obtain⟨fU,hcs,h2⟩:=h
      exact⟨fU,kU n _ _ hcs,h2⟩
     ·cases h
  ·simp only [cp]
   rw [ZD] at h ⊢
   obtain⟨fU,hcs,h2⟩:=h
   exact⟨fU,kU n _ _ hcs,h2⟩
  ·simp only [cp]
   rw [ZD] at h ⊢
   obtain⟨fU,hcs,h2⟩:=h
   exact⟨fU,kU n _ _ hcs,h2⟩
  ·cases h
theorem kU {h:AHeap}:∀(n:Nat) (xs ys:List AV),dR h n xs=some ys→bC h n xs=some ys
 | 0,xs,ys,h=>by simp [dR] at h
 | n+1,[],ys,h=>h
 | n+1,x::xs,ys,h=>by
  simp only [dR,bC,ZC,ZD] at h ⊢
  obtain⟨y,hy,zs,hz,h2⟩:=h
  exact⟨y,vD n x y hy,zs,kU n xs zs hz,h2⟩
end
def yV (k:Nat)(h:AHeap)(x y:AV):Prop:=∀n,hH+k≤n→gH h n x=some y
def IK (k:Nat)(h:AHeap)(x y:List AV):Prop:=∀n,hH+k≤n→dR h n x=some y
def fG (h:AHeap)(x y:AV):Prop:=yV 4503599627370496 h x y
section
variable {h:AHeap}{α:Type}{E:bQ α}{l:List α}{K:Mem}{q i:Nat}
theorem fG.If {x y:AV}(f:fG h x y):Qj h x y:=fun n hn=>vD _ _ _ (f n hn)
theorem cP {k:Nat}{x y:AV}(f:yV k h x y)(hk:k≤4503599627370496:=by decide):fG h x y:=fun n hn=>f n (by omega)
theorem Cc {x y:AV}(h2:∀n,gH h (n+1) x=some y):yV 0 h x y:=fun n hn=>by
 obtain⟨k,rfl,_⟩:=mh (show hH≤n by omega)
 exact h2 k
theorem dr {k:IntKind}{n:Int}:yV 0 h (.int k n) (.int k n):=Cc fun _=>rfl
theorem az {b:Bool}:yV 0 h (.bool b) (.bool b):=Cc fun _=>rfl
def Gb:AV→Bool
 | .int _ _ | .bool _ | .str _=>true
 | _=>false
theorem nC:∀{cs:List AV} {n:Nat},cs.all Gb=true→cs.length+1<n→dR h n cs=some cs
 | [],n,_,hn=>by
  obtain⟨k,rfl⟩:∃k,n=k+1:=⟨n - 1,by omega⟩
  rfl
 | x::cs,n,h1,hn=>by
  obtain⟨k,rfl⟩:∃k,n=k+1+1:=⟨n - 2,by simp at hn; omega⟩
  simp only [aao,ZF] at h1
  simp only [dR]
  have:gH h (k+1) x=some x:=by cases x<;>first | rfl | (simp [Gb] at h1)
  rw [this,ZB,nC h1.2 (by simp at hn; omega)]
  rfl
theorem J1 {n:Nat}(o:Has h K)(hq:K[q]? = some (i,.sl n E.n (E.l l)))(hf:∀a:α,(E.f a).all Gb=true):yV 0 h (.rs i 0 n E.n) (E.fz l):=fun m hm=>by
 have hn:=dh o hq
 subst hn
 obtain⟨⟨⟨hlen,rq⟩,lU⟩,hlt⟩:=o.at_ _ _ _ hq
 obtain⟨k,rfl,hk⟩:=mh (show hH≤m by omega)
 simp only [gH]
 rcases lU with⟨h0,h1⟩| ⟨h0,rest,h1⟩
 ·have:l=[]:=by simpa using h1
  subst this
  simp [h0,bQ.fz,bQ.l]
 ·rw [if_neg h0,h1]
  simp only [ZB]
  have e1:((E.l l++rest).drop 0).take (l.length*E.n)=E.l l:=by
   rw [aam,Z9 (by rw [hlen]; exact ZI _),aae (by rw [hlen]; exact ZI _)]
  rw [if_pos (by rw [ZM,hlen]; omega),e1,nC ?_ (by simp only [hH] at hk; omega)]
  ·rfl
  ·rw [ZX]
   intro x hx
   unfold bQ.l at hx
   rw [List.mem_flatMap] at hx
   obtain⟨a,_,ha⟩:=hx
   exact ZX.1 (hf a) x ha
theorem tz:IK 0 h [] []:=fun n hn=>by
 obtain⟨k,rfl,_⟩:=mh (show hH≤n by omega)
 rfl
theorem jB {k1 k2:Nat}{x y:AV}{xs ys:List AV}(f:yV k1 h x y)(g:IK k2 h xs ys):IK (k1+k2+1) h (x::xs) (y::ys):=fun n hn=>by
 obtain⟨k,rfl⟩:∃k,n=k+1:=⟨n - 1,by omega⟩
 simp only [dR]
 rw [f k (by omega),g k (by omega)]
 rfl
theorem tA {k:Nat}{xs ys:List AV}(f:IK k h xs ys):yV (k+1) h (.tup xs) (.tup ys):=fun n hn=>by
 obtain⟨k,rfl⟩:∃k,n=k+1:=⟨n - 1,by omega⟩
 simp only [gH]
 rw [f k (by omega)]; rfl
def bR:Nat:=9007199254740992
theorem fw {k:Nat}{xs ys:List AV}(f:aU k h xs ys)(hk:k≤bR:=by decide):aU bR h xs ys:=fun n hn=>f n (by omega)
def tB (x y:AV):Prop:=x.eT=true∧x.jM=y
def yW (xs ys:List AV):Prop:=dq xs=true∧dX xs=ys
theorem bm {k:IntKind}{n:Int}:tB (.int k n) (.int k n):=⟨rfl,rfl⟩
theorem lf {s:ByteArray}:tB (.str s) (.str s):=⟨rfl,rfl⟩
theorem oH (hp:E.flat=true:=by rfl):tB (E.fz l) (E.fz l):=bQ.bA hp
theorem sw:tB .nils (E.fz []):=⟨rfl,rfl⟩
theorem nD:yW [] []:=⟨rfl,rfl⟩
theorem cd {x y:AV}{xs ys:List AV}(a:tB x y)(b:yW xs ys):yW (x::xs) (y::ys):=⟨by simp [dq,a.1,b.1],by simp [dX,a.2,b.2]⟩
theorem nE {xs ys:List AV}(a:yW xs ys):tB (.agg xs) (.agg ys):=⟨by simpa [AV.eT] using a.1,by show AV.agg (dX xs)=_; rw [a.2]⟩
end
end Go.R
namespace Go.R
open Go
section
variable {P:Program}{h:AHeap}{K:Mem}{i q:Nat}{cs fU:List AV}{x z:AV}{t:TypeId}{off:Nat}
theorem gJ (o:Has h K)(pq:cs.all AV.cg=true):∃i h',yN h cs=some (.ptr i 0,h')∧Has h' ((i,.ob cs)::K):=by
 refine⟨h.next,h.alloc (.cells cs),by unfold yN; rw [if_pos pq],o.new (fun k hk=>by rw [AHeap.alloc,dB,if_neg (by omega)]) (aaM _) (.inr (ZI _)) (aas _) ⟨by have:=o.pos; omega,by rw [AHeap.alloc,dB,if_pos rfl]⟩⟩
theorem cq (o:Has h K)(hq:K[q]? = some (i,.ob cs))(hr:jl P t cs off=some z):bE P h t (.ptr i off)=some z:=by
 obtain⟨⟨h1,h2⟩,_⟩:=o.at_ _ _ _ hq
 simp only [bE,kh,h2,ZB,hr]
theorem oI (o:Has h K)(hq:K[q]? = some (i,.ob cs))(hw:ig P t cs off x=some fU):∃h',jo P h t (.ptr i off) x=some h'∧Has h' (K.set q (i,.ob fU)):=by
 obtain⟨⟨h1,h2⟩,_⟩:=o.at_ _ _ _ hq
 exact⟨h.put i (.cells fU),by simp only [jo,h2,ZB,hw,ZJ],jA o hq ⟨h1,by rw [dB,if_pos rfl]⟩⟩
end
theorem aP {x y:AV}(h:tB x y):aS x=y:=by
 unfold aS
 rw [h.1,h.2]; rfl
theorem bN:([]:List AV).map aS=[]:=rfl
theorem au {x y:AV}{xs ys:List AV}(a:aS x=y)(b:xs.map aS=ys):(x::xs).map aS=y::ys:=by
 rw [Z0,a,b]
theorem jQ {α:Type}{K L:List α}{q:Nat}{p:α}(h:L[q]? = some p):(K++L)[K.length+q]? = some p:=by
 rw [ZT (by omega),aaE,h]
theorem Cd {α:Type}{E:bQ α}{h:AHeap}{K:Mem}{l:List α}{cs:List AV}(o:Has h K)(hc:cs=E.l l)(hl:l.length≤1024:=by simp) :
  ∃i h',some (AV.rs h.next 0 l.length E.n,h.alloc (.cells cs))=some (AV.rs i 0 l.length E.n,h')∧Has h' ((i,.sl l.length E.n (E.l l))::K):=by
 subst hc
 exact⟨h.next,_,rfl,o.new (fun k hk=>by rw [AHeap.alloc,dB,if_neg (by omega)]) (aaM _) (.inr (ZI _)) (aas _) ⟨⟨bQ.bW,bQ.n9 (by omega)⟩,.inr ⟨by have:=o.pos; omega,[],by rw [AHeap.alloc,dB,if_pos rfl]; simp⟩⟩⟩
end Go.R
