/- Part of the proof: RRow, RStep, RWalk, RG1, RG2, RG3, RG4, RT, RG5, RG6, RG7. -/
import Derived.Test.YtifafejidnjckaaK3
import Derived.ProofKit
set_option linter.unusedVariables false
set_option linter.unusedSimpArgs false
set_option maxRecDepth 100000
open Bool renaming and_eq_true → Vu, false_eq_true → VB, or_eq_true → Wb
open List renaming getElem?_eq_some_iff → Vy, length_append → VA, length_set → VC, drop_eq_getElem_cons → VE, length_cons → VF, getElem?_append_left → VG, append_assoc → VI, replicate → VJ, all_eq_true → VK, getElem?_append_right → VL, mem_cons → VS, length_nil → VT, map_cons → VU, take_append_of_le_length → VW, mem_append → VX, map_append → VY, eq_nil_of_length_eq_zero → V3, take_of_length_le → V4, nil_append → V7, getElem?_cons_zero → V9, drop_zero → Wa, all_cons → Wf, length_take → Wt, getElem?_of_mem → Wu, getElem?_cons_succ → Wv, take_append_drop → WA, append_nil → WN, length_replicate → WO, ext_getElem? → WQ, getElem?_set → WR
open Nat renaming le_refl → Vv, zero_add → VO, lt_of_lt_of_le → VP, beq → V5, lt_succ_self → Wd, le_trans → We, mul_le_mul_right → Wi, add_assoc → Wm, eq_of_beq_eq_true → Wr, le_succ → Wy, add_mul → Wz, lt_succ_of_lt → WC, add_sub_cancel_left → WD, ble → WK, min_eq_left → WL, zero_lt_one → WM, add_comm → WT, add_zero → WV, sub_self → WW
open Option renaming bind_eq_some_iff → Vp, bind_some → Vq, map_eq_some_iff → Vr, map_some → Vw, isSome_none → WH
open Option.some renaming injEq → Vt
open Prod.mk renaming injEq → Vz
namespace Go.R
open Go
def y9 (P:Program)(F:TypeId→List AV→Prop):List Field→List AV→Prop
 | [],xs=>xs=[]
 | f::fs,xs=>∃a b,xs=a++b∧a.length=P.cellsOf f.type∧F f.type a∧y9 P F fs b
def Fits (P:Program):Nat→TypeId→List AV→Prop
 | 0,_,_=>False
 | n+1,t,xs=>
  match P.underlying t with
  | some .bool=>∃b,xs=[.bool b]
  | some (.int k)=>∃z,xs=[.int k z]∧k.min≤z∧z≤k.max
  | some .string=>∃s:ByteArray,xs=[.str s]∧s.size≤maxLen
  | some (.slice e)=>xs=[.nils]∨∃els:List (List AV),xs=[.fz els.flatten els.length false]∧els.length≤maxLen∧∀el∈els,el.length=P.cellsOf e∧Fits P n e el
  | some (.struct fs)=>y9 P (Fits P n) fs.toList xs
  | _=>False
def rq (P:Program):Nat→List Field→Bool
 | _,[]=>true
 | k,f::fs=>V5 f.offset k&&rq P (k+P.cellsOf f.type) fs
def mB (P:Program):Nat→TypeId→Bool
 | 0,_=>false
 | n+1,t=>
  match P.underlying t with
  | some .bool | some (.int _) | some .string=>true
  | some (.slice e)=>mB P n e
  | some (.struct fs)=>rq P 0 fs.toList&&V5 (P.cellsOf t) ((fs.toList.map fun f=>P.cellsOf f.type).sum)&&fs.toList.all fun f=>mB P n f.type
  | _=>false
theorem mapM_some {α β:Type}{f:α→Option β}:∀{l:List α} {ys:List β},l.mapM f=some ys→ys.length=l.length∧∀(i:Nat) (x:α),l[i]? = some x→∃y,ys[i]? = some y∧f x=some y
 | [],ys,h=>by
  simp at h; subst h
  exact⟨rfl,fun i x hx=>by simp at hx⟩
 | a::l,ys,h=>by
  simp only [List.mapM_cons,Option.bind_eq_bind,Vp,Option.pure_def,Vt] at h
  obtain⟨y,hy,zs,hz,rfl⟩:=h
  obtain⟨h1,h2⟩:=mapM_some hz
  refine⟨by simp [h1],fun i x hx=>?_⟩
  cases i with
  | zero=>simp at hx; subst hx; exact⟨y,rfl,hy⟩
  | succ i=>simpa using h2 i x (by simpa using hx)
theorem za {w:World}{a:Addr}{v:Value}(h:w.cell? a=some v):w.cell? ⟨a.block,a.off,none⟩=some v∧a.spot=none:=by
 unfold World.cell? at h ⊢
 split at h
 ·rename_i c t fr hb
  rw [hb]
  simp only at h ⊢
  cases hs:a.spot with
  | none=>rw [hs] at h; exact⟨by simpa using h,rfl⟩
  | some _=>rw [hs] at h; simp at h
 ·cases h
theorem mZ (a:Addr)(n:Nat):(a.add n).block=a.block∧(a.add n).off=a.off+n:=by
 unfold Addr.add
 split
 ·rename_i h; subst h; exact⟨rfl,rfl⟩
 ·exact⟨rfl,rfl⟩
theorem w5 {w:World}{base:Nat}{a:Addr}{n:Nat}{cs:List Value}(h:w.cells? base a n=some cs):cs.length=n∧∀i,i<n→w.cell? ⟨a.block,a.off+i,none⟩=cs[i]?∧(i=0→a.spot=none):=by
 unfold World.cells? at h
 split at h
 ·obtain⟨h1,h2⟩:=mapM_some h
  refine⟨by simpa using h1,fun i hi=>?_⟩
  obtain⟨y,hy,hc⟩:=h2 i i (by simp [hi])
  obtain⟨h3,h4⟩:=za hc
  rw [(mZ a i).1,(mZ a i).2] at h3
  refine⟨by rw [h3,hy],fun h0=>?_⟩
  subst h0
  simpa [Addr.add] using h4
 ·cases h
theorem qw {α:Type}{Q:Nat→α→Prop}:∀n,(∀i,i<n→∃x,Q i x)→∃l:List α,l.length=n∧∀i x,l[i]? = some x→Q i x
 | 0,_=>⟨[],rfl,fun i x h=>by simp at h⟩
 | n+1,h=>by
  obtain⟨l,h1,h2⟩:=qw n fun i hi=>h i (by omega)
  obtain⟨x,hx⟩:=h n (by omega)
  refine⟨l++[x],by simp [h1],fun i y hy=>?_⟩
  by_cases hi:i<n
  ·exact h2 i y (by rwa [VG (by omega)] at hy)
  ·rw [VL (by omega)] at hy
   have:i=n:=by
    have:=(Vy.1 hy).1
    simp at this; omega
   subst this
   simp [h1] at hy
   subst hy; exact hx
theorem Cells.append {c:Cx}{L:Nat→Prop}:∀{xs ys:List AV} {b o:Nat},Cells c L xs b o→Cells c L ys b (o+xs.length)→Cells c L (xs++ys) b o
 | [],ys,b,o,_,h=>by simpa using h
 | x::xs,ys,b,o,h,k=>⟨h.1,Cells.append h.2 (by simpa [Wm,WT 1] using k)⟩
theorem Cells.flatten {c:Cx}{L:Nat→Prop}{b size:Nat}:∀(els:List (List AV)) (o:Nat),(∀i el,els[i]? = some el→el.length=size∧Cells c L el b (o+i*size))→Cells c L els.flatten b o
 | [],o,_=>trivial
 | el::els,o,h=>by
  obtain⟨h1,h2⟩:=h 0 el rfl
  rw [List.flatten_cons]
  refine Cells.append (by simpa using h2) (Cells.flatten (size:=size) els _ fun i SN he=>?_)
  obtain⟨h3,h4⟩:=h (i+1) SN (by simpa using he)
  refine⟨h3,?_⟩
  rw [h1]
  rwa [show o+size+i*size=o+(i+1)*size by rw [Wz,Nat.one_mul]; omega]
section
variable {H:Type}{enc:TypeId × Value→H}{P:Program}{c:Cx}{sp:Nat→Bool}{held:Bool}
theorem qy {F:TypeId→List AV→Prop}{g:TypeId→List Value→Option (DataW H × List MemPlace)}(hg:∀t cs x,g t cs=some x→cs.length=P.cellsOf t→(∃u:Nat,u=0)→True) :
  ∀(fs:List Field) (k:Nat) (cs:List Value) (xs:List (DataW H × List MemPlace)),rq P k fs=true→(∀f∈fs,∀cs x,g f.type cs=some x→cs.length=P.cellsOf f.type→∃ys,VRs c none0 ys cs∧F f.type ys∧∀v∈cs,v.oneCell'=true)→
   (fs.mapM fun f=>g f.type ((cs.drop f.offset).take (P.cellsOf f.type)))=some xs→k+(fs.map fun f=>P.cellsOf f.type).sum≤cs.length→
   ∃ys,VRs c none0 ys ((cs.drop k).take ((fs.map fun f=>P.cellsOf f.type).sum))∧y9 P F fs ys∧∀v∈(cs.drop k).take ((fs.map fun f=>P.cellsOf f.type).sum),v.oneCell'=true
 | [],k,cs,xs,_,_,_,_=>⟨[],by simp [VRs],rfl,by simp⟩
 | f::fs,k,cs,xs,hc,hF,h,hl=>by
  simp only [rq,Vu,beq_nat,decide_eq_true_eq] at hc
  obtain⟨rfl,hc⟩:=hc
  simp only [List.mapM_cons,Option.bind_eq_bind,Vp,Option.pure_def,Vt] at h
  obtain⟨y,hy,zs,hz,rfl⟩:=h
  simp only [VU,List.sum_cons] at hl ⊢
  have hlen:((cs.drop f.offset).take (P.cellsOf f.type)).length=P.cellsOf f.type:=by simp; omega
  obtain⟨a,ha,SO,h1⟩:=hF f (by simp) _ _ hy hlen
  obtain⟨b,hb,SP,h2⟩:=qy hg fs (f.offset+P.cellsOf f.type) cs zs hc (fun f' Nr=>hF f' (by simp [Nr])) hz (by omega)
  have IG:(cs.drop f.offset).take (P.cellsOf f.type+(fs.map fun f=>P.cellsOf f.type).sum)=(cs.drop f.offset).take (P.cellsOf f.type)++((cs.drop (f.offset+P.cellsOf f.type)).take ((fs.map fun f=>P.cellsOf f.type).sum)):=by
   rw [List.take_add,List.drop_drop]
  rw [IG]
  refine⟨a++b,VRs.append ha hb,⟨a,b,rfl,?_,SO,SP⟩,fun v hv=>?_⟩
  ·rw [ha.length,hlen]
  ·rcases VX.1 hv with hv | hv
   ·exact h1 v hv
   ·exact h2 v hv
theorem pI (wi:∀id,c.h.get id=none):∀(m:Nat) (t:TypeId) (fuel:Nat) (cs:List Value) (d:DataW H) (ps:List MemPlace),mB P m t=true→DataW.trod enc P c.w 0 sp held fuel t cs=some (d,ps)→
  ∃xs,VRs c none0 xs cs∧Fits P m t xs∧∀v∈cs,v.oneCell'=true
 | 0,_,_,_,_,_,hB,_=>by simp [mB] at hB
 | m+1,t,0,cs,d,ps,hB,h=>by simp [DataW.trod] at h
 | m+1,t,fuel+1,cs,d,ps,hB,h=>by
  have hnl:∀id,¬Live c.h id:=fun id hl=>by have:=hl.2; rw [wi id] at this; cases this
  unfold mB at hB
  unfold Fits
  cases hu:P.underlying t with
  | none=>rw [hu] at hB; cases hB
  | some td=>
  rw [hu] at hB
  cases td<;>simp only at hB ⊢<;>try (cases hB; done)
  ·
   unfold DataW.trod at h
   rw [hu] at h
   split at h<;>first | (rename_i heq; cases heq; done) | skip
   all_goals try (rename_i heq _; cases heq; done)
   all_goals (first | (cases h; done) | skip)
   ·rename_i b _
    exact⟨[.bool b],⟨by simp [VR],trivial⟩,⟨b,rfl⟩,by simp [Value.oneCell']⟩
  ·rename_i k
   unfold DataW.trod at h
   rw [hu] at h
   split at h<;>first | (rename_i heq; cases heq; done) | skip
   all_goals try (rename_i heq _; cases heq; done)
   ·rename_i k' k2 n heq
    cases heq
    split at h
    ·rename_i hk
     obtain⟨rfl,MB⟩:=hk
     simp only [Lit.wf,Vu,decide_eq_true_eq] at MB
     exact⟨[.int k2 n],⟨by simp [VR],trivial⟩,⟨n,rfl,MB⟩,by simp [Value.oneCell']⟩
    ·cases h
   ·cases h
  ·
   unfold DataW.trod at h
   rw [hu] at h
   split at h<;>first | (rename_i heq; cases heq; done) | skip
   all_goals try (rename_i heq _; cases heq; done)
   ·rename_i s _
    split at h
    ·rename_i hs
     exact⟨[.str s],⟨by simp [VR],trivial⟩,⟨s,rfl,hs⟩,by simp [Value.oneCell']⟩
    ·cases h
   ·cases h
  ·
   rename_i e
   unfold DataW.trod at h
   rw [hu] at h
   split at h<;>first | (rename_i heq; cases heq; done) | skip
   all_goals try (rename_i heq _; cases heq; done)
   ·exact⟨[.nils],⟨by simp [VR],trivial⟩,.inl rfl,by simp [Value.oneCell']⟩
   ·rename_i e' a len cap heq
    cases heq
    simp only at h
    split at h
    rotate_left
    ·cases h
    rename_i hbound
    obtain⟨_,hlc,hcap⟩:=hbound
    rw [Vp] at h
    obtain⟨elems,Lc,_⟩:=h
    obtain⟨hn,hget⟩:=mapM_some Lc
    have key:∀i,i<len→∃el:List AV,el.length=P.cellsOf e∧Fits P m e el∧Cells c none0 el a.block (a.off+i*P.cellsOf e)∧(i=0→0<P.cellsOf e→a.spot=none):=by
     intro i hi
     obtain⟨y,_,hy⟩:=hget i i (by simp [hi])
     rw [Vp] at hy
     obtain⟨SQ,hcs,hy⟩:=hy
     obtain⟨hl,ny⟩:=w5 hcs
     obtain⟨el,hv,hf,h1⟩:=pI wi m e fuel SQ y.1 y.2 hB hy
     refine⟨el,by rw [hv.length,hl],hf,Cells.of_vals hv (fun j hj=>?_) h1,fun h0 oy=>?_⟩
     ·have:=(ny j (by omega)).1
      rwa [(mZ a _).1,(mZ a _).2] at this
     ·subst h0
      have:=(ny 0 oy).2 rfl
      simpa [Addr.add] using this
    obtain⟨els,hl,Cb⟩:=qw len key
    refine⟨[.fz els.flatten els.length false],⟨?_,trivial⟩,.inr ⟨els,rfl,by omega,fun el Lc=>?_⟩,by simp [Value.oneCell']⟩
    ·simp only [VR]
     refine⟨some a,cap,by rw [hl],by omega,by simp,.inl rfl,?_⟩
     by_cases II:els.flatten=[]
     ·exact .inl II
     ·have oy:0<len∧0<P.cellsOf e:=by
       cases els with
       | nil=>simp at II
       | cons el els=>
        refine⟨by simp at hl; omega,?_⟩
        rcases Nat.eq_zero_or_pos (P.cellsOf e) with h0 | h0
        ·exfalso
         apply II
         rw [List.flatten_eq_nil_iff]
         intro l n6
         obtain⟨i,hi⟩:=Wu n6
         have:=(Cb i l hi).1
         exact V3 (by omega)
        ·exact h0
      have HL:a.spot=none:=by
       cases els with
       | nil=>simp at hl; omega
       | cons el els=>exact (Cb 0 el rfl).2.2.2 rfl oy.2
      refine .inr ⟨a.block,a.off,?_,⟨fun id hl=>absurd hl (hnl id),fun h=>h.elim⟩,by simp,Cells.flatten els a.off fun i el hi=>⟨(Cb i el hi).1,(Cb i el hi).2.2.1⟩⟩
      cases a; simp at HL; subst HL; rfl
    ·obtain⟨i,hi⟩:=Wu Lc
     exact⟨(Cb i el hi).1,(Cb i el hi).2.1⟩
   ·cases h
  ·
   rename_i fs
   simp only [Vu,beq_nat,decide_eq_true_eq,VK] at hB
   obtain⟨⟨NI,NJ⟩,Ld⟩:=hB
   simp only [DataW.trod,hu] at h
   split at h
   rotate_left
   ·cases h
   rename_i hlen
   rw [Vr] at h
   obtain⟨xs,hx,_⟩:=h
   obtain⟨ys,h1,h2,h3⟩:=qy (P:=P) (c:=c) (F:=Fits P m) (g:=fun t cs=>DataW.trod enc P c.w 0 sp held fuel t cs) (fun _ _ _ _ _ _=>trivial) fs.toList 0 cs xs NI
    (fun f hf cs x hx _=>pI wi m f.type fuel cs x.1 x.2 (Ld f hf) hx) hx (by omega)
   have kP:(cs.drop 0).take ((fs.toList.map fun f=>P.cellsOf f.type).sum)=cs:=by
    rw [Wa,←NJ,←hlen,List.take_length]
   rw [kP] at h1 h3
   exact⟨ys,h1,h2,h3⟩
def jR (P:Program)(t:TypeId)(xs:List AV):AV:=
 match P.underlying t with
 | some (.struct _)=>.agg xs
 | _=>xs.headD .any
def oL (P:Program)(m:Nat):List TypeId→List AV→Prop
 | [],[]=>True
 | t::ts,x::vk=>(∃xs,x=jR P t xs∧Fits P m t xs)∧oL P m ts vk
 | _,_=>False
theorem Cc {w:World}{m:Nat}{t:TypeId}{v:Value}{base:Nat}(hB:mB P m t=true)(hs:∀fs,P.underlying t≠some (.struct fs))(h:Value.okWide P w .any base t v):v.cells.toList=[v]:=by
 cases m with
 | zero=>simp [mB] at hB
 | succ m=>
 unfold mB at hB
 unfold Value.okWide at h
 cases hu:P.underlying t with
 | none=>rw [hu] at hB; cases hB
 | some td=>
 rw [hu] at hB h
 cases td<;>simp only at hB h<;>first
  | (cases hB; done)
  | (exact absurd hu (hs _))
  | (cases v<;>simp only [Cell.okWide,Cell.ok,hu] at h<;>first | (exact h.elim) | rfl | (simp [Value.cells]))
theorem DP (wi:∀id,c.h.get id=none){m:Nat}{t:TypeId}{v:Value}{d:DataW H}{ps:List MemPlace}{base:Nat}(hB:mB P m t=true)(ho:Value.okWide P c.w .any base t v)(h:DataW.Trod enc P c.w 0 sp held t v d ps) :
  ∃xs,Fits P m t xs∧VR c none0 (jR P t xs) v:=by
 obtain⟨fuel,h⟩:=h
 obtain⟨xs,h1,h2,_⟩:=pI wi m t fuel _ d ps hB h
 refine⟨xs,h2,?_⟩
 by_cases hs:∃fs,P.underlying t=some (.struct fs)
 ·obtain⟨fs,hs⟩:=hs
  unfold Value.okWide at ho
  rw [hs] at ho
  obtain⟨cs,rfl,_⟩:=ho
  unfold jR
  rw [hs]
  simp only [VR]
  exact⟨cs,rfl,h1⟩
 ·have J7:∀fs,P.underlying t≠some (.struct fs):=fun fs h=>hs ⟨fs,h⟩
  have hc:=Cc hB J7 ho
  rw [hc] at h1
  have hx:jR P t xs=xs.headD .any:=by
   unfold jR
   split
   ·rename_i fs h; exact absurd h (J7 fs)
   ·rfl
  rw [hx]
  cases xs with
  | nil=>exact h1.elim
  | cons x xs=>exact h1.1
theorem w6 (wi:∀id,c.h.get id=none){m base:Nat}:∀(ts:List TypeId) (vs:List Value) (ds:List (DataW H)) (ps:List MemPlace),(∀t∈ts,mB P m t=true)→(∀(j:Nat) t v,ts[j]? = some t→vs[j]? = some v→Value.okWide P c.w .any base t v)→
  DataW.TrodAll enc P c.w 0 sp held ts vs ds ps→∃vk,oL P m ts vk∧VRs c none0 vk vs
 | [],[],[],_,_,_,_=>⟨[],trivial,trivial⟩
 | t::ts,v::vs,d::ds,ps,hB,ho,h=>by
  obtain⟨p,q,h1,h2,_⟩:=h
  obtain⟨xs,h3,h4⟩:=DP wi (hB t (by simp)) (ho 0 t v rfl rfl) h1
  obtain⟨vk,h5,h6⟩:=w6 wi ts vs ds q (fun t ht=>hB t (by simp [ht])) (fun j t v hj hv=>ho (j+1) t v (by simpa using hj) (by simpa using hv)) h2
  exact⟨jR P t xs::vk,⟨⟨xs,rfl,h3⟩,h5⟩,h4,h6⟩
 | [],[],_::_,_,_,_,h=>h.elim
 | [],_::_,_,_,_,_,h=>by cases h
 | _::_,[],_,_,_,_,h=>by cases h
 | _::_,_::_,[],_,_,_,h=>by cases h
theorem kq (hl:laidOutB P=true){W W':World}{Qt:Nat→Bool}:∀{ts:List TypeId} {vs:List Value} {ds:List (DataW H)} {ps:List MemPlace},(∀t∈ts,P.readableRec t=true∧t<P.types.size)→
  DataW.TrodAll enc P W 0 (fun _=>true) true ts vs ds ps→(∀p∈ps,W.sameAt W' p)→(∀p∈ps,Qt p.block=true)→DataW.TrodAll enc P W' 0 Qt true ts vs ds ps
 | [],[],[],_,_,h,_,_=>h
 | t::ts,v::vs,d::ds,ps,hr,h,hs,hp=>by
  obtain⟨p,q,h1,h2,rfl⟩:=h
  exact⟨p,q,WideElems.Trod_stays hl (hr t (by simp)).1 (hr t (by simp)).2 h1 (fun x hx=>hs x (by simp [hx])) (fun x hx=>hp x (by simp [hx])),
   kq hl (fun t ht=>hr t (by simp [ht])) h2 (fun x hx=>hs x (by simp [hx])) (fun x hx=>hp x (by simp [hx])),rfl⟩
 | [],[],_::_,_,_,h,_,_=>h.elim
 | [],_::_,_,_,_,h,_,_=>by cases h
 | _::_,[],_,_,_,h,_,_=>by cases h
 | _::_,_::_,[],_,_,h,_,_=>by cases h
theorem Cd {f:Func}{s:ChangeSpec}{apart fresh handsOn again:Bool}{W W':World}{args:Array Value}{ds gs:List (DataW H)}{before:List MemPlace}{tb:TypeId}
  (hl:laidOutB P=true) (hr:∀t∈f.params.toList,P.readableRec t=true∧t<P.types.size) (hW:DataW.Whole enc P f.params.toList s.vars apart W args.toList ds gs before) (hv:s.vars=[])
  (DQ:f.resultTypes = #[tb]) (MC:P.underlying tb=some .bool) (Le:(s.fn H (ds++gs))={results:=[.lit (.bool true)],args:=ds}) (hb:RowKit.Below W.heap.size W W') :
  s.post enc P f apart fresh handsOn again W args (.bool true) W':=by
 have hlt:=hW.lt
 have hW0:=hW
 obtain⟨p,q,hA,hV,Qu,hz,hn⟩:=hW
 rw [hv] at hV
 have NK:gs=[]∧q=[]:=by
  cases gs with
  | nil=>exact⟨rfl,hV⟩
  | cons g gs=>exact hV.elim
 obtain⟨rfl,rfl⟩:=NK
 have NL:before=p:=by simpa using Qu
 subst NL
 have HM:∀x∈before,W.sameAt W' x:=fun x hx=>hb.same (hlt x hx)
 have Lf:(Value.bool true).resultList f.resultTypes.size=[.bool true]:=by rw [DQ]; rfl
 have HN:∀(b:Nat) (sp:Nat→Bool) (hd:Bool),DataW.TrodAll enc P W' b sp hd f.resultTypes.toList ((Value.bool true).resultList f.resultTypes.size) [.lit (.bool true)] []:=by
  intro b sp hd
  rw [Lf,DQ]
  exact ChangeShapes.trodAll_mk1 (RowKit.shut_bool MC true)
 refine⟨ds,[],before,[],before,[],hW0,?_,?_,?_,?_,fun _=>⟨?_,?_⟩⟩
 ·rw [Le]; exact HN _ _ _
 ·rw [Le]
  exact kq hl hr hA HM (fun x hx=>by simpa using hlt x hx)
 ·rw [Le,hv]; rfl
 ·exact hb.frame _
 ·exact RowKit.ok_one DQ rfl (RowKit.okWide_bool_mk MC true)
 ·refine⟨_,[],before,⟨[]++before,[],ChangeShapes.trodAll_append (kq hl hr hA HM (fun _ _=>rfl)) (HN 0 _ _),by rw [hv]; rfl,by simp,fun b off hx=>?_,hn⟩,fun p hp _=>hp⟩
  rw [hb.frozen (p:=⟨b,off,none⟩) (hlt _ hx)]
  exact hz b off hx
theorem Ext.below {c c':Cx}(e:Ext c none0 c' none0):RowKit.Below c.base c.w c'.w:=⟨e.os,e.tape,e.output,e.size,fun b hb=>e.exact b hb⟩
theorem tz {cf:CallF}{y4:FuncId}{f:Func}{s:ChangeSpec}{apart fresh handsOn again:Bool}{m:Nat}{tb:TypeId}
  (hl:laidOutB P=true) (hr:∀t∈f.params.toList,P.readableRec t=true∧t<P.types.size) (hB:∀t∈f.params.toList,mB P m t=true) (hv:s.vars=[]) (DQ:f.resultTypes = #[tb]) (MC:P.underlying tb=some .bool)
  (Le:∀ds:List (DataW H),ds.length=f.params.size→(s.fn H ds)={results:=[.lit (.bool true)],args:=ds})
  (hcf:∀vk,oL P m f.params.toList vk→∃cf h',CallOK P cf∧cf y4 vk bz=some (.bool true,h'))
  {W:World} {base:Nat} {args:Array Value} {ds gs:List (DataW H)} {before:List MemPlace} (dT:∀(j:Nat) t v,f.params[j]? = some t→args[j]? = some v→Value.okWide P W .any base t v)
  (hW:DataW.Whole enc P f.params.toList s.vars apart W args.toList ds gs before) :
  Calls P y4 args W fun e W'=>∃v,e = .returned v∧s.post enc P f apart fresh handsOn again W args v W':=by
 have hW0:=hW
 obtain⟨p,q,hA,hV,Qu,_,_⟩:=hW
 let c:Cx:=⟨fun _=>(0,0),bz,W,W.heap.size⟩
 obtain⟨vk,h1,h2⟩:=w6 (c:=c) (P:=P) (m:=m) (base:=base) (fun _=>rfl) f.params.toList args.toList ds p hB (fun j t v hj hv=>dT j t v (by simpa using hj) (by simpa using hv)) hA
 obtain⟨cf,h',n9,NM⟩:=hcf vk h1
 have hnl:∀id,¬Live c.h id:=fun id hl=>by have:=hl.2; cases this
 have hcall:=(n9 y4 vk bz _ _ NM).2 none0 c args.toList rfl (Vv _) ⟨fun id o ho=>(by cases ho),fun id o ho=>(by cases ho),fun id _ hl _ _=>absurd hl (hnl id),fun id hl=>absurd hl (hnl id),fun b hb=>hb.elim,fun id hl=>absurd hl (hnl id),fun _=>WM⟩ h2
 rw [Array.toArray_toList] at hcall
 have hlen:∀(ts:List TypeId) (vs:List Value) (ds:List (DataW H)) (p:List MemPlace),DataW.TrodAll enc P W 0 (fun _=>true) true ts vs ds p→ds.length=ts.length:=by
  intro ts
  induction ts with
  | nil=>intro vs ds p h; cases vs<;>cases ds<;>first | rfl | (cases h; done) | exact h.elim
  | cons t ts ih=>intro vs ds p h; cases vs<;>cases ds<;>first | (cases h; done) | (obtain⟨_,_,_,h2,_⟩:=h; simp [ih _ _ _ h2])
 have NK:gs=[]:=by
  rw [hv] at hV
  cases gs with
  | nil=>rfl
  | cons g gs=>exact hV.elim
 refine hcall.mono ?_
 rintro e w' ⟨c',v,rfl,rfl,hh,zR,hrel,Is⟩
 simp only [VR] at zR
 subst zR
 refine⟨_,rfl,Cd hl hr hW0 hv DQ MC ?_ Is.below⟩
 rw [NK,WN]
 exact Le ds (by rw [hlen _ _ _ _ hA]; simp)
end
end Go.R
namespace Go.R
open Go
section
variable {P:Program}{cf:CallF}{aE ds:List Nat}{s:RS}{d:Option Tmp}{t:TypeId}{p:String}{a:Array Edge}{g:Option (Nat × Bool)}{ops:List Oper}{ρ:Nat→AV}{bx:Nat→Option (List AV)}{h:AHeap}
variable {A:b5}{m:Nat}{st:St}
end
end Go.R
namespace Go.R
open Go
def sub:List Nat→Code→Code
 | [],c=>c
 | 0::p,.seq a _=>sub p a
 | _::p,.seq _ b=>sub p b
 | 0::p,.cond _ a _=>sub p a
 | _::p,.cond _ _ b=>sub p b
 | _::p,.block _ a=>sub p a
 | _::p,.loop a=>sub p a
 | _,c=>c
def b8 (f:Func):Code:=f.body.getD .skip
end Go.R
namespace Go.R
open Go
section
variable (P:Program)
def bl (h:AHeap)(t:TypeId)(x:AV):Option AV:=jG P (fun _=>none) h t x
def iR (h:AHeap)(t:TypeId)(a x:AV):Option AHeap:=
 match a with
 | .ptr id off=>(h.get id).bind fun | .cells cs=>(gO P t cs off x).map fun fi=>h.put id (.cells fi) | _=>none
 | _=>none
def Aj (cf:CallF)(f:AV)(as:List AV)(h:AHeap):Option (AV × AHeap):=
 match f with
 | .fn f cap=>if as.all AV.kF then cf f (as++cap) h else none
 | _=>none
def w7 (h:AHeap)(cs:List AV):Option (AV × AHeap):=if cs.all AV.bR then some (.ptr h.next 0,h.alloc (.cells cs)) else none
def Ce (aE:List Nat)(d:Option Nat):Bool:=match d with | some d=>!aE.contains d | none=>false
def DR (aE:List Nat)(h:AHeap)(o:Oper)(t:TypeId)(x:Option AV):Option (AV × AHeap):=
 x.bind fun x=>(nI P aE o t x).map fun (cs,n,z)=>(.rs h.next 0 n z,h.alloc (.cells cs))
def IJ (e:Operand→AV)(h:AHeap)(o:Oper)(z:AV):Prop:=
 match o.op with
 | .move x | .assign x=>e x=z
 | .load t a=>bl P h t (e a)=some z
 | .binOp op t x y _=>mh P op t (e x) (e y)=some z
 | .unOp op _ x=>((e x).gj.bind fun a=>(iy P (Op.unary op a)).bind og)=some z
 | .convert a b x=>mg P h a b (e x)=some z
 | .slice t x lo hi mx=>lg P t (e x) (lo.map e) (hi.map e) (mx.map e)=some z
 | .indexAddr t x i=>eV P t (e x) (e i)=some z
 | .index t x i=>pv P t (e x) (e i)=some z
 | .lookup t m k ok=>fU P h t (e m) (e k) ok=some z
 | .call {callee:=.builtin .len,args,argTypes}=>match argTypes.toList,args.toList.map e with
  | [t],[x]=>rK P h t x=some z
  | _,_=>False
 | _=>False
def IK (cf:CallF)(aE:List Nat)(e:Operand→AV)(h:AHeap)(o:Oper)(z:AV)(h':AHeap):Prop:=
 match o.op with
 | .store t a x=>bif o.dst.isSome then False else iR P h t (e a) (e x)=some h'
 | .alloc t=>bif Ce aE o.dst then (iz P t).bind (fun z=>w7 h (yL aE o.dst z.cells))=some (z,h') else False
 | .box _ x=>bif Ce aE o.dst then w7 h (e x).cells=some (z,h') else False
 | .buildSlice t n ps=>DR P aE h o t (gD P t n (ps.toList.map fun (i,x)=>(i,e x)))=some (z,h')
 | .makeMap _ none=>(AV.mp h.next,h.alloc (.map []))=(z,h')
 | .makeSlice t l c=>gE P h t (e l) (e c)=some (z,h')
 | .mapUpdate t m k x | .insert t m k x=>bif o.dst.isSome then False else iC P h t (e m) (e k) (e x)=some h'
 | .call {callee:=.builtin .append,args,argTypes}=>match argTypes.toList,args.toList.map e with
  | [t,t2],[x,y]=>dE P h t t2 x y=some (z,h')
  | _,_=>False
 | .call {callee:=.builtin .copy,args,argTypes}=>match argTypes.toList,args.toList.map e with
  | [t,t2],[x,y]=>p7 P h t t2 x y=some (z,h')
  | _,_=>False
 | .call {callee:=.value f,args,..}=>bif Ks aE o.dst then (Aj cf (e f) (args.toList.map e) h).bind (fun x=>jb 0 x.2 x.1)=some (z,h') else Aj cf (e f) (args.toList.map e) h=some (z,h')
 | .call {callee:=.builtin .clear,args,argTypes}=>match argTypes.toList,args.toList.map e with
  | [t],[x]=>(lj P h t x).map (fun h=>(AV.tup [],h))=some (z,h')
  | _,_=>False
 | _=>False
end
abbrev GA:=List (Nat × AV × Option AHeap)
def qJ (P:Program)(cf:CallF)(aE:List Nat)(ops:List Oper):RS→Nat→List Oper→GA→Option (List lW × RS × Prop)
 | s,_,[],[]=>some ([],s,True)
 | _,_,[],_::_=>none
 | s,i,o::os,zs=>
  (gP ops s.ρ o).bind fun w=>
   bif w then
    match zs with
    | []=>(uM P cf aE (ops.filterMap (·.dst)) s o).bind fun s1=>(qJ P cf aE ops s1 (i+1) os []).map fun (l,r,p)=>({o,f:=bf aE (bL s.ρ) o,s,s':=s1}::l,r,p)
    | (j,z,oh)::ub=>
     bif V5 i j then
      match oh with
      | none=>(qJ P cf aE ops (s.set o.dst z) (i+1) os ub).map fun (l,r,p)=>({o,f:=bf aE (bL s.ρ) o,s,s':=s.set o.dst z}::l,r,IJ P (bL s.ρ) s.h o z∧p)
      | some h'=>(qJ P cf aE ops (({s with h:=h'}:RS).set o.dst z) (i+1) os ub).map fun (l,r,p)=>({o,f:=bf aE (bL s.ρ) o,s,s':=({s with h:=h'}:RS).set o.dst z}::l,r,IK P cf aE (bL s.ρ) s.h o z h'∧p)
     else (uM P cf aE (ops.filterMap (·.dst)) s o).bind fun s1=>(qJ P cf aE ops s1 (i+1) os zs).map fun (l,r,p)=>({o,f:=bf aE (bL s.ρ) o,s,s':=s1}::l,r,p)
   else (qJ P cf aE ops (s.set o.dst (.tup [])) (i+1) os zs).map fun (l,r,p)=>({o,f:={},s,s':=s.set o.dst (.tup [])}::l,r,p)
section
variable {P:Program}{cf:CallF}{aE:List Nat}
theorem DS {h:AHeap}{t:TypeId}{x z:AV}{bx:Nat→Option (List AV)}(hh:bl P h t x=some z):jG P bx h t x=some z:=by
 cases x<;>first | exact hh | (simp [bl,jG] at hh)
theorem GB {s:RS}{o:Oper}{z:AV}(h:IJ P (bL s.ρ) s.h o z)(ds:List Nat):uM P cf aE ds s o=some (s.set o.dst z):=by
 unfold IJ at h
 unfold uM yM
 dsimp only
 split at h
 ·rename_i ho; rw [ho]; simp only [h]
 ·rename_i ho; rw [ho]; simp only [h]
 ·rename_i ho; rw [ho]; simp only [DS h,Vw]
 ·rename_i ho; rw [ho]; simp only [h,Vw]
 ·rename_i ho; rw [ho]; simp only [h,Vw]
 ·rename_i ho; rw [ho]; simp only [h,Vw]
 ·rename_i ho; rw [ho]; simp only [h,Vw]
 ·rename_i ho; rw [ho]; simp only [h,Vw]
 ·rename_i ho; rw [ho]; simp only [h,Vw]
 ·rename_i ho; rw [ho]; simp only [h,Vw]
 ·rename_i ho
  rw [ho]
  split at h
  ·rename_i h1 h2
   simp only [h1,h2,fP,h,Vw]
  ·exact h.elim
 ·exact h.elim
theorem w8 {s:RS}{o:Oper}{cs:List AV}{z:AV}{h':AHeap}(hn:Ce aE o.dst=true)(h:w7 s.h cs=some (z,h'))(ds:List Nat):ic s aE ds o cs=some (({s with h:=h'}:RS).set o.dst z):=by
 unfold w7 at h
 split at h
 rotate_left
 ·cases h
 rename_i n9
 simp only [Vt,Vz] at h
 obtain⟨rfl,rfl⟩:=h
 unfold ic
 rw [if_pos n9]
 unfold Ce at hn
 split at hn
 ·rename_i d hd
  rw [hd]
  have:aE.contains d=false:=by simpa using hn
  simp only [this,VB,if_false]
 ·cases hn
theorem GC {s:RS}{o:Oper}{z:AV}{h':AHeap}(h:IK P cf aE (bL s.ρ) s.h o z h')(ds:List Nat):uM P cf aE ds s o=some (({s with h:=h'}:RS).set o.dst z):=by
 unfold IK at h
 unfold uM yM
 dsimp only
 split at h
 ·rename_i t a x ho
  rw [ho]
  cases hd:o.dst with
  | some d=>rw [hd] at h; exact h.elim
  | none=>
   rw [hd] at h
   simp only [WH,cond_false] at h
   simp only [WH,VB,if_false]
   unfold iR at h
   split at h
   ·rename_i id off he
    rw [he]
    simp only [Vp] at h ⊢
    obtain⟨ob,hob,h⟩:=h
    refine⟨ob,hob,?_⟩
    split at h
    ·rw [Vr] at h ⊢
     obtain⟨fi,hcs,rfl⟩:=h
     exact⟨fi,hcs,rfl⟩
    ·cases h
   ·cases h
 ·rename_i t ho
  rw [ho]
  cases hn:Ce aE o.dst with
  | false=>rw [hn] at h; exact h.elim
  | true=>
   rw [hn] at h
   simp only [cond_true,Vp] at h
   obtain⟨z0,h1,h2⟩:=h
   simp only [h1,Vq]
   exact w8 hn h2 ds
 ·rename_i t x ho
  rw [ho]
  cases hn:Ce aE o.dst with
  | false=>rw [hn] at h; exact h.elim
  | true=>
   rw [hn] at h
   exact w8 hn h ds
 ·rename_i t n ps ho
  rw [ho]
  unfold DR at h
  simp only [Vp,Vr] at h
  obtain⟨x,hx,⟨cs,k,q⟩,ht,he⟩:=h
  simp only [Vz] at he
  obtain⟨rfl,rfl⟩:=he
  simp only [hx,Vw,px,ht]
 ·rename_i ho
  rw [ho]
  simp only [Vz] at h
  obtain⟨rfl,rfl⟩:=h
  rfl
 ·rename_i ho; rw [ho]; simp only [h,Vw]
 ·rename_i t m k x ho
  rw [ho]
  cases hd:o.dst with
  | some d=>rw [hd] at h; exact h.elim
  | none=>
   rw [hd] at h
   simp only [WH,cond_false] at h
   simp only [WH,VB,if_false,h,Vw]
   rfl
 ·rename_i t m k x ho
  rw [ho]
  cases hd:o.dst with
  | some d=>rw [hd] at h; exact h.elim
  | none=>
   rw [hd] at h
   simp only [WH,cond_false] at h
   simp only [WH,VB,if_false,h,Vw]
   rfl
 ·rename_i ho
  rw [ho]
  split at h
  ·rename_i h1 h2
   simp only [h1,h2,fP,h,Vw]
  ·exact h.elim
 ·rename_i ho
  rw [ho]
  split at h
  ·rename_i h1 h2
   simp only [h1,h2,fP,h,Vw]
  ·exact h.elim
 ·rename_i f args Ad ho
  rw [ho]
  have key:∀{x:AV × AHeap},Aj cf (bL s.ρ f) (args.toList.map (bL s.ρ)) s.h=some x→uL aE o.dst x=some (z,h')→
    (match bL s.ρ f with
     | .fn f cap=>if (args.toList.map (bL s.ρ)).all AV.kF then ((cf f (args.toList.map (bL s.ρ)++cap) s.h).bind (uL aE o.dst)).map fun (r,h)=>({s with h}:RS).set o.dst r else none
     | _=>none)=some (({s with h:=h'}:RS).set o.dst z):=by
   intro x hx hm
   unfold Aj at hx
   split at hx
   ·rename_i g cap he
    try rw [he]
    try dsimp only
    split at hx
    ·rename_i n9
     simp only [n9,if_true,hx,Vq,hm,Vw]
    ·cases hx
   ·cases hx
  cases hm:Ks aE o.dst with
  | false=>
   rw [hm,cond_false] at h
   exact key h (by unfold uL; rw [hm]; rfl)
  | true=>
   rw [hm,cond_true,Vp] at h
   obtain⟨x,h1,h2⟩:=h
   exact key h1 (by unfold uL; rw [hm,cond_true]; exact h2)
 ·rename_i ho
  rw [ho]
  split at h
  ·rename_i h1 h2
   rw [Vr] at h
   obtain⟨g,hg,he⟩:=h
   simp only [Vz] at he
   obtain⟨rfl,rfl⟩:=he
   simp only [h1,h2,fP,hg,Vw]
  ·exact h.elim
 ·exact h.elim
theorem vl {ops:List Oper}:∀{l:List Oper} {s r:RS} {i:Nat} {zs:GA} {es:List lW} {p:Prop},qJ P cf aE ops s i l zs=some (es,r,p)→p→oo P cf aE ops s l=some (es,r)∧qD P cf aE ops s l=some r
 | [],s,r,i,[],es,p,h,_=>by
  simp only [qJ,Vt,Vz] at h
  obtain⟨rfl,rfl,rfl⟩:=h
  exact⟨rfl,rfl⟩
 | [],s,r,i,_::_,es,p,h,_=>by simp [qJ] at h
 | o::os,s,r,i,zs,es,p,h,hp=>by
  simp only [qJ,Vp] at h
  obtain⟨w,hw,h⟩:=h
  have fin:∀(s1:RS) (l:List lW) (ub:GA) (q:Prop),(if w then uM P cf aE (ops.filterMap (·.dst)) s o else some (s.set o.dst (.tup [])))=some s1→qJ P cf aE ops s1 (i+1) os ub=some (l,r,q)→q→
    oo P cf aE ops s (o::os)=some ({o,f:=if w then bf aE (bL s.ρ) o else {},s,s':=s1}::l,r)∧qD P cf aE ops s (o::os)=some r:=by
   intro s1 l ub q h1 h2 hq
   obtain⟨h3,h4⟩:=vl h2 hq
   refine⟨?_,?_⟩
   ·simp only [oo,hw,Vq,h1,h3,Vw]
   ·simp only [qD,mi,hw,Vq,h1,h4]
  cases w with
  | false=>
   simp only [cond_false,Vr] at h
   obtain⟨⟨l,r',q⟩,h2,he⟩:=h
   simp only [Vz] at he
   obtain⟨rfl,rfl,rfl⟩:=he
   simpa using fin _ l zs q (by simp) h2 hp
  | true=>
   simp only [cond_true] at h
   split at h
   ·simp only [Vp,Vr] at h
    obtain⟨s1,h1,⟨l,r',q⟩,h2,he⟩:=h
    simp only [Vz] at he
    obtain⟨rfl,rfl,rfl⟩:=he
    simpa using fin _ l [] q (by simpa using h1) h2 hp
   ·rename_i j z oh ub
    cases hj:V5 i j with
    | false=>
     rw [hj] at h
     simp only [cond_false,Vp,Vr] at h
     obtain⟨s1,h1,⟨l,r',q⟩,h2,he⟩:=h
     simp only [Vz] at he
     obtain⟨rfl,rfl,rfl⟩:=he
     simpa using fin _ l _ q (by simpa using h1) h2 hp
    | true=>
     rw [hj] at h
     simp only [cond_true] at h
     split at h
     ·simp only [Vr] at h
      obtain⟨⟨l,r',q⟩,h2,he⟩:=h
      simp only [Vz] at he
      obtain⟨rfl,rfl,rfl⟩:=he
      simpa using fin _ l _ q (by simpa using GB hp.1 _) h2 hp.2
     ·simp only [Vr] at h
      obtain⟨⟨l,r',q⟩,h2,he⟩:=h
      simp only [Vz] at he
      obtain⟨rfl,rfl,rfl⟩:=he
      simpa using fin _ l _ q (by simpa using GC hp.1 _) h2 hp.2
end
def qK (s:RS):List (Nat × Option Nat × Nat)→List (AV × AHeap)→Option (RS × Prop)
 | [],_=>some (s,True)
 | (t,i,k)::ps,zs=>
  match i with
  | none=>
   match k,s.ρ t,zs with
   | 0,.rs id off n z,(y,h')::ub=>(qK {s with h:=h',ρ:=fun u=>bif V5 u t then y else s.ρ u} ps ub).map fun (r,p)=>(r,jb 0 s.h (.rs id off n z)=some (y,h')∧p)
   | k,x,zs=>(jb k s.h x).bind fun (y,h')=>qK {s with h:=h',ρ:=fun u=>bif V5 u t then y else s.ρ u} ps zs
  | some i=>
   match s.bx t with
   | some cs=>(cs[i]?).bind fun x=>
    match k,x,zs with
    | 0,.rs id off n z,(y,h')::ub=>(qK {s with h:=h',bx:=fun u=>bif V5 u t then some (cs.set i y) else s.bx u} ps ub).map fun (r,p)=>(r,jb 0 s.h (.rs id off n z)=some (y,h')∧p)
    | k,x,zs=>(jb k s.h x).bind fun (y,h')=>qK {s with h:=h',bx:=fun u=>bif V5 u t then some (cs.set i y) else s.bx u} ps zs
   | none=>none
theorem rr:∀{ps:List (Nat × Option Nat × Nat)} {s r:RS} {zs:List (AV × AHeap)} {p:Prop},qK s ps zs=some (r,p)→p→kH s ps=some r
 | [],s,r,zs,p,h,_=>by
  simp only [qK,Vt,Vz] at h
  obtain⟨rfl,rfl⟩:=h
  rfl
 | (t,i,k)::ps,s,r,zs,p,h,hp=>by
  cases i with
  | none=>
   have fin:∀(y:AV) (h':AHeap) (ub:List (AV × AHeap)) (q:Prop),jb k s.h (s.ρ t)=some (y,h')→qK {s with h:=h',ρ:=fun u=>bif V5 u t then y else s.ρ u} ps ub=some (r,q)→q→kH s ((t,none,k)::ps)=some r:=by
    intro y h' ub q h1 h2 hq
    simp only [kH,uP,h1,Vw,Vq]
    exact rr h2 hq
   simp only [qK] at h
   split at h
   ·rename_i id off n z y h' ub hx
    rw [Vr] at h
    obtain⟨⟨r',q⟩,h2,he⟩:=h
    simp only [Vz] at he
    obtain⟨rfl,rfl⟩:=he
    exact fin y h' ub q (by rw [hx]; exact hp.1) h2 hp.2
   ·rw [Vp] at h
    obtain⟨⟨y,h'⟩,h1,h2⟩:=h
    exact fin y h' _ p h1 h2 hp
  | some i=>
   simp only [qK] at h
   split at h
   rotate_left
   ·cases h
   rename_i cs hcs
   rw [Vp] at h
   obtain⟨x,hx,h⟩:=h
   have fin:∀(y:AV) (h':AHeap) (ub:List (AV × AHeap)) (q:Prop),jb k s.h x=some (y,h')→qK {s with h:=h',bx:=fun u=>bif V5 u t then some (cs.set i y) else s.bx u} ps ub=some (r,q)→q→kH s ((t,some i,k)::ps)=some r:=by
    intro y h' ub q h1 h2 hq
    simp only [kH,uP,hcs,hx,Vq,h1,Vw]
    exact rr h2 hq
   split at h
   ·rename_i id off n z y h' ub
    rw [Vr] at h
    obtain⟨⟨r',q⟩,h2,he⟩:=h
    simp only [Vz] at he
    obtain⟨rfl,rfl⟩:=he
    exact fin y h' ub q hp.1 h2 hp.2
   ·rw [Vp] at h
    obtain⟨⟨y,h'⟩,h1,h2⟩:=h
    exact fin y h' _ p h1 h2 hp
def lW.ru (x y:lW):Bool:=
 (match x.f.wb with
  | some k=>!y.f.rb.contains k&&y.f.wb != some k
  | none=>true) &&
 (!x.f.wh||(!y.f.wh&&y.f.rh.isEmpty))
def DT (ops:List Oper)(arr:Array Oper)(s:RS)(es:List lW):Bool:=
 let ms:=jl [] ops
 mU arr ms &&
  (let is:=es.zipIdx
   let uO:=is.filter fun (x,_)=>!x.f.quiet
   uO.all (fun (x,i)=>rj ms (ops.filterMap (·.dst)) s is x i&&uO.all fun (y,j)=>WK j i||(ms.getD j 0).testBit i||(x.ru y&&y.ru x)))
theorem sj {x y:lW}(h:x.ru y=true):x.jk y=true:=by
 unfold lW.ru at h
 unfold lW.jk
 simp only [Vu,Wb] at h ⊢
 refine⟨h.1,h.2.imp id fun ⟨h1,h2⟩=>⟨h1,?_⟩⟩
 rw [List.isEmpty_iff] at h2
 rw [h2]; rfl
theorem GD {P:Program}{cf:CallF}{aE:List Nat}{ops:Array Oper}{s r:RS}{es:List lW}(h:DT ops.toList ops s es=true)(hr:oo P cf aE ops.toList s ops.toList=some (es,r)):jH P cf aE ops s=some r:=by
 unfold DT at h
 simp only [Vu] at h
 obtain⟨h1,h2⟩:=h
 unfold jH
 simp only [h1,if_true,hr,Vq]
 rw [if_pos]
 rw [VK] at h2 ⊢
 intro x hx
 have:=h2 x hx
 simp only [Vu] at this ⊢
 refine⟨this.1,?_⟩
 have h3:=this.2
 rw [VK] at h3 ⊢
 intro y hy
 have:=h3 y hy
 simp only [Wb,Vu] at this ⊢
 exact this.imp id fun h=>⟨sj h.1,sj h.2⟩
def nB (P:Program)(cf:CallF)(A:b5)(c:Code)(fs:List (AV × AHeap))(zs:GA)(st:St):Option (Prop × St):=
 match c with
 | .region id ops draw=>(qK (st.open A) (fV id A.Gd) fs).bind fun (s0,p0)=>(qJ P cf A.aE ops.toList s0 0 ops.toList zs).bind fun (es,r,p)=>
   bif draw && !(DT ops.toList ops s0 es) then none else (kH r (fV id A.yN)).map fun r2=>(p0∧p,r2.mj A id)
 | _=>none
theorem DU {P:Program}{cf:CallF}{A:b5}{m:Nat}{c:Code}{fs:List (AV × AHeap)}{zs:GA}{st js:St}{p:Prop}(h:nB P cf A c fs zs st=some (p,js))(hp:p):bJ P cf A m c st=some (.norm,js):=by
 unfold nB at h
 split at h
 rotate_left
 ·cases h
 rename_i id ops draw
 simp only [Vp] at h
 obtain⟨⟨s0,p0⟩,h0,⟨es,r,q⟩,h1,h⟩:=h
 have hd:∃r2,(draw=true→DT ops.toList ops s0 es=true)∧kH r (fV id A.yN)=some r2∧p=(p0∧q)∧js=r2.mj A id:=by
  cases hc:(draw && !(DT ops.toList ops s0 es)) with
  | true=>simp only [hc,cond_true] at h; cases h
  | false=>
   simp only [hc,cond_false,Vr,Vz] at h
   obtain⟨r2,h2,h3,h4⟩:=h
   refine⟨r2,fun B5=>?_,h2,h3.symm,h4.symm⟩
   simpa [B5] using hc
 obtain⟨r2,B5,h2,rfl,rfl⟩:=hd
 obtain⟨g1,g2⟩:=vl h1 hp.2
 have g0:=rr h0 hp.1
 simp only [bJ,g0,Vq]
 cases draw with
 | false=>simp only [VB,if_false,g2,Vq,h2,Vw]
 | true=>simp only [if_true,GD (B5 rfl) g1,Vq,h2,Vw]
end Go.R
namespace Go.R
open Go
def du (P:Program)(cf:CallF)(A:b5)(m:Nat)(c:Code)(s:St)(Q:Ex→St→Prop):Prop:=∃e s',bJ P cf A m c s=some (e,s')∧Q e s'
def IL (R:St→Prop)(Q:Ex→St→Prop):Ex→St→Prop
 | .norm,s=>R s
 | .exit i,s=>Q (.exit i) s
 | .ret,s=>Q .ret s
def NN (id:Nat)(Q:Ex→St→Prop):Ex→St→Prop
 | .norm,s=>Q .norm s
 | .exit i,s=>bif V5 i id then Q .norm s else Q (.exit i) s
 | .ret,s=>Q .ret s
section
variable {P:Program}{cf:CallF}{A:b5}{m:Nat}{s:St}{Q:Ex→St→Prop}
theorem w9 {a b:Code}(h:du P cf A m a s (IL (fun s'=>du P cf A m b s' Q) Q)):du P cf A m (.seq a b) s Q:=by
 obtain⟨e,s',h1,h2⟩:=h
 cases e with
 | norm=>
  obtain⟨e2,s2,h3,h4⟩:=h2
  exact⟨e2,s2,by simp only [bJ,h1,Vq,h3],h4⟩
 | exit i=>exact⟨_,s',by simp only [bJ,h1,Vq],h2⟩
 | ret=>exact⟨_,s',by simp only [bJ,h1,Vq],h2⟩
theorem zb {id:Nat}{a:Code}(h:du P cf A m a s (NN id Q)):du P cf A m (.block id a) s Q:=by
 obtain⟨e,s',h1,h2⟩:=h
 cases e with
 | norm=>exact⟨_,s',by simp only [bJ,h1,Vw],h2⟩
 | exit i=>
  simp only [NN,beq_nat] at h2
  by_cases hi:i=id
  ·simp only [hi,decide_true,cond_true] at h2
   exact⟨_,s',by simp only [bJ,h1,Vw,hi,if_true],h2⟩
  ·simp only [hi,decide_false,cond_false] at h2
   exact⟨_,s',by simp only [bJ,h1,Vw,hi,if_false],h2⟩
 | ret=>exact⟨_,s',by simp only [bJ,h1,Vw],h2⟩
theorem DV {c:Code}{fs:List (AV × AHeap)}{zs:GA}{js:St}{p:Prop}(h:nB P cf A c fs zs s=some (p,js))(hp:p)(hQ:Q .norm js):du P cf A m c s Q:=
 ⟨_,_,DU h hp,hQ⟩
theorem Cf (h:Q .norm s):du P cf A m .skip s Q:=⟨_,_,rfl,h⟩
theorem DW (h:Q .ret s):du P cf A m .ret s Q:=⟨_,_,rfl,h⟩
theorem Cg {i:Nat}(h:Q (.exit i) s):du P cf A m (.exit i) s Q:=⟨_,_,rfl,h⟩
theorem pJ {k:Operand}{x y:Code}(b:Bool)(hk:bL (s.open A).ρ k = .bool b)(ht:b=true→du P cf A m x s Q)(hf:b=false→du P cf A m y s Q):du P cf A m (.cond k x y) s Q:=by
 cases b with
 | true=>
  obtain⟨e,s',h1,h2⟩:=ht rfl
  exact⟨e,s',by simp only [bJ,hk,rM,Vq,if_true,h1],h2⟩
 | false=>
  obtain⟨e,s',h1,h2⟩:=hf rfl
  exact⟨e,s',by simp only [bJ,hk,rM,Vq,VB,if_false,h1],h2⟩
def DX {S O:Type}(l:Nat→S→Option O)(Rel:S→St→Prop)(QO:O→Ex→St→Prop)(k:Nat)(out:O):Ex→St→Prop
 | .norm,s=>∃σ,Rel σ s∧l k σ=some out
 | .exit i,s=>QO out (.exit i) s
 | .ret,s=>QO out .ret s
theorem sk {S O:Type}{l:Nat→S→Option O}{Rel:S→St→Prop}{QO:O→Ex→St→Prop}{body:Code}(h0:∀σ,l 0 σ=none)
  (step:∀k σ s out,Rel σ s→l (k+1) σ=some out→du P cf A m body s (DX l Rel QO k out)):∀(n:Nat) (σ:S) (s:St) (out:O),Rel σ s→l n σ=some out→∃e s',kI (bJ P cf A m body) n s=some (e,s')∧e≠.norm∧QO out e s'
 | 0,σ,s,out,_,h=>by rw [h0] at h; cases h
 | n+1,σ,s,out,hr,h=>by
  obtain⟨e,s',h1,h2⟩:=step n σ s out hr h
  cases e with
  | norm=>
   obtain⟨σ',h3,h4⟩:=h2
   obtain⟨e',SS,h5,h6⟩:=sk h0 step n σ' s' out h3 h4
   exact⟨e',SS,by simp only [kI,h1,Vq,h5],h6⟩
  | exit i=>exact⟨_,s',by simp only [kI,h1,Vq],by simp,h2⟩
  | ret=>exact⟨_,s',by simp only [kI,h1,Vq],by simp,h2⟩
theorem Ch {S O:Type}(l:Nat→S→Option O)(Rel:S→St→Prop)(QO:O→Ex→St→Prop){body:Code}(h0:∀σ,l 0 σ=none)
  (step:∀k σ s out,Rel σ s→l (k+1) σ=some out→du P cf A m body s (DX l Rel QO k out)) {σ:S} {out:O} (hr:Rel σ s) (h:l m σ=some out) (hQ:∀e s',e≠.norm→QO out e s'→Q e s'):du P cf A m (.loop body) s Q:=by
 obtain⟨e,s',h1,h2,h3⟩:=sk h0 step m σ s out hr h
 exact⟨e,s',by simp only [bJ,h1],hQ e s' h2 h3⟩
theorem vm {aX:FuncId→b5}{f:FuncId}{fn:Func}{args:List AV}{h:AHeap}{R:AV→AHeap→Prop}(hf:P.funcs[f]? = some fn)(hb:fn.body=some (b8 fn))(hn:WK args.length fn.ntmps=true)
  (he:du P cf (aX f) m (b8 fn) ⟨ml (aX f).keep args,(aX f).aE.map fun _=>none,h⟩ (fun e s=>(e = .ret∨e = .norm)∧∃r,aP P (s.open (aX f)) fn.results.toList=some r∧R r s.h)) :
  ∃r h',a6 P aX cf m f args h=some (r,h')∧R r h':=by
 obtain⟨e,s,h1,h2,r,h3,h4⟩:=he
 refine⟨r,s.h,?_,h4⟩
 unfold a6
 rw [hf,Vq,hb,Vq,if_pos (Nat.le_of_ble_eq_true hn),h1,Vq]
 rcases h2 with rfl | rfl<;>simp only [h3,Vw]
end
end Go.R
namespace Go.R
open Go
structure bM (α:Type) where
 n:Nat
 f:α→List AV
 len:∀a,(f a).length=n
 pos:n≠0
 small:n≤1024:=by decide
 flat:Bool:=true
 pure:∀a,flat=true→cJ (f a)=true∧dw (f a)=f a
 canon:∀a,(f a).map jF=f a
section
variable {α:Type}(E:bM α)
def bM.l (l:List α):List AV:=l.flatMap E.f
def bM.fz (l:List α):AV:=.fz (E.l l) l.length false
variable {E}
theorem bM.eK {a:α}{l:List α}:E.l (a::l)=E.f a++E.l l:=rfl
theorem bM.HO:E.l []=[]:=rfl
theorem bM.hJ {a b:List α}:E.l (a++b)=E.l a++E.l b:=by simp [bM.l]
theorem bM.bK:∀{l:List α},(E.l l).length=l.length*E.n
 | []=>by simp [bM.l]
 | a::l=>by rw [bM.eK,VA,E.len,bM.bK,VF,Wz,Nat.one_mul,WT]
theorem bM.na {l:List α}(h:l.length≤1099511627776):(E.l l).length≤1125899906842624:=by
 rw [bM.bK]
 exact We (Nat.mul_le_mul h E.small) (by decide)
theorem bM.vn:∀{l:List α} {i:Nat},(E.l l).drop (i*E.n)=E.l (l.drop i)
 | l,0=>by simp
 | [],i+1=>by simp [bM.l]
 | a::l,i+1=>by
  rw [List.drop_succ_cons,←bM.vn,bM.eK,Wz,Nat.one_mul,List.drop_append,List.drop_of_length_le (by rw [E.len]; omega),V7,E.len,Nat.add_sub_cancel]
theorem bM.DY:∀{l:List α} {i:Nat},(E.l l).take (i*E.n)=E.l (l.take i)
 | l,0=>by simp [bM.l]
 | [],i+1=>by simp [bM.l]
 | a::l,i+1=>by
  rw [bM.eK,List.take_succ_cons,bM.eK,Wz,Nat.one_mul,WT,List.take_append]
  rw [E.len,V4 (by rw [E.len]; omega),WD,bM.DY]
theorem bM.HP {l:List α}{i:Nat}{a:α}(h:l[i]? = some a){off:Nat}(ho:off<E.n):(E.l l)[i*E.n+off]? = (E.f a)[off]?:=by
 rw [←List.getElem?_drop,bM.vn,VE (Vy.1 h).1,(Vy.1 h).2,bM.eK,VG (by rw [E.len]; exact ho)]
theorem bM.DZ {l:List α}{i:Nat}{a:α}(h:l[i]? = some a):((E.l l).drop (i*E.n)).take E.n=E.f a:=by
 rw [bM.vn,VE (Vy.1 h).1,(Vy.1 h).2,bM.eK,VW (by rw [E.len]; exact Vv _)]
 rw [V4 (by rw [E.len]; exact Vv _)]
theorem bM.zc {l:List α}{i:Nat}{a:α}(h:l[i]? = some a):i*E.n+E.n≤(E.l l).length:=by
 rw [bM.bK]
 have:=(Vy.1 h).1
 calc i*E.n+E.n=(i+1)*E.n:=by rw [Wz,Nat.one_mul]
  _≤_:=Wi _ this
theorem oM:∀{a b:List AV},cJ (a++b)=(cJ a&&cJ b)
 | [],b=>by simp [cJ]
 | x::a,b=>by simp [cJ,oM,Bool.and_assoc]
theorem oN:∀{a b:List AV},dw (a++b)=dw a++dw b
 | [],b=>rfl
 | x::a,b=>by simp [dw,oN]
theorem bM.nQ (hp:E.flat=true):∀{l:List α},cJ (E.l l)=true∧dw (E.l l)=E.l l
 | []=>⟨rfl,rfl⟩
 | a::l=>by
  obtain⟨h1,h2⟩:=E.pure a hp
  obtain⟨h3,h4⟩:=bM.nQ hp (l:=l)
  rw [bM.eK,oM,oN,h1,h2,h3,h4]
  exact⟨rfl,rfl⟩
theorem bM.vo:∀{l:List α},(E.l l).map jF=E.l l
 | []=>rfl
 | a::l=>by rw [bM.eK,VY,E.canon,bM.vo]
theorem bM.bG {l:List α}(hp:E.flat=true:=by rfl):(E.fz l).dZ=true∧(E.fz l).jj=E.fz l:=by
 obtain⟨h1,h2⟩:=bM.nQ (E:=E) hp (l:=l)
 exact⟨h1,by show AV.fz (dw (E.l l)) l.length false=_; rw [h2]; rfl⟩
theorem hU:∀(cs vs pre IM:List AV),cs.length=vs.length→di (pre++cs++IM) pre.length vs=pre++vs++IM
 | [],[],pre,IM,_=>by simp [di]
 | c::cs,v::vs,pre,IM,h=>by
  have:=hU cs vs (pre++[v]) IM (by simpa using h)
  simp only [VA,VF,VT,VO] at this
  rw [di]
  have h2:(pre++c::cs++IM).set pre.length v=pre++[v]++cs++IM:=by
   rw [VI,List.set_append_right _ _ (Vv _),WW]
   simp
  rw [h2,this]
  simp
 | [],_::_,_,_,h=>by simp at h
 | _::_,[],_,_,h=>by simp at h
theorem bM.Lg {l:List α}{i:Nat}{a b:α}(h:l[i]? = some a)(rest:List AV):di (E.l l++rest) (i*E.n) (E.f b)=E.l (l.set i b)++rest:=by
 have hi:=(Vy.1 h).1
 have hl:l=l.take i++a::l.drop (i+1):=by
  conv=>lhs; rw [←WA i l,VE hi]
  rw [(Vy.1 h).2]
 have hs:l.set i b=l.take i++b::l.drop (i+1):=List.set_eq_take_append_cons_drop .. |>.trans (by rw [if_pos hi])
 have e1:E.l l=E.l (l.take i)++E.f a++E.l (l.drop (i+1)):=by
  conv=>lhs; rw [hl]
  rw [bM.hJ,bM.eK,VI]
 have e2:(E.l (l.take i)).length=i*E.n:=by rw [bM.bK,Wt,WL (Nat.le_of_lt hi)]
 rw [hs,bM.hJ,bM.eK,e1,←e2]
 have:=hU (E.f a) (E.f b) (E.l (l.take i)) (E.l (l.drop (i+1))++rest) (by rw [E.len,E.len])
 simp only [VI] at this ⊢
 exact this
theorem bM.IN {l:List α}{i:Nat}{a b:α}{off:Nat}{v:AV}(h:l[i]? = some a)(ho:off<E.n)(hb:(E.f a).set off v=E.f b)(rest:List AV):(E.l l++rest).set (i*E.n+off) v=E.l (l.set i b)++rest:=by
 have hi:=(Vy.1 h).1
 have hl:l=l.take i++a::l.drop (i+1):=by
  conv=>lhs; rw [←WA i l,VE hi]
  rw [(Vy.1 h).2]
 have hs:l.set i b=l.take i++b::l.drop (i+1):=List.set_eq_take_append_cons_drop .. |>.trans (by rw [if_pos hi])
 have e1:E.l l=E.l (l.take i)++(E.f a++E.l (l.drop (i+1))):=by
  conv=>lhs; rw [hl]
  rw [bM.hJ,bM.eK]
 have e2:(E.l (l.take i)).length=i*E.n:=by rw [bM.bK,Wt,WL (Nat.le_of_lt hi)]
 rw [hs,bM.hJ,bM.eK,e1,←hb,←e2]
 simp only [VI]
 rw [List.set_append_right _ _ (by omega),List.set_append_left _ _ (by rw [E.len]; omega)]
 congr 2
 simp
end
def ix {α:Type}(l:List α)(i:Int):Option α:=if 0≤i then l[i.toNat]? else none
theorem gR {α:Type}{l:List α}{i:Int}{a:α}(h:ix l i=some a):0≤i∧i<l.length∧l[i.toNat]? = some a:=by
 unfold ix at h
 split at h
 ·rename_i h0
  have:=(Vy.1 h).1
  exact⟨h0,by omega,h⟩
 ·cases h
def HQ {α:Type}(l:List α)(lo hi:Int):Option (List α):=if 0≤lo∧lo≤hi∧hi≤l.length then some ((l.drop lo.toNat).take (hi.toNat - lo.toNat)) else none
theorem xa {α:Type}{l r:List α}{lo hi:Int}(h:HQ l lo hi=some r):0≤lo∧lo≤hi∧hi≤l.length∧r=(l.drop lo.toNat).take (hi.toNat - lo.toNat):=by
 unfold HQ at h
 split at h
 ·rename_i h0; cases h; exact⟨h0.1,h0.2.1,h0.2.2,rfl⟩
 ·cases h
def bt (s:ByteArray)(i:Int):Option Int:=if 0≤i then (s.data.toList[i.toNat]?).map fun b=>(b.toNat:Int) else none
inductive Ct where
 | sl (n sz:Nat) (cs:List AV)
 | ob (cs:List AV)
 | mp (es:List (AV × AV))
 | row (e:TypeId) (cs:List AV)
def Ci (h:AHeap)(i:Nat):Ct→Prop
 | .sl n sz cs=>(cs.length=n*sz∧cs.length≤1125899906842624)∧((i=0∧n=0)∨(i≠0∧∃rest,h.get i=some (.cells (cs++rest))))
 | .ob cs=>i≠0∧h.get i=some (.cells cs)
 | .mp es=>i≠0∧h.get i=some (.map es)
 | .row e cs=>i≠0∧h.get i=some (.row e cs)
abbrev Mem:=List (Nat × Ct)
structure Has (h:AHeap)(K:Mem):Prop where
 at_:∀(j i:Nat) (c:Ct),K[j]? = some (i,c)→Ci h i c∧i<h.next
 nd:∀(j j' i:Nat) (c c':Ct),K[j]? = some (i,c)→K[j']? = some (i,c')→i≠0→j=j'
 pos:0<h.next
theorem nS {h h':AHeap}{i:Nat}{c:Ct}(hg:i≠0→h'.get i=h.get i)(h1:Ci h i c):Ci h' i c:=by
 cases c with
 | sl n sz cs=>
  obtain⟨h2,h3⟩:=h1
  refine⟨h2,h3.imp id fun ⟨h4,r,h5⟩=>⟨h4,r,(hg h4).trans h5⟩⟩
 | ob cs=>exact⟨h1.1,(hg h1.1).trans h1.2⟩
 | mp es=>exact⟨h1.1,(hg h1.1).trans h1.2⟩
 | row e cs=>exact⟨h1.1,(hg h1.1).trans h1.2⟩
theorem cZ (h:AHeap)(id k:Nat)(o:AObj):(h.put id o).get k=if k=id then some o else h.get k:=by
 simp only [AHeap.put,beq_nat]
 by_cases hk:k=id<;>simp [hk]
theorem xb (h:AHeap)(id k:Nat):(h.kill id).get k=if k=id then none else h.get k:=by
 simp only [AHeap.kill,beq_nat]
 by_cases hk:k=id<;>simp [hk]
theorem Has.D0 {h h':AHeap}{K:Mem}(o:Has h K){j i:Nat}{c:Ct}(hj:K[j]? = some (i,c)){i':Nat}{c':Ct}
  (hg:∀k,k≠i→k<h.next→h'.get k=h.get k) (hn:h.next≤h'.next) (hi:i'=i∨i'=0∨h.next≤i') (hlt:i'<h'.next) (hc:Ci h' i' c'):Has h' (K.set j (i',c')):=by
 refine⟨fun q k d hq=>?_,fun q q' k d d' hq uX hk=>?_,VP o.pos hn⟩
 ·rw [WR] at hq
  by_cases h1:j=q
  ·subst h1
   rw [if_pos rfl] at hq
   split at hq
   ·cases hq; exact⟨hc,hlt⟩
   ·cases hq
  ·rw [if_neg h1] at hq
   obtain⟨g1,g2⟩:=o.at_ q k d hq
   refine⟨nS (fun hk=>hg k (fun he=>?_) g2) g1,VP g2 hn⟩
   subst he
   exact h1 (o.nd j q k c d hj hq hk)
 ·rw [WR] at hq uX
  have old:∀(q:Nat) (d:Ct),j≠q→K[q]? = some (k,d)→k≠i':=by
   intro x y hne hx he
   rcases hi with h1 | h1 | h1
   ·exact hne (o.nd j x k c y (by rw [he,h1]; exact hj) hx hk)
   ·exact hk (he.trans h1)
   ·have:=(o.at_ x k y hx).2; omega
  by_cases h1:j=q<;>by_cases h2:j=q'
  ·rw [←h1,h2]
  ·subst h1
   rw [if_pos rfl] at hq
   rw [if_neg h2] at uX
   split at hq
   ·cases hq; exact absurd rfl (old q' d' h2 uX)
   ·cases hq
  ·subst h2
   rw [if_pos rfl] at uX
   rw [if_neg h1] at hq
   split at uX
   ·cases uX; exact absurd rfl (old q d h1 hq)
   ·cases uX
  ·rw [if_neg h1] at hq; rw [if_neg h2] at uX
   exact o.nd q q' k d d' hq uX hk
theorem Has.new {h h':AHeap}{K:Mem}(o:Has h K){i:Nat}{c:Ct}(hg:∀k,k<h.next→h'.get k=h.get k)(hn:h.next≤h'.next)(hi:i=0∨h.next≤i)(hlt:i<h'.next)(hc:Ci h' i c):Has h' ((i,c)::K):=by
 refine⟨fun q k d hq=>?_,fun q q' k d d' hq uX hk=>?_,VP o.pos hn⟩
 ·cases q with
  | zero=>simp only [V9,Vt,Vz] at hq; obtain⟨rfl,rfl⟩:=hq; exact⟨hc,hlt⟩
  | succ q=>
   simp only [Wv] at hq
   obtain⟨g1,g2⟩:=o.at_ q k d hq
   exact⟨nS (fun _=>hg k g2) g1,VP g2 hn⟩
 ·have old:∀(q:Nat) (d:Ct),K[q]? = some (k,d)→k≠i:=by
   intro x y hx he
   rcases hi with h1 | h1
   ·exact hk (he.trans h1)
   ·have:=(o.at_ x k y hx).2; omega
  cases q with
  | zero=>
   simp only [V9,Vt,Vz] at hq
   cases q' with
   | zero=>rfl
   | succ q'=>exact absurd hq.1.symm (old q' d' (by simpa using uX))
  | succ q=>
   cases q' with
   | zero=>
    simp only [V9,Vt,Vz] at uX
    exact absurd uX.1.symm (old q d (by simpa using hq))
   | succ q'=>rw [o.nd q q' k d d' (by simpa using hq) (by simpa using uX) hk]
theorem Has.nil {h:AHeap}{K:Mem}(o:Has h K)(sz:Nat):Has h ((0,.sl 0 sz [])::K):=
 o.new (fun _ _=>rfl) (Vv _) (.inl rfl) o.pos ⟨⟨by simp,by simp⟩,.inl ⟨rfl,rfl⟩⟩
theorem Has.sub {h:AHeap}{K K':Mem}(o:Has h K)(f:Nat→Nat)(hf:∀j p,K'[j]? = some p→K[f j]? = some p)(hi:∀j j',f j=f j'→j=j'):Has h K':=
 ⟨fun j i c hj=>o.at_ (f j) i c (hf j _ hj),fun j j' i c c' hj yx hk=>hi _ _ (o.nd (f j) (f j') i c c' (hf j _ hj) (hf j' _ yx) hk),o.pos⟩
theorem Has.del {h:AHeap}{K:Mem}(o:Has h K)(q:Nat):Has h (K.eraseIdx q):=
 o.sub (fun j=>if j<q then j else j+1) (fun j p hj=>by
  rw [List.getElem?_eraseIdx] at hj
  split at hj
  ·rename_i h1; simpa [h1] using hj
  ·rename_i h1; simpa [h1] using hj) (fun j j' he=>by
   split at he<;>split at he<;>omega)
theorem Has.front {h:AHeap}{K:Mem}(o:Has h K)(q:Nat){p:Nat × Ct}(hq:K[q]? = some p):Has h (p::K.eraseIdx q):=
 o.sub (fun j=>match j with | 0=>q | j+1=>if j<q then j else j+1) (fun j p' hj=>by
  cases j with
  | zero=>simp only [V9,Vt] at hj; subst hj; exact hq
  | succ j=>
   simp only [Wv,List.getElem?_eraseIdx] at hj
   dsimp only
   split at hj
   ·rename_i h1; simpa [h1] using hj
   ·rename_i h1; simpa [h1] using hj) (fun j j' he=>by
   cases j with
   | zero=>cases j' with
    | zero=>rfl
    | succ j'=>dsimp only at he; split at he<;>omega
   | succ j=>cases j' with
    | zero=>dsimp only at he; split at he<;>omega
    | succ j'=>dsimp only at he; split at he<;>split at he<;>omega)
end Go.R
namespace Go.R
open Go
def xc (P:Program)(t:TypeId)(sz b:Nat):Bool:=
 match P.underlying t with
 | some (.slice e)=>match P.info? e with
  | some i=>V5 i.size sz&&V5 i.bytes b&&Hx i
  | none=>false
 | _=>false
section
variable {P:Program}{t:TypeId}{sz b:Nat}
theorem jS (h:xc P t sz b=true):∃e i,P.underlying t=some (.slice e)∧P.info? e=some i∧i.size=sz∧i.bytes=b∧Hx i=true∧fe P e=some sz:=by
 unfold xc at h
 split at h
 ·rename_i e he
  split at h
  ·rename_i i hi
   simp only [Vu] at h
   have h1:=Wr h.1.1
   exact⟨e,i,he,hi,h1,Wr h.1.2,h.2,by simp [fe,hi,h1]⟩
  ·cases h
 ·cases h
variable {α:Type}{E:bM α}{h:AHeap}{K:Mem}{l:List α}{a v:α}{i q:Nat}{j:Int}{k:IntKind}{c:AV}{off:Nat}{tf:TypeId}
theorem fm (T:xc P t E.n b=true)(h:ix l j=some a):eV P t (E.fz l) (.int k j)=some (.fp (E.l l) (j.toNat*E.n)):=by
 obtain⟨e,inf,h1,h2,h3,h4,h5,h6⟩:=jS T
 obtain⟨g1,g2,g3⟩:=gR h
 have hle:=bM.zc (E:=E) g3
 have hp:=E.pos
 simp only [eV,h1,Vq,h6,bM.fz]
 rw [if_pos ⟨g1,g2,by omega⟩]
theorem Lh (h:l[j.toNat]? = some a):(E.l l).isEmpty=false:=by
 have hle:=bM.zc (E:=E) h
 have hp:=E.pos
 cases hl:E.l l with
 | nil=>rw [hl] at hle; simp at hle; omega
 | cons _ _=>rfl
theorem sm (hp:AHeap)(ha:fT P tf=some false)(h:ix l j=some a)(hc:(E.f a)[off]? = some c):bl P hp tf (.fp (E.l l) (j.toNat*E.n+off))=some c:=by
 obtain⟨g1,g2,g3⟩:=gR h
 have ho:off<E.n:=by rw [←E.len a]; exact (Vy.1 hc).1
 simp only [bl,jG,Lh g3,VB,if_false,iO,ha,Vq,bM.HP g3 ho,hc]
theorem iS (hp:AHeap)(ha:fT P tf=some false)(h:ix l j=some a)(hc:(E.f a)[0]? = some c):bl P hp tf (.fp (E.l l) (j.toNat*E.n))=some c:=sm (off:=0) hp ha h hc
theorem jm (hp:AHeap)(ha:fT P tf=some true)(hs:fe P tf=some E.n)(h:ix l j=some a):bl P hp tf (.fp (E.l l) (j.toNat*E.n))=some (.agg (E.f a)):=by
 obtain⟨g1,g2,g3⟩:=gR h
 simp only [bl,jG,Lh g3,VB,if_false,iO,ha,Vq,if_true,hs]
 rw [if_pos (bM.zc g3),bM.DZ g3]
theorem rv (o:Has h K)(hq:K[q]? = some (i,.sl l.length E.n (E.l l)))(hj:l[j.toNat]? = some a):i≠0∧∃rest,h.get i=some (.cells (E.l l++rest)):=by
 obtain⟨⟨_,h1⟩,_⟩:=o.at_ _ _ _ hq
 rcases h1 with⟨_,h1⟩| h1
 ·have:=(Vy.1 hj).1; omega
 ·exact h1
theorem IP (T:xc P t sz b=true){n:Nat}(h0:0≤j)(h1:j<n):eV P t (.rs i 0 n sz) (.int k j)=some (.ptr i (0+j.toNat*sz)):=by
 obtain⟨e,inf,g1,g2,g3,g4,g5,g6⟩:=jS T
 simp only [eV,g1,Vq,g6]
 rw [if_pos ⟨trivial,h0,h1⟩]
theorem uc (o:Has h K)(hq:K[q]? = some (i,.sl l.length E.n (E.l l)))(ha:fT P tf=some false)(hj:ix l j=some a)(hc:(E.f a)[off]? = some c):bl P h tf (.ptr i (0+j.toNat*E.n+off))=some c:=by
 obtain⟨g1,g2,g3⟩:=gR hj
 obtain⟨h1,rest,h2⟩:=rv o hq g3
 have ho:off<E.n:=by rw [←E.len a]; exact (Vy.1 hc).1
 have hle:=bM.zc (E:=E) g3
 simp only [bl,jG,h2,Vq,iO,ha,VB,if_false,VO]
 rw [VG (by omega),bM.HP g3 ho,hc]
theorem Cj (o:Has h K)(hq:K[q]? = some (i,.sl l.length E.n (E.l l)))(ha:fT P tf=some false)(hj:ix l j=some a)(hc:(E.f a)[0]? = some c):bl P h tf (.ptr i (0+j.toNat*E.n))=some c:=uc (off:=0) o hq ha hj hc
theorem Ck (o:Has h K)(hq:K[q]? = some (i,.sl l.length E.n (E.l l)))(ha:fT P tf=some true)(hs:fe P tf=some E.n)(hj:ix l j=some a):bl P h tf (.ptr i (0+j.toNat*E.n))=some (.agg (E.f a)):=by
 obtain⟨g1,g2,g3⟩:=gR hj
 obtain⟨h1,rest,h2⟩:=rv o hq g3
 have hle:=bM.zc (E:=E) g3
 simp only [bl,jG,h2,Vq,iO,ha,if_true,hs,VO]
 rw [if_pos (by rw [VA]; omega),List.drop_append_of_le_length (by omega),VW (by rw [List.length_drop]; omega),bM.DZ g3]
theorem jx (o:Has h K){c':Ct}{ct:Ct}(hq:K[q]? = some (i,ct)){ob:AObj}(hc:Ci (h.put i ob) i c'):Has (h.put i ob) (K.set q (i,c')):=
 o.D0 hq (fun k hk _=>by rw [cZ,if_neg hk]) (Wy _) (.inl rfl) (WC (o.at_ _ _ _ hq).2) hc
theorem D1 (o:Has h K)(hq:K[q]? = some (i,.sl l.length E.n (E.l l)))(hs:fe P tf=some E.n)(hj:ix l j=some a){x:AV}(hv:x.cells=E.f v)(n9:(E.f v).all AV.bR=true) :
  ∃h',iR P h tf (.ptr i (0+j.toNat*E.n)) x=some h'∧Has h' (K.set q (i,.sl l.length E.n (E.l (l.set j.toNat v)))):=by
 obtain⟨g1,g2,g3⟩:=gR hj
 obtain⟨h1,rest,h2⟩:=rv o hq g3
 have hle:=bM.zc (E:=E) g3
 refine⟨_,?_,jx o hq (ob:=.cells (E.l (l.set j.toNat v)++rest)) ⟨⟨by rw [bM.bK,VC],by rw [bM.bK,VC,←bM.bK]; exact (o.at_ _ _ _ hq).1.1.2⟩,.inr ⟨h1,rest,by rw [cZ,if_pos rfl]⟩⟩⟩
 simp only [iR,h2,Vq,gO,hs,hv,VO]
 rw [if_pos ⟨E.len v,n9,by rw [VA]; omega⟩,Vw,bM.Lg g3]
theorem Co (o:Has h K)(hq:K[q]? = some (i,.sl l.length E.n (E.l l)))(hs:fe P tf=some 1)(hj:ix l j=some a){x:AV}(hx:x.cells=[x])(n9:x.bR=true)(ho:off<E.n)(hb:(E.f a).set off x=E.f v) :
  ∃h',iR P h tf (.ptr i (0+j.toNat*E.n+off)) x=some h'∧Has h' (K.set q (i,.sl l.length E.n (E.l (l.set j.toNat v)))):=by
 obtain⟨g1,g2,g3⟩:=gR hj
 obtain⟨h1,rest,h2⟩:=rv o hq g3
 have hle:=bM.zc (E:=E) g3
 refine⟨_,?_,jx o hq (ob:=.cells (E.l (l.set j.toNat v)++rest)) ⟨⟨by rw [bM.bK,VC],by rw [bM.bK,VC,←bM.bK]; exact (o.at_ _ _ _ hq).1.1.2⟩,.inr ⟨h1,rest,by rw [cZ,if_pos rfl]⟩⟩⟩
 simp only [iR,h2,Vq,gO,hs,hx,VO]
 rw [if_pos ⟨rfl,by simp [n9],by rw [VA]; omega⟩,Vw]
 simp only [di]
 rw [bM.IN g3 ho hb]
def app (b:Nat){α:Type}(l l2:List α):Option (List α):=if (l.length+l2.length)*(b+1)≤1099511627776 then some (l++l2) else none
theorem xd {l l2 r:List α}(h:app b l l2=some r):(l.length+l2.length)*b≤gy∧l.length+l2.length≤gy∧r=l++l2:=by
 unfold app at h
 split at h
 ·rename_i h0
  cases h
  rw [Nat.mul_add,Nat.mul_one] at h0
  refine⟨by simp only [gy]; omega,by simp only [gy]; omega,rfl⟩
 ·cases h
theorem D2 {t2:TypeId}{l2 r:List α}{x:AV}(T:xc P t E.n b=true)(o:Has h K)(hq:K[q]? = some (i,.sl l.length E.n (E.l l)))(hx:fH h E.n x=some (E.l l2,l2.length))(gB:iA P t2 x=true)(hr:app b l l2=some r) :
  ∃i' h',dE P h t t2 (.rs i 0 l.length E.n) x=some (.rs i' 0 r.length E.n,h')∧Has h' (K.set q (i',.sl r.length E.n (E.l r))):=by
 obtain⟨e,inf,g1,g2,g3,g4,g5,g6⟩:=jS T
 obtain⟨r1,r2,rfl⟩:=xd hr
 obtain⟨⟨⟨hlen,qH⟩,lR⟩,hlt⟩:=o.at_ _ _ _ hq
 have oy:=E.pos
 have hb:inf.size=E.n:=g3
 have jN:¬(inf.size=0∨iA P t2 x=false∨Hx inf=false):=by rw [gB,g5,hb]; simp [oy]
 subst g4
 by_cases h0:l2=[]
 ·subst h0
  refine⟨i,h,?_,?_⟩
  ·simp only [dE,g1,Vq,g2,hb,hx,gB,g5]
   rw [if_neg (by simp [oy])]
   simp only [VT,Nat.zero_mul,WV,WN]
   by_cases hi:i=0
   ·subst hi
    rcases lR with⟨_,hl0⟩| h1
    ·simp [hl0,hb,gy]
    ·exact absurd rfl h1.1
   ·rcases lR with h1 | ⟨_,rest,h1⟩
    ·exact absurd h1.1 hi
    ·rw [if_neg hi,h1]
     simp only [Vq]
     rw [if_neg (by rw [VA,hlen]; simp only [VT,WV] at r1 r2; simp; omega)]
     simp
  ·rw [WN]
   have:K.set q (i,.sl l.length E.n (E.l l))=K:=by
    apply WQ
    intro j
    rw [WR]
    by_cases hj:q=j
    ·subst hj; rw [if_pos rfl,if_pos (Vy.1 hq).1,hq]
    ·rw [if_neg hj]
   rw [this]; exact o
 ·have Ig:l2.length≠0:=by simpa using h0
  by_cases hi:i=0
  ·subst hi
   rcases lR with⟨_,hl0⟩| h1
   rotate_left
   ·exact absurd rfl h1.1
   have hnil:l=[]:=by simpa using hl0
   subst hnil
   refine⟨h.next,h.alloc (.cells (E.l l2)),?_,?_⟩
   ·simp only [dE,g1,Vq,g2,hb,hx,gB,g5]
    rw [if_neg (by simp [oy])]
    simp only [if_true]
    simp only [VT,VO] at r1 r2
    rw [if_neg (by simp; omega),if_neg Ig]
    simp
   ·refine o.D0 hq (fun k _ hk=>by rw [AHeap.alloc,cZ,if_neg (by omega)]) (Wy _) (.inr (.inr (Vv _))) (Wd _) ⟨⟨bM.bK,bM.na (by simp only [gy] at r2; simp at r2 ⊢; omega)⟩,.inr ⟨by have:=o.pos; omega,[],?_⟩⟩
    rw [AHeap.alloc,cZ,if_pos rfl]; simp
  ·rcases lR with h1 | ⟨_,rest,h1⟩
   ·exact absurd h1.1 hi
   refine⟨h.next,(h.kill i).put h.next (.cells (E.l (l++l2))),?_,?_⟩
   ·simp only [dE,g1,Vq,g2,hb,hx,gB,g5]
    rw [if_neg (by simp [oy]),if_neg hi,h1]
    simp only [Vq]
    rw [if_neg (by rw [VA,hlen]; simp; omega),if_neg Ig]
    rw [Wa,VW (by rw [hlen]; exact Vv _),V4 (by rw [hlen]; exact Vv _),bM.hJ,VA]
   ·refine o.D0 hq (fun k hk sa=>by rw [cZ,if_neg (by omega),xb,if_neg hk]) (by show h.next≤h.next+1+1; omega) (.inr (.inr (Vv _))) (by show h.next<h.next+1+1; omega) ⟨⟨bM.bK,bM.na (by simp only [gy] at r2; simp at r2 ⊢; omega)⟩,.inr ⟨by have:=o.pos; omega,[],?_⟩⟩
    rw [cZ,if_pos rfl]; simp
def C8 (b:Nat){α:Type}(n:Int)(z:α):Option (List α):=if 0≤n∧n.toNat*(b+1)≤1099511627776 then some (VJ n.toNat z) else none
theorem vp {n:Int}{z:α}{zv:AV}{r:List α}(T:xc P t E.n b=true)(o:Has h K)(e0:TypeId)(SU:P.underlying t=some (.slice e0))(hz0:iz P e0=some zv)(Nl:zv.cells=E.f z)(n9:(E.f z).all AV.bR=true)(hr:C8 b n z=some r) :
  ∃i h',gE P h t (.int .i64 n) (.int .i64 n)=some (.rs i 0 r.length E.n,h')∧Has h' ((i,.sl r.length E.n (E.l r))::K):=by
 have hz:∀e,P.underlying t=some (.slice e)→iz P e=some zv:=fun e he=>by
  rw [SU] at he; cases he; exact hz0
 unfold C8 at hr
 split at hr
 rotate_left
 ·cases hr
 rename_i jN
 obtain⟨h0,h1⟩:=jN
 cases hr
 obtain⟨e,inf,g1,g2,g3,g4,g5,g6⟩:=jS T
 have oy:=E.pos
 have NO:∀k,ik (E.f z) k=E.l (VJ k z):=by
  intro k
  induction k with
  | zero=>rfl
  | succ k ih=>rw [ik,ih,List.replicate_succ,bM.eK]
 refine⟨h.next,h.alloc (.cells (E.l (VJ n.toNat z))),?_,o.new (fun k hk=>by rw [AHeap.alloc,cZ,if_neg (by omega)]) (Wy _) (.inr (Vv _)) (Wd _) ⟨⟨bM.bK,bM.na (by rw [WO]; rw [Nat.mul_add,Nat.mul_one] at h1; omega)⟩,.inr ⟨by have:=o.pos; omega,[],by rw [AHeap.alloc,cZ,if_pos rfl]; simp⟩⟩⟩
 rw [Nat.mul_add,Nat.mul_one] at h1
 simp only [gE,g1,Vq,g2,hz e g1,Nl,E.len,NO,WO,g3,g4]
 have hb:n*(b:Int)≤gy:=by
  have:n*(b:Int)=((n.toNat*b:Nat):Int):=by
   rw [Int.natCast_mul,Int.toNat_of_nonneg h0]
  simp only [gy]
  rw [this]
  omega
 rw [if_pos ⟨h0,Int.le_refl _,hb,trivial,oy,by omega,n9⟩]
theorem D3 (o:Has h K)(hq:K[q]? = some (i,.sl l.length E.n (E.l l)))(hp:E.flat=true:=by rfl):∃h',jb 0 h (.rs i 0 l.length E.n)=some (E.fz l,h')∧Has h' (K.eraseIdx q):=by
 obtain⟨⟨⟨hlen,qH⟩,lR⟩,hlt⟩:=o.at_ _ _ _ hq
 rcases lR with⟨h0,h1⟩| ⟨h0,rest,h1⟩
 ·have:l=[]:=by simpa using h1
  subst this
  exact⟨h,by simp [jb,h0,bM.fz,bM.l],o.del q⟩
 ·refine⟨h.kill i,?_,?_⟩
  ·simp only [jb]
   rw [if_neg h0,h1]
   simp only [Vq]
   have e1:((E.l l++rest).drop 0).take (l.length*E.n)=E.l l:=by
    rw [Wa,VW (by rw [hlen]; exact Vv _),V4 (by rw [hlen]; exact Vv _)]
   rw [e1,if_pos (by rw [VA,hlen]; omega),pD (bM.nQ hp).1]
   rfl
  ·have o2:=o.D0 (i':=0) (c':=.sl 0 1 []) (h':=h.kill i) hq (fun k hk _=>by rw [xb,if_neg hk]) (Wy _) (.inr (.inl rfl)) (Nat.succ_pos _) ⟨⟨by simp,by simp⟩,.inl ⟨rfl,rfl⟩⟩
   have:=o2.del q
   rwa [List.eraseIdx_set_eq] at this
variable {n:Nat}
theorem cG (o:Has h K)(hq:K[q]? = some (i,.sl n E.n (E.l l))):n=l.length:=by
 have h1:=(o.at_ _ _ _ hq).1.1.1
 rw [bM.bK] at h1
 exact (Nat.eq_of_mul_eq_mul_right (Nat.pos_of_ne_zero E.pos) h1).symm
theorem bp (T:xc P t E.n b=true)(o:Has h K)(hq:K[q]? = some (i,.sl n E.n (E.l l)))(hj:ix l j=some a):eV P t (.rs i 0 n E.n) (.int k j)=some (.ptr i (0+j.toNat*E.n)):=by
 have hn:=cG o hq
 subst hn
 exact IP T (gR hj).1 (gR hj).2.1
theorem Ak (o:Has h K)(hq:K[q]? = some (i,.sl n E.n (E.l l)))(ha:fT P tf=some false)(hj:ix l j=some a)(hc:(E.f a)[off]? = some c):bl P h tf (.ptr i (0+j.toNat*E.n+off))=some c:=by
 have hn:=cG o hq
 subst hn
 exact uc o hq ha hj hc
theorem dH (o:Has h K)(hq:K[q]? = some (i,.sl n E.n (E.l l)))(ha:fT P tf=some false)(hj:ix l j=some a)(hc:(E.f a)[0]? = some c):bl P h tf (.ptr i (0+j.toNat*E.n))=some c:=by
 have hn:=cG o hq
 subst hn
 exact Cj o hq ha hj hc
theorem vq (o:Has h K)(hq:K[q]? = some (i,.sl n E.n (E.l l)))(ha:fT P tf=some true)(hs:fe P tf=some E.n)(hj:ix l j=some a):bl P h tf (.ptr i (0+j.toNat*E.n))=some (.agg (E.f a)):=by
 have hn:=cG o hq
 subst hn
 exact Ck o hq ha hs hj
theorem fJ (o:Has h K)(hq:K[q]? = some (i,.sl n E.n (E.l l)))(hs:fe P tf=some E.n)(hj:ix l j=some a){x:AV}(hv:x.cells=E.f v)(n9:(E.f v).all AV.bR=true) :
  ∃h',iR P h tf (.ptr i (0+j.toNat*E.n)) x=some h'∧Has h' (K.set q (i,.sl n E.n (E.l (l.set j.toNat v)))):=by
 have hn:=cG o hq
 subst hn
 exact D1 o hq hs hj hv n9
theorem GF (o:Has h K)(hq:K[q]? = some (i,.sl n E.n (E.l l)))(hs:fe P tf=some 1)(hj:ix l j=some a){x:AV}(hx:x.cells=[x])(n9:x.bR=true)(ho:off<E.n)(hb:(E.f a).set off x=E.f v) :
  ∃h',iR P h tf (.ptr i (0+j.toNat*E.n+off)) x=some h'∧Has h' (K.set q (i,.sl n E.n (E.l (l.set j.toNat v)))):=by
 have hn:=cG o hq
 subst hn
 exact Co o hq hs hj hx n9 ho hb
theorem iH {t2:TypeId}{l2 r:List α}{x:AV}(T:xc P t E.n b=true)(o:Has h K)(hq:K[q]? = some (i,.sl n E.n (E.l l)))(hx:fH h E.n x=some (E.l l2,l2.length))(gB:iA P t2 x=true)(hr:app b l l2=some r) :
  ∃i' h',dE P h t t2 (.rs i 0 n E.n) x=some (.rs i' 0 r.length E.n,h')∧Has h' (K.set q (i',.sl r.length E.n (E.l r))):=by
 have hn:=cG o hq
 subst hn
 exact D2 T o hq hx gB hr
theorem so (o:Has h K)(hq:K[q]? = some (i,.sl n E.n (E.l l)))(hp:E.flat=true:=by rfl):∃h',jb 0 h (.rs i 0 n E.n)=some (E.fz l,h')∧Has h' (K.eraseIdx q):=by
 have hn:=cG o hq
 subst hn
 exact D3 o hq hp
end
end Go.R
namespace Go.R
open Go
structure aq where
 kind:Int
 int:Int
 label:ByteArray
 args:List Int
structure bw where
 nodes:List aq
 root:Int
def eI (k:IntKind):bM Int:={n:=1,f:=fun a=>[.int k a],len:=fun _=>rfl,pos:=by decide,pure:=fun _ _=>⟨rfl,rfl⟩,canon:=fun _=>rfl}
abbrev af:bM Int:=eI .i64
theorem pure_cons {x:AV}{xs:List AV}(h:x.dZ=true∧x.jj=x)(k:cJ xs=true∧dw xs=xs):cJ (x::xs)=true∧dw (x::xs)=x::xs:=
 ⟨by simp [cJ,h.1,k.1],by simp [dw,h.2,k.2]⟩
theorem pure_nil:cJ []=true∧dw []=[]:=⟨rfl,rfl⟩
theorem gr {k:IntKind}{n:Int}:(AV.int k n).dZ=true∧(AV.int k n).jj = .int k n:=⟨rfl,rfl⟩
theorem mC {s:ByteArray}:(AV.str s).dZ=true∧(AV.str s).jj = .str s:=⟨rfl,rfl⟩
theorem dO {b:Bool}:(AV.bool b).dZ=true∧(AV.bool b).jj = .bool b:=⟨rfl,rfl⟩
def ai:bM aq:={n:=4,f:=fun x=>[.int .i64 x.kind,.int .i64 x.int,.str x.label,af.fz x.args],len:=fun _=>rfl,pos:=by decide,pure:=fun x _=>pure_cons gr (pure_cons gr (pure_cons mC (pure_cons bM.bG pure_nil))),canon:=fun _=>rfl}
end Go.R
namespace Go.R
open Go
theorem GG {b:Bool}(h:b=false):¬b=true:=by rw [h]; decide
section
variable {P:Program}{cf:CallF}{A:b5}{m:Nat}
theorem ud {c:Code}{s:St}{Q R:Ex→St→Prop}(h:du P cf A m c s Q)(k:∀e s',Q e s'→R e s'):du P cf A m c s R:=by
 obtain⟨e,s',h1,h2⟩:=h
 exact⟨e,s',h1,k _ _ h2⟩
theorem aK {c:Code}{s:St}{Q:St→Prop}{R:Ex→St→Prop}(hQ:∀e s',(e = .ret∨e = .norm)∧Q s'→R e s')(h:du P cf A m c s (fun e s'=>(e = .ret∨e = .norm)∧Q s')):du P cf A m c s R:=ud h hQ
end
def ig:Nat:=1125899906842630
def kr (k:Nat)(h:AHeap)(x y:AV):Prop:=∀n,ig+k≤n→ck h n x=some y
def aQ (k:Nat)(h:AHeap)(x y:List AV):Prop:=∀n,ig+k≤n→br h n x=some y
def NP (h:AHeap)(x y:AV):Prop:=kr 4503599627370496 h x y
section
variable {h:AHeap}{α:Type}{E:bM α}{l:List α}{K:Mem}{q i:Nat}
theorem kr.mono {k k':Nat}{x y:AV}(hk:k≤k')(f:kr k h x y):kr k' h x y:=fun n hn=>f n (by omega)
theorem Gd {k:Nat}{x y:AV}(f:kr k h x y)(hk:k≤4503599627370496:=by decide):NP h x y:=f.mono hk
theorem nb {n:Nat}(h:ig≤n):∃k,n=k+1∧ig≤k+1:=⟨n - 1,by simp only [ig] at h; omega,by omega⟩
theorem lA {x:AV}(h1:x.dZ=true)(h2:∀n,ck h (n+1) x=if x.dZ then some x.jj else none){y:AV}(h3:x.jj=y):kr 0 h x y:=fun n hn=>by
 obtain⟨k,rfl,_⟩:=nb (show ig≤n by omega)
 rw [h2,h1,h3]; rfl
theorem bD {k:IntKind}{n:Int}:kr 0 h (.int k n) (.int k n):=lA rfl (fun _=>rfl) rfl
theorem b4 {b:Bool}:kr 0 h (.bool b) (.bool b):=lA rfl (fun _=>rfl) rfl
theorem cU {s:ByteArray}:kr 0 h (.str s) (.str s):=lA rfl (fun _=>rfl) rfl
theorem eG (hp:E.flat=true:=by rfl):kr 0 h (E.fz l) (E.fz l):=lA (bM.bG hp).1 (fun _=>rfl) (bM.bG hp).2
theorem sq {cs:List AV}(h1:(cJ cs=true))(h2:dw cs=E.l l){n:Nat}{b:Bool}(h3:n=l.length):kr 0 h (.fz cs n b) (E.fz l):=by
 refine lA (by simpa [AV.dZ] using h1) (fun _=>rfl) ?_
 subst h3
 show AV.fz (dw cs) l.length false=_
 rw [h2]; rfl
theorem nC:∀{cs:List AV} {n:Nat},cJ cs=true→(∀x∈cs,∀n,ck h (n+1) x=if x.dZ then some x.jj else none)→cs.length+1<n→br h n cs=some (dw cs)
 | [],n,_,_,hn=>by
  obtain⟨k,rfl⟩:∃k,n=k+1:=⟨n - 1,by omega⟩
  rfl
 | x::cs,n,h1,h2,hn=>by
  obtain⟨k,rfl⟩:∃k,n=k+1+1:=⟨n - 2,by simp at hn; omega⟩
  simp only [cJ,Vu] at h1
  simp only [br]
  rw [h2 x (by simp) k,h1.1]
  simp only [if_true,Vq]
  rw [nC h1.2 (fun y hy=>h2 y (by simp [hy])) (by simp at hn; omega)]
  rfl
def xe:AV→Bool
 | .agg _ | .tup _ | .fn _ _=>false
 | _=>true
theorem D4 {x:AV}(hf:xe x=true)(hn:x.dZ=true)(n:Nat):ck h (n+1) x=if x.dZ then some x.jj else none:=by
 cases x<;>first | rfl | (simp [AV.dZ] at hn; done) | (simp [xe] at hf; done)
theorem GH (o:Has h K)(hq:K[q]? = some (i,.sl l.length E.n (E.l l)))(hf:∀a:α,(E.f a).all xe=true)(hp:E.flat=true:=by rfl):kr 0 h (.rs i 0 l.length E.n) (E.fz l):=fun n hn=>by
 obtain⟨⟨⟨hlen,qH⟩,lR⟩,hlt⟩:=o.at_ _ _ _ hq
 obtain⟨k,rfl,hk⟩:=nb (show ig≤n by omega)
 simp only [ck]
 rcases lR with⟨h0,h1⟩| ⟨h0,rest,h1⟩
 ·have:l=[]:=by simpa using h1
  subst this
  simp [h0,bM.fz,bM.l]
 ·rw [if_neg h0,h1]
  simp only [Vq]
  have e1:((E.l l++rest).drop 0).take (l.length*E.n)=E.l l:=by
   rw [Wa,VW (by rw [hlen]; exact Vv _),V4 (by rw [hlen]; exact Vv _)]
  rw [if_pos (by rw [VA,hlen]; omega),e1,nC (bM.nQ hp).1 (fun x hx=>?_) (by simp only [ig] at hk; omega),(bM.nQ hp).2]
  ·rfl
  ·have hnx:x.dZ=true:=by
    have:∀(cs:List AV),cJ cs=true→x∈cs→x.dZ=true:=by
     intro cs
     induction cs with
     | nil=>intro _ h; cases h
     | cons y ys ih=>
      intro h hm
      simp only [cJ,Vu] at h
      rcases VS.1 hm with rfl | hm
      ·exact h.1
      ·exact ih h.2 hm
    exact this _ (bM.nQ hp).1 hx
   have SV:xe x=true:=by
    unfold bM.l at hx
    rw [List.mem_flatMap] at hx
    obtain⟨a,_,ha⟩:=hx
    exact VK.1 (hf a) x ha
   exact fun n=>D4 SV hnx n
theorem bI {n:Nat}(o:Has h K)(hq:K[q]? = some (i,.sl n E.n (E.l l)))(hf:∀a:α,(E.f a).all xe=true)(hp:E.flat=true:=by rfl):kr 0 h (.rs i 0 n E.n) (E.fz l):=by
 have hn:=cG o hq
 subst hn
 exact GH o hq hf hp
theorem aw:aQ 0 h [] []:=fun n hn=>by
 obtain⟨k,rfl,_⟩:=nb (show ig≤n by omega)
 rfl
theorem ah {k1 k2:Nat}{x y:AV}{xs ys:List AV}(f:kr k1 h x y)(g:aQ k2 h xs ys):aQ (k1+k2+1) h (x::xs) (y::ys):=fun n hn=>by
 obtain⟨k,rfl⟩:∃k,n=k+1:=⟨n - 1,by omega⟩
 simp only [br]
 rw [f k (by omega),g k (by omega)]
 rfl
theorem jT {k:Nat}{xs ys:List AV}(f:aQ k h xs ys):kr (k+1) h (.agg xs) (.agg ys):=fun n hn=>by
 obtain⟨k,rfl⟩:∃k,n=k+1:=⟨n - 1,by omega⟩
 simp only [ck]
 rw [f k (by omega)]; rfl
end
def ji (k:IntKind)(x:Int)(n:Nat):Int:=x.fdiv (2 ^ (min n k.bits))
section
variable {P:Program}{t:TypeId}{b:Nat}{α:Type}{E:bM α}{h:AHeap}{K:Mem}{l r:List α}{i q:Nat}{j lo hi:Int}{k k':IntKind}
theorem vt {s:ByteArray}{v:Int}(hu:P.underlying t=some .string)(h:bt s j=some v):pv P t (.str s) (.int k j)=some (.int .u8 v):=by
 unfold bt at h
 split at h
 ·rename_i h0
  rw [Vr] at h
  obtain⟨b,hb,rfl⟩:=h
  simp only [pv,hu,Vq,h0,if_true,hb,Vw]
 ·cases h
theorem D5 (h:HQ l lo hi=some r):(((E.l l).drop (lo.toNat*E.n)).take ((hi.toNat - lo.toNat)*E.n))=E.l r∧r.length=hi.toNat - lo.toNat:=by
 obtain⟨h0,h1,h2,rfl⟩:=xa h
 refine⟨by rw [bM.vn,bM.DY],?_⟩
 rw [Wt,List.length_drop]
 omega
theorem D6 (o:Has h K)(hq:K[q]? = some (i,.sl l.length E.n (E.l l)))(T:xc P t E.n b=true)(hs:HQ l 0 hi=some r) :
  lg P t (.rs i 0 l.length E.n) none (some (.int k hi)) none=some (.rs i 0 r.length E.n)∧Has h (K.set q (i,.sl r.length E.n (E.l r))):=by
 obtain⟨e,inf,g1,g2,g3,g4,g5,g6⟩:=jS T
 obtain⟨h0,h1,h2,hr⟩:=xa hs
 obtain⟨h3,h4⟩:=D5 (E:=E) hs
 simp only [Int.toNat_zero,Nat.sub_zero] at h4 hr
 have y8:r=l.take hi.toNat:=by rw [hr]; simp
 refine⟨?_,?_⟩
 ·simp only [lg,g1,Vq,g6,if_true,ka]
  rw [if_pos ⟨by omega,h2⟩]
  simp only [Vq,Vw,Nat.zero_mul,WV,Nat.sub_zero,h4]
 ·obtain⟨⟨⟨hlen,qH⟩,lR⟩,hlt⟩:=o.at_ _ _ _ hq
  refine o.D0 hq (fun _ _ _=>rfl) (Vv _) (.inl rfl) hlt ⟨⟨bM.bK,?_⟩,?_⟩
  ·rw [bM.bK]
   refine We (Wi _ ?_) (hlen ▸ qH)
   rw [h4]; omega
  ·rcases lR with⟨h5,h6⟩| ⟨h5,rest,h6⟩
   ·left; exact⟨h5,by rw [h4]; omega⟩
   ·right
    refine⟨h5,E.l (l.drop hi.toNat)++rest,?_⟩
    rw [h6,y8,←VI,←bM.hJ,WA]
theorem IQ {n:Nat}(o:Has h K)(hq:K[q]? = some (i,.sl n E.n (E.l l)))(T:xc P t E.n b=true)(hs:HQ l 0 hi=some r) :
  lg P t (.rs i 0 n E.n) none (some (.int k hi)) none=some (.rs i 0 r.length E.n)∧Has h (K.set q (i,.sl r.length E.n (E.l r))):=by
 have hn:=cG o hq
 subst hn
 exact D6 o hq T hs
end
theorem au {P:Program}{cf:CallF}{m:Nat}{aX:FuncId→b5}{f:FuncId}{fn:Func}{A:b5}(ha:aX f=A){args:List AV}{h:AHeap}{R:AV→AHeap→Prop}(hf:P.funcs[f]? = some fn)(hb:fn.body=some (b8 fn))(hn:WK args.length fn.ntmps=true)
  (he:du P cf A m (b8 fn) ⟨ml A.keep args,A.aE.map fun _=>none,h⟩ (fun e s=>(e = .ret∨e = .norm)∧∃r,aP P (s.open A) fn.results.toList=some r∧R r s.h)) :
  ∃r h',a6 P aX cf m f args h=some (r,h')∧R r h':=by
 subst ha
 exact vm hf hb hn he
def D7 (a b:ByteArray):Bool:=Op.bytesLess a.data.toList b.data.toList||a.data.toList==b.data.toList
end Go.R
namespace Go.R
open Go
mutual
theorem vu {h:AHeap}:∀(n:Nat) (x y:AV),x.dZ=true→ck h n x=some y→y=x.jj
 | 0,x,y,_,h=>by simp [ck] at h
 | n+1,x,y,hn,h=>by
  cases x with
  | agg cs=>
   simp only [ck,Vr] at h
   obtain⟨fi,hcs,rfl⟩:=h
   rw [gG n cs fi (by simpa [AV.dZ] using hn) hcs]; rfl
  | tup cs=>
   simp only [ck,Vr] at h
   obtain⟨fi,hcs,rfl⟩:=h
   rw [gG n cs fi (by simpa [AV.dZ] using hn) hcs]; rfl
  | fn f cs=>
   simp only [ck,Vr] at h
   obtain⟨fi,hcs,rfl⟩:=h
   rw [gG n cs fi (by simpa [AV.dZ] using hn) hcs]; rfl
  | ptr _ _=>simp [AV.dZ] at hn
  | rs _ _ _ _=>simp [AV.dZ] at hn
  | _=>simp only [ck,hn,if_true,Vt] at h; exact h.symm
theorem gG {h:AHeap}:∀(n:Nat) (xs ys:List AV),cJ xs=true→br h n xs=some ys→ys=dw xs
 | 0,xs,ys,_,h=>by simp [br] at h
 | n+1,[],ys,_,h=>by simp only [br,Vt] at h; exact h.symm
 | n+1,x::xs,ys,hn,h=>by
  simp only [cJ,Vu] at hn
  simp only [br,Vp,Vr] at h
  obtain⟨y,hy,zs,hz,rfl⟩:=h
  rw [vu n x y hn.1 hy,gG n xs zs hn.2 hz]; rfl
end
mutual
theorem uf {h:AHeap}:∀(n:Nat) (x y:AV),fW h n x=some y→ck h n x=some y
 | 0,x,y,h=>by simp [fW] at h
 | n+1,x,y,h=>by
  unfold fW at h
  split at h
  ·exact h
  ·exact h
  ·exact h
  ·exact h
  ·exact h
  ·exact h
  ·exact h
  ·exact h
  ·rename_i id off len ij
   simp only [ck]
   split at h
   ·rename_i h0; rw [if_pos h0]; exact h
   ·rename_i h0
    rw [if_neg h0]
    rw [Vp] at h ⊢
    obtain⟨ob,ho,h⟩:=h
    refine⟨ob,ho,?_⟩
    cases ob with
    | map es=>cases h
    | row t cs=>cases h
    | cells cs=>
     simp only at h ⊢
     split at h
     ·rename_i hle
      rw [if_pos hle]
      rw [Vr] at h ⊢
      obtain⟨fi,hcs,h2⟩:=h
      exact⟨fi,kj n _ _ hcs,h2⟩
     ·cases h
  ·simp only [ck]
   rw [Vr] at h ⊢
   obtain⟨fi,hcs,h2⟩:=h
   exact⟨fi,kj n _ _ hcs,h2⟩
  ·simp only [ck]
   rw [Vr] at h ⊢
   obtain⟨fi,hcs,h2⟩:=h
   exact⟨fi,kj n _ _ hcs,h2⟩
  ·cases h
theorem kj {h:AHeap}:∀(n:Nat) (xs ys:List AV),dj h n xs=some ys→br h n xs=some ys
 | 0,xs,ys,h=>by simp [dj] at h
 | n+1,[],ys,h=>h
 | n+1,x::xs,ys,h=>by
  simp only [dj,br,Vp,Vr] at h ⊢
  obtain⟨y,hy,zs,hz,h2⟩:=h
  exact⟨y,uf n x y hy,zs,kj n xs zs hz,h2⟩
end
def xf (k:Nat)(h:AHeap)(x y:AV):Prop:=∀n,ig+k≤n→fW h n x=some y
def GI (k:Nat)(h:AHeap)(x y:List AV):Prop:=∀n,ig+k≤n→dj h n x=some y
def fD (h:AHeap)(x y:AV):Prop:=xf 4503599627370496 h x y
section
variable {h:AHeap}{α:Type}{E:bM α}{l:List α}{K:Mem}{q i:Nat}
theorem fD.Gd {x y:AV}(f:fD h x y):NP h x y:=fun n hn=>uf _ _ _ (f n hn)
theorem dq {k:Nat}{x y:AV}(f:xf k h x y)(hk:k≤4503599627370496:=by decide):fD h x y:=fun n hn=>f n (by omega)
theorem Al {x y:AV}(h2:∀n,fW h (n+1) x=some y):xf 0 h x y:=fun n hn=>by
 obtain⟨k,rfl,_⟩:=nb (show ig≤n by omega)
 exact h2 k
theorem dk {k:IntKind}{n:Int}:xf 0 h (.int k n) (.int k n):=Al fun _=>rfl
theorem aD {b:Bool}:xf 0 h (.bool b) (.bool b):=Al fun _=>rfl
def D8:AV→Bool
 | .int _ _ | .bool _ | .str _=>true
 | _=>false
theorem mD:∀{cs:List AV} {n:Nat},cs.all D8=true→cs.length+1<n→dj h n cs=some cs
 | [],n,_,hn=>by
  obtain⟨k,rfl⟩:∃k,n=k+1:=⟨n - 1,by omega⟩
  rfl
 | x::cs,n,h1,hn=>by
  obtain⟨k,rfl⟩:∃k,n=k+1+1:=⟨n - 2,by simp at hn; omega⟩
  simp only [Wf,Vu] at h1
  simp only [dj]
  have:fW h (k+1) x=some x:=by cases x<;>first | rfl | (simp [D8] at h1)
  rw [this,Vq,mD h1.2 (by simp at hn; omega)]
  rfl
theorem HR {n:Nat}(o:Has h K)(hq:K[q]? = some (i,.sl n E.n (E.l l)))(hf:∀a:α,(E.f a).all D8=true):xf 0 h (.rs i 0 n E.n) (E.fz l):=fun m hm=>by
 have hn:=cG o hq
 subst hn
 obtain⟨⟨⟨hlen,qH⟩,lR⟩,hlt⟩:=o.at_ _ _ _ hq
 obtain⟨k,rfl,hk⟩:=nb (show ig≤m by omega)
 simp only [fW]
 rcases lR with⟨h0,h1⟩| ⟨h0,rest,h1⟩
 ·have:l=[]:=by simpa using h1
  subst this
  simp [h0,bM.fz,bM.l]
 ·rw [if_neg h0,h1]
  simp only [Vq]
  have e1:((E.l l++rest).drop 0).take (l.length*E.n)=E.l l:=by
   rw [Wa,VW (by rw [hlen]; exact Vv _),V4 (by rw [hlen]; exact Vv _)]
  rw [if_pos (by rw [VA,hlen]; omega),e1,mD ?_ (by simp only [ig] at hk; omega)]
  ·rfl
  ·rw [VK]
   intro x hx
   unfold bM.l at hx
   rw [List.mem_flatMap] at hx
   obtain⟨a,_,ha⟩:=hx
   exact VK.1 (hf a) x ha
theorem D9:GI 0 h [] []:=fun n hn=>by
 obtain⟨k,rfl,_⟩:=nb (show ig≤n by omega)
 rfl
theorem ry {k1 k2:Nat}{x y:AV}{xs ys:List AV}(f:xf k1 h x y)(g:GI k2 h xs ys):GI (k1+k2+1) h (x::xs) (y::ys):=fun n hn=>by
 obtain⟨k,rfl⟩:∃k,n=k+1:=⟨n - 1,by omega⟩
 simp only [dj]
 rw [f k (by omega),g k (by omega)]
 rfl
theorem Ea {k:Nat}{xs ys:List AV}(f:GI k h xs ys):xf (k+1) h (.tup xs) (.tup ys):=fun n hn=>by
 obtain⟨k,rfl⟩:∃k,n=k+1:=⟨n - 1,by omega⟩
 simp only [fW]
 rw [f k (by omega)]; rfl
def bQ:Nat:=9007199254740992
theorem eQ {k:Nat}{xs ys:List AV}(f:aQ k h xs ys)(hk:k≤bQ:=by decide):aQ bQ h xs ys:=fun n hn=>f n (by omega)
def sr (x y:AV):Prop:=x.dZ=true∧x.jj=y
def xg (xs ys:List AV):Prop:=cJ xs=true∧dw xs=ys
theorem aW {k:IntKind}{n:Int}:sr (.int k n) (.int k n):=⟨rfl,rfl⟩
theorem iT {s:ByteArray}:sr (.str s) (.str s):=⟨rfl,rfl⟩
theorem jg (hp:E.flat=true:=by rfl):sr (E.fz l) (E.fz l):=bM.bG hp
theorem rz:sr .nils (E.fz []):=⟨rfl,rfl⟩
theorem jU:xg [] []:=⟨rfl,rfl⟩
theorem ba {x y:AV}{xs ys:List AV}(a:sr x y)(b:xg xs ys):xg (x::xs) (y::ys):=⟨by simp [cJ,a.1,b.1],by simp [dw,a.2,b.2]⟩
theorem jV {xs ys:List AV}(a:xg xs ys):sr (.agg xs) (.agg ys):=⟨by simpa [AV.dZ] using a.1,by show AV.agg (dw xs)=_; rw [a.2]⟩
end
end Go.R
namespace Go.R
open Go
section
variable {P:Program}{h:AHeap}{K:Mem}{i q:Nat}{cs fi:List AV}{x z:AV}{t:TypeId}{off:Nat}
theorem fY (o:Has h K)(n9:cs.all AV.bR=true):∃i h',w7 h cs=some (.ptr i 0,h')∧Has h' ((i,.ob cs)::K):=by
 refine⟨h.next,h.alloc (.cells cs),by unfold w7; rw [if_pos n9],o.new (fun k hk=>by rw [AHeap.alloc,cZ,if_neg (by omega)]) (Wy _) (.inr (Vv _)) (Wd _) ⟨by have:=o.pos; omega,by rw [AHeap.alloc,cZ,if_pos rfl]⟩⟩
theorem bV (o:Has h K)(hq:K[q]? = some (i,.ob cs))(hr:iO P t cs off=some z):bl P h t (.ptr i off)=some z:=by
 obtain⟨⟨h1,h2⟩,_⟩:=o.at_ _ _ _ hq
 simp only [bl,jG,h2,Vq,hr]
theorem nD (o:Has h K)(hq:K[q]? = some (i,.ob cs))(hw:gO P t cs off x=some fi):∃h',iR P h t (.ptr i off) x=some h'∧Has h' (K.set q (i,.ob fi)):=by
 obtain⟨⟨h1,h2⟩,_⟩:=o.at_ _ _ _ hq
 exact⟨h.put i (.cells fi),by simp only [iR,h2,Vq,hw,Vw],jx o hq ⟨h1,by rw [cZ,if_pos rfl]⟩⟩
end
theorem aO {x y:AV}(h:sr x y):aM x=y:=by
 unfold aM
 rw [h.1,h.2]; rfl
theorem bA:([]:List AV).map aM=[]:=rfl
theorem ar {x y:AV}{xs ys:List AV}(a:aM x=y)(b:xs.map aM=ys):(x::xs).map aM=y::ys:=by
 rw [VU,a,b]
theorem jo {α:Type}{K L:List α}{q:Nat}{p:α}(h:L[q]? = some p):(K++L)[K.length+q]? = some p:=by
 rw [VL (by omega),WD,h]
theorem GJ {α:Type}{E:bM α}{h:AHeap}{K:Mem}{l:List α}{cs:List AV}(o:Has h K)(hc:cs=E.l l)(hl:l.length≤1024:=by simp) :
  ∃i h',some (AV.rs h.next 0 l.length E.n,h.alloc (.cells cs))=some (AV.rs i 0 l.length E.n,h')∧Has h' ((i,.sl l.length E.n (E.l l))::K):=by
 subst hc
 exact⟨h.next,_,rfl,o.new (fun k hk=>by rw [AHeap.alloc,cZ,if_neg (by omega)]) (Wy _) (.inr (Vv _)) (Wd _) ⟨⟨bM.bK,bM.na (by omega)⟩,.inr ⟨by have:=o.pos; omega,[],by rw [AHeap.alloc,cZ,if_pos rfl]; simp⟩⟩⟩
end Go.R
