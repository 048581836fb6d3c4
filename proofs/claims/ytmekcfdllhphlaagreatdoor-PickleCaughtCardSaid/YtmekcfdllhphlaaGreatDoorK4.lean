/- Part of the proof: RRow, RStep, RWalk, RG1, RG2, RG3, RG4, RT, RG5, RG6, RG7. -/
import Derived.Test.YtmekcfdllhphlaaGreatDoorK3
import Derived.ProofKit
set_option linter.unusedVariables false
set_option linter.unusedSimpArgs false
set_option maxRecDepth 100000
open BitVec renaming ofInt → YS
open Bool renaming and_eq_true → Yo, false_eq_true → YA, or_eq_true → Za
open Int renaming toNat_natCast → Yq, tmod → Zp, le_refl → ZR
open List renaming length_append → Ys, length_set → Yt, getElem?_eq_some_iff → Yu, append_assoc → Yx, mem_append → Yy, drop_eq_getElem_cons → Yz, length_cons → YD, getElem?_append_right → YE, replicate → YF, map_cons → YJ, all_eq_true → YK, nil_append → YO, map_append → YP, take_of_length_le → YR, getElem?_append_left → YV, mem_cons → YW, take_append_of_le_length → YX, drop_zero → YZ, getElem?_cons_zero → Y1, length_nil → Y6, eq_nil_of_length_eq_zero → Y8, ext_getElem? → Zd, all_cons → Zg, append_nil → Zk, take_length → Zq, getElem?_cons_succ → Zu, length_take → Zz, set_append_right → ZD, getElem?_set → ZH
open Nat renaming le_refl → Yn, zero_add → YG, lt_of_lt_of_le → YN, le_trans → Y0, lt_succ_self → Y2, beq → Y5, add_assoc → Y7, mul_le_mul_right → Zb, le_succ → Zr, add_mul → Zs, add_sub_cancel_left → Zt, eq_of_beq_eq_true → ZA, lt_succ_of_lt → ZG, mul_one → ZQ, sub_self → ZT, min_eq_left → ZW
open Option renaming bind_some → Yj, bind_eq_some_iff → Yk, map_eq_some_iff → Yl, map_some → Yp, isSome_none → ZK
open Option.some renaming injEq → Ym
open Prod.mk renaming injEq → Yr
open UInt8 renaming ofNat → ZX
namespace Go.R
open Go
def Bc (P:Program)(F:TypeId→List AV→Prop):List Field→List AV→Prop
 | [],xs=>xs=[]
 | f::fs,xs=>∃a b,xs=a++b∧a.length=P.cellsOf f.type∧F f.type a∧Bc P F fs b
def Fits (P:Program):Nat→TypeId→List AV→Prop
 | 0,_,_=>False
 | n+1,t,xs=>
  match P.underlying t with
  | some .bool=>∃b,xs=[.bool b]
  | some (.int k)=>∃z,xs=[.int k z]∧k.min≤z∧z≤k.max
  | some .string=>∃s:ByteArray,xs=[.str s]∧s.size≤maxLen
  | some (.slice e)=>xs=[.nils]∨∃els:List (List AV),xs=[.fz els.flatten els.length false]∧els.length≤maxLen∧∀el∈els,el.length=P.cellsOf e∧Fits P n e el
  | some (.struct fs)=>Bc P (Fits P n) fs.toList xs
  | _=>False
def sD (P:Program):Nat→List Field→Bool
 | _,[]=>true
 | k,f::fs=>Y5 f.offset k&&sD P (k+P.cellsOf f.type) fs
def mI (P:Program):Nat→TypeId→Bool
 | 0,_=>false
 | n+1,t=>
  match P.underlying t with
  | some .bool | some (.int _) | some .string=>true
  | some (.slice e)=>mI P n e
  | some (.struct fs)=>sD P 0 fs.toList&&Y5 (P.cellsOf t) ((fs.toList.map fun f=>P.cellsOf f.type).sum)&&fs.toList.all fun f=>mI P n f.type
  | _=>false
theorem mapM_some {α β:Type}{f:α→Option β}:∀{l:List α} {ys:List β},l.mapM f=some ys→ys.length=l.length∧∀(i:Nat) (x:α),l[i]? = some x→∃y,ys[i]? = some y∧f x=some y
 | [],ys,h=>by
  simp at h; subst h
  exact⟨rfl,fun i x hx=>by simp at hx⟩
 | a::l,ys,h=>by
  simp only [List.mapM_cons,Option.bind_eq_bind,Yk,Option.pure_def,Ym] at h
  obtain⟨y,hy,zs,hz,rfl⟩:=h
  obtain⟨h1,h2⟩:=mapM_some hz
  refine⟨by simp [h1],fun i x hx=>?_⟩
  cases i with
  | zero=>simp at hx; subst hx; exact⟨y,rfl,hy⟩
  | succ i=>simpa using h2 i x (by simpa using hx)
theorem Bd {w:World}{a:Addr}{v:Value}(h:w.cell? a=some v):w.cell? ⟨a.block,a.off,none⟩=some v∧a.spot=none:=by
 unfold World.cell? at h ⊢
 split at h
 ·rename_i c t fr hb
  rw [hb]
  simp only at h ⊢
  cases hs:a.spot with
  | none=>rw [hs] at h; exact⟨by simpa using h,rfl⟩
  | some _=>rw [hs] at h; simp at h
 ·cases h
theorem nh (a:Addr)(n:Nat):(a.add n).block=a.block∧(a.add n).off=a.off+n:=by
 unfold Addr.add
 split
 ·rename_i h; subst h; exact⟨rfl,rfl⟩
 ·exact⟨rfl,rfl⟩
theorem za {w:World}{base:Nat}{a:Addr}{n:Nat}{cs:List Value}(h:w.cells? base a n=some cs):cs.length=n∧∀i,i<n→w.cell? ⟨a.block,a.off+i,none⟩=cs[i]?∧(i=0→a.spot=none):=by
 unfold World.cells? at h
 split at h
 ·obtain⟨h1,h2⟩:=mapM_some h
  refine⟨by simpa using h1,fun i hi=>?_⟩
  obtain⟨y,hy,hc⟩:=h2 i i (by simp [hi])
  obtain⟨h3,h4⟩:=Bd hc
  rw [(nh a i).1,(nh a i).2] at h3
  refine⟨by rw [h3,hy],fun h0=>?_⟩
  subst h0
  simpa [Addr.add] using h4
 ·cases h
theorem rE {α:Type}{Q:Nat→α→Prop}:∀n,(∀i,i<n→∃x,Q i x)→∃l:List α,l.length=n∧∀i x,l[i]? = some x→Q i x
 | 0,_=>⟨[],rfl,fun i x h=>by simp at h⟩
 | n+1,h=>by
  obtain⟨l,h1,h2⟩:=rE n fun i hi=>h i (by omega)
  obtain⟨x,hx⟩:=h n (by omega)
  refine⟨l++[x],by simp [h1],fun i y hy=>?_⟩
  by_cases hi:i<n
  ·exact h2 i y (by rwa [YV (by omega)] at hy)
  ·rw [YE (by omega)] at hy
   have:i=n:=by
    have:=(Yu.1 hy).1
    simp at this; omega
   subst this
   simp [h1] at hy
   subst hy; exact hx
theorem Cells.append {c:Cx}{L:Nat→Prop}:∀{xs ys:List AV} {b o:Nat},Cells c L xs b o→Cells c L ys b (o+xs.length)→Cells c L (xs++ys) b o
 | [],ys,b,o,_,h=>by simpa using h
 | x::xs,ys,b,o,h,k=>⟨h.1,Cells.append h.2 (by simpa [Y7,Nat.add_comm 1] using k)⟩
theorem Cells.flatten {c:Cx}{L:Nat→Prop}{b size:Nat}:∀(els:List (List AV)) (o:Nat),(∀i el,els[i]? = some el→el.length=size∧Cells c L el b (o+i*size))→Cells c L els.flatten b o
 | [],o,_=>trivial
 | el::els,o,h=>by
  obtain⟨h1,h2⟩:=h 0 el rfl
  rw [List.flatten_cons]
  refine Cells.append (by simpa using h2) (Cells.flatten (size:=size) els _ fun i Wc he=>?_)
  obtain⟨h3,h4⟩:=h (i+1) Wc (by simpa using he)
  refine⟨h3,?_⟩
  rw [h1]
  rwa [show o+size+i*size=o+(i+1)*size by rw [Zs,Nat.one_mul]; omega]
section
variable {H:Type}{enc:TypeId × Value→H}{P:Program}{c:Cx}{sp:Nat→Bool}{held:Bool}
theorem rF {F:TypeId→List AV→Prop}{g:TypeId→List Value→Option (DataW H × List MemPlace)}(hg:∀t cs x,g t cs=some x→cs.length=P.cellsOf t→(∃u:Nat,u=0)→True) :
  ∀(fs:List Field) (k:Nat) (cs:List Value) (xs:List (DataW H × List MemPlace)),sD P k fs=true→(∀f∈fs,∀cs x,g f.type cs=some x→cs.length=P.cellsOf f.type→∃ys,VRs c none0 ys cs∧F f.type ys∧∀v∈cs,v.oneCell'=true)→
   (fs.mapM fun f=>g f.type ((cs.drop f.offset).take (P.cellsOf f.type)))=some xs→k+(fs.map fun f=>P.cellsOf f.type).sum≤cs.length→
   ∃ys,VRs c none0 ys ((cs.drop k).take ((fs.map fun f=>P.cellsOf f.type).sum))∧Bc P F fs ys∧∀v∈(cs.drop k).take ((fs.map fun f=>P.cellsOf f.type).sum),v.oneCell'=true
 | [],k,cs,xs,_,_,_,_=>⟨[],by simp [VRs],rfl,by simp⟩
 | f::fs,k,cs,xs,hc,hF,h,hl=>by
  simp only [sD,Yo,beq_nat,decide_eq_true_eq] at hc
  obtain⟨rfl,hc⟩:=hc
  simp only [List.mapM_cons,Option.bind_eq_bind,Yk,Option.pure_def,Ym] at h
  obtain⟨y,hy,zs,hz,rfl⟩:=h
  simp only [YJ,List.sum_cons] at hl ⊢
  have hlen:((cs.drop f.offset).take (P.cellsOf f.type)).length=P.cellsOf f.type:=by simp; omega
  obtain⟨a,ha,We,h1⟩:=hF f (by simp) _ _ hy hlen
  obtain⟨b,hb,Wf,h2⟩:=rF hg fs (f.offset+P.cellsOf f.type) cs zs hc (fun f' NR=>hF f' (by simp [NR])) hz (by omega)
  have Ll:(cs.drop f.offset).take (P.cellsOf f.type+(fs.map fun f=>P.cellsOf f.type).sum)=(cs.drop f.offset).take (P.cellsOf f.type)++((cs.drop (f.offset+P.cellsOf f.type)).take ((fs.map fun f=>P.cellsOf f.type).sum)):=by
   rw [List.take_add,List.drop_drop]
  rw [Ll]
  refine⟨a++b,VRs.append ha hb,⟨a,b,rfl,?_,We,Wf⟩,fun v hv=>?_⟩
  ·rw [ha.length,hlen]
  ·rcases Yy.1 hv with hv | hv
   ·exact h1 v hv
   ·exact h2 v hv
theorem qB (rT:∀id,c.h.get id=none):∀(m:Nat) (t:TypeId) (fuel:Nat) (cs:List Value) (d:DataW H) (ps:List MemPlace),mI P m t=true→DataW.trod enc P c.w 0 sp held fuel t cs=some (d,ps)→
  ∃xs,VRs c none0 xs cs∧Fits P m t xs∧∀v∈cs,v.oneCell'=true
 | 0,_,_,_,_,_,hB,_=>by simp [mI] at hB
 | m+1,t,0,cs,d,ps,hB,h=>by simp [DataW.trod] at h
 | m+1,t,fuel+1,cs,d,ps,hB,h=>by
  have hnl:∀id,¬Live c.h id:=fun id hl=>by have:=hl.2; rw [rT id] at this; cases this
  unfold mI at hB
  unfold Fits
  cases hu:P.underlying t with
  | none=>rw [hu] at hB; cases hB
  | some td=>
  rw [hu] at hB
  cases td<;>simp only at hB ⊢<;>try (cases hB; done)
  ·
   unfold DataW.trod at h
   rw [hu] at h
   split at h<;>first | (rename_i heq; cases heq; done) | skip
   all_goals try (rename_i heq _; cases heq; done)
   all_goals (first | (cases h; done) | skip)
   ·rename_i b _
    exact⟨[.bool b],⟨by simp [VR],trivial⟩,⟨b,rfl⟩,by simp [Value.oneCell']⟩
  ·rename_i k
   unfold DataW.trod at h
   rw [hu] at h
   split at h<;>first | (rename_i heq; cases heq; done) | skip
   all_goals try (rename_i heq _; cases heq; done)
   ·rename_i k' k2 n heq
    cases heq
    split at h
    ·rename_i hk
     obtain⟨rfl,PO⟩:=hk
     simp only [Lit.wf,Yo,decide_eq_true_eq] at PO
     exact⟨[.int k2 n],⟨by simp [VR],trivial⟩,⟨n,rfl,PO⟩,by simp [Value.oneCell']⟩
    ·cases h
   ·cases h
  ·
   unfold DataW.trod at h
   rw [hu] at h
   split at h<;>first | (rename_i heq; cases heq; done) | skip
   all_goals try (rename_i heq _; cases heq; done)
   ·rename_i s _
    split at h
    ·rename_i hs
     exact⟨[.str s],⟨by simp [VR],trivial⟩,⟨s,rfl,hs⟩,by simp [Value.oneCell']⟩
    ·cases h
   ·cases h
  ·
   rename_i e
   unfold DataW.trod at h
   rw [hu] at h
   split at h<;>first | (rename_i heq; cases heq; done) | skip
   all_goals try (rename_i heq _; cases heq; done)
   ·exact⟨[.nils],⟨by simp [VR],trivial⟩,.inl rfl,by simp [Value.oneCell']⟩
   ·rename_i e' a len cap heq
    cases heq
    simp only at h
    split at h
    rotate_left
    ·cases h
    rename_i hbound
    obtain⟨_,hlc,hcap⟩:=hbound
    rw [Yk] at h
    obtain⟨elems,Lm,_⟩:=h
    obtain⟨hn,hget⟩:=mapM_some Lm
    have key:∀i,i<len→∃el:List AV,el.length=P.cellsOf e∧Fits P m e el∧Cells c none0 el a.block (a.off+i*P.cellsOf e)∧(i=0→0<P.cellsOf e→a.spot=none):=by
     intro i hi
     obtain⟨y,_,hy⟩:=hget i i (by simp [hi])
     rw [Yk] at hy
     obtain⟨Wg,hcs,hy⟩:=hy
     obtain⟨hl,nH⟩:=za hcs
     obtain⟨el,hv,hf,h1⟩:=qB rT m e fuel Wg y.1 y.2 hB hy
     refine⟨el,by rw [hv.length,hl],hf,Cells.of_vals hv (fun j hj=>?_) h1,fun h0 iy=>?_⟩
     ·have:=(nH j (by omega)).1
      rwa [(nh a _).1,(nh a _).2] at this
     ·subst h0
      have:=(nH 0 iy).2 rfl
      simpa [Addr.add] using this
    obtain⟨els,hl,DZ⟩:=rE len key
    refine⟨[.fz els.flatten els.length false],⟨?_,trivial⟩,.inr ⟨els,rfl,by omega,fun el Lm=>?_⟩,by simp [Value.oneCell']⟩
    ·simp only [VR]
     refine⟨some a,cap,by rw [hl],by omega,by simp,.inl rfl,?_⟩
     by_cases Ln:els.flatten=[]
     ·exact .inl Ln
     ·have iy:0<len∧0<P.cellsOf e:=by
       cases els with
       | nil=>simp at Ln
       | cons el els=>
        refine⟨by simp at hl; omega,?_⟩
        rcases Nat.eq_zero_or_pos (P.cellsOf e) with h0 | h0
        ·exfalso
         apply Ln
         rw [List.flatten_eq_nil_iff]
         intro l vI
         obtain⟨i,hi⟩:=List.getElem?_of_mem vI
         have:=(DZ i l hi).1
         exact Y8 (by omega)
        ·exact h0
      have J9:a.spot=none:=by
       cases els with
       | nil=>simp at hl; omega
       | cons el els=>exact (DZ 0 el rfl).2.2.2 rfl iy.2
      refine .inr ⟨a.block,a.off,?_,⟨fun id hl=>absurd hl (hnl id),fun h=>h.elim⟩,by simp,Cells.flatten els a.off fun i el hi=>⟨(DZ i el hi).1,(DZ i el hi).2.2.1⟩⟩
      cases a; simp at J9; subst J9; rfl
    ·obtain⟨i,hi⟩:=List.getElem?_of_mem Lm
     exact⟨(DZ i el hi).1,(DZ i el hi).2.1⟩
   ·cases h
  ·
   rename_i fs
   simp only [Yo,beq_nat,decide_eq_true_eq,YK] at hB
   obtain⟨⟨QY,Lp⟩,N7⟩:=hB
   simp only [DataW.trod,hu] at h
   split at h
   rotate_left
   ·cases h
   rename_i hlen
   rw [Yl] at h
   obtain⟨xs,hx,_⟩:=h
   obtain⟨ys,h1,h2,h3⟩:=rF (P:=P) (c:=c) (F:=Fits P m) (g:=fun t cs=>DataW.trod enc P c.w 0 sp held fuel t cs) (fun _ _ _ _ _ _=>trivial) fs.toList 0 cs xs QY
    (fun f hf cs x hx _=>qB rT m f.type fuel cs x.1 x.2 (N7 f hf) hx) hx (by omega)
   have kW:(cs.drop 0).take ((fs.toList.map fun f=>P.cellsOf f.type).sum)=cs:=by
    rw [YZ,←Lp,←hlen,Zq]
   rw [kW] at h1 h3
   exact⟨ys,h1,h2,h3⟩
def je (P:Program)(t:TypeId)(xs:List AV):AV:=
 match P.underlying t with
 | some (.struct _)=>.agg xs
 | _=>xs.headD .any
def pe (P:Program)(m:Nat):List TypeId→List AV→Prop
 | [],[]=>True
 | t::ts,x::xp=>(∃xs,x=je P t xs∧Fits P m t xs)∧pe P m ts xp
 | _,_=>False
theorem D0 {w:World}{m:Nat}{t:TypeId}{v:Value}{base:Nat}(hB:mI P m t=true)(hs:∀fs,P.underlying t≠some (.struct fs))(h:Value.okWide P w .any base t v):v.cells.toList=[v]:=by
 cases m with
 | zero=>simp [mI] at hB
 | succ m=>
 unfold mI at hB
 unfold Value.okWide at h
 cases hu:P.underlying t with
 | none=>rw [hu] at hB; cases hB
 | some td=>
 rw [hu] at hB h
 cases td<;>simp only at hB h<;>first
  | (cases hB; done)
  | (exact absurd hu (hs _))
  | (cases v<;>simp only [Cell.okWide,Cell.ok,hu] at h<;>first | (exact h.elim) | rfl | (simp [Value.cells]))
theorem FJ (rT:∀id,c.h.get id=none){m:Nat}{t:TypeId}{v:Value}{d:DataW H}{ps:List MemPlace}{base:Nat}(hB:mI P m t=true)(ho:Value.okWide P c.w .any base t v)(h:DataW.Trod enc P c.w 0 sp held t v d ps) :
  ∃xs,Fits P m t xs∧VR c none0 (je P t xs) v:=by
 obtain⟨fuel,h⟩:=h
 obtain⟨xs,h1,h2,_⟩:=qB rT m t fuel _ d ps hB h
 refine⟨xs,h2,?_⟩
 by_cases hs:∃fs,P.underlying t=some (.struct fs)
 ·obtain⟨fs,hs⟩:=hs
  unfold Value.okWide at ho
  rw [hs] at ho
  obtain⟨cs,rfl,_⟩:=ho
  unfold je
  rw [hs]
  simp only [VR]
  exact⟨cs,rfl,h1⟩
 ·have MY:∀fs,P.underlying t≠some (.struct fs):=fun fs h=>hs ⟨fs,h⟩
  have hc:=D0 hB MY ho
  rw [hc] at h1
  have hx:je P t xs=xs.headD .any:=by
   unfold je
   split
   ·rename_i fs h; exact absurd h (MY fs)
   ·rfl
  rw [hx]
  cases xs with
  | nil=>exact h1.elim
  | cons x xs=>exact h1.1
theorem zb (rT:∀id,c.h.get id=none){m base:Nat}:∀(ts:List TypeId) (vs:List Value) (ds:List (DataW H)) (ps:List MemPlace),(∀t∈ts,mI P m t=true)→(∀(j:Nat) t v,ts[j]? = some t→vs[j]? = some v→Value.okWide P c.w .any base t v)→
  DataW.TrodAll enc P c.w 0 sp held ts vs ds ps→∃xp,pe P m ts xp∧VRs c none0 xp vs
 | [],[],[],_,_,_,_=>⟨[],trivial,trivial⟩
 | t::ts,v::vs,d::ds,ps,hB,ho,h=>by
  obtain⟨p,q,h1,h2,_⟩:=h
  obtain⟨xs,h3,h4⟩:=FJ rT (hB t (by simp)) (ho 0 t v rfl rfl) h1
  obtain⟨xp,h5,h6⟩:=zb rT ts vs ds q (fun t ht=>hB t (by simp [ht])) (fun j t v hj hv=>ho (j+1) t v (by simpa using hj) (by simpa using hv)) h2
  exact⟨je P t xs::xp,⟨⟨xs,rfl,h3⟩,h5⟩,h4,h6⟩
 | [],[],_::_,_,_,_,h=>h.elim
 | [],_::_,_,_,_,_,h=>by cases h
 | _::_,[],_,_,_,_,h=>by cases h
 | _::_,_::_,[],_,_,_,h=>by cases h
theorem kG (hl:laidOutB P=true){W W':World}{T1:Nat→Bool}:∀{ts:List TypeId} {vs:List Value} {ds:List (DataW H)} {ps:List MemPlace},(∀t∈ts,P.readableRec t=true∧t<P.types.size)→
  DataW.TrodAll enc P W 0 (fun _=>true) true ts vs ds ps→(∀p∈ps,W.sameAt W' p)→(∀p∈ps,T1 p.block=true)→DataW.TrodAll enc P W' 0 T1 true ts vs ds ps
 | [],[],[],_,_,h,_,_=>h
 | t::ts,v::vs,d::ds,ps,hr,h,hs,hp=>by
  obtain⟨p,q,h1,h2,rfl⟩:=h
  exact⟨p,q,WideElems.Trod_stays hl (hr t (by simp)).1 (hr t (by simp)).2 h1 (fun x hx=>hs x (by simp [hx])) (fun x hx=>hp x (by simp [hx])),
   kG hl (fun t ht=>hr t (by simp [ht])) h2 (fun x hx=>hs x (by simp [hx])) (fun x hx=>hp x (by simp [hx])),rfl⟩
 | [],[],_::_,_,_,h,_,_=>h.elim
 | [],_::_,_,_,_,h,_,_=>by cases h
 | _::_,[],_,_,_,h,_,_=>by cases h
 | _::_,_::_,[],_,_,h,_,_=>by cases h
theorem D1 {f:Func}{s:ChangeSpec}{apart fresh handsOn again:Bool}{W W':World}{args:Array Value}{ds gs:List (DataW H)}{before:List MemPlace}{tb:TypeId}
  (hl:laidOutB P=true) (hr:∀t∈f.params.toList,P.readableRec t=true∧t<P.types.size) (hW:DataW.Whole enc P f.params.toList s.vars apart W args.toList ds gs before) (hv:s.vars=[])
  (FK:f.resultTypes = #[tb]) (PQ:P.underlying tb=some .bool) (Lq:(s.fn H (ds++gs))={results:=[.lit (.bool true)],args:=ds}) (hb:RowKit.Below W.heap.size W W') :
  s.post enc P f apart fresh handsOn again W args (.bool true) W':=by
 have hlt:=hW.lt
 have hW0:=hW
 obtain⟨p,q,hA,hV,T2,hz,hn⟩:=hW
 rw [hv] at hV
 have QZ:gs=[]∧q=[]:=by
  cases gs with
  | nil=>exact⟨rfl,hV⟩
  | cons g gs=>exact hV.elim
 obtain⟨rfl,rfl⟩:=QZ
 have Q0:before=p:=by simpa using T2
 subst Q0
 have Ka:∀x∈before,W.sameAt W' x:=fun x hx=>hb.same (hlt x hx)
 have Kb:(Value.bool true).resultList f.resultTypes.size=[.bool true]:=by rw [FK]; rfl
 have Kc:∀(b:Nat) (sp:Nat→Bool) (hd:Bool),DataW.TrodAll enc P W' b sp hd f.resultTypes.toList ((Value.bool true).resultList f.resultTypes.size) [.lit (.bool true)] []:=by
  intro b sp hd
  rw [Kb,FK]
  exact ChangeShapes.trodAll_mk1 (RowKit.shut_bool PQ true)
 refine⟨ds,[],before,[],before,[],hW0,?_,?_,?_,?_,fun _=>⟨?_,?_⟩⟩
 ·rw [Lq]; exact Kc _ _ _
 ·rw [Lq]
  exact kG hl hr hA Ka (fun x hx=>by simpa using hlt x hx)
 ·rw [Lq,hv]; rfl
 ·exact hb.frame _
 ·exact RowKit.ok_one FK rfl (RowKit.okWide_bool_mk PQ true)
 ·refine⟨_,[],before,⟨[]++before,[],ChangeShapes.trodAll_append (kG hl hr hA Ka (fun _ _=>rfl)) (Kc 0 _ _),by rw [hv]; rfl,by simp,fun b off hx=>?_,hn⟩,fun p hp _=>hp⟩
  rw [hb.frozen (p:=⟨b,off,none⟩) (hlt _ hx)]
  exact hz b off hx
theorem Ext.below {c c':Cx}(e:Ext c none0 c' none0):RowKit.Below c.base c.w c'.w:=⟨e.os,e.tape,e.output,e.size,fun b hb=>e.exact b hb⟩
theorem vf {cf:CallF}{A6:FuncId}{f:Func}{s:ChangeSpec}{apart fresh handsOn again:Bool}{m:Nat}{tb:TypeId}
  (hl:laidOutB P=true) (hr:∀t∈f.params.toList,P.readableRec t=true∧t<P.types.size) (hB:∀t∈f.params.toList,mI P m t=true) (hv:s.vars=[]) (FK:f.resultTypes = #[tb]) (PQ:P.underlying tb=some .bool)
  (Lq:∀ds:List (DataW H),ds.length=f.params.size→(s.fn H ds)={results:=[.lit (.bool true)],args:=ds})
  (hcf:∀xp,pe P m f.params.toList xp→∃cf h',CallOK P cf∧cf A6 xp bH=some (.bool true,h'))
  {W:World} {base:Nat} {args:Array Value} {ds gs:List (DataW H)} {before:List MemPlace} (dF:∀(j:Nat) t v,f.params[j]? = some t→args[j]? = some v→Value.okWide P W .any base t v)
  (hW:DataW.Whole enc P f.params.toList s.vars apart W args.toList ds gs before) :
  Calls P A6 args W fun e W'=>∃v,e = .returned v∧s.post enc P f apart fresh handsOn again W args v W':=by
 have hW0:=hW
 obtain⟨p,q,hA,hV,T2,_,_⟩:=hW
 let c:Cx:=⟨fun _=>(0,0),bH,W,W.heap.size⟩
 obtain⟨xp,h1,h2⟩:=zb (c:=c) (P:=P) (m:=m) (base:=base) (fun _=>rfl) f.params.toList args.toList ds p hB (fun j t v hj hv=>dF j t v (by simpa using hj) (by simpa using hv)) hA
 obtain⟨cf,h',oN,Q3⟩:=hcf xp h1
 have hnl:∀id,¬Live c.h id:=fun id hl=>by have:=hl.2; cases this
 have hcall:=(oN A6 xp bH _ _ Q3).2 none0 c args.toList rfl (Yn _) ⟨fun id o ho=>(by cases ho),fun id o ho=>(by cases ho),fun id _ hl _ _=>absurd hl (hnl id),fun id hl=>absurd hl (hnl id),fun b hb=>hb.elim,fun id hl=>absurd hl (hnl id),fun _=>Nat.zero_lt_one⟩ h2
 rw [Array.toArray_toList] at hcall
 have hlen:∀(ts:List TypeId) (vs:List Value) (ds:List (DataW H)) (p:List MemPlace),DataW.TrodAll enc P W 0 (fun _=>true) true ts vs ds p→ds.length=ts.length:=by
  intro ts
  induction ts with
  | nil=>intro vs ds p h; cases vs<;>cases ds<;>first | rfl | (cases h; done) | exact h.elim
  | cons t ts ih=>intro vs ds p h; cases vs<;>cases ds<;>first | (cases h; done) | (obtain⟨_,_,_,h2,_⟩:=h; simp [ih _ _ _ h2])
 have QZ:gs=[]:=by
  rw [hv] at hV
  cases gs with
  | nil=>rfl
  | cons g gs=>exact hV.elim
 refine hcall.mono ?_
 rintro e w' ⟨c',v,rfl,rfl,hh,Cb,hrel,KU⟩
 simp only [VR] at Cb
 subst Cb
 refine⟨_,rfl,D1 hl hr hW0 hv FK PQ ?_ KU.below⟩
 rw [QZ,Zk]
 exact Lq ds (by rw [hlen _ _ _ _ hA]; simp)
end
end Go.R
namespace Go.R
open Go
section
variable {P:Program}{cf:CallF}{aF ds:List Nat}{s:RS}{d:Option Tmp}{t:TypeId}{p:String}{a:Array Edge}{g:Option (Nat × Bool)}{ops:List Oper}{ρ:Nat→AV}{bx:Nat→Option (List AV)}{h:AHeap}
variable {A:cm}{m:Nat}{st:St}
end
end Go.R
namespace Go.R
open Go
def sub:List Nat→Code→Code
 | [],c=>c
 | 0::p,.seq a _=>sub p a
 | _::p,.seq _ b=>sub p b
 | 0::p,.cond _ a _=>sub p a
 | _::p,.cond _ _ b=>sub p b
 | _::p,.block _ a=>sub p a
 | _::p,.loop a=>sub p a
 | _,c=>c
def codeOf (f:Func):Code:=f.body.getD .skip
end Go.R
namespace Go.R
open Go
section
variable (P:Program)
def bo (h:AHeap)(t:TypeId)(x:AV):Option AV:=ju P (fun _=>none) h t x
def jk (h:AHeap)(t:TypeId)(a x:AV):Option AHeap:=
 match a with
 | .ptr id off=>(h.get id).bind fun | .cells cs=>(gR P t cs off x).map fun fF=>h.put id (.cells fF) | _=>none
 | _=>none
def Kd (cf:CallF)(f:AV)(as:List AV)(h:AHeap):Option (AV × AHeap):=
 match f with
 | .fn f cap=>if as.all AV.lW then cf f (as++cap) h else none
 | _=>none
def zc (h:AHeap)(cs:List AV):Option (AV × AHeap):=if cs.all AV.cK then some (.ptr h.next 0,h.alloc (.cells cs)) else none
def D2 (aF:List Nat)(d:Option Nat):Bool:=match d with | some d=>!aF.contains d | none=>false
def FL (aF:List Nat)(h:AHeap)(o:Oper)(t:TypeId)(x:Option AV):Option (AV × AHeap):=
 x.bind fun x=>(nW P aF o t x).map fun (cs,n,z)=>(.rs h.next 0 n z,h.alloc (.cells cs))
def Lr (e:Operand→AV)(h:AHeap)(o:Oper)(z:AV):Prop:=
 match o.op with
 | .move x | .assign x=>e x=z
 | .load t a=>bo P h t (e a)=some z
 | .binOp op t x y _=>jC P op t (e x) (e y)=some z
 | .unOp op _ x=>((e x).fA.bind fun a=>(iK P (Op.unary op a)).bind oI)=some z
 | .convert a b x=>ib P h a b (e x)=some z
 | .slice t x lo hi mx=>eR P t (e x) (lo.map e) (hi.map e) (mx.map e)=some z
 | .indexAddr t x i=>eC P t (e x) (e i)=some z
 | .index t x i=>qf P t (e x) (e i)=some z
 | .lookup t m k ok=>fL P h t (e m) (e k) ok=some z
 | .call {callee:=.builtin .len,args,argTypes}=>match argTypes.toList,args.toList.map e with
  | [t],[x]=>sR P h t x=some z
  | _,_=>False
 | _=>False
def Ls (cf:CallF)(aF:List Nat)(e:Operand→AV)(h:AHeap)(o:Oper)(z:AV)(h':AHeap):Prop:=
 match o.op with
 | .store t a x=>bif o.dst.isSome then False else jk P h t (e a) (e x)=some h'
 | .alloc t=>bif D2 aF o.dst then (jT P t).bind (fun z=>zc h (DB aF o.dst z.cells))=some (z,h') else False
 | .box _ x=>bif D2 aF o.dst then zc h (e x).cells=some (z,h') else False
 | .buildSlice t n ps=>FL P aF h o t (gC P t n (ps.toList.map fun (i,x)=>(i,e x)))=some (z,h')
 | .makeMap _ none=>(AV.mp h.next,h.alloc (.map []))=(z,h')
 | .makeSlice t l c=>gD P h t (e l) (e c)=some (z,h')
 | .mapUpdate t m k x | .insert t m k x=>bif o.dst.isSome then False else iN P h t (e m) (e k) (e x)=some h'
 | .call {callee:=.builtin .append,args,argTypes}=>match argTypes.toList,args.toList.map e with
  | [t,t2],[x,y]=>eJ P h t t2 x y=some (z,h')
  | _,_=>False
 | .call {callee:=.builtin .copy,args,argTypes}=>match argTypes.toList,args.toList.map e with
  | [t,t2],[x,y]=>vF P h t t2 x y=some (z,h')
  | _,_=>False
 | .call {callee:=.value f,args,..}=>Kd cf (e f) (args.toList.map e) h=some (z,h')
 | _=>False
end
abbrev Lt:=List (Nat × AV × Option AHeap)
def tq (P:Program)(cf:CallF)(aF:List Nat)(ops:List Oper):RS→Nat→List Oper→Lt→Option (List su × RS × Prop)
 | s,_,[],[]=>some ([],s,True)
 | _,_,[],_::_=>none
 | s,i,o::os,zs=>
  (gS ops s.ρ o).bind fun w=>
   bif w then
    match zs with
    | []=>(wS P cf aF (ops.filterMap (·.dst)) s o).bind fun s1=>(tq P cf aF ops s1 (i+1) os []).map fun (l,r,p)=>({o,f:=a8 aF (bS s.ρ) o,s,s':=s1}::l,r,p)
    | (j,z,oh)::vX=>
     bif Y5 i j then
      match oh with
      | none=>(tq P cf aF ops (s.set o.dst z) (i+1) os vX).map fun (l,r,p)=>({o,f:=a8 aF (bS s.ρ) o,s,s':=s.set o.dst z}::l,r,Lr P (bS s.ρ) s.h o z∧p)
      | some h'=>(tq P cf aF ops (({s with h:=h'}:RS).set o.dst z) (i+1) os vX).map fun (l,r,p)=>({o,f:=a8 aF (bS s.ρ) o,s,s':=({s with h:=h'}:RS).set o.dst z}::l,r,Ls P cf aF (bS s.ρ) s.h o z h'∧p)
     else (wS P cf aF (ops.filterMap (·.dst)) s o).bind fun s1=>(tq P cf aF ops s1 (i+1) os zs).map fun (l,r,p)=>({o,f:=a8 aF (bS s.ρ) o,s,s':=s1}::l,r,p)
   else (tq P cf aF ops (s.set o.dst (.tup [])) (i+1) os zs).map fun (l,r,p)=>({o,f:={},s,s':=s.set o.dst (.tup [])}::l,r,p)
section
variable {P:Program}{cf:CallF}{aF:List Nat}
theorem FM {h:AHeap}{t:TypeId}{x z:AV}{bx:Nat→Option (List AV)}(hh:bo P h t x=some z):ju P bx h t x=some z:=by
 cases x<;>first | exact hh | (simp [bo,ju] at hh)
theorem IX {s:RS}{o:Oper}{z:AV}(h:Lr P (bS s.ρ) s.h o z)(ds:List Nat):wS P cf aF ds s o=some (s.set o.dst z):=by
 unfold Lr at h
 unfold wS AK
 dsimp only
 split at h
 ·rename_i ho; rw [ho]; simp only [h]
 ·rename_i ho; rw [ho]; simp only [h]
 ·rename_i ho; rw [ho]; simp only [FM h,Yp]
 ·rename_i ho; rw [ho]; simp only [h,Yp]
 ·rename_i ho; rw [ho]; simp only [h,Yp]
 ·rename_i ho; rw [ho]; simp only [h,Yp]
 ·rename_i ho; rw [ho]; simp only [h,Yp]
 ·rename_i ho; rw [ho]; simp only [h,Yp]
 ·rename_i ho; rw [ho]; simp only [h,Yp]
 ·rename_i ho; rw [ho]; simp only [h,Yp]
 ·rename_i ho
  rw [ho]
  split at h
  ·rename_i h1 h2
   simp only [h1,h2,gE,h,Yp]
  ·exact h.elim
 ·exact h.elim
theorem zd {s:RS}{o:Oper}{cs:List AV}{z:AV}{h':AHeap}(hn:D2 aF o.dst=true)(h:zc s.h cs=some (z,h'))(ds:List Nat):iw s aF ds o cs=some (({s with h:=h'}:RS).set o.dst z):=by
 unfold zc at h
 split at h
 rotate_left
 ·cases h
 rename_i oN
 simp only [Ym,Yr] at h
 obtain⟨rfl,rfl⟩:=h
 unfold iw
 rw [if_pos oN]
 unfold D2 at hn
 split at hn
 ·rename_i d hd
  rw [hd]
  have:aF.contains d=false:=by simpa using hn
  simp only [this,YA,if_false]
 ·cases hn
theorem IY {s:RS}{o:Oper}{z:AV}{h':AHeap}(h:Ls P cf aF (bS s.ρ) s.h o z h')(ds:List Nat):wS P cf aF ds s o=some (({s with h:=h'}:RS).set o.dst z):=by
 unfold Ls at h
 unfold wS AK
 dsimp only
 split at h
 ·rename_i t a x ho
  rw [ho]
  cases hd:o.dst with
  | some d=>rw [hd] at h; exact h.elim
  | none=>
   rw [hd] at h
   simp only [ZK,cond_false] at h
   simp only [ZK,YA,if_false]
   unfold jk at h
   split at h
   ·rename_i id off he
    rw [he]
    simp only [Yk] at h ⊢
    obtain⟨ob,hob,h⟩:=h
    refine⟨ob,hob,?_⟩
    split at h
    ·rw [Yl] at h ⊢
     obtain⟨fF,hcs,rfl⟩:=h
     exact⟨fF,hcs,rfl⟩
    ·cases h
   ·cases h
 ·rename_i t ho
  rw [ho]
  cases hn:D2 aF o.dst with
  | false=>rw [hn] at h; exact h.elim
  | true=>
   rw [hn] at h
   simp only [cond_true,Yk] at h
   obtain⟨z0,h1,h2⟩:=h
   simp only [h1,Yj]
   exact zd hn h2 ds
 ·rename_i t x ho
  rw [ho]
  cases hn:D2 aF o.dst with
  | false=>rw [hn] at h; exact h.elim
  | true=>
   rw [hn] at h
   exact zd hn h ds
 ·rename_i t n ps ho
  rw [ho]
  unfold FL at h
  simp only [Yk,Yl] at h
  obtain⟨x,hx,⟨cs,k,q⟩,ht,he⟩:=h
  simp only [Yr] at he
  obtain⟨rfl,rfl⟩:=he
  simp only [hx,Yp,qh,ht]
 ·rename_i ho
  rw [ho]
  simp only [Yr] at h
  obtain⟨rfl,rfl⟩:=h
  rfl
 ·rename_i ho; rw [ho]; simp only [h,Yp]
 ·rename_i t m k x ho
  rw [ho]
  cases hd:o.dst with
  | some d=>rw [hd] at h; exact h.elim
  | none=>
   rw [hd] at h
   simp only [ZK,cond_false] at h
   simp only [ZK,YA,if_false,h,Yp]
   rfl
 ·rename_i t m k x ho
  rw [ho]
  cases hd:o.dst with
  | some d=>rw [hd] at h; exact h.elim
  | none=>
   rw [hd] at h
   simp only [ZK,cond_false] at h
   simp only [ZK,YA,if_false,h,Yp]
   rfl
 ·rename_i ho
  rw [ho]
  split at h
  ·rename_i h1 h2
   simp only [h1,h2,gE,h,Yp]
  ·exact h.elim
 ·rename_i ho
  rw [ho]
  split at h
  ·rename_i h1 h2
   simp only [h1,h2,gE,h,Yp]
  ·exact h.elim
 ·rename_i f args Cg ho
  rw [ho]
  unfold Kd at h
  split at h
  ·rename_i g cap he
   dsimp only
   rw [he]
   split at h
   ·rename_i oN
    simp only [oN,if_true,h,Yp]
   ·cases h
  ·cases h
 ·exact h.elim
theorem Co {ops:List Oper}:∀{l:List Oper} {s r:RS} {i:Nat} {zs:Lt} {es:List su} {p:Prop},tq P cf aF ops s i l zs=some (es,r,p)→p→qn P cf aF ops s l=some (es,r)∧rP P cf aF ops s l=some r
 | [],s,r,i,[],es,p,h,_=>by
  simp only [tq,Ym,Yr] at h
  obtain⟨rfl,rfl,rfl⟩:=h
  exact⟨rfl,rfl⟩
 | [],s,r,i,_::_,es,p,h,_=>by simp [tq] at h
 | o::os,s,r,i,zs,es,p,h,hp=>by
  simp only [tq,Yk] at h
  obtain⟨w,hw,h⟩:=h
  have fin:∀(s1:RS) (l:List su) (vX:Lt) (q:Prop),(if w then wS P cf aF (ops.filterMap (·.dst)) s o else some (s.set o.dst (.tup [])))=some s1→tq P cf aF ops s1 (i+1) os vX=some (l,r,q)→q→
    qn P cf aF ops s (o::os)=some ({o,f:=if w then a8 aF (bS s.ρ) o else {},s,s':=s1}::l,r)∧rP P cf aF ops s (o::os)=some r:=by
   intro s1 l vX q h1 h2 hq
   obtain⟨h3,h4⟩:=Co h2 hq
   refine⟨?_,?_⟩
   ·simp only [qn,hw,Yj,h1,h3,Yp]
   ·simp only [rP,mw,hw,Yj,h1,h4]
  cases w with
  | false=>
   simp only [cond_false,Yl] at h
   obtain⟨⟨l,r',q⟩,h2,he⟩:=h
   simp only [Yr] at he
   obtain⟨rfl,rfl,rfl⟩:=he
   simpa using fin _ l zs q (by simp) h2 hp
  | true=>
   simp only [cond_true] at h
   split at h
   ·simp only [Yk,Yl] at h
    obtain⟨s1,h1,⟨l,r',q⟩,h2,he⟩:=h
    simp only [Yr] at he
    obtain⟨rfl,rfl,rfl⟩:=he
    simpa using fin _ l [] q (by simpa using h1) h2 hp
   ·rename_i j z oh vX
    cases hj:Y5 i j with
    | false=>
     rw [hj] at h
     simp only [cond_false,Yk,Yl] at h
     obtain⟨s1,h1,⟨l,r',q⟩,h2,he⟩:=h
     simp only [Yr] at he
     obtain⟨rfl,rfl,rfl⟩:=he
     simpa using fin _ l _ q (by simpa using h1) h2 hp
    | true=>
     rw [hj] at h
     simp only [cond_true] at h
     split at h
     ·simp only [Yl] at h
      obtain⟨⟨l,r',q⟩,h2,he⟩:=h
      simp only [Yr] at he
      obtain⟨rfl,rfl,rfl⟩:=he
      simpa using fin _ l _ q (by simpa using IX hp.1 _) h2 hp.2
     ·simp only [Yl] at h
      obtain⟨⟨l,r',q⟩,h2,he⟩:=h
      simp only [Yr] at he
      obtain⟨rfl,rfl,rfl⟩:=he
      simpa using fin _ l _ q (by simpa using IY hp.1 _) h2 hp.2
end
def tt (s:RS):List (Nat × Option Nat × Nat)→List (AV × AHeap)→Option (RS × Prop)
 | [],_=>some (s,True)
 | (t,i,k)::ps,zs=>
  match i with
  | none=>
   match k,s.ρ t,zs with
   | 0,.rs id off n z,(y,h')::vX=>(tt {s with h:=h',ρ:=fun u=>bif Y5 u t then y else s.ρ u} ps vX).map fun (r,p)=>(r,kM 0 s.h (.rs id off n z)=some (y,h')∧p)
   | k,x,zs=>(kM k s.h x).bind fun (y,h')=>tt {s with h:=h',ρ:=fun u=>bif Y5 u t then y else s.ρ u} ps zs
  | some i=>
   match s.bx t with
   | some cs=>(cs[i]?).bind fun x=>
    match k,x,zs with
    | 0,.rs id off n z,(y,h')::vX=>(tt {s with h:=h',bx:=fun u=>bif Y5 u t then some (cs.set i y) else s.bx u} ps vX).map fun (r,p)=>(r,kM 0 s.h (.rs id off n z)=some (y,h')∧p)
    | k,x,zs=>(kM k s.h x).bind fun (y,h')=>tt {s with h:=h',bx:=fun u=>bif Y5 u t then some (cs.set i y) else s.bx u} ps zs
   | none=>none
theorem xq:∀{ps:List (Nat × Option Nat × Nat)} {s r:RS} {zs:List (AV × AHeap)} {p:Prop},tt s ps zs=some (r,p)→p→lH s ps=some r
 | [],s,r,zs,p,h,_=>by
  simp only [tt,Ym,Yr] at h
  obtain⟨rfl,rfl⟩:=h
  rfl
 | (t,i,k)::ps,s,r,zs,p,h,hp=>by
  cases i with
  | none=>
   have fin:∀(y:AV) (h':AHeap) (vX:List (AV × AHeap)) (q:Prop),kM k s.h (s.ρ t)=some (y,h')→tt {s with h:=h',ρ:=fun u=>bif Y5 u t then y else s.ρ u} ps vX=some (r,q)→q→lH s ((t,none,k)::ps)=some r:=by
    intro y h' vX q h1 h2 hq
    simp only [lH,wW,h1,Yp,Yj]
    exact xq h2 hq
   simp only [tt] at h
   split at h
   ·rename_i id off n z y h' vX hx
    rw [Yl] at h
    obtain⟨⟨r',q⟩,h2,he⟩:=h
    simp only [Yr] at he
    obtain⟨rfl,rfl⟩:=he
    exact fin y h' vX q (by rw [hx]; exact hp.1) h2 hp.2
   ·rw [Yk] at h
    obtain⟨⟨y,h'⟩,h1,h2⟩:=h
    exact fin y h' _ p h1 h2 hp
  | some i=>
   simp only [tt] at h
   split at h
   rotate_left
   ·cases h
   rename_i cs hcs
   rw [Yk] at h
   obtain⟨x,hx,h⟩:=h
   have fin:∀(y:AV) (h':AHeap) (vX:List (AV × AHeap)) (q:Prop),kM k s.h x=some (y,h')→tt {s with h:=h',bx:=fun u=>bif Y5 u t then some (cs.set i y) else s.bx u} ps vX=some (r,q)→q→lH s ((t,some i,k)::ps)=some r:=by
    intro y h' vX q h1 h2 hq
    simp only [lH,wW,hcs,hx,Yj,h1,Yp]
    exact xq h2 hq
   split at h
   ·rename_i id off n z y h' vX
    rw [Yl] at h
    obtain⟨⟨r',q⟩,h2,he⟩:=h
    simp only [Yr] at he
    obtain⟨rfl,rfl⟩:=he
    exact fin y h' vX q hp.1 h2 hp.2
   ·rw [Yk] at h
    obtain⟨⟨y,h'⟩,h1,h2⟩:=h
    exact fin y h' _ p h1 h2 hp
def su.sE (x y:su):Bool:=
 (match x.f.wb with
  | some k=>!y.f.rb.contains k&&y.f.wb != some k
  | none=>true) &&
 (!x.f.wh||(!y.f.wh&&y.f.rh.isEmpty))
def FN (ops:List Oper)(arr:Array Oper)(s:RS)(es:List su):Bool:=
 let ms:=jV [] ops
 qm arr ms &&
  (let is:=es.zipIdx
   let Fb:=is.filter fun (x,_)=>!x.f.quiet
   Fb.all (fun (x,i)=>wU ms (ops.filterMap (·.dst)) s is x i&&Fb.all fun (y,j)=>Nat.ble j i||(ms.getD j 0).testBit i||(x.sE y&&y.sE x)))
theorem tu {x y:su}(h:x.sE y=true):x.qi y=true:=by
 unfold su.sE at h
 unfold su.qi
 simp only [Yo,Za] at h ⊢
 refine⟨h.1,h.2.imp id fun ⟨h1,h2⟩=>⟨h1,?_⟩⟩
 rw [List.isEmpty_iff] at h2
 rw [h2]; rfl
theorem IZ {P:Program}{cf:CallF}{aF:List Nat}{ops:Array Oper}{s r:RS}{es:List su}(h:FN ops.toList ops s es=true)(hr:qn P cf aF ops.toList s ops.toList=some (es,r)):lG P cf aF ops s=some r:=by
 unfold FN at h
 simp only [Yo] at h
 obtain⟨h1,h2⟩:=h
 unfold lG
 simp only [h1,if_true,hr,Yj]
 rw [if_pos]
 rw [YK] at h2 ⊢
 intro x hx
 have:=h2 x hx
 simp only [Yo] at this ⊢
 refine⟨this.1,?_⟩
 have h3:=this.2
 rw [YK] at h3 ⊢
 intro y hy
 have:=h3 y hy
 simp only [Za,Yo] at this ⊢
 exact this.imp id fun h=>⟨tu h.1,tu h.2⟩
def nL (P:Program)(cf:CallF)(A:cm)(c:Code)(fs:List (AV × AHeap))(zs:Lt)(st:St):Option (Prop × St):=
 match c with
 | .region id ops draw=>(tt (st.open A) (gF id A.oK) fs).bind fun (s0,p0)=>(tq P cf A.aF ops.toList s0 0 ops.toList zs).bind fun (es,r,p)=>
   bif draw && !(FN ops.toList ops s0 es) then none else (lH r (gF id A.DC)).map fun r2=>(p0∧p,r2.nD A id)
 | _=>none
theorem FO {P:Program}{cf:CallF}{A:cm}{m:Nat}{c:Code}{fs:List (AV × AHeap)}{zs:Lt}{st jN:St}{p:Prop}(h:nL P cf A c fs zs st=some (p,jN))(hp:p):bN P cf A m c st=some (.norm,jN):=by
 unfold nL at h
 split at h
 rotate_left
 ·cases h
 rename_i id ops draw
 simp only [Yk] at h
 obtain⟨⟨s0,p0⟩,h0,⟨es,r,q⟩,h1,h⟩:=h
 have hd:∃r2,(draw=true→FN ops.toList ops s0 es=true)∧lH r (gF id A.DC)=some r2∧p=(p0∧q)∧jN=r2.nD A id:=by
  cases hc:(draw && !(FN ops.toList ops s0 es)) with
  | true=>simp only [hc,cond_true] at h; cases h
  | false=>
   simp only [hc,cond_false,Yl,Yr] at h
   obtain⟨r2,h2,h3,h4⟩:=h
   refine⟨r2,fun DS=>?_,h2,h3.symm,h4.symm⟩
   simpa [DS] using hc
 obtain⟨r2,DS,h2,rfl,rfl⟩:=hd
 obtain⟨g1,g2⟩:=Co h1 hp.2
 have g0:=xq h0 hp.1
 simp only [bN,g0,Yj]
 cases draw with
 | false=>simp only [YA,if_false,g2,Yj,h2,Yp]
 | true=>simp only [if_true,IZ (DS rfl) g1,Yj,h2,Yp]
end Go.R
namespace Go.R
open Go
def dt (P:Program)(cf:CallF)(A:cm)(m:Nat)(c:Code)(s:St)(Q:Ex→St→Prop):Prop:=∃e s',bN P cf A m c s=some (e,s')∧Q e s'
def Lu (R:St→Prop)(Q:Ex→St→Prop):Ex→St→Prop
 | .norm,s=>R s
 | .exit i,s=>Q (.exit i) s
 | .ret,s=>Q .ret s
def Q4 (id:Nat)(Q:Ex→St→Prop):Ex→St→Prop
 | .norm,s=>Q .norm s
 | .exit i,s=>bif Y5 i id then Q .norm s else Q (.exit i) s
 | .ret,s=>Q .ret s
section
variable {P:Program}{cf:CallF}{A:cm}{m:Nat}{s:St}{Q:Ex→St→Prop}
theorem pf {a b:Code}(h:dt P cf A m a s (Lu (fun s'=>dt P cf A m b s' Q) Q)):dt P cf A m (.seq a b) s Q:=by
 obtain⟨e,s',h1,h2⟩:=h
 cases e with
 | norm=>
  obtain⟨e2,s2,h3,h4⟩:=h2
  exact⟨e2,s2,by simp only [bN,h1,Yj,h3],h4⟩
 | exit i=>exact⟨_,s',by simp only [bN,h1,Yj],h2⟩
 | ret=>exact⟨_,s',by simp only [bN,h1,Yj],h2⟩
theorem Be {id:Nat}{a:Code}(h:dt P cf A m a s (Q4 id Q)):dt P cf A m (.block id a) s Q:=by
 obtain⟨e,s',h1,h2⟩:=h
 cases e with
 | norm=>exact⟨_,s',by simp only [bN,h1,Yp],h2⟩
 | exit i=>
  simp only [Q4,beq_nat] at h2
  by_cases hi:i=id
  ·simp only [hi,decide_true,cond_true] at h2
   exact⟨_,s',by simp only [bN,h1,Yp,hi,if_true],h2⟩
  ·simp only [hi,decide_false,cond_false] at h2
   exact⟨_,s',by simp only [bN,h1,Yp,hi,if_false],h2⟩
 | ret=>exact⟨_,s',by simp only [bN,h1,Yp],h2⟩
theorem tv {c:Code}{fs:List (AV × AHeap)}{zs:Lt}{jN:St}{p:Prop}(h:nL P cf A c fs zs s=some (p,jN))(hp:p)(hQ:Q .norm jN):dt P cf A m c s Q:=
 ⟨_,_,FO h hp,hQ⟩
theorem D3 (h:Q .norm s):dt P cf A m .skip s Q:=⟨_,_,rfl,h⟩
theorem ze (h:Q .ret s):dt P cf A m .ret s Q:=⟨_,_,rfl,h⟩
theorem D4 {i:Nat}(h:Q (.exit i) s):dt P cf A m (.exit i) s Q:=⟨_,_,rfl,h⟩
theorem qC {k:Operand}{x y:Code}(b:Bool)(hk:bS (s.open A).ρ k = .bool b)(ht:b=true→dt P cf A m x s Q)(hf:b=false→dt P cf A m y s Q):dt P cf A m (.cond k x y) s Q:=by
 cases b with
 | true=>
  obtain⟨e,s',h1,h2⟩:=ht rfl
  exact⟨e,s',by simp only [bN,hk,sU,Yj,if_true,h1],h2⟩
 | false=>
  obtain⟨e,s',h1,h2⟩:=hf rfl
  exact⟨e,s',by simp only [bN,hk,sU,Yj,YA,if_false,h1],h2⟩
theorem Bf {c c':Code}(h:c=c')(k:dt P cf A m c' s Q):dt P cf A m c s Q:=h ▸ k
def FP {S O:Type}(l:Nat→S→Option O)(Rel:S→St→Prop)(QO:O→Ex→St→Prop)(k:Nat)(out:O):Ex→St→Prop
 | .norm,s=>∃σ,Rel σ s∧l k σ=some out
 | .exit i,s=>QO out (.exit i) s
 | .ret,s=>QO out .ret s
theorem tw {S O:Type}{l:Nat→S→Option O}{Rel:S→St→Prop}{QO:O→Ex→St→Prop}{body:Code}(h0:∀σ,l 0 σ=none)
  (step:∀k σ s out,Rel σ s→l (k+1) σ=some out→dt P cf A m body s (FP l Rel QO k out)):∀(n:Nat) (σ:S) (s:St) (out:O),Rel σ s→l n σ=some out→∃e s',kN (bN P cf A m body) n s=some (e,s')∧e≠.norm∧QO out e s'
 | 0,σ,s,out,_,h=>by rw [h0] at h; cases h
 | n+1,σ,s,out,hr,h=>by
  obtain⟨e,s',h1,h2⟩:=step n σ s out hr h
  cases e with
  | norm=>
   obtain⟨σ',h3,h4⟩:=h2
   obtain⟨e',Wh,h5,h6⟩:=tw h0 step n σ' s' out h3 h4
   exact⟨e',Wh,by simp only [kN,h1,Yj,h5],h6⟩
  | exit i=>exact⟨_,s',by simp only [kN,h1,Yj],by simp,h2⟩
  | ret=>exact⟨_,s',by simp only [kN,h1,Yj],by simp,h2⟩
theorem D5 {S O:Type}(l:Nat→S→Option O)(Rel:S→St→Prop)(QO:O→Ex→St→Prop){body:Code}(h0:∀σ,l 0 σ=none)
  (step:∀k σ s out,Rel σ s→l (k+1) σ=some out→dt P cf A m body s (FP l Rel QO k out)) {σ:S} {out:O} (hr:Rel σ s) (h:l m σ=some out) (hQ:∀e s',e≠.norm→QO out e s'→Q e s'):dt P cf A m (.loop body) s Q:=by
 obtain⟨e,s',h1,h2,h3⟩:=tw h0 step m σ s out hr h
 exact⟨e,s',by simp only [bN,h1],hQ e s' h2 h3⟩
theorem xt {aU:FuncId→cm}{f:FuncId}{fn:Func}{args:List AV}{h:AHeap}{R:AV→AHeap→Prop}(hf:P.funcs[f]? = some fn)(hb:fn.body=some (codeOf fn))(hn:Nat.ble args.length fn.ntmps=true)
  (he:dt P cf (aU f) m (codeOf fn) ⟨my (aU f).gz args,(aU f).aF.map fun _=>none,h⟩ (fun e s=>(e = .ret∨e = .norm)∧∃r,aH P (s.open (aU f)) fn.results.toList=some r∧R r s.h)) :
  ∃r h',be P aU cf m f args h=some (r,h')∧R r h':=by
 obtain⟨e,s,h1,h2,r,h3,h4⟩:=he
 refine⟨r,s.h,?_,h4⟩
 unfold be
 rw [hf,Yj,hb,Yj,if_pos (Nat.le_of_ble_eq_true hn),h1,Yj]
 rcases h2 with rfl | rfl<;>simp only [h3,Yp]
end
end Go.R
namespace Go.R
open Go
structure cz (α:Type) where
 n:Nat
 f:α→List AV
 len:∀a,(f a).length=n
 pos:n≠0
 small:n≤1024:=by decide
 flat:Bool:=true
 pure:∀a,flat=true→cL (f a)=true∧dB (f a)=f a
 canon:∀a,(f a).map nV=f a
section
variable {α:Type}(E:cz α)
def cz.l (l:List α):List AV:=l.flatMap E.f
def cz.fz (l:List α):AV:=.fz (E.l l) l.length false
variable {E}
theorem cz.ef {a:α}{l:List α}:E.l (a::l)=E.f a++E.l l:=rfl
theorem cz.Ke:E.l []=[]:=rfl
theorem cz.kY {a b:List α}:E.l (a++b)=E.l a++E.l b:=by simp [cz.l]
theorem cz.cH:∀{l:List α},(E.l l).length=l.length*E.n
 | []=>by simp [cz.l]
 | a::l=>by rw [cz.ef,Ys,E.len,cz.cH,YD,Zs,Nat.one_mul,Nat.add_comm]
theorem cz.ni {l:List α}(h:l.length≤1099511627776):(E.l l).length≤1125899906842624:=by
 rw [cz.cH]
 exact Y0 (Nat.mul_le_mul h E.small) (by decide)
theorem cz.xu:∀{l:List α} {i:Nat},(E.l l).drop (i*E.n)=E.l (l.drop i)
 | l,0=>by simp
 | [],i+1=>by simp [cz.l]
 | a::l,i+1=>by
  rw [List.drop_succ_cons,←cz.xu,cz.ef,Zs,Nat.one_mul,List.drop_append,List.drop_of_length_le (by rw [E.len]; omega),YO,E.len,Nat.add_sub_cancel]
theorem cz.FQ:∀{l:List α} {i:Nat},(E.l l).take (i*E.n)=E.l (l.take i)
 | l,0=>by simp [cz.l]
 | [],i+1=>by simp [cz.l]
 | a::l,i+1=>by
  rw [cz.ef,List.take_succ_cons,cz.ef,Zs,Nat.one_mul,Nat.add_comm,List.take_append]
  rw [E.len,YR (by rw [E.len]; omega),Zt,cz.FQ]
theorem cz.Kf {l:List α}{i:Nat}{a:α}(h:l[i]? = some a){off:Nat}(ho:off<E.n):(E.l l)[i*E.n+off]? = (E.f a)[off]?:=by
 rw [←List.getElem?_drop,cz.xu,Yz (Yu.1 h).1,(Yu.1 h).2,cz.ef,YV (by rw [E.len]; exact ho)]
theorem cz.FR {l:List α}{i:Nat}{a:α}(h:l[i]? = some a):((E.l l).drop (i*E.n)).take E.n=E.f a:=by
 rw [cz.xu,Yz (Yu.1 h).1,(Yu.1 h).2,cz.ef,YX (by rw [E.len]; exact Yn _)]
 rw [YR (by rw [E.len]; exact Yn _)]
theorem cz.Bg {l:List α}{i:Nat}{a:α}(h:l[i]? = some a):i*E.n+E.n≤(E.l l).length:=by
 rw [cz.cH]
 have:=(Yu.1 h).1
 calc i*E.n+E.n=(i+1)*E.n:=by rw [Zs,Nat.one_mul]
  _≤_:=Zb _ this
theorem pg:∀{a b:List AV},cL (a++b)=(cL a&&cL b)
 | [],b=>by simp [cL]
 | x::a,b=>by simp [cL,pg,Bool.and_assoc]
theorem ph:∀{a b:List AV},dB (a++b)=dB a++dB b
 | [],b=>rfl
 | x::a,b=>by simp [dB,ph]
theorem cz.qD (hp:E.flat=true):∀{l:List α},cL (E.l l)=true∧dB (E.l l)=E.l l
 | []=>⟨rfl,rfl⟩
 | a::l=>by
  obtain⟨h1,h2⟩:=E.pure a hp
  obtain⟨h3,h4⟩:=cz.qD hp (l:=l)
  rw [cz.ef,pg,ph,h1,h2,h3,h4]
  exact⟨rfl,rfl⟩
theorem cz.xw:∀{l:List α},(E.l l).map nV=E.l l
 | []=>rfl
 | a::l=>by rw [cz.ef,YP,E.canon,cz.xw]
theorem cz.nj {l:List α}(hp:E.flat=true:=by rfl):(E.fz l).dX=true∧(E.fz l).kj=E.fz l:=by
 obtain⟨h1,h2⟩:=cz.qD (E:=E) hp (l:=l)
 exact⟨h1,by show AV.fz (dB (E.l l)) l.length false=_; rw [h2]; rfl⟩
theorem kH:∀(cs vs pre Lv:List AV),cs.length=vs.length→dE (pre++cs++Lv) pre.length vs=pre++vs++Lv
 | [],[],pre,Lv,_=>by simp [dE]
 | c::cs,v::vs,pre,Lv,h=>by
  have:=kH cs vs (pre++[v]) Lv (by simpa using h)
  simp only [Ys,YD,Y6,YG] at this
  rw [dE]
  have h2:(pre++c::cs++Lv).set pre.length v=pre++[v]++cs++Lv:=by
   rw [Yx,ZD _ _ (Yn _),ZT]
   simp
  rw [h2,this]
  simp
 | [],_::_,_,_,h=>by simp at h
 | _::_,[],_,_,h=>by simp at h
theorem cz.FT {l:List α}{i:Nat}{a b:α}(h:l[i]? = some a)(rest:List AV):dE (E.l l++rest) (i*E.n) (E.f b)=E.l (l.set i b)++rest:=by
 have hi:=(Yu.1 h).1
 have hl:l=l.take i++a::l.drop (i+1):=by
  conv=>lhs; rw [←List.take_append_drop i l,Yz hi]
  rw [(Yu.1 h).2]
 have hs:l.set i b=l.take i++b::l.drop (i+1):=List.set_eq_take_append_cons_drop .. |>.trans (by rw [if_pos hi])
 have e1:E.l l=E.l (l.take i)++E.f a++E.l (l.drop (i+1)):=by
  conv=>lhs; rw [hl]
  rw [cz.kY,cz.ef,Yx]
 have e2:(E.l (l.take i)).length=i*E.n:=by rw [cz.cH,Zz,ZW (Nat.le_of_lt hi)]
 rw [hs,cz.kY,cz.ef,e1,←e2]
 have:=kH (E.f a) (E.f b) (E.l (l.take i)) (E.l (l.drop (i+1))++rest) (by rw [E.len,E.len])
 simp only [Yx] at this ⊢
 exact this
theorem cz.Lw {l:List α}{i:Nat}{a b:α}{off:Nat}{v:AV}(h:l[i]? = some a)(ho:off<E.n)(hb:(E.f a).set off v=E.f b)(rest:List AV):(E.l l++rest).set (i*E.n+off) v=E.l (l.set i b)++rest:=by
 have hi:=(Yu.1 h).1
 have hl:l=l.take i++a::l.drop (i+1):=by
  conv=>lhs; rw [←List.take_append_drop i l,Yz hi]
  rw [(Yu.1 h).2]
 have hs:l.set i b=l.take i++b::l.drop (i+1):=List.set_eq_take_append_cons_drop .. |>.trans (by rw [if_pos hi])
 have e1:E.l l=E.l (l.take i)++(E.f a++E.l (l.drop (i+1))):=by
  conv=>lhs; rw [hl]
  rw [cz.kY,cz.ef]
 have e2:(E.l (l.take i)).length=i*E.n:=by rw [cz.cH,Zz,ZW (Nat.le_of_lt hi)]
 rw [hs,cz.kY,cz.ef,e1,←hb,←e2]
 simp only [Yx]
 rw [ZD _ _ (by omega),List.set_append_left _ _ (by rw [E.len]; omega)]
 congr 2
 simp
end
def ix {α:Type}(l:List α)(i:Int):Option α:=if 0≤i then l[i.toNat]? else none
theorem gq {α:Type}{l:List α}{i:Int}{a:α}(h:ix l i=some a):0≤i∧i<l.length∧l[i.toNat]? = some a:=by
 unfold ix at h
 split at h
 ·rename_i h0
  have:=(Yu.1 h).1
  exact⟨h0,by omega,h⟩
 ·cases h
def upd {α:Type}(l:List α)(i:Int)(a:α):Option (List α):=if 0≤i∧i<l.length then some (l.set i.toNat a) else none
def lD {α:Type}(l:List α)(lo hi:Int):Option (List α):=if 0≤lo∧lo≤hi∧hi≤l.length then some ((l.drop lo.toNat).take (hi.toNat - lo.toNat)) else none
theorem kZ {α:Type}{l r:List α}{lo hi:Int}(h:lD l lo hi=some r):0≤lo∧lo≤hi∧hi≤l.length∧r=(l.drop lo.toNat).take (hi.toNat - lo.toNat):=by
 unfold lD at h
 split at h
 ·rename_i h0; cases h; exact⟨h0.1,h0.2.1,h0.2.2,rfl⟩
 ·cases h
def bt (s:ByteArray)(i:Int):Option Int:=if 0≤i then (s.data.toList[i.toNat]?).map fun b=>(b.toNat:Int) else none
inductive Ct where
 | sl (n sz:Nat) (cs:List AV)
 | ob (cs:List AV)
 | mp (es:List (AV × AV))
 | row (e:TypeId) (cs:List AV)
def D6 (h:AHeap)(i:Nat):Ct→Prop
 | .sl n sz cs=>(cs.length=n*sz∧cs.length≤1125899906842624)∧((i=0∧n=0)∨(i≠0∧∃rest,h.get i=some (.cells (cs++rest))))
 | .ob cs=>i≠0∧h.get i=some (.cells cs)
 | .mp es=>i≠0∧h.get i=some (.map es)
 | .row e cs=>i≠0∧h.get i=some (.row e cs)
abbrev Mem:=List (Nat × Ct)
structure Has (h:AHeap)(K:Mem):Prop where
 at_:∀(j i:Nat) (c:Ct),K[j]? = some (i,c)→D6 h i c∧i<h.next
 nd:∀(j j' i:Nat) (c c':Ct),K[j]? = some (i,c)→K[j']? = some (i,c')→i≠0→j=j'
 pos:0<h.next
theorem tz {h h':AHeap}{i:Nat}{c:Ct}(hg:i≠0→h'.get i=h.get i)(h1:D6 h i c):D6 h' i c:=by
 cases c with
 | sl n sz cs=>
  obtain⟨h2,h3⟩:=h1
  refine⟨h2,h3.imp id fun ⟨h4,r,h5⟩=>⟨h4,r,(hg h4).trans h5⟩⟩
 | ob cs=>exact⟨h1.1,(hg h1.1).trans h1.2⟩
 | mp es=>exact⟨h1.1,(hg h1.1).trans h1.2⟩
 | row e cs=>exact⟨h1.1,(hg h1.1).trans h1.2⟩
theorem cD (h:AHeap)(id k:Nat)(o:AObj):(h.put id o).get k=if k=id then some o else h.get k:=by
 simp only [AHeap.put,beq_nat]
 by_cases hk:k=id<;>simp [hk]
theorem tA (h:AHeap)(id k:Nat):(h.kill id).get k=if k=id then none else h.get k:=by
 simp only [AHeap.kill,beq_nat]
 by_cases hk:k=id<;>simp [hk]
theorem Has.D7 {h h':AHeap}{K:Mem}(o:Has h K){j i:Nat}{c:Ct}(hj:K[j]? = some (i,c)){i':Nat}{c':Ct}
  (hg:∀k,k≠i→k<h.next→h'.get k=h.get k) (hn:h.next≤h'.next) (hi:i'=i∨i'=0∨h.next≤i') (hlt:i'<h'.next) (hc:D6 h' i' c'):Has h' (K.set j (i',c')):=by
 refine⟨fun q k d hq=>?_,fun q q' k d d' hq yQ hk=>?_,YN o.pos hn⟩
 ·rw [ZH] at hq
  by_cases h1:j=q
  ·subst h1
   rw [if_pos rfl] at hq
   split at hq
   ·cases hq; exact⟨hc,hlt⟩
   ·cases hq
  ·rw [if_neg h1] at hq
   obtain⟨g1,g2⟩:=o.at_ q k d hq
   refine⟨tz (fun hk=>hg k (fun he=>?_) g2) g1,YN g2 hn⟩
   subst he
   exact h1 (o.nd j q k c d hj hq hk)
 ·rw [ZH] at hq yQ
  have old:∀(q:Nat) (d:Ct),j≠q→K[q]? = some (k,d)→k≠i':=by
   intro x y hne hx he
   rcases hi with h1 | h1 | h1
   ·exact hne (o.nd j x k c y (by rw [he,h1]; exact hj) hx hk)
   ·exact hk (he.trans h1)
   ·have:=(o.at_ x k y hx).2; omega
  by_cases h1:j=q<;>by_cases h2:j=q'
  ·rw [←h1,h2]
  ·subst h1
   rw [if_pos rfl] at hq
   rw [if_neg h2] at yQ
   split at hq
   ·cases hq; exact absurd rfl (old q' d' h2 yQ)
   ·cases hq
  ·subst h2
   rw [if_pos rfl] at yQ
   rw [if_neg h1] at hq
   split at yQ
   ·cases yQ; exact absurd rfl (old q d h1 hq)
   ·cases yQ
  ·rw [if_neg h1] at hq; rw [if_neg h2] at yQ
   exact o.nd q q' k d d' hq yQ hk
theorem Has.new {h h':AHeap}{K:Mem}(o:Has h K){i:Nat}{c:Ct}(hg:∀k,k<h.next→h'.get k=h.get k)(hn:h.next≤h'.next)(hi:i=0∨h.next≤i)(hlt:i<h'.next)(hc:D6 h' i c):Has h' ((i,c)::K):=by
 refine⟨fun q k d hq=>?_,fun q q' k d d' hq yQ hk=>?_,YN o.pos hn⟩
 ·cases q with
  | zero=>simp only [Y1,Ym,Yr] at hq; obtain⟨rfl,rfl⟩:=hq; exact⟨hc,hlt⟩
  | succ q=>
   simp only [Zu] at hq
   obtain⟨g1,g2⟩:=o.at_ q k d hq
   exact⟨tz (fun _=>hg k g2) g1,YN g2 hn⟩
 ·have old:∀(q:Nat) (d:Ct),K[q]? = some (k,d)→k≠i:=by
   intro x y hx he
   rcases hi with h1 | h1
   ·exact hk (he.trans h1)
   ·have:=(o.at_ x k y hx).2; omega
  cases q with
  | zero=>
   simp only [Y1,Ym,Yr] at hq
   cases q' with
   | zero=>rfl
   | succ q'=>exact absurd hq.1.symm (old q' d' (by simpa using yQ))
  | succ q=>
   cases q' with
   | zero=>
    simp only [Y1,Ym,Yr] at yQ
    exact absurd yQ.1.symm (old q d (by simpa using hq))
   | succ q'=>rw [o.nd q q' k d d' (by simpa using hq) (by simpa using yQ) hk]
theorem Has.nil {h:AHeap}{K:Mem}(o:Has h K)(sz:Nat):Has h ((0,.sl 0 sz [])::K):=
 o.new (fun _ _=>rfl) (Yn _) (.inl rfl) o.pos ⟨⟨by simp,by simp⟩,.inl ⟨rfl,rfl⟩⟩
theorem Has.sub {h:AHeap}{K K':Mem}(o:Has h K)(f:Nat→Nat)(hf:∀j p,K'[j]? = some p→K[f j]? = some p)(hi:∀j j',f j=f j'→j=j'):Has h K':=
 ⟨fun j i c hj=>o.at_ (f j) i c (hf j _ hj),fun j j' i c c' hj KT hk=>hi _ _ (o.nd (f j) (f j') i c c' (hf j _ hj) (hf j' _ KT) hk),o.pos⟩
theorem Has.del {h:AHeap}{K:Mem}(o:Has h K)(q:Nat):Has h (K.eraseIdx q):=
 o.sub (fun j=>if j<q then j else j+1) (fun j p hj=>by
  rw [List.getElem?_eraseIdx] at hj
  split at hj
  ·rename_i h1; simpa [h1] using hj
  ·rename_i h1; simpa [h1] using hj) (fun j j' he=>by
   split at he<;>split at he<;>omega)
theorem Has.front {h:AHeap}{K:Mem}(o:Has h K)(q:Nat){p:Nat × Ct}(hq:K[q]? = some p):Has h (p::K.eraseIdx q):=
 o.sub (fun j=>match j with | 0=>q | j+1=>if j<q then j else j+1) (fun j p' hj=>by
  cases j with
  | zero=>simp only [Y1,Ym] at hj; subst hj; exact hq
  | succ j=>
   simp only [Zu,List.getElem?_eraseIdx] at hj
   dsimp only
   split at hj
   ·rename_i h1; simpa [h1] using hj
   ·rename_i h1; simpa [h1] using hj) (fun j j' he=>by
   cases j with
   | zero=>cases j' with
    | zero=>rfl
    | succ j'=>dsimp only at he; split at he<;>omega
   | succ j=>cases j' with
    | zero=>dsimp only at he; split at he<;>omega
    | succ j'=>dsimp only at he; split at he<;>split at he<;>omega)
end Go.R
namespace Go.R
open Go
def vg (P:Program)(t:TypeId)(sz b:Nat):Bool:=
 match P.underlying t with
 | some (.slice e)=>match P.info? e with
  | some i=>Y5 i.size sz&&Y5 i.bytes b&&KI i
  | none=>false
 | _=>false
section
variable {P:Program}{t:TypeId}{sz b:Nat}
theorem iR (h:vg P t sz b=true):∃e i,P.underlying t=some (.slice e)∧P.info? e=some i∧i.size=sz∧i.bytes=b∧KI i=true∧ez P e=some sz:=by
 unfold vg at h
 split at h
 ·rename_i e he
  split at h
  ·rename_i i hi
   simp only [Yo] at h
   have h1:=ZA h.1.1
   exact⟨e,i,he,hi,h1,ZA h.1.2,h.2,by simp [ez,hi,h1]⟩
  ·cases h
 ·cases h
variable {α:Type}{E:cz α}{h:AHeap}{K:Mem}{l:List α}{a v:α}{i q:Nat}{j:Int}{k:IntKind}{c:AV}{off:Nat}{tf:TypeId}
theorem bI (T:vg P t E.n b=true)(h:ix l j=some a):eC P t (E.fz l) (.int k j)=some (.fp (E.l l) (j.toNat*E.n)):=by
 obtain⟨e,inf,h1,h2,h3,h4,h5,h6⟩:=iR T
 obtain⟨g1,g2,g3⟩:=gq h
 have hle:=cz.Bg (E:=E) g3
 have hp:=E.pos
 simp only [eC,h1,Yj,h6,cz.fz]
 rw [if_pos ⟨g1,g2,by omega⟩]
theorem N8 (h:l[j.toNat]? = some a):(E.l l).isEmpty=false:=by
 have hle:=cz.Bg (E:=E) h
 have hp:=E.pos
 cases hl:E.l l with
 | nil=>rw [hl] at hle; simp at hle; omega
 | cons _ _=>rfl
theorem jD (hp:AHeap)(ha:eB P tf=some false)(h:ix l j=some a)(hc:(E.f a)[off]? = some c):bo P hp tf (.fp (E.l l) (j.toNat*E.n+off))=some c:=by
 obtain⟨g1,g2,g3⟩:=gq h
 have ho:off<E.n:=by rw [←E.len a]; exact (Yu.1 hc).1
 simp only [bo,ju,N8 g3,YA,if_false,jh,ha,Yj,cz.Kf g3 ho,hc]
theorem dv (hp:AHeap)(ha:eB P tf=some false)(h:ix l j=some a)(hc:(E.f a)[0]? = some c):bo P hp tf (.fp (E.l l) (j.toNat*E.n))=some c:=jD (off:=0) hp ha h hc
theorem dL (hp:AHeap)(ha:eB P tf=some true)(hs:ez P tf=some E.n)(h:ix l j=some a):bo P hp tf (.fp (E.l l) (j.toNat*E.n))=some (.agg (E.f a)):=by
 obtain⟨g1,g2,g3⟩:=gq h
 simp only [bo,ju,N8 g3,YA,if_false,jh,ha,Yj,if_true,hs]
 rw [if_pos (cz.Bg g3),cz.FR g3]
theorem sF (o:Has h K)(hq:K[q]? = some (i,.sl l.length E.n (E.l l)))(hj:l[j.toNat]? = some a):i≠0∧∃rest,h.get i=some (.cells (E.l l++rest)):=by
 obtain⟨⟨_,h1⟩,_⟩:=o.at_ _ _ _ hq
 rcases h1 with⟨_,h1⟩| h1
 ·have:=(Yu.1 hj).1; omega
 ·exact h1
theorem Lx (T:vg P t sz b=true){n:Nat}(h0:0≤j)(h1:j<n):eC P t (.rs i 0 n sz) (.int k j)=some (.ptr i (0+j.toNat*sz)):=by
 obtain⟨e,inf,g1,g2,g3,g4,g5,g6⟩:=iR T
 simp only [eC,g1,Yj,g6]
 rw [if_pos ⟨trivial,h0,h1⟩]
theorem vY (o:Has h K)(hq:K[q]? = some (i,.sl l.length E.n (E.l l)))(ha:eB P tf=some false)(hj:ix l j=some a)(hc:(E.f a)[off]? = some c):bo P h tf (.ptr i (0+j.toNat*E.n+off))=some c:=by
 obtain⟨g1,g2,g3⟩:=gq hj
 obtain⟨h1,rest,h2⟩:=sF o hq g3
 have ho:off<E.n:=by rw [←E.len a]; exact (Yu.1 hc).1
 have hle:=cz.Bg (E:=E) g3
 simp only [bo,ju,h2,Yj,jh,ha,YA,if_false,YG]
 rw [YV (by omega),cz.Kf g3 ho,hc]
theorem D8 (o:Has h K)(hq:K[q]? = some (i,.sl l.length E.n (E.l l)))(ha:eB P tf=some false)(hj:ix l j=some a)(hc:(E.f a)[0]? = some c):bo P h tf (.ptr i (0+j.toNat*E.n))=some c:=vY (off:=0) o hq ha hj hc
theorem D9 (o:Has h K)(hq:K[q]? = some (i,.sl l.length E.n (E.l l)))(ha:eB P tf=some true)(hs:ez P tf=some E.n)(hj:ix l j=some a):bo P h tf (.ptr i (0+j.toNat*E.n))=some (.agg (E.f a)):=by
 obtain⟨g1,g2,g3⟩:=gq hj
 obtain⟨h1,rest,h2⟩:=sF o hq g3
 have hle:=cz.Bg (E:=E) g3
 simp only [bo,ju,h2,Yj,jh,ha,if_true,hs,YG]
 rw [if_pos (by rw [Ys]; omega),List.drop_append_of_le_length (by omega),YX (by rw [List.length_drop]; omega),cz.FR g3]
theorem jO (o:Has h K){c':Ct}{ct:Ct}(hq:K[q]? = some (i,ct)){ob:AObj}(hc:D6 (h.put i ob) i c'):Has (h.put i ob) (K.set q (i,c')):=
 o.D7 hq (fun k hk _=>by rw [cD,if_neg hk]) (Zr _) (.inl rfl) (ZG (o.at_ _ _ _ hq).2) hc
theorem FU (o:Has h K)(hq:K[q]? = some (i,.sl l.length E.n (E.l l)))(hs:ez P tf=some E.n)(hj:ix l j=some a){x:AV}(hv:x.cells=E.f v)(oN:(E.f v).all AV.cK=true) :
  ∃h',jk P h tf (.ptr i (0+j.toNat*E.n)) x=some h'∧Has h' (K.set q (i,.sl l.length E.n (E.l (l.set j.toNat v)))):=by
 obtain⟨g1,g2,g3⟩:=gq hj
 obtain⟨h1,rest,h2⟩:=sF o hq g3
 have hle:=cz.Bg (E:=E) g3
 refine⟨_,?_,jO o hq (ob:=.cells (E.l (l.set j.toNat v)++rest)) ⟨⟨by rw [cz.cH,Yt],by rw [cz.cH,Yt,←cz.cH]; exact (o.at_ _ _ _ hq).1.1.2⟩,.inr ⟨h1,rest,by rw [cD,if_pos rfl]⟩⟩⟩
 simp only [jk,h2,Yj,gR,hs,hv,YG]
 rw [if_pos ⟨E.len v,oN,by rw [Ys]; omega⟩,Yp,cz.FT g3]
theorem Ea (o:Has h K)(hq:K[q]? = some (i,.sl l.length E.n (E.l l)))(hs:ez P tf=some 1)(hj:ix l j=some a){x:AV}(hx:x.cells=[x])(oN:x.cK=true)(ho:off<E.n)(hb:(E.f a).set off x=E.f v) :
  ∃h',jk P h tf (.ptr i (0+j.toNat*E.n+off)) x=some h'∧Has h' (K.set q (i,.sl l.length E.n (E.l (l.set j.toNat v)))):=by
 obtain⟨g1,g2,g3⟩:=gq hj
 obtain⟨h1,rest,h2⟩:=sF o hq g3
 have hle:=cz.Bg (E:=E) g3
 refine⟨_,?_,jO o hq (ob:=.cells (E.l (l.set j.toNat v)++rest)) ⟨⟨by rw [cz.cH,Yt],by rw [cz.cH,Yt,←cz.cH]; exact (o.at_ _ _ _ hq).1.1.2⟩,.inr ⟨h1,rest,by rw [cD,if_pos rfl]⟩⟩⟩
 simp only [jk,h2,Yj,gR,hs,hx,YG]
 rw [if_pos ⟨rfl,by simp [oN],by rw [Ys]; omega⟩,Yp]
 simp only [dE]
 rw [cz.Lw g3 ho hb]
def app (b:Nat){α:Type}(l l2:List α):Option (List α):=if (l.length+l2.length)*(b+1)≤1099511627776 then some (l++l2) else none
theorem k7 {l l2 r:List α}(h:app b l l2=some r):(l.length+l2.length)*b≤fG∧l.length+l2.length≤fG∧r=l++l2:=by
 unfold app at h
 split at h
 ·rename_i h0
  cases h
  rw [Nat.mul_add,ZQ] at h0
  refine⟨by simp only [fG]; omega,by simp only [fG]; omega,rfl⟩
 ·cases h
theorem FV {t2:TypeId}{l2 r:List α}{x:AV}(T:vg P t E.n b=true)(o:Has h K)(hq:K[q]? = some (i,.sl l.length E.n (E.l l)))(hx:eV h E.n x=some (E.l l2,l2.length))(gA:jU P t2 x=true)(hr:app b l l2=some r) :
  ∃i' h',eJ P h t t2 (.rs i 0 l.length E.n) x=some (.rs i' 0 r.length E.n,h')∧Has h' (K.set q (i',.sl r.length E.n (E.l r))):=by
 obtain⟨e,inf,g1,g2,g3,g4,g5,g6⟩:=iR T
 obtain⟨r1,r2,rfl⟩:=k7 hr
 obtain⟨⟨⟨hlen,AW⟩,nE⟩,hlt⟩:=o.at_ _ _ _ hq
 have iy:=E.pos
 have hb:inf.size=E.n:=g3
 have j7:¬(inf.size=0∨jU P t2 x=false∨KI inf=false):=by rw [gA,g5,hb]; simp [iy]
 subst g4
 by_cases h0:l2=[]
 ·subst h0
  refine⟨i,h,?_,?_⟩
  ·simp only [eJ,g1,Yj,g2,hb,hx,gA,g5]
   rw [if_neg (by simp [iy])]
   simp only [Y6,Nat.zero_mul,Nat.add_zero,Zk]
   by_cases hi:i=0
   ·subst hi
    rcases nE with⟨_,hl0⟩| h1
    ·simp [hl0,hb,fG]
    ·exact absurd rfl h1.1
   ·rcases nE with h1 | ⟨_,rest,h1⟩
    ·exact absurd h1.1 hi
    ·rw [if_neg hi,h1]
     simp only [Yj]
     rw [if_neg (by rw [Ys,hlen]; simp only [Y6,Nat.add_zero] at r1 r2; simp; omega)]
     simp
  ·rw [Zk]
   have:K.set q (i,.sl l.length E.n (E.l l))=K:=by
    apply Zd
    intro j
    rw [ZH]
    by_cases hj:q=j
    ·subst hj; rw [if_pos rfl,if_pos (Yu.1 hq).1,hq]
    ·rw [if_neg hj]
   rw [this]; exact o
 ·have Ff:l2.length≠0:=by simpa using h0
  by_cases hi:i=0
  ·subst hi
   rcases nE with⟨_,hl0⟩| h1
   rotate_left
   ·exact absurd rfl h1.1
   have hnil:l=[]:=by simpa using hl0
   subst hnil
   refine⟨h.next,h.alloc (.cells (E.l l2)),?_,?_⟩
   ·simp only [eJ,g1,Yj,g2,hb,hx,gA,g5]
    rw [if_neg (by simp [iy])]
    simp only [if_true]
    simp only [Y6,YG] at r1 r2
    rw [if_neg (by simp; omega),if_neg Ff]
    simp
   ·refine o.D7 hq (fun k _ hk=>by rw [AHeap.alloc,cD,if_neg (by omega)]) (Zr _) (.inr (.inr (Yn _))) (Y2 _) ⟨⟨cz.cH,cz.ni (by simp only [fG] at r2; simp at r2 ⊢; omega)⟩,.inr ⟨by have:=o.pos; omega,[],?_⟩⟩
    rw [AHeap.alloc,cD,if_pos rfl]; simp
  ·rcases nE with h1 | ⟨_,rest,h1⟩
   ·exact absurd h1.1 hi
   refine⟨h.next,(h.kill i).put h.next (.cells (E.l (l++l2))),?_,?_⟩
   ·simp only [eJ,g1,Yj,g2,hb,hx,gA,g5]
    rw [if_neg (by simp [iy]),if_neg hi,h1]
    simp only [Yj]
    rw [if_neg (by rw [Ys,hlen]; simp; omega),if_neg Ff]
    rw [YZ,YX (by rw [hlen]; exact Yn _),YR (by rw [hlen]; exact Yn _),cz.kY,Ys]
   ·refine o.D7 hq (fun k hk qv=>by rw [cD,if_neg (by omega),tA,if_neg hk]) (by show h.next≤h.next+1+1; omega) (.inr (.inr (Yn _))) (by show h.next<h.next+1+1; omega) ⟨⟨cz.cH,cz.ni (by simp only [fG] at r2; simp at r2 ⊢; omega)⟩,.inr ⟨by have:=o.pos; omega,[],?_⟩⟩
    rw [cD,if_pos rfl]; simp
theorem Ly {t2:TypeId}{l2 r:List α}{x s:AV}(hs:s = .nils∨s = .fz [] 0 true)(T:vg P t E.n b=true)(o:Has h K)(hx:eV h E.n x=some (E.l l2,l2.length))(gA:jU P t2 x=true)(hr:app b ([]:List α) l2=some r) :
  ∃i' h',eJ P h t t2 s x=some (.rs i' 0 r.length E.n,h')∧Has h' ((i',.sl r.length E.n (E.l r))::K):=by
 obtain⟨e,inf,g1,g2,g3,g4,g5,g6⟩:=iR T
 obtain⟨r1,r2,y4⟩:=k7 hr
 rw [YO] at y4
 subst r
 have iy:=E.pos
 have hb:inf.size=E.n:=g3
 subst g4
 simp only [Y6,YG] at r1 r2
 by_cases h0:l2=[]
 ·subst h0
  refine⟨0,h,?_,by simpa [cz.l] using o.nil E.n⟩
  rcases hs with rfl | rfl
  ·simp only [eJ,g1,Yj,g2,hb,hx,gA,g5]
   rw [if_neg (by simp [iy])]
   simp [fG]
  ·simp only [eJ,g1,Yj,g2,hb,hx,gA,g5]
   rw [if_neg (by simp [iy])]
   simp [fG]
 ·have Ff:l2.length≠0:=by simpa using h0
  refine⟨h.next,h.alloc (.cells (E.l l2)),?_,o.new (fun k hk=>by rw [AHeap.alloc,cD,if_neg (by omega)]) (Zr _) (.inr (Yn _)) (Y2 _) ⟨⟨cz.cH,cz.ni (by simp only [fG] at r2; omega)⟩,.inr ⟨by have:=o.pos; omega,[],by rw [AHeap.alloc,cD,if_pos rfl]; simp⟩⟩⟩
  rcases hs with rfl | rfl
  ·simp only [eJ,g1,Yj,g2,hb,hx,gA,g5]
   rw [if_neg (by simp [iy]),if_neg (by omega),if_neg Ff]
  ·simp only [eJ,g1,Yj,g2,hb,hx,gA,g5]
   rw [if_neg (by simp [iy]),if_neg (by simp; omega),if_neg Ff]
   simp
theorem zf {l2:List α}(h:AHeap):eV h E.n (E.fz l2)=some (E.l l2,l2.length):=by
 simp only [eV,dR,cz.fz]
 rw [if_pos cz.cH,Yp,cz.xw]
theorem zg (o:Has h K)(hq:K[q]? = some (i,.sl l.length E.n (E.l l))):eV h E.n (.rs i 0 l.length E.n)=some (E.l l,l.length):=by
 obtain⟨⟨⟨hlen,AW⟩,nE⟩,hlt⟩:=o.at_ _ _ _ hq
 simp only [eV,dR]
 rcases nE with⟨h0,h1⟩| ⟨h0,rest,h1⟩
 ·have:l=[]:=by simpa using h1
  subst this
  simp [h0,cz.l]
 ·rw [if_neg h0,h1]
  simp only [Yj]
  rw [if_pos ⟨trivial,by rw [Ys,hlen]; omega⟩,Yp,YZ,YX (by rw [hlen]; exact Yn _),YR (by rw [hlen]; exact Yn _),cz.xw]
def vh (b:Nat){α:Type}(n:Int)(z:α):Option (List α):=if 0≤n∧n.toNat*(b+1)≤1099511627776 then some (YF n.toNat z) else none
theorem om {n:Int}{z:α}{zv:AV}{r:List α}(T:vg P t E.n b=true)(o:Has h K)(e0:TypeId)(Wi:P.underlying t=some (.slice e0))(hz0:jT P e0=some zv)(Wj:zv.cells=E.f z)(oN:(E.f z).all AV.cK=true)(hr:vh b n z=some r) :
  ∃i h',gD P h t (.int .i64 n) (.int .i64 n)=some (.rs i 0 r.length E.n,h')∧Has h' ((i,.sl r.length E.n (E.l r))::K):=by
 have hz:∀e,P.underlying t=some (.slice e)→jT P e=some zv:=fun e he=>by
  rw [Wi] at he; cases he; exact hz0
 unfold vh at hr
 split at hr
 rotate_left
 ·cases hr
 rename_i j7
 obtain⟨h0,h1⟩:=j7
 cases hr
 obtain⟨e,inf,g1,g2,g3,g4,g5,g6⟩:=iR T
 have iy:=E.pos
 have Q5:∀k,lX (E.f z) k=E.l (YF k z):=by
  intro k
  induction k with
  | zero=>rfl
  | succ k ih=>rw [lX,ih,List.replicate_succ,cz.ef]
 refine⟨h.next,h.alloc (.cells (E.l (YF n.toNat z))),?_,o.new (fun k hk=>by rw [AHeap.alloc,cD,if_neg (by omega)]) (Zr _) (.inr (Yn _)) (Y2 _) ⟨⟨cz.cH,cz.ni (by rw [List.length_replicate]; rw [Nat.mul_add,ZQ] at h1; omega)⟩,.inr ⟨by have:=o.pos; omega,[],by rw [AHeap.alloc,cD,if_pos rfl]; simp⟩⟩⟩
 rw [Nat.mul_add,ZQ] at h1
 simp only [gD,g1,Yj,g2,hz e g1,Wj,E.len,Q5,List.length_replicate,g3,g4]
 have hb:n*(b:Int)≤fG:=by
  have:n*(b:Int)=((n.toNat*b:Nat):Int):=by
   rw [Int.natCast_mul,Int.toNat_of_nonneg h0]
  simp only [fG]
  rw [this]
  omega
 rw [if_pos ⟨h0,ZR _,hb,trivial,iy,by omega,oN⟩]
theorem FW (o:Has h K)(hq:K[q]? = some (i,.sl l.length E.n (E.l l)))(hp:E.flat=true:=by rfl):∃h',kM 0 h (.rs i 0 l.length E.n)=some (E.fz l,h')∧Has h' (K.eraseIdx q):=by
 obtain⟨⟨⟨hlen,AW⟩,nE⟩,hlt⟩:=o.at_ _ _ _ hq
 rcases nE with⟨h0,h1⟩| ⟨h0,rest,h1⟩
 ·have:l=[]:=by simpa using h1
  subst this
  exact⟨h,by simp [kM,h0,cz.fz,cz.l],o.del q⟩
 ·refine⟨h.kill i,?_,?_⟩
  ·simp only [kM]
   rw [if_neg h0,h1]
   simp only [Yj]
   have e1:((E.l l++rest).drop 0).take (l.length*E.n)=E.l l:=by
    rw [YZ,YX (by rw [hlen]; exact Yn _),YR (by rw [hlen]; exact Yn _)]
   rw [e1,if_pos (by rw [Ys,hlen]; omega),vS (cz.qD hp).1]
   rfl
  ·have o2:=o.D7 (i':=0) (c':=.sl 0 1 []) (h':=h.kill i) hq (fun k hk _=>by rw [tA,if_neg hk]) (Zr _) (.inr (.inl rfl)) (Nat.succ_pos _) ⟨⟨by simp,by simp⟩,.inl ⟨rfl,rfl⟩⟩
   have:=o2.del q
   rwa [List.eraseIdx_set_eq] at this
variable {n:Nat}
theorem dq (o:Has h K)(hq:K[q]? = some (i,.sl n E.n (E.l l))):n=l.length:=by
 have h1:=(o.at_ _ _ _ hq).1.1.1
 rw [cz.cH] at h1
 exact (Nat.eq_of_mul_eq_mul_right (Nat.pos_of_ne_zero E.pos) h1).symm
theorem aE (T:vg P t E.n b=true)(o:Has h K)(hq:K[q]? = some (i,.sl n E.n (E.l l)))(hj:ix l j=some a):eC P t (.rs i 0 n E.n) (.int k j)=some (.ptr i (0+j.toNat*E.n)):=by
 have hn:=dq o hq
 subst hn
 exact Lx T (gq hj).1 (gq hj).2.1
theorem xy (o:Has h K)(hq:K[q]? = some (i,.sl n E.n (E.l l)))(ha:eB P tf=some false)(hj:ix l j=some a)(hc:(E.f a)[off]? = some c):bo P h tf (.ptr i (0+j.toNat*E.n+off))=some c:=by
 have hn:=dq o hq
 subst hn
 exact vY o hq ha hj hc
theorem bf (o:Has h K)(hq:K[q]? = some (i,.sl n E.n (E.l l)))(ha:eB P tf=some false)(hj:ix l j=some a)(hc:(E.f a)[0]? = some c):bo P h tf (.ptr i (0+j.toNat*E.n))=some c:=by
 have hn:=dq o hq
 subst hn
 exact D8 o hq ha hj hc
theorem I0 (o:Has h K)(hq:K[q]? = some (i,.sl n E.n (E.l l)))(ha:eB P tf=some true)(hs:ez P tf=some E.n)(hj:ix l j=some a):bo P h tf (.ptr i (0+j.toNat*E.n))=some (.agg (E.f a)):=by
 have hn:=dq o hq
 subst hn
 exact D9 o hq ha hs hj
theorem dM (o:Has h K)(hq:K[q]? = some (i,.sl n E.n (E.l l)))(hs:ez P tf=some E.n)(hj:ix l j=some a){x:AV}(hv:x.cells=E.f v)(oN:(E.f v).all AV.cK=true) :
  ∃h',jk P h tf (.ptr i (0+j.toNat*E.n)) x=some h'∧Has h' (K.set q (i,.sl n E.n (E.l (l.set j.toNat v)))):=by
 have hn:=dq o hq
 subst hn
 exact FU o hq hs hj hv oN
theorem I1 (o:Has h K)(hq:K[q]? = some (i,.sl n E.n (E.l l)))(hs:ez P tf=some 1)(hj:ix l j=some a){x:AV}(hx:x.cells=[x])(oN:x.cK=true)(ho:off<E.n)(hb:(E.f a).set off x=E.f v) :
  ∃h',jk P h tf (.ptr i (0+j.toNat*E.n+off)) x=some h'∧Has h' (K.set q (i,.sl n E.n (E.l (l.set j.toNat v)))):=by
 have hn:=dq o hq
 subst hn
 exact Ea o hq hs hj hx oN ho hb
theorem fP {t2:TypeId}{l2 r:List α}{x:AV}(T:vg P t E.n b=true)(o:Has h K)(hq:K[q]? = some (i,.sl n E.n (E.l l)))(hx:eV h E.n x=some (E.l l2,l2.length))(gA:jU P t2 x=true)(hr:app b l l2=some r) :
  ∃i' h',eJ P h t t2 (.rs i 0 n E.n) x=some (.rs i' 0 r.length E.n,h')∧Has h' (K.set q (i',.sl r.length E.n (E.l r))):=by
 have hn:=dq o hq
 subst hn
 exact FV T o hq hx gA hr
theorem Eb (o:Has h K)(hq:K[q]? = some (i,.sl n E.n (E.l l))):eV h E.n (.rs i 0 n E.n)=some (E.l l,l.length):=by
 have hn:=dq o hq
 subst hn
 exact zg o hq
theorem iS (o:Has h K)(hq:K[q]? = some (i,.sl n E.n (E.l l)))(hp:E.flat=true:=by rfl):∃h',kM 0 h (.rs i 0 n E.n)=some (E.fz l,h')∧Has h' (K.eraseIdx q):=by
 have hn:=dq o hq
 subst hn
 exact FW o hq hp
end
end Go.R
namespace Go.R
open Go
structure ab where
 kind:Int
 int:Int
 label:ByteArray
 args:List Int
structure an where
 nodes:List ab
 root:Int
def eI (k:IntKind):cz Int:={n:=1,f:=fun a=>[.int k a],len:=fun _=>rfl,pos:=by decide,pure:=fun _ _=>⟨rfl,rfl⟩,canon:=fun _=>rfl}
abbrev aa:cz Int:=eI .i64
abbrev aj:cz Int:=eI .u8
def cJ:cz Bool:={n:=1,f:=fun a=>[.bool a],len:=fun _=>rfl,pos:=by decide,pure:=fun _ _=>⟨rfl,rfl⟩,canon:=fun _=>rfl}
theorem pure_cons {x:AV}{xs:List AV}(h:x.dX=true∧x.kj=x)(k:cL xs=true∧dB xs=xs):cL (x::xs)=true∧dB (x::xs)=x::xs:=
 ⟨by simp [cL,h.1,k.1],by simp [dB,h.2,k.2]⟩
theorem pure_nil:cL []=true∧dB []=[]:=⟨rfl,rfl⟩
theorem tB {k:IntKind}{n:Int}:(AV.int k n).dX=true∧(AV.int k n).kj = .int k n:=⟨rfl,rfl⟩
theorem FX {s:ByteArray}:(AV.str s).dX=true∧(AV.str s).kj = .str s:=⟨rfl,rfl⟩
def ah:cz ab:={n:=4,f:=fun x=>[.int .i64 x.kind,.int .i64 x.int,.str x.label,aa.fz x.args],len:=fun _=>rfl,pos:=by decide,pure:=fun x _=>pure_cons tB (pure_cons tB (pure_cons FX (pure_cons cz.nj pure_nil))),canon:=fun _=>rfl}
def aZ:cz an:={n:=2,f:=fun x=>[ah.fz x.nodes,.int .i64 x.root],len:=fun _=>rfl,pos:=by decide,pure:=fun x _=>pure_cons cz.nj (pure_cons tB pure_nil),canon:=fun _=>rfl}
end Go.R
namespace Go.R
open Go
theorem I2 {b:Bool}(h:b=false):¬b=true:=by rw [h]; decide
section
variable {P:Program}{cf:CallF}{A:cm}{m:Nat}
theorem vZ {c:Code}{s:St}{Q R:Ex→St→Prop}(h:dt P cf A m c s Q)(k:∀e s',Q e s'→R e s'):dt P cf A m c s R:=by
 obtain⟨e,s',h1,h2⟩:=h
 exact⟨e,s',h1,k _ _ h2⟩
theorem aG {c:Code}{s:St}{Q:St→Prop}{R:Ex→St→Prop}(hQ:∀e s',(e = .ret∨e = .norm)∧Q s'→R e s')(h:dt P cf A m c s (fun e s'=>(e = .ret∨e = .norm)∧Q s')):dt P cf A m c s R:=vZ h hQ
end
def jE:Nat:=1125899906842630
def k9 (k:Nat)(h:AHeap)(x y:AV):Prop:=∀n,jE+k≤n→cq h n x=some y
def eY (k:Nat)(h:AHeap)(x y:List AV):Prop:=∀n,jE+k≤n→bO h n x=some y
def xz (h:AHeap)(x y:AV):Prop:=k9 1000 h x y
section
variable {h:AHeap}{α:Type}{E:cz α}{l:List α}{K:Mem}{q i:Nat}
theorem k9.mono {k k':Nat}{x y:AV}(hk:k≤k')(f:k9 k h x y):k9 k' h x y:=fun n hn=>f n (by omega)
theorem oK {k:Nat}{x y:AV}(f:k9 k h x y)(hk:k≤1000:=by decide):xz h x y:=f.mono hk
theorem lO {n:Nat}(h:jE≤n):∃k,n=k+1∧jE≤k+1:=⟨n - 1,by simp only [jE] at h; omega,by omega⟩
theorem nk {x:AV}(h1:x.dX=true)(h2:∀n,cq h (n+1) x=if x.dX then some x.kj else none){y:AV}(h3:x.kj=y):k9 0 h x y:=fun n hn=>by
 obtain⟨k,rfl,_⟩:=lO (show jE≤n by omega)
 rw [h2,h1,h3]; rfl
theorem aN {k:IntKind}{n:Int}:k9 0 h (.int k n) (.int k n):=nk rfl (fun _=>rfl) rfl
theorem b7 {s:ByteArray}:k9 0 h (.str s) (.str s):=nk rfl (fun _=>rfl) rfl
theorem cW (hp:E.flat=true:=by rfl):k9 0 h (E.fz l) (E.fz l):=nk (cz.nj hp).1 (fun _=>rfl) (cz.nj hp).2
theorem gr:k9 0 h .nils (E.fz []):=nk rfl (fun _=>rfl) rfl
theorem FY {cs:List AV}(h1:(cL cs=true))(h2:dB cs=E.l l){n:Nat}{b:Bool}(h3:n=l.length):k9 0 h (.fz cs n b) (E.fz l):=by
 refine nk (by simpa [AV.dX] using h1) (fun _=>rfl) ?_
 subst h3
 show AV.fz (dB cs) l.length false=_
 rw [h2]; rfl
theorem nM:∀{cs:List AV} {n:Nat},cL cs=true→(∀x∈cs,∀n,cq h (n+1) x=if x.dX then some x.kj else none)→cs.length+1<n→bO h n cs=some (dB cs)
 | [],n,_,_,hn=>by
  obtain⟨k,rfl⟩:∃k,n=k+1:=⟨n - 1,by omega⟩
  rfl
 | x::cs,n,h1,h2,hn=>by
  obtain⟨k,rfl⟩:∃k,n=k+1+1:=⟨n - 2,by simp at hn; omega⟩
  simp only [cL,Yo] at h1
  simp only [bO]
  rw [h2 x (by simp) k,h1.1]
  simp only [if_true,Yj]
  rw [nM h1.2 (fun y hy=>h2 y (by simp [hy])) (by simp at hn; omega)]
  rfl
def zh:AV→Bool
 | .agg _ | .tup _=>false
 | _=>true
theorem FZ {x:AV}(hf:zh x=true)(hn:x.dX=true)(n:Nat):cq h (n+1) x=if x.dX then some x.kj else none:=by
 cases x<;>first | rfl | (simp [AV.dX] at hn; done) | (simp [zh] at hf; done)
theorem I3 (o:Has h K)(hq:K[q]? = some (i,.sl l.length E.n (E.l l)))(hf:∀a:α,(E.f a).all zh=true)(hp:E.flat=true:=by rfl):k9 0 h (.rs i 0 l.length E.n) (E.fz l):=fun n hn=>by
 obtain⟨⟨⟨hlen,AW⟩,nE⟩,hlt⟩:=o.at_ _ _ _ hq
 obtain⟨k,rfl,hk⟩:=lO (show jE≤n by omega)
 simp only [cq]
 rcases nE with⟨h0,h1⟩| ⟨h0,rest,h1⟩
 ·have:l=[]:=by simpa using h1
  subst this
  simp [h0,cz.fz,cz.l]
 ·rw [if_neg h0,h1]
  simp only [Yj]
  have e1:((E.l l++rest).drop 0).take (l.length*E.n)=E.l l:=by
   rw [YZ,YX (by rw [hlen]; exact Yn _),YR (by rw [hlen]; exact Yn _)]
  rw [if_pos (by rw [Ys,hlen]; omega),e1,nM (cz.qD hp).1 (fun x hx=>?_) (by simp only [jE] at hk; omega),(cz.qD hp).2]
  ·rfl
  ·have hnx:x.dX=true:=by
    have:∀(cs:List AV),cL cs=true→x∈cs→x.dX=true:=by
     intro cs
     induction cs with
     | nil=>intro _ h; cases h
     | cons y ys ih=>
      intro h hm
      simp only [cL,Yo] at h
      rcases YW.1 hm with rfl | hm
      ·exact h.1
      ·exact ih h.2 hm
    exact this _ (cz.qD hp).1 hx
   have Lz:zh x=true:=by
    unfold cz.l at hx
    rw [List.mem_flatMap] at hx
    obtain⟨a,_,ha⟩:=hx
    exact YK.1 (hf a) x ha
   exact fun n=>FZ Lz hnx n
theorem rG {n:Nat}(o:Has h K)(hq:K[q]? = some (i,.sl n E.n (E.l l)))(hf:∀a:α,(E.f a).all zh=true)(hp:E.flat=true:=by rfl):k9 0 h (.rs i 0 n E.n) (E.fz l):=by
 have hn:=dq o hq
 subst hn
 exact I3 o hq hf hp
theorem aB:eY 0 h [] []:=fun n hn=>by
 obtain⟨k,rfl,_⟩:=lO (show jE≤n by omega)
 rfl
theorem ae {k1 k2:Nat}{x y:AV}{xs ys:List AV}(f:k9 k1 h x y)(g:eY k2 h xs ys):eY (k1+k2+1) h (x::xs) (y::ys):=fun n hn=>by
 obtain⟨k,rfl⟩:∃k,n=k+1:=⟨n - 1,by omega⟩
 simp only [bO]
 rw [f k (by omega),g k (by omega)]
 rfl
theorem dN {k:Nat}{xs ys:List AV}(f:eY k h xs ys):k9 (k+1) h (.agg xs) (.agg ys):=fun n hn=>by
 obtain⟨k,rfl⟩:∃k,n=k+1:=⟨n - 1,by omega⟩
 simp only [cq]
 rw [f k (by omega)]; rfl
theorem fQ {k:Nat}{xs ys:List AV}(f:eY k h xs ys):k9 (k+1) h (.tup xs) (.tup ys):=fun n hn=>by
 obtain⟨k,rfl⟩:∃k,n=k+1:=⟨n - 1,by omega⟩
 simp only [cq]
 rw [f k (by omega)]; rfl
end
def fw (k:IntKind)(x y:Int):Int:=k.wrap ((YS k.bits x &&& YS k.bits y).toNat:Int)
def iz (k:IntKind)(x y:Int):Int:=k.wrap ((YS k.bits x ||| YS k.bits y).toNat:Int)
def jt (k:IntKind)(x y:Int):Int:=k.wrap ((YS k.bits x ^^^ YS k.bits y).toNat:Int)
def gh (k:IntKind)(x:Int)(n:Nat):Int:=x.fdiv (2 ^ (min n k.bits))
section
variable {P:Program}{t:TypeId}{b:Nat}{α:Type}{E:cz α}{h:AHeap}{K:Mem}{l r:List α}{i q:Nat}{j lo hi:Int}{k k':IntKind}
theorem mK {s:ByteArray}{v:Int}(hu:P.underlying t=some .string)(h:bt s j=some v):qf P t (.str s) (.int k j)=some (.int .u8 v):=by
 unfold bt at h
 split at h
 ·rename_i h0
  rw [Yl] at h
  obtain⟨b,hb,rfl⟩:=h
  simp only [qf,hu,Yj,h0,if_true,hb,Yp]
 ·cases h
theorem pj (h:lD l lo hi=some r):(((E.l l).drop (lo.toNat*E.n)).take ((hi.toNat - lo.toNat)*E.n))=E.l r∧r.length=hi.toNat - lo.toNat:=by
 obtain⟨h0,h1,h2,rfl⟩:=kZ h
 refine⟨by rw [cz.xu,cz.FQ],?_⟩
 rw [Zz,List.length_drop]
 omega
theorem I4 (T:vg P t E.n b=true)(h:lD l lo hi=some r):eR P t (E.fz l) (some (.int k lo)) (some (.int k' hi)) none=some (E.fz r):=by
 obtain⟨e,inf,g1,g2,g3,g4,g5,g6⟩:=iR T
 obtain⟨h0,h1,h2,_⟩:=kZ h
 obtain⟨h3,h4⟩:=pj (E:=E) h
 simp only [eR,g1,Yj,g6,cz.fz,iL]
 rw [if_pos ⟨by omega,h2⟩]
 simp only [Yj]
 rw [if_pos ⟨h0,by omega⟩]
 simp only [Yj,Yp,Bool.false_and]
 rw [h3,←h4]
theorem xA (T:vg P t E.n b=true)(h:lD l 0 hi=some r):eR P t (E.fz l) none (some (.int k' hi)) none=some (E.fz r):=by
 obtain⟨e,inf,g1,g2,g3,g4,g5,g6⟩:=iR T
 obtain⟨h0,h1,h2,_⟩:=kZ h
 obtain⟨h3,h4⟩:=pj (E:=E) h
 simp only [eR,g1,Yj,g6,cz.fz,iL]
 rw [if_pos ⟨by omega,h2⟩]
 simp only [Yj,Yp,Bool.false_and]
 simp only [Int.toNat_zero] at h3 h4
 rw [h3,←h4]
theorem xB (T:vg P t E.n b=true)(h:lD l lo (l.length:Int)=some r):eR P t (E.fz l) (some (.int k lo)) none none=some (E.fz r):=by
 obtain⟨e,inf,g1,g2,g3,g4,g5,g6⟩:=iR T
 obtain⟨h0,h1,h2,_⟩:=kZ h
 obtain⟨h3,h4⟩:=pj (E:=E) h
 simp only [eR,g1,Yj,g6,cz.fz,iL]
 rw [if_pos ⟨h0,by omega⟩]
 simp only [Yj,Yp,Bool.false_and]
 simp only [Yq] at h3 h4
 rw [h3,←h4]
theorem F0 (o:Has h K)(hq:K[q]? = some (i,.sl l.length E.n (E.l l)))(T:vg P t E.n b=true)(hs:lD l 0 hi=some r) :
  eR P t (.rs i 0 l.length E.n) none (some (.int k hi)) none=some (.rs i 0 r.length E.n)∧Has h (K.set q (i,.sl r.length E.n (E.l r))):=by
 obtain⟨e,inf,g1,g2,g3,g4,g5,g6⟩:=iR T
 obtain⟨h0,h1,h2,hr⟩:=kZ hs
 obtain⟨h3,h4⟩:=pj (E:=E) hs
 simp only [Int.toNat_zero,Nat.sub_zero] at h4 hr
 have y4:r=l.take hi.toNat:=by rw [hr]; simp
 refine⟨?_,?_⟩
 ·simp only [eR,g1,Yj,g6,if_true,iL]
  rw [if_pos ⟨by omega,h2⟩]
  simp only [Yj,Yp,Nat.zero_mul,Nat.add_zero,Nat.sub_zero,h4]
 ·obtain⟨⟨⟨hlen,AW⟩,nE⟩,hlt⟩:=o.at_ _ _ _ hq
  refine o.D7 hq (fun _ _ _=>rfl) (Yn _) (.inl rfl) hlt ⟨⟨cz.cH,?_⟩,?_⟩
  ·rw [cz.cH]
   refine Y0 (Zb _ ?_) (hlen ▸ AW)
   rw [h4]; omega
  ·rcases nE with⟨h5,h6⟩| ⟨h5,rest,h6⟩
   ·left; exact⟨h5,by rw [h4]; omega⟩
   ·right
    refine⟨h5,E.l (l.drop hi.toNat)++rest,?_⟩
    rw [h6,y4,←Yx,←cz.kY,List.take_append_drop]
theorem LA {n:Nat}(o:Has h K)(hq:K[q]? = some (i,.sl n E.n (E.l l)))(T:vg P t E.n b=true)(hs:lD l 0 hi=some r) :
  eR P t (.rs i 0 n E.n) none (some (.int k hi)) none=some (.rs i 0 r.length E.n)∧Has h (K.set q (i,.sl r.length E.n (E.l r))):=by
 have hn:=dq o hq
 subst hn
 exact F0 o hq T hs
end
theorem aq {P:Program}{cf:CallF}{m:Nat}{aU:FuncId→cm}{f:FuncId}{fn:Func}{A:cm}(ha:aU f=A){args:List AV}{h:AHeap}{R:AV→AHeap→Prop}(hf:P.funcs[f]? = some fn)(hb:fn.body=some (codeOf fn))(hn:Nat.ble args.length fn.ntmps=true)
  (he:dt P cf A m (codeOf fn) ⟨my A.gz args,A.aF.map fun _=>none,h⟩ (fun e s=>(e = .ret∨e = .norm)∧∃r,aH P (s.open A) fn.results.toList=some r∧R r s.h)) :
  ∃r h',be P aU cf m f args h=some (r,h')∧R r h':=by
 subst ha
 exact xt hf hb hn he
def F3 (a b:ByteArray):Bool:=Op.bytesLess a.data.toList b.data.toList||a.data.toList==b.data.toList
end Go.R
namespace Go.R
open Go
mutual
theorem xC {h:AHeap}:∀(n:Nat) (x y:AV),x.dX=true→cq h n x=some y→y=x.kj
 | 0,x,y,_,h=>by simp [cq] at h
 | n+1,x,y,hn,h=>by
  cases x with
  | agg cs=>
   simp only [cq,Yl] at h
   obtain⟨fF,hcs,rfl⟩:=h
   rw [iT n cs fF (by simpa [AV.dX] using hn) hcs]; rfl
  | tup cs=>
   simp only [cq,Yl] at h
   obtain⟨fF,hcs,rfl⟩:=h
   rw [iT n cs fF (by simpa [AV.dX] using hn) hcs]; rfl
  | ptr _ _=>simp [AV.dX] at hn
  | rs _ _ _ _=>simp [AV.dX] at hn
  | _=>simp only [cq,hn,if_true,Ym] at h; exact h.symm
theorem iT {h:AHeap}:∀(n:Nat) (xs ys:List AV),cL xs=true→bO h n xs=some ys→ys=dB xs
 | 0,xs,ys,_,h=>by simp [bO] at h
 | n+1,[],ys,_,h=>by simp only [bO,Ym] at h; exact h.symm
 | n+1,x::xs,ys,hn,h=>by
  simp only [cL,Yo] at hn
  simp only [bO,Yk,Yl] at h
  obtain⟨y,hy,zs,hz,rfl⟩:=h
  rw [xC n x y hn.1 hy,iT n xs zs hn.2 hz]; rfl
end
mutual
theorem wa {h:AHeap}:∀(n:Nat) (x y:AV),fM h n x=some y→cq h n x=some y
 | 0,x,y,h=>by simp [fM] at h
 | n+1,x,y,h=>by
  unfold fM at h
  split at h
  ·exact h
  ·exact h
  ·exact h
  ·exact h
  ·exact h
  ·exact h
  ·exact h
  ·exact h
  ·rename_i id off len jc
   simp only [cq]
   split at h
   ·rename_i h0; rw [if_pos h0]; exact h
   ·rename_i h0
    rw [if_neg h0]
    rw [Yk] at h ⊢
    obtain⟨ob,ho,h⟩:=h
    refine⟨ob,ho,?_⟩
    cases ob with
    | map es=>cases h
    | row t cs=>cases h
    | cells cs=>
     simp only at h ⊢
     split at h
     ·rename_i hle
      rw [if_pos hle]
      rw [Yl] at h ⊢
      obtain⟨fF,hcs,h2⟩:=h
      exact⟨fF,ku n _ _ hcs,h2⟩
     ·cases h
  ·simp only [cq]
   rw [Yl] at h ⊢
   obtain⟨fF,hcs,h2⟩:=h
   exact⟨fF,ku n _ _ hcs,h2⟩
  ·simp only [cq]
   rw [Yl] at h ⊢
   obtain⟨fF,hcs,h2⟩:=h
   exact⟨fF,ku n _ _ hcs,h2⟩
  ·cases h
theorem ku {h:AHeap}:∀(n:Nat) (xs ys:List AV),db h n xs=some ys→bO h n xs=some ys
 | 0,xs,ys,h=>by simp [db] at h
 | n+1,[],ys,h=>h
 | n+1,x::xs,ys,h=>by
  simp only [db,bO,Yk,Yl] at h ⊢
  obtain⟨y,hy,zs,hz,h2⟩:=h
  exact⟨y,wa n x y hy,zs,ku n xs zs hz,h2⟩
end
def zi (k:Nat)(h:AHeap)(x y:AV):Prop:=∀n,jE+k≤n→fM h n x=some y
def I5 (k:Nat)(h:AHeap)(x y:List AV):Prop:=∀n,jE+k≤n→db h n x=some y
def gu (h:AHeap)(x y:AV):Prop:=zi 1000 h x y
section
variable {h:AHeap}{α:Type}{E:cz α}{l:List α}{K:Mem}{q i:Nat}
theorem gu.oK {x y:AV}(f:gu h x y):xz h x y:=fun n hn=>wa _ _ _ (f n hn)
theorem ck {k:Nat}{x y:AV}(f:zi k h x y)(hk:k≤1000:=by decide):gu h x y:=fun n hn=>f n (by omega)
theorem Cp {x y:AV}(h2:∀n,fM h (n+1) x=some y):zi 0 h x y:=fun n hn=>by
 obtain⟨k,rfl,_⟩:=lO (show jE≤n by omega)
 exact h2 k
theorem eS {k:IntKind}{n:Int}:zi 0 h (.int k n) (.int k n):=Cp fun _=>rfl
theorem au {b:Bool}:zi 0 h (.bool b) (.bool b):=Cp fun _=>rfl
def F4:AV→Bool
 | .int _ _ | .bool _ | .str _=>true
 | _=>false
theorem mL:∀{cs:List AV} {n:Nat},cs.all F4=true→cs.length+1<n→db h n cs=some cs
 | [],n,_,hn=>by
  obtain⟨k,rfl⟩:∃k,n=k+1:=⟨n - 1,by omega⟩
  rfl
 | x::cs,n,h1,hn=>by
  obtain⟨k,rfl⟩:∃k,n=k+1+1:=⟨n - 2,by simp at hn; omega⟩
  simp only [Zg,Yo] at h1
  simp only [db]
  have:fM h (k+1) x=some x:=by cases x<;>first | rfl | (simp [F4] at h1)
  rw [this,Yj,mL h1.2 (by simp at hn; omega)]
  rfl
theorem zj {n:Nat}(o:Has h K)(hq:K[q]? = some (i,.sl n E.n (E.l l)))(hf:∀a:α,(E.f a).all F4=true):zi 0 h (.rs i 0 n E.n) (E.fz l):=fun m hm=>by
 have hn:=dq o hq
 subst hn
 obtain⟨⟨⟨hlen,AW⟩,nE⟩,hlt⟩:=o.at_ _ _ _ hq
 obtain⟨k,rfl,hk⟩:=lO (show jE≤m by omega)
 simp only [fM]
 rcases nE with⟨h0,h1⟩| ⟨h0,rest,h1⟩
 ·have:l=[]:=by simpa using h1
  subst this
  simp [h0,cz.fz,cz.l]
 ·rw [if_neg h0,h1]
  simp only [Yj]
  have e1:((E.l l++rest).drop 0).take (l.length*E.n)=E.l l:=by
   rw [YZ,YX (by rw [hlen]; exact Yn _),YR (by rw [hlen]; exact Yn _)]
  rw [if_pos (by rw [Ys,hlen]; omega),e1,mL ?_ (by simp only [jE] at hk; omega)]
  ·rfl
  ·rw [YK]
   intro x hx
   unfold cz.l at hx
   rw [List.mem_flatMap] at hx
   obtain⟨a,_,ha⟩:=hx
   exact YK.1 (hf a) x ha
theorem F5:I5 0 h [] []:=fun n hn=>by
 obtain⟨k,rfl,_⟩:=lO (show jE≤n by omega)
 rfl
theorem sG {k1 k2:Nat}{x y:AV}{xs ys:List AV}(f:zi k1 h x y)(g:I5 k2 h xs ys):I5 (k1+k2+1) h (x::xs) (y::ys):=fun n hn=>by
 obtain⟨k,rfl⟩:∃k,n=k+1:=⟨n - 1,by omega⟩
 simp only [db]
 rw [f k (by omega),g k (by omega)]
 rfl
theorem F6 {k:Nat}{xs ys:List AV}(f:I5 k h xs ys):zi (k+1) h (.tup xs) (.tup ys):=fun n hn=>by
 obtain⟨k,rfl⟩:∃k,n=k+1:=⟨n - 1,by omega⟩
 simp only [fM]
 rw [f k (by omega)]; rfl
def fq:Nat:=4503599627370496
theorem ia {k:Nat}{xs ys:List AV}(f:eY k h xs ys)(hk:k≤fq:=by decide):eY fq h xs ys:=fun n hn=>f n (by omega)
def wc (x y:AV):Prop:=x.dX=true∧x.kj=y
def l9 (xs ys:List AV):Prop:=cL xs=true∧dB xs=ys
theorem bJ {k:IntKind}{n:Int}:wc (.int k n) (.int k n):=⟨rfl,rfl⟩
theorem xD {s:ByteArray}:wc (.str s) (.str s):=⟨rfl,rfl⟩
theorem iE (hp:E.flat=true:=by rfl):wc (E.fz l) (E.fz l):=cz.nj hp
theorem gZ:l9 [] []:=⟨rfl,rfl⟩
theorem cY {x y:AV}{xs ys:List AV}(a:wc x y)(b:l9 xs ys):l9 (x::xs) (y::ys):=⟨by simp [cL,a.1,b.1],by simp [dB,a.2,b.2]⟩
theorem tC {xs ys:List AV}(a:l9 xs ys):wc (.agg xs) (.agg ys):=⟨by simpa [AV.dX] using a.1,by show AV.agg (dB xs)=_; rw [a.2]⟩
end
end Go.R
namespace Go.R
open Go
def F7 (k:IntKind)(x:Int):Int:=jt k (if k.signed then -1 else k.max) x
def cM (l:List Int):ByteArray:=⟨(l.map fun n=>ZX n.toNat).toArray⟩
def dY (s:ByteArray):List Int:=s.data.toList.map fun b=>(b.toNat:Int)
section
variable {P:Program}{h:AHeap}{K:Mem}{i q:Nat}{cs fF:List AV}{x z:AV}{t:TypeId}{off:Nat}
theorem kI (o:Has h K)(oN:cs.all AV.cK=true):∃i h',zc h cs=some (.ptr i 0,h')∧Has h' ((i,.ob cs)::K):=by
 refine⟨h.next,h.alloc (.cells cs),by unfold zc; rw [if_pos oN],o.new (fun k hk=>by rw [AHeap.alloc,cD,if_neg (by omega)]) (Zr _) (.inr (Yn _)) (Y2 _) ⟨by have:=o.pos; omega,by rw [AHeap.alloc,cD,if_pos rfl]⟩⟩
theorem cn (o:Has h K)(hq:K[q]? = some (i,.ob cs))(hr:jh P t cs off=some z):bo P h t (.ptr i off)=some z:=by
 obtain⟨⟨h1,h2⟩,_⟩:=o.at_ _ _ _ hq
 simp only [bo,ju,h2,Yj,hr]
theorem lg (o:Has h K)(hq:K[q]? = some (i,.ob cs))(hw:gR P t cs off x=some fF):∃h',jk P h t (.ptr i off) x=some h'∧Has h' (K.set q (i,.ob fF)):=by
 obtain⟨⟨h1,h2⟩,_⟩:=o.at_ _ _ _ hq
 exact⟨h.put i (.cells fF),by simp only [jk,h2,Yj,hw,Yp],jO o hq ⟨h1,by rw [cD,if_pos rfl]⟩⟩
theorem Cq:∀(l:List Int),Il (aj.l l)=some (l.map fun n=>ZX n.toNat)
 | []=>rfl
 | a::l=>by
  have:=Cq l
  show (Il (aj.l l)).map _=_
  rw [this]; rfl
theorem Bh {a b e:TypeId}{l:List Int}{h:AHeap}{x:AV}(ha:P.underlying a=some (.slice e))(hb:P.underlying b=some .string)(hu:DA P e=true)(hc:∃n,dR h 1 x=some (aj.l l,n)):ib P h a b x=some (.str (cM l)):=by
 obtain⟨n,hc⟩:=hc
 simp only [ib,ha,hb,hu,if_true,hc,Yj,Cq,Yp,cM]
theorem F8 {l:List Int}(h:AHeap):∃n,dR h 1 (aj.fz l)=some (aj.l l,n):=by
 refine⟨l.length,?_⟩
 simp only [dR,cz.fz]
 rw [if_pos (by rw [cz.cH]; rfl)]
end
theorem aR {x y:AV}(h:wc x y):ay x=y:=by
 unfold ay
 rw [h.1,h.2]; rfl
theorem bn:([]:List AV).map ay=[]:=rfl
theorem ak {x y:AV}{xs ys:List AV}(a:ay x=y)(b:xs.map ay=ys):(x::xs).map ay=y::ys:=by
 rw [YJ,a,b]
theorem LB {α:Type}{K L:List α}{q:Nat}{p:α}(h:L[q]? = some p):(K++L)[K.length+q]? = some p:=by
 rw [YE (by omega),Zt,h]
def zk (k:IntKind)(x y:Int):Option Int:=if y<0 then none else some (k.wrap (x*2 ^ (min y.toNat k.bits)))
theorem F9 {P:Program}{t:TypeId}{k k':IntKind}{x y v:Int}(h:zk k x y=some v):jC P .shl t (.int k x) (.int k' y)=some (.int k v):=by
 unfold zk at h
 split at h
 ·cases h
 ·rename_i hy
  cases h
  simp only [jC,AV.fA,Yj,Go.binOp,Op.shift,hy,if_false]
  rfl
def Ec (k:IntKind)(x y:Int):Option Int:=if y=0 then none else some (Zp x y)
theorem Cr {P:Program}{t:TypeId}{k:IntKind}{x y v:Int}(h:Ec k x y=some v):jC P .rem t (.int k x) (.int k y)=some (.int k v):=by
 unfold Ec at h
 split at h
 ·cases h
 ·rename_i hy
  cases h
  simp only [jC,AV.fA,Yj,Go.binOp,Op.intDiv,if_neg hy,ne_eq,not_true_eq_false,if_false]
  rfl
theorem Cs {α:Type}{E:cz α}{h:AHeap}{K:Mem}{l:List α}{cs:List AV}(o:Has h K)(hc:cs=E.l l)(hl:l.length≤1024:=by simp) :
  ∃i h',some (AV.rs h.next 0 l.length E.n,h.alloc (.cells cs))=some (AV.rs i 0 l.length E.n,h')∧Has h' ((i,.sl l.length E.n (E.l l))::K):=by
 subst hc
 exact⟨h.next,_,rfl,o.new (fun k hk=>by rw [AHeap.alloc,cD,if_neg (by omega)]) (Zr _) (.inr (Yn _)) (Y2 _) ⟨⟨cz.cH,cz.ni (by omega)⟩,.inr ⟨by have:=o.pos; omega,[],by rw [AHeap.alloc,cD,if_pos rfl]; simp⟩⟩⟩
end Go.R
