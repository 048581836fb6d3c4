/- Part of the proof: RRow, RStep, RWalk, RG1, RG2, RG3, RG4, RT, RG5, RG6, RG7. -/
import Derived.Test.YtmekcfdllhphlaaDoorK3
import Derived.ProofKit
set_option linter.unusedVariables false
set_option linter.unusedSimpArgs false
set_option maxRecDepth 100000
open Bool renaming and_eq_true → QR, false_eq_true → Q6, or_eq_true → RD
open List renaming getElem?_eq_some_iff → QX, length_append → Q0, mem_append → Q7, drop_eq_getElem_cons → Q9, length_set → Rb, replicate → Rc, all_eq_true → Rd, getElem?_append_right → Rg, map_append → Ri, append_assoc → Rm, take_append_of_le_length → Rn, map_cons → Rq, drop_zero → Rr, getElem?_append_left → Rs, mem_cons → Rt, nil_append → Rv, take_of_length_le → Rw, length_cons → RA, getElem?_cons_zero → RC, ext_getElem? → RJ, eq_nil_of_length_eq_zero → RK, all_cons → RL, length_nil → RN, take_length → RV, getElem?_set → Sj, set_append_right → Sv, length_take → Sx, append_nil → SD
open Nat renaming le_refl → QS, zero_add → Re, lt_of_lt_of_le → Rh, beq → Ry, lt_succ_self → RB, add_assoc → RF, le_trans → RG, le_succ → RX, mul_le_mul_right → RY, eq_of_beq_eq_true → R7, add_mul → Sd, sub_self → Sf, lt_succ_of_lt → Si, min_eq_left → SB
open Option renaming bind_some → QM, bind_eq_some_iff → QN, map_eq_some_iff → QP, map_some → QU, isSome_none → Sq
open Option.some renaming injEq → QQ
open Prod.mk renaming injEq → QV
namespace Go.R
open Go
def vU (P:Program)(F:TypeId→List AV→Prop):List Field→List AV→Prop
 | [],xs=>xs=[]
 | f::fs,xs=>∃a b,xs=a++b∧a.length=P.cellsOf f.type∧F f.type a∧vU P F fs b
def Fits (P:Program):Nat→TypeId→List AV→Prop
 | 0,_,_=>False
 | n+1,t,xs=>
  match P.underlying t with
  | some .bool=>∃b,xs=[.bool b]
  | some (.int k)=>∃z,xs=[.int k z]∧k.min≤z∧z≤k.max
  | some .string=>∃s:ByteArray,xs=[.str s]∧s.size≤maxLen
  | some (.slice e)=>xs=[.nils]∨∃els:List (List AV),xs=[.fz els.flatten els.length false]∧els.length≤maxLen∧∀el∈els,el.length=P.cellsOf e∧Fits P n e el
  | some (.struct fs)=>vU P (Fits P n) fs.toList xs
  | _=>False
def oF (P:Program):Nat→List Field→Bool
 | _,[]=>true
 | k,f::fs=>Ry f.offset k&&oF P (k+P.cellsOf f.type) fs
def jP (P:Program):Nat→TypeId→Bool
 | 0,_=>false
 | n+1,t=>
  match P.underlying t with
  | some .bool | some (.int _) | some .string=>true
  | some (.slice e)=>jP P n e
  | some (.struct fs)=>oF P 0 fs.toList&&Ry (P.cellsOf t) ((fs.toList.map fun f=>P.cellsOf f.type).sum)&&fs.toList.all fun f=>jP P n f.type
  | _=>false
theorem mapM_some {α β:Type}{f:α→Option β}:∀{l:List α} {ys:List β},l.mapM f=some ys→ys.length=l.length∧∀(i:Nat) (x:α),l[i]? = some x→∃y,ys[i]? = some y∧f x=some y
 | [],ys,h=>by
  simp at h; subst h
  exact⟨rfl,fun i x hx=>by simp at hx⟩
 | a::l,ys,h=>by
  simp only [List.mapM_cons,Option.bind_eq_bind,QN,Option.pure_def,QQ] at h
  obtain⟨y,hy,zs,hz,rfl⟩:=h
  obtain⟨h1,h2⟩:=mapM_some hz
  refine⟨by simp [h1],fun i x hx=>?_⟩
  cases i with
  | zero=>simp at hx; subst hx; exact⟨y,rfl,hy⟩
  | succ i=>simpa using h2 i x (by simpa using hx)
theorem vV {w:World}{a:Addr}{v:Value}(h:w.cell? a=some v):w.cell? ⟨a.block,a.off,none⟩=some v∧a.spot=none:=by
 unfold World.cell? at h ⊢
 split at h
 ·rename_i c t fr hb
  rw [hb]
  simp only at h ⊢
  cases hs:a.spot with
  | none=>rw [hs] at h; exact⟨by simpa using h,rfl⟩
  | some _=>rw [hs] at h; simp at h
 ·cases h
theorem km (a:Addr)(n:Nat):(a.add n).block=a.block∧(a.add n).off=a.off+n:=by
 unfold Addr.add
 split
 ·rename_i h; subst h; exact⟨rfl,rfl⟩
 ·exact⟨rfl,rfl⟩
theorem tS {w:World}{base:Nat}{a:Addr}{n:Nat}{cs:List Value}(h:w.cells? base a n=some cs):cs.length=n∧∀i,i<n→w.cell? ⟨a.block,a.off+i,none⟩=cs[i]?∧(i=0→a.spot=none):=by
 unfold World.cells? at h
 split at h
 ·obtain⟨h1,h2⟩:=mapM_some h
  refine⟨by simpa using h1,fun i hi=>?_⟩
  obtain⟨y,hy,hc⟩:=h2 i i (by simp [hi])
  obtain⟨h3,h4⟩:=vV hc
  rw [(km a i).1,(km a i).2] at h3
  refine⟨by rw [h3,hy],fun h0=>?_⟩
  subst h0
  simpa [Addr.add] using h4
 ·cases h
theorem nL {α:Type}{Q:Nat→α→Prop}:∀n,(∀i,i<n→∃x,Q i x)→∃l:List α,l.length=n∧∀i x,l[i]? = some x→Q i x
 | 0,_=>⟨[],rfl,fun i x h=>by simp at h⟩
 | n+1,h=>by
  obtain⟨l,h1,h2⟩:=nL n fun i hi=>h i (by omega)
  obtain⟨x,hx⟩:=h n (by omega)
  refine⟨l++[x],by simp [h1],fun i y hy=>?_⟩
  by_cases hi:i<n
  ·exact h2 i y (by rwa [Rs (by omega)] at hy)
  ·rw [Rg (by omega)] at hy
   have:i=n:=by
    have:=(QX.1 hy).1
    simp at this; omega
   subst this
   simp [h1] at hy
   subst hy; exact hx
theorem Cells.append {c:Cx}{L:Nat→Prop}:∀{xs ys:List AV} {b o:Nat},Cells c L xs b o→Cells c L ys b (o+xs.length)→Cells c L (xs++ys) b o
 | [],ys,b,o,_,h=>by simpa using h
 | x::xs,ys,b,o,h,k=>⟨h.1,Cells.append h.2 (by simpa [RF,Nat.add_comm 1] using k)⟩
theorem Cells.flatten {c:Cx}{L:Nat→Prop}{b size:Nat}:∀(els:List (List AV)) (o:Nat),(∀i el,els[i]? = some el→el.length=size∧Cells c L el b (o+i*size))→Cells c L els.flatten b o
 | [],o,_=>trivial
 | el::els,o,h=>by
  obtain⟨h1,h2⟩:=h 0 el rfl
  rw [List.flatten_cons]
  refine Cells.append (by simpa using h2) (Cells.flatten (size:=size) els _ fun i Ow he=>?_)
  obtain⟨h3,h4⟩:=h (i+1) Ow (by simpa using he)
  refine⟨h3,?_⟩
  rw [h1]
  rwa [show o+size+i*size=o+(i+1)*size by rw [Sd,Nat.one_mul]; omega]
section
variable {H:Type}{enc:TypeId × Value→H}{P:Program}{c:Cx}{sp:Nat→Bool}{held:Bool}
theorem nM {F:TypeId→List AV→Prop}{g:TypeId→List Value→Option (DataW H × List MemPlace)}(hg:∀t cs x,g t cs=some x→cs.length=P.cellsOf t→(∃u:Nat,u=0)→True) :
  ∀(fs:List Field) (k:Nat) (cs:List Value) (xs:List (DataW H × List MemPlace)),oF P k fs=true→(∀f∈fs,∀cs x,g f.type cs=some x→cs.length=P.cellsOf f.type→∃ys,VRs c none0 ys cs∧F f.type ys∧∀v∈cs,v.oneCell'=true)→
   (fs.mapM fun f=>g f.type ((cs.drop f.offset).take (P.cellsOf f.type)))=some xs→k+(fs.map fun f=>P.cellsOf f.type).sum≤cs.length→
   ∃ys,VRs c none0 ys ((cs.drop k).take ((fs.map fun f=>P.cellsOf f.type).sum))∧vU P F fs ys∧∀v∈(cs.drop k).take ((fs.map fun f=>P.cellsOf f.type).sum),v.oneCell'=true
 | [],k,cs,xs,_,_,_,_=>⟨[],by simp [VRs],rfl,by simp⟩
 | f::fs,k,cs,xs,hc,hF,h,hl=>by
  simp only [oF,QR,beq_nat,decide_eq_true_eq] at hc
  obtain⟨rfl,hc⟩:=hc
  simp only [List.mapM_cons,Option.bind_eq_bind,QN,Option.pure_def,QQ] at h
  obtain⟨y,hy,zs,hz,rfl⟩:=h
  simp only [Rq,List.sum_cons] at hl ⊢
  have hlen:((cs.drop f.offset).take (P.cellsOf f.type)).length=P.cellsOf f.type:=by simp; omega
  obtain⟨a,ha,Ox,h1⟩:=hF f (by simp) _ _ hy hlen
  obtain⟨b,hb,Oy,h2⟩:=nM hg fs (f.offset+P.cellsOf f.type) cs zs hc (fun f' Hn=>hF f' (by simp [Hn])) hz (by omega)
  have E5:(cs.drop f.offset).take (P.cellsOf f.type+(fs.map fun f=>P.cellsOf f.type).sum)=(cs.drop f.offset).take (P.cellsOf f.type)++((cs.drop (f.offset+P.cellsOf f.type)).take ((fs.map fun f=>P.cellsOf f.type).sum)):=by
   rw [List.take_add,List.drop_drop]
  rw [E5]
  refine⟨a++b,VRs.append ha hb,⟨a,b,rfl,?_,Ox,Oy⟩,fun v hv=>?_⟩
  ·rw [ha.length,hlen]
  ·rcases Q7.1 hv with hv | hv
   ·exact h1 v hv
   ·exact h2 v hv
theorem mW (qF:∀id,c.h.get id=none):∀(m:Nat) (t:TypeId) (fuel:Nat) (cs:List Value) (d:DataW H) (ps:List MemPlace),jP P m t=true→DataW.trod enc P c.w 0 sp held fuel t cs=some (d,ps)→
  ∃xs,VRs c none0 xs cs∧Fits P m t xs∧∀v∈cs,v.oneCell'=true
 | 0,_,_,_,_,_,hB,_=>by simp [jP] at hB
 | m+1,t,0,cs,d,ps,hB,h=>by simp [DataW.trod] at h
 | m+1,t,fuel+1,cs,d,ps,hB,h=>by
  have hnl:∀id,¬Live c.h id:=fun id hl=>by have:=hl.2; rw [qF id] at this; cases this
  unfold jP at hB
  unfold Fits
  cases hu:P.underlying t with
  | none=>rw [hu] at hB; cases hB
  | some td=>
  rw [hu] at hB
  cases td<;>simp only at hB ⊢<;>try (cases hB; done)
  ·
   unfold DataW.trod at h
   rw [hu] at h
   split at h<;>first | (rename_i heq; cases heq; done) | skip
   all_goals try (rename_i heq _; cases heq; done)
   all_goals (first | (cases h; done) | skip)
   ·rename_i b _
    exact⟨[.bool b],⟨by simp [VR],trivial⟩,⟨b,rfl⟩,by simp [Value.oneCell']⟩
  ·rename_i k
   unfold DataW.trod at h
   rw [hu] at h
   split at h<;>first | (rename_i heq; cases heq; done) | skip
   all_goals try (rename_i heq _; cases heq; done)
   ·rename_i k' k2 n heq
    cases heq
    split at h
    ·rename_i hk
     obtain⟨rfl,I4⟩:=hk
     simp only [Lit.wf,QR,decide_eq_true_eq] at I4
     exact⟨[.int k2 n],⟨by simp [VR],trivial⟩,⟨n,rfl,I4⟩,by simp [Value.oneCell']⟩
    ·cases h
   ·cases h
  ·
   unfold DataW.trod at h
   rw [hu] at h
   split at h<;>first | (rename_i heq; cases heq; done) | skip
   all_goals try (rename_i heq _; cases heq; done)
   ·rename_i s _
    split at h
    ·rename_i hs
     exact⟨[.str s],⟨by simp [VR],trivial⟩,⟨s,rfl,hs⟩,by simp [Value.oneCell']⟩
    ·cases h
   ·cases h
  ·
   rename_i e
   unfold DataW.trod at h
   rw [hu] at h
   split at h<;>first | (rename_i heq; cases heq; done) | skip
   all_goals try (rename_i heq _; cases heq; done)
   ·exact⟨[.nils],⟨by simp [VR],trivial⟩,.inl rfl,by simp [Value.oneCell']⟩
   ·rename_i e' a len cap heq
    cases heq
    simp only at h
    split at h
    rotate_left
    ·cases h
    rename_i hbound
    obtain⟨_,hlc,hcap⟩:=hbound
    rw [QN] at h
    obtain⟨elems,HB,_⟩:=h
    obtain⟨hn,hget⟩:=mapM_some HB
    have key:∀i,i<len→∃el:List AV,el.length=P.cellsOf e∧Fits P m e el∧Cells c none0 el a.block (a.off+i*P.cellsOf e)∧(i=0→0<P.cellsOf e→a.spot=none):=by
     intro i hi
     obtain⟨y,_,hy⟩:=hget i i (by simp [hi])
     rw [QN] at hy
     obtain⟨Oz,hcs,hy⟩:=hy
     obtain⟨hl,kE⟩:=tS hcs
     obtain⟨el,hv,hf,h1⟩:=mW qF m e fuel Oz y.1 y.2 hB hy
     refine⟨el,by rw [hv.length,hl],hf,Cells.of_vals hv (fun j hj=>?_) h1,fun h0 fH=>?_⟩
     ·have:=(kE j (by omega)).1
      rwa [(km a _).1,(km a _).2] at this
     ·subst h0
      have:=(kE 0 fH).2 rfl
      simpa [Addr.add] using this
    obtain⟨els,hl,yX⟩:=nL len key
    refine⟨[.fz els.flatten els.length false],⟨?_,trivial⟩,.inr ⟨els,rfl,by omega,fun el HB=>?_⟩,by simp [Value.oneCell']⟩
    ·simp only [VR]
     refine⟨some a,cap,by rw [hl],by omega,by simp,.inl rfl,?_⟩
     by_cases E6:els.flatten=[]
     ·exact .inl E6
     ·have fH:0<len∧0<P.cellsOf e:=by
       cases els with
       | nil=>simp at E6
       | cons el els=>
        refine⟨by simp at hl; omega,?_⟩
        rcases Nat.eq_zero_or_pos (P.cellsOf e) with h0 | h0
        ·exfalso
         apply E6
         rw [List.flatten_eq_nil_iff]
         intro l re
         obtain⟨i,hi⟩:=List.getElem?_of_mem re
         have:=(yX i l hi).1
         exact RK (by omega)
        ·exact h0
      have D5:a.spot=none:=by
       cases els with
       | nil=>simp at hl; omega
       | cons el els=>exact (yX 0 el rfl).2.2.2 rfl fH.2
      refine .inr ⟨a.block,a.off,?_,⟨fun id hl=>absurd hl (hnl id),fun h=>h.elim⟩,by simp,Cells.flatten els a.off fun i el hi=>⟨(yX i el hi).1,(yX i el hi).2.2.1⟩⟩
      cases a; simp at D5; subst D5; rfl
    ·obtain⟨i,hi⟩:=List.getElem?_of_mem HB
     exact⟨(yX i el hi).1,(yX i el hi).2.1⟩
   ·cases h
  ·
   rename_i fs
   simp only [QR,beq_nat,decide_eq_true_eq,Rd] at hB
   obtain⟨⟨JZ,J0⟩,HC⟩:=hB
   simp only [DataW.trod,hu] at h
   split at h
   rotate_left
   ·cases h
   rename_i hlen
   rw [QP] at h
   obtain⟨xs,hx,_⟩:=h
   obtain⟨ys,h1,h2,h3⟩:=nM (P:=P) (c:=c) (F:=Fits P m) (g:=fun t cs=>DataW.trod enc P c.w 0 sp held fuel t cs) (fun _ _ _ _ _ _=>trivial) fs.toList 0 cs xs JZ
    (fun f hf cs x hx _=>mW qF m f.type fuel cs x.1 x.2 (HC f hf) hx) hx (by omega)
   have iO:(cs.drop 0).take ((fs.toList.map fun f=>P.cellsOf f.type).sum)=cs:=by
    rw [Rr,←J0,←hlen,RV]
   rw [iO] at h1 h3
   exact⟨ys,h1,h2,h3⟩
def ig (P:Program)(t:TypeId)(xs:List AV):AV:=
 match P.underlying t with
 | some (.struct _)=>.agg xs
 | _=>xs.headD .any
def lU (P:Program)(m:Nat):List TypeId→List AV→Prop
 | [],[]=>True
 | t::ts,x::px=>(∃xs,x=ig P t xs∧Fits P m t xs)∧lU P m ts px
 | _,_=>False
theorem yY {w:World}{m:Nat}{t:TypeId}{v:Value}{base:Nat}(hB:jP P m t=true)(hs:∀fs,P.underlying t≠some (.struct fs))(h:Value.okWide P w .any base t v):v.cells.toList=[v]:=by
 cases m with
 | zero=>simp [jP] at hB
 | succ m=>
 unfold jP at hB
 unfold Value.okWide at h
 cases hu:P.underlying t with
 | none=>rw [hu] at hB; cases hB
 | some td=>
 rw [hu] at hB h
 cases td<;>simp only at hB h<;>first
  | (cases hB; done)
  | (exact absurd hu (hs _))
  | (cases v<;>simp only [Cell.okWide,Cell.ok,hu] at h<;>first | (exact h.elim) | rfl | (simp [Value.cells]))
theorem Au (qF:∀id,c.h.get id=none){m:Nat}{t:TypeId}{v:Value}{d:DataW H}{ps:List MemPlace}{base:Nat}(hB:jP P m t=true)(ho:Value.okWide P c.w .any base t v)(h:DataW.Trod enc P c.w 0 sp held t v d ps) :
  ∃xs,Fits P m t xs∧VR c none0 (ig P t xs) v:=by
 obtain⟨fuel,h⟩:=h
 obtain⟨xs,h1,h2,_⟩:=mW qF m t fuel _ d ps hB h
 refine⟨xs,h2,?_⟩
 by_cases hs:∃fs,P.underlying t=some (.struct fs)
 ·obtain⟨fs,hs⟩:=hs
  unfold Value.okWide at ho
  rw [hs] at ho
  obtain⟨cs,rfl,_⟩:=ho
  unfold ig
  rw [hs]
  simp only [VR]
  exact⟨cs,rfl,h1⟩
 ·have GF:∀fs,P.underlying t≠some (.struct fs):=fun fs h=>hs ⟨fs,h⟩
  have hc:=yY hB GF ho
  rw [hc] at h1
  have hx:ig P t xs=xs.headD .any:=by
   unfold ig
   split
   ·rename_i fs h; exact absurd h (GF fs)
   ·rfl
  rw [hx]
  cases xs with
  | nil=>exact h1.elim
  | cons x xs=>exact h1.1
theorem tT (qF:∀id,c.h.get id=none){m base:Nat}:∀(ts:List TypeId) (vs:List Value) (ds:List (DataW H)) (ps:List MemPlace),(∀t∈ts,jP P m t=true)→(∀(j:Nat) t v,ts[j]? = some t→vs[j]? = some v→Value.okWide P c.w .any base t v)→
  DataW.TrodAll enc P c.w 0 sp held ts vs ds ps→∃px,lU P m ts px∧VRs c none0 px vs
 | [],[],[],_,_,_,_=>⟨[],trivial,trivial⟩
 | t::ts,v::vs,d::ds,ps,hB,ho,h=>by
  obtain⟨p,q,h1,h2,_⟩:=h
  obtain⟨xs,h3,h4⟩:=Au qF (hB t (by simp)) (ho 0 t v rfl rfl) h1
  obtain⟨px,h5,h6⟩:=tT qF ts vs ds q (fun t ht=>hB t (by simp [ht])) (fun j t v hj hv=>ho (j+1) t v (by simpa using hj) (by simpa using hv)) h2
  exact⟨ig P t xs::px,⟨⟨xs,rfl,h3⟩,h5⟩,h4,h6⟩
 | [],[],_::_,_,_,_,h=>h.elim
 | [],_::_,_,_,_,_,h=>by cases h
 | _::_,[],_,_,_,_,h=>by cases h
 | _::_,_::_,[],_,_,_,h=>by cases h
theorem iz (hl:laidOutB P=true){W W':World}{Mu:Nat→Bool}:∀{ts:List TypeId} {vs:List Value} {ds:List (DataW H)} {ps:List MemPlace},(∀t∈ts,P.readableRec t=true∧t<P.types.size)→
  DataW.TrodAll enc P W 0 (fun _=>true) true ts vs ds ps→(∀p∈ps,W.sameAt W' p)→(∀p∈ps,Mu p.block=true)→DataW.TrodAll enc P W' 0 Mu true ts vs ds ps
 | [],[],[],_,_,h,_,_=>h
 | t::ts,v::vs,d::ds,ps,hr,h,hs,hp=>by
  obtain⟨p,q,h1,h2,rfl⟩:=h
  exact⟨p,q,WideElems.Trod_stays hl (hr t (by simp)).1 (hr t (by simp)).2 h1 (fun x hx=>hs x (by simp [hx])) (fun x hx=>hp x (by simp [hx])),
   iz hl (fun t ht=>hr t (by simp [ht])) h2 (fun x hx=>hs x (by simp [hx])) (fun x hx=>hp x (by simp [hx])),rfl⟩
 | [],[],_::_,_,_,h,_,_=>h.elim
 | [],_::_,_,_,_,h,_,_=>by cases h
 | _::_,[],_,_,_,h,_,_=>by cases h
 | _::_,_::_,[],_,_,h,_,_=>by cases h
theorem yZ {f:Func}{s:ChangeSpec}{apart fresh handsOn again:Bool}{W W':World}{args:Array Value}{ds gs:List (DataW H)}{before:List MemPlace}{tb:TypeId}
  (hl:laidOutB P=true) (hr:∀t∈f.params.toList,P.readableRec t=true∧t<P.types.size) (hW:DataW.Whole enc P f.params.toList s.vars apart W args.toList ds gs before) (hv:s.vars=[])
  (Av:f.resultTypes = #[tb]) (I5:P.underlying tb=some .bool) (E7:(s.fn H (ds++gs))={results:=[.lit (.bool true)],args:=ds}) (hb:RowKit.Below W.heap.size W W') :
  s.post enc P f apart fresh handsOn again W args (.bool true) W':=by
 have hlt:=hW.lt
 have hW0:=hW
 obtain⟨p,q,hA,hV,Mw,hz,hn⟩:=hW
 rw [hv] at hV
 have J1:gs=[]∧q=[]:=by
  cases gs with
  | nil=>exact⟨rfl,hV⟩
  | cons g gs=>exact hV.elim
 obtain⟨rfl,rfl⟩:=J1
 have J2:before=p:=by simpa using Mw
 subst J2
 have D6:∀x∈before,W.sameAt W' x:=fun x hx=>hb.same (hlt x hx)
 have HD:(Value.bool true).resultList f.resultTypes.size=[.bool true]:=by rw [Av]; rfl
 have D7:∀(b:Nat) (sp:Nat→Bool) (hd:Bool),DataW.TrodAll enc P W' b sp hd f.resultTypes.toList ((Value.bool true).resultList f.resultTypes.size) [.lit (.bool true)] []:=by
  intro b sp hd
  rw [HD,Av]
  exact ChangeShapes.trodAll_mk1 (RowKit.shut_bool I5 true)
 refine⟨ds,[],before,[],before,[],hW0,?_,?_,?_,?_,fun _=>⟨?_,?_⟩⟩
 ·rw [E7]; exact D7 _ _ _
 ·rw [E7]
  exact iz hl hr hA D6 (fun x hx=>by simpa using hlt x hx)
 ·rw [E7,hv]; rfl
 ·exact hb.frame _
 ·exact RowKit.ok_one Av rfl (RowKit.okWide_bool_mk I5 true)
 ·refine⟨_,[],before,⟨[]++before,[],ChangeShapes.trodAll_append (iz hl hr hA D6 (fun _ _=>rfl)) (D7 0 _ _),by rw [hv]; rfl,by simp,fun b off hx=>?_,hn⟩,fun p hp _=>hp⟩
  rw [hb.frozen (p:=⟨b,off,none⟩) (hlt _ hx)]
  exact hz b off hx
theorem Ext.below {c c':Cx}(e:Ext c none0 c' none0):RowKit.Below c.base c.w c'.w:=⟨e.os,e.tape,e.output,e.size,fun b hb=>e.exact b hb⟩
theorem qN {cf:CallF}{vO:FuncId}{f:Func}{s:ChangeSpec}{apart fresh handsOn again:Bool}{m:Nat}{tb:TypeId}
  (hl:laidOutB P=true) (hr:∀t∈f.params.toList,P.readableRec t=true∧t<P.types.size) (hB:∀t∈f.params.toList,jP P m t=true) (hv:s.vars=[]) (Av:f.resultTypes = #[tb]) (I5:P.underlying tb=some .bool)
  (E7:∀ds:List (DataW H),ds.length=f.params.size→(s.fn H ds)={results:=[.lit (.bool true)],args:=ds})
  (hcf:∀px,lU P m f.params.toList px→∃cf h',CallOK P cf∧cf vO px bG=some (.bool true,h'))
  {W:World} {base:Nat} {args:Array Value} {ds gs:List (DataW H)} {before:List MemPlace} (cn:∀(j:Nat) t v,f.params[j]? = some t→args[j]? = some v→Value.okWide P W .any base t v)
  (hW:DataW.Whole enc P f.params.toList s.vars apart W args.toList ds gs before) :
  Calls P vO args W fun e W'=>∃v,e = .returned v∧s.post enc P f apart fresh handsOn again W args v W':=by
 have hW0:=hW
 obtain⟨p,q,hA,hV,Mw,_,_⟩:=hW
 let c:Cx:=⟨fun _=>(0,0),bG,W,W.heap.size⟩
 obtain⟨px,h1,h2⟩:=tT (c:=c) (P:=P) (m:=m) (base:=base) (fun _=>rfl) f.params.toList args.toList ds p hB (fun j t v hj hv=>cn j t v (by simpa using hj) (by simpa using hv)) hA
 obtain⟨cf,h',lE,J3⟩:=hcf px h1
 have hnl:∀id,¬Live c.h id:=fun id hl=>by have:=hl.2; cases this
 have hcall:=(lE vO px bG _ _ J3).2 none0 c args.toList rfl (QS _) ⟨fun id o ho=>(by cases ho),fun id o ho=>(by cases ho),fun id _ hl _ _=>absurd hl (hnl id),fun id hl=>absurd hl (hnl id),fun b hb=>hb.elim,fun id hl=>absurd hl (hnl id),fun _=>Nat.zero_lt_one⟩ h2
 rw [Array.toArray_toList] at hcall
 have hlen:∀(ts:List TypeId) (vs:List Value) (ds:List (DataW H)) (p:List MemPlace),DataW.TrodAll enc P W 0 (fun _=>true) true ts vs ds p→ds.length=ts.length:=by
  intro ts
  induction ts with
  | nil=>intro vs ds p h; cases vs<;>cases ds<;>first | rfl | (cases h; done) | exact h.elim
  | cons t ts ih=>intro vs ds p h; cases vs<;>cases ds<;>first | (cases h; done) | (obtain⟨_,_,_,h2,_⟩:=h; simp [ih _ _ _ h2])
 have J1:gs=[]:=by
  rw [hv] at hV
  cases gs with
  | nil=>rfl
  | cons g gs=>exact hV.elim
 refine hcall.mono ?_
 rintro e w' ⟨c',v,rfl,rfl,hh,xe,hrel,EN⟩
 simp only [VR] at xe
 subst xe
 refine⟨_,rfl,yZ hl hr hW0 hv Av I5 ?_ EN.below⟩
 rw [J1,SD]
 exact E7 ds (by rw [hlen _ _ _ _ hA]; simp)
end
end Go.R
namespace Go.R
open Go
section
variable {P:Program}{cf:CallF}{aB ds:List Nat}{s:RS}{d:Option Tmp}{t:TypeId}{p:String}{a:Array Edge}{g:Option (Nat × Bool)}{ops:List Oper}{ρ:Nat→AV}{bx:Nat→Option (List AV)}{h:AHeap}
variable {A:ca}{m:Nat}{st:St}
end
end Go.R
namespace Go.R
open Go
def sub:List Nat→Code→Code
 | [],c=>c
 | 0::p,.seq a _=>sub p a
 | _::p,.seq _ b=>sub p b
 | 0::p,.cond _ a _=>sub p a
 | _::p,.cond _ _ b=>sub p b
 | _::p,.block _ a=>sub p a
 | _::p,.loop a=>sub p a
 | _,c=>c
def codeOf (f:Func):Code:=f.body.getD .skip
end Go.R
namespace Go.R
open Go
section
variable (P:Program)
def bg (h:AHeap)(t:TypeId)(x:AV):Option AV:=gM P (fun _=>none) h t x
def gd (h:AHeap)(t:TypeId)(a x:AV):Option AHeap:=
 match a with
 | .ptr id off=>(h.get id).bind fun | .cells cs=>(eJ P t cs off x).map fun ej=>h.put id (.cells ej) | _=>none
 | _=>none
def D8 (cf:CallF)(f:AV)(as:List AV)(h:AHeap):Option (AV × AHeap):=
 match f with
 | .fn f cap=>if as.all AV.js then cf f (as++cap) h else none
 | _=>none
def tU (h:AHeap)(cs:List AV):Option (AV × AHeap):=if cs.all AV.bM then some (.ptr h.next 0,h.alloc (.cells cs)) else none
def y4 (aB:List Nat)(d:Option Nat):Bool:=match d with | some d=>!aB.contains d | none=>false
def Aw (aB:List Nat)(h:AHeap)(o:Oper)(t:TypeId)(x:Option AV):Option (AV × AHeap):=
 x.bind fun x=>(kS P aB o t x).map fun (cs,n,z)=>(.rs h.next 0 n z,h.alloc (.cells cs))
def E8 (e:Operand→AV)(h:AHeap)(o:Oper)(z:AV):Prop:=
 match o.op with
 | .move x | .assign x=>e x=z
 | .load t a=>bg P h t (e a)=some z
 | .binOp op t x y _=>kR P op t (e x) (e y)=some z
 | .unOp op _ x=>((e x).dK.bind fun a=>(fC P (Op.unary op a)).bind lA)=some z
 | .convert a b x=>jD P h a b (e x)=some z
 | .slice t x lo hi mx=>r8 P t (e x) (lo.map e) (hi.map e) (mx.map e)=some z
 | .indexAddr t x i=>cZ P t (e x) (e i)=some z
 | .index t x i=>mH P t (e x) (e i)=some z
 | .lookup t m k ok=>dO P h t (e m) (e k) ok=some z
 | .call {callee:=.builtin .len,args,argTypes}=>match argTypes.toList,args.toList.map e with
  | [t],[x]=>oQ P h t x=some z
  | _,_=>False
 | _=>False
def E9 (cf:CallF)(aB:List Nat)(e:Operand→AV)(h:AHeap)(o:Oper)(z:AV)(h':AHeap):Prop:=
 match o.op with
 | .store t a x=>bif o.dst.isSome then False else gd P h t (e a) (e x)=some h'
 | .alloc t=>bif y4 aB o.dst then (gK P t).bind (fun z=>tU h (yA aB o.dst z.cells))=some (z,h') else False
 | .box _ x=>bif y4 aB o.dst then tU h (e x).cells=some (z,h') else False
 | .buildSlice t n ps=>Aw P aB h o t (en P t n (ps.toList.map fun (i,x)=>(i,e x)))=some (z,h')
 | .makeMap _ none=>(AV.mp h.next,h.alloc (.map []))=(z,h')
 | .makeSlice t l c=>ep P h t (e l) (e c)=some (z,h')
 | .mapUpdate t m k x | .insert t m k x=>bif o.dst.isSome then False else fE P h t (e m) (e k) (e x)=some h'
 | .call {callee:=.builtin .append,args,argTypes}=>match argTypes.toList,args.toList.map e with
  | [t,t2],[x,y]=>de P h t t2 x y=some (z,h')
  | _,_=>False
 | .call {callee:=.builtin .copy,args,argTypes}=>match argTypes.toList,args.toList.map e with
  | [t,t2],[x,y]=>q7 P h t t2 x y=some (z,h')
  | _,_=>False
 | .call {callee:=.value f,args,..}=>D8 cf (e f) (args.toList.map e) h=some (z,h')
 | _=>False
end
abbrev Fa:=List (Nat × AV × Option AHeap)
def py (P:Program)(cf:CallF)(aB:List Nat)(ops:List Oper):RS→Nat→List Oper→Fa→Option (List oz × RS × Prop)
 | s,_,[],[]=>some ([],s,True)
 | _,_,[],_::_=>none
 | s,i,o::os,zs=>
  (eK ops s.ρ o).bind fun w=>
   bif w then
    match zs with
    | []=>(sa P cf aB (ops.filterMap (·.dst)) s o).bind fun s1=>(py P cf aB ops s1 (i+1) os []).map fun (l,r,p)=>({o,f:=aN aB (bj s.ρ) o,s,s':=s1}::l,r,p)
    | (j,z,oh)::rC=>
     bif Ry i j then
      match oh with
      | none=>(py P cf aB ops (s.set o.dst z) (i+1) os rC).map fun (l,r,p)=>({o,f:=aN aB (bj s.ρ) o,s,s':=s.set o.dst z}::l,r,E8 P (bj s.ρ) s.h o z∧p)
      | some h'=>(py P cf aB ops (({s with h:=h'}:RS).set o.dst z) (i+1) os rC).map fun (l,r,p)=>({o,f:=aN aB (bj s.ρ) o,s,s':=({s with h:=h'}:RS).set o.dst z}::l,r,E9 P cf aB (bj s.ρ) s.h o z h'∧p)
     else (sa P cf aB (ops.filterMap (·.dst)) s o).bind fun s1=>(py P cf aB ops s1 (i+1) os zs).map fun (l,r,p)=>({o,f:=aN aB (bj s.ρ) o,s,s':=s1}::l,r,p)
   else (py P cf aB ops (s.set o.dst (.tup [])) (i+1) os zs).map fun (l,r,p)=>({o,f:={},s,s':=s.set o.dst (.tup [])}::l,r,p)
section
variable {P:Program}{cf:CallF}{aB:List Nat}
theorem Ax {h:AHeap}{t:TypeId}{x z:AV}{bx:Nat→Option (List AV)}(hh:bg P h t x=some z):gM P bx h t x=some z:=by
 cases x<;>first | exact hh | (simp [bg,gM] at hh)
theorem C4 {s:RS}{o:Oper}{z:AV}(h:E8 P (bj s.ρ) s.h o z)(ds:List Nat):sa P cf aB ds s o=some (s.set o.dst z):=by
 unfold E8 at h
 unfold sa vz
 dsimp only
 split at h
 ·rename_i ho; rw [ho]; simp only [h]
 ·rename_i ho; rw [ho]; simp only [h]
 ·rename_i ho; rw [ho]; simp only [Ax h,QU]
 ·rename_i ho; rw [ho]; simp only [h,QU]
 ·rename_i ho; rw [ho]; simp only [h,QU]
 ·rename_i ho; rw [ho]; simp only [h,QU]
 ·rename_i ho; rw [ho]; simp only [h,QU]
 ·rename_i ho; rw [ho]; simp only [h,QU]
 ·rename_i ho; rw [ho]; simp only [h,QU]
 ·rename_i ho; rw [ho]; simp only [h,QU]
 ·rename_i ho
  rw [ho]
  split at h
  ·rename_i h1 h2
   simp only [h1,h2,er,h,QU]
  ·exact h.elim
 ·exact h.elim
theorem tV {s:RS}{o:Oper}{cs:List AV}{z:AV}{h':AHeap}(hn:y4 aB o.dst=true)(h:tU s.h cs=some (z,h'))(ds:List Nat):fc s aB ds o cs=some (({s with h:=h'}:RS).set o.dst z):=by
 unfold tU at h
 split at h
 rotate_left
 ·cases h
 rename_i lE
 simp only [QQ,QV] at h
 obtain⟨rfl,rfl⟩:=h
 unfold fc
 rw [if_pos lE]
 unfold y4 at hn
 split at hn
 ·rename_i d hd
  rw [hd]
  have:aB.contains d=false:=by simpa using hn
  simp only [this,Q6,if_false]
 ·cases hn
theorem C5 {s:RS}{o:Oper}{z:AV}{h':AHeap}(h:E9 P cf aB (bj s.ρ) s.h o z h')(ds:List Nat):sa P cf aB ds s o=some (({s with h:=h'}:RS).set o.dst z):=by
 unfold E9 at h
 unfold sa vz
 dsimp only
 split at h
 ·rename_i t a x ho
  rw [ho]
  cases hd:o.dst with
  | some d=>rw [hd] at h; exact h.elim
  | none=>
   rw [hd] at h
   simp only [Sq,cond_false] at h
   simp only [Sq,Q6,if_false]
   unfold gd at h
   split at h
   ·rename_i id off he
    rw [he]
    simp only [QN] at h ⊢
    obtain⟨ob,hob,h⟩:=h
    refine⟨ob,hob,?_⟩
    split at h
    ·rw [QP] at h ⊢
     obtain⟨ej,hcs,rfl⟩:=h
     exact⟨ej,hcs,rfl⟩
    ·cases h
   ·cases h
 ·rename_i t ho
  rw [ho]
  cases hn:y4 aB o.dst with
  | false=>rw [hn] at h; exact h.elim
  | true=>
   rw [hn] at h
   simp only [cond_true,QN] at h
   obtain⟨z0,h1,h2⟩:=h
   simp only [h1,QM]
   exact tV hn h2 ds
 ·rename_i t x ho
  rw [ho]
  cases hn:y4 aB o.dst with
  | false=>rw [hn] at h; exact h.elim
  | true=>
   rw [hn] at h
   exact tV hn h ds
 ·rename_i t n ps ho
  rw [ho]
  unfold Aw at h
  simp only [QN,QP] at h
  obtain⟨x,hx,⟨cs,k,q⟩,ht,he⟩:=h
  simp only [QV] at he
  obtain⟨rfl,rfl⟩:=he
  simp only [hx,QU,mK,ht]
 ·rename_i ho
  rw [ho]
  simp only [QV] at h
  obtain⟨rfl,rfl⟩:=h
  rfl
 ·rename_i ho; rw [ho]; simp only [h,QU]
 ·rename_i t m k x ho
  rw [ho]
  cases hd:o.dst with
  | some d=>rw [hd] at h; exact h.elim
  | none=>
   rw [hd] at h
   simp only [Sq,cond_false] at h
   simp only [Sq,Q6,if_false,h,QU]
   rfl
 ·rename_i t m k x ho
  rw [ho]
  cases hd:o.dst with
  | some d=>rw [hd] at h; exact h.elim
  | none=>
   rw [hd] at h
   simp only [Sq,cond_false] at h
   simp only [Sq,Q6,if_false,h,QU]
   rfl
 ·rename_i ho
  rw [ho]
  split at h
  ·rename_i h1 h2
   simp only [h1,h2,er,h,QU]
  ·exact h.elim
 ·rename_i ho
  rw [ho]
  split at h
  ·rename_i h1 h2
   simp only [h1,h2,er,h,QU]
  ·exact h.elim
 ·rename_i f args xk ho
  rw [ho]
  unfold D8 at h
  split at h
  ·rename_i g cap he
   dsimp only
   rw [he]
   split at h
   ·rename_i lE
    simp only [lE,if_true,h,QU]
   ·cases h
  ·cases h
 ·exact h.elim
theorem xu {ops:List Oper}:∀{l:List Oper} {s r:RS} {i:Nat} {zs:Fa} {es:List oz} {p:Prop},py P cf aB ops s i l zs=some (es,r,p)→p→mN P cf aB ops s l=some (es,r)∧nZ P cf aB ops s l=some r
 | [],s,r,i,[],es,p,h,_=>by
  simp only [py,QQ,QV] at h
  obtain⟨rfl,rfl,rfl⟩:=h
  exact⟨rfl,rfl⟩
 | [],s,r,i,_::_,es,p,h,_=>by simp [py] at h
 | o::os,s,r,i,zs,es,p,h,hp=>by
  simp only [py,QN] at h
  obtain⟨w,hw,h⟩:=h
  have fin:∀(s1:RS) (l:List oz) (rC:Fa) (q:Prop),(if w then sa P cf aB (ops.filterMap (·.dst)) s o else some (s.set o.dst (.tup [])))=some s1→py P cf aB ops s1 (i+1) os rC=some (l,r,q)→q→
    mN P cf aB ops s (o::os)=some ({o,f:=if w then aN aB (bj s.ρ) o else {},s,s':=s1}::l,r)∧nZ P cf aB ops s (o::os)=some r:=by
   intro s1 l rC q h1 h2 hq
   obtain⟨h3,h4⟩:=xu h2 hq
   refine⟨?_,?_⟩
   ·simp only [mN,hw,QM,h1,h3,QU]
   ·simp only [nZ,jE,hw,QM,h1,h4]
  cases w with
  | false=>
   simp only [cond_false,QP] at h
   obtain⟨⟨l,r',q⟩,h2,he⟩:=h
   simp only [QV] at he
   obtain⟨rfl,rfl,rfl⟩:=he
   simpa using fin _ l zs q (by simp) h2 hp
  | true=>
   simp only [cond_true] at h
   split at h
   ·simp only [QN,QP] at h
    obtain⟨s1,h1,⟨l,r',q⟩,h2,he⟩:=h
    simp only [QV] at he
    obtain⟨rfl,rfl,rfl⟩:=he
    simpa using fin _ l [] q (by simpa using h1) h2 hp
   ·rename_i j z oh rC
    cases hj:Ry i j with
    | false=>
     rw [hj] at h
     simp only [cond_false,QN,QP] at h
     obtain⟨s1,h1,⟨l,r',q⟩,h2,he⟩:=h
     simp only [QV] at he
     obtain⟨rfl,rfl,rfl⟩:=he
     simpa using fin _ l _ q (by simpa using h1) h2 hp
    | true=>
     rw [hj] at h
     simp only [cond_true] at h
     split at h
     ·simp only [QP] at h
      obtain⟨⟨l,r',q⟩,h2,he⟩:=h
      simp only [QV] at he
      obtain⟨rfl,rfl,rfl⟩:=he
      simpa using fin _ l _ q (by simpa using C4 hp.1 _) h2 hp.2
     ·simp only [QP] at h
      obtain⟨⟨l,r',q⟩,h2,he⟩:=h
      simp only [QV] at he
      obtain⟨rfl,rfl,rfl⟩:=he
      simpa using fin _ l _ q (by simpa using C5 hp.1 _) h2 hp.2
end
def pz (s:RS):List (Nat × Option Nat × Nat)→List (AV × AHeap)→Option (RS × Prop)
 | [],_=>some (s,True)
 | (t,i,k)::ps,zs=>
  match i with
  | none=>
   match k,s.ρ t,zs with
   | 0,.rs id off n z,(y,h')::rC=>(pz {s with h:=h',ρ:=fun u=>bif Ry u t then y else s.ρ u} ps rC).map fun (r,p)=>(r,gO 0 s.h (.rs id off n z)=some (y,h')∧p)
   | k,x,zs=>(gO k s.h x).bind fun (y,h')=>pz {s with h:=h',ρ:=fun u=>bif Ry u t then y else s.ρ u} ps zs
  | some i=>
   match s.bx t with
   | some cs=>(cs[i]?).bind fun x=>
    match k,x,zs with
    | 0,.rs id off n z,(y,h')::rC=>(pz {s with h:=h',bx:=fun u=>bif Ry u t then some (cs.set i y) else s.bx u} ps rC).map fun (r,p)=>(r,gO 0 s.h (.rs id off n z)=some (y,h')∧p)
    | k,x,zs=>(gO k s.h x).bind fun (y,h')=>pz {s with h:=h',bx:=fun u=>bif Ry u t then some (cs.set i y) else s.bx u} ps zs
   | none=>none
theorem sI:∀{ps:List (Nat × Option Nat × Nat)} {s r:RS} {zs:List (AV × AHeap)} {p:Prop},pz s ps zs=some (r,p)→p→jb s ps=some r
 | [],s,r,zs,p,h,_=>by
  simp only [pz,QQ,QV] at h
  obtain⟨rfl,rfl⟩:=h
  rfl
 | (t,i,k)::ps,s,r,zs,p,h,hp=>by
  cases i with
  | none=>
   have fin:∀(y:AV) (h':AHeap) (rC:List (AV × AHeap)) (q:Prop),gO k s.h (s.ρ t)=some (y,h')→pz {s with h:=h',ρ:=fun u=>bif Ry u t then y else s.ρ u} ps rC=some (r,q)→q→jb s ((t,none,k)::ps)=some r:=by
    intro y h' rC q h1 h2 hq
    simp only [jb,sd,h1,QU,QM]
    exact sI h2 hq
   simp only [pz] at h
   split at h
   ·rename_i id off n z y h' rC hx
    rw [QP] at h
    obtain⟨⟨r',q⟩,h2,he⟩:=h
    simp only [QV] at he
    obtain⟨rfl,rfl⟩:=he
    exact fin y h' rC q (by rw [hx]; exact hp.1) h2 hp.2
   ·rw [QN] at h
    obtain⟨⟨y,h'⟩,h1,h2⟩:=h
    exact fin y h' _ p h1 h2 hp
  | some i=>
   simp only [pz] at h
   split at h
   rotate_left
   ·cases h
   rename_i cs hcs
   rw [QN] at h
   obtain⟨x,hx,h⟩:=h
   have fin:∀(y:AV) (h':AHeap) (rC:List (AV × AHeap)) (q:Prop),gO k s.h x=some (y,h')→pz {s with h:=h',bx:=fun u=>bif Ry u t then some (cs.set i y) else s.bx u} ps rC=some (r,q)→q→jb s ((t,some i,k)::ps)=some r:=by
    intro y h' rC q h1 h2 hq
    simp only [jb,sd,hcs,hx,QM,h1,QU]
    exact sI h2 hq
   split at h
   ·rename_i id off n z y h' rC
    rw [QP] at h
    obtain⟨⟨r',q⟩,h2,he⟩:=h
    simp only [QV] at he
    obtain⟨rfl,rfl⟩:=he
    exact fin y h' rC q hp.1 h2 hp.2
   ·rw [QN] at h
    obtain⟨⟨y,h'⟩,h1,h2⟩:=h
    exact fin y h' _ p h1 h2 hp
def oz.oG (x y:oz):Bool:=
 (match x.f.wb with
  | some k=>!y.f.rb.contains k&&y.f.wb != some k
  | none=>true) &&
 (!x.f.wh||(!y.f.wh&&y.f.rh.isEmpty))
def Ay (ops:List Oper)(arr:Array Oper)(s:RS)(es:List oz):Bool:=
 let ms:=gN [] ops
 mM arr ms &&
  (let is:=es.zipIdx
   let zT:=is.filter fun (x,_)=>!x.f.quiet
   zT.all (fun (x,i)=>sc ms (ops.filterMap (·.dst)) s is x i&&zT.all fun (y,j)=>Nat.ble j i||(ms.getD j 0).testBit i||(x.oG y&&y.oG x)))
theorem pA {x y:oz}(h:x.oG y=true):x.mL y=true:=by
 unfold oz.oG at h
 unfold oz.mL
 simp only [QR,RD] at h ⊢
 refine⟨h.1,h.2.imp id fun ⟨h1,h2⟩=>⟨h1,?_⟩⟩
 rw [List.isEmpty_iff] at h2
 rw [h2]; rfl
theorem C6 {P:Program}{cf:CallF}{aB:List Nat}{ops:Array Oper}{s r:RS}{es:List oz}(h:Ay ops.toList ops s es=true)(hr:mN P cf aB ops.toList s ops.toList=some (es,r)):ja P cf aB ops s=some r:=by
 unfold Ay at h
 simp only [QR] at h
 obtain⟨h1,h2⟩:=h
 unfold ja
 simp only [h1,if_true,hr,QM]
 rw [if_pos]
 rw [Rd] at h2 ⊢
 intro x hx
 have:=h2 x hx
 simp only [QR] at this ⊢
 refine⟨this.1,?_⟩
 have h3:=this.2
 rw [Rd] at h3 ⊢
 intro y hy
 have:=h3 y hy
 simp only [RD,QR] at this ⊢
 exact this.imp id fun h=>⟨pA h.1,pA h.2⟩
def kI (P:Program)(cf:CallF)(A:ca)(c:Code)(fs:List (AV × AHeap))(zs:Fa)(st:St):Option (Prop × St):=
 match c with
 | .region id ops draw=>(pz (st.open A) (eu id A.zK) fs).bind fun (s0,p0)=>(py P cf A.aB ops.toList s0 0 ops.toList zs).bind fun (es,r,p)=>
   bif draw && !(Ay ops.toList ops s0 es) then none else (jb r (eu id A.yB)).map fun r2=>(p0∧p,r2.kA A id)
 | _=>none
theorem Az {P:Program}{cf:CallF}{A:ca}{m:Nat}{c:Code}{fs:List (AV × AHeap)}{zs:Fa}{st gV:St}{p:Prop}(h:kI P cf A c fs zs st=some (p,gV))(hp:p):be P cf A m c st=some (.norm,gV):=by
 unfold kI at h
 split at h
 rotate_left
 ·cases h
 rename_i id ops draw
 simp only [QN] at h
 obtain⟨⟨s0,p0⟩,h0,⟨es,r,q⟩,h1,h⟩:=h
 have hd:∃r2,(draw=true→Ay ops.toList ops s0 es=true)∧jb r (eu id A.yB)=some r2∧p=(p0∧q)∧gV=r2.kA A id:=by
  cases hc:(draw && !(Ay ops.toList ops s0 es)) with
  | true=>simp only [hc,cond_true] at h; cases h
  | false=>
   simp only [hc,cond_false,QP,QV] at h
   obtain⟨r2,h2,h3,h4⟩:=h
   refine⟨r2,fun yQ=>?_,h2,h3.symm,h4.symm⟩
   simpa [yQ] using hc
 obtain⟨r2,yQ,h2,rfl,rfl⟩:=hd
 obtain⟨g1,g2⟩:=xu h1 hp.2
 have g0:=sI h0 hp.1
 simp only [be,g0,QM]
 cases draw with
 | false=>simp only [Q6,if_false,g2,QM,h2,QU]
 | true=>simp only [if_true,C6 (yQ rfl) g1,QM,h2,QU]
end Go.R
namespace Go.R
open Go
def cX (P:Program)(cf:CallF)(A:ca)(m:Nat)(c:Code)(s:St)(Q:Ex→St→Prop):Prop:=∃e s',be P cf A m c s=some (e,s')∧Q e s'
def Fb (R:St→Prop)(Q:Ex→St→Prop):Ex→St→Prop
 | .norm,s=>R s
 | .exit i,s=>Q (.exit i) s
 | .ret,s=>Q .ret s
def J4 (id:Nat)(Q:Ex→St→Prop):Ex→St→Prop
 | .norm,s=>Q .norm s
 | .exit i,s=>bif Ry i id then Q .norm s else Q (.exit i) s
 | .ret,s=>Q .ret s
section
variable {P:Program}{cf:CallF}{A:ca}{m:Nat}{s:St}{Q:Ex→St→Prop}
theorem tW {a b:Code}(h:cX P cf A m a s (Fb (fun s'=>cX P cf A m b s' Q) Q)):cX P cf A m (.seq a b) s Q:=by
 obtain⟨e,s',h1,h2⟩:=h
 cases e with
 | norm=>
  obtain⟨e2,s2,h3,h4⟩:=h2
  exact⟨e2,s2,by simp only [be,h1,QM,h3],h4⟩
 | exit i=>exact⟨_,s',by simp only [be,h1,QM],h2⟩
 | ret=>exact⟨_,s',by simp only [be,h1,QM],h2⟩
theorem vW {id:Nat}{a:Code}(h:cX P cf A m a s (J4 id Q)):cX P cf A m (.block id a) s Q:=by
 obtain⟨e,s',h1,h2⟩:=h
 cases e with
 | norm=>exact⟨_,s',by simp only [be,h1,QU],h2⟩
 | exit i=>
  simp only [J4,beq_nat] at h2
  by_cases hi:i=id
  ·simp only [hi,decide_true,cond_true] at h2
   exact⟨_,s',by simp only [be,h1,QU,hi,if_true],h2⟩
  ·simp only [hi,decide_false,cond_false] at h2
   exact⟨_,s',by simp only [be,h1,QU,hi,if_false],h2⟩
 | ret=>exact⟨_,s',by simp only [be,h1,QU],h2⟩
theorem AA {c:Code}{fs:List (AV × AHeap)}{zs:Fa}{gV:St}{p:Prop}(h:kI P cf A c fs zs s=some (p,gV))(hp:p)(hQ:Q .norm gV):cX P cf A m c s Q:=
 ⟨_,_,Az h hp,hQ⟩
theorem y5 (h:Q .norm s):cX P cf A m .skip s Q:=⟨_,_,rfl,h⟩
theorem AB (h:Q .ret s):cX P cf A m .ret s Q:=⟨_,_,rfl,h⟩
theorem y6 {i:Nat}(h:Q (.exit i) s):cX P cf A m (.exit i) s Q:=⟨_,_,rfl,h⟩
theorem mX {k:Operand}{x y:Code}(b:Bool)(hk:bj (s.open A).ρ k = .bool b)(ht:b=true→cX P cf A m x s Q)(hf:b=false→cX P cf A m y s Q):cX P cf A m (.cond k x y) s Q:=by
 cases b with
 | true=>
  obtain⟨e,s',h1,h2⟩:=ht rfl
  exact⟨e,s',by simp only [be,hk,oT,QM,if_true,h1],h2⟩
 | false=>
  obtain⟨e,s',h1,h2⟩:=hf rfl
  exact⟨e,s',by simp only [be,hk,oT,QM,Q6,if_false,h1],h2⟩
def AD {S O:Type}(l:Nat→S→Option O)(Rel:S→St→Prop)(QO:O→Ex→St→Prop)(k:Nat)(out:O):Ex→St→Prop
 | .norm,s=>∃σ,Rel σ s∧l k σ=some out
 | .exit i,s=>QO out (.exit i) s
 | .ret,s=>QO out .ret s
theorem pB {S O:Type}{l:Nat→S→Option O}{Rel:S→St→Prop}{QO:O→Ex→St→Prop}{body:Code}(h0:∀σ,l 0 σ=none)
  (step:∀k σ s out,Rel σ s→l (k+1) σ=some out→cX P cf A m body s (AD l Rel QO k out)):∀(n:Nat) (σ:S) (s:St) (out:O),Rel σ s→l n σ=some out→∃e s',iF (be P cf A m body) n s=some (e,s')∧e≠.norm∧QO out e s'
 | 0,σ,s,out,_,h=>by rw [h0] at h; cases h
 | n+1,σ,s,out,hr,h=>by
  obtain⟨e,s',h1,h2⟩:=step n σ s out hr h
  cases e with
  | norm=>
   obtain⟨σ',h3,h4⟩:=h2
   obtain⟨e',OA,h5,h6⟩:=pB h0 step n σ' s' out h3 h4
   exact⟨e',OA,by simp only [iF,h1,QM,h5],h6⟩
  | exit i=>exact⟨_,s',by simp only [iF,h1,QM],by simp,h2⟩
  | ret=>exact⟨_,s',by simp only [iF,h1,QM],by simp,h2⟩
theorem y7 {S O:Type}(l:Nat→S→Option O)(Rel:S→St→Prop)(QO:O→Ex→St→Prop){body:Code}(h0:∀σ,l 0 σ=none)
  (step:∀k σ s out,Rel σ s→l (k+1) σ=some out→cX P cf A m body s (AD l Rel QO k out)) {σ:S} {out:O} (hr:Rel σ s) (h:l m σ=some out) (hQ:∀e s',e≠.norm→QO out e s'→Q e s'):cX P cf A m (.loop body) s Q:=by
 obtain⟨e,s',h1,h2,h3⟩:=pB h0 step m σ s out hr h
 exact⟨e,s',by simp only [be,h1],hQ e s' h2 h3⟩
theorem sJ {a7:FuncId→ca}{f:FuncId}{fn:Func}{args:List AV}{h:AHeap}{R:AV→AHeap→Prop}(hf:P.funcs[f]? = some fn)(hb:fn.body=some (codeOf fn))(hn:Nat.ble args.length fn.ntmps=true)
  (he:cX P cf (a7 f) m (codeOf fn) ⟨jF (a7 f).eL args,(a7 f).aB.map fun _=>none,h⟩ (fun e s=>(e = .ret∨e = .norm)∧∃r,aP P (s.open (a7 f)) fn.results.toList=some r∧R r s.h)) :
  ∃r h',bf P a7 cf m f args h=some (r,h')∧R r h':=by
 obtain⟨e,s,h1,h2,r,h3,h4⟩:=he
 refine⟨r,s.h,?_,h4⟩
 unfold bf
 rw [hf,QM,hb,QM,if_pos (Nat.le_of_ble_eq_true hn),h1,QM]
 rcases h2 with rfl | rfl<;>simp only [h3,QU]
end
end Go.R
namespace Go.R
open Go
structure bQ (α:Type) where
 n:Nat
 f:α→List AV
 len:∀a,(f a).length=n
 pos:n≠0
 small:n≤1024:=by decide
 flat:Bool:=true
 pure:∀a,flat=true→bS (f a)=true∧cu (f a)=f a
 canon:∀a,(f a).map kQ=f a
section
variable {α:Type}(E:bQ α)
def bQ.l (l:List α):List AV:=l.flatMap E.f
def bQ.fz (l:List α):AV:=.fz (E.l l) l.length false
variable {E}
theorem bQ.dF {a:α}{l:List α}:E.l (a::l)=E.f a++E.l l:=rfl
theorem bQ.D9:E.l []=[]:=rfl
theorem bQ.jQ {a b:List α}:E.l (a++b)=E.l a++E.l b:=by simp [bQ.l]
theorem bQ.cd:∀{l:List α},(E.l l).length=l.length*E.n
 | []=>by simp [bQ.l]
 | a::l=>by rw [bQ.dF,Q0,E.len,bQ.cd,RA,Sd,Nat.one_mul,Nat.add_comm]
theorem bQ.lV {l:List α}(h:l.length≤1099511627776):(E.l l).length≤1125899906842624:=by
 rw [bQ.cd]
 exact RG (Nat.mul_le_mul h E.small) (by decide)
theorem bQ.vX:∀{l:List α} {i:Nat},(E.l l).drop (i*E.n)=E.l (l.drop i)
 | l,0=>by simp
 | [],i+1=>by simp [bQ.l]
 | a::l,i+1=>by
  rw [List.drop_succ_cons,←bQ.vX,bQ.dF,Sd,Nat.one_mul,List.drop_append,List.drop_of_length_le (by rw [E.len]; omega),Rv,E.len,Nat.add_sub_cancel]
theorem bQ.Ea {l:List α}{i:Nat}{a:α}(h:l[i]? = some a){off:Nat}(ho:off<E.n):(E.l l)[i*E.n+off]? = (E.f a)[off]?:=by
 rw [←List.getElem?_drop,bQ.vX,Q9 (QX.1 h).1,(QX.1 h).2,bQ.dF,Rs (by rw [E.len]; exact ho)]
theorem bQ.AE {l:List α}{i:Nat}{a:α}(h:l[i]? = some a):((E.l l).drop (i*E.n)).take E.n=E.f a:=by
 rw [bQ.vX,Q9 (QX.1 h).1,(QX.1 h).2,bQ.dF,Rn (by rw [E.len]; exact QS _)]
 rw [Rw (by rw [E.len]; exact QS _)]
theorem bQ.vY {l:List α}{i:Nat}{a:α}(h:l[i]? = some a):i*E.n+E.n≤(E.l l).length:=by
 rw [bQ.cd]
 have:=(QX.1 h).1
 calc i*E.n+E.n=(i+1)*E.n:=by rw [Sd,Nat.one_mul]
  _≤_:=RY _ this
theorem lW:∀{a b:List AV},bS (a++b)=(bS a&&bS b)
 | [],b=>by simp [bS]
 | x::a,b=>by simp [bS,lW,Bool.and_assoc]
theorem lX:∀{a b:List AV},cu (a++b)=cu a++cu b
 | [],b=>rfl
 | x::a,b=>by simp [cu,lX]
theorem bQ.k7 (hp:E.flat=true):∀{l:List α},bS (E.l l)=true∧cu (E.l l)=E.l l
 | []=>⟨rfl,rfl⟩
 | a::l=>by
  obtain⟨h1,h2⟩:=E.pure a hp
  obtain⟨h3,h4⟩:=bQ.k7 hp (l:=l)
  rw [bQ.dF,lW,lX,h1,h2,h3,h4]
  exact⟨rfl,rfl⟩
theorem bQ.sK:∀{l:List α},(E.l l).map kQ=E.l l
 | []=>rfl
 | a::l=>by rw [bQ.dF,Ri,E.canon,bQ.sK]
theorem bQ.fJ {l:List α}(hp:E.flat=true:=by rfl):(E.fz l).cE=true∧(E.fz l).hX=E.fz l:=by
 obtain⟨h1,h2⟩:=bQ.k7 (E:=E) hp (l:=l)
 exact⟨h1,by show AV.fz (cu (E.l l)) l.length false=_; rw [h2]; rfl⟩
theorem iA:∀(cs vs pre Fc:List AV),cs.length=vs.length→cm (pre++cs++Fc) pre.length vs=pre++vs++Fc
 | [],[],pre,Fc,_=>by simp [cm]
 | c::cs,v::vs,pre,Fc,h=>by
  have:=iA cs vs (pre++[v]) Fc (by simpa using h)
  simp only [Q0,RA,RN,Re] at this
  rw [cm]
  have h2:(pre++c::cs++Fc).set pre.length v=pre++[v]++cs++Fc:=by
   rw [Rm,Sv _ _ (QS _),Sf]
   simp
  rw [h2,this]
  simp
 | [],_::_,_,_,h=>by simp at h
 | _::_,[],_,_,h=>by simp at h
theorem bQ.AF {l:List α}{i:Nat}{a b:α}(h:l[i]? = some a)(rest:List AV):cm (E.l l++rest) (i*E.n) (E.f b)=E.l (l.set i b)++rest:=by
 have hi:=(QX.1 h).1
 have hl:l=l.take i++a::l.drop (i+1):=by
  conv=>lhs; rw [←List.take_append_drop i l,Q9 hi]
  rw [(QX.1 h).2]
 have hs:l.set i b=l.take i++b::l.drop (i+1):=List.set_eq_take_append_cons_drop .. |>.trans (by rw [if_pos hi])
 have e1:E.l l=E.l (l.take i)++E.f a++E.l (l.drop (i+1)):=by
  conv=>lhs; rw [hl]
  rw [bQ.jQ,bQ.dF,Rm]
 have e2:(E.l (l.take i)).length=i*E.n:=by rw [bQ.cd,Sx,SB (Nat.le_of_lt hi)]
 rw [hs,bQ.jQ,bQ.dF,e1,←e2]
 have:=iA (E.f a) (E.f b) (E.l (l.take i)) (E.l (l.drop (i+1))++rest) (by rw [E.len,E.len])
 simp only [Rm] at this ⊢
 exact this
theorem bQ.Fe {l:List α}{i:Nat}{a b:α}{off:Nat}{v:AV}(h:l[i]? = some a)(ho:off<E.n)(hb:(E.f a).set off v=E.f b)(rest:List AV):(E.l l++rest).set (i*E.n+off) v=E.l (l.set i b)++rest:=by
 have hi:=(QX.1 h).1
 have hl:l=l.take i++a::l.drop (i+1):=by
  conv=>lhs; rw [←List.take_append_drop i l,Q9 hi]
  rw [(QX.1 h).2]
 have hs:l.set i b=l.take i++b::l.drop (i+1):=List.set_eq_take_append_cons_drop .. |>.trans (by rw [if_pos hi])
 have e1:E.l l=E.l (l.take i)++(E.f a++E.l (l.drop (i+1))):=by
  conv=>lhs; rw [hl]
  rw [bQ.jQ,bQ.dF]
 have e2:(E.l (l.take i)).length=i*E.n:=by rw [bQ.cd,Sx,SB (Nat.le_of_lt hi)]
 rw [hs,bQ.jQ,bQ.dF,e1,←hb,←e2]
 simp only [Rm]
 rw [Sv _ _ (by omega),List.set_append_left _ _ (by rw [E.len]; omega)]
 congr 2
 simp
end
def ix {α:Type}(l:List α)(i:Int):Option α:=if 0≤i then l[i.toNat]? else none
theorem eN {α:Type}{l:List α}{i:Int}{a:α}(h:ix l i=some a):0≤i∧i<l.length∧l[i.toNat]? = some a:=by
 unfold ix at h
 split at h
 ·rename_i h0
  have:=(QX.1 h).1
  exact⟨h0,by omega,h⟩
 ·cases h
def upd {α:Type}(l:List α)(i:Int)(a:α):Option (List α):=if 0≤i∧i<l.length then some (l.set i.toNat a) else none
def J5 {α:Type}(l:List α)(lo hi:Int):Option (List α):=if 0≤lo∧lo≤hi∧hi≤l.length then some ((l.drop lo.toNat).take (hi.toNat - lo.toNat)) else none
def bt (s:ByteArray)(i:Int):Option Int:=if 0≤i then (s.data.toList[i.toNat]?).map fun b=>(b.toNat:Int) else none
inductive Ct where
 | sl (n sz:Nat) (cs:List AV)
 | ob (cs:List AV)
 | mp (es:List (AV × AV))
 | row (e:TypeId) (cs:List AV)
def y8 (h:AHeap)(i:Nat):Ct→Prop
 | .sl n sz cs=>(cs.length=n*sz∧cs.length≤1125899906842624)∧((i=0∧n=0)∨(i≠0∧∃rest,h.get i=some (.cells (cs++rest))))
 | .ob cs=>i≠0∧h.get i=some (.cells cs)
 | .mp es=>i≠0∧h.get i=some (.map es)
 | .row e cs=>i≠0∧h.get i=some (.row e cs)
abbrev Mem:=List (Nat × Ct)
structure Has (h:AHeap)(K:Mem):Prop where
 at_:∀(j i:Nat) (c:Ct),K[j]? = some (i,c)→y8 h i c∧i<h.next
 nd:∀(j j' i:Nat) (c c':Ct),K[j]? = some (i,c)→K[j']? = some (i,c')→i≠0→j=j'
 pos:0<h.next
theorem pC {h h':AHeap}{i:Nat}{c:Ct}(hg:i≠0→h'.get i=h.get i)(h1:y8 h i c):y8 h' i c:=by
 cases c with
 | sl n sz cs=>
  obtain⟨h2,h3⟩:=h1
  refine⟨h2,h3.imp id fun ⟨h4,r,h5⟩=>⟨h4,r,(hg h4).trans h5⟩⟩
 | ob cs=>exact⟨h1.1,(hg h1.1).trans h1.2⟩
 | mp es=>exact⟨h1.1,(hg h1.1).trans h1.2⟩
 | row e cs=>exact⟨h1.1,(hg h1.1).trans h1.2⟩
theorem cF (h:AHeap)(id k:Nat)(o:AObj):(h.put id o).get k=if k=id then some o else h.get k:=by
 simp only [AHeap.put,beq_nat]
 by_cases hk:k=id<;>simp [hk]
theorem lY (h:AHeap)(id k:Nat):(h.kill id).get k=if k=id then none else h.get k:=by
 simp only [AHeap.kill,beq_nat]
 by_cases hk:k=id<;>simp [hk]
theorem Has.y9 {h h':AHeap}{K:Mem}(o:Has h K){j i:Nat}{c:Ct}(hj:K[j]? = some (i,c)){i':Nat}{c':Ct}
  (hg:∀k,k≠i→k<h.next→h'.get k=h.get k) (hn:h.next≤h'.next) (hi:i'=i∨i'=0∨h.next≤i') (hlt:i'<h'.next) (hc:y8 h' i' c'):Has h' (K.set j (i',c')):=by
 refine⟨fun q k d hq=>?_,fun q q' k d d' hq qH hk=>?_,Rh o.pos hn⟩
 ·rw [Sj] at hq
  by_cases h1:j=q
  ·subst h1
   rw [if_pos rfl] at hq
   split at hq
   ·cases hq; exact⟨hc,hlt⟩
   ·cases hq
  ·rw [if_neg h1] at hq
   obtain⟨g1,g2⟩:=o.at_ q k d hq
   refine⟨pC (fun hk=>hg k (fun he=>?_) g2) g1,Rh g2 hn⟩
   subst he
   exact h1 (o.nd j q k c d hj hq hk)
 ·rw [Sj] at hq qH
  have old:∀(q:Nat) (d:Ct),j≠q→K[q]? = some (k,d)→k≠i':=by
   intro x y hne hx he
   rcases hi with h1 | h1 | h1
   ·exact hne (o.nd j x k c y (by rw [he,h1]; exact hj) hx hk)
   ·exact hk (he.trans h1)
   ·have:=(o.at_ x k y hx).2; omega
  by_cases h1:j=q<;>by_cases h2:j=q'
  ·rw [←h1,h2]
  ·subst h1
   rw [if_pos rfl] at hq
   rw [if_neg h2] at qH
   split at hq
   ·cases hq; exact absurd rfl (old q' d' h2 qH)
   ·cases hq
  ·subst h2
   rw [if_pos rfl] at qH
   rw [if_neg h1] at hq
   split at qH
   ·cases qH; exact absurd rfl (old q d h1 hq)
   ·cases qH
  ·rw [if_neg h1] at hq; rw [if_neg h2] at qH
   exact o.nd q q' k d d' hq qH hk
theorem Has.new {h h':AHeap}{K:Mem}(o:Has h K){i:Nat}{c:Ct}(hg:∀k,k<h.next→h'.get k=h.get k)(hn:h.next≤h'.next)(hi:i=0∨h.next≤i)(hlt:i<h'.next)(hc:y8 h' i c):Has h' ((i,c)::K):=by
 refine⟨fun q k d hq=>?_,fun q q' k d d' hq qH hk=>?_,Rh o.pos hn⟩
 ·cases q with
  | zero=>simp only [RC,QQ,QV] at hq; obtain⟨rfl,rfl⟩:=hq; exact⟨hc,hlt⟩
  | succ q=>
   simp only [List.getElem?_cons_succ] at hq
   obtain⟨g1,g2⟩:=o.at_ q k d hq
   exact⟨pC (fun _=>hg k g2) g1,Rh g2 hn⟩
 ·have old:∀(q:Nat) (d:Ct),K[q]? = some (k,d)→k≠i:=by
   intro x y hx he
   rcases hi with h1 | h1
   ·exact hk (he.trans h1)
   ·have:=(o.at_ x k y hx).2; omega
  cases q with
  | zero=>
   simp only [RC,QQ,QV] at hq
   cases q' with
   | zero=>rfl
   | succ q'=>exact absurd hq.1.symm (old q' d' (by simpa using qH))
  | succ q=>
   cases q' with
   | zero=>
    simp only [RC,QQ,QV] at qH
    exact absurd qH.1.symm (old q d (by simpa using hq))
   | succ q'=>rw [o.nd q q' k d d' (by simpa using hq) (by simpa using qH) hk]
theorem Has.nil {h:AHeap}{K:Mem}(o:Has h K)(sz:Nat):Has h ((0,.sl 0 sz [])::K):=
 o.new (fun _ _=>rfl) (QS _) (.inl rfl) o.pos ⟨⟨by simp,by simp⟩,.inl ⟨rfl,rfl⟩⟩
theorem Has.sub {h:AHeap}{K K':Mem}(o:Has h K)(f:Nat→Nat)(hf:∀j p,K'[j]? = some p→K[f j]? = some p)(hi:∀j j',f j=f j'→j=j'):Has h K':=
 ⟨fun j i c hj=>o.at_ (f j) i c (hf j _ hj),fun j j' i c c' hj EM hk=>hi _ _ (o.nd (f j) (f j') i c c' (hf j _ hj) (hf j' _ EM) hk),o.pos⟩
theorem Has.del {h:AHeap}{K:Mem}(o:Has h K)(q:Nat):Has h (K.eraseIdx q):=
 o.sub (fun j=>if j<q then j else j+1) (fun j p hj=>by
  rw [List.getElem?_eraseIdx] at hj
  split at hj
  ·rename_i h1; simpa [h1] using hj
  ·rename_i h1; simpa [h1] using hj) (fun j j' he=>by
   split at he<;>split at he<;>omega)
theorem Has.front {h:AHeap}{K:Mem}(o:Has h K)(q:Nat){p:Nat × Ct}(hq:K[q]? = some p):Has h (p::K.eraseIdx q):=
 o.sub (fun j=>match j with | 0=>q | j+1=>if j<q then j else j+1) (fun j p' hj=>by
  cases j with
  | zero=>simp only [RC,QQ] at hj; subst hj; exact hq
  | succ j=>
   simp only [List.getElem?_cons_succ,List.getElem?_eraseIdx] at hj
   dsimp only
   split at hj
   ·rename_i h1; simpa [h1] using hj
   ·rename_i h1; simpa [h1] using hj) (fun j j' he=>by
   cases j with
   | zero=>cases j' with
    | zero=>rfl
    | succ j'=>dsimp only at he; split at he<;>omega
   | succ j=>cases j' with
    | zero=>dsimp only at he; split at he<;>omega
    | succ j'=>dsimp only at he; split at he<;>split at he<;>omega)
end Go.R
namespace Go.R
open Go
def xw (P:Program)(t:TypeId)(sz b:Nat):Bool:=
 match P.underlying t with
 | some (.slice e)=>match P.info? e with
  | some i=>Ry i.size sz&&Ry i.bytes b&&EB i
  | none=>false
 | _=>false
section
variable {P:Program}{t:TypeId}{sz b:Nat}
theorem jR (h:xw P t sz b=true):∃e i,P.underlying t=some (.slice e)∧P.info? e=some i∧i.size=sz∧i.bytes=b∧EB i=true∧dv P e=some sz:=by
 unfold xw at h
 split at h
 ·rename_i e he
  split at h
  ·rename_i i hi
   simp only [QR] at h
   have h1:=R7 h.1.1
   exact⟨e,i,he,hi,h1,R7 h.1.2,h.2,by simp [dv,hi,h1]⟩
  ·cases h
 ·cases h
variable {α:Type}{E:bQ α}{h:AHeap}{K:Mem}{l:List α}{a v:α}{i q:Nat}{j:Int}{k:IntKind}{c:AV}{off:Nat}{tf:TypeId}
theorem cH (T:xw P t E.n b=true)(h:ix l j=some a):cZ P t (E.fz l) (.int k j)=some (.fp (E.l l) (j.toNat*E.n)):=by
 obtain⟨e,inf,h1,h2,h3,h4,h5,h6⟩:=jR T
 obtain⟨g1,g2,g3⟩:=eN h
 have hle:=bQ.vY (E:=E) g3
 have hp:=E.pos
 simp only [cZ,h1,QM,h6,bQ.fz]
 rw [if_pos ⟨g1,g2,by omega⟩]
theorem HE (h:l[j.toNat]? = some a):(E.l l).isEmpty=false:=by
 have hle:=bQ.vY (E:=E) h
 have hp:=E.pos
 cases hl:E.l l with
 | nil=>rw [hl] at hle; simp at hle; omega
 | cons _ _=>rfl
theorem ji (hp:AHeap)(ha:dD P tf=some false)(h:ix l j=some a)(hc:(E.f a)[off]? = some c):bg P hp tf (.fp (E.l l) (j.toNat*E.n+off))=some c:=by
 obtain⟨g1,g2,g3⟩:=eN h
 have ho:off<E.n:=by rw [←E.len a]; exact (QX.1 hc).1
 simp only [bg,gM,HE g3,Q6,if_false,fY,ha,QM,bQ.Ea g3 ho,hc]
theorem fK (hp:AHeap)(ha:dD P tf=some false)(h:ix l j=some a)(hc:(E.f a)[0]? = some c):bg P hp tf (.fp (E.l l) (j.toNat*E.n))=some c:=ji (off:=0) hp ha h hc
theorem gf (hp:AHeap)(ha:dD P tf=some true)(hs:dv P tf=some E.n)(h:ix l j=some a):bg P hp tf (.fp (E.l l) (j.toNat*E.n))=some (.agg (E.f a)):=by
 obtain⟨g1,g2,g3⟩:=eN h
 simp only [bg,gM,HE g3,Q6,if_false,fY,ha,QM,if_true,hs]
 rw [if_pos (bQ.vY g3),bQ.AE g3]
theorem oH (o:Has h K)(hq:K[q]? = some (i,.sl l.length E.n (E.l l)))(hj:l[j.toNat]? = some a):i≠0∧∃rest,h.get i=some (.cells (E.l l++rest)):=by
 obtain⟨⟨_,h1⟩,_⟩:=o.at_ _ _ _ hq
 rcases h1 with⟨_,h1⟩| h1
 ·have:=(QX.1 hj).1; omega
 ·exact h1
theorem Ff (T:xw P t sz b=true){n:Nat}(h0:0≤j)(h1:j<n):cZ P t (.rs i 0 n sz) (.int k j)=some (.ptr i (0+j.toNat*sz)):=by
 obtain⟨e,inf,g1,g2,g3,g4,g5,g6⟩:=jR T
 simp only [cZ,g1,QM,g6]
 rw [if_pos ⟨trivial,h0,h1⟩]
theorem rD (o:Has h K)(hq:K[q]? = some (i,.sl l.length E.n (E.l l)))(ha:dD P tf=some false)(hj:ix l j=some a)(hc:(E.f a)[off]? = some c):bg P h tf (.ptr i (0+j.toNat*E.n+off))=some c:=by
 obtain⟨g1,g2,g3⟩:=eN hj
 obtain⟨h1,rest,h2⟩:=oH o hq g3
 have ho:off<E.n:=by rw [←E.len a]; exact (QX.1 hc).1
 have hle:=bQ.vY (E:=E) g3
 simp only [bg,gM,h2,QM,fY,ha,Q6,if_false,Re]
 rw [Rs (by omega),bQ.Ea g3 ho,hc]
theorem za (o:Has h K)(hq:K[q]? = some (i,.sl l.length E.n (E.l l)))(ha:dD P tf=some false)(hj:ix l j=some a)(hc:(E.f a)[0]? = some c):bg P h tf (.ptr i (0+j.toNat*E.n))=some c:=rD (off:=0) o hq ha hj hc
theorem zb (o:Has h K)(hq:K[q]? = some (i,.sl l.length E.n (E.l l)))(ha:dD P tf=some true)(hs:dv P tf=some E.n)(hj:ix l j=some a):bg P h tf (.ptr i (0+j.toNat*E.n))=some (.agg (E.f a)):=by
 obtain⟨g1,g2,g3⟩:=eN hj
 obtain⟨h1,rest,h2⟩:=oH o hq g3
 have hle:=bQ.vY (E:=E) g3
 simp only [bg,gM,h2,QM,fY,ha,if_true,hs,Re]
 rw [if_pos (by rw [Q0]; omega),List.drop_append_of_le_length (by omega),Rn (by rw [List.length_drop]; omega),bQ.AE g3]
theorem kn (o:Has h K){c':Ct}{ct:Ct}(hq:K[q]? = some (i,ct)){ob:AObj}(hc:y8 (h.put i ob) i c'):Has (h.put i ob) (K.set q (i,c')):=
 o.y9 hq (fun k hk _=>by rw [cF,if_neg hk]) (RX _) (.inl rfl) (Si (o.at_ _ _ _ hq).2) hc
theorem AG (o:Has h K)(hq:K[q]? = some (i,.sl l.length E.n (E.l l)))(hs:dv P tf=some E.n)(hj:ix l j=some a){x:AV}(hv:x.cells=E.f v)(lE:(E.f v).all AV.bM=true) :
  ∃h',gd P h tf (.ptr i (0+j.toNat*E.n)) x=some h'∧Has h' (K.set q (i,.sl l.length E.n (E.l (l.set j.toNat v)))):=by
 obtain⟨g1,g2,g3⟩:=eN hj
 obtain⟨h1,rest,h2⟩:=oH o hq g3
 have hle:=bQ.vY (E:=E) g3
 refine⟨_,?_,kn o hq (ob:=.cells (E.l (l.set j.toNat v)++rest)) ⟨⟨by rw [bQ.cd,Rb],by rw [bQ.cd,Rb,←bQ.cd]; exact (o.at_ _ _ _ hq).1.1.2⟩,.inr ⟨h1,rest,by rw [cF,if_pos rfl]⟩⟩⟩
 simp only [gd,h2,QM,eJ,hs,hv,Re]
 rw [if_pos ⟨E.len v,lE,by rw [Q0]; omega⟩,QU,bQ.AF g3]
theorem zc (o:Has h K)(hq:K[q]? = some (i,.sl l.length E.n (E.l l)))(hs:dv P tf=some 1)(hj:ix l j=some a){x:AV}(hx:x.cells=[x])(lE:x.bM=true)(ho:off<E.n)(hb:(E.f a).set off x=E.f v) :
  ∃h',gd P h tf (.ptr i (0+j.toNat*E.n+off)) x=some h'∧Has h' (K.set q (i,.sl l.length E.n (E.l (l.set j.toNat v)))):=by
 obtain⟨g1,g2,g3⟩:=eN hj
 obtain⟨h1,rest,h2⟩:=oH o hq g3
 have hle:=bQ.vY (E:=E) g3
 refine⟨_,?_,kn o hq (ob:=.cells (E.l (l.set j.toNat v)++rest)) ⟨⟨by rw [bQ.cd,Rb],by rw [bQ.cd,Rb,←bQ.cd]; exact (o.at_ _ _ _ hq).1.1.2⟩,.inr ⟨h1,rest,by rw [cF,if_pos rfl]⟩⟩⟩
 simp only [gd,h2,QM,eJ,hs,hx,Re]
 rw [if_pos ⟨rfl,by simp [lE],by rw [Q0]; omega⟩,QU]
 simp only [cm]
 rw [bQ.Fe g3 ho hb]
def app (b:Nat){α:Type}(l l2:List α):Option (List α):=if (l.length+l2.length)*(b+1)≤1099511627776 then some (l++l2) else none
theorem pD {l l2 r:List α}(h:app b l l2=some r):(l.length+l2.length)*b≤dL∧l.length+l2.length≤dL∧r=l++l2:=by
 unfold app at h
 split at h
 ·rename_i h0
  cases h
  rw [Nat.mul_add,Nat.mul_one] at h0
  refine⟨by simp only [dL]; omega,by simp only [dL]; omega,rfl⟩
 ·cases h
theorem AH {t2:TypeId}{l2 r:List α}{x:AV}(T:xw P t E.n b=true)(o:Has h K)(hq:K[q]? = some (i,.sl l.length E.n (E.l l)))(hx:dr h E.n x=some (E.l l2,l2.length))(eh:gL P t2 x=true)(hr:app b l l2=some r) :
  ∃i' h',de P h t t2 (.rs i 0 l.length E.n) x=some (.rs i' 0 r.length E.n,h')∧Has h' (K.set q (i',.sl r.length E.n (E.l r))):=by
 obtain⟨e,inf,g1,g2,g3,g4,g5,g6⟩:=jR T
 obtain⟨r1,r2,rfl⟩:=pD hr
 obtain⟨⟨⟨hlen,xg⟩,kB⟩,hlt⟩:=o.at_ _ _ _ hq
 have fH:=E.pos
 have hb:inf.size=E.n:=g3
 have gT:¬(inf.size=0∨gL P t2 x=false∨EB inf=false):=by rw [eh,g5,hb]; simp [fH]
 subst g4
 by_cases h0:l2=[]
 ·subst h0
  refine⟨i,h,?_,?_⟩
  ·simp only [de,g1,QM,g2,hb,hx,eh,g5]
   rw [if_neg (by simp [fH])]
   simp only [RN,Nat.zero_mul,Nat.add_zero,SD]
   by_cases hi:i=0
   ·subst hi
    rcases kB with⟨_,hl0⟩| h1
    ·simp [hl0,hb,dL]
    ·exact absurd rfl h1.1
   ·rcases kB with h1 | ⟨_,rest,h1⟩
    ·exact absurd h1.1 hi
    ·rw [if_neg hi,h1]
     simp only [QM]
     rw [if_neg (by rw [Q0,hlen]; simp only [RN,Nat.add_zero] at r1 r2; simp; omega)]
     simp
  ·rw [SD]
   have:K.set q (i,.sl l.length E.n (E.l l))=K:=by
    apply RJ
    intro j
    rw [Sj]
    by_cases hj:q=j
    ·subst hj; rw [if_pos rfl,if_pos (QX.1 hq).1,hq]
    ·rw [if_neg hj]
   rw [this]; exact o
 ·have CK:l2.length≠0:=by simpa using h0
  by_cases hi:i=0
  ·subst hi
   rcases kB with⟨_,hl0⟩| h1
   rotate_left
   ·exact absurd rfl h1.1
   have hnil:l=[]:=by simpa using hl0
   subst hnil
   refine⟨h.next,h.alloc (.cells (E.l l2)),?_,?_⟩
   ·simp only [de,g1,QM,g2,hb,hx,eh,g5]
    rw [if_neg (by simp [fH])]
    simp only [if_true]
    simp only [RN,Re] at r1 r2
    rw [if_neg (by simp; omega),if_neg CK]
    simp
   ·refine o.y9 hq (fun k _ hk=>by rw [AHeap.alloc,cF,if_neg (by omega)]) (RX _) (.inr (.inr (QS _))) (RB _) ⟨⟨bQ.cd,bQ.lV (by simp only [dL] at r2; simp at r2 ⊢; omega)⟩,.inr ⟨by have:=o.pos; omega,[],?_⟩⟩
    rw [AHeap.alloc,cF,if_pos rfl]; simp
  ·rcases kB with h1 | ⟨_,rest,h1⟩
   ·exact absurd h1.1 hi
   refine⟨h.next,(h.kill i).put h.next (.cells (E.l (l++l2))),?_,?_⟩
   ·simp only [de,g1,QM,g2,hb,hx,eh,g5]
    rw [if_neg (by simp [fH]),if_neg hi,h1]
    simp only [QM]
    rw [if_neg (by rw [Q0,hlen]; simp; omega),if_neg CK]
    rw [Rr,Rn (by rw [hlen]; exact QS _),Rw (by rw [hlen]; exact QS _),bQ.jQ,Q0]
   ·refine o.y9 hq (fun k hk mR=>by rw [cF,if_neg (by omega),lY,if_neg hk]) (by show h.next≤h.next+1+1; omega) (.inr (.inr (QS _))) (by show h.next<h.next+1+1; omega) ⟨⟨bQ.cd,bQ.lV (by simp only [dL] at r2; simp at r2 ⊢; omega)⟩,.inr ⟨by have:=o.pos; omega,[],?_⟩⟩
    rw [cF,if_pos rfl]; simp
theorem AI {t2:TypeId}{l2 r:List α}{x s:AV}(hs:s = .nils∨s = .fz [] 0 true)(T:xw P t E.n b=true)(o:Has h K)(hx:dr h E.n x=some (E.l l2,l2.length))(eh:gL P t2 x=true)(hr:app b ([]:List α) l2=some r) :
  ∃i' h',de P h t t2 s x=some (.rs i' 0 r.length E.n,h')∧Has h' ((i',.sl r.length E.n (E.l r))::K):=by
 obtain⟨e,inf,g1,g2,g3,g4,g5,g6⟩:=jR T
 obtain⟨r1,r2,vS⟩:=pD hr
 rw [Rv] at vS
 subst r
 have fH:=E.pos
 have hb:inf.size=E.n:=g3
 subst g4
 simp only [RN,Re] at r1 r2
 by_cases h0:l2=[]
 ·subst h0
  refine⟨0,h,?_,by simpa [bQ.l] using o.nil E.n⟩
  rcases hs with rfl | rfl
  ·simp only [de,g1,QM,g2,hb,hx,eh,g5]
   rw [if_neg (by simp [fH])]
   simp [dL]
  ·simp only [de,g1,QM,g2,hb,hx,eh,g5]
   rw [if_neg (by simp [fH])]
   simp [dL]
 ·have CK:l2.length≠0:=by simpa using h0
  refine⟨h.next,h.alloc (.cells (E.l l2)),?_,o.new (fun k hk=>by rw [AHeap.alloc,cF,if_neg (by omega)]) (RX _) (.inr (QS _)) (RB _) ⟨⟨bQ.cd,bQ.lV (by simp only [dL] at r2; omega)⟩,.inr ⟨by have:=o.pos; omega,[],by rw [AHeap.alloc,cF,if_pos rfl]; simp⟩⟩⟩
  rcases hs with rfl | rfl
  ·simp only [de,g1,QM,g2,hb,hx,eh,g5]
   rw [if_neg (by simp [fH]),if_neg (by omega),if_neg CK]
  ·simp only [de,g1,QM,g2,hb,hx,eh,g5]
   rw [if_neg (by simp [fH]),if_neg (by simp; omega),if_neg CK]
   simp
theorem AJ {l2:List α}(h:AHeap):dr h E.n (E.fz l2)=some (E.l l2,l2.length):=by
 simp only [dr,dw,bQ.fz]
 rw [if_pos bQ.cd,QU,bQ.sK]
theorem tX (o:Has h K)(hq:K[q]? = some (i,.sl l.length E.n (E.l l))):dr h E.n (.rs i 0 l.length E.n)=some (E.l l,l.length):=by
 obtain⟨⟨⟨hlen,xg⟩,kB⟩,hlt⟩:=o.at_ _ _ _ hq
 simp only [dr,dw]
 rcases kB with⟨h0,h1⟩| ⟨h0,rest,h1⟩
 ·have:l=[]:=by simpa using h1
  subst this
  simp [h0,bQ.l]
 ·rw [if_neg h0,h1]
  simp only [QM]
  rw [if_pos ⟨trivial,by rw [Q0,hlen]; omega⟩,QU,Rr,Rn (by rw [hlen]; exact QS _),Rw (by rw [hlen]; exact QS _),bQ.sK]
def qO (b:Nat){α:Type}(n:Int)(z:α):Option (List α):=if 0≤n∧n.toNat*(b+1)≤1099511627776 then some (Rc n.toNat z) else none
theorem vZ {n:Int}{z:α}{zv:AV}{r:List α}(T:xw P t E.n b=true)(o:Has h K)(e0:TypeId)(OB:P.underlying t=some (.slice e0))(hz0:gK P e0=some zv)(OC:zv.cells=E.f z)(lE:(E.f z).all AV.bM=true)(hr:qO b n z=some r) :
  ∃i h',ep P h t (.int .i64 n) (.int .i64 n)=some (.rs i 0 r.length E.n,h')∧Has h' ((i,.sl r.length E.n (E.l r))::K):=by
 have hz:∀e,P.underlying t=some (.slice e)→gK P e=some zv:=fun e he=>by
  rw [OB] at he; cases he; exact hz0
 unfold qO at hr
 split at hr
 rotate_left
 ·cases hr
 rename_i gT
 obtain⟨h0,h1⟩:=gT
 cases hr
 obtain⟨e,inf,g1,g2,g3,g4,g5,g6⟩:=jR T
 have fH:=E.pos
 have J6:∀k,jt (E.f z) k=E.l (Rc k z):=by
  intro k
  induction k with
  | zero=>rfl
  | succ k ih=>rw [jt,ih,List.replicate_succ,bQ.dF]
 refine⟨h.next,h.alloc (.cells (E.l (Rc n.toNat z))),?_,o.new (fun k hk=>by rw [AHeap.alloc,cF,if_neg (by omega)]) (RX _) (.inr (QS _)) (RB _) ⟨⟨bQ.cd,bQ.lV (by rw [List.length_replicate]; rw [Nat.mul_add,Nat.mul_one] at h1; omega)⟩,.inr ⟨by have:=o.pos; omega,[],by rw [AHeap.alloc,cF,if_pos rfl]; simp⟩⟩⟩
 rw [Nat.mul_add,Nat.mul_one] at h1
 simp only [ep,g1,QM,g2,hz e g1,OC,E.len,J6,List.length_replicate,g3,g4]
 have hb:n*(b:Int)≤dL:=by
  have:n*(b:Int)=((n.toNat*b:Nat):Int):=by
   rw [Int.natCast_mul,Int.toNat_of_nonneg h0]
  simp only [dL]
  rw [this]
  omega
 rw [if_pos ⟨h0,Int.le_refl _,hb,trivial,fH,by omega,lE⟩]
theorem AK (o:Has h K)(hq:K[q]? = some (i,.sl l.length E.n (E.l l)))(hp:E.flat=true:=by rfl):∃h',gO 0 h (.rs i 0 l.length E.n)=some (E.fz l,h')∧Has h' (K.eraseIdx q):=by
 obtain⟨⟨⟨hlen,xg⟩,kB⟩,hlt⟩:=o.at_ _ _ _ hq
 rcases kB with⟨h0,h1⟩| ⟨h0,rest,h1⟩
 ·have:l=[]:=by simpa using h1
  subst this
  exact⟨h,by simp [gO,h0,bQ.fz,bQ.l],o.del q⟩
 ·refine⟨h.kill i,?_,?_⟩
  ·simp only [gO]
   rw [if_neg h0,h1]
   simp only [QM]
   have e1:((E.l l++rest).drop 0).take (l.length*E.n)=E.l l:=by
    rw [Rr,Rn (by rw [hlen]; exact QS _),Rw (by rw [hlen]; exact QS _)]
   rw [e1,if_pos (by rw [Q0,hlen]; omega),rv (bQ.k7 hp).1]
   rfl
  ·have o2:=o.y9 (i':=0) (c':=.sl 0 1 []) (h':=h.kill i) hq (fun k hk _=>by rw [lY,if_neg hk]) (RX _) (.inr (.inl rfl)) (Nat.succ_pos _) ⟨⟨by simp,by simp⟩,.inl ⟨rfl,rfl⟩⟩
   have:=o2.del q
   rwa [List.eraseIdx_set_eq] at this
variable {n:Nat}
theorem cg (o:Has h K)(hq:K[q]? = some (i,.sl n E.n (E.l l))):n=l.length:=by
 have h1:=(o.at_ _ _ _ hq).1.1.1
 rw [bQ.cd] at h1
 exact (Nat.eq_of_mul_eq_mul_right (Nat.pos_of_ne_zero E.pos) h1).symm
theorem aY (T:xw P t E.n b=true)(o:Has h K)(hq:K[q]? = some (i,.sl n E.n (E.l l)))(hj:ix l j=some a):cZ P t (.rs i 0 n E.n) (.int k j)=some (.ptr i (0+j.toNat*E.n)):=by
 have hn:=cg o hq
 subst hn
 exact Ff T (eN hj).1 (eN hj).2.1
theorem oI (o:Has h K)(hq:K[q]? = some (i,.sl n E.n (E.l l)))(ha:dD P tf=some false)(hj:ix l j=some a)(hc:(E.f a)[off]? = some c):bg P h tf (.ptr i (0+j.toNat*E.n+off))=some c:=by
 have hn:=cg o hq
 subst hn
 exact rD o hq ha hj hc
theorem cp (o:Has h K)(hq:K[q]? = some (i,.sl n E.n (E.l l)))(ha:dD P tf=some false)(hj:ix l j=some a)(hc:(E.f a)[0]? = some c):bg P h tf (.ptr i (0+j.toNat*E.n))=some c:=by
 have hn:=cg o hq
 subst hn
 exact za o hq ha hj hc
theorem C7 (o:Has h K)(hq:K[q]? = some (i,.sl n E.n (E.l l)))(ha:dD P tf=some true)(hs:dv P tf=some E.n)(hj:ix l j=some a):bg P h tf (.ptr i (0+j.toNat*E.n))=some (.agg (E.f a)):=by
 have hn:=cg o hq
 subst hn
 exact zb o hq ha hs hj
theorem eR (o:Has h K)(hq:K[q]? = some (i,.sl n E.n (E.l l)))(hs:dv P tf=some E.n)(hj:ix l j=some a){x:AV}(hv:x.cells=E.f v)(lE:(E.f v).all AV.bM=true) :
  ∃h',gd P h tf (.ptr i (0+j.toNat*E.n)) x=some h'∧Has h' (K.set q (i,.sl n E.n (E.l (l.set j.toNat v)))):=by
 have hn:=cg o hq
 subst hn
 exact AG o hq hs hj hv lE
theorem C8 (o:Has h K)(hq:K[q]? = some (i,.sl n E.n (E.l l)))(hs:dv P tf=some 1)(hj:ix l j=some a){x:AV}(hx:x.cells=[x])(lE:x.bM=true)(ho:off<E.n)(hb:(E.f a).set off x=E.f v) :
  ∃h',gd P h tf (.ptr i (0+j.toNat*E.n+off)) x=some h'∧Has h' (K.set q (i,.sl n E.n (E.l (l.set j.toNat v)))):=by
 have hn:=cg o hq
 subst hn
 exact zc o hq hs hj hx lE ho hb
theorem wa {t2:TypeId}{l2 r:List α}{x:AV}(T:xw P t E.n b=true)(o:Has h K)(hq:K[q]? = some (i,.sl n E.n (E.l l)))(hx:dr h E.n x=some (E.l l2,l2.length))(eh:gL P t2 x=true)(hr:app b l l2=some r) :
  ∃i' h',de P h t t2 (.rs i 0 n E.n) x=some (.rs i' 0 r.length E.n,h')∧Has h' (K.set q (i',.sl r.length E.n (E.l r))):=by
 have hn:=cg o hq
 subst hn
 exact AH T o hq hx eh hr
theorem zd (o:Has h K)(hq:K[q]? = some (i,.sl n E.n (E.l l))):dr h E.n (.rs i 0 n E.n)=some (E.l l,l.length):=by
 have hn:=cg o hq
 subst hn
 exact tX o hq
theorem Fg (o:Has h K)(hq:K[q]? = some (i,.sl n E.n (E.l l)))(hp:E.flat=true:=by rfl):∃h',gO 0 h (.rs i 0 n E.n)=some (E.fz l,h')∧Has h' (K.eraseIdx q):=by
 have hn:=cg o hq
 subst hn
 exact AK o hq hp
end
end Go.R
namespace Go.R
open Go
structure aa where
 kind:Int
 int:Int
 label:ByteArray
 args:List Int
structure aw where
 nodes:List aa
 root:Int
def eI (k:IntKind):bQ Int:={n:=1,f:=fun a=>[.int k a],len:=fun _=>rfl,pos:=by decide,pure:=fun _ _=>⟨rfl,rfl⟩,canon:=fun _=>rfl}
abbrev af:bQ Int:=eI .i64
abbrev fL:bQ Int:=eI .u8
theorem pure_cons {x:AV}{xs:List AV}(h:x.cE=true∧x.hX=x)(k:bS xs=true∧cu xs=xs):bS (x::xs)=true∧cu (x::xs)=x::xs:=
 ⟨by simp [bS,h.1,k.1],by simp [cu,h.2,k.2]⟩
theorem pure_nil:bS []=true∧cu []=[]:=⟨rfl,rfl⟩
theorem fM {k:IntKind}{n:Int}:(AV.int k n).cE=true∧(AV.int k n).hX = .int k n:=⟨rfl,rfl⟩
theorem AL {s:ByteArray}:(AV.str s).cE=true∧(AV.str s).hX = .str s:=⟨rfl,rfl⟩
def ae:bQ aa:={n:=4,f:=fun x=>[.int .i64 x.kind,.int .i64 x.int,.str x.label,af.fz x.args],len:=fun _=>rfl,pos:=by decide,pure:=fun x _=>pure_cons fM (pure_cons fM (pure_cons AL (pure_cons bQ.fJ pure_nil))),canon:=fun _=>rfl}
def eU:bQ aw:={n:=2,f:=fun x=>[ae.fz x.nodes,.int .i64 x.root],len:=fun _=>rfl,pos:=by decide,pure:=fun x _=>pure_cons bQ.fJ (pure_cons fM pure_nil),canon:=fun _=>rfl}
end Go.R
namespace Go.R
open Go
theorem C9 {b:Bool}(h:b=false):¬b=true:=by rw [h]; decide
section
variable {P:Program}{cf:CallF}{A:ca}{m:Nat}
theorem rE {c:Code}{s:St}{Q R:Ex→St→Prop}(h:cX P cf A m c s Q)(k:∀e s',Q e s'→R e s'):cX P cf A m c s R:=by
 obtain⟨e,s',h1,h2⟩:=h
 exact⟨e,s',h1,k _ _ h2⟩
theorem aQ {c:Code}{s:St}{Q:St→Prop}{R:Ex→St→Prop}(hQ:∀e s',(e = .ret∨e = .norm)∧Q s'→R e s')(h:cX P cf A m c s (fun e s'=>(e = .ret∨e = .norm)∧Q s')):cX P cf A m c s R:=rE h hQ
end
def iQ:Nat:=1125899906842630
def jz (k:Nat)(h:AHeap)(x y:AV):Prop:=∀n,iQ+k≤n→bT h n x=some y
def eO (k:Nat)(h:AHeap)(x y:List AV):Prop:=∀n,iQ+k≤n→bo h n x=some y
def AM (h:AHeap)(x y:AV):Prop:=jz 1000 h x y
section
variable {h:AHeap}{α:Type}{E:bQ α}{l:List α}{K:Mem}{q i:Nat}
theorem jz.mono {k k':Nat}{x y:AV}(hk:k≤k')(f:jz k h x y):jz k' h x y:=fun n hn=>f n (by omega)
theorem zK {k:Nat}{x y:AV}(f:jz k h x y)(hk:k≤1000:=by decide):AM h x y:=f.mono hk
theorem ko {n:Nat}(h:iQ≤n):∃k,n=k+1∧iQ≤k+1:=⟨n - 1,by simp only [iQ] at h; omega,by omega⟩
theorem kp {x:AV}(h1:x.cE=true)(h2:∀n,bT h (n+1) x=if x.cE then some x.hX else none){y:AV}(h3:x.hX=y):jz 0 h x y:=fun n hn=>by
 obtain⟨k,rfl,_⟩:=ko (show iQ≤n by omega)
 rw [h2,h1,h3]; rfl
theorem aM {k:IntKind}{n:Int}:jz 0 h (.int k n) (.int k n):=kp rfl (fun _=>rfl) rfl
theorem bJ {s:ByteArray}:jz 0 h (.str s) (.str s):=kp rfl (fun _=>rfl) rfl
theorem b7 (hp:E.flat=true:=by rfl):jz 0 h (E.fz l) (E.fz l):=kp (bQ.fJ hp).1 (fun _=>rfl) (bQ.fJ hp).2
theorem xy:jz 0 h .nils (E.fz []):=kp rfl (fun _=>rfl) rfl
theorem pE {cs:List AV}(h1:(bS cs=true))(h2:cu cs=E.l l){n:Nat}{b:Bool}(h3:n=l.length):jz 0 h (.fz cs n b) (E.fz l):=by
 refine kp (by simpa [AV.cE] using h1) (fun _=>rfl) ?_
 subst h3
 show AV.fz (cu cs) l.length false=_
 rw [h2]; rfl
theorem kJ:∀{cs:List AV} {n:Nat},bS cs=true→(∀x∈cs,∀n,bT h (n+1) x=if x.cE then some x.hX else none)→cs.length+1<n→bo h n cs=some (cu cs)
 | [],n,_,_,hn=>by
  obtain⟨k,rfl⟩:∃k,n=k+1:=⟨n - 1,by omega⟩
  rfl
 | x::cs,n,h1,h2,hn=>by
  obtain⟨k,rfl⟩:∃k,n=k+1+1:=⟨n - 2,by simp at hn; omega⟩
  simp only [bS,QR] at h1
  simp only [bo]
  rw [h2 x (by simp) k,h1.1]
  simp only [if_true,QM]
  rw [kJ h1.2 (fun y hy=>h2 y (by simp [hy])) (by simp at hn; omega)]
  rfl
def tY:AV→Bool
 | .agg _ | .tup _=>false
 | _=>true
theorem AN {x:AV}(hf:tY x=true)(hn:x.cE=true)(n:Nat):bT h (n+1) x=if x.cE then some x.hX else none:=by
 cases x<;>first | rfl | (simp [AV.cE] at hn; done) | (simp [tY] at hf; done)
theorem Da (o:Has h K)(hq:K[q]? = some (i,.sl l.length E.n (E.l l)))(hf:∀a:α,(E.f a).all tY=true)(hp:E.flat=true:=by rfl):jz 0 h (.rs i 0 l.length E.n) (E.fz l):=fun n hn=>by
 obtain⟨⟨⟨hlen,xg⟩,kB⟩,hlt⟩:=o.at_ _ _ _ hq
 obtain⟨k,rfl,hk⟩:=ko (show iQ≤n by omega)
 simp only [bT]
 rcases kB with⟨h0,h1⟩| ⟨h0,rest,h1⟩
 ·have:l=[]:=by simpa using h1
  subst this
  simp [h0,bQ.fz,bQ.l]
 ·rw [if_neg h0,h1]
  simp only [QM]
  have e1:((E.l l++rest).drop 0).take (l.length*E.n)=E.l l:=by
   rw [Rr,Rn (by rw [hlen]; exact QS _),Rw (by rw [hlen]; exact QS _)]
  rw [if_pos (by rw [Q0,hlen]; omega),e1,kJ (bQ.k7 hp).1 (fun x hx=>?_) (by simp only [iQ] at hk; omega),(bQ.k7 hp).2]
  ·rfl
  ·have hnx:x.cE=true:=by
    have:∀(cs:List AV),bS cs=true→x∈cs→x.cE=true:=by
     intro cs
     induction cs with
     | nil=>intro _ h; cases h
     | cons y ys ih=>
      intro h hm
      simp only [bS,QR] at h
      rcases Rt.1 hm with rfl | hm
      ·exact h.1
      ·exact ih h.2 hm
    exact this _ (bQ.k7 hp).1 hx
   have Fh:tY x=true:=by
    unfold bQ.l at hx
    rw [List.mem_flatMap] at hx
    obtain⟨a,_,ha⟩:=hx
    exact Rd.1 (hf a) x ha
   exact fun n=>AN Fh hnx n
theorem HF {n:Nat}(o:Has h K)(hq:K[q]? = some (i,.sl n E.n (E.l l)))(hf:∀a:α,(E.f a).all tY=true)(hp:E.flat=true:=by rfl):jz 0 h (.rs i 0 n E.n) (E.fz l):=by
 have hn:=cg o hq
 subst hn
 exact Da o hq hf hp
theorem aA:eO 0 h [] []:=fun n hn=>by
 obtain⟨k,rfl,_⟩:=ko (show iQ≤n by omega)
 rfl
theorem ab {k1 k2:Nat}{x y:AV}{xs ys:List AV}(f:jz k1 h x y)(g:eO k2 h xs ys):eO (k1+k2+1) h (x::xs) (y::ys):=fun n hn=>by
 obtain⟨k,rfl⟩:∃k,n=k+1:=⟨n - 1,by omega⟩
 simp only [bo]
 rw [f k (by omega),g k (by omega)]
 rfl
theorem bw {k:Nat}{xs ys:List AV}(f:eO k h xs ys):jz (k+1) h (.agg xs) (.agg ys):=fun n hn=>by
 obtain⟨k,rfl⟩:∃k,n=k+1:=⟨n - 1,by omega⟩
 simp only [bT]
 rw [f k (by omega)]; rfl
theorem wc {k:Nat}{xs ys:List AV}(f:eO k h xs ys):jz (k+1) h (.tup xs) (.tup ys):=fun n hn=>by
 obtain⟨k,rfl⟩:∃k,n=k+1:=⟨n - 1,by omega⟩
 simp only [bT]
 rw [f k (by omega)]; rfl
end
def gA (k:IntKind)(x:Int)(n:Nat):Int:=x.fdiv (2 ^ (min n k.bits))
section
variable {P:Program}{t:TypeId}{b:Nat}{α:Type}{E:bQ α}{h:AHeap}{K:Mem}{l r:List α}{i q:Nat}{j lo hi:Int}{k k':IntKind}
theorem jS {s:ByteArray}{v:Int}(hu:P.underlying t=some .string)(h:bt s j=some v):mH P t (.str s) (.int k j)=some (.int .u8 v):=by
 unfold bt at h
 split at h
 ·rename_i h0
  rw [QP] at h
  obtain⟨b,hb,rfl⟩:=h
  simp only [mH,hu,QM,h0,if_true,hb,QU]
 ·cases h
end
theorem aq {P:Program}{cf:CallF}{m:Nat}{a7:FuncId→ca}{f:FuncId}{fn:Func}{A:ca}(ha:a7 f=A){args:List AV}{h:AHeap}{R:AV→AHeap→Prop}(hf:P.funcs[f]? = some fn)(hb:fn.body=some (codeOf fn))(hn:Nat.ble args.length fn.ntmps=true)
  (he:cX P cf A m (codeOf fn) ⟨jF A.eL args,A.aB.map fun _=>none,h⟩ (fun e s=>(e = .ret∨e = .norm)∧∃r,aP P (s.open A) fn.results.toList=some r∧R r s.h)) :
  ∃r h',bf P a7 cf m f args h=some (r,h')∧R r h':=by
 subst ha
 exact sJ hf hb hn he
def AO (a b:ByteArray):Bool:=Op.bytesLess a.data.toList b.data.toList||a.data.toList==b.data.toList
end Go.R
namespace Go.R
open Go
mutual
theorem sL {h:AHeap}:∀(n:Nat) (x y:AV),x.cE=true→bT h n x=some y→y=x.hX
 | 0,x,y,_,h=>by simp [bT] at h
 | n+1,x,y,hn,h=>by
  cases x with
  | agg cs=>
   simp only [bT,QP] at h
   obtain⟨ej,hcs,rfl⟩:=h
   rw [fN n cs ej (by simpa [AV.cE] using hn) hcs]; rfl
  | tup cs=>
   simp only [bT,QP] at h
   obtain⟨ej,hcs,rfl⟩:=h
   rw [fN n cs ej (by simpa [AV.cE] using hn) hcs]; rfl
  | ptr _ _=>simp [AV.cE] at hn
  | rs _ _ _ _=>simp [AV.cE] at hn
  | _=>simp only [bT,hn,if_true,QQ] at h; exact h.symm
theorem fN {h:AHeap}:∀(n:Nat) (xs ys:List AV),bS xs=true→bo h n xs=some ys→ys=cu xs
 | 0,xs,ys,_,h=>by simp [bo] at h
 | n+1,[],ys,_,h=>by simp only [bo,QQ] at h; exact h.symm
 | n+1,x::xs,ys,hn,h=>by
  simp only [bS,QR] at hn
  simp only [bo,QN,QP] at h
  obtain⟨y,hy,zs,hz,rfl⟩:=h
  rw [sL n x y hn.1 hy,fN n xs zs hn.2 hz]; rfl
end
mutual
theorem rF {h:AHeap}:∀(n:Nat) (x y:AV),dP h n x=some y→bT h n x=some y
 | 0,x,y,h=>by simp [dP] at h
 | n+1,x,y,h=>by
  unfold dP at h
  split at h
  ·exact h
  ·exact h
  ·exact h
  ·exact h
  ·exact h
  ·exact h
  ·exact h
  ·exact h
  ·rename_i id off len fS
   simp only [bT]
   split at h
   ·rename_i h0; rw [if_pos h0]; exact h
   ·rename_i h0
    rw [if_neg h0]
    rw [QN] at h ⊢
    obtain⟨ob,ho,h⟩:=h
    refine⟨ob,ho,?_⟩
    cases ob with
    | map es=>cases h
    | row t cs=>cases h
    | cells cs=>
     simp only at h ⊢
     split at h
     ·rename_i hle
      rw [if_pos hle]
      rw [QP] at h ⊢
      obtain⟨ej,hcs,h2⟩:=h
      exact⟨ej,ij n _ _ hcs,h2⟩
     ·cases h
  ·simp only [bT]
   rw [QP] at h ⊢
   obtain⟨ej,hcs,h2⟩:=h
   exact⟨ej,ij n _ _ hcs,h2⟩
  ·simp only [bT]
   rw [QP] at h ⊢
   obtain⟨ej,hcs,h2⟩:=h
   exact⟨ej,ij n _ _ hcs,h2⟩
  ·cases h
theorem ij {h:AHeap}:∀(n:Nat) (xs ys:List AV),bY h n xs=some ys→bo h n xs=some ys
 | 0,xs,ys,h=>by simp [bY] at h
 | n+1,[],ys,h=>h
 | n+1,x::xs,ys,h=>by
  simp only [bY,bo,QN,QP] at h ⊢
  obtain⟨y,hy,zs,hz,h2⟩:=h
  exact⟨y,rF n x y hy,zs,ij n xs zs hz,h2⟩
end
def tZ (k:Nat)(h:AHeap)(x y:AV):Prop:=∀n,iQ+k≤n→dP h n x=some y
def Db (k:Nat)(h:AHeap)(x y:List AV):Prop:=∀n,iQ+k≤n→bY h n x=some y
def fT (h:AHeap)(x y:AV):Prop:=tZ 1000 h x y
section
variable {h:AHeap}{α:Type}{E:bQ α}{l:List α}{K:Mem}{q i:Nat}
theorem fT.zK {x y:AV}(f:fT h x y):AM h x y:=fun n hn=>rF _ _ _ (f n hn)
theorem bB {k:Nat}{x y:AV}(f:tZ k h x y)(hk:k≤1000:=by decide):fT h x y:=fun n hn=>f n (by omega)
theorem xz {x y:AV}(h2:∀n,dP h (n+1) x=some y):tZ 0 h x y:=fun n hn=>by
 obtain⟨k,rfl,_⟩:=ko (show iQ≤n by omega)
 exact h2 k
theorem dG {k:IntKind}{n:Int}:tZ 0 h (.int k n) (.int k n):=xz fun _=>rfl
theorem aj {b:Bool}:tZ 0 h (.bool b) (.bool b):=xz fun _=>rfl
def AP:AV→Bool
 | .int _ _ | .bool _ | .str _=>true
 | _=>false
theorem jT:∀{cs:List AV} {n:Nat},cs.all AP=true→cs.length+1<n→bY h n cs=some cs
 | [],n,_,hn=>by
  obtain⟨k,rfl⟩:∃k,n=k+1:=⟨n - 1,by omega⟩
  rfl
 | x::cs,n,h1,hn=>by
  obtain⟨k,rfl⟩:∃k,n=k+1+1:=⟨n - 2,by simp at hn; omega⟩
  simp only [RL,QR] at h1
  simp only [bY]
  have:dP h (k+1) x=some x:=by cases x<;>first | rfl | (simp [AP] at h1)
  rw [this,QM,jT h1.2 (by simp at hn; omega)]
  rfl
theorem HG {n:Nat}(o:Has h K)(hq:K[q]? = some (i,.sl n E.n (E.l l)))(hf:∀a:α,(E.f a).all AP=true):tZ 0 h (.rs i 0 n E.n) (E.fz l):=fun m hm=>by
 have hn:=cg o hq
 subst hn
 obtain⟨⟨⟨hlen,xg⟩,kB⟩,hlt⟩:=o.at_ _ _ _ hq
 obtain⟨k,rfl,hk⟩:=ko (show iQ≤m by omega)
 simp only [dP]
 rcases kB with⟨h0,h1⟩| ⟨h0,rest,h1⟩
 ·have:l=[]:=by simpa using h1
  subst this
  simp [h0,bQ.fz,bQ.l]
 ·rw [if_neg h0,h1]
  simp only [QM]
  have e1:((E.l l++rest).drop 0).take (l.length*E.n)=E.l l:=by
   rw [Rr,Rn (by rw [hlen]; exact QS _),Rw (by rw [hlen]; exact QS _)]
  rw [if_pos (by rw [Q0,hlen]; omega),e1,jT ?_ (by simp only [iQ] at hk; omega)]
  ·rfl
  ·rw [Rd]
   intro x hx
   unfold bQ.l at hx
   rw [List.mem_flatMap] at hx
   obtain⟨a,_,ha⟩:=hx
   exact Rd.1 (hf a) x ha
theorem we:Db 0 h [] []:=fun n hn=>by
 obtain⟨k,rfl,_⟩:=ko (show iQ≤n by omega)
 rfl
theorem kq {k1 k2:Nat}{x y:AV}{xs ys:List AV}(f:tZ k1 h x y)(g:Db k2 h xs ys):Db (k1+k2+1) h (x::xs) (y::ys):=fun n hn=>by
 obtain⟨k,rfl⟩:∃k,n=k+1:=⟨n - 1,by omega⟩
 simp only [bY]
 rw [f k (by omega),g k (by omega)]
 rfl
theorem wg {k:Nat}{xs ys:List AV}(f:Db k h xs ys):tZ (k+1) h (.tup xs) (.tup ys):=fun n hn=>by
 obtain⟨k,rfl⟩:∃k,n=k+1:=⟨n - 1,by omega⟩
 simp only [dP]
 rw [f k (by omega)]; rfl
def eV:Nat:=4503599627370496
theorem eZ {k:Nat}{xs ys:List AV}(f:eO k h xs ys)(hk:k≤eV:=by decide):eO eV h xs ys:=fun n hn=>f n (by omega)
def rG (x y:AV):Prop:=x.cE=true∧x.hX=y
def nN (xs ys:List AV):Prop:=bS xs=true∧cu xs=ys
theorem br {k:IntKind}{n:Int}:rG (.int k n) (.int k n):=⟨rfl,rfl⟩
theorem Fi {s:ByteArray}:rG (.str s) (.str s):=⟨rfl,rfl⟩
theorem ik (hp:E.flat=true:=by rfl):rG (E.fz l) (E.fz l):=bQ.fJ hp
theorem fe:nN [] []:=⟨rfl,rfl⟩
theorem b4 {x y:AV}{xs ys:List AV}(a:rG x y)(b:nN xs ys):nN (x::xs) (y::ys):=⟨by simp [bS,a.1,b.1],by simp [cu,a.2,b.2]⟩
theorem jU {xs ys:List AV}(a:nN xs ys):rG (.agg xs) (.agg ys):=⟨by simpa [AV.cE] using a.1,by show AV.agg (cu xs)=_; rw [a.2]⟩
end
end Go.R
namespace Go.R
open Go
section
variable {P:Program}{h:AHeap}{K:Mem}{i q:Nat}{cs ej:List AV}{x z:AV}{t:TypeId}{off:Nat}
theorem jV (o:Has h K)(lE:cs.all AV.bM=true):∃i h',tU h cs=some (.ptr i 0,h')∧Has h' ((i,.ob cs)::K):=by
 refine⟨h.next,h.alloc (.cells cs),by unfold tU; rw [if_pos lE],o.new (fun k hk=>by rw [AHeap.alloc,cF,if_neg (by omega)]) (RX _) (.inr (QS _)) (RB _) ⟨by have:=o.pos; omega,by rw [AHeap.alloc,cF,if_pos rfl]⟩⟩
theorem b9 (o:Has h K)(hq:K[q]? = some (i,.ob cs))(hr:fY P t cs off=some z):bg P h t (.ptr i off)=some z:=by
 obtain⟨⟨h1,h2⟩,_⟩:=o.at_ _ _ _ hq
 simp only [bg,gM,h2,QM,hr]
theorem xA (o:Has h K)(hq:K[q]? = some (i,.ob cs))(hw:eJ P t cs off x=some ej):∃h',gd P h t (.ptr i off) x=some h'∧Has h' (K.set q (i,.ob ej)):=by
 obtain⟨⟨h1,h2⟩,_⟩:=o.at_ _ _ _ hq
 exact⟨h.put i (.cells ej),by simp only [gd,h2,QM,hw,QU],kn o hq ⟨h1,by rw [cF,if_pos rfl]⟩⟩
end
theorem aR {x y:AV}(h:rG x y):aC x=y:=by
 unfold aC
 rw [h.1,h.2]; rfl
theorem cq:([]:List AV).map aC=[]:=rfl
theorem ao {x y:AV}{xs ys:List AV}(a:aC x=y)(b:xs.map aC=ys):(x::xs).map aC=y::ys:=by
 rw [Rq,a,b]
theorem Fj {α:Type}{K L:List α}{q:Nat}{p:α}(h:L[q]? = some p):(K++L)[K.length+q]? = some p:=by
 rw [Rg (by omega),Nat.add_sub_cancel_left,h]
def AQ (k:IntKind)(x y:Int):Option Int:=if y=0 then none else some (Int.tmod x y)
theorem Dc {P:Program}{t:TypeId}{k:IntKind}{x y v:Int}(h:AQ k x y=some v):kR P .rem t (.int k x) (.int k y)=some (.int k v):=by
 unfold AQ at h
 split at h
 ·cases h
 ·rename_i hy
  cases h
  simp only [kR,AV.dK,QM,Go.binOp,Op.intDiv,if_neg hy,ne_eq,not_true_eq_false,if_false]
  rfl
end Go.R
