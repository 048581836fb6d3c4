/- Part of the proof: RRow, RStep, RWalk, RG1, RG2, RG3, RG4, RT, RG5, RG6, RG7. -/
import Derived.Test.YtifafejidnjckaaK3
import Derived.ProofKit
set_option linter.unusedVariables false
set_option linter.unusedSimpArgs false
set_option maxRecDepth 100000
open Bool renaming and_eq_true → Vx, false_eq_true → VE, or_eq_true → Wf
open List renaming getElem?_eq_some_iff → VB, length_append → VD, length_set → VG, length_cons → VH, drop_eq_getElem_cons → VI, getElem?_append_left → VJ, append_assoc → VK, replicate → VM, all_eq_true → VO, getElem?_append_right → VP, length_nil → VS, mem_cons → VT, map_cons → VX, mem_append → VY, eq_nil_of_length_eq_zero → VZ, map_append → V0, take_append_of_le_length → V3, take_of_length_le → V6, nil_append → V9, getElem?_cons_zero → Wc, drop_zero → Wd, all_cons → Wi, length_take → Wl, getElem?_of_mem → Wm, take_append_drop → Wu, length_drop → Ww, getElem?_cons_succ → WE, append_nil → WN, drop_append_of_le_length → WQ, length_replicate → WZ, ext_getElem? → W2, getElem?_set → W3, take_length → W6
open Nat renaming le_refl → Vy, zero_add → VU, lt_of_lt_of_le → VW, beq → Wa, mul_le_mul_right → We, lt_succ_self → Wh, le_trans → Wj, add_assoc → Ws, add_mul → Wv, eq_of_beq_eq_true → WB, le_succ → WI, min_eq_left → WM, lt_succ_of_lt → WO, add_sub_cancel_left → WR, ble → WX, add_comm → W4, add_zero → W5, sub_self → W7
open Option renaming bind_eq_some_iff → Vt, bind_some → Vu, map_eq_some_iff → Vv, map_some → VA, isSome_none → WV
open Option.some renaming injEq → Vw
open Prod.mk renaming injEq → VC
namespace Go.R
open Go
def y6 (P:Program)(F:TypeId→List AV→Prop):List Field→List AV→Prop
 | [],xs=>xs=[]
 | f::fs,xs=>∃a b,xs=a++b∧a.length=P.cellsOf f.type∧F f.type a∧y6 P F fs b
def Fits (P:Program):Nat→TypeId→List AV→Prop
 | 0,_,_=>False
 | n+1,t,xs=>
  match P.underlying t with
  | some .bool=>∃b,xs=[.bool b]
  | some (.int k)=>∃z,xs=[.int k z]∧k.min≤z∧z≤k.max
  | some .string=>∃s:ByteArray,xs=[.str s]∧s.size≤maxLen
  | some (.slice e)=>xs=[.nils]∨∃els:List (List AV),xs=[.fz els.flatten els.length false]∧els.length≤maxLen∧∀el∈els,el.length=P.cellsOf e∧Fits P n e el
  | some (.struct fs)=>y6 P (Fits P n) fs.toList xs
  | _=>False
def ry (P:Program):Nat→List Field→Bool
 | _,[]=>true
 | k,f::fs=>Wa f.offset k&&ry P (k+P.cellsOf f.type) fs
def lP (P:Program):Nat→TypeId→Bool
 | 0,_=>false
 | n+1,t=>
  match P.underlying t with
  | some .bool | some (.int _) | some .string=>true
  | some (.slice e)=>lP P n e
  | some (.struct fs)=>ry P 0 fs.toList&&Wa (P.cellsOf t) ((fs.toList.map fun f=>P.cellsOf f.type).sum)&&fs.toList.all fun f=>lP P n f.type
  | _=>false
theorem mapM_some {α β:Type}{f:α→Option β}:∀{l:List α} {ys:List β},l.mapM f=some ys→ys.length=l.length∧∀(i:Nat) (x:α),l[i]? = some x→∃y,ys[i]? = some y∧f x=some y
 | [],ys,h=>by
  simp at h; subst h
  exact⟨rfl,fun i x hx=>by simp at hx⟩
 | a::l,ys,h=>by
  simp only [List.mapM_cons,Option.bind_eq_bind,Vt,Option.pure_def,Vw] at h
  obtain⟨y,hy,zs,hz,rfl⟩:=h
  obtain⟨h1,h2⟩:=mapM_some hz
  refine⟨by simp [h1],fun i x hx=>?_⟩
  cases i with
  | zero=>simp at hx; subst hx; exact⟨y,rfl,hy⟩
  | succ i=>simpa using h2 i x (by simpa using hx)
theorem y7 {w:World}{a:Addr}{v:Value}(h:w.cell? a=some v):w.cell? ⟨a.block,a.off,none⟩=some v∧a.spot=none:=by
 unfold World.cell? at h ⊢
 split at h
 ·rename_i c t fr hb
  rw [hb]
  simp only at h ⊢
  cases hs:a.spot with
  | none=>rw [hs] at h; exact⟨by simpa using h,rfl⟩
  | some _=>rw [hs] at h; simp at h
 ·cases h
theorem jD (a:Addr)(n:Nat):(a.add n).block=a.block∧(a.add n).off=a.off+n:=by
 unfold Addr.add
 split
 ·rename_i h; subst h; exact⟨rfl,rfl⟩
 ·exact⟨rfl,rfl⟩
theorem qC {w:World}{base:Nat}{a:Addr}{n:Nat}{cs:List Value}(h:w.cells? base a n=some cs):cs.length=n∧∀i,i<n→w.cell? ⟨a.block,a.off+i,none⟩=cs[i]?∧(i=0→a.spot=none):=by
 unfold World.cells? at h
 split at h
 ·obtain⟨h1,h2⟩:=mapM_some h
  refine⟨by simpa using h1,fun i hi=>?_⟩
  obtain⟨y,hy,hc⟩:=h2 i i (by simp [hi])
  obtain⟨h3,h4⟩:=y7 hc
  rw [(jD a i).1,(jD a i).2] at h3
  refine⟨by rw [h3,hy],fun h0=>?_⟩
  subst h0
  simpa [Addr.add] using h4
 ·cases h
theorem kc {α:Type}{Q:Nat→α→Prop}:∀n,(∀i,i<n→∃x,Q i x)→∃l:List α,l.length=n∧∀i x,l[i]? = some x→Q i x
 | 0,_=>⟨[],rfl,fun i x h=>by simp at h⟩
 | n+1,h=>by
  obtain⟨l,h1,h2⟩:=kc n fun i hi=>h i (by omega)
  obtain⟨x,hx⟩:=h n (by omega)
  refine⟨l++[x],by simp [h1],fun i y hy=>?_⟩
  by_cases hi:i<n
  ·exact h2 i y (by rwa [VJ (by omega)] at hy)
  ·rw [VP (by omega)] at hy
   have:i=n:=by
    have:=(VB.1 hy).1
    simp at this; omega
   subst this
   simp [h1] at hy
   subst hy; exact hx
theorem Cells.append {c:Cx}{L:Nat→Prop}:∀{xs ys:List AV} {b o:Nat},Cells c L xs b o→Cells c L ys b (o+xs.length)→Cells c L (xs++ys) b o
 | [],ys,b,o,_,h=>by simpa using h
 | x::xs,ys,b,o,h,k=>⟨h.1,Cells.append h.2 (by simpa [Ws,W4 1] using k)⟩
theorem Cells.flatten {c:Cx}{L:Nat→Prop}{b size:Nat}:∀(els:List (List AV)) (o:Nat),(∀i el,els[i]? = some el→el.length=size∧Cells c L el b (o+i*size))→Cells c L els.flatten b o
 | [],o,_=>trivial
 | el::els,o,h=>by
  obtain⟨h1,h2⟩:=h 0 el rfl
  rw [List.flatten_cons]
  refine Cells.append (by simpa using h2) (Cells.flatten (size:=size) els _ fun i S4 he=>?_)
  obtain⟨h3,h4⟩:=h (i+1) S4 (by simpa using he)
  refine⟨h3,?_⟩
  rw [h1]
  rwa [show o+size+i*size=o+(i+1)*size by rw [Wv,Nat.one_mul]; omega]
section
variable {H:Type}{enc:TypeId × Value→H}{P:Program}{c:Cx}{sp:Nat→Bool}{held:Bool}
theorem qD {F:TypeId→List AV→Prop}{g:TypeId→List Value→Option (DataW H × List MemPlace)}(hg:∀t cs x,g t cs=some x→cs.length=P.cellsOf t→(∃u:Nat,u=0)→True) :
  ∀(fs:List Field) (k:Nat) (cs:List Value) (xs:List (DataW H × List MemPlace)),ry P k fs=true→(∀f∈fs,∀cs x,g f.type cs=some x→cs.length=P.cellsOf f.type→∃ys,VRs c none0 ys cs∧F f.type ys∧∀v∈cs,v.oneCell'=true)→
   (fs.mapM fun f=>g f.type ((cs.drop f.offset).take (P.cellsOf f.type)))=some xs→k+(fs.map fun f=>P.cellsOf f.type).sum≤cs.length→
   ∃ys,VRs c none0 ys ((cs.drop k).take ((fs.map fun f=>P.cellsOf f.type).sum))∧y6 P F fs ys∧∀v∈(cs.drop k).take ((fs.map fun f=>P.cellsOf f.type).sum),v.oneCell'=true
 | [],k,cs,xs,_,_,_,_=>⟨[],by simp [VRs],rfl,by simp⟩
 | f::fs,k,cs,xs,hc,hF,h,hl=>by
  simp only [ry,Vx,beq_nat,decide_eq_true_eq] at hc
  obtain⟨rfl,hc⟩:=hc
  simp only [List.mapM_cons,Option.bind_eq_bind,Vt,Option.pure_def,Vw] at h
  obtain⟨y,hy,zs,hz,rfl⟩:=h
  simp only [VX,List.sum_cons] at hl ⊢
  have hlen:((cs.drop f.offset).take (P.cellsOf f.type)).length=P.cellsOf f.type:=by simp; omega
  obtain⟨a,ha,S5,h1⟩:=hF f (by simp) _ _ hy hlen
  obtain⟨b,hb,S8,h2⟩:=qD hg fs (f.offset+P.cellsOf f.type) cs zs hc (fun f' NH=>hF f' (by simp [NH])) hz (by omega)
  have IX:(cs.drop f.offset).take (P.cellsOf f.type+(fs.map fun f=>P.cellsOf f.type).sum)=(cs.drop f.offset).take (P.cellsOf f.type)++((cs.drop (f.offset+P.cellsOf f.type)).take ((fs.map fun f=>P.cellsOf f.type).sum)):=by
   rw [List.take_add,List.drop_drop]
  rw [IX]
  refine⟨a++b,VRs.append ha hb,⟨a,b,rfl,?_,S5,S8⟩,fun v hv=>?_⟩
  ·rw [ha.length,hlen]
  ·rcases VY.1 hv with hv | hv
   ·exact h1 v hv
   ·exact h2 v hv
theorem ng (qh:∀id,c.h.get id=none):∀(m:Nat) (t:TypeId) (fuel:Nat) (cs:List Value) (d:DataW H) (ps:List MemPlace),lP P m t=true→DataW.trod enc P c.w 0 sp held fuel t cs=some (d,ps)→
  ∃xs,VRs c none0 xs cs∧Fits P m t xs∧∀v∈cs,v.oneCell'=true
 | 0,_,_,_,_,_,hB,_=>by simp [lP] at hB
 | m+1,t,0,cs,d,ps,hB,h=>by simp [DataW.trod] at h
 | m+1,t,fuel+1,cs,d,ps,hB,h=>by
  have hnl:∀id,¬Live c.h id:=fun id hl=>by have:=hl.2; rw [qh id] at this; cases this
  unfold lP at hB
  unfold Fits
  cases hu:P.underlying t with
  | none=>rw [hu] at hB; cases hB
  | some td=>
  rw [hu] at hB
  cases td<;>simp only at hB ⊢<;>try (cases hB; done)
  ·
   unfold DataW.trod at h
   rw [hu] at h
   split at h<;>first | (rename_i heq; cases heq; done) | skip
   all_goals try (rename_i heq _; cases heq; done)
   all_goals (first | (cases h; done) | skip)
   ·rename_i b _
    exact⟨[.bool b],⟨by simp [VR],trivial⟩,⟨b,rfl⟩,by simp [Value.oneCell']⟩
  ·rename_i k
   unfold DataW.trod at h
   rw [hu] at h
   split at h<;>first | (rename_i heq; cases heq; done) | skip
   all_goals try (rename_i heq _; cases heq; done)
   ·rename_i k' k2 n heq
    cases heq
    split at h
    ·rename_i hk
     obtain⟨rfl,MQ⟩:=hk
     simp only [Lit.wf,Vx,decide_eq_true_eq] at MQ
     exact⟨[.int k2 n],⟨by simp [VR],trivial⟩,⟨n,rfl,MQ⟩,by simp [Value.oneCell']⟩
    ·cases h
   ·cases h
  ·
   unfold DataW.trod at h
   rw [hu] at h
   split at h<;>first | (rename_i heq; cases heq; done) | skip
   all_goals try (rename_i heq _; cases heq; done)
   ·rename_i s _
    split at h
    ·rename_i hs
     exact⟨[.str s],⟨by simp [VR],trivial⟩,⟨s,rfl,hs⟩,by simp [Value.oneCell']⟩
    ·cases h
   ·cases h
  ·
   rename_i e
   unfold DataW.trod at h
   rw [hu] at h
   split at h<;>first | (rename_i heq; cases heq; done) | skip
   all_goals try (rename_i heq _; cases heq; done)
   ·exact⟨[.nils],⟨by simp [VR],trivial⟩,.inl rfl,by simp [Value.oneCell']⟩
   ·rename_i e' a len cap heq
    cases heq
    simp only at h
    split at h
    rotate_left
    ·cases h
    rename_i hbound
    obtain⟨_,hlc,hcap⟩:=hbound
    rw [Vt] at h
    obtain⟨elems,Cf,_⟩:=h
    obtain⟨hn,hget⟩:=mapM_some Cf
    have key:∀i,i<len→∃el:List AV,el.length=P.cellsOf e∧Fits P m e el∧Cells c none0 el a.block (a.off+i*P.cellsOf e)∧(i=0→0<P.cellsOf e→a.spot=none):=by
     intro i hi
     obtain⟨y,_,hy⟩:=hget i i (by simp [hi])
     rw [Vt] at hy
     obtain⟨NX,hcs,hy⟩:=hy
     obtain⟨hl,kM⟩:=qC hcs
     obtain⟨el,hv,hf,h1⟩:=ng qh m e fuel NX y.1 y.2 hB hy
     refine⟨el,by rw [hv.length,hl],hf,Cells.of_vals hv (fun j hj=>?_) h1,fun h0 lV=>?_⟩
     ·have:=(kM j (by omega)).1
      rwa [(jD a _).1,(jD a _).2] at this
     ·subst h0
      have:=(kM 0 lV).2 rfl
      simpa [Addr.add] using this
    obtain⟨els,hl,nr⟩:=kc len key
    refine⟨[.fz els.flatten els.length false],⟨?_,trivial⟩,.inr ⟨els,rfl,by omega,fun el Cf=>?_⟩,by simp [Value.oneCell']⟩
    ·simp only [VR]
     refine⟨some a,cap,by rw [hl],by omega,by simp,.inl rfl,?_⟩
     by_cases y8:els.flatten=[]
     ·exact .inl y8
     ·have lV:0<len∧0<P.cellsOf e:=by
       cases els with
       | nil=>simp at y8
       | cons el els=>
        refine⟨by simp at hl; omega,?_⟩
        rcases Nat.eq_zero_or_pos (P.cellsOf e) with h0 | h0
        ·exfalso
         apply y8
         rw [List.flatten_eq_nil_iff]
         intro l nz
         obtain⟨i,hi⟩:=Wm nz
         have:=(nr i l hi).1
         exact VZ (by omega)
        ·exact h0
      have xa:a.spot=none:=by
       cases els with
       | nil=>simp at hl; omega
       | cons el els=>exact (nr 0 el rfl).2.2.2 rfl lV.2
      refine .inr ⟨a.block,a.off,?_,⟨fun id hl=>absurd hl (hnl id),fun h=>h.elim⟩,by simp,Cells.flatten els a.off fun i el hi=>⟨(nr i el hi).1,(nr i el hi).2.2.1⟩⟩
      cases a; simp at xa; subst xa; rfl
    ·obtain⟨i,hi⟩:=Wm Cf
     exact⟨(nr i el hi).1,(nr i el hi).2.1⟩
   ·cases h
  ·
   rename_i fs
   simp only [Vx,beq_nat,decide_eq_true_eq,VO] at hB
   obtain⟨⟨NY,NZ⟩,Ls⟩:=hB
   simp only [DataW.trod,hu] at h
   split at h
   rotate_left
   ·cases h
   rename_i hlen
   rw [Vv] at h
   obtain⟨xs,hx,_⟩:=h
   obtain⟨ys,h1,h2,h3⟩:=qD (P:=P) (c:=c) (F:=Fits P m) (g:=fun t cs=>DataW.trod enc P c.w 0 sp held fuel t cs) (fun _ _ _ _ _ _=>trivial) fs.toList 0 cs xs NY
    (fun f hf cs x hx _=>ng qh m f.type fuel cs x.1 x.2 (Ls f hf) hx) hx (by omega)
   have kN:(cs.drop 0).take ((fs.toList.map fun f=>P.cellsOf f.type).sum)=cs:=by
    rw [Wd,←NZ,←hlen,W6]
   rw [kN] at h1 h3
   exact⟨ys,h1,h2,h3⟩
def gi (P:Program)(t:TypeId)(xs:List AV):AV:=
 match P.underlying t with
 | some (.struct _)=>.agg xs
 | _=>xs.headD .any
theorem Cg {w:World}{m:Nat}{t:TypeId}{v:Value}{base:Nat}(hB:lP P m t=true)(hs:∀fs,P.underlying t≠some (.struct fs))(h:Value.okWide P w .any base t v):v.cells.toList=[v]:=by
 cases m with
 | zero=>simp [lP] at hB
 | succ m=>
 unfold lP at hB
 unfold Value.okWide at h
 cases hu:P.underlying t with
 | none=>rw [hu] at hB; cases hB
 | some td=>
 rw [hu] at hB h
 cases td<;>simp only at hB h<;>first
  | (cases hB; done)
  | (exact absurd hu (hs _))
  | (cases v<;>simp only [Cell.okWide,Cell.ok,hu] at h<;>first | (exact h.elim) | rfl | (simp [Value.cells]))
theorem DV (qh:∀id,c.h.get id=none){m:Nat}{t:TypeId}{v:Value}{d:DataW H}{ps:List MemPlace}{base:Nat}(hB:lP P m t=true)(ho:Value.okWide P c.w .any base t v)(h:DataW.Trod enc P c.w 0 sp held t v d ps) :
  ∃xs,Fits P m t xs∧VR c none0 (gi P t xs) v:=by
 obtain⟨fuel,h⟩:=h
 obtain⟨xs,h1,h2,_⟩:=ng qh m t fuel _ d ps hB h
 refine⟨xs,h2,?_⟩
 by_cases hs:∃fs,P.underlying t=some (.struct fs)
 ·obtain⟨fs,hs⟩:=hs
  unfold Value.okWide at ho
  rw [hs] at ho
  obtain⟨cs,rfl,_⟩:=ho
  unfold gi
  rw [hs]
  simp only [VR]
  exact⟨cs,rfl,h1⟩
 ·have Km:∀fs,P.underlying t≠some (.struct fs):=fun fs h=>hs ⟨fs,h⟩
  have hc:=Cg hB Km ho
  rw [hc] at h1
  have hx:gi P t xs=xs.headD .any:=by
   unfold gi
   split
   ·rename_i fs h; exact absurd h (Km fs)
   ·rfl
  rw [hx]
  cases xs with
  | nil=>exact h1.elim
  | cons x xs=>exact h1.1
theorem kn (hl:laidOutB P=true){W W':World}{QG:Nat→Bool}:∀{ts:List TypeId} {vs:List Value} {ds:List (DataW H)} {ps:List MemPlace},(∀t∈ts,P.readableRec t=true∧t<P.types.size)→
  DataW.TrodAll enc P W 0 (fun _=>true) true ts vs ds ps→(∀p∈ps,W.sameAt W' p)→(∀p∈ps,QG p.block=true)→DataW.TrodAll enc P W' 0 QG true ts vs ds ps
 | [],[],[],_,_,h,_,_=>h
 | t::ts,v::vs,d::ds,ps,hr,h,hs,hp=>by
  obtain⟨p,q,h1,h2,rfl⟩:=h
  exact⟨p,q,WideElems.Trod_stays hl (hr t (by simp)).1 (hr t (by simp)).2 h1 (fun x hx=>hs x (by simp [hx])) (fun x hx=>hp x (by simp [hx])),
   kn hl (fun t ht=>hr t (by simp [ht])) h2 (fun x hx=>hs x (by simp [hx])) (fun x hx=>hp x (by simp [hx])),rfl⟩
 | [],[],_::_,_,_,h,_,_=>h.elim
 | [],_::_,_,_,_,h,_,_=>by cases h
 | _::_,[],_,_,_,h,_,_=>by cases h
 | _::_,_::_,[],_,_,h,_,_=>by cases h
theorem Ch {f:Func}{s:ChangeSpec}{apart fresh handsOn again:Bool}{W W':World}{args:Array Value}{ds gs:List (DataW H)}{before:List MemPlace}{tb:TypeId}
  (hl:laidOutB P=true) (hr:∀t∈f.params.toList,P.readableRec t=true∧t<P.types.size) (hW:DataW.Whole enc P f.params.toList s.vars apart W args.toList ds gs before) (hv:s.vars=[])
  (DW:f.resultTypes = #[tb]) (MR:P.underlying tb=some .bool) (Lt:(s.fn H (ds++gs))={results:=[.lit (.bool true)],args:=ds}) (hb:RowKit.Below W.heap.size W W') :
  s.post enc P f apart fresh handsOn again W args (.bool true) W':=by
 have hlt:=hW.lt
 have hW0:=hW
 obtain⟨p,q,hA,hV,QH,hz,hn⟩:=hW
 rw [hv] at hV
 have N0:gs=[]∧q=[]:=by
  cases gs with
  | nil=>exact⟨rfl,hV⟩
  | cons g gs=>exact hV.elim
 obtain⟨rfl,rfl⟩:=N0
 have N1:before=p:=by simpa using QH
 subst N1
 have H4:∀x∈before,W.sameAt W' x:=fun x hx=>hb.same (hlt x hx)
 have Lu:(Value.bool true).resultList f.resultTypes.size=[.bool true]:=by rw [DW]; rfl
 have H5:∀(b:Nat) (sp:Nat→Bool) (hd:Bool),DataW.TrodAll enc P W' b sp hd f.resultTypes.toList ((Value.bool true).resultList f.resultTypes.size) [.lit (.bool true)] []:=by
  intro b sp hd
  rw [Lu,DW]
  exact ChangeShapes.trodAll_mk1 (RowKit.shut_bool MR true)
 refine⟨ds,[],before,[],before,[],hW0,?_,?_,?_,?_,fun _=>⟨?_,?_⟩⟩
 ·rw [Lt]; exact H5 _ _ _
 ·rw [Lt]
  exact kn hl hr hA H4 (fun x hx=>by simpa using hlt x hx)
 ·rw [Lt,hv]; rfl
 ·exact hb.frame _
 ·exact RowKit.ok_one DW rfl (RowKit.okWide_bool_mk MR true)
 ·refine⟨_,[],before,⟨[]++before,[],ChangeShapes.trodAll_append (kn hl hr hA H4 (fun _ _=>rfl)) (H5 0 _ _),by rw [hv]; rfl,by simp,fun b off hx=>?_,hn⟩,fun p hp _=>hp⟩
  rw [hb.frozen (p:=⟨b,off,none⟩) (hlt _ hx)]
  exact hz b off hx
theorem Ext.below {c c':Cx}(e:Ext c none0 c' none0):RowKit.Below c.base c.w c'.w:=⟨e.os,e.tape,e.output,e.size,fun b hb=>e.exact b hb⟩
end
end Go.R
namespace Go.R
open Go
section
variable {P:Program}{cf:CallF}{aE ds:List Nat}{s:RS}{d:Option Tmp}{t:TypeId}{p:String}{a:Array Edge}{g:Option (Nat × Bool)}{ops:List Oper}{ρ:Nat→AV}{bx:Nat→Option (List AV)}{h:AHeap}
variable {A:b5}{m:Nat}{st:St}
end
end Go.R
namespace Go.R
open Go
def sub:List Nat→Code→Code
 | [],c=>c
 | 0::p,.seq a _=>sub p a
 | _::p,.seq _ b=>sub p b
 | 0::p,.cond _ a _=>sub p a
 | _::p,.cond _ _ b=>sub p b
 | _::p,.block _ a=>sub p a
 | _::p,.loop a=>sub p a
 | _,c=>c
def b7 (f:Func):Code:=f.body.getD .skip
end Go.R
namespace Go.R
open Go
section
variable (P:Program)
def bm (h:AHeap)(t:TypeId)(x:AV):Option AV:=jG P (fun _=>none) h t x
def iV (h:AHeap)(t:TypeId)(a x:AV):Option AHeap:=
 match a with
 | .ptr id off=>(h.get id).bind fun | .cells cs=>(gQ P t cs off x).map fun eY=>h.put id (.cells eY) | _=>none
 | _=>none
def Ak (cf:CallF)(f:AV)(as:List AV)(h:AHeap):Option (AV × AHeap):=
 match f with
 | .fn f cap=>if as.all AV.kC then cf f (as++cap) h else none
 | _=>none
def xb (h:AHeap)(cs:List AV):Option (AV × AHeap):=if cs.all AV.bS then some (.ptr h.next 0,h.alloc (.cells cs)) else none
def Ci (aE:List Nat)(d:Option Nat):Bool:=match d with | some d=>!aE.contains d | none=>false
def DX (aE:List Nat)(h:AHeap)(o:Oper)(t:TypeId)(x:Option AV):Option (AV × AHeap):=
 x.bind fun x=>(nM P aE o t x).map fun (cs,n,z)=>(.rs h.next 0 n z,h.alloc (.cells cs))
def IY (e:Operand→AV)(h:AHeap)(o:Oper)(z:AV):Prop:=
 match o.op with
 | .move x | .assign x=>e x=z
 | .load t a=>bm P h t (e a)=some z
 | .binOp op t x y _=>jF P op t (e x) (e y)=some z
 | .unOp op _ x=>((e x).fL.bind fun a=>(iB P (Op.unary op a)).bind ot)=some z
 | .convert a b x=>mf P h a b (e x)=some z
 | .slice t x lo hi mx=>iS P t (e x) (lo.map e) (hi.map e) (mx.map e)=some z
 | .indexAddr t x i=>eM P t (e x) (e i)=some z
 | .index t x i=>pw P t (e x) (e i)=some z
 | .lookup t m k ok=>fQ P h t (e m) (e k) ok=some z
 | .call {callee:=.builtin .len,args,argTypes}=>match argTypes.toList,args.toList.map e with
  | [t],[x]=>rJ P h t x=some z
  | _,_=>False
 | _=>False
def IZ (cf:CallF)(aE:List Nat)(e:Operand→AV)(h:AHeap)(o:Oper)(z:AV)(h':AHeap):Prop:=
 match o.op with
 | .store t a x=>bif o.dst.isSome then False else iV P h t (e a) (e x)=some h'
 | .alloc t=>bif Ci aE o.dst then (iC P t).bind (fun z=>xb h (yI aE o.dst z.cells))=some (z,h') else False
 | .box _ x=>bif Ci aE o.dst then xb h (e x).cells=some (z,h') else False
 | .buildSlice t n ps=>DX P aE h o t (gE P t n (ps.toList.map fun (i,x)=>(i,e x)))=some (z,h')
 | .makeMap _ none=>(AV.mp h.next,h.alloc (.map []))=(z,h')
 | .makeSlice t l c=>gF P h t (e l) (e c)=some (z,h')
 | .mapUpdate t m k x | .insert t m k x=>bif o.dst.isSome then False else iF P h t (e m) (e k) (e x)=some h'
 | .call {callee:=.builtin .append,args,argTypes}=>match argTypes.toList,args.toList.map e with
  | [t,t2],[x,y]=>dA P h t t2 x y=some (z,h')
  | _,_=>False
 | .call {callee:=.builtin .copy,args,argTypes}=>match argTypes.toList,args.toList.map e with
  | [t,t2],[x,y]=>qd P h t t2 x y=some (z,h')
  | _,_=>False
 | .call {callee:=.value f,args,..}=>bif KF aE o.dst then (Ak cf (e f) (args.toList.map e) h).bind (fun x=>je 0 x.2 x.1)=some (z,h') else Ak cf (e f) (args.toList.map e) h=some (z,h')
 | .call {callee:=.builtin .clear,args,argTypes}=>match argTypes.toList,args.toList.map e with
  | [t],[x]=>(lf P h t x).map (fun h=>(AV.tup [],h))=some (z,h')
  | _,_=>False
 | _=>False
end
abbrev Gd:=List (Nat × AV × Option AHeap)
def qN (P:Program)(cf:CallF)(aE:List Nat)(ops:List Oper):RS→Nat→List Oper→Gd→Option (List lU × RS × Prop)
 | s,_,[],[]=>some ([],s,True)
 | _,_,[],_::_=>none
 | s,i,o::os,zs=>
  (gR ops s.ρ o).bind fun w=>
   bif w then
    match zs with
    | []=>(uQ P cf aE (ops.filterMap (·.dst)) s o).bind fun s1=>(qN P cf aE ops s1 (i+1) os []).map fun (l,r,p)=>({o,f:=bc aE (bK s.ρ) o,s,s':=s1}::l,r,p)
    | (j,z,oh)::uh=>
     bif Wa i j then
      match oh with
      | none=>(qN P cf aE ops (s.set o.dst z) (i+1) os uh).map fun (l,r,p)=>({o,f:=bc aE (bK s.ρ) o,s,s':=s.set o.dst z}::l,r,IY P (bK s.ρ) s.h o z∧p)
      | some h'=>(qN P cf aE ops (({s with h:=h'}:RS).set o.dst z) (i+1) os uh).map fun (l,r,p)=>({o,f:=bc aE (bK s.ρ) o,s,s':=({s with h:=h'}:RS).set o.dst z}::l,r,IZ P cf aE (bK s.ρ) s.h o z h'∧p)
     else (uQ P cf aE (ops.filterMap (·.dst)) s o).bind fun s1=>(qN P cf aE ops s1 (i+1) os zs).map fun (l,r,p)=>({o,f:=bc aE (bK s.ρ) o,s,s':=s1}::l,r,p)
   else (qN P cf aE ops (s.set o.dst (.tup [])) (i+1) os zs).map fun (l,r,p)=>({o,f:={},s,s':=s.set o.dst (.tup [])}::l,r,p)
section
variable {P:Program}{cf:CallF}{aE:List Nat}
theorem DY {h:AHeap}{t:TypeId}{x z:AV}{bx:Nat→Option (List AV)}(hh:bm P h t x=some z):jG P bx h t x=some z:=by
 cases x<;>first | exact hh | (simp [bm,jG] at hh)
theorem GL {s:RS}{o:Oper}{z:AV}(h:IY P (bK s.ρ) s.h o z)(ds:List Nat):uQ P cf aE ds s o=some (s.set o.dst z):=by
 unfold IY at h
 unfold uQ yJ
 dsimp only
 split at h
 ·rename_i ho; rw [ho]; simp only [h]
 ·rename_i ho; rw [ho]; simp only [h]
 ·rename_i ho; rw [ho]; simp only [DY h,VA]
 ·rename_i ho; rw [ho]; simp only [h,VA]
 ·rename_i ho; rw [ho]; simp only [h,VA]
 ·rename_i ho; rw [ho]; simp only [h,VA]
 ·rename_i ho; rw [ho]; simp only [h,VA]
 ·rename_i ho; rw [ho]; simp only [h,VA]
 ·rename_i ho; rw [ho]; simp only [h,VA]
 ·rename_i ho; rw [ho]; simp only [h,VA]
 ·rename_i ho
  rw [ho]
  split at h
  ·rename_i h1 h2
   simp only [h1,h2,fM,h,VA]
  ·exact h.elim
 ·exact h.elim
theorem xc {s:RS}{o:Oper}{cs:List AV}{z:AV}{h':AHeap}(hn:Ci aE o.dst=true)(h:xb s.h cs=some (z,h'))(ds:List Nat):ie s aE ds o cs=some (({s with h:=h'}:RS).set o.dst z):=by
 unfold xb at h
 split at h
 rotate_left
 ·cases h
 rename_i od
 simp only [Vw,VC] at h
 obtain⟨rfl,rfl⟩:=h
 unfold ie
 rw [if_pos od]
 unfold Ci at hn
 split at hn
 ·rename_i d hd
  rw [hd]
  have:aE.contains d=false:=by simpa using hn
  simp only [this,VE,if_false]
 ·cases hn
theorem GM {s:RS}{o:Oper}{z:AV}{h':AHeap}(h:IZ P cf aE (bK s.ρ) s.h o z h')(ds:List Nat):uQ P cf aE ds s o=some (({s with h:=h'}:RS).set o.dst z):=by
 unfold IZ at h
 unfold uQ yJ
 dsimp only
 split at h
 ·rename_i t a x ho
  rw [ho]
  cases hd:o.dst with
  | some d=>rw [hd] at h; exact h.elim
  | none=>
   rw [hd] at h
   simp only [WV,cond_false] at h
   simp only [WV,VE,if_false]
   unfold iV at h
   split at h
   ·rename_i id off he
    rw [he]
    simp only [Vt] at h ⊢
    obtain⟨ob,hob,h⟩:=h
    refine⟨ob,hob,?_⟩
    split at h
    ·rw [Vv] at h ⊢
     obtain⟨eY,hcs,rfl⟩:=h
     exact⟨eY,hcs,rfl⟩
    ·cases h
   ·cases h
 ·rename_i t ho
  rw [ho]
  cases hn:Ci aE o.dst with
  | false=>rw [hn] at h; exact h.elim
  | true=>
   rw [hn] at h
   simp only [cond_true,Vt] at h
   obtain⟨z0,h1,h2⟩:=h
   simp only [h1,Vu]
   exact xc hn h2 ds
 ·rename_i t x ho
  rw [ho]
  cases hn:Ci aE o.dst with
  | false=>rw [hn] at h; exact h.elim
  | true=>
   rw [hn] at h
   exact xc hn h ds
 ·rename_i t n ps ho
  rw [ho]
  unfold DX at h
  simp only [Vt,Vv] at h
  obtain⟨x,hx,⟨cs,k,q⟩,ht,he⟩:=h
  simp only [VC] at he
  obtain⟨rfl,rfl⟩:=he
  simp only [hx,VA,py,ht]
 ·rename_i ho
  rw [ho]
  simp only [VC] at h
  obtain⟨rfl,rfl⟩:=h
  rfl
 ·rename_i ho; rw [ho]; simp only [h,VA]
 ·rename_i t m k x ho
  rw [ho]
  cases hd:o.dst with
  | some d=>rw [hd] at h; exact h.elim
  | none=>
   rw [hd] at h
   simp only [WV,cond_false] at h
   simp only [WV,VE,if_false,h,VA]
   rfl
 ·rename_i t m k x ho
  rw [ho]
  cases hd:o.dst with
  | some d=>rw [hd] at h; exact h.elim
  | none=>
   rw [hd] at h
   simp only [WV,cond_false] at h
   simp only [WV,VE,if_false,h,VA]
   rfl
 ·rename_i ho
  rw [ho]
  split at h
  ·rename_i h1 h2
   simp only [h1,h2,fM,h,VA]
  ·exact h.elim
 ·rename_i ho
  rw [ho]
  split at h
  ·rename_i h1 h2
   simp only [h1,h2,fM,h,VA]
  ·exact h.elim
 ·rename_i f args Ae ho
  rw [ho]
  have key:∀{x:AV × AHeap},Ak cf (bK s.ρ f) (args.toList.map (bK s.ρ)) s.h=some x→uP aE o.dst x=some (z,h')→
    (match bK s.ρ f with
     | .fn f cap=>if (args.toList.map (bK s.ρ)).all AV.kC then ((cf f (args.toList.map (bK s.ρ)++cap) s.h).bind (uP aE o.dst)).map fun (r,h)=>({s with h}:RS).set o.dst r else none
     | _=>none)=some (({s with h:=h'}:RS).set o.dst z):=by
   intro x hx hm
   unfold Ak at hx
   split at hx
   ·rename_i g cap he
    try rw [he]
    try dsimp only
    split at hx
    ·rename_i od
     simp only [od,if_true,hx,Vu,hm,VA]
    ·cases hx
   ·cases hx
  cases hm:KF aE o.dst with
  | false=>
   rw [hm,cond_false] at h
   exact key h (by unfold uP; rw [hm]; rfl)
  | true=>
   rw [hm,cond_true,Vt] at h
   obtain⟨x,h1,h2⟩:=h
   exact key h1 (by unfold uP; rw [hm,cond_true]; exact h2)
 ·rename_i ho
  rw [ho]
  split at h
  ·rename_i h1 h2
   rw [Vv] at h
   obtain⟨g,hg,he⟩:=h
   simp only [VC] at he
   obtain⟨rfl,rfl⟩:=he
   simp only [h1,h2,fM,hg,VA]
  ·exact h.elim
 ·exact h.elim
theorem vo {ops:List Oper}:∀{l:List Oper} {s r:RS} {i:Nat} {zs:Gd} {es:List lU} {p:Prop},qN P cf aE ops s i l zs=some (es,r,p)→p→ov P cf aE ops s l=some (es,r)∧qI P cf aE ops s l=some r
 | [],s,r,i,[],es,p,h,_=>by
  simp only [qN,Vw,VC] at h
  obtain⟨rfl,rfl,rfl⟩:=h
  exact⟨rfl,rfl⟩
 | [],s,r,i,_::_,es,p,h,_=>by simp [qN] at h
 | o::os,s,r,i,zs,es,p,h,hp=>by
  simp only [qN,Vt] at h
  obtain⟨w,hw,h⟩:=h
  have fin:∀(s1:RS) (l:List lU) (uh:Gd) (q:Prop),(if w then uQ P cf aE (ops.filterMap (·.dst)) s o else some (s.set o.dst (.tup [])))=some s1→qN P cf aE ops s1 (i+1) os uh=some (l,r,q)→q→
    ov P cf aE ops s (o::os)=some ({o,f:=if w then bc aE (bK s.ρ) o else {},s,s':=s1}::l,r)∧qI P cf aE ops s (o::os)=some r:=by
   intro s1 l uh q h1 h2 hq
   obtain⟨h3,h4⟩:=vo h2 hq
   refine⟨?_,?_⟩
   ·simp only [ov,hw,Vu,h1,h3,VA]
   ·simp only [qI,mg,hw,Vu,h1,h4]
  cases w with
  | false=>
   simp only [cond_false,Vv] at h
   obtain⟨⟨l,r',q⟩,h2,he⟩:=h
   simp only [VC] at he
   obtain⟨rfl,rfl,rfl⟩:=he
   simpa using fin _ l zs q (by simp) h2 hp
  | true=>
   simp only [cond_true] at h
   split at h
   ·simp only [Vt,Vv] at h
    obtain⟨s1,h1,⟨l,r',q⟩,h2,he⟩:=h
    simp only [VC] at he
    obtain⟨rfl,rfl,rfl⟩:=he
    simpa using fin _ l [] q (by simpa using h1) h2 hp
   ·rename_i j z oh uh
    cases hj:Wa i j with
    | false=>
     rw [hj] at h
     simp only [cond_false,Vt,Vv] at h
     obtain⟨s1,h1,⟨l,r',q⟩,h2,he⟩:=h
     simp only [VC] at he
     obtain⟨rfl,rfl,rfl⟩:=he
     simpa using fin _ l _ q (by simpa using h1) h2 hp
    | true=>
     rw [hj] at h
     simp only [cond_true] at h
     split at h
     ·simp only [Vv] at h
      obtain⟨⟨l,r',q⟩,h2,he⟩:=h
      simp only [VC] at he
      obtain⟨rfl,rfl,rfl⟩:=he
      simpa using fin _ l _ q (by simpa using GL hp.1 _) h2 hp.2
     ·simp only [Vv] at h
      obtain⟨⟨l,r',q⟩,h2,he⟩:=h
      simp only [VC] at he
      obtain⟨rfl,rfl,rfl⟩:=he
      simpa using fin _ l _ q (by simpa using GM hp.1 _) h2 hp.2
end
def qO (s:RS):List (Nat × Option Nat × Nat)→List (AV × AHeap)→Option (RS × Prop)
 | [],_=>some (s,True)
 | (t,i,k)::ps,zs=>
  match i with
  | none=>
   match k,s.ρ t,zs with
   | 0,.rs id off n z,(y,h')::uh=>(qO {s with h:=h',ρ:=fun u=>bif Wa u t then y else s.ρ u} ps uh).map fun (r,p)=>(r,je 0 s.h (.rs id off n z)=some (y,h')∧p)
   | k,x,zs=>(je k s.h x).bind fun (y,h')=>qO {s with h:=h',ρ:=fun u=>bif Wa u t then y else s.ρ u} ps zs
  | some i=>
   match s.bx t with
   | some cs=>(cs[i]?).bind fun x=>
    match k,x,zs with
    | 0,.rs id off n z,(y,h')::uh=>(qO {s with h:=h',bx:=fun u=>bif Wa u t then some (cs.set i y) else s.bx u} ps uh).map fun (r,p)=>(r,je 0 s.h (.rs id off n z)=some (y,h')∧p)
    | k,x,zs=>(je k s.h x).bind fun (y,h')=>qO {s with h:=h',bx:=fun u=>bif Wa u t then some (cs.set i y) else s.bx u} ps zs
   | none=>none
theorem rz:∀{ps:List (Nat × Option Nat × Nat)} {s r:RS} {zs:List (AV × AHeap)} {p:Prop},qO s ps zs=some (r,p)→p→kE s ps=some r
 | [],s,r,zs,p,h,_=>by
  simp only [qO,Vw,VC] at h
  obtain⟨rfl,rfl⟩:=h
  rfl
 | (t,i,k)::ps,s,r,zs,p,h,hp=>by
  cases i with
  | none=>
   have fin:∀(y:AV) (h':AHeap) (uh:List (AV × AHeap)) (q:Prop),je k s.h (s.ρ t)=some (y,h')→qO {s with h:=h',ρ:=fun u=>bif Wa u t then y else s.ρ u} ps uh=some (r,q)→q→kE s ((t,none,k)::ps)=some r:=by
    intro y h' uh q h1 h2 hq
    simp only [kE,uT,h1,VA,Vu]
    exact rz h2 hq
   simp only [qO] at h
   split at h
   ·rename_i id off n z y h' uh hx
    rw [Vv] at h
    obtain⟨⟨r',q⟩,h2,he⟩:=h
    simp only [VC] at he
    obtain⟨rfl,rfl⟩:=he
    exact fin y h' uh q (by rw [hx]; exact hp.1) h2 hp.2
   ·rw [Vt] at h
    obtain⟨⟨y,h'⟩,h1,h2⟩:=h
    exact fin y h' _ p h1 h2 hp
  | some i=>
   simp only [qO] at h
   split at h
   rotate_left
   ·cases h
   rename_i cs hcs
   rw [Vt] at h
   obtain⟨x,hx,h⟩:=h
   have fin:∀(y:AV) (h':AHeap) (uh:List (AV × AHeap)) (q:Prop),je k s.h x=some (y,h')→qO {s with h:=h',bx:=fun u=>bif Wa u t then some (cs.set i y) else s.bx u} ps uh=some (r,q)→q→kE s ((t,some i,k)::ps)=some r:=by
    intro y h' uh q h1 h2 hq
    simp only [kE,uT,hcs,hx,Vu,h1,VA]
    exact rz h2 hq
   split at h
   ·rename_i id off n z y h' uh
    rw [Vv] at h
    obtain⟨⟨r',q⟩,h2,he⟩:=h
    simp only [VC] at he
    obtain⟨rfl,rfl⟩:=he
    exact fin y h' uh q hp.1 h2 hp.2
   ·rw [Vt] at h
    obtain⟨⟨y,h'⟩,h1,h2⟩:=h
    exact fin y h' _ p h1 h2 hp
def lU.rA (x y:lU):Bool:=
 (match x.f.wb with
  | some k=>!y.f.rb.contains k&&y.f.wb != some k
  | none=>true) &&
 (!x.f.wh||(!y.f.wh&&y.f.rh.isEmpty))
def DZ (ops:List Oper)(arr:Array Oper)(s:RS)(es:List lU):Bool:=
 let ms:=js [] ops
 mY arr ms &&
  (let is:=es.zipIdx
   let uS:=is.filter fun (x,_)=>!x.f.quiet
   uS.all (fun (x,i)=>rq ms (ops.filterMap (·.dst)) s is x i&&uS.all fun (y,j)=>WX j i||(ms.getD j 0).testBit i||(x.rA y&&y.rA x)))
theorem si {x y:lU}(h:x.rA y=true):x.jq y=true:=by
 unfold lU.rA at h
 unfold lU.jq
 simp only [Vx,Wf] at h ⊢
 refine⟨h.1,h.2.imp id fun ⟨h1,h2⟩=>⟨h1,?_⟩⟩
 rw [List.isEmpty_iff] at h2
 rw [h2]; rfl
theorem GN {P:Program}{cf:CallF}{aE:List Nat}{ops:Array Oper}{s r:RS}{es:List lU}(h:DZ ops.toList ops s es=true)(hr:ov P cf aE ops.toList s ops.toList=some (es,r)):jH P cf aE ops s=some r:=by
 unfold DZ at h
 simp only [Vx] at h
 obtain⟨h1,h2⟩:=h
 unfold jH
 simp only [h1,if_true,hr,Vu]
 rw [if_pos]
 rw [VO] at h2 ⊢
 intro x hx
 have:=h2 x hx
 simp only [Vx] at this ⊢
 refine⟨this.1,?_⟩
 have h3:=this.2
 rw [VO] at h3 ⊢
 intro y hy
 have:=h3 y hy
 simp only [Wf,Vx] at this ⊢
 exact this.imp id fun h=>⟨si h.1,si h.2⟩
def mz (P:Program)(cf:CallF)(A:b5)(c:Code)(fs:List (AV × AHeap))(zs:Gd)(st:St):Option (Prop × St):=
 match c with
 | .region id ops draw=>(qO (st.open A) (fR id A.Gp) fs).bind fun (s0,p0)=>(qN P cf A.aE ops.toList s0 0 ops.toList zs).bind fun (es,r,p)=>
   bif draw && !(DZ ops.toList ops s0 es) then none else (kE r (fR id A.yK)).map fun r2=>(p0∧p,r2.mh A id)
 | _=>none
theorem D0 {P:Program}{cf:CallF}{A:b5}{m:Nat}{c:Code}{fs:List (AV × AHeap)}{zs:Gd}{st jg:St}{p:Prop}(h:mz P cf A c fs zs st=some (p,jg))(hp:p):bJ P cf A m c st=some (.norm,jg):=by
 unfold mz at h
 split at h
 rotate_left
 ·cases h
 rename_i id ops draw
 simp only [Vt] at h
 obtain⟨⟨s0,p0⟩,h0,⟨es,r,q⟩,h1,h⟩:=h
 have hd:∃r2,(draw=true→DZ ops.toList ops s0 es=true)∧kE r (fR id A.yK)=some r2∧p=(p0∧q)∧jg=r2.mh A id:=by
  cases hc:(draw && !(DZ ops.toList ops s0 es)) with
  | true=>simp only [hc,cond_true] at h; cases h
  | false=>
   simp only [hc,cond_false,Vv,VC] at h
   obtain⟨r2,h2,h3,h4⟩:=h
   refine⟨r2,fun B8=>?_,h2,h3.symm,h4.symm⟩
   simpa [B8] using hc
 obtain⟨r2,B8,h2,rfl,rfl⟩:=hd
 obtain⟨g1,g2⟩:=vo h1 hp.2
 have g0:=rz h0 hp.1
 simp only [bJ,g0,Vu]
 cases draw with
 | false=>simp only [VE,if_false,g2,Vu,h2,VA]
 | true=>simp only [if_true,GN (B8 rfl) g1,Vu,h2,VA]
end Go.R
namespace Go.R
open Go
def dp (P:Program)(cf:CallF)(A:b5)(m:Nat)(c:Code)(s:St)(Q:Ex→St→Prop):Prop:=∃e s',bJ P cf A m c s=some (e,s')∧Q e s'
def I0 (R:St→Prop)(Q:Ex→St→Prop):Ex→St→Prop
 | .norm,s=>R s
 | .exit i,s=>Q (.exit i) s
 | .ret,s=>Q .ret s
def N2 (id:Nat)(Q:Ex→St→Prop):Ex→St→Prop
 | .norm,s=>Q .norm s
 | .exit i,s=>bif Wa i id then Q .norm s else Q (.exit i) s
 | .ret,s=>Q .ret s
section
variable {P:Program}{cf:CallF}{A:b5}{m:Nat}{s:St}{Q:Ex→St→Prop}
theorem xd {a b:Code}(h:dp P cf A m a s (I0 (fun s'=>dp P cf A m b s' Q) Q)):dp P cf A m (.seq a b) s Q:=by
 obtain⟨e,s',h1,h2⟩:=h
 cases e with
 | norm=>
  obtain⟨e2,s2,h3,h4⟩:=h2
  exact⟨e2,s2,by simp only [bJ,h1,Vu,h3],h4⟩
 | exit i=>exact⟨_,s',by simp only [bJ,h1,Vu],h2⟩
 | ret=>exact⟨_,s',by simp only [bJ,h1,Vu],h2⟩
theorem y9 {id:Nat}{a:Code}(h:dp P cf A m a s (N2 id Q)):dp P cf A m (.block id a) s Q:=by
 obtain⟨e,s',h1,h2⟩:=h
 cases e with
 | norm=>exact⟨_,s',by simp only [bJ,h1,VA],h2⟩
 | exit i=>
  simp only [N2,beq_nat] at h2
  by_cases hi:i=id
  ·simp only [hi,decide_true,cond_true] at h2
   exact⟨_,s',by simp only [bJ,h1,VA,hi,if_true],h2⟩
  ·simp only [hi,decide_false,cond_false] at h2
   exact⟨_,s',by simp only [bJ,h1,VA,hi,if_false],h2⟩
 | ret=>exact⟨_,s',by simp only [bJ,h1,VA],h2⟩
theorem xe {c:Code}{fs:List (AV × AHeap)}{zs:Gd}{jg:St}{p:Prop}(h:mz P cf A c fs zs s=some (p,jg))(hp:p)(hQ:Q .norm jg):dp P cf A m c s Q:=
 ⟨_,_,D0 h hp,hQ⟩
theorem Cj (h:Q .norm s):dp P cf A m .skip s Q:=⟨_,_,rfl,h⟩
theorem D1 (h:Q .ret s):dp P cf A m .ret s Q:=⟨_,_,rfl,h⟩
theorem Ck {i:Nat}(h:Q (.exit i) s):dp P cf A m (.exit i) s Q:=⟨_,_,rfl,h⟩
theorem pJ {k:Operand}{x y:Code}(b:Bool)(hk:bK (s.open A).ρ k = .bool b)(ht:b=true→dp P cf A m x s Q)(hf:b=false→dp P cf A m y s Q):dp P cf A m (.cond k x y) s Q:=by
 cases b with
 | true=>
  obtain⟨e,s',h1,h2⟩:=ht rfl
  exact⟨e,s',by simp only [bJ,hk,rL,Vu,if_true,h1],h2⟩
 | false=>
  obtain⟨e,s',h1,h2⟩:=hf rfl
  exact⟨e,s',by simp only [bJ,hk,rL,Vu,VE,if_false,h1],h2⟩
def D2 {S O:Type}(l:Nat→S→Option O)(Rel:S→St→Prop)(QO:O→Ex→St→Prop)(k:Nat)(out:O):Ex→St→Prop
 | .norm,s=>∃σ,Rel σ s∧l k σ=some out
 | .exit i,s=>QO out (.exit i) s
 | .ret,s=>QO out .ret s
theorem sj {S O:Type}{l:Nat→S→Option O}{Rel:S→St→Prop}{QO:O→Ex→St→Prop}{body:Code}(h0:∀σ,l 0 σ=none)
  (step:∀k σ s out,Rel σ s→l (k+1) σ=some out→dp P cf A m body s (D2 l Rel QO k out)):∀(n:Nat) (σ:S) (s:St) (out:O),Rel σ s→l n σ=some out→∃e s',kF (bJ P cf A m body) n s=some (e,s')∧e≠.norm∧QO out e s'
 | 0,σ,s,out,_,h=>by rw [h0] at h; cases h
 | n+1,σ,s,out,hr,h=>by
  obtain⟨e,s',h1,h2⟩:=step n σ s out hr h
  cases e with
  | norm=>
   obtain⟨σ',h3,h4⟩:=h2
   obtain⟨e',S9,h5,h6⟩:=sj h0 step n σ' s' out h3 h4
   exact⟨e',S9,by simp only [kF,h1,Vu,h5],h6⟩
  | exit i=>exact⟨_,s',by simp only [kF,h1,Vu],by simp,h2⟩
  | ret=>exact⟨_,s',by simp only [kF,h1,Vu],by simp,h2⟩
theorem Co {S O:Type}(l:Nat→S→Option O)(Rel:S→St→Prop)(QO:O→Ex→St→Prop){body:Code}(h0:∀σ,l 0 σ=none)
  (step:∀k σ s out,Rel σ s→l (k+1) σ=some out→dp P cf A m body s (D2 l Rel QO k out)) {σ:S} {out:O} (hr:Rel σ s) (h:l m σ=some out) (hQ:∀e s',e≠.norm→QO out e s'→Q e s'):dp P cf A m (.loop body) s Q:=by
 obtain⟨e,s',h1,h2,h3⟩:=sj h0 step m σ s out hr h
 exact⟨e,s',by simp only [bJ,h1],hQ e s' h2 h3⟩
theorem vp {aV:FuncId→b5}{f:FuncId}{fn:Func}{args:List AV}{h:AHeap}{R:AV→AHeap→Prop}(hf:P.funcs[f]? = some fn)(hb:fn.body=some (b7 fn))(hn:WX args.length fn.ntmps=true)
  (he:dp P cf (aV f) m (b7 fn) ⟨mi (aV f).keep args,(aV f).aE.map fun _=>none,h⟩ (fun e s=>(e = .ret∨e = .norm)∧∃r,aM P (s.open (aV f)) fn.results.toList=some r∧R r s.h)) :
  ∃r h',aZ P aV cf m f args h=some (r,h')∧R r h':=by
 obtain⟨e,s,h1,h2,r,h3,h4⟩:=he
 refine⟨r,s.h,?_,h4⟩
 unfold aZ
 rw [hf,Vu,hb,Vu,if_pos (Nat.le_of_ble_eq_true hn),h1,Vu]
 rcases h2 with rfl | rfl<;>simp only [h3,VA]
end
end Go.R
namespace Go.R
open Go
structure bL (α:Type) where
 n:Nat
 f:α→List AV
 len:∀a,(f a).length=n
 pos:n≠0
 small:n≤1024:=by decide
 flat:Bool:=true
 pure:∀a,flat=true→cH (f a)=true∧dn (f a)=f a
 canon:∀a,(f a).map jo=f a
section
variable {α:Type}(E:bL α)
def bL.l (l:List α):List AV:=l.flatMap E.f
def bL.fz (l:List α):AV:=.fz (E.l l) l.length false
variable {E}
theorem bL.eD {a:α}{l:List α}:E.l (a::l)=E.f a++E.l l:=rfl
theorem bL.H6:E.l []=[]:=rfl
theorem bL.hU {a b:List α}:E.l (a++b)=E.l a++E.l b:=by simp [bL.l]
theorem bL.bN:∀{l:List α},(E.l l).length=l.length*E.n
 | []=>by simp [bL.l]
 | a::l=>by rw [bL.eD,VD,E.len,bL.bN,VH,Wv,Nat.one_mul,W4]
theorem bL.nh {l:List α}(h:l.length≤1099511627776):(E.l l).length≤1125899906842624:=by
 rw [bL.bN]
 exact Wj (Nat.mul_le_mul h E.small) (by decide)
theorem bL.vq:∀{l:List α} {i:Nat},(E.l l).drop (i*E.n)=E.l (l.drop i)
 | l,0=>by simp
 | [],i+1=>by simp [bL.l]
 | a::l,i+1=>by
  rw [List.drop_succ_cons,←bL.vq,bL.eD,Wv,Nat.one_mul,List.drop_append,List.drop_of_length_le (by rw [E.len]; omega),V9,E.len,Nat.add_sub_cancel]
theorem bL.D3:∀{l:List α} {i:Nat},(E.l l).take (i*E.n)=E.l (l.take i)
 | l,0=>by simp [bL.l]
 | [],i+1=>by simp [bL.l]
 | a::l,i+1=>by
  rw [bL.eD,List.take_succ_cons,bL.eD,Wv,Nat.one_mul,W4,List.take_append]
  rw [E.len,V6 (by rw [E.len]; omega),WR,bL.D3]
theorem bL.H7 {l:List α}{i:Nat}{a:α}(h:l[i]? = some a){off:Nat}(ho:off<E.n):(E.l l)[i*E.n+off]? = (E.f a)[off]?:=by
 rw [←List.getElem?_drop,bL.vq,VI (VB.1 h).1,(VB.1 h).2,bL.eD,VJ (by rw [E.len]; exact ho)]
theorem bL.D4 {l:List α}{i:Nat}{a:α}(h:l[i]? = some a):((E.l l).drop (i*E.n)).take E.n=E.f a:=by
 rw [bL.vq,VI (VB.1 h).1,(VB.1 h).2,bL.eD,V3 (by rw [E.len]; exact Vy _)]
 rw [V6 (by rw [E.len]; exact Vy _)]
theorem bL.za {l:List α}{i:Nat}{a:α}(h:l[i]? = some a):i*E.n+E.n≤(E.l l).length:=by
 rw [bL.bN]
 have:=(VB.1 h).1
 calc i*E.n+E.n=(i+1)*E.n:=by rw [Wv,Nat.one_mul]
  _≤_:=We _ this
theorem oN:∀{a b:List AV},cH (a++b)=(cH a&&cH b)
 | [],b=>by simp [cH]
 | x::a,b=>by simp [cH,oN,Bool.and_assoc]
theorem oO:∀{a b:List AV},dn (a++b)=dn a++dn b
 | [],b=>rfl
 | x::a,b=>by simp [dn,oO]
theorem bL.nV (hp:E.flat=true):∀{l:List α},cH (E.l l)=true∧dn (E.l l)=E.l l
 | []=>⟨rfl,rfl⟩
 | a::l=>by
  obtain⟨h1,h2⟩:=E.pure a hp
  obtain⟨h3,h4⟩:=bL.nV hp (l:=l)
  rw [bL.eD,oN,oO,h1,h2,h3,h4]
  exact⟨rfl,rfl⟩
theorem bL.vt:∀{l:List α},(E.l l).map jo=E.l l
 | []=>rfl
 | a::l=>by rw [bL.eD,V0,E.canon,bL.vt]
theorem bL.bG {l:List α}(hp:E.flat=true:=by rfl):(E.fz l).dS=true∧(E.fz l).jm=E.fz l:=by
 obtain⟨h1,h2⟩:=bL.nV (E:=E) hp (l:=l)
 exact⟨h1,by show AV.fz (dn (E.l l)) l.length false=_; rw [h2]; rfl⟩
theorem hX:∀(cs vs pre I1:List AV),cs.length=vs.length→dd (pre++cs++I1) pre.length vs=pre++vs++I1
 | [],[],pre,I1,_=>by simp [dd]
 | c::cs,v::vs,pre,I1,h=>by
  have:=hX cs vs (pre++[v]) I1 (by simpa using h)
  simp only [VD,VH,VS,VU] at this
  rw [dd]
  have h2:(pre++c::cs++I1).set pre.length v=pre++[v]++cs++I1:=by
   rw [VK,List.set_append_right _ _ (Vy _),W7]
   simp
  rw [h2,this]
  simp
 | [],_::_,_,_,h=>by simp at h
 | _::_,[],_,_,h=>by simp at h
theorem bL.Lv {l:List α}{i:Nat}{a b:α}(h:l[i]? = some a)(rest:List AV):dd (E.l l++rest) (i*E.n) (E.f b)=E.l (l.set i b)++rest:=by
 have hi:=(VB.1 h).1
 have hl:l=l.take i++a::l.drop (i+1):=by
  conv=>lhs; rw [←Wu i l,VI hi]
  rw [(VB.1 h).2]
 have hs:l.set i b=l.take i++b::l.drop (i+1):=List.set_eq_take_append_cons_drop .. |>.trans (by rw [if_pos hi])
 have e1:E.l l=E.l (l.take i)++E.f a++E.l (l.drop (i+1)):=by
  conv=>lhs; rw [hl]
  rw [bL.hU,bL.eD,VK]
 have e2:(E.l (l.take i)).length=i*E.n:=by rw [bL.bN,Wl,WM (Nat.le_of_lt hi)]
 rw [hs,bL.hU,bL.eD,e1,←e2]
 have:=hX (E.f a) (E.f b) (E.l (l.take i)) (E.l (l.drop (i+1))++rest) (by rw [E.len,E.len])
 simp only [VK] at this ⊢
 exact this
theorem bL.I2 {l:List α}{i:Nat}{a b:α}{off:Nat}{v:AV}(h:l[i]? = some a)(ho:off<E.n)(hb:(E.f a).set off v=E.f b)(rest:List AV):(E.l l++rest).set (i*E.n+off) v=E.l (l.set i b)++rest:=by
 have hi:=(VB.1 h).1
 have hl:l=l.take i++a::l.drop (i+1):=by
  conv=>lhs; rw [←Wu i l,VI hi]
  rw [(VB.1 h).2]
 have hs:l.set i b=l.take i++b::l.drop (i+1):=List.set_eq_take_append_cons_drop .. |>.trans (by rw [if_pos hi])
 have e1:E.l l=E.l (l.take i)++(E.f a++E.l (l.drop (i+1))):=by
  conv=>lhs; rw [hl]
  rw [bL.hU,bL.eD]
 have e2:(E.l (l.take i)).length=i*E.n:=by rw [bL.bN,Wl,WM (Nat.le_of_lt hi)]
 rw [hs,bL.hU,bL.eD,e1,←hb,←e2]
 simp only [VK]
 rw [List.set_append_right _ _ (by omega),List.set_append_left _ _ (by rw [E.len]; omega)]
 congr 2
 simp
end
def ix {α:Type}(l:List α)(i:Int):Option α:=if 0≤i then l[i.toNat]? else none
theorem gT {α:Type}{l:List α}{i:Int}{a:α}(h:ix l i=some a):0≤i∧i<l.length∧l[i.toNat]? = some a:=by
 unfold ix at h
 split at h
 ·rename_i h0
  have:=(VB.1 h).1
  exact⟨h0,by omega,h⟩
 ·cases h
def sk {α:Type}(l:List α)(lo hi:Int):Option (List α):=if 0≤lo∧lo≤hi∧hi≤l.length then some ((l.drop lo.toNat).take (hi.toNat - lo.toNat)) else none
theorem mA {α:Type}{l r:List α}{lo hi:Int}(h:sk l lo hi=some r):0≤lo∧lo≤hi∧hi≤l.length∧r=(l.drop lo.toNat).take (hi.toNat - lo.toNat):=by
 unfold sk at h
 split at h
 ·rename_i h0; cases h; exact⟨h0.1,h0.2.1,h0.2.2,rfl⟩
 ·cases h
def bt (s:ByteArray)(i:Int):Option Int:=if 0≤i then (s.data.toList[i.toNat]?).map fun b=>(b.toNat:Int) else none
inductive Ct where
 | sl (n sz:Nat) (cs:List AV)
 | ob (cs:List AV)
 | mp (es:List (AV × AV))
 | row (e:TypeId) (cs:List AV)
def Cp (h:AHeap)(i:Nat):Ct→Prop
 | .sl n sz cs=>(cs.length=n*sz∧cs.length≤1125899906842624)∧((i=0∧n=0)∨(i≠0∧∃rest,h.get i=some (.cells (cs++rest))))
 | .ob cs=>i≠0∧h.get i=some (.cells cs)
 | .mp es=>i≠0∧h.get i=some (.map es)
 | .row e cs=>i≠0∧h.get i=some (.row e cs)
abbrev Mem:=List (Nat × Ct)
structure Has (h:AHeap)(K:Mem):Prop where
 at_:∀(j i:Nat) (c:Ct),K[j]? = some (i,c)→Cp h i c∧i<h.next
 nd:∀(j j' i:Nat) (c c':Ct),K[j]? = some (i,c)→K[j']? = some (i,c')→i≠0→j=j'
 pos:0<h.next
theorem nW {h h':AHeap}{i:Nat}{c:Ct}(hg:i≠0→h'.get i=h.get i)(h1:Cp h i c):Cp h' i c:=by
 cases c with
 | sl n sz cs=>
  obtain⟨h2,h3⟩:=h1
  refine⟨h2,h3.imp id fun ⟨h4,r,h5⟩=>⟨h4,r,(hg h4).trans h5⟩⟩
 | ob cs=>exact⟨h1.1,(hg h1.1).trans h1.2⟩
 | mp es=>exact⟨h1.1,(hg h1.1).trans h1.2⟩
 | row e cs=>exact⟨h1.1,(hg h1.1).trans h1.2⟩
theorem cY (h:AHeap)(id k:Nat)(o:AObj):(h.put id o).get k=if k=id then some o else h.get k:=by
 simp only [AHeap.put,beq_nat]
 by_cases hk:k=id<;>simp [hk]
theorem xf (h:AHeap)(id k:Nat):(h.kill id).get k=if k=id then none else h.get k:=by
 simp only [AHeap.kill,beq_nat]
 by_cases hk:k=id<;>simp [hk]
theorem Has.D5 {h h':AHeap}{K:Mem}(o:Has h K){j i:Nat}{c:Ct}(hj:K[j]? = some (i,c)){i':Nat}{c':Ct}
  (hg:∀k,k≠i→k<h.next→h'.get k=h.get k) (hn:h.next≤h'.next) (hi:i'=i∨i'=0∨h.next≤i') (hlt:i'<h'.next) (hc:Cp h' i' c'):Has h' (K.set j (i',c')):=by
 refine⟨fun q k d hq=>?_,fun q q' k d d' hq u7 hk=>?_,VW o.pos hn⟩
 ·rw [W3] at hq
  by_cases h1:j=q
  ·subst h1
   rw [if_pos rfl] at hq
   split at hq
   ·cases hq; exact⟨hc,hlt⟩
   ·cases hq
  ·rw [if_neg h1] at hq
   obtain⟨g1,g2⟩:=o.at_ q k d hq
   refine⟨nW (fun hk=>hg k (fun he=>?_) g2) g1,VW g2 hn⟩
   subst he
   exact h1 (o.nd j q k c d hj hq hk)
 ·rw [W3] at hq u7
  have old:∀(q:Nat) (d:Ct),j≠q→K[q]? = some (k,d)→k≠i':=by
   intro x y hne hx he
   rcases hi with h1 | h1 | h1
   ·exact hne (o.nd j x k c y (by rw [he,h1]; exact hj) hx hk)
   ·exact hk (he.trans h1)
   ·have:=(o.at_ x k y hx).2; omega
  by_cases h1:j=q<;>by_cases h2:j=q'
  ·rw [←h1,h2]
  ·subst h1
   rw [if_pos rfl] at hq
   rw [if_neg h2] at u7
   split at hq
   ·cases hq; exact absurd rfl (old q' d' h2 u7)
   ·cases hq
  ·subst h2
   rw [if_pos rfl] at u7
   rw [if_neg h1] at hq
   split at u7
   ·cases u7; exact absurd rfl (old q d h1 hq)
   ·cases u7
  ·rw [if_neg h1] at hq; rw [if_neg h2] at u7
   exact o.nd q q' k d d' hq u7 hk
theorem Has.new {h h':AHeap}{K:Mem}(o:Has h K){i:Nat}{c:Ct}(hg:∀k,k<h.next→h'.get k=h.get k)(hn:h.next≤h'.next)(hi:i=0∨h.next≤i)(hlt:i<h'.next)(hc:Cp h' i c):Has h' ((i,c)::K):=by
 refine⟨fun q k d hq=>?_,fun q q' k d d' hq u7 hk=>?_,VW o.pos hn⟩
 ·cases q with
  | zero=>simp only [Wc,Vw,VC] at hq; obtain⟨rfl,rfl⟩:=hq; exact⟨hc,hlt⟩
  | succ q=>
   simp only [WE] at hq
   obtain⟨g1,g2⟩:=o.at_ q k d hq
   exact⟨nW (fun _=>hg k g2) g1,VW g2 hn⟩
 ·have old:∀(q:Nat) (d:Ct),K[q]? = some (k,d)→k≠i:=by
   intro x y hx he
   rcases hi with h1 | h1
   ·exact hk (he.trans h1)
   ·have:=(o.at_ x k y hx).2; omega
  cases q with
  | zero=>
   simp only [Wc,Vw,VC] at hq
   cases q' with
   | zero=>rfl
   | succ q'=>exact absurd hq.1.symm (old q' d' (by simpa using u7))
  | succ q=>
   cases q' with
   | zero=>
    simp only [Wc,Vw,VC] at u7
    exact absurd u7.1.symm (old q d (by simpa using hq))
   | succ q'=>rw [o.nd q q' k d d' (by simpa using hq) (by simpa using u7) hk]
theorem Has.nil {h:AHeap}{K:Mem}(o:Has h K)(sz:Nat):Has h ((0,.sl 0 sz [])::K):=
 o.new (fun _ _=>rfl) (Vy _) (.inl rfl) o.pos ⟨⟨by simp,by simp⟩,.inl ⟨rfl,rfl⟩⟩
theorem Has.sub {h:AHeap}{K K':Mem}(o:Has h K)(f:Nat→Nat)(hf:∀j p,K'[j]? = some p→K[f j]? = some p)(hi:∀j j',f j=f j'→j=j'):Has h K':=
 ⟨fun j i c hj=>o.at_ (f j) i c (hf j _ hj),fun j j' i c c' hj yu hk=>hi _ _ (o.nd (f j) (f j') i c c' (hf j _ hj) (hf j' _ yu) hk),o.pos⟩
theorem Has.del {h:AHeap}{K:Mem}(o:Has h K)(q:Nat):Has h (K.eraseIdx q):=
 o.sub (fun j=>if j<q then j else j+1) (fun j p hj=>by
  rw [List.getElem?_eraseIdx] at hj
  split at hj
  ·rename_i h1; simpa [h1] using hj
  ·rename_i h1; simpa [h1] using hj) (fun j j' he=>by
   split at he<;>split at he<;>omega)
theorem Has.front {h:AHeap}{K:Mem}(o:Has h K)(q:Nat){p:Nat × Ct}(hq:K[q]? = some p):Has h (p::K.eraseIdx q):=
 o.sub (fun j=>match j with | 0=>q | j+1=>if j<q then j else j+1) (fun j p' hj=>by
  cases j with
  | zero=>simp only [Wc,Vw] at hj; subst hj; exact hq
  | succ j=>
   simp only [WE,List.getElem?_eraseIdx] at hj
   dsimp only
   split at hj
   ·rename_i h1; simpa [h1] using hj
   ·rename_i h1; simpa [h1] using hj) (fun j j' he=>by
   cases j with
   | zero=>cases j' with
    | zero=>rfl
    | succ j'=>dsimp only at he; split at he<;>omega
   | succ j=>cases j' with
    | zero=>dsimp only at he; split at he<;>omega
    | succ j'=>dsimp only at he; split at he<;>split at he<;>omega)
end Go.R
namespace Go.R
open Go
def tu (P:Program)(t:TypeId)(sz b:Nat):Bool:=
 match P.underlying t with
 | some (.slice e)=>match P.info? e with
  | some i=>Wa i.size sz&&Wa i.bytes b&&HO i
  | none=>false
 | _=>false
section
variable {P:Program}{t:TypeId}{sz b:Nat}
theorem iK (h:tu P t sz b=true):∃e i,P.underlying t=some (.slice e)∧P.info? e=some i∧i.size=sz∧i.bytes=b∧HO i=true∧eV P e=some sz:=by
 unfold tu at h
 split at h
 ·rename_i e he
  split at h
  ·rename_i i hi
   simp only [Vx] at h
   have h1:=WB h.1.1
   exact⟨e,i,he,hi,h1,WB h.1.2,h.2,by simp [eV,hi,h1]⟩
  ·cases h
 ·cases h
variable {α:Type}{E:bL α}{h:AHeap}{K:Mem}{l:List α}{a v:α}{i q:Nat}{j:Int}{k:IntKind}{c:AV}{off:Nat}{tf:TypeId}
theorem eW (T:tu P t E.n b=true)(h:ix l j=some a):eM P t (E.fz l) (.int k j)=some (.fp (E.l l) (j.toNat*E.n)):=by
 obtain⟨e,inf,h1,h2,h3,h4,h5,h6⟩:=iK T
 obtain⟨g1,g2,g3⟩:=gT h
 have hle:=bL.za (E:=E) g3
 have hp:=E.pos
 simp only [eM,h1,Vu,h6,bL.fz]
 rw [if_pos ⟨g1,g2,by omega⟩]
theorem Lw (h:l[j.toNat]? = some a):(E.l l).isEmpty=false:=by
 have hle:=bL.za (E:=E) h
 have hp:=E.pos
 cases hl:E.l l with
 | nil=>rw [hl] at hle; simp at hle; omega
 | cons _ _=>rfl
theorem nX (hp:AHeap)(ha:eX P tf=some false)(h:ix l j=some a)(hc:(E.f a)[off]? = some c):bm P hp tf (.fp (E.l l) (j.toNat*E.n+off))=some c:=by
 obtain⟨g1,g2,g3⟩:=gT h
 have ho:off<E.n:=by rw [←E.len a]; exact (VB.1 hc).1
 simp only [bm,jG,Lw g3,VE,if_false,iR,ha,Vu,bL.H7 g3 ho,hc]
theorem ij (hp:AHeap)(ha:eX P tf=some false)(h:ix l j=some a)(hc:(E.f a)[0]? = some c):bm P hp tf (.fp (E.l l) (j.toNat*E.n))=some c:=nX (off:=0) hp ha h hc
theorem ls (hp:AHeap)(ha:eX P tf=some true)(hs:eV P tf=some E.n)(h:ix l j=some a):bm P hp tf (.fp (E.l l) (j.toNat*E.n))=some (.agg (E.f a)):=by
 obtain⟨g1,g2,g3⟩:=gT h
 simp only [bm,jG,Lw g3,VE,if_false,iR,ha,Vu,if_true,hs]
 rw [if_pos (bL.za g3),bL.D4 g3]
theorem rB (o:Has h K)(hq:K[q]? = some (i,.sl l.length E.n (E.l l)))(hj:l[j.toNat]? = some a):i≠0∧∃rest,h.get i=some (.cells (E.l l++rest)):=by
 obtain⟨⟨_,h1⟩,_⟩:=o.at_ _ _ _ hq
 rcases h1 with⟨_,h1⟩| h1
 ·have:=(VB.1 hj).1; omega
 ·exact h1
theorem I3 (T:tu P t sz b=true){n:Nat}(h0:0≤j)(h1:j<n):eM P t (.rs i 0 n sz) (.int k j)=some (.ptr i (0+j.toNat*sz)):=by
 obtain⟨e,inf,g1,g2,g3,g4,g5,g6⟩:=iK T
 simp only [eM,g1,Vu,g6]
 rw [if_pos ⟨trivial,h0,h1⟩]
theorem ui (o:Has h K)(hq:K[q]? = some (i,.sl l.length E.n (E.l l)))(ha:eX P tf=some false)(hj:ix l j=some a)(hc:(E.f a)[off]? = some c):bm P h tf (.ptr i (0+j.toNat*E.n+off))=some c:=by
 obtain⟨g1,g2,g3⟩:=gT hj
 obtain⟨h1,rest,h2⟩:=rB o hq g3
 have ho:off<E.n:=by rw [←E.len a]; exact (VB.1 hc).1
 have hle:=bL.za (E:=E) g3
 simp only [bm,jG,h2,Vu,iR,ha,VE,if_false,VU]
 rw [VJ (by omega),bL.H7 g3 ho,hc]
theorem Cq (o:Has h K)(hq:K[q]? = some (i,.sl l.length E.n (E.l l)))(ha:eX P tf=some false)(hj:ix l j=some a)(hc:(E.f a)[0]? = some c):bm P h tf (.ptr i (0+j.toNat*E.n))=some c:=ui (off:=0) o hq ha hj hc
theorem Cr (o:Has h K)(hq:K[q]? = some (i,.sl l.length E.n (E.l l)))(ha:eX P tf=some true)(hs:eV P tf=some E.n)(hj:ix l j=some a):bm P h tf (.ptr i (0+j.toNat*E.n))=some (.agg (E.f a)):=by
 obtain⟨g1,g2,g3⟩:=gT hj
 obtain⟨h1,rest,h2⟩:=rB o hq g3
 have hle:=bL.za (E:=E) g3
 simp only [bm,jG,h2,Vu,iR,ha,if_true,hs,VU]
 rw [if_pos (by rw [VD]; omega),WQ (by omega),V3 (by rw [Ww]; omega),bL.D4 g3]
theorem jy (o:Has h K){c':Ct}{ct:Ct}(hq:K[q]? = some (i,ct)){ob:AObj}(hc:Cp (h.put i ob) i c'):Has (h.put i ob) (K.set q (i,c')):=
 o.D5 hq (fun k hk _=>by rw [cY,if_neg hk]) (WI _) (.inl rfl) (WO (o.at_ _ _ _ hq).2) hc
theorem D6 (o:Has h K)(hq:K[q]? = some (i,.sl l.length E.n (E.l l)))(hs:eV P tf=some E.n)(hj:ix l j=some a){x:AV}(hv:x.cells=E.f v)(od:(E.f v).all AV.bS=true) :
  ∃h',iV P h tf (.ptr i (0+j.toNat*E.n)) x=some h'∧Has h' (K.set q (i,.sl l.length E.n (E.l (l.set j.toNat v)))):=by
 obtain⟨g1,g2,g3⟩:=gT hj
 obtain⟨h1,rest,h2⟩:=rB o hq g3
 have hle:=bL.za (E:=E) g3
 refine⟨_,?_,jy o hq (ob:=.cells (E.l (l.set j.toNat v)++rest)) ⟨⟨by rw [bL.bN,VG],by rw [bL.bN,VG,←bL.bN]; exact (o.at_ _ _ _ hq).1.1.2⟩,.inr ⟨h1,rest,by rw [cY,if_pos rfl]⟩⟩⟩
 simp only [iV,h2,Vu,gQ,hs,hv,VU]
 rw [if_pos ⟨E.len v,od,by rw [VD]; omega⟩,VA,bL.Lv g3]
theorem Cs (o:Has h K)(hq:K[q]? = some (i,.sl l.length E.n (E.l l)))(hs:eV P tf=some 1)(hj:ix l j=some a){x:AV}(hx:x.cells=[x])(od:x.bS=true)(ho:off<E.n)(hb:(E.f a).set off x=E.f v) :
  ∃h',iV P h tf (.ptr i (0+j.toNat*E.n+off)) x=some h'∧Has h' (K.set q (i,.sl l.length E.n (E.l (l.set j.toNat v)))):=by
 obtain⟨g1,g2,g3⟩:=gT hj
 obtain⟨h1,rest,h2⟩:=rB o hq g3
 have hle:=bL.za (E:=E) g3
 refine⟨_,?_,jy o hq (ob:=.cells (E.l (l.set j.toNat v)++rest)) ⟨⟨by rw [bL.bN,VG],by rw [bL.bN,VG,←bL.bN]; exact (o.at_ _ _ _ hq).1.1.2⟩,.inr ⟨h1,rest,by rw [cY,if_pos rfl]⟩⟩⟩
 simp only [iV,h2,Vu,gQ,hs,hx,VU]
 rw [if_pos ⟨rfl,by simp [od],by rw [VD]; omega⟩,VA]
 simp only [dd]
 rw [bL.I2 g3 ho hb]
def app (b:Nat){α:Type}(l l2:List α):Option (List α):=if (l.length+l2.length)*(b+1)≤1099511627776 then some (l++l2) else none
theorem xg {l l2 r:List α}(h:app b l l2=some r):(l.length+l2.length)*b≤gx∧l.length+l2.length≤gx∧r=l++l2:=by
 unfold app at h
 split at h
 ·rename_i h0
  cases h
  rw [Nat.mul_add,Nat.mul_one] at h0
  refine⟨by simp only [gx]; omega,by simp only [gx]; omega,rfl⟩
 ·cases h
theorem D7 {t2:TypeId}{l2 r:List α}{x:AV}(T:tu P t E.n b=true)(o:Has h K)(hq:K[q]? = some (i,.sl l.length E.n (E.l l)))(hx:eJ h E.n x=some (E.l l2,l2.length))(gB:iD P t2 x=true)(hr:app b l l2=some r) :
  ∃i' h',dA P h t t2 (.rs i 0 l.length E.n) x=some (.rs i' 0 r.length E.n,h')∧Has h' (K.set q (i',.sl r.length E.n (E.l r))):=by
 obtain⟨e,inf,g1,g2,g3,g4,g5,g6⟩:=iK T
 obtain⟨r1,r2,rfl⟩:=xg hr
 obtain⟨⟨⟨hlen,qn⟩,k8⟩,hlt⟩:=o.at_ _ _ _ hq
 have lV:=E.pos
 have hb:inf.size=E.n:=g3
 have jN:¬(inf.size=0∨iD P t2 x=false∨HO inf=false):=by rw [gB,g5,hb]; simp [lV]
 subst g4
 by_cases h0:l2=[]
 ·subst h0
  refine⟨i,h,?_,?_⟩
  ·simp only [dA,g1,Vu,g2,hb,hx,gB,g5]
   rw [if_neg (by simp [lV])]
   simp only [VS,Nat.zero_mul,W5,WN]
   by_cases hi:i=0
   ·subst hi
    rcases k8 with⟨_,hl0⟩| h1
    ·simp [hl0,hb,gx]
    ·exact absurd rfl h1.1
   ·rcases k8 with h1 | ⟨_,rest,h1⟩
    ·exact absurd h1.1 hi
    ·rw [if_neg hi,h1]
     simp only [Vu]
     rw [if_neg (by rw [VD,hlen]; simp only [VS,W5] at r1 r2; simp; omega)]
     simp
  ·rw [WN]
   have:K.set q (i,.sl l.length E.n (E.l l))=K:=by
    apply W2
    intro j
    rw [W3]
    by_cases hj:q=j
    ·subst hj; rw [if_pos rfl,if_pos (VB.1 hq).1,hq]
    ·rw [if_neg hj]
   rw [this]; exact o
 ·have Gr:l2.length≠0:=by simpa using h0
  by_cases hi:i=0
  ·subst hi
   rcases k8 with⟨_,hl0⟩| h1
   rotate_left
   ·exact absurd rfl h1.1
   have hnil:l=[]:=by simpa using hl0
   subst hnil
   refine⟨h.next,h.alloc (.cells (E.l l2)),?_,?_⟩
   ·simp only [dA,g1,Vu,g2,hb,hx,gB,g5]
    rw [if_neg (by simp [lV])]
    simp only [if_true]
    simp only [VS,VU] at r1 r2
    rw [if_neg (by simp; omega),if_neg Gr]
    simp
   ·refine o.D5 hq (fun k _ hk=>by rw [AHeap.alloc,cY,if_neg (by omega)]) (WI _) (.inr (.inr (Vy _))) (Wh _) ⟨⟨bL.bN,bL.nh (by simp only [gx] at r2; simp at r2 ⊢; omega)⟩,.inr ⟨by have:=o.pos; omega,[],?_⟩⟩
    rw [AHeap.alloc,cY,if_pos rfl]; simp
  ·rcases k8 with h1 | ⟨_,rest,h1⟩
   ·exact absurd h1.1 hi
   refine⟨h.next,(h.kill i).put h.next (.cells (E.l (l++l2))),?_,?_⟩
   ·simp only [dA,g1,Vu,g2,hb,hx,gB,g5]
    rw [if_neg (by simp [lV]),if_neg hi,h1]
    simp only [Vu]
    rw [if_neg (by rw [VD,hlen]; simp; omega),if_neg Gr]
    rw [Wd,V3 (by rw [hlen]; exact Vy _),V6 (by rw [hlen]; exact Vy _),bL.hU,VD]
   ·refine o.D5 hq (fun k hk r9=>by rw [cY,if_neg (by omega),xf,if_neg hk]) (by show h.next≤h.next+1+1; omega) (.inr (.inr (Vy _))) (by show h.next<h.next+1+1; omega) ⟨⟨bL.bN,bL.nh (by simp only [gx] at r2; simp at r2 ⊢; omega)⟩,.inr ⟨by have:=o.pos; omega,[],?_⟩⟩
    rw [cY,if_pos rfl]; simp
def De (b:Nat){α:Type}(n:Int)(z:α):Option (List α):=if 0≤n∧n.toNat*(b+1)≤1099511627776 then some (VM n.toNat z) else none
theorem vu {n:Int}{z:α}{zv:AV}{r:List α}(T:tu P t E.n b=true)(o:Has h K)(e0:TypeId)(Ta:P.underlying t=some (.slice e0))(hz0:iC P e0=some zv)(NB:zv.cells=E.f z)(od:(E.f z).all AV.bS=true)(hr:De b n z=some r) :
  ∃i h',gF P h t (.int .i64 n) (.int .i64 n)=some (.rs i 0 r.length E.n,h')∧Has h' ((i,.sl r.length E.n (E.l r))::K):=by
 have hz:∀e,P.underlying t=some (.slice e)→iC P e=some zv:=fun e he=>by
  rw [Ta] at he; cases he; exact hz0
 unfold De at hr
 split at hr
 rotate_left
 ·cases hr
 rename_i jN
 obtain⟨h0,h1⟩:=jN
 cases hr
 obtain⟨e,inf,g1,g2,g3,g4,g5,g6⟩:=iK T
 have lV:=E.pos
 have N3:∀k,ir (E.f z) k=E.l (VM k z):=by
  intro k
  induction k with
  | zero=>rfl
  | succ k ih=>rw [ir,ih,List.replicate_succ,bL.eD]
 refine⟨h.next,h.alloc (.cells (E.l (VM n.toNat z))),?_,o.new (fun k hk=>by rw [AHeap.alloc,cY,if_neg (by omega)]) (WI _) (.inr (Vy _)) (Wh _) ⟨⟨bL.bN,bL.nh (by rw [WZ]; rw [Nat.mul_add,Nat.mul_one] at h1; omega)⟩,.inr ⟨by have:=o.pos; omega,[],by rw [AHeap.alloc,cY,if_pos rfl]; simp⟩⟩⟩
 rw [Nat.mul_add,Nat.mul_one] at h1
 simp only [gF,g1,Vu,g2,hz e g1,NB,E.len,N3,WZ,g3,g4]
 have hb:n*(b:Int)≤gx:=by
  have:n*(b:Int)=((n.toNat*b:Nat):Int):=by
   rw [Int.natCast_mul,Int.toNat_of_nonneg h0]
  simp only [gx]
  rw [this]
  omega
 rw [if_pos ⟨h0,Int.le_refl _,hb,trivial,lV,by omega,od⟩]
theorem D8 (o:Has h K)(hq:K[q]? = some (i,.sl l.length E.n (E.l l)))(hp:E.flat=true:=by rfl):∃h',je 0 h (.rs i 0 l.length E.n)=some (E.fz l,h')∧Has h' (K.eraseIdx q):=by
 obtain⟨⟨⟨hlen,qn⟩,k8⟩,hlt⟩:=o.at_ _ _ _ hq
 rcases k8 with⟨h0,h1⟩| ⟨h0,rest,h1⟩
 ·have:l=[]:=by simpa using h1
  subst this
  exact⟨h,by simp [je,h0,bL.fz,bL.l],o.del q⟩
 ·refine⟨h.kill i,?_,?_⟩
  ·simp only [je]
   rw [if_neg h0,h1]
   simp only [Vu]
   have e1:((E.l l++rest).drop 0).take (l.length*E.n)=E.l l:=by
    rw [Wd,V3 (by rw [hlen]; exact Vy _),V6 (by rw [hlen]; exact Vy _)]
   rw [e1,if_pos (by rw [VD,hlen]; omega),pE (bL.nV hp).1]
   rfl
  ·have o2:=o.D5 (i':=0) (c':=.sl 0 1 []) (h':=h.kill i) hq (fun k hk _=>by rw [xf,if_neg hk]) (WI _) (.inr (.inl rfl)) (Nat.succ_pos _) ⟨⟨by simp,by simp⟩,.inl ⟨rfl,rfl⟩⟩
   have:=o2.del q
   rwa [List.eraseIdx_set_eq] at this
variable {n:Nat}
theorem ck (o:Has h K)(hq:K[q]? = some (i,.sl n E.n (E.l l))):n=l.length:=by
 have h1:=(o.at_ _ _ _ hq).1.1.1
 rw [bL.bN] at h1
 exact (Nat.eq_of_mul_eq_mul_right (Nat.pos_of_ne_zero E.pos) h1).symm
theorem bo (T:tu P t E.n b=true)(o:Has h K)(hq:K[q]? = some (i,.sl n E.n (E.l l)))(hj:ix l j=some a):eM P t (.rs i 0 n E.n) (.int k j)=some (.ptr i (0+j.toNat*E.n)):=by
 have hn:=ck o hq
 subst hn
 exact I3 T (gT hj).1 (gT hj).2.1
theorem Al (o:Has h K)(hq:K[q]? = some (i,.sl n E.n (E.l l)))(ha:eX P tf=some false)(hj:ix l j=some a)(hc:(E.f a)[off]? = some c):bm P h tf (.ptr i (0+j.toNat*E.n+off))=some c:=by
 have hn:=ck o hq
 subst hn
 exact ui o hq ha hj hc
theorem dF (o:Has h K)(hq:K[q]? = some (i,.sl n E.n (E.l l)))(ha:eX P tf=some false)(hj:ix l j=some a)(hc:(E.f a)[0]? = some c):bm P h tf (.ptr i (0+j.toNat*E.n))=some c:=by
 have hn:=ck o hq
 subst hn
 exact Cq o hq ha hj hc
theorem vw (o:Has h K)(hq:K[q]? = some (i,.sl n E.n (E.l l)))(ha:eX P tf=some true)(hs:eV P tf=some E.n)(hj:ix l j=some a):bm P h tf (.ptr i (0+j.toNat*E.n))=some (.agg (E.f a)):=by
 have hn:=ck o hq
 subst hn
 exact Cr o hq ha hs hj
theorem fF (o:Has h K)(hq:K[q]? = some (i,.sl n E.n (E.l l)))(hs:eV P tf=some E.n)(hj:ix l j=some a){x:AV}(hv:x.cells=E.f v)(od:(E.f v).all AV.bS=true) :
  ∃h',iV P h tf (.ptr i (0+j.toNat*E.n)) x=some h'∧Has h' (K.set q (i,.sl n E.n (E.l (l.set j.toNat v)))):=by
 have hn:=ck o hq
 subst hn
 exact D6 o hq hs hj hv od
theorem GO (o:Has h K)(hq:K[q]? = some (i,.sl n E.n (E.l l)))(hs:eV P tf=some 1)(hj:ix l j=some a){x:AV}(hx:x.cells=[x])(od:x.bS=true)(ho:off<E.n)(hb:(E.f a).set off x=E.f v) :
  ∃h',iV P h tf (.ptr i (0+j.toNat*E.n+off)) x=some h'∧Has h' (K.set q (i,.sl n E.n (E.l (l.set j.toNat v)))):=by
 have hn:=ck o hq
 subst hn
 exact Cs o hq hs hj hx od ho hb
theorem gH {t2:TypeId}{l2 r:List α}{x:AV}(T:tu P t E.n b=true)(o:Has h K)(hq:K[q]? = some (i,.sl n E.n (E.l l)))(hx:eJ h E.n x=some (E.l l2,l2.length))(gB:iD P t2 x=true)(hr:app b l l2=some r) :
  ∃i' h',dA P h t t2 (.rs i 0 n E.n) x=some (.rs i' 0 r.length E.n,h')∧Has h' (K.set q (i',.sl r.length E.n (E.l r))):=by
 have hn:=ck o hq
 subst hn
 exact D7 T o hq hx gB hr
theorem pK (o:Has h K)(hq:K[q]? = some (i,.sl n E.n (E.l l)))(hp:E.flat=true:=by rfl):∃h',je 0 h (.rs i 0 n E.n)=some (E.fz l,h')∧Has h' (K.eraseIdx q):=by
 have hn:=ck o hq
 subst hn
 exact D8 o hq hp
end
end Go.R
namespace Go.R
open Go
structure aq where
 kind:Int
 int:Int
 label:ByteArray
 args:List Int
structure br where
 nodes:List aq
 root:Int
def eI (k:IntKind):bL Int:={n:=1,f:=fun a=>[.int k a],len:=fun _=>rfl,pos:=by decide,pure:=fun _ _=>⟨rfl,rfl⟩,canon:=fun _=>rfl}
abbrev af:bL Int:=eI .i64
abbrev mB:bL Int:=eI .u8
def mC:bL Bool:={n:=1,f:=fun a=>[.bool a],len:=fun _=>rfl,pos:=by decide,pure:=fun _ _=>⟨rfl,rfl⟩,canon:=fun _=>rfl}
theorem pure_cons {x:AV}{xs:List AV}(h:x.dS=true∧x.jm=x)(k:cH xs=true∧dn xs=xs):cH (x::xs)=true∧dn (x::xs)=x::xs:=
 ⟨by simp [cH,h.1,k.1],by simp [dn,h.2,k.2]⟩
theorem pure_nil:cH []=true∧dn []=[]:=⟨rfl,rfl⟩
theorem ff {k:IntKind}{n:Int}:(AV.int k n).dS=true∧(AV.int k n).jm = .int k n:=⟨rfl,rfl⟩
theorem mD {s:ByteArray}:(AV.str s).dS=true∧(AV.str s).jm = .str s:=⟨rfl,rfl⟩
theorem dM {b:Bool}:(AV.bool b).dS=true∧(AV.bool b).jm = .bool b:=⟨rfl,rfl⟩
def ah:bL aq:={n:=4,f:=fun x=>[.int .i64 x.kind,.int .i64 x.int,.str x.label,af.fz x.args],len:=fun _=>rfl,pos:=by decide,pure:=fun x _=>pure_cons ff (pure_cons ff (pure_cons mD (pure_cons bL.bG pure_nil))),canon:=fun _=>rfl}
end Go.R
namespace Go.R
open Go
theorem GP {b:Bool}(h:b=false):¬b=true:=by rw [h]; decide
section
variable {P:Program}{cf:CallF}{A:b5}{m:Nat}
theorem uj {c:Code}{s:St}{Q R:Ex→St→Prop}(h:dp P cf A m c s Q)(k:∀e s',Q e s'→R e s'):dp P cf A m c s R:=by
 obtain⟨e,s',h1,h2⟩:=h
 exact⟨e,s',h1,k _ _ h2⟩
theorem aH {c:Code}{s:St}{Q:St→Prop}{R:Ex→St→Prop}(hQ:∀e s',(e = .ret∨e = .norm)∧Q s'→R e s')(h:dp P cf A m c s (fun e s'=>(e = .ret∨e = .norm)∧Q s')):dp P cf A m c s R:=uj h hQ
end
def ik:Nat:=1125899906842630
def jR (k:Nat)(h:AHeap)(x y:AV):Prop:=∀n,ik+k≤n→cb h n x=some y
def aO (k:Nat)(h:AHeap)(x y:List AV):Prop:=∀n,ik+k≤n→bq h n x=some y
def N4 (h:AHeap)(x y:AV):Prop:=jR 4503599627370496 h x y
section
variable {h:AHeap}{α:Type}{E:bL α}{l:List α}{K:Mem}{q i:Nat}
theorem jR.mono {k k':Nat}{x y:AV}(hk:k≤k')(f:jR k h x y):jR k' h x y:=fun n hn=>f n (by omega)
theorem Gp {k:Nat}{x y:AV}(f:jR k h x y)(hk:k≤4503599627370496:=by decide):N4 h x y:=f.mono hk
theorem ni {n:Nat}(h:ik≤n):∃k,n=k+1∧ik≤k+1:=⟨n - 1,by simp only [ik] at h; omega,by omega⟩
theorem lu {x:AV}(h1:x.dS=true)(h2:∀n,cb h (n+1) x=if x.dS then some x.jm else none){y:AV}(h3:x.jm=y):jR 0 h x y:=fun n hn=>by
 obtain⟨k,rfl,_⟩:=ni (show ik≤n by omega)
 rw [h2,h1,h3]; rfl
theorem bB {k:IntKind}{n:Int}:jR 0 h (.int k n) (.int k n):=lu rfl (fun _=>rfl) rfl
theorem fD {b:Bool}:jR 0 h (.bool b) (.bool b):=lu rfl (fun _=>rfl) rfl
theorem cU {s:ByteArray}:jR 0 h (.str s) (.str s):=lu rfl (fun _=>rfl) rfl
theorem fy (hp:E.flat=true:=by rfl):jR 0 h (E.fz l) (E.fz l):=lu (bL.bG hp).1 (fun _=>rfl) (bL.bG hp).2
theorem sm {cs:List AV}(h1:(cH cs=true))(h2:dn cs=E.l l){n:Nat}{b:Bool}(h3:n=l.length):jR 0 h (.fz cs n b) (E.fz l):=by
 refine lu (by simpa [AV.dS] using h1) (fun _=>rfl) ?_
 subst h3
 show AV.fz (dn cs) l.length false=_
 rw [h2]; rfl
theorem nE:∀{cs:List AV} {n:Nat},cH cs=true→(∀x∈cs,∀n,cb h (n+1) x=if x.dS then some x.jm else none)→cs.length+1<n→bq h n cs=some (dn cs)
 | [],n,_,_,hn=>by
  obtain⟨k,rfl⟩:∃k,n=k+1:=⟨n - 1,by omega⟩
  rfl
 | x::cs,n,h1,h2,hn=>by
  obtain⟨k,rfl⟩:∃k,n=k+1+1:=⟨n - 2,by simp at hn; omega⟩
  simp only [cH,Vx] at h1
  simp only [bq]
  rw [h2 x (by simp) k,h1.1]
  simp only [if_true,Vu]
  rw [nE h1.2 (fun y hy=>h2 y (by simp [hy])) (by simp at hn; omega)]
  rfl
def xh:AV→Bool
 | .agg _ | .tup _ | .fn _ _=>false
 | _=>true
theorem D9 {x:AV}(hf:xh x=true)(hn:x.dS=true)(n:Nat):cb h (n+1) x=if x.dS then some x.jm else none:=by
 cases x<;>first | rfl | (simp [AV.dS] at hn; done) | (simp [xh] at hf; done)
theorem GQ (o:Has h K)(hq:K[q]? = some (i,.sl l.length E.n (E.l l)))(hf:∀a:α,(E.f a).all xh=true)(hp:E.flat=true:=by rfl):jR 0 h (.rs i 0 l.length E.n) (E.fz l):=fun n hn=>by
 obtain⟨⟨⟨hlen,qn⟩,k8⟩,hlt⟩:=o.at_ _ _ _ hq
 obtain⟨k,rfl,hk⟩:=ni (show ik≤n by omega)
 simp only [cb]
 rcases k8 with⟨h0,h1⟩| ⟨h0,rest,h1⟩
 ·have:l=[]:=by simpa using h1
  subst this
  simp [h0,bL.fz,bL.l]
 ·rw [if_neg h0,h1]
  simp only [Vu]
  have e1:((E.l l++rest).drop 0).take (l.length*E.n)=E.l l:=by
   rw [Wd,V3 (by rw [hlen]; exact Vy _),V6 (by rw [hlen]; exact Vy _)]
  rw [if_pos (by rw [VD,hlen]; omega),e1,nE (bL.nV hp).1 (fun x hx=>?_) (by simp only [ik] at hk; omega),(bL.nV hp).2]
  ·rfl
  ·have hnx:x.dS=true:=by
    have:∀(cs:List AV),cH cs=true→x∈cs→x.dS=true:=by
     intro cs
     induction cs with
     | nil=>intro _ h; cases h
     | cons y ys ih=>
      intro h hm
      simp only [cH,Vx] at h
      rcases VT.1 hm with rfl | hm
      ·exact h.1
      ·exact ih h.2 hm
    exact this _ (bL.nV hp).1 hx
   have Tb:xh x=true:=by
    unfold bL.l at hx
    rw [List.mem_flatMap] at hx
    obtain⟨a,_,ha⟩:=hx
    exact VO.1 (hf a) x ha
   exact fun n=>D9 Tb hnx n
theorem eh {n:Nat}(o:Has h K)(hq:K[q]? = some (i,.sl n E.n (E.l l)))(hf:∀a:α,(E.f a).all xh=true)(hp:E.flat=true:=by rfl):jR 0 h (.rs i 0 n E.n) (E.fz l):=by
 have hn:=ck o hq
 subst hn
 exact GQ o hq hf hp
theorem ay:aO 0 h [] []:=fun n hn=>by
 obtain⟨k,rfl,_⟩:=ni (show ik≤n by omega)
 rfl
theorem ai {k1 k2:Nat}{x y:AV}{xs ys:List AV}(f:jR k1 h x y)(g:aO k2 h xs ys):aO (k1+k2+1) h (x::xs) (y::ys):=fun n hn=>by
 obtain⟨k,rfl⟩:∃k,n=k+1:=⟨n - 1,by omega⟩
 simp only [bq]
 rw [f k (by omega),g k (by omega)]
 rfl
theorem jS {k:Nat}{xs ys:List AV}(f:aO k h xs ys):jR (k+1) h (.agg xs) (.agg ys):=fun n hn=>by
 obtain⟨k,rfl⟩:∃k,n=k+1:=⟨n - 1,by omega⟩
 simp only [cb]
 rw [f k (by omega)]; rfl
end
def jl (k:IntKind)(x:Int)(n:Nat):Int:=x.fdiv (2 ^ (min n k.bits))
section
variable {P:Program}{t:TypeId}{b:Nat}{α:Type}{E:bL α}{h:AHeap}{K:Mem}{l r:List α}{i q:Nat}{j lo hi:Int}{k k':IntKind}
theorem vz {s:ByteArray}{v:Int}(hu:P.underlying t=some .string)(h:bt s j=some v):pw P t (.str s) (.int k j)=some (.int .u8 v):=by
 unfold bt at h
 split at h
 ·rename_i h0
  rw [Vv] at h
  obtain⟨b,hb,rfl⟩:=h
  simp only [pw,hu,Vu,h0,if_true,hb,VA]
 ·cases h
theorem xi (h:sk l lo hi=some r):(((E.l l).drop (lo.toNat*E.n)).take ((hi.toNat - lo.toNat)*E.n))=E.l r∧r.length=hi.toNat - lo.toNat:=by
 obtain⟨h0,h1,h2,rfl⟩:=mA h
 refine⟨by rw [bL.vq,bL.D3],?_⟩
 rw [Wl,Ww]
 omega
theorem Ea (o:Has h K)(hq:K[q]? = some (i,.sl l.length E.n (E.l l)))(T:tu P t E.n b=true)(hs:sk l 0 hi=some r) :
  iS P t (.rs i 0 l.length E.n) none (some (.int k hi)) none=some (.rs i 0 r.length E.n)∧Has h (K.set q (i,.sl r.length E.n (E.l r))):=by
 obtain⟨e,inf,g1,g2,g3,g4,g5,g6⟩:=iK T
 obtain⟨h0,h1,h2,hr⟩:=mA hs
 obtain⟨h3,h4⟩:=xi (E:=E) hs
 simp only [Int.toNat_zero,Nat.sub_zero] at h4 hr
 have y5:r=l.take hi.toNat:=by rw [hr]; simp
 refine⟨?_,?_⟩
 ·simp only [iS,g1,Vu,g6,if_true,jb]
  rw [if_pos ⟨by omega,h2⟩]
  simp only [Vu,VA,Nat.zero_mul,W5,Nat.sub_zero,h4]
 ·obtain⟨⟨⟨hlen,qn⟩,k8⟩,hlt⟩:=o.at_ _ _ _ hq
  refine o.D5 hq (fun _ _ _=>rfl) (Vy _) (.inl rfl) hlt ⟨⟨bL.bN,?_⟩,?_⟩
  ·rw [bL.bN]
   refine Wj (We _ ?_) (hlen ▸ qn)
   rw [h4]; omega
  ·rcases k8 with⟨h5,h6⟩| ⟨h5,rest,h6⟩
   ·left; exact⟨h5,by rw [h4]; omega⟩
   ·right
    refine⟨h5,E.l (l.drop hi.toNat)++rest,?_⟩
    rw [h6,y5,←VK,←bL.hU,Wu]
theorem I4 {n:Nat}(o:Has h K)(hq:K[q]? = some (i,.sl n E.n (E.l l)))(T:tu P t E.n b=true)(hs:sk l 0 hi=some r) :
  iS P t (.rs i 0 n E.n) none (some (.int k hi)) none=some (.rs i 0 r.length E.n)∧Has h (K.set q (i,.sl r.length E.n (E.l r))):=by
 have hn:=ck o hq
 subst hn
 exact Ea o hq T hs
end
theorem ar {P:Program}{cf:CallF}{m:Nat}{aV:FuncId→b5}{f:FuncId}{fn:Func}{A:b5}(ha:aV f=A){args:List AV}{h:AHeap}{R:AV→AHeap→Prop}(hf:P.funcs[f]? = some fn)(hb:fn.body=some (b7 fn))(hn:WX args.length fn.ntmps=true)
  (he:dp P cf A m (b7 fn) ⟨mi A.keep args,A.aE.map fun _=>none,h⟩ (fun e s=>(e = .ret∨e = .norm)∧∃r,aM P (s.open A) fn.results.toList=some r∧R r s.h)) :
  ∃r h',aZ P aV cf m f args h=some (r,h')∧R r h':=by
 subst ha
 exact vp hf hb hn he
def Eb (a b:ByteArray):Bool:=Op.bytesLess a.data.toList b.data.toList||a.data.toList==b.data.toList
end Go.R
namespace Go.R
open Go
mutual
theorem vA {h:AHeap}:∀(n:Nat) (x y:AV),x.dS=true→cb h n x=some y→y=x.jm
 | 0,x,y,_,h=>by simp [cb] at h
 | n+1,x,y,hn,h=>by
  cases x with
  | agg cs=>
   simp only [cb,Vv] at h
   obtain⟨eY,hcs,rfl⟩:=h
   rw [gI n cs eY (by simpa [AV.dS] using hn) hcs]; rfl
  | tup cs=>
   simp only [cb,Vv] at h
   obtain⟨eY,hcs,rfl⟩:=h
   rw [gI n cs eY (by simpa [AV.dS] using hn) hcs]; rfl
  | fn f cs=>
   simp only [cb,Vv] at h
   obtain⟨eY,hcs,rfl⟩:=h
   rw [gI n cs eY (by simpa [AV.dS] using hn) hcs]; rfl
  | ptr _ _=>simp [AV.dS] at hn
  | rs _ _ _ _=>simp [AV.dS] at hn
  | _=>simp only [cb,hn,if_true,Vw] at h; exact h.symm
theorem gI {h:AHeap}:∀(n:Nat) (xs ys:List AV),cH xs=true→bq h n xs=some ys→ys=dn xs
 | 0,xs,ys,_,h=>by simp [bq] at h
 | n+1,[],ys,_,h=>by simp only [bq,Vw] at h; exact h.symm
 | n+1,x::xs,ys,hn,h=>by
  simp only [cH,Vx] at hn
  simp only [bq,Vt,Vv] at h
  obtain⟨y,hy,zs,hz,rfl⟩:=h
  rw [vA n x y hn.1 hy,gI n xs zs hn.2 hz]; rfl
end
mutual
theorem uk {h:AHeap}:∀(n:Nat) (x y:AV),fS h n x=some y→cb h n x=some y
 | 0,x,y,h=>by simp [fS] at h
 | n+1,x,y,h=>by
  unfold fS at h
  split at h
  ·exact h
  ·exact h
  ·exact h
  ·exact h
  ·exact h
  ·exact h
  ·exact h
  ·exact h
  ·rename_i id off len iq
   simp only [cb]
   split at h
   ·rename_i h0; rw [if_pos h0]; exact h
   ·rename_i h0
    rw [if_neg h0]
    rw [Vt] at h ⊢
    obtain⟨ob,ho,h⟩:=h
    refine⟨ob,ho,?_⟩
    cases ob with
    | map es=>cases h
    | row t cs=>cases h
    | cells cs=>
     simp only at h ⊢
     split at h
     ·rename_i hle
      rw [if_pos hle]
      rw [Vv] at h ⊢
      obtain⟨eY,hcs,h2⟩:=h
      exact⟨eY,ke n _ _ hcs,h2⟩
     ·cases h
  ·simp only [cb]
   rw [Vv] at h ⊢
   obtain⟨eY,hcs,h2⟩:=h
   exact⟨eY,ke n _ _ hcs,h2⟩
  ·simp only [cb]
   rw [Vv] at h ⊢
   obtain⟨eY,hcs,h2⟩:=h
   exact⟨eY,ke n _ _ hcs,h2⟩
  ·cases h
theorem ke {h:AHeap}:∀(n:Nat) (xs ys:List AV),de h n xs=some ys→bq h n xs=some ys
 | 0,xs,ys,h=>by simp [de] at h
 | n+1,[],ys,h=>h
 | n+1,x::xs,ys,h=>by
  simp only [de,bq,Vt,Vv] at h ⊢
  obtain⟨y,hy,zs,hz,h2⟩:=h
  exact⟨y,uk n x y hy,zs,ke n xs zs hz,h2⟩
end
def xj (k:Nat)(h:AHeap)(x y:AV):Prop:=∀n,ik+k≤n→fS h n x=some y
def GR (k:Nat)(h:AHeap)(x y:List AV):Prop:=∀n,ik+k≤n→de h n x=some y
def fA (h:AHeap)(x y:AV):Prop:=xj 4503599627370496 h x y
section
variable {h:AHeap}{α:Type}{E:bL α}{l:List α}{K:Mem}{q i:Nat}
theorem fA.Gp {x y:AV}(f:fA h x y):N4 h x y:=fun n hn=>uk _ _ _ (f n hn)
theorem dB {k:Nat}{x y:AV}(f:xj k h x y)(hk:k≤4503599627370496:=by decide):fA h x y:=fun n hn=>f n (by omega)
theorem Am {x y:AV}(h2:∀n,fS h (n+1) x=some y):xj 0 h x y:=fun n hn=>by
 obtain⟨k,rfl,_⟩:=ni (show ik≤n by omega)
 exact h2 k
theorem dh {k:IntKind}{n:Int}:xj 0 h (.int k n) (.int k n):=Am fun _=>rfl
theorem aD {b:Bool}:xj 0 h (.bool b) (.bool b):=Am fun _=>rfl
def Ec:AV→Bool
 | .int _ _ | .bool _ | .str _=>true
 | _=>false
theorem mE:∀{cs:List AV} {n:Nat},cs.all Ec=true→cs.length+1<n→de h n cs=some cs
 | [],n,_,hn=>by
  obtain⟨k,rfl⟩:∃k,n=k+1:=⟨n - 1,by omega⟩
  rfl
 | x::cs,n,h1,hn=>by
  obtain⟨k,rfl⟩:∃k,n=k+1+1:=⟨n - 2,by simp at hn; omega⟩
  simp only [Wi,Vx] at h1
  simp only [de]
  have:fS h (k+1) x=some x:=by cases x<;>first | rfl | (simp [Ec] at h1)
  rw [this,Vu,mE h1.2 (by simp at hn; omega)]
  rfl
theorem H8 {n:Nat}(o:Has h K)(hq:K[q]? = some (i,.sl n E.n (E.l l)))(hf:∀a:α,(E.f a).all Ec=true):xj 0 h (.rs i 0 n E.n) (E.fz l):=fun m hm=>by
 have hn:=ck o hq
 subst hn
 obtain⟨⟨⟨hlen,qn⟩,k8⟩,hlt⟩:=o.at_ _ _ _ hq
 obtain⟨k,rfl,hk⟩:=ni (show ik≤m by omega)
 simp only [fS]
 rcases k8 with⟨h0,h1⟩| ⟨h0,rest,h1⟩
 ·have:l=[]:=by simpa using h1
  subst this
  simp [h0,bL.fz,bL.l]
 ·rw [if_neg h0,h1]
  simp only [Vu]
  have e1:((E.l l++rest).drop 0).take (l.length*E.n)=E.l l:=by
   rw [Wd,V3 (by rw [hlen]; exact Vy _),V6 (by rw [hlen]; exact Vy _)]
  rw [if_pos (by rw [VD,hlen]; omega),e1,mE ?_ (by simp only [ik] at hk; omega)]
  ·rfl
  ·rw [VO]
   intro x hx
   unfold bL.l at hx
   rw [List.mem_flatMap] at hx
   obtain⟨a,_,ha⟩:=hx
   exact VO.1 (hf a) x ha
theorem Ed:GR 0 h [] []:=fun n hn=>by
 obtain⟨k,rfl,_⟩:=ni (show ik≤n by omega)
 rfl
theorem rC {k1 k2:Nat}{x y:AV}{xs ys:List AV}(f:xj k1 h x y)(g:GR k2 h xs ys):GR (k1+k2+1) h (x::xs) (y::ys):=fun n hn=>by
 obtain⟨k,rfl⟩:∃k,n=k+1:=⟨n - 1,by omega⟩
 simp only [de]
 rw [f k (by omega),g k (by omega)]
 rfl
theorem Ee {k:Nat}{xs ys:List AV}(f:GR k h xs ys):xj (k+1) h (.tup xs) (.tup ys):=fun n hn=>by
 obtain⟨k,rfl⟩:∃k,n=k+1:=⟨n - 1,by omega⟩
 simp only [fS]
 rw [f k (by omega)]; rfl
def bR:Nat:=9007199254740992
theorem gv {k:Nat}{xs ys:List AV}(f:aO k h xs ys)(hk:k≤bR:=by decide):aO bR h xs ys:=fun n hn=>f n (by omega)
def so (x y:AV):Prop:=x.dS=true∧x.jm=y
def xk (xs ys:List AV):Prop:=cH xs=true∧dn xs=ys
theorem bj {k:IntKind}{n:Int}:so (.int k n) (.int k n):=⟨rfl,rfl⟩
theorem ly {s:ByteArray}:so (.str s) (.str s):=⟨rfl,rfl⟩
theorem mF (hp:E.flat=true:=by rfl):so (E.fz l) (E.fz l):=bL.bG hp
theorem rD:so .nils (E.fz []):=⟨rfl,rfl⟩
theorem nY:xk [] []:=⟨rfl,rfl⟩
theorem cu {x y:AV}{xs ys:List AV}(a:so x y)(b:xk xs ys):xk (x::xs) (y::ys):=⟨by simp [cH,a.1,b.1],by simp [dn,a.2,b.2]⟩
theorem nZ {xs ys:List AV}(a:xk xs ys):so (.agg xs) (.agg ys):=⟨by simpa [AV.dS] using a.1,by show AV.agg (dn xs)=_; rw [a.2]⟩
end
end Go.R
namespace Go.R
open Go
section
variable {P:Program}{h:AHeap}{K:Mem}{i q:Nat}{cs eY:List AV}{x z:AV}{t:TypeId}{off:Nat}
theorem gw (o:Has h K)(od:cs.all AV.bS=true):∃i h',xb h cs=some (.ptr i 0,h')∧Has h' ((i,.ob cs)::K):=by
 refine⟨h.next,h.alloc (.cells cs),by unfold xb; rw [if_pos od],o.new (fun k hk=>by rw [AHeap.alloc,cY,if_neg (by omega)]) (WI _) (.inr (Vy _)) (Wh _) ⟨by have:=o.pos; omega,by rw [AHeap.alloc,cY,if_pos rfl]⟩⟩
theorem bZ (o:Has h K)(hq:K[q]? = some (i,.ob cs))(hr:iR P t cs off=some z):bm P h t (.ptr i off)=some z:=by
 obtain⟨⟨h1,h2⟩,_⟩:=o.at_ _ _ _ hq
 simp only [bm,jG,h2,Vu,hr]
theorem nF (o:Has h K)(hq:K[q]? = some (i,.ob cs))(hw:gQ P t cs off x=some eY):∃h',iV P h t (.ptr i off) x=some h'∧Has h' (K.set q (i,.ob eY)):=by
 obtain⟨⟨h1,h2⟩,_⟩:=o.at_ _ _ _ hq
 exact⟨h.put i (.cells eY),by simp only [iV,h2,Vu,hw,VA],jy o hq ⟨h1,by rw [cY,if_pos rfl]⟩⟩
end
theorem aL {x y:AV}(h:so x y):aK x=y:=by
 unfold aK
 rw [h.1,h.2]; rfl
theorem bE:([]:List AV).map aK=[]:=rfl
theorem au {x y:AV}{xs ys:List AV}(a:aK x=y)(b:xs.map aK=ys):(x::xs).map aK=y::ys:=by
 rw [VX,a,b]
theorem jt {α:Type}{K L:List α}{q:Nat}{p:α}(h:L[q]? = some p):(K++L)[K.length+q]? = some p:=by
 rw [VP (by omega),WR,h]
def Cu (k:IntKind)(x y:Int):Option Int:=if y=0 then none else some (Int.tmod x y)
theorem GS {P:Program}{t:TypeId}{k:IntKind}{x y v:Int}(h:Cu k x y=some v):jF P .rem t (.int k x) (.int k y)=some (.int k v):=by
 unfold Cu at h
 split at h
 ·cases h
 ·rename_i hy
  cases h
  simp only [jF,AV.fL,Vu,Go.binOp,Op.intDiv,if_neg hy,ne_eq,not_true_eq_false,if_false]
  rfl
theorem GU {α:Type}{E:bL α}{h:AHeap}{K:Mem}{l:List α}{cs:List AV}(o:Has h K)(hc:cs=E.l l)(hl:l.length≤1024:=by simp) :
  ∃i h',some (AV.rs h.next 0 l.length E.n,h.alloc (.cells cs))=some (AV.rs i 0 l.length E.n,h')∧Has h' ((i,.sl l.length E.n (E.l l))::K):=by
 subst hc
 exact⟨h.next,_,rfl,o.new (fun k hk=>by rw [AHeap.alloc,cY,if_neg (by omega)]) (WI _) (.inr (Vy _)) (Wh _) ⟨⟨bL.bN,bL.nh (by omega)⟩,.inr ⟨by have:=o.pos; omega,[],by rw [AHeap.alloc,cY,if_pos rfl]; simp⟩⟩⟩
end Go.R
