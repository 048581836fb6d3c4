/- Part of the proof: PT10, Q57, Q41, Q25, PR2, Q81, Q58, Q42, Q26, PR3, PR4, PR5, Q14, Q24, Q40, Q35, Q39, Q37, Q17. -/
import Derived.Test.YtmekcfdllhphlaaGreatDoorK9
set_option linter.unusedVariables false
set_option linter.unusedSimpArgs false
set_option maxRecDepth 100000
open ByteArray renaming mk → aaT
open Int renaming toNat_natCast → aaH, tdiv → abr, tmod_eq_emod_of_nonneg → abB, tmod → abE, tdiv_eq_ediv_of_nonneg → abX, le_refl → ab9
open List renaming length_append → aaI, getElem?_eq_some_iff → aaK, append_assoc → aaM, mem_singleton → aaO, drop_eq_getElem_cons → aaP, mem_append → aaQ, length_cons → aaR, getD_eq_getElem?_getD → aaW, length_map → aaX, getElem?_append_right → aaY, cons_append → aa0, drop_zero → aa3, take_of_length_le → aa4, map_cons → aa6, map_append → aa8, mem_cons → abb, getElem?_append_left → abf, length_nil → abg, mem_append_left → abo, append_nil → abu, mem_of_getElem? → abI, take_add_one → abL, take_length → abO, idxOf_append → abS, nodup_append → abT, map_congr_left → abV, flatten_cons → ab6, getElem?_set_self → ab8, getElem?_set_ne → aci, length → ack
open Nat renaming le_refl → aaE, zero_add → aaZ, add_assoc → abl, mul_le_mul_right → abq, add_mul → abJ, sub_self → acm, zero_le → acq
open Option renaming bind_some → aaA
open Or renaming inr → abD, inl → abM
open Prod.mk renaming injEq → aaJ
open UInt8 renaming ofNat → acp
namespace Go.Proofs.YtmekcfdllhphlaaGreatDoor
open Go Go.R
open Go.IntKind (i64 u64 u8 u32)
def mg:List Int→Nat→List (Int × Int)
 | [],_=>[]
 | k::ks,s=>(k,(s:Int))::mg ks (s+1)
theorem yg:∀(ks:List Int) (s:Nat) (k:Int),AO (mg ks s) k=if k∈ks then (((s+ks.idxOf k:Nat):Int),true) else (0,false)
 | [],s,k=>rfl
 | a::ks,s,k=>by
  simp only [mg,AO,yg ks (s+1) k,abb,List.idxOf_cons]
  by_cases h:k=a
  ·subst h; simp
  ·have h':(a==k)=false:=by simpa using fun z:a=k=>h z.symm
   rw [if_neg h,h']
   by_cases h2:k∈ks
   ·simp only [h2,if_true,or_true,cond_false]
    simp only [aaJ,and_true]
    omega
   ·simp [h2,h]
theorem yh:∀(ks:List Int) (s:Nat) (k:Int),k∉ks→HJ (mg ks s) k ((s+ks.length:Nat):Int)=mg (ks++[k]) s
 | [],s,k,_=>rfl
 | a::ks,s,k,h=>by
  have h1:k≠a:=fun z=>h (by simp [z])
  have h2:k∉ks:=fun z=>h (by simp [z])
  simp only [mg,HJ,aa0,if_neg h1,aaR]
  rw [show s+(ks.length+1)=s+1+ks.length by omega,yh ks (s+1) k h2]
def jb (cls:List Int)(a:Int):Int:=gt cls a.toNat
def idx (cls o:List Int)(a:Int):Int:=((o.map (jb cls)).idxOf (jb cls a):Nat)
def IC (cls:List Int)(l:List ae)(o:List Int)(i:Int):ae:=⟨(nd l i).kind,(nd l i).int,(nd l i).label,(nd l i).args.map (idx cls o)⟩
def vZ (cls:List Int)(l:List ae):Nat→Int→List Int→List Int
 | 0,_,o=>o
 | k+1,i,o=>if jb cls i∈o.map (jb cls) then o else (nd l i).args.foldl (fun o a=>vZ cls l k a o) (o++[i])
structure Vs (cls:List Int)(n:Nat)(o:List Int):Prop where
 Kb:(o.map (jb cls)).Nodup
 Ch:∀x∈o,0≤x∧x<n
structure Ps (cls:List Int)(l:List ae)(o o':List Int)(ns Dc:List ae):Prop where
 vs:Vs cls l.length o'
 pre:∃t,o'=o++t
 len:Dc.length=o'.length
 old:∀k,k<o.length→Dc[k]? = ns[k]?
 new:∀k,o.length≤k→k<o'.length→Dc[k]? = some (IC cls l o' (gt o' k))
 arg:∀k,o.length≤k→k<o'.length→∀a∈(nd l (gt o' k)).args,jb cls a∈o'.map (jb cls)
theorem Vs.ng {cls:List Int}{n:Nat}{o:List Int}(v:Vs cls n o):o.length≤n:=by
 have hn:o.Nodup:=by
  have:=v.Kb
  unfold List.Nodup at this ⊢
  rw [List.pairwise_map] at this
  exact List.Pairwise.imp (fun h e=>h (by rw [e])) this
 have:=hn.length_le_of_subset (l₂:=ints n) (fun x hx=>jz.2 (v.Ch x hx))
 rwa [eH] at this
theorem Ps.refl {cls:List Int}{l:List ae}{o:List Int}{ns:List ae}(v:Vs cls l.length o)(h:ns.length=o.length):Ps cls l o o ns ns:=
 ⟨v,⟨[],by simp⟩,h,fun _ _=>rfl,fun k h1 h2=>by omega,fun k h1 h2=>by omega⟩
theorem jh {a b:List Int}{k:Nat}(h:k<a.length):gt (a++b) k=gt a k:=by
 unfold gt; rw [aaW,aaW,abf h]
theorem pJ {cls o t:List Int}{a:Int}(h:jb cls a∈o.map (jb cls)):idx cls (o++t) a=idx cls o a:=by
 unfold idx; rw [aa8,abS,if_pos h]
theorem Bh {cls:List Int}{l:List ae}{o t:List Int}{i:Int}(h:∀a∈(nd l i).args,jb cls a∈o.map (jb cls)):IC cls l (o++t) i=IC cls l o i:=by
 unfold IC
 congr 1
 exact abV fun a ha=>pJ (h a ha)
theorem Ps.trans {cls:List Int}{l:List ae}{o o1 o2:List Int}{ns n1 n2:List ae}(a:Ps cls l o o1 ns n1)(b:Ps cls l o1 o2 n1 n2):Ps cls l o o2 ns n2:=by
 obtain⟨t1,rfl⟩:=a.pre
 obtain⟨t2,rfl⟩:=b.pre
 have hl:(o++t1).length=o.length+t1.length:=by simp
 refine⟨b.vs,⟨t1++t2,by simp⟩,b.len,fun k hk=>(b.old k (by omega)).trans (a.old k hk),fun k h1 h2=>?_,fun k h1 h2 x hx=>?_⟩
 ·by_cases h:k<(o++t1).length
  ·rw [b.old k h,a.new k h1 h,jh h,Bh (a.arg k h1 h)]
  ·exact b.new k (by omega) h2
 ·by_cases h:k<(o++t1).length
  ·rw [jh h] at hx
   rw [aa8]
   exact abo _ (a.arg k h1 h x hx)
  ·exact b.arg k (by omega) h2 x hx
section
variable {m:Nat}{cls:List Int}{l:List ae}{root:Int}
abbrev QR:=Int→(List (Int × Int))→(List Int)→ak→ak→Option (Int × (List (Int × Int)) × ak)
def Mg (cls:List Int)(l:List ae)(root:Int)(rec:QR)(df:Int→List Int→List Int)(need:Nat):Prop:=∀(i:Int) (o:List Int) (ns:List ae),0≤i→i<l.length→Vs cls l.length o→ns.length=o.length→l.length<need+o.length→
 ∃Dc,rec i (mg (o.map (jb cls)) 0) cls ⟨ns,0⟩ ⟨l,root⟩=some (idx cls (df i o) i,mg ((df i o).map (jb cls)) 0,⟨Dc,0⟩)∧Ps cls l o (df i o) ns Dc∧jb cls i∈(df i o).map (jb cls)
theorem ID {rec:QR}{df:Int→List Int→List Int}{need:Nat}(hm:2 ^ 30≤m)(ok:mf l)(V:Mg cls l root rec df need){v:ae}(h8:v.args.length≤8)(ha:∀a∈v.args,0≤a∧a<l.length){o0:List Int}{WA:List ae}(QS:l.length<need+o0.length):∀(f t:Nat) (o:List Int) (ns:List ae),v.args.length - t<f→t≤v.args.length→Ps cls l o0 o WA ns→(∀a∈v.args.take t,jb cls a∈o.map (jb cls))→
  ∃o' Dc x,o'=(v.args.drop t).foldl (fun o a=>df a o) o∧bk.l0 m cls ⟨l,root⟩ rec v f ((v.args.take t).map (idx cls o)) (t:Int) (mg (o.map (jb cls)) 0) ⟨ns,0⟩=some (v.args.map (idx cls o'),x,mg (o'.map (jb cls)) 0,⟨Dc,0⟩)∧Ps cls l o0 o' WA Dc∧∀a∈v.args,jb cls a∈o'.map (jb cls)
 | 0,t,o,ns,hf,_,_,_=>absurd hf (by omega)
 | f+1,t,o,ns,hf,ht,P,hin=>by
  have kV:(2:Nat) ^ 30=1073741824:=by decide
  unfold bk.l0
  by_cases h:t<v.args.length
  ·obtain⟨b0,b1⟩:=ha _ (a8 h)
   have ho0:o0.length≤o.length:=by obtain⟨s,rfl⟩:=P.pre; simp
   obtain⟨YJ,k1,P1,RH⟩:=V (gt v.args t) o ns b0 b1 P.vs P.len (by omega)
   obtain⟨s,hs⟩:=P1.pre
   have hT1:v.args.take (t+1)=v.args.take t++[gt v.args t]:=by rw [abL,bL h]; rfl
   have hD:v.args.drop t=gt v.args t::v.args.drop (t+1):=by
    obtain⟨h4,h5⟩:=aaK.1 (bL h)
    rw [←h5]; exact aaP h4
   have T9:∀a∈v.args.take (t+1),jb cls a∈(df (gt v.args t) o).map (jb cls):=fun a ha=>by
    rw [hT1] at ha
    rcases aaQ.1 ha with ha | ha
    ·rw [hs,aa8]; exact abo _ (hin a ha)
    ·simp only [aaO] at ha; subst ha; exact RH
   obtain⟨o',Dc,x,e,k2,P2,h2⟩:=ID hm ok V h8 ha QS f (t+1) (df (gt v.args t) o) YJ (by omega) (by omega) (P.trans P1) T9
   refine⟨o',Dc,x,by rw [hD]; exact e,?_,P2,h2⟩
   have e1:i64.wrap ((t:Int)+1)=((t+1:Nat):Int):=by rw [ay (by omega) (by omega)]; omega
   have jf:app 8 ((v.args.take t).map (idx cls o)) [idx cls (df (gt v.args t) o) (gt v.args t)]=some ((v.args.take (t+1)).map (idx cls (df (gt v.args t) o))):=by
    unfold app
    rw [if_pos (by simp; omega),hT1,aa8]
    congr 2
    exact abV fun a ha=>by rw [hs]; exact (pJ (hin a ha)).symm
   rw [if_pos (by simp only [decide_eq_true_eq]; omega),db h,aaA,k1,aaA,jf,aaA,e1]
   exact k2
  ·have:t=v.args.length:=by omega
   subst this
   rw [abO] at hin ⊢
   exact⟨o,ns,_,by rw [List.drop_length]; rfl,by rw [if_neg (by simp)],P,hin⟩
theorem wa (hm:2 ^ 30≤m)(ok:mf l)(hc:cls.length=l.length):∀k,Mg cls l root (bk.f m k) (vZ cls l k) k
 | 0=>fun i o ns h0 h1 v hl hn=>absurd v.ng (by omega)
 | k+1=>fun i o ns h0 h1 v hl hn=>by
  have kV:(2:Nat) ^ 30=1073741824:=by decide
  have h8000:=ok.1
  have wc:=v.ng
  show ∃Dc,bk.b m (bk.f m k) i (mg (o.map (jb cls)) 0) cls ⟨ns,0⟩ ⟨l,root⟩=_∧_
  unfold bk.b
  have hx:ix cls i=some (jb cls i):=gX (by omega) (by omega)
  rw [hx,aaA,yg,aaZ]
  by_cases h:jb cls i∈o.map (jb cls)
  ·have hd:vZ cls l (k+1) i o=o:=by unfold vZ; rw [if_pos h]
   rw [hd,if_pos h]
   exact⟨ns,rfl,Ps.refl v hl,h⟩
  ·have hd:vZ cls l (k+1) i o=(nd l i).args.foldl (fun o a=>vZ cls l k a o) (o++[i]):=by
    show (if jb cls i∈o.map (jb cls) then o else (nd l i).args.foldl (fun o a=>vZ cls l k a o) (o++[i]))=_
    rw [if_neg h]
   have v1:Vs cls l.length (o++[i]):=by
    refine⟨?_,fun x hx=>?_⟩
    ·rw [aa8,abT]
     refine⟨v.Kb,by simp,fun a ha b hb=>?_⟩
     simp only [aa6,List.map_nil,aaO] at hb
     subst hb; intro e; subst e; exact h ha
    ·rcases aaQ.1 hx with hx | hx
     ·exact v.Ch x hx
     ·simp only [aaO] at hx; subst hx; exact⟨h0,h1⟩
   have IE:=v1.ng
   simp only [aaI,aaR,abg] at IE
   have jf:app 56 ns [(⟨(nd l i).kind,(nd l i).int,(nd l i).label,[]⟩:ae)]=some (ns++[⟨(nd l i).kind,(nd l i).int,(nd l i).label,[]⟩]):=by
    unfold app; rw [if_pos (by simp; omega)]
   have PN:HJ (mg (o.map (jb cls)) 0) (jb cls i) ((ns.length:Nat):Int)=mg ((o++[i]).map (jb cls)) 0:=by
    have:=yh (o.map (jb cls)) 0 (jb cls i) h
    rw [aaZ,aaX,←hl] at this
    rw [this,aa8]; rfl
   obtain⟨n1,n2⟩:=ok.2 _ (iN h0 h1)
   have P0:Ps cls l (o++[i]) (o++[i]) (ns++[⟨(nd l i).kind,(nd l i).int,(nd l i).label,[]⟩]) (ns++[⟨(nd l i).kind,(nd l i).int,(nd l i).label,[]⟩]):=Ps.refl v1 (by simp [hl])
   obtain⟨o',Dc,x,e,k2,P2,h2⟩:=ID (m:=m) (v:=nd l i) (need:=k) hm ok (wa hm ok hc k) n1 n2 (o0:=o++[i]) (by simp; omega) m 0 (o++[i]) _ (by omega) (by omega) P0 (fun a ha=>by simp at ha)
   rw [aa3] at e
   rw [List.take_zero,List.map_nil] at k2
   have k2:bk.l0 m cls ⟨l,root⟩ (bk.f m k) (nd l i) m [] 0 _ _=_:=k2
   obtain⟨s,hs⟩:=P2.pre
   have J4:o.length<o'.length:=by rw [hs]; simp
   have QT:Dc[o.length]? = some ⟨(nd l i).kind,(nd l i).int,(nd l i).label,[]⟩:=by
    rw [P2.old _ (by simp),←hl,aaY (aaE _),acm]; rfl
   have N0:ix Dc ((ns.length:Nat):Int)=some ⟨(nd l i).kind,(nd l i).int,(nd l i).label,[]⟩:=by
    unfold ix; rw [if_pos (by omega),aaH,hl,QT]
   have R5:gt o' o.length=i:=by
    rw [hs,jh (by simp)]
    unfold gt; rw [aaW,aaY (aaE _),acm]; rfl
   have Ua:idx cls o' i=(o.length:Nat):=by
    rw [hs,pJ (by simp)]
    unfold idx
    rw [aa8,abS,if_neg h]; simp
   rw [hd,←e,if_neg h,if_neg (by simp),aaA,iT h0 h1,aaA,jf,aaA,PN,k2,aaA]
   dsimp only
   rw [N0,aaA,aaH,Ua,hl]
   refine⟨_,rfl,⟨P2.vs,⟨[i]++s,by rw [hs]; simp⟩,by simpa using P2.len,fun q hq=>?_,fun q h3 h4=>?_,fun q h3 h4 a ha=>?_⟩,by rw [hs]; simp⟩
   ·rw [aci (by omega),P2.old q (by simp; omega),abf (by omega)]
   ·by_cases hq:q=o.length
    ·subst hq
     rw [ab8 (by rw [P2.len]; omega),R5]; rfl
    ·rw [aci (by omega)]
     exact P2.new q (by simp; omega) h4
   ·by_cases hq:q=o.length
    ·subst hq; rw [R5] at ha; exact h2 a ha
    ·exact P2.arg q (by simp; omega) h4 a ha
end
theorem we {m:Nat}(hm:2 ^ 41≤m){t:ak}(ok:mf t.nodes)(h1:1≤t.nodes.length)(r0:0≤t.root)(r1:t.root<t.nodes.length)(Inv:List Int→Prop)
  (hI0:∀d out,d.Perm (ints t.nodes.length)→(Ord (fun x y=>cT (nd t.nodes x) (nd t.nodes y)) (ints t.nodes.length)→Sg (fun x y=>cT (nd t.nodes x) (nd t.nodes y)) d 0 t.nodes.length)→(∀k,k<t.nodes.length→gt out (gt d k).toNat=rk t.nodes d k)→Inv out)
  (hI:∀out many ks next,Part t.nodes.length out many→Inv out→sn t.nodes out t.nodes.length ks→next.length=t.nodes.length→(∀i,i<t.nodes.length→gt next i=(ks.idxOf (key out (nd t.nodes i) i):Int))→Inv next) :
  ∃cls many ks ns,fm.f m t=some ⟨ns,0⟩∧Part t.nodes.length cls many∧Inv cls∧sn t.nodes cls t.nodes.length ks∧ks.length=many+1∧Ps cls t.nodes [] (vZ cls t.nodes m t.root []) [] ns∧jb cls t.root∈(vZ cls t.nodes m t.root []).map (jb cls):=by
 have kV:(2:Nat) ^ 30=1073741824:=by decide
 have qO:(2:Nat) ^ 41=2199023255552:=by decide
 have h8000:=ok.1
 obtain⟨cls,many,ks,k1,P,I,K,CB⟩:=zz hm ok h1 Inv hI0 hI
 obtain⟨ns,k2,P2,h2⟩:=wa (m:=m) (root:=t.root) (by omega) ok P.len m t.root [] [] r0 r1 ⟨by simp,fun x hx=>by simp at hx⟩ rfl (by simp; omega)
 refine⟨cls,many,ks,ns,?_,P,I,K,CB,P2,h2⟩
 unfold fm.f
 have k2:bk.f m m t.root [] cls ⟨[],0⟩ t=_:=k2
 rw [k1,aaA,k2]; rfl
end Go.Proofs.YtmekcfdllhphlaaGreatDoor
namespace Go.Proofs.YtmekcfdllhphlaaGreatDoor
open Go Go.R
open Go.IntKind (i64 u64 u8 u32)
def Bi:b9:=gm [0,1,5] [] [0,4,4,7] [] []
def cu.l0 (m:Nat)  : Nat→Int→(List Int)→Option (Int × (List Int))
 | 0,_,_=>none
 | k+1,n1,w1=>if (decide (n1≥(128:Int)))=true then ((HP w1 ([ja .u8 (u8.wrap n1) (128:Int)])).bind fun Aa=>cu.l0 m k (gO .u64 n1 7) Aa) else (some ((n1,w1)))
def cu.f (m:Nat)(w0:List Int)(n0:Int):Option ((List Int)):=(cu.l0 m m n0 w0).bind fun aF=>match aF with | (n2,w2)=>(HP w2 ([u8.wrap n2])).bind fun QU=>some QU
def cu.fin (L:Mem)(ck:Nat)(cJ:Nat)(w0:List Int)(n0:Int)(r:(List Int))(s:St):Prop:=∃ej:Nat,aH Tryz.prog (s.open Bi) Tryz.f57.results.toList=some (.tup [])∧Has s.h ((ck,.ob [.rs ej 0 r.length 1,.int .i64 (0:Int),.int .i8 (0:Int)])::(ej,.row 5 (af.l r))::L)
def O4 (cf:CallF)(m:Nat):Prop:=∀(w0:List Int) (n0:Int) (r:(List Int)),cu.f m w0 n0=some r→∀h L (ck:Nat) (cJ:Nat),Has h ((ck,.ob [.rs cJ 0 w0.length 1,.int .i64 (0:Int),.int .i8 (0:Int)])::(cJ,.row 5 (af.l w0))::L)→∀xs,xs.map aC=[.ptr ck 0,.int .u64 n0]→∃ej h',cf 57 xs h=some (.tup [],h')∧Has h' ((ck,.ob [.rs ej 0 r.length 1,.int .i64 (0:Int),.int .i8 (0:Int)])::(ej,.row 5 (af.l r))::L)
section
variable {cf:CallF}{m:Nat}
theorem cu.bu (L:Mem)(ck:Nat)(cJ:Nat)(w0:List Int)(n0:Int)  (zA:Ql cf m):bC Tryz.prog cf Bi m (sub [0,0,0] (codeOf Tryz.f57)) (fun k (σ:Int × (List Int))=>cu.l0 m k σ.1 σ.2) (fun σ s=>match σ with | (n1,w1)=>∃az h0,s=⟨[.ptr ck 0,.int .u64 n1,.any],[],h0⟩∧Has h0 ((ck,.ob [.rs az 0 w1.length 1,.int .i64 (0:Int),.int .i8 (0:Int)])::(az,.row 5 (af.l w1))::L)) (fun out e s=>(e = .exit 0∧∃n1 w1,(n1,w1)=out∧∃oK az h0,s=⟨[.ptr ck 0,.int .u64 n1,oK],[],h0⟩∧Has h0 ((ck,.ob [.rs az 0 w1.length 1,.int .i64 (0:Int),.int .i8 (0:Int)])::(az,.row 5 (af.l w1))::L))):=by
 refine gk (fun _=>rfl) ?_
 rintro k ⟨n1,w1⟩ s out ⟨az,h0,rfl,o0⟩ H
 have H:cu.l0 m (k+1) n1 w1=some out:=H
 refine qq <| qq <| q0 <| qc H (fun c0 H=>?_) (fun c0 H=>?_)
 ·refine qk <| qq <| qb 1 ?_
  obtain⟨Aa,e0,H⟩:=aG H
  obtain⟨dR,h1,e1,o1⟩:=uB (bs:=w1) zA o0 e0
  exact qr [.a 6 e1] <| q0 <| ⟨(gO .u64 n1 7,Aa),⟨dR,h1,by kernel_rfl,o1⟩,H⟩
 ·exact qx 0 <| ⟨rfl,n1,w1,oi H,.bool (decide (n1≥(128:Int))),az,h0,by kernel_rfl,o0⟩
theorem wg {aV:FuncId→b9}(ha:aV 57=Bi)(zA:Ql cf m)(w0:List Int)(n0:Int)(h:AHeap)(L:Mem)(ck:Nat)(cJ:Nat)  (o:Has h ((ck,.ob [.rs cJ 0 w0.length 1,.int .i64 (0:Int),.int .i8 (0:Int)])::(cJ,.row 5 (af.l w0))::L)){out:(List Int)}(H:cu.f m w0 n0=some out) :
  ∃r h',bg Tryz.prog aV cf m 57 [.ptr ck 0,.int .u64 n0] h=some (r,h')∧∃ej:Nat,r = .tup []∧Has h' ((ck,.ob [.rs ej 0 out.length 1,.int .i64 (0:Int),.int .i8 (0:Int)])::(ej,.row 5 (af.l out))::L):=by
 refine aj (fn:=Tryz.f57) ha Tryz.func57 (by kernel_rfl) (by kernel_rfl) ?_
 refine aD (Q:=fun s=>cu.fin L ck cJ w0 n0 out s) (fun _ _ ⟨h1,ej,h2,h3⟩=>⟨h1,_,h2,ej,rfl,h3⟩) ?_
 have H:_=some out:=H
 unfold cu.f at H
 show dA _ cf Bi m _ ⟨[.ptr ck 0,.int .u64 n0,.any],[],h⟩ _
 refine qq <| qb 0 ?_
 obtain⟨aF,e2,H⟩:=aG H
 refine ql (cu.bu L ck cJ w0 n0  zA (n0,w0) _ _ ⟨cJ,h,by kernel_rfl,o⟩ e2) ?_
 rintro e s ⟨rfl,n2,w2,rfl,g0,cR,h2,rfl,o2⟩
 try dsimp only at H
 obtain⟨QU,e3,H⟩:=aG H
 obtain⟨fc,h3,e4,o3⟩:=uB (bs:=w2) zA o2 e3
 obtain rfl:=oi H
 exact qr [.a 5 e4] <| ⟨.inr rfl,⟨fc,by kernel_rfl,he o3⟩⟩
end
end Go.Proofs.YtmekcfdllhphlaaGreatDoor
namespace Go.Proofs.YtmekcfdllhphlaaGreatDoor
open Go Go.R
open Go.IntKind (i64 u64 u8 u32)
def EA:b9:=gm [0,2,3,9] [] [14,6,15,13,10,11,13] [] []
def gg.f (m:Nat)(r0:eA):Option (Int × eA):=if ((r0.bO.length:Int)==(0:Int))=true then (some ((0:Int),(eA.mk r0.bO true))) else ((ix r0.bO (0:Int)).bind fun v0=>(kU r0.bO (1:Int) (r0.bO.length:Int)).bind fun v1=>some (v0,(eA.mk v1 r0.aK)))
def gg.fin (L:Mem)(az:Nat)(r0:eA)(r:Int × eA)(s:St):Prop:=aH Tryz.prog (s.open EA) Tryz.f41.results.toList=some (.int .u8 r.1)∧Has s.h ((az,.ob [af.fz r.2.bO,.bool r.2.aK])::L)
def R6 (cf:CallF)(m:Nat):Prop:=∀(r0:eA) (r:Int × eA),gg.f m r0=some r→∀h L (az:Nat),Has h ((az,.ob [af.fz r0.bO,.bool r0.aK])::L)→∀xs,xs.map aC=[.ptr az 0]→∃h',cf 41 xs h=some (.int .u8 r.1,h')∧Has h' ((az,.ob [af.fz r.2.bO,.bool r.2.aK])::L)
section
variable {cf:CallF}{m:Nat}
theorem zB {aV:FuncId→b9}(ha:aV 41=EA)  (r0:eA)(h:AHeap)(L:Mem)(az:Nat)  (o:Has h ((az,.ob [af.fz r0.bO,.bool r0.aK])::L)){out:Int × eA}(H:gg.f m r0=some out) :
  ∃r h',bg Tryz.prog aV cf m 41 [.ptr az 0] h=some (r,h')∧r = .int .u8 out.1∧Has h' ((az,.ob [af.fz out.2.bO,.bool out.2.aK])::L):=by
 refine aj (fn:=Tryz.f41) ha Tryz.func41 (by kernel_rfl) (by kernel_rfl) ?_
 refine aD (Q:=fun s=>gg.fin L az r0 out s) (fun _ _ ⟨h1,h2,h3⟩=>⟨h1,_,h2,rfl,h3⟩) ?_
 have H:_=some out:=H
 unfold gg.f at H
 show dA _ cf EA m _ ⟨.ptr az 0::jE [],[],h⟩ _
 refine q1 <| qq <| qq <| qr [.v 3 (show bp Tryz.prog h 22 (.ptr az 0)=some (af.fz r0.bO) from cg (q:=0) (cs:=[af.fz r0.bO,.bool r0.aK]) o rfl (by kernel_rfl))] <| qc H (fun c0 H=>?_) (fun c0 H=>?_)
 ·refine qq ?_
  obtain⟨h0,e0,o0⟩:=jx (P:=Tryz.prog) (t:=4) (off:=1) (q:=0) (cs:=[af.fz r0.bO,.bool r0.aK]) (fU:=[af.fz r0.bO,.bool true]) (x:=.bool true) o rfl (by kernel_rfl)
  obtain rfl:=oi H
  exact qr [.w 3 e0] <| qq <| q0 <| qt <| ⟨.inl rfl,⟨by kernel_rfl,he o0⟩⟩
 ·refine qk <| qq ?_
  obtain⟨v0,e1,H⟩:=aG H
  refine qr [.v 3 (show bp Tryz.prog h 22 (.ptr az 0)=some (af.fz r0.bO) from cg (q:=0) (cs:=[af.fz r0.bO,.bool r0.aK]) o rfl (by kernel_rfl)),.v 4 (bN (k:=.i64) (E:=af) (l:=r0.bO) tg e1),.v 5 (dd  (E:=af) (l:=r0.bO) h A5 e1 rfl)] <| qq ?_
  obtain⟨v1,e2,H⟩:=aG H
  obtain⟨h1,e3,o1⟩:=jx (P:=Tryz.prog) (t:=22) (off:=0) (q:=0) (cs:=[af.fz r0.bO,.bool r0.aK]) (fU:=[af.fz v1,.bool r0.aK]) (x:=af.fz v1) o rfl (by kernel_rfl)
  obtain rfl:=oi H
  exact qr [.v 4 (show bp Tryz.prog h 22 (.ptr az 0)=some (af.fz r0.bO) from cg (q:=0) (cs:=[af.fz r0.bO,.bool r0.aK]) o rfl (by kernel_rfl)),.v 5 (show eN Tryz.prog 22 (af.fz r0.bO) (some (.int .i64 (1:Int))) none none=some (af.fz v1) from qB (E:=af) tg e2),.w 8 e3] <| qq <| q0 <| qt <| ⟨.inl rfl,⟨by kernel_rfl,he o1⟩⟩
end
end Go.Proofs.YtmekcfdllhphlaaGreatDoor
namespace Go.Proofs.YtmekcfdllhphlaaGreatDoor
open Go Go.R
open Go.IntKind (i64 u64 u8 u32)
def Bj:b9:=gm [0,2,3,4,5,10,24,36] [] [254,250,242,210,242,226,162,251,226,114,253] [] []
def bc.l0 (m:Nat)  : Nat→Int→Int→eA→Option (Int × Int × eA)
 | 0,_,_,_=>none
 | k+1,n0,ec,r1=>if (!r1.aK)=true then ((gg.f m r1).bind fun x0=>if (decide (ec > (56:Int)))=true then (some ((n0,ec,(eA.mk x0.2.bO true)))) else (if (decide (ec > (0:Int)))=true then (if (x0.1==(0:Int))=true then (some ((n0,ec,(eA.mk x0.2.bO true)))) else ((r7 .u64 (u64.wrap (fv .u8 x0.1 (127:Int))) ec).bind fun v0=>if (decide (x0.1<(128:Int)))=true then (some ((ja .u64 n0 v0,ec,x0.2))) else (bc.l0 m k (ja .u64 n0 v0) (i64.wrap (ec+(7:Int))) x0.2))) else ((r7 .u64 (u64.wrap (fv .u8 x0.1 (127:Int))) ec).bind fun v1=>if (decide (x0.1<(128:Int)))=true then (some ((ja .u64 n0 v1,ec,x0.2))) else (bc.l0 m k (ja .u64 n0 v1) (i64.wrap (ec+(7:Int))) x0.2)))) else (some ((n0,ec,r1)))
def bc.f (m:Nat)(r0:eA):Option (Int × eA):=(bc.l0 m m (0:Int) (0:Int) r0).bind fun aF=>match aF with | (n1,N1,r2)=>some (i64.wrap n1,r2)
def bc.fin (L:Mem)(az:Nat)(r0:eA)(r:Int × eA)(s:St):Prop:=aH Tryz.prog (s.open Bj) Tryz.f25.results.toList=some (.int .i64 r.1)∧Has s.h ((az,.ob [af.fz r.2.bO,.bool r.2.aK])::L)
def N2 (cf:CallF)(m:Nat):Prop:=∀(r0:eA) (r:Int × eA),bc.f m r0=some r→∀h L (az:Nat),Has h ((az,.ob [af.fz r0.bO,.bool r0.aK])::L)→∀xs,xs.map aC=[.ptr az 0]→∃h',cf 25 xs h=some (.int .i64 r.1,h')∧Has h' ((az,.ob [af.fz r.2.bO,.bool r.2.aK])::L)
section
variable {cf:CallF}{m:Nat}
theorem bc.bu (L:Mem)(az:Nat)(r0:eA)  (IF:R6 cf m):bC Tryz.prog cf Bj m (sub [1,1,0,1,0,0] (codeOf Tryz.f25)) (fun k (σ:Int × Int × eA)=>bc.l0 m k σ.1 σ.2.1 σ.2.2) (fun σ s=>match σ with | (n0,ec,r1)=>∃h0,s=⟨.ptr az 0 :: .any :: .int .u64 n0 :: .int .i64 ec::mT [],[],h0⟩∧Has h0 ((az,.ob [af.fz r1.bO,.bool r1.aK])::L)) (fun out e s=>(e = .exit 0∧∃n0 ec r1,(n0,ec,r1)=out∧∃kM zp pE Ub h0,s=⟨[kM,.any,.int .u64 n0,zp,.any,pE,.any,Ub],[],h0⟩∧Has h0 ((az,.ob [af.fz r1.bO,.bool r1.aK])::L))):=by
 refine gk (fun _=>rfl) ?_
 rintro k ⟨n0,ec,r1⟩ s out ⟨h0,rfl,o0⟩ H
 have H:bc.l0 m (k+1) n0 ec r1=some out:=H
 refine qq <| qq <| qr [.v 3 (show bp Tryz.prog h0 4 (.ptr az 1)=some (.bool r1.aK) from cg (q:=0) (cs:=[af.fz r1.bO,.bool r1.aK]) o0 rfl (by kernel_rfl))] <| qc H (fun c0 H=>?_) (fun c0 H=>?_)
 ·refine qk <| qq <| qb 1 <| qq ?_
  obtain⟨x0,e0,H⟩:=aG H
  obtain⟨h1,e1,o1⟩:=IF _ _ e0 h0 _ _ (o0)  [.ptr az 0] (an (rfl) (aT))
  refine qr [.a 1 e1] <| qq <| qq ?_
  rcases dX H with⟨c1,H⟩| ⟨c1,H⟩
  ·refine qr [.b 2 c1] <| uD <| qq ?_
   obtain⟨h2,e2,o2⟩:=jx (P:=Tryz.prog) (t:=4) (off:=1) (q:=0) (cs:=[af.fz x0.2.bO,.bool x0.2.aK]) (fU:=[af.fz x0.2.bO,.bool true]) (x:=.bool true) o1 rfl (by kernel_rfl)
   exact qr [.w 3 e2] <| qx 0 <| ⟨rfl,n0,ec,(eA.mk x0.2.bO true),oi H,.any,.any,.any,.any,h2,by kernel_rfl,o2⟩
  ·rcases dX H with⟨c3,H⟩| ⟨c3,H⟩
   ·refine qr [.b 2 c1,.b 5 c3] <| qc H (fun c4 H=>?_) (fun c4 H=>?_)
    ·refine qq ?_
     obtain⟨h3,e3,o3⟩:=jx (P:=Tryz.prog) (t:=4) (off:=1) (q:=0) (cs:=[af.fz x0.2.bO,.bool x0.2.aK]) (fU:=[af.fz x0.2.bO,.bool true]) (x:=.bool true) o1 rfl (by kernel_rfl)
     exact qr [.w 3 e3] <| qx 0 <| ⟨rfl,n0,ec,(eA.mk x0.2.bO true),oi H,.any,.any,.any,.any,h3,by kernel_rfl,o3⟩
    ·refine qk <| qq ?_
     obtain⟨v0,e4,H⟩:=aG H
     refine qr [.v 5 (show ml Tryz.prog .shl 40 (.int .u64 (u64.wrap (fv .u8 x0.1 (127:Int)))) (.int .i64 ec)=some (.int .u64 v0) from CQ e4)] <| qq <| q0 <| qc H (fun c5 H=>?_) (fun c5 H=>?_)
     ·exact qx 0 <| ⟨rfl,ja .u64 n0 v0,ec,x0.2,oi H,.ptr az 0,.int .i64 ec,.any,.bool (decide (x0.1<(128:Int))),h1,by kernel_rfl,o1⟩
     ·exact qk <| q0 <| ⟨(ja .u64 n0 v0,i64.wrap (ec+(7:Int)),x0.2),⟨h1,by kernel_rfl,o1⟩,H⟩
   ·refine qr [.b 2 c1,.b 5 c3] <| AU <| qk <| qq ?_
    obtain⟨v1,e5,H⟩:=aG H
    refine qr [.v 5 (show ml Tryz.prog .shl 40 (.int .u64 (u64.wrap (fv .u8 x0.1 (127:Int)))) (.int .i64 ec)=some (.int .u64 v1) from CQ e5)] <| qq <| q0 <| qc H (fun c7 H=>?_) (fun c7 H=>?_)
    ·exact qx 0 <| ⟨rfl,ja .u64 n0 v1,ec,x0.2,oi H,.ptr az 0,.int .i64 ec,.any,.bool (decide (x0.1<(128:Int))),h1,by kernel_rfl,o1⟩
    ·exact qk <| q0 <| ⟨(ja .u64 n0 v1,i64.wrap (ec+(7:Int)),x0.2),⟨h1,by kernel_rfl,o1⟩,H⟩
 ·exact qx 0 <| ⟨rfl,n0,ec,r1,oi H,.ptr az 0,.int .i64 ec,.bool (!r1.aK),.any,h0,by kernel_rfl,o0⟩
theorem wi {aV:FuncId→b9}(ha:aV 25=Bj)(IF:R6 cf m)(r0:eA)(h:AHeap)(L:Mem)(az:Nat)  (o:Has h ((az,.ob [af.fz r0.bO,.bool r0.aK])::L)){out:Int × eA}(H:bc.f m r0=some out) :
  ∃r h',bg Tryz.prog aV cf m 25 [.ptr az 0] h=some (r,h')∧r = .int .i64 out.1∧Has h' ((az,.ob [af.fz out.2.bO,.bool out.2.aK])::L):=by
 refine aj (fn:=Tryz.f25) ha Tryz.func25 (by kernel_rfl) (by kernel_rfl) ?_
 refine aD (Q:=fun s=>bc.fin L az r0 out s) (fun _ _ ⟨h1,h2,h3⟩=>⟨h1,_,h2,rfl,h3⟩) ?_
 have H:_=some out:=H
 unfold bc.f at H
 show dA _ cf Bj m _ ⟨.ptr az 0::zY [],[],h⟩ _
 refine q1 <| qq <| q0 <| qq <| qq <| q0 <| qb 0 ?_
 obtain⟨aF,e6,H⟩:=aG H
 refine ql (bc.bu L az r0  IF ((0:Int),(0:Int),r0) _ _ ⟨h,by kernel_rfl,o⟩ e6) ?_
 rintro e s ⟨rfl,n1,N1,r2,rfl,g0,g1,g2,g3,h4,rfl,o4⟩
 try dsimp only at H
 obtain rfl:=oi H
 exact q1 <| qt <| ⟨.inl rfl,⟨by kernel_rfl,he o4⟩⟩
end
end Go.Proofs.YtmekcfdllhphlaaGreatDoor
namespace Go.Proofs.YtmekcfdllhphlaaGreatDoor
open Go Go.R
open Go.IntKind (i64 u64 u8 u32)
theorem nP {bs news:List Int}(h:bs≠[])(hn:news≠[])(hl:bs.length+news.length≤140737488355328):HP bs news=some (bs++news):=by
 unfold HP wB
 rw [if_neg h,if_pos ⟨hl,hn⟩]
theorem Lb (n:Nat):bX n≠[]:=by
 by_cases h:n<128
 ·rw [iq h]; simp
 ·rw [ka h]; simp
theorem IG (m:Nat):∀(k n:Nat) (w:List Int) (f:Nat),k<f→n<128 ^ (k+1)→n<2 ^ 64→w≠[]→w.length+k≤140737488355328→
  ∃(x:Nat) (pre:List Int),x<128∧cu.l0 m f (n:Int) w=some ((x:Int),w++pre)∧pre++[(x:Int)]=bX n∧pre.length≤k
 | _,_,_,0,hf,_,_,_,_=>absurd hf (by omega)
 | k,n,w,f+1,hf,hk,hn,hw,hl=>by
  by_cases h:n<128
  ·refine⟨n,[],h,?_,by rw [iq h]; rfl,acq _⟩
   unfold cu.l0
   rw [if_neg (by simp; omega),abu]
  ·cases k with
   | zero=>simp at hk; omega
   | succ k=>
    have hd:n / 128<128 ^ (k+1):=by
     rw [Nat.div_lt_iff_lt_mul (by omega)]
     calc n<128 ^ (k+1+1):=hk
      _=_:=by rw [Nat.pow_succ]
    obtain⟨x,pre,h1,h2,h3,h4⟩:=IG m k (n / 128) (w++[((n % 128+128:Nat):Int)]) f (by omega) hd (by omega) (by simp) (by simp; omega)
    refine⟨x,((n % 128+128:Nat):Int)::pre,h1,?_,by rw [ka h,aa0,h3],by simp; omega⟩
    unfold cu.l0
    rw [if_pos (by simp; omega),hU,Qd,nP hw (by simp) (by simp; omega),aaA,TC,h2,aaM]
    rfl
theorem Bk {m n:Nat}{w:List Int}(hm:11≤m)(hn:n<2 ^ 64)(hw:w≠[])(hl:w.length+20≤140737488355328):cu.f m w (n:Int)=some (w++bX n):=by
 obtain⟨x,pre,h1,h2,h3,h4⟩:=IG m 10 n w m (by omega) (by omega) hn hw (by omega)
 unfold cu.f
 rw [h2,aaA]
 simp only
 rw [hU,show ((x:Int) % 256)=(x:Int) by omega,nP (by simp [hw]) (by simp) (by simp; omega),aaA,aaM,←h3]
theorem q8 {m:Nat}{c:Int}{l:List Int}{bad:Bool}:gg.f m ⟨c::l,bad⟩=some (c,⟨l,bad⟩):=by
 unfold gg.f
 rw [if_neg (by simp; omega)]
 have h1:ix (c::l) 0=some c:=rfl
 have h2:kU (c::l) 1 ((c::l).length:Int)=some l:=by
  unfold kU
  rw [if_pos ⟨by omega,by simp; omega,ab9 _⟩]
  simp
 simp only [h1,h2,aaA]
theorem II (m:Nat):∀(k f:Nat),k<f→∀(n a j:Nat) (rest:List Int),n<128 ^ (k+1)→a<2 ^ (7*j)→a+n*2 ^ (7*j)<2 ^ 63→(j=0∨1≤n)→
  ∃s':Int,bc.l0 m f (a:Int) ((7*j:Nat):Int) ⟨bX n++rest,false⟩=some (((a+n*2 ^ (7*j):Nat):Int),s',⟨rest,false⟩)
 | k,0,hf,_,_,_,_,_,_,_,_=>absurd hf (by omega)
 | k,f+1,hf,n,a,j,rest,hk,ha,hn,h0=>by
  have hs:7*j≤56:=by
   rcases h0 with h0 | h0
   ·omega
   ·have:7*j≤62:=by
     apply Nat.le_of_not_lt
     intro h
     have h1:2 ^ 63≤2 ^ (7*j):=Nat.pow_le_pow_right (by omega) (by omega)
     have h2:1*2 ^ (7*j)≤n*2 ^ (7*j):=abq _ h0
     omega
    omega
  by_cases h:n<128
  ·rw [iq h]
   obtain⟨g1,g2⟩:=CV a n (7*j) ha hs (by omega) h
   have g3:fv .u8 (n:Int) 127=(n:Int):=by rw [CU n (by omega)]; omega
   refine⟨((7*j:Nat):Int),?_⟩
   unfold bc.l0
   rw [if_pos (show (!false)=true from rfl),List.singleton_append,q8,aaA,if_neg (by simp; omega)]
   dsimp only
   rw [g3,g1,aaA]
   rw [if_pos (show decide ((n:Int)<128)=true by simp; omega),g2]
   by_cases hj:j=0
   ·rw [if_neg (by simp; omega)]
   ·rw [if_pos (by simp; omega),if_neg (by simp; omega)]
  ·rw [ka h]
   cases k with
   | zero=>simp at hk; omega
   | succ k=>
    have hd:n / 128<128 ^ (k+1):=by
     rw [Nat.div_lt_iff_lt_mul (by omega)]
     calc n<128 ^ (k+1+1):=hk
      _=_:=by rw [Nat.pow_succ]
    have hp:2 ^ (7*(j+1))=128*2 ^ (7*j):=by rw [show 7*(j+1)=7+7*j by omega,Nat.pow_add]
    have M9:a+n % 128*2 ^ (7*j)+n / 128*2 ^ (7*(j+1))=a+n*2 ^ (7*j):=by
     rw [hp,←Nat.mul_assoc,abl,←abJ]
     congr 2
     omega
    have Uc:a+n % 128*2 ^ (7*j)<2 ^ (7*(j+1)):=by
     rw [hp]
     have:n % 128*2 ^ (7*j)≤127*2 ^ (7*j):=abq _ (by omega)
     omega
    obtain⟨g1,g2⟩:=CV a (n % 128) (7*j) ha hs (by have:=acq (n / 128*2 ^ (7*(j+1))); omega) (Nat.mod_lt _ (by omega))
    have g3:fv .u8 ((n % 128+128:Nat):Int) 127=((n % 128:Nat):Int):=by
     rw [CU _ (by omega)]; omega
    obtain⟨s',ih⟩:=II m k f (by omega) (n / 128) (a+n % 128*2 ^ (7*j)) (j+1) rest hd Uc (by omega) (.inr (by omega))
    rw [M9] at ih
    refine⟨s',?_⟩
    unfold bc.l0
    rw [if_pos (show (!false)=true from rfl),aa0,q8,aaA,if_neg (by simp; omega)]
    dsimp only
    rw [g3,g1,aaA,g2]
    have g4:i64.wrap (((7*j:Nat):Int)+7)=((7*(j+1):Nat):Int):=by rw [ay (by omega) (by omega)]; omega
    rw [if_neg (show ¬decide (((n % 128+128:Nat):Int)<128)=true by simp; omega),g4,ih]
    by_cases hj:j=0
    ·rw [if_neg (by simp; omega)]
    ·rw [if_pos (by simp; omega),if_neg (by simp; omega)]
theorem Bl {m n:Nat}{rest:List Int}(hm:11≤m)(hn:n<2 ^ 63):bc.f m ⟨bX n++rest,false⟩=some ((n:Int),⟨rest,false⟩):=by
 obtain⟨s',h⟩:=II m 10 m (by omega) n 0 0 rest (by omega) (by omega) (by omega) (.inl rfl)
 unfold bc.f
 have h:bc.l0 m m (0:Int) (0:Int) ⟨bX n++rest,false⟩=some (((0+n*2 ^ (7*0):Nat):Int),s',⟨rest,false⟩):=h
 rw [h,aaA]
 simp only
 rw [ay (by omega) (by omega)]
 simp
end Go.Proofs.YtmekcfdllhphlaaGreatDoor
namespace Go.Proofs.YtmekcfdllhphlaaGreatDoor
open Go Go.R
open Go.IntKind (i64 u64 u8 u32)
def EB:b9:=gm [0,1] [] [0,3] [] []
def ky.f (m:Nat)(w0:List Int)(s0:ByteArray):Option ((List Int)):=(cu.f m w0 (u64.wrap (s0.size:Int))).bind fun x0=>(HP x0 (cV s0)).bind fun Aa=>some Aa
def ky.fin (L:Mem)(ck:Nat)(cJ:Nat)(w0:List Int)(s0:ByteArray)(r:(List Int))(s:St):Prop:=∃ej:Nat,aH Tryz.prog (s.open EB) Tryz.f81.results.toList=some (.tup [])∧Has s.h ((ck,.ob [.rs ej 0 r.length 1,.int .i64 (0:Int),.int .i8 (0:Int)])::(ej,.row 5 (af.l r))::L)
def WB (cf:CallF)(m:Nat):Prop:=∀(w0:List Int) (s0:ByteArray) (r:(List Int)),ky.f m w0 s0=some r→∀h L (ck:Nat) (cJ:Nat),Has h ((ck,.ob [.rs cJ 0 w0.length 1,.int .i64 (0:Int),.int .i8 (0:Int)])::(cJ,.row 5 (af.l w0))::L)→∀xs,xs.map aC=[.ptr ck 0,.str s0]→∃ej h',cf 81 xs h=some (.tup [],h')∧Has h' ((ck,.ob [.rs ej 0 r.length 1,.int .i64 (0:Int),.int .i8 (0:Int)])::(ej,.row 5 (af.l r))::L)
section
variable {cf:CallF}{m:Nat}
theorem zC {aV:FuncId→b9}(ha:aV 81=EB)(q9:O4 cf m)(QV:Qm cf m)(w0:List Int)(s0:ByteArray)(h:AHeap)(L:Mem)(ck:Nat)(cJ:Nat)  (o:Has h ((ck,.ob [.rs cJ 0 w0.length 1,.int .i64 (0:Int),.int .i8 (0:Int)])::(cJ,.row 5 (af.l w0))::L)){out:(List Int)}(H:ky.f m w0 s0=some out) :
  ∃r h',bg Tryz.prog aV cf m 81 [.ptr ck 0,.str s0] h=some (r,h')∧∃ej:Nat,r = .tup []∧Has h' ((ck,.ob [.rs ej 0 out.length 1,.int .i64 (0:Int),.int .i8 (0:Int)])::(ej,.row 5 (af.l out))::L):=by
 refine aj (fn:=Tryz.f81) ha Tryz.func81 (by kernel_rfl) (by kernel_rfl) ?_
 refine aD (Q:=fun s=>ky.fin L ck cJ w0 s0 out s) (fun _ _ ⟨h1,ej,h2,h3⟩=>⟨h1,_,h2,ej,rfl,h3⟩) ?_
 have H:_=some out:=H
 unfold ky.f at H
 show dA _ cf EB m _ ⟨[.ptr ck 0,.str s0],[],h⟩ _
 refine qq ?_
 obtain⟨x0,e0,H⟩:=aG H
 obtain⟨az,h0,e1,o0⟩:=q9 _ _ _ e0 h _ _ _ (o)  [.ptr ck 0,.int .u64 (u64.wrap (s0.size:Int))] (an (rfl) (an (aP (bD)) (aT)))
 refine qr [.a 4 e1] ?_
 obtain⟨Aa,e2,H⟩:=aG H
 obtain⟨dR,h1,e3,o1⟩:=KL (bs:=x0) QV o0 e2
 obtain rfl:=oi H
 exact qr [.a 4 e3] <| ⟨.inr rfl,⟨dR,by kernel_rfl,he o1⟩⟩
end
end Go.Proofs.YtmekcfdllhphlaaGreatDoor
namespace Go.Proofs.YtmekcfdllhphlaaGreatDoor
open Go Go.R
open Go.IntKind (i64 u64 u8 u32)
def Bm:b9:=gm [0,1,3,5,14,15,22,26,41,47,60,61,62,63] [3] [16378,16378,16362,16330,16383,16298,16250,16383,16383,16106,16383,15866,16378,16378,9214,1022,9206,9214,9214] [] []
def eT.l0 (m:Nat)(n0:ae):Nat→Int→(List Int)→Option (Int × (List Int))
 | 0,_,_=>none
 | k+1,x6,w1=>if (decide (x6<(n0.args.length:Int)))=true then ((ix n0.args x6).bind fun v0=>(cu.f m w1 (u64.wrap v0)).bind fun x7=>eT.l0 m n0 k (i64.wrap (x6+(1:Int))) x7) else (some ((x6,w1)))
def eT.f (m:Nat)(w0:List Int)(n0:ae):Option ((List Int)):=(HP w0 ([u8.wrap n0.kind])).bind fun Aa=>if (n0.kind==(0:Int))=true then ((cu.f m Aa (u64.wrap n0.int)).bind fun x0=>some x0) else (if (n0.kind==(1:Int))=true then (if (decide (n0.int<(0:Int)))=true then ((cu.f m Aa (u64.wrap (u64.wrap (u64.wrap (i64.wrap (0 - n0.int))*(2:Int)) - (1:Int)))).bind fun x1=>some x1) else ((cu.f m Aa (u64.wrap (u64.wrap n0.int*(2:Int)))).bind fun x2=>some x2)) else (if (n0.kind==(2:Int))=true then ((ky.f m Aa n0.label).bind fun x3=>some x3) else (if (n0.kind==(3:Int))=true then ((ky.f m Aa n0.label).bind fun x4=>(cu.f m x4 (u64.wrap (n0.args.length:Int))).bind fun x5=>(eT.l0 m n0 m (0:Int) x5).bind fun aF=>match aF with | (x8,w2)=>some w2) else (some Aa))))
def eT.fin (L:Mem)(ck:Nat)(cJ:Nat)(w0:List Int)(n0:ae)(r:(List Int))(s:St):Prop:=∃ej:Nat,aH Tryz.prog (s.open Bm) Tryz.f58.results.toList=some (.tup [])∧Has s.h ((ck,.ob [.rs ej 0 r.length 1,.int .i64 (0:Int),.int .i8 (0:Int)])::(ej,.row 5 (af.l r))::L)
def R7 (cf:CallF)(m:Nat):Prop:=∀(w0:List Int) (n0:ae) (r:(List Int)),eT.f m w0 n0=some r→∀h L (ck:Nat) (cJ:Nat),Has h ((ck,.ob [.rs cJ 0 w0.length 1,.int .i64 (0:Int),.int .i8 (0:Int)])::(cJ,.row 5 (af.l w0))::L)→∀xs,xs.map aC=[.ptr ck 0,.agg [.int .i64 n0.kind,.int .i64 n0.int,.str n0.label,aa.fz n0.args]]→∃ej h',cf 58 xs h=some (.tup [],h')∧Has h' ((ck,.ob [.rs ej 0 r.length 1,.int .i64 (0:Int),.int .i8 (0:Int)])::(ej,.row 5 (af.l r))::L)
section
variable {cf:CallF}{m:Nat}
theorem eT.bu (L:Mem)(ck:Nat)(cJ:Nat)(w0:List Int)(n0:ae)  (q9:O4 cf m):bC Tryz.prog cf Bm m (sub [1,1,1,0,1,1,1,1,1,1,1,0,1,1,1,0,0] (codeOf Tryz.f58)) (fun k (σ:Int × (List Int))=>eT.l0 m n0 k σ.1 σ.2) (fun σ s=>match σ with | (x6,w1)=>∃iX h7,s=⟨.ptr ck 0::FX [aa.fz n0.args,.int .i64 (n0.args.length:Int),.int .i64 x6,.any],[none],h7⟩∧Has h7 ((ck,.ob [.rs iX 0 w1.length 1,.int .i64 (0:Int),.int .i8 (0:Int)])::(iX,.row 5 (af.l w1))::L)) (fun out e s=>(e = .exit 1∧∃x6 w1,(x6,w1)=out∧∃kM Ud Ue Uf Ug iX h7,s=⟨kM::FX [Ud,Ue,Uf,Ug],[none],h7⟩∧Has h7 ((ck,.ob [.rs iX 0 w1.length 1,.int .i64 (0:Int),.int .i8 (0:Int)])::(iX,.row 5 (af.l w1))::L))):=by
 refine gk (fun _=>rfl) ?_
 rintro k ⟨x6,w1⟩ s out ⟨iX,h7,rfl,o7⟩ H
 have H:eT.l0 m n0 (k+1) x6 w1=some out:=H
 refine q1 <| qq <| qc H (fun c5 H=>?_) (fun c5 H=>?_)
 ·refine qk <| qq <| qb 2 <| qq ?_
  obtain⟨v0,pc,H⟩:=aG H
  refine qr [.v 0 (bN (k:=.i64) (E:=aa) (l:=n0.args) dK pc),.v 1 (dd  (E:=aa) (l:=n0.args) h7 A3 pc rfl)] ?_
  obtain⟨x7,pb,H⟩:=aG H
  obtain⟨kP,h8,qU,o8⟩:=q9 _ _ _ pb h7 _ _ _ (o7)  [.ptr ck 0,.int .u64 (u64.wrap v0)] (an (rfl) (an (aP (bD)) (aT)))
  exact qr [.a 3 qU] <| q0 <| ⟨(i64.wrap (x6+(1:Int)),x7),⟨kP,h8,by kernel_rfl,o8⟩,H⟩
 ·exact qx 1 <| ⟨rfl,x6,w1,oi H,.ptr ck 0,aa.fz n0.args,.int .i64 (n0.args.length:Int),.int .i64 x6,.bool (decide (x6<(n0.args.length:Int))),iX,h7,by kernel_rfl,o7⟩
theorem zD {aV:FuncId→b9}(ha:aV 58=Bm)(zA:Ql cf m)(q9:O4 cf m)(QX:WB cf m)(w0:List Int)(n0:ae)(h:AHeap)(L:Mem)(ck:Nat)(cJ:Nat)  (o:Has h ((ck,.ob [.rs cJ 0 w0.length 1,.int .i64 (0:Int),.int .i8 (0:Int)])::(cJ,.row 5 (af.l w0))::L)){out:(List Int)}(H:eT.f m w0 n0=some out) :
  ∃r h',bg Tryz.prog aV cf m 58 [.ptr ck 0,.agg [.int .i64 n0.kind,.int .i64 n0.int,.str n0.label,aa.fz n0.args]] h=some (r,h')∧∃ej:Nat,r = .tup []∧Has h' ((ck,.ob [.rs ej 0 out.length 1,.int .i64 (0:Int),.int .i8 (0:Int)])::(ej,.row 5 (af.l out))::L):=by
 refine aj (fn:=Tryz.f58) ha Tryz.func58 (by kernel_rfl) (by kernel_rfl) ?_
 refine aD (Q:=fun s=>eT.fin L ck cJ w0 n0 out s) (fun _ _ ⟨h1,ej,h2,h3⟩=>⟨h1,_,h2,ej,rfl,h3⟩) ?_
 have H:_=some out:=H
 unfold eT.f at H
 show dA _ cf Bm m _ ⟨.ptr ck 0 :: .agg [.int .i64 n0.kind,.int .i64 n0.int,.str n0.label,aa.fz n0.args]::oE [],[none],h⟩ _
 refine q1 <| qq ?_
 obtain⟨Aa,e0,H⟩:=aG H
 obtain⟨az,h0,e1,o0⟩:=uB (bs:=w0) zA o e0
 refine qr [.a 6 e1] <| qq <| q0 <| qb 0 <| qq <| q0 <| qc H (fun c0 H=>?_) (fun c0 H=>?_)
 ·obtain⟨x0,e2,H⟩:=aG H
  obtain⟨dR,h1,e3,o1⟩:=q9 _ _ _ e2 h0 _ _ _ (o0)  [.ptr ck 0,.int .u64 (u64.wrap n0.int)] (an (rfl) (an (aP (bD)) (aT)))
  obtain rfl:=oi H
  exact qr [.a 4 e3] <| ⟨.inr rfl,⟨dR,by kernel_rfl,he o1⟩⟩
 ·refine q1 <| qc H (fun c1 H=>?_) (fun c1 H=>?_)
  ·refine q1 <| qc H (fun c2 H=>?_) (fun c2 H=>?_)
   ·obtain⟨x1,e4,H⟩:=aG H
    obtain⟨cR,h2,e5,o2⟩:=q9 _ _ _ e4 h0 _ _ _ (o0)  [.ptr ck 0,.int .u64 (u64.wrap (u64.wrap (u64.wrap (i64.wrap (0 - n0.int))*(2:Int)) - (1:Int)))] (an (rfl) (an (aP (bD)) (aT)))
    obtain rfl:=oi H
    exact qr [.a 7 e5] <| ⟨.inr rfl,⟨cR,by kernel_rfl,he o2⟩⟩
   ·obtain⟨x2,e6,H⟩:=aG H
    obtain⟨fc,h3,e7,o3⟩:=q9 _ _ _ e6 h0 _ _ _ (o0)  [.ptr ck 0,.int .u64 (u64.wrap (u64.wrap n0.int*(2:Int)))] (an (rfl) (an (aP (bD)) (aT)))
    obtain rfl:=oi H
    exact qr [.a 5 e7] <| ⟨.inr rfl,⟨fc,by kernel_rfl,he o3⟩⟩
  ·refine q1 <| qc H (fun c3 H=>?_) (fun c3 H=>?_)
   ·obtain⟨x3,e8,H⟩:=aG H
    obtain⟨gY,h4,e9,o4⟩:=QX _ _ _ e8 h0 _ _ _ (o0)  [.ptr ck 0,.str n0.label] (an (rfl) (an (aP (pA)) (aT)))
    obtain rfl:=oi H
    exact qr [.a 3 e9] <| ⟨.inr rfl,⟨gY,by kernel_rfl,he o4⟩⟩
   ·refine q1 <| qc H (fun c4 H=>?_) (fun c4 H=>?_)
    ·refine qq ?_
     obtain⟨x4,lF,H⟩:=aG H
     obtain⟨gV,h5,nb,o5⟩:=QX _ _ _ lF h0 _ _ _ (o0)  [.ptr ck 0,.str n0.label] (an (rfl) (an (aP (pA)) (aT)))
     refine qr [.a 3 nb] <| qq ?_
     obtain⟨x5,nK,H⟩:=aG H
     obtain⟨fK,h6,pa,o6⟩:=q9 _ _ _ nK h5 _ _ _ (o5)  [.ptr ck 0,.int .u64 (u64.wrap (n0.args.length:Int))] (an (rfl) (an (aP (bD)) (aT)))
     refine qr [.a 5 pa] <| qq <| q0 <| qb 1 ?_
     obtain⟨aF,pP,H⟩:=aG H
     refine ql (eT.bu L ck cJ w0 n0  q9 ((0:Int),x5) _ _ ⟨fK,h6,by kernel_rfl,o6⟩ pP) ?_
     rintro e s ⟨rfl,x8,w2,rfl,g0,g1,g2,g3,g4,rG,h9,rfl,o9⟩
     try dsimp only at H
     obtain rfl:=oi H
     exact⟨.inr rfl,⟨rG,by kernel_rfl,he o9⟩⟩
    ·obtain rfl:=oi H
     exact qk <| ⟨.inr rfl,⟨az,by kernel_rfl,he o0⟩⟩
end
end Go.Proofs.YtmekcfdllhphlaaGreatDoor
namespace Go.Proofs.YtmekcfdllhphlaaGreatDoor
open Go Go.R
open Go.IntKind (i64 u64 u8 u32)
def EC:b9:=gm [0,2,3,4,19] [] [30,26,10,31,29,18,23,29] [] []
def hX.f (m:Nat)(r0:eA):Option (ByteArray × eA):=(bc.f m r0).bind fun x0=>if x0.2.aK=true then (some ((aaT #[]),(eA.mk x0.2.bO true))) else (if (decide (x0.1 > (x0.2.bO.length:Int)))=true then (some ((aaT #[]),(eA.mk x0.2.bO true))) else ((kU x0.2.bO (0:Int) x0.1).bind fun v0=>(kU x0.2.bO x0.1 (x0.2.bO.length:Int)).bind fun v1=>some (bQ v0,(eA.mk v1 x0.2.aK))))
def hX.fin (L:Mem)(az:Nat)(r0:eA)(r:ByteArray × eA)(s:St):Prop:=aH Tryz.prog (s.open EC) Tryz.f42.results.toList=some (.str r.1)∧Has s.h ((az,.ob [af.fz r.2.bO,.bool r.2.aK])::L)
def WC (cf:CallF)(m:Nat):Prop:=∀(r0:eA) (r:ByteArray × eA),hX.f m r0=some r→∀h L (az:Nat),Has h ((az,.ob [af.fz r0.bO,.bool r0.aK])::L)→∀xs,xs.map aC=[.ptr az 0]→∃h',cf 42 xs h=some (.str r.1,h')∧Has h' ((az,.ob [af.fz r.2.bO,.bool r.2.aK])::L)
section
variable {cf:CallF}{m:Nat}
theorem zE {aV:FuncId→b9}(ha:aV 42=EC)(oL:N2 cf m)(r0:eA)(h:AHeap)(L:Mem)(az:Nat)  (o:Has h ((az,.ob [af.fz r0.bO,.bool r0.aK])::L)){out:ByteArray × eA}(H:hX.f m r0=some out) :
  ∃r h',bg Tryz.prog aV cf m 42 [.ptr az 0] h=some (r,h')∧r = .str out.1∧Has h' ((az,.ob [af.fz out.2.bO,.bool out.2.aK])::L):=by
 refine aj (fn:=Tryz.f42) ha Tryz.func42 (by kernel_rfl) (by kernel_rfl) ?_
 refine aD (Q:=fun s=>hX.fin L az r0 out s) (fun _ _ ⟨h1,h2,h3⟩=>⟨h1,_,h2,rfl,h3⟩) ?_
 have H:_=some out:=H
 unfold hX.f at H
 show dA _ cf EC m _ ⟨.ptr az 0::mT [],[],h⟩ _
 refine q1 <| qq ?_
 obtain⟨x0,e0,H⟩:=aG H
 obtain⟨h0,e1,o0⟩:=oL _ _ e0 h _ _ (o)  [.ptr az 0] (an (rfl) (aT))
 refine qr [.a 1 e1] <| qq <| qq ?_
 rcases dX H with⟨c0,H⟩| ⟨c0,H⟩
 ·refine qr [.v 3 (show bp Tryz.prog h0 4 (.ptr az 1)=some (.bool x0.2.aK) from cg (q:=0) (cs:=[af.fz x0.2.bO,.bool x0.2.aK]) o0 rfl (by kernel_rfl)),.b 4 c0] <| uD <| qq ?_
  obtain⟨h1,e2,o1⟩:=jx (P:=Tryz.prog) (t:=4) (off:=1) (q:=0) (cs:=[af.fz x0.2.bO,.bool x0.2.aK]) (fU:=[af.fz x0.2.bO,.bool true]) (x:=.bool true) o0 rfl (by kernel_rfl)
  obtain rfl:=oi H
  exact qr [.w 3 e2] <| qq <| q0 <| qt <| ⟨.inl rfl,⟨by kernel_rfl,he o1⟩⟩
 ·refine qr [.v 3 (show bp Tryz.prog h0 4 (.ptr az 1)=some (.bool x0.2.aK) from cg (q:=0) (cs:=[af.fz x0.2.bO,.bool x0.2.aK]) o0 rfl (by kernel_rfl)),.b 4 c0,.v 9 (show bp Tryz.prog h0 22 (.ptr az 0)=some (af.fz x0.2.bO) from cg (q:=0) (cs:=[af.fz x0.2.bO,.bool x0.2.aK]) o0 rfl (by kernel_rfl))] <| qc H (fun c2 H=>?_) (fun c2 H=>?_)
  ·refine qq ?_
   obtain⟨h2,e3,o2⟩:=jx (P:=Tryz.prog) (t:=4) (off:=1) (q:=0) (cs:=[af.fz x0.2.bO,.bool x0.2.aK]) (fU:=[af.fz x0.2.bO,.bool true]) (x:=.bool true) o0 rfl (by kernel_rfl)
   obtain rfl:=oi H
   exact qr [.w 3 e3] <| qq <| q0 <| qt <| ⟨.inl rfl,⟨by kernel_rfl,he o2⟩⟩
  ·refine qk <| qq ?_
   obtain⟨v0,e4,H⟩:=aG H
   refine qr [.v 3 (show bp Tryz.prog h0 22 (.ptr az 0)=some (af.fz x0.2.bO) from cg (q:=0) (cs:=[af.fz x0.2.bO,.bool x0.2.aK]) o0 rfl (by kernel_rfl)),.v 5 (show eN Tryz.prog 22 (af.fz x0.2.bO) none (some (.int .i64 x0.1)) none=some (af.fz v0) from uz (E:=af) tg e4),.v 6 (show eu Tryz.prog h0 22 9 (af.fz v0)=some (.str (bQ v0)) from nD (e:=5) (l:=v0) rfl rfl rfl (vo _))] <| qq ?_
   obtain⟨v1,e5,H⟩:=aG H
   obtain⟨h3,e6,o3⟩:=jx (P:=Tryz.prog) (t:=22) (off:=0) (q:=0) (cs:=[af.fz x0.2.bO,.bool x0.2.aK]) (fU:=[af.fz v1,.bool x0.2.aK]) (x:=af.fz v1) o0 rfl (by kernel_rfl)
   obtain rfl:=oi H
   exact qr [.v 4 (show bp Tryz.prog h0 22 (.ptr az 0)=some (af.fz x0.2.bO) from cg (q:=0) (cs:=[af.fz x0.2.bO,.bool x0.2.aK]) o0 rfl (by kernel_rfl)),.v 6 (show eN Tryz.prog 22 (af.fz x0.2.bO) (some (.int .i64 x0.1)) none none=some (af.fz v1) from qB (E:=af) tg e5),.w 9 e6] <| qq <| q0 <| qt <| ⟨.inl rfl,⟨by kernel_rfl,he o3⟩⟩
end
end Go.Proofs.YtmekcfdllhphlaaGreatDoor
namespace Go.Proofs.YtmekcfdllhphlaaGreatDoor
open Go Go.R
open Go.IntKind (i64 u64 u8 u32)
def yi:b9:=gm [0,2,3,4,5,11,15,20,29,35,40,48,53,54,55] [2,3] [32764,32760,32728,32761,32664,32761,32600,32753,32753,32497,32761,32216,32761,31736,32760,32744,30696,32744,20472,4088,20472,20472,32765] [(22,[(3,some 3,0)])] [(1,[(3,some 3,1)])]
def cK.l0 (m:Nat)(x5:Int × eA):Nat→Int→Int→Int→ByteArray→(List Int)→eA→Option (Int × Int × Int × ByteArray × (List Int) × eA)
 | 0,_,_,_,_,_,_=>none
 | k+1,x6,n0,n1,n2,n3,r1=>if (decide (x6<(mn x5.1 (8:Int))))=true then ((bc.f m r1).bind fun x7=>(app 8 n3 ([x7.1])).bind fun x8=>cK.l0 m x5 k (i64.wrap (x6+(1:Int))) n0 n1 n2 x8 x7.2) else (some ((x6,n0,n1,n2,n3,r1)))
def cK.l1 (m:Nat)(x5:Int × eA):Nat→Int→Int→Int→ByteArray→(List Int)→eA→Option (Int × Int × Int × ByteArray × (List Int) × eA)
 | 0,_,_,_,_,_,_=>none
 | k+1,jF,n8,n9,IJ,Dd,r3=>if (decide (jF<(mn x5.1 (8:Int))))=true then ((bc.f m r3).bind fun pQ=>(app 8 Dd ([pQ.1])).bind fun xh=>cK.l1 m x5 k (i64.wrap (jF+(1:Int))) n8 n9 IJ xh pQ.2) else (some ((jF,n8,n9,IJ,Dd,r3)))
def cK.f (m:Nat)(r0:eA):Option (ae × eA):=(gg.f m r0).bind fun x0=>if ((i64.wrap x0.1)==(0:Int))=true then ((bc.f m x0.2).bind fun x1=>some ((ae.mk (i64.wrap x0.1) x1.1 (aaT #[]) ([]:List Int)),x1.2)) else (if ((i64.wrap x0.1)==(1:Int))=true then ((bc.f m x0.2).bind fun x2=>if ((abE x2.1 (2:Int))==(1:Int))=true then (some ((ae.mk (i64.wrap x0.1) (i64.wrap (0 - (i64.wrap (i64.wrap (abr x2.1 (2:Int))+(1:Int))))) (aaT #[]) ([]:List Int)),x2.2)) else (some ((ae.mk (i64.wrap x0.1) (i64.wrap (abr x2.1 (2:Int))) (aaT #[]) ([]:List Int)),x2.2))) else (if ((i64.wrap x0.1)==(2:Int))=true then ((hX.f m x0.2).bind fun x3=>some ((ae.mk (i64.wrap x0.1) (0:Int) x3.1 ([]:List Int)),x3.2)) else (if ((i64.wrap x0.1)==(3:Int))=true then ((hX.f m x0.2).bind fun x4=>(bc.f m x4.2).bind fun x5=>if (decide (x5.1 > (8:Int)))=true then ((cK.l0 m x5 m (0:Int) (i64.wrap x0.1) (0:Int) x4.1 ([]:List Int) (eA.mk x5.2.bO true)).bind fun aF=>match aF with | (x9,n4,n5,n6,n7,r2)=>some ((ae.mk n4 n5 n6 n7),r2)) else ((cK.l1 m x5 m (0:Int) (i64.wrap x0.1) (0:Int) x4.1 ([]:List Int) x5.2).bind fun bm=>match bm with | (rH,WD,WE,WG,n15,r4)=>some ((ae.mk WD WE WG n15),r4))) else (some ((ae.mk (i64.wrap x0.1) (0:Int) (aaT #[]) ([]:List Int)),(eA.mk x0.2.bO true))))))
def cK.fin (L:Mem)(az:Nat)(r0:eA)(r:ae × eA)(s:St):Prop:=aH Tryz.prog (s.open yi) Tryz.f26.results.toList=some (.agg [.int .i64 r.1.kind,.int .i64 r.1.int,.str r.1.label,aa.fz r.1.args])∧Has s.h ((az,.ob [af.fz r.2.bO,.bool r.2.aK])::L)
def R8 (cf:CallF)(m:Nat):Prop:=∀(r0:eA) (r:ae × eA),cK.f m r0=some r→∀h L (az:Nat),Has h ((az,.ob [af.fz r0.bO,.bool r0.aK])::L)→∀xs,xs.map aC=[.ptr az 0]→∃h',cf 26 xs h=some (.agg [.int .i64 r.1.kind,.int .i64 r.1.int,.str r.1.label,aa.fz r.1.args],h')∧Has h' ((az,.ob [af.fz r.2.bO,.bool r.2.aK])::L)
section
variable {cf:CallF}{m:Nat}
theorem cK.bu (L:Mem)(az:Nat)(r0:eA)(x5:Int × eA)  (oL:N2 cf m):bC Tryz.prog cf yi m (sub [1,1,0,1,0,1,1,1,1,1,1,1,0,1,1,1,1,0,0] (codeOf Tryz.f26)) (fun k (σ:Int × Int × Int × ByteArray × (List Int) × eA)=>cK.l0 m x5 k σ.1 σ.2.1 σ.2.2.1 σ.2.2.2.1 σ.2.2.2.2.1 σ.2.2.2.2.2) (fun σ s=>match σ with | (x6,n0,n1,n2,n3,r1)=>∃dR h11,s=⟨.ptr az 0 :: .lp 2 0 :: .lp 3 0::FX [.int .i64 (mn x5.1 (8:Int)),.int .i64 x6,.any],[some [.int .i64 (0:Int),.int .i64 (0:Int),.str (aaT #[]),.nils],some [.int .i64 n0,.int .i64 n1,.str n2,.rs dR 0 n3.length 1]],h11⟩∧Has h11 ((az,.ob [af.fz r1.bO,.bool r1.aK])::(dR,.sl n3.length 1 (aa.l n3))::L)) (fun out e s=>(e = .exit 1∧∃x6 n0 n1 n2 n3 r1,(x6,n0,n1,n2,n3,r1)=out∧∃kM Iy Iz IA dR h11,s=⟨kM :: .lp 2 0 :: .lp 3 0::FX [Iy,Iz,IA],[some [.int .i64 (0:Int),.int .i64 (0:Int),.str (aaT #[]),.nils],some [.int .i64 n0,.int .i64 n1,.str n2,.rs dR 0 n3.length 1]],h11⟩∧Has h11 ((az,.ob [af.fz r1.bO,.bool r1.aK])::(dR,.sl n3.length 1 (aa.l n3))::L))):=by
 refine gk (fun _=>rfl) ?_
 rintro k ⟨x6,n0,n1,n2,n3,r1⟩ s out ⟨dR,h11,rfl,oZ⟩ H
 have H:cK.l0 m x5 (k+1) x6 n0 n1 n2 n3 r1=some out:=H
 refine q1 <| qq <| qc H (fun c6 H=>?_) (fun c6 H=>?_)
 ·refine qk <| qq <| qb 2 ?_
  obtain⟨x7,pP,H⟩:=aG H
  obtain⟨h12,tO,kN⟩:=oL _ _ pP h11 _ _ (oZ)  [.ptr az 0] (an (rfl) (aT))
  obtain⟨x8,rF,H⟩:=aG H
  obtain⟨cR,h13,ye,tL⟩:=cL (P:=Tryz.prog) (E:=aa) (l:=n3) (q:=1) (t2:=28) (x:=.fz [.int .i64 x7.1] 1 true) (l2:=([x7.1])) dK kN rfl (by kernel_rfl) rfl rF
  exact qr [.a 3 tO,.a 5 ye] <| q0 <| ⟨(i64.wrap (x6+(1:Int)),n0,n1,n2,x8,x7.2),⟨cR,h13,by kernel_rfl,tL⟩,H⟩
 ·exact qx 1 <| ⟨rfl,x6,n0,n1,n2,n3,r1,oi H,.ptr az 0,.int .i64 (mn x5.1 (8:Int)),.int .i64 x6,.bool (decide (x6<(mn x5.1 (8:Int)))),dR,h11,by kernel_rfl,oZ⟩
theorem cK.eO (L:Mem)(az:Nat)(r0:eA)(x5:Int × eA)  (oL:N2 cf m):bC Tryz.prog cf yi m (sub [1,1,0,1,0,1,1,1,1,1,1,1,0,1,1,1,1,0,0] (codeOf Tryz.f26)) (fun k (σ:Int × Int × Int × ByteArray × (List Int) × eA)=>cK.l1 m x5 k σ.1 σ.2.1 σ.2.2.1 σ.2.2.2.1 σ.2.2.2.2.1 σ.2.2.2.2.2) (fun σ s=>match σ with | (jF,n8,n9,IJ,Dd,r3)=>∃gY h16,s=⟨.ptr az 0 :: .lp 2 0 :: .lp 3 0::FX [.int .i64 (mn x5.1 (8:Int)),.int .i64 jF,.any],[some [.int .i64 (0:Int),.int .i64 (0:Int),.str (aaT #[]),.nils],some [.int .i64 n8,.int .i64 n9,.str IJ,.rs gY 0 Dd.length 1]],h16⟩∧Has h16 ((az,.ob [af.fz r3.bO,.bool r3.aK])::(gY,.sl Dd.length 1 (aa.l Dd))::L)) (fun out e s=>(e = .exit 1∧∃jF n8 n9 IJ Dd r3,(jF,n8,n9,IJ,Dd,r3)=out∧∃kM Iy Iz IA gY h16,s=⟨kM :: .lp 2 0 :: .lp 3 0::FX [Iy,Iz,IA],[some [.int .i64 (0:Int),.int .i64 (0:Int),.str (aaT #[]),.nils],some [.int .i64 n8,.int .i64 n9,.str IJ,.rs gY 0 Dd.length 1]],h16⟩∧Has h16 ((az,.ob [af.fz r3.bO,.bool r3.aK])::(gY,.sl Dd.length 1 (aa.l Dd))::L))):=by
 refine gk (fun _=>rfl) ?_
 rintro k ⟨jF,n8,n9,IJ,Dd,r3⟩ s out ⟨gY,h16,rfl,uF⟩ H
 have H:cK.l1 m x5 (k+1) jF n8 n9 IJ Dd r3=some out:=H
 refine q1 <| qq <| qc H (fun c7 H=>?_) (fun c7 H=>?_)
 ·refine qk <| qq <| qb 2 ?_
  obtain⟨pQ,Bb,H⟩:=aG H
  obtain⟨h17,z6,yf⟩:=oL _ _ Bb h16 _ _ (uF)  [.ptr az 0] (an (rfl) (aT))
  obtain⟨xh,z8,H⟩:=aG H
  obtain⟨gV,h18,C3,qV⟩:=cL (P:=Tryz.prog) (E:=aa) (l:=Dd) (q:=1) (t2:=28) (x:=.fz [.int .i64 pQ.1] 1 true) (l2:=([pQ.1])) dK yf rfl (by kernel_rfl) rfl z8
  exact qr [.a 3 z6,.a 5 C3] <| q0 <| ⟨(i64.wrap (jF+(1:Int)),n8,n9,IJ,xh,pQ.2),⟨gV,h18,by kernel_rfl,qV⟩,H⟩
 ·exact qx 1 <| ⟨rfl,jF,n8,n9,IJ,Dd,r3,oi H,.ptr az 0,.int .i64 (mn x5.1 (8:Int)),.int .i64 jF,.bool (decide (jF<(mn x5.1 (8:Int)))),gY,h16,by kernel_rfl,uF⟩
theorem zF {aV:FuncId→b9}(ha:aV 26=yi)(oL:N2 cf m)(IF:R6 cf m)(QY:WC cf m)(r0:eA)(h:AHeap)(L:Mem)(az:Nat)  (o:Has h ((az,.ob [af.fz r0.bO,.bool r0.aK])::L)){out:ae × eA}(H:cK.f m r0=some out) :
  ∃r h',bg Tryz.prog aV cf m 26 [.ptr az 0] h=some (r,h')∧r = .agg [.int .i64 out.1.kind,.int .i64 out.1.int,.str out.1.label,aa.fz out.1.args]∧Has h' ((az,.ob [af.fz out.2.bO,.bool out.2.aK])::L):=by
 refine aj (fn:=Tryz.f26) ha Tryz.func26 (by kernel_rfl) (by kernel_rfl) ?_
 refine aD (Q:=fun s=>cK.fin L az r0 out s) (fun _ _ ⟨h1,h2,h3⟩=>⟨h1,_,h2,rfl,h3⟩) ?_
 have H:_=some out:=H
 unfold cK.f at H
 show dA _ cf yi m _ ⟨.ptr az 0::qG [],[none,none],h⟩ _
 refine q1 <| qq ?_
 obtain⟨x0,e0,H⟩:=aG H
 obtain⟨h0,e1,o0⟩:=IF _ _ e0 h _ _ (o)  [.ptr az 0] (an (rfl) (aT))
 refine qr [.a 1 e1] ?_
 have o1:Has h0 (((0),.sl (([]:List Int).length) 1 (aa.l ([]:List Int)))::(az,.ob [af.fz x0.2.bO,.bool x0.2.aK])::L):=Has.nil o0 1
 refine qq <| qq <| q0 <| qb 0 <| qq <| q0 <| qc H (fun c0 H=>?_) (fun c0 H=>?_)
 ·obtain⟨x1,e2,H⟩:=aG H
  obtain⟨h1,e3,o2⟩:=oL _ _ e2 h0 _ _ ((Has.front (Has.front o1 0 rfl) 1 rfl))  [.ptr az 0] (an (rfl) (aT))
  refine qr [.a 1 e3] <| qq ?_
  obtain⟨h2,e4,o3⟩:=fV (E:=aa) (l:=([]:List Int)) (q:=1) o2 rfl
  obtain rfl:=oi H
  exact uC [.a 0 e4] [] <| qt <| ⟨.inl rfl,⟨by kernel_rfl,he o3⟩⟩
 ·refine q1 <| qc H (fun c1 H=>?_) (fun c1 H=>?_)
  ·refine qq ?_
   obtain⟨x2,e5,H⟩:=aG H
   obtain⟨h3,e6,o4⟩:=oL _ _ e5 h0 _ _ ((Has.front (Has.front o1 0 rfl) 1 rfl))  [.ptr az 0] (an (rfl) (aT))
   refine qr [.a 1 e6] <| qq <| q0 <| qq <| q0 <| qc H (fun c2 H=>?_) (fun c2 H=>?_)
   ·refine q0 <| qq ?_
    obtain⟨h4,e7,o5⟩:=fV (E:=aa) (l:=([]:List Int)) (q:=1) o4 rfl
    obtain rfl:=oi H
    exact uC [.a 0 e7] [] <| qt <| ⟨.inl rfl,⟨by kernel_rfl,he o5⟩⟩
   ·refine qk <| qq ?_
    obtain⟨h5,e8,o6⟩:=fV (E:=aa) (l:=([]:List Int)) (q:=1) o4 rfl
    obtain rfl:=oi H
    exact uC [.a 0 e8] [] <| qt <| ⟨.inl rfl,⟨by kernel_rfl,he o6⟩⟩
  ·refine q1 <| qc H (fun c3 H=>?_) (fun c3 H=>?_)
   ·obtain⟨x3,e9,H⟩:=aG H
    obtain⟨h6,lF,o7⟩:=QY _ _ e9 h0 _ _ ((Has.front (Has.front o1 0 rfl) 1 rfl))  [.ptr az 0] (an (rfl) (aT))
    refine qr [.a 1 lF] <| qq ?_
    obtain⟨h7,nb,o8⟩:=fV (E:=aa) (l:=([]:List Int)) (q:=1) o7 rfl
    obtain rfl:=oi H
    exact uC [.a 0 nb] [] <| qt <| ⟨.inl rfl,⟨by kernel_rfl,he o8⟩⟩
   ·refine q1 <| qc H (fun c4 H=>?_) (fun c4 H=>?_)
    ·refine qq ?_
     obtain⟨x4,nK,H⟩:=aG H
     obtain⟨h8,pa,o9⟩:=QY _ _ nK h0 _ _ ((Has.front (Has.front o1 0 rfl) 1 rfl))  [.ptr az 0] (an (rfl) (aT))
     refine qr [.a 1 pa] <| qq ?_
     obtain⟨x5,pc,H⟩:=aG H
     obtain⟨h9,pb,oz⟩:=oL _ _ pc h8 _ _ (o9)  [.ptr az 0] (an (rfl) (aT))
     refine qr [.a 1 pb] <| qq <| qq <| q0 <| qc H (fun c5 H=>?_) (fun c5 H=>?_)
     ·obtain⟨h10,qU,sg⟩:=jx (P:=Tryz.prog) (t:=4) (off:=1) (q:=0) (cs:=[af.fz x5.2.bO,.bool x5.2.aK]) (fU:=[af.fz x5.2.bO,.bool true]) (x:=.bool true) oz rfl (by kernel_rfl)
      refine qr [.w 3 qU] <| qq <| q0 <| qb 1 ?_
      obtain⟨aF,z7,H⟩:=aG H
      refine ql (cK.bu L az r0 x5  oL ((0:Int),i64.wrap x0.1,(0:Int),x4.1,([]:List Int),(eA.mk x5.2.bO true)) _ _ ⟨(0),h10,by kernel_rfl,sg⟩ z7) ?_
      rintro e s ⟨rfl,x9,n4,n5,n6,n7,r2,rfl,g0,g1,g2,g3,fc,h14,rfl,qR⟩
      try dsimp only at H
      refine qq ?_
      obtain⟨h15,zZ,kO⟩:=fV (E:=aa) (l:=n7) (q:=1) qR rfl
      obtain rfl:=oi H
      exact uC [.a 0 zZ] [] <| qt <| ⟨.inl rfl,⟨by kernel_rfl,he kO⟩⟩
     ·refine qk <| qq <| q0 <| qb 1 ?_
      obtain⟨bm,El,H⟩:=aG H
      refine ql (cK.eO L az r0 x5  oL ((0:Int),i64.wrap x0.1,(0:Int),x4.1,([]:List Int),x5.2) _ _ ⟨(0),h9,by kernel_rfl,oz⟩ El) ?_
      rintro e s ⟨rfl,rH,WD,WE,WG,n15,r4,rfl,g4,g5,g6,g7,fK,h19,rfl,Ew⟩
      try dsimp only at H
      refine qq ?_
      obtain⟨h20,C1,uG⟩:=fV (E:=aa) (l:=n15) (q:=1) Ew rfl
      obtain rfl:=oi H
      exact uC [.a 0 C1] [] <| qt <| ⟨.inl rfl,⟨by kernel_rfl,he uG⟩⟩
    ·obtain⟨h21,C2,xi⟩:=jx (P:=Tryz.prog) (t:=4) (off:=1) (q:=1) (cs:=[af.fz x0.2.bO,.bool x0.2.aK]) (fU:=[af.fz x0.2.bO,.bool true]) (x:=.bool true) o1 rfl (by kernel_rfl)
     refine qr [.w 3 C2] <| qq ?_
     obtain⟨h22,Gd,Bd⟩:=fV (E:=aa) (l:=([]:List Int)) (q:=0) xi rfl
     obtain rfl:=oi H
     exact uC [.a 0 Gd] [] <| qt <| ⟨.inl rfl,⟨by kernel_rfl,he Bd⟩⟩
end
end Go.Proofs.YtmekcfdllhphlaaGreatDoor
namespace Go.Proofs.YtmekcfdllhphlaaGreatDoor
open Go Go.R
open Go.IntKind (i64 u64 u8 u32)
theorem re (s:ByteArray):bQ (cV s)=s:=by
 unfold bQ cV
 rw [List.map_map]
 have:(List.map ((fun n:Int=>acp n.toNat)∘fun b:UInt8=>(b.toNat:Int)) s.data.toList)=s.data.toList:=by
  conv=>rhs; rw [←List.map_id s.data.toList]
  apply abV
  intro b _
  simp
 rw [this]
theorem fQ (s:ByteArray):(cV s).length=s.size:=by simp [cV]
theorem Bn:∀(k n:Nat),n<128 ^ (k+1)→(bX n).length≤k+1
 | k,n,h=>by
  by_cases h1:n<128
  ·rw [iq h1]; simp
  ·cases k with
   | zero=>simp at h; omega
   | succ k=>
    have hd:n / 128<128 ^ (k+1):=by
     rw [Nat.div_lt_iff_lt_mul (by omega)]
     calc n<128 ^ (k+1+1):=h
      _=_:=by rw [Nat.pow_succ]
    have:=Bn k (n / 128) hd
    rw [ka h1]; simp; omega
theorem di {n:Nat}(h:n<2 ^ 64):(bX n).length≤10:=Bn 9 n (by omega)
def encS (s:ByteArray):List Int:=bX s.size++cV s
theorem Mh {m:Nat}{w:List Int}{s:ByteArray}(hm:11≤m)(hs:s.size≠0)(hw:w≠[])(hl:w.length+s.size+20≤140737488355328):ky.f m w s=some (w++encS s):=by
 unfold ky.f
 have h1:s.size<2 ^ 64:=by omega
 have h2:=di h1
 rw [dW (by omega) (by omega),Bk hm h1 hw (by omega),aaA,nP (by simp [hw]) (fun h=>hs (by rw [←fQ,h]; rfl)) (by simp [fQ]; omega),aaA,aaM]
 rfl
theorem Mi {m:Nat}{s:ByteArray}{rest:List Int}(hm:11≤m)(hl:s.size<2 ^ 63):hX.f m ⟨encS s++rest,false⟩=some (s,⟨rest,false⟩):=by
 unfold hX.f encS
 rw [aaM,Bl hm hl,aaA,if_neg (by simp)]
 dsimp only
 have hlen:=fQ s
 rw [if_neg (by simp [hlen]; omega)]
 have h1:kU (cV s++rest) 0 (s.size:Int)=some (cV s):=by
  unfold kU
  rw [if_pos ⟨ab9 _,by omega,by simp [hlen]; omega⟩]
  simp [←hlen]
 have h2:kU (cV s++rest) (s.size:Int) ((cV s++rest).length:Int)=some rest:=by
  unfold kU
  rw [if_pos ⟨by omega,by simp [hlen]; omega,ab9 _⟩,←hlen]
  simp only [aaH,List.drop_left]
  rw [aa4 (by simp)]
 rw [h1,aaA,h2,aaA,re]
structure nQ (n:ae):Prop where
 kind:n.kind=0∧(0≤n.int∧n.int<2 ^ 63)∧n.label=aaT #[]∧n.args=[]∨n.kind=1∧(-(2 ^ 62)≤n.int∧n.int<2 ^ 62)∧n.label=aaT #[]∧n.args=[]∨n.kind=2∧n.int=0∧n.args=[]∨n.kind=3∧n.int=0
 label:2≤n.kind→n.label.size≠0∧n.label.size<2 ^ 40
 args:n.args.length≤8∧∀a∈n.args,0≤a∧a<2 ^ 63
def rf (x:Int):Nat:=if x<0 then ((-x)*2 - 1).toNat else (x*2).toNat
def bY (n:ae):List Int:=
 n.kind::(if n.kind=0 then bX n.int.toNat else if n.kind=1 then bX (rf n.int) else if n.kind=2 then encS n.label else encS n.label++bX n.args.length++(n.args.map fun a=>bX a.toNat).flatten)
theorem Mj {m:Nat}(hm:11≤m)(n0:ae)(ha:∀a∈n0.args,0≤a∧a<2 ^ 63)(hlen:n0.args.length≤8):∀(l:List Int) (f i:Nat) (w:List Int),l.length<f→n0.args.drop i=l→i≤8→w≠[]→w.length+20*l.length+20≤140737488355328→
  ∃x,eT.l0 m n0 f (i:Int) w=some (x,w++(l.map fun a=>bX a.toNat).flatten)
 | l,0,i,w,hf,_,_,_,_=>absurd hf (by omega)
 | [],f+1,i,w,hf,hd,hi,hw,hl=>by
  have:n0.args.length≤i:=by
   have:=congrArg ack hd
   simp at this
   omega
  refine⟨i,?_⟩
  unfold eT.l0
  rw [if_neg (by simp; omega)]
  simp
 | a::l,f+1,i,w,hf,hd,hi,hw,hl=>by
  have Cb:i<n0.args.length:=by
   have:=congrArg ack hd
   simp at this
   omega
  have hg:n0.args[i]? = some a:=by
   have:=congrArg (·[0]?) hd
   simpa using this
  have YK:a∈n0.args:=abI hg
  obtain⟨h1,h2⟩:=ha a YK
  obtain⟨b,rfl⟩:∃b:Nat,a=(b:Int):=⟨a.toNat,by omega⟩
  have zG:n0.args.drop (i+1)=l:=by
   rw [←List.tail_drop,hd]; rfl
  have e1:(bX b).length≤10:=di (by omega)
  simp only [aaR] at hf hl
  obtain⟨x,ih⟩:=Mj hm n0 ha hlen l f (i+1) (w++bX b) (by omega) zG (by omega) (by simp [hw]) (by simp; omega)
  refine⟨x,?_⟩
  unfold eT.l0
  have N0:ix n0.args (i:Int)=some (b:Int):=by unfold ix; rw [if_pos (by omega)]; exact hg
  rw [if_pos (by simp; omega),N0,aaA,dW h1 (by omega),Bk hm (by omega) hw (by omega),aaA,ay (by omega) (by omega)]
  rw [show ((i:Int)+1)=((i+1:Nat):Int) by omega]
  rw [ih,aa6,ab6,aaM,aaH]
end Go.Proofs.YtmekcfdllhphlaaGreatDoor
namespace Go.Proofs.YtmekcfdllhphlaaGreatDoor
open Go Go.R
open Go.IntKind (i64 u64 u8 u32)
theorem Lc {x:Int}(h:x<0)(h2 : -(2 ^ 62)≤x):u64.wrap (u64.wrap (u64.wrap (i64.wrap (0 - x))*2) - 1)=(rf x:Int):=by
 have:(2:Int) ^ 62=4611686018427387904:=by decide
 rw [ay (by omega) (by omega),dW (x:=0 - x) (by omega) (by omega),dW (x:=(0 - x)*2) (by omega) (by omega),dW (by omega) (by omega)]
 unfold rf
 rw [if_pos h]
 omega
theorem Ld {x:Int}(h:¬x<0)(h2:x<2 ^ 62):u64.wrap (u64.wrap x*2)=(rf x:Int):=by
 have:(2:Int) ^ 62=4611686018427387904:=by decide
 rw [dW (x:=x) (by omega) (by omega),dW (by omega) (by omega)]
 unfold rf
 rw [if_neg h]
 omega
theorem wj {x:Int}(h1 : -(2 ^ 62)≤x)(h2:x<2 ^ 62):rf x<2 ^ 63:=by
 have:(2:Int) ^ 62=4611686018427387904:=by decide
 have:(2:Nat) ^ 63=9223372036854775808:=by decide
 unfold rf
 split<;>omega
theorem QZ {m:Nat}{w:List Int}{n:ae}(hm:11≤m)(W:nQ n)(hl:w.length+n.label.size+1000≤140737488355328)(hw:w≠[]):eT.f m w n=some (w++bY n):=by
 have ED:(2:Nat) ^ 63=9223372036854775808:=by decide
 have O5:(2:Int) ^ 63=9223372036854775808:=by decide
 have Le:(2:Nat) ^ 64=18446744073709551616:=by decide
 have hk:0≤n.kind∧n.kind≤3:=by rcases W.kind with h | h | h | h<;>(have:=h.1; omega)
 unfold eT.f
 rw [hU,show n.kind % 256=n.kind by omega,nP hw (by simp) (by simp; omega),aaA]
 rcases W.kind with⟨h,hi,_,_⟩| ⟨h,hi,_,_⟩| ⟨h,hi,_⟩| ⟨h,hi⟩
 ·obtain⟨b,hb⟩:∃b:Nat,n.int=(b:Int):=⟨n.int.toNat,by omega⟩
  rw [show bY n=0::bX b by simp [bY,h,hb],h,if_pos (by decide),dW (by omega) (by omega),hb,Bk hm (by omega) (by simp) (by simp; omega),aaA]
  simp
 ·have hz:=wj hi.1 hi.2
  rw [show bY n=1::bX (rf n.int) by simp [bY,h],h,if_neg (by decide),if_pos (by decide)]
  by_cases hn:n.int<0
  ·rw [if_pos (by simpa using hn),Lc hn hi.1,Bk hm (by omega) (by simp) (by simp; omega),aaA]
   simp
  ·rw [if_neg (by simpa using hn),Ld hn hi.2,Bk hm (by omega) (by simp) (by simp; omega),aaA]
   simp
 ·obtain⟨g1,g2⟩:=W.label (by omega)
  rw [show bY n=2::encS n.label by simp [bY,h],h,if_neg (by decide),if_neg (by decide),if_pos (by decide),Mh hm g1 (by simp) (by simp; omega),aaA]
  simp
 ·obtain⟨g1,g2⟩:=W.label (by omega)
  obtain⟨g3,g4⟩:=W.args
  have e1:(encS n.label).length≤10+n.label.size:=by
   unfold encS
   have:=di (n:=n.label.size) (by omega)
   simp [fQ]; omega
  have e2:(bX n.args.length).length≤10:=di (by omega)
  rw [show bY n=3::(encS n.label++bX n.args.length++(n.args.map fun a=>bX a.toNat).flatten) by simp [bY,h],h,if_neg (by decide),if_neg (by decide),if_neg (by decide),if_pos (by decide),Mh hm g1 (by simp) (by simp; omega),aaA,
   dW (by omega) (by omega),Bk hm (by omega) (by simp) (by simp; omega),aaA]
  obtain⟨x,hx⟩:=Mj hm n g4 g3 n.args m 0 (w++[3]++encS n.label++bX n.args.length) (by omega) rfl (by omega) (by simp) (by simp; omega)
  have hx:eT.l0 m n m (0:Int) (w++[3]++encS n.label++bX n.args.length)=_:=hx
  rw [hx,aaA]
  simp
theorem Mk {m:Nat}(hm:11≤m)(x5:Int × eA)(k0:Int)(lb:ByteArray)(rest:List Int)(hx:0≤x5.1∧x5.1≤8):∀(l:List Int) (f i:Nat) (acc:List Int),l.length<f→(i:Int)+l.length=x5.1→acc.length+l.length≤8→(∀a∈l,0≤a∧a<2 ^ 63)→
  ∃x,cK.l1 m x5 f (i:Int) k0 0 lb acc ⟨(l.map fun a=>bX a.toNat).flatten++rest,false⟩=some (x,k0,0,lb,acc++l,⟨rest,false⟩)
 | l,0,i,acc,hf,_,_,_=>absurd hf (by omega)
 | [],f+1,i,acc,hf,hi,ha,hl=>by
  refine⟨i,?_⟩
  unfold cK.l1
  simp only [abg] at hi
  rw [if_neg (by unfold mn; simp; split<;>omega)]
  simp
 | a::l,f+1,i,acc,hf,hi,ha,hl=>by
  simp only [aaR] at hf hi ha
  have O5:(2:Int) ^ 63=9223372036854775808:=by decide
  have ED:(2:Nat) ^ 63=9223372036854775808:=by decide
  obtain⟨h1,h2⟩:=hl a (by simp)
  obtain⟨b,rfl⟩:∃b:Nat,a=(b:Int):=⟨a.toNat,by omega⟩
  obtain⟨x,ih⟩:=Mk hm x5 k0 lb rest hx l f (i+1) (acc++[(b:Int)]) (by omega) (by omega) (by simp; omega) (fun c hc=>hl c (by simp [hc]))
  refine⟨x,?_⟩
  unfold cK.l1
  rw [if_pos (by unfold mn; simp; split<;>omega),aa6,ab6,aaM,aaH,Bl hm (by omega),aaA]
  have jf:app 8 acc [(b:Int)]=some (acc++[(b:Int)]):=by unfold app; rw [if_pos (by simp; omega)]
  dsimp only
  rw [jf,aaA,ay (by omega) (by omega),show ((i:Int)+1)=((i+1:Nat):Int) by omega,ih]
  simp
end Go.Proofs.YtmekcfdllhphlaaGreatDoor
namespace Go.Proofs.YtmekcfdllhphlaaGreatDoor
open Go Go.R
open Go.IntKind (i64 u64 u8 u32)
theorem Bo {x:Int}(h:¬x<0)(h2:x<2 ^ 62):¬(abE (rf x:Int) 2==1)=true∧i64.wrap (abr (rf x:Int) 2)=x:=by
 have hz:(rf x:Int)=x*2:=by unfold rf; rw [if_neg h]; omega
 rw [hz,Int.mul_tmod_left,Int.mul_tdiv_cancel _ (by decide),ay (by omega) (by omega)]
 exact⟨by decide,rfl⟩
theorem Lf {x:Int}(h:x<0)(h2 : -(2 ^ 62)≤x):(abE (rf x:Int) 2==1)=true∧i64.wrap (0 - i64.wrap (i64.wrap (abr (rf x:Int) 2)+1))=x:=by
 have hz:(rf x:Int)=((-x - 1).toNat*2+1:Nat):=by unfold rf; rw [if_pos h]; omega
 have h3:abE (((-x - 1).toNat*2+1:Nat):Int) 2=1:=by
  rw [abB (by omega)]; omega
 have h4:abr (((-x - 1).toNat*2+1:Nat):Int) 2 = -x - 1:=by
  rw [abX (by omega)]; omega
 rw [hz,h3,h4,ay (x:=-x - 1) (by omega) (by omega),ay (x:=-x - 1+1) (by omega) (by omega),ay (by omega) (by omega)]
 exact⟨by decide,by omega⟩
theorem Q0 {m:Nat}{n:ae}{rest:List Int}(hm:11≤m)(W:nQ n):cK.f m ⟨bY n++rest,false⟩=some (n,⟨rest,false⟩):=by
 have ED:(2:Nat) ^ 63=9223372036854775808:=by decide
 have O5:(2:Int) ^ 63=9223372036854775808:=by decide
 obtain⟨kd,nt,lb,zH⟩:=n
 unfold cK.f
 rcases W.kind with⟨h,hi,IK,ha⟩| ⟨h,hi,IK,ha⟩| ⟨h,hi,ha⟩| ⟨h,hi⟩
 ·simp only at h hi IK ha
  subst h IK ha
  obtain⟨b,rfl⟩:∃b:Nat,nt=(b:Int):=⟨nt.toNat,by omega⟩
  rw [show bY ⟨0,(b:Int),aaT #[],[]⟩=0::bX b by simp [bY],aa0,q8,aaA]
  dsimp only
  rw [ay (by omega) (by omega),if_pos (by decide),Bl hm (by omega),aaA]
 ·simp only at h hi IK ha
  subst h IK ha
  rw [show bY ⟨1,nt,aaT #[],[]⟩=1::bX (rf nt) by simp [bY],aa0,q8,aaA]
  dsimp only
  rw [ay (x:=1) (by omega) (by omega),if_neg (by decide),if_pos (by decide),Bl hm (wj hi.1 hi.2),aaA]
  by_cases hn:nt<0
  ·obtain⟨z1,z2⟩:=Lf hn hi.1
   rw [if_pos z1,z2]
  ·obtain⟨z1,z2⟩:=Bo hn hi.2
   rw [if_neg z1,z2]
 ·simp only at h hi ha
  subst h hi ha
  obtain⟨g1,g2⟩:=W.label (by simp)
  simp only at g1 g2
  rw [show bY ⟨2,0,lb,[]⟩=2::encS lb by simp [bY],aa0,q8,aaA]
  dsimp only
  rw [ay (x:=2) (by omega) (by omega),if_neg (by decide),if_neg (by decide),if_pos (by decide),Mi hm (by omega),aaA]
 ·simp only at h hi
  subst h hi
  obtain⟨g1,g2⟩:=W.label (by simp)
  obtain⟨g3,g4⟩:=W.args
  simp only at g1 g2 g3 g4
  rw [show bY ⟨3,0,lb,zH⟩=3::(encS lb++bX zH.length++(zH.map fun a=>bX a.toNat).flatten) by simp [bY],aa0,q8,aaA]
  dsimp only
  rw [ay (x:=3) (by omega) (by omega),if_neg (by decide),if_neg (by decide),if_neg (by decide),if_pos (by decide)]
  rw [aaM,aaM,Mi hm (by omega),aaA]
  dsimp only
  rw [Bl hm (by omega),aaA,if_neg (by simp; omega)]
  obtain⟨x,hx⟩:=Mk hm ((zH.length:Int),(⟨(zH.map fun a=>bX a.toNat).flatten++rest,false⟩:eA)) 3 lb rest (by simp; omega) zH m 0 [] (by omega) (by simp) (by simp; omega) g4
  have hx:cK.l1 m ((zH.length:Int),(⟨(zH.map fun a=>bX a.toNat).flatten++rest,false⟩:eA)) m (0:Int) 3 0 lb [] ⟨(zH.map fun a=>bX a.toNat).flatten++rest,false⟩=_:=hx
  rw [hx,aaA]
  simp
end Go.Proofs.YtmekcfdllhphlaaGreatDoor
namespace Go.Proofs.YtmekcfdllhphlaaGreatDoor
open Go Go.R
open Go.IntKind (i64 u64 u8 u32)
def yj:b9:=gm [0,2,3,5,6,7,8,9,16,17] [] [1022,1018,907,779,899,907,651,139,651,651,907,1021] [] []
def bj.l1 (m:Nat)  : Nat→Int→Int→Option (Int × Int)
 | 0,_,_=>none
 | k+1,so,x1=>if (decide (x1<(8:Int)))=true then (bj.l1 m k (dD .u32 (gO .u32 so 1) (fv .u32 (3988292384:Int) (u32.wrap (0 - (fv .u32 so (1:Int)))))) (i64.wrap (x1+(1:Int)))) else (some ((so,x1)))
def bj.l0 (m:Nat)(b0:List Int):Nat→Int→Int→Option (Int × Int)
 | 0,_,_=>none
 | k+1,wk,x0=>if (decide (x0<(b0.length:Int)))=true then ((ix b0 x0).bind fun v0=>(bj.l1 m m (dD .u32 wk (u32.wrap v0)) (0:Int)).bind fun aF=>match aF with | (N3,x2)=>bj.l0 m b0 k N3 (i64.wrap (x0+(1:Int)))) else (some ((wk,x0)))
def bj.f (m:Nat)(b0:List Int):Option (Int):=(bj.l0 m b0 m (4294967295:Int) (0:Int)).bind fun bm=>match bm with | (N4,x3)=>some (i64.wrap (HH .u32 N4))
def bj.fin (L:Mem)(r:Int)(s:St):Prop:=∃av,aH Tryz.prog (s.open yj) Tryz.f14.results.toList=some av∧gf s.h av (.int .i64 r)
def Uh (cf:CallF)(m:Nat):Prop:=∀(b0:List Int) (r:Int),bj.f m b0=some r→∀h xs,eR fh h xs [af.fz b0]→cf 14 xs h=some (.int .i64 r,h)
section
variable {cf:CallF}{m:Nat}
theorem bj.eO (L:Mem)(b0:List Int)(x0:Int)   : bC Tryz.prog cf yj m (sub [1,1,0,1,0,0,1,1,0,0,1,1,1,0,0] (codeOf Tryz.f14)) (fun k (σ:Int × Int)=>bj.l1 m k σ.1 σ.2) (fun σ s=>match σ with | (so,x1)=>∃h1,s=⟨[.any,.any,.int .u32 so,.any,af.fz b0,.int .i64 (b0.length:Int),.int .i64 x0,.any,.int .i64 x1,.any],[],h1⟩∧Has h1 (L)) (fun out e s=>(e = .exit 2∧∃so x1,(so,x1)=out∧∃IL Ia h1,s=⟨[.any,.any,.int .u32 so,.any,af.fz b0,.int .i64 (b0.length:Int),.int .i64 x0,.any,IL,Ia],[],h1⟩∧Has h1 (L))):=by
 refine gk (fun _=>rfl) ?_
 rintro k ⟨so,x1⟩ s out ⟨h1,rfl,o1⟩ H
 have H:bj.l1 m (k+1) so x1=some out:=H
 refine q1 <| qq <| qc H (fun c1 H=>?_) (fun c1 H=>?_)
 ·exact qk <| qq <| qb 3 <| q0 <| q0 <| ⟨(dD .u32 (gO .u32 so 1) (fv .u32 (3988292384:Int) (u32.wrap (0 - (fv .u32 so (1:Int))))),i64.wrap (x1+(1:Int))),⟨h1,by kernel_rfl,o1⟩,H⟩
 ·exact qx 2 <| ⟨rfl,so,x1,oi H,.int .i64 x1,.bool (decide (x1<(8:Int))),h1,by kernel_rfl,o1⟩
theorem bj.bu (L:Mem)(b0:List Int)   : bC Tryz.prog cf yj m (sub [1,1,0,1,0,0] (codeOf Tryz.f14)) (fun k (σ:Int × Int)=>bj.l0 m b0 k σ.1 σ.2) (fun σ s=>match σ with | (wk,x0)=>∃h0,s=⟨.any :: .any :: .int .u32 wk :: .any::af.fz b0 :: .int .i64 (b0.length:Int) :: .int .i64 x0::jE [],[],h0⟩∧Has h0 (L)) (fun out e s=>(e = .exit 0∧∃wk x0,(wk,x0)=out∧∃C8 se pG qQ h0,s=⟨[.any,.any,.int .u32 wk,.any,C8,se,pG,qQ,.any,.any],[],h0⟩∧Has h0 (L))):=by
 refine gk (fun _=>rfl) ?_
 rintro k ⟨wk,x0⟩ s out ⟨h0,rfl,o0⟩ H
 have H:bj.l0 m b0 (k+1) wk x0=some out:=H
 refine q1 <| qq <| qc H (fun c0 H=>?_) (fun c0 H=>?_)
 ·refine qk <| qq <| qb 1 <| qq ?_
  obtain⟨v0,e0,H⟩:=aG H
  refine qr [.v 0 (bN (k:=.i64) (E:=af) (l:=b0) tg e0),.v 1 (dd  (E:=af) (l:=b0) h0 A5 e0 rfl)] <| qq <| q0 <| qq <| q0 <| qb 2 ?_
  obtain⟨aF,e1,H⟩:=aG H
  refine ql (bj.eO L b0 x0   (dD .u32 wk (u32.wrap v0),(0:Int)) _ _ ⟨h0,by kernel_rfl,o0⟩ e1) ?_
  rintro e s ⟨rfl,N3,x2,rfl,g0,g1,h2,rfl,o2⟩
  try dsimp only at H
  exact q0 <| ⟨(N3,i64.wrap (x0+(1:Int))),⟨h2,by kernel_rfl,o2⟩,H⟩
 ·exact qx 0 <| ⟨rfl,wk,x0,oi H,af.fz b0,.int .i64 (b0.length:Int),.int .i64 x0,.bool (decide (x0<(b0.length:Int))),h0,by kernel_rfl,o0⟩
theorem tT {aV:FuncId→b9}(ha:aV 14=yj)  (b0:List Int)(h:AHeap)(L:Mem)  (o:Has h (L)){out:Int}(H:bj.f m b0=some out) :
  ∃r h',bg Tryz.prog aV cf m 14 [af.fz b0] h=some (r,h')∧gf h' r (.int .i64 out):=by
 refine aj (fn:=Tryz.f14) ha Tryz.func14 (by kernel_rfl) (by kernel_rfl) ?_
 refine aD (Q:=fun s=>bj.fin L out s) (fun _ _ h=>h) ?_
 have H:_=some out:=H
 unfold bj.f at H
 show dA _ cf yj m _ ⟨af.fz b0::FX [],[],h⟩ _
 refine q1 <| qq <| q0 <| qq <| qq <| q0 <| qb 0 ?_
 obtain⟨bm,e2,H⟩:=aG H
 refine ql (bj.bu L b0   ((4294967295:Int),(0:Int)) _ _ ⟨h,by kernel_rfl,o⟩ e2) ?_
 rintro e s ⟨rfl,N4,x3,rfl,g2,g3,g4,g5,h3,rfl,o3⟩
 try dsimp only at H
 obtain rfl:=oi H
 exact q1 <| qt <| ⟨.inl rfl,cp (.int .i64 (i64.wrap (HH .u32 N4))) h3 (cn (dB))⟩
end
end Go.Proofs.YtmekcfdllhphlaaGreatDoor
namespace Go.Proofs.YtmekcfdllhphlaaGreatDoor
open Go Go.R
open Go.IntKind (i64 u64 u8 u32)
def EE:b9:=gm [0,2,3] [17] [6,3,5] [] [(0,[(2,none,1)])]
def dm.f (m:Nat)(b0:List Int):Option ((List Int)):=(bj.f m b0).bind fun x0=>some ([u8.wrap x0,u8.wrap (gO .i64 x0 8),u8.wrap (gO .i64 x0 16),u8.wrap (gO .i64 x0 24)])
def dm.fin (L:Mem)(r:(List Int))(s:St):Prop:=∃av,aH Tryz.prog (s.open EE) Tryz.f24.results.toList=some av∧gf s.h av (af.fz r)
def Ui (cf:CallF)(m:Nat):Prop:=∀(b0:List Int) (r:(List Int)),dm.f m b0=some r→∀h xs,eR fh h xs [af.fz b0]→cf 24 xs h=some (af.fz r,h)
section
variable {cf:CallF}{m:Nat}
theorem ri {aV:FuncId→b9}(ha:aV 24=EE)(Lg:Uh cf m)(b0:List Int)(h:AHeap)(L:Mem)  (o:Has h (L)){out:(List Int)}(H:dm.f m b0=some out) :
  ∃r h',bg Tryz.prog aV cf m 24 [af.fz b0] h=some (r,h')∧gf h' r (af.fz out):=by
 refine aj (fn:=Tryz.f24) ha Tryz.func24 (by kernel_rfl) (by kernel_rfl) ?_
 refine aD (Q:=fun s=>dm.fin L out s) (fun _ _ h=>h) ?_
 have H:_=some out:=H
 unfold dm.f at H
 show dA _ cf EE m _ ⟨[af.fz b0,.any,.any],[none],h⟩ _
 refine q1 <| qq ?_
 obtain⟨x0,e0,H⟩:=aG H
 refine qr [.a 1 (Lg _ _ e0 h _ (fT (ab (bB (E:=af)) (aA))))] <| qq ?_
 obtain⟨az,h0,e1,o0⟩:=uA (E:=af) (l:=[u8.wrap x0,u8.wrap (gO .i64 x0 8),u8.wrap (gO .i64 x0 16),u8.wrap (gO .i64 x0 24)]) (cs:=[.int .u8 (u8.wrap x0),.int .u8 (u8.wrap (gO .i64 x0 8)),.int .u8 (u8.wrap (gO .i64 x0 16)),.int .u8 (u8.wrap (gO .i64 x0 24))]) o (by kernel_rfl)
 obtain rfl:=oi H
 exact qr [.a 11 e1] <| qt <| ⟨.inl rfl,cp (.rs az 0 (([u8.wrap x0,u8.wrap (gO .i64 x0 8),u8.wrap (gO .i64 x0 16),u8.wrap (gO .i64 x0 24)]:List Int).length) 1) h0 (cn (vn (E:=af) (l:=([u8.wrap x0,u8.wrap (gO .i64 x0 8),u8.wrap (gO .i64 x0 16),u8.wrap (gO .i64 x0 24)])) (q:=0) o0 rfl (fun _=>rfl)))⟩
end
end Go.Proofs.YtmekcfdllhphlaaGreatDoor
namespace Go.Proofs.YtmekcfdllhphlaaGreatDoor
open Go Go.R
open Go.IntKind (i64 u64 u8 u32)
def yk:b9:=gm [0,2,3,5,7,8,24,25,26,27,37,38,39,40] [5,7] [16382,16378,16378,16378,16378,15931,15419,15923,15923,8763,571,8747,8763,8763,15931,16351,16381] [] []
def bb.l1 (m:Nat)(v0:ak):Nat→Int→(List Int)→Option (Int × (List Int))
 | 0,_,_=>none
 | k+1,x3,tU=>if (decide (x3<(v0.nodes.length:Int)))=true then ((ix v0.nodes x3).bind fun v1=>(eT.f m tU v1).bind fun x4=>bb.l1 m v0 k (i64.wrap (x3+(1:Int))) x4) else (some ((x3,tU)))
def bb.l0 (m:Nat)(aZ:List ak):Nat→Int→(List Int)→Option (Int × (List Int))
 | 0,_,_=>none
 | k+1,x1,tV=>if (decide (x1<(aZ.length:Int)))=true then ((ix aZ x1).bind fun v0=>(cu.f m tV (u64.wrap (v0.nodes.length:Int))).bind fun x2=>(bb.l1 m v0 m (0:Int) x2).bind fun aF=>match aF with | (x5,N6)=>bb.l0 m aZ k (i64.wrap (x1+(1:Int))) N6) else (some ((x1,tV)))
def bb.f (m:Nat)(aZ:List ak):Option ((List Int)):=(wB ([]) ([(76:Int)])).bind fun Aa=>(HP Aa ([(1:Int)])).bind fun QU=>(cu.f m QU (u64.wrap (aZ.length:Int))).bind fun x0=>(bb.l0 m aZ m (0:Int) x0).bind fun bm=>match bm with | (x6,zI)=>(vz zI).bind fun u0=>(dm.f m zI).bind fun x7=>(app 1 zI x7).bind fun x8=>some x8
def bb.fin (L:Mem)(r:(List Int))(s:St):Prop:=∃av,aH Tryz.prog (s.open yk) Tryz.f40.results.toList=some av∧gf s.h av (af.fz r)
def WH (cf:CallF)(m:Nat):Prop:=∀(aZ:List ak) (r:(List Int)),bb.f m aZ=some r→∀h xs,eR fh h xs [aL.fz aZ]→cf 40 xs h=some (af.fz r,h)
section
variable {cf:CallF}{m:Nat}
theorem bb.eO (L:Mem)(aZ:List ak)(az:Nat)(x1:Int)(v0:ak)  (IM:R7 cf m):bC Tryz.prog cf yk m (sub [1,1,1,1,1,0,1,0,0,1,1,0,0,1,1,1,0,0] (codeOf Tryz.f40)) (fun k (σ:Int × (List Int))=>bb.l1 m v0 k σ.1 σ.2) (fun σ s=>match σ with | (x3,tU)=>∃fK h6,s=⟨.any :: .any :: .ptr az 0::jE [aL.fz aZ,.int .i64 (aZ.length:Int),.int .i64 x1,.any,ah.fz v0.nodes,.int .i64 (v0.nodes.length:Int),.int .i64 x3,.any],[none,none],h6⟩∧Has h6 ((az,.ob [.rs fK 0 tU.length 1,.int .i64 (0:Int),.int .i8 (0:Int)])::(fK,.row 5 (af.l tU))::L)) (fun out e s=>(e = .exit 2∧∃x3 tU,(x3,tU)=out∧∃Im Io Ip Iq fK h6,s=⟨.any :: .any :: .ptr az 0::jE [aL.fz aZ,.int .i64 (aZ.length:Int),.int .i64 x1,.any,Im,Io,Ip,Iq],[none,none],h6⟩∧Has h6 ((az,.ob [.rs fK 0 tU.length 1,.int .i64 (0:Int),.int .i8 (0:Int)])::(fK,.row 5 (af.l tU))::L))):=by
 refine gk (fun _=>rfl) ?_
 rintro k ⟨x3,tU⟩ s out ⟨fK,h6,rfl,o6⟩ H
 have H:bb.l1 m v0 (k+1) x3 tU=some out:=H
 refine q1 <| qq <| qc H (fun c1 H=>?_) (fun c1 H=>?_)
 ·refine qk <| qq <| qb 3 <| qq ?_
  obtain⟨v1,lF,H⟩:=aG H
  refine qr [.v 0 (bN (k:=.i64) (E:=ah) (l:=v0.nodes) mj lF),.v 1 (dI  (E:=ah) (l:=v0.nodes) h6 th ti lF)] ?_
  obtain⟨x4,nb,H⟩:=aG H
  obtain⟨iX,h7,nK,o7⟩:=IM _ _ _ nb h6 _ _ _ (o6)  [.ptr az 0,.agg [.int .i64 v1.kind,.int .i64 v1.int,.str v1.label,aa.fz v1.args]] (an (rfl) (an (aP (pB (cb (bD) (cb (bD) (cb (pA) (cb (gP (E:=aa)) (fH))))))) (aT)))
  exact qr [.a 2 nK] <| q0 <| ⟨(i64.wrap (x3+(1:Int)),x4),⟨iX,h7,by kernel_rfl,o7⟩,H⟩
 ·exact qx 2 <| ⟨rfl,x3,tU,oi H,ah.fz v0.nodes,.int .i64 (v0.nodes.length:Int),.int .i64 x3,.bool (decide (x3<(v0.nodes.length:Int))),fK,h6,by kernel_rfl,o6⟩
theorem bb.bu (L:Mem)(aZ:List ak)(az:Nat)  (q9:O4 cf m)(IM:R7 cf m):bC Tryz.prog cf yk m (sub [1,1,1,1,1,0,1,0,0] (codeOf Tryz.f40)) (fun k (σ:Int × (List Int))=>bb.l0 m aZ k σ.1 σ.2) (fun σ s=>match σ with | (x1,tV)=>∃gY h4,s=⟨.any :: .any :: .ptr az 0::jE (aL.fz aZ :: .int .i64 (aZ.length:Int) :: .int .i64 x1::qF []),[none,none],h4⟩∧Has h4 ((az,.ob [.rs gY 0 tV.length 1,.int .i64 (0:Int),.int .i8 (0:Int)])::(gY,.row 5 (af.l tV))::L)) (fun out e s=>(e = .exit 0∧∃x1 tV,(x1,tV)=out∧∃NW Uj N7 zJ gY h4,s=⟨.any :: .any :: .ptr az 0::jE (NW::Uj::N7::zJ::mT []),[none,none],h4⟩∧Has h4 ((az,.ob [.rs gY 0 tV.length 1,.int .i64 (0:Int),.int .i8 (0:Int)])::(gY,.row 5 (af.l tV))::L))):=by
 refine gk (fun _=>rfl) ?_
 rintro k ⟨x1,tV⟩ s out ⟨gY,h4,rfl,o4⟩ H
 have H:bb.l0 m aZ (k+1) x1 tV=some out:=H
 refine q1 <| qq <| qc H (fun c0 H=>?_) (fun c0 H=>?_)
 ·refine qk <| qq <| qb 1 <| qq ?_
  obtain⟨v0,e7,H⟩:=aG H
  refine qr [.v 0 (bN (k:=.i64) (E:=aL) (l:=aZ) xZ e7),.v 1 (dI  (E:=aL) (l:=aZ) h4 J7 J8 e7)] <| qq ?_
  obtain⟨x2,e8,H⟩:=aG H
  obtain⟨gV,h5,e9,o5⟩:=q9 _ _ _ e8 h4 _ _ _ (o4)  [.ptr az 0,.int .u64 (u64.wrap (v0.nodes.length:Int))] (an (rfl) (an (aP (bD)) (aT)))
  refine qr [.a 5 e9] <| qq <| q0 <| qb 2 ?_
  obtain⟨aF,pa,H⟩:=aG H
  refine ql (bb.eO L aZ az x1 v0  IM ((0:Int),x2) _ _ ⟨gV,h5,by kernel_rfl,o5⟩ pa) ?_
  rintro e s ⟨rfl,x5,N6,rfl,g0,g1,g2,g3,kP,h8,rfl,o8⟩
  try dsimp only at H
  exact q0 <| ⟨(i64.wrap (x1+(1:Int)),N6),⟨kP,h8,by kernel_rfl,o8⟩,H⟩
 ·exact qx 0 <| ⟨rfl,x1,tV,oi H,aL.fz aZ,.int .i64 (aZ.length:Int),.int .i64 x1,.bool (decide (x1<(aZ.length:Int))),gY,h4,by kernel_rfl,o4⟩
theorem rj {aV:FuncId→b9}(ha:aV 40=yk)(N8:Ui cf m)(zA:Ql cf m)(q9:O4 cf m)(IM:R7 cf m)(Uk:Wh cf m)(aZ:List ak)(h:AHeap)(L:Mem)  (o:Has h (L)){out:(List Int)}(H:bb.f m aZ=some out) :
  ∃r h',bg Tryz.prog aV cf m 40 [aL.fz aZ] h=some (r,h')∧gf h' r (af.fz out):=by
 refine aj (fn:=Tryz.f40) ha Tryz.func40 (by kernel_rfl) (by kernel_rfl) ?_
 refine aD (Q:=fun s=>bb.fin L out s) (fun _ _ h=>h) ?_
 have H:_=some out:=H
 unfold bb.f at H
 show dA _ cf yk m _ ⟨aL.fz aZ::nF [],[none,none],h⟩ _
 refine q1 <| qq ?_
 obtain⟨az,h0,e0,o0⟩:=kL (cs:=[.nils,.int .i64 (0:Int),.int .i8 (0:Int)]) o (by kernel_rfl)
 refine qr [.a 1 e0] <| qq ?_
 obtain⟨Aa,e1,H⟩:=aG H
 obtain⟨dR,h1,e2,o1⟩:=Nu zA o0 e1
 refine qr [.a 3 e2] <| qq ?_
 obtain⟨QU,e3,H⟩:=aG H
 obtain⟨cR,h2,e4,o2⟩:=uB (bs:=Aa) zA o1 e3
 refine qr [.a 3 e4] <| qq ?_
 obtain⟨x0,e5,H⟩:=aG H
 obtain⟨fc,h3,e6,o3⟩:=q9 _ _ _ e5 h2 _ _ _ (o2)  [.ptr az 0,.int .u64 (u64.wrap (aZ.length:Int))] (an (rfl) (an (aP (bD)) (aT)))
 refine qr [.a 4 e6] <| qq <| qq <| q0 <| qb 0 ?_
 obtain⟨bm,pc,H⟩:=aG H
 refine ql (bb.bu L aZ az  q9 IM ((0:Int),x0) _ _ ⟨fc,h3,by kernel_rfl,o3⟩ pc) ?_
 rintro e s ⟨rfl,x6,zI,rfl,g4,g5,g6,g7,rG,h9,rfl,o9⟩
 try dsimp only at H
 refine qq ?_
 obtain⟨u0,pb,H⟩:=aG H
 obtain⟨h10,qU,oz⟩:=KM (bs:=zI) Uk o9 pb
 refine qr [.a 3 qU] ?_
 have sg:Has h10 ((rG,.sl zI.length 1 (af.l zI))::L):=Has.del oz 0
 refine qq ?_
 obtain⟨x7,pP,H⟩:=aG H
 obtain⟨x8,tO,H⟩:=aG H
 obtain⟨eS,h11,rF,oZ⟩:=cL (P:=Tryz.prog) (E:=af) (l:=zI) (q:=0) (t2:=22) (x:=af.fz x7) (l2:=x7) tg sg rfl (lX (E:=af) (l2:=x7) _) rfl tO
 obtain rfl:=oi H
 exact qr [.a 2 (N8 _ _ pP h10 _ (fT (ab (mS (E:=af) (l:=zI) (q:=0) sg rfl (fun _=>rfl)) (aA)))),.a 3 rF] <| qt <| ⟨.inl rfl,cp (.rs eS 0 x8.length 1) h11 (cn (vn (E:=af) (l:=x8) (q:=0) oZ rfl (fun _=>rfl)))⟩
end
end Go.Proofs.YtmekcfdllhphlaaGreatDoor
namespace Go.Proofs.YtmekcfdllhphlaaGreatDoor
open Go Go.R
open Go.IntKind (i64 u64 u8 u32)
def EF:b9:=gm [0,1,2,3,6] [1,2] [25,9,19,19] [] []
def dr.f (m:Nat)(t0:ak):Option (ak × Int):=(iy.f m t0).bind fun x0=>if (!x0)=true then (some ((ak.mk ([]) (0:Int)),(2:Int))) else ((fm.f m t0).bind fun x1=>some (x1,(0:Int)))
def dr.fin (L:Mem)(r:ak × Int)(s:St):Prop:=∃av,aH Tryz.prog (s.open EF) Tryz.f35.results.toList=some av∧vm s.h av (.tup [.agg [ah.fz r.1.nodes,.int .i64 r.1.root],.int .i64 r.2])
def Ul (cf:CallF)(m:Nat):Prop:=∀(t0:ak) (r:ak × Int),dr.f m t0=some r→∀h xs,lh xs [.agg [ah.fz t0.nodes,.int .i64 t0.root]]→cf 35 xs h=some (.tup [.agg [ah.fz r.1.nodes,.int .i64 r.1.root],.int .i64 r.2],h)
section
variable {cf:CallF}{m:Nat}
theorem tW {aV:FuncId→b9}(ha:aV 35=EF)(Um:Wu cf m)(Un:Wz cf m)(t0:ak)(h:AHeap)(L:Mem)  (o:Has h (L)){out:ak × Int}(H:dr.f m t0=some out) :
  ∃r h',bg Tryz.prog aV cf m 35 [.agg [ah.fz t0.nodes,.int .i64 t0.root]] h=some (r,h')∧vm h' r (.tup [.agg [ah.fz out.1.nodes,.int .i64 out.1.root],.int .i64 out.2]):=by
 refine aj (fn:=Tryz.f35) ha Tryz.func35 (by kernel_rfl) (by kernel_rfl) ?_
 refine aD (Q:=fun s=>dr.fin L out s) (fun _ _ h=>h) ?_
 have H:_=some out:=H
 unfold dr.f at H
 show dA _ cf EF m _ ⟨.agg [ah.fz t0.nodes,.int .i64 t0.root]::mT [],[none,none],h⟩ _
 refine q1 <| qq <| qq ?_
 obtain⟨x0,e0,H⟩:=aG H
 refine qr [.a 1 (Um _ _ e0 h _ (fT (ab (dJ (ab (bB (E:=ah)) (ab (aQ) (aA)))) (aA))))] <| qc H (fun c0 H=>?_) (fun c0 H=>?_)
 ·obtain rfl:=oi H
  exact q1 <| qt <| ⟨.inl rfl,oF (.tup [.agg [.nils,.int .i64 (0:Int)],.int .i64 (2:Int)]) h (lI (er (ab (dJ (ab (dV) (ab (aQ) (aA)))) (ab (aQ) (aA)))))⟩
 ·refine qk <| qq ?_
  obtain⟨x1,e1,H⟩:=aG H
  obtain rfl:=oi H
  exact qr [.a 1 (Un _ _ e1 h _ (cb (pB (cb (gP (E:=ah)) (cb (bD) (fH)))) (fH)))] <| qt <| ⟨.inl rfl,oF (.tup [.agg [ah.fz x1.nodes,.int .i64 x1.root],.int .i64 (0:Int)]) h (lI (er (ab (dJ (ab (bB) (ab (aQ) (aA)))) (ab (aQ) (aA)))))⟩
end
end Go.Proofs.YtmekcfdllhphlaaGreatDoor
namespace Go.Proofs.YtmekcfdllhphlaaGreatDoor
open Go Go.R
open Go.IntKind (i64 u64 u8 u32)
def EG:b9:=gm [0,1,2] [1] [5,3] [] []
def gH.f (m:Nat)(n0:ae):Option (Bool):=some (n0.kind==(4:Int))
def gH.fin (L:Mem)(r:Bool)(s:St):Prop:=∃av,aH Tryz.prog (s.open EG) Tryz.f39.results.toList=some av∧gf s.h av (.bool r)
def WI (cf:CallF)(m:Nat):Prop:=∀(n0:ae) (r:Bool),gH.f m n0=some r→∀h xs,eR fh h xs [.agg [.int .i64 n0.kind,.int .i64 n0.int,.str n0.label,aa.fz n0.args]]→cf 39 xs h=some (.bool r,h)
section
variable {cf:CallF}{m:Nat}
theorem rl {aV:FuncId→b9}(ha:aV 39=EG)  (n0:ae)(h:AHeap)(L:Mem)  (o:Has h (L)){out:Bool}(H:gH.f m n0=some out) :
  ∃r h',bg Tryz.prog aV cf m 39 [.agg [.int .i64 n0.kind,.int .i64 n0.int,.str n0.label,aa.fz n0.args]] h=some (r,h')∧gf h' r (.bool out):=by
 refine aj (fn:=Tryz.f39) ha Tryz.func39 (by kernel_rfl) (by kernel_rfl) ?_
 refine aD (Q:=fun s=>gH.fin L out s) (fun _ _ h=>h) ?_
 have H:_=some out:=H
 unfold gH.f at H
 show dA _ cf EG m _ ⟨[.agg [.int .i64 n0.kind,.int .i64 n0.int,.str n0.label,aa.fz n0.args],.any,.any],[none],h⟩ _
 obtain rfl:=oi H
 exact q1 <| qq <| q0 <| qt <| ⟨.inl rfl,cp (.bool (n0.kind==(4:Int))) h (cn (au))⟩
end
end Go.Proofs.YtmekcfdllhphlaaGreatDoor
namespace Go.Proofs.YtmekcfdllhphlaaGreatDoor
open Go Go.R
open Go.IntKind (i64 u64 u8 u32)
def EH:b9:=gm [0,1,2] [1] [5,3] [] []
def dM.f (m:Nat)(t0:ak):Option (Bool):=(gD.f m t0.nodes (fun y0=>gH.f m y0)).bind fun x0=>some x0
def dM.fin (L:Mem)(r:Bool)(s:St):Prop:=∃av,aH Tryz.prog (s.open EH) Tryz.f37.results.toList=some av∧gf s.h av (.bool r)
def WJ (cf:CallF)(m:Nat):Prop:=∀(t0:ak) (r:Bool),dM.f m t0=some r→∀h xs,eR fh h xs [.agg [ah.fz t0.nodes,.int .i64 t0.root]]→cf 37 xs h=some (.bool r,h)
section
variable {cf:CallF}{m:Nat}
theorem rm {aV:FuncId→b9}(ha:aV 37=EH)(NU:TK cf m)(Uo:WI cf m)(t0:ak)(h:AHeap)(L:Mem)  (o:Has h (L)){out:Bool}(H:dM.f m t0=some out) :
  ∃r h',bg Tryz.prog aV cf m 37 [.agg [ah.fz t0.nodes,.int .i64 t0.root]] h=some (r,h')∧gf h' r (.bool out):=by
 refine aj (fn:=Tryz.f37) ha Tryz.func37 (by kernel_rfl) (by kernel_rfl) ?_
 refine aD (Q:=fun s=>dM.fin L out s) (fun _ _ h=>h) ?_
 have H:_=some out:=H
 unfold dM.f at H
 show dA _ cf EH m _ ⟨[.agg [ah.fz t0.nodes,.int .i64 t0.root],.any,.any],[none],h⟩ _
 refine q1 <| qq ?_
 obtain⟨x0,e0,H⟩:=aG H
 obtain rfl:=oi H
 exact qr [.a 2 (NU _ _ _ e0 h (Has.pos o) 39 [] rfl (fun y0 r hr=>Uo y0 r hr h _ (fT (ab (dJ (ab (aQ) (ab (aQ) (ab (cF) (ab (bB (E:=aa)) (aA)))))) (aA)))) _ (an (aP (gP (E:=ah))) (an ((rfl:aC (.fn 39 [])=_)) (aT))))] <| qt <| ⟨.inl rfl,cp (.bool x0) h (cn (au))⟩
end
end Go.Proofs.YtmekcfdllhphlaaGreatDoor
namespace Go.Proofs.YtmekcfdllhphlaaGreatDoor
open Go Go.R
open Go.IntKind (i64 u64 u8 u32)
def Bp:b9:=gm [0,2,3,4,6,7,8,9,12,13,14,15,16,25,32,37] [6,7] [65534,65278,65529,65526,61943,57847,61927,61847,53719,65529,61943,61943,49143,65529,65407,32639,65529,65529] [(12,[(4,none,0)])] [(3,[(4,none,2)])]
def bz.l0 (m:Nat)(aZ:List ak):Nat→(List ak)→Int→Option (Sum ((List Int) × Int) ((List ak) × Int))
 | 0,_,_=>none
 | k+1,dN,x0=>if (decide (x0<(aZ.length:Int)))=true then ((ix aZ x0).bind fun v0=>(dr.f m v0).bind fun x1=>if (!(x1.2==(0:Int)))=true then (some (.inl ([],(2:Int)))) else ((app 32 dN ([x1.1])).bind fun x2=>bz.l0 m aZ k x2 (i64.wrap (x0+(1:Int))))) else (some (.inr (dN,x0)))
def bz.f (m:Nat)(aZ:List ak):Option ((List Int) × Int):=if (decide ((aZ.length:Int) > (8:Int)))=true then (some ([],(3:Int))) else ((bz.l0 m aZ m ([]:List ak) (0:Int)).bind fun aF=>match aF with | .inl r0=>some r0 | .inr (bU,x3)=>(gE.f m bU (fun y0=>dM.f m y0)).bind fun x4=>if x4=true then (some ([],(4:Int))) else ((bb.f m bU).bind fun x5=>if (decide ((x5.length:Int) > (200000:Int)))=true then (some ([],(3:Int))) else (some (x5,(0:Int)))))
def bz.fin (L:Mem)(r:(List Int) × Int)(s:St):Prop:=∃av,aH Tryz.prog (s.open Bp) Tryz.f17.results.toList=some av∧vm s.h av (.tup [af.fz r.1,.int .i64 r.2])
def WK (cf:CallF)(m:Nat):Prop:=∀(aZ:List ak) (r:(List Int) × Int),bz.f m aZ=some r→∀h xs,lh xs [aL.fz aZ]→cf 17 xs h=some (.tup [af.fz r.1,.int .i64 r.2],h)
section
variable {cf:CallF}{m:Nat}
theorem bz.bu (L:Mem)(aZ:List ak)  (N9:Ul cf m):bC Tryz.prog cf Bp m (sub [1,1,1,0,1,0,0] (codeOf Tryz.f17)) (fun k (σ:(List ak) × Int)=>bz.l0 m aZ k σ.1 σ.2) (fun σ s=>match σ with | (dN,x0)=>∃az h0,s=⟨jE (.rs az 0 dN.length 2::qF (aL.fz aZ :: .int .i64 (aZ.length:Int) :: .int .i64 x0::mT [])),[none,none],h0⟩∧Has h0 ((az,.sl dN.length 2 (aL.l dN))::L)) (fun out e s=>(e = .exit 0∧∃dN x0,.inr (dN,x0)=out∧∃pF sj sk IL az h0,s=⟨jE (.rs az 0 dN.length 2::qF (pF::sj::sk::IL::jE [])),[none,none],h0⟩∧Has h0 ((az,.sl dN.length 2 (aL.l dN))::L))∨(e = .ret∧∃r,.inl r=out∧bz.fin L r s)):=by
 refine gk (fun _=>rfl) ?_
 rintro k ⟨dN,x0⟩ s out ⟨az,h0,rfl,o1⟩ H
 have H:bz.l0 m aZ (k+1) dN x0=some out:=H
 refine q1 <| qq <| qc H (fun c1 H=>?_) (fun c1 H=>?_)
 ·refine qk <| qq <| qb 1 <| qq ?_
  obtain⟨v0,e0,H⟩:=aG H
  refine qr [.v 0 (bN (k:=.i64) (E:=aL) (l:=aZ) xZ e0),.v 1 (dI  (E:=aL) (l:=aZ) h0 J7 J8 e0)] <| qq ?_
  obtain⟨x1,e1,H⟩:=aG H
  refine qr [.a 1 (N9 _ _ e1 h0 _ (cb (pB (cb (gP (E:=ah)) (cb (bD) (fH)))) (fH)))] <| qq <| qq <| q0 <| qc H (fun c2 H=>?_) (fun c2 H=>?_)
  ·refine q1 ?_
   have o2:Has h0 (L):=Has.del o1 0
   exact qt <| abD (⟨rfl,_,oi H,oF (.tup [.nils,.int .i64 (2:Int)]) h0 (lI (er (ab (dV) (ab (aQ) (aA)))))⟩)
  ·refine qk ?_
   obtain⟨x2,e2,H⟩:=aG H
   obtain⟨dR,h1,e3,o3⟩:=cL (P:=Tryz.prog) (E:=aL) (l:=dN) (q:=0) (t2:=24) (x:=.fz [ah.fz x1.1.nodes,.int .i64 x1.1.root] 1 true) (l2:=([x1.1])) xZ o1 rfl (by kernel_rfl) rfl e2
   exact qr [.a 3 e3] <| q0 <| ⟨(x2,i64.wrap (x0+(1:Int))),⟨dR,h1,by kernel_rfl,o3⟩,H⟩
 ·exact qx 0 <| abM (⟨rfl,dN,x0,oi H,aL.fz aZ,.int .i64 (aZ.length:Int),.int .i64 x0,.bool (decide (x0<(aZ.length:Int))),az,h0,by kernel_rfl,o1⟩)
theorem tX {aV:FuncId→b9}(ha:aV 17=Bp)(N9:Ul cf m)(Up:Wq cf m)(Uq:WJ cf m)(Ur:WH cf m)(aZ:List ak)(h:AHeap)(L:Mem)  (o:Has h (L)){out:(List Int) × Int}(H:bz.f m aZ=some out) :
  ∃r h',bg Tryz.prog aV cf m 17 [aL.fz aZ] h=some (r,h')∧vm h' r (.tup [af.fz out.1,.int .i64 out.2]):=by
 refine aj (fn:=Tryz.f17) ha Tryz.func17 (by kernel_rfl) (by kernel_rfl) ?_
 refine aD (Q:=fun s=>bz.fin L out s) (fun _ _ h=>h) ?_
 have H:_=some out:=H
 unfold bz.f at H
 show dA _ cf Bp m _ ⟨aL.fz aZ::HQ [],[none,none],h⟩ _
 refine q1 <| qq <| qq <| q0 <| qc H (fun c0 H=>?_) (fun c0 H=>?_)
 ·obtain rfl:=oi H
  exact q1 <| qt <| ⟨.inl rfl,oF (.tup [.nils,.int .i64 (3:Int)]) h (lI (er (ab (dV) (ab (aQ) (aA)))))⟩
 ·refine qk <| qq <| q0 ?_
  have o0:Has h (((0),.sl (([]:List ak).length) 2 (aL.l ([]:List ak)))::L):=Has.nil o 2
  refine qq <| qq <| q0 <| qb 0 ?_
  obtain⟨aF,e4,H⟩:=aG H
  refine ql (bz.bu L aZ  N9 (([]:List ak),(0:Int)) _ _ ⟨(0),h,by kernel_rfl,o0⟩ e4) ?_
  rintro e s (⟨rfl,bU,x3,rfl,g0,g1,g2,g3,cR,h2,rfl,o4⟩| ⟨rfl,r0,rfl,l8⟩)
  ·try dsimp only at H
   refine qq <| qq ?_
   obtain⟨h3,e5,o5⟩:=fV (E:=aL) (l:=bU) (q:=0) o4 rfl
   obtain⟨x4,e6,H⟩:=aG H
   refine uC [.a 0 e5] [.a 1 (Up _ _ _ e6 h3 (Has.pos o5) 37 [] rfl (fun y0 r hr=>Uq y0 r hr h3 _ (fT (ab (dJ (ab (bB (E:=ah)) (ab (aQ) (aA)))) (aA)))) _ (an (aP (gP (E:=aL))) (an ((rfl:aC (.fn 37 [])=_)) (aT))))] <| qc H (fun c3 H=>?_) (fun c3 H=>?_)
   ·obtain rfl:=oi H
    exact q1 <| qt <| ⟨.inl rfl,oF (.tup [.nils,.int .i64 (4:Int)]) h3 (lI (er (ab (dV) (ab (aQ) (aA)))))⟩
   ·refine qk <| qq ?_
    obtain⟨x5,e7,H⟩:=aG H
    refine qr [.a 1 (Ur _ _ e7 h3 _ (fT (ab (bB (E:=aL)) (aA))))] <| qq <| qq <| q0 <| qc H (fun c4 H=>?_) (fun c4 H=>?_)
    ·obtain rfl:=oi H
     exact q1 <| qt <| ⟨.inl rfl,oF (.tup [.nils,.int .i64 (3:Int)]) h3 (lI (er (ab (dV) (ab (aQ) (aA)))))⟩
    ·obtain rfl:=oi H
     exact qk <| qq <| q0 <| qt <| ⟨.inl rfl,oF (.tup [af.fz x5,.int .i64 (0:Int)]) h3 (lI (er (ab (bB) (ab (aQ) (aA)))))⟩
  ·try dsimp only at H
   obtain rfl:=oi H
   exact⟨.inl rfl,l8⟩
end
end Go.Proofs.YtmekcfdllhphlaaGreatDoor
