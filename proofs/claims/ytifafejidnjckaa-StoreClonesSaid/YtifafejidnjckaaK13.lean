/- Part of the proof: PT10, PB1, PR2, PR3, PR4, PR5, PR6, PR9, PT12, PB2, PB4, PB9, PV1, PA8, PA9, PA10, PA11, PA12, PFA, RCL. -/
import Derived.Test.YtifafejidnjckaaK12
import Derived.Test.YtifafejidnjckaaChecked
set_option linter.unusedVariables false
set_option linter.unusedSimpArgs false
set_option maxRecDepth 100000
open Bool renaming and_eq_true → Vu, false_eq_true → VB, or_eq_true → Wb, not_true → Wn, not_eq_true' → Ww
open ByteArray renaming mk → Wh
open Int renaming toNat_natCast → VD, natCast_nonneg → WI
open List renaming getElem?_eq_getElem → Vx, getElem?_eq_some_iff → Vy, length_append → VA, drop_eq_getElem_cons → VE, length_cons → VF, getElem?_append_left → VG, mem_of_getElem? → VH, append_assoc → VI, all_eq_true → VK, getElem?_append_right → VL, getD_eq_getElem?_getD → VM, length_map → VN, mem_singleton → VQ, mem_cons → VS, length_nil → VT, map_cons → VU, mem_append → VX, map_append → VY, getElem?_eq_none → V1, cons_append → V6, mem_map → V8, drop_zero → Wa, mem_append_left → Wk, take_succ_eq_append_getElem → Wp, length_take → Wt, getElem?_of_mem → Wu, getElem?_map → Wx, idxOf_lt_length_of_mem → WJ, append_nil → WN, ext_getElem? → WQ, range → WS, map_nil → WU, map_congr_left → WY
open Nat renaming le_refl → Vv, zero_add → VO, lt_of_lt_of_le → VP, beq → V5, le_trans → We, zero_le → Wg, eq_of_beq_eq_true → Wr, ble → WK, zero_lt_one → WM, sub_self → WW
open Option renaming bind_eq_some_iff → Vp, bind_some → Vq, map_some → Vw
open Option.some renaming injEq → Vt, inj → Wc
open Prod.mk renaming injEq → Vz
open UInt8 renaming lt_iff_toNat_lt → WB
namespace Go.Proofs.Ytifafejidnjckaa
open Go Go.R
open Go.IntKind (i64 u64 u8 u32)
def la:List Int→Nat→List (Int × Int)
 | [],_=>[]
 | k::ks,s=>(k,(s:Int))::la ks (s+1)
theorem uA:∀(ks:List Int) (s:Nat) (k:Int),xh (la ks s) k=if k∈ks then (((s+ks.idxOf k:Nat):Int),true) else (0,false)
 | [],s,k=>rfl
 | a::ks,s,k=>by
  simp only [la,xh,uA ks (s+1) k,VS,List.idxOf_cons]
  by_cases h:k=a
  ·subst h; simp
  ·have h':(a==k)=false:=by simpa using fun z:a=k=>h z.symm
   rw [if_neg h,h']
   by_cases h2:k∈ks
   ·simp only [h2,if_true,or_true,cond_false]
    simp only [Vz,and_true]
    omega
   ·simp [h2,h]
theorem uB:∀(ks:List Int) (s:Nat) (k:Int),k∉ks→Cp (la ks s) k ((s+ks.length:Nat):Int)=la (ks++[k]) s
 | [],s,k,_=>rfl
 | a::ks,s,k,h=>by
  have h1:k≠a:=fun z=>h (by simp [z])
  have h2:k∉ks:=fun z=>h (by simp [z])
  simp only [la,Cp,V6,if_neg h1,VF]
  rw [show s+(ks.length+1)=s+1+ks.length by omega,uB ks (s+1) k h2]
def iv (cls:List Int)(a:Int):Int:=gt cls a.toNat
def idx (cls o:List Int)(a:Int):Int:=((o.map (iv cls)).idxOf (iv cls a):Nat)
def ye (cls:List Int)(l:List aq)(o:List Int)(i:Int):aq:=⟨(nd l i).kind,(nd l i).int,(nd l i).label,(nd l i).args.map (idx cls o)⟩
def tK (cls:List Int)(l:List aq):Nat→Int→List Int→List Int
 | 0,_,o=>o
 | k+1,i,o=>if iv cls i∈o.map (iv cls) then o else (nd l i).args.foldl (fun o a=>tK cls l k a o) (o++[i])
structure Vs (cls:List Int)(n:Nat)(o:List Int):Prop where
 Hf:(o.map (iv cls)).Nodup
 BI:∀x∈o,0≤x∧x<n
structure Ps (cls:List Int)(l:List aq)(o o':List Int)(ns zJ:List aq):Prop where
 vs:Vs cls l.length o'
 pre:∃t,o'=o++t
 len:zJ.length=o'.length
 old:∀k,k<o.length→zJ[k]? = ns[k]?
 new:∀k,o.length≤k→k<o'.length→zJ[k]? = some (ye cls l o' (gt o' k))
 arg:∀k,o.length≤k→k<o'.length→∀a∈(nd l (gt o' k)).args,iv cls a∈o'.map (iv cls)
theorem Vs.Kq {cls:List Int}{n:Nat}{o:List Int}(v:Vs cls n o):o.length≤n:=by
 have hn:o.Nodup:=by
  have:=v.Hf
  unfold List.Nodup at this ⊢
  rw [List.pairwise_map] at this
  exact List.Pairwise.imp (fun h e=>h (by rw [e])) this
 have:=hn.length_le_of_subset (l₂:=ints n) (fun x hx=>jY.2 (v.BI x hx))
 rwa [fw] at this
theorem Ps.refl {cls:List Int}{l:List aq}{o:List Int}{ns:List aq}(v:Vs cls l.length o)(h:ns.length=o.length):Ps cls l o o ns ns:=
 ⟨v,⟨[],by simp⟩,h,fun _ _=>rfl,fun k h1 h2=>by omega,fun k h1 h2=>by omega⟩
theorem pX {a b:List Int}{k:Nat}(h:k<a.length):gt (a++b) k=gt a k:=by
 unfold gt; rw [VM,VM,VG h]
theorem nY {cls o t:List Int}{a:Int}(h:iv cls a∈o.map (iv cls)):idx cls (o++t) a=idx cls o a:=by
 unfold idx; rw [VY,List.idxOf_append,if_pos h]
theorem yf {cls:List Int}{l:List aq}{o t:List Int}{i:Int}(h:∀a∈(nd l i).args,iv cls a∈o.map (iv cls)):ye cls l (o++t) i=ye cls l o i:=by
 unfold ye
 congr 1
 exact WY fun a ha=>nY (h a ha)
theorem Ps.trans {cls:List Int}{l:List aq}{o o1 o2:List Int}{ns n1 n2:List aq}(a:Ps cls l o o1 ns n1)(b:Ps cls l o1 o2 n1 n2):Ps cls l o o2 ns n2:=by
 obtain⟨t1,rfl⟩:=a.pre
 obtain⟨t2,rfl⟩:=b.pre
 have hl:(o++t1).length=o.length+t1.length:=by simp
 refine⟨b.vs,⟨t1++t2,by simp⟩,b.len,fun k hk=>(b.old k (by omega)).trans (a.old k hk),fun k h1 h2=>?_,fun k h1 h2 x hx=>?_⟩
 ·by_cases h:k<(o++t1).length
  ·rw [b.old k h,a.new k h1 h,pX h,yf (a.arg k h1 h)]
  ·exact b.new k (by omega) h2
 ·by_cases h:k<(o++t1).length
  ·rw [pX h] at hx
   rw [VY]
   exact Wk _ (a.arg k h1 h x hx)
  ·exact b.arg k (by omega) h2 x hx
section
variable {m:Nat}{cls:List Int}{l:List aq}{root:Int}
abbrev Mc:=Int→(List (Int × Int))→(List Int)→bw→bw→Option (Int × (List (Int × Int)) × bw)
def H8 (cls:List Int)(l:List aq)(root:Int)(rec:Mc)(df:Int→List Int→List Int)(need:Nat):Prop:=∀(i:Int) (o:List Int) (ns:List aq),0≤i→i<l.length→Vs cls l.length o→ns.length=o.length→l.length<need+o.length→
 ∃zJ,rec i (la (o.map (iv cls)) 0) cls ⟨ns,0⟩ ⟨l,root⟩=some (idx cls (df i o) i,la ((df i o).map (iv cls)) 0,⟨zJ,0⟩)∧Ps cls l o (df i o) ns zJ∧iv cls i∈(df i o).map (iv cls)
theorem Fx {rec:Mc}{df:Int→List Int→List Int}{need:Nat}(hm:2 ^ 30≤m)(ok:BJ l)(V:H8 cls l root rec df need){v:aq}(h8:v.args.length≤8)(ha:∀a∈v.args,0≤a∧a<l.length){o0:List Int}{RJ:List aq}(Md:l.length<need+o0.length):∀(f t:Nat) (o:List Int) (ns:List aq),v.args.length - t<f→t≤v.args.length→Ps cls l o0 o RJ ns→(∀a∈v.args.take t,iv cls a∈o.map (iv cls))→
  ∃o' zJ x,o'=(v.args.drop t).foldl (fun o a=>df a o) o∧aZ.l0 m cls ⟨l,root⟩ rec v f ((v.args.take t).map (idx cls o)) (t:Int) (la (o.map (iv cls)) 0) ⟨ns,0⟩=some (v.args.map (idx cls o'),x,la (o'.map (iv cls)) 0,⟨zJ,0⟩)∧Ps cls l o0 o' RJ zJ∧∀a∈v.args,iv cls a∈o'.map (iv cls)
 | 0,t,o,ns,hf,_,_,_=>absurd hf (by omega)
 | f+1,t,o,ns,hf,ht,P,hin=>by
  have JN:(2:Nat) ^ 30=1073741824:=by decide
  unfold aZ.l0
  by_cases h:t<v.args.length
  ·obtain⟨b0,b1⟩:=ha _ (bP h)
   have Vm:o0.length≤o.length:=by obtain⟨s,rfl⟩:=P.pre; simp
   obtain⟨T8,k1,P1,Mt⟩:=V (gt v.args t) o ns b0 b1 P.vs P.len (by omega)
   obtain⟨s,hs⟩:=P1.pre
   have hT1:v.args.take (t+1)=v.args.take t++[gt v.args t]:=by rw [List.take_add_one,eA h]; rfl
   have hD:v.args.drop t=gt v.args t::v.args.drop (t+1):=by
    obtain⟨h4,h5⟩:=Vy.1 (eA h)
    rw [←h5]; exact VE h4
   have P3:∀a∈v.args.take (t+1),iv cls a∈(df (gt v.args t) o).map (iv cls):=fun a ha=>by
    rw [hT1] at ha
    rcases VX.1 ha with ha | ha
    ·rw [hs,VY]; exact Wk _ (hin a ha)
    ·simp only [VQ] at ha; subst ha; exact Mt
   obtain⟨o',zJ,x,e,k2,P2,h2⟩:=Fx hm ok V h8 ha Md f (t+1) (df (gt v.args t) o) T8 (by omega) (by omega) (P.trans P1) P3
   refine⟨o',zJ,x,by rw [hD]; exact e,?_,P2,h2⟩
   have e1:i64.wrap ((t:Int)+1)=((t+1:Nat):Int):=by rw [bH (by omega) (by omega)]; omega
   have Kb:app 8 ((v.args.take t).map (idx cls o)) [idx cls (df (gt v.args t) o) (gt v.args t)]=some ((v.args.take (t+1)).map (idx cls (df (gt v.args t) o))):=by
    unfold app
    rw [if_pos (by simp; omega),hT1,VY]
    congr 2
    exact WY fun a ha=>by rw [hs]; exact (nY (hin a ha)).symm
   rw [if_pos (by simp only [decide_eq_true_eq]; omega),fN h,Vq,k1,Vq,Kb,Vq,e1]
   exact k2
  ·have:t=v.args.length:=by omega
   subst this
   rw [List.take_length] at hin ⊢
   exact⟨o,ns,_,by rw [List.drop_length]; rfl,by rw [if_neg (by simp)],P,hin⟩
theorem tc (hm:2 ^ 30≤m)(ok:BJ l)(hc:cls.length=l.length):∀k,H8 cls l root (aZ.f m k) (tK cls l k) k
 | 0=>fun i o ns h0 h1 v hl hn=>absurd v.Kq (by omega)
 | k+1=>fun i o ns h0 h1 v hl hn=>by
  have JN:(2:Nat) ^ 30=1073741824:=by decide
  have h8000:=ok.1
  have T9:=v.Kq
  show ∃zJ,aZ.b m (aZ.f m k) i (la (o.map (iv cls)) 0) cls ⟨ns,0⟩ ⟨l,root⟩=_∧_
  unfold aZ.b
  have hx:ix cls i=some (iv cls i):=zz (by omega) (by omega)
  rw [hx,Vq,uA,VO]
  by_cases h:iv cls i∈o.map (iv cls)
  ·have hd:tK cls l (k+1) i o=o:=by unfold tK; rw [if_pos h]
   rw [hd,if_pos h]
   exact⟨ns,rfl,Ps.refl v hl,h⟩
  ·have hd:tK cls l (k+1) i o=(nd l i).args.foldl (fun o a=>tK cls l k a o) (o++[i]):=by
    show (if iv cls i∈o.map (iv cls) then o else (nd l i).args.foldl (fun o a=>tK cls l k a o) (o++[i]))=_
    rw [if_neg h]
   have v1:Vs cls l.length (o++[i]):=by
    refine⟨?_,fun x hx=>?_⟩
    ·rw [VY,List.nodup_append]
     refine⟨v.Hf,by simp,fun a ha b hb=>?_⟩
     simp only [VU,WU,VQ] at hb
     subst hb; intro e; subst e; exact h ha
    ·rcases VX.1 hx with hx | hx
     ·exact v.BI x hx
     ·simp only [VQ] at hx; subst hx; exact⟨h0,h1⟩
   have Me:=v1.Kq
   simp only [VA,VF,VT] at Me
   have Kb:app 56 ns [(⟨(nd l i).kind,(nd l i).int,(nd l i).label,[]⟩:aq)]=some (ns++[⟨(nd l i).kind,(nd l i).int,(nd l i).label,[]⟩]):=by
    unfold app; rw [if_pos (by simp; omega)]
   have KS:Cp (la (o.map (iv cls)) 0) (iv cls i) ((ns.length:Nat):Int)=la ((o++[i]).map (iv cls)) 0:=by
    have:=uB (o.map (iv cls)) 0 (iv cls i) h
    rw [VO,VN,←hl] at this
    rw [this,VY]; rfl
   obtain⟨n1,n2⟩:=ok.2 _ (kE h0 h1)
   have P0:Ps cls l (o++[i]) (o++[i]) (ns++[⟨(nd l i).kind,(nd l i).int,(nd l i).label,[]⟩]) (ns++[⟨(nd l i).kind,(nd l i).int,(nd l i).label,[]⟩]):=Ps.refl v1 (by simp [hl])
   obtain⟨o',zJ,x,e,k2,P2,h2⟩:=Fx (m:=m) (v:=nd l i) (need:=k) hm ok (tc hm ok hc k) n1 n2 (o0:=o++[i]) (by simp; omega) m 0 (o++[i]) _ (by omega) (by omega) P0 (fun a ha=>by simp at ha)
   rw [Wa] at e
   rw [List.take_zero,WU] at k2
   have k2:aZ.l0 m cls ⟨l,root⟩ (aZ.f m k) (nd l i) m [] 0 _ _=_:=k2
   obtain⟨s,hs⟩:=P2.pre
   have Gl:o.length<o'.length:=by rw [hs]; simp
   have Mf:zJ[o.length]? = some ⟨(nd l i).kind,(nd l i).int,(nd l i).label,[]⟩:=by
    rw [P2.old _ (by simp),←hl,VL (Vv _),WW]; rfl
   have PY:ix zJ ((ns.length:Nat):Int)=some ⟨(nd l i).kind,(nd l i).int,(nd l i).label,[]⟩:=by
    unfold ix; rw [if_pos (by omega),VD,hl,Mf]
   have RK:gt o' o.length=i:=by
    rw [hs,pX (by simp)]
    unfold gt; rw [VM,VL (Vv _),WW]; rfl
   have P4:idx cls o' i=(o.length:Nat):=by
    rw [hs,nY (by simp)]
    unfold idx
    rw [VY,List.idxOf_append,if_neg h]; simp
   rw [hd,←e,if_neg h,if_neg (by simp),Vq,s7 h0 h1,Vq,Kb,Vq,KS,k2,Vq]
   dsimp only
   rw [PY,Vq,VD,P4,hl]
   refine⟨_,rfl,⟨P2.vs,⟨[i]++s,by rw [hs]; simp⟩,by simpa using P2.len,fun q hq=>?_,fun q h3 h4=>?_,fun q h3 h4 a ha=>?_⟩,by rw [hs]; simp⟩
   ·rw [List.getElem?_set_ne (by omega),P2.old q (by simp; omega),VG (by omega)]
   ·by_cases hq:q=o.length
    ·subst hq
     rw [List.getElem?_set_self (by rw [P2.len]; omega),RK]; rfl
    ·rw [List.getElem?_set_ne (by omega)]
     exact P2.new q (by simp; omega) h4
   ·by_cases hq:q=o.length
    ·subst hq; rw [RK] at ha; exact h2 a ha
    ·exact P2.arg q (by simp; omega) h4 a ha
end
theorem zK {m:Nat}(hm:2 ^ 41≤m){t:bw}(ok:BJ t.nodes)(h1:1≤t.nodes.length)(r0:0≤t.root)(r1:t.root<t.nodes.length)(Inv:List Int→Prop)
  (hI0:∀d out,d.Perm (ints t.nodes.length)→(Ord (fun x y=>cT (nd t.nodes x) (nd t.nodes y)) (ints t.nodes.length)→Sg (fun x y=>cT (nd t.nodes x) (nd t.nodes y)) d 0 t.nodes.length)→(∀k,k<t.nodes.length→gt out (gt d k).toNat=rk t.nodes d k)→Inv out)
  (hI:∀out many ks next,Part t.nodes.length out many→Inv out→pW t.nodes out t.nodes.length ks→next.length=t.nodes.length→(∀i,i<t.nodes.length→gt next i=(ks.idxOf (key out (nd t.nodes i) i):Int))→Inv next) :
  ∃cls many ks ns,fB.f m t=some ⟨ns,0⟩∧Part t.nodes.length cls many∧Inv cls∧pW t.nodes cls t.nodes.length ks∧ks.length=many+1∧Ps cls t.nodes [] (tK cls t.nodes m t.root []) [] ns∧iv cls t.root∈(tK cls t.nodes m t.root []).map (iv cls):=by
 have JN:(2:Nat) ^ 30=1073741824:=by decide
 have yD:(2:Nat) ^ 41=2199023255552:=by decide
 have h8000:=ok.1
 obtain⟨cls,many,ks,k1,P,I,K,z7⟩:=wa hm ok h1 Inv hI0 hI
 obtain⟨ns,k2,P2,h2⟩:=tc (m:=m) (root:=t.root) (by omega) ok P.len m t.root [] [] r0 r1 ⟨by simp,fun x hx=>by simp at hx⟩ rfl (by simp; omega)
 refine⟨cls,many,ks,ns,?_,P,I,K,z7,P2,h2⟩
 unfold fB.f
 have k2:aZ.f m m t.root [] cls ⟨[],0⟩ t=_:=k2
 rw [k1,Vq,k2]; rfl
end Go.Proofs.Ytifafejidnjckaa
namespace Go.Proofs.Ytifafejidnjckaa
open Go Go.R
open Go.IntKind (i64 u64 u8 u32)
theorem te:∀(x:List UInt8),Op.bytesLess x x=false
 | []=>rfl
 | a::x=>by simp [Op.bytesLess,te x]
theorem wc:∀(x y:List UInt8),Op.bytesLess x y=true→Op.bytesLess y x=false
 | _,[],h=>by cases ‹List UInt8›<;>simp [Op.bytesLess] at h
 | [],b::y,_=>rfl
 | a::x,b::y,h=>by
  simp only [Op.bytesLess,Wb,Vu,decide_eq_true_eq,beq_iff_eq] at h
  simp only [Op.bytesLess,Bool.or_eq_false_iff,Bool.and_eq_false_iff,decide_eq_false_iff_not,beq_eq_false_iff_ne]
  rcases h with h | ⟨rfl,h⟩
  ·refine⟨fun h2=>?_,.inl fun e=>?_⟩
   ·rw [WB] at h h2; omega
   ·subst e; rw [WB] at h; omega
  ·exact⟨by rw [WB]; omega,.inr (wc x y h)⟩
theorem Fy:∀(x y:List UInt8),Op.bytesLess x y=true∨x=y∨Op.bytesLess y x=true
 | [],[]=>.inr (.inl rfl)
 | [],b::y=>.inl rfl
 | a::x,[]=>.inr (.inr rfl)
 | a::x,b::y=>by
  simp only [Op.bytesLess,Wb,Vu,decide_eq_true_eq,beq_iff_eq,List.cons.injEq]
  rcases Nat.lt_trichotomy a.toNat b.toNat with h | h | h
  ·exact .inl (.inl (WB.2 h))
  ·have:a=b:=UInt8.toNat_inj.1 h
   subst this
   rcases Fy x y with h1 | h1 | h1
   ·exact .inl (.inr ⟨rfl,h1⟩)
   ·exact .inr (.inl ⟨rfl,h1⟩)
   ·exact .inr (.inr (.inr ⟨rfl,h1⟩))
  ·exact .inr (.inr (.inl (WB.2 h)))
theorem yg:∀(x y z:List UInt8),Op.bytesLess x y=true→Op.bytesLess y z=true→Op.bytesLess x z=true
 | _,_,[],_,h=>by cases ‹List UInt8›<;>simp [Op.bytesLess] at h
 | _,[],c::z,h,_=>by cases ‹List UInt8›<;>simp [Op.bytesLess] at h
 | [],b::y,c::z,_,_=>rfl
 | a::x,b::y,c::z,h1,h2=>by
  simp only [Op.bytesLess,Wb,Vu,decide_eq_true_eq,beq_iff_eq] at h1 h2 ⊢
  rcases h1 with h1 | ⟨rfl,h1⟩
  ·rcases h2 with h2 | ⟨rfl,h2⟩
   ·left; rw [WB] at *; omega
   ·exact .inl h1
  ·rcases h2 with h2 | ⟨rfl,h2⟩
   ·exact .inl h2
   ·exact .inr ⟨rfl,yg x y z h1 h2⟩
theorem Fz {x y:ByteArray}(h:x.data.toList=y.data.toList):x=y:=by
 cases x with | mk a=>cases y with | mk b=>cases a; cases b; simp only at h; subst h; rfl
structure JQ {α:Type}(c:α→α→Int):Prop where
 zero:∀x y,c x y=0→x=y
 refl:∀x,c x x=0
 neg:∀x y,c y x = - c x y
 tr:∀x y z,c x y≤0→c y z≤0→c x z≤0
theorem mS:JQ cI:=by
 refine⟨fun x y h=>?_,fun x=>?_,fun x y=>?_,fun x y z h1 h2=>?_⟩
 ·unfold cI at h; split at h
  ·omega
  ·split at h<;>omega
 ·unfold cI; simp
 ·unfold cI; split<;>split<;>(try split)<;>omega
 ·unfold cI at *
  split at h1<;>split at h2<;>(try split at h1)<;>(try split at h2)<;>(try omega)<;>split<;>(try split)<;>omega
theorem yh (x y:ByteArray):cS x y=if Op.bytesLess x.data.toList y.data.toList=true then -1 else if x=y then 0 else 1:=by
 unfold cS D7
 cases h:Op.bytesLess x.data.toList y.data.toList with
 | true=>rfl
 | false=>
  simp only [Bool.false_or,VB,if_false]
  by_cases e:x=y
  ·subst e; simp
  ·rw [if_neg e]
   have:(x.data.toList==y.data.toList)=false:=by
    rw [beq_eq_false_iff_ne]; exact fun h=>e (Fz h)
   rw [this]; rfl
theorem FA:JQ cS:=by
 refine⟨fun x y h=>?_,fun x=>?_,fun x y=>?_,fun x y z h1 h2=>?_⟩
 ·rw [yh] at h
  split at h
  ·omega
  ·split at h
   ·assumption
   ·omega
 ·rw [yh,te]; simp
 ·rw [yh,yh]
  rcases Fy x.data.toList y.data.toList with h | h | h
  ·have h2:=wc _ _ h
   have hne:¬y=x:=fun e=>by subst e; rw [te] at h; cases h
   rw [if_pos h,h2]; simp [hne]
  ·have:=Fz h
   subst this
   rw [te]; simp
  ·have h2:=wc _ _ h
   have hne:¬x=y:=fun e=>by subst e; rw [te] at h; cases h
   rw [if_pos h,h2]; simp [hne]
 ·rw [yh] at h1 h2 ⊢
  split at h1
  ·rename_i g1
   split at h2
   ·rename_i g2
    rw [if_pos (yg _ _ _ g1 g2)]; omega
   ·split at h2
    ·rename_i e; subst e; rw [if_pos g1]; omega
    ·omega
  ·split at h1
   ·rename_i e; subst e
    split at h2
    ·rename_i g2; rw [if_pos g2]; omega
    ·split at h2
     ·rename_i g e; rw [if_neg g,if_pos e]; omega
     ·omega
   ·omega
theorem FB {α β:Type}{c:α→α→Int}{d:β→β→Int}(C:JQ c)(D:JQ d):JQ fun (p q:α × β)=>CV (c p.1 q.1) (d p.2 q.2):=by
 refine⟨fun x y h=>?_,fun x=>?_,fun x y=>?_,fun x y z h1 h2=>?_⟩
 ·unfold CV at h
  split at h
  ·rename_i h1; exact Prod.ext (C.zero _ _ h1) (D.zero _ _ h)
  ·exact absurd h ‹_›
 ·unfold CV; rw [C.refl,if_pos rfl,D.refl]
 ·skip
  unfold CV
  have:=C.neg x.1 y.1
  by_cases h:c x.1 y.1=0
  ·rw [if_pos h,if_pos (by omega),D.neg]
  ·rw [if_neg h,if_neg (by omega),C.neg]
 ·skip
  unfold CV at *
  by_cases a:c x.1 y.1=0
  ·rw [if_pos a] at h1
   have e:=C.zero _ _ a
   rw [←e] at h2
   by_cases b:c x.1 z.1=0
   ·rw [if_pos b] at h2 ⊢; exact D.tr _ _ _ h1 h2
   ·rw [if_neg b] at h2 ⊢; exact h2
  ·rw [if_neg a] at h1
   have hz:c x.1 z.1≤0:=by
    by_cases b:c y.1 z.1=0
    ·rw [←C.zero _ _ b]; exact h1
    ·rw [if_neg b] at h2; exact C.tr _ _ _ h1 h2
   have hne:c x.1 z.1≠0:=fun e=>by
    have e1:=C.zero _ _ e
    by_cases b:c y.1 z.1=0
    ·have e2:=C.zero _ _ b; rw [e1,←e2] at a; exact a (C.refl _)
    ·rw [if_neg b,←e1] at h2
     have:=C.neg x.1 y.1; omega
   rw [if_neg hne]; exact hz
theorem BL:JQ fun (p q:Int × ByteArray)=>CV (cI p.1 q.1) (cS p.2 q.2):=FB mS FA
theorem BM:JQ fun (p q:ByteArray × Int)=>CV (cS p.1 q.1) (cI p.2 q.2):=FB FA mS
theorem lQ {a b:aq}(h:a.kind=b.kind):cT a b=if a.kind=3 then CV (cI a.args.length b.args.length) (cS a.label b.label) else CV (cS a.label b.label) (cI a.int b.int):=by unfold cT; rw [if_pos h]
theorem jB {a b:aq}(h:a.kind≠b.kind):cT a b=cI a.kind b.kind:=by unfold cT; rw [if_neg h]
theorem iZ (a b:aq):cT b a = - cT a b:=by
 by_cases h:a.kind=b.kind
 ·rw [lQ h,lQ h.symm,←h]
  split
  ·exact BL.neg ((a.args.length:Int),a.label) ((b.args.length:Int),b.label)
  ·exact BM.neg (a.label,a.int) (b.label,b.int)
 ·rw [jB h,jB (Ne.symm h)]; exact mS.neg _ _
theorem yi (a b c:aq)(h1:cT a b≤0)(h2:cT b c≤0):cT a c≤0:=by
 by_cases e1:a.kind=b.kind
 ·by_cases e2:b.kind=c.kind
  ·rw [lQ e1] at h1
   rw [lQ e2,←e1] at h2
   rw [lQ (e1.trans e2)]
   split
   ·rename_i h3; rw [if_pos h3] at h1 h2
    exact BL.tr ((a.args.length:Int),a.label) ((b.args.length:Int),b.label) ((c.args.length:Int),c.label) h1 h2
   ·rename_i h3; rw [if_neg h3] at h1 h2
    exact BM.tr (a.label,a.int) (b.label,b.int) (c.label,c.int) h1 h2
  ·rw [jB e2] at h2
   rw [jB (by rw [e1]; exact e2),e1]; exact h2
 ·rw [jB e1] at h1
  by_cases e2:b.kind=c.kind
  ·rw [jB (by rw [←e2]; exact e1),←e2]; exact h1
  ·rw [jB e2] at h2
   have n1:cI a.kind b.kind≠0:=fun h=>e1 (mS.zero _ _ h)
   have n2:cI b.kind c.kind≠0:=fun h=>e2 (mS.zero _ _ h)
   by_cases e3:a.kind=c.kind
   ·rw [←e3] at h2
    have:=mS.neg a.kind b.kind
    omega
   ·rw [jB e3]; exact mS.tr _ _ _ h1 h2
structure Alike (a b:aq):Prop where
 kind:a.kind=b.kind
 int:a.int=b.int
 label:a.label=b.label
 len:a.args.length=b.args.length
theorem Alike.refl (a:aq):Alike a a:=⟨rfl,rfl,rfl,rfl⟩
theorem Alike.cT {a b:aq}(h:Alike a b):cT a b=0:=by
 rw [lQ h.kind]
 split
 ·rw [h.len,h.label]; exact BL.refl ((b.args.length:Int),b.label)
 ·rw [h.label,h.int]; exact BM.refl (b.label,b.int)
theorem FC {a b:aq}(h:cT a b=0)(ha:a.kind=3→a.int=0)(hb:b.kind=3→b.int=0)(Ua:a.kind≠3→a.args=[])(hb2:b.kind≠3→b.args=[]):Alike a b:=by
 by_cases e:a.kind=b.kind
 ·rw [lQ e] at h
  split at h
  ·rename_i h3
   have:=BL.zero ((a.args.length:Int),a.label) ((b.args.length:Int),b.label) h
   simp only [Vz] at this
   exact⟨e,by rw [ha h3,hb (by rw [←e]; exact h3)],this.2,by omega⟩
  ·rename_i h3
   have:=BM.zero (a.label,a.int) (b.label,b.int) h
   simp only [Vz] at this
   exact⟨e,this.2,this.1,by rw [Ua h3,hb2 (by rw [←e]; exact h3)]⟩
 ·rw [jB e] at h
  exact absurd (mS.zero _ _ h) e
theorem JR (l:List aq)(s:List Int):Ord (fun x y=>cT (nd l x) (nd l y)) s:=by
 refine⟨fun x _ y _ z _ h1 h2=>?_,fun x _ y _ h=>?_⟩
 ·skip
  have a1:=iZ (nd l x) (nd l y)
  have a2:=iZ (nd l y) (nd l z)
  have a3:=iZ (nd l x) (nd l z)
  have:=yi (nd l x) (nd l y) (nd l z) (by omega) (by omega)
  omega
 ·skip
  have a1:=iZ (nd l x) (nd l y)
  omega
end Go.Proofs.Ytifafejidnjckaa
namespace Go.Proofs.Ytifafejidnjckaa
open Go Go.R
open Go.IntKind (i64 u64 u8 u32)
end Go.Proofs.Ytifafejidnjckaa
namespace Go.Proofs.Ytifafejidnjckaa
open Go Go.R
open Go.IntKind (i64 u64 u8 u32)
end Go.Proofs.Ytifafejidnjckaa
namespace Go.Proofs.Ytifafejidnjckaa
open Go Go.R
open Go.IntKind (i64 u64 u8 u32)
end Go.Proofs.Ytifafejidnjckaa
namespace Go.Proofs.Ytifafejidnjckaa
open Go Go.R
open Go.IntKind (i64 u64 u8 u32)
end Go.Proofs.Ytifafejidnjckaa
namespace Go.Proofs.Ytifafejidnjckaa
open Go Go.R
open Go.IntKind (i64 u64 u8 u32)
end Go.Proofs.Ytifafejidnjckaa
namespace Go.Proofs.Ytifafejidnjckaa
open Go Go.R
open Go.IntKind (i64 u64 u8 u32)
end Go.Proofs.Ytifafejidnjckaa
namespace Go.Proofs.Ytifafejidnjckaa
open Go Go.R
open Go.IntKind (i64 u64 u8 u32)
theorem FD {s:ByteArray}(h:(s.data.toList==[])=true):s=Wh #[]:=by
 have h:=beq_iff_eq.1 h
 cases s with
 | mk d=>
  cases d with
  | mk l=>simp only at h; subst h; rfl
theorem MS {l:List Int}(h:l.isEmpty=true):l=[]:=by cases l with | nil=>rfl | cons=>cases h
structure Mg (n:aq):Prop where
 kind:n.kind=0∧0≤n.int∧n.label=Wh #[]∧n.args=[]∨n.kind=1∧(-1099511627776≤n.int∧n.int≤1099511627776)∧n.label=Wh #[]∧n.args=[]∨n.kind=2∧n.int=0∧n.args=[]∨n.kind=3∧n.int=0∨n.kind=4∧n.args=[]
 label:n.kind=2∨n.kind=3→1≤n.label.size∧n.label.size≤16
 args:n.args.length≤8
theorem pY {n:aq}{size:Int}(h:pj n size=true):Mg n∧∀a∈n.args,0≤a∧a<size:=by
 unfold pj at h
 split at h
 ·rename_i k
  simp only [Vu,decide_eq_true_eq] at h
  have ha:=MS h.2
  exact⟨⟨.inl ⟨k,h.1.1,FD h.1.2,ha⟩,fun z=>by omega,by rw [ha]; decide⟩,fun a h=>by rw [ha] at h; cases h⟩
 split at h
 ·rename_i k
  simp only [Vu,decide_eq_true_eq] at h
  have ha:=MS h.2
  exact⟨⟨.inr (.inl ⟨k,h.1.1,FD h.1.2,ha⟩),fun z=>by omega,by rw [ha]; decide⟩,fun a h=>by rw [ha] at h; cases h⟩
 split at h
 ·rename_i k
  simp only [Vu,beq_iff_eq] at h
  have ha:=MS h.2
  exact⟨⟨.inr (.inr (.inl ⟨k,h.1.1,ha⟩)),fun z=>ux h.1.2,by rw [ha]; decide⟩,fun a h=>by rw [ha] at h; cases h⟩
 split at h
 ·rename_i k
  simp only [Vu,beq_iff_eq,decide_eq_true_eq,VK] at h
  exact⟨⟨.inr (.inr (.inr (.inl ⟨k,h.1.1.1.1⟩))),fun z=>ux h.1.1.1.2,h.1.2⟩,h.2⟩
 split at h
 ·rename_i k
  simp only [Vu,decide_eq_true_eq] at h
  have ha:=MS h.2
  exact⟨⟨.inr (.inr (.inr (.inr ⟨k,ha⟩))),fun z=>by omega,by rw [ha]; decide⟩,fun a h=>by rw [ha] at h; cases h⟩
 ·cases h
theorem pZ {t:bw}(h:kD t=true):BJ t.nodes∧1≤t.nodes.length∧0≤t.root∧t.root<t.nodes.length∧∀n∈t.nodes,Mg n:=by
 unfold kD at h
 simp only [Vu,decide_eq_true_eq,VK] at h
 obtain⟨⟨⟨⟨h1,h2⟩,h3⟩,h4⟩,h5⟩:=h
 exact⟨⟨h2,fun n hn=>⟨(pY (h5 n hn)).1.args,(pY (h5 n hn)).2⟩⟩,h1,h3,h4,fun n hn=>(pY (h5 n hn)).1⟩
end Go.Proofs.Ytifafejidnjckaa
namespace Go.Proofs.Ytifafejidnjckaa
open Go Go.R
open Go.IntKind (i64 u64 u8 u32)
structure RL (l:List aq)(R:Nat→Nat→Prop):Prop where
 BI:∀i j,R i j→i<l.length∧j<l.length
 top:∀i j,R i j→Alike (nd l i) (nd l j)
 arg:∀i j,R i j→∀k,k<(nd l i).args.length→R (gt (nd l i).args k).toNat (gt (nd l j).args k).toNat
structure Min (l:List aq)(r:List Int):Prop where
 len:r.length=l.length
 top:∀i j,i<l.length→j<l.length→gt r i=gt r j→Alike (nd l i) (nd l j)
 arg:∀i j,i<l.length→j<l.length→gt r i=gt r j→∀k,k<(nd l i).args.length→gt r (gt (nd l i).args k).toNat=gt r (gt (nd l j).args k).toNat
 max:∀R,RL l R→∀i j,R i j→gt r i=gt r j
theorem rI (a:aq):cT a a=0:=(Alike.refl a).cT
theorem tL {a b c:aq}(h1:cT a b=0)(h2:cT b c=0):cT a c=0:=by
 have n1:=iZ a b
 have n2:=iZ b c
 have n3:=iZ a c
 have t1:=yi a b c (by omega) (by omega)
 have t2:=yi c b a (by omega) (by omega)
 omega
theorem we {l:List aq}{d:List Int}{k:Nat}:∀j,k≤j→rk l d k=rk l d j→cT (nd l (gt d k)) (nd l (gt d j))=0
 | 0,h,_=>by
   have:k=0:=by omega
   subst this; exact rI _
 | j+1,h,e=>by
  by_cases hk:k=j+1
  ·subst hk; exact rI _
  ·have m1:=vZ l d k j (by omega)
   have e2:rk l d (j+1)=rk l d j+if cT (nd l (gt d j)) (nd l (gt d (j+1)))=0 then 0 else 1:=rfl
   by_cases hc:cT (nd l (gt d j)) (nd l (gt d (j+1)))=0
   ·rw [if_pos hc] at e2
    exact tL (we j (by omega) (by omega)) hc
   ·rw [if_neg hc] at e2; omega
theorem wg {l:List aq}{d:List Int}{n:Nat}(S:Sg (fun x y=>cT (nd l x) (nd l y)) d 0 n){k q:Nat}(hq:q<n)(h0:cT (nd l (gt d k)) (nd l (gt d q))=0):∀j,k≤j→j≤q→rk l d j=rk l d k
 | 0,h,_=>by
   have:k=0:=by omega
   subst this; rfl
 | j+1,h,hj=>by
  by_cases hk:k=j+1
  ·subst hk; rfl
  ·have ih:=wg S hq h0 j (by omega) (by omega)
   have Ub:cT (nd l (gt d k)) (nd l (gt d j))≤0:=by
    by_cases e:k=j
    ·subst e; rw [rI]; omega
    ·have:0≤cT (nd l (gt d j)) (nd l (gt d k)):=S k j (by omega) (by omega) (by omega)
     have n:=iZ (nd l (gt d k)) (nd l (gt d j))
     omega
   have Uc:cT (nd l (gt d (j+1))) (nd l (gt d q))≤0:=by
    by_cases e:j+1=q
    ·subst e; rw [rI]; omega
    ·have:0≤cT (nd l (gt d q)) (nd l (gt d (j+1))):=S (j+1) q (by omega) (by omega) hq
     have n:=iZ (nd l (gt d (j+1))) (nd l (gt d q))
     omega
   have Ud:cT (nd l (gt d q)) (nd l (gt d k))≤0:=by have n:=iZ (nd l (gt d k)) (nd l (gt d q)); omega
   have Vn:=yi _ _ _ (yi _ _ _ Uc Ud) Ub
   have s1:=S j (j+1) (by omega) (by omega) (by omega)
   have n:=iZ (nd l (gt d j)) (nd l (gt d (j+1)))
   have hz:cT (nd l (gt d j)) (nd l (gt d (j+1)))=0:=by
    have s1:0≤cT (nd l (gt d (j+1))) (nd l (gt d j)):=s1
    omega
   show rk l d j+(if cT (nd l (gt d j)) (nd l (gt d (j+1)))=0 then 0 else 1)=_
   rw [if_pos hz,ih]; rfl
def Hl (l:List aq)(out:List Int):Prop:=(∀i j,i<l.length→j<l.length→gt out i=gt out j→cT (nd l i) (nd l j)=0)∧∀R,RL l R→∀i j,R i j→gt out i=gt out j
theorem CX {l:List aq}{d out:List Int}(hp:d.Perm (ints l.length))(hs:Ord (fun x y=>cT (nd l x) (nd l y)) (ints l.length)→Sg (fun x y=>cT (nd l x) (nd l y)) d 0 l.length)(hg:∀k,k<l.length→gt out (gt d k).toNat=rk l d k):Hl l out:=by
 have S:=hs (JR _ _)
 have PR:d.length=l.length:=by rw [hp.length_eq,fw]
 have pos:∀i,i<l.length→∃k,k<l.length∧gt d k=i∧gt out i=rk l d k:=fun i hi=>by
  obtain⟨k,hk,e⟩:=uz (hp.mem_iff.2 (jY.2 (show 0≤(i:Int)∧(i:Int)<l.length by omega)))
  have:=hg k (by omega)
  rw [e,VD] at this
  exact⟨k,by omega,e,this⟩
 refine⟨fun i j hi hj e=>?_,fun R B i j hR=>?_⟩
 ·obtain⟨k,hk,ek,P5⟩:=pos i hi
  obtain⟨q,hq,eq,P6⟩:=pos j hj
  rw [P5,P6] at e
  rw [←ek,←eq]
  rcases Nat.le_total k q with h | h
  ·exact we q h (by omega)
  ·have:=we (l:=l) (d:=d) k h (by omega)
   have n:=iZ (nd l (gt d k)) (nd l (gt d q))
   omega
 ·obtain⟨hi,hj⟩:=B.BI i j hR
  obtain⟨k,hk,ek,P5⟩:=pos i hi
  obtain⟨q,hq,eq,P6⟩:=pos j hj
  have h0:=(B.top i j hR).cT
  rw [←ek,←eq] at h0
  rw [P5,P6]
  rcases Nat.le_total k q with h | h
  ·rw [wg S hq h0 q h (Vv _)]
  ·have n:=iZ (nd l (gt d k)) (nd l (gt d q))
   rw [wg S hk (by omega) k h (Vv _)]
theorem FE {l:List aq}(ok:BJ l){out:List Int}{i j:Nat}(h1:(nd l i).args.length=(nd l j).args.length)(e:key out (nd l i) i=key out (nd l j) j):gt out i=gt out j∧∀k,k<(nd l i).args.length→gt out (gt (nd l i).args k).toNat=gt out (gt (nd l j).args k).toNat:=by
 unfold key at e
 have e1:=List.cons.inj e
 refine⟨by omega,fun k hk=>?_⟩
 have e2:=e1.2
 rw [h1] at e2
 have e3:=List.append_cancel_right e2
 have e4:=congrArg (fun z=>z[k]?) e3
 simp only [Wx] at e4
 rw [eA hk,eA (by omega)] at e4
 simp only [Vw,Vt] at e4
 omega
theorem FF {l:List aq}(ok:BJ l)(out:List Int)(many:Nat)(ks:List (List Int))(next:List Int)(P:Part l.length out many)(I:Hl l out)(K:pW l out l.length ks)(hn:next.length=l.length)
  (hg:∀i,i<l.length→gt next i=(ks.idxOf (key out (nd l i) i):Int)):Hl l next:=by
 refine⟨fun i j hi hj e=>?_,fun R B i j hR=>?_⟩
 ·rw [hg i hi,hg j hj] at e
  have e:ks.idxOf (key out (nd l i) i)=ks.idxOf (key out (nd l j) j):=by omega
  have m1:=WJ ((K.mem _).2 ⟨i,hi,rfl⟩)
  have m2:=WJ ((K.mem _).2 ⟨j,hj,rfl⟩)
  have g1:=List.getElem_idxOf m1
  have g2:=List.getElem_idxOf m2
  have g3:key out (nd l i) i=key out (nd l j) j:=by rw [←g1,←g2]; congr 1
  exact I.1 i j hi hj (by have:=(List.cons.inj g3).1; omega)
 ·obtain⟨hi,hj⟩:=B.BI i j hR
  rw [hg i hi,hg j hj]
  have hk:key out (nd l i) i=key out (nd l j) j:=by
   have hl:=(B.top i j hR).len
   unfold key
   rw [I.2 R B i j hR,hl]
   congr 2
   apply WQ fun k=>?_
   simp only [Wx]
   by_cases h:k<(nd l i).args.length
   ·rw [eA h,eA (by omega)]
    simp only [Vw,Vt]
    rw [I.2 R B _ _ (B.arg i j hR k h)]
   ·rw [V1 (by omega),V1 (by omega)]
  rw [hk]
theorem JS {l:List aq}{r:List Int}{many:Nat}{ks:List (List Int)}(P:Part l.length r many)(K:pW l r l.length ks)(z7:ks.length=many+1){i j:Nat}(hi:i<l.length)(hj:j<l.length)(e:gt r i=gt r j):key r (nd l i) i=key r (nd l j) j:=by
 by_cases hne:key r (nd l i) i=key r (nd l j) j
 ·exact hne
 ·exfalso
  have Ue:=(K.mem _).2 ⟨i,hi,rfl⟩
  have Ug:=(K.mem _).2 ⟨j,hj,rfl⟩
  have hn:((WS (many+1)).map fun v:Nat=>((v:Int)+1)).Nodup:=by
   unfold List.Nodup
   rw [List.pairwise_map]
   exact List.Pairwise.imp (fun h=>by omega) List.nodup_range
  have:=hn.length_le_of_subset (l₂:=(ks.erase (key r (nd l j) j)).map fun k=>k.headD 0) (fun x hx=>by
   obtain⟨v,hv,rfl⟩:=V8.1 hx
   obtain⟨q,hq,h⟩:=P.RI v (by have:=List.mem_range.1 hv; omega)
   by_cases F4:key r (nd l q) q=key r (nd l j) j
   ·refine V8.2 ⟨key r (nd l i) i,(List.mem_erase_of_ne hne).2 Ue,?_⟩
    have h1:=(List.cons.inj F4).1
    simp [key,e]
    omega
   ·exact V8.2 ⟨_,(List.mem_erase_of_ne F4).2 ((K.mem _).2 ⟨q,hq,rfl⟩),by simp [key,h]⟩)
  rw [VN,VN,List.length_range,List.length_erase_of_mem Ug] at this
  omega
theorem uC {l:List aq}(hT:∀n∈l,Mg n){i j:Nat}(hi:i<l.length)(hj:j<l.length)(h:cT (nd l i) (nd l j)=0):Alike (nd l i) (nd l j):=by
 have Ti:=hT _ (kE (i:=(i:Int)) (by omega) (by omega))
 have Tj:=hT _ (kE (i:=(j:Int)) (by omega) (by omega))
 have a3:∀{n:aq},Mg n→n.kind=3→n.int=0:=fun T h=>by rcases T.kind with z | z | z | z | z<;>(have:=z.1; first | omega | exact z.2)
 have a0:∀{n:aq},Mg n→n.kind≠3→n.args=[]:=fun T h=>by
  rcases T.kind with z | z | z | z | z
  ·exact z.2.2.2
  ·exact z.2.2.2
  ·exact z.2.2
  ·exact absurd z.1 h
  ·exact z.2
 exact FC h (a3 Ti) (a3 Tj) (a0 Ti) (a0 Tj)
theorem zL {m:Nat}(hm:2 ^ 41≤m){t:bw}(h:kD t=true) :
  ∃cls ns,fB.f m t=some ⟨ns,0⟩∧Min t.nodes cls∧Ps cls t.nodes [] (tK cls t.nodes m t.root []) [] ns∧iv cls t.root∈(tK cls t.nodes m t.root []).map (iv cls):=by
 obtain⟨ok,h1,r0,r1,hT⟩:=pZ h
 obtain⟨cls,many,ks,ns,e,P,I,K,z7,Q,hr⟩:=zK hm ok h1 r0 r1 (Hl t.nodes) (fun d out hp hs hg=>CX hp hs hg) (fun out many ks next P I K hn hg=>FF ok out many ks next P I K hn hg)
 refine⟨cls,ns,e,⟨P.len,fun i j hi hj e=>uC hT hi hj (I.1 i j hi hj e),fun i j hi hj e k hk=>?_,I.2⟩,Q,hr⟩
 have hA:=uC hT hi hj (I.1 i j hi hj e)
 exact (FE ok hA.len (JS P K z7 hi hj e)).2 k hk
end Go.Proofs.Ytifafejidnjckaa
namespace Go.Proofs.Ytifafejidnjckaa
open Go Go.R
open Go.IntKind (i64 u64 u8 u32)
def gb (l:List Bool)(k:Nat):Bool:=l.getD k false
end Go.Proofs.Ytifafejidnjckaa
namespace Go.Proofs.Ytifafejidnjckaa
open Go Go.R
open Go.IntKind (i64 u64 u8 u32)
inductive FG (κ:Int→Int)(A:Int→List Int):List Int→List Int→List Int→Prop
 | nil (o:List Int):FG κ A [] o o
 | skip {v:Int} {st o o':List Int}:κ v∈o.map κ→FG κ A st o o'→FG κ A (v::st) o o'
 | push {v:Int} {st o o':List Int}:κ v∉o.map κ→FG κ A (A v++st) (o++[v]) o'→FG κ A (v::st) o o'
theorem FG.facts {κ:Int→Int}{A:Int→List Int}{n:Nat}{st o o':List Int}(h:FG κ A st o o')(hA:∀v:Int,0≤v→v<n→∀a∈A v,0≤a∧a<n)(hst:∀v∈st,0≤v∧v<n)(ho:∀v∈o,0≤v∧v<n)(H7:(o.map κ).Nodup) :
  (∃t,o'=o++t)∧(∀v∈o',0≤v∧v<n)∧(o'.map κ).Nodup∧(∀v∈st,κ v∈o'.map κ)∧((∀v∈o,∀a∈A v,κ a∈o.map κ∨a∈st)→∀v∈o',∀a∈A v,κ a∈o'.map κ):=by
 induction h with
 | nil o=>
  refine⟨⟨[],by simp⟩,ho,H7,?_,?_⟩
  ·intro v hv; cases hv
  ·intro h v hv a ha; exact (h v hv a ha).resolve_right (by simp)
 | @skip v st o o' hm _ ih=>
  obtain⟨⟨t,rfl⟩,a,b,c,d⟩:=ih (fun x hx=>hst x (by simp [hx])) ho H7
  refine⟨⟨t,rfl⟩,a,b,fun x hx=>?_,fun h=>d fun x hx y hy=>?_⟩
  ·rcases VS.1 hx with rfl | hx
   ·rw [VY]; exact Wk _ hm
   ·exact c x hx
  ·rcases h x hx y hy with h | h
   ·exact .inl h
   ·rcases VS.1 h with rfl | h
    ·exact .inl hm
    ·exact .inr h
 | @push v st o o' hn _ ih=>
  have hv:=hst v (by simp)
  have h1:∀x∈A v++st,0≤x∧x<n:=fun x hx=>by
   rcases VX.1 hx with hx | hx
   ·exact hA v hv.1 hv.2 x hx
   ·exact hst x (by simp [hx])
  have h2:∀x∈o++[v],0≤x∧x<n:=fun x hx=>by
   rcases VX.1 hx with hx | hx
   ·exact ho x hx
   ·rw [VQ] at hx; subst hx; exact hv
  have h3:((o++[v]).map κ).Nodup:=by
   rw [VY,List.nodup_append]
   refine⟨H7,by simp,fun a ha b hb=>?_⟩
   simp only [VU,WU,VQ] at hb
   subst hb; intro e; subst e; exact hn ha
  obtain⟨⟨t,rfl⟩,a,b,c,d⟩:=ih h1 h2 h3
  refine⟨⟨[v]++t,by simp⟩,a,b,fun x hx=>?_,fun h=>d fun x hx y hy=>?_⟩
  ·rcases VS.1 hx with rfl | hx
   ·simp
   ·exact c x (by simp [hx])
  ·rcases VX.1 hx with hx | hx
   ·rcases h x hx y hy with h | h
    ·exact .inl (by rw [VY]; exact Wk _ h)
    ·rcases VS.1 h with rfl | h
     ·exact .inl (by simp)
     ·exact .inr (by simp [h])
   ·rw [VQ] at hx; subst hx
    exact .inr (Wk _ hy)
theorem yj (cls:List Int)(l:List aq)(k:Nat)(i:Int)(o:List Int):tK cls l (k+1) i o=if iv cls i∈o.map (iv cls) then o else (nd l i).args.foldl (fun o a=>tK cls l k a o) (o++[i]):=rfl
theorem FH {cls:List Int}{l:List aq}(ok:BJ l):∀(k:Nat) (i:Int) (o:List Int),0≤i→i<l.length→Vs cls l.length o→Vs cls l.length (tK cls l k i o)∧o.length≤(tK cls l k i o).length
 | 0,i,o,_,_,v=>⟨v,Vv _⟩
 | k+1,i,o,h0,h1,v=>by
  rw [yj]
  split
  ·exact⟨v,Vv _⟩
  ·rename_i h
   have v1:Vs cls l.length (o++[i]):=by
    refine⟨?_,fun x hx=>?_⟩
    ·rw [VY,List.nodup_append]
     refine⟨v.Hf,by simp,fun a ha b hb=>?_⟩
     simp only [VU,WU,VQ] at hb
     subst hb; intro e; subst e; exact h ha
    ·rcases VX.1 hx with hx | hx
     ·exact v.BI x hx
     ·simp only [VQ] at hx; subst hx; exact⟨h0,h1⟩
   have fold:∀(zs:List Int) (o:List Int),(∀a∈zs,0≤a∧a<l.length)→Vs cls l.length o→Vs cls l.length (zs.foldl (fun o a=>tK cls l k a o) o)∧o.length≤(zs.foldl (fun o a=>tK cls l k a o) o).length:=by
    intro zs
    induction zs with
    | nil=>intro o _ v; exact⟨v,Vv _⟩
    | cons a zs ih=>
     intro o ha v
     have hr:=ha a (by simp)
     obtain⟨v2,l2⟩:=FH ok k a o hr.1 hr.2 v
     obtain⟨v3,l3⟩:=ih (tK cls l k a o) (fun x hx=>ha x (by simp [hx])) v2
     exact⟨v3,We l2 l3⟩
   obtain⟨v2,l2⟩:=fold (nd l i).args (o++[i]) (ok.2 _ (kE h0 h1)).2 v1
   exact⟨v2,by simp at l2; omega⟩
theorem BN {cls:List Int}{l:List aq}(ok:BJ l):∀(k:Nat) (i:Int) (o st o':List Int),0≤i→i<l.length→Vs cls l.length o→l.length<k+o.length→
  FG (iv cls) (fun v=>(nd l v).args) st (tK cls l k i o) o'→FG (iv cls) (fun v=>(nd l v).args) (i::st) o o'
 | 0,i,o,st,o',_,_,v,hk,_=>absurd v.Kq (by omega)
 | k+1,i,o,st,o',h0,h1,v,hk,h=>by
  rw [yj] at h
  by_cases hm:iv cls i∈o.map (iv cls)
  ·rw [if_pos hm] at h
   exact .skip hm h
  ·rw [if_neg hm] at h
   refine .push hm ?_
   have v1:Vs cls l.length (o++[i]):=by
    refine⟨?_,fun x hx=>?_⟩
    ·rw [VY,List.nodup_append]
     refine⟨v.Hf,by simp,fun a ha b hb=>?_⟩
     simp only [VU,WU,VQ] at hb
     subst hb; intro e; subst e; exact hm ha
    ·rcases VX.1 hx with hx | hx
     ·exact v.BI x hx
     ·simp only [VQ] at hx; subst hx; exact⟨h0,h1⟩
   have fold:∀(zs:List Int) (o:List Int),(∀a∈zs,0≤a∧a<l.length)→Vs cls l.length o→l.length<k+o.length→FG (iv cls) (fun v=>(nd l v).args) st (zs.foldl (fun o a=>tK cls l k a o) o) o'→FG (iv cls) (fun v=>(nd l v).args) (zs++st) o o':=by
    intro zs
    induction zs with
    | nil=>intro o _ _ _ h; exact h
    | cons a zs ih=>
     intro o ha v hk h
     have hr:=ha a (by simp)
     obtain⟨v2,l2⟩:=FH ok k a o hr.1 hr.2 v
     exact BN ok k a o (zs++st) o' hr.1 hr.2 v hk (ih _ (fun x hx=>ha x (by simp [hx])) v2 (by omega) h)
   exact fold (nd l i).args (o++[i]) (ok.2 _ (kE h0 h1)).2 v1 (by simp; omega) h
end Go.Proofs.Ytifafejidnjckaa
namespace Go.Proofs.Ytifafejidnjckaa
open Go Go.R
open Go.IntKind (i64 u64 u8 u32)
structure Uh (l k:List aq)(R:Int→Int→Prop):Prop where
 BI:∀i j,R i j→(0≤i∧i<l.length)∧0≤j∧j<k.length
 top:∀i j,R i j→Alike (nd l i) (nd k j)
 arg:∀i j,R i j→∀n,n<(nd l i).args.length→R (gt (nd l i).args n) (gt (nd k j).args n)
theorem Min.same {l:List aq}{c:List Int}(M:Min l c){a b:Int}(a0:0≤a)(a1:a<l.length)(b0:0≤b)(b1:b<l.length)(e:iv c a=iv c b) :
  Alike (nd l a) (nd l b)∧∀n,n<(nd l a).args.length→iv c (gt (nd l a).args n)=iv c (gt (nd l b).args n):=by
 have ea:((a.toNat:Nat):Int)=a:=by omega
 have eb:((b.toNat:Nat):Int)=b:=by omega
 have hA:=M.top a.toNat b.toNat (by omega) (by omega) e
 have hg:=M.arg a.toNat b.toNat (by omega) (by omega) e
 rw [ea,eb] at hA hg
 exact⟨hA,hg⟩
theorem Hm {c O:List Int}{a b:Int}(h:iv c a=iv c b):idx c O a=idx c O b:=by unfold idx; rw [h]
theorem zM {n:aq}{a b:Int}{f:Int→Int}(h:pj n a=true)(hf:∀x∈n.args,0≤f x∧f x<b):pj ⟨n.kind,n.int,n.label,n.args.map f⟩ b=true:=by
 unfold pj at h ⊢
 have he:(n.args.map f).isEmpty=n.args.isEmpty:=by cases n.args<;>rfl
 dsimp only
 rw [he,VN]
 have ha:((n.args.map f).all fun a=>decide (0≤a)&&decide (a<b))=true:=by
  rw [VK]
  intro x hx
  obtain⟨y,hy,rfl⟩:=V8.1 hx
  have:=hf y hy
  simp only [Vu,decide_eq_true_eq]; exact this
 rw [ha]
 split<;>rename_i h0
 ·rw [if_pos h0] at h; exact h
 ·rw [if_neg h0] at h
  split<;>rename_i h1
  ·rw [if_pos h1] at h; exact h
  ·rw [if_neg h1] at h
   split<;>rename_i h2
   ·rw [if_pos h2] at h; exact h
   ·rw [if_neg h2] at h
    split<;>rename_i h3
    ·rw [if_pos h3] at h
     simp only [Vu] at h ⊢
     exact⟨h.1,trivial⟩
    ·rw [if_neg h3] at h
     exact h
theorem CY {m:Nat}(hm:2 ^ 41≤m){t:bw}(ht:kD t=true):∃s R,fB.f m t=some s∧kD s=true∧s.nodes.length≤t.nodes.length∧Uh t.nodes s.nodes R∧R t.root s.root:=by
 have yD:(2:Nat) ^ 41=2199023255552:=by decide
 obtain⟨ok,_,r0,r1,_⟩:=pZ ht
 obtain⟨c,ns,e,M,Q,hr⟩:=zL hm ht
 have l1:=ok.1
 have fv:=ht
 unfold kD at fv
 simp only [Vu,decide_eq_true_eq] at fv
 generalize hO:tK c t.nodes m t.root []=O at *
 have Kq:=Q.vs.Kq
 have hlen:=Q.len
 have oP:0<O.length:=by cases O with | nil=>simp at hr | cons _ _=>simp
 have H7:∀q:Nat,q<O.length→nd ns (q:Int)=ye c t.nodes O (gt O q):=fun q hq=>by
  have:=Q.new q (by simp) hq
  unfold nd
  rw [VD,VM,this]; rfl
 have MT:∀{v:Int},iv c v∈O.map (iv c)→0≤idx c O v∧idx c O v<O.length∧iv c (gt O (idx c O v).toNat)=iv c v:=fun {v} hv=>by
  have h1:=WJ hv
  have h2:=List.getElem_idxOf h1
  rw [VN] at h1
  unfold idx
  refine⟨by omega,by omega,?_⟩
  rw [VD]
  have h3:=Vx (l:=O.map (iv c)) (i:=(O.map (iv c)).idxOf (iv c v)) (by rw [VN]; exact h1)
  rw [h2,Wx,eA h1] at h3
  exact Wc h3
 refine⟨⟨ns,0⟩,fun i j=>(0≤i∧i<t.nodes.length)∧iv c i∈O.map (iv c)∧j=idx c O i,e,?_,by show ns.length≤_; omega,⟨?_,?_,?_⟩,⟨r0,r1⟩,hr,?_⟩
 ·unfold kD
  simp only [Vu,decide_eq_true_eq]
  refine⟨⟨⟨⟨by omega,by omega⟩,by omega⟩,by omega⟩,?_⟩
  rw [VK]
  intro x hx
  obtain⟨q,hq,e2⟩:=List.getElem_of_mem hx
  have h1:=Q.new q (by simp) (by omega)
  rw [Vx hq,e2] at h1
  have h1:=Wc h1
  subst h1
  have FZ:=Q.vs.BI _ (bP (l:=O) (k:=q) (by omega))
  refine zM (VK.1 fv.2 _ (kE FZ.1 FZ.2)) fun a ha=>?_
  have:=MT (Q.arg q (by simp) (by omega) a ha)
  omega
 ·rintro i j ⟨h1,h2,rfl⟩
  have:=MT h2
  exact⟨h1,by show 0≤_∧_<(ns.length:Int); omega⟩
 ·rintro i j ⟨h1,h2,rfl⟩
  obtain⟨a,b,d⟩:=MT h2
  have FZ:=Q.vs.BI _ (bP (l:=O) (k:=(idx c O i).toNat) (by omega))
  have hx:=H7 (idx c O i).toNat (by omega)
  rw [show (((idx c O i).toNat:Nat):Int)=idx c O i by omega] at hx
  rw [hx]
  have A:=(M.same h1.1 h1.2 FZ.1 FZ.2 d.symm).1
  exact⟨A.kind,A.int,A.label,by show _=(List.map _ _).length; rw [VN]; exact A.len⟩
 ·rintro i j ⟨h1,h2,rfl⟩ n hn
  obtain⟨a,b,d⟩:=MT h2
  have FZ:=Q.vs.BI _ (bP (l:=O) (k:=(idx c O i).toNat) (by omega))
  have hx:=H7 (idx c O i).toNat (by omega)
  rw [show (((idx c O i).toNat:Nat):Int)=idx c O i by omega] at hx
  rw [hx]
  obtain⟨A,hg⟩:=M.same h1.1 h1.2 FZ.1 FZ.2 d.symm
  have Ix:n<(nd t.nodes (gt O (idx c O i).toNat)).args.length:=by have:=A.len; omega
  have hg:=hg n hn
  have hin:=Q.arg (idx c O i).toNat (by simp) (by omega) _ (bP Ix)
  refine⟨(ok.2 _ (kE h1.1 h1.2)).2 _ (bP hn),by rw [hg]; exact hin,?_⟩
  have e1:gt (ye c t.nodes O (gt O (idx c O i).toNat)).args n=idx c O (gt (nd t.nodes (gt O (idx c O i).toNat)).args n):=by
   have h3:=eA (l:=(ye c t.nodes O (gt O (idx c O i).toNat)).args) (k:=n) (by show n<(List.map _ _).length; rw [VN]; exact Ix)
   have h4:(ye c t.nodes O (gt O (idx c O i).toNat)).args[n]? = some (idx c O (gt (nd t.nodes (gt O (idx c O i).toNat)).args n)):=by
    show (List.map _ _)[n]? = _
    rw [Wx,eA Ix]; rfl
   rw [h4] at h3; exact (Wc h3).symm
  rw [e1]
  exact Hm hg.symm
 ·show (0:Int)=idx c O t.root
  have P1:=BN (cls:=c) ok m t.root [] [] _ r0 r1 ⟨by simp,fun x hx=>by cases hx⟩ (by simp; omega) (.nil _)
  rw [hO] at P1
  cases P1 with
  | skip h _=>simp at h
  | push _ k=>
   obtain⟨⟨T,e⟩,_⟩:=k.facts (n:=t.nodes.length) (fun v a b=>(ok.2 _ (kE a b)).2) (fun v hv=>by
    rcases VX.1 hv with hv | hv
    ·exact (ok.2 _ (kE r0 r1)).2 v hv
    ·cases hv) (fun v hv=>by simp at hv; subst hv; exact⟨r0,r1⟩) (by simp)
   rw [e]
   unfold idx
   simp
end Go.Proofs.Ytifafejidnjckaa
namespace Go.Uf
open Go Go.R
open Go.IntKind (i64 u64 u8 u32)
def fO (a L:Nat):List Int:=(WS L).map fun i=>((a+i:Nat):Int)
theorem mT (a L:Nat):(fO a L).length=L:=by simp [fO]
theorem uD (a L:Nat):fO a (L+1)=fO a L++[((a+L:Nat):Int)]:=by
 unfold fO; rw [List.range_succ,VY]; rfl
theorem FI {to:List Int}(o:Gb to):∀L,Gb (to++fO to.length L)∧(∀n,Rg to.length n→rp (to++fO to.length L) n=rp to n)∧∀n:Int,(to.length:Int)≤n→n<to.length+L→rp (to++fO to.length L) n=n
 | 0=>⟨by simpa [fO] using o,fun n _=>by simp [fO],fun n h1 h2=>by omega⟩
 | L+1=>by
  obtain⟨a,b,c⟩:=FI o L
  have hl:(to++fO to.length L).length=to.length+L:=by rw [VA,mT]
  have e:to++fO to.length (L+1)=(to++fO to.length L)++[(((to++fO to.length L).length:Nat):Int)]:=by
   rw [uD,←VI,hl]
  obtain⟨g1,g2,g3⟩:=L3 a
  rw [←e] at g1 g2 g3
  refine⟨g1,fun n h=>?_,fun n h1 h2=>?_⟩
  ·rw [g2 n (by unfold Rg at h ⊢; rw [hl]; omega),b n h]
  ·by_cases h:n=to.length+L
   ·have:n=(((to++fO to.length L).length:Nat):Int):=by rw [hl]; omega
    rw [this]; exact g3
   ·rw [g2 n (by unfold Rg; rw [hl]; omega)]
    exact c n h1 (by omega)
theorem pn {N V:List aq}{n:Int}(h:Rg N.length n):gC (N++V) n=gC N n:=by
 have hl:n.toNat<N.length:=by have:=h.1; have:=h.2; omega
 unfold gC
 rw [VM,VM,VG hl]
end Go.Uf
namespace Go.Proofs.Ytifafejidnjckaa
open Go Go.R Go.Uf
open Go.IntKind (i64 u64 u8 u32)
def po (s s':ab):Prop:=s.aa.length≤s'.aa.length∧∀n,Rg s.aa.length n→gU s.aa (rp s.ae n)→mQ (gC s.aa (rp s.ae n)) (gC s'.aa (rp s'.ae n))
theorem mQ.refl (a:aq):mQ a a:=⟨rfl,rfl,rfl,rfl⟩
theorem po.refl (s:ab):po s s:=⟨Vv _,fun _ _ _=>mQ.refl _⟩
section
variable {m:Nat}{s:ab}
theorem Inv2.more (v:Inv2 s)(V:List aq)(hV:∀x∈V,x.args.length≤8∧∀a∈x.args,Rg (s.aa.length+V.length) a)(hl:s.aa.length+V.length≤8000) :
  Inv2 ⟨s.aj,s.aa++V,s.ae++fO s.aa.length V.length⟩∧po s ⟨s.aj,s.aa++V,s.ae++fO s.aa.length V.length⟩:=by
 have hlen:=v.inv.len
 obtain⟨g1,g2,g3⟩:=FI v.inv.ok V.length
 rw [hlen] at g1 g2 g3
 have hN:(s.aa++V).length=s.aa.length+V.length:=VA
 have hc:∀n,Rg (s.aa++V).length n→Rg s.aa.length n∨((s.aa.length:Int)≤n∧n<s.aa.length+V.length):=fun n h=>by
  rw [hN] at h; unfold Rg at h ⊢; omega
 have up:∀n,Rg s.aa.length n→Rg (s.aa++V).length n:=fun n h=>by rw [hN]; unfold Rg at h ⊢; omega
 have old:∀n,Rg s.aa.length n→rp (s.ae++fO s.aa.length V.length) n=rp s.ae n:=g2
 have new:∀n:Int,(s.aa.length:Int)≤n→n<s.aa.length+V.length→rp (s.ae++fO s.aa.length V.length) n=n:=g3
 refine⟨⟨⟨v.inv.made,?_,by show (s.aa++V).length≤8000; omega,g1,⟨fun n h=>?_,fun n h=>?_,fun n h=>?_⟩,?_⟩,?_⟩,?_,fun n h hv=>?_⟩
 ·show (_++_:List Int).length=_
  rw [VA,mT,hN,hlen]
 ·show Rg _ (rp (s.ae++fO s.aa.length V.length) n)
  rcases hc n h with h | ⟨h1,h2⟩
  ·rw [old n h]; exact up _ (v.inv.cn.rg n h)
  ·rw [new n h1 h2]; exact h
 ·show rp (s.ae++_) (rp (s.ae++fO s.aa.length V.length) n)=rp (s.ae++_) n
  rcases hc n h with h | ⟨h1,h2⟩
  ·rw [old n h,old _ (v.inv.cn.rg n h),v.inv.cn.id n h]
  ·rw [new n h1 h2,new n h1 h2]
 ·show Bt (s.aa++V) (rp (s.ae++fO s.aa.length V.length) n) n
  rcases hc n h with h | ⟨h1,h2⟩
  ·rw [old n h]
   have:=v.inv.cn.bt n h
   unfold Bt gU at this ⊢
   rw [pn h,pn (v.inv.cn.rg n h)]; exact this
  ·rw [new n h1 h2]; exact Bt.refl
 ·intro x hx
  rcases VX.1 hx with hx | hx
  ·obtain⟨a1,a2⟩:=v.inv.args x hx
   exact⟨a1,fun a ha=>up a (a2 a ha)⟩
  ·obtain⟨a1,a2⟩:=hV x hx
   exact⟨a1,fun a ha=>by show Rg (s.aa++V).length a; rw [hN]; exact a2 a ha⟩
 ·intro x y hx hy he vx vy
  have he:rp (s.ae++fO s.aa.length V.length) x=rp (s.ae++fO s.aa.length V.length) y:=he
  rcases hc x hx with hx1 | ⟨x1,x2⟩<;>rcases hc y hy with Kr | ⟨y1,y2⟩
  ·rw [old x hx1,old y Kr] at he
   have wx:gC (s.aa++V) x=gC s.aa x:=pn hx1
   have wy:gC (s.aa++V) y=gC s.aa y:=pn Kr
   have Ui:gU s.aa x:=by unfold gU at vx ⊢; rw [←wx]; exact vx
   have Uj:gU s.aa y:=by unfold gU at vy ⊢; rw [←wy]; exact vy
   obtain⟨t,q⟩:=v.cl x y hx1 Kr he Ui Uj
   show mQ (gC (s.aa++V) x) (gC (s.aa++V) y)∧∀(i:Nat) (a b:Int),(gC (s.aa++V) x).args[i]? = some a→(gC (s.aa++V) y).args[i]? = some b→rp (s.ae++fO s.aa.length V.length) a=rp (s.ae++fO s.aa.length V.length) b
   rw [wx,wy]
   refine⟨t,fun i a b ha hb=>?_⟩
   rw [old a ((v.inv.args _ (lO hx1)).2 a (VH ha)),old b ((v.inv.args _ (lO Kr)).2 b (VH hb))]
   exact q i a b ha hb
  ·rw [old x hx1,new y y1 y2] at he
   have:=(v.inv.cn.rg x hx1).2
   omega
  ·rw [old y Kr,new x x1 x2] at he
   have:=(v.inv.cn.rg y Kr).2
   omega
  ·rw [new x x1 x2,new y y1 y2] at he
   subst he
   refine⟨mQ.refl _,fun i a b ha hb=>?_⟩
   rw [ha] at hb; cases hb; rfl
 ·show s.aa.length≤(s.aa++V).length
  omega
 ·show mQ _ (gC (s.aa++V) (rp (s.ae++fO s.aa.length V.length) n))
  rw [old n h,pn (v.inv.cn.rg n h)]
  exact mQ.refl _
def FJ (s s':ab)(e:Int):Prop:=Inv2 s'∧po s s'∧(e≠0→s'=s)
theorem FJ.none (v:Inv2 s)(e:Int):FJ s s e:=⟨v,po.refl s,fun _=>rfl⟩
theorem yk (hm:2000000≤m)(v:Inv2 s)(r:Bool)(n:aq)(h:r=true→n.args.length≤8∧∀a∈n.args,Rg s.aa.length a):∃k e s',b7.f m s (some r) n=some (k,e,s')∧FJ s s' e:=by
 have n3:=v.inv.max
 unfold b7.f bu.f
 rw [v.inv.made]
 simp only [Vq,Wn,VB,if_false]
 cases r with
 | false=>exact⟨_,_,_,rfl,FJ.none v _⟩
 | true=>
  obtain⟨h1,h2⟩:=h rfl
  rw [if_neg (by decide)]
  by_cases hl:s.aa.length≥8000
  ·rw [if_pos (by rw [decide_eq_true_eq]; omega)]
   exact⟨_,_,_,rfl,FJ.none v _⟩
  rw [if_neg (by rw [decide_eq_true_eq]; omega)]
  have key:∀i:Int,∃k e s',(((app 56 s.aa [(⟨n.kind,i,n.label,n.args⟩:aq)]).bind fun x1=>(app 8 s.ae [(s.aa.length:Int)]).bind fun x2=>some ((s.aa.length:Int),(0:Int),(ab.mk true x1 x2)))=some (k,e,s'))∧FJ s s' e:=by
   intro i
   rw [zx (by simp only [VF,VT]; omega),Vq,zx (by have:=v.inv.len; simp only [VF,VT]; omega),Vq]
   obtain⟨w1,w2⟩:=v.more [⟨n.kind,i,n.label,n.args⟩] (fun x hx=>by
    simp only [VQ] at hx
    subst hx
    exact⟨h1,fun a ha=>by have:=h2 a ha; unfold Rg at this ⊢; simp only [VF,VT]; omega⟩) (by simp only [VF,VT]; omega)
   have es:fO s.aa.length 1=[(s.aa.length:Int)]:=by simp [fO]
   have w1:Inv2 ⟨s.aj,s.aa++[⟨n.kind,i,n.label,n.args⟩],s.ae++fO s.aa.length 1⟩:=w1
   have w2:po s ⟨s.aj,s.aa++[⟨n.kind,i,n.label,n.args⟩],s.ae++fO s.aa.length 1⟩:=w2
   rw [es,v.inv.made] at w1 w2
   exact⟨_,_,_,rfl,w1,w2,fun h=>absurd rfl h⟩
  simp only [jn]
  by_cases hk:n.kind=0
  ·rw [if_pos (by rw [hk]; rfl)]; exact key _
  ·rw [if_neg (by simpa using hk)]; exact key _
end
end Go.Proofs.Ytifafejidnjckaa
namespace Go.Proofs.Ytifafejidnjckaa
open Go Go.R Go.Uf
open Go.IntKind (i64 u64 u8 u32)
section
variable {m:Nat}{s:ab}
theorem Hn (hm:2 ^ 41≤m)(t:bw):(∃r,gh.f m t=some (r,0)∧BJ r.nodes)∨∃r,gh.f m t=some (r,2):=by
 have JN:(2:Nat) ^ 30=1073741824:=by decide
 have yD:(2:Nat) ^ 41=2199023255552:=by decide
 unfold gh.f
 rw [zG (by omega),Vq]
 cases h:kD t with
 | false=>exact .inr ⟨_,rfl⟩
 | true=>
  obtain⟨r,R,e,hv,_⟩:=CY hm h
  rw [if_neg (by simp),e]
  exact .inl ⟨_,rfl,(pZ hv).1⟩
theorem FK {v:aq}(a8:v.args.length≤8)(aR:∀a∈v.args,0≤a∧a<8000)(hN:s.aa.length≤8000)(s2:ab):∀(k i:Nat),i≤v.args.length→v.args.length - i<k→
  aC.l1 m s v k (i:Int) ((v.args.take i).map (· + (s.aa.length:Int))++v.args.drop i) s2=some ((v.args.length:Int),v.args.map (· + (s.aa.length:Int)),s2)∧
  aC.l2 m s v k (i:Int) ((v.args.take i).map (· + (s.aa.length:Int))++v.args.drop i) s2=some ((v.args.length:Int),v.args.map (· + (s.aa.length:Int)),s2)
 | 0,i,h1,h2=>by omega
 | k+1,i,h1,h2=>by
  simp only [aC.l1,aC.l2]
  by_cases hi:i<v.args.length
  ·have d:decide ((i:Int)<(v.args.length:Int))=true:=by rw [decide_eq_true_eq]; omega
   have hl:((v.args.take i).map (· + (s.aa.length:Int))).length=i:=by rw [VN,Wt]; omega
   have ed:v.args.drop i=v.args[i]::v.args.drop (i+1):=VE hi
   have et:v.args.take (i+1)=v.args.take i++[v.args[i]]:=Wp hi
   have eg:((v.args.take i).map (· + (s.aa.length:Int))++v.args.drop i)[i]? = some v.args[i]:=by
    rw [VL (by omega),hl,WW,ed]; rfl
   have es:((v.args.take i).map (· + (s.aa.length:Int))++v.args.drop i).set i (v.args[i]+(s.aa.length:Int))=(v.args.take (i+1)).map (· + (s.aa.length:Int))++v.args.drop (i+1):=by
    rw [List.set_append_right _ _ (by omega),hl,WW,ed,et,VY,VI]; rfl
   obtain⟨b1,b2⟩:=aR v.args[i] (List.getElem_mem hi)
   have ew:i64.wrap ((i:Int)+1)=((i+1:Nat):Int):=by rw [me (by omega) (by omega)]; omega
   have ev:i64.wrap (v.args[i]+(s.aa.length:Int))=v.args[i]+(s.aa.length:Int):=me (by omega) (by omega)
   rw [if_pos d,if_pos d,Bv eg]
   simp only [Vq,ew,ev,VD,es]
   exact FK a8 aR hN s2 k (i+1) (by omega) (by omega)
  ·have d:decide ((i:Int)<(v.args.length:Int))=false:=by rw [decide_eq_false_iff_not]; omega
   have e:i=v.args.length:=by omega
   rw [if_neg (by rw [d]; decide),if_neg (by rw [d]; decide),e]
   simp
theorem FL (hm:2000000≤m)(v:Inv2 s){x:bw × Int}(ok:BJ x.1.nodes)(hl:s.aa.length+x.1.nodes.length≤8000):∀(k i:Nat) (V:List aq),i≤x.1.nodes.length→x.1.nodes.length - i<k→V.length=i→(∀y∈V,y.args.length≤8∧∀a∈y.args,Rg (s.aa.length+x.1.nodes.length) a)→
  ∃V2:List aq,aC.l0 m s x k (i:Int) ⟨s.aj,s.aa++V,s.ae++fO s.aa.length i⟩=some ((x.1.nodes.length:Int),⟨s.aj,s.aa++V2,s.ae++fO s.aa.length x.1.nodes.length⟩)∧V2.length=x.1.nodes.length∧∀y∈V2,y.args.length≤8∧∀a∈y.args,Rg (s.aa.length+x.1.nodes.length) a
 | 0,i,V,h1,h2,_,_=>by omega
 | k+1,i,V,h1,h2,hV,hP=>by
  have hlen:=v.inv.len
  simp only [aC.l0]
  by_cases hi:i<x.1.nodes.length
  ·have d:decide ((i:Int)<(x.1.nodes.length:Int))=true:=by rw [decide_eq_true_eq]; omega
   have eg:=Vx hi
   generalize x.1.nodes[i]=n at eg
   obtain⟨n8,nR⟩:=ok.2 n (VH eg)
   have Uk:∀a∈n.args,0≤a∧a<8000:=fun a ha=>by have:=nR a ha; have:=ok.1; omega
   obtain⟨q1,q2⟩:=FK (m:=m) (s:=s) n8 Uk (by omega) ⟨s.aj,s.aa++V,s.ae++fO s.aa.length i⟩ m 0 (Wg _) (by omega)
   have q1:aC.l1 m s n m 0 n.args ⟨s.aj,s.aa++V,s.ae++fO s.aa.length i⟩=_:=q1
   have q2:aC.l2 m s n m 0 n.args ⟨s.aj,s.aa++V,s.ae++fO s.aa.length i⟩=_:=q2
   have ew:i64.wrap ((i:Int)+1)=((i+1:Nat):Int):=by rw [me (by omega) (by omega)]; omega
   have ef:i64.wrap ((s.aa.length:Int)+(i:Int))=((s.aa.length+i:Nat):Int):=by rw [me (by omega) (by omega)]; omega
   rw [if_pos d,Bv eg]
   simp only [Vq,q1,q2,ew,ef]
   have go:∀z:Int,∃V2:List aq,((app 56 (s.aa++V) [(⟨n.kind,z,n.label,n.args.map (· + (s.aa.length:Int))⟩:aq)]).bind fun x5=>(app 8 (s.ae++fO s.aa.length i) [((s.aa.length+i:Nat):Int)]).bind fun x6=>aC.l0 m s x k ((i+1:Nat):Int) (ab.mk s.aj x5 x6))=some ((x.1.nodes.length:Int),⟨s.aj,s.aa++V2,s.ae++fO s.aa.length x.1.nodes.length⟩)∧V2.length=x.1.nodes.length∧∀y∈V2,y.args.length≤8∧∀a∈y.args,Rg (s.aa.length+x.1.nodes.length) a:=by
    intro z
    rw [zx (by simp only [VA,VF,VT]; omega),Vq,zx (by simp only [VA,mT,VF,VT]; omega),Vq]
    have:=FL hm v ok hl k (i+1) (V++[⟨n.kind,z,n.label,n.args.map (· + (s.aa.length:Int))⟩]) (by omega) (by omega) (by simp [hV]) (fun y hy=>by
     rcases VX.1 hy with hy | hy
     ·exact hP y hy
     ·simp only [VQ] at hy
      subst hy
      refine⟨by simpa using n8,fun a ha=>?_⟩
      obtain⟨b,hb,rfl⟩:=V8.1 ha
      have:=nR b hb
      unfold Rg; omega)
    rw [uD,←VI,←VI] at this
    exact this
   by_cases hk:n.kind=0
   ·rw [if_pos (by rw [hk]; rfl)]; exact go _
   ·rw [if_neg (by simpa using hk)]; exact go _
  ·have d:decide ((i:Int)<(x.1.nodes.length:Int))=false:=by rw [decide_eq_false_iff_not]; omega
   have e:i=x.1.nodes.length:=by omega
   rw [if_neg (by rw [d]; decide),e]
   exact⟨V,rfl,by omega,hP⟩
theorem Mh (hm:2 ^ 41≤m)(v:Inv2 s)(t:bw):∃k e s',aC.f m s t=some (k,e,s')∧FJ s s' e:=by
 have yD:(2:Nat) ^ 41=2199023255552:=by decide
 have n3:=v.inv.max
 unfold aC.f bu.f
 rw [v.inv.made]
 simp only [Vq,Wn,VB,if_false]
 rcases Hn hm t with⟨r,e,ok⟩| ⟨r,e⟩
 ·rw [e,Vq,if_neg (show ¬(!(((r,0):bw × Int).2==(0:Int)))=true by simp)]
  have hr:=ok.1
  have ew:i64.wrap ((s.aa.length:Int)+(r.nodes.length:Int))=((s.aa.length+r.nodes.length:Nat):Int):=by rw [me (by omega) (by omega)]; omega
  rw [ew]
  by_cases hl:s.aa.length+r.nodes.length > 8000
  ·rw [if_pos (by rw [decide_eq_true_eq]; omega)]
   exact⟨_,_,_,rfl,FJ.none v _⟩
  ·rw [if_neg (by rw [decide_eq_true_eq]; omega)]
   obtain⟨V,e1,e2,e3⟩:=FL (m:=m) (by omega) v (x:=(r,0)) ok (by show _+r.nodes.length≤8000; omega) m 0 [] (Wg _) (by show r.nodes.length - 0<m; omega) rfl (fun y hy=>by simp at hy)
   have es:s.ae++fO s.aa.length 0=s.ae:=by simp [fO]
   rw [WN,es] at e1
   have e1:aC.l0 m s (r,0) m 0 s=some ((r.nodes.length:Int),⟨s.aj,s.aa++V,s.ae++fO s.aa.length r.nodes.length⟩):=e1
   have e2:V.length=r.nodes.length:=e2
   have e3:∀y∈V,y.args.length≤8∧∀a∈y.args,Rg (s.aa.length+r.nodes.length) a:=e3
   rw [e1,Vq]
   obtain⟨w1,w2⟩:=v.more V (by rw [e2]; exact e3) (by omega)
   rw [e2] at w1 w2
   exact⟨_,_,_,rfl,w1,w2,fun h=>absurd rfl h⟩
 ·rw [e,Vq,if_pos (show (!(((r,2):bw × Int).2==(0:Int)))=true from rfl)]
  exact⟨_,_,_,rfl,FJ.none v _⟩
end
end Go.Proofs.Ytifafejidnjckaa
namespace Go.Proofs.Ytifafejidnjckaa
open Go Go.R Go.Uf
open Go.IntKind (i64 u64 u8 u32)
section
variable {m:Nat}{s:ab}
theorem po.Mi (v:Inv2 s){s':ab}(v':Inv2 s')(eN:s'.aa=s.aa)(h:gW s.aa (rp s.ae) (rp s'.ae)):po s s':=by
 refine⟨by rw [eN]; exact Vv _,fun n hn hv=>?_⟩
 have g1:=v.inv.cn.rg n hn
 have MU:=v'.inv.cn
 have RM:=v'.cl
 rw [eN] at MU RM ⊢
 have e1:rp s'.ae (rp s.ae n)=rp s'.ae n:=h _ _ g1 hn (v.inv.cn.id n hn)
 have e2:rp s'.ae (rp s'.ae n)=rp s'.ae n:=MU.id n hn
 have v2:gU s.aa (rp s'.ae n):=e1 ▸ MU.val g1 hv
 exact (RM _ _ g1 (MU.rg n hn) (e1.trans e2.symm) hv v2).1
def Mj (s s':ab)(e k:Int):Prop:=Inv2 s'∧po s s'∧(e≠0∨k=7→s'=s)
theorem FJ.a {s':ab}{e k:Int}(d:FJ s s' e)(hk:k≠7):Mj s s' e k:=⟨d.1,d.2.1,fun h=>h.elim d.2.2 fun h=>absurd h hk⟩
theorem JT (hm:2 ^ 41≤m)(v:Inv2 s)(x:aN)(hx:x.eW.length≤40):∃e s',fM.f m s x=some (e,s')∧Mj s s' e x.eh:=by
 have yD:(2:Nat) ^ 41=2199023255552:=by decide
 have qd:2000000≤m:=by omega
 have z0:∀a∈([]:List Int),Rg s.aa.length a:=fun a h=>by simp at h
 unfold fM.f
 by_cases k0:x.eh=0
 ·rw [if_pos (by rw [k0]; rfl)]
  obtain⟨k,e,s',e1,d⟩:=yk qd v true ⟨0,0,⟨#[]⟩,[]⟩ (fun _=>⟨by simp,z0⟩)
  refine⟨e,s',?_,d.a (by omega)⟩
  simp only [eC.f,dJ.f,e1,Vq]
 rw [if_neg (by simpa using k0)]
 by_cases k1:x.eh=1
 ·rw [if_pos (by rw [k1]; rfl)]
  have h1:∃r,da.f m x.rD=some r:=by unfold da.f; split<;>exact⟨_,rfl⟩
  obtain⟨r,h1⟩:=h1
  obtain⟨k,e,s',e1,d⟩:=yk qd v r ⟨1,x.rD,⟨#[]⟩,[]⟩ (fun _=>⟨by simp,z0⟩)
  refine⟨e,s',?_,d.a (by omega)⟩
  simp only [eD.f,h1,e1,Vq]
 rw [if_neg (by simpa using k1)]
 by_cases k2:x.eh=2
 ·rw [if_pos (by rw [k2]; rfl)]
  obtain⟨k,e,s',e1,d⟩:=yk qd v (ph x.dV) ⟨2,0,x.dV,[]⟩ (fun _=>⟨by simp,z0⟩)
  refine⟨e,s',?_,d.a (by omega)⟩
  simp only [en.f,dt.f,ni (show 20≤m by omega),Vq,e1]
 rw [if_neg (by simpa using k2)]
 by_cases k3:x.eh=3
 ·rw [if_pos (by rw [k3]; rfl)]
  have h1:∃r,cw.f m x.dV x.eW s=some r∧(r=true→x.eW.length≤8∧∀a∈x.eW,Rg s.aa.length a):=by
   unfold cw.f
   rw [ni (show 20≤m by omega),Vq]
   split
   ·split
    ·split
     ·rename_i h8
      rw [sW qd x.eW (by omega) (g:=fun n=>!decide (Rg s.aa.length n)) (fun a _=>by simp only [cy.f,Bw,Vq])]
      refine⟨_,rfl,fun h=>⟨by simp only [decide_eq_true_eq] at h8; omega,fun a ha=>?_⟩⟩
      simp only [Ww,List.any_eq_false] at h
      have:=h a ha
      simpa using this
     ·exact⟨_,rfl,fun h=>by cases h⟩
    ·exact⟨_,rfl,fun h=>by cases h⟩
   ·exact⟨_,rfl,fun h=>by cases h⟩
  obtain⟨r,h1,h2⟩:=h1
  obtain⟨k,e,s',e1,d⟩:=yk qd v r ⟨3,0,x.dV,x.eW⟩ h2
  have hc:Aq 1 x.eW=some x.eW:=by unfold Aq; rw [if_pos (by omega)]
  refine⟨e,s',?_,d.a (by omega)⟩
  simp only [dN.f,hc,h1,e1,Vq]
 rw [if_neg (by simpa using k3)]
 by_cases k4:x.eh=4
 ·rw [if_pos (by rw [k4]; rfl)]
  have h1:∃r,cL.f m x.dV x.rD=some r:=by
   unfold cL.f
   rw [uy,Vq]
   split<;>exact⟨_,rfl⟩
  obtain⟨r,h1⟩:=h1
  obtain⟨k,e,s',e1,d⟩:=yk qd v r ⟨4,x.rD,x.dV,[]⟩ (fun _=>⟨by simp,z0⟩)
  refine⟨e,s',?_,d.a (by omega)⟩
  simp only [ei.f,h1,e1,Vq]
 rw [if_neg (by simpa using k4)]
 by_cases k5:x.eh=5
 ·rw [if_pos (by rw [k5]; rfl)]
  obtain⟨k,e,s',e1,d⟩:=Mh hm v x.qN
  refine⟨e,s',?_,d.a (by omega)⟩
  simp only [e1,Vq]
 rw [if_neg (by simpa using k5)]
 by_cases k6:x.eh=6
 ·rw [if_pos (by rw [k6]; rfl)]
  obtain⟨l,e,s',e1,v',em,eN,h⟩:=Hd qd v x.rD x.yz
  refine⟨e,s',by simp only [e1,Vq],v',?_,fun h'=>?_⟩
  ·rcases h with⟨_,_,rfl⟩| ⟨_,_,rfl,_⟩| ⟨_,_,h,_⟩
   ·exact po.refl _
   ·exact po.refl _
   ·exact po.Mi v v' eN h
  ·rcases h with⟨_,_,rfl⟩| ⟨_,_,rfl,_⟩| ⟨_,h0,h,_⟩
   ·rfl
   ·rfl
   ·rcases h' with h' | h'
    ·exact absurd h0 h'
    ·omega
 rw [if_neg (by simpa using k6)]
 by_cases k7:x.eh=7
 ·rw [if_pos (by rw [k7]; rfl)]
  obtain⟨t,l,e,e1⟩:=JI qd v x.rD x.yz
  exact⟨e,s,by simp only [e1,Vq],v,po.refl s,fun _=>rfl⟩
 rw [if_neg (by simpa using k7)]
 exact⟨0,s,rfl,v,po.refl s,fun _=>rfl⟩
def Small (l:List aN):Prop:=l.length≤60∧∀x∈l,x.eW.length≤40
theorem yl (l:List aN)(hl:l.length<2 ^ 63):∀(k i:Nat),i≤l.length→l.length - i<k→(∃b,bB.l0 m l k (i:Int)=some (.inl b)∧b=true)∨(∃z,bB.l0 m l k (i:Int)=some (.inr z)∧∀j,i≤j→∀x,l[j]? = some x→x.eW.length≤40)
 | 0,i,h1,h2=>by omega
 | k+1,i,h1,h2=>by
  have MV:(2:Nat) ^ 63=9223372036854775808:=by decide
  simp only [bB.l0]
  by_cases hi:i<l.length
  ·have d:decide ((i:Int)<(l.length:Int))=true:=by rw [decide_eq_true_eq]; omega
   have eg:=Vx hi
   generalize l[i]=n at eg
   have ew:i64.wrap ((i:Int)+1)=((i+1:Nat):Int):=by rw [me (by omega) (by omega)]; omega
   rw [if_pos d,Bv eg]
   simp only [Vq,ew]
   split
   ·exact .inl ⟨_,rfl,rfl⟩
   split
   ·exact .inl ⟨_,rfl,rfl⟩
   rename_i h40
   rcases yl l hl k (i+1) (by omega) (by omega) with h | ⟨z,e,h⟩
   ·exact .inl h
   ·refine .inr ⟨z,e,fun j hj x hx=>?_⟩
    by_cases hji:j=i
    ·subst hji
     rw [eg] at hx; cases hx
     simp only [decide_eq_true_eq] at h40; omega
    ·exact h j (by omega) x hx
  ·have d:decide ((i:Int)<(l.length:Int))=false:=by rw [decide_eq_false_iff_not]; omega
   rw [if_neg (by rw [d]; decide)]
   refine .inr ⟨_,rfl,fun j hj x hx=>?_⟩
   rw [V1 (by omega)] at hx; cases hx
theorem BO (hm:2 ^ 63≤m)(l:List aN)(hl:l.length<2 ^ 63):∃b,bB.f m l=some b∧(b=false→Small l):=by
 have MV:(2:Nat) ^ 63=9223372036854775808:=by decide
 have RN:(2:Nat) ^ 63=9223372036854775808:=by decide
 unfold bB.f
 rcases yl (m:=m) l hl m 0 (Wg _) (by omega) with⟨b,e,rfl⟩| ⟨z,e,h⟩
 ·have e:bB.l0 m l m 0=_:=e
  rw [e]
  exact⟨true,rfl,fun h=>by cases h⟩
 ·have e:bB.l0 m l m 0=_:=e
  rw [e]
  refine⟨_,rfl,fun hb=>⟨?_,fun x hx=>?_⟩⟩
  ·simp only [decide_eq_false_iff_not] at hb; omega
  ·obtain⟨j,hj⟩:=Wu hx
   exact h j (Wg _) x hj
theorem BP (hm:2 ^ 41≤m)(l:List aN)(hl:Small l):∀(k i:Nat) (s:ab),i≤l.length→l.length - i<k→Inv2 s→∃s',cd.l0 m l k (i:Int) s=some ((l.length:Int),s')∧Inv2 s'
 | 0,i,s,h1,h2,_=>by omega
 | k+1,i,s,h1,h2,v=>by
  simp only [cd.l0]
  have h60:=hl.1
  by_cases hi:i<l.length
  ·have d:decide ((i:Int)<(l.length:Int))=true:=by rw [decide_eq_true_eq]; omega
   have eg:=Vx hi
   generalize l[i]=n at eg
   have ew:i64.wrap ((i:Int)+1)=((i+1:Nat):Int):=by rw [me (by omega) (by omega)]; omega
   obtain⟨e,s',e1,d1⟩:=JT hm v n (hl.2 n (VH eg))
   rw [if_pos d,Bv eg]
   simp only [Vq,ew,e1]
   exact BP hm l hl k (i+1) s' (by omega) (by omega) d1.1
  ·have d:decide ((i:Int)<(l.length:Int))=false:=by rw [decide_eq_false_iff_not]; omega
   have e:i=l.length:=by omega
   rw [if_neg (by rw [d]; decide),e]
   exact⟨s,rfl,v⟩
theorem Ho:Inv2 ⟨true,[],[]⟩:=by
 have no:∀(P:Int→Prop) (n:Int),Rg ([]:List aq).length n→P n:=fun P n h=>by have:=h.1; have:=h.2; simp at this; omega
 exact⟨⟨rfl,rfl,by simp,G9,⟨fun n h=>no _ n h,fun n h=>no _ n h,fun n h=>no _ n h⟩,fun v h=>by simp at h⟩,fun x y hx=>(no (fun _=>False) x hx).elim⟩
theorem JU (hm:2 ^ 41≤m)(l:List aN)(hl:Small l):∃s,cd.f m l=some s∧Inv2 s:=by
 have yD:(2:Nat) ^ 41=2199023255552:=by decide
 have h60:=hl.1
 obtain⟨s,e,v⟩:=BP hm l hl m 0 ⟨true,[],[]⟩ (Wg _) (by omega) Ho
 have e:cd.l0 m l m 0 ⟨true,[],[]⟩=_:=e
 refine⟨s,?_,v⟩
 simp only [cd.f,iW.f,Vq,e]
def ym (s:ab):List Int:=(WS s.aa.length).map fun (i:Nat)=>rp s.ae (i:Int)
theorem BQ (hm:2000000≤m)(v:Inv s):∀(k i:Nat),i≤s.aa.length→s.aa.length - i<k→bU.l0 m s k ((WS i).map fun (i:Nat)=>rp s.ae (i:Int)) (i:Int)=some (ym s,(s.aa.length:Int))
 | 0,i,h1,h2=>by omega
 | k+1,i,h1,h2=>by
  have n3:=v.max
  simp only [bU.l0,bN.f,bu.f,v.made,Vq,Wn,VB,if_false]
  by_cases hi:i<s.aa.length
  ·have d:decide ((i:Int)<(s.aa.length:Int))=true:=by rw [decide_eq_true_eq]; omega
   have r:Rg s.aa.length (i:Int):=⟨WI _,by omega⟩
   have ew:i64.wrap ((i:Int)+1)=((i+1:Nat):Int):=by rw [me (by omega) (by omega)]; omega
   rw [if_pos d,L9 hm v,if_pos r]
   simp only [Vq,ew]
   rw [if_neg (by decide),zx (by simp only [VN,List.length_range,VF,VT]; omega),Vq]
   have:=BQ hm v k (i+1) (by omega) (by omega)
   rw [List.range_succ,VY] at this
   exact this
  ·have d:decide ((i:Int)<(s.aa.length:Int))=false:=by rw [decide_eq_false_iff_not]; omega
   have e:i=s.aa.length:=by omega
   rw [if_neg (by rw [d]; decide),e]; rfl
theorem JV (hm:2000000≤m)(v:Inv s):bU.f m s=some (ym s):=by
 have n3:=v.max
 have:=BQ hm v m 0 (Wg _) (by omega)
 have this:bU.l0 m s m [] 0=_:=this
 simp only [bU.f,this,Vq]
theorem BR (a:List Int)(hl:a.length<2 ^ 63):∀(k i:Nat),i≤a.length→a.length - i<k→b9.l0 m a a k (i:Int)=some (.inr (a.length:Int))
 | 0,i,h1,h2=>by omega
 | k+1,i,h1,h2=>by
  have MV:(2:Nat) ^ 63=9223372036854775808:=by decide
  simp only [b9.l0]
  by_cases hi:i<a.length
  ·have d:decide ((i:Int)<(a.length:Int))=true:=by rw [decide_eq_true_eq]; omega
   have ew:i64.wrap ((i:Int)+1)=((i+1:Nat):Int):=by rw [me (by omega) (by omega)]; omega
   rw [if_pos d,Bv (Vx hi)]
   simp only [Vq,ew,BEq.rfl,Wn,VB,if_false]
   exact BR a hl k (i+1) (by omega) (by omega)
  ·have d:decide ((i:Int)<(a.length:Int))=false:=by rw [decide_eq_false_iff_not]; omega
   have e:i=a.length:=by omega
   rw [if_neg (by rw [d]; decide),e]
theorem CZ (a:List Int)(hl:a.length<2 ^ 63)(hm:2 ^ 63≤m):b9.f m a a=some true:=by
 have MV:(2:Nat) ^ 63=9223372036854775808:=by decide
 have RN:(2:Nat) ^ 63=9223372036854775808:=by decide
 have:=BR (m:=m) a hl m 0 (Wg _) (by omega)
 have this:b9.l0 m a a m 0=_:=this
 simp only [b9.f,BEq.rfl,Wn,VB,if_false,this,Vq]
theorem FM (v:Inv s):(ym s).length<2 ^ 63:=by
 have n3:=v.max
 have MV:(2:Nat) ^ 63=9223372036854775808:=by decide
 unfold ym; rw [VN,List.length_range]; omega
theorem FN (v:Inv s):bN.f m s=some (s.aa.length:Int):=by
 simp only [bN.f,bu.f,v.made,Vq,Wn,VB,if_false]
theorem Hp (v:Inv s):de.f m s=some (some s,s):=by
 have n3:=v.max
 have n2:=v.len
 have h1:Aq 4 s.aa=some s.aa:=by unfold Aq; rw [if_pos (by omega)]
 have h2:Aq 1 s.ae=some s.ae:=by unfold Aq; rw [if_pos (by omega)]
 have h3:(⟨true,s.aa,s.ae⟩:ab)=s:=uw v.made.symm rfl rfl
 simp only [de.f,bu.f,v.made,Vq,Wn,VB,if_false,h1,h2,h3]
end
end Go.Proofs.Ytifafejidnjckaa
namespace Go.Proofs.Ytifafejidnjckaa
open Go Go.R Go.Uf
open Go.IntKind (i64 u64 u8 u32)
section
variable {m:Nat}{s:ab}
theorem uE (hm:2 ^ 41≤m)(l:List aN)(hl:Small l):∀(k i:Nat) (b a:ab),i≤l.length→l.length - i<k→Inv2 a→∃a',aI.l0 m l true k (i:Int) b a=some ((l.length:Int),b,a')
 | 0,i,b,a,h1,h2,_=>by omega
 | k+1,i,b,a,h1,h2,v=>by
  simp only [aI.l0]
  have h60:=hl.1
  by_cases hi:i<l.length
  ·have d:decide ((i:Int)<(l.length:Int))=true:=by rw [decide_eq_true_eq]; omega
   have eg:=Vx hi
   generalize l[i]=n at eg
   have ew:i64.wrap ((i:Int)+1)=((i+1:Nat):Int):=by rw [me (by omega) (by omega)]; omega
   obtain⟨e,s',e1,d1⟩:=JT hm v n (hl.2 n (VH eg))
   rw [if_pos d,if_pos trivial,Bv eg]
   simp only [Vq,ew,e1]
   exact uE hm l hl k (i+1) b s' (by omega) (by omega) d1.1
  ·have d:decide ((i:Int)<(l.length:Int))=false:=by rw [decide_eq_false_iff_not]; omega
   have e:i=l.length:=by omega
   rw [if_neg (by rw [d]; decide),e]
   exact⟨a,rfl⟩
theorem uF (hm:2 ^ 41≤m)(l:List aN)(hl:Small l):∀(k i:Nat) (b a:ab),i≤l.length→l.length - i<k→Inv2 b→∃b',aI.l1 m l false k (i:Int) b a=some ((l.length:Int),b',a)
 | 0,i,b,a,h1,h2,_=>by omega
 | k+1,i,b,a,h1,h2,v=>by
  simp only [aI.l1]
  have h60:=hl.1
  by_cases hi:i<l.length
  ·have d:decide ((i:Int)<(l.length:Int))=true:=by rw [decide_eq_true_eq]; omega
   have eg:=Vx hi
   generalize l[i]=n at eg
   have ew:i64.wrap ((i:Int)+1)=((i+1:Nat):Int):=by rw [me (by omega) (by omega)]; omega
   obtain⟨e,s',e1,d1⟩:=JT hm v n (hl.2 n (VH eg))
   rw [if_pos d,if_neg (by decide),Bv eg]
   simp only [Vq,ew,e1]
   exact uF hm l hl k (i+1) s' a (by omega) (by omega) d1.1
  ·have d:decide ((i:Int)<(l.length:Int))=false:=by rw [decide_eq_false_iff_not]; omega
   have e:i=l.length:=by omega
   rw [if_neg (by rw [d]; decide),e]
   exact⟨b,rfl⟩
theorem yn (hm:2 ^ 63≤m)(l more:List aN)(side:Bool)(h1:l.length<2 ^ 63)(h2:more.length<2 ^ 63):aI.f m l more side=some true:=by
 have yD:(2:Nat) ^ 41=2199023255552:=by decide
 have RN:(2:Nat) ^ 63=9223372036854775808:=by decide
 have qd:2 ^ 41≤m:=by omega
 unfold aI.f
 obtain⟨b,e1,g1⟩:=BO hm l h1
 rw [e1,Vq]
 cases b with
 | true=>rfl
 | false=>
  obtain⟨b,e2,g2⟩:=BO hm more h2
  rw [if_neg (by decide),e2,Vq]
  cases b with
  | true=>rfl
  | false=>
   obtain⟨s,e3,v⟩:=JU qd l (g1 rfl)
   have Vo:=(g2 rfl).1
   rw [if_neg (by decide),e3]
   simp only [Vq,Hp v.inv,I3]
   have eR:=JV (m:=m) (by omega) v.inv
   have eI:=CZ (m:=m) (ym s) (FM v.inv) hm
   cases side with
   | true=>
    obtain⟨a',e4⟩:=uE qd more (g2 rfl) m 0 s s (Wg _) (by omega) v
    have e4:aI.l0 m more true m 0 s s=_:=e4
    rw [if_pos rfl,e4]
    simp only [Vq,FN v.inv,BEq.rfl,if_true,eR,eI,dP.f]
   | false=>
    obtain⟨a',e4⟩:=uF qd more (g2 rfl) m 0 s s (Wg _) (by omega) v
    have e4:aI.l1 m more false m 0 s s=_:=e4
    rw [if_neg (by decide),e4]
    simp only [Vq,FN v.inv,BEq.rfl,if_true,eR,eI,dP.f]
end
end Go.Proofs.Ytifafejidnjckaa
namespace Go.Proofs.Ytifafejidnjckaa
open Go Go.R Go.Uf
open Go.IntKind (i64 u64 u8 u32)
end Go.Proofs.Ytifafejidnjckaa
namespace Go.Proofs.Ytifafejidnjckaa
open Go Go.R
open Go.IntKind (i64 u64 u8 u32)
def Nf (xs ys:List AV):Prop:=cJ xs=true∧dw xs=ys
theorem uG:∀a b:List AV,cJ (a++b)=(cJ a&&cJ b)
 | [],b=>rfl
 | x::a,b=>by rw [V6,cJ,cJ,uG,Bool.and_assoc]
theorem uH:∀a b:List AV,dw (a++b)=dw a++dw b
 | [],b=>rfl
 | x::a,b=>by rw [V6,dw,dw,uH,V6]
theorem Nf.app {a b c d:List AV}(h:Nf a c)(k:Nf b d):Nf (a++b) (c++d):=⟨by rw [uG,h.1,k.1]; rfl,by rw [uH,h.2,k.2]⟩
theorem Nf.nil:Nf [] []:=⟨rfl,rfl⟩
theorem Nf.cons {x y:AV}{b d:List AV}(h:x.dZ=true)(h2:x.jj=y)(k:Nf b d):Nf (x::b) (y::d):=⟨by simp [cJ,h,k.1],by simp [dw,h2,k.2]⟩
theorem yo {α:Type}{E:bM α}{Pr:α→Prop}:∀{els:List (List AV)},(∀el∈els,∃a,Nf el (E.f a)∧Pr a)→∃l:List α,Nf els.flatten (E.l l)∧l.length=els.length∧∀a∈l,Pr a
 | [],_=>⟨[],Nf.nil,rfl,fun a ha=>by cases ha⟩
 | el::els,h=>by
  obtain⟨a,h1,h2⟩:=h el (by simp)
  obtain⟨l,h3,h4,h5⟩:=yo (E:=E) (Pr:=Pr) (els:=els) fun e he=>h e (by simp [he])
  refine⟨a::l,?_,by simp [h4],fun x hx=>?_⟩
  ·rw [List.flatten_cons,bM.eK]; exact h1.app h3
  ·rcases VS.1 hx with rfl | hx
   ·exact h2
   ·exact h5 x hx
def yp {α:Type}(E:bM α)(x:AV)(l:List α):Prop:=x.dZ=true∧x.jj=E.fz l∧(x = .nils∨∃cs n b,x = .fz cs n b)∧l.length≤maxLen
theorem yp.fr {α:Type}{E:bM α}{x:AV}{l:List α}(h:yp E x l)(hp:AHeap):kr 0 hp x (E.fz l):=lA h.1 (by rcases h.2.2.1 with rfl | ⟨cs,n,b,rfl⟩<;>exact fun _=>rfl) h.2.1
theorem zN {α:Type}{E:bM α}{Pr:α→Prop}{n t e:Nat}{xs:List AV}(ht:Try.prog.underlying t=some (.slice e))(h:Fits Try.prog (n+1) t xs)
  (he:∀el,Fits Try.prog n e el→∃a,Nf el (E.f a)∧Pr a):∃x l,xs=[x]∧yp E x l∧∀a∈l,Pr a:=by
 unfold Fits at h
 rw [ht] at h
 rcases h with rfl | ⟨els,rfl,h1,h⟩
 ·exact⟨_,[],rfl,⟨rfl,rfl,.inl rfl,Wg _⟩,fun a ha=>by cases ha⟩
 ·obtain⟨l,⟨h2,h3⟩,h4,h5⟩:=yo (E:=E) (Pr:=Pr) fun el Lc=>he el (h el Lc).2
  refine⟨_,l,rfl,⟨by simpa [AV.dZ] using h2,?_,.inr ⟨_,_,_,rfl⟩,by omega⟩,h5⟩
  show AV.fz (dw els.flatten) els.length false=_
  rw [h3,←h4]; rfl
theorem nZ {n:Nat}{xs:List AV}(h:Fits Try.prog (n+1) 3 xs):∃z:Int,xs=[.int .i64 z]:=by
 unfold Fits at h
 rw [Try.underlying3] at h
 obtain⟨z,rfl,_⟩:=h
 exact⟨z,rfl⟩
theorem BS {n:Nat}{xs:List AV}(h:Fits Try.prog (n+1) 9 xs):∃s:ByteArray,xs=[.str s]:=by
 unfold Fits at h
 rw [Try.underlying9] at h
 obtain⟨s,hs,_⟩:=h
 exact⟨s,hs⟩
theorem FO {n:Nat}{xs:List AV}(h:Fits Try.prog (n+1) 4 xs):∃b:Bool,xs=[.bool b]:=by
 unfold Fits at h
 rw [Try.underlying4] at h
 exact h
theorem yq {n:Nat}{xs:List AV}(h:Fits Try.prog (n+2) 33 xs):∃x l,xs=[x]∧yp af x l:=by
 obtain⟨x,l,e,h,_⟩:=zN (E:=af) (Pr:=fun _=>True) Try.underlying33 h fun el h=>by
  obtain⟨z,rfl⟩:=nZ h
  exact⟨z,⟨rfl,rfl⟩,trivial⟩
 exact⟨x,l,e,h⟩
theorem FP {n:Nat}{xs:List AV}(h:Fits Try.prog (n+3) 51 xs):∃v:aq,Nf xs (ai.f v):=by
 unfold Fits at h
 rw [Try.underlying51] at h
 obtain⟨a,b,rfl,_,h1,h⟩:=h
 obtain⟨c,d,rfl,_,h2,h⟩:=h
 obtain⟨e,f,rfl,_,h3,h⟩:=h
 obtain⟨g,k,rfl,_,h4,h⟩:=h
 have h:k=[]:=h
 subst h
 obtain⟨z1,rfl⟩:=nZ h1
 obtain⟨z2,rfl⟩:=nZ h2
 obtain⟨s,rfl⟩:=BS h3
 obtain⟨x,l,rfl,hx⟩:=yq h4
 exact⟨⟨z1,z2,s,l⟩,Nf.cons rfl rfl (Nf.cons rfl rfl (Nf.cons rfl rfl (Nf.cons hx.1 hx.2.1 Nf.nil)))⟩
theorem C0 {n:Nat}{xs:List AV}(h:Fits Try.prog (n+4) 40 xs):∃x l,xs=[x]∧yp ai x l:=by
 obtain⟨x,l,e,h,_⟩:=zN (E:=ai) (Pr:=fun _=>True) Try.underlying40 h fun el h=>by
  obtain⟨v,hv⟩:=FP h
  exact⟨v,hv,trivial⟩
 exact⟨x,l,e,h⟩
def FQ (xs:List AV)(x:aN):Prop:=∃A T,xs=[.int .i64 x.eh,.int .i64 x.rD,.int .i64 x.yz,.str x.dV,A,T,.int .i64 x.qN.root]∧yp af A x.eW∧yp ai T x.qN.nodes
theorem Hq {n:Nat}{xs:List AV}(h:Fits Try.prog (n+6) 44 xs):∃x,FQ xs x:=by
 unfold Fits at h
 rw [Try.underlying44] at h
 obtain⟨a,b,rfl,_,h1,h⟩:=h
 obtain⟨c,d,rfl,_,h2,h⟩:=h
 obtain⟨e,f,rfl,_,h3,h⟩:=h
 obtain⟨g,k,rfl,_,h4,h⟩:=h
 obtain⟨i,j,rfl,_,h5,h⟩:=h
 obtain⟨o,p,rfl,_,h6,h⟩:=h
 have h:p=[]:=h
 subst h
 obtain⟨z1,rfl⟩:=nZ h1
 obtain⟨z2,rfl⟩:=nZ h2
 obtain⟨z3,rfl⟩:=nZ h3
 obtain⟨s,rfl⟩:=BS h4
 obtain⟨x,l,rfl,hx⟩:=yq h5
 have h6:Fits Try.prog (n+5) 42 o:=h6
 unfold Fits at h6
 rw [Try.underlying42] at h6
 obtain⟨q,r,rfl,_,h7,h6⟩:=h6
 obtain⟨t,u,rfl,_,h8,h6⟩:=h6
 have h6:u=[]:=h6
 subst h6
 obtain⟨y,ns,rfl,hy⟩:=C0 h7
 obtain⟨z4,rfl⟩:=nZ h8
 exact⟨⟨z1,z2,z3,s,l,⟨ns,z4⟩⟩,x,y,rfl,hx,hy⟩
theorem FQ.nf {xs:List AV}{x:aN}(h:FQ xs x):Nf xs (aH.f x):=by
 obtain⟨A,T,rfl,hA,hT⟩:=h
 exact Nf.cons rfl rfl (Nf.cons rfl rfl (Nf.cons rfl rfl (Nf.cons rfl rfl (Nf.cons hA.1 hA.2.1 (Nf.cons hT.1 hT.2.1 (Nf.cons rfl rfl Nf.nil))))))
theorem FR {n:Nat}{xs:List AV}(h:Fits Try.prog (n+7) 22 xs):∃x l,xs=[x]∧yp aH x l:=by
 obtain⟨x,l,e,h,_⟩:=zN (E:=aH) (Pr:=fun _=>True) Try.underlying22 h fun el h=>by
  obtain⟨v,hv⟩:=Hq h
  exact⟨v,hv.nf,trivial⟩
 exact⟨x,l,e,h⟩
theorem C1:maxLen<2 ^ 63:=by decide
theorem yr {n:Nat}{xs:List AV}(h:Fits Try.prog (n+7) 22 xs):∃l:List aN,l.length<2 ^ 63∧∀hp,kr 10 hp (jR Try.prog 22 xs) (aH.fz l):=by
 obtain⟨x,l,rfl,hx⟩:=FR h
 have e1:jR Try.prog 22 [x]=x:=by unfold jR; rw [Try.underlying22]; rfl
 rw [e1]
 exact⟨l,Nat.lt_of_le_of_lt hx.2.2.2 C1,fun hp=>(hx.fr hp).mono (by decide)⟩
theorem FT {n:Nat}{xs:List AV}(h:Fits Try.prog (n+1) 4 xs):∃z:Bool,∀hp,kr 10 hp (jR Try.prog 4 xs) (.bool z):=by
 obtain⟨z,rfl⟩:=FO h
 have e1:jR Try.prog 4 [.bool z] = .bool z:=by unfold jR; rw [Try.underlying4]; rfl
 rw [e1]
 exact⟨z,fun hp=>b4.mono (by decide)⟩
theorem C2 {P:Program}{m:Nat}{t u v:TypeId}{vk:List AV}(h:oL P m [t,u,v] vk):∃xs ys zs,vk=[jR P t xs,jR P u ys,jR P v zs]∧Fits P m t xs∧Fits P m u ys∧Fits P m v zs:=by
 match vk,h with
 | [_,_,_],⟨⟨xs,h1,f1⟩,⟨ys,h2,f2⟩,⟨zs,h3,f3⟩,_⟩=>exact⟨xs,ys,zs,by rw [h1,h2,h3],f1,f2,f3⟩
end Go.Proofs.Ytifafejidnjckaa
namespace Go.R
open Go
def H9:AHeap:={get:=fun _=>none,ver:=fun _=>0,next:=2}
section
variable {P:Program}
theorem alone {cf:CallF}(hcf:CallOK P cf){f:FuncId}{us:List AV}{h0:AHeap}{r1:AV}{h1:AHeap}(hx:cf f us h0=some (r1,h1))(hg:∀id,h0.get id=none)(Il:∀id,h0.ver id<h0.next)
  {L0:Nat→Prop} {c:Cx} {vs:List Value} (hb0:c.base≤c.w.heap.size) (hrel:HRel c L0) (sg:VRs ⟨fun _=>(0,0),h0,c.w,c.w.heap.size⟩ L0 us vs) {r:AV} (hr:∀(c1 d:Cx) (v:Value),VR c1 L0 r1 v→VR d L0 r v) :
  Calls P f vs.toArray c.w fun e w'=>∃c' v,e = .returned v∧c'.w=w'∧c'.h=c.h∧VR c' L0 r v∧HRel c' L0∧Ext c none0 c' none0:=by
 obtain⟨hin,hcall⟩:=hcf f us h0 r1 h1 hx
 let c0:Cx:=⟨fun _=>(0,0),h0,c.w,c.w.heap.size⟩
 have hnl:∀id,¬Live c0.h id:=fun id hl=>by have:=hl.2; rw [show c0.h.get id=none from hg id] at this; cases this
 have wi:∀id o,¬c0.h.get id=some o:=fun id o ho=>by rw [show c0.h.get id=none from hg id] at ho; cases ho
 have sf:HRel c0 L0:=⟨fun id o ho=>absurd ho (wi id o),fun id o ho=>absurd ho (wi id o),fun id _ hl _ _=>absurd hl (hnl id),fun id hl=>absurd hl (hnl id),hrel.bd,fun id hl=>absurd hl (hnl id),Il⟩
 refine (hcall L0 c0 vs rfl (Vv _) sf sg).mono ?_
 rintro e w' ⟨c1,v,rfl,rfl,Kc,hv,hrel1,e1⟩
 let d:Cx:=⟨c.β,c.h,c1.w,c.base⟩
 have hk:∀b,b<c.w.heap.size→c1.w.heap[b]? = c.w.heap[b]?:=fun b hb=>e1.exact b hb
 have ed:Ext c none0 d none0:=⟨Vv _,fun id _ hl=>⟨hl,rfl,gX.len (c:=c) (c':=d) (.inl (hk _ (hrel.block hl)))⟩,e1.size,fun b hb _ _=>.inl (hk b hb),fun b hb=>hk b (VP hb hb0),rfl,fun id hl=>.inr ⟨id,hl,rfl⟩,fun _ h=>h,fun _ h=>.inl h,e1.os,e1.tape,e1.output⟩
 refine⟨d,v,rfl,rfl,rfl,hr c1 d v hv,⟨hrel.lt,fun id o ho=>?_,hrel.inj,hrel.out,fun b hb=>VP (hrel.bd b hb) e1.size,hrel.low,hrel.ver⟩,ed⟩
 have hl:Live c.h id:=⟨hrel.lt _ _ ho,by rw [ho]; rfl⟩
 have:=(hrel.obj id o ho)
 have h2:=ot.ext (L0:=L0) ed (b:=(c.β id).1) (base:=(c.β id).2) (o:=o) (by rw [hH]; exact this) (hk _ (hrel.block hl))
 rw [hH] at h2
 exact h2
def JW (P:Program)(t:TypeId)(z:Nat):Bool:=
 match P.underlying t with
 | some (.slice e)=>match P.info? e with
  | some i=>V5 i.size z&&WK i.bytes 1000&&Hx i
  | none=>false
 | _=>false
theorem yt {t:TypeId}{z:Nat}(T:JW P t z=true)(hz:z≠0){h:AHeap}{x:AV}{n:Nat}{cs:List AV}(hn:n≠0)(hb:n*1024≤1099511627776)(hx:fH h z x=some (cs,n))(hs:iA P t x=true):dE P h t t (.fz [] 0 true) x=some (.rs h.next 0 n z,h.alloc (.cells cs)):=by
 unfold JW at T
 split at T
 rotate_left
 ·cases T
 rename_i e he
 split at T
 rotate_left
 ·cases T
 rename_i i hi
 simp only [Vu] at T
 obtain⟨⟨h1,h2⟩,h3⟩:=T
 have h1:=Wr h1
 have h2:=Nat.le_of_ble_eq_true h2
 subst h1
 have hq:n*i.bytes≤n*1000:=Nat.mul_le_mul_left n h2
 simp only [dE,he,Vq,hi,hx]
 rw [if_neg (by simp [hz,hs,h3]),if_neg (by simp only [gy,VO,VT]; omega),if_neg hn]
 simp
theorem uI {z:Nat}:∀args h r h',xq z args h=some (r,h')→Steady h h':=by
 intro args h r h' hs
 unfold xq at hs
 split at hs
 ·cases hs; exact Steady.refl _
 ·split at hs
  ·cases hs; exact Steady.refl _
  ·split at hs
   ·cases hs; exact Steady.put _ _ _
   ·cases hs
 ·split at hs
  ·cases hs; exact Steady.refl _
  ·rw [Vp] at hs
   obtain⟨ob,_,hs⟩:=hs
   split at hs
   ·split at hs
    ·cases hs; exact Steady.put _ _ _
    ·cases hs
   ·cases hs
 ·cases hs
theorem Ia {cf:CallF}(hcf:CallOK P cf){F:FuncId}{t:TypeId}{z:Nat}(T:JW P t z=true)(hz:z≠0)
  (h0:cf F [.nils] bz=some (.nils,bz)) (h1:cf F [.rs 1 0 0 z] H9=some (.rs 0 0 0 z,H9))
  (h2:∀(c:AV) (cs:List AV) (n:Nat) (ex:Bool) (h:AHeap) (i k w:Nat) (h':AHeap),dE P h t t (.fz [] 0 true) (.fz (c::cs) n ex)=some (.rs i 0 k w,h')→cf F [.fz (c::cs) n ex] h=some (.rs i 0 k w,h'))
  (h3:∀(j n q:Nat) (h:AHeap) (i k w:Nat) (h':AHeap),dE P h t t (.fz [] 0 true) (.rs (j+1) 0 n q)=some (.rs i 0 k w,h')→cf F [.rs (j+1) 0 n q] h=some (.rs i 0 k w,h'))
  (gB:∀x,(∀st,x≠.str st)→iA P t x=true) :
  CallOK P fun f' args h=>if f'=F then xq z args h else none:=by
 intro f args h r h' hc
 dsimp only at hc
 split at hc
 rotate_left
 ·cases hc
 rename_i hf
 subst hf
 refine⟨(hcf f _ _ _ _ h0).1,fun L0 c vs hh hb0 hrel hargs=>?_⟩
 have empty:∀(v:Value),(∃a cap,v = .slice a 0 cap∧(a=none→cap=0))→Calls P f #[v] c.w fun e w'=>∃c' v,e = .returned v∧c'.w=w'∧c'.h=c.h∧VR c' L0 (.rs 0 0 0 z) v∧HRel c' L0∧Ext c none0 c' none0:=by
  rintro v ⟨a,cap,rfl,ha⟩
  cases a with
  | none=>
   have:=ha rfl
   subst this
   refine alone (vs:=[.slice none 0 0]) hcf h0 (fun _=>rfl) (fun _=>WM) hb0 hrel ⟨rfl,trivial⟩ (fun c1 d v hv=>?_)
   simp only [VR] at hv ⊢
   exact .inl ⟨trivial,trivial,trivial,none,hv⟩
  | some ad=>
   refine alone (vs:=[.slice (some ad) 0 cap]) hcf h1 (fun _=>rfl) (fun _=>Nat.zero_lt_succ 1) hb0 hrel ⟨?_,trivial⟩ (fun c1 d v hv=>?_)
   ·simp only [VR]
    exact .inr ⟨by decide,by decide,some ad,cap,rfl,Wg _,rfl,fun hl=>by have:=hl.2; cases this⟩
   ·simp only [VR] at hv ⊢
    rcases hv with hv | hv
    ·exact .inl hv
    ·exact absurd rfl hv.1
 match args,vs,hargs with
 | [],_,_=>simp [xq] at hc
 | x::y::l,_,_=>cases x<;>simp [xq] at hc
 | [x],[v],hargs=>
  have hx:VR c L0 x v:=hargs.1
  cases x<;>simp only [xq] at hc<;>try (cases hc; done)
  ·cases hc
   simp only [VR] at hx
   rw [←hh]
   exact empty v ⟨none,0,hx,fun _=>rfl⟩
  ·rename_i cs n ex
   split at hc
   ·rename_i hn
    cases hc
    subst hn
    simp only [VR] at hx
    obtain⟨a,cap,e,_,_,hs,_⟩:=hx
    rw [←hh]
    refine empty v ⟨a,cap,e,fun ha=>?_⟩
    rcases hs with hs | hs
    ·rw [ha] at hs; cases hs
    ·exact hs.2
   ·rename_i hn
    split at hc
    rotate_left
    ·cases hc
    rename_i hq
    cases hc
    cases cs with
    | nil=>
     have h4:0=n*z:=hq.1
     rcases Nat.mul_eq_zero.1 h4.symm with h5 | h5
     ·exact absurd h5 hn
     ·exact absurd h5 hz
    | cons c1 cs=>
     have Ik:fH h z (.fz (c1::cs) n ex)=some ((c1::cs).map jF,n):=by
      simp only [fH,eu]; rw [if_pos hq.1]; rfl
     have:=h2 c1 cs n ex h _ _ _ _ (yt T hz hn hq.2 Ik (gB _ (by rintro st h; cases h)))
     exact (hcf _ _ _ _ _ this).2 L0 c [v] hh hb0 hrel ⟨hx,trivial⟩
  ·rename_i id off n q
   cases off with
   | succ off=>simp [xq] at hc
   | zero=>
   simp only [xq] at hc
   split at hc
   ·rename_i hn
    cases hc
    subst hn
    simp only [VR] at hx
    rw [←hh]
    rcases hx with⟨_,_,_,a,e⟩| ⟨_,_,a,cap,e,_,hs,_⟩
    ·exact empty v ⟨a,0,e,fun _=>rfl⟩
    ·refine empty v ⟨a,cap,e,fun ha=>?_⟩
     rw [ha] at hs; cases hs
   ·rename_i hn
    rw [Vp] at hc
    obtain⟨ob,ho,hc⟩:=hc
    split at hc
    rotate_left
    ·cases hc
    rename_i cs
    split at hc
    rotate_left
    ·cases hc
    rename_i hq
    cases hc
    have hid:id≠0:=by
     simp only [VR] at hx
     rcases hx with hx | hx
     ·exact absurd hx.2.2.1 hn
     ·exact hx.1
    obtain⟨j,rfl⟩:∃j,id=j+1:=⟨id - 1,by omega⟩
    have Ik:fH h z (.rs (j+1) 0 n q)=some ((cs.take (n*z)).map jF,n):=by
     simp only [fH,eu]
     rw [if_neg (fun hz=>hz.elim hid fun hz=>hn hz.1),ho]
     simp only [Vq]
     rw [if_pos ⟨hq.1,by omega⟩,Wa]; rfl
    have:=h3 j n q h _ _ _ _ (yt T hz hn hq.2.2 Ik (gB _ (by rintro st h; cases h)))
    exact (hcf _ _ _ _ _ this).2 L0 c [v] hh hb0 hrel ⟨hx,trivial⟩
 | [x],[],hargs=>exact hargs.elim
 | [x],_::_::_,hargs=>exact hargs.2.elim
end
end Go.R
