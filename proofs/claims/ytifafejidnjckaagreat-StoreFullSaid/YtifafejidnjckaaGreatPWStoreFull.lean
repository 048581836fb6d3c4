/- Proved: StoreFull returns true for every input; no condition. -/
import Derived.Test.YtifafejidnjckaaGreatK16
import Derived.Test.YtifafejidnjckaaGreatChecked
import Derived.Test.YtifafejidnjckaaGreatRows
set_option linter.unusedVariables false
set_option linter.unusedSimpArgs false
set_option maxRecDepth 100000
open Bool renaming and_eq_true → ae3, false_eq_true → afa, not_true → afT
open ByteArray renaming mk → afC
open List renaming replicate → afh, length_nil → afi, mem_cons → afq, all_eq_true → afr, drop_zero → afw, cons_append → afF, length_replicate → afW
open Nat renaming le_refl → ae4, zero_add → aft, lt_of_lt_of_le → afx, beq → afN, zero_le → afU, eq_of_beq_eq_true → agd, ble → agB, zero_lt_one → agD
open Option renaming bind_some → aeZ, bind_eq_some_iff → ae0, map_eq_some_iff → ae1
namespace Go.Proofs.YtifafejidnjckaaGreat
open Go Go.R
open Go.IntKind (i64 u64 u8 u32)
def Pj:bX:=gP [0,1,3,4,5,6,7,8,9,12,38] [3] [2042,1530,2039,2027,1931,1563,859,2039,2039] [(4,[(5,none,0)])] []
def gE.f (m:Nat)(sa:Int)(x0:cH):Option (Bool):=(cp.f m ([x0])).bind fun x1=>if x1=true then ((qD.f m).bind fun x2=>some x2) else ((sr 56 (i64.wrap (8000 - Int.tmod (i64.wrap sa) 45)) (ai.mk 0 0 (afC #[]) ([]))).bind fun x3=>(bu.f m x3).bind fun x4=>Lg x4.1 ((bU.f m x3).bind fun x5=>Lg x5.1 (if (!(x4.2==0))=true then (some false) else (if (!(x5.2==0))=true then (some false) else (some false))) fun rS=>if (!(x4.2==0))=true then (some false) else (if (!(x5.2==0))=true then (some false) else (some false))) fun fV=>(bU.f m x3).bind fun x6=>Lg x6.1 (if (!(x4.2==0))=true then (some false) else (if (!(x6.2==0))=true then (some false) else none)) fun lj=>if (!(x4.2==0))=true then (some false) else (if (!(x6.2==0))=true then (some false) else ((jK.f m fV lj x0).bind fun x7=>if x7.1=true then ((ec.f m x7.2.1).bind fun x8=>(fc.f m x7.2.2).bind fun x9=>if (x8==x9)=true then ((ec.f m x7.2.1).bind fun lX=>if (decide (lX≤8000))=true then ((qD.f m).bind fun xi=>some xi) else (some false)) else (some false)) else (some false))))
def gE.fin (L:Mem)(r:Bool)(s:St):Prop:=∃av,aM Tryz.prog (s.open Pj) Tryz.f3.results.toList=some av∧fG s.h av (.bool r)
def S3 (cf:CallF)(m:Nat):Prop:=∀(sa:Int) (x0:cH) (r:Bool),gE.f m sa x0=some r→∀h xs,aZ b5 h xs [.int .u8 sa,.agg [.i x0.fN,.i x0.pV,.i x0.zE,.str x0.cP,ae.fz x0.fO,af.fz x0.rY.nodes,.i x0.rY.root]]→cf 3 xs h=some (.bool r,h)
section
variable {cf:CallF}{m:Nat}
theorem re {aX:FuncId→bX}(ha:aX 3=Pj)(S8_:S8 cf m)(S9_:S9 cf m)(VU:S10 cf m)(Pk:S11 cf m)(ZC:S12 cf m)(Ns:S13 cf m)(SE:S14 cf m)(sa:Int)(x0:cH)(h:AHeap)(L:Mem)  (o:Has h (L)){out:Bool}(H:gE.f m sa x0=some out) :
  ∃r h',ba Tryz.prog aX cf m 3 [.int .u8 sa,.agg [.i x0.fN,.i x0.pV,.i x0.zE,.str x0.cP,ae.fz x0.fO,af.fz x0.rY.nodes,.i x0.rY.root]] h=some (r,h')∧fG h' r (.bool out):=by
 refine ax (fn:=Tryz.f3) ha Tryz.func3 kr kr ?_
 refine aI (Q:=fun s=>gE.fin L out s) (fun _ _ h=>h) ?_
 have H:_=some out:=H
 unfold gE.f at H
 show dB _ cf Pj m _ ⟨.int .u8 sa :: .agg [.i x0.fN,.i x0.pV,.i x0.zE,.str x0.cP,ae.fz x0.fO,af.fz x0.rY.nodes,.i x0.rY.root]::Ot [],[none],h⟩ _
 refine q1 <| qq <| qq ?_
 obtain⟨x1,e0,H⟩:=aQ H
 refine qr [.a 2 (S8_ _ _ e0 h _ (km (ao (yb (E:=fa) (l:=[x0]) (cs:=[.i x0.fN,.i x0.pV,.i x0.zE,.str x0.cP,ae.fz x0.fO,af.fz x0.rY.nodes,.i x0.rY.root]) (b:=true) (pure_cons (eu) (pure_cons (eu) (pure_cons (eu) (pure_cons (mG) (pure_cons (bY.bz (E:=ae) (l:=x0.fO)) (pure_cons (bY.bz (E:=af) (l:=x0.rY.nodes)) (pure_cons (eu) (pure_nil)))))))).1 (pure_cons (eu) (pure_cons (eu) (pure_cons (eu) (pure_cons (mG) (pure_cons (bY.bz (E:=ae) (l:=x0.fO)) (pure_cons (bY.bz (E:=af) (l:=x0.rY.nodes)) (pure_cons (eu) (pure_nil)))))))).2 rfl) (aJ))))] <| qc H (fun c0 H=>?_) (fun c0 H=>?_)
 ·refine qq ?_
  obtain⟨x2,e1,H⟩:=aQ H
  exact qr [.a 0 (S9_ _ e1 h _ fq)] <| qt <| fB H
 ·refine qk <| qq ?_
  obtain⟨x3,e2,H⟩:=aQ H
  obtain⟨aV,h0,e3,o0⟩:=Pg (P:=Tryz.prog) lF o 57 rfl rfl e2
  refine qr [.a 4 e3] <| qq ?_
  obtain⟨h1,e4,o1⟩:=Ph (q:=0) o0 rfl
  obtain⟨x4,e5,H⟩:=aQ H
  rcases uH H with⟨hn0,H⟩| ⟨fV,hn0,H⟩
  ·obtain⟨dr,cm,cE,h2,e6,o2⟩:=VU _ _ e5 h1 _  (o1)  [EP x3] (cZ (ov e2) (oR))
   rw [hn0] at e6 o2
   refine JV [.a 0 e4] [.a 1 e6] <| qq ?_
   obtain⟨x5,e7,H⟩:=aQ H
   rcases uH H with⟨PE,H⟩| ⟨rS,PE,H⟩
   ·obtain⟨dT,ir,iy,h3,e8,o3⟩:=Pk _ _ e7 h2 _  (o2)  [EP x3] (cZ (ov e2) (oR))
    rw [PE] at e8 o3
    refine qr [.a 1 e8] <| qq <| qq ?_
    rcases dZ H with⟨c1,H⟩| ⟨c1,H⟩
    ·exact qr [.b 2 c1] <| rW <| qq <| q0 <| qt <| fB H
    ·rcases dZ H with⟨c3,H⟩| ⟨c3,H⟩
     ·exact qr [.b 2 c1,.b 6 c3] <| rW <| qq <| q0 <| qt <| fB H
     ·exact qr [.b 2 c1,.b 6 c3] <| rW <| qq <| q0 <| qt <| fB H
   ·obtain⟨iA,lh,ml,h4,e9,o4⟩:=Pk _ _ e7 h2 _  (o2)  [EP x3] (cZ (ov e2) (oR))
    rw [PE] at e9 o4
    refine qr [.a 1 e9] <| qq <| qq ?_
    rcases dZ H with⟨c6,H⟩| ⟨c6,H⟩
    ·refine qr [.b 2 c6] <| rW <| qq <| q0 ?_
     exact qt <| fB H
    ·rcases dZ H with⟨c8,H⟩| ⟨c8,H⟩
     ·refine qr [.b 2 c6,.b 6 c8] <| rW <| qq <| q0 ?_
      exact qt <| fB H
     ·refine qr [.b 2 c6,.b 6 c8] <| rW <| qq <| q0 ?_
      exact qt <| fB H
  ·obtain⟨eR,ij,fF,h5,nW,rJ⟩:=VU _ _ e5 h1 _  (o1)  [EP x3] (cZ (ov e2) (oR))
   rw [hn0] at nW rJ
   refine JV [.a 0 e4] [.a 1 nW] <| qq ?_
   obtain⟨x6,rG,H⟩:=aQ H
   rcases uH H with⟨Ks,H⟩| ⟨lj,Ks,H⟩
   ·obtain⟨fP,gI,iJ,h6,sy,zm⟩:=Pk _ _ rG h5 _  (rJ)  [EP x3] (cZ (ov e2) (oR))
    rw [Ks] at sy zm
    refine qr [.a 1 sy] <| qq <| qq ?_
    rcases dZ H with⟨oy,H⟩| ⟨oy,H⟩
    ·refine qr [.b 2 oy] <| rW <| qq <| q0 ?_
     exact qt <| fB H
    ·rcases dZ H with⟨qI,H⟩| ⟨qI,H⟩
     ·refine qr [.b 2 oy,.b 6 qI] <| rW <| qq <| q0 ?_
      exact qt <| fB H
     ·refine qr [.b 2 oy,.b 6 qI] <| zD <| qk <| qq ?_
      cases H
   ·obtain⟨jm,lY,mM,h7,rZ,uV⟩:=Pk _ _ rG h5 _  (rJ)  [EP x3] (cZ (ov e2) (oR))
    rw [Ks] at rZ uV
    refine qr [.a 1 rZ] <| qq <| qq ?_
    rcases dZ H with⟨yI,H⟩| ⟨yI,H⟩
    ·refine qr [.b 2 yI] <| rW <| qq <| q0 ?_
     exact qt <| fB H
    ·rcases dZ H with⟨LZ,H⟩| ⟨LZ,H⟩
     ·refine qr [.b 2 yI,.b 6 LZ] <| rW <| qq <| q0 ?_
      exact qt <| fB H
     ·refine qr [.b 2 yI,.b 6 LZ] <| zD <| qk <| qq ?_
      obtain⟨x7,wG,H⟩:=aQ H
      obtain⟨qM,iK,FQ,kg,h8,sA,xo⟩:=ZC _ _ _ _ wG h7 _ _ _ _ _ _ _ ((bN (bN (bN (bN (bN (bN uV 2) 2) 2) 5) 5) 5))  [.ptr eR 0,.ptr jm 0,.agg [.i x0.fN,.i x0.pV,.i x0.zE,.str x0.cP,ae.fz x0.fO,af.fz x0.rY.nodes,.i x0.rY.root]] cq
      rcases dZ H with⟨RK,H⟩| ⟨RK,H⟩
      ·obtain⟨x8,uP,H⟩:=aQ H
       obtain⟨x9,wK,H⟩:=aQ H
       rcases dZ H with⟨JX,H⟩| ⟨JX,H⟩
       ·obtain⟨lX,zk,H⟩:=aQ H
        rcases dZ H with⟨ZD,H⟩| ⟨ZD,H⟩
        ·obtain⟨xi,vU,H⟩:=aQ H
         refine qr [.a 3 sA,.b 4 RK,.a 6 (Ns _ _ uP h8 _ (km (ao (da (q:=0) xo rfl (ao (dD) (ao (b4 (E:=af) (l:=x7.2.1.aa) (q:=1) xo rfl (fun _=>rfl)) (ao (b4 (E:=ae) (l:=x7.2.1.an) (q:=2) xo rfl (fun _=>rfl)) (aJ))))) (aJ)))),.a 8 (SE _ _ wK h8 _ (km (ao (da (q:=3) xo rfl (ao (b4 (E:=af) (l:=x7.2.2.ah) (q:=4) xo rfl (fun _=>rfl)) (ao (b4 (E:=ae) (l:=x7.2.2.au) (q:=5) xo rfl (fun _=>rfl)) (ao (dD) (aJ))))) (aJ)))),.b 11 JX,.a 13 (Ns _ _ zk h8 _ (km (ao (da (q:=0) xo rfl (ao (dD) (ao (b4 (E:=af) (l:=x7.2.1.aa) (q:=1) xo rfl (fun _=>rfl)) (ao (b4 (E:=ae) (l:=x7.2.1.an) (q:=2) xo rfl (fun _=>rfl)) (aJ))))) (aJ)))),.b 16 ZD,.a 17 (S9_ _ vU h8 _ fq)] ?_
         exact qt <| fB H
        ·refine qr [.a 3 sA,.b 4 RK,.a 6 (Ns _ _ uP h8 _ (km (ao (da (q:=0) xo rfl (ao (dD) (ao (b4 (E:=af) (l:=x7.2.1.aa) (q:=1) xo rfl (fun _=>rfl)) (ao (b4 (E:=ae) (l:=x7.2.1.an) (q:=2) xo rfl (fun _=>rfl)) (aJ))))) (aJ)))),.a 8 (SE _ _ wK h8 _ (km (ao (da (q:=3) xo rfl (ao (b4 (E:=af) (l:=x7.2.2.ah) (q:=4) xo rfl (fun _=>rfl)) (ao (b4 (E:=ae) (l:=x7.2.2.au) (q:=5) xo rfl (fun _=>rfl)) (ao (dD) (aJ))))) (aJ)))),.b 11 JX,.a 13 (Ns _ _ zk h8 _ (km (ao (da (q:=0) xo rfl (ao (dD) (ao (b4 (E:=af) (l:=x7.2.1.aa) (q:=1) xo rfl (fun _=>rfl)) (ao (b4 (E:=ae) (l:=x7.2.1.an) (q:=2) xo rfl (fun _=>rfl)) (aJ))))) (aJ)))),.b 16 ZD] ?_
         exact qt <| fB H
       ·refine qr [.a 3 sA,.b 4 RK,.a 6 (Ns _ _ uP h8 _ (km (ao (da (q:=0) xo rfl (ao (dD) (ao (b4 (E:=af) (l:=x7.2.1.aa) (q:=1) xo rfl (fun _=>rfl)) (ao (b4 (E:=ae) (l:=x7.2.1.an) (q:=2) xo rfl (fun _=>rfl)) (aJ))))) (aJ)))),.a 8 (SE _ _ wK h8 _ (km (ao (da (q:=3) xo rfl (ao (b4 (E:=af) (l:=x7.2.2.ah) (q:=4) xo rfl (fun _=>rfl)) (ao (b4 (E:=ae) (l:=x7.2.2.au) (q:=5) xo rfl (fun _=>rfl)) (ao (dD) (aJ))))) (aJ)))),.b 11 JX] ?_
        exact qt <| fB H
      ·refine qr [.a 3 sA,.b 4 RK] ?_
       exact qt <| fB H
end
end Go.Proofs.YtifafejidnjckaaGreat
namespace Go.Proofs.YtifafejidnjckaaGreat
open Go Go.R Go.Uf
open Go.IntKind (i64 u64 u8 u32)
section
variable {m:Nat}
theorem Gu (hm:2 ^ 41≤m)(n:Nat)(h1:1≤n)(h8:n≤8000)(l:List ai)(hl:l=afh n ⟨0,0,⟨#[]⟩,[]⟩):bu.f m l=some (some (JH l),0)∧bU.f m l=some (some (EJ l),0)∧Inv2 (JH l)∧lg (JH l) (EJ l):=by
 have vX:(2:Nat) ^ 30=1073741824:=by decide
 have zN:(2:Nat) ^ 41=2199023255552:=by decide
 have hn:l.length=n:=by rw [hl,afW]
 have hV:∀x∈l,dt x l.length=true:=fun x hx=>by
  rw [hl] at hx
  rw [List.eq_of_mem_replicate hx]
  rfl
 rcases Gp hm l om with⟨e,_⟩| h
 ·exfalso
  have hb:=ze (m:=m) om (l:=l) om (fun n hn=>(jq (hV n hn)).1.args) m 0 (afU _) om
  have hb:bu.l0 m l m 0 ⟨true,[],[]⟩=some ((l.length:Int),JH l)∧_:=hb
  unfold bu.f at e
  have d1:decide ((l.length:Int) > 8000)=false:=by rw [decide_eq_false_iff_not]; omega
  simp only [d1,afa,if_false,jP.f,aeZ] at e
  have hVB:jw ⟨l,0⟩=true:=by
   unfold jw
   simp only [ae3,decide_eq_true_eq,afr]
   exact⟨⟨⟨⟨om,om⟩,Int.le_refl 0⟩,by show (0:Int)<(l.length:Int); omega⟩,hV⟩
  have d2:decide ((l.length:Int) > 0)=true:=by rw [decide_eq_true_eq]; omega
  simp only [d2,if_true] at e
  rw [sF om,aeZ,hVB,if_neg (by decide),hb.1] at e
  cases e
 ·exact h
theorem JL (hm:2 ^ 63≤m)(room:Int)(h0:0≤room)(h256:room<256)(x:cH):gE.f m room x=some true:=by
 have zN:(2:Nat) ^ 41=2199023255552:=by decide
 have p63:(2:Nat) ^ 63=9223372036854775808:=by decide
 have zj:2 ^ 41≤m:=by omega
 unfold gE.f
 obtain⟨q,e1,g1⟩:=O7 hm [x] (by simp)
 rw [e1,aeZ]
 cases q with
 | true=>rfl
 | false=>
  have hx:=(g1 rfl).2 x (by simp)
  rw [if_neg (by decide)]
  have er:i64.wrap room=room:=mf om om
  have abQ:=Int.tmod_nonneg 45 h0
  have abR:=Int.tmod_lt_of_pos room (show (0:Int)<45 by decide)
  have ew:i64.wrap ((8000:Int) - Int.tmod (i64.wrap room) 45)=8000 - Int.tmod room 45:=by
   rw [er]; exact mf om om
  rw [ew]
  have em:sr 56 (8000 - Int.tmod room 45) (⟨0,0,⟨#[]⟩,[]⟩:ai)=some (afh (8000 - Int.tmod room 45).toNat ⟨0,0,⟨#[]⟩,[]⟩):=by
   unfold sr; rw [if_pos ⟨om,om⟩]
  rw [em,aeZ]
  obtain⟨b1,b2,v,M⟩:=Gu zj (8000 - Int.tmod room 45).toNat om om _ rfl
  obtain⟨s',t',e2,v',M'⟩:=JK hm v M x hx
  rw [b1,aeZ,b2]
  simp only [Lg,aeZ,e2]
  have hs:=Su (m:=m) v'.inv
  have ht:=Pd (m:=m) M'
  have h8:=v'.inv.max
  have d:decide ((s'.aa.length:Int)≤8000)=true:=by rw [decide_eq_true_eq]; omega
  simp only [hs,ht,aeZ,BEq.rfl,if_true,d,afT,afa,if_false]
  rfl
end
end Go.Proofs.YtifafejidnjckaaGreat
namespace Go.Proofs.YtifafejidnjckaaGreat
open Go Go.R
open Go.IntKind (i64 u64 u8 u32)
def Nf (xs ys:List AV):Prop:=dH xs=true∧en xs=ys
theorem AX:∀a b:List AV,dH (a++b)=(dH a&&dH b)
 | [],b=>rfl
 | x::a,b=>by rw [afF,dH,dH,AX,Bool.and_assoc]
theorem AY:∀a b:List AV,en (a++b)=en a++en b
 | [],b=>rfl
 | x::a,b=>by rw [afF,en,en,AY,afF]
theorem Nf.app {a b c d:List AV}(h:Nf a c)(k:Nf b d):Nf (a++b) (c++d):=⟨by rw [AX,h.1,k.1]; rfl,by rw [AY,h.2,k.2]⟩
theorem Nf.nil:Nf [] []:=⟨rfl,rfl⟩
theorem Nf.cons {x y:AV}{b d:List AV}(h:x.fK=true)(h2:x.lH=y)(k:Nf b d):Nf (x::b) (y::d):=⟨by simp [dH,h,k.1],by simp [en,h2,k.2]⟩
theorem ER {α:Type}{E:bY α}{Pr:α→Prop}:∀{els:List (List AV)},(∀el∈els,∃a,Nf el (E.f a)∧Pr a)→∃l:List α,Nf els.flatten (E.l l)∧l.length=els.length∧∀a∈l,Pr a
 | [],_=>⟨[],Nf.nil,rfl,fun a ha=>by cases ha⟩
 | el::els,h=>by
  obtain⟨a,h1,h2⟩:=h el (by simp)
  obtain⟨l,h3,h4,h5⟩:=ER (E:=E) (Pr:=Pr) (els:=els) fun e he=>h e (by simp [he])
  refine⟨a::l,?_,by simp [h4],fun x hx=>?_⟩
  ·rw [List.flatten_cons,bY.gy]; exact h1.app h3
  ·rcases afq.1 hx with rfl | hx
   ·exact h2
   ·exact h5 x hx
def Gv {α:Type}(E:bY α)(x:AV)(l:List α):Prop:=x.fK=true∧x.lH=E.fz l∧(x = .nils∨∃cs n b,x = .fz cs n b)∧l.length≤maxLen
theorem Gv.fr {α:Type}{E:bY α}{x:AV}{l:List α}(h:Gv E x l)(hp:AHeap):mc 0 hp x (E.fz l):=nk h.1 (by rcases h.2.2.1 with rfl | ⟨cs,n,b,rfl⟩<;>exact fun _=>rfl) h.2.1
theorem Nt {α:Type}{E:bY α}{Pr:α→Prop}{n t e:Nat}{xs:List AV}(ht:Tryz.prog.underlying t=some (.slice e))(h:Fits Tryz.prog (n+1) t xs)
  (he:∀el,Fits Tryz.prog n e el→∃a,Nf el (E.f a)∧Pr a):∃x l,xs=[x]∧Gv E x l∧∀a∈l,Pr a:=by
 unfold Fits at h
 rw [ht] at h
 rcases h with rfl | ⟨els,rfl,h1,h⟩
 ·exact⟨_,[],rfl,⟨rfl,rfl,.inl rfl,afU _⟩,fun a ha=>by cases ha⟩
 ·obtain⟨l,⟨h2,h3⟩,h4,h5⟩:=ER (E:=E) (Pr:=Pr) fun el Ub=>he el (h el Ub).2
  refine⟨_,l,rfl,⟨by simpa [AV.fK] using h2,?_,.inr ⟨_,_,_,rfl⟩,om⟩,h5⟩
  show AV.fz (en els.flatten) els.length false=_
  rw [h3,←h4]; rfl
theorem sI {n:Nat}{xs:List AV}(h:Fits Tryz.prog (n+1) 3 xs):∃z:Int,xs=[.int .i64 z]:=by
 unfold Fits at h
 rw [Tryz.underlying3] at h
 obtain⟨z,rfl,_⟩:=h
 exact⟨z,rfl⟩
theorem IB {n:Nat}{xs:List AV}(h:Fits Tryz.prog (n+1) 9 xs):∃s:ByteArray,xs=[.str s]:=by
 unfold Fits at h
 rw [Tryz.underlying9] at h
 obtain⟨s,hs,_⟩:=h
 exact⟨s,hs⟩
theorem ES {n:Nat}{xs:List AV}(h:Fits Tryz.prog (n+2) 22 xs):∃x l,xs=[x]∧Gv ae x l:=by
 obtain⟨x,l,e,h,_⟩:=Nt (E:=ae) (Pr:=fun _=>True) Tryz.underlying22 h fun el h=>by
  obtain⟨z,rfl⟩:=sI h
  exact⟨z,⟨rfl,rfl⟩,trivial⟩
 exact⟨x,l,e,h⟩
theorem Nu {n:Nat}{xs:List AV}(h:Fits Tryz.prog (n+3) 57 xs):∃v:ai,Nf xs (af.f v):=by
 unfold Fits at h
 rw [Tryz.underlying57] at h
 obtain⟨a,b,rfl,_,h1,h⟩:=h
 obtain⟨c,d,rfl,_,h2,h⟩:=h
 obtain⟨e,f,rfl,_,h3,h⟩:=h
 obtain⟨g,k,rfl,_,h4,h⟩:=h
 have h:k=[]:=h
 subst h
 obtain⟨z1,rfl⟩:=sI h1
 obtain⟨z2,rfl⟩:=sI h2
 obtain⟨s,rfl⟩:=IB h3
 obtain⟨x,l,rfl,hx⟩:=ES h4
 exact⟨⟨z1,z2,s,l⟩,Nf.cons rfl rfl (Nf.cons rfl rfl (Nf.cons rfl rfl (Nf.cons hx.1 hx.2.1 Nf.nil)))⟩
theorem JM {n:Nat}{xs:List AV}(h:Fits Tryz.prog (n+4) 23 xs):∃x l,xs=[x]∧Gv af x l:=by
 obtain⟨x,l,e,h,_⟩:=Nt (E:=af) (Pr:=fun _=>True) Tryz.underlying23 h fun el h=>by
  obtain⟨v,hv⟩:=Nu h
  exact⟨v,hv,trivial⟩
 exact⟨x,l,e,h⟩
def VV (xs:List AV)(x:cH):Prop:=∃A T,xs=[.int .i64 x.fN,.int .i64 x.pV,.int .i64 x.zE,.str x.cP,A,T,.int .i64 x.rY.root]∧Gv ae A x.fO∧Gv af T x.rY.nodes
theorem Pl {n:Nat}{xs:List AV}(h:Fits Tryz.prog (n+6) 27 xs):∃x,VV xs x:=by
 unfold Fits at h
 rw [Tryz.underlying27] at h
 obtain⟨a,b,rfl,_,h1,h⟩:=h
 obtain⟨c,d,rfl,_,h2,h⟩:=h
 obtain⟨e,f,rfl,_,h3,h⟩:=h
 obtain⟨g,k,rfl,_,h4,h⟩:=h
 obtain⟨i,j,rfl,_,h5,h⟩:=h
 obtain⟨o,p,rfl,_,h6,h⟩:=h
 have h:p=[]:=h
 subst h
 obtain⟨z1,rfl⟩:=sI h1
 obtain⟨z2,rfl⟩:=sI h2
 obtain⟨z3,rfl⟩:=sI h3
 obtain⟨s,rfl⟩:=IB h4
 obtain⟨x,l,rfl,hx⟩:=ES h5
 have h6:Fits Tryz.prog (n+5) 25 o:=h6
 unfold Fits at h6
 rw [Tryz.underlying25] at h6
 obtain⟨q,r,rfl,_,h7,h6⟩:=h6
 obtain⟨t,u,rfl,_,h8,h6⟩:=h6
 have h6:u=[]:=h6
 subst h6
 obtain⟨y,ns,rfl,hy⟩:=JM h7
 obtain⟨z4,rfl⟩:=sI h8
 exact⟨⟨z1,z2,z3,s,l,⟨ns,z4⟩⟩,x,y,rfl,hx,hy⟩
theorem Pm {n:Nat}{xs:List AV}(h:Fits Tryz.prog (n+6) 27 xs):∃x:cH,∀hp,mc 10 hp (nj Tryz.prog 27 xs) (.agg (fa.f x)):=by
 obtain⟨x,A,T,rfl,hA,hT⟩:=Pl h
 have e1:nj Tryz.prog 27 [.int .i64 x.fN,.int .i64 x.pV,.int .i64 x.zE,.str x.cP,A,T,.int .i64 x.rY.root] = .agg [.int .i64 x.fN,.int .i64 x.pV,.int .i64 x.zE,.str x.cP,A,T,.int .i64 x.rY.root]:=by unfold nj; rw [Tryz.underlying27]
 rw [e1]
 exact⟨x,fun hp=>(oO (ao bP (ao bP (ao bP (ao oN (ao (hA.fr hp) (ao (hT.fr hp) (ao bP aJ)))))))).mono (by decide)⟩
theorem Nv {n:Nat}{xs:List AV}(h:Fits Tryz.prog (n+1) 5 xs):∃z:Int,(0≤z∧z≤255)∧∀hp,mc 10 hp (nj Tryz.prog 5 xs) (.int .u8 z):=by
 unfold Fits at h
 rw [Tryz.underlying5] at h
 obtain⟨z,rfl,h1,h2⟩:=h
 have e1:nj Tryz.prog 5 [.int .u8 z] = .int .u8 z:=by unfold nj; rw [Tryz.underlying5]; rfl
 rw [e1]
 exact⟨z,⟨h1,h2⟩,fun hp=>bP.mono (by decide)⟩
theorem JN {P:Program}{m:Nat}{t u:TypeId}{Bz:List AV}(h:tq P m [t,u] Bz):∃xs ys,Bz=[nj P t xs,nj P u ys]∧Fits P m t xs∧Fits P m u ys:=by
 match Bz,h with
 | [_,_],⟨⟨xs,h1,f1⟩,⟨ys,h2,f2⟩,_⟩=>exact⟨xs,ys,by rw [h1,h2],f1,f2⟩
end Go.Proofs.YtifafejidnjckaaGreat
namespace Go.R
open Go
def Qh:AHeap:={get:=fun _=>none,ver:=fun _=>0,next:=2}
section
variable {P:Program}
theorem alone {cf:CallF}(hcf:CallOK P cf){f:FuncId}{us:List AV}{h0:AHeap}{r1:AV}{h1:AHeap}(hx:cf f us h0=some (r1,h1))(hg:∀id,h0.get id=none)(NT:∀id,h0.ver id<h0.next)
  {L0:Nat→Prop} {c:Cx} {vs:List Value} (hb0:c.base≤c.w.heap.size) (hrel:HRel c L0) (xT:VRs ⟨fun _=>(0,0),h0,c.w,c.w.heap.size⟩ L0 us vs) {r:AV} (hr:∀(c1 d:Cx) (v:Value),VR c1 L0 r1 v→VR d L0 r v) :
  Calls P f vs.toArray c.w fun e w'=>∃c' v,e = .returned v∧c'.w=w'∧c'.h=c.h∧VR c' L0 r v∧HRel c' L0∧Ext c none0 c' none0:=by
 obtain⟨hin,hcall⟩:=hcf f us h0 r1 h1 hx
 let c0:Cx:=⟨fun _=>(0,0),h0,c.w,c.w.heap.size⟩
 have hnl:∀id,¬Live c0.h id:=fun id hl=>by have:=hl.2; rw [show c0.h.get id=none from hg id] at this; cases this
 have w7:∀id o,¬c0.h.get id=some o:=fun id o ho=>by rw [show c0.h.get id=none from hg id] at ho; cases ho
 have xS:HRel c0 L0:=⟨fun id o ho=>absurd ho (w7 id o),fun id o ho=>absurd ho (w7 id o),fun id _ hl _ _=>absurd hl (hnl id),fun id hl=>absurd hl (hnl id),hrel.bd,fun id hl=>absurd hl (hnl id),NT⟩
 refine (hcall L0 c0 vs rfl (ae4 _) xS xT).mono ?_
 rintro e w' ⟨c1,v,rfl,rfl,SX,hv,hrel1,e1⟩
 let d:Cx:=⟨c.β,c.h,c1.w,c.base⟩
 have hk:∀b,b<c.w.heap.size→c1.w.heap[b]? = c.w.heap[b]?:=fun b hb=>e1.exact b hb
 have ed:Ext c none0 d none0:=⟨ae4 _,fun id _ hl=>⟨hl,rfl,jY.len (c:=c) (c':=d) (.inl (hk _ (hrel.block hl)))⟩,e1.size,fun b hb _ _=>.inl (hk b hb),fun b hb=>hk b (afx hb hb0),rfl,fun id hl=>.inr ⟨id,hl,rfl⟩,fun _ h=>h,fun _ h=>.inl h,e1.os,e1.tape,e1.output⟩
 refine⟨d,v,rfl,rfl,rfl,hr c1 d v hv,⟨hrel.lt,fun id o ho=>?_,hrel.inj,hrel.out,fun b hb=>afx (hrel.bd b hb) e1.size,hrel.low,hrel.ver⟩,ed⟩
 have hl:Live c.h id:=⟨hrel.lt _ _ ho,by rw [ho]; rfl⟩
 have:=(hrel.obj id o ho)
 have h2:=sV.ext (L0:=L0) ed (b:=(c.β id).1) (base:=(c.β id).2) (o:=o) (by rw [j6]; exact this) (hk _ (hrel.block hl))
 rw [j6] at h2
 exact h2
def SF (P:Program)(t:TypeId)(z:Nat):Bool:=
 match P.underlying t with
 | some (.slice e)=>match P.info? e with
  | some i=>afN i.size z&&agB i.bytes 1000&&Pv i
  | none=>false
 | _=>false
theorem ET {t:TypeId}{z:Nat}(T:SF P t z=true)(hz:z≠0){h:AHeap}{x:AV}{n:Nat}{cs:List AV}(hn:n≠0)(hb:n*1024≤1099511627776)(hx:eY h z x=some (cs,n))(hs:kB P t x=true):dM P h t t (.fz [] 0 true) x=some (.rs h.next 0 n z,h.alloc (.cells cs)):=by
 unfold SF at T
 split at T
 rotate_left
 ·cases T
 rename_i e he
 split at T
 rotate_left
 ·cases T
 rename_i i hi
 simp only [ae3] at T
 obtain⟨⟨h1,h2⟩,h3⟩:=T
 have h1:=agd h1
 have h2:=Nat.le_of_ble_eq_true h2
 subst h1
 have hq:n*i.bytes≤n*1000:=Nat.mul_le_mul_left n h2
 simp only [dM,he,aeZ,hi,hx]
 rw [if_neg (by simp [hz,hs,h3]),if_neg (by simp only [ia,aft,afi]; omega),if_neg hn]
 simp
theorem AZ {z:Nat}:∀args h r h',EZ z args h=some (r,h')→Steady h h':=by
 intro args h r h' hs
 unfold EZ at hs
 split at hs
 ·cases hs; exact Steady.refl _
 ·split at hs
  ·cases hs; exact Steady.refl _
  ·split at hs
   ·cases hs; exact Steady.put _ _ _
   ·cases hs
 ·split at hs
  ·cases hs; exact Steady.refl _
  ·rw [ae0] at hs
   obtain⟨ob,_,hs⟩:=hs
   split at hs
   ·split at hs
    ·cases hs; exact Steady.put _ _ _
    ·cases hs
   ·cases hs
 ·cases hs
theorem Qi {cf:CallF}(hcf:CallOK P cf){F:FuncId}{t:TypeId}{z:Nat}(T:SF P t z=true)(hz:z≠0)
  (h0:cf F [.nils] bC=some (.nils,bC)) (h1:cf F [.rs 1 0 0 z] Qh=some (.rs 0 0 0 z,Qh))
  (h2:∀(c:AV) (cs:List AV) (n:Nat) (ex:Bool) (h:AHeap) (i k w:Nat) (h':AHeap),dM P h t t (.fz [] 0 true) (.fz (c::cs) n ex)=some (.rs i 0 k w,h')→cf F [.fz (c::cs) n ex] h=some (.rs i 0 k w,h'))
  (h3:∀(j n q:Nat) (h:AHeap) (i k w:Nat) (h':AHeap),dM P h t t (.fz [] 0 true) (.rs (j+1) 0 n q)=some (.rs i 0 k w,h')→cf F [.rs (j+1) 0 n q] h=some (.rs i 0 k w,h'))
  (iD:∀x,(∀st,x≠.str st)→kB P t x=true) :
  CallOK P fun f' args h=>if f'=F then EZ z args h else none:=by
 intro f args h r h' hc
 dsimp only at hc
 split at hc
 rotate_left
 ·cases hc
 rename_i hf
 subst hf
 refine⟨(hcf f _ _ _ _ h0).1,fun L0 c vs hh hb0 hrel hargs=>?_⟩
 have empty:∀(v:Value),(∃a cap,v = .slice a 0 cap∧(a=none→cap=0))→Calls P f #[v] c.w fun e w'=>∃c' v,e = .returned v∧c'.w=w'∧c'.h=c.h∧VR c' L0 (.rs 0 0 0 z) v∧HRel c' L0∧Ext c none0 c' none0:=by
  rintro v ⟨a,cap,rfl,ha⟩
  cases a with
  | none=>
   have:=ha rfl
   subst this
   refine alone (vs:=[.slice none 0 0]) hcf h0 (fun _=>rfl) (fun _=>agD) hb0 hrel ⟨rfl,trivial⟩ (fun c1 d v hv=>?_)
   simp only [VR] at hv ⊢
   exact .inl ⟨trivial,trivial,trivial,none,hv⟩
  | some ad=>
   refine alone (vs:=[.slice (some ad) 0 cap]) hcf h1 (fun _=>rfl) (fun _=>Nat.zero_lt_succ 1) hb0 hrel ⟨?_,trivial⟩ (fun c1 d v hv=>?_)
   ·simp only [VR]
    exact .inr ⟨by decide,by decide,some ad,cap,rfl,afU _,rfl,fun hl=>by have:=hl.2; cases this⟩
   ·simp only [VR] at hv ⊢
    rcases hv with hv | hv
    ·exact .inl hv
    ·exact absurd rfl hv.1
 match args,vs,hargs with
 | [],_,_=>simp [EZ] at hc
 | x::y::l,_,_=>cases x<;>simp [EZ] at hc
 | [x],[v],hargs=>
  have hx:VR c L0 x v:=hargs.1
  cases x<;>simp only [EZ] at hc<;>try (cases hc; done)
  ·cases hc
   simp only [VR] at hx
   rw [←hh]
   exact empty v ⟨none,0,hx,fun _=>rfl⟩
  ·rename_i cs n ex
   split at hc
   ·rename_i hn
    cases hc
    subst hn
    simp only [VR] at hx
    obtain⟨a,cap,e,_,_,hs,_⟩:=hx
    rw [←hh]
    refine empty v ⟨a,cap,e,fun ha=>?_⟩
    rcases hs with hs | hs
    ·rw [ha] at hs; cases hs
    ·exact hs.2
   ·rename_i hn
    split at hc
    rotate_left
    ·cases hc
    rename_i hq
    cases hc
    cases cs with
    | nil=>
     have h4:0=n*z:=hq.1
     rcases Nat.mul_eq_zero.1 h4.symm with h5 | h5
     ·exact absurd h5 hn
     ·exact absurd h5 hz
    | cons c1 cs=>
     have Qq:eY h z (.fz (c1::cs) n ex)=some ((c1::cs).map mo,n):=by
      simp only [eY,fi]; rw [if_pos hq.1]; rfl
     have:=h2 c1 cs n ex h _ _ _ _ (ET T hz hn hq.2 Qq (iD _ (by rintro st h; cases h)))
     exact (hcf _ _ _ _ _ this).2 L0 c [v] hh hb0 hrel ⟨hx,trivial⟩
  ·rename_i id off n q
   cases off with
   | succ off=>simp [EZ] at hc
   | zero=>
   simp only [EZ] at hc
   split at hc
   ·rename_i hn
    cases hc
    subst hn
    simp only [VR] at hx
    rw [←hh]
    rcases hx with⟨_,_,_,a,e⟩| ⟨_,_,a,cap,e,_,hs,_⟩
    ·exact empty v ⟨a,0,e,fun _=>rfl⟩
    ·refine empty v ⟨a,cap,e,fun ha=>?_⟩
     rw [ha] at hs; cases hs
   ·rename_i hn
    rw [ae0] at hc
    obtain⟨ob,ho,hc⟩:=hc
    split at hc
    rotate_left
    ·cases hc
    rename_i cs
    split at hc
    rotate_left
    ·cases hc
    rename_i hq
    cases hc
    have hid:id≠0:=by
     simp only [VR] at hx
     rcases hx with hx | hx
     ·exact absurd hx.2.2.1 hn
     ·exact hx.1
    obtain⟨j,rfl⟩:∃j,id=j+1:=⟨id - 1,by omega⟩
    have Qq:eY h z (.rs (j+1) 0 n q)=some ((cs.take (n*z)).map mo,n):=by
     simp only [eY,fi]
     rw [if_neg (fun hz=>hz.elim hid fun hz=>hn hz.1),ho]
     simp only [aeZ]
     rw [if_pos ⟨hq.1,by omega⟩,afw]; rfl
    have:=h3 j n q h _ _ _ _ (ET T hz hn hq.2.2 Qq (iD _ (by rintro st h; cases h)))
    exact (hcf _ _ _ _ _ this).2 L0 c [v] hh hb0 hrel ⟨hx,trivial⟩
 | [x],[],hargs=>exact hargs.elim
 | [x],_::_::_,hargs=>exact hargs.2.elim
end
end Go.R
namespace Go.Proofs.YtifafejidnjckaaGreat
open Go Go.R Go.Shelf
open Go.IntKind (i64 u64 u8 u32)
theorem fits:Fit Tryz.prog:=QL kr kr
def SG:Ren:={f:=(fun x=>match x with | 189=>66 | 125=>100 | 257=>99 | 128=>125 | 129=>126 | 294=>116 | 295=>117 | 296=>118 | 297=>119 | 298=>120 | 299=>121 | 216=>122 | 300=>123 | 301=>124 | 328=>135 | 329=>136 | 330=>137 | 331=>138 | 332=>139 | 215=>140 | 343=>147 | n=>n),t:=(fun x=>match x with | 28=>22 | 3=>3 | 46=>106 | 0=>0 | 51=>131 | 53=>133 | 4=>4 | 183=>124 | 182=>123 | 131=>102 | 5=>5 | 9=>9 | 218=>139 | 222=>143 | 228=>150 | 229=>151 | n=>n),g:=(fun n=>n)}
theorem VW:Lays.n189 Tryz.prog SG:={
 mixed:=by kernel_rfl,
 f125:=Tryz.func100.trans (congrArg some kr),
 f128:=Tryz.func125.trans (congrArg some kr),
 f129:=Tryz.func126.trans (congrArg some kr),
 f189:=Tryz.func66.trans (congrArg some kr),
 f215:=Tryz.func140.trans (congrArg some kr),
 f216:=Tryz.func122.trans (congrArg some kr),
 f257:=Tryz.func99.trans (congrArg some kr),
 f294:=Tryz.func116.trans (congrArg some kr),
 f295:=Tryz.func117.trans (congrArg some kr),
 f296:=Tryz.func118.trans (congrArg some kr),
 f297:=Tryz.func119.trans (congrArg some kr),
 f298:=Tryz.func120.trans (congrArg some kr),
 f299:=Tryz.func121.trans (congrArg some kr),
 f300:=Tryz.func123.trans (congrArg some kr),
 f301:=Tryz.func124.trans (congrArg some kr),
 f328:=Tryz.func135.trans (congrArg some kr),
 f329:=Tryz.func136.trans (congrArg some kr),
 f330:=Tryz.func137.trans (congrArg some kr),
 f331:=Tryz.func138.trans (congrArg some kr),
 f332:=Tryz.func139.trans (congrArg some kr),
 f343:=Tryz.func147.trans (congrArg some kr),
 t0:=Tryz.underlying0,
 a0:=Tryz.isAgg0,
 z0:=Tryz.sizeOf0,
 v0:=Tryz.zeroValue0,
 t3:=Tryz.underlying3,
 a3:=Tryz.isAgg3,
 z3:=Tryz.sizeOf3,
 v3:=Tryz.zeroValue3,
 t4:=Tryz.underlying4,
 a4:=Tryz.isAgg4,
 z4:=Tryz.sizeOf4,
 v4:=Tryz.zeroValue4,
 t5:=Tryz.underlying5,
 a5:=Tryz.isAgg5,
 z5:=Tryz.sizeOf5,
 v5:=Tryz.zeroValue5,
 t9:=Tryz.underlying9,
 a9:=Tryz.isAgg9,
 z9:=Tryz.sizeOf9,
 v9:=Tryz.zeroValue9,
 t28:=Tryz.underlying22,
 a28:=Tryz.isAgg22,
 z28:=Tryz.sizeOf22,
 v28:=Tryz.zeroValue22,
 t46:=Tryz.underlying106,
 a46:=Tryz.isAgg106,
 z46:=Tryz.sizeOf106,
 v46:=Tryz.zeroValue106,
 t51:=Tryz.underlying131,
 a51:=Tryz.isAgg131,
 z51:=Tryz.sizeOf131,
 v51:=Tryz.zeroValue131,
 t53:=Tryz.underlying133,
 a53:=Tryz.isAgg133,
 z53:=Tryz.sizeOf133,
 v53:=Tryz.zeroValue133,
 t131:=Tryz.underlying102,
 a131:=Tryz.isAgg102,
 z131:=Tryz.sizeOf102,
 v131:=Tryz.zeroValue102,
 t182:=Tryz.underlying123,
 a182:=Tryz.isAgg123,
 z182:=Tryz.sizeOf123,
 v182:=Tryz.zeroValue123,
 t183:=Tryz.underlying124,
 a183:=Tryz.isAgg124,
 z183:=Tryz.sizeOf124,
 v183:=Tryz.zeroValue124,
 t218:=Tryz.underlying139,
 a218:=Tryz.isAgg139,
 z218:=Tryz.sizeOf139,
 v218:=Tryz.zeroValue139,
 t222:=Tryz.underlying143,
 a222:=Tryz.isAgg143,
 z222:=Tryz.sizeOf143,
 v222:=Tryz.zeroValue143,
 t228:=Tryz.underlying150,
 a228:=Tryz.isAgg150,
 z228:=Tryz.sizeOf150,
 v228:=Tryz.zeroValue150,
 t229:=Tryz.underlying151,
 a229:=Tryz.isAgg151,
 z229:=Tryz.sizeOf151,
 v229:=Tryz.zeroValue151}
theorem SH:∀(vs:Array Value) (w:World),(callFunc (SG.f 189) vs).run Tryz.prog w = .ok (.enter (SG.f 189) vs) w:=
 qm (c:=bA Tryz.f66) Tryz.func66 kr (by decide +kernel)
def vo:bX:=gP [0,2,4] [] [] [] []
def sb:rM:={aX:=fun _=>vo,intr:=fun _=>none,pure:=fun _=>none}
noncomputable def VX:CallF:=ba Tryz.prog sb.aX (gK Tryz.prog sb 10 0) 10
theorem Nw:CallOK Tryz.prog VX:=Di fits (tm fits rr 10 0) (Dm fits.mixed (tm fits rr 10 0) (oJ rr 10 0)) 10
theorem Pn (c:AV)(cs:List AV)(n:Nat)(ex:Bool)(h:AHeap)(i k w:Nat)(h':AHeap)(e:dM Tryz.prog h 22 22 (.fz [] 0 true) (.fz (c::cs) n ex)=some (.rs i 0 k w,h')):VX 37 [.fz (c::cs) n ex] h=some (.rs i 0 k w,h'):=by
 have key:∃r h2,ba Tryz.prog sb.aX (gK Tryz.prog sb 10 0) 10 37 [.fz (c::cs) n ex] h=some (r,h2)∧r = .rs i 0 k w∧h2=h':=by
  refine ax (fn:=Tryz.f37) (A:=vo) rfl Tryz.func37 kr kr ?_
  refine aI (Q:=fun s=>aM Tryz.prog (s.open vo) Tryz.f37.results.toList=some (.rs i 0 k w)∧s.h=h') (fun _ _ ⟨h1,h2,h3⟩=>⟨h1,_,h2,rfl,h3⟩) ?_
  show dB _ _ vo _ _ ⟨[.fz (c::cs) n ex,.any,.any],[],h⟩ _
  refine q1 <| qq <| q1 <| zD <| qk <| qs [.a 2 e] <| qt <| ⟨.inl rfl,by kernel_rfl,by kernel_rfl⟩
 obtain⟨r,h2,hb,rfl,rfl⟩:=key
 exact hb
theorem Po (j n q:Nat)(h:AHeap)(i k w:Nat)(h':AHeap)(e:dM Tryz.prog h 22 22 (.fz [] 0 true) (.rs (j+1) 0 n q)=some (.rs i 0 k w,h')):VX 37 [.rs (j+1) 0 n q] h=some (.rs i 0 k w,h'):=by
 have key:∃r h2,ba Tryz.prog sb.aX (gK Tryz.prog sb 10 0) 10 37 [.rs (j+1) 0 n q] h=some (r,h2)∧r = .rs i 0 k w∧h2=h':=by
  refine ax (fn:=Tryz.f37) (A:=vo) rfl Tryz.func37 kr kr ?_
  refine aI (Q:=fun s=>aM Tryz.prog (s.open vo) Tryz.f37.results.toList=some (.rs i 0 k w)∧s.h=h') (fun _ _ ⟨h1,h2,h3⟩=>⟨h1,_,h2,rfl,h3⟩) ?_
  show dB _ _ vo _ _ ⟨[.rs (j+1) 0 n q,.any,.any],[],h⟩ _
  refine q1 <| qq <| q1 <| zD <| qk <| qs [.a 2 e] <| qt <| ⟨.inl rfl,by kernel_rfl,by kernel_rfl⟩
 obtain⟨r,h2,hb,rfl,rfl⟩:=key
 exact hb
theorem VY:∀x,(∀st,x≠.str st)→kB Tryz.prog 22 x=true:=by
 intro x hx
 cases x<;>first | exact absurd rfl (hx _) | kernel_rfl
theorem Pp:CallOK Tryz.prog fun f args h=>if f=37 then EZ 1 args h else none:=
 Qi Nw (F:=37) (t:=22) (z:=1) kr (by decide) kr kr Pn Po VY
theorem Pq (c:AV)(cs:List AV)(n:Nat)(ex:Bool)(h:AHeap)(i k w:Nat)(h':AHeap)(e:dM Tryz.prog h 23 23 (.fz [] 0 true) (.fz (c::cs) n ex)=some (.rs i 0 k w,h')):VX 51 [.fz (c::cs) n ex] h=some (.rs i 0 k w,h'):=by
 have key:∃r h2,ba Tryz.prog sb.aX (gK Tryz.prog sb 10 0) 10 51 [.fz (c::cs) n ex] h=some (r,h2)∧r = .rs i 0 k w∧h2=h':=by
  refine ax (fn:=Tryz.f51) (A:=vo) rfl Tryz.func51 kr kr ?_
  refine aI (Q:=fun s=>aM Tryz.prog (s.open vo) Tryz.f51.results.toList=some (.rs i 0 k w)∧s.h=h') (fun _ _ ⟨h1,h2,h3⟩=>⟨h1,_,h2,rfl,h3⟩) ?_
  show dB _ _ vo _ _ ⟨[.fz (c::cs) n ex,.any,.any],[],h⟩ _
  refine q1 <| qq <| q1 <| zD <| qk <| qs [.a 2 e] <| qt <| ⟨.inl rfl,by kernel_rfl,by kernel_rfl⟩
 obtain⟨r,h2,hb,rfl,rfl⟩:=key
 exact hb
theorem Pt (j n q:Nat)(h:AHeap)(i k w:Nat)(h':AHeap)(e:dM Tryz.prog h 23 23 (.fz [] 0 true) (.rs (j+1) 0 n q)=some (.rs i 0 k w,h')):VX 51 [.rs (j+1) 0 n q] h=some (.rs i 0 k w,h'):=by
 have key:∃r h2,ba Tryz.prog sb.aX (gK Tryz.prog sb 10 0) 10 51 [.rs (j+1) 0 n q] h=some (r,h2)∧r = .rs i 0 k w∧h2=h':=by
  refine ax (fn:=Tryz.f51) (A:=vo) rfl Tryz.func51 kr kr ?_
  refine aI (Q:=fun s=>aM Tryz.prog (s.open vo) Tryz.f51.results.toList=some (.rs i 0 k w)∧s.h=h') (fun _ _ ⟨h1,h2,h3⟩=>⟨h1,_,h2,rfl,h3⟩) ?_
  show dB _ _ vo _ _ ⟨[.rs (j+1) 0 n q,.any,.any],[],h⟩ _
  refine q1 <| qq <| q1 <| zD <| qk <| qs [.a 2 e] <| qt <| ⟨.inl rfl,by kernel_rfl,by kernel_rfl⟩
 obtain⟨r,h2,hb,rfl,rfl⟩:=key
 exact hb
theorem VZ:∀x,(∀st,x≠.str st)→kB Tryz.prog 23 x=true:=by
 intro x hx
 cases x<;>first | exact absurd rfl (hx _) | kernel_rfl
theorem Pu:CallOK Tryz.prog fun f args h=>if f=51 then EZ 4 args h else none:=
 Qi Nw (F:=51) (t:=23) (z:=4) kr (by decide) kr kr Pq Pt VZ
noncomputable def Qj:FuncId→Option (List AV→AHeap→Option (AV × AHeap)):=fun f=>if f=66 then some Ri else if f=37 then some (EZ 1) else if f=51 then some (EZ 4) else none
theorem Nx:IntrOK Tryz.prog Qj:=intr_cons (f0:=66) (Ur VW SH) Jf (intr_cons (f0:=37) Pp AZ (intr_cons (f0:=51) Pu AZ rr))
end Go.Proofs.YtifafejidnjckaaGreat
namespace Go.Proofs.YtifafejidnjckaaGreat
open Go Go.R
open Go.IntKind (i64 u64 u8 u32)
def cy:Nat→bX
 | 3=>Pj
 | 8=>Lv
 | 9=>{keep:=[0,1,2,3,4,5,6,7,8,9,10,11,12,13,14,16,17,19,22,25],aS:=[]}
 | 10=>Ay
 | 11=>Ea
 | 12=>HY
 | 13=>Hn
 | 14=>Ho
 | 16=>Ha
 | 17=>Hb
 | 22=>yW
 | 23=>Eb
 | 25=>HX
 | 29=>HH
 | 30=>Hp
 | 31=>HO
 | 32=>gP [0,1,4,5,6,12] [] [60,44,12,51,51] [] []
 | 33=>HI
 | 34=>Hq
 | 35=>DO
 | 36=>HP
 | 38=>D8
 | 39=>HQ
 | 40=>HR
 | 41=>HS
 | 42=>HJ
 | 43=>HT
 | 44=>Hz
 | 45=>HU
 | 46=>Az
 | 47=>HA
 | 48=>HB
 | 49=>Hc
 | 50=>Hd
 | 59=>HC
 | 62=>HW
 | 63=>DW
 | 65=>He
 | 66=>{keep:=[0,2],aS:=[]}
 | 68=>Au
 | 69=>DQ
 | 70=>Hr
 | 71=>Hf
 | 72=>Hg
 | 73=>HK
 | 74=>HD
 | 75=>DS
 | 76=>Hh
 | 77=>Hs
 | 78=>HL
 | 79=>HE
 | 80=>HF
 | 81=>HM
 | 82=>HG
 | 83=>Ht
 | 84=>Hu
 | 85=>Hi
 | 86=>Hv
 | 87=>Hj
 | 88=>HV
 | 89=>Hk
 | 90=>tJ
 | 91=>DT
 | 94=>Hl
 | 95=>Hm
 | 96=>tS
 | 97=>DU
 | 98=>DV
 | 103=>Ca
 | 105=>BR
 | 106=>BS
 | 107=>BT
 | 108=>yK
 | 109=>yB
 | 110=>BV
 | 111=>yM
 | 112=>lZ
 | 113=>BW
 | 114=>Ch
 | 115=>Cb
 | 127=>B7
 | 128=>yC
 | 129=>B8
 | 130=>BX
 | 131=>BY
 | 132=>uO
 | 133=>mP
 | 134=>sE
 | 140=>BZ
 | 141=>B0
 | 142=>yE
 | 143=>yN
 | 144=>yF
 | 145=>uS
 | 146=>pd
 | 148=>yO
 | 149=>yG
 | _=>{keep:=[],aS:=[]}
def a6:Nat:=18014398509481984
theorem a7:jx+b5≤a6:=by decide
def V0:Nat→Option Nat
 | 3=>some a6
 | 8=>some a6
 | 9=>some a6
 | 13=>some a6
 | 14=>some a6
 | 23=>some a6
 | 25=>some a6
 | 32=>some a6
 | 35=>some a6
 | 36=>some a6
 | 38=>some a6
 | 48=>some a6
 | 49=>some a6
 | 50=>some a6
 | 59=>some a6
 | 62=>some a6
 | 65=>some a6
 | 70=>some a6
 | 72=>some a6
 | 73=>some a6
 | 74=>some a6
 | 75=>some a6
 | 76=>some a6
 | 77=>some a6
 | 78=>some a6
 | 79=>some a6
 | 80=>some a6
 | 82=>some a6
 | 83=>some a6
 | 84=>some a6
 | 85=>some a6
 | 86=>some a6
 | 87=>some a6
 | 88=>some a6
 | 89=>some a6
 | 90=>some a6
 | 91=>some a6
 | 94=>some a6
 | 95=>some a6
 | 96=>some a6
 | 98=>some a6
 | 103=>some a6
 | 105=>some a6
 | 107=>some a6
 | 108=>some a6
 | 109=>some a6
 | 110=>some a6
 | 111=>some a6
 | 112=>some a6
 | 113=>some a6
 | 115=>some a6
 | 127=>some a6
 | 128=>some a6
 | 129=>some a6
 | 130=>some a6
 | 131=>some a6
 | 132=>some a6
 | 133=>some a6
 | 140=>some a6
 | 141=>some a6
 | 142=>some a6
 | 143=>some a6
 | 144=>some a6
 | _=>none
def SI:Nat→Bool
 | 25=>true
 | 62=>true
 | 70=>true
 | 90=>true
 | 91=>true
 | _=>false
def M:Nat:=18446744073709551616
noncomputable def bp:rM:={aX:=cy,intr:=Qj,pure:=V0,gm:=SI}
noncomputable def cD:CallF:=lk Tryz.prog bp M
theorem SJ:CallOK Tryz.prog cD:=La fits (T:=bp) Nx
theorem j66:S66 cD M:=fun args h=>yk (T:=bp) rfl
theorem j37:UA cD M:=fun args h=>yk (T:=bp) rfl
theorem JO:(ba Tryz.prog cy (gK Tryz.prog bp M 98) M 9 [] bC).map (fun x=>x.1)=some (.bool true):=by kernel_rfl
theorem j9:S9 cD M:=by
 intro r H h xs hx
 have H:some true=some r:=H
 cases H
 obtain⟨⟨x,h'⟩,hb,e⟩:=ae1.1 JO
 dsimp only at e
 subst e
 obtain⟨l,h1,h2⟩:=mj (P:=Tryz.prog) cy M 9 [] bC _ _ hb
 have hb:=h2 cD fun e he=>nT.2 ⟨_,h1 e he⟩
 exact bj (T:=bp) (deep:=a6) rfl rfl rfl a7 hx ⟨_,_,hb,vP (kl)⟩
theorem j8:S8 cD M:=by
 intro l0 r H  h xs hx
 exact bj (T:=bp) (deep:=a6) rfl rfl rfl a7 hx (uJ (cf:=cD) (m:=M) (aX:=cy) rfl  l0 bC []   aW H)
theorem j16:S16 cD M:=by
 intro  r H h L   o  xs hx
 obtain⟨r',h',hb,du,dv,dw,rfl,ho⟩:=yu (cf:=cD) (m:=M) (aX:=cy) rfl   h L  o H
 exact⟨du,dv,dw,h',gG (T:=bp) rfl rfl hx hb,ho⟩
theorem j17:S17 cD M:=by
 intro  r H h L   o  xs hx
 obtain⟨r',h',hb,du,dv,dw,rfl,ho⟩:=yv (cf:=cD) (m:=M) (aX:=cy) rfl   h L  o H
 exact⟨du,dv,dw,h',gG (T:=bp) rfl rfl hx hb,ho⟩
theorem j35:S35 cD M:=by
 intro a0 b0 r H  h xs hx
 exact bj (T:=bp) (deep:=a6) rfl rfl rfl a7 hx (wD (cf:=cD) (m:=M) (aX:=cy) rfl  a0 b0 bC []   aW H)
theorem Wx:UB cD M:=by
 intro s0 r H  h xs hx
 exact bj (T:=bp) (deep:=a6) rfl rfl rfl a7 hx (pE (cf:=cD) (m:=M) (aX:=cy) rfl  s0 bC []   aW H)
theorem V1:S4 cD M:=by
 intro s0 r H  h xs hx
 exact bj (T:=bp) (deep:=a6) rfl rfl rfl a7 hx (pF (cf:=cD) (m:=M) (aX:=cy) rfl  s0 bC []   aW H)
theorem j65:XB cD M:=by
 intro s0 n0 r H  h xs hx
 exact bj (T:=bp) (deep:=a6) rfl rfl rfl a7 hx (pG (cf:=cD) (m:=M) (aX:=cy) rfl  s0 n0 bC []   aW H)
theorem j69:XC cD M:=by
 intro s0 aU r H h L  aq ak az o  xs hx
 obtain⟨r',h',hb,aB,aC,rfl,ho⟩:=pH (cf:=cD) (m:=M) (aX:=cy) rfl  s0 aU h L aq ak az  o H
 exact⟨aB,aC,h',gG (T:=bp) rfl rfl hx hb,ho⟩
theorem V2:S5 cD M:=by
 intro s0 Lw n0 r H h L  aq ak az o gQ bc cU yy jQ tD jR xs hx
 obtain⟨r',h',hb,aB,aC,rfl,ho⟩:=qE (cf:=cD) (m:=M) (aX:=cy) rfl Wx s0 Lw n0 h L aq ak az gQ bc cU  yy jQ tD jR o H
 exact⟨aB,aC,h',gG (T:=bp) rfl rfl hx hb,ho⟩
theorem j72:S72 cD M:=by
 intro  r H  h xs hx
 exact bj (T:=bp) (deep:=a6) rfl rfl rfl a7 hx (oV (cf:=cD) (m:=M) (aX:=cy) rfl   bC []   aW H)
theorem j75:XD cD M:=by
 intro s0 n0 r H  h xs hx
 exact bj (T:=bp) (deep:=a6) rfl rfl rfl a7 hx (qG (cf:=cD) (m:=M) (aX:=cy) rfl  s0 n0 bC []   aW H)
theorem j76:S76 cD M:=by
 intro x0 r H  h xs hx
 exact bj (T:=bp) (deep:=a6) rfl rfl rfl a7 hx (oW (cf:=cD) (m:=M) (aX:=cy) rfl  x0 bC []   aW H)
theorem j85:XE cD M:=by
 intro s0 n0 r H  h xs hx
 exact bj (T:=bp) (deep:=a6) rfl rfl rfl a7 hx (oX (cf:=cD) (m:=M) (aX:=cy) rfl  s0 n0 bC []   aW H)
theorem j87:XF cD M:=by
 intro s0 r H  h xs hx
 exact bj (T:=bp) (deep:=a6) rfl rfl rfl a7 hx (wF (cf:=cD) (m:=M) (aX:=cy) rfl  s0 bC []   aW H)
theorem j89:XG cD M:=by
 intro s0 n0 r H  h xs hx
 exact bj (T:=bp) (deep:=a6) rfl rfl rfl a7 hx (qH (cf:=cD) (m:=M) (aX:=cy) rfl  s0 n0 bC []   aW H)
theorem j91:XH cD M:=by
 intro s0 b8 r H  h L xs o hx
 obtain⟨r',h',hb,du,rfl,ho⟩:=oY (cf:=cD) (m:=M) (aX:=cy) rfl  s0 b8 bC []   aW H
 exact⟨rX h.next du,_,qC (T:=bp) (deep:=a6) rfl rfl rfl a7 hx hb (An),Has.gm o ho (G8 (fun _=>rfl) (.nil)),nV _ _⟩
theorem j94:Ta cD M:=by
 intro a0 b0 r H  h xs hx
 exact bj (T:=bp) (deep:=a6) rfl rfl rfl a7 hx (uL (cf:=cD) (m:=M) (aX:=cy) rfl  a0 b0 bC []   aW H)
theorem j95:S95 cD M:=by
 intro n0 x0 r H  h xs hx
 exact bj (T:=bp) (deep:=a6) rfl rfl rfl a7 hx (nC (cf:=cD) (m:=M) (aX:=cy) rfl j85 n0 x0 bC []   aW H)
theorem j97:∀kk,Wg cD M kk
 | 0=>by
  intro i0 x0 x1 x2 x3 r H h L  eW fm eX ez gd gH fb eQ o  xs hx
  cases H
 | kk+1=>by
  intro i0 x0 x1 x2 x3 r H h L  eW fm eX ez gd gH fb eQ o  xs hx
  obtain⟨r',h',hb,pw,ko,rfl,ho⟩:=tE (cf:=cD) (m:=M) (aX:=cy) rfl  i0 x0 x1 x2 x3 h L eW fm eX ez gd gH fb eQ  (j97 kk) o H
  exact⟨pw,ko,h',gG (T:=bp) rfl rfl hx hb,ho⟩
theorem j98:XL cD M:=by
 intro s0 f0 r H gQ bc jQ jR h xs hx
 exact bj (T:=bp) (deep:=a6) rfl rfl rfl a7 hx (BQ (cf:=cD) (m:=M) (aX:=cy) rfl  s0 f0 bC [] gQ bc  jQ jR aW H)
theorem ZE:Ry cD M:=by
 intro a0 b0 r H  h xs hx
 exact bj (T:=bp) (deep:=a6) rfl rfl rfl a7 hx (tF (cf:=cD) (m:=M) (aX:=cy) rfl  a0 b0 bC []   aW H)
theorem ZF:Rz cD M:=by
 intro s0 a0 b0 r H h L  aq ak az o  xs hx
 obtain⟨r',h',hb,aB,aC,rfl,ho⟩:=pI (cf:=cD) (m:=M) (aX:=cy) rfl j65 s0 a0 b0 h L aq ak az  o H
 exact⟨aB,aC,h',gG (T:=bp) rfl rfl hx hb,ho⟩
theorem ZG:UC cD M:=by
 intro n0 x0 r H  h xs hx
 exact bj (T:=bp) (deep:=a6) rfl rfl rfl a7 hx (nD (cf:=cD) (m:=M) (aX:=cy) rfl j65 n0 x0 bC []   aW H)
theorem ZH:UD cD M:=by
 intro s0 f0 r H gQ bc jQ jR h xs hx
 exact bj (T:=bp) (deep:=a6) rfl rfl rfl a7 hx (BU (cf:=cD) (m:=M) (aX:=cy) rfl  s0 f0 bC [] gQ bc  jQ jR aW H)
theorem ZI:UE cD M:=by
 intro a0 x0 r H  h xs hx
 exact bj (T:=bp) (deep:=a6) rfl rfl rfl a7 hx (uM (cf:=cD) (m:=M) (aX:=cy) rfl  a0 x0 bC []   aW H)
theorem ZJ:RA cD M:=by
 intro s0 a0 b0 r H  h xs hx
 exact bj (T:=bp) (deep:=a6) rfl rfl rfl a7 hx (nX (cf:=cD) (m:=M) (aX:=cy) rfl  s0 a0 b0 bC []   aW H)
theorem ZK:UF cD M:=by
 intro jl r H  h xs hx
 exact bj (T:=bp) (deep:=a6) rfl rfl rfl a7 hx (wH (cf:=cD) (m:=M) (aX:=cy) rfl  jl bC []   aW H)
theorem ZL:RB cD M:=by
 intro c0 r H  h xs hx
 exact bj (T:=bp) (deep:=a6) rfl rfl rfl a7 hx (uN (cf:=cD) (m:=M) (aX:=cy) rfl  c0 bC []   aW H)
theorem ZM:RC cD M:=by
 intro c0 r H  h xs hx
 exact bj (T:=bp) (deep:=a6) rfl rfl rfl a7 hx (tG (cf:=cD) (m:=M) (aX:=cy) rfl  c0 bC []   aW H)
theorem ZN:UG cD M:=by
 intro l0 jF r H  h xs hx
 exact bj (T:=bp) (deep:=a6) rfl rfl rfl a7 hx (sB (cf:=cD) (m:=M) (aX:=cy) rfl  l0 jF bC []   aW H)
theorem ZO:UH cD M:=by
 intro x0 r H  h xs hx
 exact bj (T:=bp) (deep:=a6) rfl rfl rfl a7 hx (sC (cf:=cD) (m:=M) (aX:=cy) rfl  x0 bC []   aW H)
theorem ZP:UI cD M:=by
 intro x0 r H  h xs hx
 exact bj (T:=bp) (deep:=a6) rfl rfl rfl a7 hx (pJ (cf:=cD) (m:=M) (aX:=cy) rfl  x0 bC []   aW H)
theorem ZQ:OF cD M:=by
 intro n0 fS r H  h xs hx
 exact bj (T:=bp) (deep:=a6) rfl rfl rfl a7 hx (uQ (cf:=cD) (m:=M) (aX:=cy) rfl  n0 fS bC []   aW H)
theorem V3:FN cD M:=by
 intro a0 b0 bQ r H  h xs hx
 exact bj (T:=bp) (deep:=a6) rfl rfl rfl a7 hx (rH (cf:=cD) (m:=M) (aX:=cy) rfl  a0 b0 bQ bC []   aW H)
theorem ZR:RG cD M:=by
 intro aF a0 b0 bf r H h L dE aV o vT iN gU Jk FO FP Jl xs hx
 have hn0:dE=aF.length:=dN (E:=ae) o (q:=0) rfl
 subst hn0
 obtain⟨r',h',hb,rfl,ho⟩:=rI (cf:=cD) (m:=M) (aX:=cy) rfl  aF a0 b0 bf h L aV vT iN gU  Jk FO FP Jl o H
 exact⟨h',gG (T:=bp) rfl rfl hx hb,ho⟩
theorem ZS:RH cD M:=by
 intro aF a0 b0 n0 bf r H h L dE aV o gR bw bg kY kc ke kZ xs hx
 have hn0:dE=aF.length:=dN (E:=ae) o (q:=0) rfl
 subst hn0
 obtain⟨r',h',hb,rfl,ho⟩:=wL (cf:=cD) (m:=M) (aX:=cy) rfl  aF a0 b0 n0 bf h L aV gR bw bg  kY kc ke kZ o H
 exact⟨h',gG (T:=bp) rfl rfl hx hb,ho⟩
theorem j13:S13 cD M:=by
 intro s0 r H  h xs hx
 exact bj (T:=bp) (deep:=a6) rfl rfl rfl a7 hx (pK (cf:=cD) (m:=M) (aX:=cy) rfl Wx s0 bC []   aW H)
theorem j14:S14 cD M:=by
 intro s0 r H  h xs hx
 exact bj (T:=bp) (deep:=a6) rfl rfl rfl a7 hx (pL (cf:=cD) (m:=M) (aX:=cy) rfl V1 s0 bC []   aW H)
theorem j30:S30 cD M:=by
 intro s0 r H h L  aq ak az o  xs hx
 obtain⟨r',h',hb,aB,aC,rfl,ho⟩:=qK (cf:=cD) (m:=M) (aX:=cy) rfl V2 j72 s0 h L aq ak az  o H
 exact⟨aB,aC,h',gG (T:=bp) rfl rfl hx hb,ho⟩
theorem j34:S34 cD M:=by
 intro s0 n0 r H h L  aq ak az o  xs hx
 obtain⟨r',h',hb,aB,aC,rfl,ho⟩:=qL (cf:=cD) (m:=M) (aX:=cy) rfl V2 j76 s0 n0 h L aq ak az  o H
 exact⟨aB,aC,h',gG (T:=bp) rfl rfl hx hb,ho⟩
theorem j63:S63 cD M:=by
 intro s0 nE r H h L OG aV o gQ bc cU yy jQ tD jR xs hx
 have hn0:OG=s0.length:=dN (E:=ae) o (q:=0) rfl
 subst hn0
 obtain⟨r',h',hb,rfl,ho⟩:=zG (cf:=cD) (m:=M) (aX:=cy) rfl j98 s0 nE h L aV gQ bc cU  yy jQ tD jR o H
 exact⟨h',gG (T:=bp) rfl rfl hx hb,ho⟩
theorem j68:XS cD M:=by
 intro s0 a0 b0 r H h L  aq ak az o  xs hx
 obtain⟨r',h',hb,du,aB,aC,rfl,ho⟩:=nY (cf:=cD) (m:=M) (aX:=cy) rfl j75 ZE ZF s0 a0 b0 h L aq ak az  o H
 exact⟨du,aB,aC,h',gG (T:=bp) rfl rfl hx hb,ho⟩
theorem j70:XX cD M:=by
 intro s0 aU r H  h L xs o hx
 obtain⟨r',h',hb,du,rfl,ho⟩:=oZ (cf:=cD) (m:=M) (aX:=cy) rfl j63 j66 ZG s0 aU bC []   aW H
 exact⟨rX h.next du,_,qC (T:=bp) (deep:=a6) rfl rfl rfl a7 hx hb (An),Has.gm o ho (G8 (fun _=>rfl) (.nil)),nV _ _⟩
theorem j77:S77 cD M:=by
 intro s0 f0 r H gQ bc jQ jR h xs hx
 exact bj (T:=bp) (deep:=a6) rfl rfl rfl a7 hx (wM (cf:=cD) (m:=M) (aX:=cy) rfl ZH s0 f0 bC [] gQ bc  jQ jR aW H)
theorem ZT:Wh cD M:=by
 intro s0 f0 r H gQ bc jQ jR h xs hx
 exact bj (T:=bp) (deep:=a6) rfl rfl rfl a7 hx (wN (cf:=cD) (m:=M) (aX:=cy) rfl j98 s0 f0 bC [] gQ bc  jQ jR aW H)
theorem j84:S84 cD M:=by
 intro a0 x0 r H  h xs hx
 exact bj (T:=bp) (deep:=a6) rfl rfl rfl a7 hx (mN (cf:=cD) (m:=M) (aX:=cy) rfl j85 a0 x0 bC []   aW H)
theorem j86:S86 cD M:=by
 intro x0 x1 r H  h xs hx
 exact bj (T:=bp) (deep:=a6) rfl rfl rfl a7 hx (nZ (cf:=cD) (m:=M) (aX:=cy) rfl j87 x0 x1 bC []   aW H)
theorem j90:X0 cD M:=by
 intro s0 a0 b0 r H  h L xs o hx
 obtain⟨r',h',hb,du,rfl,ho⟩:=n6 (cf:=cD) (m:=M) (aX:=cy) rfl ZJ s0 a0 b0 bC []   aW H
 exact⟨rX h.next du,_,qC (T:=bp) (deep:=a6) rfl rfl rfl a7 hx hb (Lr (iE (An) (iE (rfl) (tC)))),Has.gm o ho (G8 (fun _=>rfl) (.nil)),nV _ _⟩
theorem ZU:UP cD M:=by
 intro s0 nF r6 r H  h xs hx
 exact bj (T:=bp) (deep:=a6) rfl rfl rfl a7 hx (yL (cf:=cD) (m:=M) (aX:=cy) rfl ZL s0 nF r6 bC []   aW H)
theorem ZV:UQ cD M:=by
 intro s0 r H  h xs hx
 exact bj (T:=bp) (deep:=a6) rfl rfl rfl a7 hx (wO (cf:=cD) (m:=M) (aX:=cy) rfl ZM s0 bC []   aW H)
theorem ZW:UR cD M:=by
 intro x0 y0 r H  h xs hx
 exact bj (T:=bp) (deep:=a6) rfl rfl rfl a7 hx (qP (cf:=cD) (m:=M) (aX:=cy) rfl ZO x0 y0 bC []   aW H)
theorem ZX:US cD M:=by
 intro x0 y0 r H  h xs hx
 exact bj (T:=bp) (deep:=a6) rfl rfl rfl a7 hx (n7 (cf:=cD) (m:=M) (aX:=cy) rfl ZP x0 y0 bC []   aW H)
theorem ZY:OM cD M:=by
 intro l0 gL n0 bQ r H  h xs hx
 exact bj (T:=bp) (deep:=a6) rfl rfl rfl a7 hx (wP (cf:=cD) (m:=M) (aX:=cy) rfl j94 V3 l0 gL n0 bQ bC []   aW H)
theorem ZZ:UT cD M:=by
 intro aF a0 m0 b0 bf r H h L dE aV o gR bw bg kY kc ke kZ xs hx
 have hn0:dE=aF.length:=dN (E:=ae) o (q:=0) rfl
 subst hn0
 obtain⟨r',h',hb,rfl,ho⟩:=B9 (cf:=cD) (m:=M) (aX:=cy) rfl ZS aF a0 m0 b0 bf h L aV gR bw bg  kY kc ke kZ o H
 exact⟨h',gG (T:=bp) rfl rfl hx hb,ho⟩
theorem j44:S44 cD M:=by
 intro s0 bG n0 r H h L  aq ak az o  xs hx
 obtain⟨r',h',hb,aB,aC,rfl,ho⟩:=pM (cf:=cD) (m:=M) (aX:=cy) rfl V2 j86 s0 bG n0 h L aq ak az  o H
 exact⟨aB,aC,h',gG (T:=bp) rfl rfl hx hb,ho⟩
theorem j47:S47 cD M:=by
 intro s0 a0 b0 r H h L  aq aG ak o  xs hx
 obtain⟨r',h',hb,du,aB,aC,rfl,ho⟩:=pb (cf:=cD) (m:=M) (aX:=cy) rfl V1 j89 j90 j91 s0 a0 b0 h L aq aG ak  o H
 exact⟨du,aB,aC,h',gG (T:=bp) rfl rfl hx hb,ho⟩
theorem j48:S48 cD M:=by
 intro s0 a0 b0 r H  h xs hx
 exact bj (T:=bp) (deep:=a6) rfl rfl rfl a7 hx (pN (cf:=cD) (m:=M) (aX:=cy) rfl V1 j89 j90 j91 s0 a0 b0 bC []   aW H)
theorem j59:X6 cD M:=by
 intro s0 l0 r H  h xs hx
 exact bj (T:=bp) (deep:=a6) rfl rfl rfl a7 hx (pc (cf:=cD) (m:=M) (aX:=cy) rfl Wx ZT j95 s0 l0 bC []   aW H)
theorem Z0:Wj cD M:=by
 intro s0 r H  h xs hx
 exact bj (T:=bp) (deep:=a6) rfl rfl rfl a7 hx (yP (cf:=cD) (m:=M) (aX:=cy) rfl ZU s0 bC []   aW H)
theorem j79:S79 cD M:=by
 intro n0 py r H  h xs hx
 exact bj (T:=bp) (deep:=a6) rfl rfl rfl a7 hx (yQ (cf:=cD) (m:=M) (aX:=cy) rfl Z0 ZT j87 ZI n0 py bC []   aW H)
theorem j80:S80 cD M:=by
 intro s0 r H  h xs hx
 exact bj (T:=bp) (deep:=a6) rfl rfl rfl a7 hx (tN (cf:=cD) (m:=M) (aX:=cy) rfl ZV s0 bC []   aW H)
theorem j82:S82 cD M:=by
 intro x0 x1 x2 r H  h xs hx
 exact bj (T:=bp) (deep:=a6) rfl rfl rfl a7 hx (nG (cf:=cD) (m:=M) (aX:=cy) rfl Z0 ZT j84 x0 x1 x2 bC []   aW H)
theorem V4:ON cD M:=by
 intro a0 b0 r H  h xs hx
 exact bj (T:=bp) (deep:=a6) rfl rfl rfl a7 hx (qR (cf:=cD) (m:=M) (aX:=cy) rfl ZW ZK ZX a0 b0 bC []   aW H)
theorem Z1:UX cD M:=by
 intro i0 j0 x0 r H  h xs hx
 exact bj (T:=bp) (deep:=a6) rfl rfl rfl a7 hx (rK (cf:=cD) (m:=M) (aX:=cy) rfl V4 i0 j0 x0 bC []   aW H)
theorem Z2:U1 cD M:=by
 intro l0 r H  h xs hx
 exact bj (T:=bp) (deep:=a6) rfl rfl rfl a7 hx (sD (cf:=cD) (m:=M) (aX:=cy) rfl j94 ZQ ZY V3 l0 bC []   aW H)
theorem V5:∀kk,zK cD M kk
 | 0=>by
  intro aF a0 m0 b0 bf r H h L dE aV o gR bw bg kY kc ke kZ xs hx
  cases H
 | kk+1=>by
  intro aF a0 m0 b0 bf r H h L dE aV o gR bw bg kY kc ke kZ xs hx
  have hn0:dE=aF.length:=dN (E:=ae) o (q:=0) rfl
  subst hn0
  obtain⟨r',h',hb,rfl,ho⟩:=yU (cf:=cD) (m:=M) (aX:=cy) rfl ZZ aF a0 m0 b0 bf h L aV gR bw bg  (V5 kk) kY kc ke kZ o H
  exact⟨h',gG (T:=bp) rfl rfl hx hb,ho⟩
theorem j29:S29 cD M:=by
 intro s0 a0 b0 r H h L  aq ak az o  xs hx
 obtain⟨r',h',hb,du,aB,aC,rfl,ho⟩:=pe (cf:=cD) (m:=M) (aX:=cy) rfl j59 j68 j69 j70 s0 a0 b0 h L aq ak az  o H
 exact⟨du,aB,aC,h',gG (T:=bp) rfl rfl hx hb,ho⟩
theorem j33:S33 cD M:=by
 intro s0 a0 b0 r H h L  aq ak az o  xs hx
 obtain⟨r',h',hb,J0,aB,aC,rfl,ho⟩:=pO (cf:=cD) (m:=M) (aX:=cy) rfl j59 j68 j69 j70 s0 a0 b0 h L aq ak az  o H
 exact⟨J0,aB,aC,h',gG (T:=bp) rfl rfl hx hb,ho⟩
theorem Z5:Tf cD M:=by
 intro n0 aE r H  h xs hx
 exact bj (T:=bp) (deep:=a6) rfl rfl rfl a7 hx (u9 (cf:=cD) (m:=M) (aX:=cy) rfl j80 n0 aE bC []   aW H)
theorem j42:S42 cD M:=by
 intro s0 bG bH r H h L  aq ak az o  xs hx
 obtain⟨r',h',hb,aB,aC,rfl,ho⟩:=pf (cf:=cD) (m:=M) (aX:=cy) rfl j37 V2 j82 s0 bG bH h L aq ak az  o H
 exact⟨aB,aC,h',gG (T:=bp) rfl rfl hx hb,ho⟩
theorem j73:S73 cD M:=by
 intro x0 r H  h xs hx
 exact bj (T:=bp) (deep:=a6) rfl rfl rfl a7 hx (oc (cf:=cD) (m:=M) (aX:=cy) rfl Z0 x0 bC []   aW H)
theorem j78:S78 cD M:=by
 intro n0 x0 r H  h xs hx
 exact bj (T:=bp) (deep:=a6) rfl rfl rfl a7 hx (tQ (cf:=cD) (m:=M) (aX:=cy) rfl j79 n0 x0 bC []   aW H)
theorem V6:Tg cD M:=by
 intro s0 n0 r H h L  aq aG ak o  xs hx
 obtain⟨r',h',hb,aB,aC,rfl,ho⟩:=pP (cf:=cD) (m:=M) (aX:=cy) rfl Z5 V1 s0 n0 h L aq aG ak  o H
 exact⟨aB,aC,h',gG (T:=bp) rfl rfl hx hb,ho⟩
theorem Z6:Va cD M:=by
 intro l0 jF r H  h xs hx
 exact BK (T:=bp) (deep:=a6) rfl rfl rfl a7 hx (va (cf:=cD) (m:=M) (aX:=cy) rfl ZN Z2 l0 jF bC []   aW H)
theorem Z7:Vf cD M:=by
 intro aF n0 bf r H h L dE aV o og ff eG wQ wR wS wT xs hx
 have hn0:dE=aF.length:=dN (E:=ae) o (q:=0) rfl
 subst hn0
 obtain⟨r',h',hb,rfl,ho⟩:=Cf (cf:=cD) (m:=M) (aX:=cy) rfl ZR (V5 _) aF n0 bf h L aV og ff eG  wQ wR wS wT o H
 exact⟨h',gG (T:=bp) rfl rfl hx hb,ho⟩
theorem j11:S11 cD M:=by
 intro aE r H h L   o  xs hx
 obtain⟨r',h',hb,du,dv,dw,rfl,ho⟩:=vb (cf:=cD) (m:=M) (aX:=cy) rfl j17 Z5 aE h L  o H
 exact⟨du,dv,dw,h',gG (T:=bp) rfl rfl hx hb,ho⟩
theorem j23:S23 cD M:=by
 intro t0 r H  h xs hx
 exact bj (T:=bp) (deep:=a6) rfl rfl rfl a7 hx (vc (cf:=cD) (m:=M) (aX:=cy) rfl Z5 t0 bC []   aW H)
theorem j31:S31 cD M:=by
 intro s0 a0 r H h L  aq ak az o  xs hx
 obtain⟨r',h',hb,aB,aC,rfl,ho⟩:=pQ (cf:=cD) (m:=M) (aX:=cy) rfl V2 j73 s0 a0 h L aq ak az  o H
 exact⟨aB,aC,h',gG (T:=bp) rfl rfl hx hb,ho⟩
theorem j36:Ys cD M:=by
 intro t0 r H  h xs hx
 exact bj (T:=bp) (deep:=a6) rfl rfl rfl a7 hx (wU (cf:=cD) (m:=M) (aX:=cy) rfl j77 j78 t0 bC []   aW H)
theorem j39:S39 cD M:=by
 intro s0 r H h L  aq aG ak o  xs hx
 obtain⟨r',h',hb,aB,aC,rfl,ho⟩:=qT (cf:=cD) (m:=M) (aX:=cy) rfl V6 s0 h L aq aG ak  o H
 exact⟨aB,aC,h',gG (T:=bp) rfl rfl hx hb,ho⟩
theorem j40:S40 cD M:=by
 intro s0 n0 r H h L  aq aG ak o  xs hx
 obtain⟨r',h',hb,aB,aC,rfl,ho⟩:=qU (cf:=cD) (m:=M) (aX:=cy) rfl V6 s0 n0 h L aq aG ak  o H
 exact⟨aB,aC,h',gG (T:=bp) rfl rfl hx hb,ho⟩
theorem j41:S41 cD M:=by
 intro s0 a0 r H h L  aq aG ak o  xs hx
 obtain⟨r',h',hb,aB,aC,rfl,ho⟩:=pR (cf:=cD) (m:=M) (aX:=cy) rfl V6 s0 a0 h L aq aG ak  o H
 exact⟨aB,aC,h',gG (T:=bp) rfl rfl hx hb,ho⟩
theorem j43:S43 cD M:=by
 intro s0 bG bH r H h L  aq aG ak o  xs hx
 obtain⟨r',h',hb,aB,aC,rfl,ho⟩:=pg (cf:=cD) (m:=M) (aX:=cy) rfl V6 s0 bG bH h L aq aG ak  o H
 exact⟨aB,aC,h',gG (T:=bp) rfl rfl hx hb,ho⟩
theorem j45:S45 cD M:=by
 intro s0 bG n0 r H h L  aq aG ak o  xs hx
 obtain⟨r',h',hb,aB,aC,rfl,ho⟩:=pS (cf:=cD) (m:=M) (aX:=cy) rfl V6 s0 bG n0 h L aq aG ak  o H
 exact⟨aB,aC,h',gG (T:=bp) rfl rfl hx hb,ho⟩
theorem j88:S88 cD M:=by
 intro t0 r H  h xs hx
 exact BK (T:=bp) (deep:=a6) rfl rfl rfl a7 hx (vd (cf:=cD) (m:=M) (aX:=cy) rfl j23 Z6 t0 bC []   aW H)
theorem Z8:Vi cD M:=by
 intro x0 bf r H h L L5 aV o gQ bc cU yy jQ tD jR xs hx
 have hn0:L5=x0.length:=dN (E:=ae) o (q:=0) rfl
 subst hn0
 obtain⟨r',h',hb,rfl,ho⟩:=tR (cf:=cD) (m:=M) (aX:=cy) rfl Z7 x0 bf h L aV gQ bc cU  yy jQ tD jR o H
 exact⟨h',gG (T:=bp) rfl rfl hx hb,ho⟩
theorem j10:S10 cD M:=by
 intro aE r H h L   o  xs hx
 obtain⟨r',h',hb,du,dv,dw,rfl,ho⟩:=ve (cf:=cD) (m:=M) (aX:=cy) rfl j16 j36 j37 aE h L  o H
 exact⟨du,dv,dw,h',gG (T:=bp) rfl rfl hx hb,ho⟩
theorem j46:S46 cD M:=by
 intro s0 t0 r H h L  aq aG ak o  xs hx
 obtain⟨r',h',hb,aB,aC,rfl,ho⟩:=qV (cf:=cD) (m:=M) (aX:=cy) rfl V1 j88 s0 t0 h L aq aG ak  o H
 exact⟨aB,aC,h',gG (T:=bp) rfl rfl hx hb,ho⟩
theorem j96:S96 cD M:=by
 intro aE r H  h xs hx
 exact bj (T:=bp) (deep:=a6) rfl rfl rfl a7 hx (tT (cf:=cD) (m:=M) (aX:=cy) rfl V4 Z8 Z1 aE bC []   aW H)
theorem j62:S62 cD M:=by
 intro t0 r H  h L xs o hx
 obtain⟨r',h',hb,du,eU,rfl,ho⟩:=wV (cf:=cD) (m:=M) (aX:=cy) rfl j96 (j97 _) t0 bC []   aW H
 exact⟨rX h.next du,eU.map (rX h.next),_,qC (T:=bp) (deep:=a6) rfl rfl rfl a7 hx hb (Lq (iE (An) (iE (rfl) (tC)))),Has.gm o ho (PR (FH .nil)),nV _ _⟩
theorem j25:S25 cD M:=by
 intro t0 r H  h L xs o hx
 obtain⟨r',h',hb,du,eU,rfl,ho⟩:=wW (cf:=cD) (m:=M) (aX:=cy) rfl j36 j62 t0 bC []   aW H
 exact⟨rX h.next du,eU.map (rX h.next),_,qC (T:=bp) (deep:=a6) rfl rfl rfl a7 hx hb (Lr (iE (Lq (iE (An) (iE (rfl) (tC)))) (iE (rfl) (tC)))),Has.gm o ho (PR (FH .nil)),nV _ _⟩
theorem j22:S22 cD M:=by
 intro s0 t0 r H h L  aq ak az o  xs hx
 obtain⟨r',h',hb,aB,aC,rfl,ho⟩:=qW (cf:=cD) (m:=M) (aX:=cy) rfl j25 Wx s0 t0 h L aq ak az  o H
 exact⟨aB,aC,h',gG (T:=bp) rfl rfl hx hb,ho⟩
theorem j12:S12 cD M:=by
 intro s0 t0 x0 r H h L  aq ak az iI gr gu o  xs hx
 obtain⟨r',h',hb,aB,aC,pz,pA,rfl,ho⟩:=wX (cf:=cD) (m:=M) (aX:=cy) rfl j22 j29 j30 j31 j33 j34 j35 j39 j40 j41 j42 j43 j44 j45 j46 j47 j48 s0 t0 x0 h L aq ak az iI gr gu  o H
 exact⟨aB,aC,pz,pA,h',gG (T:=bp) rfl rfl hx hb,ho⟩
theorem j3:S3 cD M:=by
 intro sa x0 r H  h xs hx
 exact bj (T:=bp) (deep:=a6) rfl rfl rfl a7 hx (re (cf:=cD) (m:=M) (aX:=cy) rfl j8 j9 j10 j11 j12 j13 j14 sa x0 bC []   aW H)
end Go.Proofs.YtifafejidnjckaaGreat
namespace Go.Proofs.YtifafejidnjckaaGreat
open Go Go.R Go.Proofs Go.RowKit Go.ChangeShapes Go.WideShapes
open Go.IntKind (i64 u64 u8 u32)
theorem all_true (Bz:List AV)(h:tq Tryz.prog 7 Tryz.f3.params.toList Bz):∃cf h',CallOK Tryz.prog cf∧cf 3 Bz bC=some (.bool true,h'):=by
 rw [show Tryz.f3.params.toList=[5,27] from by rw [Tryz.params3]] at h
 obtain⟨xs,ys,rfl,h1,h2⟩:=JN h
 obtain⟨z,hz,fz⟩:=Nv (n:=6) h1
 obtain⟨x,fx⟩:=Pm (n:=1) h2
 exact⟨cD,bC,SJ,j3 z x true (JL (by decide) z hz.1 om x) bC _ (km (ao (fz bC) (ao (fx bC) (aJ))))⟩
theorem vp (os:Os)(started:os.Started)(H:Type)(enc:TypeId × Value→H) :
  ReturnsInHanded {} Tryz.checked os 3 .any (Rows.storeFullSpec.pre6 enc Tryz.prog Tryz.f3 Rows.storeFullRow.domain false) (Rows.storeFullSpec.post enc Tryz.prog Tryz.f3 false true false false):=by
 refine returnsInHanded_of_change (C:=Tryz.checked) kr started kr Tryz.func3
  (ChangeSpec.witness6 (enc:=enc) (C:=Tryz.checked) false ⟨#[],#[.int .u8 0,.agg #[.int .i64 0,.int .i64 0,.int .i64 0,.string ByteArray.empty,.slice none 0 0,.slice none 0 0,.int .i64 0]],[]⟩ 8 kr kr kr kr) ?_
 intro W base args ds gs before fL hW aeN _
 exact zz (cf:=fun _ _ _=>none) (P:=Tryz.prog) (m:=7) (tb:=4) kr
  (by rw [show Tryz.f3.params.toList=[5,27] from by rw [Tryz.params3]]; intro t ht; simp only [afq,List.not_mem_nil,or_false] at ht; rcases ht with rfl | rfl<;>exact⟨by kernel_rfl,of_decide_eq_true kr⟩)
  (by rw [show Tryz.f3.params.toList=[5,27] from by rw [Tryz.params3]]; intro t ht; simp only [afq,List.not_mem_nil,or_false] at ht; rcases ht with rfl | rfl<;>kernel_rfl) rfl rfl Tryz.underlying4
  (fun ds QB=>by
   have:ds.length=2:=by rw [QB]; rfl
   match ds,this with
   | [d0,d1],_=>rfl) all_true fL hW
theorem storeFull_holds:Rows.StoreFullSaid:=
 OpenClaim.holds_of_wide 3 Tryz.f3 rfl rfl rfl rfl rfl rfl rfl ⟨rfl,rfl,rfl,rfl,rfl⟩ rfl rfl rfl rfl rfl kr Tryz.func3 kr
  (of_decide_eq_true kr) (by unfold Func.isWrapper; first | (rw [if_pos (by decide +kernel)]; kernel_rfl) | (rw [if_neg (by decide +kernel)]; exact⟨rfl,rfl⟩))
  (fun os started H enc _=>vp os started H enc)
end Go.Proofs.YtifafejidnjckaaGreat
