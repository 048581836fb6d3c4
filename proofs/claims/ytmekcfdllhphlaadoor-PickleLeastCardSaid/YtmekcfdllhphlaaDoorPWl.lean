/- Proved: PickleLeast returns true for every input, over the card of its one listed variable; no condition. -/
import Derived.Test.YtmekcfdllhphlaaDoorK12
import Derived.Test.YtmekcfdllhphlaaDoorChecked
import Derived.Test.YtmekcfdllhphlaaDoorRows
import Derived.Test.YtmekcfdllhphlaaDoorCards
import Derived.Test.YtmekcfdllhphlaaDoorTie
import Derived.ChangeSame
import Derived.ChangeVars
import Derived.JoinedOf
import Derived.LaidLaws
import Derived.LaidHandle
import Derived.Lay
import Derived.Stop.Joined
import Derived.SevenTiedAt
set_option linter.unusedVariables false
set_option linter.unusedSimpArgs false
set_option maxRecDepth 100000
open Bool renaming and_eq_true → QR
open List renaming mem_cons → Rt, cons_append → Ru
open List.cons renaming inj → R6
open Option renaming map_eq_some_iff → QP
open Option.some renaming inj → Rf
namespace Go.Proofs.YtmekcfdllhphlaaDoor
open Go Go.R
open Go.IntKind (i64 u64 u8 u32)
def Nf (xs ys:List AV):Prop:=bS xs=true∧cu xs=ys
theorem rZ:∀a b:List AV,bS (a++b)=(bS a&&bS b)
 | [],b=>rfl
 | x::a,b=>by rw [Ru,bS,bS,rZ,Bool.and_assoc]
theorem r6:∀a b:List AV,cu (a++b)=cu a++cu b
 | [],b=>rfl
 | x::a,b=>by rw [Ru,cu,cu,r6,Ru]
theorem Nf.app {a b c d:List AV}(h:Nf a c)(k:Nf b d):Nf (a++b) (c++d):=⟨by rw [rZ,h.1,k.1]; rfl,by rw [r6,h.2,k.2]⟩
theorem Nf.nil:Nf [] []:=⟨rfl,rfl⟩
theorem Nf.fz {α:Type}{E:bQ α}{cs:List AV}{l:List α}{n:Nat}{b:Bool}(h:Nf cs (E.l l))(hn:n=l.length):Nf [.fz cs n b] [E.fz l]:=by
 subst hn
 exact⟨by show (AV.cE (.fz cs l.length b)&&bS [])=true; simp [AV.cE,h.1,bS],by show [AV.fz (cu cs) l.length false]=_; rw [h.2]; rfl⟩
theorem Nf.nils {α:Type}{E:bQ α}:Nf [.nils] [E.fz []]:=⟨rfl,rfl⟩
theorem vg {α:Type}{E:bQ α}{Pr:α→Prop}:∀{els:List (List AV)},(∀el∈els,∃a,Nf el (E.f a)∧Pr a)→∃l:List α,Nf els.flatten (E.l l)∧l.length=els.length∧∀a∈l,Pr a
 | [],_=>⟨[],Nf.nil,rfl,fun a ha=>by cases ha⟩
 | el::els,h=>by
  obtain⟨a,h1,h2⟩:=h el (by simp)
  obtain⟨l,h3,h4,h5⟩:=vg (E:=E) (Pr:=Pr) (els:=els) fun e he=>h e (by simp [he])
  refine⟨a::l,?_,by simp [h4],fun x hx=>?_⟩
  ·rw [List.flatten_cons,bQ.dF]; exact h1.app h3
  ·rcases Rt.1 hx with rfl | hx
   ·exact h2
   ·exact h5 x hx
theorem Co {α:Type}{E:bQ α}{Pr:α→Prop}{n t e:Nat}{xs:List AV}(ht:Tryd.prog.underlying t=some (.slice e))(h:Fits Tryd.prog (n+1) t xs)
  (he:∀el,Fits Tryd.prog n e el→∃a,Nf el (E.f a)∧Pr a):∃l:List α,Nf xs [E.fz l]∧l.length≤maxLen∧∀a∈l,Pr a:=by
 unfold Fits at h
 rw [ht] at h
 rcases h with rfl | ⟨els,rfl,h1,h⟩
 ·exact⟨[],Nf.nils,by simp,fun a ha=>by cases ha⟩
 ·obtain⟨l,h2,h3,h4⟩:=vg (E:=E) (Pr:=Pr) fun el HB=>he el (h el HB).2
  exact⟨l,h2.fz h3.symm,by omega,h4⟩
theorem th {n:Nat}{xs:List AV}(h:Fits Tryd.prog (n+1) 3 xs):∃z:Int,Nf xs (af.f z)∧z<2 ^ 63:=by
 unfold Fits at h
 rw [Tryd.underlying3] at h
 obtain⟨z,rfl,_,hz⟩:=h
 have hz:z≤9223372036854775807:=hz
 exact⟨z,⟨rfl,rfl⟩,by omega⟩
theorem Cp {n:Nat}{xs:List AV}(h:Fits Tryd.prog (n+3) 48 xs):∃v:aa,Nf xs (ae.f v)∧v.int<2 ^ 63:=by
 unfold Fits at h
 rw [Tryd.underlying48] at h
 obtain⟨a,b,rfl,_,h1,h⟩:=h
 obtain⟨c,d,rfl,_,h2,h⟩:=h
 obtain⟨e,f,rfl,_,h3,h⟩:=h
 obtain⟨g,k,rfl,_,h4,h⟩:=h
 have h:k=[]:=h
 subst h
 obtain⟨z1,i1,_⟩:=th h1
 obtain⟨z2,i2,j2⟩:=th h2
 obtain⟨l,i4,_,_⟩:=Co (E:=af) (Pr:=fun z=>z<2 ^ 63) Tryd.underlying42 h4 fun el h=>th h
 have h3:∃s:ByteArray,e=[.str s]:=by
  unfold Fits at h3
  rw [Tryd.underlying9] at h3
  obtain⟨s,hs,_⟩:=h3
  exact⟨s,hs⟩
 obtain⟨s,rfl⟩:=h3
 exact⟨⟨z1,z2,s,l⟩,i1.app (i2.app (Nf.app (a:=[.str s]) (c:=[.str s]) ⟨rfl,rfl⟩ (i4.app Nf.nil))),j2⟩
def Cq (t:aw):Prop:=t.nodes.length<2 ^ 63∧El t
theorem Cr {n:Nat}{xs:List AV}(h:Fits Tryd.prog (n+5) 31 xs):∃t:aw,Nf xs (eU.f t)∧Cq t:=by
 unfold Fits at h
 rw [Tryd.underlying31] at h
 obtain⟨a,b,rfl,_,h1,h⟩:=h
 obtain⟨c,d,rfl,_,h2,h⟩:=h
 have h:d=[]:=h
 subst h
 obtain⟨l,i1,k1,k2⟩:=Co (E:=ae) (Pr:=fun v=>v.int<2 ^ 63) Tryd.underlying29 h1 fun el h=>Cp h
 obtain⟨z,i2,_⟩:=th h2
 refine⟨⟨l,z⟩,i1.app (i2.app Nf.nil),?_,fun v hv _=>k2 v hv⟩
 have:maxLen<2 ^ 63:=by decide
 show l.length<_
 omega
theorem DO {t e n:Nat}{xs:List AV}(ht:Tryd.prog.underlying t=some (.slice e))(h:Fits Tryd.prog (n+1) t xs):∃x,xs=[x]∧(x = .nils∨∃cs n b,x = .fz cs n b):=by
 unfold Fits at h
 rw [ht] at h
 rcases h with rfl | ⟨els,rfl,_⟩
 ·exact⟨_,rfl,.inl rfl⟩
 ·exact⟨_,rfl,.inr ⟨_,_,_,rfl⟩⟩
end Go.Proofs.YtmekcfdllhphlaaDoor
namespace Go.Proofs.YtmekcfdllhphlaaDoor
open Go Go.R
open Go.IntKind (i64 u64 u8 u32)
theorem Cs {n:Nat}{xs:List AV}(h:Fits Tryd.prog (n+5) 31 xs):∃t:aw,Cq t∧∀hp,jz 4 hp (ig Tryd.prog 31 xs) (.agg [ae.fz t.nodes,.int .i64 t.root]):=by
 obtain⟨t,⟨N1,N2⟩,hT⟩:=Cr h
 refine⟨t,hT,fun hp=>?_⟩
 unfold Fits at h
 rw [Tryd.underlying31] at h
 obtain⟨a,b,rfl,_,h1,h⟩:=h
 obtain⟨c,d,rfl,_,h2,h⟩:=h
 have h:d=[]:=h
 subst h
 obtain⟨x,rfl,hx⟩:=DO Tryd.underlying29 h1
 have h2:∃z:Int,c=[.int .i64 z]:=by
  unfold Fits at h2
  rw [Tryd.underlying3] at h2
  obtain⟨z,hz,_⟩:=h2
  exact⟨z,hz⟩
 obtain⟨z,rfl⟩:=h2
 have e2:[x.hX,.int .i64 z]=[ae.fz t.nodes,.int .i64 t.root]:=N2
 have e3:=(R6 e2).1
 have e4:=(R6 (R6 e2).2).1
 have g1:x.cE=true:=by
  have:(x.cE&&(AV.cE (.int .i64 z)&&true))=true:=N1
  simp only [QR] at this
  exact this.1
 have ea:ig Tryd.prog 31 ([x]++([.int .i64 z]++[])) = .agg [x,.int .i64 z]:=by unfold ig; rw [Tryd.underlying31]; rfl
 rw [ea,←e4]
 exact (bw (ab (kp g1 (by rcases hx with rfl | ⟨cs,n,b,rfl⟩<;>exact fun _=>rfl) e3) (ab aM aA))).mono (by decide)
theorem vh {P:Program}{m:Nat}{t u:TypeId}{px:List AV}(h:lU P m [t,u] px):∃xs ys,px=[ig P t xs,ig P u ys]∧Fits P m t xs∧Fits P m u ys:=by
 cases px with
 | nil=>exact h.elim
 | cons x px=>
  obtain⟨⟨xs,hx,hf⟩,h⟩:=h
  cases px with
  | nil=>exact h.elim
  | cons y px=>
   obtain⟨⟨ys,hy,hg⟩,h⟩:=h
   cases px with
   | nil=>exact⟨xs,ys,by rw [hx,hy],hf,hg⟩
   | cons _ _=>exact h.elim
end Go.Proofs.YtmekcfdllhphlaaDoor
namespace Go.Proofs.YtmekcfdllhphlaaDoor
open Go Go.R
open Go.IntKind (i64 u64 u8 u32)
theorem Gv {n:Nat}{xs:List AV}(h:Fits Tryd.prog (n+1) 5 xs):∃z:Int,xs=[.int .u8 z]∧0≤z∧z<256:=by
 unfold Fits at h
 rw [Tryd.underlying5] at h
 obtain⟨z,rfl,h1,h2⟩:=h
 have g1:(0:Int)≤z:=h1
 have g2:z≤255:=h2
 exact⟨z,rfl,g1,by omega⟩
theorem yz:∀els:List (List AV),(∀el∈els,∃z:Int,el=[.int .u8 z]∧0≤z∧z<256)→∃l:List Int,els.flatten=fL.l l∧l.length=els.length∧Bytes l
 | [],_=>⟨[],rfl,rfl,fun x hx=>by cases hx⟩
 | el::els,h=>by
  obtain⟨z,rfl,z0,z1⟩:=h el (by simp)
  obtain⟨l,h1,h2,h3⟩:=yz els fun e he=>h e (by simp [he])
  refine⟨z::l,?_,by simp [h2],fun x hx=>?_⟩
  ·rw [List.flatten_cons,h1,bQ.dF]; rfl
  ·rcases Rt.1 hx with rfl | hx
   ·exact⟨z0,z1⟩
   ·exact h3 x hx
theorem zI {n:Nat}{xs:List AV}(h:Fits Tryd.prog (n+2) 25 xs):∃(x:AV) (l:List Int),xs=[x]∧Bytes l∧((x = .nils∧l=[])∨x=fL.fz l):=by
 unfold Fits at h
 rw [Tryd.underlying25] at h
 rcases h with rfl | ⟨els,rfl,_,h⟩
 ·exact⟨_,[],rfl,(fun x hx=>by cases hx),Or.inl ⟨rfl,rfl⟩⟩
 ·obtain⟨l,h1,h2,h3⟩:=yz els fun el he=>Gv (h el he).2
  exact⟨_,l,rfl,h3,.inr (by rw [h1,←h2]; rfl)⟩
theorem Gw {n:Nat}{xs:List AV}(h:Fits Tryd.prog (n+2) 25 xs):∃l:List Int,Bytes l∧∀hp,jz 4 hp (ig Tryd.prog 25 xs) (fL.fz l):=by
 obtain⟨x,l,rfl,hb,hx⟩:=zI h
 have e1:ig Tryd.prog 25 [x]=x:=by unfold ig; rw [Tryd.underlying25]; rfl
 rw [e1]
 refine⟨l,hb,fun hp=>?_⟩
 rcases hx with⟨rfl,rfl⟩| rfl
 ·exact (xy (E:=fL)).mono (by decide)
 ·exact (b7 (E:=fL)).mono (by decide)
end Go.Proofs.YtmekcfdllhphlaaDoor
namespace Go.Proofs.YtmekcfdllhphlaaDoor
open Go Go.R Go.Shelf
def GY:Ren:={
 f:=(fun x=>match x with | 178=>101 | 179=>53 | 181=>98 | 184=>99 | 251=>72 | 252=>73 | 290=>100 | 324=>117 | n=>n),
 t:=(fun x=>match x with | 0=>0 | 3=>3 | 4=>4 | 5=>5 | 9=>9 | 20=>20 | 37=>25 | 75=>85 | 80=>93 | 91=>79 | 93=>81 | 130=>104 | 131=>100 | n=>n),
 g:=(fun x=>match x with | 14=>0 | n=>n)}
theorem DP:LaysM.n179 Tryd.prog GY:={
 mixed:=by kernel_rfl,
 f179:=Tryd.func53.trans (congrArg some (by kernel_rfl)),
 f181:=Tryd.func98.trans (congrArg some (by kernel_rfl)),
 f184:=Tryd.func99.trans (congrArg some (by kernel_rfl)),
 f251:=Tryd.func72.trans (congrArg some (by kernel_rfl)),
 f252:=Tryd.func73.trans (congrArg some (by kernel_rfl)),
 f290:=Tryd.func100.trans (congrArg some (by kernel_rfl)),
 f324:=Tryd.func117.trans (congrArg some (by kernel_rfl)),
 t0:=Tryd.underlying0,
 a0:=Tryd.isAgg0,
 z0:=Tryd.sizeOf0,
 v0:=Tryd.zeroValue0,
 t3:=Tryd.underlying3,
 a3:=Tryd.isAgg3,
 z3:=Tryd.sizeOf3,
 v3:=Tryd.zeroValue3,
 t4:=Tryd.underlying4,
 a4:=Tryd.isAgg4,
 z4:=Tryd.sizeOf4,
 v4:=Tryd.zeroValue4,
 t5:=Tryd.underlying5,
 a5:=Tryd.isAgg5,
 z5:=Tryd.sizeOf5,
 v5:=Tryd.zeroValue5,
 t20:=Tryd.underlying20,
 a20:=Tryd.isAgg20,
 z20:=Tryd.sizeOf20,
 v20:=Tryd.zeroValue20,
 t37:=Tryd.underlying25,
 a37:=Tryd.isAgg25,
 z37:=Tryd.sizeOf25,
 v37:=Tryd.zeroValue25,
 t75:=Tryd.underlying85,
 a75:=Tryd.isAgg85,
 z75:=Tryd.sizeOf85,
 v75:=Tryd.zeroValue85,
 t91:=Tryd.underlying79,
 a91:=Tryd.isAgg79,
 z91:=Tryd.sizeOf79,
 v91:=Tryd.zeroValue79,
 t93:=Tryd.underlying81,
 a93:=Tryd.isAgg81,
 z93:=Tryd.sizeOf81,
 v93:=Tryd.zeroValue81,
 t130:=Tryd.underlying104,
 a130:=Tryd.isAgg104,
 z130:=Tryd.sizeOf104,
 v130:=Tryd.zeroValue104,
 t131:=Tryd.underlying100,
 a131:=Tryd.isAgg100,
 z131:=Tryd.sizeOf100,
 v131:=Tryd.zeroValue100,
 g14:=by kernel_rfl,
 t9:=Tryd.underlying9,
 a9:=Tryd.isAgg9,
 z9:=Tryd.sizeOf9,
 v9:=Tryd.zeroValue9,
 t80:=Tryd.underlying93,
 a80:=Tryd.isAgg93,
 z80:=Tryd.sizeOf93,
 v80:=Tryd.zeroValue93,
 i0:=by kernel_rfl,
 i3:=by kernel_rfl,
 i4:=by kernel_rfl,
 i5:=by kernel_rfl,
 i9:=by kernel_rfl,
 i20:=by kernel_rfl,
 i37:=by kernel_rfl,
 i75:=by kernel_rfl,
 i80:=by kernel_rfl,
 i91:=by kernel_rfl,
 i93:=by kernel_rfl,
 i130:=by kernel_rfl,
 i131:=by kernel_rfl,
 m14:=by kernel_rfl}
theorem DQ:LaysM.n178 Tryd.prog GY:={
 mixed:=by kernel_rfl,
 f178:=Tryd.func101.trans (congrArg some (by kernel_rfl)),
 f181:=Tryd.func98.trans (congrArg some (by kernel_rfl)),
 f184:=Tryd.func99.trans (congrArg some (by kernel_rfl)),
 f251:=Tryd.func72.trans (congrArg some (by kernel_rfl)),
 f252:=Tryd.func73.trans (congrArg some (by kernel_rfl)),
 f290:=Tryd.func100.trans (congrArg some (by kernel_rfl)),
 f324:=Tryd.func117.trans (congrArg some (by kernel_rfl)),
 t0:=Tryd.underlying0,
 a0:=Tryd.isAgg0,
 z0:=Tryd.sizeOf0,
 v0:=Tryd.zeroValue0,
 t3:=Tryd.underlying3,
 a3:=Tryd.isAgg3,
 z3:=Tryd.sizeOf3,
 v3:=Tryd.zeroValue3,
 t4:=Tryd.underlying4,
 a4:=Tryd.isAgg4,
 z4:=Tryd.sizeOf4,
 v4:=Tryd.zeroValue4,
 t9:=Tryd.underlying9,
 a9:=Tryd.isAgg9,
 z9:=Tryd.sizeOf9,
 v9:=Tryd.zeroValue9,
 t20:=Tryd.underlying20,
 a20:=Tryd.isAgg20,
 z20:=Tryd.sizeOf20,
 v20:=Tryd.zeroValue20,
 t37:=Tryd.underlying25,
 a37:=Tryd.isAgg25,
 z37:=Tryd.sizeOf25,
 v37:=Tryd.zeroValue25,
 t75:=Tryd.underlying85,
 a75:=Tryd.isAgg85,
 z75:=Tryd.sizeOf85,
 v75:=Tryd.zeroValue85,
 t91:=Tryd.underlying79,
 a91:=Tryd.isAgg79,
 z91:=Tryd.sizeOf79,
 v91:=Tryd.zeroValue79,
 t93:=Tryd.underlying81,
 a93:=Tryd.isAgg81,
 z93:=Tryd.sizeOf81,
 v93:=Tryd.zeroValue81,
 t130:=Tryd.underlying104,
 a130:=Tryd.isAgg104,
 z130:=Tryd.sizeOf104,
 v130:=Tryd.zeroValue104,
 t131:=Tryd.underlying100,
 a131:=Tryd.isAgg100,
 z131:=Tryd.sizeOf100,
 v131:=Tryd.zeroValue100,
 g14:=by kernel_rfl,
 t5:=Tryd.underlying5,
 a5:=Tryd.isAgg5,
 z5:=Tryd.sizeOf5,
 v5:=Tryd.zeroValue5,
 t80:=Tryd.underlying93,
 a80:=Tryd.isAgg93,
 z80:=Tryd.sizeOf93,
 v80:=Tryd.zeroValue93,
 i0:=by kernel_rfl,
 i3:=by kernel_rfl,
 i4:=by kernel_rfl,
 i5:=by kernel_rfl,
 i9:=by kernel_rfl,
 i20:=by kernel_rfl,
 i37:=by kernel_rfl,
 i75:=by kernel_rfl,
 i80:=by kernel_rfl,
 i91:=by kernel_rfl,
 i93:=by kernel_rfl,
 i130:=by kernel_rfl,
 i131:=by kernel_rfl,
 m14:=by kernel_rfl}
theorem fits:Fit Tryd.prog:=E4 (by kernel_rfl) (by kernel_rfl)
theorem DR:∀(vs:Array Value) (w:World),(callFunc (GY.f 179) vs).run Tryd.prog w = .ok (.enter (GY.f 179) vs) w:=
 gW (c:=codeOf Tryd.f53) Tryd.func53 (by kernel_rfl) (by decide +kernel)
theorem Cu:∀(vs:Array Value) (w:World),(callFunc (GY.f 178) vs).run Tryd.prog w = .ok (.enter (GY.f 178) vs) w:=
 gW (c:=codeOf Tryd.f101) Tryd.func101 (by kernel_rfl) (by decide +kernel)
noncomputable def Cv:FuncId→Option (List AV→AHeap→Option (AV × AHeap)):=fun f=>if f=53 then some (wbA 5) else if f=101 then some (wsA 5) else none
theorem qz:IntrOK Tryd.prog Cv:=intr_cons (f0:=53) (wb_ok DP DR) wb_steady (intr_cons (f0:=101) (ws_ok DQ Cu) ws_steady yW)
end Go.Proofs.YtmekcfdllhphlaaDoor
namespace Go.Proofs.YtmekcfdllhphlaaDoor
open Go Go.R
open Go.IntKind (i64 u64 u8 u32)
def dd:Nat→ca
 | 8=>vc
 | 12=>rX
 | 13=>{eL:=[0,1,2,3,4,5,6,7,8,9,10],aB:=[9]}
 | 14=>ff [0,2,3,4,6,7,8,9,12,13,14,15,16,25,32,37] [6,7] [65534,65278,65529,65526,61943,57847,61927,61847,53719,65529,61943,61943,49143,65529,65407,32639,65529,65529] [(12,[(4,none,0)])] [(3,[(4,none,2)])]
 | 16=>ye
 | 18=>rT
 | 19=>ff [0,2,3,4,5,6,7,8,9,10,11,12,15,33,56,70,93,106] [8] [262142,258046,262137,253950,262137,262134,262118,262086,262022,245638,262022,261894,261638,261126,228358,261126,261126,262022,196590,262137,259054,131055,262137,262137] [(17,[(8,some 0,0)]),(20,[(5,none,0)])] [(6,[(5,none,2)]),(11,[(8,some 0,4)])]
 | 21=>ff [0,2,3,5,6,7,8,9,16,17] [] [1022,1018,907,779,899,907,651,139,651,651,907,1021] [] []
 | 24=>yx
 | 25=>uO
 | 28=>ff [0,2] [2] [0,1] [] []
 | 29=>ff [0] [0] [] [] []
 | 30=>ff [0,1,4] [] [4,3] [] []
 | 31=>yd
 | 32=>ff [0,1,4] [] [4,3] [] []
 | 33=>ff [0,1,2] [1] [5,3] [] []
 | 34=>xN
 | 35=>ff [0,1,2] [1] [5,3] [] []
 | 36=>ff [0,2,3,5,7,8,24,25,26,27,37,38,39,40] [5,7] [16382,16378,16378,16378,16378,15931,15419,15923,15923,8763,571,8747,8763,8763,15931,16351,16381] [] []
 | 41=>ff [0,1,4] [] [4,3] [] []
 | 42=>ff [0,2,3] [17] [6,3,5] [] [(0,[(2,none,1)])]
 | 43=>ff [0,2,3,4,5,10,24,36] [] [254,250,242,210,242,226,162,251,226,114,253] [] []
 | 44=>ff [0,2,3,4,5,11,15,20,29,35,40,48,53,54,55] [2,3] [32764,32760,32728,32761,32664,32761,32600,32753,32753,32497,32761,32216,32761,31736,32760,32744,30696,32744,20472,4088,20472,20472,32765] [(22,[(3,some 3,0)])] [(1,[(3,some 3,1)])]
 | 45=>xT
 | 46=>yw
 | 47=>ya
 | 48=>uN
 | 51=>ff [0,1,4,5,7,8,9,16] [] [252,204,140,196,68,251,204,251] [] []
 | 52=>uo
 | 53=>{eL:=[0,1,4,5,6,16],aB:=[]}
 | 54=>ff [0,1,5] [] [0,4,4,7] [] []
 | 55=>ff [0,1,3,5,14,15,22,26,41,47,60,61,62,63] [3] [16378,16378,16362,16330,16383,16298,16250,16383,16383,16106,16383,15866,16378,16378,9214,1022,9206,9214,9214] [] []
 | 56=>{eL:=[0,2],aB:=[]}
 | 59=>ff [0,2,3,9] [] [14,6,15,13,10,11,13] [] []
 | 60=>ff [0,2,3,4,19] [] [30,26,10,31,29,18,23,29] [] []
 | 61=>xS
 | 62=>xM
 | 63=>va
 | 64=>yv
 | 65=>xW
 | 66=>vb
 | 67=>mh
 | 68=>uC
 | 69=>yl
 | 74=>ff [0,1] [] [0,3] [] []
 | 77=>xI
 | 78=>xJ
 | 79=>xK
 | 80=>xL
 | 81=>xU
 | 82=>uy
 | 83=>xV
 | 84=>xR
 | 85=>xX
 | 86=>uM
 | 101=>{eL:=[0,1,4,5,6,7,19],aB:=[]}
 | 106=>pU
 | 107=>pY
 | 108=>sW
 | 109=>sX
 | 110=>lg
 | 111=>s9
 | 118=>sS
 | 119=>nf
 | 120=>jl
 | 122=>pQ
 | 123=>pP
 | _=>{eL:=[],aB:=[]}
def a6:Nat:=18014398509481984
theorem bq:iQ+eV≤a6:=by decide
def IU:Nat→Option Nat
 | 8=>some a6
 | 12=>some a6
 | 13=>some a6
 | 14=>some a6
 | 16=>some a6
 | 18=>some a6
 | 19=>some a6
 | 21=>some a6
 | 24=>some a6
 | 25=>some a6
 | 28=>some a6
 | 29=>some a6
 | 30=>some a6
 | 31=>some a6
 | 33=>some a6
 | 35=>some a6
 | 36=>some a6
 | 41=>some a6
 | 42=>some a6
 | 45=>some a6
 | 46=>some a6
 | 47=>some a6
 | 48=>some a6
 | 62=>some a6
 | 64=>some a6
 | 65=>some a6
 | 66=>some a6
 | 67=>some a6
 | 69=>some a6
 | 77=>some a6
 | 80=>some a6
 | 81=>some a6
 | 82=>some a6
 | 83=>some a6
 | 86=>some a6
 | 106=>some a6
 | 108=>some a6
 | 109=>some a6
 | 111=>some a6
 | 118=>some a6
 | _=>none
def M:Nat:=18446744073709551616
noncomputable def Cw:lC:={a7:=dd,intr:=Cv,pure:=fun _=>none}
theorem mB {h:AHeap}(hp:0<h.next):Has h []:=⟨fun j i c h=>by simp at h,fun j j' i c c' h=>by simp at h,hp⟩
noncomputable def EA:FuncId→Option (List AV→AHeap→Option (AV × AHeap)):=fun f=>if f=56 then some (fun args h=>(dX Tryd.prog Cw M 1 56 args h).bind plainA) else Cv f
theorem Cy:IntrOK Tryd.prog EA:=intr_cons (plain_ok (pw fits (T:=Cw) qz M 1) 56) (plain_steady (jh (T:=Cw) qz M 1) 56) qz
noncomputable def bN:lC:={a7:=dd,intr:=EA,pure:=IU}
noncomputable def du:CallF:=gY Tryd.prog bN M
theorem Gx:CallOK Tryd.prog du:=A4 fits (T:=bN) Cy
end Go.Proofs.YtmekcfdllhphlaaDoor
namespace Go.Proofs.YtmekcfdllhphlaaDoor
open Go Go.R
open Go.IntKind (i64 u64 u8 u32)
theorem zJ:(bf Tryd.prog dd (dX Tryd.prog bN M 98) M 13 [] bG).map (fun x=>x.1)=some (.bool true):=by kernel_rfl
theorem PY:MA du M:=by
 intro r H h xs hx
 have H:some true=some r:=H
 cases H
 obtain⟨⟨x,h'⟩,hb,e⟩:=QP.1 zJ
 dsimp only at e
 subst e
 obtain⟨l,h1,h2⟩:=iR (P:=Tryd.prog) dd M 13 [] bG _ _ hb
 have hb:=h2 du fun e he=>kr.2 ⟨_,h1 e he⟩
 exact bC (T:=bN) (deep:=a6) rfl rfl bq hx ⟨_,_,hb,bB (aj)⟩
end Go.Proofs.YtmekcfdllhphlaaDoor
namespace Go.Proofs.YtmekcfdllhphlaaDoor
open Go Go.R
open Go.IntKind (i64 u64 u8 u32)
theorem PZ:Ny du M:=by
 intro l0 r H h xs hx
 exact bC (T:=bN) (deep:=a6) rfl rfl bq hx (nr (cf:=du) (m:=M) (a7:=dd) rfl  l0 bG [] bc H)
theorem P4:MX du M:=by
 intro a0 b0 r H h xs hx
 exact bC (T:=bN) (deep:=a6) rfl rfl bq hx (nj (cf:=du) (m:=M) (a7:=dd) rfl  a0 b0 bG [] bc H)
theorem P6:MG du M:=by
 intro s0 f0 r H h fH dJ aT gH gZ xs hx
 exact nP (T:=bN) rfl rfl hx (sU (cf:=du) (m:=M) (a7:=dd) rfl  s0 f0 h [] dJ aT  gH gZ (mB fH) H)
theorem P7:Nz du M:=by
 intro s0 s1 eq0 r H h fH fA bm iC jA xs hx
 exact nP (T:=bN) rfl rfl hx (gk (cf:=du) (m:=M) (a7:=dd) rfl  s0 s1 eq0 h [] fA bm  iC jA (mB fH) H)
theorem P8:NA du M:=by
 intro s0 s1 r H h xs hx
 exact bC (T:=bN) (deep:=a6) rfl rfl bq hx (lq (cf:=du) (m:=M) (a7:=dd) rfl  s0 s1 bG [] bc H)
theorem NK:∀kk,Jc du M kk
 | 0=>by
  intro i0 x0 x1 x2 x3 r H h L  bk db cM cy dm cP cK o  xs hx
  cases H
 | kk+1=>by
  intro i0 x0 x1 x2 x3 r H h L  bk db cM cy dm cP cK o  xs hx
  obtain⟨r',h',hb,jy,rfl,ho⟩:=mj (cf:=du) (m:=M) (a7:=dd) rfl  i0 x0 x1 x2 x3 h L bk db cM cy dm cP cK  (NK kk) o H
  exact⟨jy,h',nO (T:=bN) rfl rfl hx hb,ho⟩
theorem P9:MD du M:=by
 intro a0 x0 r H h L dj bk o dZ
 exact nP (T:=bN) rfl rfl (ao (aR (br)) (ao (rfl) (cq))) (nc (cf:=du) (m:=M) (a7:=dd) rfl  a0 x0 h L  dZ o H)
theorem Qa:ME du M:=by
 intro s0 r H h xs hx
 exact bC (T:=bN) (deep:=a6) rfl rfl bq hx (og (cf:=du) (m:=M) (a7:=dd) rfl  s0 bG [] bc H)
theorem Qb:MM du M:=by
 intro ec r H h xs hx
 exact bC (T:=bN) (deep:=a6) rfl rfl bq hx (oq (cf:=du) (m:=M) (a7:=dd) rfl  ec bG [] bc H)
theorem L5:HU du M:=by
 intro s0 f0 r H h fH dJ aT gH gZ xs hx
 exact nP (T:=bN) rfl rfl hx (sT (cf:=du) (m:=M) (a7:=dd) rfl  s0 f0 h [] dJ aT  gH gZ (mB fH) H)
theorem L6:Ie du M:=by
 intro x0 r H h xs hx
 exact bC (T:=bN) (deep:=a6) rfl rfl bq hx (lh (cf:=du) (m:=M) (a7:=dd) rfl  x0 bG [] bc H)
theorem L7:If du M:=by
 intro x0 r H h xs hx
 exact bC (T:=bN) (deep:=a6) rfl rfl bq hx (jB (cf:=du) (m:=M) (a7:=dd) rfl  x0 bG [] bc H)
theorem L8:Gg du M:=by
 intro c0 r H h xs hx
 exact bC (T:=bN) (deep:=a6) rfl rfl bq hx (my (cf:=du) (m:=M) (a7:=dd) rfl  c0 bG [] bc H)
theorem L9:Fz du M:=by
 intro c0 r H h xs hx
 exact bC (T:=bN) (deep:=a6) rfl rfl bq hx (nb (cf:=du) (m:=M) (a7:=dd) rfl  c0 bG [] bc H)
theorem Ma:FF du M:=by
 intro ai a0 b0 aF r H h L bI aL o nQ dN zp wz xs hx
 have hn0:bI=ai.length:=cg (E:=af) o (q:=0) rfl
 subst hn0
 obtain⟨r',h',hb,rfl,ho⟩:=ky (cf:=du) (m:=M) (a7:=dd) rfl  ai a0 b0 aF h L aL nQ dN  zp wz o H
 exact⟨h',nO (T:=bN) rfl rfl hx hb,ho⟩
theorem Mb:Fw du M:=by
 intro ai a0 b0 n0 aF r H h L bI aL o cY aK eB eW xs hx
 have hn0:bI=ai.length:=cg (E:=af) o (q:=0) rfl
 subst hn0
 obtain⟨r',h',hb,rfl,ho⟩:=oc (cf:=du) (m:=M) (a7:=dd) rfl  ai a0 b0 n0 aF h L aL cY aK  eB eW o H
 exact⟨h',nO (T:=bN) rfl rfl hx hb,ho⟩
theorem Qc:MH du M:=by
 intro s0 f0 r H h fH dJ aT gH gZ xs hx
 exact nP (T:=bN) rfl rfl hx (om (cf:=du) (m:=M) (a7:=dd) rfl P6 s0 f0 h [] dJ aT  gH gZ (mB fH) H)
theorem Qd:MC du M:=by
 intro s0 f0 r H h fH dJ aT gH gZ xs hx
 exact nP (T:=bN) rfl rfl hx (oe (cf:=du) (m:=M) (a7:=dd) rfl L5 s0 f0 h [] dJ aT  gH gZ (mB fH) H)
theorem Qe:ML du M:=by
 intro x0 y0 r H h xs hx
 exact bC (T:=bN) (deep:=a6) rfl rfl bq hx (jY (cf:=du) (m:=M) (a7:=dd) rfl L6 x0 y0 bG [] bc H)
theorem Qf:MN du M:=by
 intro x0 y0 r H h xs hx
 exact bC (T:=bN) (deep:=a6) rfl rfl bq hx (iV (cf:=du) (m:=M) (a7:=dd) rfl L7 x0 y0 bG [] bc H)
theorem Qg:Nc du M:=by
 intro s0 r H h xs hx
 exact bC (T:=bN) (deep:=a6) rfl rfl bq hx (ow (cf:=du) (m:=M) (a7:=dd) rfl L8 s0 bG [] bc H)
theorem Mc:HS du M:=by
 intro s0 iB kL r H h xs hx
 exact bC (T:=bN) (deep:=a6) rfl rfl bq hx (pV (cf:=du) (m:=M) (a7:=dd) rfl L9 s0 iB kL bG [] bc H)
theorem Md:HR du M:=by
 intro ai a0 m0 b0 aF r H h L bI aL o cY aK eB eW xs hx
 have hn0:bI=ai.length:=cg (E:=af) o (q:=0) rfl
 subst hn0
 obtain⟨r',h',hb,rfl,ho⟩:=sR (cf:=du) (m:=M) (a7:=dd) rfl Mb ai a0 m0 b0 aF h L aL cY aK  eB eW o H
 exact⟨h',nO (T:=bN) rfl rfl hx hb,ho⟩
theorem Me:Ig du M:=by
 intro a0 b0 r H h xs hx
 exact bC (T:=bN) (deep:=a6) rfl rfl bq hx (jZ (cf:=du) (m:=M) (a7:=dd) rfl Qe Qb Qf a0 b0 bG [] bc H)
theorem Qh:Nd du M:=by
 intro s0 r H h xs hx
 exact bC (T:=bN) (deep:=a6) rfl rfl bq hx (mz (cf:=du) (m:=M) (a7:=dd) rfl Qg s0 bG [] bc H)
theorem Qi:MB du M:=by
 intro s0 r H h xs hx
 exact bC (T:=bN) (deep:=a6) rfl rfl bq hx (pX (cf:=du) (m:=M) (a7:=dd) rfl Mc s0 bG [] bc H)
theorem Qj:MO du M:=by
 intro i0 j0 x0 r H h L dj bk o dZ
 exact nP (T:=bN) rfl rfl (ao (aR (br)) (ao (aR (br)) (ao (rfl) (cq)))) (kz (cf:=du) (m:=M) (a7:=dd) rfl Me i0 j0 x0 h L  dZ o H)
theorem IV:∀kk,qU du M kk
 | 0=>by
  intro ai a0 m0 b0 aF r H h L bI aL o cY aK eB eW xs hx
  cases H
 | kk+1=>by
  intro ai a0 m0 b0 aF r H h L bI aL o cY aK eB eW xs hx
  have hn0:bI=ai.length:=cg (E:=af) o (q:=0) rfl
  subst hn0
  obtain⟨r',h',hb,rfl,ho⟩:=qe (cf:=du) (m:=M) (a7:=dd) rfl Md ai a0 m0 b0 aF h L aL cY aK  (IV kk) eB eW o H
  exact⟨h',nO (T:=bN) rfl rfl hx hb,ho⟩
theorem Qk:Lq du M:=by
 intro n0 au r H h xs hx
 exact bC (T:=bN) (deep:=a6) rfl rfl bq hx (np (cf:=du) (m:=M) (a7:=dd) rfl Qh n0 au bG [] bc H)
theorem Ql:MF du M:=by
 intro n0 jX r H h xs hx
 exact bC (T:=bN) (deep:=a6) rfl rfl bq hx (pZ (cf:=du) (m:=M) (a7:=dd) rfl Qi Qd P9 Qa n0 jX bG [] bc H)
theorem Qm:S64 du M:=by
 intro m0 n0 r H h xs hx
 exact bC (T:=bN) (deep:=a6) rfl rfl bq hx (mA (cf:=du) (m:=M) (a7:=dd) rfl Me P8 m0 n0 bG [] bc H)
theorem Mf:Ia du M:=by
 intro ai n0 aF r H h L bI aL o fA bm iC jA xs hx
 have hn0:bI=ai.length:=cg (E:=af) o (q:=0) rfl
 subst hn0
 obtain⟨r',h',hb,rfl,ho⟩:=sV (cf:=du) (m:=M) (a7:=dd) rfl Ma (IV _) ai n0 aF h L aL fA bm  iC jA o H
 exact⟨h',nO (T:=bN) rfl rfl hx hb,ho⟩
theorem Qn:Ng du M:=by
 intro t0 r H h xs hx
 exact bC (T:=bN) (deep:=a6) rfl rfl bq hx (nq (cf:=du) (m:=M) (a7:=dd) rfl Qk t0 bG [] bc H)
theorem Qo:NB du M:=by
 intro a0 b0 r H h xs hx
 exact bC (T:=bN) (deep:=a6) rfl rfl bq hx (ox (cf:=du) (m:=M) (a7:=dd) rfl P7 Qm a0 b0 bG [] bc H)
theorem Qp:MK du M:=by
 intro n0 x0 r H h L dj bk o dZ
 exact nP (T:=bN) rfl rfl (ao (aR (jU (b4 (br) (b4 (br) (b4 (Fi) (b4 (ik (E:=af)) (fe))))))) (ao (rfl) (cq))) (mg (cf:=du) (m:=M) (a7:=dd) rfl Ql n0 x0 h L  dZ o H)
theorem Qq:MJ du M:=by
 intro x0 aF r H h L Bs aL o dJ aT gH gZ xs hx
 have hn0:Bs=x0.length:=cg (E:=af) o (q:=0) rfl
 subst hn0
 obtain⟨r',h',hb,rfl,ho⟩:=mf (cf:=du) (m:=M) (a7:=dd) rfl Mf x0 aF h L aL dJ aT  gH gZ o H
 exact⟨h',nO (T:=bN) rfl rfl hx hb,ho⟩
theorem NL:KD du M:=by
 intro t0 r H h xs hx
 exact bC (T:=bN) (deep:=a6) rfl rfl bq hx (oo (cf:=du) (m:=M) (a7:=dd) rfl Qc Qp t0 bG [] bc H)
theorem Qs:MP du M:=by
 intro au r H h xs hx
 exact bC (T:=bN) (deep:=a6) rfl rfl bq hx (mi (cf:=du) (m:=M) (a7:=dd) rfl Me Qq Qj au bG [] bc H)
theorem NM:La du M:=by
 intro t0 r H h xs hx
 exact oJ (T:=bN) (deep:=a6) rfl rfl bq hx (ou (cf:=du) (m:=M) (a7:=dd) rfl Qs (NK _) t0 bG [] bc H)
theorem Qt:NC du M:=by
 intro a0 b0 r H h xs hx
 exact bC (T:=bN) (deep:=a6) rfl rfl bq hx (qy (cf:=du) (m:=M) (a7:=dd) rfl NL Qo NM a0 b0 bG [] bc H)
theorem Qu:MV du M:=by
 intro t0 r H h xs hx
 exact oJ (T:=bN) (deep:=a6) rfl rfl bq hx (ov (cf:=du) (m:=M) (a7:=dd) rfl NL NM t0 bG [] bc H)
theorem Qv:MW du M:=by
 intro t0 r H h xs hx
 exact oJ (T:=bN) (deep:=a6) rfl rfl bq hx (ml (cf:=du) (m:=M) (a7:=dd) rfl Qu t0 bG [] bc H)
theorem j8:S8 du M:=by
 intro t0 bK r H h xs hx
 exact bC (T:=bN) (deep:=a6) rfl rfl bq hx (jr (cf:=du) (m:=M) (a7:=dd) rfl PZ PY Qv P4 Qt Qn t0 bK bG [] bc H)
end Go.Proofs.YtmekcfdllhphlaaDoor
namespace Go.Proofs.YtmekcfdllhphlaaDoor
open Go Go.R Go.Proofs Go.RowKit Go.ChangeShapes Go.WideShapes
theorem all_true (px:List AV)(h:lU Tryd.prog 6 Tryd.f8.params.toList px):∃cf h',CallOK Tryd.prog cf∧cf 8 px bG=some (.bool true,h'):=by
 rw [show Tryd.f8.params.toList=[31,25] from by rw [Tryd.params8]] at h
 obtain⟨xs,ys,rfl,hx,hy⟩:=vh h
 obtain⟨a,ha,fa⟩:=Cs hx
 obtain⟨b,hb,fb⟩:=Gw hy
 exact⟨du,bG,Gx,j8 a b true (w9 (by decide) ha hb) bG _ (eZ (ab (fa bG) (ab (fb bG) aA)))⟩
noncomputable def qA : List (String × DataW Unit) := [("bytes.ErrTooLarge", Rows.laid_bytes_ErrTooLarge)]
theorem own:ownKnob Tryd.prog.godebug=none:=by kernel_rfl
noncomputable def r7 (os:Os):World:=World.laidAll Tryd.prog os qA
theorem q6 (os:Os)(args:Array Value):laidMetH Tryd.prog qA ((r7 os).forCall (fun _ _=>0) ⟨#[],args,[]⟩).memory:=by
 refine laidMetH_of_parts ?_ (by kernel_rfl)
 rw [show (qA.filter fun x=>x.2.handleName?.isNone)=qA from by kernel_rfl]
 exact laidMet_laidAll args (by kernel_rfl) (by kernel_rfl)
theorem ls (os:Os)(started:os.Started)(H:Type)(enc:TypeId × Value→H) :
  ReturnsInHanded {} Tryd.checked os 8 .any (fun w args=>(Rows.pickleLeastSpec.pre enc Tryd.prog Tryd.f8 [] false w args∧laidMetH Tryd.prog qA w)∧sizedMet enc Tryd.prog Tryd.f8 (OpenSpec.ofChange Rows.pickleLeastSpec) false w args)
   (Rows.pickleLeastSpec.post enc Tryd.prog Tryd.f8 false true false false):=by
 refine returnsInHanded_of_change_and (C:=Tryd.checked) (X:=fun w _=>laidMetH Tryd.prog qA w) (fun _ _ _ hh h=>h.of_heap hh) own started (by kernel_rfl) Tryd.func8
  (ChangeSpec.witness_at (enc:=enc) (C:=Tryd.checked) (os:=os) (X:=fun w _=>laidMetH Tryd.prog qA w) false (r7 os) #[.agg #[.slice none 0 0,.int .i64 0],.slice none 0 0] 8 (World.laidAll_os _ _ _) (by kernel_rfl) (by kernel_rfl) (by kernel_rfl) (by kernel_rfl) (by kernel_rfl) (q6 os _)) ?_
 intro W base args ds gs before cn hW _ _ hL _
 exact qN (cf:=fun _ _ _=>none) (P:=Tryd.prog) (m:=6) (tb:=4) (by kernel_rfl)
  (by rw [show Tryd.f8.params.toList=[31,25] from by rw [Tryd.params8]]; intro t ht; simp at ht; rcases ht with rfl | rfl<;>exact⟨by kernel_rfl,of_decide_eq_true (by kernel_rfl)⟩)
  (by rw [show Tryd.f8.params.toList=[31,25] from by rw [Tryd.params8]]; intro t ht; simp at ht; rcases ht with rfl | rfl<;>kernel_rfl) rfl rfl Tryd.underlying4
  (fun ds EP=>by
   have:ds.length=2:=by rw [EP]; rfl
   match ds,this with
   | [d,e],_=>rfl) all_true cn hW
theorem oy:Rows.PickleLeastSaid:=
 OpenClaim.holds_of_wide 8 Tryd.f8 rfl rfl rfl rfl rfl rfl rfl ⟨rfl,rfl,rfl,rfl,rfl⟩ rfl rfl rfl rfl rfl (by kernel_rfl) Tryd.func8 (by kernel_rfl)
  (of_decide_eq_true (by kernel_rfl)) (by unfold Func.isWrapper; first | (rw [if_pos (by decide +kernel)]; kernel_rfl) | (rw [if_neg (by decide +kernel)]; exact⟨rfl,rfl⟩))
  (fun os started H enc _=>ls os started H enc)
theorem pickleLeast_holds:Rows.PickleLeastCardSaid:=
 Claim7.holds_tied_plain_at .later [] [.sentinel] true (true, "5c7c24f3f163267658839de8cc9f4545a02ccfedb2900f3b8e61d73ca287aaae") false
  oy (fun _ h=>by cases h) (by kernel_rfl) (fun _ h=>by cases h) pickleLeast_row_tie rfl ⟨rfl,rfl⟩ (by kernel_rfl) rfl
  (fun f fn hf E7=>by
   obtain rfl : f = 8 := Rf ((show Tryd.prog.funcNamed "leatwork/leatworklaw20.PickleLeast" = some 8 by kernel_rfl).symm.trans hf) |>.symm
   obtain rfl:fn=Tryd.f8:=(Rf (Tryd.func8.symm.trans E7)).symm
   exact⟨by kernel_rfl,fun j t ht=>by
    rw [Tryd.params8] at ht
    have h3:t=31∨t=25:=by
     rcases j with _ | _ | j
     ·left; simpa using ht.symm
     ·right; simpa using ht.symm
     ·simp at ht
    rcases h3 with rfl | rfl
    ·exact (show Tryd.prog.wantsStandIn 31=false by kernel_rfl)
    ·exact (show Tryd.prog.wantsStandIn 25=false by kernel_rfl)⟩)
  (by kernel_rfl)
end Go.Proofs.YtmekcfdllhphlaaDoor
