/- Proved: StoreClones returns true for every input; no condition. -/
import Derived.Test.YtifafejidnjckaaK13
import Derived.Test.YtifafejidnjckaaChecked
import Derived.Test.YtifafejidnjckaaRows
set_option linter.unusedVariables false
set_option linter.unusedSimpArgs false
set_option maxRecDepth 100000
open Option renaming map_eq_some_iff → Vr
namespace Go.Proofs.Ytifafejidnjckaa
open Go Go.R Go.Shelf
open Go.IntKind (i64 u64 u8 u32)
theorem fits:Fit Try.prog:=IF (by kernel_rfl) (by kernel_rfl)
def JX:Ren:={f:=(fun x=>match x with | 189=>60 | 125=>77 | 257=>76 | 128=>95 | 129=>96 | 294=>86 | 295=>87 | 296=>88 | 297=>89 | 298=>90 | 299=>91 | 216=>92 | 300=>93 | 301=>94 | 328=>100 | 329=>101 | 330=>102 | 331=>103 | 332=>104 | 215=>97 | 343=>107 | n=>n),t:=(fun x=>match x with | 28=>33 | 3=>3 | 46=>108 | 0=>0 | 51=>126 | 53=>128 | 4=>4 | 183=>119 | 182=>118 | 131=>103 | 5=>5 | 9=>9 | 218=>130 | 222=>134 | 228=>138 | 229=>139 | n=>n),g:=(fun n=>n)}
theorem Mk:Lays.n189 Try.prog JX:={
 mixed:=by kernel_rfl,
 f125:=Try.func77.trans (congrArg some (by kernel_rfl)),
 f128:=Try.func95.trans (congrArg some (by kernel_rfl)),
 f129:=Try.func96.trans (congrArg some (by kernel_rfl)),
 f189:=Try.func60.trans (congrArg some (by kernel_rfl)),
 f215:=Try.func97.trans (congrArg some (by kernel_rfl)),
 f216:=Try.func92.trans (congrArg some (by kernel_rfl)),
 f257:=Try.func76.trans (congrArg some (by kernel_rfl)),
 f294:=Try.func86.trans (congrArg some (by kernel_rfl)),
 f295:=Try.func87.trans (congrArg some (by kernel_rfl)),
 f296:=Try.func88.trans (congrArg some (by kernel_rfl)),
 f297:=Try.func89.trans (congrArg some (by kernel_rfl)),
 f298:=Try.func90.trans (congrArg some (by kernel_rfl)),
 f299:=Try.func91.trans (congrArg some (by kernel_rfl)),
 f300:=Try.func93.trans (congrArg some (by kernel_rfl)),
 f301:=Try.func94.trans (congrArg some (by kernel_rfl)),
 f328:=Try.func100.trans (congrArg some (by kernel_rfl)),
 f329:=Try.func101.trans (congrArg some (by kernel_rfl)),
 f330:=Try.func102.trans (congrArg some (by kernel_rfl)),
 f331:=Try.func103.trans (congrArg some (by kernel_rfl)),
 f332:=Try.func104.trans (congrArg some (by kernel_rfl)),
 f343:=Try.func107.trans (congrArg some (by kernel_rfl)),
 t0:=Try.underlying0,
 a0:=Try.isAgg0,
 z0:=Try.sizeOf0,
 v0:=Try.zeroValue0,
 t3:=Try.underlying3,
 a3:=Try.isAgg3,
 z3:=Try.sizeOf3,
 v3:=Try.zeroValue3,
 t4:=Try.underlying4,
 a4:=Try.isAgg4,
 z4:=Try.sizeOf4,
 v4:=Try.zeroValue4,
 t5:=Try.underlying5,
 a5:=Try.isAgg5,
 z5:=Try.sizeOf5,
 v5:=Try.zeroValue5,
 t9:=Try.underlying9,
 a9:=Try.isAgg9,
 z9:=Try.sizeOf9,
 v9:=Try.zeroValue9,
 t28:=Try.underlying33,
 a28:=Try.isAgg33,
 z28:=Try.sizeOf33,
 v28:=Try.zeroValue33,
 t46:=Try.underlying108,
 a46:=Try.isAgg108,
 z46:=Try.sizeOf108,
 v46:=Try.zeroValue108,
 t51:=Try.underlying126,
 a51:=Try.isAgg126,
 z51:=Try.sizeOf126,
 v51:=Try.zeroValue126,
 t53:=Try.underlying128,
 a53:=Try.isAgg128,
 z53:=Try.sizeOf128,
 v53:=Try.zeroValue128,
 t131:=Try.underlying103,
 a131:=Try.isAgg103,
 z131:=Try.sizeOf103,
 v131:=Try.zeroValue103,
 t182:=Try.underlying118,
 a182:=Try.isAgg118,
 z182:=Try.sizeOf118,
 v182:=Try.zeroValue118,
 t183:=Try.underlying119,
 a183:=Try.isAgg119,
 z183:=Try.sizeOf119,
 v183:=Try.zeroValue119,
 t218:=Try.underlying130,
 a218:=Try.isAgg130,
 z218:=Try.sizeOf130,
 v218:=Try.zeroValue130,
 t222:=Try.underlying134,
 a222:=Try.isAgg134,
 z222:=Try.sizeOf134,
 v222:=Try.zeroValue134,
 t228:=Try.underlying138,
 a228:=Try.isAgg138,
 z228:=Try.sizeOf138,
 v228:=Try.zeroValue138,
 t229:=Try.underlying139,
 a229:=Try.isAgg139,
 z229:=Try.sizeOf139,
 v229:=Try.zeroValue139}
theorem JY:∀(vs:Array Value) (w:World),(callFunc (JX.f 189) vs).run Try.prog w = .ok (.enter (JX.f 189) vs) w:=
 my (c:=b8 Try.f60) Try.func60 (by kernel_rfl) (by decide +kernel)
def p4:b5:=gV [0,2,4] [] [] [] []
def nG:nu:={aX:=fun _=>p4,intr:=fun _=>none,pure:=fun _=>none}
noncomputable def Ml:CallF:=a6 Try.prog nG.aX (eO Try.prog nG 10 0) 10
theorem FU:CallOK Try.prog Ml:=wT fits (oK fits mY 10 0) (wY fits.mixed (oK fits mY 10 0) (lz mY 10 0)) 10
theorem Hr (c:AV)(cs:List AV)(n:Nat)(ex:Bool)(h:AHeap)(i k w:Nat)(h':AHeap)(e:dE Try.prog h 40 40 (.fz [] 0 true) (.fz (c::cs) n ex)=some (.rs i 0 k w,h')):Ml 38 [.fz (c::cs) n ex] h=some (.rs i 0 k w,h'):=by
 have key:∃r h2,a6 Try.prog nG.aX (eO Try.prog nG 10 0) 10 38 [.fz (c::cs) n ex] h=some (r,h2)∧r = .rs i 0 k w∧h2=h':=by
  refine au (fn:=Try.f38) (A:=p4) rfl Try.func38 (by kernel_rfl) (by kernel_rfl) ?_
  refine aK (Q:=fun s=>aP Try.prog (s.open p4) Try.f38.results.toList=some (.rs i 0 k w)∧s.h=h') (fun _ _ ⟨h1,h2,h3⟩=>⟨h1,_,h2,rfl,h3⟩) ?_
  show du _ _ p4 _ _ ⟨[.fz (c::cs) n ex,.any,.any],[],h⟩ _
  refine q1 <| qq <| q1 <| Eg <| qk <| qs [.a 2 e] <| qt <| ⟨.inl rfl,by kernel_rfl,by kernel_rfl⟩
 obtain⟨r,h2,hb,rfl,rfl⟩:=key
 exact hb
theorem Hs (j n q:Nat)(h:AHeap)(i k w:Nat)(h':AHeap)(e:dE Try.prog h 40 40 (.fz [] 0 true) (.rs (j+1) 0 n q)=some (.rs i 0 k w,h')):Ml 38 [.rs (j+1) 0 n q] h=some (.rs i 0 k w,h'):=by
 have key:∃r h2,a6 Try.prog nG.aX (eO Try.prog nG 10 0) 10 38 [.rs (j+1) 0 n q] h=some (r,h2)∧r = .rs i 0 k w∧h2=h':=by
  refine au (fn:=Try.f38) (A:=p4) rfl Try.func38 (by kernel_rfl) (by kernel_rfl) ?_
  refine aK (Q:=fun s=>aP Try.prog (s.open p4) Try.f38.results.toList=some (.rs i 0 k w)∧s.h=h') (fun _ _ ⟨h1,h2,h3⟩=>⟨h1,_,h2,rfl,h3⟩) ?_
  show du _ _ p4 _ _ ⟨[.rs (j+1) 0 n q,.any,.any],[],h⟩ _
  refine q1 <| qq <| q1 <| Eg <| qk <| qs [.a 2 e] <| qt <| ⟨.inl rfl,by kernel_rfl,by kernel_rfl⟩
 obtain⟨r,h2,hb,rfl,rfl⟩:=key
 exact hb
theorem Mm:∀x,(∀st,x≠.str st)→iA Try.prog 40 x=true:=by
 intro x hx
 cases x<;>first | exact absurd rfl (hx _) | kernel_rfl
theorem Ht:CallOK Try.prog fun f args h=>if f=38 then xq 4 args h else none:=
 Ia FU (F:=38) (t:=40) (z:=4) (by kernel_rfl) (by decide) (by kernel_rfl) (by kernel_rfl) Hr Hs Mm
theorem Hu (c:AV)(cs:List AV)(n:Nat)(ex:Bool)(h:AHeap)(i k w:Nat)(h':AHeap)(e:dE Try.prog h 33 33 (.fz [] 0 true) (.fz (c::cs) n ex)=some (.rs i 0 k w,h')):Ml 39 [.fz (c::cs) n ex] h=some (.rs i 0 k w,h'):=by
 have key:∃r h2,a6 Try.prog nG.aX (eO Try.prog nG 10 0) 10 39 [.fz (c::cs) n ex] h=some (r,h2)∧r = .rs i 0 k w∧h2=h':=by
  refine au (fn:=Try.f39) (A:=p4) rfl Try.func39 (by kernel_rfl) (by kernel_rfl) ?_
  refine aK (Q:=fun s=>aP Try.prog (s.open p4) Try.f39.results.toList=some (.rs i 0 k w)∧s.h=h') (fun _ _ ⟨h1,h2,h3⟩=>⟨h1,_,h2,rfl,h3⟩) ?_
  show du _ _ p4 _ _ ⟨[.fz (c::cs) n ex,.any,.any],[],h⟩ _
  refine q1 <| qq <| q1 <| Eg <| qk <| qs [.a 2 e] <| qt <| ⟨.inl rfl,by kernel_rfl,by kernel_rfl⟩
 obtain⟨r,h2,hb,rfl,rfl⟩:=key
 exact hb
theorem Hv (j n q:Nat)(h:AHeap)(i k w:Nat)(h':AHeap)(e:dE Try.prog h 33 33 (.fz [] 0 true) (.rs (j+1) 0 n q)=some (.rs i 0 k w,h')):Ml 39 [.rs (j+1) 0 n q] h=some (.rs i 0 k w,h'):=by
 have key:∃r h2,a6 Try.prog nG.aX (eO Try.prog nG 10 0) 10 39 [.rs (j+1) 0 n q] h=some (r,h2)∧r = .rs i 0 k w∧h2=h':=by
  refine au (fn:=Try.f39) (A:=p4) rfl Try.func39 (by kernel_rfl) (by kernel_rfl) ?_
  refine aK (Q:=fun s=>aP Try.prog (s.open p4) Try.f39.results.toList=some (.rs i 0 k w)∧s.h=h') (fun _ _ ⟨h1,h2,h3⟩=>⟨h1,_,h2,rfl,h3⟩) ?_
  show du _ _ p4 _ _ ⟨[.rs (j+1) 0 n q,.any,.any],[],h⟩ _
  refine q1 <| qq <| q1 <| Eg <| qk <| qs [.a 2 e] <| qt <| ⟨.inl rfl,by kernel_rfl,by kernel_rfl⟩
 obtain⟨r,h2,hb,rfl,rfl⟩:=key
 exact hb
theorem Mn:∀x,(∀st,x≠.str st)→iA Try.prog 33 x=true:=by
 intro x hx
 cases x<;>first | exact absurd rfl (hx _) | kernel_rfl
theorem Hw:CallOK Try.prog fun f args h=>if f=39 then xq 1 args h else none:=
 Ia FU (F:=39) (t:=33) (z:=1) (by kernel_rfl) (by decide) (by kernel_rfl) (by kernel_rfl) Hu Hv Mn
noncomputable def Ib:FuncId→Option (List AV→AHeap→Option (AV × AHeap)):=fun f=>if f=60 then some IY else if f=38 then some (xq 4) else if f=39 then some (xq 1) else none
theorem FV:IntrOK Try.prog Ib:=intr_cons (f0:=60) (Lr Mk JY) Cy (intr_cons (f0:=38) Ht uI (intr_cons (f0:=39) Hw uI mY))
end Go.Proofs.Ytifafejidnjckaa
namespace Go.Proofs.Ytifafejidnjckaa
open Go Go.R
open Go.IntKind (i64 u64 u8 u32)
def cN:Nat→b5
 | 6=>CK
 | 10=>xA
 | 11=>{keep:=[0,1,2,3,4,5,6,7,8,9,10,11,12,13,14,16,17,19,22,25],aE:=[]}
 | 12=>xP
 | 14=>xB
 | 15=>xO
 | 16=>Bc
 | 17=>Bo
 | 18=>AN
 | 19=>AO
 | 23=>Bd
 | 24=>Be
 | 26=>Ax
 | 27=>AP
 | 28=>Bj
 | 29=>AQ
 | 30=>A0
 | 31=>ur
 | 32=>xC
 | 33=>A5
 | 34=>Bf
 | 35=>A6
 | 36=>sS
 | 37=>Ay
 | 41=>xE
 | 43=>Bn
 | 44=>Bk
 | 46=>Bm
 | 47=>Az
 | 48=>AA
 | 49=>Bg
 | 50=>A7
 | 51=>AB
 | 52=>AR
 | 53=>AS
 | 54=>AD
 | 55=>AE
 | 56=>AT
 | 57=>xL
 | 58=>AU
 | 59=>AF
 | 60=>{keep:=[0,2],aE:=[]}
 | 61=>A8
 | 62=>AG
 | 63=>AW
 | 64=>AH
 | 65=>AX
 | 66=>Bh
 | 67=>A9
 | 70=>Ba
 | 72=>pd
 | 73=>xF
 | 74=>xM
 | 75=>xH
 | 78=>xI
 | 79=>AJ
 | 80=>AY
 | 81=>xJ
 | 82=>AZ
 | 83=>Bl
 | 84=>Bb
 | 85=>AK
 | 97=>AL
 | 98=>AM
 | 99=>sR
 | 105=>pQ
 | 106=>lK
 | 108=>sK
 | 109=>sI
 | _=>{keep:=[],aE:=[]}
def bh:Nat:=18014398509481984
theorem bj:ig+bQ≤bh:=by decide
def Mo:Nat→Option Nat
 | 6=>some bh
 | 10=>some bh
 | 11=>some bh
 | 14=>some bh
 | 15=>some bh
 | 18=>some bh
 | 24=>some bh
 | 30=>some bh
 | 33=>some bh
 | 37=>some bh
 | 41=>some bh
 | 43=>some bh
 | 44=>some bh
 | 46=>some bh
 | 48=>some bh
 | 49=>some bh
 | 50=>some bh
 | 51=>some bh
 | 52=>some bh
 | 53=>some bh
 | 54=>some bh
 | 55=>some bh
 | 58=>some bh
 | 59=>some bh
 | 61=>some bh
 | 62=>some bh
 | 63=>some bh
 | 64=>some bh
 | 65=>some bh
 | 66=>some bh
 | 67=>some bh
 | 70=>some bh
 | 72=>some bh
 | 74=>some bh
 | 75=>some bh
 | 78=>some bh
 | 79=>some bh
 | 80=>some bh
 | 81=>some bh
 | 82=>some bh
 | 84=>some bh
 | 85=>some bh
 | 97=>some bh
 | 98=>some bh
 | _=>none
def JZ:Nat→Bool
 | 33=>true
 | 43=>true
 | 46=>true
 | _=>false
def M:Nat:=18446744073709551616
noncomputable def bC:nu:={aX:=cN,intr:=Ib,pure:=Mo,eM:=JZ}
noncomputable def cO:CallF:=iL Try.prog bC M
theorem J0:CallOK Try.prog cO:=Ef fits (T:=bC) FV
theorem Ul:QD cO M:=fun args h=>nT (T:=bC) rfl
theorem Um:QC cO M:=fun args h=>nT (T:=bC) rfl
theorem RP:Ob cO M:=fun args h=>nT (T:=bC) rfl
end Go.Proofs.Ytifafejidnjckaa
namespace Go.Proofs.Ytifafejidnjckaa
open Go Go.R
open Go.IntKind (i64 u64 u8 u32)
theorem C3:(a6 Try.prog cN (eO Try.prog bC M 98) M 11 [] bz).map (fun x=>x.1)=some (.bool true):=by kernel_rfl
theorem Un:QB cO M:=by
 intro r H h xs hx
 have H:some true=some r:=H
 cases H
 obtain⟨⟨x,h'⟩,hb,e⟩:=Vr.1 C3
 dsimp only at e
 subst e
 obtain⟨l,h1,h2⟩:=jE (P:=Try.prog) cN M 11 [] bz _ _ hb
 have hb:=h2 cO fun e he=>kQ.2 ⟨_,h1 e he⟩
 exact bm (T:=bC) (deep:=bh) rfl rfl rfl bj hx ⟨_,_,hb,dq (aD)⟩
end Go.Proofs.Ytifafejidnjckaa
namespace Go.Proofs.Ytifafejidnjckaa
open Go Go.R
open Go.IntKind (i64 u64 u8 u32)
theorem Uo:QE cO M:=by
 intro l0 r H  h xs hx
 exact bm (T:=bC) (deep:=bh) rfl rfl rfl bj hx (pN (cf:=cO) (m:=M) (aX:=cN) rfl  l0 bz []   aY H)
theorem Up:QF cO M:=by
 intro a0 b0 r H  h xs hx
 exact bm (T:=bC) (deep:=bh) rfl rfl rfl bj hx (qO (cf:=cO) (m:=M) (aX:=cN) rfl  a0 b0 bz []   aY H)
theorem Uq:QG cO M:=by
 intro  r H h L   o  xs hx
 obtain⟨r',h',hb,eB,dQ,dR,rfl,ho⟩:=sH (cf:=cO) (m:=M) (aX:=cN) rfl   h L  o H
 exact⟨eB,dQ,dR,h',gz (T:=bC) rfl rfl hx hb,ho⟩
theorem RQ:Oc cO M:=by
 intro s0 aF r H h L  ao ak an o  xs hx
 obtain⟨r',h',hb,aA,aB,rfl,ho⟩:=lX (cf:=cO) (m:=M) (aX:=cN) rfl  s0 aF h L ao ak an  o H
 exact⟨aA,aB,h',gz (T:=bC) rfl rfl hx hb,ho⟩
theorem Mp:Kh cO M:=by
 intro s0 r H  h xs hx
 exact bm (T:=bC) (deep:=bh) rfl rfl rfl bj hx (lY (cf:=cO) (m:=M) (aX:=cN) rfl  s0 bz []   aY H)
theorem RR:MD cO M:=by
 intro s0 n0 r H  h xs hx
 exact bm (T:=bC) (deep:=bh) rfl rfl rfl bj hx (mG (cf:=cO) (m:=M) (aX:=cN) rfl  s0 n0 bz []   aY H)
theorem Mq:Ki cO M:=by
 intro s0 Eu n0 r H h L  ao ak an o eS aS bY qP gS oV gT xs hx
 obtain⟨r',h',hb,aA,aB,rfl,ho⟩:=mH (cf:=cO) (m:=M) (aX:=cN) rfl Mp s0 Eu n0 h L ao ak an eS aS bY  qP gS oV gT o H
 exact⟨aA,aB,h',gz (T:=bC) rfl rfl hx hb,ho⟩
theorem Ur:QH cO M:=by
 intro  r H  h xs hx
 exact bm (T:=bC) (deep:=bh) rfl rfl rfl bj hx (lD (cf:=cO) (m:=M) (aX:=cN) rfl   bz []   aY H)
theorem Us:QI cO M:=by
 intro x0 r H  h xs hx
 exact bm (T:=bC) (deep:=bh) rfl rfl rfl bj hx (lE (cf:=cO) (m:=M) (aX:=cN) rfl  x0 bz []   aY H)
theorem RU:Od cO M:=by
 intro s0 n0 r H  h xs hx
 exact bm (T:=bC) (deep:=bh) rfl rfl rfl bj hx (lF (cf:=cO) (m:=M) (aX:=cN) rfl  s0 n0 bz []   aY H)
theorem Ut:Oe cO M:=by
 intro a0 b0 r H  h xs hx
 exact bm (T:=bC) (deep:=bh) rfl rfl rfl bj hx (oW (cf:=cO) (m:=M) (aX:=cN) rfl  a0 b0 bz []   aY H)
theorem RV:Of cO M:=by
 intro s0 n0 r H  h xs hx
 exact bm (T:=bC) (deep:=bh) rfl rfl rfl bj hx (lZ (cf:=cO) (m:=M) (aX:=cN) rfl  s0 n0 bz []   aY H)
theorem Uu:QJ cO M:=by
 intro a0 x0 r H  h xs hx
 exact bm (T:=bC) (deep:=bh) rfl rfl rfl bj hx (jW (cf:=cO) (m:=M) (aX:=cN) rfl RU a0 x0 bz []   aY H)
theorem RW:Og cO M:=by
 intro s0 r H  h xs hx
 exact bm (T:=bC) (deep:=bh) rfl rfl rfl bj hx (qQ (cf:=cO) (m:=M) (aX:=cN) rfl  s0 bz []   aY H)
theorem RX:∀kk,ME cO M kk
 | 0=>by
  intro i0 x0 x1 x2 x3 r H h L  db dA dc cK er eH dm cQ o  xs hx
  cases H
 | kk+1=>by
  intro i0 x0 x1 x2 x3 r H h L  db dA dc cK er eH dm cQ o  xs hx
  obtain⟨r',h',hb,lT,ia,rfl,ho⟩:=oX (cf:=cO) (m:=M) (aX:=cN) rfl  i0 x0 x1 x2 x3 h L db dA dc cK er eH dm cQ  (RX kk) o H
  exact⟨lT,ia,h',gz (T:=bC) rfl rfl hx hb,ho⟩
theorem RY:Ol cO M:=by
 intro s0 f0 r H eS aS gS gT h xs hx
 exact bm (T:=bC) (deep:=bh) rfl rfl rfl bj hx (vL (cf:=cO) (m:=M) (aX:=cN) rfl  s0 f0 bz [] eS aS  gS gT aY H)
theorem Uv:QK cO M:=by
 intro s0 f0 r H eS aS gS gT h xs hx
 exact bm (T:=bC) (deep:=bh) rfl rfl rfl bj hx (vM (cf:=cO) (m:=M) (aX:=cN) rfl  s0 f0 bz [] eS aS  gS gT aY H)
theorem Uw:QL cO M:=by
 intro a0 x0 r H  h xs hx
 exact bm (T:=bC) (deep:=bh) rfl rfl rfl bj hx (pO (cf:=cO) (m:=M) (aX:=cN) rfl  a0 x0 bz []   aY H)
theorem Ux:QM cO M:=by
 intro gw r H  h xs hx
 exact bm (T:=bC) (deep:=bh) rfl rfl rfl bj hx (qR (cf:=cO) (m:=M) (aX:=cN) rfl  gw bz []   aY H)
theorem Uy:Om cO M:=by
 intro c0 r H  h xs hx
 exact bm (T:=bC) (deep:=bh) rfl rfl rfl bj hx (pP (cf:=cO) (m:=M) (aX:=cN) rfl  c0 bz []   aY H)
theorem Uz:QN cO M:=by
 intro x0 r H  h xs hx
 exact bm (T:=bC) (deep:=bh) rfl rfl rfl bj hx (nW (cf:=cO) (m:=M) (aX:=cN) rfl  x0 bz []   aY H)
theorem UA:QP cO M:=by
 intro x0 r H  h xs hx
 exact bm (T:=bC) (deep:=bh) rfl rfl rfl bj hx (l7 (cf:=cO) (m:=M) (aX:=cN) rfl  x0 bz []   aY H)
theorem P7:Jf cO M:=by
 intro ax a0 b0 aT r H h L cr aG o qB fS eZ CE zo zp CF xs hx
 have hn0:cr=ax.length:=cG (E:=af) o (q:=0) rfl
 subst hn0
 obtain⟨r',h',hb,rfl,ho⟩:=nl (cf:=cO) (m:=M) (aX:=cN) rfl  ax a0 b0 aT h L aG qB fS eZ  CE zo zp CF o H
 exact⟨h',gz (T:=bC) rfl rfl hx hb,ho⟩
theorem P8:Jg cO M:=by
 intro ax a0 b0 n0 aT r H h L cr aG o eU a7 aU gK hX hY iI xs hx
 have hn0:cr=ax.length:=cG (E:=af) o (q:=0) rfl
 subst hn0
 obtain⟨r',h',hb,rfl,ho⟩:=qS (cf:=cO) (m:=M) (aX:=cN) rfl  ax a0 b0 n0 aT h L aG eU a7 aU  gK hX hY iI o H
 exact⟨h',gz (T:=bC) rfl rfl hx hb,ho⟩
theorem RZ:MF cO M:=by
 intro s0 r H  h xs hx
 exact bm (T:=bC) (deep:=bh) rfl rfl rfl bj hx (l8 (cf:=cO) (m:=M) (aX:=cN) rfl Mp s0 bz []   aY H)
theorem UB:QQ cO M:=by
 intro s0 r H h L  ao ak an o  xs hx
 obtain⟨r',h',hb,eB,dQ,dR,aA,aB,rfl,ho⟩:=lH (cf:=cO) (m:=M) (aX:=cN) rfl Mp Um RP s0 h L ao ak an  o H
 exact⟨eB,dQ,dR,aA,aB,h',gz (T:=bC) rfl rfl hx hb,ho⟩
theorem UC:QR cO M:=by
 intro s0 r H h L  ao ak an o  xs hx
 obtain⟨r',h',hb,aA,aB,rfl,ho⟩:=mI (cf:=cO) (m:=M) (aX:=cN) rfl Mq Ur s0 h L ao ak an  o H
 exact⟨aA,aB,h',gz (T:=bC) rfl rfl hx hb,ho⟩
theorem UD:QS cO M:=by
 intro s0 n0 r H h L  ao ak an o  xs hx
 obtain⟨r',h',hb,aA,aB,rfl,ho⟩:=mJ (cf:=cO) (m:=M) (aX:=cN) rfl Mq Us s0 n0 h L ao ak an  o H
 exact⟨aA,aB,h',gz (T:=bC) rfl rfl hx hb,ho⟩
theorem P9:MG cO M:=by
 intro s0 f0 r H eS aS gS gT h xs hx
 exact bm (T:=bC) (deep:=bh) rfl rfl rfl bj hx (qT (cf:=cO) (m:=M) (aX:=cN) rfl RY s0 f0 bz [] eS aS  gS gT aY H)
theorem UE:QT cO M:=by
 intro n0 x0 r H  h xs hx
 exact bm (T:=bC) (deep:=bh) rfl rfl rfl bj hx (kx (cf:=cO) (m:=M) (aX:=cN) rfl RU n0 x0 bz []   aY H)
theorem UF:Ot cO M:=by
 intro s0 a0 b0 r H h L  ao ak an o  xs hx
 obtain⟨r',h',hb,aA,aB,rfl,ho⟩:=l9 (cf:=cO) (m:=M) (aX:=cN) rfl RV s0 a0 b0 h L ao ak an  o H
 exact⟨aA,aB,h',gz (T:=bC) rfl rfl hx hb,ho⟩
theorem UG:QU cO M:=by
 intro s0 ky r H h L G4 aG o eS aS bY qP gS oV gT xs hx
 have hn0:G4=s0.length:=cG (E:=af) o (q:=0) rfl
 subst hn0
 obtain⟨r',h',hb,rfl,ho⟩:=tF (cf:=cO) (m:=M) (aX:=cN) rfl RY s0 ky h L aG eS aS bY  qP gS oV gT o H
 exact⟨h',gz (T:=bC) rfl rfl hx hb,ho⟩
theorem UH:QV cO M:=by
 intro n0 x0 r H  h xs hx
 exact bm (T:=bC) (deep:=bh) rfl rfl rfl bj hx (kz (cf:=cO) (m:=M) (aX:=cN) rfl RV n0 x0 bz []   aY H)
theorem UI:QX cO M:=by
 intro x0 x1 r H  h xs hx
 exact bm (T:=bC) (deep:=bh) rfl rfl rfl bj hx (kU (cf:=cO) (m:=M) (aX:=cN) rfl RW x0 x1 bz []   aY H)
theorem UJ:QY cO M:=by
 intro s0 f0 r H eS aS gS gT h xs hx
 exact bm (T:=bC) (deep:=bh) rfl rfl rfl bj hx (qU (cf:=cO) (m:=M) (aX:=cN) rfl Uv s0 f0 bz [] eS aS  gS gT aY H)
theorem UK:QZ cO M:=by
 intro s0 kA nE r H  h xs hx
 exact bm (T:=bC) (deep:=bh) rfl rfl rfl bj hx (sJ (cf:=cO) (m:=M) (aX:=cN) rfl Uy s0 kA nE bz []   aY H)
theorem UL:Q0 cO M:=by
 intro x0 y0 r H  h xs hx
 exact bm (T:=bC) (deep:=bh) rfl rfl rfl bj hx (mK (cf:=cO) (m:=M) (aX:=cN) rfl Uz x0 y0 bz []   aY H)
theorem UM:Q1 cO M:=by
 intro x0 y0 r H  h xs hx
 exact bm (T:=bC) (deep:=bh) rfl rfl rfl bj hx (kV (cf:=cO) (m:=M) (aX:=cN) rfl UA x0 y0 bz []   aY H)
theorem Qa:LG cO M:=by
 intro ax a0 m0 b0 aT r H h L cr aG o eU a7 aU gK hX hY iI xs hx
 have hn0:cr=ax.length:=cG (E:=af) o (q:=0) rfl
 subst hn0
 obtain⟨r',h',hb,rfl,ho⟩:=vO (cf:=cO) (m:=M) (aX:=cN) rfl P8 ax a0 m0 b0 aT h L aG eU a7 aU  gK hX hY iI o H
 exact⟨h',gz (T:=bC) rfl rfl hx hb,ho⟩
theorem Qb:MH cO M:=by
 intro s0 l0 r H  h xs hx
 exact bm (T:=bC) (deep:=bh) rfl rfl rfl bj hx (lI (cf:=cO) (m:=M) (aX:=cN) rfl Mp P9 UE s0 l0 bz []   aY H)
theorem R0:OB cO M:=by
 intro s0 a0 b0 r H h L  ao ak an o  xs hx
 obtain⟨r',h',hb,eB,aA,aB,rfl,ho⟩:=kY (cf:=cO) (m:=M) (aX:=cN) rfl RR Ut UF s0 a0 b0 h L ao ak an  o H
 exact⟨eB,aA,aB,h',gz (T:=bC) rfl rfl hx hb,ho⟩
theorem R5:OI cO M:=by
 intro s0 aF r H  h L xs o hx
 obtain⟨r',h',hb,eB,rfl,ho⟩:=lJ (cf:=cO) (m:=M) (aX:=cN) rfl UG UH Ul s0 aF bz []   aY H
 exact⟨od h.next eB,_,sG (T:=bC) (deep:=bh) rfl rfl rfl bj hx hb (Av),Has.eM o ho (HW (fun _=>rfl) (.nil)),pM _ _⟩
theorem UN:Q8 cO M:=by
 intro s0 cp n0 r H h L  ao ak an o  xs hx
 obtain⟨r',h',hb,aA,aB,rfl,ho⟩:=ma (cf:=cO) (m:=M) (aX:=cN) rfl Mq UI s0 cp n0 h L ao ak an  o H
 exact⟨aA,aB,h',gz (T:=bC) rfl rfl hx hb,ho⟩
theorem Qc:MI cO M:=by
 intro s0 r H  h xs hx
 exact bm (T:=bC) (deep:=bh) rfl rfl rfl bj hx (sL (cf:=cO) (m:=M) (aX:=cN) rfl UK s0 bz []   aY H)
theorem UO:Q9 cO M:=by
 intro x0 x1 x2 r H  h xs hx
 exact bm (T:=bC) (deep:=bh) rfl rfl rfl bj hx (kC (cf:=cO) (m:=M) (aX:=cN) rfl Qc P9 Uu x0 x1 x2 bz []   aY H)
theorem UP:Ra cO M:=by
 intro n0 lU r H  h xs hx
 exact bm (T:=bC) (deep:=bh) rfl rfl rfl bj hx (sM (cf:=cO) (m:=M) (aX:=cN) rfl Qc P9 RW Uw n0 lU bz []   aY H)
theorem R6:MK cO M:=by
 intro a0 b0 r H  h xs hx
 exact bm (T:=bC) (deep:=bh) rfl rfl rfl bj hx (mL (cf:=cO) (m:=M) (aX:=cN) rfl UL Ux UM a0 b0 bz []   aY H)
theorem UQ:Rb cO M:=by
 intro i0 j0 x0 r H  h xs hx
 exact bm (T:=bC) (deep:=bh) rfl rfl rfl bj hx (np (cf:=cO) (m:=M) (aX:=cN) rfl R6 i0 j0 x0 bz []   aY H)
theorem Mr:∀kk,tI cO M kk
 | 0=>by
  intro ax a0 m0 b0 aT r H h L cr aG o eU a7 aU gK hX hY iI xs hx
  cases H
 | kk+1=>by
  intro ax a0 m0 b0 aT r H h L cr aG o eU a7 aU gK hX hY iI xs hx
  have hn0:cr=ax.length:=cG (E:=af) o (q:=0) rfl
  subst hn0
  obtain⟨r',h',hb,rfl,ho⟩:=sQ (cf:=cO) (m:=M) (aX:=cN) rfl Qa ax a0 m0 b0 aT h L aG eU a7 aU  (Mr kk) gK hX hY iI o H
  exact⟨h',gz (T:=bC) rfl rfl hx hb,ho⟩
theorem UR:Rc cO M:=by
 intro s0 a0 b0 r H h L  ao ak an o  xs hx
 obtain⟨r',h',hb,eB,aA,aB,rfl,ho⟩:=lL (cf:=cO) (m:=M) (aX:=cN) rfl Qb R0 RQ R5 s0 a0 b0 h L ao ak an  o H
 exact⟨eB,aA,aB,h',gz (T:=bC) rfl rfl hx hb,ho⟩
theorem US:Re cO M:=by
 intro s0 a0 b0 r H h L  ao ak an o  xs hx
 obtain⟨r',h',hb,Dg,aA,aB,rfl,ho⟩:=mb (cf:=cO) (m:=M) (aX:=cN) rfl Qb R0 RQ R5 s0 a0 b0 h L ao ak an  o H
 exact⟨Dg,aA,aB,h',gz (T:=bC) rfl rfl hx hb,ho⟩
theorem UT:OW cO M:=by
 intro s0 n0 r H  h xs hx
 exact bm (T:=bC) (deep:=bh) rfl rfl rfl bj hx (mN (cf:=cO) (m:=M) (aX:=cN) rfl Qb RR s0 n0 bz []   aY H)
theorem UU:Rf cO M:=by
 intro s0 cp dz r H h L  ao ak an o  xs hx
 obtain⟨r',h',hb,aA,aB,rfl,ho⟩:=lM (cf:=cO) (m:=M) (aX:=cN) rfl RP Mq UO s0 cp dz h L ao ak an  o H
 exact⟨aA,aB,h',gz (T:=bC) rfl rfl hx hb,ho⟩
theorem UW:Rh cO M:=by
 intro x0 r H  h xs hx
 exact bm (T:=bC) (deep:=bh) rfl rfl rfl bj hx (k8 (cf:=cO) (m:=M) (aX:=cN) rfl Qc x0 bz []   aY H)
theorem UX:Ri cO M:=by
 intro n0 x0 r H  h xs hx
 exact bm (T:=bC) (deep:=bh) rfl rfl rfl bj hx (pb (cf:=cO) (m:=M) (aX:=cN) rfl UP n0 x0 bz []   aY H)
theorem UY:Rj cO M:=by
 intro ax n0 aT r H h L cr aG o k9 dC cY nq qV qW qX xs hx
 have hn0:cr=ax.length:=cG (E:=af) o (q:=0) rfl
 subst hn0
 obtain⟨r',h',hb,rfl,ho⟩:=vS (cf:=cO) (m:=M) (aX:=cN) rfl P7 (Mr _) ax n0 aT h L aG k9 dC cY  nq qV qW qX o H
 exact⟨h',gz (T:=bC) rfl rfl hx hb,ho⟩
theorem UZ:Rk cO M:=by
 intro s0 r H  h xs hx
 exact bm (T:=bC) (deep:=bh) rfl rfl rfl bj hx (qY (cf:=cO) (m:=M) (aX:=cN) rfl RZ UT s0 bz []   aY H)
theorem U0:Rl cO M:=by
 intro s0 a0 r H h L  ao ak an o  xs hx
 obtain⟨r',h',hb,aA,aB,rfl,ho⟩:=mc (cf:=cO) (m:=M) (aX:=cN) rfl Mq UW s0 a0 h L ao ak an  o H
 exact⟨aA,aB,h',gz (T:=bC) rfl rfl hx hb,ho⟩
theorem U1:Rm cO M:=by
 intro t0 r H  h xs hx
 exact bm (T:=bC) (deep:=bh) rfl rfl rfl bj hx (qZ (cf:=cO) (m:=M) (aX:=cN) rfl UJ UX t0 bz []   aY H)
theorem U2:Rn cO M:=by
 intro x0 aT r H h L EV aG o eS aS bY qP gS oV gT xs hx
 have hn0:EV=x0.length:=cG (E:=af) o (q:=0) rfl
 subst hn0
 obtain⟨r',h',hb,rfl,ho⟩:=pc (cf:=cO) (m:=M) (aX:=cN) rfl UY x0 aT h L aG eS aS bY  qP gS oV gT o H
 exact⟨h',gz (T:=bC) rfl rfl hx hb,ho⟩
theorem U3:Ro cO M:=by
 intro aL r H  h xs hx
 exact bm (T:=bC) (deep:=bh) rfl rfl rfl bj hx (pe (cf:=cO) (m:=M) (aX:=cN) rfl R6 U2 UQ aL bz []   aY H)
theorem U4:Rt cO M:=by
 intro t0 r H  h L xs o hx
 obtain⟨r',h',hb,eB,eY,rfl,ho⟩:=q6 (cf:=cO) (m:=M) (aX:=cN) rfl U3 (RX _) t0 bz []   aY H
 exact⟨od h.next eB,eY.map (od h.next),_,sG (T:=bC) (deep:=bh) rfl rfl rfl bj hx hb (Eo (gH (Av) (gH (rfl) (rC)))),Has.eM o ho (HX (zk .nil)),pM _ _⟩
theorem U5:Ru cO M:=by
 intro t0 r H  h L xs o hx
 obtain⟨r',h',hb,eB,eY,rfl,ho⟩:=q7 (cf:=cO) (m:=M) (aX:=cN) rfl U1 U4 t0 bz []   aY H
 exact⟨od h.next eB,eY.map (od h.next),_,sG (T:=bC) (deep:=bh) rfl rfl rfl bj hx hb (Jb (gH (Eo (gH (Av) (gH (rfl) (rC)))) (gH (rfl) (rC)))),Has.eM o ho (HX (zk .nil)),pM _ _⟩
theorem U6:Rv cO M:=by
 intro s0 t0 r H h L  ao ak an o  xs hx
 obtain⟨r',h',hb,aA,aB,rfl,ho⟩:=mP (cf:=cO) (m:=M) (aX:=cN) rfl Mp U5 s0 t0 h L ao ak an  o H
 exact⟨aA,aB,h',gz (T:=bC) rfl rfl hx hb,ho⟩
theorem R7:Kn cO M:=by
 intro s0 x0 r H h L  ao ak an o  xs hx
 obtain⟨r',h',hb,aA,aB,rfl,ho⟩:=tJ (cf:=cO) (m:=M) (aX:=cN) rfl UR US UC U0 UD UU UN U6 s0 x0 h L ao ak an  o H
 exact⟨aA,aB,h',gz (T:=bC) rfl rfl hx hb,ho⟩
theorem U7:Rw cO M:=by
 intro l0 r H h L   o  xs hx
 obtain⟨r',h',hb,eB,dQ,dR,rfl,ho⟩:=q9 (cf:=cO) (m:=M) (aX:=cN) rfl R7 Uq l0 h L  o H
 exact⟨eB,dQ,dR,h',gz (T:=bC) rfl rfl hx hb,ho⟩
theorem j6:S6 cO M:=by
 intro l0 b6 eP r H  h xs hx
 exact bm (T:=bC) (deep:=bh) rfl rfl rfl bj hx (lN (cf:=cO) (m:=M) (aX:=cN) rfl Uo Un U7 Up UZ R7 RZ UB l0 b6 eP bz []   aY H)
end Go.Proofs.Ytifafejidnjckaa
namespace Go.Proofs.Ytifafejidnjckaa
open Go Go.R Go.Proofs Go.RowKit Go.ChangeShapes Go.WideShapes
open Go.IntKind (i64 u64 u8 u32)
theorem all_true (vk:List AV)(h:oL Try.prog 7 Try.f6.params.toList vk):∃cf h',CallOK Try.prog cf∧cf 6 vk bz=some (.bool true,h'):=by
 rw [show Try.f6.params.toList=[22,22,4] from by rw [Try.params6]] at h
 obtain⟨xs,ys,zs,rfl,h1,h2,h3⟩:=C2 h
 obtain⟨l,hl,fl⟩:=yr (n:=0) h1
 obtain⟨k,hk,fk⟩:=yr (n:=0) h2
 obtain⟨b,fb⟩:=FT (n:=6) h3
 exact⟨cO,bz,J0,j6 l k b true (yn (by decide) l k b hl hk) bz _ (eQ (ah (fl bz) (ah (fk bz) (ah (fb bz) (aw)))))⟩
theorem n5 (os:Os)(started:os.Started)(H:Type)(enc:TypeId × Value→H) :
  ReturnsInHanded {} Try.checked os 6 .any (Rows.storeClonesSpec.pre6 enc Try.prog Try.f6 Rows.storeClonesRow.domain false) (Rows.storeClonesSpec.post enc Try.prog Try.f6 false true false false):=by
 refine returnsInHanded_of_change (C:=Try.checked) (by kernel_rfl) started (by kernel_rfl) Try.func6
  (ChangeSpec.witness6 (enc:=enc) (C:=Try.checked) false ⟨#[],#[.slice none 0 0,.slice none 0 0,.bool false],[]⟩ 8 (by kernel_rfl) (by kernel_rfl) (by kernel_rfl) (by kernel_rfl)) ?_
 intro W base args ds gs before dT hW U8 _
 exact tz (cf:=fun _ _ _=>none) (P:=Try.prog) (m:=7) (tb:=4) (by kernel_rfl)
  (by rw [show Try.f6.params.toList=[22,22,4] from by rw [Try.params6]]; intro t ht; simp at ht; rcases ht with rfl | rfl<;>exact⟨by kernel_rfl,of_decide_eq_true (by kernel_rfl)⟩)
  (by rw [show Try.f6.params.toList=[22,22,4] from by rw [Try.params6]]; intro t ht; simp at ht; rcases ht with rfl | rfl<;>kernel_rfl) rfl rfl Try.underlying4
  (fun ds Iu=>by
   have:ds.length=3:=by rw [Iu]; rfl
   match ds,this with
   | [d0,d1,d2],_=>rfl) all_true dT hW
theorem storeClones_holds:Rows.StoreClonesSaid:=
 OpenClaim.holds_of_wide 6 Try.f6 rfl rfl rfl rfl rfl rfl rfl ⟨rfl,rfl,rfl,rfl,rfl⟩ rfl rfl rfl rfl rfl (by kernel_rfl) Try.func6 (by kernel_rfl)
  (of_decide_eq_true (by kernel_rfl)) (by unfold Func.isWrapper; first | (rw [if_pos (by decide +kernel)]; kernel_rfl) | (rw [if_neg (by decide +kernel)]; exact⟨rfl,rfl⟩))
  (fun os started H enc _=>n5 os started H enc)
end Go.Proofs.Ytifafejidnjckaa
