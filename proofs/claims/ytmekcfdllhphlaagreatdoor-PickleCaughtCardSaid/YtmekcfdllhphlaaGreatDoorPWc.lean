/- Proved: PickleCaught returns true for every input, over the card of its one listed variable; no condition. -/
import Derived.Test.YtmekcfdllhphlaaGreatDoorK14
import Derived.Test.YtmekcfdllhphlaaGreatDoorChecked
import Derived.Test.YtmekcfdllhphlaaGreatDoorRows
import Derived.Test.YtmekcfdllhphlaaGreatDoorCards
import Derived.Test.YtmekcfdllhphlaaGreatDoorTie
import Derived.ChangeSame
import Derived.ChangeVars
import Derived.JoinedOf
import Derived.LaidLaws
import Derived.LaidHandle
import Derived.Lay
import Derived.Stop.Joined
import Derived.SevenTiedAt
set_option linter.unusedVariables false
set_option linter.unusedSimpArgs false
set_option maxRecDepth 100000
open BitVec renaming ofInt → YS, ofNat → Y9
open Eq renaming trans → Zf
open Int renaming toNat_natCast → Yq, tmod → Zp, fdiv_eq_ediv_of_nonneg → ZN, tmod_eq_emod_of_nonneg → ZO
open List renaming length_append → Ys, length_set → Yt, getElem?_eq_getElem → Yv, append_assoc → Yx, drop_eq_getElem_cons → Yz, getD_eq_getElem?_getD → YB, getElem?_append_right → YE, cons_append → YL, nil_append → YO, getElem?_map → YQ, mem_cons → YW, drop_zero → YZ, drop_eq_nil_of_le → Y3, getElem_mem → Ze, length_take → Zz, set_append_right → ZD, length → ZS, getElem_of_mem → ZU
open Nat renaming le_refl → Yn
open Option renaming bind_some → Yj, bind_eq_some_iff → Yk, map_eq_some_iff → Yl
open Option.some renaming injEq → Ym, inj → YI
open Or renaming inr → Zx
open Prod.mk renaming injEq → Yr
namespace Go.Proofs.YtmekcfdllhphlaaGreatDoor
open Go Go.R
open Go.IntKind (i64 u64 u8 u32)
def Wd (c:BitVec 32):Int:=((c.toNat:Nat):Int)
theorem Dw (c:BitVec 32):YS 32 (Wd c)=c:=by
 unfold Wd; rw [MC]; simp
theorem MM (c:BitVec 32):0≤Wd c∧Wd c<4294967296:=by
 have:=c.isLt
 unfold Wd; omega
theorem Dx (c:BitVec 32):u32.wrap ((c.toNat:Nat):Int)=Wd c:=by
 have:=c.isLt
 rw [uQ]; unfold Wd; omega
theorem B1 (a b:BitVec 32):jt .u32 (Wd a) (Wd b)=Wd (a ^^^ b):=by
 show u32.wrap (((YS 32 (Wd a) ^^^ YS 32 (Wd b)).toNat:Nat):Int)=_
 rw [Dw,Dw,Dx]
theorem Ic (a b:BitVec 32):fw .u32 (Wd a) (Wd b)=Wd (a &&& b):=by
 show u32.wrap (((YS 32 (Wd a) &&& YS 32 (Wd b)).toNat:Nat):Int)=_
 rw [Dw,Dw,Dx]
theorem MN (a:BitVec 32):gh .u32 (Wd a) 1=Wd (a >>> 1):=by
 unfold gh
 rw [ZN _ (by decide)]
 show Wd a / 2=_
 unfold Wd
 rw [BitVec.toNat_ushiftRight,Nat.shiftRight_eq_div_pow]
 omega
theorem MO (a:BitVec 32):u32.wrap (0 - Wd a)=Wd (-a):=by
 have:=a.isLt
 rw [uQ]
 unfold Wd
 rw [BitVec.toNat_neg]
 omega
theorem MP (c:BitVec 32):jt .u32 (gh .u32 (Wd c) 1) (fw .u32 (3988292384:Int) (u32.wrap (0 - (fw .u32 (Wd c) (1:Int)))))=Wd (Crc.bit c):=by
 have h1:(1:Int)=Wd 1#32:=rfl
 have h2:(3988292384:Int)=Wd Crc.yv:=rfl
 rw [h1,h2,Ic,MO,Ic,MN,B1]; rfl
theorem uX {m:Nat}:∀(k f:Nat) (c:BitVec 32),k≤8→k<f→aT.l1 m f (Wd c) (((8 - k:Nat):Nat):Int)=some (Wd (Crc.bits k c),8)
 | k,0,c,_,hf=>absurd hf (by omega)
 | 0,f+1,c,hk,hf=>by unfold aT.l1; rw [if_neg (by simp only [decide_eq_true_eq]; omega)]; rfl
 | k+1,f+1,c,hk,hf=>by
  unfold aT.l1
  rw [if_pos (by simp only [decide_eq_true_eq]; omega),MP,aA (by omega) (by omega),show ((8 - (k+1):Nat):Int)+1=((8 - k:Nat):Int) by omega,uX k f _ (by omega) (by omega)]
  rfl
def vD (l:List Int):List (BitVec 8):=l.map fun x=>YS 8 x
theorem JO {x:Int}(h:0≤x∧x<256):u32.wrap x=Wd ((YS 8 x).setWidth 32):=by
 obtain⟨n,rfl⟩:∃n:Nat,x=(n:Int):=⟨x.toNat,by omega⟩
 rw [uQ]
 unfold Wd
 have:YS 8 (n:Int)=Y9 8 n:=by
  apply BitVec.eq_of_toNat_eq
  simp [BitVec.toNat_ofInt]
 rw [this,BitVec.toNat_setWidth,BitVec.toNat_ofNat]
 omega
theorem uY {m:Nat}(hm:10≤m){b:List Int}(hb:Bytes b)(hl:b.length<2 ^ 40):∀(f i:Nat) (c:BitVec 32),b.length - i<f→i≤b.length→∃x,aT.l0 m b f (Wd c) (i:Int)=some (Wd (Crc.run c (vD (b.drop i))),x)
 | 0,i,c,hf,_=>absurd hf (by omega)
 | f+1,i,c,hf,hi=>by
  have mj:(2:Nat) ^ 40=1099511627776:=by decide
  unfold aT.l0
  by_cases h:i<b.length
  ·have hx:=hb _ (aJ h)
   obtain⟨x,ih⟩:=uY hm hb hl f (i+1) (Crc.byte c (YS 8 (gt b i))) (by omega) (by omega)
   have h1:=uX (m:=m) 8 m (c ^^^ (YS 8 (gt b i)).setWidth 32) (by omega) (by omega)
   have h1:aT.l1 m m (Wd (c ^^^ (YS 8 (gt b i)).setWidth 32)) 0=_:=h1
   have hd:b.drop i=gt b i::b.drop (i+1):=by
    have:=bu h
    rw [Yz h]
    rw [Yv h] at this
    rw [YI this]
   refine⟨x,?_⟩
   rw [if_pos (by simp only [decide_eq_true_eq]; omega),cy h,Yj,JO hx,B1,h1,Yj]
   dsimp only
   rw [aA (by omega) (by omega),show (i:Int)+1=((i+1:Nat):Int) by omega,hd]
   exact ih
  ·refine⟨(i:Int),?_⟩
   rw [if_neg (by simp only [decide_eq_true_eq]; omega),Y3 (by omega)]; rfl
theorem Dy {m:Nat}(hm:10≤m){b:List Int}(hb:Bytes b)(hl:b.length<2 ^ 40)(Yh:b.length<m):aT.f m b=some (((Crc.sum (vD b)).toNat:Nat):Int):=by
 obtain⟨x,h⟩:=uY hm hb hl m 0 (BitVec.allOnes 32) (by omega) (by omega)
 have h:aT.l0 m b m (4294967295:Int) (0:Int)=_:=h
 rw [YZ] at h
 unfold aT.f
 rw [h,Yj]
 dsimp only
 have e:F7 .u32 (Wd (Crc.run (BitVec.allOnes 32) (vD b)))=Wd (Crc.sum (vD b)):=by
  show jt .u32 (Wd (BitVec.allOnes 32)) _=_
  rw [B1]
  unfold Crc.sum
  rw [BitVec.allOnes_xor]
 have hr:=MM (Crc.sum (vD b))
 rw [e,aA (by omega) (by omega)]; rfl
theorem EV {m:Nat}(hm:10≤m){a b c:List Int}(ha:Bytes a)(hb:Bytes b)(la:a.length<2 ^ 40)(lb:b.length<2 ^ 40)(lam:a.length<m)(Xi:b.length<m)(h1:bM.f m a=some c)(h2:bM.f m b=some c):Crc.sum (vD a)=Crc.sum (vD b):=by
 have s1:=Dy hm ha la lam
 have s2:=Dy hm hb lb Xi
 have w1:=(Crc.sum (vD a)).isLt
 have w2:=(Crc.sum (vD b)).isLt
 have k1:=wK s1 (by omega)
 have k2:=wK s2 (by omega)
 rw [h1] at k1
 rw [h2,k1] at k2
 apply BitVec.eq_of_toNat_eq
 generalize (Crc.sum (vD a)).toNat=x at *
 generalize (Crc.sum (vD b)).toNat=y at *
 simp only [Ym,List.cons.injEq,and_true] at k2
 omega
theorem JP {l:List Int}(hl:Bytes l){i:Nat}(hi:i<l.length){y:Int}(hy:0≤y∧y<256)(hne:gt l i≠y):Crc.sum (vD (l.set i y))≠Crc.sum (vD l):=by
 have e:vD (l.set i y)=(vD l).set i (YS 8 y):=by unfold vD; rw [List.map_set]
 rw [e]
 have hlen:i<(vD l).length:=by unfold vD; simpa using hi
 refine Crc.B0 hlen fun h=>hne ?_
 have hg:(vD l)[i]'hlen=YS 8 (gt l i):=by
  have h2:=bu hi
  have h3:(vD l)[i]? = some (YS 8 (gt l i)):=by unfold vD; rw [YQ,h2]; rfl
  rw [Yv hlen] at h3
  exact YI h3
 rw [hg] at h
 have hx:=hl _ (aJ hi)
 have:=congrArg BitVec.toNat h
 rw [BitVec.toNat_ofInt,BitVec.toNat_ofInt] at this
 omega
end Go.Proofs.YtmekcfdllhphlaaGreatDoor
namespace Go.Proofs.YtmekcfdllhphlaaGreatDoor
open Go Go.R
open Go.IntKind (i64 u64 u8 u32)
def KF:cm:=gI [0,2] [] [0,3] [] []
def lV.f (m:Nat)(x0:List Int):Option ((List Int)):=none
def Vl (cf:CallF)(m:Nat):Prop:=∀(x0:List Int) (r:(List Int)),lV.f m x0=some r→∀h L (ur:Nat) (az:Nat),Has h ((az,.sl ur 1 (aa.l x0))::L)→∀xs,xs.map ay=[.rs az 0 ur 1]→∃h',cf 31 xs h=some (.tup [],h')∧Has h' ((az,.sl ur 1 (aa.l r))::L)
section
variable {cf:CallF}{m:Nat}
theorem pY {aU:FuncId→cm}(ha:aU 31=KF)(x0:List Int)(h:AHeap)(L:Mem)(az:Nat)  (o:Has h ((az,.sl x0.length 1 (aa.l x0))::L)){out:(List Int)}(H:lV.f m x0=some out) :
  ∃r h',be Tryz.prog aU cf m 31 [.rs az 0 x0.length 1] h=some (r,h')∧r = .tup []∧Has h' ((az,.sl x0.length 1 (aa.l out))::L):=by
 cases H
end
end Go.Proofs.YtmekcfdllhphlaaGreatDoor
namespace Go.Proofs.YtmekcfdllhphlaaGreatDoor
open Go Go.R
open Go.IntKind (i64 u64 u8 u32)
def PC:cm:=gI [] [] [] [] []
def me.f (m:Nat)(s0:List Int):Option ((List Int)):=none
def Vm (cf:CallF)(m:Nat):Prop:=∀(s0:List Int) (r:(List Int)),me.f m s0=some r→∀h xs,eY fq h xs [aa.fz s0]→cf 32 xs h=some (aa.fz r,h)
end Go.Proofs.YtmekcfdllhphlaaGreatDoor
namespace Go.Proofs.YtmekcfdllhphlaaGreatDoor
open Go Go.R
open Go.IntKind (i64 u64 u8 u32)
def EW:cm:=gI [0,2,3,4,5,6,8,10,17,19,20,21,22,26,27,28,29,34] [8,10] [262142,262119,261863,262137,262103,258527,254431,258463,201183,135647,201055,69983,201183,201183,258527,262111,262137] [] [(4,[(6,none,1)])]
def bG.l1 (m:Nat)(v0:an):Nat→(List Int)→Int→Option ((List Int) × Int)
 | 0,_,_=>none
 | k+1,bR,x2=>if (decide (x2<(v0.nodes.length:Int)))=true then ((ix v0.nodes x2).bind fun v1=>if (v1.kind==(0:Int))=true then ((app 8 bR ([v1.int])).bind fun x3=>bG.l1 m v0 k x3 (i64.wrap (x2+(1:Int)))) else (bG.l1 m v0 k bR (i64.wrap (x2+(1:Int))))) else (some ((bR,x2)))
def bG.l0 (m:Nat)(x0:(List an) × Int):Nat→(List Int)→Int→Option ((List Int) × Int)
 | 0,_,_=>none
 | k+1,bg,x1=>if (decide (x1<(x0.1.length:Int)))=true then ((ix x0.1 x1).bind fun v0=>(bG.l1 m v0 m bg (0:Int)).bind fun mN=>match mN with | (ik,x4)=>bG.l0 m x0 k ik (i64.wrap (x1+(1:Int)))) else (some ((bg,x1)))
def bG.f (m:Nat)(b0:List Int):Option ((List Int) × Int):=(aD.f m b0).bind fun x0=>if (!(x0.2==(0:Int)))=true then (some ([],x0.2)) else ((bG.l0 m x0 m ([]:List Int) (0:Int)).bind fun uv=>match uv with | (cF,x5)=>(lV.f m cF).bind fun x6=>(me.f m x6).bind fun x7=>some (x7,(0:Int)))
def bG.fin (L:Mem)(r:(List Int) × Int)(s:St):Prop:=∃av,aH Tryz.prog (s.open EW) Tryz.f8.results.toList=some av∧xz s.h av (.tup [aa.fz r.1,.int .i64 r.2])
def S8 (cf:CallF)(m:Nat):Prop:=∀(b0:List Int) (r:(List Int) × Int),bG.f m b0=some r→∀h xs,l9 xs [aj.fz b0]→cf 8 xs h=some (.tup [aa.fz r.1,.int .i64 r.2],h)
section
variable {cf:CallF}{m:Nat}
theorem bG.fC (L:Mem)(x0:(List an) × Int)(x1:Int)(v0:an)   : bL Tryz.prog cf EW m (sub [1,1,1,1,0,1,0,0,1,1,0,0,1,1,0,0] (codeOf Tryz.f8)) (fun k (σ:(List Int) × Int)=>bG.l1 m v0 k σ.1 σ.2) (fun σ s=>match σ with | (bR,x2)=>∃fK h1,s=⟨rV (.rs fK 0 bR.length 1::kK [aZ.fz x0.1,.int .i64 (x0.1.length:Int),.int .i64 x1,.any,ah.fz v0.nodes,.int .i64 (v0.nodes.length:Int),.int .i64 x2,.any,.any]),[none,none],h1⟩∧Has h1 ((fK,.sl bR.length 1 (aa.l bR))::L)) (fun out e s=>(e = .exit 2∧∃bR x2,(bR,x2)=out∧∃Mo BG Tq LV fK h1,s=⟨rV (.rs fK 0 bR.length 1::kK [aZ.fz x0.1,.int .i64 (x0.1.length:Int),.int .i64 x1,.any,Mo,BG,Tq,LV,.any]),[none,none],h1⟩∧Has h1 ((fK,.sl bR.length 1 (aa.l bR))::L))):=by
 refine ig (fun _=>rfl) ?_
 rintro k ⟨bR,x2⟩ s out ⟨fK,h1,rfl,o2⟩ H
 have H:bG.l1 m v0 (k+1) bR x2=some out:=H
 refine q1 <| qq <| qc H (fun c2 H=>?_) (fun c2 H=>?_)
 ·refine qk <| qq <| qb 3 <| qq ?_
  obtain⟨v1,e2,H⟩:=aI H
  refine qr [.v 0 (bI (k:=.i64) (E:=ah) (l:=v0.nodes) mf e2),.v 1 (dL  (E:=ah) (l:=v0.nodes) h1 tQ tR e2)] <| qq <| q0 <| qc H (fun c3 H=>?_) (fun c3 H=>?_)
  ·obtain⟨x3,e3,H⟩:=aI H
   obtain⟨dh,h2,e4,o3⟩:=fP (P:=Tryz.prog) (E:=aa) (l:=bR) (q:=0) (t2:=28) (x:=.fz [.int .i64 v1.int] 1 true) (l2:=([v1.int])) dJ o2 rfl (by kernel_rfl) rfl e3
   exact qr [.a 4 e4] <| q0 <| ⟨(x3,i64.wrap (x2+(1:Int))),⟨dh,h2,by kernel_rfl,o3⟩,H⟩
  ·exact qk <| q0 <| ⟨(bR,i64.wrap (x2+(1:Int))),⟨fK,h1,by kernel_rfl,o2⟩,H⟩
 ·exact qx 2 <| ⟨rfl,bR,x2,oi H,ah.fz v0.nodes,.int .i64 (v0.nodes.length:Int),.int .i64 x2,.bool (decide (x2<(v0.nodes.length:Int))),fK,h1,by kernel_rfl,o2⟩
theorem bG.bP (L:Mem)(x0:(List an) × Int)   : bL Tryz.prog cf EW m (sub [1,1,1,1,0,1,0,0] (codeOf Tryz.f8)) (fun k (σ:(List Int) × Int)=>bG.l0 m x0 k σ.1 σ.2) (fun σ s=>match σ with | (bg,x1)=>∃az h0,s=⟨rV (.rs az 0 bg.length 1::kK (aZ.fz x0.1 :: .int .i64 (x0.1.length:Int) :: .int .i64 x1::Gh [])),[none,none],h0⟩∧Has h0 ((az,.sl bg.length 1 (aa.l bg))::L)) (fun out e s=>(e = .exit 0∧∃bg x1,(bg,x1)=out∧∃HN LS LZ xS az h0,s=⟨rV (.rs az 0 bg.length 1::kK (HN::LS::LZ::xS::rV [])),[none,none],h0⟩∧Has h0 ((az,.sl bg.length 1 (aa.l bg))::L))):=by
 refine ig (fun _=>rfl) ?_
 rintro k ⟨bg,x1⟩ s out ⟨az,h0,rfl,o1⟩ H
 have H:bG.l0 m x0 (k+1) bg x1=some out:=H
 refine q1 <| qq <| qc H (fun c1 H=>?_) (fun c1 H=>?_)
 ·refine qk <| qq <| qb 1 <| qq ?_
  obtain⟨v0,e1,H⟩:=aI H
  refine qr [.v 0 (bI (k:=.i64) (E:=aZ) (l:=x0.1) E2 e1),.v 1 (dL  (E:=aZ) (l:=x0.1) h0 Ok Ol e1)] <| qq <| q0 <| qb 2 ?_
  obtain⟨mN,e5,H⟩:=aI H
  refine ql (bG.fC L x0 x1 v0   (bg,(0:Int)) _ _ ⟨az,h0,by kernel_rfl,o1⟩ e5) ?_
  rintro e s ⟨rfl,ik,x4,rfl,g0,g1,g2,g3,fu,h3,rfl,o4⟩
  try dsimp only at H
  exact q0 <| ⟨(ik,i64.wrap (x1+(1:Int))),⟨fu,h3,by kernel_rfl,o4⟩,H⟩
 ·exact qx 0 <| ⟨rfl,bg,x1,oi H,aZ.fz x0.1,.int .i64 (x0.1.length:Int),.int .i64 x1,.bool (decide (x1<(x0.1.length:Int))),az,h0,by kernel_rfl,o1⟩
theorem re {aU:FuncId→cm}(ha:aU 8=EW)(KG:S6 cf m)(Ts:Vl cf m)(Tt:Vm cf m)(b0:List Int)(h:AHeap)(L:Mem)  (o:Has h (L)){out:(List Int) × Int}(H:bG.f m b0=some out) :
  ∃r h',be Tryz.prog aU cf m 8 [aj.fz b0] h=some (r,h')∧xz h' r (.tup [aa.fz out.1,.int .i64 out.2]):=by
 refine aq (fn:=Tryz.f8) ha Tryz.func8 (by kernel_rfl) (by kernel_rfl) ?_
 refine aG (Q:=fun s=>bG.fin L out s) (fun _ _ h=>h) ?_
 have H:_=some out:=H
 unfold bG.f at H
 show dt _ cf EW m _ ⟨aj.fz b0::Ef [],[none,none],h⟩ _
 refine q1 <| qq ?_
 obtain⟨x0,e0,H⟩:=aI H
 refine qr [.a 1 (KG _ _ e0 h _ (cY (iE (E:=aj)) (gZ)))] <| qq <| qq <| q0 <| qc H (fun c0 H=>?_) (fun c0 H=>?_)
 ·obtain rfl:=oi H
  exact q1 <| qt <| ⟨.inl rfl,vk (.tup [.nils,.int .i64 x0.2]) h (oK (fQ (ae (gr) (ae (aN) (aB)))))⟩
 ·refine qk <| qq <| q0 ?_
  have o0:Has h (((0),.sl (([]:List Int).length) 1 (aa.l ([]:List Int)))::L):=Has.nil o 1
  refine qq <| qq <| q0 <| qb 0 ?_
  obtain⟨uv,e6,H⟩:=aI H
  refine ql (bG.bP L x0   (([]:List Int),(0:Int)) _ _ ⟨(0),h,by kernel_rfl,o0⟩ e6) ?_
  rintro e s ⟨rfl,cF,x5,rfl,g4,g5,g6,g7,gY,h4,rfl,o5⟩
  try dsimp only at H
  refine qq ?_
  obtain⟨x6,e7,H⟩:=aI H
  obtain⟨h5,e8,o6⟩:=Ts _ _ e7 h4 _ _ _ (o5)  [.rs gY 0 cF.length 1] (ak (rfl) (bn))
  refine qr [.a 1 e8] <| qq ?_
  obtain⟨x7,e9,H⟩:=aI H
  refine qr [.a 1 (Tt _ _ e9 h5 _ (ia (ae (rG (E:=aa) (l:=x6) (q:=0) o6 rfl (fun _=>rfl)) (aB))))] ?_
  have o7:Has h5 (L):=Has.del o6 0
  obtain rfl:=oi H
  exact qt <| ⟨.inl rfl,vk (.tup [aa.fz x7,.int .i64 (0:Int)]) h5 (oK (fQ (ae (cW) (ae (aN) (aB)))))⟩
end
end Go.Proofs.YtmekcfdllhphlaaGreatDoor
namespace Go.Proofs.YtmekcfdllhphlaaGreatDoor
open Go Go.R
open Go.IntKind (i64 u64 u8 u32)
def Aq:cm:=gI [0,1,4,5,7,9,12,13,14,15,24] [12] [2044,1596,1084,1580,1564,540,2035,1596,2035] [] []
def bU.l0 (m:Nat)(x0:List Int)(y0:List Int):Nat→Int→Option (Sum (Bool × Int) (Int))
 | 0,_=>none
 | k+1,x1=>if (decide (x1<(([x0,y0]:List (List Int)).length:Int)))=true then ((ix ([x0,y0]) x1).bind fun v0=>(aD.f m v0).bind fun x2=>if (!(x2.2==(0:Int)))=true then (some (.inl (false,x2.2))) else (bU.l0 m x0 y0 k (i64.wrap (x1+(1:Int))))) else (some (.inr x1))
def bU.f (m:Nat)(x0:List Int)(y0:List Int):Option (Bool × Int):=(bU.l0 m x0 y0 m (0:Int)).bind fun bg=>match bg with | .inl r0=>some r0 | .inr x3=>(cO.f m x0 y0).bind fun x4=>some (x4,(0:Int))
def bU.fin (L:Mem)(r:Bool × Int)(s:St):Prop:=∃av,aH Tryz.prog (s.open Aq) Tryz.f10.results.toList=some av∧gu s.h av (.tup [.bool r.1,.int .i64 r.2])
def Vn (cf:CallF)(m:Nat):Prop:=∀(x0:List Int) (y0:List Int) (r:Bool × Int),bU.f m x0 y0=some r→∀h xs,eY fq h xs [aj.fz x0,aj.fz y0]→cf 10 xs h=some (.tup [.bool r.1,.int .i64 r.2],h)
section
variable {cf:CallF}{m:Nat}
theorem bU.bP (L:Mem)(x0:List Int)(y0:List Int)(az:Nat)  (KG:S6 cf m):bL Tryz.prog cf Aq m (sub [1,0,1,0,0] (codeOf Tryz.f10)) (fun k (σ:Int)=>bU.l0 m x0 y0 k σ) (fun σ s=>match σ with | x1=>∃h1,s=⟨aj.fz x0::aj.fz y0::oH ([.rs az 0 (([x0,y0]:List (List Int)).length) 1,.int .i64 (([x0,y0]:List (List Int)).length:Int),.int .i64 x1,.any,.any]),[none],h1⟩∧Has h1 ((az,.sl (([x0,y0]:List (List Int)).length) 1 ((Kg aj).l ([x0,y0])))::L)) (fun out e s=>(e = .exit 0∧∃x1,.inr x1=out∧∃BK ou xP ui h1,s=⟨aj.fz x0::aj.fz y0::oH [BK,ou,xP,ui,.any],[none],h1⟩∧Has h1 ((az,.sl (([x0,y0]:List (List Int)).length) 1 ((Kg aj).l ([x0,y0])))::L))∨(e = .ret∧∃r,.inl r=out∧bU.fin L r s)):=by
 refine ig (fun _=>rfl) ?_
 rintro k x1 s out ⟨h1,rfl,o1⟩ H
 have H:bU.l0 m x0 y0 (k+1) x1=some out:=H
 refine q1 <| qq <| qc H (fun c0 H=>?_) (fun c0 H=>?_)
 ·refine qk <| qq <| qb 1 <| qq ?_
  obtain⟨v0,e1,H⟩:=aI H
  refine qr [.v 0 (aE (k:=.i64) (E:=(Kg aj)) (l:=([x0,y0])) (q:=0) Wn o1 rfl e1),.v 1 (bf  (E:=(Kg aj)) (l:=([x0,y0])) (q:=0) o1 rfl Wo e1 rfl)] <| qq ?_
  obtain⟨x2,e2,H⟩:=aI H
  refine qr [.a 1 (KG _ _ e2 h1 _ (cY (iE (E:=aj)) (gZ)))] <| qq <| q0 <| qc H (fun c1 H=>?_) (fun c1 H=>?_)
  ·refine q1 ?_
   have o2:Has h1 (L):=Has.del o1 0
   exact qt <| Zx (⟨rfl,_,oi H,cp (.tup [.bool false,.int .i64 x2.2]) h1 (ck (F6 (sG (au) (sG (eS) (F5)))))⟩)
  ·exact qk <| q0 <| ⟨i64.wrap (x1+(1:Int)),⟨h1,(Zf (b:=⟨aj.fz x0::aj.fz y0::oH ([.rs az 0 (([x0,y0]:List (List Int)).length) 1,.int .i64 (([x0,y0]:List (List Int)).length:Int),.int .i64 (i64.wrap (x1+(1:Int))),.any,.any]),[none],h1⟩) (by kernel_rfl) (by simp only [Yt])),(by have o:Has h1 ((az,.sl (([x0,y0]:List (List Int)).length) 1 ((Kg aj).l ([x0,y0])))::L):=o1; simpa only [Yt] using o)⟩,H⟩
 ·exact qx 0 <| Or.inl (⟨rfl,x1,oi H,.rs az 0 (([x0,y0]:List (List Int)).length) 1,.int .i64 (([x0,y0]:List (List Int)).length:Int),.int .i64 x1,.bool (decide (x1<(([x0,y0]:List (List Int)).length:Int))),h1,(Zf (b:=⟨aj.fz x0::aj.fz y0::oH ([.rs az 0 (([x0,y0]:List (List Int)).length) 1,.int .i64 (([x0,y0]:List (List Int)).length:Int),.int .i64 x1,.bool (decide (x1<(([x0,y0]:List (List Int)).length:Int))),.any]),[none],h1⟩) (by kernel_rfl) (by simp only [Yt])),(by have o:Has h1 ((az,.sl (([x0,y0]:List (List Int)).length) 1 ((Kg aj).l ([x0,y0])))::L):=o1; simpa only [Yt] using o)⟩)
theorem pZ {aU:FuncId→cm}(ha:aU 10=Aq)(KG:S6 cf m)(Jx:Sj cf m)(x0:List Int)(y0:List Int)(h:AHeap)(L:Mem)  (o:Has h (L)){out:Bool × Int}(H:bU.f m x0 y0=some out) :
  ∃r h',be Tryz.prog aU cf m 10 [aj.fz x0,aj.fz y0] h=some (r,h')∧gu h' r (.tup [.bool out.1,.int .i64 out.2]):=by
 refine aq (fn:=Tryz.f10) ha Tryz.func10 (by kernel_rfl) (by kernel_rfl) ?_
 refine aG (Q:=fun s=>bU.fin L out s) (fun _ _ h=>h) ?_
 have H:_=some out:=H
 unfold bU.f at H
 show dt _ cf Aq m _ ⟨aj.fz x0::aj.fz y0::Ee [],[none],h⟩ _
 refine q1 <| qq <| qq ?_
 obtain⟨az,h0,e0,o0⟩:=Cs (E:=(Kg aj)) (l:=[x0,y0]) (cs:=[aj.fz x0,aj.fz y0]) o (by kernel_rfl)
 refine qr [.a 2 e0] <| qb 0 ?_
 obtain⟨bg,e3,H⟩:=aI H
 refine ql (bU.bP L x0 y0 az  KG (0:Int) _ _ ⟨h0,(Zf (b:=⟨aj.fz x0::aj.fz y0::oH ([.rs az 0 (([x0,y0]:List (List Int)).length) 1,.int .i64 (([x0,y0]:List (List Int)).length:Int),.int .i64 (0:Int),.any,.any]),[none],h0⟩) (by kernel_rfl) (by simp only [Yt])),(by have o:Has h0 ((az,.sl (([x0,y0]:List (List Int)).length) 1 ((Kg aj).l ([x0,y0])))::L):=o0; simpa only [Yt] using o)⟩ e3) ?_
 rintro e s (⟨rfl,x3,rfl,g0,g1,g2,g3,h2,rfl,o3⟩| ⟨rfl,r0,rfl,ov⟩)
 ·try dsimp only at H
  refine qq ?_
  obtain⟨x4,e4,H⟩:=aI H
  refine qr [.a 2 (Jx _ _ _ e4 h2 _ (ia (ae (cW (E:=aj)) (ae (cW (E:=aj)) (aB)))))] ?_
  have o4:Has h2 (L):=Has.del o3 0
  obtain rfl:=oi H
  exact qt <| ⟨.inl rfl,cp (.tup [.bool x4,.int .i64 (0:Int)]) h2 (ck (F6 (sG (au) (sG (eS) (F5)))))⟩
 ·try dsimp only at H
  obtain rfl:=oi H
  exact⟨.inl rfl,ov⟩
end
end Go.Proofs.YtmekcfdllhphlaaGreatDoor
namespace Go.Proofs.YtmekcfdllhphlaaGreatDoor
open Go Go.R
open Go.IntKind (i64 u64 u8 u32)
def JQ:cm:=gI [0,1,2,3,8,9,10,11,13,15,17,19,22,35] [] [16368,12272,16367,16273,8145,16367,16209,16215,15959,15455,14431,12543,16367] [(8,[(11,none,0)])] []
def dk.f (m:Nat)(l0:List an)(Ie:Int)(B2:Int)(uZ:Int):Option (Bool):=(a6.f m l0).bind fun x0=>if (!x0)=true then ((kA.f m).bind fun x1=>some x1) else ((bj.f m l0).bind fun x2=>if (!(x2.2==(0:Int)))=true then (some false) else (if ((x2.1.length:Int)==(0:Int))=true then (some false) else ((app 1 ([]) x2.1).bind fun x3=>(Ec .u64 (u64.wrap Ie) (u64.wrap (x2.1.length:Int))).bind fun v0=>(ix x3 (i64.wrap v0)).bind fun v1=>(ix x3 (i64.wrap v0)).bind fun v2=>(aD.f m (x3.set (i64.wrap v0).toNat (u8.wrap (v1+u8.wrap (Zp B2 (255:Int)+(1:Int)))))).bind fun x4=>(Ec .u64 (u64.wrap uZ) (u64.wrap (x2.1.length:Int))).bind fun v3=>(lD x2.1 (0:Int) (i64.wrap v3)).bind fun v4=>(aD.f m v4).bind fun x5=>(bG.f m (x3.set (i64.wrap v0).toNat (u8.wrap (v1+u8.wrap (Zp B2 (255:Int)+(1:Int)))))).bind fun x6=>(bU.f m x2.1 (x3.set (i64.wrap v0).toNat (u8.wrap (v1+u8.wrap (Zp B2 (255:Int)+(1:Int)))))).bind fun x7=>if (x4.2==(2:Int))=true then (if (x5.2==(2:Int))=true then (if (x6.2==(2:Int))=true then (if (x7.2==(2:Int))=true then ((kA.f m).bind fun x8=>some x8) else (some false)) else (some false)) else (some false)) else (some false))))
def dk.fin (L:Mem)(r:Bool)(s:St):Prop:=∃av,aH Tryz.prog (s.open JQ) Tryz.f4.results.toList=some av∧gu s.h av (.bool r)
def S4 (cf:CallF)(m:Nat):Prop:=∀(l0:List an) (Ie:Int) (B2:Int) (uZ:Int) (r:Bool),dk.f m l0 Ie B2 uZ=some r→∀h xs,eY fq h xs [aZ.fz l0,.int .i64 Ie,.int .u8 B2,.int .i64 uZ]→cf 4 xs h=some (.bool r,h)
section
variable {cf:CallF}{m:Nat}
theorem lC {aU:FuncId→cm}(ha:aU 4=JQ)(Vo:S5 cf m)(KG:S6 cf m)(Xj:S8 cf m)(Tu:Vn cf m)(Tv:Vk cf m)(Mr:Se cf m)(l0:List an)(Ie:Int)(B2:Int)(uZ:Int)(h:AHeap)(L:Mem)  (o:Has h (L)){out:Bool}(H:dk.f m l0 Ie B2 uZ=some out) :
  ∃r h',be Tryz.prog aU cf m 4 [aZ.fz l0,.int .i64 Ie,.int .u8 B2,.int .i64 uZ] h=some (r,h')∧gu h' r (.bool out):=by
 refine aq (fn:=Tryz.f4) ha Tryz.func4 (by kernel_rfl) (by kernel_rfl) ?_
 refine aG (Q:=fun s=>dk.fin L out s) (fun _ _ h=>h) ?_
 have H:_=some out:=H
 unfold dk.f at H
 show dt _ cf JQ m _ ⟨aZ.fz l0 :: .int .i64 Ie :: .int .u8 B2 :: .int .i64 uZ::xG [],[],h⟩ _
 refine q1 <| qq <| qq ?_
 obtain⟨x0,e0,H⟩:=aI H
 refine qr [.a 1 (Tv _ _ e0 h _ (ia (ae (cW (E:=aZ)) (aB))))] <| qc H (fun c0 H=>?_) (fun c0 H=>?_)
 ·refine qq ?_
  obtain⟨x1,e1,H⟩:=aI H
  obtain rfl:=oi H
  exact qr [.a 0 (Vo _ e1 h _ (ia (aB)))] <| qt <| ⟨.inl rfl,cp (.bool x1) h (ck (au))⟩
 ·refine qk <| qq ?_
  obtain⟨x2,e2,H⟩:=aI H
  refine qr [.a 1 (Mr _ _ e2 h _ (cY (iE (E:=aZ)) (gZ)))] <| qq <| qq ?_
  rcases dQ H with⟨c1,H⟩| ⟨c1,H⟩
  ·obtain rfl:=oi H
   exact qr [.b 2 c1] <| wk <| qq <| q0 <| qt <| ⟨.inl rfl,cp (.bool false) h (ck (au))⟩
  ·refine qr [.b 2 c1] <| qc H (fun c3 H=>?_) (fun c3 H=>?_)
   ·obtain rfl:=oi H
    exact q1 <| qt <| ⟨.inl rfl,cp (.bool false) h (ck (au))⟩
   ·refine qk <| qq ?_
    obtain⟨x3,e3,H⟩:=aI H
    obtain⟨az,h0,e4,o0⟩:=Ly (P:=Tryz.prog) (E:=aj) (s:=.fz [] 0 true) (t2:=22) (x:=aj.fz x2.1) (l2:=x2.1) (.inr rfl) Ek o (zf (E:=aj) (l2:=x2.1) _) rfl e3
    refine qr [.a 2 e4] <| qq ?_
    obtain⟨v0,e5,H⟩:=aI H
    obtain⟨v1,e6,H⟩:=aI H
    obtain⟨v2,e7,H⟩:=aI H
    obtain⟨h1,e8,o1⟩:=dM (P:=Tryz.prog) (tf:=5) (E:=aj) (l:=x3) (q:=0) (v:=(u8.wrap (v1+u8.wrap (Zp B2 (255:Int)+(1:Int))))) (x:=.int .u8 (u8.wrap (v1+u8.wrap (Zp B2 (255:Int)+(1:Int))))) o0 rfl Z5 e7 rfl rfl
    refine qr [.v 6 (show jC Tryz.prog .rem 40 (.int .u64 (u64.wrap Ie)) (.int .u64 (u64.wrap (x2.1.length:Int)))=some (.int .u64 v0) from Cr e5),.v 8 (aE (k:=.i64) (E:=aj) (l:=x3) (q:=0) Ek o0 rfl e6),.v 9 (bf  (E:=aj) (l:=x3) (q:=0) o0 rfl A5 e6 rfl),.v 14 (aE (k:=.i64) (E:=aj) (l:=x3) (q:=0) Ek o0 rfl e7),.w 15 e8] <| qq ?_
    obtain⟨h2,e9,o2⟩:=iS (E:=aj) (l:=(x3.set (i64.wrap v0).toNat (u8.wrap (v1+u8.wrap (Zp B2 (255:Int)+(1:Int)))))) (q:=0) o1 rfl
    obtain⟨x4,ow,H⟩:=aI H
    refine zt [.a 0 e9] [.a 1 (KG _ _ ow h2 _ (cY (iE (E:=aj)) (gZ)))] <| qq ?_
    obtain⟨v3,rI,H⟩:=aI H
    obtain⟨v4,sK,H⟩:=aI H
    obtain⟨x5,sL,H⟩:=aI H
    refine qr [.v 6 (show jC Tryz.prog .rem 40 (.int .u64 (u64.wrap uZ)) (.int .u64 (u64.wrap (x2.1.length:Int)))=some (.int .u64 v3) from Cr rI),.v 8 (show eR Tryz.prog 22 (aj.fz x2.1) none (some (.int .i64 (i64.wrap v3))) none=some (aj.fz v4) from xA (E:=aj) Ek sK),.a 9 (KG _ _ sL h2 _ (cY (iE (E:=aj)) (gZ)))] <| qq ?_
    obtain⟨x6,uo,H⟩:=aI H
    refine qr [.a 1 (Xj _ _ uo h2 _ (cY (iE (E:=aj)) (gZ)))] <| qq ?_
    obtain⟨x7,sM,H⟩:=aI H
    refine qr [.a 2 (Tu _ _ _ sM h2 _ (ia (ae (cW (E:=aj)) (ae (cW (E:=aj)) (aB)))))] <| qq ?_
    rcases dQ H with⟨c4,H⟩| ⟨c4,H⟩
    ·rcases dQ H with⟨c5,H⟩| ⟨c5,H⟩
     ·rcases dQ H with⟨c6,H⟩| ⟨c6,H⟩
      ·rcases dQ H with⟨c7,H⟩| ⟨c7,H⟩
       ·obtain⟨x8,wy,H⟩:=aI H
        obtain rfl:=oi H
        exact qr [.b 2 c4,.b 6 c5,.b 10 c6,.b 14 c7,.a 15 (Vo _ wy h2 _ (ia (aB)))] <| qt <| ⟨.inl rfl,cp (.bool x8) h2 (ck (au))⟩
       ·obtain rfl:=oi H
        exact qr [.b 2 c4,.b 6 c5,.b 10 c6,.b 14 c7] <| qt <| ⟨.inl rfl,cp (.bool false) h2 (ck (au))⟩
      ·obtain rfl:=oi H
       exact qr [.b 2 c4,.b 6 c5,.b 10 c6] <| qt <| ⟨.inl rfl,cp (.bool false) h2 (ck (au))⟩
     ·obtain rfl:=oi H
      exact qr [.b 2 c4,.b 6 c5] <| qt <| ⟨.inl rfl,cp (.bool false) h2 (ck (au))⟩
    ·obtain rfl:=oi H
     exact qr [.b 2 c4] <| qt <| ⟨.inl rfl,cp (.bool false) h2 (ck (au))⟩
end
end Go.Proofs.YtmekcfdllhphlaaGreatDoor
namespace Go.Proofs.YtmekcfdllhphlaaGreatDoor
open Go Go.R
open Go.IntKind (i64 u64 u8 u32)
theorem If {m:Nat}(hm:2 ^ 41≤m){b:List Int}(hb:Bytes b)(P7:b.length≤200000){l:List an}(H:aD.f m b=some (l,0)) :
  ∃c,b=bw l++c∧bM.f m (bw l)=some c∧c.length=4∧(∀t∈l,jA t∧jI t)∧l.length≤8:=by
 have lE:(2:Nat) ^ 30=1073741824:=by decide
 have mj:(2:Nat) ^ 40=1099511627776:=by decide
 have pz:(2:Nat) ^ 41=2199023255552:=by decide
 have L6:(2:Nat) ^ 42=4398046511104:=by decide
 obtain⟨r,hr,ho⟩:=Dh hm hb
 rw [H] at hr
 cases hr
 obtain⟨v2,x2,i1,ob,p,h1,h2,h3,h4,h5,h6,h7⟩:=Hu H
 obtain⟨ls,k1,k2,k3,k4,k5⟩:=Hw h6
 have hL:∀s∈ls,jA s:=fun s hs=>by
  obtain⟨j,hj,e⟩:=ZU hs
  have Vc:j<l.length:=by omega
  obtain⟨s',e',q1,q2⟩:=wG hm (ho l[j] (Ze Vc))
  have:=k3 j l[j] s (Yv (by omega)) (by rw [Yv hj,e])
  rw [this] at q1
  cases q1
  exact q2 rfl
 rw [qI (f0:=fun y0=>dP.f m y0) (g:=fun t=>t.nodes.any fun n=>n.kind==4) (by omega) (by omega) (fun t ht=>qP (by have:=(hL t ht).qd; omega) (by have:=(hL t ht).qd; omega))] at k5
 have rT:=YI k5
 have hW:∀t∈ls,jA t∧jI t:=fun t ht=>⟨hL t ht,(hL t ht).w (by simpa using List.any_eq_false.1 rT t ht)⟩
 have Lm:=lT hW
 obtain⟨rfl,rfl⟩:=ED (by omega) hb P7 h1 h2 h3 h7 k4 (by omega) (fun t ht=>(hW t ht).2) (by omega)
 rw [Da (by omega) (fun t ht=>(hW t ht).2) (by omega) (by omega)] at k4
 simp only [Yk] at k4
 obtain⟨c,hc,k4⟩:=k4
 obtain⟨_,_,e⟩:=k7 k4
 exact⟨c,e,hc,(ke hc).2,hW,k1⟩
theorem Ar {m:Nat}(hm:2 ^ 41≤m){b:List Int}(hb:Bytes b)(P7:b.length≤200000)(H:∀l,aD.f m b≠some (l,0)):∃l,aD.f m b=some (l,2):=by
 obtain⟨⟨l,e⟩,hr,_⟩:=Dh hm hb
 have he:e≠0:=fun h=>H l (by rw [hr,h])
 obtain⟨rfl,rfl⟩:=Jy P7 hr he
 exact⟨_,hr⟩
theorem JR {l k:List an}(hl:∀t∈l,jI t)(hk:∀t∈k,jI t)(l8:l.length≤8)(k8:k.length≤8){x y:List Int}(h:bw l++x=bw k++y):l=k:=by
 have hm:(2:Nat) ^ 30≤2 ^ 30:=Yn _
 have lE:(2:Nat) ^ 30=1073741824:=by decide
 have Hj:(2:Nat) ^ 63=9223372036854775808:=by decide
 have h:de l.length++(bk l++x)=de k.length++(bk k++y):=by
  unfold bw at h
  simpa using h
 have a1:=vt (m:=2 ^ 30) (n:=l.length) (rest:=bk l++x) (by omega) (by omega)
 have a2:=vt (m:=2 ^ 30) (n:=k.length) (rest:=bk k++y) (by omega) (by omega)
 rw [h,a2] at a1
 simp only [Ym,Yr,dG.mk.injEq] at a1
 obtain⟨n1,n2,_⟩:=a1
 have n1:k.length=l.length:=by omega
 obtain⟨z1,q1⟩:=uF (m:=2 ^ 30) hm ((l.length:Int),(⟨[],false⟩:dG)) x (by simp; omega) l (2 ^ 30) 0 [] (by omega) (by simp) rfl hl
 obtain⟨z2,q2⟩:=uF (m:=2 ^ 30) hm ((l.length:Int),(⟨[],false⟩:dG)) y (by simp; omega) k (2 ^ 30) 0 [] (by omega) (by simp; omega) rfl hk
 rw [n2,q1] at q2
 simp only [Ym,Yr,YO] at q2
 exact q2.1
theorem B3 {m:Nat}(hm:2 ^ 41≤m){L:List an}(I:AE m L){i:Nat}(hi:i<(pk m L).length){y:Int}(hy:0≤y∧y<256)(hne:gt (pk m L) i≠y):∃l,aD.f m ((pk m L).set i y)=some (l,2):=by
 have mj:(2:Nat) ^ 40=1099511627776:=by decide
 have pz:(2:Nat) ^ 41=2199023255552:=by decide
 obtain⟨c,P⟩:=I.pk hm
 have s2:=P.Am
 have s3:=P.len
 have hB:=P.eq
 have hC:=P.To
 have bE:=kc fun t ht=>(P.w t ht).2
 generalize hE:bw (L.map (lf m))=E at *
 have PD:Bytes (pk m L):=by rw [hB]; exact bE.append P.ET
 have hlen:(pk m L).length=E.length+4:=by rw [hB,Ys,s3]
 have hbs:Bytes ((pk m L).set i y):=fun x hx=>by
  rcases List.mem_or_eq_of_mem_set hx with hx | rfl
  ·exact PD x hx
  ·exact hy
 refine Ar hm hbs (by rw [Yt]; omega) fun l H=>?_
 obtain⟨d,e1,e2,e3,hW,h8⟩:=If hm hbs (by rw [Yt]; omega) H
 have Ff:(bw l).length=E.length:=by
  have:=congrArg ZS e1
  rw [Yt,Ys,e3,hlen] at this
  omega
 have bl:=kc fun t ht=>(hW t ht).2
 rw [hB] at e1
 by_cases h:i<E.length
 ·have e4:(E++c).set i y=E.set i y++c:=List.set_append_left _ _ h
  rw [e4] at e1
  obtain⟨g1,g2⟩:=List.append_inj e1 (by rw [Yt]; omega)
  subst g2
  have hg:gt E i≠y:=by
   rw [hB,gX h] at hne; exact hne
  have:=EV (m:=m) (by omega) bl bE (by omega) (by omega) (by omega) (by omega) e2 hC
  rw [←g1] at this
  exact JP bE h hy hg this
 ·have e4:(E++c).set i y=E++c.set (i - E.length) y:=ZD _ _ (by omega)
  rw [e4] at e1
  obtain⟨g1,g2⟩:=List.append_inj e1 (by omega)
  rw [←g1,hC] at e2
  have e2:=YI e2
  rw [←e2] at g2
  have hj:i - E.length<c.length:=by omega
  have:gt c (i - E.length)=y:=by
   rw [←g2,eh hj,if_pos rfl]
  apply hne
  rw [hB]
  unfold gt at this ⊢
  rw [YB,YE (by omega),←YB]
  exact this
theorem B4 {m:Nat}(hm:2 ^ 41≤m){L:List an}(I:AE m L){i:Nat}(hi:i<(pk m L).length):∃l,aD.f m ((pk m L).take i)=some (l,2):=by
 obtain⟨c,P⟩:=I.pk hm
 have s2:=P.Am
 have s3:=P.len
 have hB:=P.eq
 have bE:=kc fun t ht=>(P.w t ht).2
 have PD:Bytes (pk m L):=by rw [hB]; exact bE.append P.ET
 have hlen:(pk m L).length=(bw (L.map (lf m))).length+4:=by rw [hB,Ys,s3]
 have hbs:Bytes ((pk m L).take i):=fun x hx=>PD x (List.mem_of_mem_take hx)
 have hl:((pk m L).take i).length≤200000:=by rw [Zz]; omega
 refine Ar hm hbs hl fun l H=>?_
 obtain⟨d,e1,e2,e3,hW,h8⟩:=If hm hbs hl H
 have h1:bw l++(d++(pk m L).drop i)=bw (L.map (lf m))++c:=by
  rw [←Yx,←e1,List.take_append_drop,hB]
 have:=JR (fun t ht=>(hW t ht).2) (fun t ht=>(P.w t ht).2) h8 (by simpa using I.qd) h1
 subst this
 have:=congrArg ZS e1
 rw [Ys,Zz,e3] at this
 omega
theorem As {m:Nat}(hm:2 ^ 63≤m){L:List an}(hl:∀t∈L,t.nodes.length<2 ^ 63)(h0:∀t∈L,AD t){at_ ET cut:Int}(Xk:0≤ET∧ET<256):dk.f m L at_ ET cut=some true:=by
 have pz:(2:Nat) ^ 41=2199023255552:=by decide
 have Hj:(2:Nat) ^ 63=9223372036854775808:=by decide
 obtain⟨v,k1,k2⟩:=EU hm hl h0
 have ha:kA.f m=some true:=rfl
 unfold dk.f
 rw [k1,Yj]
 cases v with
 | false=>rw [if_pos (by simp),ha]; rfl
 | true=>
  have I:=k2 rfl
  obtain⟨c,P⟩:=I.pk (m:=m) (by omega)
  have s2:=P.Am
  have s3:=P.len
  have bE:=kc fun t ht=>(P.w t ht).2
  have PD:Bytes (pk m L):=by rw [P.eq]; exact bE.append P.ET
  have hlen:(pk m L).length=(bw (L.map (lf m))).length+4:=by rw [P.eq,Ys,s3]
  have hg:=JM (m:=m) (by omega) I
  have rem:∀x:Int,∃n:Nat,n<(pk m L).length∧Ec .u64 (u64.wrap x) (u64.wrap ((pk m L).length:Int))=some (n:Int)∧i64.wrap (n:Int)=(n:Int):=fun x=>by
   rw [gm (x:=((pk m L).length:Int)) (by omega) (by omega)]
   have hw:0≤u64.wrap x:=by rw [zo]; omega
   unfold Ec
   rw [if_neg (by omega),ZO hw]
   have h1:=Int.emod_nonneg (u64.wrap x) (b:=((pk m L).length:Int)) (by omega)
   have h2:=Int.emod_lt_of_pos (u64.wrap x) (b:=((pk m L).length:Int)) (by omega)
   refine⟨(u64.wrap x % ((pk m L).length:Int)).toNat,by omega,?_,?_⟩
   ·congr 1; omega
   ·rw [aA (by omega) (by omega)]
  obtain⟨i,i1,i2,i3⟩:=rem at_
  obtain⟨n,n1,n2,n3⟩:=rem cut
  have Xl:app 1 [] (pk m L)=some (pk m L):=by unfold app; rw [if_pos (by simp; omega)]; rfl
  have Yi:=PD _ (aJ i1)
  have hy:0≤u8.wrap (gt (pk m L) i+u8.wrap (Zp ET 255+1))∧u8.wrap (gt (pk m L) i+u8.wrap (Zp ET 255+1))<256:=by rw [fR]; omega
  have hne:gt (pk m L) i≠u8.wrap (gt (pk m L) i+u8.wrap (Zp ET 255+1)):=by
   rw [fR,fR,ZO Xk.1]; omega
  obtain⟨l1,g1⟩:=B3 (m:=m) (by omega) I i1 hy hne
  obtain⟨l2,g2⟩:=B4 (m:=m) (by omega) I n1
  have hs:lD (pk m L) 0 (n:Int)=some ((pk m L).take n):=by
   rw [kh ⟨by omega,by omega,by omega⟩]; simp
  have hO:bG.f m ((pk m L).set i (u8.wrap (gt (pk m L) i+u8.wrap (Zp ET 255+1))))=some ([],2):=by
   unfold bG.f
   rw [g1,Yj]; rfl
  have hE:∃x,bU.f m (pk m L) ((pk m L).set i (u8.wrap (gt (pk m L) i+u8.wrap (Zp ET 255+1))))=some (x,2):=by
   obtain⟨f,rfl⟩:∃f,m=f+1+1+1:=⟨m - 3,by omega⟩
   generalize (pk (f+1+1+1) L).set i (u8.wrap (gt (pk (f+1+1+1) L) i+u8.wrap (Zp ET 255+1)))=y at *
   generalize pk (f+1+1+1) L=x at *
   have e0:ix ([x,y]:List (List Int)) 0=some x:=rfl
   have e1:ix ([x,y]:List (List Int)) 1=some y:=rfl
   have w1:i64.wrap ((0:Int)+1)=1:=by decide
   unfold bU.f
   conv=>arg 1; ext; lhs; arg 1; unfold bU.l0
   rw [if_pos (by simp),e0,Yj,hg,Yj,if_neg (by simp),w1]
   conv=>arg 1; ext; lhs; arg 1; unfold bU.l0
   rw [if_pos (by simp),e1,Yj,g1,Yj,if_pos (by simp)]
   exact⟨_,rfl⟩
  obtain⟨x,hE⟩:=hE
  rw [if_neg (by simp),Du (by omega) I,Yj]
  dsimp only
  rw [if_neg (by simp),if_neg (by rw [beq_iff_eq]; omega),Xl,Yj,i2,Yj,i3,cy i1,Yj,Yj,Yq,g1,Yj,n2,Yj,n3,hs,Yj,g2,Yj,hO,Yj,hE,Yj,
   if_pos (by simp),if_pos (by simp),if_pos (by simp),if_pos (by simp),ha]
  rfl
end Go.Proofs.YtmekcfdllhphlaaGreatDoor
namespace Go.Proofs.YtmekcfdllhphlaaGreatDoor
open Go Go.R
open Go.IntKind (i64 u64 u8 u32)
def Nf (xs ys:List AV):Prop:=cL xs=true∧dB xs=ys
theorem wO:∀a b:List AV,cL (a++b)=(cL a&&cL b)
 | [],b=>rfl
 | x::a,b=>by rw [YL,cL,cL,wO,Bool.and_assoc]
theorem wP:∀a b:List AV,dB (a++b)=dB a++dB b
 | [],b=>rfl
 | x::a,b=>by rw [YL,dB,dB,wP,YL]
theorem Nf.app {a b c d:List AV}(h:Nf a c)(k:Nf b d):Nf (a++b) (c++d):=⟨by rw [wO,h.1,k.1]; rfl,by rw [wP,h.2,k.2]⟩
theorem Nf.nil:Nf [] []:=⟨rfl,rfl⟩
theorem Nf.fz {α:Type}{E:cz α}{cs:List AV}{l:List α}{n:Nat}{b:Bool}(h:Nf cs (E.l l))(hn:n=l.length):Nf [.fz cs n b] [E.fz l]:=by
 subst hn
 exact⟨by show (AV.dX (.fz cs l.length b)&&cL [])=true; simp [AV.dX,h.1,cL],by show [AV.fz (dB cs) l.length false]=_; rw [h.2]; rfl⟩
theorem Nf.nils {α:Type}{E:cz α}:Nf [.nils] [E.fz []]:=⟨rfl,rfl⟩
theorem At {α:Type}{E:cz α}{Pr:α→Prop}:∀{els:List (List AV)},(∀el∈els,∃a,Nf el (E.f a)∧Pr a)→∃l:List α,Nf els.flatten (E.l l)∧l.length=els.length∧∀a∈l,Pr a
 | [],_=>⟨[],Nf.nil,rfl,fun a ha=>by cases ha⟩
 | el::els,h=>by
  obtain⟨a,h1,h2⟩:=h el (by simp)
  obtain⟨l,h3,h4,h5⟩:=At (E:=E) (Pr:=Pr) (els:=els) fun e he=>h e (by simp [he])
  refine⟨a::l,?_,by simp [h4],fun x hx=>?_⟩
  ·rw [List.flatten_cons,cz.ef]; exact h1.app h3
  ·rcases YW.1 hx with rfl | hx
   ·exact h2
   ·exact h5 x hx
theorem B5 {α:Type}{E:cz α}{Pr:α→Prop}{n t e:Nat}{xs:List AV}(ht:Tryz.prog.underlying t=some (.slice e))(h:Fits Tryz.prog (n+1) t xs)
  (he:∀el,Fits Tryz.prog n e el→∃a,Nf el (E.f a)∧Pr a):∃l:List α,Nf xs [E.fz l]∧l.length≤maxLen∧∀a∈l,Pr a:=by
 unfold Fits at h
 rw [ht] at h
 rcases h with rfl | ⟨els,rfl,h1,h⟩
 ·exact⟨[],Nf.nils,by simp,fun a ha=>by cases ha⟩
 ·obtain⟨l,h2,h3,h4⟩:=At (E:=E) (Pr:=Pr) fun el Lm=>he el (h el Lm).2
  exact⟨l,h2.fz h3.symm,by omega,h4⟩
theorem yw {n:Nat}{xs:List AV}(h:Fits Tryz.prog (n+1) 3 xs):∃z:Int,Nf xs (aa.f z)∧z<2 ^ 63:=by
 unfold Fits at h
 rw [Tryz.underlying3] at h
 obtain⟨z,rfl,_,hz⟩:=h
 have hz:z≤9223372036854775807:=hz
 exact⟨z,⟨rfl,rfl⟩,by omega⟩
theorem Ig {n:Nat}{xs:List AV}(h:Fits Tryz.prog (n+3) 56 xs):∃v:ab,Nf xs (ah.f v)∧v.int<2 ^ 63:=by
 unfold Fits at h
 rw [Tryz.underlying56] at h
 obtain⟨a,b,rfl,_,h1,h⟩:=h
 obtain⟨c,d,rfl,_,h2,h⟩:=h
 obtain⟨e,f,rfl,_,h3,h⟩:=h
 obtain⟨g,k,rfl,_,h4,h⟩:=h
 have h:k=[]:=h
 subst h
 obtain⟨z1,i1,_⟩:=yw h1
 obtain⟨z2,i2,j2⟩:=yw h2
 obtain⟨l,i4,_,_⟩:=B5 (E:=aa) (Pr:=fun z=>z<2 ^ 63) Tryz.underlying28 h4 fun el h=>yw h
 have h3:∃s:ByteArray,e=[.str s]:=by
  unfold Fits at h3
  rw [Tryz.underlying9] at h3
  obtain⟨s,hs,_⟩:=h3
  exact⟨s,hs⟩
 obtain⟨s,rfl⟩:=h3
 exact⟨⟨z1,z2,s,l⟩,i1.app (i2.app (Nf.app (a:=[.str s]) (c:=[.str s]) ⟨rfl,rfl⟩ (i4.app Nf.nil))),j2⟩
def B6 (t:an):Prop:=t.nodes.length<2 ^ 63∧AD t
theorem Ih {n:Nat}{xs:List AV}(h:Fits Tryz.prog (n+5) 44 xs):∃t:an,Nf xs (aZ.f t)∧B6 t:=by
 unfold Fits at h
 rw [Tryz.underlying44] at h
 obtain⟨a,b,rfl,_,h1,h⟩:=h
 obtain⟨c,d,rfl,_,h2,h⟩:=h
 have h:d=[]:=h
 subst h
 obtain⟨l,i1,k1,k2⟩:=B5 (E:=ah) (Pr:=fun v=>v.int<2 ^ 63) Tryz.underlying42 h1 fun el h=>Ig h
 obtain⟨z,i2,_⟩:=yw h2
 refine⟨⟨l,z⟩,i1.app (i2.app Nf.nil),?_,fun v hv _=>k2 v hv⟩
 have:maxLen<2 ^ 63:=by decide
 show l.length<_
 omega
theorem JS {t e n:Nat}{xs:List AV}(ht:Tryz.prog.underlying t=some (.slice e))(h:Fits Tryz.prog (n+1) t xs):∃x,xs=[x]∧(x = .nils∨∃cs n b,x = .fz cs n b):=by
 unfold Fits at h
 rw [ht] at h
 rcases h with rfl | ⟨els,rfl,_⟩
 ·exact⟨_,rfl,.inl rfl⟩
 ·exact⟨_,rfl,.inr ⟨_,_,_,rfl⟩⟩
end Go.Proofs.YtmekcfdllhphlaaGreatDoor
namespace Go.Proofs.YtmekcfdllhphlaaGreatDoor
open Go Go.R
open Go.IntKind (i64 u64 u8 u32)
end Go.Proofs.YtmekcfdllhphlaaGreatDoor
namespace Go.Proofs.YtmekcfdllhphlaaGreatDoor
open Go Go.R
open Go.IntKind (i64 u64 u8 u32)
theorem MQ {n:Nat}{xs:List AV}(h:Fits Tryz.prog (n+1) 5 xs):∃z:Int,xs=[.int .u8 z]∧0≤z∧z<256:=by
 unfold Fits at h
 rw [Tryz.underlying5] at h
 obtain⟨z,rfl,h1,h2⟩:=h
 have g1:(0:Int)≤z:=h1
 have g2:z≤255:=h2
 exact⟨z,rfl,g1,by omega⟩
end Go.Proofs.YtmekcfdllhphlaaGreatDoor
namespace Go.Proofs.YtmekcfdllhphlaaGreatDoor
open Go Go.R Go.Shelf
def Nq:Ren:={
 f:=(fun x=>match x with | 178=>103 | 179=>56 | 181=>100 | 184=>101 | 251=>79 | 252=>80 | 290=>102 | 324=>112 | n=>n),
 t:=(fun x=>match x with | 0=>0 | 3=>3 | 4=>4 | 5=>5 | 9=>9 | 20=>20 | 37=>22 | 75=>90 | 80=>73 | 91=>84 | 93=>86 | 130=>112 | 131=>106 | n=>n),
 g:=(fun x=>match x with | 14=>0 | n=>n)}
theorem JT:LaysM.n179 Tryz.prog Nq:={
 mixed:=by kernel_rfl,
 f179:=Tryz.func56.trans (congrArg some (by kernel_rfl)),
 f181:=Tryz.func100.trans (congrArg some (by kernel_rfl)),
 f184:=Tryz.func101.trans (congrArg some (by kernel_rfl)),
 f251:=Tryz.func79.trans (congrArg some (by kernel_rfl)),
 f252:=Tryz.func80.trans (congrArg some (by kernel_rfl)),
 f290:=Tryz.func102.trans (congrArg some (by kernel_rfl)),
 f324:=Tryz.func112.trans (congrArg some (by kernel_rfl)),
 t0:=Tryz.underlying0,
 a0:=Tryz.isAgg0,
 z0:=Tryz.sizeOf0,
 v0:=Tryz.zeroValue0,
 t3:=Tryz.underlying3,
 a3:=Tryz.isAgg3,
 z3:=Tryz.sizeOf3,
 v3:=Tryz.zeroValue3,
 t4:=Tryz.underlying4,
 a4:=Tryz.isAgg4,
 z4:=Tryz.sizeOf4,
 v4:=Tryz.zeroValue4,
 t5:=Tryz.underlying5,
 a5:=Tryz.isAgg5,
 z5:=Tryz.sizeOf5,
 v5:=Tryz.zeroValue5,
 t20:=Tryz.underlying20,
 a20:=Tryz.isAgg20,
 z20:=Tryz.sizeOf20,
 v20:=Tryz.zeroValue20,
 t37:=Tryz.underlying22,
 a37:=Tryz.isAgg22,
 z37:=Tryz.sizeOf22,
 v37:=Tryz.zeroValue22,
 t75:=Tryz.underlying90,
 a75:=Tryz.isAgg90,
 z75:=Tryz.sizeOf90,
 v75:=Tryz.zeroValue90,
 t91:=Tryz.underlying84,
 a91:=Tryz.isAgg84,
 z91:=Tryz.sizeOf84,
 v91:=Tryz.zeroValue84,
 t93:=Tryz.underlying86,
 a93:=Tryz.isAgg86,
 z93:=Tryz.sizeOf86,
 v93:=Tryz.zeroValue86,
 t130:=Tryz.underlying112,
 a130:=Tryz.isAgg112,
 z130:=Tryz.sizeOf112,
 v130:=Tryz.zeroValue112,
 t131:=Tryz.underlying106,
 a131:=Tryz.isAgg106,
 z131:=Tryz.sizeOf106,
 v131:=Tryz.zeroValue106,
 g14:=by kernel_rfl,
 t9:=Tryz.underlying9,
 a9:=Tryz.isAgg9,
 z9:=Tryz.sizeOf9,
 v9:=Tryz.zeroValue9,
 t80:=Tryz.underlying73,
 a80:=Tryz.isAgg73,
 z80:=Tryz.sizeOf73,
 v80:=Tryz.zeroValue73,
 i0:=by kernel_rfl,
 i3:=by kernel_rfl,
 i4:=by kernel_rfl,
 i5:=by kernel_rfl,
 i9:=by kernel_rfl,
 i20:=by kernel_rfl,
 i37:=by kernel_rfl,
 i75:=by kernel_rfl,
 i80:=by kernel_rfl,
 i91:=by kernel_rfl,
 i93:=by kernel_rfl,
 i130:=by kernel_rfl,
 i131:=by kernel_rfl,
 m14:=by kernel_rfl}
theorem JU:LaysM.n178 Tryz.prog Nq:={
 mixed:=by kernel_rfl,
 f178:=Tryz.func103.trans (congrArg some (by kernel_rfl)),
 f181:=Tryz.func100.trans (congrArg some (by kernel_rfl)),
 f184:=Tryz.func101.trans (congrArg some (by kernel_rfl)),
 f251:=Tryz.func79.trans (congrArg some (by kernel_rfl)),
 f252:=Tryz.func80.trans (congrArg some (by kernel_rfl)),
 f290:=Tryz.func102.trans (congrArg some (by kernel_rfl)),
 f324:=Tryz.func112.trans (congrArg some (by kernel_rfl)),
 t0:=Tryz.underlying0,
 a0:=Tryz.isAgg0,
 z0:=Tryz.sizeOf0,
 v0:=Tryz.zeroValue0,
 t3:=Tryz.underlying3,
 a3:=Tryz.isAgg3,
 z3:=Tryz.sizeOf3,
 v3:=Tryz.zeroValue3,
 t4:=Tryz.underlying4,
 a4:=Tryz.isAgg4,
 z4:=Tryz.sizeOf4,
 v4:=Tryz.zeroValue4,
 t9:=Tryz.underlying9,
 a9:=Tryz.isAgg9,
 z9:=Tryz.sizeOf9,
 v9:=Tryz.zeroValue9,
 t20:=Tryz.underlying20,
 a20:=Tryz.isAgg20,
 z20:=Tryz.sizeOf20,
 v20:=Tryz.zeroValue20,
 t37:=Tryz.underlying22,
 a37:=Tryz.isAgg22,
 z37:=Tryz.sizeOf22,
 v37:=Tryz.zeroValue22,
 t75:=Tryz.underlying90,
 a75:=Tryz.isAgg90,
 z75:=Tryz.sizeOf90,
 v75:=Tryz.zeroValue90,
 t91:=Tryz.underlying84,
 a91:=Tryz.isAgg84,
 z91:=Tryz.sizeOf84,
 v91:=Tryz.zeroValue84,
 t93:=Tryz.underlying86,
 a93:=Tryz.isAgg86,
 z93:=Tryz.sizeOf86,
 v93:=Tryz.zeroValue86,
 t130:=Tryz.underlying112,
 a130:=Tryz.isAgg112,
 z130:=Tryz.sizeOf112,
 v130:=Tryz.zeroValue112,
 t131:=Tryz.underlying106,
 a131:=Tryz.isAgg106,
 z131:=Tryz.sizeOf106,
 v131:=Tryz.zeroValue106,
 g14:=by kernel_rfl,
 t5:=Tryz.underlying5,
 a5:=Tryz.isAgg5,
 z5:=Tryz.sizeOf5,
 v5:=Tryz.zeroValue5,
 t80:=Tryz.underlying73,
 a80:=Tryz.isAgg73,
 z80:=Tryz.sizeOf73,
 v80:=Tryz.zeroValue73,
 i0:=by kernel_rfl,
 i3:=by kernel_rfl,
 i4:=by kernel_rfl,
 i5:=by kernel_rfl,
 i9:=by kernel_rfl,
 i20:=by kernel_rfl,
 i37:=by kernel_rfl,
 i75:=by kernel_rfl,
 i80:=by kernel_rfl,
 i91:=by kernel_rfl,
 i93:=by kernel_rfl,
 i130:=by kernel_rfl,
 i131:=by kernel_rfl,
 m14:=by kernel_rfl}
theorem fits:Fit Tryz.prog:=Lk (by kernel_rfl) (by kernel_rfl)
theorem JV:∀(vs:Array Value) (w:World),(callFunc (Nq.f 179) vs).run Tryz.prog w = .ok (.enter (Nq.f 179) vs) w:=
 ka (c:=codeOf Tryz.f56) Tryz.func56 (by kernel_rfl) (by decide +kernel)
theorem Ii:∀(vs:Array Value) (w:World),(callFunc (Nq.f 178) vs).run Tryz.prog w = .ok (.enter (Nq.f 178) vs) w:=
 ka (c:=codeOf Tryz.f103) Tryz.func103 (by kernel_rfl) (by decide +kernel)
noncomputable def Ij:FuncId→Option (List AV→AHeap→Option (AV × AHeap)):=fun f=>if f=56 then some (wbA 5) else if f=103 then some (wsA 5) else none
theorem u3:IntrOK Tryz.prog Ij:=intr_cons (f0:=56) (wb_ok JT JV) wb_steady (intr_cons (f0:=103) (ws_ok JU Ii) ws_steady DY)
end Go.Proofs.YtmekcfdllhphlaaGreatDoor
namespace Go.Proofs.YtmekcfdllhphlaaGreatDoor
open Go Go.R
open Go.IntKind (i64 u64 u8 u32)
def cR:Nat→cm
 | 4=>JQ
 | 5=>{gz:=[0,1,2,3,4,5,6,7,8,9,10],aF:=[9]}
 | 6=>EB
 | 8=>EW
 | 10=>Aq
 | 14=>wD
 | 16=>wM
 | 17=>zT
 | 18=>gI [0,2] [2] [0,1] [] []
 | 19=>gI [0] [0] [] [] []
 | 20=>gI [0,1,2,3] [1,2] [9,3] [] []
 | 21=>gI [0,1,4] [] [4,3] [] []
 | 22=>gI [0,1,2,3,4,5,6,7,8,22,27,67,72,85] [2,3,6,7] [16371,15859,16367,16339,15315,16339,16147,14099,16367,15891,11795,15891,7699,16367,16367] [] []
 | 23=>C9
 | 24=>C5
 | 25=>zP
 | 26=>wC
 | 29=>Dj
 | 31=>KF
 | 32=>PC
 | 34=>wL
 | 35=>C6
 | 36=>CL
 | 37=>C8
 | 38=>CK
 | 39=>C7
 | 40=>wE
 | 41=>C2
 | 42=>C4
 | 45=>Aa
 | 46=>mc
 | 52=>CS
 | 53=>CZ
 | 54=>zz
 | 55=>zy
 | 56=>{gz:=[0,1,4,5,6,16],aF:=[]}
 | 57=>zO
 | 58=>zR
 | 59=>{gz:=[0,2],aF:=[]}
 | 60=>z8
 | 61=>wI
 | 62=>mX
 | 75=>CR
 | 76=>CI
 | 77=>pG
 | 78=>zJ
 | 81=>C3
 | 82=>Di
 | 83=>zX
 | 84=>zZ
 | 85=>Dc
 | 86=>zY
 | 92=>CT
 | 93=>CE
 | 94=>CF
 | 95=>CG
 | 96=>CH
 | 97=>CQ
 | 98=>CV
 | 99=>CU
 | 103=>{gz:=[0,1,4,5,6,7,19],aF:=[]}
 | 104=>uO
 | 106=>tY
 | 107=>uc
 | 108=>ox
 | 109=>xU
 | 110=>uu
 | 111=>xW
 | 113=>yq
 | 114=>xJ
 | 115=>qJ
 | 116=>lR
 | 117=>xV
 | 118=>tU
 | 119=>tS
 | _=>{gz:=[],aF:=[]}
def a7:Nat:=18014398509481984
theorem bh:jE+fq≤a7:=by decide
def PE:Nat→Option Nat
 | 4=>some a7
 | 5=>some a7
 | 6=>some a7
 | 8=>some a7
 | 10=>some a7
 | 14=>some a7
 | 16=>some a7
 | 17=>some a7
 | 18=>some a7
 | 19=>some a7
 | 20=>some a7
 | 21=>some a7
 | 22=>some a7
 | 23=>some a7
 | 24=>some a7
 | 29=>some a7
 | 32=>some a7
 | 34=>some a7
 | 35=>some a7
 | 37=>some a7
 | 39=>some a7
 | 40=>some a7
 | 45=>some a7
 | 46=>some a7
 | 52=>some a7
 | 53=>some a7
 | 60=>some a7
 | 61=>some a7
 | 62=>some a7
 | 76=>some a7
 | 77=>some a7
 | 82=>some a7
 | 83=>some a7
 | 84=>some a7
 | 85=>some a7
 | 86=>some a7
 | 92=>some a7
 | 93=>some a7
 | 96=>some a7
 | 99=>some a7
 | 104=>some a7
 | 106=>some a7
 | 109=>some a7
 | 110=>some a7
 | 111=>some a7
 | 113=>some a7
 | 114=>some a7
 | 117=>some a7
 | _=>none
def M:Nat:=18446744073709551616
noncomputable def Au:oL:={aU:=cR,intr:=Ij,pure:=fun _=>none}
theorem np {h:AHeap}(hp:0<h.next):Has h []:=⟨fun j i c h=>by simp at h,fun j j' i c c' h=>by simp at h,hp⟩
theorem MR:codeOf Tryz.f59=(.seq (sub [0] (codeOf Tryz.f59)) (.seq (sub [1,0] (codeOf Tryz.f59)) .ret)):=by kernel_rfl
theorem B7 {cf:CallF}{id i n:Nat}{h:AHeap}{cs:List AV}(h1:h.get id=some (.cells [.rs i 0 n 1,.int .i64 0,.int .i8 0])) :
  ∃r h',be Tryz.prog cR cf M 59 [.ptr id 0] h=some (r,h')∧r = .rs i 0 n 1∧h'=h:=by
 refine aq (fn:=Tryz.f59) (A:={gz:=[0,2],aF:=[]}) rfl Tryz.func59 (by kernel_rfl) (by kernel_rfl) ?_
 refine aG (Q:=fun s=>aH Tryz.prog (s.open {gz:=[0,2],aF:=[]}) Tryz.f59.results.toList=some (.rs i 0 n 1)∧s.h=h) (fun _ _ ⟨h1,h2,h3⟩=>⟨h1,_,h2,rfl,h3⟩) ?_
 refine Bf MR ?_
 show dt _ cf _ M _ ⟨[.ptr id 0,.any],[],h⟩ _
 refine pf ?_
 refine tv (fs:=[]) (zs:=[]) (jN:=⟨[.ptr id 0,.nils],[],h⟩) (p:=(True)∧True) (by kernel_rfl) ⟨trivial,trivial⟩ ?_
 refine pf ?_
 refine tv (fs:=[]) (zs:=[(3,.rs i 0 n 1,none),(7,.int .i64 0,none),(8,.rs i 0 n 1,none)]) (jN:=⟨[.ptr id 0,.rs i 0 n 1],[],h⟩) (p:=(True)∧bo Tryz.prog h 22 (.ptr id 0)=some (.rs i 0 n 1)∧bo Tryz.prog h 3 (.ptr id 1)=some (.int .i64 0)∧eR Tryz.prog 22 (.rs i 0 n 1) (some (.int .i64 0)) none none=some (.rs i 0 n 1)∧True) (by kernel_rfl) ⟨trivial,⟨?_,?_,?_,trivial⟩⟩ ?_
 ·simp only [bo,ju,h1,Yj]; kernel_rfl
 ·simp only [bo,ju,h1,Yj]; kernel_rfl
 ·have e1:Tryz.prog.underlying 22=some (.slice 5):=Tryz.underlying22
  have e2:ez Tryz.prog 5=some 1:=by kernel_rfl
  simp [eR,e1,e2,iL]
 refine ze ?_
 exact⟨.inl rfl,by kernel_rfl,rfl⟩
noncomputable def KH:FuncId→Option (List AV→AHeap→Option (AV × AHeap)):=fun f=>if f=59 then some (fun args h=>(eX Tryz.prog Au M 1 59 args h).bind plainA) else Ij f
theorem Ik:IntrOK Tryz.prog KH:=intr_cons (plain_ok (tp fits (T:=Au) u3 M 1) 59) (plain_steady (lN (T:=Au) u3 M 1) 59) u3
noncomputable def bC:oL:={aU:=cR,intr:=KH,pure:=PE}
noncomputable def cV:CallF:=jf Tryz.prog bC M
theorem MS:CallOK Tryz.prog cV:=Gk fits (T:=bC) Ik
theorem Tw:Om cV M:=fun args h=>tM (T:=bC) rfl
theorem Tx:On cV M:=fun args h=>tM (T:=bC) rfl
theorem Xm:T5 cV M:=by
 intro id i n cs h h1 h2 h3 h4 h5
 refine CB (T:=bC) rfl ?_
 obtain⟨r,h',hb,rfl,rfl⟩:=B7 (cf:=eX Tryz.prog Au M 0) (cs:=cs) h1
 have:eX Tryz.prog Au M 1 59 [.ptr id 0] h'=some (.rs i 0 n 1,h'):=hb
 simp only [this,Yj,plainA,h2]
end Go.Proofs.YtmekcfdllhphlaaGreatDoor
namespace Go.Proofs.YtmekcfdllhphlaaGreatDoor
open Go Go.R
open Go.IntKind (i64 u64 u8 u32)
theorem EX:(be Tryz.prog cR (eX Tryz.prog bC M 98) M 5 [] bH).map (fun x=>x.1)=some (.bool true):=by kernel_rfl
theorem j5:S5 cV M:=by
 intro r H h xs hx
 have H:some true=some r:=H
 cases H
 obtain⟨⟨x,h'⟩,hb,e⟩:=Yl.1 EX
 dsimp only at e
 subst e
 obtain⟨l,h1,h2⟩:=lj (P:=Tryz.prog) cR M 5 [] bH _ _ hb
 have hb:=h2 cV fun e he=>lk.2 ⟨_,h1 e he⟩
 exact bD (T:=bC) (deep:=a7) rfl rfl bh hx ⟨_,_,hb,ck (au)⟩
end Go.Proofs.YtmekcfdllhphlaaGreatDoor
namespace Go.Proofs.YtmekcfdllhphlaaGreatDoor
open Go Go.R
open Go.IntKind (i64 u64 u8 u32)
theorem Xn:Vm cV M:=by
 intro s0 r H
 cases H
theorem Xo:Uv cV M:=by
 intro b0 r H h xs hx
 exact bD (T:=bC) (deep:=a7) rfl rfl bh hx (sf (cf:=cV) (m:=M) (aU:=cR) rfl  b0 bH [] aW H)
theorem Vp:Sj cV M:=by
 intro a0 b0 r H h xs hx
 exact bD (T:=bC) (deep:=a7) rfl rfl bh hx (qM (cf:=cV) (m:=M) (aU:=cR) rfl  a0 b0 bH [] aW H)
theorem Vq:R5 cV M:=by
 intro b0 r H h xs hx
 exact bD (T:=bC) (deep:=a7) rfl rfl bh hx (pM (cf:=cV) (m:=M) (aU:=cR) rfl Xo b0 bH [] aW H)
theorem Xp:Vj cV M:=by
 intro l0 r H h xs hx
 exact bD (T:=bC) (deep:=a7) rfl rfl bh hx (q8 (cf:=cV) (m:=M) (aU:=cR) rfl  l0 bH [] aW H)
theorem Xq:Ux cV M:=by
 intro n0 r H h xs hx
 exact bD (T:=bC) (deep:=a7) rfl rfl bh hx (pO (cf:=cV) (m:=M) (aU:=cR) rfl  n0 bH [] aW H)
theorem Vr:PY cV M:=by
 intro r0 r H h L  az o  xs hx
 obtain⟨r',h',hb,rfl,ho⟩:=ye (cf:=cV) (m:=M) (aU:=cR) rfl  r0 h L az  o H
 exact⟨h',jG (T:=bC) rfl rfl hx hb,ho⟩
theorem Xr:Uc cV M:=by
 intro s0 f0 r H h iy dC aL gV hU xs hx
 exact pw (T:=bC) rfl rfl hx (xO (cf:=cV) (m:=M) (aU:=cR) rfl  s0 f0 h [] dC aL  gV hU (np iy) H)
theorem Xs:Ub cV M:=by
 intro s0 f0 r H h iy dC aL gV hU xs hx
 exact pw (T:=bC) rfl rfl hx (xN (cf:=cV) (m:=M) (aU:=cR) rfl  s0 f0 h [] dC aL  gV hU (np iy) H)
theorem Ty:Nh cV M:=by
 intro w0 n0 r H h L  bW ca o  xs hx
 obtain⟨r',h',hb,dD,rfl,ho⟩:=uC (cf:=cV) (m:=M) (aU:=cR) rfl Tw w0 n0 h L bW ca  o H
 exact⟨dD,h',jG (T:=bC) rfl rfl hx hb,ho⟩
theorem Xt:UR cV M:=by
 intro l0 gQ r H h xs hx
 exact bD (T:=bC) (deep:=a7) rfl rfl bh hx (oD (cf:=cV) (m:=M) (aU:=cR) rfl  l0 gQ bH [] aW H)
theorem Vt:∀kk,PX cV M kk
 | 0=>by
  intro i0 x0 x1 x2 x3 r H h L  bV eG dV dH eP dZ dT o  xs hx
  cases H
 | kk+1=>by
  intro i0 x0 x1 x2 x3 r H h L  bV eG dV dH eP dZ dT o  xs hx
  obtain⟨r',h',hb,mb,rfl,ho⟩:=pI (cf:=cV) (m:=M) (aU:=cR) rfl  i0 x0 x1 x2 x3 h L bV eG dV dH eP dZ dT  (Vt kk) o H
  exact⟨mb,h',jG (T:=bC) rfl rfl hx hb,ho⟩
theorem Xu:Up cV M:=by
 intro w0 s0 r H h L  bW ca o  xs hx
 obtain⟨r',h',hb,dD,rfl,ho⟩:=yf (cf:=cV) (m:=M) (aU:=cR) rfl Ty Tx w0 s0 h L bW ca  o H
 exact⟨dD,h',jG (T:=bC) rfl rfl hx hb,ho⟩
theorem Xv:Qa cV M:=by
 intro n0 dI r H h xs hx
 exact bD (T:=bC) (deep:=a7) rfl rfl bh hx (qR (cf:=cV) (m:=M) (aU:=cR) rfl  n0 dI bH [] aW H)
theorem Vu:Nk cV M:=by
 intro a0 b0 r H h xs hx
 exact bD (T:=bC) (deep:=a7) rfl rfl bh hx (qS (cf:=cV) (m:=M) (aU:=cR) rfl  a0 b0 bH [] aW H)
theorem Vv:Mt cV M:=by
 intro a0 b0 bq r H h xs hx
 exact bD (T:=bC) (deep:=a7) rfl rfl bh hx (nz (cf:=cV) (m:=M) (aU:=cR) rfl  a0 b0 bq bH [] aW H)
theorem Xw:Ui cV M:=by
 intro x0 r H h xs hx
 exact bD (T:=bC) (deep:=a7) rfl rfl bh hx (oy (cf:=cV) (m:=M) (aU:=cR) rfl  x0 bH [] aW H)
theorem Xx:T8 cV M:=by
 intro a0 x0 r H h L eM bV o gj
 exact pw (T:=bC) rfl rfl (ak (aR (bJ)) (ak (rfl) (bn))) (qH (cf:=cV) (m:=M) (aU:=cR) rfl  a0 x0 h L  gj o H)
theorem Xy:T9 cV M:=by
 intro s0 r H h xs hx
 exact bD (T:=bC) (deep:=a7) rfl rfl bh hx (r8 (cf:=cV) (m:=M) (aU:=cR) rfl  s0 bH [] aW H)
theorem Tz:Ou cV M:=by
 intro s0 f0 r H h iy dC aL gV hU xs hx
 exact pw (T:=bC) rfl rfl hx (xM (cf:=cV) (m:=M) (aU:=cR) rfl  s0 f0 h [] dC aL  gV hU (np iy) H)
theorem TA:OG cV M:=by
 intro x0 y0 r H h xs hx
 exact bD (T:=bC) (deep:=a7) rfl rfl bh hx (mO (cf:=cV) (m:=M) (aU:=cR) rfl Xw x0 y0 bH [] aW H)
theorem TB:OI cV M:=by
 intro gk r H h xs hx
 exact bD (T:=bC) (deep:=a7) rfl rfl bh hx (sd (cf:=cV) (m:=M) (aU:=cR) rfl  gk bH [] aW H)
theorem TC:My cV M:=by
 intro c0 r H h xs hx
 exact bD (T:=bC) (deep:=a7) rfl rfl bh hx (pT (cf:=cV) (m:=M) (aU:=cR) rfl  c0 bH [] aW H)
theorem TD:LU cV M:=by
 intro c0 r H h xs hx
 exact bD (T:=bC) (deep:=a7) rfl rfl bh hx (qG (cf:=cV) (m:=M) (aU:=cR) rfl  c0 bH [] aW H)
theorem TE:LY cV M:=by
 intro ao a0 b0 aM r H h L cE az o rH fJ Es Bo xs hx
 have hn0:cE=ao.length:=dq (E:=aa) o (q:=0) rfl
 subst hn0
 obtain⟨r',h',hb,rfl,ho⟩:=nq (cf:=cV) (m:=M) (aU:=cR) rfl  ao a0 b0 aM h L az rH fJ  Es Bo o H
 exact⟨h',jG (T:=bC) rfl rfl hx hb,ho⟩
theorem TF:OJ cV M:=by
 intro x0 r H h xs hx
 exact bD (T:=bC) (deep:=a7) rfl rfl bh hx (mh (cf:=cV) (m:=M) (aU:=cR) rfl  x0 bH [] aW H)
theorem TG:LR cV M:=by
 intro ao a0 b0 n0 aM r H h L cE az o eA aX gJ ij xs hx
 have hn0:cE=ao.length:=dq (E:=aa) o (q:=0) rfl
 subst hn0
 obtain⟨r',h',hb,rfl,ho⟩:=rX (cf:=cV) (m:=M) (aU:=cR) rfl  ao a0 b0 n0 aM h L az eA aX  gJ ij o H
 exact⟨h',jG (T:=bC) rfl rfl hx hb,ho⟩
theorem TH:Mk cV M:=by
 intro r0 r H h L  az o  xs hx
 obtain⟨r',h',hb,rfl,ho⟩:=uD (cf:=cV) (m:=M) (aU:=cR) rfl Vr r0 h L az  o H
 exact⟨h',jG (T:=bC) rfl rfl hx hb,ho⟩
theorem Xz:Ud cV M:=by
 intro s0 f0 r H h iy dC aL gV hU xs hx
 exact pw (T:=bC) rfl rfl hx (sa (cf:=cV) (m:=M) (aU:=cR) rfl Xr s0 f0 h [] dC aL  gV hU (np iy) H)
theorem Vw:Ro cV M:=by
 intro s0 f0 r H h iy dC aL gV hU xs hx
 exact pw (T:=bC) rfl rfl hx (r9 (cf:=cV) (m:=M) (aU:=cR) rfl Xs s0 f0 h [] dC aL  gV hU (np iy) H)
theorem XA:Uq cV M:=by
 intro r0 r H h L  az o  xs hx
 obtain⟨r',h',hb,rfl,ho⟩:=yh (cf:=cV) (m:=M) (aU:=cR) rfl TH r0 h L az  o H
 exact⟨h',jG (T:=bC) rfl rfl hx hb,ho⟩
theorem XB:PZ cV M:=by
 intro w0 n0 r H h L  bW ca o  xs hx
 obtain⟨r',h',hb,dD,rfl,ho⟩:=yg (cf:=cV) (m:=M) (aU:=cR) rfl Tw Ty Xu w0 n0 h L bW ca  o H
 exact⟨dD,h',jG (T:=bC) rfl rfl hx hb,ho⟩
theorem XC:Qb cV M:=by
 intro l0 ev n0 bq r H h xs hx
 exact bD (T:=bC) (deep:=a7) rfl rfl bh hx (sr (cf:=cV) (m:=M) (aU:=cR) rfl Vu Vv l0 ev n0 bq bH [] aW H)
theorem XD:T7 cV M:=by
 intro s0 f0 r H h iy dC aL gV hU xs hx
 exact pw (T:=bC) rfl rfl hx (r7 (cf:=cV) (m:=M) (aU:=cR) rfl Tz s0 f0 h [] dC aL  gV hU (np iy) H)
theorem TI:Pl cV M:=by
 intro s0 r H h xs hx
 exact bD (T:=bC) (deep:=a7) rfl rfl bh hx (ss (cf:=cV) (m:=M) (aU:=cR) rfl TC s0 bH [] aW H)
theorem TJ:Oq cV M:=by
 intro s0 kJ nN r H h xs hx
 exact bD (T:=bC) (deep:=a7) rfl rfl bh hx (tZ (cf:=cV) (m:=M) (aU:=cR) rfl TD s0 kJ nN bH [] aW H)
theorem TK:OL cV M:=by
 intro x0 y0 r H h xs hx
 exact bD (T:=bC) (deep:=a7) rfl rfl bh hx (lu (cf:=cV) (m:=M) (aU:=cR) rfl TF x0 y0 bH [] aW H)
theorem TL:Oo cV M:=by
 intro ao a0 m0 b0 aM r H h L cE az o eA aX gJ ij xs hx
 have hn0:cE=ao.length:=dq (E:=aa) o (q:=0) rfl
 subst hn0
 obtain⟨r',h',hb,rfl,ho⟩:=xI (cf:=cV) (m:=M) (aU:=cR) rfl TG ao a0 m0 b0 aM h L az eA aX  gJ ij o H
 exact⟨h',jG (T:=bC) rfl rfl hx hb,ho⟩
theorem XE:P4 cV M:=by
 intro r0 r H h L  az o  xs hx
 obtain⟨r',h',hb,rfl,ho⟩:=yi (cf:=cV) (m:=M) (aU:=cR) rfl TH Vr XA r0 h L az  o H
 exact⟨h',jG (T:=bC) rfl rfl hx hb,ho⟩
theorem XF:Uy cV M:=by
 intro t0 r H h xs hx
 exact bD (T:=bC) (deep:=a7) rfl rfl bh hx (pP (cf:=cV) (m:=M) (aU:=cR) rfl Vw Xq t0 bH [] aW H)
theorem XG:Uw cV M:=by
 intro ba r H h xs hx
 exact bD (T:=bC) (deep:=a7) rfl rfl bh hx (pN (cf:=cV) (m:=M) (aU:=cR) rfl Vq Tw Ty XB Xm ba bH [] aW H)
theorem XH:UH cV M:=by
 intro l0 r H h xs hx
 exact bD (T:=bC) (deep:=a7) rfl rfl bh hx (oC (cf:=cV) (m:=M) (aU:=cR) rfl Xv XC Vu Vv l0 bH [] aW H)
theorem XI:UZ cV M:=by
 intro s0 r H h xs hx
 exact bD (T:=bC) (deep:=a7) rfl rfl bh hx (pU (cf:=cV) (m:=M) (aU:=cR) rfl TI s0 bH [] aW H)
theorem XJ:T6 cV M:=by
 intro s0 r H h xs hx
 exact bD (T:=bC) (deep:=a7) rfl rfl bh hx (ub (cf:=cV) (m:=M) (aU:=cR) rfl TJ s0 bH [] aW H)
theorem Vx:PU cV M:=by
 intro a0 b0 r H h xs hx
 exact bD (T:=bC) (deep:=a7) rfl rfl bh hx (mP (cf:=cV) (m:=M) (aU:=cR) rfl TA TB TK a0 b0 bH [] aW H)
theorem PF:∀kk,vp cV M kk
 | 0=>by
  intro ao a0 m0 b0 aM r H h L cE az o eA aX gJ ij xs hx
  cases H
 | kk+1=>by
  intro ao a0 m0 b0 aM r H h L cE az o eA aX gJ ij xs hx
  have hn0:cE=ao.length:=dq (E:=aa) o (q:=0) rfl
  subst hn0
  obtain⟨r',h',hb,rfl,ho⟩:=um (cf:=cV) (m:=M) (aU:=cR) rfl TL ao a0 m0 b0 aM h L az eA aX  (PF kk) gJ ij o H
  exact⟨h',jG (T:=bC) rfl rfl hx hb,ho⟩
theorem XK:U1 cV M:=by
 intro l0 gQ r H h xs hx
 exact ky (T:=bC) (deep:=a7) rfl rfl bh hx (q6 (cf:=cV) (m:=M) (aU:=cR) rfl Xt XH l0 gQ bH [] aW H)
theorem XL:SG cV M:=by
 intro n0 ax r H h xs hx
 exact bD (T:=bC) (deep:=a7) rfl rfl bh hx (qY (cf:=cV) (m:=M) (aU:=cR) rfl XI n0 ax bH [] aW H)
theorem XM:Ua cV M:=by
 intro n0 mM r H h xs hx
 exact bD (T:=bC) (deep:=a7) rfl rfl bh hx (uf (cf:=cV) (m:=M) (aU:=cR) rfl XJ XD Xx Xy n0 mM bH [] aW H)
theorem XN:Uj cV M:=by
 intro i0 j0 x0 r H h L eM bV o gj
 exact pw (T:=bC) rfl rfl (ak (aR (bJ)) (ak (aR (bJ)) (ak (rfl) (bn)))) (nu (cf:=cV) (m:=M) (aU:=cR) rfl Vx i0 j0 x0 h L  gj o H)
theorem TM:OD cV M:=by
 intro ao n0 aM r H h L cE az o lq dm nr sb xs hx
 have hn0:cE=ao.length:=dq (E:=aa) o (q:=0) rfl
 subst hn0
 obtain⟨r',h',hb,rfl,ho⟩:=xT (cf:=cV) (m:=M) (aU:=cR) rfl TE (PF _) ao n0 aM h L az lq dm  nr sb o H
 exact⟨h',jG (T:=bC) rfl rfl hx hb,ho⟩
theorem XO:U0 cV M:=by
 intro t0 r H h xs hx
 exact bD (T:=bC) (deep:=a7) rfl rfl bh hx (qZ (cf:=cV) (m:=M) (aU:=cR) rfl XL t0 bH [] aW H)
theorem XP:Ug cV M:=by
 intro n0 x0 r H h L eM bV o gj
 exact pw (T:=bC) rfl rfl (ak (aR (tC (cY (bJ) (cY (bJ) (cY (xD) (cY (iE (E:=aa)) (gZ))))))) (ak (rfl) (bn))) (pF (cf:=cV) (m:=M) (aU:=cR) rfl XM n0 x0 h L  gj o H)
theorem XQ:Uf cV M:=by
 intro x0 aM r H h L ur az o dC aL gV hU xs hx
 have hn0:ur=x0.length:=dq (E:=aa) o (q:=0) rfl
 subst hn0
 obtain⟨r',h',hb,rfl,ho⟩:=pE (cf:=cV) (m:=M) (aU:=cR) rfl TM x0 aM h L az dC aL  gV hU o H
 exact⟨h',jG (T:=bC) rfl rfl hx hb,ho⟩
theorem XR:SQ cV M:=by
 intro t0 r H h xs hx
 exact ky (T:=bC) (deep:=a7) rfl rfl bh hx (q7 (cf:=cV) (m:=M) (aU:=cR) rfl XO XK t0 bH [] aW H)
theorem XS:Uh cV M:=by
 intro t0 r H h xs hx
 exact bD (T:=bC) (deep:=a7) rfl rfl bh hx (sc (cf:=cV) (m:=M) (aU:=cR) rfl Vw XP t0 bH [] aW H)
theorem XT:Uk cV M:=by
 intro ax r H h xs hx
 exact bD (T:=bC) (deep:=a7) rfl rfl bh hx (pH (cf:=cV) (m:=M) (aU:=cR) rfl XQ XN Vx ax bH [] aW H)
theorem XU:Vk cV M:=by
 intro l0 r H h xs hx
 exact bD (T:=bC) (deep:=a7) rfl rfl bh hx (q9 (cf:=cV) (m:=M) (aU:=cR) rfl XR Xp l0 bH [] aW H)
theorem XV:Vl cV M:=by
 intro x0 r H h L ur az o  xs hx
 have hn0:ur=x0.length:=dq (E:=aa) o (q:=0) rfl
 subst hn0
 obtain⟨r',h',hb,rfl,ho⟩:=pY (cf:=cV) (m:=M) (aU:=cR) rfl x0 h L az  o H
 exact⟨h',jG (T:=bC) rfl rfl hx hb,ho⟩
theorem XW:Um cV M:=by
 intro t0 r H h xs hx
 exact ky (T:=bC) (deep:=a7) rfl rfl bh hx (se (cf:=cV) (m:=M) (aU:=cR) rfl XT (Vt _) t0 bH [] aW H)
theorem XX:R9 cV M:=by
 intro t0 r H h xs hx
 exact ky (T:=bC) (deep:=a7) rfl rfl bh hx (sk (cf:=cV) (m:=M) (aU:=cR) rfl XS XW t0 bH [] aW H)
theorem Vy:Se cV M:=by
 intro ba r H h xs hx
 exact ky (T:=bC) (deep:=a7) rfl rfl bh hx (sn (cf:=cV) (m:=M) (aU:=cR) rfl XX Xz XF XG ba bH [] aW H)
theorem j6:S6 cV M:=by
 intro b0 r H h xs hx
 exact ky (T:=bC) (deep:=a7) rfl rfl bh hx (sq (cf:=cV) (m:=M) (aU:=cR) rfl Vy Vp Vq TH XE b0 bH [] aW H)
theorem j8:S8 cV M:=by
 intro b0 r H h xs hx
 exact ky (T:=bC) (deep:=a7) rfl rfl bh hx (re (cf:=cV) (m:=M) (aU:=cR) rfl j6 XV Xn b0 bH [] aW H)
theorem XY:Vn cV M:=by
 intro x0 y0 r H h xs hx
 exact bD (T:=bC) (deep:=a7) rfl rfl bh hx (pZ (cf:=cV) (m:=M) (aU:=cR) rfl j6 Vp x0 y0 bH [] aW H)
theorem j4:S4 cV M:=by
 intro l0 Ie B2 uZ r H h xs hx
 exact bD (T:=bC) (deep:=a7) rfl rfl bh hx (lC (cf:=cV) (m:=M) (aU:=cR) rfl j5 j6 j8 XY XU Vy l0 Ie B2 uZ bH [] aW H)
end Go.Proofs.YtmekcfdllhphlaaGreatDoor
namespace Go.Proofs.YtmekcfdllhphlaaGreatDoor
open Go Go.R Go.Proofs Go.RowKit Go.ChangeShapes Go.WideShapes
theorem yx {P:Program}{m:Nat}{t u v w:TypeId}{xp:List AV}(h:pe P m [t,u,v,w] xp):∃xs ys zs ws,xp=[je P t xs,je P u ys,je P v zs,je P w ws]∧Fits P m t xs∧Fits P m u ys∧Fits P m v zs∧Fits P m w ws:=by
 match xp,h with
 | [_,_,_,_],⟨⟨xs,h1,f1⟩,⟨ys,h2,f2⟩,⟨zs,h3,f3⟩,⟨ws,h4,f4⟩,_⟩=>exact⟨xs,ys,zs,ws,by rw [h1,h2,h3,h4],f1,f2,f3,f4⟩
theorem B8 {n:Nat}{xs:List AV}(h:Fits Tryz.prog (n+6) 24 xs):∃x l,xs=[x]∧(∀h,k9 0 h x (aZ.fz l))∧∀t∈l,B6 t:=by
 obtain⟨l,h1,_,h2⟩:=B5 (E:=aZ) (Pr:=B6) Tryz.underlying24 h fun el h=>Ih h
 obtain⟨x,rfl,hx⟩:=JS Tryz.underlying24 h
 have g1:x.dX=true:=by have:=h1.1; simpa [cL] using this
 have g2:x.kj=aZ.fz l:=by have:=h1.2; simpa [dB] using this
 exact⟨x,l,rfl,fun hp=>nk g1 (by rcases hx with rfl | ⟨cs,n,b,rfl⟩<;>exact fun _=>rfl) g2,h2⟩
theorem Dz {n:Nat}{xs:List AV}(h:Fits Tryz.prog (n+1) 3 xs):∃z:Int,∀hp,k9 4 hp (je Tryz.prog 3 xs) (.int .i64 z):=by
 unfold Fits at h
 rw [Tryz.underlying3] at h
 obtain⟨z,rfl,_⟩:=h
 have e1:je Tryz.prog 3 [.int .i64 z] = .int .i64 z:=by unfold je; rw [Tryz.underlying3]; rfl
 rw [e1]
 exact⟨z,fun hp=>aN.mono (by decide)⟩
theorem MT {n:Nat}{xs:List AV}(h:Fits Tryz.prog (n+1) 5 xs):∃z:Int,(0≤z∧z<256)∧∀hp,k9 4 hp (je Tryz.prog 5 xs) (.int .u8 z):=by
 obtain⟨z,rfl,hz⟩:=MQ h
 have e1:je Tryz.prog 5 [.int .u8 z] = .int .u8 z:=by unfold je; rw [Tryz.underlying5]; rfl
 rw [e1]
 exact⟨z,hz,fun hp=>aN.mono (by decide)⟩
theorem all_true (xp:List AV)(h:pe Tryz.prog 6 Tryz.f4.params.toList xp):∃cf h',CallOK Tryz.prog cf∧cf 4 xp bH=some (.bool true,h'):=by
 rw [show Tryz.f4.params.toList=[24,3,5,3] from by rw [Tryz.params4]] at h
 obtain⟨xs,ys,zs,ws,rfl,h1,h2,h3,h4⟩:=yx h
 obtain⟨x,l,rfl,hf,hl⟩:=B8 h1
 obtain⟨a,fa⟩:=Dz h2
 obtain⟨b,hb,fb⟩:=MT h3
 obtain⟨c,fc⟩:=Dz h4
 have e1:je Tryz.prog 24 [x]=x:=by unfold je; rw [Tryz.underlying24]; rfl
 rw [e1]
 refine⟨cV,bH,MS,j4 l a b c true (As (by decide) (fun t ht=>(hl t ht).1) (fun t ht=>(hl t ht).2) hb) bH _ ?_⟩
 exact ia (ae (hf bH) (ae (fa bH) (ae (fb bH) (ae (fc bH) aB))))
noncomputable def u4 : List (String × DataW Unit) := [("bytes.ErrTooLarge", Rows.laid_bytes_ErrTooLarge)]
theorem own:ownKnob Tryz.prog.godebug=none:=by kernel_rfl
noncomputable def wQ (os:Os):World:=World.laidAll Tryz.prog os u4
theorem vE (os:Os)(args:Array Value):laidMetH Tryz.prog u4 ((wQ os).forCall (fun _ _=>0) ⟨#[],args,[]⟩).memory:=by
 refine laidMetH_of_parts ?_ (by kernel_rfl)
 rw [show (u4.filter fun x=>x.2.handleName?.isNone)=u4 from by kernel_rfl]
 exact laidMet_laidAll args (by kernel_rfl) (by kernel_rfl)
theorem nC (os:Os)(started:os.Started)(H:Type)(enc:TypeId × Value→H) :
  ReturnsInHanded {} Tryz.checked os 4 .any (fun w args=>(Rows.pickleCaughtSpec.pre enc Tryz.prog Tryz.f4 [] false w args∧laidMetH Tryz.prog u4 w)∧sizedMet enc Tryz.prog Tryz.f4 (OpenSpec.ofChange Rows.pickleCaughtSpec) false w args)
   (Rows.pickleCaughtSpec.post enc Tryz.prog Tryz.f4 false true false false):=by
 refine returnsInHanded_of_change_and (C:=Tryz.checked) (X:=fun w _=>laidMetH Tryz.prog u4 w) (fun _ _ _ hh h=>h.of_heap hh) own started (by kernel_rfl) Tryz.func4
  (ChangeSpec.witness_at (enc:=enc) (C:=Tryz.checked) (os:=os) (X:=fun w _=>laidMetH Tryz.prog u4 w) false (wQ os) #[.slice none 0 0,.int .i64 0,.int .u8 0,.int .i64 0] 8 (World.laidAll_os _ _ _) (by kernel_rfl) (by kernel_rfl) (by kernel_rfl) (by kernel_rfl) (by kernel_rfl) (vE os _)) ?_
 intro W base args ds gs before dF hW _ _ hL _
 exact vf (cf:=fun _ _ _=>none) (P:=Tryz.prog) (m:=6) (tb:=4) (by kernel_rfl)
  (by rw [show Tryz.f4.params.toList=[24,3,5,3] from by rw [Tryz.params4]]; intro t ht; simp at ht; rcases ht with rfl | rfl | rfl | rfl<;>exact⟨by kernel_rfl,of_decide_eq_true (by kernel_rfl)⟩)
  (by rw [show Tryz.f4.params.toList=[24,3,5,3] from by rw [Tryz.params4]]; intro t ht; simp at ht; rcases ht with rfl | rfl | rfl | rfl<;>kernel_rfl) rfl rfl Tryz.underlying4
  (fun ds KW=>by
   have:ds.length=4:=by rw [KW]; rfl
   match ds,this with
   | [d,e,f,g],_=>rfl) all_true dF hW
theorem rf:Rows.PickleCaughtSaid:=
 OpenClaim.holds_of_wide 4 Tryz.f4 rfl rfl rfl rfl rfl rfl rfl ⟨rfl,rfl,rfl,rfl,rfl⟩ rfl rfl rfl rfl rfl (by kernel_rfl) Tryz.func4 (by kernel_rfl)
  (of_decide_eq_true (by kernel_rfl)) (by unfold Func.isWrapper; first | (rw [if_pos (by decide +kernel)]; kernel_rfl) | (rw [if_neg (by decide +kernel)]; exact⟨rfl,rfl⟩))
  (fun os started H enc _=>nC os started H enc)
theorem pickleCaught_holds:Rows.PickleCaughtCardSaid:=
 Claim7.holds_tied_plain_at .later [] [.sentinel] true (true, "233d5cb09f35338beff55d9ba1d2540cb935c410677bbf5e41afbc10d9e64e62") false
  rf (fun _ h=>by cases h) (by kernel_rfl) (fun _ h=>by cases h) pickleCaught_row_tie rfl ⟨rfl,rfl⟩ (by kernel_rfl) rfl
  (fun f fn hf Lq=>by
   obtain rfl : f = 4 := YI ((show Tryz.prog.funcNamed "leatwork/leatworklaw20.PickleCaught" = some 4 by kernel_rfl).symm.trans hf) |>.symm
   obtain rfl:fn=Tryz.f4:=(YI (Tryz.func4.symm.trans Lq)).symm
   exact⟨by kernel_rfl,fun j t ht=>by
    rw [Tryz.params4] at ht
    have h3:t=24∨t=3∨t=5:=by
     rcases j with _ | _ | _ | _ | j
     ·left; simpa using ht.symm
     ·right; left; simpa using ht.symm
     ·right; right; simpa using ht.symm
     ·right; left; simpa using ht.symm
     ·simp at ht
    rcases h3 with rfl | rfl | rfl
    ·exact (show Tryz.prog.wantsStandIn 24=false by kernel_rfl)
    ·exact (show Tryz.prog.wantsStandIn 3=false by kernel_rfl)
    ·exact (show Tryz.prog.wantsStandIn 5=false by kernel_rfl)⟩)
  (by kernel_rfl)
end Go.Proofs.YtmekcfdllhphlaaGreatDoor
