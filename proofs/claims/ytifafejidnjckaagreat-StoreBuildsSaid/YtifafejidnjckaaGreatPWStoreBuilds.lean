/- Proved: StoreBuilds returns true for every input; no condition. -/
import Derived.Test.YtifafejidnjckaaGreatK15
import Derived.Test.YtifafejidnjckaaGreatChecked
import Derived.Test.YtifafejidnjckaaGreatRows
set_option linter.unusedVariables false
set_option linter.unusedSimpArgs false
set_option maxRecDepth 100000
open Bool renaming and_eq_true → abA, false_eq_true → abK, true_and → acH, not_true → acO
open List renaming getElem?_eq_getElem → abD, getElem?_eq_some_iff → abG, mem_of_getElem? → abJ, length_map → abL, length_cons → abR, drop_eq_getElem_cons → abT, all_eq_true → abW, mem_cons → ab0, take_succ_eq_append_getElem → ab2, length_nil → ab4, take_length → ace, eq_nil_of_length_eq_zero → acf, cons_append → acg, nil_append → aci, length_take → acm, drop_zero → acn, map_congr_left → acA, getElem?_cons_succ → acP, range → acX, mem_range → ac0
open Nat renaming le_refl → abB, zero_add → abY, lt_of_lt_of_le → ab3, beq → acj, zero_le → aco, eq_of_beq_eq_true → acK, ble → ac4, zero_lt_one → ac5
open Option renaming bind_some → abw, bind_eq_some_iff → abx, map_eq_some_iff → aby
namespace Go.Proofs.YtifafejidnjckaaGreat
open Go Go.R Go.Uf
open Go.IntKind (i64 u64 u8 u32)
section
variable {m:Nat}{s:aj}{t:ay}{r:Int}
theorem DC (x:ah):eZ.f m x x=some true:=by
 unfold eZ.f
 simp only [BEq.rfl,if_true]
theorem JS (z:aZ){i:Nat}{x:ah}(hx:z.nodes[i]? = some x)(h8:x.args.length≤8):∀(k j:Nat),j≤x.args.length→x.args.length - j<k→bB.l1 m z z (i:Int) k (j:Int)=some (.inr (x.args.length:Int))
 | 0,j,h1,h2=>by omega
 | k+1,j,h1,h2=>by
  simp only [bB.l1]
  rw [xU hx,abw]
  by_cases hj:j<x.args.length
  ·have d:decide ((j:Int)<(x.args.length:Int))=true:=by rw [decide_eq_true_eq]; omega
   have eg:=abD hj
   have ew:i64.wrap ((j:Int)+1)=((j+1:Nat):Int):=by rw [lj (by omega) (by omega)]; omega
   rw [if_pos d]
   simp only [abw,xU eg,BEq.rfl,acO,abK,if_false,ew]
   exact JS z hx h8 k (j+1) (by omega) (by omega)
  ·have d:decide ((j:Int)<(x.args.length:Int))=false:=by rw [decide_eq_false_iff_not]; omega
   have e:j=x.args.length:=by omega
   rw [if_neg (by rw [d]; decide),e]
theorem JT (hm:16000≤m)(z:aZ)(ok:lS z.nodes):∀(k i:Nat),i≤z.nodes.length→z.nodes.length - i<k→bB.l0 m z z k (i:Int)=some (.inr (z.nodes.length:Int))
 | 0,i,h1,h2=>by omega
 | k+1,i,h1,h2=>by
  simp only [bB.l0]
  have hl:=ok.1
  by_cases hi:i<z.nodes.length
  ·have d:decide ((i:Int)<(z.nodes.length:Int))=true:=by rw [decide_eq_true_eq]; omega
   have eg:=abD hi
   generalize z.nodes[i]=x at eg
   have ew:i64.wrap ((i:Int)+1)=((i+1:Nat):Int):=by rw [lj (by omega) (by omega)]; omega
   have h8:=(ok.2 x (abJ eg)).1
   have e1:=JS (m:=m) z eg h8 m 0 (aco _) (by omega)
   have e1:bB.l1 m z z (i:Int) m 0=_:=e1
   rw [if_pos d,xU eg,abw,abw,DC,abw,if_neg (by decide),e1,abw]
   simp only [ew]
   exact JT hm z ok k (i+1) (by omega) (by omega)
  ·have d:decide ((i:Int)<(z.nodes.length:Int))=false:=by rw [decide_eq_false_iff_not]; omega
   have e:i=z.nodes.length:=by omega
   rw [if_neg (by rw [d]; decide),e]
theorem wB (hm:16000≤m)(z:aZ)(ok:lS z.nodes):bB.f m z z=some true:=by
 have hl:=ok.1
 have e:=JT (m:=m) hm z ok m 0 (aco _) (by omega)
 have e:bB.l0 m z z m 0=_:=e
 unfold bB.f
 rw [BEq.rfl,BEq.rfl,if_neg (by decide),if_neg (by decide),e]
 rfl
theorem DD (hm:2 ^ 63≤m)(v:Inv2 s)(M:lT s t)(n:Int):gX.f m s t n=some true:=by
 have wZ:(2:Nat) ^ 41=2199023255552:=by decide
 have Tg:(2:Nat) ^ 63=9223372036854775808:=by decide
 have xh:2 ^ 41≤m:=by omega
 unfold gX.f
 obtain⟨l,e,f1,f2,hl⟩:=GC xh v M n
 have eI:=yb (m:=m) l (by omega) hm
 rw [R6 (by omega) v.inv,abw,OY M,abw,LN (by omega) v.inv,abw,JR (by omega) v.inv M,abw]
 by_cases h:Rg s.ae.length n
 ·obtain⟨z,t1,t2,hz⟩:=Gz xh v M h
  have eE:=wB (m:=m) (by omega) z (jW hz).1
  have eN:fP.f m (k9 s (rp s.aB n)) (k9 s (rp s.aB n))=some true:=wq hm _ (by
   have:=(v.inv.args _ (jK (v.inv.cn.rg n h))).1
   show (List.map _ _).length<_
   rw [abL]; omega)
  simp only [if_pos h,t1,t2,f1,f2,abw,BEq.rfl,if_true,eN,eE,eI]
 ·have eN:fP.f m (⟨0,0,⟨#[]⟩,[]⟩:ah) ⟨0,0,⟨#[]⟩,[]⟩=some true:=wq hm _ (by simp)
  have eE:=wB (m:=m) (by omega) (⟨[],0⟩:aZ) ⟨by simp,fun n hn=>by simp at hn⟩
  simp only [if_neg h,JC xh v h,GA M h,f1,f2,abw,BEq.rfl,if_true,eN,eE,eI]
theorem Fq (hm:2 ^ 63≤m)(v:Inv2 s)(M:lT s t):∀(k i:Nat),i≤s.ae.length+2→s.ae.length+2 - i<k→∃z,cV.l0 m s t k ((i:Int) - 1)=some (.inr z)
 | 0,i,h1,h2=>by omega
 | k+1,i,h1,h2=>by
  have h8:=v.inv.max
  simp only [cV.l0]
  rw [Fo M,abw]
  by_cases hi:i<s.ae.length+2
  ·have d:decide ((i:Int) - 1≤(s.ae.length:Int))=true:=by rw [decide_eq_true_eq]; omega
   have ew:i64.wrap ((i:Int) - 1+1)=((i+1:Nat):Int) - 1:=by rw [lj (by omega) (by omega)]; omega
   rw [if_pos d,DD hm v M,abw,if_neg (by decide),ew]
   exact Fq hm v M k (i+1) (by omega) (by omega)
  ·have d:decide ((i:Int) - 1≤(s.ae.length:Int))=false:=by rw [decide_eq_false_iff_not]; omega
   rw [if_neg (by rw [d]; decide)]
   exact⟨_,rfl⟩
theorem GD (hm:2 ^ 63≤m)(v:Inv2 s)(M:lT s t):cV.f m s t=some true:=by
 have Tg:(2:Nat) ^ 63=9223372036854775808:=by decide
 have h8:=v.inv.max
 unfold cV.f
 obtain⟨z,e⟩:=Fq (m:=m) hm v M m 0 (by omega) (by omega)
 have e:cV.l0 m s t m (-1)=_:=e
 rw [ON v.inv,abw,Fo M,abw,BEq.rfl,if_neg (by decide),e]
 rfl
def GF (i:Nat)(n:ah):ah:=⟨n.kind,if n.kind=0 then (i:Int) else n.int,n.label,n.args⟩
def ji:Nat→List ah→List ah
 | _,[]=>[]
 | i,n::l=>GF i n::ji (i+1) l
theorem BZ:∀(l k:List ah) (i:Nat),ji i (l++k)=ji i l++ji (i+l.length) k
 | [],k,i=>by simp [ji]
 | n::l,k,i=>by
  simp only [acg,ji,BZ l k (i+1),abR]
  rw [show i+1+l.length=i+(l.length+1) by omega]
theorem rv:∀(l:List ah) (i:Nat),(ji i l).length=l.length
 | [],i=>rfl
 | n::l,i=>by simp only [ji,abR,rv l (i+1)]
theorem B0:∀(l:List ah) (i j:Nat),(ji i l)[j]? = l[j]?.map (GF (i+j))
 | [],i,j=>by simp [ji]
 | n::l,i,0=>by simp [ji]
 | n::l,i,j+1=>by
  simp only [ji,acP,B0 l (i+1) j]
  rw [show i+1+j=i+(j+1) by omega]
def LU (l:List ah):aj:=⟨true,ji 0 l,ga 0 l.length⟩
def GG (l:List ah):ay:=⟨ji 0 l,ga 0 l.length,true⟩
theorem MQ {l:List ah}{i:Nat}{x:ah}(h:l[i]? = some x):ji 0 (l.take (i+1))=ji 0 (l.take i)++[GF i x]:=by
 obtain⟨hi,he⟩:=abG.1 h
 have et:l.take (i+1)=l.take i++[l[i]]:=ab2 hi
 rw [et,BZ,he]
 simp only [ji,acm]
 rw [show 0+min i l.length=i by omega]
theorem B1 (hm:16000≤m){l:List ah}(hl:l.length≤8000)(ha:∀n∈l,n.args.length≤8):∀(k i:Nat),i≤l.length→l.length - i<k→bE.l0 m l k (i:Int) ⟨true,ji 0 (l.take i),ga 0 i⟩=some ((l.length:Int),LU l)∧bE.l1 m l k (i:Int) ⟨true,ji 0 (l.take i),ga 0 i⟩=some ((l.length:Int),LU l)
 | 0,i,h1,h2=>by omega
 | k+1,i,h1,h2=>by
  simp only [bE.l0,bE.l1]
  by_cases hi:i<l.length
  ·have d:decide ((i:Int)<(l.length:Int))=true:=by rw [decide_eq_true_eq]; omega
   have eg:=abD hi
   generalize l[i]=x at eg
   have h8:=ha x (abJ eg)
   have ew:i64.wrap ((i:Int)+1)=((i+1:Nat):Int):=by rw [lj (by omega) (by omega)]; omega
   have hc:J7 1 x.args=some x.args:=by unfold J7; rw [if_pos (by omega)]
   obtain⟨q1,q2⟩:=B1 hm hl ha k (i+1) (by omega) (by omega)
   rw [MQ eg,sD,abY] at q1 q2
   rw [if_pos d,if_pos d,xU eg,abw,abw]
   simp only [jn,hc,abw,ew]
   have hA:∀y,app 56 (ji 0 (l.take i)) [y]=some (ji 0 (l.take i)++[y]):=fun y=>vU (by rw [rv,acm]; simp only [abR,ab4]; omega)
   have hB:app 8 (ga 0 i) [(i:Int)]=some (ga 0 i++[(i:Int)]):=vU (by rw [lF]; simp only [abR,ab4]; omega)
   unfold GF at q1 q2
   by_cases h0:x.kind=0
   ·have:(x.kind==0)=true:=by rw [h0]; rfl
    simp only [this,if_true,hA,hB,abw]
    rw [if_pos h0] at q1 q2
    exact⟨q1,q2⟩
   ·have:(x.kind==0)=false:=by simpa using h0
    simp only [this,abK,if_false,hA,hB,abw]
    rw [if_neg h0] at q1 q2
    exact⟨q1,q2⟩
  ·have d:decide ((i:Int)<(l.length:Int))=false:=by rw [decide_eq_false_iff_not]; omega
   have e:i=l.length:=by omega
   rw [if_neg (by rw [d]; decide),if_neg (by rw [d]; decide),e,ace]
   exact⟨rfl,rfl⟩
theorem yg (hm:16000≤m){l:List ah}(hl:l.length≤8000):∀(k i:Nat),i≤l.length→l.length - i<k→
  (bQ.l0 m l k (i:Int) ⟨ji 0 (l.take i),ga 0 i,true⟩=some (.inr ((l.length:Int),GG l))∧∀n∈l.drop i,fu n l.length=true)∨(bQ.l0 m l k (i:Int) ⟨ji 0 (l.take i),ga 0 i,true⟩=some (.inl (none,2))∧∃n∈l,fu n l.length=false)
 | 0,i,h1,h2=>by omega
 | k+1,i,h1,h2=>by
  simp only [bQ.l0]
  by_cases hi:i<l.length
  ·have d:decide ((i:Int)<(l.length:Int))=true:=by rw [decide_eq_true_eq]; omega
   have eg:=abD hi
   have ed:l.drop i=l[i]::l.drop (i+1):=abT hi
   generalize l[i]=x at eg ed
   have ew:i64.wrap ((i:Int)+1)=((i+1:Nat):Int):=by rw [lj (by omega) (by omega)]; omega
   rw [if_pos d,xU eg,abw,wu (by omega),abw]
   cases hB:fu x l.length with
   | false=>
    rw [if_pos (by decide)]
    exact .inr ⟨rfl,x,abJ eg,hB⟩
   | true=>
    have h8:=(jv hB).1.args
    rw [if_neg (by decide),vU (by simp only [ab4]; omega),abw,aci]
    have hA:∀y,app 56 (ji 0 (l.take i)) [y]=some (ji 0 (l.take i)++[y]):=fun y=>vU (by rw [rv,acm]; simp only [abR,ab4]; omega)
    have hC:app 8 (ga 0 i) [(i:Int)]=some (ga 0 i++[(i:Int)]):=vU (by rw [lF]; simp only [abR,ab4]; omega)
    have q:=yg hm hl k (i+1) (by omega) (by omega)
    rw [MQ eg,sD,abY] at q
    unfold GF at q
    have q2:(bQ.l0 m l k ((i+1:Nat):Int) ⟨ji 0 (l.take i)++[⟨x.kind,if x.kind=0 then (i:Int) else x.int,x.label,x.args⟩],ga 0 i++[(i:Int)],true⟩=some (.inr ((l.length:Int),GG l))∧∀n∈l.drop i,fu n l.length=true)∨(bQ.l0 m l k ((i+1:Nat):Int) ⟨ji 0 (l.take i)++[⟨x.kind,if x.kind=0 then (i:Int) else x.int,x.label,x.args⟩],ga 0 i++[(i:Int)],true⟩=some (.inl (none,2))∧∃n∈l,fu n l.length=false):=by
     rcases q with⟨a,b⟩| q
     ·refine .inl ⟨a,fun n hn=>?_⟩
      rw [ed] at hn
      rcases ab0.1 hn with rfl | hn
      ·exact hB
      ·exact b n hn
     ·exact .inr q
    simp only [jn,ew]
    by_cases h0:x.kind=0
    ·have:(x.kind==0)=true:=by rw [h0]; rfl
     simp only [this,if_true,hA,hC,abw]
     rw [if_pos h0] at q2
     exact q2
    ·have:(x.kind==0)=false:=by simpa using h0
     simp only [this,abK,if_false,hA,hC,abw]
     rw [if_neg h0] at q2
     exact q2
  ·have d:decide ((i:Int)<(l.length:Int))=false:=by rw [decide_eq_false_iff_not]; omega
   have e:i=l.length:=by omega
   rw [if_neg (by rw [d]; decide),e,ace,List.drop_length]
   exact .inl ⟨rfl,fun n hn=>by cases hn⟩
theorem Fs {l:List ah}(hl:l.length≤8000)(h:∀n∈l,fu n l.length=true):Inv2 (LU l)∧lT (LU l) (GG l):=by
 have hf:=rv l 0
 have w:=(LM.more (ji 0 l) (fun i x hx=>by
  rw [B0] at hx
  rw [aby] at hx
  obtain⟨y,hy,rfl⟩:=hx
  have hB:=h y (abJ hy)
  rw [hf]
  simp only [ab4,abY]
  refine⟨?_,fun hk=>?_⟩
  ·have:=sE (tg:=(l.length:Int)) (z:=(GF i y).int) hB id (fun a ha=>(jv hB).2 a ha) (fun hk=>by show 0≤(if y.kind=0 then (i:Int) else y.int); rw [if_pos hk]; omega) (fun hk=>by show (if y.kind=0 then (i:Int) else y.int)=_; rw [if_neg hk])
   rwa [List.map_id] at this
  ·have hk:y.kind=0:=hk
   show (if y.kind=0 then (i:Int) else y.int)=_
   rw [if_pos hk]) (by rw [hf]; simp only [ab4]; omega)).1
 have w:Inv2 ⟨true,ji 0 l,ga 0 (ji 0 l).length⟩:=w
 rw [hf] at w
 refine⟨w,rfl,rfl,?_⟩
 show ga 0 l.length=(acX (ji 0 l).length).map fun (i:Nat)=>rp (ga 0 l.length) (i:Int)
 rw [hf]
 unfold ga
 apply acA
 intro i hi
 have hi:=ac0.1 hi
 have:=(Dt EW l.length).2.2 (i:Int) (by simp) (by simp; omega)
 have this:rp (ga 0 l.length) (i:Int)=(i:Int):=this
 unfold ga at this
 rw [this]; simp
theorem DE (hm:2 ^ 41≤m)(l:List ah)(hl:l.length≤8000):(bE.f m l=some (none,2)∧bQ.f m l=some (none,2))∨(bE.f m l=some (some (LU l),0)∧bQ.f m l=some (some (GG l),0)∧Inv2 (LU l)∧lT (LU l) (GG l)):=by
 have rl:(2:Nat) ^ 30=1073741824:=by decide
 have wZ:(2:Nat) ^ 41=2199023255552:=by decide
 have hb:∀h:(∀n∈l,fu n l.length=true),bE.l0 m l m 0 ⟨true,[],[]⟩=some ((l.length:Int),LU l)∧bE.l1 m l m 0 ⟨true,[],[]⟩=some ((l.length:Int),LU l):=fun h=>
  B1 (m:=m) (by omega) hl (fun n hn=>(jv (h n hn)).1.args) m 0 (aco _) (by omega)
 unfold bE.f bQ.f
 have d1:decide ((l.length:Int) > 8000)=false:=by rw [decide_eq_false_iff_not]; omega
 simp only [d1,abK,if_false]
 have hr:=yg (m:=m) (by omega) hl m 0 (aco _) (by omega)
 have hr:(bQ.l0 m l m 0 ⟨[],[],true⟩=some (.inr ((l.length:Int),GG l))∧∀n∈l,fu n l.length=true)∨(bQ.l0 m l m 0 ⟨[],[],true⟩=some (.inl (none,2))∧∃n∈l,fu n l.length=false):=hr
 simp only [js.f,jU.f,abw]
 by_cases h0:0<l.length
 ·have hV:fM ⟨l,0⟩=(l.all fun n=>fu n l.length):=by
   unfold fM
   simp only [decide_eq_true (show 1≤l.length from h0),decide_eq_true hl,acH,decide_eq_true (show (0:Int)≤0 by decide),decide_eq_true (show (0:Int)<l.length by omega)]
  have d2:decide ((l.length:Int) > 0)=true:=by rw [decide_eq_true_eq]; omega
  simp only [d2,if_true]
  rw [nf (by omega),abw,hV]
  rcases hr with⟨r1,r2⟩| ⟨r1,n,r2,r3⟩
  ·rw [show (l.all fun n=>fu n l.length)=true from abW.2 r2,if_neg (by decide),(hb r2).1,r1]
   obtain⟨w1,w2⟩:=Fs hl r2
   exact .inr ⟨rfl,rfl,w1,w2⟩
  ·rw [show (l.all fun n=>fu n l.length)=false from by
    rw [List.all_eq_false]; exact⟨n,r2,by simp [r3]⟩,if_pos (by decide),r1]
   exact .inl ⟨rfl,rfl⟩
 ·have:l=[]:=acf (by omega)
  subst this
  have kQ:∀n∈([]:List ah),fu n ([]:List ah).length=true:=fun n hn=>by cases hn
  rcases hr with⟨r1,r2⟩| ⟨r1,n,r2,r3⟩
  ·rw [if_neg (by decide),(hb kQ).2,r1]
   obtain⟨w1,w2⟩:=Fs hl kQ
   exact .inr ⟨rfl,rfl,w1,w2⟩
  ·cases r2
theorem B2 (hm:2 ^ 63≤m)(l:List ah)(h1:l.length<2 ^ 63):eY.f m l=some true:=by
 have wZ:(2:Nat) ^ 41=2199023255552:=by decide
 have Tg:(2:Nat) ^ 63=9223372036854775808:=by decide
 unfold eY.f
 by_cases h60:l.length≤60
 ·have d:decide ((l.length:Int) > 60)=false:=by rw [decide_eq_false_iff_not]; omega
  rw [d,if_neg (by decide)]
  rcases DE (m:=m) (by omega) l (by omega) with⟨e1,e2⟩| ⟨e1,e2,v,M⟩
  ·rw [e1,e2]; rfl
  ·rw [e1,e2]
   simp only [abw,H7,GD hm v M]
   rfl
 ·have d:decide ((l.length:Int) > 60)=true:=by rw [decide_eq_true_eq]; omega
  rw [d,if_pos rfl]; rfl
end
end Go.Proofs.YtifafejidnjckaaGreat
namespace Go.Proofs.YtifafejidnjckaaGreat
open Go Go.R
open Go.IntKind (i64 u64 u8 u32)
def Nf (xs ys:List AV):Prop:=dz xs=true∧eB xs=ys
theorem yh:∀a b:List AV,dz (a++b)=(dz a&&dz b)
 | [],b=>rfl
 | x::a,b=>by rw [acg,dz,dz,yh,Bool.and_assoc]
theorem yi:∀a b:List AV,eB (a++b)=eB a++eB b
 | [],b=>rfl
 | x::a,b=>by rw [acg,eB,eB,yi,acg]
theorem Nf.app {a b c d:List AV}(h:Nf a c)(k:Nf b d):Nf (a++b) (c++d):=⟨by rw [yh,h.1,k.1]; rfl,by rw [yi,h.2,k.2]⟩
theorem Nf.nil:Nf [] []:=⟨rfl,rfl⟩
theorem Nf.cons {x y:AV}{b d:List AV}(h:x.fj=true)(h2:x.ki=y)(k:Nf b d):Nf (x::b) (y::d):=⟨by simp [dz,h,k.1],by simp [eB,h2,k.2]⟩
theorem B3 {α:Type}{E:bG α}{Pr:α→Prop}:∀{els:List (List AV)},(∀el∈els,∃a,Nf el (E.f a)∧Pr a)→∃l:List α,Nf els.flatten (E.l l)∧l.length=els.length∧∀a∈l,Pr a
 | [],_=>⟨[],Nf.nil,rfl,fun a ha=>by cases ha⟩
 | el::els,h=>by
  obtain⟨a,h1,h2⟩:=h el (by simp)
  obtain⟨l,h3,h4,h5⟩:=B3 (E:=E) (Pr:=Pr) (els:=els) fun e he=>h e (by simp [he])
  refine⟨a::l,?_,by simp [h4],fun x hx=>?_⟩
  ·rw [List.flatten_cons,bG.fV]; exact h1.app h3
  ·rcases ab0.1 hx with rfl | hx
   ·exact h2
   ·exact h5 x hx
def JU {α:Type}(E:bG α)(x:AV)(l:List α):Prop:=x.fj=true∧x.ki=E.fz l∧(x = .nils∨∃cs n b,x = .fz cs n b)∧l.length≤maxLen
theorem JU.fr {α:Type}{E:bG α}{x:AV}{l:List α}(h:JU E x l)(hp:AHeap):kW 0 hp x (E.fz l):=lB h.1 (by rcases h.2.2.1 with rfl | ⟨cs,n,b,rfl⟩<;>exact fun _=>rfl) h.2.1
theorem JV {α:Type}{E:bG α}{Pr:α→Prop}{n t e:Nat}{xs:List AV}(ht:Tryz.prog.underlying t=some (.slice e))(h:Fits Tryz.prog (n+1) t xs)
  (he:∀el,Fits Tryz.prog n e el→∃a,Nf el (E.f a)∧Pr a):∃x l,xs=[x]∧JU E x l∧∀a∈l,Pr a:=by
 unfold Fits at h
 rw [ht] at h
 rcases h with rfl | ⟨els,rfl,h1,h⟩
 ·exact⟨_,[],rfl,⟨rfl,rfl,.inl rfl,aco _⟩,fun a ha=>by cases ha⟩
 ·obtain⟨l,⟨h2,h3⟩,h4,h5⟩:=B3 (E:=E) (Pr:=Pr) fun el Ql=>he el (h el Ql).2
  refine⟨_,l,rfl,⟨by simpa [AV.fj] using h2,?_,.inr ⟨_,_,_,rfl⟩,by omega⟩,h5⟩
  show AV.fz (eB els.flatten) els.length false=_
  rw [h3,←h4]; rfl
theorem DF {n:Nat}{xs:List AV}(h:Fits Tryz.prog (n+1) 3 xs):∃z:Int,xs=[.int .i64 z]:=by
 unfold Fits at h
 rw [Tryz.underlying3] at h
 obtain⟨z,rfl,_⟩:=h
 exact⟨z,rfl⟩
theorem LV {n:Nat}{xs:List AV}(h:Fits Tryz.prog (n+1) 9 xs):∃s:ByteArray,xs=[.str s]:=by
 unfold Fits at h
 rw [Tryz.underlying9] at h
 obtain⟨s,hs,_⟩:=h
 exact⟨s,hs⟩
theorem JW {n:Nat}{xs:List AV}(h:Fits Tryz.prog (n+2) 22 xs):∃x l,xs=[x]∧JU aa x l:=by
 obtain⟨x,l,e,h,_⟩:=JV (E:=aa) (Pr:=fun _=>True) Tryz.underlying22 h fun el h=>by
  obtain⟨z,rfl⟩:=DF h
  exact⟨z,⟨rfl,rfl⟩,trivial⟩
 exact⟨x,l,e,h⟩
theorem JX {n:Nat}{xs:List AV}(h:Fits Tryz.prog (n+3) 57 xs):∃v:ah,Nf xs (af.f v):=by
 unfold Fits at h
 rw [Tryz.underlying57] at h
 obtain⟨a,b,rfl,_,h1,h⟩:=h
 obtain⟨c,d,rfl,_,h2,h⟩:=h
 obtain⟨e,f,rfl,_,h3,h⟩:=h
 obtain⟨g,k,rfl,_,h4,h⟩:=h
 have h:k=[]:=h
 subst h
 obtain⟨z1,rfl⟩:=DF h1
 obtain⟨z2,rfl⟩:=DF h2
 obtain⟨s,rfl⟩:=LV h3
 obtain⟨x,l,rfl,hx⟩:=JW h4
 exact⟨⟨z1,z2,s,l⟩,Nf.cons rfl rfl (Nf.cons rfl rfl (Nf.cons rfl rfl (Nf.cons hx.1 hx.2.1 Nf.nil)))⟩
theorem GH {n:Nat}{xs:List AV}(h:Fits Tryz.prog (n+4) 23 xs):∃x l,xs=[x]∧JU af x l:=by
 obtain⟨x,l,e,h,_⟩:=JV (E:=af) (Pr:=fun _=>True) Tryz.underlying23 h fun el h=>by
  obtain⟨v,hv⟩:=JX h
  exact⟨v,hv,trivial⟩
 exact⟨x,l,e,h⟩
theorem GI:maxLen<2 ^ 63:=by decide
theorem GJ {n:Nat}{xs:List AV}(h:Fits Tryz.prog (n+4) 23 xs):∃l:List ah,l.length<2 ^ 63∧∀hp,kW 10 hp (pg Tryz.prog 23 xs) (af.fz l):=by
 obtain⟨x,l,rfl,hx⟩:=GH h
 have e1:pg Tryz.prog 23 [x]=x:=by unfold pg; rw [Tryz.underlying23]; rfl
 rw [e1]
 exact⟨l,Nat.lt_of_le_of_lt hx.2.2.2 GI,fun hp=>(hx.fr hp).mono (by decide)⟩
theorem GK {P:Program}{m:Nat}{t:TypeId}{yP:List AV}(h:qE P m [t] yP):∃xs,yP=[pg P t xs]∧Fits P m t xs:=by
 match yP,h with
 | [_],⟨⟨xs,h1,f1⟩,_⟩=>exact⟨xs,by rw [h1],f1⟩
end Go.Proofs.YtifafejidnjckaaGreat
namespace Go.R
open Go
def MR:AHeap:={get:=fun _=>none,ver:=fun _=>0,next:=2}
section
variable {P:Program}
theorem alone {cf:CallF}(hcf:CallOK P cf){f:FuncId}{us:List AV}{h0:AHeap}{r1:AV}{h1:AHeap}(hx:cf f us h0=some (r1,h1))(hg:∀id,h0.get id=none)(L8:∀id,h0.ver id<h0.next)
  {L0:Nat→Prop} {c:Cx} {vs:List Value} (hb0:c.base≤c.w.heap.size) (hrel:HRel c L0) (uR:VRs ⟨fun _=>(0,0),h0,c.w,c.w.heap.size⟩ L0 us vs) {r:AV} (hr:∀(c1 d:Cx) (v:Value),VR c1 L0 r1 v→VR d L0 r v) :
  Calls P f vs.toArray c.w fun e w'=>∃c' v,e = .returned v∧c'.w=w'∧c'.h=c.h∧VR c' L0 r v∧HRel c' L0∧Ext c none0 c' none0:=by
 obtain⟨hin,hcall⟩:=hcf f us h0 r1 h1 hx
 let c0:Cx:=⟨fun _=>(0,0),h0,c.w,c.w.heap.size⟩
 have hnl:∀id,¬Live c0.h id:=fun id hl=>by have:=hl.2; rw [show c0.h.get id=none from hg id] at this; cases this
 have tT:∀id o,¬c0.h.get id=some o:=fun id o ho=>by rw [show c0.h.get id=none from hg id] at ho; cases ho
 have uQ:HRel c0 L0:=⟨fun id o ho=>absurd ho (tT id o),fun id o ho=>absurd ho (tT id o),fun id _ hl _ _=>absurd hl (hnl id),fun id hl=>absurd hl (hnl id),hrel.bd,fun id hl=>absurd hl (hnl id),L8⟩
 refine (hcall L0 c0 vs rfl (abB _) uQ uR).mono ?_
 rintro e w' ⟨c1,v,rfl,rfl,Pj,hv,hrel1,e1⟩
 let d:Cx:=⟨c.β,c.h,c1.w,c.base⟩
 have hk:∀b,b<c.w.heap.size→c1.w.heap[b]? = c.w.heap[b]?:=fun b hb=>e1.exact b hb
 have ed:Ext c none0 d none0:=⟨abB _,fun id _ hl=>⟨hl,rfl,iR.len (c:=c) (c':=d) (.inl (hk _ (hrel.block hl)))⟩,e1.size,fun b hb _ _=>.inl (hk b hb),fun b hb=>hk b (ab3 hb hb0),rfl,fun id hl=>.inr ⟨id,hl,rfl⟩,fun _ h=>h,fun _ h=>.inl h,e1.os,e1.tape,e1.output⟩
 refine⟨d,v,rfl,rfl,rfl,hr c1 d v hv,⟨hrel.lt,fun id o ho=>?_,hrel.inj,hrel.out,fun b hb=>ab3 (hrel.bd b hb) e1.size,hrel.low,hrel.ver⟩,ed⟩
 have hl:Live c.h id:=⟨hrel.lt _ _ ho,by rw [ho]; rfl⟩
 have:=(hrel.obj id o ho)
 have h2:=qe.ext (L0:=L0) ed (b:=(c.β id).1) (base:=(c.β id).2) (o:=o) (by rw [iU]; exact this) (hk _ (hrel.block hl))
 rw [iU] at h2
 exact h2
def O0 (P:Program)(t:TypeId)(z:Nat):Bool:=
 match P.underlying t with
 | some (.slice e)=>match P.info? e with
  | some i=>acj i.size z&&ac4 i.bytes 1000&&L4 i
  | none=>false
 | _=>false
theorem B4 {t:TypeId}{z:Nat}(T:O0 P t z=true)(hz:z≠0){h:AHeap}{x:AV}{n:Nat}{cs:List AV}(hn:n≠0)(hb:n*1024≤1099511627776)(hx:eG h z x=some (cs,n))(hs:jz P t x=true):dy P h t t (.fz [] 0 true) x=some (.rs h.next 0 n z,h.alloc (.cells cs)):=by
 unfold O0 at T
 split at T
 rotate_left
 ·cases T
 rename_i e he
 split at T
 rotate_left
 ·cases T
 rename_i i hi
 simp only [abA] at T
 obtain⟨⟨h1,h2⟩,h3⟩:=T
 have h1:=acK h1
 have h2:=Nat.le_of_ble_eq_true h2
 subst h1
 have hq:n*i.bytes≤n*1000:=Nat.mul_le_mul_left n h2
 simp only [dy,he,abw,hi,hx]
 rw [if_neg (by simp [hz,hs,h3]),if_neg (by simp only [gJ,abY,ab4]; omega),if_neg hn]
 simp
theorem yj {z:Nat}:∀args h r h',CW z args h=some (r,h')→Steady h h':=by
 intro args h r h' hs
 unfold CW at hs
 split at hs
 ·cases hs; exact Steady.refl _
 ·split at hs
  ·cases hs; exact Steady.refl _
  ·split at hs
   ·cases hs; exact Steady.put _ _ _
   ·cases hs
 ·split at hs
  ·cases hs; exact Steady.refl _
  ·rw [abx] at hs
   obtain⟨ob,_,hs⟩:=hs
   split at hs
   ·split at hs
    ·cases hs; exact Steady.put _ _ _
    ·cases hs
   ·cases hs
 ·cases hs
theorem MS {cf:CallF}(hcf:CallOK P cf){F:FuncId}{t:TypeId}{z:Nat}(T:O0 P t z=true)(hz:z≠0)
  (h0:cf F [.nils] bw=some (.nils,bw)) (h1:cf F [.rs 1 0 0 z] MR=some (.rs 0 0 0 z,MR))
  (h2:∀(c:AV) (cs:List AV) (n:Nat) (ex:Bool) (h:AHeap) (i k w:Nat) (h':AHeap),dy P h t t (.fz [] 0 true) (.fz (c::cs) n ex)=some (.rs i 0 k w,h')→cf F [.fz (c::cs) n ex] h=some (.rs i 0 k w,h'))
  (h3:∀(j n q:Nat) (h:AHeap) (i k w:Nat) (h':AHeap),dy P h t t (.fz [] 0 true) (.rs (j+1) 0 n q)=some (.rs i 0 k w,h')→cf F [.rs (j+1) 0 n q] h=some (.rs i 0 k w,h'))
  (hH:∀x,(∀st,x≠.str st)→jz P t x=true) :
  CallOK P fun f' args h=>if f'=F then CW z args h else none:=by
 intro f args h r h' hc
 dsimp only at hc
 split at hc
 rotate_left
 ·cases hc
 rename_i hf
 subst hf
 refine⟨(hcf f _ _ _ _ h0).1,fun L0 c vs hh hb0 hrel hargs=>?_⟩
 have empty:∀(v:Value),(∃a cap,v = .slice a 0 cap∧(a=none→cap=0))→Calls P f #[v] c.w fun e w'=>∃c' v,e = .returned v∧c'.w=w'∧c'.h=c.h∧VR c' L0 (.rs 0 0 0 z) v∧HRel c' L0∧Ext c none0 c' none0:=by
  rintro v ⟨a,cap,rfl,ha⟩
  cases a with
  | none=>
   have:=ha rfl
   subst this
   refine alone (vs:=[.slice none 0 0]) hcf h0 (fun _=>rfl) (fun _=>ac5) hb0 hrel ⟨rfl,trivial⟩ (fun c1 d v hv=>?_)
   simp only [VR] at hv ⊢
   exact .inl ⟨trivial,trivial,trivial,none,hv⟩
  | some ad=>
   refine alone (vs:=[.slice (some ad) 0 cap]) hcf h1 (fun _=>rfl) (fun _=>Nat.zero_lt_succ 1) hb0 hrel ⟨?_,trivial⟩ (fun c1 d v hv=>?_)
   ·simp only [VR]
    exact .inr ⟨by decide,by decide,some ad,cap,rfl,aco _,rfl,fun hl=>by have:=hl.2; cases this⟩
   ·simp only [VR] at hv ⊢
    rcases hv with hv | hv
    ·exact .inl hv
    ·exact absurd rfl hv.1
 match args,vs,hargs with
 | [],_,_=>simp [CW] at hc
 | x::y::l,_,_=>cases x<;>simp [CW] at hc
 | [x],[v],hargs=>
  have hx:VR c L0 x v:=hargs.1
  cases x<;>simp only [CW] at hc<;>try (cases hc; done)
  ·cases hc
   simp only [VR] at hx
   rw [←hh]
   exact empty v ⟨none,0,hx,fun _=>rfl⟩
  ·rename_i cs n ex
   split at hc
   ·rename_i hn
    cases hc
    subst hn
    simp only [VR] at hx
    obtain⟨a,cap,e,_,_,hs,_⟩:=hx
    rw [←hh]
    refine empty v ⟨a,cap,e,fun ha=>?_⟩
    rcases hs with hs | hs
    ·rw [ha] at hs; cases hs
    ·exact hs.2
   ·rename_i hn
    split at hc
    rotate_left
    ·cases hc
    rename_i hq
    cases hc
    cases cs with
    | nil=>
     have h4:0=n*z:=hq.1
     rcases Nat.mul_eq_zero.1 h4.symm with h5 | h5
     ·exact absurd h5 hn
     ·exact absurd h5 hz
    | cons c1 cs=>
     have MZ:eG h z (.fz (c1::cs) n ex)=some ((c1::cs).map kJ,n):=by
      simp only [eG,fI]; rw [if_pos hq.1]; rfl
     have:=h2 c1 cs n ex h _ _ _ _ (B4 T hz hn hq.2 MZ (hH _ (by rintro st h; cases h)))
     exact (hcf _ _ _ _ _ this).2 L0 c [v] hh hb0 hrel ⟨hx,trivial⟩
  ·rename_i id off n q
   cases off with
   | succ off=>simp [CW] at hc
   | zero=>
   simp only [CW] at hc
   split at hc
   ·rename_i hn
    cases hc
    subst hn
    simp only [VR] at hx
    rw [←hh]
    rcases hx with⟨_,_,_,a,e⟩| ⟨_,_,a,cap,e,_,hs,_⟩
    ·exact empty v ⟨a,0,e,fun _=>rfl⟩
    ·refine empty v ⟨a,cap,e,fun ha=>?_⟩
     rw [ha] at hs; cases hs
   ·rename_i hn
    rw [abx] at hc
    obtain⟨ob,ho,hc⟩:=hc
    split at hc
    rotate_left
    ·cases hc
    rename_i cs
    split at hc
    rotate_left
    ·cases hc
    rename_i hq
    cases hc
    have hid:id≠0:=by
     simp only [VR] at hx
     rcases hx with hx | hx
     ·exact absurd hx.2.2.1 hn
     ·exact hx.1
    obtain⟨j,rfl⟩:∃j,id=j+1:=⟨id - 1,by omega⟩
    have MZ:eG h z (.rs (j+1) 0 n q)=some ((cs.take (n*z)).map kJ,n):=by
     simp only [eG,fI]
     rw [if_neg (fun hz=>hz.elim hid fun hz=>hn hz.1),ho]
     simp only [abw]
     rw [if_pos ⟨hq.1,by omega⟩,acn]; rfl
    have:=h3 j n q h _ _ _ _ (B4 T hz hn hq.2.2 MZ (hH _ (by rintro st h; cases h)))
    exact (hcf _ _ _ _ _ this).2 L0 c [v] hh hb0 hrel ⟨hx,trivial⟩
 | [x],[],hargs=>exact hargs.elim
 | [x],_::_::_,hargs=>exact hargs.2.elim
end
end Go.R
namespace Go.Proofs.YtifafejidnjckaaGreat
open Go Go.R Go.Shelf
open Go.IntKind (i64 u64 u8 u32)
theorem fits:Fit Tryz.prog:=Nq (by kernel_rfl) (by kernel_rfl)
def O3:Ren:={f:=(fun x=>match x with | 189=>66 | 125=>100 | 257=>99 | 128=>125 | 129=>126 | 294=>116 | 295=>117 | 296=>118 | 297=>119 | 298=>120 | 299=>121 | 216=>122 | 300=>123 | 301=>124 | 328=>135 | 329=>136 | 330=>137 | 331=>138 | 332=>139 | 215=>140 | 343=>147 | n=>n),t:=(fun x=>match x with | 28=>22 | 3=>3 | 46=>106 | 0=>0 | 51=>131 | 53=>133 | 4=>4 | 183=>124 | 182=>123 | 131=>102 | 5=>5 | 9=>9 | 218=>139 | 222=>143 | 228=>150 | 229=>151 | n=>n),g:=(fun n=>n)}
theorem Sv:Lays.n189 Tryz.prog O3:={
 mixed:=by kernel_rfl,
 f125:=Tryz.func100.trans (congrArg some (by kernel_rfl)),
 f128:=Tryz.func125.trans (congrArg some (by kernel_rfl)),
 f129:=Tryz.func126.trans (congrArg some (by kernel_rfl)),
 f189:=Tryz.func66.trans (congrArg some (by kernel_rfl)),
 f215:=Tryz.func140.trans (congrArg some (by kernel_rfl)),
 f216:=Tryz.func122.trans (congrArg some (by kernel_rfl)),
 f257:=Tryz.func99.trans (congrArg some (by kernel_rfl)),
 f294:=Tryz.func116.trans (congrArg some (by kernel_rfl)),
 f295:=Tryz.func117.trans (congrArg some (by kernel_rfl)),
 f296:=Tryz.func118.trans (congrArg some (by kernel_rfl)),
 f297:=Tryz.func119.trans (congrArg some (by kernel_rfl)),
 f298:=Tryz.func120.trans (congrArg some (by kernel_rfl)),
 f299:=Tryz.func121.trans (congrArg some (by kernel_rfl)),
 f300:=Tryz.func123.trans (congrArg some (by kernel_rfl)),
 f301:=Tryz.func124.trans (congrArg some (by kernel_rfl)),
 f328:=Tryz.func135.trans (congrArg some (by kernel_rfl)),
 f329:=Tryz.func136.trans (congrArg some (by kernel_rfl)),
 f330:=Tryz.func137.trans (congrArg some (by kernel_rfl)),
 f331:=Tryz.func138.trans (congrArg some (by kernel_rfl)),
 f332:=Tryz.func139.trans (congrArg some (by kernel_rfl)),
 f343:=Tryz.func147.trans (congrArg some (by kernel_rfl)),
 t0:=Tryz.underlying0,
 a0:=Tryz.isAgg0,
 z0:=Tryz.sizeOf0,
 v0:=Tryz.zeroValue0,
 t3:=Tryz.underlying3,
 a3:=Tryz.isAgg3,
 z3:=Tryz.sizeOf3,
 v3:=Tryz.zeroValue3,
 t4:=Tryz.underlying4,
 a4:=Tryz.isAgg4,
 z4:=Tryz.sizeOf4,
 v4:=Tryz.zeroValue4,
 t5:=Tryz.underlying5,
 a5:=Tryz.isAgg5,
 z5:=Tryz.sizeOf5,
 v5:=Tryz.zeroValue5,
 t9:=Tryz.underlying9,
 a9:=Tryz.isAgg9,
 z9:=Tryz.sizeOf9,
 v9:=Tryz.zeroValue9,
 t28:=Tryz.underlying22,
 a28:=Tryz.isAgg22,
 z28:=Tryz.sizeOf22,
 v28:=Tryz.zeroValue22,
 t46:=Tryz.underlying106,
 a46:=Tryz.isAgg106,
 z46:=Tryz.sizeOf106,
 v46:=Tryz.zeroValue106,
 t51:=Tryz.underlying131,
 a51:=Tryz.isAgg131,
 z51:=Tryz.sizeOf131,
 v51:=Tryz.zeroValue131,
 t53:=Tryz.underlying133,
 a53:=Tryz.isAgg133,
 z53:=Tryz.sizeOf133,
 v53:=Tryz.zeroValue133,
 t131:=Tryz.underlying102,
 a131:=Tryz.isAgg102,
 z131:=Tryz.sizeOf102,
 v131:=Tryz.zeroValue102,
 t182:=Tryz.underlying123,
 a182:=Tryz.isAgg123,
 z182:=Tryz.sizeOf123,
 v182:=Tryz.zeroValue123,
 t183:=Tryz.underlying124,
 a183:=Tryz.isAgg124,
 z183:=Tryz.sizeOf124,
 v183:=Tryz.zeroValue124,
 t218:=Tryz.underlying139,
 a218:=Tryz.isAgg139,
 z218:=Tryz.sizeOf139,
 v218:=Tryz.zeroValue139,
 t222:=Tryz.underlying143,
 a222:=Tryz.isAgg143,
 z222:=Tryz.sizeOf143,
 v222:=Tryz.zeroValue143,
 t228:=Tryz.underlying150,
 a228:=Tryz.isAgg150,
 z228:=Tryz.sizeOf150,
 v228:=Tryz.zeroValue150,
 t229:=Tryz.underlying151,
 a229:=Tryz.isAgg151,
 z229:=Tryz.sizeOf151,
 v229:=Tryz.zeroValue151}
theorem O4:∀(vs:Array Value) (w:World),(callFunc (O3.f 189) vs).run Tryz.prog w = .ok (.enter (O3.f 189) vs) w:=
 nW (c:=br Tryz.f66) Tryz.func66 (by kernel_rfl) (by decide +kernel)
def sG:cu:=gj [0,2,4] [] [] [] []
def pv:oZ:={a7:=fun _=>sG,intr:=fun _=>none,pure:=fun _=>none}
noncomputable def Sw:CallF:=bj Tryz.prog pv.a7 (fN Tryz.prog pv 10 0) 10
theorem JY:CallOK Tryz.prog Sw:=Aw fits (qD fits oE 10 0) (AA fits.mixed (qD fits oE 10 0) (mL oE 10 0)) 10
theorem LW (c:AV)(cs:List AV)(n:Nat)(ex:Bool)(h:AHeap)(i k w:Nat)(h':AHeap)(e:dy Tryz.prog h 22 22 (.fz [] 0 true) (.fz (c::cs) n ex)=some (.rs i 0 k w,h')):Sw 37 [.fz (c::cs) n ex] h=some (.rs i 0 k w,h'):=by
 have key:∃r h2,bj Tryz.prog pv.a7 (fN Tryz.prog pv 10 0) 10 37 [.fz (c::cs) n ex] h=some (r,h2)∧r = .rs i 0 k w∧h2=h':=by
  refine au (fn:=Tryz.f37) (A:=sG) rfl Tryz.func37 (by kernel_rfl) (by kernel_rfl) ?_
  refine aK (Q:=fun s=>aP Tryz.prog (s.open sG) Tryz.f37.results.toList=some (.rs i 0 k w)∧s.h=h') (fun _ _ ⟨h1,h2,h3⟩=>⟨h1,_,h2,rfl,h3⟩) ?_
  show dR _ _ sG _ _ ⟨[.fz (c::cs) n ex,.any,.any],[],h⟩ _
  refine q1 <| qq <| q1 <| Eb <| qk <| qs [.a 2 e] <| qt <| ⟨.inl rfl,by kernel_rfl,by kernel_rfl⟩
 obtain⟨r,h2,hb,rfl,rfl⟩:=key
 exact hb
theorem LX (j n q:Nat)(h:AHeap)(i k w:Nat)(h':AHeap)(e:dy Tryz.prog h 22 22 (.fz [] 0 true) (.rs (j+1) 0 n q)=some (.rs i 0 k w,h')):Sw 37 [.rs (j+1) 0 n q] h=some (.rs i 0 k w,h'):=by
 have key:∃r h2,bj Tryz.prog pv.a7 (fN Tryz.prog pv 10 0) 10 37 [.rs (j+1) 0 n q] h=some (r,h2)∧r = .rs i 0 k w∧h2=h':=by
  refine au (fn:=Tryz.f37) (A:=sG) rfl Tryz.func37 (by kernel_rfl) (by kernel_rfl) ?_
  refine aK (Q:=fun s=>aP Tryz.prog (s.open sG) Tryz.f37.results.toList=some (.rs i 0 k w)∧s.h=h') (fun _ _ ⟨h1,h2,h3⟩=>⟨h1,_,h2,rfl,h3⟩) ?_
  show dR _ _ sG _ _ ⟨[.rs (j+1) 0 n q,.any,.any],[],h⟩ _
  refine q1 <| qq <| q1 <| Eb <| qk <| qs [.a 2 e] <| qt <| ⟨.inl rfl,by kernel_rfl,by kernel_rfl⟩
 obtain⟨r,h2,hb,rfl,rfl⟩:=key
 exact hb
theorem Sx:∀x,(∀st,x≠.str st)→jz Tryz.prog 22 x=true:=by
 intro x hx
 cases x<;>first | exact absurd rfl (hx _) | kernel_rfl
theorem LY:CallOK Tryz.prog fun f args h=>if f=37 then CW 1 args h else none:=
 MS JY (F:=37) (t:=22) (z:=1) (by kernel_rfl) (by decide) (by kernel_rfl) (by kernel_rfl) LW LX Sx
theorem LZ (c:AV)(cs:List AV)(n:Nat)(ex:Bool)(h:AHeap)(i k w:Nat)(h':AHeap)(e:dy Tryz.prog h 23 23 (.fz [] 0 true) (.fz (c::cs) n ex)=some (.rs i 0 k w,h')):Sw 51 [.fz (c::cs) n ex] h=some (.rs i 0 k w,h'):=by
 have key:∃r h2,bj Tryz.prog pv.a7 (fN Tryz.prog pv 10 0) 10 51 [.fz (c::cs) n ex] h=some (r,h2)∧r = .rs i 0 k w∧h2=h':=by
  refine au (fn:=Tryz.f51) (A:=sG) rfl Tryz.func51 (by kernel_rfl) (by kernel_rfl) ?_
  refine aK (Q:=fun s=>aP Tryz.prog (s.open sG) Tryz.f51.results.toList=some (.rs i 0 k w)∧s.h=h') (fun _ _ ⟨h1,h2,h3⟩=>⟨h1,_,h2,rfl,h3⟩) ?_
  show dR _ _ sG _ _ ⟨[.fz (c::cs) n ex,.any,.any],[],h⟩ _
  refine q1 <| qq <| q1 <| Eb <| qk <| qs [.a 2 e] <| qt <| ⟨.inl rfl,by kernel_rfl,by kernel_rfl⟩
 obtain⟨r,h2,hb,rfl,rfl⟩:=key
 exact hb
theorem L2 (j n q:Nat)(h:AHeap)(i k w:Nat)(h':AHeap)(e:dy Tryz.prog h 23 23 (.fz [] 0 true) (.rs (j+1) 0 n q)=some (.rs i 0 k w,h')):Sw 51 [.rs (j+1) 0 n q] h=some (.rs i 0 k w,h'):=by
 have key:∃r h2,bj Tryz.prog pv.a7 (fN Tryz.prog pv 10 0) 10 51 [.rs (j+1) 0 n q] h=some (r,h2)∧r = .rs i 0 k w∧h2=h':=by
  refine au (fn:=Tryz.f51) (A:=sG) rfl Tryz.func51 (by kernel_rfl) (by kernel_rfl) ?_
  refine aK (Q:=fun s=>aP Tryz.prog (s.open sG) Tryz.f51.results.toList=some (.rs i 0 k w)∧s.h=h') (fun _ _ ⟨h1,h2,h3⟩=>⟨h1,_,h2,rfl,h3⟩) ?_
  show dR _ _ sG _ _ ⟨[.rs (j+1) 0 n q,.any,.any],[],h⟩ _
  refine q1 <| qq <| q1 <| Eb <| qk <| qs [.a 2 e] <| qt <| ⟨.inl rfl,by kernel_rfl,by kernel_rfl⟩
 obtain⟨r,h2,hb,rfl,rfl⟩:=key
 exact hb
theorem Sy:∀x,(∀st,x≠.str st)→jz Tryz.prog 23 x=true:=by
 intro x hx
 cases x<;>first | exact absurd rfl (hx _) | kernel_rfl
theorem L3:CallOK Tryz.prog fun f args h=>if f=51 then CW 4 args h else none:=
 MS JY (F:=51) (t:=23) (z:=4) (by kernel_rfl) (by decide) (by kernel_rfl) (by kernel_rfl) LZ L2 Sy
noncomputable def MT:FuncId→Option (List AV→AHeap→Option (AV × AHeap)):=fun f=>if f=66 then some NK else if f=37 then some (CW 1) else if f=51 then some (CW 4) else none
theorem JZ:IntrOK Tryz.prog MT:=intr_cons (f0:=66) (QE Sv O4) F4 (intr_cons (f0:=37) LY yj (intr_cons (f0:=51) L3 yj oE))
end Go.Proofs.YtifafejidnjckaaGreat
namespace Go.Proofs.YtifafejidnjckaaGreat
open Go Go.R
open Go.IntKind (i64 u64 u8 u32)
def cZ:Nat→cu
 | 4=>Lu
 | 9=>{keep:=[0,1,2,3,4,5,6,7,8,9,10,11,12,13,14,16,17,19,22,25],aN:=[]}
 | 10=>xT
 | 11=>Bk
 | 13=>Et
 | 14=>Eu
 | 15=>Bm
 | 16=>Ei
 | 17=>Ej
 | 20=>EU
 | 23=>Bl
 | 24=>vR
 | 25=>ET
 | 26=>Ev
 | 27=>EK
 | 29=>gj [0,1,2,6,7,8,9,10,17,27] [] [1016,984,728,999,830,446,1023,999,999] [(6,[(9,none,0)])] [(0,[(6,none,1)]),(3,[(6,none,1)]),(7,[(6,none,1)])]
 | 30=>gj [0,2,3] [] [6,1] [] []
 | 31=>gj [0,1,3,4,5] [] [26,7] [] []
 | 32=>EL
 | 33=>gj [0,1,2,6,7,8,9,10,11,12,19,34,37] [] [8184,8120,7096,8135,7806,7806,7423,5631,8135,3583,8135,8135] [(5,[(10,none,0)])] [(0,[(7,none,1)]),(3,[(7,none,1)]),(8,[(7,none,1)]),(10,[(7,none,1)])]
 | 34=>gj [0,1,3,4,5] [] [26,7] [] []
 | 35=>A0
 | 36=>EP
 | 38=>Bi
 | 49=>Ek
 | 50=>El
 | 52=>Ew
 | 53=>EM
 | 54=>Ey
 | 55=>vP
 | 56=>xO
 | 57=>xP
 | 59=>EC
 | 60=>xQ
 | 61=>A9
 | 62=>ES
 | 63=>Bb
 | 64=>Ez
 | 65=>Em
 | 66=>{keep:=[0,2],aN:=[]}
 | 68=>gj [0,1,2,6,7,8,9,10,11,12,13,14,22,46,70,73,77,78,79] [11,12,13,18] [524280,524248,524190,524062,519966,524062,523806,515614,522270,505886,489502,524263,325662,63518,323614,325662,325662,524062,524263] [] [(1,[(8,none,1)])]
 | 69=>gj [0,1,5,6,7,8,9] [] [70,6,66,70,70] [] []
 | 70=>gj [0,1,2,4,5] [] [25,9,11,15,15,23] [] []
 | 71=>gj [0,1,2,5,6,7,8,9,13,17,31] [5] [2036,1908,1999,1782,1999,1526,1999,1974,950,1974,1983,1999] [] []
 | 72=>gj [0] [] [1] [] []
 | 73=>gj [0,1] [] [2,1] [] []
 | 74=>ED
 | 75=>A5
 | 76=>gj [0,1] [] [2,1] [] []
 | 77=>EA
 | 78=>EN
 | 79=>EE
 | 80=>EG
 | 83=>EB
 | 85=>En
 | 87=>Eo
 | 88=>ER
 | 89=>Ep
 | 92=>A6
 | 93=>xN
 | 94=>Er
 | 95=>Es
 | 96=>q9
 | 97=>A7
 | 98=>A8
 | 103=>zr
 | 105=>gj [0,1,2,3,4] [2,3] [19,15] [] []
 | 106=>gj [0,1,2,6,13,16,21] [] [120,104,88,120,56,120,125,119] [] []
 | 107=>gj [0,1,3] [] [4,3] [] []
 | 108=>vA
 | 109=>vp
 | 110=>zd
 | 111=>vC
 | 112=>kn
 | 114=>zz
 | 115=>zt
 | 127=>zo
 | 128=>vq
 | 129=>zp
 | 130=>zf
 | 131=>zg
 | 132=>sc
 | 133=>kZ
 | 134=>pR
 | 140=>zi
 | 141=>zj
 | 142=>vt
 | 143=>vD
 | 144=>vu
 | 145=>se
 | 146=>mY
 | 148=>vE
 | 149=>vw
 | _=>{keep:=[],aN:=[]}
def aU:Nat:=18014398509481984
theorem aW:iu+b5≤aU:=by decide
def Sz:Nat→Option Nat
 | 4=>some aU
 | 9=>some aU
 | 13=>some aU
 | 14=>some aU
 | 15=>some aU
 | 20=>some aU
 | 23=>some aU
 | 24=>some aU
 | 25=>some aU
 | 26=>some aU
 | 27=>some aU
 | 32=>some aU
 | 35=>some aU
 | 36=>some aU
 | 38=>some aU
 | 49=>some aU
 | 50=>some aU
 | 52=>some aU
 | 53=>some aU
 | 54=>some aU
 | 55=>some aU
 | 56=>some aU
 | 57=>some aU
 | 59=>some aU
 | 60=>some aU
 | 61=>some aU
 | 62=>some aU
 | 64=>some aU
 | 65=>some aU
 | 70=>some aU
 | 72=>some aU
 | 73=>some aU
 | 74=>some aU
 | 75=>some aU
 | 76=>some aU
 | 77=>some aU
 | 78=>some aU
 | 79=>some aU
 | 80=>some aU
 | 83=>some aU
 | 85=>some aU
 | 87=>some aU
 | 88=>some aU
 | 89=>some aU
 | 92=>some aU
 | 93=>some aU
 | 94=>some aU
 | 95=>some aU
 | 96=>some aU
 | 98=>some aU
 | 103=>some aU
 | 105=>some aU
 | 107=>some aU
 | 108=>some aU
 | 109=>some aU
 | 110=>some aU
 | 111=>some aU
 | 112=>some aU
 | 115=>some aU
 | 127=>some aU
 | 128=>some aU
 | 129=>some aU
 | 130=>some aU
 | 131=>some aU
 | 132=>some aU
 | 133=>some aU
 | 140=>some aU
 | 141=>some aU
 | 142=>some aU
 | 143=>some aU
 | 144=>some aU
 | _=>none
def O5:Nat→Bool
 | 24=>true
 | 25=>true
 | 53=>true
 | 60=>true
 | 61=>true
 | 62=>true
 | 70=>true
 | _=>false
def M:Nat:=18446744073709551616
noncomputable def bK:oZ:={a7:=cZ,intr:=MT,pure:=Sz,fy:=O5}
noncomputable def da:CallF:=jN Tryz.prog bK M
theorem O6:CallOK Tryz.prog da:=H3 fits (T:=bK) JZ
theorem j66:WX da M:=fun args h=>u7 (T:=bK) rfl
theorem X7:QI da M:=fun args h=>u7 (T:=bK) rfl
end Go.Proofs.YtifafejidnjckaaGreat
namespace Go.Proofs.YtifafejidnjckaaGreat
open Go Go.R
open Go.IntKind (i64 u64 u8 u32)
theorem GL:(bj Tryz.prog cZ (fN Tryz.prog bK M 98) M 9 [] bw).map (fun x=>x.1)=some (.bool true):=by kernel_rfl
theorem j9:S9 da M:=by
 intro r H h xs hx
 have H:some true=some r:=H
 cases H
 obtain⟨⟨x,h'⟩,hb,e⟩:=aby.1 GL
 dsimp only at e
 subst e
 obtain⟨l,h1,h2⟩:=kG (P:=Tryz.prog) cZ M 9 [] bw _ _ hb
 have hb:=h2 da fun e he=>mb.2 ⟨_,h1 e he⟩
 exact bg (T:=bK) (deep:=aU) rfl rfl rfl aW hx ⟨_,_,hb,bW (ao)⟩
end Go.Proofs.YtifafejidnjckaaGreat
namespace Go.Proofs.YtifafejidnjckaaGreat
open Go Go.R
open Go.IntKind (i64 u64 u8 u32)
theorem j16:WY da M:=by
 intro  r H h L   o  xs hx
 obtain⟨r',h',hb,ez,de,dh,rfl,ho⟩:=vi (cf:=da) (m:=M) (a7:=cZ) rfl   h L  o H
 exact⟨ez,de,dh,h',np (T:=bK) rfl rfl hx hb,ho⟩
theorem j17:WZ da M:=by
 intro  r H h L   o  xs hx
 obtain⟨r',h',hb,ez,de,dh,rfl,ho⟩:=vj (cf:=da) (m:=M) (a7:=cZ) rfl   h L  o H
 exact⟨ez,de,dh,h',np (T:=bK) rfl rfl hx hb,ho⟩
theorem X8:Uo da M:=by
 intro a0 b0 r H  h xs hx
 exact bg (T:=bK) (deep:=aU) rfl rfl rfl aW hx (tz (cf:=da) (m:=M) (a7:=cZ) rfl  a0 b0 bw []   aO H)
theorem X9:Up da M:=by
 intro s0 r H  h xs hx
 exact bg (T:=bK) (deep:=aU) rfl rfl rfl aW hx (nw (cf:=da) (m:=M) (a7:=cZ) rfl  s0 bw []   aO H)
theorem SB:Pl da M:=by
 intro s0 r H  h xs hx
 exact bg (T:=bK) (deep:=aU) rfl rfl rfl aW hx (ny (cf:=da) (m:=M) (a7:=cZ) rfl  s0 bw []   aO H)
theorem j65:W2 da M:=by
 intro s0 n0 r H  h xs hx
 exact bg (T:=bK) (deep:=aU) rfl rfl rfl aW hx (nz (cf:=da) (m:=M) (a7:=cZ) rfl  s0 n0 bw []   aO H)
theorem Th:Mt da M:=by
 intro s0 n0 r H  h xs hx
 exact bg (T:=bK) (deep:=aU) rfl rfl rfl aW hx (oc (cf:=da) (m:=M) (a7:=cZ) rfl  s0 n0 bw []   aO H)
theorem j85:W3 da M:=by
 intro s0 n0 r H  h xs hx
 exact bg (T:=bK) (deep:=aU) rfl rfl rfl aW hx (mQ (cf:=da) (m:=M) (a7:=cZ) rfl  s0 n0 bw []   aO H)
theorem j87:W4 da M:=by
 intro s0 r H  h xs hx
 exact bg (T:=bK) (deep:=aU) rfl rfl rfl aW hx (tA (cf:=da) (m:=M) (a7:=cZ) rfl  s0 bw []   aO H)
theorem Tk:QJ da M:=by
 intro s0 n0 r H  h xs hx
 exact bg (T:=bK) (deep:=aU) rfl rfl rfl aW hx (oe (cf:=da) (m:=M) (a7:=cZ) rfl  s0 n0 bw []   aO H)
theorem Wd:Pm da M:=by
 intro s0 n0 r H  h xs hx
 exact oH (T:=bK) (deep:=aU) rfl rfl rfl aW hx (mR (cf:=da) (m:=M) (a7:=cZ) rfl  s0 n0 bw []   aO H)
theorem Ya:Uq da M:=by
 intro s0 n0 r H  h xs hx
 exact bg (T:=bK) (deep:=aU) rfl rfl rfl aW hx (mS (cf:=da) (m:=M) (a7:=cZ) rfl Wd s0 n0 bw []   aO H)
theorem We:Mu da M:=by
 intro a0 b0 r H  h xs hx
 exact bg (T:=bK) (deep:=aU) rfl rfl rfl aW hx (r7 (cf:=da) (m:=M) (a7:=cZ) rfl  a0 b0 bw []   aO H)
theorem j95:W5 da M:=by
 intro n0 x0 r H  h xs hx
 exact bg (T:=bK) (deep:=aU) rfl rfl rfl aW hx (lO (cf:=da) (m:=M) (a7:=cZ) rfl j85 n0 x0 bw []   aO H)
theorem Yb:∀kk,SQ da M kk
 | 0=>by
  intro i0 x0 x1 x2 x3 r H h L  dW eJ dX dE fw fJ ep dP o  xs hx
  cases H
 | kk+1=>by
  intro i0 x0 x1 x2 x3 r H h L  dW eJ dX dE fw fJ ep dP o  xs hx
  obtain⟨r',h',hb,nq,jc,rfl,ho⟩:=qV (cf:=da) (m:=M) (a7:=cZ) rfl  i0 x0 x1 x2 x3 h L dW eJ dX dE fw fJ ep dP  (Yb kk) o H
  exact⟨nq,jc,h',np (T:=bK) rfl rfl hx hb,ho⟩
theorem Yc:Uu da M:=by
 intro s0 f0 r H gO bn jx jg h xs hx
 exact bg (T:=bK) (deep:=aU) rfl rfl rfl aW hx (zb (cf:=da) (m:=M) (a7:=cZ) rfl  s0 f0 bw [] gO bn  jx jg aO H)
theorem Wf:QK da M:=by
 intro s0 f0 r H gO bn jx jg h xs hx
 exact bg (T:=bK) (deep:=aU) rfl rfl rfl aW hx (zc (cf:=da) (m:=M) (a7:=cZ) rfl  s0 f0 bw [] gO bn  jx jg aO H)
theorem Wg:QL da M:=by
 intro a0 x0 r H  h xs hx
 exact bg (T:=bK) (deep:=aU) rfl rfl rfl aW hx (sa (cf:=da) (m:=M) (a7:=cZ) rfl  a0 x0 bw []   aO H)
theorem Wh:QM da M:=by
 intro ik r H  h xs hx
 exact bg (T:=bK) (deep:=aU) rfl rfl rfl aW hx (tB (cf:=da) (m:=M) (a7:=cZ) rfl  ik bw []   aO H)
theorem Wi:N0 da M:=by
 intro c0 r H  h xs hx
 exact bg (T:=bK) (deep:=aU) rfl rfl rfl aW hx (sb (cf:=da) (m:=M) (a7:=cZ) rfl  c0 bw []   aO H)
theorem Wj:N1 da M:=by
 intro c0 r H  h xs hx
 exact bg (T:=bK) (deep:=aU) rfl rfl rfl aW hx (qW (cf:=da) (m:=M) (a7:=cZ) rfl  c0 bw []   aO H)
theorem Wk:QN da M:=by
 intro l0 iD r H  h xs hx
 exact bg (T:=bK) (deep:=aU) rfl rfl rfl aW hx (pN (cf:=da) (m:=M) (a7:=cZ) rfl  l0 iD bw []   aO H)
theorem Wl:QP da M:=by
 intro x0 r H  h xs hx
 exact bg (T:=bK) (deep:=aU) rfl rfl rfl aW hx (pO (cf:=da) (m:=M) (a7:=cZ) rfl  x0 bw []   aO H)
theorem Wm:QQ da M:=by
 intro x0 r H  h xs hx
 exact bg (T:=bK) (deep:=aU) rfl rfl rfl aW hx (nA (cf:=da) (m:=M) (a7:=cZ) rfl  x0 bw []   aO H)
theorem Wn:La da M:=by
 intro n0 fh r H  h xs hx
 exact bg (T:=bK) (deep:=aU) rfl rfl rfl aW hx (sd (cf:=da) (m:=M) (a7:=cZ) rfl  n0 fh bw []   aO H)
theorem SC:C2 da M:=by
 intro a0 b0 bL r H  h xs hx
 exact bg (T:=bK) (deep:=aU) rfl rfl rfl aW hx (oS (cf:=da) (m:=M) (a7:=cZ) rfl  a0 b0 bL bw []   aO H)
theorem Wo:N6 da M:=by
 intro az a0 b0 bb r H h L dr aV o s9 gV fX F9 C3 C4 Ga xs hx
 have hn0:dr=az.length:=dK (E:=aa) o (q:=0) rfl
 subst hn0
 obtain⟨r',h',hb,rfl,ho⟩:=oT (cf:=da) (m:=M) (a7:=cZ) rfl  az a0 b0 bb h L aV s9 gV fX  F9 C3 C4 Ga o H
 exact⟨h',np (T:=bK) rfl rfl hx hb,ho⟩
theorem Wp:N7 da M:=by
 intro az a0 b0 n0 bb r H h L dr aV o fT bu bc iE iW iX jF xs hx
 have hn0:dr=az.length:=dK (E:=aa) o (q:=0) rfl
 subst hn0
 obtain⟨r',h',hb,rfl,ho⟩:=tD (cf:=da) (m:=M) (a7:=cZ) rfl  az a0 b0 n0 bb h L aV fT bu bc  iE iW iX jF o H
 exact⟨h',np (T:=bK) rfl rfl hx hb,ho⟩
theorem j13:W6 da M:=by
 intro s0 r H  h xs hx
 exact bg (T:=bK) (deep:=aU) rfl rfl rfl aW hx (nB (cf:=da) (m:=M) (a7:=cZ) rfl X9 s0 bw []   aO H)
theorem j14:Ux da M:=by
 intro s0 r H  h xs hx
 exact bg (T:=bK) (deep:=aU) rfl rfl rfl aW hx (nC (cf:=da) (m:=M) (a7:=cZ) rfl SB s0 bw []   aO H)
theorem j26:W7 da M:=by
 intro a0 b0 r H  h xs hx
 exact bg (T:=bK) (deep:=aU) rfl rfl rfl aW hx (sf (cf:=da) (m:=M) (a7:=cZ) rfl X8 a0 b0 bw []   aO H)
theorem j52:W8 da M:=by
 intro s0 n0 r H  h xs hx
 exact bg (T:=bK) (deep:=aU) rfl rfl rfl aW hx (og (cf:=da) (m:=M) (a7:=cZ) rfl SB Tk s0 n0 bw []   aO H)
theorem j54:W9 da M:=by
 intro s0 n0 r H  h xs hx
 exact oH (T:=bK) (deep:=aU) rfl rfl rfl aW hx (mU (cf:=da) (m:=M) (a7:=cZ) rfl SB Tk Wd s0 n0 bw []   aO H)
theorem j56:Xa da M:=by
 intro s0 n0 r H  h xs hx
 exact bg (T:=bK) (deep:=aU) rfl rfl rfl aW hx (nD (cf:=da) (m:=M) (a7:=cZ) rfl SB Tk Ya s0 n0 bw []   aO H)
theorem j57:Xb da M:=by
 intro a0 b0 r H  h xs hx
 exact bg (T:=bK) (deep:=aU) rfl rfl rfl aW hx (sh (cf:=da) (m:=M) (a7:=cZ) rfl We a0 b0 bw []   aO H)
theorem Yd:Uy da M:=by
 intro s0 n0 r H  h L xs o hx
 obtain⟨r',h',hb,ez,rfl,ho⟩:=mV (cf:=da) (m:=M) (a7:=cZ) rfl Th s0 n0 bw []   aO H
 exact⟨oI h.next ez,_,me (T:=bK) (deep:=aU) rfl rfl rfl aW hx hb (vg),Has.fy o ho (Eg (fun _=>rfl) (.nil)),kH _ _⟩
theorem Ye:SS da M:=by
 intro s0 n0 r H  h L xs o hx
 obtain⟨r',h',hb,ez,rfl,ho⟩:=mW (cf:=da) (m:=M) (a7:=cZ) rfl X7 Th s0 n0 bw []   aO H
 exact⟨oI h.next ez,_,me (T:=bK) (deep:=aU) rfl rfl rfl aW hx hb (vh (dd (rfl) (dd (rfl) (dd (rfl) (dd (vg) (kA)))))),Has.fy o ho (Eg (fun _=>rfl) (.nil)),kH _ _⟩
theorem j63:Xc da M:=by
 intro s0 lQ r H h L Lc aV o gO bn eC zn jx wU jg xs hx
 have hn0:Lc=s0.length:=dK (E:=aa) o (q:=0) rfl
 subst hn0
 obtain⟨r',h',hb,rfl,ho⟩:=wV (cf:=da) (m:=M) (a7:=cZ) rfl Yc s0 lQ h L aV gO bn eC  zn jx wU jg o H
 exact⟨h',np (T:=bK) rfl rfl hx hb,ho⟩
theorem j64:Xd da M:=by
 intro r0 x0 r H  h xs hx
 exact bg (T:=bK) (deep:=aU) rfl rfl rfl aW hx (mg (cf:=da) (m:=M) (a7:=cZ) rfl j65 r0 x0 bw []   aO H)
theorem j77:Xe da M:=by
 intro s0 f0 r H gO bn jx jg h xs hx
 exact bg (T:=bK) (deep:=aU) rfl rfl rfl aW hx (tE (cf:=da) (m:=M) (a7:=cZ) rfl Wf s0 f0 bw [] gO bn  jx jg aO H)
theorem Yf:UB da M:=by
 intro s0 f0 r H gO bn jx jg h xs hx
 exact bg (T:=bK) (deep:=aU) rfl rfl rfl aW hx (tF (cf:=da) (m:=M) (a7:=cZ) rfl Yc s0 f0 bw [] gO bn  jx jg aO H)
theorem Wq:QU da M:=by
 intro s0 lR po r H  h xs hx
 exact bg (T:=bK) (deep:=aU) rfl rfl rfl aW hx (vB (cf:=da) (m:=M) (a7:=cZ) rfl Wi s0 lR po bw []   aO H)
theorem Wr:QV da M:=by
 intro s0 r H  h xs hx
 exact bg (T:=bK) (deep:=aU) rfl rfl rfl aW hx (tG (cf:=da) (m:=M) (a7:=cZ) rfl Wj s0 bw []   aO H)
theorem Ws:QX da M:=by
 intro x0 y0 r H  h xs hx
 exact bg (T:=bK) (deep:=aU) rfl rfl rfl aW hx (om (cf:=da) (m:=M) (a7:=cZ) rfl Wl x0 y0 bw []   aO H)
theorem Wt:QY da M:=by
 intro x0 y0 r H  h xs hx
 exact bg (T:=bK) (deep:=aU) rfl rfl rfl aW hx (mh (cf:=da) (m:=M) (a7:=cZ) rfl Wm x0 y0 bw []   aO H)
theorem Wu:Le da M:=by
 intro l0 cW n0 bL r H  h xs hx
 exact bg (T:=bK) (deep:=aU) rfl rfl rfl aW hx (tH (cf:=da) (m:=M) (a7:=cZ) rfl We SC l0 cW n0 bL bw []   aO H)
theorem Wv:QZ da M:=by
 intro az a0 m0 b0 bb r H h L dr aV o fT bu bc iE iW iX jF xs hx
 have hn0:dr=az.length:=dK (E:=aa) o (q:=0) rfl
 subst hn0
 obtain⟨r',h',hb,rfl,ho⟩:=zq (cf:=da) (m:=M) (a7:=cZ) rfl Wp az a0 m0 b0 bb h L aV fT bu bc  iE iW iX jF o H
 exact⟨h',np (T:=bK) rfl rfl hx hb,ho⟩
theorem Tm:Q0 da M:=by
 intro s0 l0 r H  h xs hx
 exact bg (T:=bK) (deep:=aU) rfl rfl rfl aW hx (mX (cf:=da) (m:=M) (a7:=cZ) rfl X9 Yf j95 s0 l0 bw []   aO H)
theorem j74:Xf da M:=by
 intro s0 r H  h xs hx
 exact bg (T:=bK) (deep:=aU) rfl rfl rfl aW hx (vF (cf:=da) (m:=M) (a7:=cZ) rfl Wq s0 bw []   aO H)
theorem j79:Xg da M:=by
 intro n0 nr r H  h xs hx
 exact bg (T:=bK) (deep:=aU) rfl rfl rfl aW hx (vG (cf:=da) (m:=M) (a7:=cZ) rfl j74 Yf j87 Wg n0 nr bw []   aO H)
theorem j80:Xh da M:=by
 intro s0 r H  h xs hx
 exact bg (T:=bK) (deep:=aU) rfl rfl rfl aW hx (qZ (cf:=da) (m:=M) (a7:=cZ) rfl Wr s0 bw []   aO H)
theorem SD:Lg da M:=by
 intro a0 b0 r H  h xs hx
 exact bg (T:=bK) (deep:=aU) rfl rfl rfl aW hx (oq (cf:=da) (m:=M) (a7:=cZ) rfl Ws Wh Wt a0 b0 bw []   aO H)
theorem Ww:Rb da M:=by
 intro i0 j0 x0 r H  h xs hx
 exact bg (T:=bK) (deep:=aU) rfl rfl rfl aW hx (oU (cf:=da) (m:=M) (a7:=cZ) rfl SD i0 j0 x0 bw []   aO H)
theorem Wx:Rf da M:=by
 intro l0 r H  h xs hx
 exact bg (T:=bK) (deep:=aU) rfl rfl rfl aW hx (pQ (cf:=da) (m:=M) (a7:=cZ) rfl We Wn Wu SC l0 bw []   aO H)
theorem SE:∀kk,wY da M kk
 | 0=>by
  intro az a0 m0 b0 bb r H h L dr aV o fT bu bc iE iW iX jF xs hx
  cases H
 | kk+1=>by
  intro az a0 m0 b0 bb r H h L dr aV o fT bu bc iE iW iX jF xs hx
  have hn0:dr=az.length:=dK (E:=aa) o (q:=0) rfl
  subst hn0
  obtain⟨r',h',hb,rfl,ho⟩:=vN (cf:=da) (m:=M) (a7:=cZ) rfl Wv az a0 m0 b0 bb h L aV fT bu bc  (SE kk) iE iW iX jF o H
  exact⟨h',np (T:=bK) rfl rfl hx hb,ho⟩
theorem j27:Xu da M:=by
 intro s0 n0 r H  h xs hx
 exact bg (T:=bK) (deep:=aU) rfl rfl rfl aW hx (nE (cf:=da) (m:=M) (a7:=cZ) rfl Tm Yd j63 j64 j66 s0 n0 bw []   aO H)
theorem j32:Xv da M:=by
 intro s0 n0 r H  h xs hx
 exact bg (T:=bK) (deep:=aU) rfl rfl rfl aW hx (ou (cf:=da) (m:=M) (a7:=cZ) rfl Tm Th s0 n0 bw []   aO H)
theorem Yg:Rx da M:=by
 intro n0 aw r H  h xs hx
 exact bg (T:=bK) (deep:=aU) rfl rfl rfl aW hx (so (cf:=da) (m:=M) (a7:=cZ) rfl j80 n0 aw bw []   aO H)
theorem j53:Xw da M:=by
 intro s0 n0 r H  h L xs o hx
 obtain⟨r',h',hb,ez,rfl,ho⟩:=mZ (cf:=da) (m:=M) (a7:=cZ) rfl Tm Ye Th s0 n0 bw []   aO H
 exact⟨oI h.next ez,_,me (T:=bK) (deep:=aU) rfl rfl rfl aW hx hb (CY (dd (vh (dd (rfl) (dd (rfl) (dd (rfl) (dd (vg) (kA)))))) (dd (rfl) (kA)))),Has.fy o ho (Eg (fun _=>rfl) (.nil)),kH _ _⟩
theorem j78:Xx da M:=by
 intro n0 x0 r H  h xs hx
 exact bg (T:=bK) (deep:=aU) rfl rfl rfl aW hx (q7 (cf:=da) (m:=M) (a7:=cZ) rfl j79 n0 x0 bw []   aO H)
theorem Wy:RA da M:=by
 intro l0 iD r H  h xs hx
 exact oH (T:=bK) (deep:=aU) rfl rfl rfl aW hx (sq (cf:=da) (m:=M) (a7:=cZ) rfl Wk Wx l0 iD bw []   aO H)
theorem Wz:RF da M:=by
 intro az n0 bb r H h L dr aV o mr eM dU oW tI tJ tK xs hx
 have hn0:dr=az.length:=dK (E:=aa) o (q:=0) rfl
 subst hn0
 obtain⟨r',h',hb,rfl,ho⟩:=zy (cf:=da) (m:=M) (a7:=cZ) rfl Wo (SE _) az n0 bb h L aV mr eM dU  oW tI tJ tK o H
 exact⟨h',np (T:=bK) rfl rfl hx hb,ho⟩
theorem j11:Xy da M:=by
 intro aw r H h L   o  xs hx
 obtain⟨r',h',hb,ez,de,dh,rfl,ho⟩:=sr (cf:=da) (m:=M) (a7:=cZ) rfl j17 Yg aw h L  o H
 exact⟨ez,de,dh,h',np (T:=bK) rfl rfl hx hb,ho⟩
theorem j23:Xz da M:=by
 intro t0 r H  h xs hx
 exact bg (T:=bK) (deep:=aU) rfl rfl rfl aW hx (ss (cf:=da) (m:=M) (a7:=cZ) rfl Yg t0 bw []   aO H)
theorem Yh:UW da M:=by
 intro t0 r H  h xs hx
 exact bg (T:=bK) (deep:=aU) rfl rfl rfl aW hx (tL (cf:=da) (m:=M) (a7:=cZ) rfl j77 j78 t0 bw []   aO H)
theorem j88:XA da M:=by
 intro t0 r H  h xs hx
 exact oH (T:=bK) (deep:=aU) rfl rfl rfl aW hx (su (cf:=da) (m:=M) (a7:=cZ) rfl j23 Wy t0 bw []   aO H)
theorem WA:RH da M:=by
 intro x0 bb r H h L IV aV o gO bn eC zn jx wU jg xs hx
 have hn0:IV=x0.length:=dK (E:=aa) o (q:=0) rfl
 subst hn0
 obtain⟨r',h',hb,rfl,ho⟩:=q8 (cf:=da) (m:=M) (a7:=cZ) rfl Wz x0 bb h L aV gO bn eC  zn jx wU jg o H
 exact⟨h',np (T:=bK) rfl rfl hx hb,ho⟩
theorem j10:XC da M:=by
 intro aw r H h L   o  xs hx
 obtain⟨r',h',hb,ez,de,dh,rfl,ho⟩:=sv (cf:=da) (m:=M) (a7:=cZ) rfl j16 Yh X7 aw h L  o H
 exact⟨ez,de,dh,h',np (T:=bK) rfl rfl hx hb,ho⟩
theorem j55:XD da M:=by
 intro s0 n0 r H  h xs hx
 exact oH (T:=bK) (deep:=aU) rfl rfl rfl aW hx (nF (cf:=da) (m:=M) (a7:=cZ) rfl SB j88 Tk Wd Ya s0 n0 bw []   aO H)
theorem j96:XE da M:=by
 intro aw r H  h xs hx
 exact bg (T:=bK) (deep:=aU) rfl rfl rfl aW hx (re (cf:=da) (m:=M) (a7:=cZ) rfl SD WA Ww aw bw []   aO H)
theorem j62:XG da M:=by
 intro t0 r H  h L xs o hx
 obtain⟨r',h',hb,ez,dk,rfl,ho⟩:=tM (cf:=da) (m:=M) (a7:=cZ) rfl j96 (Yb _) t0 bw []   aO H
 exact⟨oI h.next ez,dk.map (oI h.next),_,me (T:=bK) (deep:=aU) rfl rfl rfl aW hx hb (vh (dd (vg) (dd (rfl) (kA)))),Has.fy o ho (Ii (y7 .nil)),kH _ _⟩
theorem j25:XH da M:=by
 intro t0 r H  h L xs o hx
 obtain⟨r',h',hb,ez,dk,rfl,ho⟩:=tN (cf:=da) (m:=M) (a7:=cZ) rfl Yh j62 t0 bw []   aO H
 exact⟨oI h.next ez,dk.map (oI h.next),_,me (T:=bK) (deep:=aU) rfl rfl rfl aW hx hb (CY (dd (vh (dd (vg) (dd (rfl) (kA)))) (dd (rfl) (kA)))),Has.fy o ho (Ii (y7 .nil)),kH _ _⟩
theorem j24:XI da M:=by
 intro s0 n0 r H  h L xs o hx
 obtain⟨r',h',hb,ez,dk,rfl,ho⟩:=nG (cf:=da) (m:=M) (a7:=cZ) rfl j25 Tm Yd Ye s0 n0 bw []   aO H
 exact⟨oI h.next ez,dk.map (oI h.next),_,me (T:=bK) (deep:=aU) rfl rfl rfl aW hx hb (CY (dd (vh (dd (vg) (dd (rfl) (kA)))) (dd (rfl) (kA)))),Has.fy o ho (Ii (y7 .nil)),kH _ _⟩
theorem j20:Vj da M:=by
 intro s0 t0 n0 r H  h xs hx
 exact bg (T:=bK) (deep:=aU) rfl rfl rfl aW hx (sw (cf:=da) (m:=M) (a7:=cZ) rfl j24 j26 j27 j32 X8 j52 j53 j54 j55 j56 j57 s0 t0 n0 bw []   aO H)
theorem j15:XJ da M:=by
 intro s0 t0 r H  h xs hx
 exact bg (T:=bK) (deep:=aU) rfl rfl rfl aW hx (tO (cf:=da) (m:=M) (a7:=cZ) rfl j13 j14 j20 s0 t0 bw []   aO H)
theorem j4:S4 da M:=by
 intro l0 r H  h xs hx
 exact bg (T:=bK) (deep:=aU) rfl rfl rfl aW hx (nb (cf:=da) (m:=M) (a7:=cZ) rfl j9 j10 j11 j15 l0 bw []   aO H)
end Go.Proofs.YtifafejidnjckaaGreat
namespace Go.Proofs.YtifafejidnjckaaGreat
open Go Go.R Go.Proofs Go.RowKit Go.ChangeShapes Go.WideShapes
open Go.IntKind (i64 u64 u8 u32)
theorem all_true (yP:List AV)(h:qE Tryz.prog 7 Tryz.f4.params.toList yP):∃cf h',CallOK Tryz.prog cf∧cf 4 yP bw=some (.bool true,h'):=by
 rw [show Tryz.f4.params.toList=[23] from by rw [Tryz.params4]] at h
 obtain⟨xs,rfl,h1⟩:=GK h
 obtain⟨l,hl,fl⟩:=GJ (n:=3) h1
 exact⟨da,bw,O6,j4 l true (B2 (by decide) l hl) bw _ (er (ab (fl bw) (aq)))⟩
theorem pT (os:Os)(started:os.Started)(H:Type)(enc:TypeId × Value→H) :
  ReturnsInHanded {} Tryz.checked os 4 .any (Rows.storeBuildsSpec.pre6 enc Tryz.prog Tryz.f4 Rows.storeBuildsRow.domain false) (Rows.storeBuildsSpec.post enc Tryz.prog Tryz.f4 false true false false):=by
 refine returnsInHanded_of_change (C:=Tryz.checked) (by kernel_rfl) started (by kernel_rfl) Tryz.func4
  (ChangeSpec.witness6 (enc:=enc) (C:=Tryz.checked) false ⟨#[],#[.slice none 0 0],[]⟩ 8 (by kernel_rfl) (by kernel_rfl) (by kernel_rfl) (by kernel_rfl)) ?_
 intro W base args ds gs before fc hW aa7 _
 exact wO (cf:=fun _ _ _=>none) (P:=Tryz.prog) (m:=7) (tb:=4) (by kernel_rfl)
  (by rw [show Tryz.f4.params.toList=[23] from by rw [Tryz.params4]]; intro t ht; simp only [ab0,List.not_mem_nil,or_false] at ht; rcases ht with rfl<;>exact⟨by kernel_rfl,of_decide_eq_true (by kernel_rfl)⟩)
  (by rw [show Tryz.f4.params.toList=[23] from by rw [Tryz.params4]]; intro t ht; simp only [ab0,List.not_mem_nil,or_false] at ht; rcases ht with rfl<;>kernel_rfl) rfl rfl Tryz.underlying4
  (fun ds Nd=>by
   have:ds.length=1:=by rw [Nd]; rfl
   match ds,this with
   | [d0],_=>rfl) all_true fc hW
theorem storeBuilds_holds:Rows.StoreBuildsSaid:=
 OpenClaim.holds_of_wide 4 Tryz.f4 rfl rfl rfl rfl rfl rfl rfl ⟨rfl,rfl,rfl,rfl,rfl⟩ rfl rfl rfl rfl rfl (by kernel_rfl) Tryz.func4 (by kernel_rfl)
  (of_decide_eq_true (by kernel_rfl)) (by unfold Func.isWrapper; first | (rw [if_pos (by decide +kernel)]; kernel_rfl) | (rw [if_neg (by decide +kernel)]; exact⟨rfl,rfl⟩))
  (fun os started H enc _=>pT os started H enc)
end Go.Proofs.YtifafejidnjckaaGreat
