/- Proved: StoreOnce returns true for every input; no condition. -/
import Derived.Test.YtifafejidnjckaaK12
import Derived.Test.YtifafejidnjckaaChecked
import Derived.Test.YtifafejidnjckaaRows
set_option linter.unusedVariables false
set_option linter.unusedSimpArgs false
set_option maxRecDepth 100000
open Bool renaming and_eq_true → Ud, false_eq_true → Um, not_eq_true' → Vf, not_true → Vo
open Int renaming toNat_natCast → Un
open List renaming getElem?_eq_getElem → Uj, length_append → Uk, drop_eq_getElem_cons → Uo, length_cons → Up, append_assoc → Uq, getElem?_append_left → Ur, getElem?_append_right → Us, mem_of_getElem? → Ut, getD_eq_getElem?_getD → Uw, length_map → Ux, mem_cons → UA, mem_singleton → UB, length_nil → UD, mem_append → UF, map_append → UG, getElem?_eq_none → UJ, cons_append → UM, mem_map → UO, drop_zero → US, take_succ_eq_append_getElem → U0, length_take → U8, getElem?_of_mem → Vd, append_nil → Vy, set_append_right → Vz
open Nat renaming le_refl → Ue, zero_add → Uy, lt_of_lt_of_le → Uz, beq → UL, le_trans → UT, zero_le → U5, eq_of_beq_eq_true → Vb, sub_self → Vm, ble → Vv, zero_lt_one → Vx
open Option renaming bind_eq_some_iff → T9, bind_some → Ua, map_eq_some_iff → Ub
namespace Go.Uf
open Go Go.R
open Go.IntKind (i64 u64 u8 u32)
def fq (a L:Nat):List Int:=(List.range L).map fun i=>((a+i:Nat):Int)
theorem mB (a L:Nat):(fq a L).length=L:=by simp [fq]
theorem tX (a L:Nat):fq a (L+1)=fq a L++[((a+L:Nat):Int)]:=by
 unfold fq; rw [List.range_succ,UG]; rfl
theorem EZ {to:List Int}(o:Fi to):∀L,Fi (to++fq to.length L)∧(∀n,Rg to.length n→rp (to++fq to.length L) n=rp to n)∧∀n:Int,(to.length:Int)≤n→n<to.length+L→rp (to++fq to.length L) n=n
 | 0=>⟨by simpa [fq] using o,fun n _=>by simp [fq],fun n h1 h2=>by omega⟩
 | L+1=>by
  obtain⟨a,b,c⟩:=EZ o L
  have hl:(to++fq to.length L).length=to.length+L:=by rw [Uk,mB]
  have e:to++fq to.length (L+1)=(to++fq to.length L)++[(((to++fq to.length L).length:Nat):Int)]:=by
   rw [tX,←Uq,hl]
  obtain⟨g1,g2,g3⟩:=KY a
  rw [←e] at g1 g2 g3
  refine⟨g1,fun n h=>?_,fun n h1 h2=>?_⟩
  ·rw [g2 n (by unfold Rg at h ⊢; rw [hl]; omega),b n h]
  ·by_cases h:n=to.length+L
   ·have:n=(((to++fq to.length L).length:Nat):Int):=by rw [hl]; omega
    rw [this]; exact g3
   ·rw [g2 n (by unfold Rg; rw [hl]; omega)]
    exact c n h1 (by omega)
theorem oO {N V:List ao}{n:Int}(h:Rg N.length n):fb (N++V) n=fb N n:=by
 have hl:n.toNat<N.length:=by have:=h.1; have:=h.2; omega
 unfold fb
 rw [Uw,Uw,Ur hl]
end Go.Uf
namespace Go.Proofs.Ytifafejidnjckaa
open Go Go.R Go.Uf
open Go.IntKind (i64 u64 u8 u32)
def kJ (s s':ab):Prop:=s.aa.length≤s'.aa.length∧∀n,Rg s.aa.length n→gf s.aa (rp s.ae n)→my (fb s.aa (rp s.ae n)) (fb s'.aa (rp s'.ae n))
theorem my.refl (a:ao):my a a:=⟨rfl,rfl,rfl,rfl⟩
theorem kJ.refl (s:ab):kJ s s:=⟨Ue _,fun _ _ _=>my.refl _⟩
theorem kJ.trans {a b c:ab}(h:kJ a b)(k:kJ b c):kJ a c:=by
 refine⟨UT h.1 k.1,fun n hn hv=>?_⟩
 obtain⟨h1,h2,h3,h4⟩:=h.2 n hn hv
 have v2:gf b.aa (rp b.ae n):=by unfold gf at hv ⊢; rw [←h1]; exact hv
 obtain⟨k1,k2,k3,k4⟩:=k.2 n ⟨hn.1,by have:=hn.2; have:=h.1; omega⟩ v2
 exact⟨h1.trans k1,h2.trans k2,h3.trans k3,h4.trans k4⟩
section
variable {m:Nat}{s:ab}
theorem Inv2.more (v:Inv2 s)(V:List ao)(hV:∀x∈V,x.args.length≤8∧∀a∈x.args,Rg (s.aa.length+V.length) a)(hl:s.aa.length+V.length≤8000) :
  Inv2 ⟨s.aj,s.aa++V,s.ae++fq s.aa.length V.length⟩∧kJ s ⟨s.aj,s.aa++V,s.ae++fq s.aa.length V.length⟩:=by
 have hlen:=v.inv.len
 obtain⟨g1,g2,g3⟩:=EZ v.inv.ok V.length
 rw [hlen] at g1 g2 g3
 have hN:(s.aa++V).length=s.aa.length+V.length:=Uk
 have hc:∀n,Rg (s.aa++V).length n→Rg s.aa.length n∨((s.aa.length:Int)≤n∧n<s.aa.length+V.length):=fun n h=>by
  rw [hN] at h; unfold Rg at h ⊢; omega
 have up:∀n,Rg s.aa.length n→Rg (s.aa++V).length n:=fun n h=>by rw [hN]; unfold Rg at h ⊢; omega
 have old:∀n,Rg s.aa.length n→rp (s.ae++fq s.aa.length V.length) n=rp s.ae n:=g2
 have new:∀n:Int,(s.aa.length:Int)≤n→n<s.aa.length+V.length→rp (s.ae++fq s.aa.length V.length) n=n:=g3
 refine⟨⟨⟨v.inv.made,?_,by show (s.aa++V).length≤8000; omega,g1,⟨fun n h=>?_,fun n h=>?_,fun n h=>?_⟩,?_⟩,?_⟩,?_,fun n h hv=>?_⟩
 ·show (_++_:List Int).length=_
  rw [Uk,mB,hN,hlen]
 ·show Rg _ (rp (s.ae++fq s.aa.length V.length) n)
  rcases hc n h with h | ⟨h1,h2⟩
  ·rw [old n h]; exact up _ (v.inv.cn.rg n h)
  ·rw [new n h1 h2]; exact h
 ·show rp (s.ae++_) (rp (s.ae++fq s.aa.length V.length) n)=rp (s.ae++_) n
  rcases hc n h with h | ⟨h1,h2⟩
  ·rw [old n h,old _ (v.inv.cn.rg n h),v.inv.cn.id n h]
  ·rw [new n h1 h2,new n h1 h2]
 ·show Bt (s.aa++V) (rp (s.ae++fq s.aa.length V.length) n) n
  rcases hc n h with h | ⟨h1,h2⟩
  ·rw [old n h]
   have:=v.inv.cn.bt n h
   unfold Bt gf at this ⊢
   rw [oO h,oO (v.inv.cn.rg n h)]; exact this
  ·rw [new n h1 h2]; exact Bt.refl
 ·intro x hx
  rcases UF.1 hx with hx | hx
  ·obtain⟨a1,a2⟩:=v.inv.args x hx
   exact⟨a1,fun a ha=>up a (a2 a ha)⟩
  ·obtain⟨a1,a2⟩:=hV x hx
   exact⟨a1,fun a ha=>by show Rg (s.aa++V).length a; rw [hN]; exact a2 a ha⟩
 ·intro x y hx hy he vx vy
  have he:rp (s.ae++fq s.aa.length V.length) x=rp (s.ae++fq s.aa.length V.length) y:=he
  rcases hc x hx with hx1 | ⟨x1,x2⟩<;>rcases hc y hy with JB | ⟨y1,y2⟩
  ·rw [old x hx1,old y JB] at he
   have wx:fb (s.aa++V) x=fb s.aa x:=oO hx1
   have wy:fb (s.aa++V) y=fb s.aa y:=oO JB
   have SW:gf s.aa x:=by unfold gf at vx ⊢; rw [←wx]; exact vx
   have SX:gf s.aa y:=by unfold gf at vy ⊢; rw [←wy]; exact vy
   obtain⟨t,q⟩:=v.cl x y hx1 JB he SW SX
   show my (fb (s.aa++V) x) (fb (s.aa++V) y)∧∀(i:Nat) (a b:Int),(fb (s.aa++V) x).args[i]? = some a→(fb (s.aa++V) y).args[i]? = some b→rp (s.ae++fq s.aa.length V.length) a=rp (s.ae++fq s.aa.length V.length) b
   rw [wx,wy]
   refine⟨t,fun i a b ha hb=>?_⟩
   rw [old a ((v.inv.args _ (jT hx1)).2 a (Ut ha)),old b ((v.inv.args _ (jT JB)).2 b (Ut hb))]
   exact q i a b ha hb
  ·rw [old x hx1,new y y1 y2] at he
   have:=(v.inv.cn.rg x hx1).2
   omega
  ·rw [old y JB,new x x1 x2] at he
   have:=(v.inv.cn.rg y JB).2
   omega
  ·rw [new x x1 x2,new y y1 y2] at he
   subst he
   refine⟨my.refl _,fun i a b ha hb=>?_⟩
   rw [ha] at hb; cases hb; rfl
 ·show s.aa.length≤(s.aa++V).length
  omega
 ·show my _ (fb (s.aa++V) (rp (s.ae++fq s.aa.length V.length) n))
  rw [old n h,oO (v.inv.cn.rg n h)]
  exact my.refl _
def E0 (s s':ab)(e:Int):Prop:=Inv2 s'∧kJ s s'∧(e≠0→s'=s)
theorem E0.none (v:Inv2 s)(e:Int):E0 s s e:=⟨v,kJ.refl s,fun _=>rfl⟩
theorem xy (hm:2000000≤m)(v:Inv2 s)(r:Bool)(n:ao)(h:r=true→n.args.length≤8∧∀a∈n.args,Rg s.aa.length a):∃k e s',bW.f m s (some r) n=some (k,e,s')∧E0 s s' e:=by
 have n3:=v.inv.max
 unfold bW.f bK.f
 rw [v.inv.made]
 simp only [Ua,Vo,Um,if_false]
 cases r with
 | false=>exact⟨_,_,_,rfl,E0.none v _⟩
 | true=>
  obtain⟨h1,h2⟩:=h rfl
  rw [if_neg (by decide)]
  by_cases hl:s.aa.length≥8000
  ·rw [if_pos (by rw [decide_eq_true_eq]; omega)]
   exact⟨_,_,_,rfl,E0.none v _⟩
  rw [if_neg (by rw [decide_eq_true_eq]; omega)]
  have key:∀i:Int,∃k e s',(((app 56 s.aa [(⟨n.kind,i,n.label,n.args⟩:ao)]).bind fun x1=>(app 8 s.ae [(s.aa.length:Int)]).bind fun x2=>some ((s.aa.length:Int),(0:Int),(ab.mk true x1 x2)))=some (k,e,s'))∧E0 s s' e:=by
   intro i
   rw [B6 (by simp only [Up,UD]; omega),Ua,B6 (by have:=v.inv.len; simp only [Up,UD]; omega),Ua]
   obtain⟨w1,w2⟩:=v.more [⟨n.kind,i,n.label,n.args⟩] (fun x hx=>by
    simp only [UB] at hx
    subst hx
    exact⟨h1,fun a ha=>by have:=h2 a ha; unfold Rg at this ⊢; simp only [Up,UD]; omega⟩) (by simp only [Up,UD]; omega)
   have es:fq s.aa.length 1=[(s.aa.length:Int)]:=by simp [fq]
   have w1:Inv2 ⟨s.aj,s.aa++[⟨n.kind,i,n.label,n.args⟩],s.ae++fq s.aa.length 1⟩:=w1
   have w2:kJ s ⟨s.aj,s.aa++[⟨n.kind,i,n.label,n.args⟩],s.ae++fq s.aa.length 1⟩:=w2
   rw [es,v.inv.made] at w1 w2
   exact⟨_,_,_,rfl,w1,w2,fun h=>absurd rfl h⟩
  simp only [jn]
  by_cases hk:n.kind=0
  ·rw [if_pos (by rw [hk]; rfl)]; exact key _
  ·rw [if_neg (by simpa using hk)]; exact key _
end
end Go.Proofs.Ytifafejidnjckaa
namespace Go.Proofs.Ytifafejidnjckaa
open Go Go.R Go.Uf
open Go.IntKind (i64 u64 u8 u32)
section
variable {m:Nat}{s:ab}
theorem Gy (hm:2 ^ 41≤m)(t:bu):(∃r,fK.f m t=some (r,0)∧A5 r.nodes)∨∃r,fK.f m t=some (r,2):=by
 have I5:(2:Nat) ^ 30=1073741824:=by decide
 have xk:(2:Nat) ^ 41=2199023255552:=by decide
 unfold fK.f
 rw [y4 (by omega),Ua]
 cases h:ke t with
 | false=>exact .inr ⟨_,rfl⟩
 | true=>
  obtain⟨r,R,e,hv,_⟩:=Ch hm h
  rw [if_neg (by simp),e]
  exact .inl ⟨_,rfl,(pD hv).1⟩
theorem E1 {v:ao}(a8:v.args.length≤8)(aR:∀a∈v.args,0≤a∧a<8000)(hN:s.aa.length≤8000)(s2:ab):∀(k i:Nat),i≤v.args.length→v.args.length - i<k→
  aA.l1 m s v k (i:Int) ((v.args.take i).map (· + (s.aa.length:Int))++v.args.drop i) s2=some ((v.args.length:Int),v.args.map (· + (s.aa.length:Int)),s2)∧
  aA.l2 m s v k (i:Int) ((v.args.take i).map (· + (s.aa.length:Int))++v.args.drop i) s2=some ((v.args.length:Int),v.args.map (· + (s.aa.length:Int)),s2)
 | 0,i,h1,h2=>by omega
 | k+1,i,h1,h2=>by
  simp only [aA.l1,aA.l2]
  by_cases hi:i<v.args.length
  ·have d:decide ((i:Int)<(v.args.length:Int))=true:=by rw [decide_eq_true_eq]; omega
   have hl:((v.args.take i).map (· + (s.aa.length:Int))).length=i:=by rw [Ux,U8]; omega
   have ed:v.args.drop i=v.args[i]::v.args.drop (i+1):=Uo hi
   have et:v.args.take (i+1)=v.args.take i++[v.args[i]]:=U0 hi
   have eg:((v.args.take i).map (· + (s.aa.length:Int))++v.args.drop i)[i]? = some v.args[i]:=by
    rw [Us (by omega),hl,Vm,ed]; rfl
   have es:((v.args.take i).map (· + (s.aa.length:Int))++v.args.drop i).set i (v.args[i]+(s.aa.length:Int))=(v.args.take (i+1)).map (· + (s.aa.length:Int))++v.args.drop (i+1):=by
    rw [Vz _ _ (by omega),hl,Vm,ed,et,UG,Uq]; rfl
   obtain⟨b1,b2⟩:=aR v.args[i] (List.getElem_mem hi)
   have ew:i64.wrap ((i:Int)+1)=((i+1:Nat):Int):=by rw [mU (by omega) (by omega)]; omega
   have ev:i64.wrap (v.args[i]+(s.aa.length:Int))=v.args[i]+(s.aa.length:Int):=mU (by omega) (by omega)
   rw [if_pos d,if_pos d,B5 eg]
   simp only [Ua,ew,ev,Un,es]
   exact E1 a8 aR hN s2 k (i+1) (by omega) (by omega)
  ·have d:decide ((i:Int)<(v.args.length:Int))=false:=by rw [decide_eq_false_iff_not]; omega
   have e:i=v.args.length:=by omega
   rw [if_neg (by rw [d]; decide),if_neg (by rw [d]; decide),e]
   simp
theorem E2 (hm:2000000≤m)(v:Inv2 s){x:bu × Int}(ok:A5 x.1.nodes)(hl:s.aa.length+x.1.nodes.length≤8000):∀(k i:Nat) (V:List ao),i≤x.1.nodes.length→x.1.nodes.length - i<k→V.length=i→(∀y∈V,y.args.length≤8∧∀a∈y.args,Rg (s.aa.length+x.1.nodes.length) a)→
  ∃V2:List ao,aA.l0 m s x k (i:Int) ⟨s.aj,s.aa++V,s.ae++fq s.aa.length i⟩=some ((x.1.nodes.length:Int),⟨s.aj,s.aa++V2,s.ae++fq s.aa.length x.1.nodes.length⟩)∧V2.length=x.1.nodes.length∧∀y∈V2,y.args.length≤8∧∀a∈y.args,Rg (s.aa.length+x.1.nodes.length) a
 | 0,i,V,h1,h2,_,_=>by omega
 | k+1,i,V,h1,h2,hV,hP=>by
  have hlen:=v.inv.len
  simp only [aA.l0]
  by_cases hi:i<x.1.nodes.length
  ·have d:decide ((i:Int)<(x.1.nodes.length:Int))=true:=by rw [decide_eq_true_eq]; omega
   have eg:=Uj hi
   generalize x.1.nodes[i]=n at eg
   obtain⟨n8,nR⟩:=ok.2 n (Ut eg)
   have SY:∀a∈n.args,0≤a∧a<8000:=fun a ha=>by have:=nR a ha; have:=ok.1; omega
   obtain⟨q1,q2⟩:=E1 (m:=m) (s:=s) n8 SY (by omega) ⟨s.aj,s.aa++V,s.ae++fq s.aa.length i⟩ m 0 (U5 _) (by omega)
   have q1:aA.l1 m s n m 0 n.args ⟨s.aj,s.aa++V,s.ae++fq s.aa.length i⟩=_:=q1
   have q2:aA.l2 m s n m 0 n.args ⟨s.aj,s.aa++V,s.ae++fq s.aa.length i⟩=_:=q2
   have ew:i64.wrap ((i:Int)+1)=((i+1:Nat):Int):=by rw [mU (by omega) (by omega)]; omega
   have ef:i64.wrap ((s.aa.length:Int)+(i:Int))=((s.aa.length+i:Nat):Int):=by rw [mU (by omega) (by omega)]; omega
   rw [if_pos d,B5 eg]
   simp only [Ua,q1,q2,ew,ef]
   have go:∀z:Int,∃V2:List ao,((app 56 (s.aa++V) [(⟨n.kind,z,n.label,n.args.map (· + (s.aa.length:Int))⟩:ao)]).bind fun x5=>(app 8 (s.ae++fq s.aa.length i) [((s.aa.length+i:Nat):Int)]).bind fun x6=>aA.l0 m s x k ((i+1:Nat):Int) (ab.mk s.aj x5 x6))=some ((x.1.nodes.length:Int),⟨s.aj,s.aa++V2,s.ae++fq s.aa.length x.1.nodes.length⟩)∧V2.length=x.1.nodes.length∧∀y∈V2,y.args.length≤8∧∀a∈y.args,Rg (s.aa.length+x.1.nodes.length) a:=by
    intro z
    rw [B6 (by simp only [Uk,Up,UD]; omega),Ua,B6 (by simp only [Uk,mB,Up,UD]; omega),Ua]
    have:=E2 hm v ok hl k (i+1) (V++[⟨n.kind,z,n.label,n.args.map (· + (s.aa.length:Int))⟩]) (by omega) (by omega) (by simp [hV]) (fun y hy=>by
     rcases UF.1 hy with hy | hy
     ·exact hP y hy
     ·simp only [UB] at hy
      subst hy
      refine⟨by simpa using n8,fun a ha=>?_⟩
      obtain⟨b,hb,rfl⟩:=UO.1 ha
      have:=nR b hb
      unfold Rg; omega)
    rw [tX,←Uq,←Uq] at this
    exact this
   by_cases hk:n.kind=0
   ·rw [if_pos (by rw [hk]; rfl)]; exact go _
   ·rw [if_neg (by simpa using hk)]; exact go _
  ·have d:decide ((i:Int)<(x.1.nodes.length:Int))=false:=by rw [decide_eq_false_iff_not]; omega
   have e:i=x.1.nodes.length:=by omega
   rw [if_neg (by rw [d]; decide),e]
   exact⟨V,rfl,by omega,hP⟩
theorem Ll (hm:2 ^ 41≤m)(v:Inv2 s)(t:bu):∃k e s',aA.f m s t=some (k,e,s')∧E0 s s' e:=by
 have xk:(2:Nat) ^ 41=2199023255552:=by decide
 have n3:=v.inv.max
 unfold aA.f bK.f
 rw [v.inv.made]
 simp only [Ua,Vo,Um,if_false]
 rcases Gy hm t with⟨r,e,ok⟩| ⟨r,e⟩
 ·rw [e,Ua,if_neg (show ¬(!(((r,0):bu × Int).2==(0:Int)))=true by simp)]
  have hr:=ok.1
  have ew:i64.wrap ((s.aa.length:Int)+(r.nodes.length:Int))=((s.aa.length+r.nodes.length:Nat):Int):=by rw [mU (by omega) (by omega)]; omega
  rw [ew]
  by_cases hl:s.aa.length+r.nodes.length > 8000
  ·rw [if_pos (by rw [decide_eq_true_eq]; omega)]
   exact⟨_,_,_,rfl,E0.none v _⟩
  ·rw [if_neg (by rw [decide_eq_true_eq]; omega)]
   obtain⟨V,e1,e2,e3⟩:=E2 (m:=m) (by omega) v (x:=(r,0)) ok (by show _+r.nodes.length≤8000; omega) m 0 [] (U5 _) (by show r.nodes.length - 0<m; omega) rfl (fun y hy=>by simp at hy)
   have es:s.ae++fq s.aa.length 0=s.ae:=by simp [fq]
   rw [Vy,es] at e1
   have e1:aA.l0 m s (r,0) m 0 s=some ((r.nodes.length:Int),⟨s.aj,s.aa++V,s.ae++fq s.aa.length r.nodes.length⟩):=e1
   have e2:V.length=r.nodes.length:=e2
   have e3:∀y∈V,y.args.length≤8∧∀a∈y.args,Rg (s.aa.length+r.nodes.length) a:=e3
   rw [e1,Ua]
   obtain⟨w1,w2⟩:=v.more V (by rw [e2]; exact e3) (by omega)
   rw [e2] at w1 w2
   exact⟨_,_,_,rfl,w1,w2,fun h=>absurd rfl h⟩
 ·rw [e,Ua,if_pos (show (!(((r,2):bu × Int).2==(0:Int)))=true from rfl)]
  exact⟨_,_,_,rfl,E0.none v _⟩
end
end Go.Proofs.Ytifafejidnjckaa
namespace Go.Proofs.Ytifafejidnjckaa
open Go Go.R Go.Uf
open Go.IntKind (i64 u64 u8 u32)
section
variable {m:Nat}{s:ab}
theorem kJ.Lm (v:Inv2 s){s':ab}(v':Inv2 s')(eN:s'.aa=s.aa)(h:gM s.aa (rp s.ae) (rp s'.ae)):kJ s s':=by
 refine⟨by rw [eN]; exact Ue _,fun n hn hv=>?_⟩
 have g1:=v.inv.cn.rg n hn
 have LY:=v'.inv.cn
 have QD:=v'.cl
 rw [eN] at LY QD ⊢
 have e1:rp s'.ae (rp s.ae n)=rp s'.ae n:=h _ _ g1 hn (v.inv.cn.id n hn)
 have e2:rp s'.ae (rp s'.ae n)=rp s'.ae n:=LY.id n hn
 have v2:gf s.aa (rp s'.ae n):=e1 ▸ LY.val g1 hv
 exact (QD _ _ g1 (LY.rg n hn) (e1.trans e2.symm) hv v2).1
def Ln (s s':ab)(e k:Int):Prop:=Inv2 s'∧kJ s s'∧(e≠0∨k=7→s'=s)
theorem E0.a {s':ab}{e k:Int}(d:E0 s s' e)(hk:k≠7):Ln s s' e k:=⟨d.1,d.2.1,fun h=>h.elim d.2.2 fun h=>absurd h hk⟩
theorem Lp (hm:2 ^ 41≤m)(v:Inv2 s)(x:aL)(hx:x.ff.length≤40):∃e s',fm.f m s x=some (e,s')∧Ln s s' e x.er:=by
 have xk:(2:Nat) ^ 41=2199023255552:=by decide
 have qa:2000000≤m:=by omega
 have z0:∀a∈([]:List Int),Rg s.aa.length a:=fun a h=>by simp at h
 unfold fm.f
 by_cases k0:x.er=0
 ·rw [if_pos (by rw [k0]; rfl)]
  obtain⟨k,e,s',e1,d⟩:=xy qa v true ⟨0,0,⟨#[]⟩,[]⟩ (fun _=>⟨by simp,z0⟩)
  refine⟨e,s',?_,d.a (by omega)⟩
  simp only [ec.f,dC.f,e1,Ua]
 rw [if_neg (by simpa using k0)]
 by_cases k1:x.er=1
 ·rw [if_pos (by rw [k1]; rfl)]
  have h1:∃r,cP.f m x.sS=some r:=by unfold cP.f; split<;>exact⟨_,rfl⟩
  obtain⟨r,h1⟩:=h1
  obtain⟨k,e,s',e1,d⟩:=xy qa v r ⟨1,x.sS,⟨#[]⟩,[]⟩ (fun _=>⟨by simp,z0⟩)
  refine⟨e,s',?_,d.a (by omega)⟩
  simp only [eh.f,h1,e1,Ua]
 rw [if_neg (by simpa using k1)]
 by_cases k2:x.er=2
 ·rw [if_pos (by rw [k2]; rfl)]
  obtain⟨k,e,s',e1,d⟩:=xy qa v (oL x.eu) ⟨2,0,x.eu,[]⟩ (fun _=>⟨by simp,z0⟩)
  refine⟨e,s',?_,d.a (by omega)⟩
  simp only [dQ.f,de.f,mO (show 20≤m by omega),Ua,e1]
 rw [if_neg (by simpa using k2)]
 by_cases k3:x.er=3
 ·rw [if_pos (by rw [k3]; rfl)]
  have h1:∃r,cd.f m x.eu x.ff s=some r∧(r=true→x.ff.length≤8∧∀a∈x.ff,Rg s.aa.length a):=by
   unfold cd.f
   rw [mO (show 20≤m by omega),Ua]
   split
   ·split
    ·split
     ·rename_i h8
      rw [sr qa x.ff (by omega) (g:=fun n=>!decide (Rg s.aa.length n)) (fun a _=>by simp only [cg.f,AO,Ua])]
      refine⟨_,rfl,fun h=>⟨by simp only [decide_eq_true_eq] at h8; omega,fun a ha=>?_⟩⟩
      simp only [Vf,List.any_eq_false] at h
      have:=h a ha
      simpa using this
     ·exact⟨_,rfl,fun h=>by cases h⟩
    ·exact⟨_,rfl,fun h=>by cases h⟩
   ·exact⟨_,rfl,fun h=>by cases h⟩
  obtain⟨r,h1,h2⟩:=h1
  obtain⟨k,e,s',e1,d⟩:=xy qa v r ⟨3,0,x.eu,x.ff⟩ h2
  have hc:Dy 1 x.ff=some x.ff:=by unfold Dy; rw [if_pos (by omega)]
  refine⟨e,s',?_,d.a (by omega)⟩
  simp only [dH.f,hc,h1,e1,Ua]
 rw [if_neg (by simpa using k3)]
 by_cases k4:x.er=4
 ·rw [if_pos (by rw [k4]; rfl)]
  have h1:∃r,cz.f m x.eu x.sS=some r:=by
   unfold cz.f
   rw [tS,Ua]
   split<;>exact⟨_,rfl⟩
  obtain⟨r,h1⟩:=h1
  obtain⟨k,e,s',e1,d⟩:=xy qa v r ⟨4,x.sS,x.eu,[]⟩ (fun _=>⟨by simp,z0⟩)
  refine⟨e,s',?_,d.a (by omega)⟩
  simp only [dP.f,h1,e1,Ua]
 rw [if_neg (by simpa using k4)]
 by_cases k5:x.er=5
 ·rw [if_pos (by rw [k5]; rfl)]
  obtain⟨k,e,s',e1,d⟩:=Ll hm v x.va
  refine⟨e,s',?_,d.a (by omega)⟩
  simp only [e1,Ua]
 rw [if_neg (by simpa using k5)]
 by_cases k6:x.er=6
 ·rw [if_pos (by rw [k6]; rfl)]
  obtain⟨l,e,s',e1,v',em,eN,h⟩:=Gn qa v x.sS x.BS
  refine⟨e,s',by simp only [e1,Ua],v',?_,fun h'=>?_⟩
  ·rcases h with⟨_,_,rfl⟩| ⟨_,_,rfl,_⟩| ⟨_,_,h,_⟩
   ·exact kJ.refl _
   ·exact kJ.refl _
   ·exact kJ.Lm v v' eN h
  ·rcases h with⟨_,_,rfl⟩| ⟨_,_,rfl,_⟩| ⟨_,h0,h,_⟩
   ·rfl
   ·rfl
   ·rcases h' with h' | h'
    ·exact absurd h0 h'
    ·omega
 rw [if_neg (by simpa using k6)]
 by_cases k7:x.er=7
 ·rw [if_pos (by rw [k7]; rfl)]
  obtain⟨t,l,e,e1⟩:=I0 qa v x.sS x.BS
  exact⟨e,s,by simp only [e1,Ua],v,kJ.refl s,fun _=>rfl⟩
 rw [if_neg (by simpa using k7)]
 exact⟨0,s,rfl,v,kJ.refl s,fun _=>rfl⟩
def Small (l:List aL):Prop:=l.length≤60∧∀x∈l,x.ff.length≤40
theorem xz (l:List aL)(hl:l.length<2 ^ 63):∀(k i:Nat),i≤l.length→l.length - i<k→(∃b,bA.l0 m l k (i:Int)=some (.inl b)∧b=true)∨(∃z,bA.l0 m l k (i:Int)=some (.inr z)∧∀j,i≤j→∀x,l[j]? = some x→x.ff.length≤40)
 | 0,i,h1,h2=>by omega
 | k+1,i,h1,h2=>by
  have SZ:(2:Nat) ^ 63=9223372036854775808:=by decide
  simp only [bA.l0]
  by_cases hi:i<l.length
  ·have d:decide ((i:Int)<(l.length:Int))=true:=by rw [decide_eq_true_eq]; omega
   have eg:=Uj hi
   generalize l[i]=n at eg
   have ew:i64.wrap ((i:Int)+1)=((i+1:Nat):Int):=by rw [mU (by omega) (by omega)]; omega
   rw [if_pos d,B5 eg]
   simp only [Ua,ew]
   split
   ·exact .inl ⟨_,rfl,rfl⟩
   split
   ·exact .inl ⟨_,rfl,rfl⟩
   rename_i h40
   rcases xz l hl k (i+1) (by omega) (by omega) with h | ⟨z,e,h⟩
   ·exact .inl h
   ·refine .inr ⟨z,e,fun j hj x hx=>?_⟩
    by_cases hji:j=i
    ·subst hji
     rw [eg] at hx; cases hx
     simp only [decide_eq_true_eq] at h40; omega
    ·exact h j (by omega) x hx
  ·have d:decide ((i:Int)<(l.length:Int))=false:=by rw [decide_eq_false_iff_not]; omega
   rw [if_neg (by rw [d]; decide)]
   refine .inr ⟨_,rfl,fun j hj x hx=>?_⟩
   rw [UJ (by omega)] at hx; cases hx
theorem Ba (hm:2 ^ 63≤m)(l:List aL)(hl:l.length<2 ^ 63):∃b,bA.f m l=some b∧(b=false→Small l):=by
 have SZ:(2:Nat) ^ 63=9223372036854775808:=by decide
 have S3:(2:Nat) ^ 63=9223372036854775808:=by decide
 unfold bA.f
 rcases xz (m:=m) l hl m 0 (U5 _) (by omega) with⟨b,e,rfl⟩| ⟨z,e,h⟩
 ·have e:bA.l0 m l m 0=_:=e
  rw [e]
  exact⟨true,rfl,fun h=>by cases h⟩
 ·have e:bA.l0 m l m 0=_:=e
  rw [e]
  refine⟨_,rfl,fun hb=>⟨?_,fun x hx=>?_⟩⟩
  ·simp only [decide_eq_false_iff_not] at hb; omega
  ·obtain⟨j,hj⟩:=Vd hx
   exact h j (U5 _) x hj
theorem Bb (hm:2 ^ 41≤m)(l:List aL)(hl:Small l):∀(k i:Nat) (s:ab),i≤l.length→l.length - i<k→Inv2 s→∃s',bZ.l0 m l k (i:Int) s=some ((l.length:Int),s')∧Inv2 s'
 | 0,i,s,h1,h2,_=>by omega
 | k+1,i,s,h1,h2,v=>by
  simp only [bZ.l0]
  have h60:=hl.1
  by_cases hi:i<l.length
  ·have d:decide ((i:Int)<(l.length:Int))=true:=by rw [decide_eq_true_eq]; omega
   have eg:=Uj hi
   generalize l[i]=n at eg
   have ew:i64.wrap ((i:Int)+1)=((i+1:Nat):Int):=by rw [mU (by omega) (by omega)]; omega
   obtain⟨e,s',e1,d1⟩:=Lp hm v n (hl.2 n (Ut eg))
   rw [if_pos d,B5 eg]
   simp only [Ua,ew,e1]
   exact Bb hm l hl k (i+1) s' (by omega) (by omega) d1.1
  ·have d:decide ((i:Int)<(l.length:Int))=false:=by rw [decide_eq_false_iff_not]; omega
   have e:i=l.length:=by omega
   rw [if_neg (by rw [d]; decide),e]
   exact⟨s,rfl,v⟩
theorem Gz:Inv2 ⟨true,[],[]⟩:=by
 have no:∀(P:Int→Prop) (n:Int),Rg ([]:List ao).length n→P n:=fun P n h=>by have:=h.1; have:=h.2; simp at this; omega
 exact⟨⟨rfl,rfl,by simp,Gj,⟨fun n h=>no _ n h,fun n h=>no _ n h,fun n h=>no _ n h⟩,fun v h=>by simp at h⟩,fun x y hx=>(no (fun _=>False) x hx).elim⟩
theorem Jb (hm:2 ^ 41≤m)(l:List aL)(hl:Small l):∃s,bZ.f m l=some s∧Inv2 s:=by
 have xk:(2:Nat) ^ 41=2199023255552:=by decide
 have h60:=hl.1
 obtain⟨s,e,v⟩:=Bb hm l hl m 0 ⟨true,[],[]⟩ (U5 _) (by omega) Gz
 have e:bZ.l0 m l m 0 ⟨true,[],[]⟩=_:=e
 refine⟨s,?_,v⟩
 simp only [bZ.f,iI.f,Ua,e]
end
end Go.Proofs.Ytifafejidnjckaa
namespace Go.Proofs.Ytifafejidnjckaa
open Go Go.R Go.Uf
open Go.IntKind (i64 u64 u8 u32)
end Go.Proofs.Ytifafejidnjckaa
namespace Go.Proofs.Ytifafejidnjckaa
open Go Go.R Go.Uf
open Go.IntKind (i64 u64 u8 u32)
section
variable {m:Nat}{s:ab}
theorem xA (hm:16000≤m)(v:Inv s){l:List Int}(h8:l.length≤8)(hr:∀a∈l,Rg s.aa.length a):∀(k i:Nat),i≤l.length→l.length - i<k→a7.l0 m s l k ((l.take i).map (rp s.ae)++l.drop i) (i:Int)=some (l.map (rp s.ae),(l.length:Int))
 | 0,i,h1,h2=>by omega
 | k+1,i,h1,h2=>by
  simp only [a7.l0]
  by_cases hi:i<l.length
  ·have d:decide ((i:Int)<(l.length:Int))=true:=by rw [decide_eq_true_eq]; omega
   have hl:((l.take i).map (rp s.ae)).length=i:=by rw [Ux,U8]; omega
   have ed:l.drop i=l[i]::l.drop (i+1):=Uo hi
   have et:l.take (i+1)=l.take i++[l[i]]:=U0 hi
   have eg:((l.take i).map (rp s.ae)++l.drop i)[i]? = some l[i]:=by
    rw [Us (by omega),hl,Vm,ed]; rfl
   have es:((l.take i).map (rp s.ae)++l.drop i).set i (rp s.ae l[i])=(l.take (i+1)).map (rp s.ae)++l.drop (i+1):=by
    rw [Vz _ _ (by omega),hl,Vm,ed,et,UG,Uq]; rfl
   have ew:i64.wrap ((i:Int)+1)=((i+1:Nat):Int):=by rw [mU (by omega) (by omega)]; omega
   rw [if_pos d,B5 eg]
   simp only [Ua,AN hm v (hr _ (List.getElem_mem hi)),ew,Un,es]
   exact xA hm v h8 hr k (i+1) (by omega) (by omega)
  ·have d:decide ((i:Int)<(l.length:Int))=false:=by rw [decide_eq_false_iff_not]; omega
   have e:i=l.length:=by omega
   rw [if_neg (by rw [d]; decide),e]
   simp
def qK (s:ab)(r:Int):ao:=⟨(fb s.aa r).kind,(fb s.aa r).int,(fb s.aa r).label,(fb s.aa r).args.map (rp s.ae)⟩
theorem GA (hm:16000≤m)(v:Inv s){n:Int}(h:Rg s.aa.length n):a7.f m s n=some (qK s n):=by
 obtain⟨a1,a2⟩:=v.args _ (jT h)
 have hc:Dy 1 (fb s.aa n).args=some (fb s.aa n).args:=by unfold Dy; rw [if_pos (by omega)]
 have:=xA (m:=m) hm v a1 a2 m 0 (U5 _) (by omega)
 have this:a7.l0 m s (fb s.aa n).args m (fb s.aa n).args 0=_:=this
 simp only [a7.f,vn h,Ua,hc,this]
 rfl
theorem Bc (hm:2000000≤m)(v:Inv s)(n:Int):cm.f m s n=some (if Rg s.aa.length n then (qK s (rp s.ae n),0) else (⟨0,0,⟨#[]⟩,[]⟩,1)):=by
 unfold cm.f
 rw [vp hm v.made [n] (by simp)]
 by_cases h:Rg s.aa.length n
 ·simp [h,AN (m:=m) (by omega) v h,GA (m:=m) (by omega) v (v.cn.rg n h)]
 ·simp [h]
theorem Bd (hm:2 ^ 41≤m)(l:List aL)(hl:Small l){n:Int}(hn:Rg s.aa.length n)(hv:gf s.aa (rp s.ae n)):∀(k i:Nat) (a:ab),i≤l.length→l.length - i<k→Inv2 a→kJ s a→∃z,bm.l0 m n l (qK s (rp s.ae n),0) k (i:Int) a=some (.inr z)
 | 0,i,a,h1,h2,_,_=>by omega
 | k+1,i,a,h1,h2,v,kp=>by
  have xk:(2:Nat) ^ 41=2199023255552:=by decide
  simp only [bm.l0]
  have h60:=hl.1
  by_cases hi:i<l.length
  ·have d:decide ((i:Int)<(l.length:Int))=true:=by rw [decide_eq_true_eq]; omega
   have eg:=Uj hi
   generalize l[i]=x at eg
   have ew:i64.wrap ((i:Int)+1)=((i+1:Nat):Int):=by rw [mU (by omega) (by omega)]; omega
   obtain⟨e,a',e1,d1,d2,_⟩:=Lp hm v x (hl.2 x (Ut eg))
   have O2:=kp.trans d2
   have J1:Rg a'.aa.length n:=⟨hn.1,by have:=hn.2; have:=O2.1; omega⟩
   obtain⟨t1,t2,t3,t4⟩:=O2.2 n hn hv
   rw [if_pos d,B5 eg]
   simp only [Ua,ew,e1,Bc (show 2000000≤m by omega) d1.inv,if_pos J1]
   have f1:(qK a' (rp a'.ae n)).kind=(qK s (rp s.ae n)).kind:=t1.symm
   have f2:(qK a' (rp a'.ae n)).int=(qK s (rp s.ae n)).int:=t2.symm
   have f3:(qK a' (rp a'.ae n)).label.data.toList=(qK s (rp s.ae n)).label.data.toList:=t3.symm
   have f4:(qK a' (rp a'.ae n)).args.length=(qK s (rp s.ae n)).args.length:=by
    show (List.map _ _).length=(List.map _ _).length
    rw [Ux,Ux]; exact t4.symm
   rw [f1,f2,f3,f4]
   simp only [BEq.rfl,Vo,Um,if_false]
   exact Bd hm l hl hn hv k (i+1) a' (by omega) (by omega) d1 O2
  ·have d:decide ((i:Int)<(l.length:Int))=false:=by rw [decide_eq_false_iff_not]; omega
   rw [if_neg (by rw [d]; decide)]
   exact⟨_,rfl⟩
theorem Ci (hm:2 ^ 63≤m)(l:List aL)(n:Int)(more:List aL)(h1:l.length<2 ^ 63)(h2:more.length<2 ^ 63):bm.f m l n more=some true:=by
 have xk:(2:Nat) ^ 41=2199023255552:=by decide
 have S3:(2:Nat) ^ 63=9223372036854775808:=by decide
 have qa:2 ^ 41≤m:=by omega
 have S4:2000000≤m:=by omega
 unfold bm.f
 obtain⟨b,e1,g1⟩:=Ba hm l h1
 rw [e1,Ua]
 cases b with
 | true=>rfl
 | false=>
  obtain⟨b,e2,g2⟩:=Ba hm more h2
  rw [if_neg (by decide),e2,Ua]
  cases b with
  | true=>rfl
  | false=>
   obtain⟨s,e3,v⟩:=Jb qa l (g1 rfl)
   have T8:=(g2 rfl).1
   rw [if_neg (by decide),e3]
   simp only [Ua,dW.f,Bc S4 v.inv]
   by_cases hn:Rg s.aa.length n
   ·rw [if_pos hn,if_neg (by simp)]
    by_cases hk:(fb s.aa (rp s.ae n)).kind=0
    ·rw [if_pos (by show ((fb s.aa (rp s.ae n)).kind==0)=true; rw [hk]; rfl)]
    ·rw [if_neg (by show ¬((fb s.aa (rp s.ae n)).kind==0)=true; simpa using hk)]
     obtain⟨z,e4⟩:=Bd qa more (g2 rfl) hn hk m 0 s (U5 _) (by omega) v (kJ.refl s)
     have e4:bm.l0 m n more (qK s (rp s.ae n),0) m 0 s=some (.inr z):=e4
     rw [e4]; rfl
   ·rw [if_neg hn,if_pos (by simp)]
end
end Go.Proofs.Ytifafejidnjckaa
namespace Go.Proofs.Ytifafejidnjckaa
open Go Go.R
open Go.IntKind (i64 u64 u8 u32)
def Nf (xs ys:List AV):Prop:=cw xs=true∧dh xs=ys
theorem tY:∀a b:List AV,cw (a++b)=(cw a&&cw b)
 | [],b=>rfl
 | x::a,b=>by rw [UM,cw,cw,tY,Bool.and_assoc]
theorem tZ:∀a b:List AV,dh (a++b)=dh a++dh b
 | [],b=>rfl
 | x::a,b=>by rw [UM,dh,dh,tZ,UM]
theorem Nf.app {a b c d:List AV}(h:Nf a c)(k:Nf b d):Nf (a++b) (c++d):=⟨by rw [tY,h.1,k.1]; rfl,by rw [tZ,h.2,k.2]⟩
theorem Nf.nil:Nf [] []:=⟨rfl,rfl⟩
theorem Nf.cons {x y:AV}{b d:List AV}(h:x.dM=true)(h2:x.iS=y)(k:Nf b d):Nf (x::b) (y::d):=⟨by simp [cw,h,k.1],by simp [dh,h2,k.2]⟩
theorem xB {α:Type}{E:bL α}{Pr:α→Prop}:∀{els:List (List AV)},(∀el∈els,∃a,Nf el (E.f a)∧Pr a)→∃l:List α,Nf els.flatten (E.l l)∧l.length=els.length∧∀a∈l,Pr a
 | [],_=>⟨[],Nf.nil,rfl,fun a ha=>by cases ha⟩
 | el::els,h=>by
  obtain⟨a,h1,h2⟩:=h el (by simp)
  obtain⟨l,h3,h4,h5⟩:=xB (E:=E) (Pr:=Pr) (els:=els) fun e he=>h e (by simp [he])
  refine⟨a::l,?_,by simp [h4],fun x hx=>?_⟩
  ·rw [List.flatten_cons,bL.eo]; exact h1.app h3
  ·rcases UA.1 hx with rfl | hx
   ·exact h2
   ·exact h5 x hx
def xC {α:Type}(E:bL α)(x:AV)(l:List α):Prop:=x.dM=true∧x.iS=E.fz l∧(x = .nils∨∃cs n b,x = .fz cs n b)∧l.length≤maxLen
theorem xC.fr {α:Type}{E:bL α}{x:AV}{l:List α}(h:xC E x l)(hp:AHeap):j5 0 hp x (E.fz l):=kY h.1 (by rcases h.2.2.1 with rfl | ⟨cs,n,b,rfl⟩<;>exact fun _=>rfl) h.2.1
theorem zb {α:Type}{E:bL α}{Pr:α→Prop}{n t e:Nat}{xs:List AV}(ht:Try.prog.underlying t=some (.slice e))(h:Fits Try.prog (n+1) t xs)
  (he:∀el,Fits Try.prog n e el→∃a,Nf el (E.f a)∧Pr a):∃x l,xs=[x]∧xC E x l∧∀a∈l,Pr a:=by
 unfold Fits at h
 rw [ht] at h
 rcases h with rfl | ⟨els,rfl,h1,h⟩
 ·exact⟨_,[],rfl,⟨rfl,rfl,.inl rfl,U5 _⟩,fun a ha=>by cases ha⟩
 ·obtain⟨l,⟨h2,h3⟩,h4,h5⟩:=xB (E:=E) (Pr:=Pr) fun el Ke=>he el (h el Ke).2
  refine⟨_,l,rfl,⟨by simpa [AV.dM] using h2,?_,.inr ⟨_,_,_,rfl⟩,by omega⟩,h5⟩
  show AV.fz (dh els.flatten) els.length false=_
  rw [h3,←h4]; rfl
theorem mC {n:Nat}{xs:List AV}(h:Fits Try.prog (n+1) 3 xs):∃z:Int,xs=[.int .i64 z]:=by
 unfold Fits at h
 rw [Try.underlying3] at h
 obtain⟨z,rfl,_⟩:=h
 exact⟨z,rfl⟩
theorem Be {n:Nat}{xs:List AV}(h:Fits Try.prog (n+1) 9 xs):∃s:ByteArray,xs=[.str s]:=by
 unfold Fits at h
 rw [Try.underlying9] at h
 obtain⟨s,hs,_⟩:=h
 exact⟨s,hs⟩
theorem xD {n:Nat}{xs:List AV}(h:Fits Try.prog (n+2) 33 xs):∃x l,xs=[x]∧xC af x l:=by
 obtain⟨x,l,e,h,_⟩:=zb (E:=af) (Pr:=fun _=>True) Try.underlying33 h fun el h=>by
  obtain⟨z,rfl⟩:=mC h
  exact⟨z,⟨rfl,rfl⟩,trivial⟩
 exact⟨x,l,e,h⟩
theorem E3 {n:Nat}{xs:List AV}(h:Fits Try.prog (n+3) 51 xs):∃v:ao,Nf xs (ah.f v):=by
 unfold Fits at h
 rw [Try.underlying51] at h
 obtain⟨a,b,rfl,_,h1,h⟩:=h
 obtain⟨c,d,rfl,_,h2,h⟩:=h
 obtain⟨e,f,rfl,_,h3,h⟩:=h
 obtain⟨g,k,rfl,_,h4,h⟩:=h
 have h:k=[]:=h
 subst h
 obtain⟨z1,rfl⟩:=mC h1
 obtain⟨z2,rfl⟩:=mC h2
 obtain⟨s,rfl⟩:=Be h3
 obtain⟨x,l,rfl,hx⟩:=xD h4
 exact⟨⟨z1,z2,s,l⟩,Nf.cons rfl rfl (Nf.cons rfl rfl (Nf.cons rfl rfl (Nf.cons hx.1 hx.2.1 Nf.nil)))⟩
theorem Cj {n:Nat}{xs:List AV}(h:Fits Try.prog (n+4) 40 xs):∃x l,xs=[x]∧xC ah x l:=by
 obtain⟨x,l,e,h,_⟩:=zb (E:=ah) (Pr:=fun _=>True) Try.underlying40 h fun el h=>by
  obtain⟨v,hv⟩:=E3 h
  exact⟨v,hv,trivial⟩
 exact⟨x,l,e,h⟩
def E4 (xs:List AV)(x:aL):Prop:=∃A T,xs=[.int .i64 x.er,.int .i64 x.sS,.int .i64 x.BS,.str x.eu,A,T,.int .i64 x.va.root]∧xC af A x.ff∧xC ah T x.va.nodes
theorem GB {n:Nat}{xs:List AV}(h:Fits Try.prog (n+6) 44 xs):∃x,E4 xs x:=by
 unfold Fits at h
 rw [Try.underlying44] at h
 obtain⟨a,b,rfl,_,h1,h⟩:=h
 obtain⟨c,d,rfl,_,h2,h⟩:=h
 obtain⟨e,f,rfl,_,h3,h⟩:=h
 obtain⟨g,k,rfl,_,h4,h⟩:=h
 obtain⟨i,j,rfl,_,h5,h⟩:=h
 obtain⟨o,p,rfl,_,h6,h⟩:=h
 have h:p=[]:=h
 subst h
 obtain⟨z1,rfl⟩:=mC h1
 obtain⟨z2,rfl⟩:=mC h2
 obtain⟨z3,rfl⟩:=mC h3
 obtain⟨s,rfl⟩:=Be h4
 obtain⟨x,l,rfl,hx⟩:=xD h5
 have h6:Fits Try.prog (n+5) 42 o:=h6
 unfold Fits at h6
 rw [Try.underlying42] at h6
 obtain⟨q,r,rfl,_,h7,h6⟩:=h6
 obtain⟨t,u,rfl,_,h8,h6⟩:=h6
 have h6:u=[]:=h6
 subst h6
 obtain⟨y,ns,rfl,hy⟩:=Cj h7
 obtain⟨z4,rfl⟩:=mC h8
 exact⟨⟨z1,z2,z3,s,l,⟨ns,z4⟩⟩,x,y,rfl,hx,hy⟩
theorem E4.nf {xs:List AV}{x:aL}(h:E4 xs x):Nf xs (aO.f x):=by
 obtain⟨A,T,rfl,hA,hT⟩:=h
 exact Nf.cons rfl rfl (Nf.cons rfl rfl (Nf.cons rfl rfl (Nf.cons rfl rfl (Nf.cons hA.1 hA.2.1 (Nf.cons hT.1 hT.2.1 (Nf.cons rfl rfl Nf.nil))))))
theorem E5 {n:Nat}{xs:List AV}(h:Fits Try.prog (n+7) 22 xs):∃x l,xs=[x]∧xC aO x l:=by
 obtain⟨x,l,e,h,_⟩:=zb (E:=aO) (Pr:=fun _=>True) Try.underlying22 h fun el h=>by
  obtain⟨v,hv⟩:=GB h
  exact⟨v,hv.nf,trivial⟩
 exact⟨x,l,e,h⟩
theorem Ck:maxLen<2 ^ 63:=by decide
theorem xE {n:Nat}{xs:List AV}(h:Fits Try.prog (n+7) 22 xs):∃l:List aL,l.length<2 ^ 63∧∀hp,j5 10 hp (jy Try.prog 22 xs) (aO.fz l):=by
 obtain⟨x,l,rfl,hx⟩:=E5 h
 have e1:jy Try.prog 22 [x]=x:=by unfold jy; rw [Try.underlying22]; rfl
 rw [e1]
 exact⟨l,Nat.lt_of_le_of_lt hx.2.2.2 Ck,fun hp=>(hx.fr hp).mono (by decide)⟩
theorem GC {n:Nat}{xs:List AV}(h:Fits Try.prog (n+1) 3 xs):∃z:Int,∀hp,j5 10 hp (jy Try.prog 3 xs) (.int .i64 z):=by
 obtain⟨z,rfl⟩:=mC h
 have e1:jy Try.prog 3 [.int .i64 z] = .int .i64 z:=by unfold jy; rw [Try.underlying3]; rfl
 rw [e1]
 exact⟨z,fun hp=>br.mono (by decide)⟩
theorem Co {P:Program}{m:Nat}{t u v:TypeId}{uM:List AV}(h:og P m [t,u,v] uM):∃xs ys zs,uM=[jy P t xs,jy P u ys,jy P v zs]∧Fits P m t xs∧Fits P m u ys∧Fits P m v zs:=by
 match uM,h with
 | [_,_,_],⟨⟨xs,h1,f1⟩,⟨ys,h2,f2⟩,⟨zs,h3,f3⟩,_⟩=>exact⟨xs,ys,zs,by rw [h1,h2,h3],f1,f2,f3⟩
end Go.Proofs.Ytifafejidnjckaa
namespace Go.R
open Go
def Hl:AHeap:={get:=fun _=>none,ver:=fun _=>0,next:=2}
section
variable {P:Program}
theorem alone {cf:CallF}(hcf:CallOK P cf){f:FuncId}{us:List AV}{h0:AHeap}{r1:AV}{h1:AHeap}(hx:cf f us h0=some (r1,h1))(hg:∀id,h0.get id=none)(Fp:∀id,h0.ver id<h0.next)
  {L0:Nat→Prop} {c:Cx} {vs:List Value} (hb0:c.base≤c.w.heap.size) (hrel:HRel c L0) (rI:VRs ⟨fun _=>(0,0),h0,c.w,c.w.heap.size⟩ L0 us vs) {r:AV} (hr:∀(c1 d:Cx) (v:Value),VR c1 L0 r1 v→VR d L0 r v) :
  Calls P f vs.toArray c.w fun e w'=>∃c' v,e = .returned v∧c'.w=w'∧c'.h=c.h∧VR c' L0 r v∧HRel c' L0∧Ext c none0 c' none0:=by
 obtain⟨hin,hcall⟩:=hcf f us h0 r1 h1 hx
 let c0:Cx:=⟨fun _=>(0,0),h0,c.w,c.w.heap.size⟩
 have hnl:∀id,¬Live c0.h id:=fun id hl=>by have:=hl.2; rw [show c0.h.get id=none from hg id] at this; cases this
 have vB:∀id o,¬c0.h.get id=some o:=fun id o ho=>by rw [show c0.h.get id=none from hg id] at ho; cases ho
 have rH:HRel c0 L0:=⟨fun id o ho=>absurd ho (vB id o),fun id o ho=>absurd ho (vB id o),fun id _ hl _ _=>absurd hl (hnl id),fun id hl=>absurd hl (hnl id),hrel.bd,fun id hl=>absurd hl (hnl id),Fp⟩
 refine (hcall L0 c0 vs rfl (Ue _) rH rI).mono ?_
 rintro e w' ⟨c1,v,rfl,rfl,Js,hv,hrel1,e1⟩
 let d:Cx:=⟨c.β,c.h,c1.w,c.base⟩
 have hk:∀b,b<c.w.heap.size→c1.w.heap[b]? = c.w.heap[b]?:=fun b hb=>e1.exact b hb
 have ed:Ext c none0 d none0:=⟨Ue _,fun id _ hl=>⟨hl,rfl,gN.len (c:=c) (c':=d) (.inl (hk _ (hrel.block hl)))⟩,e1.size,fun b hb _ _=>.inl (hk b hb),fun b hb=>hk b (Uz hb hb0),rfl,fun id hl=>.inr ⟨id,hl,rfl⟩,fun _ h=>h,fun _ h=>.inl h,e1.os,e1.tape,e1.output⟩
 refine⟨d,v,rfl,rfl,rfl,hr c1 d v hv,⟨hrel.lt,fun id o ho=>?_,hrel.inj,hrel.out,fun b hb=>Uz (hrel.bd b hb) e1.size,hrel.low,hrel.ver⟩,ed⟩
 have hl:Live c.h id:=⟨hrel.lt _ _ ho,by rw [ho]; rfl⟩
 have:=(hrel.obj id o ho)
 have h2:=nP.ext (L0:=L0) ed (b:=(c.β id).1) (base:=(c.β id).2) (o:=o) (by rw [gQ]; exact this) (hk _ (hrel.block hl))
 rw [gQ] at h2
 exact h2
def Jc (P:Program)(t:TypeId)(z:Nat):Bool:=
 match P.underlying t with
 | some (.slice e)=>match P.info? e with
  | some i=>UL i.size z&&Vv i.bytes 1000&&GK i
  | none=>false
 | _=>false
theorem xF {t:TypeId}{z:Nat}(T:Jc P t z=true)(hz:z≠0){h:AHeap}{x:AV}{n:Nat}{cs:List AV}(hn:n≠0)(hb:n*1024≤1099511627776)(hx:fc h z x=some (cs,n))(hs:ie P t x=true):dq P h t t (.fz [] 0 true) x=some (.rs h.next 0 n z,h.alloc (.cells cs)):=by
 unfold Jc at T
 split at T
 rotate_left
 ·cases T
 rename_i e he
 split at T
 rotate_left
 ·cases T
 rename_i i hi
 simp only [Ud] at T
 obtain⟨⟨h1,h2⟩,h3⟩:=T
 have h1:=Vb h1
 have h2:=Nat.le_of_ble_eq_true h2
 subst h1
 have hq:n*i.bytes≤n*1000:=Nat.mul_le_mul_left n h2
 simp only [dq,he,Ua,hi,hx]
 rw [if_neg (by simp [hz,hs,h3]),if_neg (by simp only [gg,Uy,UD]; omega),if_neg hn]
 simp
theorem ub {z:Nat}:∀args h r h',xL z args h=some (r,h')→Steady h h':=by
 intro args h r h' hs
 unfold xL at hs
 split at hs
 ·cases hs; exact Steady.refl _
 ·split at hs
  ·cases hs; exact Steady.refl _
  ·split at hs
   ·cases hs; exact Steady.put _ _ _
   ·cases hs
 ·split at hs
  ·cases hs; exact Steady.refl _
  ·rw [T9] at hs
   obtain⟨ob,_,hs⟩:=hs
   split at hs
   ·split at hs
    ·cases hs; exact Steady.put _ _ _
    ·cases hs
   ·cases hs
 ·cases hs
theorem Hm {cf:CallF}(hcf:CallOK P cf){F:FuncId}{t:TypeId}{z:Nat}(T:Jc P t z=true)(hz:z≠0)
  (h0:cf F [.nils] bz=some (.nils,bz)) (h1:cf F [.rs 1 0 0 z] Hl=some (.rs 0 0 0 z,Hl))
  (h2:∀(c:AV) (cs:List AV) (n:Nat) (ex:Bool) (h:AHeap) (i k w:Nat) (h':AHeap),dq P h t t (.fz [] 0 true) (.fz (c::cs) n ex)=some (.rs i 0 k w,h')→cf F [.fz (c::cs) n ex] h=some (.rs i 0 k w,h'))
  (h3:∀(j n q:Nat) (h:AHeap) (i k w:Nat) (h':AHeap),dq P h t t (.fz [] 0 true) (.rs (j+1) 0 n q)=some (.rs i 0 k w,h')→cf F [.rs (j+1) 0 n q] h=some (.rs i 0 k w,h'))
  (gk:∀x,(∀st,x≠.str st)→ie P t x=true) :
  CallOK P fun f' args h=>if f'=F then xL z args h else none:=by
 intro f args h r h' hc
 dsimp only at hc
 split at hc
 rotate_left
 ·cases hc
 rename_i hf
 subst hf
 refine⟨(hcf f _ _ _ _ h0).1,fun L0 c vs hh hb0 hrel hargs=>?_⟩
 have empty:∀(v:Value),(∃a cap,v = .slice a 0 cap∧(a=none→cap=0))→Calls P f #[v] c.w fun e w'=>∃c' v,e = .returned v∧c'.w=w'∧c'.h=c.h∧VR c' L0 (.rs 0 0 0 z) v∧HRel c' L0∧Ext c none0 c' none0:=by
  rintro v ⟨a,cap,rfl,ha⟩
  cases a with
  | none=>
   have:=ha rfl
   subst this
   refine alone (vs:=[.slice none 0 0]) hcf h0 (fun _=>rfl) (fun _=>Vx) hb0 hrel ⟨rfl,trivial⟩ (fun c1 d v hv=>?_)
   simp only [VR] at hv ⊢
   exact .inl ⟨trivial,trivial,trivial,none,hv⟩
  | some ad=>
   refine alone (vs:=[.slice (some ad) 0 cap]) hcf h1 (fun _=>rfl) (fun _=>Nat.zero_lt_succ 1) hb0 hrel ⟨?_,trivial⟩ (fun c1 d v hv=>?_)
   ·simp only [VR]
    exact .inr ⟨by decide,by decide,some ad,cap,rfl,U5 _,rfl,fun hl=>by have:=hl.2; cases this⟩
   ·simp only [VR] at hv ⊢
    rcases hv with hv | hv
    ·exact .inl hv
    ·exact absurd rfl hv.1
 match args,vs,hargs with
 | [],_,_=>simp [xL] at hc
 | x::y::l,_,_=>cases x<;>simp [xL] at hc
 | [x],[v],hargs=>
  have hx:VR c L0 x v:=hargs.1
  cases x<;>simp only [xL] at hc<;>try (cases hc; done)
  ·cases hc
   simp only [VR] at hx
   rw [←hh]
   exact empty v ⟨none,0,hx,fun _=>rfl⟩
  ·rename_i cs n ex
   split at hc
   ·rename_i hn
    cases hc
    subst hn
    simp only [VR] at hx
    obtain⟨a,cap,e,_,_,hs,_⟩:=hx
    rw [←hh]
    refine empty v ⟨a,cap,e,fun ha=>?_⟩
    rcases hs with hs | hs
    ·rw [ha] at hs; cases hs
    ·exact hs.2
   ·rename_i hn
    split at hc
    rotate_left
    ·cases hc
    rename_i hq
    cases hc
    cases cs with
    | nil=>
     have h4:0=n*z:=hq.1
     rcases Nat.mul_eq_zero.1 h4.symm with h5 | h5
     ·exact absurd h5 hn
     ·exact absurd h5 hz
    | cons c1 cs=>
     have Hv:fc h z (.fz (c1::cs) n ex)=some ((c1::cs).map ji,n):=by
      simp only [fc,dS]; rw [if_pos hq.1]; rfl
     have:=h2 c1 cs n ex h _ _ _ _ (xF T hz hn hq.2 Hv (gk _ (by rintro st h; cases h)))
     exact (hcf _ _ _ _ _ this).2 L0 c [v] hh hb0 hrel ⟨hx,trivial⟩
  ·rename_i id off n q
   cases off with
   | succ off=>simp [xL] at hc
   | zero=>
   simp only [xL] at hc
   split at hc
   ·rename_i hn
    cases hc
    subst hn
    simp only [VR] at hx
    rw [←hh]
    rcases hx with⟨_,_,_,a,e⟩| ⟨_,_,a,cap,e,_,hs,_⟩
    ·exact empty v ⟨a,0,e,fun _=>rfl⟩
    ·refine empty v ⟨a,cap,e,fun ha=>?_⟩
     rw [ha] at hs; cases hs
   ·rename_i hn
    rw [T9] at hc
    obtain⟨ob,ho,hc⟩:=hc
    split at hc
    rotate_left
    ·cases hc
    rename_i cs
    split at hc
    rotate_left
    ·cases hc
    rename_i hq
    cases hc
    have hid:id≠0:=by
     simp only [VR] at hx
     rcases hx with hx | hx
     ·exact absurd hx.2.2.1 hn
     ·exact hx.1
    obtain⟨j,rfl⟩:∃j,id=j+1:=⟨id - 1,by omega⟩
    have Hv:fc h z (.rs (j+1) 0 n q)=some ((cs.take (n*z)).map ji,n):=by
     simp only [fc,dS]
     rw [if_neg (fun hz=>hz.elim hid fun hz=>hn hz.1),ho]
     simp only [Ua]
     rw [if_pos ⟨hq.1,by omega⟩,US]; rfl
    have:=h3 j n q h _ _ _ _ (xF T hz hn hq.2.2 Hv (gk _ (by rintro st h; cases h)))
    exact (hcf _ _ _ _ _ this).2 L0 c [v] hh hb0 hrel ⟨hx,trivial⟩
 | [x],[],hargs=>exact hargs.elim
 | [x],_::_::_,hargs=>exact hargs.2.elim
end
end Go.R
namespace Go.Proofs.Ytifafejidnjckaa
open Go Go.R Go.Shelf
open Go.IntKind (i64 u64 u8 u32)
theorem fits:Fit Try.prog:=HO (by kernel_rfl) (by kernel_rfl)
def Jd:Ren:={f:=(fun x=>match x with | 189=>60 | 125=>77 | 257=>76 | 128=>95 | 129=>96 | 294=>86 | 295=>87 | 296=>88 | 297=>89 | 298=>90 | 299=>91 | 216=>92 | 300=>93 | 301=>94 | 328=>100 | 329=>101 | 330=>102 | 331=>103 | 332=>104 | 215=>97 | 343=>107 | n=>n),t:=(fun x=>match x with | 28=>33 | 3=>3 | 46=>108 | 0=>0 | 51=>126 | 53=>128 | 4=>4 | 183=>119 | 182=>118 | 131=>103 | 5=>5 | 9=>9 | 218=>130 | 222=>134 | 228=>138 | 229=>139 | n=>n),g:=(fun n=>n)}
theorem Lq:Lays.n189 Try.prog Jd:={
 mixed:=by kernel_rfl,
 f125:=Try.func77.trans (congrArg some (by kernel_rfl)),
 f128:=Try.func95.trans (congrArg some (by kernel_rfl)),
 f129:=Try.func96.trans (congrArg some (by kernel_rfl)),
 f189:=Try.func60.trans (congrArg some (by kernel_rfl)),
 f215:=Try.func97.trans (congrArg some (by kernel_rfl)),
 f216:=Try.func92.trans (congrArg some (by kernel_rfl)),
 f257:=Try.func76.trans (congrArg some (by kernel_rfl)),
 f294:=Try.func86.trans (congrArg some (by kernel_rfl)),
 f295:=Try.func87.trans (congrArg some (by kernel_rfl)),
 f296:=Try.func88.trans (congrArg some (by kernel_rfl)),
 f297:=Try.func89.trans (congrArg some (by kernel_rfl)),
 f298:=Try.func90.trans (congrArg some (by kernel_rfl)),
 f299:=Try.func91.trans (congrArg some (by kernel_rfl)),
 f300:=Try.func93.trans (congrArg some (by kernel_rfl)),
 f301:=Try.func94.trans (congrArg some (by kernel_rfl)),
 f328:=Try.func100.trans (congrArg some (by kernel_rfl)),
 f329:=Try.func101.trans (congrArg some (by kernel_rfl)),
 f330:=Try.func102.trans (congrArg some (by kernel_rfl)),
 f331:=Try.func103.trans (congrArg some (by kernel_rfl)),
 f332:=Try.func104.trans (congrArg some (by kernel_rfl)),
 f343:=Try.func107.trans (congrArg some (by kernel_rfl)),
 t0:=Try.underlying0,
 a0:=Try.isAgg0,
 z0:=Try.sizeOf0,
 v0:=Try.zeroValue0,
 t3:=Try.underlying3,
 a3:=Try.isAgg3,
 z3:=Try.sizeOf3,
 v3:=Try.zeroValue3,
 t4:=Try.underlying4,
 a4:=Try.isAgg4,
 z4:=Try.sizeOf4,
 v4:=Try.zeroValue4,
 t5:=Try.underlying5,
 a5:=Try.isAgg5,
 z5:=Try.sizeOf5,
 v5:=Try.zeroValue5,
 t9:=Try.underlying9,
 a9:=Try.isAgg9,
 z9:=Try.sizeOf9,
 v9:=Try.zeroValue9,
 t28:=Try.underlying33,
 a28:=Try.isAgg33,
 z28:=Try.sizeOf33,
 v28:=Try.zeroValue33,
 t46:=Try.underlying108,
 a46:=Try.isAgg108,
 z46:=Try.sizeOf108,
 v46:=Try.zeroValue108,
 t51:=Try.underlying126,
 a51:=Try.isAgg126,
 z51:=Try.sizeOf126,
 v51:=Try.zeroValue126,
 t53:=Try.underlying128,
 a53:=Try.isAgg128,
 z53:=Try.sizeOf128,
 v53:=Try.zeroValue128,
 t131:=Try.underlying103,
 a131:=Try.isAgg103,
 z131:=Try.sizeOf103,
 v131:=Try.zeroValue103,
 t182:=Try.underlying118,
 a182:=Try.isAgg118,
 z182:=Try.sizeOf118,
 v182:=Try.zeroValue118,
 t183:=Try.underlying119,
 a183:=Try.isAgg119,
 z183:=Try.sizeOf119,
 v183:=Try.zeroValue119,
 t218:=Try.underlying130,
 a218:=Try.isAgg130,
 z218:=Try.sizeOf130,
 v218:=Try.zeroValue130,
 t222:=Try.underlying134,
 a222:=Try.isAgg134,
 z222:=Try.sizeOf134,
 v222:=Try.zeroValue134,
 t228:=Try.underlying138,
 a228:=Try.isAgg138,
 z228:=Try.sizeOf138,
 v228:=Try.zeroValue138,
 t229:=Try.underlying139,
 a229:=Try.isAgg139,
 z229:=Try.sizeOf139,
 v229:=Try.zeroValue139}
theorem Je:∀(vs:Array Value) (w:World),(callFunc (Jd.f 189) vs).run Try.prog w = .ok (.enter (Jd.f 189) vs) w:=
 lX (c:=b6 Try.f60) Try.func60 (by kernel_rfl) (by decide +kernel)
def pE:b4:=gK [0,2,4] [] [] [] []
def nl:mV:={aV:=fun _=>pE,intr:=fun _=>none,pure:=fun _=>none}
noncomputable def Lr:CallF:=ba Try.prog nl.aV (eA Try.prog nl 10 0) 10
theorem E6:CallOK Try.prog Lr:=wg fits (oe fits mH 10 0) (wq fits.mixed (oe fits mH 10 0) (kX mH 10 0)) 10
theorem GD (c:AV)(cs:List AV)(n:Nat)(ex:Bool)(h:AHeap)(i k w:Nat)(h':AHeap)(e:dq Try.prog h 40 40 (.fz [] 0 true) (.fz (c::cs) n ex)=some (.rs i 0 k w,h')):Lr 38 [.fz (c::cs) n ex] h=some (.rs i 0 k w,h'):=by
 have key:∃r h2,ba Try.prog nl.aV (eA Try.prog nl 10 0) 10 38 [.fz (c::cs) n ex] h=some (r,h2)∧r = .rs i 0 k w∧h2=h':=by
  refine ar (fn:=Try.f38) (A:=pE) rfl Try.func38 (by kernel_rfl) (by kernel_rfl) ?_
  refine aI (Q:=fun s=>aM Try.prog (s.open pE) Try.f38.results.toList=some (.rs i 0 k w)∧s.h=h') (fun _ _ ⟨h1,h2,h3⟩=>⟨h1,_,h2,rfl,h3⟩) ?_
  show dt _ _ pE _ _ ⟨[.fz (c::cs) n ex,.any,.any],[],h⟩ _
  refine q1 <| qq <| q1 <| Fh <| qk <| qs [.a 2 e] <| qt <| ⟨.inl rfl,by kernel_rfl,by kernel_rfl⟩
 obtain⟨r,h2,hb,rfl,rfl⟩:=key
 exact hb
theorem GF (j n q:Nat)(h:AHeap)(i k w:Nat)(h':AHeap)(e:dq Try.prog h 40 40 (.fz [] 0 true) (.rs (j+1) 0 n q)=some (.rs i 0 k w,h')):Lr 38 [.rs (j+1) 0 n q] h=some (.rs i 0 k w,h'):=by
 have key:∃r h2,ba Try.prog nl.aV (eA Try.prog nl 10 0) 10 38 [.rs (j+1) 0 n q] h=some (r,h2)∧r = .rs i 0 k w∧h2=h':=by
  refine ar (fn:=Try.f38) (A:=pE) rfl Try.func38 (by kernel_rfl) (by kernel_rfl) ?_
  refine aI (Q:=fun s=>aM Try.prog (s.open pE) Try.f38.results.toList=some (.rs i 0 k w)∧s.h=h') (fun _ _ ⟨h1,h2,h3⟩=>⟨h1,_,h2,rfl,h3⟩) ?_
  show dt _ _ pE _ _ ⟨[.rs (j+1) 0 n q,.any,.any],[],h⟩ _
  refine q1 <| qq <| q1 <| Fh <| qk <| qs [.a 2 e] <| qt <| ⟨.inl rfl,by kernel_rfl,by kernel_rfl⟩
 obtain⟨r,h2,hb,rfl,rfl⟩:=key
 exact hb
theorem Ls:∀x,(∀st,x≠.str st)→ie Try.prog 40 x=true:=by
 intro x hx
 cases x<;>first | exact absurd rfl (hx _) | kernel_rfl
theorem GG:CallOK Try.prog fun f args h=>if f=38 then xL 4 args h else none:=
 Hm E6 (F:=38) (t:=40) (z:=4) (by kernel_rfl) (by decide) (by kernel_rfl) (by kernel_rfl) GD GF Ls
theorem GH (c:AV)(cs:List AV)(n:Nat)(ex:Bool)(h:AHeap)(i k w:Nat)(h':AHeap)(e:dq Try.prog h 33 33 (.fz [] 0 true) (.fz (c::cs) n ex)=some (.rs i 0 k w,h')):Lr 39 [.fz (c::cs) n ex] h=some (.rs i 0 k w,h'):=by
 have key:∃r h2,ba Try.prog nl.aV (eA Try.prog nl 10 0) 10 39 [.fz (c::cs) n ex] h=some (r,h2)∧r = .rs i 0 k w∧h2=h':=by
  refine ar (fn:=Try.f39) (A:=pE) rfl Try.func39 (by kernel_rfl) (by kernel_rfl) ?_
  refine aI (Q:=fun s=>aM Try.prog (s.open pE) Try.f39.results.toList=some (.rs i 0 k w)∧s.h=h') (fun _ _ ⟨h1,h2,h3⟩=>⟨h1,_,h2,rfl,h3⟩) ?_
  show dt _ _ pE _ _ ⟨[.fz (c::cs) n ex,.any,.any],[],h⟩ _
  refine q1 <| qq <| q1 <| Fh <| qk <| qs [.a 2 e] <| qt <| ⟨.inl rfl,by kernel_rfl,by kernel_rfl⟩
 obtain⟨r,h2,hb,rfl,rfl⟩:=key
 exact hb
theorem GI (j n q:Nat)(h:AHeap)(i k w:Nat)(h':AHeap)(e:dq Try.prog h 33 33 (.fz [] 0 true) (.rs (j+1) 0 n q)=some (.rs i 0 k w,h')):Lr 39 [.rs (j+1) 0 n q] h=some (.rs i 0 k w,h'):=by
 have key:∃r h2,ba Try.prog nl.aV (eA Try.prog nl 10 0) 10 39 [.rs (j+1) 0 n q] h=some (r,h2)∧r = .rs i 0 k w∧h2=h':=by
  refine ar (fn:=Try.f39) (A:=pE) rfl Try.func39 (by kernel_rfl) (by kernel_rfl) ?_
  refine aI (Q:=fun s=>aM Try.prog (s.open pE) Try.f39.results.toList=some (.rs i 0 k w)∧s.h=h') (fun _ _ ⟨h1,h2,h3⟩=>⟨h1,_,h2,rfl,h3⟩) ?_
  show dt _ _ pE _ _ ⟨[.rs (j+1) 0 n q,.any,.any],[],h⟩ _
  refine q1 <| qq <| q1 <| Fh <| qk <| qs [.a 2 e] <| qt <| ⟨.inl rfl,by kernel_rfl,by kernel_rfl⟩
 obtain⟨r,h2,hb,rfl,rfl⟩:=key
 exact hb
theorem Lt:∀x,(∀st,x≠.str st)→ie Try.prog 33 x=true:=by
 intro x hx
 cases x<;>first | exact absurd rfl (hx _) | kernel_rfl
theorem GJ:CallOK Try.prog fun f args h=>if f=39 then xL 1 args h else none:=
 Hm E6 (F:=39) (t:=33) (z:=1) (by kernel_rfl) (by decide) (by kernel_rfl) (by kernel_rfl) GH GI Lt
noncomputable def Hn:FuncId→Option (List AV→AHeap→Option (AV × AHeap)):=fun f=>if f=60 then some H6 else if f=38 then some (xL 4) else if f=39 then some (xL 1) else none
theorem E7:IntrOK Try.prog Hn:=intr_cons (f0:=60) (Kt Lq Je) BQ (intr_cons (f0:=38) GG ub (intr_cons (f0:=39) GJ ub mH))
end Go.Proofs.Ytifafejidnjckaa
namespace Go.Proofs.Ytifafejidnjckaa
open Go Go.R
open Go.IntKind (i64 u64 u8 u32)
def cN:Nat→b4
 | 7=>Ee
 | 10=>wX
 | 11=>{keep:=[0,1,2,3,4,5,6,7,8,9,10,11,12,13,14,16,17,19,22,25],aE:=[]}
 | 12=>xe
 | 14=>gK [0,1,4,5,10,14,25] [] [124,108,123,116,84,116,52,123,123] [] []
 | 16=>Au
 | 17=>AH
 | 18=>gK [0,2,5] [] [6,2,5,5] [] []
 | 20=>Av
 | 23=>Aw
 | 24=>gK [0,1,4,5,6,12] [] [60,44,12,51,51] [] []
 | 26=>zP
 | 27=>Aa
 | 28=>AB
 | 29=>Ab
 | 30=>Ak
 | 31=>tO
 | 32=>wY
 | 33=>Am
 | 34=>Ax
 | 35=>An
 | 36=>sm
 | 37=>zQ
 | 40=>xa
 | 41=>wZ
 | 43=>AG
 | 44=>AD
 | 46=>AF
 | 47=>zR
 | 48=>zS
 | 49=>Ay
 | 50=>Ao
 | 51=>zT
 | 52=>Ac
 | 53=>Ad
 | 54=>zU
 | 55=>zV
 | 56=>Ae
 | 57=>xb
 | 58=>Af
 | 59=>zW
 | 60=>{keep:=[0,2],aE:=[]}
 | 61=>Ap
 | 62=>zX
 | 63=>Ag
 | 64=>zY
 | 65=>Ah
 | 66=>Az
 | 67=>Aq
 | 70=>Ar
 | 72=>oH
 | 73=>w0
 | 74=>xc
 | 75=>w7
 | 78=>w8
 | 79=>zZ
 | 80=>Ai
 | 81=>w9
 | 82=>Aj
 | 83=>AE
 | 84=>As
 | 85=>z6
 | 97=>z7
 | 98=>z8
 | 99=>sk
 | 105=>pv
 | 106=>lk
 | 108=>sc
 | 109=>sa
 | _=>{keep:=[],aE:=[]}
def bg:Nat:=18014398509481984
theorem bh:iu+bQ≤bg:=by decide
def Lu:Nat→Option Nat
 | 7=>some bg
 | 10=>some bg
 | 11=>some bg
 | 14=>some bg
 | 18=>some bg
 | 20=>some bg
 | 24=>some bg
 | 30=>some bg
 | 33=>some bg
 | 37=>some bg
 | 40=>some bg
 | 41=>some bg
 | 43=>some bg
 | 44=>some bg
 | 46=>some bg
 | 48=>some bg
 | 49=>some bg
 | 50=>some bg
 | 51=>some bg
 | 52=>some bg
 | 53=>some bg
 | 54=>some bg
 | 55=>some bg
 | 58=>some bg
 | 59=>some bg
 | 61=>some bg
 | 62=>some bg
 | 63=>some bg
 | 64=>some bg
 | 65=>some bg
 | 66=>some bg
 | 67=>some bg
 | 70=>some bg
 | 72=>some bg
 | 74=>some bg
 | 75=>some bg
 | 78=>some bg
 | 79=>some bg
 | 80=>some bg
 | 81=>some bg
 | 82=>some bg
 | 84=>some bg
 | 85=>some bg
 | 97=>some bg
 | 98=>some bg
 | _=>none
def Jf:Nat→Bool
 | 20=>true
 | 33=>true
 | 40=>true
 | 43=>true
 | 46=>true
 | _=>false
def M:Nat:=18446744073709551616
noncomputable def bD:mV:={aV:=cN,intr:=Hn,pure:=Lu,dX:=Jf}
noncomputable def cW:CallF:=iz Try.prog bD M
theorem Jg:CallOK Try.prog cW:=Dw fits (T:=bD) E7
theorem S5:PE cW M:=fun args h=>rX (T:=bD) rfl
theorem QE:Nd cW M:=fun args h=>rX (T:=bD) rfl
end Go.Proofs.Ytifafejidnjckaa
namespace Go.Proofs.Ytifafejidnjckaa
open Go Go.R
open Go.IntKind (i64 u64 u8 u32)
theorem Cp:(ba Try.prog cN (eA Try.prog bD M 98) M 11 [] bz).map (fun x=>x.1)=some (.bool true):=by kernel_rfl
theorem S8:PD cW M:=by
 intro r H h xs hx
 have H:some true=some r:=H
 cases H
 obtain⟨⟨x,h'⟩,hb,e⟩:=Ub.1 Cp
 dsimp only at e
 subst e
 obtain⟨l,h1,h2⟩:=jg (P:=Try.prog) cN M 11 [] bz _ _ hb
 have hb:=h2 cW fun e he=>ky.2 ⟨_,h1 e he⟩
 exact bw (T:=bD) (deep:=bg) rfl rfl rfl bh hx ⟨_,_,hb,du (aD)⟩
end Go.Proofs.Ytifafejidnjckaa
namespace Go.Proofs.Ytifafejidnjckaa
open Go Go.R
open Go.IntKind (i64 u64 u8 u32)
theorem S9:PF cW M:=by
 intro l0 r H  h xs hx
 exact bw (T:=bD) (deep:=bg) rfl rfl rfl bh hx (pn (cf:=cW) (m:=M) (aV:=cN) rfl  l0 bz []   aX H)
theorem Ta:PG cW M:=by
 intro  r H h L   o  xs hx
 obtain⟨r',h',hb,dI,fV,fW,rfl,ho⟩:=r9 (cf:=cW) (m:=M) (aV:=cN) rfl   h L  o H
 exact⟨dI,fV,fW,h',gw (T:=bD) rfl rfl hx hb,ho⟩
theorem QF:Ng cW M:=by
 intro s0 aF r H h L  aq ak an o  xs hx
 obtain⟨r',h',hb,aB,aC,rfl,ho⟩:=lE (cf:=cW) (m:=M) (aV:=cN) rfl  s0 aF h L aq ak an  o H
 exact⟨aB,aC,h',gw (T:=bD) rfl rfl hx hb,ho⟩
theorem O3:LH cW M:=by
 intro s0 r H  h xs hx
 exact bw (T:=bD) (deep:=bg) rfl rfl rfl bh hx (lF (cf:=cW) (m:=M) (aV:=cN) rfl  s0 bz []   aX H)
theorem O4:Jv cW M:=by
 intro s0 n0 r H  h xs hx
 exact bw (T:=bD) (deep:=bg) rfl rfl rfl bh hx (mg (cf:=cW) (m:=M) (aV:=cN) rfl  s0 n0 bz []   aX H)
theorem Lv:Jw cW M:=by
 intro s0 DO n0 r H h L  aq ak an o eB aQ bT qo gI oz gJ xs hx
 obtain⟨r',h',hb,aB,aC,rfl,ho⟩:=mh (cf:=cW) (m:=M) (aV:=cN) rfl O3 s0 DO n0 h L aq ak an eB aQ bT  qo gI oz gJ o H
 exact⟨aB,aC,h',gw (T:=bD) rfl rfl hx hb,ho⟩
theorem Tb:PH cW M:=by
 intro  r H  h xs hx
 exact bw (T:=bD) (deep:=bg) rfl rfl rfl bh hx (la (cf:=cW) (m:=M) (aV:=cN) rfl   bz []   aX H)
theorem Tc:PI cW M:=by
 intro x0 r H  h xs hx
 exact bw (T:=bD) (deep:=bg) rfl rfl rfl bh hx (lb (cf:=cW) (m:=M) (aV:=cN) rfl  x0 bz []   aX H)
theorem QG:Nh cW M:=by
 intro s0 n0 r H  h xs hx
 exact bw (T:=bD) (deep:=bg) rfl rfl rfl bh hx (ld (cf:=cW) (m:=M) (aV:=cN) rfl  s0 n0 bz []   aX H)
theorem Td:Ni cW M:=by
 intro a0 b0 r H  h xs hx
 exact bw (T:=bD) (deep:=bg) rfl rfl rfl bh hx (oA (cf:=cW) (m:=M) (aV:=cN) rfl  a0 b0 bz []   aX H)
theorem QH:Nj cW M:=by
 intro s0 n0 r H  h xs hx
 exact bw (T:=bD) (deep:=bg) rfl rfl rfl bh hx (lG (cf:=cW) (m:=M) (aV:=cN) rfl  s0 n0 bz []   aX H)
theorem Te:PJ cW M:=by
 intro a0 x0 r H  h xs hx
 exact bw (T:=bD) (deep:=bg) rfl rfl rfl bh hx (jD (cf:=cW) (m:=M) (aV:=cN) rfl QG a0 x0 bz []   aX H)
theorem QI:Nk cW M:=by
 intro s0 r H  h xs hx
 exact bw (T:=bD) (deep:=bg) rfl rfl rfl bh hx (qp (cf:=cW) (m:=M) (aV:=cN) rfl  s0 bz []   aX H)
theorem QJ:∀kk,LI cW M kk
 | 0=>by
  intro i0 x0 x1 x2 x3 r H h L  cQ dk cR cy dR en cZ cF o  xs hx
  cases H
 | kk+1=>by
  intro i0 x0 x1 x2 x3 r H h L  cQ dk cR cy dR en cZ cF o  xs hx
  obtain⟨r',h',hb,lA,gW,rfl,ho⟩:=oB (cf:=cW) (m:=M) (aV:=cN) rfl  i0 x0 x1 x2 x3 h L cQ dk cR cy dR en cZ cF  (QJ kk) o H
  exact⟨lA,gW,h',gw (T:=bD) rfl rfl hx hb,ho⟩
theorem QK:Nq cW M:=by
 intro s0 f0 r H eB aQ gI gJ h xs hx
 exact bw (T:=bD) (deep:=bg) rfl rfl rfl bh hx (vd (cf:=cW) (m:=M) (aV:=cN) rfl  s0 f0 bz [] eB aQ  gI gJ aX H)
theorem Tf:PK cW M:=by
 intro s0 f0 r H eB aQ gI gJ h xs hx
 exact bw (T:=bD) (deep:=bg) rfl rfl rfl bh hx (ve (cf:=cW) (m:=M) (aV:=cN) rfl  s0 f0 bz [] eB aQ  gI gJ aX H)
theorem Tg:PL cW M:=by
 intro a0 x0 r H  h xs hx
 exact bw (T:=bD) (deep:=bg) rfl rfl rfl bh hx (pq (cf:=cW) (m:=M) (aV:=cN) rfl  a0 x0 bz []   aX H)
theorem Th:PM cW M:=by
 intro fY r H  h xs hx
 exact bw (T:=bD) (deep:=bg) rfl rfl rfl bh hx (qu (cf:=cW) (m:=M) (aV:=cN) rfl  fY bz []   aX H)
theorem Tk:Nr cW M:=by
 intro c0 r H  h xs hx
 exact bw (T:=bD) (deep:=bg) rfl rfl rfl bh hx (pt (cf:=cW) (m:=M) (aV:=cN) rfl  c0 bz []   aX H)
theorem Tl:PN cW M:=by
 intro x0 r H  h xs hx
 exact bw (T:=bD) (deep:=bg) rfl rfl rfl bh hx (nE (cf:=cW) (m:=M) (aV:=cN) rfl  x0 bz []   aX H)
theorem Tm:PO cW M:=by
 intro x0 r H  h xs hx
 exact bw (T:=bD) (deep:=bg) rfl rfl rfl bh hx (lH (cf:=cW) (m:=M) (aV:=cN) rfl  x0 bz []   aX H)
theorem O5:Il cW M:=by
 intro aw a0 b0 aS r H h L ca aH o p6 fB eG BW yG yH BX xs hx
 have hn0:ca=aw.length:=cD (E:=af) o (q:=0) rfl
 subst hn0
 obtain⟨r',h',hb,rfl,ho⟩:=mQ (cf:=cW) (m:=M) (aV:=cN) rfl  aw a0 b0 aS h L aH p6 fB eG  BW yG yH BX o H
 exact⟨h',gw (T:=bD) rfl rfl hx hb,ho⟩
theorem O6:Ip cW M:=by
 intro aw a0 b0 n0 aS r H h L ca aH o eC aY aT gy gT gU iv xs hx
 have hn0:ca=aw.length:=cD (E:=af) o (q:=0) rfl
 subst hn0
 obtain⟨r',h',hb,rfl,ho⟩:=qv (cf:=cW) (m:=M) (aV:=cN) rfl  aw a0 b0 n0 aS h L aH eC aY aT  gy gT gU iv o H
 exact⟨h',gw (T:=bD) rfl rfl hx hb,ho⟩
theorem Tn:PQ cW M:=by
 intro s0 r H h L  aq ak an o  xs hx
 obtain⟨r',h',hb,aB,aC,rfl,ho⟩:=mj (cf:=cW) (m:=M) (aV:=cN) rfl Lv Tb s0 h L aq ak an  o H
 exact⟨aB,aC,h',gw (T:=bD) rfl rfl hx hb,ho⟩
theorem To:PR cW M:=by
 intro s0 n0 r H h L  aq ak an o  xs hx
 obtain⟨r',h',hb,aB,aC,rfl,ho⟩:=ml (cf:=cW) (m:=M) (aV:=cN) rfl Lv Tc s0 n0 h L aq ak an  o H
 exact⟨aB,aC,h',gw (T:=bD) rfl rfl hx hb,ho⟩
theorem Tp:PS cW M:=by
 intro s0 n0 r H  h L xs o hx
 obtain⟨r',h',hb,dI,rfl,ho⟩:=lf (cf:=cW) (m:=M) (aV:=cN) rfl QE O4 s0 n0 bz []   aX H
 exact⟨ni h.next dI,_,mf (T:=bD) (deep:=bg) rfl rfl rfl bh hx hb (u6 (cY (rfl) (cY (rfl) (cY (rfl) (cY (tH) (k9)))))),Has.dX o ho (zN (fun _=>rfl) (.nil)),kB _ _⟩
theorem O7:LJ cW M:=by
 intro s0 f0 r H eB aQ gI gJ h xs hx
 exact bw (T:=bD) (deep:=bg) rfl rfl rfl bh hx (qw (cf:=cW) (m:=M) (aV:=cN) rfl QK s0 f0 bz [] eB aQ  gI gJ aX H)
theorem Tq:PT cW M:=by
 intro n0 x0 r H  h xs hx
 exact bw (T:=bD) (deep:=bg) rfl rfl rfl bh hx (j8 (cf:=cW) (m:=M) (aV:=cN) rfl QG n0 x0 bz []   aX H)
theorem Tr:Nv cW M:=by
 intro s0 a0 b0 r H h L  aq ak an o  xs hx
 obtain⟨r',h',hb,aB,aC,rfl,ho⟩:=lI (cf:=cW) (m:=M) (aV:=cN) rfl QH s0 a0 b0 h L aq ak an  o H
 exact⟨aB,aC,h',gw (T:=bD) rfl rfl hx hb,ho⟩
theorem Ts:PU cW M:=by
 intro s0 j9 r H h L Ge aH o eB aQ bT qo gI oz gJ xs hx
 have hn0:Ge=s0.length:=cD (E:=af) o (q:=0) rfl
 subst hn0
 obtain⟨r',h',hb,rfl,ho⟩:=sX (cf:=cW) (m:=M) (aV:=cN) rfl QK s0 j9 h L aH eB aQ bT  qo gI oz gJ o H
 exact⟨h',gw (T:=bD) rfl rfl hx hb,ho⟩
theorem Tt:PV cW M:=by
 intro n0 x0 r H  h xs hx
 exact bw (T:=bD) (deep:=bg) rfl rfl rfl bh hx (ka (cf:=cW) (m:=M) (aV:=cN) rfl QH n0 x0 bz []   aX H)
theorem Tu:PW cW M:=by
 intro x0 x1 r H  h xs hx
 exact bw (T:=bD) (deep:=bg) rfl rfl rfl bh hx (kC (cf:=cW) (m:=M) (aV:=cN) rfl QI x0 x1 bz []   aX H)
theorem Tv:PX cW M:=by
 intro s0 f0 r H eB aQ gI gJ h xs hx
 exact bw (T:=bD) (deep:=bg) rfl rfl rfl bh hx (qy (cf:=cW) (m:=M) (aV:=cN) rfl Tf s0 f0 bz [] eB aQ  gI gJ aX H)
theorem Tw:PY cW M:=by
 intro s0 kb nj r H  h xs hx
 exact bw (T:=bD) (deep:=bg) rfl rfl rfl bh hx (sb (cf:=cW) (m:=M) (aV:=cN) rfl Tk s0 kb nj bz []   aX H)
theorem Tx:PZ cW M:=by
 intro x0 y0 r H  h xs hx
 exact bw (T:=bD) (deep:=bg) rfl rfl rfl bh hx (mn (cf:=cW) (m:=M) (aV:=cN) rfl Tl x0 y0 bz []   aX H)
theorem Ty:P3 cW M:=by
 intro x0 y0 r H  h xs hx
 exact bw (T:=bD) (deep:=bg) rfl rfl rfl bh hx (kD (cf:=cW) (m:=M) (aV:=cN) rfl Tm x0 y0 bz []   aX H)
theorem O8:KE cW M:=by
 intro aw a0 m0 b0 aS r H h L ca aH o eC aY aT gy gT gU iv xs hx
 have hn0:ca=aw.length:=cD (E:=af) o (q:=0) rfl
 subst hn0
 obtain⟨r',h',hb,rfl,ho⟩:=vg (cf:=cW) (m:=M) (aV:=cN) rfl O6 aw a0 m0 b0 aS h L aH eC aY aT  gy gT gU iv o H
 exact⟨h',gw (T:=bD) rfl rfl hx hb,ho⟩
theorem O9:LK cW M:=by
 intro s0 l0 r H  h xs hx
 exact bw (T:=bD) (deep:=bg) rfl rfl rfl bh hx (lg (cf:=cW) (m:=M) (aV:=cN) rfl O3 O7 Tq s0 l0 bz []   aX H)
theorem QL:NC cW M:=by
 intro s0 a0 b0 r H h L  aq ak an o  xs hx
 obtain⟨r',h',hb,dI,aB,aC,rfl,ho⟩:=kE (cf:=cW) (m:=M) (aV:=cN) rfl O4 Td Tr s0 a0 b0 h L aq ak an  o H
 exact⟨dI,aB,aC,h',gw (T:=bD) rfl rfl hx hb,ho⟩
theorem QM:NK cW M:=by
 intro s0 aF r H  h L xs o hx
 obtain⟨r',h',hb,dI,rfl,ho⟩:=lj (cf:=cW) (m:=M) (aV:=cN) rfl Ts Tt S5 s0 aF bz []   aX H
 exact⟨ni h.next dI,_,mf (T:=bD) (deep:=bg) rfl rfl rfl bh hx hb (tH),Has.dX o ho (zN (fun _=>rfl) (.nil)),kB _ _⟩
theorem Tz:P5 cW M:=by
 intro s0 b8 n0 r H h L  aq ak an o  xs hx
 obtain⟨r',h',hb,aB,aC,rfl,ho⟩:=lJ (cf:=cW) (m:=M) (aV:=cN) rfl Lv Tu s0 b8 n0 h L aq ak an  o H
 exact⟨aB,aC,h',gw (T:=bD) rfl rfl hx hb,ho⟩
theorem Pa:LL cW M:=by
 intro s0 r H  h xs hx
 exact bw (T:=bD) (deep:=bg) rfl rfl rfl bh hx (se (cf:=cW) (m:=M) (aV:=cN) rfl Tw s0 bz []   aX H)
theorem TA:P6 cW M:=by
 intro x0 x1 x2 r H  h xs hx
 exact bw (T:=bD) (deep:=bg) rfl rfl rfl bh hx (kc (cf:=cW) (m:=M) (aV:=cN) rfl Pa O7 Te x0 x1 x2 bz []   aX H)
theorem TB:P7 cW M:=by
 intro n0 lB r H  h xs hx
 exact bw (T:=bD) (deep:=bg) rfl rfl rfl bh hx (sf (cf:=cW) (m:=M) (aV:=cN) rfl Pa O7 QI Tg n0 lB bz []   aX H)
theorem QN:LN cW M:=by
 intro a0 b0 r H  h xs hx
 exact bw (T:=bD) (deep:=bg) rfl rfl rfl bh hx (mq (cf:=cW) (m:=M) (aV:=cN) rfl Tx Th Ty a0 b0 bz []   aX H)
theorem TC:P8 cW M:=by
 intro i0 j0 x0 r H  h xs hx
 exact bw (T:=bD) (deep:=bg) rfl rfl rfl bh hx (mR (cf:=cW) (m:=M) (aV:=cN) rfl QN i0 j0 x0 bz []   aX H)
theorem Lw:∀kk,sY cW M kk
 | 0=>by
  intro aw a0 m0 b0 aS r H h L ca aH o eC aY aT gy gT gU iv xs hx
  cases H
 | kk+1=>by
  intro aw a0 m0 b0 aS r H h L ca aH o eC aY aT gy gT gU iv xs hx
  have hn0:ca=aw.length:=cD (E:=af) o (q:=0) rfl
  subst hn0
  obtain⟨r',h',hb,rfl,ho⟩:=sj (cf:=cW) (m:=M) (aV:=cN) rfl O8 aw a0 m0 b0 aS h L aH eC aY aT  (Lw kk) gy gT gU iv o H
  exact⟨h',gw (T:=bD) rfl rfl hx hb,ho⟩
theorem TD:P9 cW M:=by
 intro s0 a0 b0 r H h L  aq ak an o  xs hx
 obtain⟨r',h',hb,dI,aB,aC,rfl,ho⟩:=ll (cf:=cW) (m:=M) (aV:=cN) rfl O9 QL QF QM s0 a0 b0 h L aq ak an  o H
 exact⟨dI,aB,aC,h',gw (T:=bD) rfl rfl hx hb,ho⟩
theorem TE:NZ cW M:=by
 intro s0 n0 r H  h L xs o hx
 obtain⟨r',h',hb,dI,rfl,ho⟩:=ln (cf:=cW) (m:=M) (aV:=cN) rfl O9 Tp O4 s0 n0 bz []   aX H
 exact⟨ni h.next dI,_,mf (T:=bD) (deep:=bg) rfl rfl rfl bh hx hb (DH (cY (u6 (cY (rfl) (cY (rfl) (cY (rfl) (cY (tH) (k9)))))) (cY (rfl) (k9)))),Has.dX o ho (zN (fun _=>rfl) (.nil)),kB _ _⟩
theorem TF:Qa cW M:=by
 intro s0 a0 b0 r H h L  aq ak an o  xs hx
 obtain⟨r',h',hb,Cz,aB,aC,rfl,ho⟩:=lK (cf:=cW) (m:=M) (aV:=cN) rfl O9 QL QF QM s0 a0 b0 h L aq ak an  o H
 exact⟨Cz,aB,aC,h',gw (T:=bD) rfl rfl hx hb,ho⟩
theorem TG:Qb cW M:=by
 intro s0 b8 dj r H h L  aq ak an o  xs hx
 obtain⟨r',h',hb,aB,aC,rfl,ho⟩:=lq (cf:=cW) (m:=M) (aV:=cN) rfl QE Lv TA s0 b8 dj h L aq ak an  o H
 exact⟨aB,aC,h',gw (T:=bD) rfl rfl hx hb,ho⟩
theorem TH:Qc cW M:=by
 intro x0 r H  h xs hx
 exact bw (T:=bD) (deep:=bg) rfl rfl rfl bh hx (kG (cf:=cW) (m:=M) (aV:=cN) rfl Pa x0 bz []   aX H)
theorem TI:Qd cW M:=by
 intro n0 x0 r H  h xs hx
 exact bw (T:=bD) (deep:=bg) rfl rfl rfl bh hx (oF (cf:=cW) (m:=M) (aV:=cN) rfl TB n0 x0 bz []   aX H)
theorem TJ:Qe cW M:=by
 intro aw n0 aS r H h L ca aH o kH dn cM mT qB qC qD xs hx
 have hn0:ca=aw.length:=cD (E:=af) o (q:=0) rfl
 subst hn0
 obtain⟨r',h',hb,rfl,ho⟩:=vj (cf:=cW) (m:=M) (aV:=cN) rfl O5 (Lw _) aw n0 aS h L aH kH dn cM  mT qB qC qD o H
 exact⟨h',gw (T:=bD) rfl rfl hx hb,ho⟩
theorem TK:Qf cW M:=by
 intro s0 a0 r H h L  aq ak an o  xs hx
 obtain⟨r',h',hb,aB,aC,rfl,ho⟩:=lL (cf:=cW) (m:=M) (aV:=cN) rfl Lv TH s0 a0 h L aq ak an  o H
 exact⟨aB,aC,h',gw (T:=bD) rfl rfl hx hb,ho⟩
theorem TL:Qg cW M:=by
 intro t0 r H  h xs hx
 exact bw (T:=bD) (deep:=bg) rfl rfl rfl bh hx (qE (cf:=cW) (m:=M) (aV:=cN) rfl Tv TI t0 bz []   aX H)
theorem TM:Qh cW M:=by
 intro x0 aS r H h L Ea aH o eB aQ bT qo gI oz gJ xs hx
 have hn0:Ea=x0.length:=cD (E:=af) o (q:=0) rfl
 subst hn0
 obtain⟨r',h',hb,rfl,ho⟩:=oG (cf:=cW) (m:=M) (aV:=cN) rfl TJ x0 aS h L aH eB aQ bT  qo gI oz gJ o H
 exact⟨h',gw (T:=bD) rfl rfl hx hb,ho⟩
theorem TN:Qi cW M:=by
 intro aJ r H  h xs hx
 exact bw (T:=bD) (deep:=bg) rfl rfl rfl bh hx (oI (cf:=cW) (m:=M) (aV:=cN) rfl QN TM TC aJ bz []   aX H)
theorem TO:Qm cW M:=by
 intro t0 r H  h L xs o hx
 obtain⟨r',h',hb,dI,eF,rfl,ho⟩:=qF (cf:=cW) (m:=M) (aV:=cN) rfl TN (QJ _) t0 bz []   aX H
 exact⟨ni h.next dI,eF.map (ni h.next),_,mf (T:=bD) (deep:=bg) rfl rfl rfl bh hx hb (u6 (cY (tH) (cY (rfl) (k9)))),Has.dX o ho (G8 (yA .nil)),kB _ _⟩
theorem TP:Qn cW M:=by
 intro t0 r H  h L xs o hx
 obtain⟨r',h',hb,dI,eF,rfl,ho⟩:=qG (cf:=cW) (m:=M) (aV:=cN) rfl TL TO t0 bz []   aX H
 exact⟨ni h.next dI,eF.map (ni h.next),_,mf (T:=bD) (deep:=bg) rfl rfl rfl bh hx hb (DH (cY (u6 (cY (tH) (cY (rfl) (k9)))) (cY (rfl) (k9)))),Has.dX o ho (G8 (yA .nil)),kB _ _⟩
theorem TQ:Qo cW M:=by
 intro s0 t0 r H h L  aq ak an o  xs hx
 obtain⟨r',h',hb,aB,aC,rfl,ho⟩:=mu (cf:=cW) (m:=M) (aV:=cN) rfl O3 TP s0 t0 h L aq ak an  o H
 exact⟨aB,aC,h',gw (T:=bD) rfl rfl hx hb,ho⟩
theorem QP:KW cW M:=by
 intro s0 x0 r H h L  aq ak an o  xs hx
 obtain⟨r',h',hb,aB,aC,rfl,ho⟩:=sZ (cf:=cW) (m:=M) (aV:=cN) rfl TD TF Tn TK To TG Tz TQ s0 x0 h L aq ak an  o H
 exact⟨aB,aC,h',gw (T:=bD) rfl rfl hx hb,ho⟩
theorem TR:Qp cW M:=by
 intro l0 r H h L   o  xs hx
 obtain⟨r',h',hb,dI,fV,fW,rfl,ho⟩:=qH (cf:=cW) (m:=M) (aV:=cN) rfl QP Ta l0 h L  o H
 exact⟨dI,fV,fW,h',gw (T:=bD) rfl rfl hx hb,ho⟩
theorem j7:S7 cW M:=by
 intro l0 n0 db r H  h xs hx
 exact bw (T:=bD) (deep:=bg) rfl rfl rfl bh hx (mw (cf:=cW) (m:=M) (aV:=cN) rfl S9 S8 TR QP TE l0 n0 db bz []   aX H)
end Go.Proofs.Ytifafejidnjckaa
namespace Go.Proofs.Ytifafejidnjckaa
open Go Go.R Go.Proofs Go.RowKit Go.ChangeShapes Go.WideShapes
open Go.IntKind (i64 u64 u8 u32)
theorem all_true (uM:List AV)(h:og Try.prog 7 Try.f7.params.toList uM):∃cf h',CallOK Try.prog cf∧cf 7 uM bz=some (.bool true,h'):=by
 rw [show Try.f7.params.toList=[22,3,22] from by rw [Try.params7]] at h
 obtain⟨xs,ys,zs,rfl,h1,h2,h3⟩:=Co h
 obtain⟨l,hl,fl⟩:=xE (n:=0) h1
 obtain⟨a,fa⟩:=GC (n:=6) h2
 obtain⟨k,hk,fk⟩:=xE (n:=0) h3
 exact⟨cW,bz,Jg,j7 l a k true (Ci (by decide) l a k hl hk) bz _ (gm (ai (fl bz) (ai (fa bz) (ai (fk bz) (ay)))))⟩
theorem pF (os:Os)(started:os.Started)(H:Type)(enc:TypeId × Value→H) :
  ReturnsInHanded {} Try.checked os 7 .any (Rows.storeOnceSpec.pre6 enc Try.prog Try.f7 Rows.storeOnceRow.domain false) (Rows.storeOnceSpec.post enc Try.prog Try.f7 false true false false):=by
 refine returnsInHanded_of_change (C:=Try.checked) (by kernel_rfl) started (by kernel_rfl) Try.func7
  (ChangeSpec.witness6 (enc:=enc) (C:=Try.checked) false ⟨#[],#[.slice none 0 0,.int .i64 0,.slice none 0 0],[]⟩ 8 (by kernel_rfl) (by kernel_rfl) (by kernel_rfl) (by kernel_rfl)) ?_
 intro W base args ds gs before dJ hW TS _
 exact sO (cf:=fun _ _ _=>none) (P:=Try.prog) (m:=7) (tb:=4) (by kernel_rfl)
  (by rw [show Try.f7.params.toList=[22,3,22] from by rw [Try.params7]]; intro t ht; simp only [UA,List.not_mem_nil,or_false] at ht; rcases ht with rfl | rfl | rfl<;>exact⟨by kernel_rfl,of_decide_eq_true (by kernel_rfl)⟩)
  (by rw [show Try.f7.params.toList=[22,3,22] from by rw [Try.params7]]; intro t ht; simp only [UA,List.not_mem_nil,or_false] at ht; rcases ht with rfl | rfl | rfl<;>kernel_rfl) rfl rfl Try.underlying4
  (fun ds HD=>by
   have:ds.length=3:=by rw [HD]; rfl
   match ds,this with
   | [d0,d1,d2],_=>rfl) all_true dJ hW
theorem storeOnce_holds:Rows.StoreOnceSaid:=
 OpenClaim.holds_of_wide 7 Try.f7 rfl rfl rfl rfl rfl rfl rfl ⟨rfl,rfl,rfl,rfl,rfl⟩ rfl rfl rfl rfl rfl (by kernel_rfl) Try.func7 (by kernel_rfl)
  (of_decide_eq_true (by kernel_rfl)) (by unfold Func.isWrapper; first | (rw [if_pos (by decide +kernel)]; kernel_rfl) | (rw [if_neg (by decide +kernel)]; exact⟨rfl,rfl⟩))
  (fun os started H enc _=>pF os started H enc)
end Go.Proofs.Ytifafejidnjckaa
