/- Proved: StoreFailed returns true for every input; no condition. -/
import Derived.Test.YtifafejidnjckaaK12
import Derived.Test.YtifafejidnjckaaChecked
import Derived.Test.YtifafejidnjckaaRows
set_option linter.unusedVariables false
set_option linter.unusedSimpArgs false
set_option maxRecDepth 100000
open Bool renaming and_eq_true → Ui, false_eq_true → Up, not_true → Vd, not_eq_true' → Vl
open Int renaming toNat_natCast → Ur, natCast_nonneg → Vx
open List renaming getElem?_eq_getElem → Un, length_append → Uo, drop_eq_getElem_cons → Us, length_cons → Ut, getElem?_append_left → Uu, append_assoc → Uv, mem_of_getElem? → Ux, getElem?_append_right → Uz, getD_eq_getElem?_getD → UA, length_map → UB, mem_singleton → UE, mem_cons → UF, length_nil → UG, mem_append → UJ, map_append → UK, getElem?_eq_none → UN, cons_append → UQ, mem_map → US, drop_zero → UX, take_succ_eq_append_getElem → Vc, length_take → Vi, getElem?_of_mem → Vj, append_nil → VC, range → VG
open Nat renaming le_refl → Uj, zero_add → UC, lt_of_lt_of_le → UD, beq → UP, zero_le → U8, eq_of_beq_eq_true → Vf, ble → Vz, zero_lt_one → VB, sub_self → VK
open Option renaming bind_eq_some_iff → Ud, bind_some → Ue, map_eq_some_iff → Ug
namespace Go.Uf
open Go Go.R
open Go.IntKind (i64 u64 u8 u32)
def fA (a L:Nat):List Int:=(VG L).map fun i=>((a+i:Nat):Int)
theorem my (a L:Nat):(fA a L).length=L:=by simp [fA]
theorem tX (a L:Nat):fA a (L+1)=fA a L++[((a+L:Nat):Int)]:=by
 unfold fA; rw [List.range_succ,UK]; rfl
theorem EY {to:List Int}(o:Fm to):∀L,Fm (to++fA to.length L)∧(∀n,Rg to.length n→rp (to++fA to.length L) n=rp to n)∧∀n:Int,(to.length:Int)≤n→n<to.length+L→rp (to++fA to.length L) n=n
 | 0=>⟨by simpa [fA] using o,fun n _=>by simp [fA],fun n h1 h2=>by omega⟩
 | L+1=>by
  obtain⟨a,b,c⟩:=EY o L
  have hl:(to++fA to.length L).length=to.length+L:=by rw [Uo,my]
  have e:to++fA to.length (L+1)=(to++fA to.length L)++[(((to++fA to.length L).length:Nat):Int)]:=by
   rw [tX,←Uv,hl]
  obtain⟨g1,g2,g3⟩:=Lf a
  rw [←e] at g1 g2 g3
  refine⟨g1,fun n h=>?_,fun n h1 h2=>?_⟩
  ·rw [g2 n (by unfold Rg at h ⊢; rw [hl]; omega),b n h]
  ·by_cases h:n=to.length+L
   ·have:n=(((to++fA to.length L).length:Nat):Int):=by rw [hl]; omega
    rw [this]; exact g3
   ·rw [g2 n (by unfold Rg; rw [hl]; omega)]
    exact c n h1 (by omega)
theorem oM {N V:List aq}{n:Int}(h:Rg N.length n):gk (N++V) n=gk N n:=by
 have hl:n.toNat<N.length:=by have:=h.1; have:=h.2; omega
 unfold gk
 rw [UA,UA,Uu hl]
end Go.Uf
namespace Go.Proofs.Ytifafejidnjckaa
open Go Go.R Go.Uf
open Go.IntKind (i64 u64 u8 u32)
def oN (s s':ab):Prop:=s.aa.length≤s'.aa.length∧∀n,Rg s.aa.length n→gJ s.aa (rp s.ae n)→mr (gk s.aa (rp s.ae n)) (gk s'.aa (rp s'.ae n))
theorem mr.refl (a:aq):mr a a:=⟨rfl,rfl,rfl,rfl⟩
theorem oN.refl (s:ab):oN s s:=⟨Uj _,fun _ _ _=>mr.refl _⟩
section
variable {m:Nat}{s:ab}
theorem Inv2.more (v:Inv2 s)(V:List aq)(hV:∀x∈V,x.args.length≤8∧∀a∈x.args,Rg (s.aa.length+V.length) a)(hl:s.aa.length+V.length≤8000) :
  Inv2 ⟨s.aj,s.aa++V,s.ae++fA s.aa.length V.length⟩∧oN s ⟨s.aj,s.aa++V,s.ae++fA s.aa.length V.length⟩:=by
 have hlen:=v.inv.len
 obtain⟨g1,g2,g3⟩:=EY v.inv.ok V.length
 rw [hlen] at g1 g2 g3
 have hN:(s.aa++V).length=s.aa.length+V.length:=Uo
 have hc:∀n,Rg (s.aa++V).length n→Rg s.aa.length n∨((s.aa.length:Int)≤n∧n<s.aa.length+V.length):=fun n h=>by
  rw [hN] at h; unfold Rg at h ⊢; omega
 have up:∀n,Rg s.aa.length n→Rg (s.aa++V).length n:=fun n h=>by rw [hN]; unfold Rg at h ⊢; omega
 have old:∀n,Rg s.aa.length n→rp (s.ae++fA s.aa.length V.length) n=rp s.ae n:=g2
 have new:∀n:Int,(s.aa.length:Int)≤n→n<s.aa.length+V.length→rp (s.ae++fA s.aa.length V.length) n=n:=g3
 refine⟨⟨⟨v.inv.made,?_,by show (s.aa++V).length≤8000; omega,g1,⟨fun n h=>?_,fun n h=>?_,fun n h=>?_⟩,?_⟩,?_⟩,?_,fun n h hv=>?_⟩
 ·show (_++_:List Int).length=_
  rw [Uo,my,hN,hlen]
 ·show Rg _ (rp (s.ae++fA s.aa.length V.length) n)
  rcases hc n h with h | ⟨h1,h2⟩
  ·rw [old n h]; exact up _ (v.inv.cn.rg n h)
  ·rw [new n h1 h2]; exact h
 ·show rp (s.ae++_) (rp (s.ae++fA s.aa.length V.length) n)=rp (s.ae++_) n
  rcases hc n h with h | ⟨h1,h2⟩
  ·rw [old n h,old _ (v.inv.cn.rg n h),v.inv.cn.id n h]
  ·rw [new n h1 h2,new n h1 h2]
 ·show Bt (s.aa++V) (rp (s.ae++fA s.aa.length V.length) n) n
  rcases hc n h with h | ⟨h1,h2⟩
  ·rw [old n h]
   have:=v.inv.cn.bt n h
   unfold Bt gJ at this ⊢
   rw [oM h,oM (v.inv.cn.rg n h)]; exact this
  ·rw [new n h1 h2]; exact Bt.refl
 ·intro x hx
  rcases UJ.1 hx with hx | hx
  ·obtain⟨a1,a2⟩:=v.inv.args x hx
   exact⟨a1,fun a ha=>up a (a2 a ha)⟩
  ·obtain⟨a1,a2⟩:=hV x hx
   exact⟨a1,fun a ha=>by show Rg (s.aa++V).length a; rw [hN]; exact a2 a ha⟩
 ·intro x y hx hy he vx vy
  have he:rp (s.ae++fA s.aa.length V.length) x=rp (s.ae++fA s.aa.length V.length) y:=he
  rcases hc x hx with hx1 | ⟨x1,x2⟩<;>rcases hc y hy with JH | ⟨y1,y2⟩
  ·rw [old x hx1,old y JH] at he
   have wx:gk (s.aa++V) x=gk s.aa x:=oM hx1
   have wy:gk (s.aa++V) y=gk s.aa y:=oM JH
   have S8:gJ s.aa x:=by unfold gJ at vx ⊢; rw [←wx]; exact vx
   have S9:gJ s.aa y:=by unfold gJ at vy ⊢; rw [←wy]; exact vy
   obtain⟨t,q⟩:=v.cl x y hx1 JH he S8 S9
   show mr (gk (s.aa++V) x) (gk (s.aa++V) y)∧∀(i:Nat) (a b:Int),(gk (s.aa++V) x).args[i]? = some a→(gk (s.aa++V) y).args[i]? = some b→rp (s.ae++fA s.aa.length V.length) a=rp (s.ae++fA s.aa.length V.length) b
   rw [wx,wy]
   refine⟨t,fun i a b ha hb=>?_⟩
   rw [old a ((v.inv.args _ (lh hx1)).2 a (Ux ha)),old b ((v.inv.args _ (lh JH)).2 b (Ux hb))]
   exact q i a b ha hb
  ·rw [old x hx1,new y y1 y2] at he
   have:=(v.inv.cn.rg x hx1).2
   omega
  ·rw [old y JH,new x x1 x2] at he
   have:=(v.inv.cn.rg y JH).2
   omega
  ·rw [new x x1 x2,new y y1 y2] at he
   subst he
   refine⟨mr.refl _,fun i a b ha hb=>?_⟩
   rw [ha] at hb; cases hb; rfl
 ·show s.aa.length≤(s.aa++V).length
  omega
 ·show mr _ (gk (s.aa++V) (rp (s.ae++fA s.aa.length V.length) n))
  rw [old n h,oM (v.inv.cn.rg n h)]
  exact mr.refl _
def EZ (s s':ab)(e:Int):Prop:=Inv2 s'∧oN s s'∧(e≠0→s'=s)
theorem EZ.none (v:Inv2 s)(e:Int):EZ s s e:=⟨v,oN.refl s,fun _=>rfl⟩
theorem xy (hm:2000000≤m)(v:Inv2 s)(r:Bool)(n:aq)(h:r=true→n.args.length≤8∧∀a∈n.args,Rg s.aa.length a):∃k e s',bZ.f m s (some r) n=some (k,e,s')∧EZ s s' e:=by
 have n3:=v.inv.max
 unfold bZ.f bA.f
 rw [v.inv.made]
 simp only [Ue,Vd,Up,if_false]
 cases r with
 | false=>exact⟨_,_,_,rfl,EZ.none v _⟩
 | true=>
  obtain⟨h1,h2⟩:=h rfl
  rw [if_neg (by decide)]
  by_cases hl:s.aa.length≥8000
  ·rw [if_pos (by rw [decide_eq_true_eq]; omega)]
   exact⟨_,_,_,rfl,EZ.none v _⟩
  rw [if_neg (by rw [decide_eq_true_eq]; omega)]
  have key:∀i:Int,∃k e s',(((app 56 s.aa [(⟨n.kind,i,n.label,n.args⟩:aq)]).bind fun x1=>(app 8 s.ae [(s.aa.length:Int)]).bind fun x2=>some ((s.aa.length:Int),(0:Int),(ab.mk true x1 x2)))=some (k,e,s'))∧EZ s s' e:=by
   intro i
   rw [yQ (by simp only [Ut,UG]; omega),Ue,yQ (by have:=v.inv.len; simp only [Ut,UG]; omega),Ue]
   obtain⟨w1,w2⟩:=v.more [⟨n.kind,i,n.label,n.args⟩] (fun x hx=>by
    simp only [UE] at hx
    subst hx
    exact⟨h1,fun a ha=>by have:=h2 a ha; unfold Rg at this ⊢; simp only [Ut,UG]; omega⟩) (by simp only [Ut,UG]; omega)
   have es:fA s.aa.length 1=[(s.aa.length:Int)]:=by simp [fA]
   have w1:Inv2 ⟨s.aj,s.aa++[⟨n.kind,i,n.label,n.args⟩],s.ae++fA s.aa.length 1⟩:=w1
   have w2:oN s ⟨s.aj,s.aa++[⟨n.kind,i,n.label,n.args⟩],s.ae++fA s.aa.length 1⟩:=w2
   rw [es,v.inv.made] at w1 w2
   exact⟨_,_,_,rfl,w1,w2,fun h=>absurd rfl h⟩
  simp only [jn]
  by_cases hk:n.kind=0
  ·rw [if_pos (by rw [hk]; rfl)]; exact key _
  ·rw [if_neg (by simpa using hk)]; exact key _
end
end Go.Proofs.Ytifafejidnjckaa
namespace Go.Proofs.Ytifafejidnjckaa
open Go Go.R Go.Uf
open Go.IntKind (i64 u64 u8 u32)
section
variable {m:Nat}{s:ab}
theorem GI (hm:2 ^ 41≤m)(t:bu):(∃r,fP.f m t=some (r,0)∧A4 r.nodes)∨∃r,fP.f m t=some (r,2):=by
 have Jb:(2:Nat) ^ 30=1073741824:=by decide
 have xO:(2:Nat) ^ 41=2199023255552:=by decide
 unfold fP.f
 rw [yZ (by omega),Ue]
 cases h:kc t with
 | false=>exact .inr ⟨_,rfl⟩
 | true=>
  obtain⟨r,R,e,hv,_⟩:=Cd hm h
  rw [if_neg (by simp),e]
  exact .inl ⟨_,rfl,(pF hv).1⟩
theorem E0 {v:aq}(a8:v.args.length≤8)(aR:∀a∈v.args,0≤a∧a<8000)(hN:s.aa.length≤8000)(s2:ab):∀(k i:Nat),i≤v.args.length→v.args.length - i<k→
  aA.l1 m s v k (i:Int) ((v.args.take i).map (· + (s.aa.length:Int))++v.args.drop i) s2=some ((v.args.length:Int),v.args.map (· + (s.aa.length:Int)),s2)∧
  aA.l2 m s v k (i:Int) ((v.args.take i).map (· + (s.aa.length:Int))++v.args.drop i) s2=some ((v.args.length:Int),v.args.map (· + (s.aa.length:Int)),s2)
 | 0,i,h1,h2=>by omega
 | k+1,i,h1,h2=>by
  simp only [aA.l1,aA.l2]
  by_cases hi:i<v.args.length
  ·have d:decide ((i:Int)<(v.args.length:Int))=true:=by rw [decide_eq_true_eq]; omega
   have hl:((v.args.take i).map (· + (s.aa.length:Int))).length=i:=by rw [UB,Vi]; omega
   have ed:v.args.drop i=v.args[i]::v.args.drop (i+1):=Us hi
   have et:v.args.take (i+1)=v.args.take i++[v.args[i]]:=Vc hi
   have eg:((v.args.take i).map (· + (s.aa.length:Int))++v.args.drop i)[i]? = some v.args[i]:=by
    rw [Uz (by omega),hl,VK,ed]; rfl
   have es:((v.args.take i).map (· + (s.aa.length:Int))++v.args.drop i).set i (v.args[i]+(s.aa.length:Int))=(v.args.take (i+1)).map (· + (s.aa.length:Int))++v.args.drop (i+1):=by
    rw [List.set_append_right _ _ (by omega),hl,VK,ed,et,UK,Uv]; rfl
   obtain⟨b1,b2⟩:=aR v.args[i] (List.getElem_mem hi)
   have ew:i64.wrap ((i:Int)+1)=((i+1:Nat):Int):=by rw [mR (by omega) (by omega)]; omega
   have ev:i64.wrap (v.args[i]+(s.aa.length:Int))=v.args[i]+(s.aa.length:Int):=mR (by omega) (by omega)
   rw [if_pos d,if_pos d,CA eg]
   simp only [Ue,ew,ev,Ur,es]
   exact E0 a8 aR hN s2 k (i+1) (by omega) (by omega)
  ·have d:decide ((i:Int)<(v.args.length:Int))=false:=by rw [decide_eq_false_iff_not]; omega
   have e:i=v.args.length:=by omega
   rw [if_neg (by rw [d]; decide),if_neg (by rw [d]; decide),e]
   simp
theorem E1 (hm:2000000≤m)(v:Inv2 s){x:bu × Int}(ok:A4 x.1.nodes)(hl:s.aa.length+x.1.nodes.length≤8000):∀(k i:Nat) (V:List aq),i≤x.1.nodes.length→x.1.nodes.length - i<k→V.length=i→(∀y∈V,y.args.length≤8∧∀a∈y.args,Rg (s.aa.length+x.1.nodes.length) a)→
  ∃V2:List aq,aA.l0 m s x k (i:Int) ⟨s.aj,s.aa++V,s.ae++fA s.aa.length i⟩=some ((x.1.nodes.length:Int),⟨s.aj,s.aa++V2,s.ae++fA s.aa.length x.1.nodes.length⟩)∧V2.length=x.1.nodes.length∧∀y∈V2,y.args.length≤8∧∀a∈y.args,Rg (s.aa.length+x.1.nodes.length) a
 | 0,i,V,h1,h2,_,_=>by omega
 | k+1,i,V,h1,h2,hV,hP=>by
  have hlen:=v.inv.len
  simp only [aA.l0]
  by_cases hi:i<x.1.nodes.length
  ·have d:decide ((i:Int)<(x.1.nodes.length:Int))=true:=by rw [decide_eq_true_eq]; omega
   have eg:=Un hi
   generalize x.1.nodes[i]=n at eg
   obtain⟨n8,nR⟩:=ok.2 n (Ux eg)
   have Ta:∀a∈n.args,0≤a∧a<8000:=fun a ha=>by have:=nR a ha; have:=ok.1; omega
   obtain⟨q1,q2⟩:=E0 (m:=m) (s:=s) n8 Ta (by omega) ⟨s.aj,s.aa++V,s.ae++fA s.aa.length i⟩ m 0 (U8 _) (by omega)
   have q1:aA.l1 m s n m 0 n.args ⟨s.aj,s.aa++V,s.ae++fA s.aa.length i⟩=_:=q1
   have q2:aA.l2 m s n m 0 n.args ⟨s.aj,s.aa++V,s.ae++fA s.aa.length i⟩=_:=q2
   have ew:i64.wrap ((i:Int)+1)=((i+1:Nat):Int):=by rw [mR (by omega) (by omega)]; omega
   have ef:i64.wrap ((s.aa.length:Int)+(i:Int))=((s.aa.length+i:Nat):Int):=by rw [mR (by omega) (by omega)]; omega
   rw [if_pos d,CA eg]
   simp only [Ue,q1,q2,ew,ef]
   have go:∀z:Int,∃V2:List aq,((app 56 (s.aa++V) [(⟨n.kind,z,n.label,n.args.map (· + (s.aa.length:Int))⟩:aq)]).bind fun x5=>(app 8 (s.ae++fA s.aa.length i) [((s.aa.length+i:Nat):Int)]).bind fun x6=>aA.l0 m s x k ((i+1:Nat):Int) (ab.mk s.aj x5 x6))=some ((x.1.nodes.length:Int),⟨s.aj,s.aa++V2,s.ae++fA s.aa.length x.1.nodes.length⟩)∧V2.length=x.1.nodes.length∧∀y∈V2,y.args.length≤8∧∀a∈y.args,Rg (s.aa.length+x.1.nodes.length) a:=by
    intro z
    rw [yQ (by simp only [Uo,Ut,UG]; omega),Ue,yQ (by simp only [Uo,my,Ut,UG]; omega),Ue]
    have:=E1 hm v ok hl k (i+1) (V++[⟨n.kind,z,n.label,n.args.map (· + (s.aa.length:Int))⟩]) (by omega) (by omega) (by simp [hV]) (fun y hy=>by
     rcases UJ.1 hy with hy | hy
     ·exact hP y hy
     ·simp only [UE] at hy
      subst hy
      refine⟨by simpa using n8,fun a ha=>?_⟩
      obtain⟨b,hb,rfl⟩:=US.1 ha
      have:=nR b hb
      unfold Rg; omega)
    rw [tX,←Uv,←Uv] at this
    exact this
   by_cases hk:n.kind=0
   ·rw [if_pos (by rw [hk]; rfl)]; exact go _
   ·rw [if_neg (by simpa using hk)]; exact go _
  ·have d:decide ((i:Int)<(x.1.nodes.length:Int))=false:=by rw [decide_eq_false_iff_not]; omega
   have e:i=x.1.nodes.length:=by omega
   rw [if_neg (by rw [d]; decide),e]
   exact⟨V,rfl,by omega,hP⟩
theorem Lu (hm:2 ^ 41≤m)(v:Inv2 s)(t:bu):∃k e s',aA.f m s t=some (k,e,s')∧EZ s s' e:=by
 have xO:(2:Nat) ^ 41=2199023255552:=by decide
 have n3:=v.inv.max
 unfold aA.f bA.f
 rw [v.inv.made]
 simp only [Ue,Vd,Up,if_false]
 rcases GI hm t with⟨r,e,ok⟩| ⟨r,e⟩
 ·rw [e,Ue,if_neg (show ¬(!(((r,0):bu × Int).2==(0:Int)))=true by simp)]
  have hr:=ok.1
  have ew:i64.wrap ((s.aa.length:Int)+(r.nodes.length:Int))=((s.aa.length+r.nodes.length:Nat):Int):=by rw [mR (by omega) (by omega)]; omega
  rw [ew]
  by_cases hl:s.aa.length+r.nodes.length > 8000
  ·rw [if_pos (by rw [decide_eq_true_eq]; omega)]
   exact⟨_,_,_,rfl,EZ.none v _⟩
  ·rw [if_neg (by rw [decide_eq_true_eq]; omega)]
   obtain⟨V,e1,e2,e3⟩:=E1 (m:=m) (by omega) v (x:=(r,0)) ok (by show _+r.nodes.length≤8000; omega) m 0 [] (U8 _) (by show r.nodes.length - 0<m; omega) rfl (fun y hy=>by simp at hy)
   have es:s.ae++fA s.aa.length 0=s.ae:=by simp [fA]
   rw [VC,es] at e1
   have e1:aA.l0 m s (r,0) m 0 s=some ((r.nodes.length:Int),⟨s.aj,s.aa++V,s.ae++fA s.aa.length r.nodes.length⟩):=e1
   have e2:V.length=r.nodes.length:=e2
   have e3:∀y∈V,y.args.length≤8∧∀a∈y.args,Rg (s.aa.length+r.nodes.length) a:=e3
   rw [e1,Ue]
   obtain⟨w1,w2⟩:=v.more V (by rw [e2]; exact e3) (by omega)
   rw [e2] at w1 w2
   exact⟨_,_,_,rfl,w1,w2,fun h=>absurd rfl h⟩
 ·rw [e,Ue,if_pos (show (!(((r,2):bu × Int).2==(0:Int)))=true from rfl)]
  exact⟨_,_,_,rfl,EZ.none v _⟩
end
end Go.Proofs.Ytifafejidnjckaa
namespace Go.Proofs.Ytifafejidnjckaa
open Go Go.R Go.Uf
open Go.IntKind (i64 u64 u8 u32)
section
variable {m:Nat}{s:ab}
theorem oN.Lv (v:Inv2 s){s':ab}(v':Inv2 s')(eN:s'.aa=s.aa)(h:gL s.aa (rp s.ae) (rp s'.ae)):oN s s':=by
 refine⟨by rw [eN]; exact Uj _,fun n hn hv=>?_⟩
 have g1:=v.inv.cn.rg n hn
 have Md:=v'.inv.cn
 have QK:=v'.cl
 rw [eN] at Md QK ⊢
 have e1:rp s'.ae (rp s.ae n)=rp s'.ae n:=h _ _ g1 hn (v.inv.cn.id n hn)
 have e2:rp s'.ae (rp s'.ae n)=rp s'.ae n:=Md.id n hn
 have v2:gJ s.aa (rp s'.ae n):=e1 ▸ Md.val g1 hv
 exact (QK _ _ g1 (Md.rg n hn) (e1.trans e2.symm) hv v2).1
def Lw (s s':ab)(e k:Int):Prop:=Inv2 s'∧oN s s'∧(e≠0∨k=7→s'=s)
theorem EZ.a {s':ab}{e k:Int}(d:EZ s s' e)(hk:k≠7):Lw s s' e k:=⟨d.1,d.2.1,fun h=>h.elim d.2.2 fun h=>absurd h hk⟩
theorem Lx (hm:2 ^ 41≤m)(v:Inv2 s)(x:aJ)(hx:x.ec.length≤40):∃e s',eY.f m s x=some (e,s')∧Lw s s' e x.cK:=by
 have xO:(2:Nat) ^ 41=2199023255552:=by decide
 have qd:2000000≤m:=by omega
 have z0:∀a∈([]:List Int),Rg s.aa.length a:=fun a h=>by simp at h
 unfold eY.f
 by_cases k0:x.cK=0
 ·rw [if_pos (by rw [k0]; rfl)]
  obtain⟨k,e,s',e1,d⟩:=xy qd v true ⟨0,0,⟨#[]⟩,[]⟩ (fun _=>⟨by simp,z0⟩)
  refine⟨e,s',?_,d.a (by omega)⟩
  simp only [eo.f,dH.f,e1,Ue]
 rw [if_neg (by simpa using k0)]
 by_cases k1:x.cK=1
 ·rw [if_pos (by rw [k1]; rfl)]
  have h1:∃r,cW.f m x.po=some r:=by unfold cW.f; split<;>exact⟨_,rfl⟩
  obtain⟨r,h1⟩:=h1
  obtain⟨k,e,s',e1,d⟩:=xy qd v r ⟨1,x.po,⟨#[]⟩,[]⟩ (fun _=>⟨by simp,z0⟩)
  refine⟨e,s',?_,d.a (by omega)⟩
  simp only [er.f,h1,e1,Ue]
 rw [if_neg (by simpa using k1)]
 by_cases k2:x.cK=2
 ·rw [if_pos (by rw [k2]; rfl)]
  obtain⟨k,e,s',e1,d⟩:=xy qd v (oJ x.di) ⟨2,0,x.di,[]⟩ (fun _=>⟨by simp,z0⟩)
  refine⟨e,s',?_,d.a (by omega)⟩
  simp only [dW.f,dk.f,mM (show 20≤m by omega),Ue,e1]
 rw [if_neg (by simpa using k2)]
 by_cases k3:x.cK=3
 ·rw [if_pos (by rw [k3]; rfl)]
  have h1:∃r,cj.f m x.di x.ec s=some r∧(r=true→x.ec.length≤8∧∀a∈x.ec,Rg s.aa.length a):=by
   unfold cj.f
   rw [mM (show 20≤m by omega),Ue]
   split
   ·split
    ·split
     ·rename_i h8
      rw [sv qd x.ec (by omega) (g:=fun n=>!decide (Rg s.aa.length n)) (fun a _=>by simp only [ck.f,AN,Ue])]
      refine⟨_,rfl,fun h=>⟨by simp only [decide_eq_true_eq] at h8; omega,fun a ha=>?_⟩⟩
      simp only [Vl,List.any_eq_false] at h
      have:=h a ha
      simpa using this
     ·exact⟨_,rfl,fun h=>by cases h⟩
    ·exact⟨_,rfl,fun h=>by cases h⟩
   ·exact⟨_,rfl,fun h=>by cases h⟩
  obtain⟨r,h1,h2⟩:=h1
  obtain⟨k,e,s',e1,d⟩:=xy qd v r ⟨3,0,x.di,x.ec⟩ h2
  have hc:F7 1 x.ec=some x.ec:=by unfold F7; rw [if_pos (by omega)]
  refine⟨e,s',?_,d.a (by omega)⟩
  simp only [dL.f,hc,h1,e1,Ue]
 rw [if_neg (by simpa using k3)]
 by_cases k4:x.cK=4
 ·rw [if_pos (by rw [k4]; rfl)]
  have h1:∃r,cD.f m x.di x.po=some r:=by
   unfold cD.f
   rw [tS,Ue]
   split<;>exact⟨_,rfl⟩
  obtain⟨r,h1⟩:=h1
  obtain⟨k,e,s',e1,d⟩:=xy qd v r ⟨4,x.po,x.di,[]⟩ (fun _=>⟨by simp,z0⟩)
  refine⟨e,s',?_,d.a (by omega)⟩
  simp only [dV.f,h1,e1,Ue]
 rw [if_neg (by simpa using k4)]
 by_cases k5:x.cK=5
 ·rw [if_pos (by rw [k5]; rfl)]
  obtain⟨k,e,s',e1,d⟩:=Lu hm v x.nA
  refine⟨e,s',?_,d.a (by omega)⟩
  simp only [e1,Ue]
 rw [if_neg (by simpa using k5)]
 by_cases k6:x.cK=6
 ·rw [if_pos (by rw [k6]; rfl)]
  obtain⟨l,e,s',e1,v',em,eN,h⟩:=Gx qd v x.po x.u9
  refine⟨e,s',by simp only [e1,Ue],v',?_,fun h'=>?_⟩
  ·rcases h with⟨_,_,rfl⟩| ⟨_,_,rfl,_⟩| ⟨_,_,h,_⟩
   ·exact oN.refl _
   ·exact oN.refl _
   ·exact oN.Lv v v' eN h
  ·rcases h with⟨_,_,rfl⟩| ⟨_,_,rfl,_⟩| ⟨_,h0,h,_⟩
   ·rfl
   ·rfl
   ·rcases h' with h' | h'
    ·exact absurd h0 h'
    ·omega
 rw [if_neg (by simpa using k6)]
 by_cases k7:x.cK=7
 ·rw [if_pos (by rw [k7]; rfl)]
  obtain⟨t,l,e,e1⟩:=I6 qd v x.po x.u9
  exact⟨e,s,by simp only [e1,Ue],v,oN.refl s,fun _=>rfl⟩
 rw [if_neg (by simpa using k7)]
 exact⟨0,s,rfl,v,oN.refl s,fun _=>rfl⟩
def Small (l:List aJ):Prop:=l.length≤60∧∀x∈l,x.ec.length≤40
theorem xz (l:List aJ)(hl:l.length<2 ^ 63):∀(k i:Nat),i≤l.length→l.length - i<k→(∃b,bp.l0 m l k (i:Int)=some (.inl b)∧b=true)∨(∃z,bp.l0 m l k (i:Int)=some (.inr z)∧∀j,i≤j→∀x,l[j]? = some x→x.ec.length≤40)
 | 0,i,h1,h2=>by omega
 | k+1,i,h1,h2=>by
  have Me:(2:Nat) ^ 63=9223372036854775808:=by decide
  simp only [bp.l0]
  by_cases hi:i<l.length
  ·have d:decide ((i:Int)<(l.length:Int))=true:=by rw [decide_eq_true_eq]; omega
   have eg:=Un hi
   generalize l[i]=n at eg
   have ew:i64.wrap ((i:Int)+1)=((i+1:Nat):Int):=by rw [mR (by omega) (by omega)]; omega
   rw [if_pos d,CA eg]
   simp only [Ue,ew]
   split
   ·exact .inl ⟨_,rfl,rfl⟩
   split
   ·exact .inl ⟨_,rfl,rfl⟩
   rename_i h40
   rcases xz l hl k (i+1) (by omega) (by omega) with h | ⟨z,e,h⟩
   ·exact .inl h
   ·refine .inr ⟨z,e,fun j hj x hx=>?_⟩
    by_cases hji:j=i
    ·subst hji
     rw [eg] at hx; cases hx
     simp only [decide_eq_true_eq] at h40; omega
    ·exact h j (by omega) x hx
  ·have d:decide ((i:Int)<(l.length:Int))=false:=by rw [decide_eq_false_iff_not]; omega
   rw [if_neg (by rw [d]; decide)]
   refine .inr ⟨_,rfl,fun j hj x hx=>?_⟩
   rw [UN (by omega)] at hx; cases hx
theorem A9 (hm:2 ^ 63≤m)(l:List aJ)(hl:l.length<2 ^ 63):∃b,bp.f m l=some b∧(b=false→Small l):=by
 have Me:(2:Nat) ^ 63=9223372036854775808:=by decide
 have QL:(2:Nat) ^ 63=9223372036854775808:=by decide
 unfold bp.f
 rcases xz (m:=m) l hl m 0 (U8 _) (by omega) with⟨b,e,rfl⟩| ⟨z,e,h⟩
 ·have e:bp.l0 m l m 0=_:=e
  rw [e]
  exact⟨true,rfl,fun h=>by cases h⟩
 ·have e:bp.l0 m l m 0=_:=e
  rw [e]
  refine⟨_,rfl,fun hb=>⟨?_,fun x hx=>?_⟩⟩
  ·simp only [decide_eq_false_iff_not] at hb; omega
  ·obtain⟨j,hj⟩:=Vj hx
   exact h j (U8 _) x hj
theorem Ba (hm:2 ^ 41≤m)(l:List aJ)(hl:Small l):∀(k i:Nat) (s:ab),i≤l.length→l.length - i<k→Inv2 s→∃s',bS.l0 m l k (i:Int) s=some ((l.length:Int),s')∧Inv2 s'
 | 0,i,s,h1,h2,_=>by omega
 | k+1,i,s,h1,h2,v=>by
  simp only [bS.l0]
  have h60:=hl.1
  by_cases hi:i<l.length
  ·have d:decide ((i:Int)<(l.length:Int))=true:=by rw [decide_eq_true_eq]; omega
   have eg:=Un hi
   generalize l[i]=n at eg
   have ew:i64.wrap ((i:Int)+1)=((i+1:Nat):Int):=by rw [mR (by omega) (by omega)]; omega
   obtain⟨e,s',e1,d1⟩:=Lx hm v n (hl.2 n (Ux eg))
   rw [if_pos d,CA eg]
   simp only [Ue,ew,e1]
   exact Ba hm l hl k (i+1) s' (by omega) (by omega) d1.1
  ·have d:decide ((i:Int)<(l.length:Int))=false:=by rw [decide_eq_false_iff_not]; omega
   have e:i=l.length:=by omega
   rw [if_neg (by rw [d]; decide),e]
   exact⟨s,rfl,v⟩
theorem GJ:Inv2 ⟨true,[],[]⟩:=by
 have no:∀(P:Int→Prop) (n:Int),Rg ([]:List aq).length n→P n:=fun P n h=>by have:=h.1; have:=h.2; simp at this; omega
 exact⟨⟨rfl,rfl,by simp,Gt,⟨fun n h=>no _ n h,fun n h=>no _ n h,fun n h=>no _ n h⟩,fun v h=>by simp at h⟩,fun x y hx=>(no (fun _=>False) x hx).elim⟩
theorem Jh (hm:2 ^ 41≤m)(l:List aJ)(hl:Small l):∃s,bS.f m l=some s∧Inv2 s:=by
 have xO:(2:Nat) ^ 41=2199023255552:=by decide
 have h60:=hl.1
 obtain⟨s,e,v⟩:=Ba hm l hl m 0 ⟨true,[],[]⟩ (U8 _) (by omega) GJ
 have e:bS.l0 m l m 0 ⟨true,[],[]⟩=_:=e
 refine⟨s,?_,v⟩
 simp only [bS.f,iL.f,Ue,e]
def xA (s:ab):List Int:=(VG s.aa.length).map fun (i:Nat)=>rp s.ae (i:Int)
theorem Bb (hm:2000000≤m)(v:Inv s):∀(k i:Nat),i≤s.aa.length→s.aa.length - i<k→bK.l0 m s k ((VG i).map fun (i:Nat)=>rp s.ae (i:Int)) (i:Int)=some (xA s,(s.aa.length:Int))
 | 0,i,h1,h2=>by omega
 | k+1,i,h1,h2=>by
  have n3:=v.max
  simp only [bK.l0,bB.f,bA.f,v.made,Ue,Vd,Up,if_false]
  by_cases hi:i<s.aa.length
  ·have d:decide ((i:Int)<(s.aa.length:Int))=true:=by rw [decide_eq_true_eq]; omega
   have r:Rg s.aa.length (i:Int):=⟨Vx _,by omega⟩
   have ew:i64.wrap ((i:Int)+1)=((i+1:Nat):Int):=by rw [mR (by omega) (by omega)]; omega
   rw [if_pos d,Ll hm v,if_pos r]
   simp only [Ue,ew]
   rw [if_neg (by decide),yQ (by simp only [UB,List.length_range,Ut,UG]; omega),Ue]
   have:=Bb hm v k (i+1) (by omega) (by omega)
   rw [List.range_succ,UK] at this
   exact this
  ·have d:decide ((i:Int)<(s.aa.length:Int))=false:=by rw [decide_eq_false_iff_not]; omega
   have e:i=s.aa.length:=by omega
   rw [if_neg (by rw [d]; decide),e]; rfl
theorem Ji (hm:2000000≤m)(v:Inv s):bK.f m s=some (xA s):=by
 have n3:=v.max
 have:=Bb hm v m 0 (U8 _) (by omega)
 have this:bK.l0 m s m [] 0=_:=this
 simp only [bK.f,this,Ue]
theorem Bc (a:List Int)(hl:a.length<2 ^ 63):∀(k i:Nat),i≤a.length→a.length - i<k→bU.l0 m a a k (i:Int)=some (.inr (a.length:Int))
 | 0,i,h1,h2=>by omega
 | k+1,i,h1,h2=>by
  have Me:(2:Nat) ^ 63=9223372036854775808:=by decide
  simp only [bU.l0]
  by_cases hi:i<a.length
  ·have d:decide ((i:Int)<(a.length:Int))=true:=by rw [decide_eq_true_eq]; omega
   have ew:i64.wrap ((i:Int)+1)=((i+1:Nat):Int):=by rw [mR (by omega) (by omega)]; omega
   rw [if_pos d,CA (Un hi)]
   simp only [Ue,ew,BEq.rfl,Vd,Up,if_false]
   exact Bc a hl k (i+1) (by omega) (by omega)
  ·have d:decide ((i:Int)<(a.length:Int))=false:=by rw [decide_eq_false_iff_not]; omega
   have e:i=a.length:=by omega
   rw [if_neg (by rw [d]; decide),e]
theorem Ce (a:List Int)(hl:a.length<2 ^ 63)(hm:2 ^ 63≤m):bU.f m a a=some true:=by
 have Me:(2:Nat) ^ 63=9223372036854775808:=by decide
 have QL:(2:Nat) ^ 63=9223372036854775808:=by decide
 have:=Bc (m:=m) a hl m 0 (U8 _) (by omega)
 have this:bU.l0 m a a m 0=_:=this
 simp only [bU.f,BEq.rfl,Vd,Up,if_false,this,Ue]
theorem E2 (v:Inv s):(xA s).length<2 ^ 63:=by
 have n3:=v.max
 have Me:(2:Nat) ^ 63=9223372036854775808:=by decide
 unfold xA; rw [UB,List.length_range]; omega
theorem E3 (v:Inv s):bB.f m s=some (s.aa.length:Int):=by
 simp only [bB.f,bA.f,v.made,Ue,Vd,Up,if_false]
end
end Go.Proofs.Ytifafejidnjckaa
namespace Go.Proofs.Ytifafejidnjckaa
open Go Go.R Go.Uf
open Go.IntKind (i64 u64 u8 u32)
section
variable {m:Nat}{s:ab}
theorem xB (hm:2 ^ 63≤m)(l:List aJ)(x:aJ)(h1:l.length<2 ^ 63):dM.f m l x=some true:=by
 have xO:(2:Nat) ^ 41=2199023255552:=by decide
 have QL:(2:Nat) ^ 63=9223372036854775808:=by decide
 have qd:2 ^ 41≤m:=by omega
 unfold dM.f
 obtain⟨b,e1,g1⟩:=A9 hm l h1
 rw [e1,Ue]
 cases b with
 | true=>rfl
 | false=>
  obtain⟨b,e2,g2⟩:=A9 hm [x] (by simp)
  rw [if_neg (by decide),e2,Ue]
  cases b with
  | true=>rfl
  | false=>
   obtain⟨s,e3,v⟩:=Jh qd l (g1 rfl)
   rw [if_neg (by decide),e3]
   simp only [Ue]
   obtain⟨e,s',e4,d1,d2,d3⟩:=Lx qd v x ((g2 rfl).2 x (by simp))
   rw [e4]
   simp only [Ue,jn,cz.f]
   have eR:=Ji (m:=m) (by omega) v.inv
   have eI:=Ce (m:=m) (xA s) (E2 v.inv) hm
   by_cases h0:e=0
   ·rw [if_pos (by rw [h0]; rfl)]
    by_cases h7:x.cK=7
    ·have:=d3 (.inr h7)
     subst this
     rw [if_neg (by rw [h7]; decide)]
     simp only [E3 v.inv,Ue,BEq.rfl,if_true,eR,eI]
    ·rw [if_pos (by simpa using h7)]
   ·have:=d3 (.inl h0)
    subst this
    rw [if_neg (by simpa using h0)]
    simp only [E3 v.inv,Ue,BEq.rfl,if_true,eR,eI]
end
end Go.Proofs.Ytifafejidnjckaa
namespace Go.Proofs.Ytifafejidnjckaa
open Go Go.R Go.Uf
open Go.IntKind (i64 u64 u8 u32)
end Go.Proofs.Ytifafejidnjckaa
namespace Go.Proofs.Ytifafejidnjckaa
open Go Go.R
open Go.IntKind (i64 u64 u8 u32)
def Nf (xs ys:List AV):Prop:=cy xs=true∧dm xs=ys
theorem tY:∀a b:List AV,cy (a++b)=(cy a&&cy b)
 | [],b=>rfl
 | x::a,b=>by rw [UQ,cy,cy,tY,Bool.and_assoc]
theorem tZ:∀a b:List AV,dm (a++b)=dm a++dm b
 | [],b=>rfl
 | x::a,b=>by rw [UQ,dm,dm,tZ,UQ]
theorem Nf.app {a b c d:List AV}(h:Nf a c)(k:Nf b d):Nf (a++b) (c++d):=⟨by rw [tY,h.1,k.1]; rfl,by rw [tZ,h.2,k.2]⟩
theorem Nf.nil:Nf [] []:=⟨rfl,rfl⟩
theorem Nf.cons {x y:AV}{b d:List AV}(h:x.dT=true)(h2:x.iV=y)(k:Nf b d):Nf (x::b) (y::d):=⟨by simp [cy,h,k.1],by simp [dm,h2,k.2]⟩
theorem xC {α:Type}{E:bJ α}{Pr:α→Prop}:∀{els:List (List AV)},(∀el∈els,∃a,Nf el (E.f a)∧Pr a)→∃l:List α,Nf els.flatten (E.l l)∧l.length=els.length∧∀a∈l,Pr a
 | [],_=>⟨[],Nf.nil,rfl,fun a ha=>by cases ha⟩
 | el::els,h=>by
  obtain⟨a,h1,h2⟩:=h el (by simp)
  obtain⟨l,h3,h4,h5⟩:=xC (E:=E) (Pr:=Pr) (els:=els) fun e he=>h e (by simp [he])
  refine⟨a::l,?_,by simp [h4],fun x hx=>?_⟩
  ·rw [List.flatten_cons,bJ.eA]; exact h1.app h3
  ·rcases UF.1 hx with rfl | hx
   ·exact h2
   ·exact h5 x hx
def xD {α:Type}(E:bJ α)(x:AV)(l:List α):Prop:=x.dT=true∧x.iV=E.fz l∧(x = .nils∨∃cs n b,x = .fz cs n b)∧l.length≤maxLen
theorem xD.fr {α:Type}{E:bJ α}{x:AV}{l:List α}(h:xD E x l)(hp:AHeap):jZ 0 hp x (E.fz l):=kT h.1 (by rcases h.2.2.1 with rfl | ⟨cs,n,b,rfl⟩<;>exact fun _=>rfl) h.2.1
theorem za {α:Type}{E:bJ α}{Pr:α→Prop}{n t e:Nat}{xs:List AV}(ht:Try.prog.underlying t=some (.slice e))(h:Fits Try.prog (n+1) t xs)
  (he:∀el,Fits Try.prog n e el→∃a,Nf el (E.f a)∧Pr a):∃x l,xs=[x]∧xD E x l∧∀a∈l,Pr a:=by
 unfold Fits at h
 rw [ht] at h
 rcases h with rfl | ⟨els,rfl,h1,h⟩
 ·exact⟨_,[],rfl,⟨rfl,rfl,.inl rfl,U8 _⟩,fun a ha=>by cases ha⟩
 ·obtain⟨l,⟨h2,h3⟩,h4,h5⟩:=xC (E:=E) (Pr:=Pr) fun el Ki=>he el (h el Ki).2
  refine⟨_,l,rfl,⟨by simpa [AV.dT] using h2,?_,.inr ⟨_,_,_,rfl⟩,by omega⟩,h5⟩
  show AV.fz (dm els.flatten) els.length false=_
  rw [h3,←h4]; rfl
theorem nD {n:Nat}{xs:List AV}(h:Fits Try.prog (n+1) 3 xs):∃z:Int,xs=[.int .i64 z]:=by
 unfold Fits at h
 rw [Try.underlying3] at h
 obtain⟨z,rfl,_⟩:=h
 exact⟨z,rfl⟩
theorem Bd {n:Nat}{xs:List AV}(h:Fits Try.prog (n+1) 9 xs):∃s:ByteArray,xs=[.str s]:=by
 unfold Fits at h
 rw [Try.underlying9] at h
 obtain⟨s,hs,_⟩:=h
 exact⟨s,hs⟩
theorem xE {n:Nat}{xs:List AV}(h:Fits Try.prog (n+2) 33 xs):∃x l,xs=[x]∧xD af x l:=by
 obtain⟨x,l,e,h,_⟩:=za (E:=af) (Pr:=fun _=>True) Try.underlying33 h fun el h=>by
  obtain⟨z,rfl⟩:=nD h
  exact⟨z,⟨rfl,rfl⟩,trivial⟩
 exact⟨x,l,e,h⟩
theorem E4 {n:Nat}{xs:List AV}(h:Fits Try.prog (n+3) 51 xs):∃v:aq,Nf xs (ai.f v):=by
 unfold Fits at h
 rw [Try.underlying51] at h
 obtain⟨a,b,rfl,_,h1,h⟩:=h
 obtain⟨c,d,rfl,_,h2,h⟩:=h
 obtain⟨e,f,rfl,_,h3,h⟩:=h
 obtain⟨g,k,rfl,_,h4,h⟩:=h
 have h:k=[]:=h
 subst h
 obtain⟨z1,rfl⟩:=nD h1
 obtain⟨z2,rfl⟩:=nD h2
 obtain⟨s,rfl⟩:=Bd h3
 obtain⟨x,l,rfl,hx⟩:=xE h4
 exact⟨⟨z1,z2,s,l⟩,Nf.cons rfl rfl (Nf.cons rfl rfl (Nf.cons rfl rfl (Nf.cons hx.1 hx.2.1 Nf.nil)))⟩
theorem Cf {n:Nat}{xs:List AV}(h:Fits Try.prog (n+4) 40 xs):∃x l,xs=[x]∧xD ai x l:=by
 obtain⟨x,l,e,h,_⟩:=za (E:=ai) (Pr:=fun _=>True) Try.underlying40 h fun el h=>by
  obtain⟨v,hv⟩:=E4 h
  exact⟨v,hv,trivial⟩
 exact⟨x,l,e,h⟩
def E5 (xs:List AV)(x:aJ):Prop:=∃A T,xs=[.int .i64 x.cK,.int .i64 x.po,.int .i64 x.u9,.str x.di,A,T,.int .i64 x.nA.root]∧xD af A x.ec∧xD ai T x.nA.nodes
theorem Be {n:Nat}{xs:List AV}(h:Fits Try.prog (n+6) 44 xs):∃x,E5 xs x:=by
 unfold Fits at h
 rw [Try.underlying44] at h
 obtain⟨a,b,rfl,_,h1,h⟩:=h
 obtain⟨c,d,rfl,_,h2,h⟩:=h
 obtain⟨e,f,rfl,_,h3,h⟩:=h
 obtain⟨g,k,rfl,_,h4,h⟩:=h
 obtain⟨i,j,rfl,_,h5,h⟩:=h
 obtain⟨o,p,rfl,_,h6,h⟩:=h
 have h:p=[]:=h
 subst h
 obtain⟨z1,rfl⟩:=nD h1
 obtain⟨z2,rfl⟩:=nD h2
 obtain⟨z3,rfl⟩:=nD h3
 obtain⟨s,rfl⟩:=Bd h4
 obtain⟨x,l,rfl,hx⟩:=xE h5
 have h6:Fits Try.prog (n+5) 42 o:=h6
 unfold Fits at h6
 rw [Try.underlying42] at h6
 obtain⟨q,r,rfl,_,h7,h6⟩:=h6
 obtain⟨t,u,rfl,_,h8,h6⟩:=h6
 have h6:u=[]:=h6
 subst h6
 obtain⟨y,ns,rfl,hy⟩:=Cf h7
 obtain⟨z4,rfl⟩:=nD h8
 exact⟨⟨z1,z2,z3,s,l,⟨ns,z4⟩⟩,x,y,rfl,hx,hy⟩
theorem E5.nf {xs:List AV}{x:aJ}(h:E5 xs x):Nf xs (aQ.f x):=by
 obtain⟨A,T,rfl,hA,hT⟩:=h
 exact Nf.cons rfl rfl (Nf.cons rfl rfl (Nf.cons rfl rfl (Nf.cons rfl rfl (Nf.cons hA.1 hA.2.1 (Nf.cons hT.1 hT.2.1 (Nf.cons rfl rfl Nf.nil))))))
theorem E6 {n:Nat}{xs:List AV}(h:Fits Try.prog (n+7) 22 xs):∃x l,xs=[x]∧xD aQ x l:=by
 obtain⟨x,l,e,h,_⟩:=za (E:=aQ) (Pr:=fun _=>True) Try.underlying22 h fun el h=>by
  obtain⟨v,hv⟩:=Be h
  exact⟨v,hv.nf,trivial⟩
 exact⟨x,l,e,h⟩
theorem Cg:maxLen<2 ^ 63:=by decide
theorem E7 {n:Nat}{xs:List AV}(h:Fits Try.prog (n+7) 22 xs):∃l:List aJ,l.length<2 ^ 63∧∀hp,jZ 10 hp (jQ Try.prog 22 xs) (aQ.fz l):=by
 obtain⟨x,l,rfl,hx⟩:=E6 h
 have e1:jQ Try.prog 22 [x]=x:=by unfold jQ; rw [Try.underlying22]; rfl
 rw [e1]
 exact⟨l,Nat.lt_of_le_of_lt hx.2.2.2 Cg,fun hp=>(hx.fr hp).mono (by decide)⟩
theorem GK {n:Nat}{xs:List AV}(h:Fits Try.prog (n+6) 44 xs):∃x:aJ,∀hp,jZ 10 hp (jQ Try.prog 44 xs) (.agg (aQ.f x)):=by
 obtain⟨x,A,T,rfl,hA,hT⟩:=Be h
 have e1:jQ Try.prog 44 [.int .i64 x.cK,.int .i64 x.po,.int .i64 x.u9,.str x.di,A,T,.int .i64 x.nA.root] = .agg [.int .i64 x.cK,.int .i64 x.po,.int .i64 x.u9,.str x.di,A,T,.int .i64 x.nA.root]:=by unfold jQ; rw [Try.underlying44]
 rw [e1]
 exact⟨x,fun hp=>(iY (ah br (ah br (ah br (ah cH (ah (hA.fr hp) (ah (hT.fr hp) (ah br ax)))))))).mono (by decide)⟩
theorem Ch {P:Program}{m:Nat}{t u:TypeId}{uM:List AV}(h:oe P m [t,u] uM):∃xs ys,uM=[jQ P t xs,jQ P u ys]∧Fits P m t xs∧Fits P m u ys:=by
 match uM,h with
 | [_,_],⟨⟨xs,h1,f1⟩,⟨ys,h2,f2⟩,_⟩=>exact⟨xs,ys,by rw [h1,h2],f1,f2⟩
end Go.Proofs.Ytifafejidnjckaa
namespace Go.R
open Go
def Hs:AHeap:={get:=fun _=>none,ver:=fun _=>0,next:=2}
section
variable {P:Program}
theorem alone {cf:CallF}(hcf:CallOK P cf){f:FuncId}{us:List AV}{h0:AHeap}{r1:AV}{h1:AHeap}(hx:cf f us h0=some (r1,h1))(hg:∀id,h0.get id=none)(HD:∀id,h0.ver id<h0.next)
  {L0:Nat→Prop} {c:Cx} {vs:List Value} (hb0:c.base≤c.w.heap.size) (hrel:HRel c L0) (rL:VRs ⟨fun _=>(0,0),h0,c.w,c.w.heap.size⟩ L0 us vs) {r:AV} (hr:∀(c1 d:Cx) (v:Value),VR c1 L0 r1 v→VR d L0 r v) :
  Calls P f vs.toArray c.w fun e w'=>∃c' v,e = .returned v∧c'.w=w'∧c'.h=c.h∧VR c' L0 r v∧HRel c' L0∧Ext c none0 c' none0:=by
 obtain⟨hin,hcall⟩:=hcf f us h0 r1 h1 hx
 let c0:Cx:=⟨fun _=>(0,0),h0,c.w,c.w.heap.size⟩
 have hnl:∀id,¬Live c0.h id:=fun id hl=>by have:=hl.2; rw [show c0.h.get id=none from hg id] at this; cases this
 have vA:∀id o,¬c0.h.get id=some o:=fun id o ho=>by rw [show c0.h.get id=none from hg id] at ho; cases ho
 have rK:HRel c0 L0:=⟨fun id o ho=>absurd ho (vA id o),fun id o ho=>absurd ho (vA id o),fun id _ hl _ _=>absurd hl (hnl id),fun id hl=>absurd hl (hnl id),hrel.bd,fun id hl=>absurd hl (hnl id),HD⟩
 refine (hcall L0 c0 vs rfl (Uj _) rK rL).mono ?_
 rintro e w' ⟨c1,v,rfl,rfl,Jz,hv,hrel1,e1⟩
 let d:Cx:=⟨c.β,c.h,c1.w,c.base⟩
 have hk:∀b,b<c.w.heap.size→c1.w.heap[b]? = c.w.heap[b]?:=fun b hb=>e1.exact b hb
 have ed:Ext c none0 d none0:=⟨Uj _,fun id _ hl=>⟨hl,rfl,gM.len (c:=c) (c':=d) (.inl (hk _ (hrel.block hl)))⟩,e1.size,fun b hb _ _=>.inl (hk b hb),fun b hb=>hk b (UD hb hb0),rfl,fun id hl=>.inr ⟨id,hl,rfl⟩,fun _ h=>h,fun _ h=>.inl h,e1.os,e1.tape,e1.output⟩
 refine⟨d,v,rfl,rfl,rfl,hr c1 d v hv,⟨hrel.lt,fun id o ho=>?_,hrel.inj,hrel.out,fun b hb=>UD (hrel.bd b hb) e1.size,hrel.low,hrel.ver⟩,ed⟩
 have hl:Live c.h id:=⟨hrel.lt _ _ ho,by rw [ho]; rfl⟩
 have:=(hrel.obj id o ho)
 have h2:=nO.ext (L0:=L0) ed (b:=(c.β id).1) (base:=(c.β id).2) (o:=o) (by rw [gP]; exact this) (hk _ (hrel.block hl))
 rw [gP] at h2
 exact h2
def Jj (P:Program)(t:TypeId)(z:Nat):Bool:=
 match P.underlying t with
 | some (.slice e)=>match P.info? e with
  | some i=>UP i.size z&&Vz i.bytes 1000&&GR i
  | none=>false
 | _=>false
theorem xF {t:TypeId}{z:Nat}(T:Jj P t z=true)(hz:z≠0){h:AHeap}{x:AV}{n:Nat}{cs:List AV}(hn:n≠0)(hb:n*1024≤1099511627776)(hx:fk h z x=some (cs,n))(hs:ig P t x=true):dy P h t t (.fz [] 0 true) x=some (.rs h.next 0 n z,h.alloc (.cells cs)):=by
 unfold Jj at T
 split at T
 rotate_left
 ·cases T
 rename_i e he
 split at T
 rotate_left
 ·cases T
 rename_i i hi
 simp only [Ui] at T
 obtain⟨⟨h1,h2⟩,h3⟩:=T
 have h1:=Vf h1
 have h2:=Nat.le_of_ble_eq_true h2
 subst h1
 have hq:n*i.bytes≤n*1000:=Nat.mul_le_mul_left n h2
 simp only [dy,he,Ue,hi,hx]
 rw [if_neg (by simp [hz,hs,h3]),if_neg (by simp only [gh,UC,UG]; omega),if_neg hn]
 simp
theorem ub {z:Nat}:∀args h r h',xL z args h=some (r,h')→Steady h h':=by
 intro args h r h' hs
 unfold xL at hs
 split at hs
 ·cases hs; exact Steady.refl _
 ·split at hs
  ·cases hs; exact Steady.refl _
  ·split at hs
   ·cases hs; exact Steady.put _ _ _
   ·cases hs
 ·split at hs
  ·cases hs; exact Steady.refl _
  ·rw [Ud] at hs
   obtain⟨ob,_,hs⟩:=hs
   split at hs
   ·split at hs
    ·cases hs; exact Steady.put _ _ _
    ·cases hs
   ·cases hs
 ·cases hs
theorem Ht {cf:CallF}(hcf:CallOK P cf){F:FuncId}{t:TypeId}{z:Nat}(T:Jj P t z=true)(hz:z≠0)
  (h0:cf F [.nils] bz=some (.nils,bz)) (h1:cf F [.rs 1 0 0 z] Hs=some (.rs 0 0 0 z,Hs))
  (h2:∀(c:AV) (cs:List AV) (n:Nat) (ex:Bool) (h:AHeap) (i k w:Nat) (h':AHeap),dy P h t t (.fz [] 0 true) (.fz (c::cs) n ex)=some (.rs i 0 k w,h')→cf F [.fz (c::cs) n ex] h=some (.rs i 0 k w,h'))
  (h3:∀(j n q:Nat) (h:AHeap) (i k w:Nat) (h':AHeap),dy P h t t (.fz [] 0 true) (.rs (j+1) 0 n q)=some (.rs i 0 k w,h')→cf F [.rs (j+1) 0 n q] h=some (.rs i 0 k w,h'))
  (gj:∀x,(∀st,x≠.str st)→ig P t x=true) :
  CallOK P fun f' args h=>if f'=F then xL z args h else none:=by
 intro f args h r h' hc
 dsimp only at hc
 split at hc
 rotate_left
 ·cases hc
 rename_i hf
 subst hf
 refine⟨(hcf f _ _ _ _ h0).1,fun L0 c vs hh hb0 hrel hargs=>?_⟩
 have empty:∀(v:Value),(∃a cap,v = .slice a 0 cap∧(a=none→cap=0))→Calls P f #[v] c.w fun e w'=>∃c' v,e = .returned v∧c'.w=w'∧c'.h=c.h∧VR c' L0 (.rs 0 0 0 z) v∧HRel c' L0∧Ext c none0 c' none0:=by
  rintro v ⟨a,cap,rfl,ha⟩
  cases a with
  | none=>
   have:=ha rfl
   subst this
   refine alone (vs:=[.slice none 0 0]) hcf h0 (fun _=>rfl) (fun _=>VB) hb0 hrel ⟨rfl,trivial⟩ (fun c1 d v hv=>?_)
   simp only [VR] at hv ⊢
   exact .inl ⟨trivial,trivial,trivial,none,hv⟩
  | some ad=>
   refine alone (vs:=[.slice (some ad) 0 cap]) hcf h1 (fun _=>rfl) (fun _=>Nat.zero_lt_succ 1) hb0 hrel ⟨?_,trivial⟩ (fun c1 d v hv=>?_)
   ·simp only [VR]
    exact .inr ⟨by decide,by decide,some ad,cap,rfl,U8 _,rfl,fun hl=>by have:=hl.2; cases this⟩
   ·simp only [VR] at hv ⊢
    rcases hv with hv | hv
    ·exact .inl hv
    ·exact absurd rfl hv.1
 match args,vs,hargs with
 | [],_,_=>simp [xL] at hc
 | x::y::l,_,_=>cases x<;>simp [xL] at hc
 | [x],[v],hargs=>
  have hx:VR c L0 x v:=hargs.1
  cases x<;>simp only [xL] at hc<;>try (cases hc; done)
  ·cases hc
   simp only [VR] at hx
   rw [←hh]
   exact empty v ⟨none,0,hx,fun _=>rfl⟩
  ·rename_i cs n ex
   split at hc
   ·rename_i hn
    cases hc
    subst hn
    simp only [VR] at hx
    obtain⟨a,cap,e,_,_,hs,_⟩:=hx
    rw [←hh]
    refine empty v ⟨a,cap,e,fun ha=>?_⟩
    rcases hs with hs | hs
    ·rw [ha] at hs; cases hs
    ·exact hs.2
   ·rename_i hn
    split at hc
    rotate_left
    ·cases hc
    rename_i hq
    cases hc
    cases cs with
    | nil=>
     have h4:0=n*z:=hq.1
     rcases Nat.mul_eq_zero.1 h4.symm with h5 | h5
     ·exact absurd h5 hn
     ·exact absurd h5 hz
    | cons c1 cs=>
     have HC:fk h z (.fz (c1::cs) n ex)=some ((c1::cs).map jk,n):=by
      simp only [fk,dY]; rw [if_pos hq.1]; rfl
     have:=h2 c1 cs n ex h _ _ _ _ (xF T hz hn hq.2 HC (gj _ (by rintro st h; cases h)))
     exact (hcf _ _ _ _ _ this).2 L0 c [v] hh hb0 hrel ⟨hx,trivial⟩
  ·rename_i id off n q
   cases off with
   | succ off=>simp [xL] at hc
   | zero=>
   simp only [xL] at hc
   split at hc
   ·rename_i hn
    cases hc
    subst hn
    simp only [VR] at hx
    rw [←hh]
    rcases hx with⟨_,_,_,a,e⟩| ⟨_,_,a,cap,e,_,hs,_⟩
    ·exact empty v ⟨a,0,e,fun _=>rfl⟩
    ·refine empty v ⟨a,cap,e,fun ha=>?_⟩
     rw [ha] at hs; cases hs
   ·rename_i hn
    rw [Ud] at hc
    obtain⟨ob,ho,hc⟩:=hc
    split at hc
    rotate_left
    ·cases hc
    rename_i cs
    split at hc
    rotate_left
    ·cases hc
    rename_i hq
    cases hc
    have hid:id≠0:=by
     simp only [VR] at hx
     rcases hx with hx | hx
     ·exact absurd hx.2.2.1 hn
     ·exact hx.1
    obtain⟨j,rfl⟩:∃j,id=j+1:=⟨id - 1,by omega⟩
    have HC:fk h z (.rs (j+1) 0 n q)=some ((cs.take (n*z)).map jk,n):=by
     simp only [fk,dY]
     rw [if_neg (fun hz=>hz.elim hid fun hz=>hn hz.1),ho]
     simp only [Ue]
     rw [if_pos ⟨hq.1,by omega⟩,UX]; rfl
    have:=h3 j n q h _ _ _ _ (xF T hz hn hq.2.2 HC (gj _ (by rintro st h; cases h)))
    exact (hcf _ _ _ _ _ this).2 L0 c [v] hh hb0 hrel ⟨hx,trivial⟩
 | [x],[],hargs=>exact hargs.elim
 | [x],_::_::_,hargs=>exact hargs.2.elim
end
end Go.R
namespace Go.Proofs.Ytifafejidnjckaa
open Go Go.R Go.Shelf
open Go.IntKind (i64 u64 u8 u32)
theorem fits:Fit Try.prog:=HW (by kernel_rfl) (by kernel_rfl)
def Jk:Ren:={f:=(fun x=>match x with | 189=>60 | 125=>77 | 257=>76 | 128=>95 | 129=>96 | 294=>86 | 295=>87 | 296=>88 | 297=>89 | 298=>90 | 299=>91 | 216=>92 | 300=>93 | 301=>94 | 328=>100 | 329=>101 | 330=>102 | 331=>103 | 332=>104 | 215=>97 | 343=>107 | n=>n),t:=(fun x=>match x with | 28=>33 | 3=>3 | 46=>108 | 0=>0 | 51=>126 | 53=>128 | 4=>4 | 183=>119 | 182=>118 | 131=>103 | 5=>5 | 9=>9 | 218=>130 | 222=>134 | 228=>138 | 229=>139 | n=>n),g:=(fun n=>n)}
theorem Ly:Lays.n189 Try.prog Jk:={
 mixed:=by kernel_rfl,
 f125:=Try.func77.trans (congrArg some (by kernel_rfl)),
 f128:=Try.func95.trans (congrArg some (by kernel_rfl)),
 f129:=Try.func96.trans (congrArg some (by kernel_rfl)),
 f189:=Try.func60.trans (congrArg some (by kernel_rfl)),
 f215:=Try.func97.trans (congrArg some (by kernel_rfl)),
 f216:=Try.func92.trans (congrArg some (by kernel_rfl)),
 f257:=Try.func76.trans (congrArg some (by kernel_rfl)),
 f294:=Try.func86.trans (congrArg some (by kernel_rfl)),
 f295:=Try.func87.trans (congrArg some (by kernel_rfl)),
 f296:=Try.func88.trans (congrArg some (by kernel_rfl)),
 f297:=Try.func89.trans (congrArg some (by kernel_rfl)),
 f298:=Try.func90.trans (congrArg some (by kernel_rfl)),
 f299:=Try.func91.trans (congrArg some (by kernel_rfl)),
 f300:=Try.func93.trans (congrArg some (by kernel_rfl)),
 f301:=Try.func94.trans (congrArg some (by kernel_rfl)),
 f328:=Try.func100.trans (congrArg some (by kernel_rfl)),
 f329:=Try.func101.trans (congrArg some (by kernel_rfl)),
 f330:=Try.func102.trans (congrArg some (by kernel_rfl)),
 f331:=Try.func103.trans (congrArg some (by kernel_rfl)),
 f332:=Try.func104.trans (congrArg some (by kernel_rfl)),
 f343:=Try.func107.trans (congrArg some (by kernel_rfl)),
 t0:=Try.underlying0,
 a0:=Try.isAgg0,
 z0:=Try.sizeOf0,
 v0:=Try.zeroValue0,
 t3:=Try.underlying3,
 a3:=Try.isAgg3,
 z3:=Try.sizeOf3,
 v3:=Try.zeroValue3,
 t4:=Try.underlying4,
 a4:=Try.isAgg4,
 z4:=Try.sizeOf4,
 v4:=Try.zeroValue4,
 t5:=Try.underlying5,
 a5:=Try.isAgg5,
 z5:=Try.sizeOf5,
 v5:=Try.zeroValue5,
 t9:=Try.underlying9,
 a9:=Try.isAgg9,
 z9:=Try.sizeOf9,
 v9:=Try.zeroValue9,
 t28:=Try.underlying33,
 a28:=Try.isAgg33,
 z28:=Try.sizeOf33,
 v28:=Try.zeroValue33,
 t46:=Try.underlying108,
 a46:=Try.isAgg108,
 z46:=Try.sizeOf108,
 v46:=Try.zeroValue108,
 t51:=Try.underlying126,
 a51:=Try.isAgg126,
 z51:=Try.sizeOf126,
 v51:=Try.zeroValue126,
 t53:=Try.underlying128,
 a53:=Try.isAgg128,
 z53:=Try.sizeOf128,
 v53:=Try.zeroValue128,
 t131:=Try.underlying103,
 a131:=Try.isAgg103,
 z131:=Try.sizeOf103,
 v131:=Try.zeroValue103,
 t182:=Try.underlying118,
 a182:=Try.isAgg118,
 z182:=Try.sizeOf118,
 v182:=Try.zeroValue118,
 t183:=Try.underlying119,
 a183:=Try.isAgg119,
 z183:=Try.sizeOf119,
 v183:=Try.zeroValue119,
 t218:=Try.underlying130,
 a218:=Try.isAgg130,
 z218:=Try.sizeOf130,
 v218:=Try.zeroValue130,
 t222:=Try.underlying134,
 a222:=Try.isAgg134,
 z222:=Try.sizeOf134,
 v222:=Try.zeroValue134,
 t228:=Try.underlying138,
 a228:=Try.isAgg138,
 z228:=Try.sizeOf138,
 v228:=Try.zeroValue138,
 t229:=Try.underlying139,
 a229:=Try.isAgg139,
 z229:=Try.sizeOf139,
 v229:=Try.zeroValue139}
theorem Jl:∀(vs:Array Value) (w:World),(callFunc (Jk.f 189) vs).run Try.prog w = .ok (.enter (Jk.f 189) vs) w:=
 lT (c:=b8 Try.f60) Try.func60 (by kernel_rfl) (by decide +kernel)
def pG:bY:=gK [0,2,4] [] [] [] []
def ng:mS:={aV:=fun _=>pG,intr:=fun _=>none,pure:=fun _=>none}
noncomputable def Lz:CallF:=a6 Try.prog ng.aV (eC Try.prog ng 10 0) 10
theorem E8:CallOK Try.prog Lz:=wc fits (od fits mD 10 0) (wk fits.mixed (od fits mD 10 0) (kS mD 10 0)) 10
theorem GL (c:AV)(cs:List AV)(n:Nat)(ex:Bool)(h:AHeap)(i k w:Nat)(h':AHeap)(e:dy Try.prog h 40 40 (.fz [] 0 true) (.fz (c::cs) n ex)=some (.rs i 0 k w,h')):Lz 38 [.fz (c::cs) n ex] h=some (.rs i 0 k w,h'):=by
 have key:∃r h2,a6 Try.prog ng.aV (eC Try.prog ng 10 0) 10 38 [.fz (c::cs) n ex] h=some (r,h2)∧r = .rs i 0 k w∧h2=h':=by
  refine ar (fn:=Try.f38) (A:=pG) rfl Try.func38 (by kernel_rfl) (by kernel_rfl) ?_
  refine aH (Q:=fun s=>aM Try.prog (s.open pG) Try.f38.results.toList=some (.rs i 0 k w)∧s.h=h') (fun _ _ ⟨h1,h2,h3⟩=>⟨h1,_,h2,rfl,h3⟩) ?_
  show dn _ _ pG _ _ ⟨[.fz (c::cs) n ex,.any,.any],[],h⟩ _
  refine q1 <| qq <| q1 <| DA <| qk <| qs [.a 2 e] <| qt <| ⟨.inl rfl,by kernel_rfl,by kernel_rfl⟩
 obtain⟨r,h2,hb,rfl,rfl⟩:=key
 exact hb
theorem GM (j n q:Nat)(h:AHeap)(i k w:Nat)(h':AHeap)(e:dy Try.prog h 40 40 (.fz [] 0 true) (.rs (j+1) 0 n q)=some (.rs i 0 k w,h')):Lz 38 [.rs (j+1) 0 n q] h=some (.rs i 0 k w,h'):=by
 have key:∃r h2,a6 Try.prog ng.aV (eC Try.prog ng 10 0) 10 38 [.rs (j+1) 0 n q] h=some (r,h2)∧r = .rs i 0 k w∧h2=h':=by
  refine ar (fn:=Try.f38) (A:=pG) rfl Try.func38 (by kernel_rfl) (by kernel_rfl) ?_
  refine aH (Q:=fun s=>aM Try.prog (s.open pG) Try.f38.results.toList=some (.rs i 0 k w)∧s.h=h') (fun _ _ ⟨h1,h2,h3⟩=>⟨h1,_,h2,rfl,h3⟩) ?_
  show dn _ _ pG _ _ ⟨[.rs (j+1) 0 n q,.any,.any],[],h⟩ _
  refine q1 <| qq <| q1 <| DA <| qk <| qs [.a 2 e] <| qt <| ⟨.inl rfl,by kernel_rfl,by kernel_rfl⟩
 obtain⟨r,h2,hb,rfl,rfl⟩:=key
 exact hb
theorem LA:∀x,(∀st,x≠.str st)→ig Try.prog 40 x=true:=by
 intro x hx
 cases x<;>first | exact absurd rfl (hx _) | kernel_rfl
theorem GN:CallOK Try.prog fun f args h=>if f=38 then xL 4 args h else none:=
 Ht E8 (F:=38) (t:=40) (z:=4) (by kernel_rfl) (by decide) (by kernel_rfl) (by kernel_rfl) GL GM LA
theorem GO (c:AV)(cs:List AV)(n:Nat)(ex:Bool)(h:AHeap)(i k w:Nat)(h':AHeap)(e:dy Try.prog h 33 33 (.fz [] 0 true) (.fz (c::cs) n ex)=some (.rs i 0 k w,h')):Lz 39 [.fz (c::cs) n ex] h=some (.rs i 0 k w,h'):=by
 have key:∃r h2,a6 Try.prog ng.aV (eC Try.prog ng 10 0) 10 39 [.fz (c::cs) n ex] h=some (r,h2)∧r = .rs i 0 k w∧h2=h':=by
  refine ar (fn:=Try.f39) (A:=pG) rfl Try.func39 (by kernel_rfl) (by kernel_rfl) ?_
  refine aH (Q:=fun s=>aM Try.prog (s.open pG) Try.f39.results.toList=some (.rs i 0 k w)∧s.h=h') (fun _ _ ⟨h1,h2,h3⟩=>⟨h1,_,h2,rfl,h3⟩) ?_
  show dn _ _ pG _ _ ⟨[.fz (c::cs) n ex,.any,.any],[],h⟩ _
  refine q1 <| qq <| q1 <| DA <| qk <| qs [.a 2 e] <| qt <| ⟨.inl rfl,by kernel_rfl,by kernel_rfl⟩
 obtain⟨r,h2,hb,rfl,rfl⟩:=key
 exact hb
theorem GP (j n q:Nat)(h:AHeap)(i k w:Nat)(h':AHeap)(e:dy Try.prog h 33 33 (.fz [] 0 true) (.rs (j+1) 0 n q)=some (.rs i 0 k w,h')):Lz 39 [.rs (j+1) 0 n q] h=some (.rs i 0 k w,h'):=by
 have key:∃r h2,a6 Try.prog ng.aV (eC Try.prog ng 10 0) 10 39 [.rs (j+1) 0 n q] h=some (r,h2)∧r = .rs i 0 k w∧h2=h':=by
  refine ar (fn:=Try.f39) (A:=pG) rfl Try.func39 (by kernel_rfl) (by kernel_rfl) ?_
  refine aH (Q:=fun s=>aM Try.prog (s.open pG) Try.f39.results.toList=some (.rs i 0 k w)∧s.h=h') (fun _ _ ⟨h1,h2,h3⟩=>⟨h1,_,h2,rfl,h3⟩) ?_
  show dn _ _ pG _ _ ⟨[.rs (j+1) 0 n q,.any,.any],[],h⟩ _
  refine q1 <| qq <| q1 <| DA <| qk <| qs [.a 2 e] <| qt <| ⟨.inl rfl,by kernel_rfl,by kernel_rfl⟩
 obtain⟨r,h2,hb,rfl,rfl⟩:=key
 exact hb
theorem LB:∀x,(∀st,x≠.str st)→ig Try.prog 33 x=true:=by
 intro x hx
 cases x<;>first | exact absurd rfl (hx _) | kernel_rfl
theorem GQ:CallOK Try.prog fun f args h=>if f=39 then xL 1 args h else none:=
 Ht E8 (F:=39) (t:=33) (z:=1) (by kernel_rfl) (by decide) (by kernel_rfl) (by kernel_rfl) GO GP LB
noncomputable def Hu:FuncId→Option (List AV→AHeap→Option (AV × AHeap)):=fun f=>if f=60 then some Ie else if f=38 then some (xL 4) else if f=39 then some (xL 1) else none
theorem E9:IntrOK Try.prog Hu:=intr_cons (f0:=60) (Kx Ly Jl) BQ (intr_cons (f0:=38) GN ub (intr_cons (f0:=39) GQ ub mD))
end Go.Proofs.Ytifafejidnjckaa
namespace Go.Proofs.Ytifafejidnjckaa
open Go Go.R
open Go.IntKind (i64 u64 u8 u32)
def cM:Nat→bY
 | 5=>Gp
 | 10=>wW
 | 11=>{keep:=[0,1,2,3,4,5,6,7,8,9,10,11,12,13,14,16,17,19,22,25],aE:=[]}
 | 12=>xf
 | 14=>wX
 | 15=>xe
 | 16=>Au
 | 17=>AH
 | 18=>Aa
 | 23=>Av
 | 24=>Aw
 | 26=>zN
 | 27=>Ab
 | 28=>AB
 | 29=>Ac
 | 30=>Al
 | 31=>tO
 | 32=>wY
 | 33=>Am
 | 34=>Ax
 | 35=>An
 | 36=>sr
 | 37=>zO
 | 41=>wZ
 | 43=>AG
 | 44=>AD
 | 46=>AF
 | 47=>zP
 | 48=>zQ
 | 49=>Ay
 | 50=>Ao
 | 51=>zR
 | 52=>Ad
 | 53=>Ae
 | 54=>zS
 | 55=>zT
 | 56=>Af
 | 57=>xb
 | 58=>Ag
 | 59=>zU
 | 60=>{keep:=[0,2],aE:=[]}
 | 61=>Ap
 | 62=>zV
 | 63=>Ah
 | 64=>zW
 | 65=>Ai
 | 66=>Az
 | 67=>Aq
 | 70=>Ar
 | 72=>oF
 | 73=>w0
 | 74=>xc
 | 75=>w8
 | 78=>w9
 | 79=>zZ
 | 80=>Aj
 | 81=>xa
 | 82=>Ak
 | 83=>AE
 | 84=>As
 | 85=>z6
 | 97=>z7
 | 98=>z8
 | 99=>sq
 | 105=>px
 | 106=>lb
 | 108=>sf
 | 109=>sd
 | _=>{keep:=[],aE:=[]}
def be:Nat:=18014398509481984
theorem bf:gZ+bO≤be:=by decide
def LC:Nat→Option Nat
 | 5=>some be
 | 10=>some be
 | 11=>some be
 | 14=>some be
 | 15=>some be
 | 18=>some be
 | 24=>some be
 | 30=>some be
 | 33=>some be
 | 37=>some be
 | 41=>some be
 | 43=>some be
 | 44=>some be
 | 46=>some be
 | 48=>some be
 | 49=>some be
 | 50=>some be
 | 51=>some be
 | 52=>some be
 | 53=>some be
 | 54=>some be
 | 55=>some be
 | 58=>some be
 | 59=>some be
 | 61=>some be
 | 62=>some be
 | 63=>some be
 | 64=>some be
 | 65=>some be
 | 66=>some be
 | 67=>some be
 | 70=>some be
 | 72=>some be
 | 74=>some be
 | 75=>some be
 | 78=>some be
 | 79=>some be
 | 80=>some be
 | 81=>some be
 | 82=>some be
 | 84=>some be
 | 85=>some be
 | 97=>some be
 | 98=>some be
 | _=>none
def Jm:Nat→Bool
 | 33=>true
 | 43=>true
 | 46=>true
 | _=>false
def M:Nat:=18446744073709551616
noncomputable def bD:mS:={aV:=cM,intr:=Hu,pure:=LC,eB:=Jm}
noncomputable def cN:CallF:=iB Try.prog bD M
theorem Jn:CallOK Try.prog cN:=Dz fits (T:=bD) E9
theorem Tb:PL cN M:=fun args h=>rY (T:=bD) rfl
theorem Tc:PK cN M:=fun args h=>rY (T:=bD) rfl
end Go.Proofs.Ytifafejidnjckaa
namespace Go.Proofs.Ytifafejidnjckaa
open Go Go.R
open Go.IntKind (i64 u64 u8 u32)
theorem Ci:(a6 Try.prog cM (eC Try.prog bD M 98) M 11 [] bz).map (fun x=>x.1)=some (.bool true):=by kernel_rfl
theorem Td:PJ cN M:=by
 intro r H h xs hx
 have H:some true=some r:=H
 cases H
 obtain⟨⟨x,h'⟩,hb,e⟩:=Ug.1 Ci
 dsimp only at e
 subst e
 obtain⟨l,h1,h2⟩:=jj (P:=Try.prog) cM M 11 [] bz _ _ hb
 have hb:=h2 cN fun e he=>ku.2 ⟨_,h1 e he⟩
 exact bh (T:=bD) (deep:=be) rfl rfl rfl bf hx ⟨_,_,hb,dz (aD)⟩
end Go.Proofs.Ytifafejidnjckaa
namespace Go.Proofs.Ytifafejidnjckaa
open Go Go.R
open Go.IntKind (i64 u64 u8 u32)
theorem Te:PM cN M:=by
 intro l0 r H  h xs hx
 exact bh (T:=bD) (deep:=be) rfl rfl rfl bf hx (pq (cf:=cN) (m:=M) (aV:=cM) rfl  l0 bz []   aW H)
theorem Tf:PN cN M:=by
 intro a0 b0 r H  h xs hx
 exact bh (T:=bD) (deep:=be) rfl rfl rfl bf hx (qp (cf:=cN) (m:=M) (aV:=cM) rfl  a0 b0 bz []   aW H)
theorem Tg:PO cN M:=by
 intro  r H h L   o  xs hx
 obtain⟨r',h',hb,eT,fY,fZ,rfl,ho⟩:=sb (cf:=cN) (m:=M) (aV:=cM) rfl   h L  o H
 exact⟨eT,fY,fZ,h',gv (T:=bD) rfl rfl hx hb,ho⟩
theorem QM:Nw cN M:=by
 intro s0 aF r H h L  ao ak an o  xs hx
 obtain⟨r',h',hb,aB,aC,rfl,ho⟩:=lz (cf:=cN) (m:=M) (aV:=cM) rfl  s0 aF h L ao ak an  o H
 exact⟨aB,aC,h',gv (T:=bD) rfl rfl hx hb,ho⟩
theorem Mf:KH cN M:=by
 intro s0 r H  h xs hx
 exact bh (T:=bD) (deep:=be) rfl rfl rfl bf hx (lA (cf:=cN) (m:=M) (aV:=cM) rfl  s0 bz []   aW H)
theorem QN:LR cN M:=by
 intro s0 n0 r H  h xs hx
 exact bh (T:=bD) (deep:=be) rfl rfl rfl bf hx (mb (cf:=cN) (m:=M) (aV:=cM) rfl  s0 n0 bz []   aW H)
theorem LD:JC cN M:=by
 intro s0 DP n0 r H h L  ao ak an o eD aP bV qu gH ox gI xs hx
 obtain⟨r',h',hb,aB,aC,rfl,ho⟩:=mc (cf:=cN) (m:=M) (aV:=cM) rfl Mf s0 DP n0 h L ao ak an eD aP bV  qu gH ox gI o H
 exact⟨aB,aC,h',gv (T:=bD) rfl rfl hx hb,ho⟩
theorem Th:PQ cN M:=by
 intro  r H  h xs hx
 exact bh (T:=bD) (deep:=be) rfl rfl rfl bf hx (kW (cf:=cN) (m:=M) (aV:=cM) rfl   bz []   aW H)
theorem Tk:PR cN M:=by
 intro x0 r H  h xs hx
 exact bh (T:=bD) (deep:=be) rfl rfl rfl bf hx (kX (cf:=cN) (m:=M) (aV:=cM) rfl  x0 bz []   aW H)
theorem QP:Nx cN M:=by
 intro s0 n0 r H  h xs hx
 exact bh (T:=bD) (deep:=be) rfl rfl rfl bf hx (kY (cf:=cN) (m:=M) (aV:=cM) rfl  s0 n0 bz []   aW H)
theorem Tl:Ny cN M:=by
 intro a0 b0 r H  h xs hx
 exact bh (T:=bD) (deep:=be) rfl rfl rfl bf hx (oy (cf:=cN) (m:=M) (aV:=cM) rfl  a0 b0 bz []   aW H)
theorem QQ:Nz cN M:=by
 intro s0 n0 r H  h xs hx
 exact bh (T:=bD) (deep:=be) rfl rfl rfl bf hx (lB (cf:=cN) (m:=M) (aV:=cM) rfl  s0 n0 bz []   aW H)
theorem Tm:PS cN M:=by
 intro a0 x0 r H  h xs hx
 exact bh (T:=bD) (deep:=be) rfl rfl rfl bf hx (jC (cf:=cN) (m:=M) (aV:=cM) rfl QP a0 x0 bz []   aW H)
theorem QR:NA cN M:=by
 intro s0 r H  h xs hx
 exact bh (T:=bD) (deep:=be) rfl rfl rfl bf hx (qv (cf:=cN) (m:=M) (aV:=cM) rfl  s0 bz []   aW H)
theorem QS:∀kk,LS cN M kk
 | 0=>by
  intro i0 x0 x1 x2 x3 r H h L  cX dr cY cC dX ez de cO o  xs hx
  cases H
 | kk+1=>by
  intro i0 x0 x1 x2 x3 r H h L  cX dr cY cC dX ez de cO o  xs hx
  obtain⟨r',h',hb,lq,gV,rfl,ho⟩:=oz (cf:=cN) (m:=M) (aV:=cM) rfl  i0 x0 x1 x2 x3 h L cX dr cY cC dX ez de cO  (QS kk) o H
  exact⟨lq,gV,h',gv (T:=bD) rfl rfl hx hb,ho⟩
theorem QT:NF cN M:=by
 intro s0 f0 r H eD aP gH gI h xs hx
 exact bh (T:=bD) (deep:=be) rfl rfl rfl bf hx (vd (cf:=cN) (m:=M) (aV:=cM) rfl  s0 f0 bz [] eD aP  gH gI aW H)
theorem Tn:PT cN M:=by
 intro s0 f0 r H eD aP gH gI h xs hx
 exact bh (T:=bD) (deep:=be) rfl rfl rfl bf hx (ve (cf:=cN) (m:=M) (aV:=cM) rfl  s0 f0 bz [] eD aP  gH gI aW H)
theorem To:PU cN M:=by
 intro a0 x0 r H  h xs hx
 exact bh (T:=bD) (deep:=be) rfl rfl rfl bf hx (pv (cf:=cN) (m:=M) (aV:=cM) rfl  a0 x0 bz []   aW H)
theorem Tp:PV cN M:=by
 intro gd r H  h xs hx
 exact bh (T:=bD) (deep:=be) rfl rfl rfl bf hx (qw (cf:=cN) (m:=M) (aV:=cM) rfl  gd bz []   aW H)
theorem Tq:NG cN M:=by
 intro c0 r H  h xs hx
 exact bh (T:=bD) (deep:=be) rfl rfl rfl bf hx (pw (cf:=cN) (m:=M) (aV:=cM) rfl  c0 bz []   aW H)
theorem Tr:PW cN M:=by
 intro x0 r H  h xs hx
 exact bh (T:=bD) (deep:=be) rfl rfl rfl bf hx (nB (cf:=cN) (m:=M) (aV:=cM) rfl  x0 bz []   aW H)
theorem Ts:PX cN M:=by
 intro x0 r H  h xs hx
 exact bh (T:=bD) (deep:=be) rfl rfl rfl bf hx (lC (cf:=cN) (m:=M) (aV:=cM) rfl  x0 bz []   aW H)
theorem Pd:Iu cN M:=by
 intro aw a0 b0 aS r H h L cd aI o p7 fG eK BU yG yH BV xs hx
 have hn0:cd=aw.length:=cG (E:=af) o (q:=0) rfl
 subst hn0
 obtain⟨r',h',hb,rfl,ho⟩:=mO (cf:=cN) (m:=M) (aV:=cM) rfl  aw a0 b0 aS h L aI p7 fG eK  BU yG yH BV o H
 exact⟨h',gv (T:=bD) rfl rfl hx hb,ho⟩
theorem Pe:Iv cN M:=by
 intro aw a0 b0 n0 aS r H h L cd aI o eF aY aT gz gS gT iy xs hx
 have hn0:cd=aw.length:=cG (E:=af) o (q:=0) rfl
 subst hn0
 obtain⟨r',h',hb,rfl,ho⟩:=qy (cf:=cN) (m:=M) (aV:=cM) rfl  aw a0 b0 n0 aS h L aI eF aY aT  gz gS gT iy o H
 exact⟨h',gv (T:=bD) rfl rfl hx hb,ho⟩
theorem QU:LU cN M:=by
 intro s0 r H  h xs hx
 exact bh (T:=bD) (deep:=be) rfl rfl rfl bf hx (lD (cf:=cN) (m:=M) (aV:=cM) rfl Mf s0 bz []   aW H)
theorem Tt:PY cN M:=by
 intro s0 r H h L  ao ak an o  xs hx
 obtain⟨r',h',hb,aB,aC,rfl,ho⟩:=mf (cf:=cN) (m:=M) (aV:=cM) rfl LD Th s0 h L ao ak an  o H
 exact⟨aB,aC,h',gv (T:=bD) rfl rfl hx hb,ho⟩
theorem Tu:PZ cN M:=by
 intro s0 n0 r H h L  ao ak an o  xs hx
 obtain⟨r',h',hb,aB,aC,rfl,ho⟩:=mg (cf:=cN) (m:=M) (aV:=cM) rfl LD Tk s0 n0 h L ao ak an  o H
 exact⟨aB,aC,h',gv (T:=bD) rfl rfl hx hb,ho⟩
theorem Pf:LV cN M:=by
 intro s0 f0 r H eD aP gH gI h xs hx
 exact bh (T:=bD) (deep:=be) rfl rfl rfl bf hx (qz (cf:=cN) (m:=M) (aV:=cM) rfl QT s0 f0 bz [] eD aP  gH gI aW H)
theorem Tv:P3 cN M:=by
 intro n0 x0 r H  h xs hx
 exact bh (T:=bD) (deep:=be) rfl rfl rfl bf hx (j7 (cf:=cN) (m:=M) (aV:=cM) rfl QP n0 x0 bz []   aW H)
theorem Tw:NK cN M:=by
 intro s0 a0 b0 r H h L  ao ak an o  xs hx
 obtain⟨r',h',hb,aB,aC,rfl,ho⟩:=lE (cf:=cN) (m:=M) (aV:=cM) rfl QQ s0 a0 b0 h L ao ak an  o H
 exact⟨aB,aC,h',gv (T:=bD) rfl rfl hx hb,ho⟩
theorem Tx:P4 cN M:=by
 intro s0 j8 r H h L Gl aI o eD aP bV qu gH ox gI xs hx
 have hn0:Gl=s0.length:=cG (E:=af) o (q:=0) rfl
 subst hn0
 obtain⟨r',h',hb,rfl,ho⟩:=sZ (cf:=cN) (m:=M) (aV:=cM) rfl QT s0 j8 h L aI eD aP bV  qu gH ox gI o H
 exact⟨h',gv (T:=bD) rfl rfl hx hb,ho⟩
theorem Ty:P5 cN M:=by
 intro n0 x0 r H  h xs hx
 exact bh (T:=bD) (deep:=be) rfl rfl rfl bf hx (j9 (cf:=cN) (m:=M) (aV:=cM) rfl QQ n0 x0 bz []   aW H)
theorem Tz:P6 cN M:=by
 intro x0 x1 r H  h xs hx
 exact bh (T:=bD) (deep:=be) rfl rfl rfl bf hx (kA (cf:=cN) (m:=M) (aV:=cM) rfl QR x0 x1 bz []   aW H)
theorem TA:P7 cN M:=by
 intro s0 f0 r H eD aP gH gI h xs hx
 exact bh (T:=bD) (deep:=be) rfl rfl rfl bf hx (qA (cf:=cN) (m:=M) (aV:=cM) rfl Tn s0 f0 bz [] eD aP  gH gI aW H)
theorem TB:P8 cN M:=by
 intro s0 ka nb r H  h xs hx
 exact bh (T:=bD) (deep:=be) rfl rfl rfl bf hx (se (cf:=cN) (m:=M) (aV:=cM) rfl Tq s0 ka nb bz []   aW H)
theorem TC:P9 cN M:=by
 intro x0 y0 r H  h xs hx
 exact bh (T:=bD) (deep:=be) rfl rfl rfl bf hx (mh (cf:=cN) (m:=M) (aV:=cM) rfl Tr x0 y0 bz []   aW H)
theorem TD:Qa cN M:=by
 intro x0 y0 r H  h xs hx
 exact bh (T:=bD) (deep:=be) rfl rfl rfl bf hx (kB (cf:=cN) (m:=M) (aV:=cM) rfl Ts x0 y0 bz []   aW H)
theorem Pg:KL cN M:=by
 intro aw a0 m0 b0 aS r H h L cd aI o eF aY aT gz gS gT iy xs hx
 have hn0:cd=aw.length:=cG (E:=af) o (q:=0) rfl
 subst hn0
 obtain⟨r',h',hb,rfl,ho⟩:=vg (cf:=cN) (m:=M) (aV:=cM) rfl Pe aw a0 m0 b0 aS h L aI eF aY aT  gz gS gT iy o H
 exact⟨h',gv (T:=bD) rfl rfl hx hb,ho⟩
theorem Ph:LW cN M:=by
 intro s0 l0 r H  h xs hx
 exact bh (T:=bD) (deep:=be) rfl rfl rfl bf hx (kZ (cf:=cN) (m:=M) (aV:=cM) rfl Mf Pf Tv s0 l0 bz []   aW H)
theorem QV:NS cN M:=by
 intro s0 a0 b0 r H h L  ao ak an o  xs hx
 obtain⟨r',h',hb,eT,aB,aC,rfl,ho⟩:=kC (cf:=cN) (m:=M) (aV:=cM) rfl QN Tl Tw s0 a0 b0 h L ao ak an  o H
 exact⟨eT,aB,aC,h',gv (T:=bD) rfl rfl hx hb,ho⟩
theorem QX:NZ cN M:=by
 intro s0 aF r H  h L xs o hx
 obtain⟨r',h',hb,eT,rfl,ho⟩:=la (cf:=cN) (m:=M) (aV:=cM) rfl Tx Ty Tb s0 aF bz []   aW H
 exact⟨nJ h.next eT,_,sa (T:=bD) (deep:=be) rfl rfl rfl bf hx hb (zL),Has.eB o ho (Hf (fun _=>rfl) (.nil)),pn _ _⟩
theorem TE:Qc cN M:=by
 intro s0 ca n0 r H h L  ao ak an o  xs hx
 obtain⟨r',h',hb,aB,aC,rfl,ho⟩:=lF (cf:=cN) (m:=M) (aV:=cM) rfl LD Tz s0 ca n0 h L ao ak an  o H
 exact⟨aB,aC,h',gv (T:=bD) rfl rfl hx hb,ho⟩
theorem Pj:LX cN M:=by
 intro s0 r H  h xs hx
 exact bh (T:=bD) (deep:=be) rfl rfl rfl bf hx (sh (cf:=cN) (m:=M) (aV:=cM) rfl TB s0 bz []   aW H)
theorem TF:Qd cN M:=by
 intro x0 x1 x2 r H  h xs hx
 exact bh (T:=bD) (deep:=be) rfl rfl rfl bf hx (kb (cf:=cN) (m:=M) (aV:=cM) rfl Pj Pf Tm x0 x1 x2 bz []   aW H)
theorem TG:Qe cN M:=by
 intro n0 ls r H  h xs hx
 exact bh (T:=bD) (deep:=be) rfl rfl rfl bf hx (si (cf:=cN) (m:=M) (aV:=cM) rfl Pj Pf QR To n0 ls bz []   aW H)
theorem QY:LZ cN M:=by
 intro a0 b0 r H  h xs hx
 exact bh (T:=bD) (deep:=be) rfl rfl rfl bf hx (mj (cf:=cN) (m:=M) (aV:=cM) rfl TC Tp TD a0 b0 bz []   aW H)
theorem TH:Qf cN M:=by
 intro i0 j0 x0 r H  h xs hx
 exact bh (T:=bD) (deep:=be) rfl rfl rfl bf hx (mP (cf:=cN) (m:=M) (aV:=cM) rfl QY i0 j0 x0 bz []   aW H)
theorem LF:∀kk,s7 cN M kk
 | 0=>by
  intro aw a0 m0 b0 aS r H h L cd aI o eF aY aT gz gS gT iy xs hx
  cases H
 | kk+1=>by
  intro aw a0 m0 b0 aS r H h L cd aI o eF aY aT gz gS gT iy xs hx
  have hn0:cd=aw.length:=cG (E:=af) o (q:=0) rfl
  subst hn0
  obtain⟨r',h',hb,rfl,ho⟩:=so (cf:=cN) (m:=M) (aV:=cM) rfl Pg aw a0 m0 b0 aS h L aI eF aY aT  (LF kk) gz gS gT iy o H
  exact⟨h',gv (T:=bD) rfl rfl hx hb,ho⟩
theorem TI:Qg cN M:=by
 intro s0 a0 b0 r H h L  ao ak an o  xs hx
 obtain⟨r',h',hb,eT,aB,aC,rfl,ho⟩:=ld (cf:=cN) (m:=M) (aV:=cM) rfl Ph QV QM QX s0 a0 b0 h L ao ak an  o H
 exact⟨eT,aB,aC,h',gv (T:=bD) rfl rfl hx hb,ho⟩
theorem TJ:Qh cN M:=by
 intro s0 a0 b0 r H h L  ao ak an o  xs hx
 obtain⟨r',h',hb,Cy,aB,aC,rfl,ho⟩:=lG (cf:=cN) (m:=M) (aV:=cM) rfl Ph QV QM QX s0 a0 b0 h L ao ak an  o H
 exact⟨Cy,aB,aC,h',gv (T:=bD) rfl rfl hx hb,ho⟩
theorem TK:Og cN M:=by
 intro s0 n0 r H  h xs hx
 exact bh (T:=bD) (deep:=be) rfl rfl rfl bf hx (mn (cf:=cN) (m:=M) (aV:=cM) rfl Ph QN s0 n0 bz []   aW H)
theorem TL:Qi cN M:=by
 intro s0 ca dq r H h L  ao ak an o  xs hx
 obtain⟨r',h',hb,aB,aC,rfl,ho⟩:=lf (cf:=cN) (m:=M) (aV:=cM) rfl Tc LD TF s0 ca dq h L ao ak an  o H
 exact⟨aB,aC,h',gv (T:=bD) rfl rfl hx hb,ho⟩
theorem TM:Qj cN M:=by
 intro x0 r H  h xs hx
 exact bh (T:=bD) (deep:=be) rfl rfl rfl bf hx (kE (cf:=cN) (m:=M) (aV:=cM) rfl Pj x0 bz []   aW H)
theorem TN:Qk cN M:=by
 intro n0 x0 r H  h xs hx
 exact bh (T:=bD) (deep:=be) rfl rfl rfl bf hx (oD (cf:=cN) (m:=M) (aV:=cM) rfl TG n0 x0 bz []   aW H)
theorem TO:Ql cN M:=by
 intro aw n0 aS r H h L cd aI o kF dv cU mQ qC qD qE xs hx
 have hn0:cd=aw.length:=cG (E:=af) o (q:=0) rfl
 subst hn0
 obtain⟨r',h',hb,rfl,ho⟩:=vj (cf:=cN) (m:=M) (aV:=cM) rfl Pd (LF _) aw n0 aS h L aI kF dv cU  mQ qC qD qE o H
 exact⟨h',gv (T:=bD) rfl rfl hx hb,ho⟩
theorem TP:Qm cN M:=by
 intro s0 r H  h xs hx
 exact bh (T:=bD) (deep:=be) rfl rfl rfl bf hx (qF (cf:=cN) (m:=M) (aV:=cM) rfl QU TK s0 bz []   aW H)
theorem TQ:Qn cN M:=by
 intro s0 a0 r H h L  ao ak an o  xs hx
 obtain⟨r',h',hb,aB,aC,rfl,ho⟩:=lH (cf:=cN) (m:=M) (aV:=cM) rfl LD TM s0 a0 h L ao ak an  o H
 exact⟨aB,aC,h',gv (T:=bD) rfl rfl hx hb,ho⟩
theorem TR:Qo cN M:=by
 intro t0 r H  h xs hx
 exact bh (T:=bD) (deep:=be) rfl rfl rfl bf hx (qG (cf:=cN) (m:=M) (aV:=cM) rfl TA TN t0 bz []   aW H)
theorem TS:Qp cN M:=by
 intro x0 aS r H h L Ea aI o eD aP bV qu gH ox gI xs hx
 have hn0:Ea=x0.length:=cG (E:=af) o (q:=0) rfl
 subst hn0
 obtain⟨r',h',hb,rfl,ho⟩:=oE (cf:=cN) (m:=M) (aV:=cM) rfl TO x0 aS h L aI eD aP bV  qu gH ox gI o H
 exact⟨h',gv (T:=bD) rfl rfl hx hb,ho⟩
theorem TT:Qq cN M:=by
 intro aK r H  h xs hx
 exact bh (T:=bD) (deep:=be) rfl rfl rfl bf hx (oG (cf:=cN) (m:=M) (aV:=cM) rfl QY TS TH aK bz []   aW H)
theorem TU:Qt cN M:=by
 intro t0 r H  h L xs o hx
 obtain⟨r',h',hb,eT,eJ,rfl,ho⟩:=qH (cf:=cN) (m:=M) (aV:=cM) rfl TT (QS _) t0 bz []   aW H
 exact⟨nJ h.next eT,eJ.map (nJ h.next),_,sa (T:=bD) (deep:=be) rfl rfl rfl bf hx hb (DK (gw (zL) (gw (rfl) (qX)))),Has.eB o ho (Hg (yB .nil)),pn _ _⟩
theorem TV:Qu cN M:=by
 intro t0 r H  h L xs o hx
 obtain⟨r',h',hb,eT,eJ,rfl,ho⟩:=qI (cf:=cN) (m:=M) (aV:=cM) rfl TR TU t0 bz []   aW H
 exact⟨nJ h.next eT,eJ.map (nJ h.next),_,sa (T:=bD) (deep:=be) rfl rfl rfl bf hx hb (Iq (gw (DK (gw (zL) (gw (rfl) (qX)))) (gw (rfl) (qX)))),Has.eB o ho (Hg (yB .nil)),pn _ _⟩
theorem TW:Qv cN M:=by
 intro s0 t0 r H h L  ao ak an o  xs hx
 obtain⟨r',h',hb,aB,aC,rfl,ho⟩:=mq (cf:=cN) (m:=M) (aV:=cM) rfl Mf TV s0 t0 h L ao ak an  o H
 exact⟨aB,aC,h',gv (T:=bD) rfl rfl hx hb,ho⟩
theorem QZ:L7 cN M:=by
 intro s0 x0 r H h L  ao ak an o  xs hx
 obtain⟨r',h',hb,aB,aC,rfl,ho⟩:=s9 (cf:=cN) (m:=M) (aV:=cM) rfl TI TJ Tt TQ Tu TL TE TW s0 x0 h L ao ak an  o H
 exact⟨aB,aC,h',gv (T:=bD) rfl rfl hx hb,ho⟩
theorem TX:Qw cN M:=by
 intro l0 r H h L   o  xs hx
 obtain⟨r',h',hb,eT,fY,fZ,rfl,ho⟩:=qJ (cf:=cN) (m:=M) (aV:=cM) rfl QZ Tg l0 h L  o H
 exact⟨eT,fY,fZ,h',gv (T:=bD) rfl rfl hx hb,ho⟩
theorem j5:S5 cN M:=by
 intro l0 x0 r H  h xs hx
 exact bh (T:=bD) (deep:=be) rfl rfl rfl bf hx (lg (cf:=cN) (m:=M) (aV:=cM) rfl Te Td TX Tf TP QZ QU l0 x0 bz []   aW H)
end Go.Proofs.Ytifafejidnjckaa
namespace Go.Proofs.Ytifafejidnjckaa
open Go Go.R Go.Proofs Go.RowKit Go.ChangeShapes Go.WideShapes
open Go.IntKind (i64 u64 u8 u32)
theorem all_true (uM:List AV)(h:oe Try.prog 7 Try.f5.params.toList uM):∃cf h',CallOK Try.prog cf∧cf 5 uM bz=some (.bool true,h'):=by
 rw [show Try.f5.params.toList=[22,44] from by rw [Try.params5]] at h
 obtain⟨xs,ys,rfl,h1,h2⟩:=Ch h
 obtain⟨l,hl,fl⟩:=E7 (n:=0) h1
 obtain⟨x,fx⟩:=GK (n:=1) h2
 exact⟨cN,bz,Jn,j5 l x true (xB (by decide) l x hl) bz _ (fq (ah (fl bz) (ah (fx bz) (ax))))⟩
theorem nE (os:Os)(started:os.Started)(H:Type)(enc:TypeId × Value→H) :
  ReturnsInHanded {} Try.checked os 5 .any (Rows.storeFailedSpec.pre6 enc Try.prog Try.f5 Rows.storeFailedRow.domain false) (Rows.storeFailedSpec.post enc Try.prog Try.f5 false true false false):=by
 refine returnsInHanded_of_change (C:=Try.checked) (by kernel_rfl) started (by kernel_rfl) Try.func5
  (ChangeSpec.witness6 (enc:=enc) (C:=Try.checked) false ⟨#[],#[.slice none 0 0,.agg #[.int .i64 0,.int .i64 0,.int .i64 0,.string ByteArray.empty,.slice none 0 0,.slice none 0 0,.int .i64 0]],[]⟩ 8 (by kernel_rfl) (by kernel_rfl) (by kernel_rfl) (by kernel_rfl)) ?_
 intro W base args ds gs before dP hW TY _
 exact sR (cf:=fun _ _ _=>none) (P:=Try.prog) (m:=7) (tb:=4) (by kernel_rfl)
  (by rw [show Try.f5.params.toList=[22,44] from by rw [Try.params5]]; intro t ht; simp at ht; rcases ht with rfl | rfl<;>exact⟨by kernel_rfl,of_decide_eq_true (by kernel_rfl)⟩)
  (by rw [show Try.f5.params.toList=[22,44] from by rw [Try.params5]]; intro t ht; simp at ht; rcases ht with rfl | rfl<;>kernel_rfl) rfl rfl Try.underlying4
  (fun ds HL=>by
   have:ds.length=2:=by rw [HL]; rfl
   match ds,this with
   | [d0,d1],_=>rfl) all_true dP hW
theorem storeFailed_holds:Rows.StoreFailedSaid:=
 OpenClaim.holds_of_wide 5 Try.f5 rfl rfl rfl rfl rfl rfl rfl ⟨rfl,rfl,rfl,rfl,rfl⟩ rfl rfl rfl rfl rfl (by kernel_rfl) Try.func5 (by kernel_rfl)
  (of_decide_eq_true (by kernel_rfl)) (by unfold Func.isWrapper; first | (rw [if_pos (by decide +kernel)]; kernel_rfl) | (rw [if_neg (by decide +kernel)]; exact⟨rfl,rfl⟩))
  (fun os started H enc _=>nE os started H enc)
end Go.Proofs.Ytifafejidnjckaa
