/- Part of the proof: PA4, PA5, PA6, PR1, PS1, PT6, PS2, PS3, PS4, PS5, PT7. -/
import Derived.Test.YtifafejidnjckaaGreatK12
set_option linter.unusedVariables false
set_option linter.unusedSimpArgs false
set_option maxRecDepth 100000
open Bool renaming and_eq_true → ae3, false_eq_true → afa, true_and → afP, or_eq_true → afR, not_true → afT
open Int renaming toNat_natCast → ae7, natCast_nonneg → af5
open List renaming getElem?_eq_some_iff → ae5, getElem?_eq_getElem → ae8, length_append → afb, length_cons → afc, drop_eq_getElem_cons → afe, getD_eq_getElem?_getD → aff, length_nil → afi, mem_of_getElem? → afj, mem_append → afk, length_map → afl, append_assoc → afn, map_append → afo, getElem?_eq_none → afp, mem_cons → afq, map_cons → afs, mem_map → afu, drop_zero → afw, mem_append_left → afE, length_set → afJ, getElem?_cons_zero → afK, all_cons → afQ, drop_eq_nil_of_le → afY, append_nil → afZ, ext_getElem? → af0, getElem?_of_mem → af4, drop_append_of_le_length → agh, mem_cons_of_mem → agj, getElem?_set → agl
open Nat renaming le_refl → ae4, zero_add → aft, zero_le → afU, mul_le_mul_right → af2, add_zero → agz
open Option renaming bind_some → aeZ
open Option.some renaming injEq → ae2, inj → afB
open Prod.mk renaming injEq → ae9
namespace Go.Proofs.YtifafejidnjckaaGreat
open Go Go.R Go.Uf
open Go.IntKind (i64 u64 u8 u32)
def CT (p:bV):Int × Int:=(p.mV,p.ox)
def wY (a b:List Int):List bV:=(a.zip b).map fun p=>⟨p.1,p.2⟩
theorem AE {m:Nat}{v2 v3:ai}{s:ab}(hl:v2.args.length=v3.args.length)(h8:v2.args.length≤8):∀(k:Nat) (left:List bV) (i:Nat),i≤v2.args.length→v2.args.length - i<k→left.length+8≤1000000+i→
  aN.l1 m v2 v3 k left (i:Int) s=some (left++wY (v2.args.drop i) (v3.args.drop i),(v2.args.length:Int),s)
 | 0,left,i,h1,h2,_=>by omega
 | k+1,left,i,h1,h2,h3=>by
  simp only [aN.l1]
  by_cases hi:i<v2.args.length
  ·have Vu:i<v3.args.length:=by omega
   have e2:=ae8 hi
   have e3:=ae8 Vu
   have d:decide ((i:Int)<(v2.args.length:Int))=true:=by rw [decide_eq_true_eq]; omega
   have ea:app 16 left [(⟨v2.args[i],v3.args[i]⟩:bV)]=some (left++[⟨v2.args[i],v3.args[i]⟩]):=pU (by
    simp only [afc,afi]; omega)
   have ew:i64.wrap ((i:Int)+1)=((i+1:Nat):Int):=by rw [mf om om]; omega
   rw [if_pos d,CS e2,CS e3]
   simp only [aeZ,ea,ew]
   rw [AE hl h8 k _ (i+1) om om (by simp only [afb,afc,afi]; omega)]
   have e4:wY (v2.args.drop i) (v3.args.drop i)=⟨v2.args[i],v3.args[i]⟩::wY (v2.args.drop (i+1)) (v3.args.drop (i+1)):=by
    unfold wY
    rw [afe hi,afe Vu]; rfl
   rw [e4,afn]; rfl
  ·have d:decide ((i:Int)<(v2.args.length:Int))=false:=by rw [decide_eq_false_iff_not]; omega
   have e:i=v2.args.length:=by omega
   rw [if_neg (by rw [d]; decide),e]
   simp [wY]
def H6 (s s':ab)(l:List Int):Prop:=s'.aA=s.aA∧s'.aa=s.aa∧s'.an.length=s.an.length∧(∀n∈l,Rg s.an.length n∧kL s.an n=n)∧(∀n,Rg s.an.length n→n∉l→kL s'.an n=kL s.an n)∧(∀n∈l,kL s'.an n≠n)∧l.Nodup
theorem H6.refl (s:ab):H6 s s []:=⟨rfl,rfl,rfl,fun n h=>absurd h (by simp),fun _ _ _=>rfl,fun n h=>absurd h (by simp),by simp⟩
theorem H6.step {s s':ab}{l:List Int}{a b:Int}(ha:Rg s.an.length a)(hr:kL s.an a=a)(hne:b≠a)(u:H6 ⟨s.aA,s.aa,s.an.set a.toNat b⟩ s' l):H6 s s' (a::l):=by
 obtain⟨u1,u2,u3,u4,u5,u6,u7⟩:=u
 have hl:(s.an.set a.toNat b).length=s.an.length:=afJ
 have hs:=Cp (b:=b) ha
 have e:∀n,Rg s.an.length n→n≠a→kL (s.an.set a.toNat b) n=kL s.an n:=fun n hn h=>by
  rw [hs,if_neg (fun e=>h (by have:=hn.1; have:=ha.1; omega))]
 refine⟨u1,u2,u3.trans hl,fun n hn=>?_,fun n hn hm=>?_,fun n hn=>?_,?_⟩
 ·rcases afq.1 hn with rfl | hn
  ·exact⟨ha,hr⟩
  ·obtain⟨g1,g2⟩:=u4 n hn
   have g1:Rg (s.an.set a.toNat b).length n:=g1
   have g2:kL (s.an.set a.toNat b) n=n:=g2
   rw [hl] at g1
   refine⟨g1,?_⟩
   by_cases h:n=a
   ·subst h; exact hr
   ·rw [e n g1 h] at g2; exact g2
 ·simp only [afq,not_or] at hm
  have:=u5 n (by show Rg (s.an.set a.toNat b).length n; rw [hl]; exact hn) hm.2
  rw [this]
  exact e n hn hm.1
 ·rcases afq.1 hn with rfl | hn
  ·by_cases hin:n∈l
   ·exact u6 n hin
   ·have:=u5 n (by show Rg (s.an.set n.toNat b).length n; rw [hl]; exact ha) hin
    rw [this]
    show kL (s.an.set n.toNat b) n≠n
    rw [hs,if_pos rfl]
    exact hne
  ·exact u6 n hn
 ·rw [List.nodup_cons]
  refine⟨fun hin=>?_,u7⟩
  have:=(u4 a hin).2
  have this:kL (s.an.set a.toNat b) a=a:=this
  rw [hs,if_pos rfl] at this
  exact hne this
def H7 (s:ab)(L:List (Int × Int))(ch:List Int):Sum ((List Int) × Bool × ab) ((List Int) × (List bV) × Int × ab)→Prop
 | .inl (Mi,b,s')=>b=false∧∃l,Mi=ch++l∧H6 s s' l∧Inv s'∧(ch++l).length≤8000∧∀T,Cl s.aa T→gO s.aa (rp s.an) T→(∀p∈L,T p.1=T p.2)→False
 | .inr (Mi,_,_,s')=>∃l,Mi=ch++l∧H6 s s' l∧Inv s'∧(ch++l).length≤8000∧Cl s.aa (rp s'.an)∧gO s.aa (rp s.an) (rp s'.an)∧(∀p∈L,rp s'.an p.1=rp s'.an p.2)∧∀T,Cl s.aa T→gO s.aa (rp s.an) T→(∀p∈L,T p.1=T p.2)→gO s.aa (rp s'.an) T
end Go.Proofs.YtifafejidnjckaaGreat
namespace Go.Uf
open Go Go.R
open Go.IntKind (i64 u64 u8 u32)
theorem gO.trans {N:List ai}{R S T:Int→Int}(a:gO N R S)(b:gO N S T):gO N R T:=fun x y hx hy h=>b x y hx hy (a x y hx hy h)
theorem gO.congr {N:List ai}{R S T:Int→Int}(e:∀n,Rg N.length n→R n=S n)(b:gO N S T):gO N R T:=fun x y hx hy h=>b x y hx hy (by rw [←e x hx,←e y hy,h])
theorem gO.Mj {N:List ai}{R S T:Int→Int}(e:∀n,Rg N.length n→S n=T n)(b:gO N R S):gO N R T:=fun x y hx hy h=>by rw [←e x hx,←e y hy]; exact b x y hx hy h
theorem rL.congr {N:List ai}{R S:Int→Int}{L:List (Int × Int)}(e:∀n,Rg N.length n→R n=S n)(p:rL N S L):rL N R L:=fun T s hL x y hx hy h=>p T (s.congr fun n hn=>(e n hn).symm) hL x y hx hy (by rw [←e x hx,←e y hy,h])
end Go.Uf
namespace Go.Proofs.YtifafejidnjckaaGreat
open Go Go.R Go.Uf
open Go.IntKind (i64 u64 u8 u32)
section
variable {s:ab}
theorem OU {ch:List Int}{left M:List bV}{i:Nat}{p:bV}{q:Int × Int}{out:Sum ((List Int) × Bool × ab) ((List Int) × (List bV) × Int × ab)}
  (v:Inv s) (hp:left[i]? = some p) (h1:Rg s.aa.length p.mV) (h2:Rg s.aa.length p.ox)
  (hq:(q.1=rp s.an p.mV∧q.2=rp s.an p.ox)∨(q.1=rp s.an p.ox∧q.2=rp s.an p.mV)) (hne:q.2≠q.1)
  (hr:∀n,Rg s.aa.length n→rp (s.an.set q.1.toNat q.2) n=tP (rp s.an) q n)
  (hM:∀T,Cl s.aa T→T (rp s.an p.mV)=T (rp s.an p.ox)→∀x∈M,T x.mV=T x.ox)
  (h:H7 ⟨s.aA,s.aa,s.an.set q.1.toNat q.2⟩ (((left++M).drop (i+1)).map CT) (ch++[q.1]) out):H7 s ((left.drop i).map CT) ch out:=by
 have hi:i<left.length:=(ae5.1 hp).1
 have TK:left[i]=p:=(ae5.1 hp).2
 have ed:left.drop i=p::left.drop (i+1):=by rw [afe hi,TK]
 have J1:(left++M).drop (i+1)=left.drop (i+1)++M:=agh om
 have g1:=v.cn.rg _ h1
 have g2:=v.cn.rg _ h2
 have gq:Rg s.aa.length q.1∧Rg s.aa.length q.2∧rp s.an q.1=q.1∧rp s.an q.2=q.2:=by
  rcases hq with⟨e1,e2⟩| ⟨e1,e2⟩
  ·rw [e1,e2]; exact⟨g1,g2,v.cn.id _ h1,v.cn.id _ h2⟩
  ·rw [e1,e2]; exact⟨g2,g1,v.cn.id _ h2,v.cn.id _ h1⟩
 obtain⟨q1,q2,q3,q4⟩:=gq
 have rS:kL s.an q.1=q.1:=by have:=v.ok.rt _ (v.rg q1); rwa [q3] at this
 have YZ:gO s.aa (rp s.an) (rp (s.an.set q.1.toNat q.2)):=gO.Mj (fun n hn=>(hr n hn).symm) Cr
 have Y0:rp (s.an.set q.1.toNat q.2) p.mV=rp (s.an.set q.1.toNat q.2) p.ox:=by
  rw [hr _ h1,hr _ h2]
  rcases hq with⟨e1,e2⟩| ⟨e1,e2⟩
  ·exact vg e1.symm e2.symm hne
  ·exact (vg e1.symm e2.symm hne).symm
 have Mk:∀T,Cl s.aa T→gO s.aa (rp s.an) T→(∀x∈(left.drop i).map CT,T x.1=T x.2)→gO s.aa (rp (s.an.set q.1.toNat q.2)) T∧∀x∈((left++M).drop (i+1)).map CT,T x.1=T x.2:=by
  intro T cT sT hT
  have tp:T p.mV=T p.ox:=hT (CT p) (by rw [ed]; simp)
  have ta:T (rp s.an p.mV)=T p.mV:=sT _ _ g1 h1 (v.cn.id _ h1)
  have tb:T (rp s.an p.ox)=T p.ox:=sT _ _ g2 h2 (v.cn.id _ h2)
  have tt:T (rp s.an p.mV)=T (rp s.an p.ox):=by rw [ta,tb,tp]
  refine⟨gO.congr hr (AA v.cn q1 q2 sT ?_),fun x hx=>?_⟩
  ·rcases hq with⟨e1,e2⟩| ⟨e1,e2⟩
   ·rw [e1,e2]; exact tt
   ·rw [e1,e2]; exact tt.symm
  ·rw [J1,afo] at hx
   rcases afk.1 hx with hx | hx
   ·exact hT x (by rw [ed]; simp only [afs]; exact agj _ hx)
   ·obtain⟨y,hy,rfl⟩:=afu.1 hx
    exact hM T cT tt y hy
 match out,h with
 | .inl (Mi,b,s'),⟨hb,l,e,u,v',hl,hT⟩=>
  exact⟨hb,q.1::l,by rw [e]; simp,H6.step (v.rg q1) rS hne u,v',by simpa using hl,fun T cT sT pT=>by
   obtain⟨k1,k2⟩:=Mk T cT sT pT
   exact hT T cT k1 k2⟩
 | .inr (Mi,Ef,i',s'),⟨l,e,u,v',hl,hc,hs,OV,hT⟩=>
  refine⟨q.1::l,by rw [e]; simp,H6.step (v.rg q1) rS hne u,v',by simpa using hl,hc,YZ.trans hs,fun x hx=>?_,fun T cT sT pT=>?_⟩
  ·rw [ed] at hx
   simp only [afs] at hx
   rcases afq.1 hx with rfl | hx
   ·exact hs _ _ h1 h2 Y0
   ·exact OV x (by rw [J1,afo]; exact afE _ hx)
  ·obtain⟨k1,k2⟩:=Mk T cT sT pT
   exact hT T cT k1 k2
theorem H8 {a b:List Int}{x:bV}(h:x∈wY a b):∃i:Nat,a[i]? = some x.mV∧b[i]? = some x.ox:=by
 unfold wY at h
 obtain⟨p,hp,rfl⟩:=afu.1 h
 obtain⟨i,hi⟩:=af4 hp
 rw [List.getElem?_zip_eq_some] at hi
 exact⟨i,hi⟩
theorem OW {a b:List Int}{i:Nat}{x y:Int}(h1:a[i]? = some x)(h2:b[i]? = some y):(x,y)∈(wY a b).map CT:=by
 unfold wY
 rw [List.map_map]
 refine afu.2 ⟨(x,y),?_,rfl⟩
 exact afj (i:=i) (List.getElem?_zip_eq_some.2 ⟨h1,h2⟩)
theorem vh {m:Nat}(hm:16000≤m):∀(k:Nat) (s:ab) (ch:List Int) (left:List bV) (i:Nat),i≤left.length→9*(s.aa.length - vW s.an)+(left.length - i)<k→left.length≤1+8*vW s.an→ch.length≤vW s.an→Inv s→
  (∀p∈left,Rg s.aa.length p.mV∧Rg s.aa.length p.ox)→rL s.aa (rp s.an) ((left.drop i).map CT)→∃out,aN.l0 m k ch left (i:Int) s=some out∧H7 s ((left.drop i).map CT) ch out
 | 0,s,ch,left,i,h1,h2,h3,h4,v,hin,hp=>by omega
 | k+1,s,ch,left,i,h1,h2,h3,h4,v,hin,hp=>by
  have n1:=Ck s.an
  have n2:=v.len
  have n3:=v.max
  simp only [aN.l0]
  by_cases hi:i<left.length
  rotate_left
  ·have d:decide ((i:Int)<(left.length:Int))=false:=by rw [decide_eq_false_iff_not]; omega
   rw [if_neg (by rw [d]; decide)]
   have hd:left.drop i=[]:=afY om
   rw [hd] at hp ⊢
   exact⟨_,rfl,[],by simp,H6.refl s,v,by simp; omega,Ee hp,fun _ _ _ _ h=>h,fun x hx=>by simp at hx,fun T _ s _=>s⟩
  have d:decide ((i:Int)<(left.length:Int))=true:=by rw [decide_eq_true_eq]; omega
  have ep:=ae8 hi
  generalize left[i]=p at ep
  obtain⟨ra,rb⟩:=hin p (afj ep)
  have ed:left.drop i=p::left.drop (i+1):=by
   rw [afe hi]; congr 1
   exact (ae5.1 ep).2
  have ew:i64.wrap ((i:Int)+1)=((i+1:Nat):Int):=by rw [mf om om]; omega
  rw [if_pos d,CS ep]
  simp only [aeZ,P7 hm v ra,P7 hm v rb,ew]
  have ga:=v.cn.rg _ ra
  have gb:=v.cn.rg _ rb
  have OV:rL s.aa (rp s.an) (CT p::(left.drop (i+1)).map CT):=by rw [ed] at hp; exact hp
  by_cases he:rp s.an p.mV=rp s.an p.ox
  ·have c1:(rp s.an p.mV==rp s.an p.mV&&rp s.an p.ox==rp s.an p.mV)=true:=by simp [he]
   rw [if_pos c1]
   obtain⟨out,e1,e2⟩:=vh hm k s ch left (i+1) om om h3 h4 v hin (AB OV ra rb he)
   refine⟨out,e1,?_⟩
   match out,e2 with
   | .inl (Mi,b,s'),⟨hb,l,e,u,v',hl,hT⟩=>
    exact⟨hb,l,e,u,v',hl,fun T cT sT pT=>hT T cT sT fun x hx=>pT x (by rw [ed]; simp only [afs]; exact agj _ hx)⟩
   | .inr (Mi,Ef,i',s'),⟨l,e,u,v',hl,hc,hs,hq,hT⟩=>
    refine⟨l,e,u,v',hl,hc,hs,fun x hx=>?_,fun T cT sT pT=>hT T cT sT fun x hx=>pT x (by rw [ed]; simp only [afs]; exact agj _ hx)⟩
    rw [ed] at hx
    simp only [afs] at hx
    rcases afq.1 hx with rfl | hx
    ·exact hs _ _ ra rb he
    ·exact hq x hx
  ·have c1:¬(rp s.an p.mV==rp s.an p.mV&&rp s.an p.ox==rp s.an p.mV)=true:=by
    simp only [BEq.rfl,afP,beq_iff_eq]; exact fun h=>he h.symm
   rw [if_neg c1]
   simp only [qX ga,qX gb,aeZ]
   obtain⟨jv,jr,jn⟩:=v.join ga gb (v.cn.id _ ra) (v.cn.id _ rb) he
   have ej:=Sb (m:=m) ga gb v.len
   obtain⟨ob,oq⟩:=vf (N:=s.aa) (rp s.an p.mV) (rp s.an p.ox)
   have hne:(lC s.aa (rp s.an p.mV) (rp s.an p.ox)).2≠(lC s.aa (rp s.an p.mV) (rp s.an p.ox)).1:=by
    rcases oq with⟨e1,e2⟩| ⟨e1,e2⟩
    ·rw [e1,e2]; exact fun h=>he h.symm
    ·rw [e1,e2]; exact he
   generalize lC s.aa (rp s.an p.mV) (rp s.an p.ox)=q at *
   have Sd:(q.1=rp s.an p.mV∧q.2=rp s.an p.ox)∨(q.1=rp s.an p.ox∧q.2=rp s.an p.mV):=oq
   have n4:=Ck (s.an.set q.1.toNat q.2)
   rw [afJ,jn] at n4
   have Vv:∀M:List bV,M.length≤8→(∀x∈M,Rg s.aa.length x.mV∧Rg s.aa.length x.ox)→
     (∀T,Cl s.aa T→T (rp s.an p.mV)=T (rp s.an p.ox)→∀x∈M,T x.mV=T x.ox)→
     (jy s.aa (rp s.an p.mV)→jy s.aa (rp s.an p.ox)→pk (fJ s.aa (rp s.an p.mV)) (fJ s.aa (rp s.an p.ox))∧∀(i:Nat) (a b:Int),(fJ s.aa (rp s.an p.mV)).args[i]? = some a→(fJ s.aa (rp s.an p.ox)).args[i]? = some b→(a,b)∈M.map CT)→
     ∃out,((app 8 ch [q.1]).bind fun x=>aN.l0 m k x (left++M) ((i+1:Nat):Int) ⟨s.aA,s.aa,s.an.set q.1.toNat q.2⟩)=some out∧H7 s ((left.drop i).map CT) ch out:=by
    intro M hM8 Y1 Y2 Y3
    rw [pU (by simp only [afc,afi]; omega),aeZ]
    have J1:((left++M).drop (i+1)).map CT=(left.drop (i+1)).map CT++M.map CT:=by
     rw [agh om,afo]
    have jn:vW (s.an.set q.1.toNat q.2)=vW s.an+1:=jn
    obtain⟨out,e1,e2⟩:=vh hm k ⟨s.aA,s.aa,s.an.set q.1.toNat q.2⟩ (ch++[q.1]) (left++M) (i+1) (by rw [afb]; omega)
     (by show 9*(s.aa.length - vW (s.an.set q.1.toNat q.2))+_<k; rw [jn,afb]; omega) (by show _≤1+8*vW (s.an.set q.1.toNat q.2); rw [jn,afb]; omega)
     (by show _≤vW (s.an.set q.1.toNat q.2); rw [jn,afb]; simp only [afc,afi]; omega) jv
     (fun x hx=>(afk.1 hx).elim (hin x) (Y1 x)) (by
      rw [J1]
      exact rL.congr jr (AD v.cn (p:=CT p) OV ra rb Sd hne Y3))
    exact⟨out,e1,OU v ep ra rb Sd hne jr Y2 e2⟩
   have FZ:=Vv [] (by simp) (fun x hx=>by simp at hx) (fun T _ _ x hx=>by simp at hx)
   rw [afZ] at FZ
   by_cases k1:(fJ s.aa (rp s.an p.mV)).kind=0
   ·have b1:(!((fJ s.aa (rp s.an p.mV)).kind==(0:Int)))=false:=by rw [k1]; rfl
    rw [b1,if_neg (by decide),ej]
    exact FZ fun h=>absurd k1 h
   have b1:(!((fJ s.aa (rp s.an p.mV)).kind==(0:Int)))=true:=by simpa using k1
   rw [b1,if_pos rfl]
   by_cases k2:(fJ s.aa (rp s.an p.ox)).kind=0
   ·have b2:(!((fJ s.aa (rp s.an p.ox)).kind==(0:Int)))=false:=by rw [k2]; rfl
    rw [b2,if_neg (by decide),ej]
    exact FZ fun _ h=>absurd k2 h
   have b2:(!((fJ s.aa (rp s.an p.ox)).kind==(0:Int)))=true:=by simpa using k2
   rw [b2,if_pos rfl]
   obtain⟨df,ed1,J1⟩:=Mh (m:=m) (fJ s.aa (rp s.an p.mV)) (fJ s.aa (rp s.an p.ox))
   rw [ed1,aeZ]
   cases df with
   | true=>
    refine⟨_,rfl,rfl,[],by simp,H6.refl s,v,by simp; omega,fun T cT sT pT=>?_⟩
    have tp:T p.mV=T p.ox:=pT (CT p) (by rw [ed]; simp)
    have ta:T (rp s.an p.mV)=T p.mV:=sT _ _ ga ra (v.cn.id _ ra)
    have tb:T (rp s.an p.ox)=T p.ox:=sT _ _ gb rb (v.cn.id _ rb)
    have:=(cT _ _ ga gb (by rw [ta,tb,tp]) k1 k2).1
    have:=J1.2 this
    cases this
   | false=>
    have tp:=J1.1 rfl
    have a8:=(v.args _ (lG ga)).1
    have el:aN.l1 m (fJ s.aa (rp s.an p.mV)) (fJ s.aa (rp s.an p.ox)) m left 0 s=some (left++wY ((fJ s.aa (rp s.an p.mV)).args.drop 0) ((fJ s.aa (rp s.an p.ox)).args.drop 0),((fJ s.aa (rp s.an p.mV)).args.length:Int),s):=AE tp.2.2.2 a8 m left 0 (afU _) om om
    rw [if_neg (by decide),el]
    simp only [aeZ,afw,ej]
    refine Vv (wY (fJ s.aa (rp s.an p.mV)).args (fJ s.aa (rp s.an p.ox)).args) ?_ (fun x hx=>?_) (fun T cT hT x hx=>?_) (fun _ _=>⟨tp,fun i a b ha hb=>OW ha hb⟩)
    ·unfold wY; rw [afl,List.length_zip]; omega
    ·obtain⟨j,j1,j2⟩:=H8 hx
     exact⟨(v.args _ (lG ga)).2 _ (afj j1),(v.args _ (lG gb)).2 _ (afj j2)⟩
    ·obtain⟨j,j1,j2⟩:=H8 hx
     exact (cT _ _ ga gb hT k1 k2).2 j _ _ j1 j2
end
section
variable {m:Nat}{s s':ab}
theorem AF {a b:ab}(h1:a.aA=b.aA)(h2:a.aa=b.aa)(h3:a.an=b.an):a=b:=by
 cases a; cases b; cases h1; cases h2; cases h3; rfl
theorem Se {a b:List Int}(hl:a.length=b.length)(h:∀n,Rg b.length n→kL a n=kL b n):a=b:=by
 refine af0 fun i=>?_
 by_cases hi:i<b.length
 ·have r:Rg b.length (i:Int):=⟨af5 _,om⟩
  have e1:=xk (to:=b) r
  have e2:=xk (to:=a) (n:=(i:Int)) (by rw [hl]; exact r)
  rw [ae7] at e1 e2
  rw [e1,e2,h _ r]
 ·rw [afp om,afp om]
theorem H9 (l:List Int)(hl:l.length≤8000)(s:ab)(hs:∀n∈l,Rg s.an.length n∧kL s.an n=n):∀(k:Nat) (i:Nat) (s':ab),i≤l.length→l.length - i<k→s'.aA=s.aA→s'.aa=s.aa→s'.an.length=s.an.length→(∀n,Rg s.an.length n→n∉l.drop i→kL s'.an n=kL s.an n)→
  bD.l0 m l k (i:Int) s'=some ((l.length:Int),s)
 | 0,i,s',h1,h2,_,_,_,_=>by omega
 | k+1,i,s',h1,h2,e1,e2,e3,h=>by
  simp only [bD.l0]
  by_cases hi:i<l.length
  ·have d:decide ((i:Int)<(l.length:Int))=true:=by rw [decide_eq_true_eq]; omega
   have el:=ae8 hi
   have ed:l.drop i=l[i]::l.drop (i+1):=afe hi
   generalize l[i]=n at el ed
   obtain⟨rn,sn⟩:=hs n (afj el)
   have rn':Rg s'.an.length n:=by rw [e3]; exact rn
   have ew:i64.wrap ((i:Int)+1)=((i+1:Nat):Int):=by rw [mf om om]; omega
   rw [if_pos d,CS el]
   simp only [aeZ,Co rn',ew]
   refine H9 l hl s hs k (i+1) _ om om e1 e2 (by show (List.set _ _ _).length=_; rw [afJ,e3]) (fun x hx hm=>?_)
   show kL (s'.an.set n.toNat n) x=_
   rw [Cp rn']
   by_cases he:x.toNat=n.toNat
   ·have:x=n:=by have:=hx.1; have:=rn.1; omega
    rw [if_pos he,this,sn]
   ·rw [if_neg he]
    refine h x hx ?_
    rw [ed]
    simp only [afq,not_or]
    exact⟨fun e=>he (by rw [e]),hm⟩
  ·have d:decide ((i:Int)<(l.length:Int))=false:=by rw [decide_eq_false_iff_not]; omega
   rw [if_neg (by rw [d]; decide)]
   have hd:l.drop i=[]:=afY om
   have:s'=s:=AF e1 e2 (Se e3 fun n hn=>h n hn (by rw [hd]; simp))
   rw [this]
   congr 2; omega
theorem Ml (hm:16000≤m){l:List Int}(hl:l.length≤8000)(u:H6 s s' l):bD.f m s' l=some s:=by
 obtain⟨u1,u2,u3,u4,u5,_⟩:=u
 have:=H9 (m:=m) l hl s u4 m 0 s' (afU _) om u1 u2 u3 (by rw [afw]; exact u5)
 have this:bD.l0 m l m 0 s'=some ((l.length:Int),s):=this
 simp only [bD.f,this,aeZ]
theorem Eg {f:Int→Option Bool}{g:Int→Bool}(l:List Int)(hl:l.length≤1000000)(hf:∀x∈l,f x=some (g x)):∀(k i:Nat),i≤l.length→l.length - i<k→
  (∃j:Nat,dU.l0 m l f k (i:Int)=some (.inl (j:Int))∧i≤j∧j<l.length∧(∀x,l[j]? = some x→g x=true)∧∀q,i≤q→q<j→∀x,l[q]? = some x→g x=false)∨
  (∃z,dU.l0 m l f k (i:Int)=some (.inr z)∧∀q,i≤q→∀x,l[q]? = some x→g x=false)
 | 0,i,h1,h2=>by omega
 | k+1,i,h1,h2=>by
  simp only [dU.l0]
  by_cases hi:i<l.length
  ·have d:decide ((i:Int)<(l.length:Int))=true:=by rw [decide_eq_true_eq]; omega
   have el:=ae8 hi
   generalize l[i]=n at el
   have ew:i64.wrap ((i:Int)+1)=((i+1:Nat):Int):=by rw [mf om om]; omega
   rw [if_pos d,CS el]
   simp only [aeZ,hf n (afj el),ew]
   cases hg:g n with
   | true=>
    left
    refine⟨i,by simp,ae4 _,hi,fun x hx=>?_,fun q h3 h4=>by omega⟩
    rw [el] at hx; cases hx; exact hg
   | false=>
    rw [if_neg (by decide)]
    have kL:∀q,i≤q→q≠i→i+1≤q:=fun q h3 h4=>by omega
    rcases Eg l hl hf k (i+1) om om with⟨j,e,j1,j2,j3,j4⟩| ⟨z,e,j4⟩
    ·left
     refine⟨j,e,om,j2,j3,fun q h3 h4 x hx=>?_⟩
     by_cases hq:q=i
     ·subst hq; rw [el] at hx; cases hx; exact hg
     ·exact j4 q (kL q h3 hq) h4 x hx
    ·right
     refine⟨z,e,fun q h3 x hx=>?_⟩
     by_cases hq:q=i
     ·subst hq; rw [el] at hx; cases hx; exact hg
     ·exact j4 q (kL q h3 hq) x hx
  ·have d:decide ((i:Int)<(l.length:Int))=false:=by rw [decide_eq_false_iff_not]; omega
   rw [if_neg (by rw [d]; decide)]
   right
   refine⟨_,rfl,fun q h3 x hx=>?_⟩
   rw [afp om] at hx; cases hx
theorem Ia {f:Int→Option Bool}{g:Int→Bool}(hm:2000000≤m)(l:List Int)(hl:l.length≤1000000)(hf:∀x∈l,f x=some (g x)) :
  (∃j:Nat,dU.f m l f=some (j:Int)∧j<l.length∧(∀x,l[j]? = some x→g x=true)∧∀q,q<j→∀x,l[q]? = some x→g x=false)∨
  (dU.f m l f=some (-1)∧∀x∈l,g x=false):=by
 rcases Eg (m:=m) l hl hf m 0 (afU _) om with⟨j,e,j1,j2,j3,j4⟩| ⟨z,e,j4⟩
 ·left
  have e:dU.l0 m l f m 0=_:=e
  refine⟨j,by simp only [dU.f,e,aeZ],j2,j3,fun q=>j4 q (afU _)⟩
 ·right
  have e:dU.l0 m l f m 0=_:=e
  refine⟨by simp only [dU.f,e,aeZ],fun x hx=>?_⟩
  obtain⟨q,hq⟩:=af4 hx
  exact j4 q (afU _) x hq
theorem yY {f:Int→Option Bool}{g:Int→Bool}(hm:2000000≤m)(l:List Int)(hl:l.length≤1000000)(hf:∀x∈l,f x=some (g x)):gB.f m l f=some (l.any g):=by
 unfold gB.f
 rcases Ia hm l hl hf with⟨j,e,j1,j2,_⟩| ⟨e,h⟩
 ·rw [e,aeZ]
  have h1:=ae8 j1
  have:l.any g=true:=List.any_eq_true.2 ⟨_,afj h1,j2 _ h1⟩
  rw [this]
  rw [show decide ((j:Int)≥0)=true by rw [decide_eq_true_eq]; omega]
 ·rw [e,aeZ]
  have:l.any g=false:=by
   rw [List.any_eq_false]
   intro x hx; simp [h x hx]
  rw [this]; rfl
theorem OX (hm:2000000≤m)(hs:s.aA=true)(l:List Int)(hl:l.length≤1000000):dQ.f m s l=some (if l.all (fun n=>decide (Rg s.aa.length n)) then 0 else 1):=by
 unfold dQ.f cw.f
 rw [hs]
 simp only [aeZ,afT,afa,if_false]
 rw [yY hm l hl (g:=fun n=>!decide (Rg s.aa.length n)) (fun x _=>by simp only [eD.f,H5,aeZ])]
 rw [aeZ]
 have:(l.any fun n=>!decide (Rg s.aa.length n)) = !(l.all fun n=>decide (Rg s.aa.length n)):=by
  induction l with
  | nil=>rfl
  | cons a l ih=>simp only [List.any_cons,afQ,Bool.not_and,ih (by simp only [afc] at hl; omega)]
 rw [this]
 cases (l.all fun n=>decide (Rg s.aa.length n))<;>rfl
end
end Go.Proofs.YtifafejidnjckaaGreat
namespace Go.R
open Go
open Go.IntKind (i64 u64 u8 u32)
theorem Mm (x:Int):u64.wrap x=x % 18446744073709551616:=by
 unfold IntKind.wrap; simp [IntKind.signed,IntKind.bits]
theorem Sf {x:Int}(h0:0≤x)(h1:x<18446744073709551616):u64.wrap x=x:=by
 rw [Mm,Int.emod_eq_of_lt h0 h1]
theorem Mn (x:Int):i64.wrap x=if x % 18446744073709551616≥9223372036854775808 then x % 18446744073709551616 - 18446744073709551616 else x % 18446744073709551616:=by
 unfold IntKind.wrap; simp [IntKind.signed,IntKind.bits]
theorem br {x:Int}(h0 : -9223372036854775808≤x)(h1:x<9223372036854775808):i64.wrap x=x:=by
 rw [Mn]; split<;>omega
end Go.R
namespace Go.Proofs.YtifafejidnjckaaGreat
open Go Go.R
open Go.IntKind (i64 u64 u8 u32)
def gt (l:List Int)(k:Nat):Int:=l.getD k 0
theorem bZ {l:List Int}{k:Nat}(h:k<l.length):l[k]? = some (gt l k):=by
 unfold gt; rw [aff,ae8 h]; rfl
theorem bh {l:List Int}{k:Nat}(h:k<l.length):gt l k∈l:=afj (bZ h)
theorem dR {l:List Int}{k:Nat}(h:k<l.length):ix l (k:Int)=some (gt l k):=by
 unfold ix; rw [if_pos om,ae7,bZ h]
theorem iv {l:List Int}{i:Int}{k:Nat}(hi:i=(k:Int))(h:k<l.length):ix l i=some (gt l k):=by rw [hi,dR h]
theorem gW {l:List Int}{i k:Nat}{x:Int}(hi:i<l.length):gt (l.set i x) k=if k=i then x else gt l k:=by
 unfold gt
 simp only [aff,agl]
 by_cases h:i=k
 ·subst h; simp [hi]
 ·rw [if_neg h,if_neg om]
theorem F0 {l r:List Int}(hl:l.length=r.length)(h:∀k,k<l.length→gt l k=gt r k):l=r:=by
 apply af0 fun k=>?_
 by_cases hk:k<l.length
 ·rw [bZ hk,bZ (hl ▸ hk),h k hk]
 ·rw [afp om,afp om]
def swp (l:List Int)(i j:Nat):List Int:=(l.set i (gt l j)).set j (gt l i)
theorem tU {l:List Int}{i j:Nat}(hi:i<l.length)(hj:j<l.length):(swp l i j).Perm l:=by
 have h1:gt l j=l[j]:=by have:=bZ hj; rw [ae8 hj] at this; exact (afB this).symm
 have h2:gt l i=l[i]:=by have:=bZ hi; rw [ae8 hi] at this; exact (afB this).symm
 unfold swp; rw [h1,h2]; exact List.set_set_perm hi hj
theorem pn {l:List Int}{i j k:Nat}(hi:i<l.length)(hj:j<l.length):gt (swp l i j) k=if k=j then gt l i else if k=i then gt l j else gt l k:=by
 unfold swp
 rw [gW (by simpa using hj),gW hi]
theorem yZ {l:List Int}{i j:Nat}:(swp l i j).length=l.length:=by simp [swp]
theorem Eh {a b:Nat}(h:a+b<9223372036854775808):i64.wrap (lP .u64 (u64.wrap (i64.wrap ((a:Int)+(b:Int)))) 1)=(((a+b) / 2:Nat):Int):=by
 rw [br (x:=(a:Int)+b) om om,Sf om om]
 have:lP .u64 ((a:Int)+(b:Int)) 1=(((a+b) / 2:Nat):Int):=by
  unfold lP
  rw [Int.fdiv_eq_ediv_of_nonneg _ (by decide)]
  show ((a:Int)+(b:Int)) / 2=_
  omega
 rw [this,br om om]
theorem Mo {m:Nat}{l:List Int}{a b n:Nat}(h1:a+n≤b)(h2:b+n≤l.length)(hl:l.length<2 ^ 40):∀(f i:Nat) (d:List Int),n - i<f→i≤n→d.Perm l→
  (∀k,gt d k=if a≤k∧k<a+i then gt l (k - a+b) else if b≤k∧k<b+i then gt l (k - b+a) else gt l k)→
  ∃d' x,cM.l0 m (a:Int) (b:Int) (n:Int) f d (i:Int)=some (d',x)∧d'.Perm l∧(∀k,gt d' k=if a≤k∧k<a+n then gt l (k - a+b) else if b≤k∧k<b+n then gt l (k - b+a) else gt l k)
 | 0,i,d,hf,_,_,_=>absurd hf om
 | f+1,i,d,hf,hi,hp,hg=>by
  have zo:(2:Nat) ^ 40=1099511627776:=by decide
  have jV:=hp.length_eq
  unfold cM.l0
  by_cases h:i<n
  ·have e1:i64.wrap ((b:Int)+(i:Int))=((b+i:Nat):Int):=by rw [br om om]; omega
   have e2:i64.wrap ((a:Int)+(i:Int))=((a+i:Nat):Int):=by rw [br om om]; omega
   have e3:i64.wrap ((i:Int)+1)=((i+1:Nat):Int):=by rw [br om om]; omega
   rw [if_pos (by simp; omega),e1,e2,e3,dR om,dR om,ae7,ae7,aeZ,aeZ,aeZ,dR (by simp; omega),aeZ]
   show ∃d' x,cM.l0 m (a:Int) (b:Int) (n:Int) f (swp d (a+i) (b+i)) ((i+1:Nat):Int)=some (d',x)∧_
   refine Mo h1 h2 hl f (i+1) _ om om ((tU om om).trans hp) fun k=>?_
   rw [pn om om,hg,hg,hg]
   by_cases k1:k=b+i
   ·subst k1
    rw [if_pos rfl,if_neg om,if_neg om,if_neg om,if_pos om]
    congr 1; omega
   ·rw [if_neg k1]
    by_cases k2:k=a+i
    ·subst k2
     rw [if_pos rfl,if_neg om,if_neg om,if_pos om]
     congr 1; omega
    ·rw [if_neg k2]
     by_cases k3:a≤k∧k<a+i
     ·rw [if_pos k3,if_pos om]
     ·rw [if_neg k3,if_neg (show ¬(a≤k∧k<a+(i+1)) by omega)]
      by_cases k4:b≤k∧k<b+i
      ·rw [if_pos k4,if_pos om]
      ·rw [if_neg k4,if_neg om]
  ·have:i=n:=by omega
   subst this
   exact⟨d,i,by rw [if_neg (by simp)],hp,hg⟩
theorem y4 {m:Nat}{l:List Int}{a b n:Nat}{cmp:Int→Int→Option Int}(h1:a+n≤b)(h2:b+n≤l.length)(hl:l.length<2 ^ 40)(hm:n<m) :
  ∃d',cM.f m l (a:Int) (b:Int) (n:Int) cmp=some d'∧d'.Perm l∧(∀k,gt d' k=if a≤k∧k<a+n then gt l (k - a+b) else if b≤k∧k<b+n then gt l (k - b+a) else gt l k):=by
 obtain⟨d',x,e,hp,hg⟩:=Mo (m:=m) h1 h2 hl m 0 l om om (List.Perm.refl _) (fun k=>by rw [if_neg om,if_neg om])
 have e:cM.l0 m (a:Int) (b:Int) (n:Int) m l 0=_:=e
 exact⟨d',by unfold cM.f; rw [e]; rfl,hp,hg⟩
def Tk (l d:List Int)(p i j:Nat):Prop:=d.Perm l∧(∀k,k<j→gt d (p+k)=gt l (p+i+k))∧(∀k,k<i→gt d (p+j+k)=gt l (p+k))∧∀k,k<p∨p+i+j≤k→gt d k=gt l k
theorem F3 {m:Nat}{q:Nat}{cmp:Int→Int→Option Int}(hm:2 ^ 41≤m):∀(f i j:Nat) (l:List Int),i+j<f→0<i→0<j→i≤q→q+j≤l.length→l.length<2 ^ 40→
  ∃(d':List Int) (x:Nat) (d:List Int),gZ.l0 m (q:Int) cmp f l (i:Int) (j:Int)=some (d',(x:Int),(x:Int))∧cM.f m d' (i64.wrap ((q:Int) - (x:Int))) (q:Int) (x:Int) cmp=some d∧Tk l d (q - i) i j
 | 0,i,j,l,hf,_,_,_,_,_=>absurd hf om
 | f+1,i,j,l,hf,hi,hj,hq,hl,hs=>by
  have zo:(2:Nat) ^ 40=1099511627776:=by decide
  have zN:(2:Nat) ^ 41=2199023255552:=by decide
  unfold gZ.l0
  have e1:i64.wrap ((q:Int) - (i:Int))=((q - i:Nat):Int):=by rw [br om om]; omega
  by_cases h:i=j
  ·subst h
   rw [if_neg (by simp)]
   obtain⟨d,e,hp,hg⟩:=y4 (m:=m) (l:=l) (a:=q - i) (b:=q) (n:=i) (cmp:=cmp) om om hs om
   refine⟨l,i,d,rfl,by rw [e1,e],hp,fun k hk=>?_,fun k hk=>?_,fun k hk=>?_⟩
   ·rw [hg,if_pos om]; congr 1; omega
   ·rw [hg,if_neg om,if_pos om]; congr 1; omega
   ·rw [hg,if_neg om,if_neg om]
  ·rw [if_pos (by simp; omega)]
   by_cases h2:j<i
   ·obtain⟨d1,e,hp,hg⟩:=y4 (m:=m) (l:=l) (a:=q - i) (b:=q) (n:=j) (cmp:=cmp) om om hs om
    have hd:=hp.length_eq
    have e2:i64.wrap ((i:Int) - (j:Int))=((i - j:Nat):Int):=by rw [br om om]; omega
    rw [if_pos (by simp; omega),e1,e,aeZ,e2]
    obtain⟨d',x,d,k1,k2,k3,k4,k5,k6⟩:=F3 (q:=q) (cmp:=cmp) hm f (i - j) j d1 om om hj om om om
    refine⟨d',x,d,k1,k2,k3.trans hp,fun k hk=>?_,fun k hk=>?_,fun k hk=>?_⟩
    ·rw [k6 _ om,hg,if_pos om]; congr 1; omega
    ·by_cases Tm:k<j
     ·have:=k4 k Tm
      rw [show q - (i - j)+k=q - i+j+k by omega,hg,if_neg om,if_pos om] at this
      rw [this]; congr 1; omega
     ·have:=k5 (k - j) om
      rw [show q - (i - j)+j+(k - j)=q - i+j+k by omega,hg,if_neg om,if_neg om] at this
      rw [this]; congr 1; omega
    ·rw [k6 _ om,hg,if_neg om,if_neg om]
   ·have e2:i64.wrap (i64.wrap ((q:Int)+(j:Int)) - (i:Int))=((q+j - i:Nat):Int):=by rw [br (x:=(q:Int)+j) om om,br om om]; omega
    have e3:i64.wrap ((j:Int) - (i:Int))=((j - i:Nat):Int):=by rw [br om om]; omega
    obtain⟨d1,e,hp,hg⟩:=y4 (m:=m) (l:=l) (a:=q - i) (b:=q+j - i) (n:=i) (cmp:=cmp) om om hs om
    have hd:=hp.length_eq
    rw [if_neg (by simp; omega),e1,e2,e,aeZ,e3]
    obtain⟨d',x,d,k1,k2,k3,k4,k5,k6⟩:=F3 (q:=q) (cmp:=cmp) hm f i (j - i) d1 om hi om hq om om
    refine⟨d',x,d,k1,k2,k3.trans hp,fun k hk=>?_,fun k hk=>?_,fun k hk=>?_⟩
    ·by_cases Tm:k<j - i
     ·rw [k4 k Tm,hg,if_neg om,if_neg om]
     ·have:=k5 (k - (j - i)) om
      rw [show q - i+(j - i)+(k - (j - i))=q - i+k by omega,hg,if_pos om] at this
      rw [this]; congr 1; omega
    ·rw [k6 _ om,hg,if_neg om,if_pos om]; congr 1; omega
    ·rw [k6 _ om,hg,if_neg om,if_neg om]
theorem Mp {m:Nat}{a q b:Nat}{cmp:Int→Int→Option Int}{l:List Int}(hm:2 ^ 41≤m)(h1:a<q)(h2:q<b)(h3:b≤l.length)(hs:l.length<2 ^ 40) :
  ∃d,gZ.f m l (a:Int) (q:Int) (b:Int) cmp=some d∧Tk l d a (q - a) (b - q):=by
 have zo:(2:Nat) ^ 40=1099511627776:=by decide
 have zN:(2:Nat) ^ 41=2199023255552:=by decide
 obtain⟨d',x,d,k1,k2,k3⟩:=F3 (q:=q) (cmp:=cmp) hm m (q - a) (b - q) l om om om om om hs
 rw [show q - (q - a)=a by omega] at k3
 refine⟨d,?_,k3⟩
 unfold gZ.f
 rw [show i64.wrap ((q:Int) - (a:Int))=((q - a:Nat):Int) by rw [br om om]; omega,show i64.wrap ((b:Int) - (q:Int))=((b - q:Nat):Int) by rw [br om om]; omega,k1,aeZ]
 dsimp only
 rw [k2]; rfl
def jT (c:Int):Bool:=decide (97≤c∧c≤122)||decide (65≤c∧c≤90)||decide (48≤c∧c≤57)||c==95
theorem Ei {m:Nat}(c:Int):iM.f m c=some (jT c):=by
 unfold iM.f
 by_cases h1:97≤c<;>by_cases h2:c≤122<;>by_cases h3:65≤c<;>by_cases h4:c≤90<;>by_cases h5:48≤c<;>by_cases h6:c≤57<;>simp [jT,h1,h2,h3,h4,h5,h6]<;>omega
theorem xl {s:ByteArray}{i:Nat}(h:i<s.size):∃c:UInt8,s.data.toList[i]? = some c∧bt s (i:Int)=some (c.toNat:Int):=by
 have h':i<s.data.toList.length:=by simpa using h
 refine⟨s.data.toList[i],ae8 h',?_⟩
 unfold bt; rw [if_pos om,ae7,ae8 h']; rfl
theorem Ib {m:Nat}{s:ByteArray}(hs:s.size≤16):∀(f i:Nat),s.size - i<f→i≤s.size→
  ∃o,eh.l0 m s f (i:Int)=some o∧((∃x,o = .inr x)∧((s.data.toList.drop i).all fun c=>jT (c.toNat:Int))=true∨o = .inl false∧((s.data.toList.drop i).all fun c=>jT (c.toNat:Int))=false)
 | 0,i,hf,_=>absurd hf om
 | f+1,i,hf,hi=>by
  unfold eh.l0
  by_cases h:i<s.size
  ·obtain⟨c,hc,hb⟩:=xl h
   obtain⟨h4,h5⟩:=ae5.1 hc
   have hd:s.data.toList.drop i=c::s.data.toList.drop (i+1):=by rw [←h5]; exact afe h4
   rw [if_pos dm,hb,aeZ,Ei,aeZ,hd,afQ]
   cases hl:jT (c.toNat:Int) with
   | false=>exact⟨_,rfl,.inr ⟨rfl,rfl⟩⟩
   | true=>
    obtain⟨o,h1,h2⟩:=Ib (m:=m) hs f (i+1) om om
    rw [if_neg (by simp),br om om,show (i:Int)+1=((i+1:Nat):Int) by omega,h1]
    exact⟨o,rfl,by simpa using h2⟩
  ·refine⟨_,by rw [if_neg dm],.inl ⟨⟨_,rfl⟩,?_⟩⟩
   rw [afY (by simp; omega)]; rfl
def Ej (s:ByteArray)(lo hi:Int):Bool:=match s.data.toList with
 | []=>false
 | c::cs=>decide (cs.length≤15)&&decide (lo≤(c.toNat:Int))&&decide ((c.toNat:Int)≤hi)&&((c::cs).all fun c=>jT (c.toNat:Int))
theorem Jr {m:Nat}(hm:20≤m)(s:ByteArray)(lo hi:Int):eh.f m s lo hi=some (Ej s lo hi):=by
 have hsz:s.size=s.data.toList.length:=by simp
 unfold eh.f Ej
 cases hl:s.data.toList with
 | nil=>rw [if_pos (by rw [hl,afi] at hsz; simp only [decide_eq_true_eq]; omega)]
 | cons c cs=>
  rw [hl,afc] at hsz
  rw [if_neg dm]
  dsimp only
  by_cases h16:cs.length≤15
  ·obtain⟨c',h1,h2⟩:=xl (s:=s) (i:=0) om
   rw [hl] at h1
   simp only [afK,ae2] at h1
   subst h1
   have h2:bt s 0=_:=h2
   rw [if_neg dm,h2,aeZ]
   by_cases h3:(c.toNat:Int)<lo
   ·rw [if_pos (by simpa using h3)]
    simp only [ae2]
    rw [show decide (lo≤(c.toNat:Int))=false by simp; omega]; simp
   rw [if_neg (by simpa using h3),aeZ]
   by_cases h4:(c.toNat:Int) > hi
   ·rw [if_pos (by simpa using h4)]
    simp only [ae2]
    rw [show decide ((c.toNat:Int)≤hi)=false by simp; omega]; simp
   rw [if_neg (by simpa using h4)]
   obtain⟨o,k1,k2⟩:=Ib (m:=m) (s:=s) om m 0 om om
   have k1:eh.l0 m s m 0=_:=k1
   rw [k1,aeZ]
   rw [afw,hl] at k2
   rw [show decide (lo≤(c.toNat:Int))=true by simp; omega,show decide ((c.toNat:Int)≤hi)=true by simp; omega,show decide (cs.length≤15)=true by simpa using h16]
   simp only [afP]
   rcases k2 with⟨⟨x,rfl⟩,k⟩| ⟨rfl,k⟩
   ·rw [k]
   ·rw [k]
  ·rw [if_pos dm,show decide (cs.length≤15)=false by simp; omega]; rfl
def oo (s:ByteArray):Bool:=s.data.toList==[124]||s.data.toList==[35]||Ej s 97 122
theorem rB {m:Nat}(hm:20≤m)(s:ByteArray):iF.f m s=some (oo s):=by
 unfold iF.f oo
 show (if (s.data.toList==[124])=true then _ else if (s.data.toList==[35])=true then _ else _)=_
 cases h1:s.data.toList==[124] with
 | true=>rfl
 | false=>
  cases h2:s.data.toList==[35] with
  | true=>rfl
  | false=>rw [Jr hm]; rfl
theorem AG {s:ByteArray}(h:oo s=true):1≤s.size∧s.size≤16:=by
 have hsz:s.size=s.data.toList.length:=by simp
 unfold oo at h
 simp only [afR,beq_iff_eq] at h
 rcases h with (h | h) | h
 ·rw [h] at hsz; simp at hsz; omega
 ·rw [h] at hsz; simp at hsz; omega
 ·unfold Ej at h
  split at h
  ·cases h
  ·rename_i c cs hl
   rw [hl] at hsz
   simp only [ae3,decide_eq_true_eq] at h
   simp at hsz; omega
def AH (s:ByteArray):Bool:=s.data.toList==[112,114,111,99]||s.data.toList==[99,101,108,108]||s.data.toList==[112,111,114,116]
theorem AI {m:Nat}(s:ByteArray):iY.f m s=some (AH s):=by
 unfold iY.f AH
 show (if (s.data.toList==[112,114,111,99])=true then _ else if (s.data.toList==[99,101,108,108])=true then _ else some (s.data.toList==[112,111,114,116]))=_
 cases h1:s.data.toList==[112,114,111,99] with
 | true=>rfl
 | false=>
  cases h2:s.data.toList==[99,101,108,108] with
  | true=>rfl
  | false=>rfl
theorem Mq {m:Nat}{s:List Int}{f0:Int→Option Bool}{g:Int→Bool}(hs:s.length<2 ^ 40)(C:∀x∈s,f0 x=some (g x)):∀(f i:Nat),s.length - i<f→i≤s.length→
  ∃o,dU.l0 m s f0 f (i:Int)=some o∧((∃x,o = .inr x)∧(s.drop i).any g=false∨(∃x:Nat,o = .inl (x:Int))∧(s.drop i).any g=true)
 | 0,i,hf,_=>absurd hf om
 | f+1,i,hf,hi=>by
  have zo:(2:Nat) ^ 40=1099511627776:=by decide
  unfold dU.l0
  by_cases h:i<s.length
  ·have hx:ix s (i:Int)=some s[i]:=by unfold ix; rw [if_pos om]; simp [h]
   rw [if_pos dm,hx,aeZ,C _ (List.getElem_mem h),aeZ,afe h,List.any_cons]
   cases g s[i] with
   | true=>exact⟨_,rfl,.inr ⟨⟨i,rfl⟩,rfl⟩⟩
   | false=>
    obtain⟨o,h1,h2⟩:=Mq (m:=m) hs C f (i+1) om om
    rw [if_neg (by simp),br om om,show (i:Int)+1=((i+1:Nat):Int) by omega,h1]
    exact⟨o,rfl,by simpa using h2⟩
  ·refine⟨_,by rw [if_neg dm],.inl ⟨⟨_,rfl⟩,?_⟩⟩
   rw [afY om]; rfl
theorem Js {m:Nat}{s:List Int}{f0:Int→Option Bool}{g:Int→Bool}(hs:s.length<2 ^ 40)(hm:s.length<m)(C:∀x∈s,f0 x=some (g x)):gB.f m s f0=some (s.any g):=by
 obtain⟨o,h1,h2⟩:=Mq (m:=m) hs C m 0 om om
 have h1:dU.l0 m s f0 m 0=_:=h1
 unfold gB.f dU.f
 rw [h1,aeZ]
 rw [afw] at h2
 rcases h2 with⟨⟨x,rfl⟩,k⟩| ⟨⟨x,rfl⟩,k⟩
 ·rw [k]; rfl
 ·rw [k]
  simp only [aeZ,ae2]
  simp
theorem Mr {m:Nat}{s:List ai}{f0:ai→Option Bool}{g:ai→Bool}(hs:s.length<2 ^ 40)(C:∀x∈s,f0 x=some (g x)):∀(f i:Nat),s.length - i<f→i≤s.length→
  ∃o,gY.l0 m s f0 f (i:Int)=some o∧((∃x,o = .inr x)∧(s.drop i).any g=false∨(∃x:Nat,o = .inl (x:Int))∧(s.drop i).any g=true)
 | 0,i,hf,_=>absurd hf om
 | f+1,i,hf,hi=>by
  have zo:(2:Nat) ^ 40=1099511627776:=by decide
  unfold gY.l0
  by_cases h:i<s.length
  ·have hx:ix s (i:Int)=some s[i]:=by unfold ix; rw [if_pos om]; simp [h]
   rw [if_pos dm,hx,aeZ,C _ (List.getElem_mem h),aeZ,afe h,List.any_cons]
   cases g s[i] with
   | true=>exact⟨_,rfl,.inr ⟨⟨i,rfl⟩,rfl⟩⟩
   | false=>
    obtain⟨o,h1,h2⟩:=Mr (m:=m) hs C f (i+1) om om
    rw [if_neg (by simp),br om om,show (i:Int)+1=((i+1:Nat):Int) by omega,h1]
    exact⟨o,rfl,by simpa using h2⟩
  ·refine⟨_,by rw [if_neg dm],.inl ⟨⟨_,rfl⟩,?_⟩⟩
   rw [afY om]; rfl
theorem Jt {m:Nat}{s:List ai}{f0:ai→Option Bool}{g:ai→Bool}(hs:s.length<2 ^ 40)(hm:s.length<m)(C:∀x∈s,f0 x=some (g x)):jH.f m s f0=some (s.any g):=by
 obtain⟨o,h1,h2⟩:=Mr (m:=m) hs C m 0 om om
 have h1:gY.l0 m s f0 m 0=_:=h1
 unfold jH.f gY.f
 rw [h1,aeZ]
 rw [afw] at h2
 rcases h2 with⟨⟨x,rfl⟩,k⟩| ⟨⟨x,rfl⟩,k⟩
 ·rw [k]; rfl
 ·rw [k]
  simp only [aeZ,ae2]
  simp
def dt (n:ai)(size:Int):Bool:=
 if n.kind=0 then decide (0≤n.int)&&n.label.data.toList==[]&&n.args.isEmpty
 else if n.kind=1 then decide (-1099511627776≤n.int)&&decide (n.int≤1099511627776)&&n.label.data.toList==[]&&n.args.isEmpty
 else if n.kind=2 then n.int==0&&oo n.label&&n.args.isEmpty
 else if n.kind=3 then n.int==0&&oo n.label&&decide (1≤n.args.length)&&decide (n.args.length≤8)&&n.args.all fun a=>decide (0≤a)&&decide (a<size)
 else if n.kind=4 then decide (0≤n.int)&&AH n.label&&n.args.isEmpty
 else false
theorem Ek (l:List Int):((l.length:Int)==(0:Int))=l.isEmpty:=by cases l<;>simp; omega
theorem Ju {m:Nat}(hm:20≤m)(n:ai)(size:Int):kH.f m n size=some (dt n size):=by
 unfold kH.f dt
 by_cases k0:n.kind=0
 ·rw [if_pos (by simpa using k0),if_pos k0]
  by_cases h1:0≤n.int
  ·rw [if_pos (by simpa using h1),show decide (0≤n.int)=true by simpa using h1]
   show (if (n.label.data.toList==[])=true then _ else _)=_
   cases n.label.data.toList==[] with
   | true=>rw [if_pos rfl,Ek]; rfl
   | false=>rfl
  ·rw [if_neg (by simpa using h1),show decide (0≤n.int)=false by simp; omega]; rfl
 rw [if_neg (by simpa using k0),if_neg k0]
 by_cases k1:n.kind=1
 ·rw [if_pos (by simpa using k1),if_pos k1]
  by_cases h1 : -1099511627776≤n.int
  ·rw [if_pos (by simpa using h1),show decide (-1099511627776≤n.int)=true by simpa using h1]
   by_cases h3:n.int≤1099511627776
   ·rw [if_pos (by simpa using h3),show decide (n.int≤1099511627776)=true by simpa using h3]
    show (if (n.label.data.toList==[])=true then _ else _)=_
    cases n.label.data.toList==[] with
    | true=>rw [if_pos rfl,Ek]; rfl
    | false=>rfl
   ·rw [if_neg (by simpa using h3),show decide (n.int≤1099511627776)=false by simp; omega]; rfl
  ·rw [if_neg (by simpa using h1),show decide (-1099511627776≤n.int)=false by simp; omega]; rfl
 rw [if_neg (by simpa using k1),if_neg k1]
 by_cases k2:n.kind=2
 ·rw [if_pos (by simpa using k2),if_pos k2]
  cases h1:n.int==0 with
  | false=>rfl
  | true=>
   rw [if_pos rfl,rB hm,aeZ]
   cases oo n.label with
   | false=>rfl
   | true=>rw [if_pos rfl,Ek]; rfl
 rw [if_neg (by simpa using k2),if_neg k2]
 by_cases k3:n.kind=3
 ·rw [if_pos (by simpa using k3),if_pos k3]
  cases h1:n.int==0 with
  | false=>rfl
  | true=>
   rw [if_pos rfl,rB hm,aeZ]
   cases oo n.label with
   | false=>rfl
   | true=>
    rw [if_pos rfl]
    by_cases g1:1≤n.args.length
    ·rw [if_pos dm,show decide (1≤n.args.length)=true by simpa using g1]
     by_cases g2:n.args.length≤8
     ·rw [if_pos dm,show decide (n.args.length≤8)=true by simpa using g2]
      rw [Js (g:=fun a=>!(decide (0≤a)&&decide (a<size))) om om (fun a _=>by
       unfold jE.f
       by_cases w:a<0
       ·rw [if_pos (by simpa using w),show decide (0≤a)=false by simp; omega]; rfl
       ·rw [if_neg (by simpa using w),show decide (0≤a)=true by simp; omega]
        by_cases w2:a<size
        ·rw [show decide (a≥size)=false from decide_eq_false om,show decide (a<size)=true from decide_eq_true w2]; rfl
        ·rw [show decide (a≥size)=true from decide_eq_true om,show decide (a<size)=false from decide_eq_false w2]; rfl),aeZ]
      simp [List.not_any_eq_all_not]
     ·rw [if_neg dm,show decide (n.args.length≤8)=false from decide_eq_false g2]; rfl
    ·rw [if_neg dm,show decide (1≤n.args.length)=false from decide_eq_false g1]; rfl
 rw [if_neg (by simpa using k3),if_neg k3]
 by_cases k4:n.kind=4
 ·rw [if_pos (by simpa using k4),if_pos k4]
  by_cases h1:0≤n.int
  ·rw [if_pos (by simpa using h1),show decide (0≤n.int)=true by simpa using h1,AI,aeZ]
   cases AH n.label with
   | false=>rfl
   | true=>rw [if_pos rfl,Ek]; rfl
  ·rw [if_neg (by simpa using h1),show decide (0≤n.int)=false by simp; omega]; rfl
 rw [if_neg (by simpa using k4),if_neg k4]
structure Mv (lo hi:Nat)(l d:List Int):Prop where
 perm:d.Perm l
 out:∀k,k<lo∨hi≤k→gt d k=gt l k
 im:∀k,lo≤k→k<hi→∃k',lo≤k'∧k'<hi∧gt d k=gt l k'
theorem Mv.refl {lo hi:Nat}{l:List Int}:Mv lo hi l l:=⟨List.Perm.refl _,fun _ _=>rfl,fun k h1 h2=>⟨k,h1,h2,rfl⟩⟩
theorem Mv.trans {lo hi:Nat}{l d e:List Int}(a:Mv lo hi l d)(b:Mv lo hi d e):Mv lo hi l e:=
 ⟨b.perm.trans a.perm,fun k hk=>(b.out k hk).trans (a.out k hk),fun k h1 h2=>by
  obtain⟨k',g1,g2,g3⟩:=b.im k h1 h2
  obtain⟨k'',g4,g5,g6⟩:=a.im k' g1 g2
  exact⟨k'',g4,g5,g3.trans g6⟩⟩
theorem Mv.length {lo hi:Nat}{l d:List Int}(a:Mv lo hi l d):d.length=l.length:=a.perm.length_eq
theorem Mv.wide {lo hi Ny mw:Nat}{l d:List Int}(a:Mv lo hi l d)(h1:Ny≤lo)(h2:hi≤mw):Mv Ny mw l d:=
 ⟨a.perm,fun k hk=>a.out k om,fun k h3 h4=>by
  by_cases h:lo≤k∧k<hi
  ·obtain⟨k',g1,g2,g3⟩:=a.im k h.1 h.2
   exact⟨k',om,om,g3⟩
  ·exact⟨k,h3,h4,a.out k om⟩⟩
theorem F4 {lo hi i j:Nat}{l:List Int}(V8:lo≤i)(Gz:i<hi)(NJ:lo≤j)(Fv:j<hi)(h:hi≤l.length):Mv lo hi l (swp l i j):=
 ⟨tU om om,fun k hk=>by rw [pn om om,if_neg om,if_neg om],fun k h1 h2=>by
  rw [pn om om]
  split
  ·exact⟨i,V8,Gz,rfl⟩
  split
  ·exact⟨j,NJ,Fv,rfl⟩
  ·exact⟨k,h1,h2,rfl⟩⟩
def Cm (cmp:Int→Int→Option Int)(c:Int→Int→Int)(l:List Int):Prop:=∀x∈l,∀y∈l,cmp x y=some (c x y)
theorem Cm.perm {cmp c l d}(h:Cm cmp c l)(p:List.Perm d l):Cm cmp c d:=fun x hx y hy=>h x (p.mem_iff.1 hx) y (p.mem_iff.1 hy)
theorem Cm.at {cmp c}{l:List Int}(h:Cm cmp c l){i j:Nat}(hi:i<l.length)(hj:j<l.length):cmp (gt l i) (gt l j)=some (c (gt l i) (gt l j)):=h _ (bh hi) _ (bh hj)
structure Ord (c:Int→Int→Int)(l:List Int):Prop where
 tr:∀x∈l,∀y∈l,∀z∈l,0≤c y x→0≤c z y→0≤c z x
 To:∀x∈l,∀y∈l,c x y<0→0≤c y x
theorem Ord.perm {c l d}(h:Ord c l)(p:List.Perm d l):Ord c d:=⟨fun x hx y hy z hz=>h.tr x (p.mem_iff.1 hx) y (p.mem_iff.1 hy) z (p.mem_iff.1 hz),fun x hx y hy=>h.To x (p.mem_iff.1 hx) y (p.mem_iff.1 hy)⟩
def Sg (c:Int→Int→Int)(l:List Int)(a b:Nat):Prop:=∀i j,a≤i→i<j→j<b→0≤c (gt l j) (gt l i)
theorem Ms {m:Nat}{a i:Nat}{cmp:Int→Int→Option Int}{c:Int→Int→Int}:∀(f j:Nat) (d:List Int),j - a<f→a≤j→j≤i→i<d.length→d.length<2 ^ 40→Cm cmp c d→
  ∃d' x,bk.l1 m (a:Int) cmp f d (j:Int)=some (d',x)∧Mv a (i+1) d d'∧
   (Ord c d→(∀x y,a≤x→x<y→y≤i→x≠j→y≠j→0≤c (gt d y) (gt d x))→(∀y,j<y→y≤i→0≤c (gt d y) (gt d j))→Sg c d' a (i+1))
 | 0,j,d,hf,_,_,_,_,_=>absurd hf om
 | f+1,j,d,hf,h1,h2,h3,hs,C=>by
  have zo:(2:Nat) ^ 40=1099511627776:=by decide
  unfold bk.l1
  by_cases h:a<j
  ·have e1:i64.wrap ((j:Int) - 1)=((j - 1:Nat):Int):=by rw [br om om]; omega
   rw [if_pos (by simp; omega),e1,dR om,dR om,aeZ,aeZ,C.at om om,aeZ]
   by_cases hc:c (gt d j) (gt d (j - 1))<0
   ·rw [if_pos (by simpa using hc),aeZ,aeZ,aeZ,ae7,ae7,dR (by simp; omega),aeZ]
    obtain⟨d',x,k1,k2,k3⟩:=Ms (m:=m) (a:=a) (i:=i) (cmp:=cmp) (c:=c) f (j - 1) (swp d j (j - 1)) om om om (by rw [yZ]; omega) (by rw [yZ]; omega) (C.perm (tU om om))
    refine⟨d',x,k1,(F4 om om om om om).trans k2,fun O g1 g2=>k3 (O.perm (tU om om)) (fun x y x1 x2 x3 x4 x5=>?_) (fun y y1 y2=>?_)⟩
    ·rw [pn om om,pn om om,if_neg x5,if_neg x4]
     by_cases hy:y=j
     ·subst hy
      rw [if_pos rfl,if_neg om]
      exact g1 _ _ om om om om om
     ·rw [if_neg hy]
      by_cases hx:x=j
      ·subst hx
       rw [if_pos rfl]
       exact g1 _ _ om om om om om
      ·rw [if_neg hx]
       exact g1 _ _ om om om om om
    ·rw [pn om om,pn om om,if_neg om,if_pos rfl]
     by_cases hy:y=j
     ·subst hy
      rw [if_pos rfl]
      exact O.To _ (bh om) _ (bh om) hc
     ·rw [if_neg hy]
      exact g2 _ om om
   ·rw [if_neg (by simpa using hc)]
    refine⟨d,j,rfl,Mv.refl,fun O g1 g2 x y x1 x2 x3=>?_⟩
    have hc:0≤c (gt d j) (gt d (j - 1)):=by omega
    by_cases hx:x=j
    ·subst hx; exact g2 _ x2 om
    ·by_cases hy:y=j
     ·subst hy
      by_cases hx1:x=y - 1
      ·subst hx1; exact hc
      ·exact O.tr _ (bh om) (gt d (y - 1)) (bh om) _ (bh om) (g1 _ _ x1 om om hx om) hc
     ·exact g1 _ _ x1 x2 om hx hy
  ·have:j=a:=by omega
   subst this
   rw [if_neg (by simp)]
   refine⟨d,j,rfl,Mv.refl,fun O g1 g2 x y x1 x2 x3=>?_⟩
   by_cases hx:x=j
   ·subst hx; exact g2 _ x2 om
   ·exact g1 _ _ x1 x2 om hx om
theorem Mt {m:Nat}{a b:Nat}{cmp:Int→Int→Option Int}{c:Int→Int→Int}(hm:2 ^ 41≤m):∀(f i:Nat) (d:List Int),b - i<f→a<i→b≤d.length→d.length<2 ^ 40→Cm cmp c d→
  ∃d' x,bk.l0 m (a:Int) (b:Int) cmp f d (i:Int)=some (d',x)∧Mv a b d d'∧(Ord c d→Sg c d a i→Sg c d' a b)
 | 0,i,d,hf,_,_,_,_=>absurd hf om
 | f+1,i,d,hf,h1,h2,hs,C=>by
  have zo:(2:Nat) ^ 40=1099511627776:=by decide
  have zN:(2:Nat) ^ 41=2199023255552:=by decide
  unfold bk.l0
  by_cases h:i<b
  ·obtain⟨d1,x1,k1,k2,k3⟩:=Ms (m:=m) (a:=a) (i:=i) (cmp:=cmp) (c:=c) m i d om om om om hs C
   have e3:i64.wrap ((i:Int)+1)=((i+1:Nat):Int):=by rw [br om om]; omega
   rw [if_pos (by simp; omega),k1,aeZ]
   dsimp only
   rw [e3]
   have hl:=k2.length
   obtain⟨d',x,g1,g2,g3⟩:=Mt (a:=a) (b:=b) (cmp:=cmp) (c:=c) hm f (i+1) d1 om om om om (C.perm k2.perm)
   exact⟨d',x,g1,(k2.wide (ae4 _) om).trans g2,fun O S=>g3 (O.perm k2.perm) (k3 O (fun x y q1 q2 q3 q4 q5=>S x y q1 q2 om) (fun y q1 q2=>absurd q1 om))⟩
  ·exact⟨d,i,by rw [if_neg (by simp; omega)],Mv.refl,fun O S x y q1 q2 q3=>S x y q1 q2 om⟩
theorem El {m:Nat}{a b:Nat}{cmp:Int→Int→Option Int}{c:Int→Int→Int}(hm:2 ^ 41≤m){l:List Int}(ha:a≤l.length)(hb:b≤l.length)(hs:l.length<2 ^ 40)(C:Cm cmp c l) :
  ∃d,bk.f m l (a:Int) (b:Int) cmp=some d∧Mv a b l d∧(Ord c l→Sg c d a b):=by
 have zo:(2:Nat) ^ 40=1099511627776:=by decide
 have zN:(2:Nat) ^ 41=2199023255552:=by decide
 have e3:i64.wrap ((a:Int)+1)=((a+1:Nat):Int):=by rw [br om om]; omega
 obtain⟨d',x,g1,g2,g3⟩:=Mt (a:=a) (b:=b) (cmp:=cmp) (c:=c) hm m (a+1) l om om hb hs C
 exact⟨d',by unfold bk.f; rw [e3,g1]; rfl,g2,fun O=>g3 O fun x y q1 q2 q3=>absurd q3 om⟩
theorem Mu {α β:Type}{B:α→Option β}{c1 c2:Bool}{X:Option α}{d0:α}{G:β→Prop}(D:α→Prop)(h1:c1=true→c2=true→∃x,X=some x∧D x)(h0:¬(c1=true∧c2=true)→D d0)
  (h:∀x,D x→∃d,B x=some d∧G d):∃d,jn B (fun j=>if c1=true then (if c2=true then (X.bind fun x0=>j x0) else j d0) else j d0)=some d∧G d:=by
 unfold jn
 dsimp only
 by_cases a1:c1=true
 ·by_cases a2:c2=true
  ·obtain⟨x,e,hx⟩:=h1 a1 a2
   rw [if_pos a1,if_pos a2,e]; exact h x hx
  ·rw [if_pos a1,if_neg a2]; exact h _ (h0 fun z=>a2 z.2)
 ·rw [if_neg a1]; exact h _ (h0 fun z=>a1 z.1)
theorem Y4 {α:Type}{c1 c2:Bool}{X:Option α}{d0:α}{G:α→Prop}(h1:c1=true→c2=true→∃x,X=some x∧G x)(h0:¬(c1=true∧c2=true)→G d0) :
  ∃d,(if c1=true then (if c2=true then (X.bind fun x0=>some x0) else some d0) else some d0)=some d∧G d:=by
 by_cases a1:c1=true
 ·by_cases a2:c2=true
  ·obtain⟨x,e,hx⟩:=h1 a1 a2
   rw [if_pos a1,if_pos a2,e]; exact⟨x,rfl,hx⟩
  ·rw [if_pos a1,if_neg a2]; exact⟨_,rfl,h0 fun z=>a2 z.2⟩
 ·rw [if_neg a1]; exact⟨_,rfl,h0 fun z=>a1 z.1⟩
theorem Sh {α β:Type}{B:α→Option β}{c:Bool}{x y:α}{G:β→Prop}(h:∀z,(c=true∧z=x)∨(c=false∧z=y)→∃d,B z=some d∧G d):∃d,jn B (fun j=>if c=true then j x else j y)=some d∧G d:=by
 unfold jn
 dsimp only
 cases c with
 | true=>exact h _ (.inl ⟨rfl,rfl⟩)
 | false=>exact h _ (.inr ⟨rfl,rfl⟩)
theorem Ord.refl {c:Int→Int→Int}{l:List Int}(O:Ord c l){x:Int}(hx:x∈l):0≤c x x:=by
 by_cases h:c x x<0
 ·exact O.To x hx x hx h
 ·omega
theorem Sg.le {c:Int→Int→Int}{l:List Int}{a b:Nat}(S:Sg c l a b)(O:Ord c l){i j:Nat}(h1:a≤i)(h2:i≤j)(h3:j<b)(h4:b≤l.length):0≤c (gt l j) (gt l i):=by
 by_cases h:i=j
 ·subst h; exact O.refl (bh om)
 ·exact S i j h1 om h3
section
variable {m:Nat}{cmp:Int→Int→Option Int}{c:Int→Int→Int}
theorem F5 {l:List Int}{a:Nat}(ha:a<l.length)(hs:l.length<2 ^ 40)(C:Cm cmp c l):∀(f i j:Nat),j - i<f→i≤j→j≤l.length→
  ∃x:Nat,aT.l0 m l (a:Int) cmp f (i:Int) (j:Int)=some ((x:Int),(x:Int))∧i≤x∧x≤j∧(i<x→c (gt l (x - 1)) (gt l a)<0)∧(x<j→0≤c (gt l x) (gt l a))
 | 0,i,j,hf,_,_=>absurd hf om
 | f+1,i,j,hf,h1,h2=>by
  have zo:(2:Nat) ^ 40=1099511627776:=by decide
  unfold aT.l0
  by_cases h:i<j
  ·have hh:=Eh (a:=i) (b:=j) om
   rw [if_pos (by simp; omega),hh,dR om,dR ha,aeZ,aeZ,C.at om ha,aeZ]
   by_cases g:c (gt l ((i+j) / 2)) (gt l a)<0
   ·obtain⟨x,e,x1,x2,x3,x4⟩:=F5 ha hs C f ((i+j) / 2+1) j om om h2
    rw [if_pos (by simpa using g),br om om,show (((i+j) / 2:Nat):Int)+1=(((i+j) / 2+1:Nat):Int) by omega,e]
    refine⟨x,rfl,om,x2,fun _=>?_,x4⟩
    by_cases hx:x=(i+j) / 2+1
    ·rw [hx]; simpa using g
    ·exact x3 om
   ·obtain⟨x,e,x1,x2,x3,x4⟩:=F5 ha hs C f i ((i+j) / 2) om om om
    rw [if_neg (by simpa using g),e]
    refine⟨x,rfl,x1,om,x3,fun _=>?_⟩
    by_cases hx:x=(i+j) / 2
    ·rw [hx]; omega
    ·exact x4 om
  ·have:i=j:=by omega
   subst this
   exact⟨i,by rw [if_neg (by simp)],ae4 _,ae4 _,fun h=>absurd h om,fun h=>absurd h om⟩
theorem F6 {l:List Int}{q:Nat}(hq:q<l.length)(hs:l.length<2 ^ 40)(C:Cm cmp c l):∀(f i j:Nat),j - i<f→i≤j→j≤l.length→
  ∃x:Nat,aT.l2 m l (q:Int) cmp f (i:Int) (j:Int)=some ((x:Int),(x:Int))∧i≤x∧x≤j∧(i<x→0≤c (gt l q) (gt l (x - 1)))∧(x<j→c (gt l q) (gt l x)<0)
 | 0,i,j,hf,_,_=>absurd hf om
 | f+1,i,j,hf,h1,h2=>by
  have zo:(2:Nat) ^ 40=1099511627776:=by decide
  unfold aT.l2
  by_cases h:i<j
  ·have hh:=Eh (a:=i) (b:=j) om
   rw [if_pos (by simp; omega),hh,dR hq,dR om,aeZ,aeZ,C.at hq om,aeZ]
   by_cases g:c (gt l q) (gt l ((i+j) / 2))<0
   ·obtain⟨x,e,x1,x2,x3,x4⟩:=F6 hq hs C f i ((i+j) / 2) om om om
    rw [if_neg (by simpa using g),e]
    refine⟨x,rfl,x1,om,x3,fun _=>?_⟩
    by_cases hx:x=(i+j) / 2
    ·rw [hx]; omega
    ·exact x4 om
   ·obtain⟨x,e,x1,x2,x3,x4⟩:=F6 hq hs C f ((i+j) / 2+1) j om om h2
    rw [if_pos (by simpa using g),br om om,show (((i+j) / 2:Nat):Int)+1=(((i+j) / 2+1:Nat):Int) by omega,e]
    refine⟨x,rfl,om,x2,fun _=>?_,x4⟩
    by_cases hx:x=(i+j) / 2+1
    ·rw [hx]; simp; omega
    ·exact x3 om
  ·have:i=j:=by omega
   subst this
   exact⟨i,by rw [if_neg (by simp)],ae4 _,ae4 _,fun h=>absurd h om,fun h=>absurd h om⟩
theorem Mw {l:List Int}{a x:Nat}(hx:x≤l.length)(Y5:a<x)(hs:l.length<2 ^ 40):∀(f k:Nat) (d:List Int),x - k<f→a≤k→k<x→Mv a x l d→
  (∀t,gt d t=if a≤t∧t<k then gt l (t+1) else if t=k then gt l a else gt l t)→
  ∃d' y,aT.l1 m (x:Int) f d (k:Int)=some (d',y)∧Mv a x l d'∧∀t,gt d' t=if a≤t∧t+1<x then gt l (t+1) else if t+1=x then gt l a else gt l t
 | 0,k,d,hf,_,_,_,_=>absurd hf om
 | f+1,k,d,hf,h1,h2,M,hg=>by
  have zo:(2:Nat) ^ 40=1099511627776:=by decide
  have hl:=M.length
  unfold aT.l1
  have e0:i64.wrap ((x:Int) - 1)=((x - 1:Nat):Int):=by rw [br om om]; omega
  rw [e0]
  by_cases h:k<x - 1
  ·have e1:i64.wrap ((k:Int)+1)=((k+1:Nat):Int):=by rw [br om om]; omega
   rw [if_pos (by simp; omega),e1,dR om,dR om,aeZ,aeZ,aeZ,ae7,ae7,dR (by simp; omega),aeZ]
   refine Mw hx Y5 hs f (k+1) (swp d k (k+1)) om om om (M.trans (F4 om om om om om)) fun t=>?_
   rw [pn om om,hg k,hg (k+1),hg t]
   by_cases t1:t=k+1
   ·subst t1; rw [if_pos rfl,if_neg om,if_pos rfl,if_neg om,if_pos rfl]
   ·rw [if_neg t1]
    by_cases t2:t=k
    ·subst t2; rw [if_pos rfl,if_neg om,if_neg om,if_pos om]
    ·rw [if_neg t2,if_neg t2,if_neg t1]
     by_cases t3:a≤t∧t<k
     ·rw [if_pos t3,if_pos om]
     ·rw [if_neg t3,if_neg om]
  ·refine⟨d,k,by rw [if_neg (by simp; omega)],M,fun t=>?_⟩
   rw [hg]
   by_cases t3:a≤t∧t<k
   ·rw [if_pos t3,if_pos om]
   ·rw [if_neg t3,if_neg (show ¬(a≤t∧t+1<x) by omega)]
    by_cases t4:t=k
    ·rw [if_pos t4,if_pos om]
    ·rw [if_neg t4,if_neg om]
theorem Mx {l:List Int}{q x:Nat}(hx:q<l.length)(Y5:x≤q)(hs:l.length<2 ^ 40):∀(f k:Nat) (d:List Int),k - x<f→x≤k→k≤q→Mv x (q+1) l d→
  (∀t,gt d t=if k<t∧t≤q then gt l (t - 1) else if t=k then gt l q else gt l t)→
  ∃d' y,aT.l3 m (x:Int) f d (k:Int)=some (d',y)∧Mv x (q+1) l d'∧∀t,gt d' t=if x<t∧t≤q then gt l (t - 1) else if t=x then gt l q else gt l t
 | 0,k,d,hf,_,_,_,_=>absurd hf om
 | f+1,k,d,hf,h1,h2,M,hg=>by
  have zo:(2:Nat) ^ 40=1099511627776:=by decide
  have hl:=M.length
  unfold aT.l3
  by_cases h:x<k
  ·have e1:i64.wrap ((k:Int) - 1)=((k - 1:Nat):Int):=by rw [br om om]; omega
   rw [if_pos (by simp; omega),e1,dR om,dR om,aeZ,aeZ,aeZ,ae7,ae7,dR (by simp; omega),aeZ]
   refine Mx hx Y5 hs f (k - 1) (swp d k (k - 1)) om om om (M.trans (F4 om om om om om)) fun t=>?_
   rw [pn om om,hg k,hg (k - 1),hg t]
   by_cases t1:t=k - 1
   ·subst t1; rw [if_pos rfl,if_neg om,if_pos rfl,if_neg om,if_pos rfl]
   ·rw [if_neg t1]
    by_cases t2:t=k
    ·subst t2; rw [if_pos rfl,if_neg om,if_neg om,if_pos om]
    ·rw [if_neg t2,if_neg t2,if_neg t1]
     by_cases t3:k<t∧t≤q
     ·rw [if_pos t3,if_pos om]
     ·rw [if_neg t3,if_neg om]
  ·have:k=x:=by omega
   subst this
   exact⟨d,k,by rw [if_neg (by simp)],M,hg⟩
theorem F7 {l:List Int}{a b q:Nat}(NB:a+b<2 ^ 42)(hs:l.length<2 ^ 40)(C:Cm cmp c l):∀(f s r:Nat),r - s<f→s≤r→r≤l.length→r≤(a+b) / 2+q→(a+b) / 2+q≤l.length+s→
  ∃x:Nat,aT.l4 m l (a:Int) (q:Int) (b:Int) cmp f (s:Int) (r:Int)=some ((x:Int),(x:Int))∧s≤x∧x≤r∧(s<x→0≤c (gt l ((a+b) / 2+q - x)) (gt l (x - 1)))∧(x<r→c (gt l ((a+b) / 2+q - x - 1)) (gt l x)<0)
 | 0,i,j,hf,_,_,_,_=>absurd hf om
 | f+1,s,r,hf,h1,h2,h3,h4=>by
  have zo:(2:Nat) ^ 40=1099511627776:=by decide
  have Y6:(2:Nat) ^ 42=4398046511104:=by decide
  unfold aT.l4
  by_cases h:s<r
  ·have hh:=Eh (a:=s) (b:=r) om
   have NB:=Eh (a:=a) (b:=b) om
   have e1:i64.wrap (i64.wrap (i64.wrap ((((a+b) / 2:Nat):Int)+(q:Int)) - 1) - (((s+r) / 2:Nat):Int))=(((a+b) / 2+q - (s+r) / 2 - 1:Nat):Int):=by
    rw [br (x:=(((a+b) / 2:Nat):Int)+(q:Int)) om om,br (x:=(((a+b) / 2:Nat):Int)+(q:Int) - 1) om om,br om om]
    omega
   rw [if_pos (by simp; omega),hh,NB,e1,dR om,dR om,aeZ,aeZ,C.at om om,aeZ]
   by_cases g:c (gt l ((a+b) / 2+q - (s+r) / 2 - 1)) (gt l ((s+r) / 2))<0
   ·obtain⟨x,e,x1,x2,x3,x4⟩:=F7 (a:=a) (b:=b) (q:=q) om hs C f s ((s+r) / 2) om om om om om
    rw [if_neg (by simpa using g),e]
    refine⟨x,rfl,x1,om,x3,fun _=>?_⟩
    by_cases hx:x=(s+r) / 2
    ·rw [hx]; exact g
    ·exact x4 om
   ·obtain⟨x,e,x1,x2,x3,x4⟩:=F7 (a:=a) (b:=b) (q:=q) om hs C f ((s+r) / 2+1) r om om h2 h3 om
    rw [if_pos (by simpa using g),br om om,show (((s+r) / 2:Nat):Int)+1=(((s+r) / 2+1:Nat):Int) by omega,e]
    refine⟨x,rfl,om,x2,fun _=>?_,x4⟩
    by_cases hx:x=(s+r) / 2+1
    ·rw [hx,show (a+b) / 2+q - ((s+r) / 2+1)=(a+b) / 2+q - (s+r) / 2 - 1 by omega,Nat.add_sub_cancel]; omega
    ·exact x3 om
  ·have:s=r:=by omega
   subst this
   exact⟨s,by rw [if_neg (by simp)],ae4 _,ae4 _,fun h=>absurd h om,fun h=>absurd h om⟩
end
section
variable {m:Nat}{cmp:Int→Int→Option Int}{c:Int→Int→Int}
theorem y5 {l d:List Int}{a q b M E x:Nat}(h1:a≤x)(h2:x≤M)(h3:x≤q)(h4:q≤E)(h5:E≤b)(h6:E+x=M+q)(hb:b≤l.length)
  (R:Tk l d x (q - x) (E - q)) (O:Ord c l) (F1:a<x→E<b→0≤c (gt l E) (gt l (x - 1))) (F2:x<q→q<E→c (gt l (E - 1)) (gt l x)<0)
  (S1:Sg c l a q) (S2:Sg c l q b) :
  Sg c d a x∧Sg c d x M∧Sg c d M E∧Sg c d E b∧(∀i j,a≤i→i<M→M≤j→j<b→0≤c (gt d j) (gt d i)):=by
 obtain⟨R1,R2,R3,R4⟩:=R
 have g1:∀k,k<x→gt d k=gt l k:=fun k hk=>R4 k (.inl hk)
 have g2:∀k,x≤k→k<M→gt d k=gt l (q+(k - x)):=fun k hk uu=>by
  have:=R2 (k - x) om
  rw [show x+(k - x)=k by omega,show x+(q - x)+(k - x)=q+(k - x) by omega] at this
  exact this
 have g3:∀k,M≤k→k<E→gt d k=gt l (x+(k - M)):=fun k hk uu=>by
  have:=R3 (k - M) om
  rw [show x+(E - q)+(k - M)=k by omega] at this
  exact this
 have g4:∀k,E≤k→gt d k=gt l k:=fun k hk=>R4 k (.inr om)
 refine⟨fun i j k1 k2 k3=>?_,fun i j k1 k2 k3=>?_,fun i j k1 k2 k3=>?_,fun i j k1 k2 k3=>?_,fun i j k1 k2 k3 k4=>?_⟩
 ·rw [g1 i om,g1 j om]; exact S1 _ _ k1 k2 om
 ·rw [g2 i om om,g2 j om om]; exact S2 _ _ om om om
 ·rw [g3 i om om,g3 j om om]; exact S1 _ _ om om om
 ·rw [g4 i om,g4 j om]; exact S2 _ _ om om om
 ·by_cases hi:i<x
  ·rw [g1 i hi]
   by_cases hj:j<E
   ·rw [g3 j k3 hj]; exact S1 _ _ k1 om om
   ·rw [g4 j om]
    have f1:=F1 om om
    have f2:=S1.le O k1 (show i≤x - 1 by omega) om om
    have f3:=S2.le O (show q≤E from h4) (show E≤j by omega) k4 hb
    exact O.tr _ (bh om) _ (bh (show E<l.length by omega)) _ (bh om) (O.tr _ (bh om) _ (bh (show x - 1<l.length by omega)) _ (bh om) f2 f1) f3
  ·rw [g2 i om k2]
   by_cases hj:j<E
   ·rw [g3 j k3 hj]
    have f1:=O.To _ (bh (show E - 1<l.length by omega)) _ (bh (show x<l.length by omega)) (F2 om om)
    have f2:=S2.le O (show q≤q+(i - x) by omega) (show q+(i - x)≤E - 1 by omega) om hb
    have f3:=S1.le O h1 (show x≤x+(j - M) by omega) om om
    exact O.tr _ (bh om) _ (bh (show x<l.length by omega)) _ (bh om) (O.tr _ (bh om) _ (bh (show E - 1<l.length by omega)) _ (bh om) f2 f1) f3
   ·rw [g4 j om]; exact S2 _ _ om om k4
theorem My {l:List Int}{x i j:Nat}(h:i=0∨j=0):Tk l l x i j:=
 ⟨List.Perm.refl _,fun k hk=>by rw [show i=0 by omega,agz],fun k hk=>by rw [show j=0 by omega,agz],fun _ _=>rfl⟩
theorem Si {l d:List Int}{x i j a b:Nat}(R:Tk l d x i j)(h1:a≤x)(h2:x+i+j≤b):Mv a b l d:=by
 obtain⟨R1,R2,R3,R4⟩:=R
 refine⟨R1,fun k hk=>R4 k om,fun k k1 k2=>?_⟩
 by_cases g1:k<x∨x+i+j≤k
 ·exact⟨k,k1,k2,R4 k g1⟩
 ·by_cases g2:k<x+j
  ·have:=R2 (k - x) om
   rw [show x+(k - x)=k by omega] at this
   exact⟨_,om,om,this⟩
  ·have:=R3 (k - x - j) om
   rw [show x+j+(k - x - j)=k by omega] at this
   exact⟨_,om,om,this⟩
theorem tV (hm:2 ^ 41≤m):∀(f:Nat) (l:List Int) (a q b:Nat),b - a<f→a<q→q<b→b≤l.length→l.length<2 ^ 40→Cm cmp c l→
  ∃d,aT.f m f l (a:Int) (q:Int) (b:Int) cmp=some d∧Mv a b l d∧(Ord c l→Sg c l a q→Sg c l q b→Sg c d a b)
 | 0,l,a,q,b,hf,_,_,_,_,_=>absurd hf om
 | f+1,l,a,q,b,hf,h1,h2,h3,hs,C=>by
  have zo:(2:Nat) ^ 40=1099511627776:=by decide
  have zN:(2:Nat) ^ 41=2199023255552:=by decide
  have Y6:(2:Nat) ^ 42=4398046511104:=by decide
  unfold aT.f
  unfold aT.b
  have e1:i64.wrap ((q:Int) - (a:Int))=((q - a:Nat):Int):=by rw [br om om]; omega
  have e2:i64.wrap ((b:Int) - (q:Int))=((b - q:Nat):Int):=by rw [br om om]; omega
  have hM:=Eh (a:=a) (b:=b) om
  rw [e1,e2,hM]
  by_cases Y7:q - a=1
  ·obtain⟨x,k1,k2,k3,k4,k5⟩:=F5 (m:=m) (a:=a) om hs C m q b om om h3
   obtain⟨d,y,g1,g2,g3⟩:=Mw (m:=m) (l:=l) (a:=a) (x:=x) om om hs m a l om (ae4 _) om Mv.refl (fun t=>by rw [if_neg om]; split<;>simp_all)
   rw [if_pos (by simp; omega),k1,aeZ]
   dsimp only
   rw [g1]
   refine⟨d,rfl,g2.wide (ae4 _) k3,fun O S1 S2 i j r1 r2 r3=>?_⟩
   have A1:∀t,a≤t→t+1<x→gt d t=gt l (t+1):=fun t w1 w2=>by rw [g3 t,if_pos ⟨w1,w2⟩]
   have A2:∀t,t+1=x→gt d t=gt l a:=fun t w1=>by rw [g3 t,if_neg om,if_pos w1]
   have A3:∀t,x≤t→gt d t=gt l t:=fun t w1=>by rw [g3 t,if_neg om,if_neg om]
   by_cases i1:i+1<x
   ·rw [A1 i r1 i1]
    by_cases j1:j+1<x
    ·rw [A1 j om j1]; exact S2 _ _ om om om
    ·have f1:=O.To _ (bh (show x - 1<l.length by omega)) _ (bh (show a<l.length by omega)) (k4 om)
     have f2:=S2.le O (show q≤i+1 by omega) (show i+1≤x - 1 by omega) om h3
     by_cases j2:j+1=x
     ·rw [A2 j j2]
      exact O.tr _ (bh om) _ (bh (show x - 1<l.length by omega)) _ (bh om) f2 f1
     ·rw [A3 j om]; exact S2 _ _ om om om
   ·rw [A3 j om]
    by_cases i2:i+1=x
    ·rw [A2 i i2]
     have f1:=k5 om
     have f2:=S2.le O (show q≤x by omega) (show x≤j by omega) r3 h3
     exact O.tr _ (bh om) _ (bh (show x<l.length by omega)) _ (bh om) f1 f2
    ·rw [A3 i om]; exact S2 _ _ om r2 r3
  rw [if_neg (by simp; omega)]
  by_cases hb1:b - q=1
  ·obtain⟨x,k1,k2,k3,k4,k5⟩:=F6 (m:=m) (q:=q) om hs C m a q om om om
   obtain⟨d,y,g1,g2,g3⟩:=Mx (m:=m) (l:=l) (q:=q) (x:=x) om om hs m q l om om (ae4 _) Mv.refl (fun t=>by rw [if_neg om]; split<;>simp_all)
   rw [if_pos (by simp; omega),k1,aeZ]
   dsimp only
   rw [g1]
   refine⟨d,rfl,g2.wide k2 om,fun O S1 S2 i j r1 r2 r3=>?_⟩
   have A1:∀t,x<t→t≤q→gt d t=gt l (t - 1):=fun t w1 w2=>by rw [g3 t,if_pos ⟨w1,w2⟩]
   have A2:gt d x=gt l q:=by rw [g3 x,if_neg om,if_pos rfl]
   have A3:∀t,t<x→gt d t=gt l t:=fun t w1=>by rw [g3 t,if_neg om,if_neg om]
   by_cases i1:x<i
   ·rw [A1 i i1 om,A1 j om om]
    exact S1 _ _ om om om
   ·by_cases i2:i=x
    ·subst i2
     rw [A2,A1 j om om]
     have f1:=O.To _ (bh (show q<l.length by omega)) _ (bh (show i<l.length by omega)) (k5 om)
     have f2:=S1.le O r1 (show i≤j - 1 by omega) om om
     exact O.tr _ (bh om) _ (bh (show i<l.length by omega)) _ (bh om) f1 f2
    ·rw [A3 i om]
     by_cases j1:x<j
     ·rw [A1 j j1 om]
      exact S1.le O r1 om om om
     ·have f1:=k4 om
      have f2:=S1.le O r1 (show i≤x - 1 by omega) om om
      by_cases j2:j=x
      ·subst j2
       rw [A2]
       exact O.tr _ (bh om) _ (bh (show j - 1<l.length by omega)) _ (bh om) f2 f1
      ·rw [A3 j om]; exact S1 _ _ r1 r2 om
  rw [if_neg (by simp; omega)]
  refine Sh ?_
  intro z hz
  have Sj:∃s r:Nat,z=((s:Int),(r:Int))∧((q > (a+b) / 2∧s=(a+b) / 2+q - b∧r=(a+b) / 2)∨(q≤(a+b) / 2∧s=a∧r=q)):=by
   rcases hz with⟨hc,rfl⟩| ⟨hc,rfl⟩
   ·refine⟨(a+b) / 2+q - b,(a+b) / 2,?_,.inl ⟨by simp only [decide_eq_true_eq] at hc; omega,rfl,rfl⟩⟩
    simp only [ae9,and_true]
    simp only [decide_eq_true_eq] at hc
    rw [br (x:=(((a+b) / 2:Nat):Int)+(q:Int)) om om,br om om]
    omega
   ·refine⟨a,q,rfl,.inr ⟨?_,rfl,rfl⟩⟩
    simp only [decide_eq_false_iff_not] at hc
    omega
  obtain⟨s,r,rfl,Sj⟩:=Sj
  clear hz
  dsimp only
  obtain⟨x,k1,k2,k3,k4,k5⟩:=F7 (m:=m) (a:=a) (b:=b) (q:=q) om hs C m s r om om om om om
  rw [k1,aeZ]
  dsimp only
  generalize hMM:(a+b) / 2=M at *
  obtain⟨E,hE⟩:∃E,E=M+q - x:=⟨_,rfl⟩
  have eE:i64.wrap (i64.wrap ((M:Int)+(q:Int)) - (x:Int))=(E:Int):=by
   rw [br (x:=(M:Int)+(q:Int)) om om,br om om]
   omega
  rw [eE]
  rw [←hE] at k4 k5
  have c1:a≤x:=by omega
  have c2:x≤M:=by omega
  have c3:x≤q:=by omega
  have c4:q≤E:=by omega
  have c5:E≤b:=by omega
  have c6:E+x=M+q:=by omega
  have c7:M≤E:=by omega
  have F1:a<x→E<b→0≤c (gt l E) (gt l (x - 1)):=fun _ _=>k4 om
  have F2:x<q→q<E→c (gt l (E - 1)) (gt l x)<0:=fun _ _=>k5 om
  refine Mu (fun d=>Tk l d x (q - x) (E - q)) (fun u1 u2=>?_) (fun u=>?_) ?_
  ·simp only [decide_eq_true_eq] at u1 u2
   exact Mp hm om om om hs
  ·simp only [decide_eq_true_eq] at u
   exact My om
  intro d5 R
  try dsimp only
  have M5:Mv a b l d5:=Si R c1 om
  have l5:=M5.length
  refine Mu (fun d=>Mv a M d5 d∧(Ord c l→Sg c l a q→Sg c l q b→Sg c d a M)) (fun u1 u2=>?_) (fun u=>?_) ?_
  ·simp only [decide_eq_true_eq] at u1 u2
   obtain⟨d,g1,g2,g3⟩:=tV hm f d5 a x M om om om om om (C.perm M5.perm)
   refine⟨d,g1,g2,fun O S1 S2=>?_⟩
   obtain⟨v1,v2,v3,v4,v5⟩:=y5 c1 c2 c3 c4 c5 c6 h3 R O F1 F2 S1 S2
   exact g3 (O.perm M5.perm) v1 v2
  ·simp only [decide_eq_true_eq] at u
   refine⟨Mv.refl,fun O S1 S2=>?_⟩
   obtain⟨v1,v2,v3,v4,v5⟩:=y5 c1 c2 c3 c4 c5 c6 h3 R O F1 F2 S1 S2
   by_cases ua:a=x
   ·rw [ua]; exact v2
   ·rw [show M=x by omega]; exact v1
  rintro d6 ⟨M6,S6⟩
  try dsimp only
  have l6:=M6.length
  have Y8:=M5.trans (M6.wide (ae4 _) om)
  have fin:∀d,Mv M b d6 d→(Ord c l→Sg c l a q→Sg c l q b→Sg c d M b)→Mv a b l d∧(Ord c l→Sg c l a q→Sg c l q b→Sg c d a b):=by
   intro d M7 S7
   refine⟨Y8.trans (M7.wide om (ae4 _)),fun O S1 S2 i j r1 r2 r3=>?_⟩
   obtain⟨v1,v2,v3,v4,v5⟩:=y5 c1 c2 c3 c4 c5 c6 h3 R O F1 F2 S1 S2
   by_cases hj:j<M
   ·rw [M7.out i om,M7.out j om]
    exact S6 O S1 S2 _ _ r1 r2 hj
   ·by_cases hi:M≤i
    ·exact S7 O S1 S2 _ _ hi r2 r3
    ·obtain⟨j',y1,y2,y3⟩:=M7.im j om r3
     obtain⟨i',w1,w2,w3⟩:=M6.im i r1 om
     rw [M7.out i om,y3,M6.out j' om,w3]
     exact v5 _ _ w1 w2 y1 y2
  refine Y4 (fun u1 u2=>?_) (fun u=>?_)
  ·simp only [decide_eq_true_eq] at u1 u2
   obtain⟨d,g1,g2,g3⟩:=tV hm f d6 M E b om om om om om (C.perm Y8.perm)
   refine⟨d,g1,fin d g2 fun O S1 S2=>?_⟩
   obtain⟨v1,v2,v3,v4,v5⟩:=y5 c1 c2 c3 c4 c5 c6 h3 R O F1 F2 S1 S2
   refine g3 (O.perm Y8.perm) (fun i j y1 y2 y3=>?_) (fun i j y1 y2 y3=>?_)
   ·rw [M6.out i om,M6.out j om]; exact v3 _ _ y1 y2 y3
   ·rw [M6.out i om,M6.out j om]; exact v4 _ _ y1 y2 y3
  ·simp only [decide_eq_true_eq] at u
   refine fin d6 Mv.refl fun O S1 S2 i j y1 y2 y3=>?_
   obtain⟨v1,v2,v3,v4,v5⟩:=y5 c1 c2 c3 c4 c5 c6 h3 R O F1 F2 S1 S2
   rw [M6.out i om,M6.out j om]
   by_cases ue:M=E
   ·exact v4 _ _ om y2 y3
   ·exact v3 _ _ y1 y2 om
end
section
variable {m:Nat}{cmp:Int→Int→Option Int}{c:Int→Int→Int}
def Vw (c:Int→Int→Int)(d:List Int)(bs n:Nat):Prop:=∀k i j,k*bs≤i→i<j→j<k*bs+bs→j<n→0≤c (gt d j) (gt d i)
theorem Mz (hm:2 ^ 41≤m){n:Nat}{l:List Int}(hn:n=l.length)(hs:l.length<2 ^ 40)(C:Cm cmp c l):∀(f t:Nat) (d:List Int),n - 20*t<f→20*t≤n→Mv 0 (20*t) l d→
  (Ord c l→∀k,k<t→Sg c d (20*k) (20*k+20))→
  ∃d' t' y,cC.l0 m (n:Int) cmp f d ((20*t:Nat):Int) ((20*t+20:Nat):Int)=some (d',((20*t':Nat):Int),y)∧20*t'≤n∧n<20*t'+20∧Mv 0 (20*t') l d'∧(Ord c l→∀k,k<t'→Sg c d' (20*k) (20*k+20))
 | 0,t,d,hf,_,_,_=>absurd hf om
 | f+1,t,d,hf,h1,M,S=>by
  have zo:(2:Nat) ^ 40=1099511627776:=by decide
  have zN:(2:Nat) ^ 41=2199023255552:=by decide
  have hl:=M.length
  unfold cC.l0
  by_cases h:20*t+20≤n
  ·obtain⟨d1,e1,M1,S1⟩:=El (a:=20*t) (b:=20*t+20) (cmp:=cmp) (c:=c) hm (l:=d) om om om (C.perm M.perm)
   rw [if_pos dm,e1,aeZ,br (x:=((20*t+20:Nat):Int)+20) om om]
   have:=Mz hm hn hs C f (t+1) d1 om om ((M.wide (ae4 _) om).trans (M1.wide om om)) (fun O k hk i j k1 k2 k3=>by
    by_cases NZ:k=t
    ·subst NZ; exact S1 (O.perm M.perm) _ _ k1 k2 k3
    ·rw [M1.out i om,M1.out j om]; exact S O k om _ _ k1 k2 k3)
   rw [show ((20*(t+1):Nat):Int)=((20*t+20:Nat):Int) by omega,show ((20*(t+1)+20:Nat):Int)=((20*t+20:Nat):Int)+20 by omega] at this
   exact this
  ·exact⟨d,t,_,by rw [if_neg dm],h1,om,M,S⟩
theorem MA (hm:2 ^ 41≤m){n bs:Nat}{l:List Int}(hn:n=l.length)(hs:l.length<2 ^ 40)(hb:0<bs)(Kz:bs<n)(C:Cm cmp c l)(B:Ord c l→Vw c l bs n):∀(f t:Nat) (d:List Int),n - t*(2*bs)<f→t*(2*bs)≤n→Mv 0 (t*(2*bs)) l d→
  (Ord c l→∀k,k<t→Sg c d (k*(2*bs)) (k*(2*bs)+2*bs))→
  ∃d' t' y,cC.l2 m (n:Int) cmp (bs:Int) f d ((t*(2*bs):Nat):Int) ((t*(2*bs)+2*bs:Nat):Int)=some (d',((t'*(2*bs):Nat):Int),y)∧t'*(2*bs)≤n∧n<t'*(2*bs)+2*bs∧Mv 0 (t'*(2*bs)) l d'∧(Ord c l→∀k,k<t'→Sg c d' (k*(2*bs)) (k*(2*bs)+2*bs))
 | 0,t,d,hf,_,_,_=>absurd hf om
 | f+1,t,d,hf,h1,M,S=>by
  have zo:(2:Nat) ^ 40=1099511627776:=by decide
  have zN:(2:Nat) ^ 41=2199023255552:=by decide
  have hl:=M.length
  unfold cC.l2
  have ht:(t+1)*(2*bs)=t*(2*bs)+2*bs:=Nat.succ_mul _ _
  have q1:(2*t)*bs=t*(2*bs):=by rw [Nat.mul_assoc,Nat.mul_left_comm]
  have q2:(2*t+1)*bs=t*(2*bs)+bs:=by rw [Nat.succ_mul,q1]
  by_cases h:t*(2*bs)+2*bs≤n
  ·have S0:Ord c l→Sg c d (t*(2*bs)) (t*(2*bs)+bs):=fun O i j k1 k2 k3=>by
    rw [M.out i om,M.out j om]; exact B O (2*t) i j om k2 om om
   have S0':Ord c l→Sg c d (t*(2*bs)+bs) (t*(2*bs)+2*bs):=fun O i j k1 k2 k3=>by
    rw [M.out i om,M.out j om]; exact B O (2*t+1) i j om k2 om om
   have hk:∀k,k<t→k*(2*bs)+2*bs≤t*(2*bs):=fun k hk=>by
    rw [←Nat.succ_mul]; exact af2 _ hk
   generalize hA:t*(2*bs)=A at *
   obtain⟨d1,e1,M1,S1⟩:=tV (cmp:=cmp) (c:=c) hm m d A (A+bs) (A+2*bs) om om om om om (C.perm M.perm)
   have e0:i64.wrap ((A:Int)+(bs:Int))=((A+bs:Nat):Int):=by rw [br om om]; omega
   have e2:i64.wrap ((2:Int)*(bs:Int))=((2*bs:Nat):Int):=by rw [br om om]; omega
   have e3:i64.wrap (((A+2*bs:Nat):Int)+((2*bs:Nat):Int))=((A+2*bs+2*bs:Nat):Int):=by rw [br om om]; omega
   rw [if_pos dm,e0,e1,aeZ,e2,e3]
   have:=MA hm hn hs hb Kz C B f (t+1) d1 om om (by rw [ht]; exact (M.wide (ae4 _) om).trans (M1.wide om om)) (fun O k uu i j k1 k2 k3=>by
    by_cases NZ:k=t
    ·subst NZ; rw [hA] at k1 k3; exact S1 (O.perm M.perm) (S0 O) (S0' O) _ _ k1 k2 k3
    ·have:=hk k om
     rw [M1.out i om,M1.out j om]; exact S O k om _ _ k1 k2 k3)
   rw [ht] at this
   exact this
  ·exact⟨d,t,_,by rw [if_neg dm],h1,om,M,S⟩
theorem F8 (hm:2 ^ 41≤m){n:Nat}:∀(f bs:Nat) (l:List Int),n=l.length→l.length<2 ^ 40→Cm cmp c l→n - bs<f→0<bs→bs<2 ^ 42→(Ord c l→Vw c l bs n)→
  ∃d y,cC.l1 m (n:Int) cmp f l (bs:Int)=some (d,y)∧d.Perm l∧(Ord c l→Sg c d 0 n)
 | 0,bs,l,_,_,_,hf,_,_,_=>absurd hf om
 | f+1,bs,l,hn,hs,C,hf,hb,hb2,B=>by
  have zo:(2:Nat) ^ 40=1099511627776:=by decide
  have zN:(2:Nat) ^ 41=2199023255552:=by decide
  have Y6:(2:Nat) ^ 42=4398046511104:=by decide
  unfold cC.l1
  by_cases h:bs<n
  ·have e2:i64.wrap ((2:Int)*(bs:Int))=((2*bs:Nat):Int):=by rw [br om om]; omega
   have e3:i64.wrap ((bs:Int)*(2:Int))=((2*bs:Nat):Int):=by rw [br om om]; omega
   obtain⟨d1,t,y,k1,k2,k3,M1,S1⟩:=MA (cmp:=cmp) (c:=c) hm hn hs hb h C B m 0 l om om Mv.refl (fun O k hk=>absurd hk om)
   have l1:=M1.length
   simp only [Nat.zero_mul,aft] at k1
   have k1:cC.l2 m (n:Int) cmp (bs:Int) m l (0:Int) ((2*bs:Nat):Int)=_:=k1
   rw [if_pos dm,e2,k1,aeZ]
   dsimp only
   rw [e3]
   have q1:(2*t)*bs=t*(2*bs):=by rw [Nat.mul_assoc,Nat.mul_left_comm]
   have q2:(2*t+1)*bs=t*(2*bs)+bs:=by rw [Nat.succ_mul,q1]
   have hk:∀k,k<t→k*(2*bs)+2*bs≤t*(2*bs):=fun k hk=>by
    rw [←Nat.succ_mul]; exact af2 _ hk
   have uu:∀k,t<k→t*(2*bs)+2*bs≤k*(2*bs):=fun k hk=>by
    rw [←Nat.succ_mul]; exact af2 _ hk
   have e0:i64.wrap (((t*(2*bs):Nat):Int)+(bs:Int))=((t*(2*bs)+bs:Nat):Int):=by rw [br om om]; omega
   rw [e0]
   by_cases h2:t*(2*bs)+bs<n
   ·obtain⟨d2,e4,M2,S2⟩:=tV (cmp:=cmp) (c:=c) hm m d1 (t*(2*bs)) (t*(2*bs)+bs) n om om om om om (C.perm M1.perm)
    rw [if_pos dm,e4,aeZ]
    have P2:=M2.perm.trans M1.perm
    obtain⟨d,y,g1,g2,g3⟩:=F8 (n:=n) hm f (2*bs) d2 (by have:=P2.length_eq; omega) (by have:=P2.length_eq; omega) (C.perm P2) om om om (fun O k i j w1 w2 w3 w4=>by
     have O:=O.perm P2.symm
     by_cases u1:k<t
     ·have:=hk k u1
      rw [M2.out i om,M2.out j om]; exact S1 O k u1 _ _ w1 w2 w3
     ·by_cases u2:k=t
      ·subst u2
       refine S2 (O.perm M1.perm) (fun i j x1 x2 x3=>?_) (fun i j x1 x2 x3=>?_) _ _ w1 w2 w4
       ·rw [M1.out i om,M1.out j om]; exact B O (2*k) i j om x2 om om
       ·rw [M1.out i om,M1.out j om]; exact B O (2*k+1) i j om x2 om om
      ·have:=uu k om; omega)
    exact⟨d,y,g1,g2.trans P2,fun O=>g3 (O.perm P2)⟩
   ·rw [if_neg dm]
    have P2:=M1.perm
    obtain⟨d,y,g1,g2,g3⟩:=F8 (n:=n) hm f (2*bs) d1 (by have:=P2.length_eq; omega) (by have:=P2.length_eq; omega) (C.perm P2) om om om (fun O k i j w1 w2 w3 w4=>by
     have O:=O.perm P2.symm
     by_cases u1:k<t
     ·exact S1 O k u1 _ _ w1 w2 w3
     ·by_cases u2:k=t
      ·subst u2
       rw [M1.out i om,M1.out j om]; exact B O (2*k) i j om w2 om om
      ·have:=uu k om; omega)
    exact⟨d,y,g1,g2.trans P2,fun O=>g3 (O.perm P2)⟩
  ·refine⟨l,bs,by rw [if_neg dm],List.Perm.refl _,fun O i j w1 w2 w3=>B O 0 i j om w2 om w3⟩
theorem Jv (hm:2 ^ 41≤m){l:List Int}(hs:l.length<2 ^ 40)(C:Cm cmp c l):∃d,il.f m l cmp=some d∧d.Perm l∧(Ord c l→Sg c d 0 l.length):=by
 have zo:(2:Nat) ^ 40=1099511627776:=by decide
 have zN:(2:Nat) ^ 41=2199023255552:=by decide
 have Y6:(2:Nat) ^ 42=4398046511104:=by decide
 unfold il.f cC.f
 obtain⟨d1,t,y,k1,k2,k3,M1,S1⟩:=Mz (cmp:=cmp) (c:=c) hm rfl hs C m 0 l om om Mv.refl (fun O k hk=>absurd hk om)
 have k1:cC.l0 m (l.length:Int) cmp m l (0:Int) (20:Int)=_:=k1
 have l1:=M1.length
 rw [k1,aeZ]
 dsimp only
 obtain⟨d2,e2,M2,S2⟩:=El (a:=20*t) (b:=l.length) (cmp:=cmp) (c:=c) hm (l:=d1) om om om (C.perm M1.perm)
 rw [e2,aeZ]
 have P2:=M2.perm.trans M1.perm
 obtain⟨d,y,g1,g2,g3⟩:=F8 (cmp:=cmp) (c:=c) (n:=l.length) hm m 20 d2 P2.length_eq.symm (by rw [P2.length_eq]; exact hs) (C.perm P2) om om om (fun O k i j w1 w2 w3 w4=>by
  have O:=O.perm P2.symm
  by_cases u1:k<t
  ·rw [M2.out i om,M2.out j om]; exact S1 O k u1 _ _ om w2 om
  ·exact S2 (O.perm M1.perm) _ _ om w2 om)
 have g1:cC.l1 m (l.length:Int) cmp m d2 (20:Int)=_:=g1
 rw [g1]
 exact⟨d,rfl,g2.trans P2,fun O=>g3 (O.perm P2)⟩
end
def jw (t:bm):Bool:=decide (1≤t.nodes.length)&&decide (t.nodes.length≤8000)&&decide (0≤t.root)&&decide (t.root<t.nodes.length)&&t.nodes.all fun n=>dt n t.nodes.length
theorem sF {m:Nat}(hm:2 ^ 30≤m)(t:bm):jc.f m t=some (jw t):=by
 have vX:(2:Nat) ^ 30=1073741824:=by decide
 have zo:(2:Nat) ^ 40=1099511627776:=by decide
 unfold jc.f jw
 by_cases h1:1≤t.nodes.length
 ·rw [if_pos dm,decide_eq_true h1]
  by_cases h2:t.nodes.length≤8000
  ·rw [if_pos dm,decide_eq_true h2]
   by_cases h3:0≤t.root
   ·rw [if_pos dm,decide_eq_true h3]
    by_cases h4:t.root<t.nodes.length
    ·rw [if_pos dm,decide_eq_true h4]
     rw [Jt (g:=fun n=>!(dt n t.nodes.length)) om om (fun n _=>by unfold jb.f; rw [Ju om]; rfl),aeZ]
     simp [List.not_any_eq_all_not]
    ·rw [if_neg dm,decide_eq_false h4]; rfl
   ·rw [if_neg dm,decide_eq_false h3]; rfl
  ·rw [if_neg dm,decide_eq_false h2]; rfl
 ·rw [if_neg dm,decide_eq_false h1]; rfl
def cI (x y:Int):Int:=if x<y then -1 else if y<x then 1 else 0
def cS (x y:ByteArray):Int:=if Op.bytesLess x.data.toList y.data.toList=true then -1 else if (!KT x y)=true then 1 else 0
def Jw (x y:Int):Int:=if x=0 then y else x
def cT (a b:ai):Int:=if a.kind=b.kind then (if a.kind=3 then Jw (cI a.args.length b.args.length) (cS a.label b.label) else Jw (cS a.label b.label) (cI a.int b.int)) else cI a.kind b.kind
theorem Cs {m:Nat}(x y:Int):dX.f m x y=some (cI x y):=by
 unfold dX.f cmp_isNaN_int.f cI
 simp only [beq_self_eq_true,afT,aeZ,afa,if_false]
 by_cases h:x<y
 ·rw [if_pos (by simpa using h),if_pos h]
 ·rw [if_neg (by simpa using h),if_neg h]
  by_cases h2:y<x
  ·rw [if_pos (by simpa using h2),if_pos h2]
  ·rw [if_neg (by simpa using h2),if_neg h2]
theorem Ic {m:Nat}(x y:ByteArray):dq.f m x y=some (cS x y):=by
 unfold dq.f cmp_isNaN_string.f cS
 simp only [beq_self_eq_true,afT,aeZ,afa,if_false]
 split
 ·rfl
 ·split
  ·rfl
  ·rfl
theorem Em {m:Nat}(hm:3≤m)(x y:Int):dd.f m [x,y]=some (Jw x y):=by
 obtain⟨k,rfl⟩:∃k,m=k+3:=⟨m - 3,om⟩
 unfold dd.f Jw
 have e1:i64.wrap ((0:Int)+1)=1:=by decide
 have e2:i64.wrap ((1:Int)+1)=2:=by decide
 have a0:ix [x,y] 0=some x:=rfl
 have a1:ix [x,y] 1=some y:=rfl
 unfold dd.l0
 rw [if_pos (by simp),a0,aeZ]
 by_cases h:x=0
 ·subst h
  rw [if_neg (by simp),e1,if_pos rfl]
  unfold dd.l0
  rw [if_pos (by simp),a1,aeZ]
  by_cases h2:y=0
  ·subst h2
   rw [if_neg (by simp),e2]
   unfold dd.l0
   rw [if_neg (by simp)]; rfl
  ·rw [if_pos (by simpa using h2)]; rfl
 ·rw [if_pos (by simpa using h),if_neg h]; rfl
theorem Ie {m:Nat}(hm:3≤m)(a b:ai):eV.f m a b=some (cT a b):=by
 unfold eV.f cT
 by_cases h:a.kind=b.kind
 ·rw [if_neg (by simp [h]),if_pos h]
  by_cases h3:a.kind=3
  ·rw [if_pos (by simpa using h3),if_pos h3,Cs,Ic,aeZ,aeZ,Em hm]; rfl
  ·rw [if_neg (by simpa using h3),if_neg h3,Cs,Ic,aeZ,aeZ,Em hm]; rfl
 ·rw [if_pos (by simpa using h),if_neg h,Cs]; rfl
def nd (l:List ai)(i:Int):ai:=l.getD i.toNat ⟨0,0,⟨#[]⟩,[]⟩
theorem kh {l:List ai}{i:Int}(h0:0≤i)(h1:i<l.length):ix l i=some (nd l i):=by
 unfold ix nd
 have h:i.toNat<l.length:=by omega
 rw [if_pos h0,aff,ae8 h]; rfl
theorem jd {l:List ai}{i:Int}(h0:0≤i)(h1:i<l.length):nd l i∈l:=by
 have:=kh h0 h1
 unfold ix at this
 rw [if_pos h0] at this
 exact afj this
theorem MB {m:Nat}(hm:3≤m){l:List ai}{i j:Int}(h0:0≤i)(h1:i<l.length)(h2:0≤j)(h3:j<l.length):fy.f m i j l=some (cT (nd l i) (nd l j)):=by
 unfold fy.f
 rw [kh h0 h1,kh h2 h3,aeZ,aeZ,Ie hm]; rfl
end Go.Proofs.YtifafejidnjckaaGreat
