/- Part of the proof: PB3, PB1, PB2, PB4, PB5, PB6, PB7, PB8. -/
import Derived.Test.YtmekcfdllhphlaaGreatDoorK13
set_option linter.unusedVariables false
set_option linter.unusedSimpArgs false
set_option maxRecDepth 100000
open Bool renaming and_eq_true → aaF, false_eq_true → aaS, or_eq_true → abt, true_and → abW
open Int renaming toNat_natCast → aaH, le_refl → ab9
open List renaming getElem?_eq_some_iff → aaK, getElem?_eq_getElem → aaL, length_set → aaN, mem_singleton → aaO, drop_eq_getElem_cons → aaP, mem_append → aaQ, length_cons → aaR, drop_eq_nil_of_le → aaU, replicate → aaV, getD_eq_getElem?_getD → aaW, length_map → aaX, getElem?_append_right → aaY, getElem?_eq_none → aa1, drop_zero → aa3, nil_append → aa5, mem_map → aba, mem_cons → abb, getElem?_map → abi, getElem?_cons_zero → abk, mem_append_left → abo, all_cons → abA, ext_getElem? → abF, idxOf_append → abS, nodup_append → abT, idxOf_lt_length_of_mem → abU, pairwise_iff_getElem → ab3, getElem?_set → ab5, mem_filter → ace
open Nat renaming le_refl → aaE, le_trans → abj, sub_self → acm
open Ne renaming symm → abZ
open Option renaming bind_some → aaA, map_some → aaG
open Option.some renaming injEq → aaD, inj → aa2
open Prod.mk renaming injEq → aaJ
open UInt8 renaming lt_iff_toNat_lt → ab1
namespace Go.Proofs.YtmekcfdllhphlaaGreatDoor
open Go Go.R
open Go.IntKind (i64 u64 u8 u32)
theorem zP {m:Nat}(c:Int):fR.f m c=some (iI c):=by
 unfold fR.f
 by_cases h1:97≤c<;>by_cases h2:c≤122<;>by_cases h3:65≤c<;>by_cases h4:c≤90<;>by_cases h5:48≤c<;>by_cases h6:c≤57<;>simp [iI,h1,h2,h3,h4,h5,h6]<;>omega
theorem BK {m:Nat}{s:ByteArray}(hs:s.size≤16):∀(f i:Nat),s.size - i<f→i≤s.size→
  ∃o,cY.l0 m s f (i:Int)=some o∧((∃x,o = .inr x)∧((s.data.toList.drop i).all fun c=>iI (c.toNat:Int))=true∨o = .inl false∧((s.data.toList.drop i).all fun c=>iI (c.toNat:Int))=false)
 | 0,i,hf,_=>absurd hf (by omega)
 | f+1,i,hf,hi=>by
  unfold cY.l0
  by_cases h:i<s.size
  ·obtain⟨c,hc,hb⟩:=uE h
   obtain⟨h4,h5⟩:=aaK.1 hc
   have hd:s.data.toList.drop i=c::s.data.toList.drop (i+1):=by rw [←h5]; exact aaP h4
   rw [if_pos (by simp only [decide_eq_true_eq]; omega),hb,aaA,zP,aaA,hd,abA]
   cases hl:iI (c.toNat:Int) with
   | false=>exact⟨_,rfl,.inr ⟨rfl,rfl⟩⟩
   | true=>
    obtain⟨o,h1,h2⟩:=BK (m:=m) hs f (i+1) (by omega) (by omega)
    rw [if_neg (by simp),ay (by omega) (by omega),show (i:Int)+1=((i+1:Nat):Int) by omega,h1]
    exact⟨o,rfl,by simpa using h2⟩
  ·refine⟨_,by rw [if_neg (by simp only [decide_eq_true_eq]; omega)],.inl ⟨⟨_,rfl⟩,?_⟩⟩
   rw [aaU (by simp; omega)]; rfl
def Jk (s:ByteArray):Bool:=decide (1≤s.data.toList.length)&&decide (s.data.toList.length≤16)&&s.data.toList.all fun c=>iI (c.toNat:Int)
theorem Dt {m:Nat}(hm:20≤m)(s:ByteArray):cY.f m s=some (Jk s):=by
 have hsz:s.size=s.data.toList.length:=by simp
 unfold cY.f Jk
 by_cases h1:1≤s.data.toList.length
 ·by_cases h2:s.data.toList.length≤16
  ·obtain⟨o,k1,k2⟩:=BK (m:=m) (s:=s) (by omega) m 0 (by omega) (by omega)
   have k1:cY.l0 m s m 0=_:=k1
   rw [aa3] at k2
   rw [if_neg (by simp only [decide_eq_true_eq]; omega),if_neg (by simp only [decide_eq_true_eq]; omega),k1,aaA,decide_eq_true h1,decide_eq_true h2]
   simp only [abW]
   rcases k2 with⟨⟨x,rfl⟩,k⟩| ⟨rfl,k⟩
   ·rw [k]
   ·rw [k]
  ·rw [if_neg (by simp only [decide_eq_true_eq]; omega),if_pos (by simp only [decide_eq_true_eq]; omega),decide_eq_false h2,Bool.and_false]; rfl
 ·rw [if_pos (by simp only [decide_eq_true_eq]; omega),decide_eq_false h1]; rfl
theorem tq {m:Nat}(hm:20≤m)(s:ByteArray):eU.f m s=some (mU s):=by
 have hsz:s.size=s.data.toList.length:=by simp
 unfold eU.f mU
 show (if (s.data.toList==[124])=true then _ else if (s.data.toList==[35])=true then _ else _)=_
 cases h1:s.data.toList==[124] with
 | true=>rfl
 | false=>
  cases h2:s.data.toList==[35] with
  | true=>rfl
  | false=>
   simp only [aaS,if_false,Bool.false_or]
   rw [Dt hm,aaA]
   unfold Jk A7
   cases hl:s.data.toList with
   | nil=>rfl
   | cons c cs=>
    obtain⟨c',g1,g2⟩:=uE (s:=s) (i:=0) (by rw [hsz,hl]; simp)
    rw [hl] at g1
    simp only [abk,aaD] at g1
    subst g1
    have g2:bt s 0=_:=g2
    rw [g2]
    simp only [aaA,aaR]
    cases ha:(c::cs).all fun c=>iI (c.toNat:Int) with
    | false=>simp
    | true=>
     by_cases h3:cs.length≤15
     ·rw [decide_eq_true (show 1≤cs.length+1 by omega),decide_eq_true (show cs.length+1≤16 by omega),decide_eq_true h3]
      simp only [Bool.and_self,if_true,Bool.and_true,abW]
      by_cases h4:(97:Int)≤(c.toNat:Int)
      ·rw [if_pos (by simpa using h4),decide_eq_true h4]; rfl
      ·rw [if_neg (by simpa using h4),decide_eq_false h4]; rfl
     ·rw [decide_eq_false (show ¬cs.length+1≤16 by omega),decide_eq_false h3]; simp
theorem BL {m:Nat}{n:ae}{size:Int}(h8:n.args.length≤8):∀(f i:Nat),n.args.length - i<f→i≤n.args.length→
  ∃o,cy.l0 m n size f (i:Int)=some o∧((∃x,o = .inr x)∧((n.args.drop i).all fun a=>decide (0≤a)&&decide (a<size))=true∨o = .inl false∧((n.args.drop i).all fun a=>decide (0≤a)&&decide (a<size))=false)
 | 0,i,hf,_=>absurd hf (by omega)
 | f+1,i,hf,hi=>by
  unfold cy.l0
  by_cases h:i<n.args.length
  ·have hd:n.args.drop i=gt n.args i::n.args.drop (i+1):=by
    obtain⟨h4,h5⟩:=aaK.1 (bL h)
    rw [←h5]; exact aaP h4
   rw [if_pos (by simp only [decide_eq_true_eq]; omega),db h,aaA,hd,abA,aaA]
   by_cases h1:gt n.args i<0
   ·rw [if_pos (by simpa using h1),decide_eq_false (show ¬0≤gt n.args i by omega)]
    exact⟨_,rfl,.inr ⟨rfl,rfl⟩⟩
   ·rw [if_neg (by simpa using h1),decide_eq_true (show 0≤gt n.args i by omega)]
    by_cases h2:gt n.args i<size
    ·obtain⟨o,k1,k2⟩:=BL (m:=m) (size:=size) h8 f (i+1) (by omega) (by omega)
     rw [if_neg (by simp only [decide_eq_true_eq]; omega),decide_eq_true h2,ay (by omega) (by omega),show (i:Int)+1=((i+1:Nat):Int) by omega,k1]
     exact⟨o,rfl,by simpa using k2⟩
    ·rw [if_pos (by simp only [decide_eq_true_eq]; omega),decide_eq_false h2]
     exact⟨_,rfl,.inr ⟨rfl,rfl⟩⟩
  ·refine⟨_,by rw [if_neg (by simp only [decide_eq_true_eq]; omega)],.inl ⟨⟨_,rfl⟩,?_⟩⟩
   rw [aaU (by omega)]; rfl
theorem Du {m:Nat}(hm:20≤m)(n:ae)(size:Int):cy.f m n size=some (nJ n size):=by
 unfold cy.f nJ
 by_cases k0:n.kind=0
 ·rw [if_pos (by simpa using k0),if_pos k0]
  by_cases h1:0≤n.int
  ·rw [if_pos (by simpa using h1),show decide (0≤n.int)=true by simpa using h1]
   show (if (n.label.data.toList==[])=true then _ else _)=_
   cases n.label.data.toList==[] with
   | true=>rw [if_pos rfl,A9]; rfl
   | false=>rfl
  ·rw [if_neg (by simpa using h1),show decide (0≤n.int)=false by simp; omega]; rfl
 rw [if_neg (by simpa using k0),if_neg k0]
 by_cases k1:n.kind=1
 ·rw [if_pos (by simpa using k1),if_pos k1]
  by_cases h1 : -1099511627776≤n.int
  ·rw [if_pos (by simpa using h1),show decide (-1099511627776≤n.int)=true by simpa using h1]
   by_cases h3:n.int≤1099511627776
   ·rw [if_pos (by simpa using h3),show decide (n.int≤1099511627776)=true by simpa using h3]
    show (if (n.label.data.toList==[])=true then _ else _)=_
    cases n.label.data.toList==[] with
    | true=>rw [if_pos rfl,A9]; rfl
    | false=>rfl
   ·rw [if_neg (by simpa using h3),show decide (n.int≤1099511627776)=false by simp; omega]; rfl
  ·rw [if_neg (by simpa using h1),show decide (-1099511627776≤n.int)=false by simp; omega]; rfl
 rw [if_neg (by simpa using k1),if_neg k1]
 by_cases k2:n.kind=2
 ·rw [if_pos (by simpa using k2),if_pos k2,tq hm,aaA]
  cases mU n.label with
  | false=>simp
  | true=>
   rw [if_pos rfl]
   cases h1:n.int==0 with
   | false=>rfl
   | true=>rw [if_pos rfl,A9]; rfl
 rw [if_neg (by simpa using k2),if_neg k2]
 by_cases k4:n.kind=4
 ·rw [if_pos (by simpa using k4),if_neg (show ¬n.kind=3 by omega),if_pos k4]
  unfold A8
  show (if (n.label.data.toList==[112,114,111,99])=true then _ else if (n.label.data.toList==[99,101,108,108])=true then _ else if (n.label.data.toList==[112,111,114,116])=true then _ else _)=_
  by_cases h1:0≤n.int
  ·have d1:decide (n.int≥0)=true:=decide_eq_true h1
   rw [d1]
   cases n.label.data.toList==[112,114,111,99]<;>cases n.label.data.toList==[99,101,108,108]<;>cases n.label.data.toList==[112,111,114,116]<;>first | rfl | (show some ((n.args.length:Int)==(0:Int))=_; rw [A9]; rfl)
  ·have d1:decide (n.int≥0)=false:=decide_eq_false h1
   rw [d1]
   cases n.label.data.toList==[112,114,111,99]<;>cases n.label.data.toList==[99,101,108,108]<;>cases n.label.data.toList==[112,111,114,116]<;>rfl
 rw [if_neg (by simpa using k4)]
 by_cases k3:n.kind=3
 ·rw [if_pos (by simpa using k3),if_pos k3,tq hm,aaA]
  cases mU n.label with
  | false=>simp
  | true=>
   cases h1:n.int==0 with
   | false=>rfl
   | true=>
    simp only [Bool.not_true,aaS,if_false,Bool.and_self,abW]
    by_cases g1:1≤n.args.length
    ·rw [if_neg (by simp only [decide_eq_true_eq]; omega),decide_eq_true g1]
     by_cases g2:n.args.length≤8
     ·obtain⟨o,k1,k2⟩:=BL (m:=m) (size:=size) g2 m 0 (by omega) (by omega)
      have k1:cy.l0 m n size m 0=_:=k1
      rw [aa3] at k2
      rw [if_neg (by simp only [decide_eq_true_eq]; omega),decide_eq_true g2,k1,aaA]
      simp only [abW]
      rcases k2 with⟨⟨x,rfl⟩,k⟩| ⟨rfl,k⟩
      ·rw [k]
      ·rw [k]
     ·rw [if_pos (by simp only [decide_eq_true_eq]; omega),decide_eq_false g2]; simp
    ·rw [if_pos (by simp only [decide_eq_true_eq]; omega),decide_eq_false g1]; simp
 rw [if_neg (by simpa using k3),if_neg k3,if_neg k4]
theorem yw {m:Nat}(hm:20≤m){t:ak}(hl:t.nodes.length≤8000):∀(f i:Nat),t.nodes.length - i<f→i≤t.nodes.length→
  ∃o,cz.l0 m t f (i:Int)=some o∧((∃x,o = .inr x)∧((t.nodes.drop i).all fun n=>nJ n t.nodes.length)=true∨o = .inl false∧((t.nodes.drop i).all fun n=>nJ n t.nodes.length)=false)
 | 0,i,hf,_=>absurd hf (by omega)
 | f+1,i,hf,hi=>by
  unfold cz.l0
  by_cases h:i<t.nodes.length
  ·have hx:ix t.nodes (i:Int)=some t.nodes[i]:=by unfold ix; rw [if_pos (by omega)]; simp [h]
   rw [if_pos (by simp only [decide_eq_true_eq]; omega),hx,aaA,Du hm,aaA,aaP h,abA]
   cases hb:nJ t.nodes[i] t.nodes.length with
   | false=>exact⟨_,rfl,.inr ⟨rfl,rfl⟩⟩
   | true=>
    obtain⟨o,k1,k2⟩:=yw (m:=m) hm hl f (i+1) (by omega) (by omega)
    rw [if_neg (by simp),ay (by omega) (by omega),show (i:Int)+1=((i+1:Nat):Int) by omega,k1]
    exact⟨o,rfl,by simpa using k2⟩
  ·refine⟨_,by rw [if_neg (by simp only [decide_eq_true_eq]; omega)],.inl ⟨⟨_,rfl⟩,?_⟩⟩
   rw [aaU (by omega)]; rfl
theorem BM {m:Nat}(hm:2 ^ 30≤m)(t:ak):cz.f m t=some (kl t):=by
 have kV:(2:Nat) ^ 30=1073741824:=by decide
 unfold cz.f kl
 by_cases h1:1≤t.nodes.length
 ·rw [if_neg (by simp only [decide_eq_true_eq]; omega),decide_eq_true h1]
  by_cases h2:t.nodes.length≤8000
  ·rw [if_neg (by simp only [decide_eq_true_eq]; omega),decide_eq_true h2]
   by_cases h3:0≤t.root
   ·rw [if_neg (by simp only [decide_eq_true_eq]; omega),decide_eq_true h3]
    by_cases h4:t.root<t.nodes.length
    ·rw [if_neg (by simp only [decide_eq_true_eq]; omega),decide_eq_true h4]
     obtain⟨o,k1,k2⟩:=yw (m:=m) (t:=t) (by omega) h2 m 0 (by omega) (by omega)
     have k1:cz.l0 m t m 0=_:=k1
     rw [aa3] at k2
     rw [k1,aaA]
     simp only [abW]
     rcases k2 with⟨⟨x,rfl⟩,k⟩| ⟨rfl,k⟩
     ·rw [k]
     ·rw [k]
    ·rw [if_pos (by simp only [decide_eq_true_eq]; omega),decide_eq_false h4]; rfl
   ·rw [if_pos (by simp only [decide_eq_true_eq]; omega),decide_eq_false h3]; rfl
  ·rw [if_pos (by simp only [decide_eq_true_eq]; omega),decide_eq_false h2]; rfl
 ·rw [if_pos (by simp only [decide_eq_true_eq]; omega),decide_eq_false h1]; rfl
end Go.Proofs.YtmekcfdllhphlaaGreatDoor
namespace Go.Proofs.YtmekcfdllhphlaaGreatDoor
open Go Go.R
open Go.IntKind (i64 u64 u8 u32)
theorem wI:∀(x:List UInt8),Op.bytesLess x x=false
 | []=>rfl
 | a::x=>by simp [Op.bytesLess,wI x]
theorem zQ:∀(x y:List UInt8),Op.bytesLess x y=true→Op.bytesLess y x=false
 | _,[],h=>by cases ‹List UInt8›<;>simp [Op.bytesLess] at h
 | [],b::y,_=>rfl
 | a::x,b::y,h=>by
  simp only [Op.bytesLess,abt,aaF,decide_eq_true_eq,beq_iff_eq] at h
  simp only [Op.bytesLess,Bool.or_eq_false_iff,Bool.and_eq_false_iff,decide_eq_false_iff_not,beq_eq_false_iff_ne]
  rcases h with h | ⟨rfl,h⟩
  ·refine⟨fun h2=>?_,.inl fun e=>?_⟩
   ·rw [ab1] at h h2; omega
   ·subst e; rw [ab1] at h; omega
  ·exact⟨by rw [ab1]; omega,.inr (zQ x y h)⟩
theorem Jl:∀(x y:List UInt8),Op.bytesLess x y=true∨x=y∨Op.bytesLess y x=true
 | [],[]=>.inr (.inl rfl)
 | [],b::y=>.inl rfl
 | a::x,[]=>.inr (.inr rfl)
 | a::x,b::y=>by
  simp only [Op.bytesLess,abt,aaF,decide_eq_true_eq,beq_iff_eq,List.cons.injEq]
  rcases Nat.lt_trichotomy a.toNat b.toNat with h | h | h
  ·exact .inl (.inl (ab1.2 h))
  ·have:a=b:=UInt8.toNat_inj.1 h
   subst this
   rcases Jl x y with h1 | h1 | h1
   ·exact .inl (.inr ⟨rfl,h1⟩)
   ·exact .inr (.inl ⟨rfl,h1⟩)
   ·exact .inr (.inr (.inr ⟨rfl,h1⟩))
  ·exact .inr (.inr (.inl (ab1.2 h)))
theorem BN:∀(x y z:List UInt8),Op.bytesLess x y=true→Op.bytesLess y z=true→Op.bytesLess x z=true
 | _,_,[],_,h=>by cases ‹List UInt8›<;>simp [Op.bytesLess] at h
 | _,[],c::z,h,_=>by cases ‹List UInt8›<;>simp [Op.bytesLess] at h
 | [],b::y,c::z,_,_=>rfl
 | a::x,b::y,c::z,h1,h2=>by
  simp only [Op.bytesLess,abt,aaF,decide_eq_true_eq,beq_iff_eq] at h1 h2 ⊢
  rcases h1 with h1 | ⟨rfl,h1⟩
  ·rcases h2 with h2 | ⟨rfl,h2⟩
   ·left; rw [ab1] at *; omega
   ·exact .inl h1
  ·rcases h2 with h2 | ⟨rfl,h2⟩
   ·exact .inl h2
   ·exact .inr ⟨rfl,BN x y z h1 h2⟩
theorem Dv {x y:ByteArray}(h:x.data.toList=y.data.toList):x=y:=by
 cases x with | mk a=>cases y with | mk b=>cases a; cases b; simp only at h; subst h; rfl
structure Ol {α:Type}(c:α→α→Int):Prop where
 zero:∀x y,c x y=0→x=y
 refl:∀x,c x x=0
 neg:∀x y,c y x = - c x y
 tr:∀x y z,c x y≤0→c y z≤0→c x z≤0
theorem nZ:Ol cI:=by
 refine⟨fun x y h=>?_,fun x=>?_,fun x y=>?_,fun x y z h1 h2=>?_⟩
 ·unfold cI at h; split at h
  ·omega
  ·split at h<;>omega
 ·unfold cI; simp
 ·unfold cI; split<;>split<;>(try split)<;>omega
 ·unfold cI at *
  split at h1<;>split at h2<;>(try split at h1)<;>(try split at h2)<;>(try omega)<;>split<;>(try split)<;>omega
theorem BO (x y:ByteArray):cS x y=if Op.bytesLess x.data.toList y.data.toList=true then -1 else if x=y then 0 else 1:=by
 unfold cS HF
 cases h:Op.bytesLess x.data.toList y.data.toList with
 | true=>rfl
 | false=>
  simp only [Bool.false_or,aaS,if_false]
  by_cases e:x=y
  ·subst e; simp
  ·rw [if_neg e]
   have:(x.data.toList==y.data.toList)=false:=by
    rw [beq_eq_false_iff_ne]; exact fun h=>e (Dv h)
   rw [this]; rfl
theorem Jm:Ol cS:=by
 refine⟨fun x y h=>?_,fun x=>?_,fun x y=>?_,fun x y z h1 h2=>?_⟩
 ·rw [BO] at h
  split at h
  ·omega
  ·split at h
   ·assumption
   ·omega
 ·rw [BO,wI]; simp
 ·rw [BO,BO]
  rcases Jl x.data.toList y.data.toList with h | h | h
  ·have h2:=zQ _ _ h
   have hne:¬y=x:=fun e=>by subst e; rw [wI] at h; cases h
   rw [if_pos h,h2]; simp [hne]
  ·have:=Dv h
   subst this
   rw [wI]; simp
  ·have h2:=zQ _ _ h
   have hne:¬x=y:=fun e=>by subst e; rw [wI] at h; cases h
   rw [if_pos h,h2]; simp [hne]
 ·rw [BO] at h1 h2 ⊢
  split at h1
  ·rename_i g1
   split at h2
   ·rename_i g2
    rw [if_pos (BN _ _ _ g1 g2)]; omega
   ·split at h2
    ·rename_i e; subst e; rw [if_pos g1]; omega
    ·omega
  ·split at h1
   ·rename_i e; subst e
    split at h2
    ·rename_i g2; rw [if_pos g2]; omega
    ·split at h2
     ·rename_i g e; rw [if_neg g,if_pos e]; omega
     ·omega
   ·omega
theorem Jn {α β:Type}{c:α→α→Int}{d:β→β→Int}(C:Ol c)(D:Ol d):Ol fun (p q:α × β)=>Gf (c p.1 q.1) (d p.2 q.2):=by
 refine⟨fun x y h=>?_,fun x=>?_,fun x y=>?_,fun x y z h1 h2=>?_⟩
 ·unfold Gf at h
  split at h
  ·rename_i h1; exact Prod.ext (C.zero _ _ h1) (D.zero _ _ h)
  ·exact absurd h ‹_›
 ·unfold Gf; rw [C.refl,if_pos rfl,D.refl]
 ·skip
  unfold Gf
  have:=C.neg x.1 y.1
  by_cases h:c x.1 y.1=0
  ·rw [if_pos h,if_pos (by omega),D.neg]
  ·rw [if_neg h,if_neg (by omega),C.neg]
 ·skip
  unfold Gf at *
  by_cases a:c x.1 y.1=0
  ·rw [if_pos a] at h1
   have e:=C.zero _ _ a
   rw [←e] at h2
   by_cases b:c x.1 z.1=0
   ·rw [if_pos b] at h2 ⊢; exact D.tr _ _ _ h1 h2
   ·rw [if_neg b] at h2 ⊢; exact h2
  ·rw [if_neg a] at h1
   have hz:c x.1 z.1≤0:=by
    by_cases b:c y.1 z.1=0
    ·rw [←C.zero _ _ b]; exact h1
    ·rw [if_neg b] at h2; exact C.tr _ _ _ h1 h2
   have hne:c x.1 z.1≠0:=fun e=>by
    have e1:=C.zero _ _ e
    by_cases b:c y.1 z.1=0
    ·have e2:=C.zero _ _ b; rw [e1,←e2] at a; exact a (C.refl _)
    ·rw [if_neg b,←e1] at h2
     have:=C.neg x.1 y.1; omega
   rw [if_neg hne]; exact hz
theorem ES:Ol fun (p q:Int × ByteArray)=>Gf (cI p.1 q.1) (cS p.2 q.2):=Jn nZ Jm
theorem ET:Ol fun (p q:ByteArray × Int)=>Gf (cS p.1 q.1) (cI p.2 q.2):=Jn Jm nZ
theorem mN {a b:ae}(h:a.kind=b.kind):cT a b=if a.kind=3 then Gf (cI a.args.length b.args.length) (cS a.label b.label) else Gf (cS a.label b.label) (cI a.int b.int):=by unfold cT; rw [if_pos h]
theorem kz {a b:ae}(h:a.kind≠b.kind):cT a b=cI a.kind b.kind:=by unfold cT; rw [if_neg h]
theorem jS (a b:ae):cT b a = - cT a b:=by
 by_cases h:a.kind=b.kind
 ·rw [mN h,mN h.symm,←h]
  split
  ·exact ES.neg ((a.args.length:Int),a.label) ((b.args.length:Int),b.label)
  ·exact ET.neg (a.label,a.int) (b.label,b.int)
 ·rw [kz h,kz (abZ h)]; exact nZ.neg _ _
theorem BP (a b c:ae)(h1:cT a b≤0)(h2:cT b c≤0):cT a c≤0:=by
 by_cases e1:a.kind=b.kind
 ·by_cases e2:b.kind=c.kind
  ·rw [mN e1] at h1
   rw [mN e2,←e1] at h2
   rw [mN (e1.trans e2)]
   split
   ·rename_i h3; rw [if_pos h3] at h1 h2
    exact ES.tr ((a.args.length:Int),a.label) ((b.args.length:Int),b.label) ((c.args.length:Int),c.label) h1 h2
   ·rename_i h3; rw [if_neg h3] at h1 h2
    exact ET.tr (a.label,a.int) (b.label,b.int) (c.label,c.int) h1 h2
  ·rw [kz e2] at h2
   rw [kz (by rw [e1]; exact e2),e1]; exact h2
 ·rw [kz e1] at h1
  by_cases e2:b.kind=c.kind
  ·rw [kz (by rw [←e2]; exact e1),←e2]; exact h1
  ·rw [kz e2] at h2
   have n1:cI a.kind b.kind≠0:=fun h=>e1 (nZ.zero _ _ h)
   have n2:cI b.kind c.kind≠0:=fun h=>e2 (nZ.zero _ _ h)
   by_cases e3:a.kind=c.kind
   ·rw [←e3] at h2
    have:=nZ.neg a.kind b.kind
    omega
   ·rw [kz e3]; exact nZ.tr _ _ _ h1 h2
structure Alike (a b:ae):Prop where
 kind:a.kind=b.kind
 int:a.int=b.int
 label:a.label=b.label
 len:a.args.length=b.args.length
theorem Alike.refl (a:ae):Alike a a:=⟨rfl,rfl,rfl,rfl⟩
theorem Alike.symm {a b:ae}(h:Alike a b):Alike b a:=⟨h.1.symm,h.2.symm,h.3.symm,h.4.symm⟩
theorem Alike.trans {a b c:ae}(h:Alike a b)(k:Alike b c):Alike a c:=⟨h.1.trans k.1,h.2.trans k.2,h.3.trans k.3,h.4.trans k.4⟩
theorem Alike.cT {a b:ae}(h:Alike a b):cT a b=0:=by
 rw [mN h.kind]
 split
 ·rw [h.len,h.label]; exact ES.refl ((b.args.length:Int),b.label)
 ·rw [h.label,h.int]; exact ET.refl (b.label,b.int)
theorem Jo {a b:ae}(h:cT a b=0)(ha:a.kind=3→a.int=0)(hb:b.kind=3→b.int=0)(Uc:a.kind≠3→a.args=[])(hb2:b.kind≠3→b.args=[]):Alike a b:=by
 by_cases e:a.kind=b.kind
 ·rw [mN e] at h
  split at h
  ·rename_i h3
   have:=ES.zero ((a.args.length:Int),a.label) ((b.args.length:Int),b.label) h
   simp only [aaJ] at this
   exact⟨e,by rw [ha h3,hb (by rw [←e]; exact h3)],this.2,by omega⟩
  ·rename_i h3
   have:=ET.zero (a.label,a.int) (b.label,b.int) h
   simp only [aaJ] at this
   exact⟨e,this.2,this.1,by rw [Uc h3,hb2 (by rw [←e]; exact h3)]⟩
 ·rw [kz e] at h
  exact absurd (nZ.zero _ _ h) e
theorem Om (l:List ae)(s:List Int):Ord (fun x y=>cT (nd l x) (nd l y)) s:=by
 refine⟨fun x _ y _ z _ h1 h2=>?_,fun x _ y _ h=>?_⟩
 ·skip
  have a1:=jS (nd l x) (nd l y)
  have a2:=jS (nd l y) (nd l z)
  have a3:=jS (nd l x) (nd l z)
  have:=BP (nd l x) (nd l y) (nd l z) (by omega) (by omega)
  omega
 ·skip
  have a1:=jS (nd l x) (nd l y)
  omega
end Go.Proofs.YtmekcfdllhphlaaGreatDoor
namespace Go.Proofs.YtmekcfdllhphlaaGreatDoor
open Go Go.R
open Go.IntKind (i64 u64 u8 u32)
structure Gq (l:List ae)(R:Nat→Nat→Prop):Prop where
 Ch:∀i j,R i j→i<l.length∧j<l.length
 top:∀i j,R i j→Alike (nd l i) (nd l j)
 arg:∀i j,R i j→∀k,k<(nd l i).args.length→R (gt (nd l i).args k).toNat (gt (nd l j).args k).toNat
structure Min (l:List ae)(r:List Int):Prop where
 len:r.length=l.length
 top:∀i j,i<l.length→j<l.length→gt r i=gt r j→Alike (nd l i) (nd l j)
 arg:∀i j,i<l.length→j<l.length→gt r i=gt r j→∀k,k<(nd l i).args.length→gt r (gt (nd l i).args k).toNat=gt r (gt (nd l j).args k).toNat
 max:∀R,Gq l R→∀i j,R i j→gt r i=gt r j
theorem uH (a:ae):cT a a=0:=(Alike.refl a).cT
theorem xl {a b c:ae}(h1:cT a b=0)(h2:cT b c=0):cT a c=0:=by
 have n1:=jS a b
 have n2:=jS b c
 have n3:=jS a c
 have t1:=BP a b c (by omega) (by omega)
 have t2:=BP c b a (by omega) (by omega)
 omega
theorem zR {l:List ae}{d:List Int}{k:Nat}:∀j,k≤j→rk l d k=rk l d j→cT (nd l (gt d k)) (nd l (gt d j))=0
 | 0,h,_=>by
   have:k=0:=by omega
   subst this; exact uH _
 | j+1,h,e=>by
  by_cases hk:k=j+1
  ·subst hk; exact uH _
  ·have m1:=zy l d k j (by omega)
   have e2:rk l d (j+1)=rk l d j+if cT (nd l (gt d j)) (nd l (gt d (j+1)))=0 then 0 else 1:=rfl
   by_cases hc:cT (nd l (gt d j)) (nd l (gt d (j+1)))=0
   ·rw [if_pos hc] at e2
    exact xl (zR j (by omega) (by omega)) hc
   ·rw [if_neg hc] at e2; omega
theorem zS {l:List ae}{d:List Int}{n:Nat}(S:Sg (fun x y=>cT (nd l x) (nd l y)) d 0 n){k q:Nat}(hq:q<n)(h0:cT (nd l (gt d k)) (nd l (gt d q))=0):∀j,k≤j→j≤q→rk l d j=rk l d k
 | 0,h,_=>by
   have:k=0:=by omega
   subst this; rfl
 | j+1,h,hj=>by
  by_cases hk:k=j+1
  ·subst hk; rfl
  ·have ih:=zS S hq h0 j (by omega) (by omega)
   have Y3:cT (nd l (gt d k)) (nd l (gt d j))≤0:=by
    by_cases e:k=j
    ·subst e; rw [uH]; omega
    ·have:0≤cT (nd l (gt d j)) (nd l (gt d k)):=S k j (by omega) (by omega) (by omega)
     have n:=jS (nd l (gt d k)) (nd l (gt d j))
     omega
   have Y4:cT (nd l (gt d (j+1))) (nd l (gt d q))≤0:=by
    by_cases e:j+1=q
    ·subst e; rw [uH]; omega
    ·have:0≤cT (nd l (gt d q)) (nd l (gt d (j+1))):=S (j+1) q (by omega) (by omega) hq
     have n:=jS (nd l (gt d (j+1))) (nd l (gt d q))
     omega
   have Y5:cT (nd l (gt d q)) (nd l (gt d k))≤0:=by have n:=jS (nd l (gt d k)) (nd l (gt d q)); omega
   have le4:=BP _ _ _ (BP _ _ _ Y4 Y5) Y3
   have s1:=S j (j+1) (by omega) (by omega) (by omega)
   have n:=jS (nd l (gt d j)) (nd l (gt d (j+1)))
   have hz:cT (nd l (gt d j)) (nd l (gt d (j+1)))=0:=by
    have s1:0≤cT (nd l (gt d (j+1))) (nd l (gt d j)):=s1
    omega
   show rk l d j+(if cT (nd l (gt d j)) (nd l (gt d (j+1)))=0 then 0 else 1)=_
   rw [if_pos hz,ih]; rfl
def Lq (l:List ae)(out:List Int):Prop:=(∀i j,i<l.length→j<l.length→gt out i=gt out j→cT (nd l i) (nd l j)=0)∧∀R,Gq l R→∀i j,R i j→gt out i=gt out j
theorem Gr {l:List ae}{d out:List Int}(hp:d.Perm (ints l.length))(hs:Ord (fun x y=>cT (nd l x) (nd l y)) (ints l.length)→Sg (fun x y=>cT (nd l x) (nd l y)) d 0 l.length)(hg:∀k,k<l.length→gt out (gt d k).toNat=rk l d k):Lq l out:=by
 have S:=hs (Om _ _)
 have TH:d.length=l.length:=by rw [hp.length_eq,eH]
 have pos:∀i,i<l.length→∃k,k<l.length∧gt d k=i∧gt out i=rk l d k:=fun i hi=>by
  obtain⟨k,hk,e⟩:=fL (hp.mem_iff.2 (jz.2 (show 0≤(i:Int)∧(i:Int)<l.length by omega)))
  have:=hg k (by omega)
  rw [e,aaH] at this
  exact⟨k,by omega,e,this⟩
 refine⟨fun i j hi hj e=>?_,fun R B i j hR=>?_⟩
 ·obtain⟨k,hk,ek,U1⟩:=pos i hi
  obtain⟨q,hq,eq,U2⟩:=pos j hj
  rw [U1,U2] at e
  rw [←ek,←eq]
  rcases Nat.le_total k q with h | h
  ·exact zR q h (by omega)
  ·have:=zR (l:=l) (d:=d) k h (by omega)
   have n:=jS (nd l (gt d k)) (nd l (gt d q))
   omega
 ·obtain⟨hi,hj⟩:=B.Ch i j hR
  obtain⟨k,hk,ek,U1⟩:=pos i hi
  obtain⟨q,hq,eq,U2⟩:=pos j hj
  have h0:=(B.top i j hR).cT
  rw [←ek,←eq] at h0
  rw [U1,U2]
  rcases Nat.le_total k q with h | h
  ·rw [zS S hq h0 q h (aaE _)]
  ·have n:=jS (nd l (gt d k)) (nd l (gt d q))
   rw [zS S hk (by omega) k h (aaE _)]
theorem Jp {l:List ae}(ok:mf l){out:List Int}{i j:Nat}(h1:(nd l i).args.length=(nd l j).args.length)(e:key out (nd l i) i=key out (nd l j) j):gt out i=gt out j∧∀k,k<(nd l i).args.length→gt out (gt (nd l i).args k).toNat=gt out (gt (nd l j).args k).toNat:=by
 unfold key at e
 have e1:=List.cons.inj e
 refine⟨by omega,fun k hk=>?_⟩
 have e2:=e1.2
 rw [h1] at e2
 have e3:=List.append_cancel_right e2
 have e4:=congrArg (fun z=>z[k]?) e3
 simp only [abi] at e4
 rw [bL hk,bL (by omega)] at e4
 simp only [aaG,aaD] at e4
 omega
theorem Jq {l:List ae}(ok:mf l)(out:List Int)(many:Nat)(ks:List (List Int))(next:List Int)(P:Part l.length out many)(I:Lq l out)(K:sn l out l.length ks)(hn:next.length=l.length)
  (hg:∀i,i<l.length→gt next i=(ks.idxOf (key out (nd l i) i):Int)):Lq l next:=by
 refine⟨fun i j hi hj e=>?_,fun R B i j hR=>?_⟩
 ·rw [hg i hi,hg j hj] at e
  have e:ks.idxOf (key out (nd l i) i)=ks.idxOf (key out (nd l j) j):=by omega
  have m1:=abU ((K.mem _).2 ⟨i,hi,rfl⟩)
  have m2:=abU ((K.mem _).2 ⟨j,hj,rfl⟩)
  have g1:=List.getElem_idxOf m1
  have g2:=List.getElem_idxOf m2
  have g3:key out (nd l i) i=key out (nd l j) j:=by rw [←g1,←g2]; congr 1
  exact I.1 i j hi hj (by have:=(List.cons.inj g3).1; omega)
 ·obtain⟨hi,hj⟩:=B.Ch i j hR
  rw [hg i hi,hg j hj]
  have hk:key out (nd l i) i=key out (nd l j) j:=by
   have hl:=(B.top i j hR).len
   unfold key
   rw [I.2 R B i j hR,hl]
   congr 2
   apply abF fun k=>?_
   simp only [abi]
   by_cases h:k<(nd l i).args.length
   ·rw [bL h,bL (by omega)]
    simp only [aaG,aaD]
    rw [I.2 R B _ _ (B.arg i j hR k h)]
   ·rw [aa1 (by omega),aa1 (by omega)]
  rw [hk]
theorem On {l:List ae}{r:List Int}{many:Nat}{ks:List (List Int)}(P:Part l.length r many)(K:sn l r l.length ks)(CB:ks.length=many+1){i j:Nat}(hi:i<l.length)(hj:j<l.length)(e:gt r i=gt r j):key r (nd l i) i=key r (nd l j) j:=by
 by_cases hne:key r (nd l i) i=key r (nd l j) j
 ·exact hne
 ·exfalso
  have Y6:=(K.mem _).2 ⟨i,hi,rfl⟩
  have Y7:=(K.mem _).2 ⟨j,hj,rfl⟩
  have hn:((List.range (many+1)).map fun v:Nat=>((v:Int)+1)).Nodup:=by
   unfold List.Nodup
   rw [List.pairwise_map]
   exact List.Pairwise.imp (fun h=>by omega) List.nodup_range
  have:=hn.length_le_of_subset (l₂:=(ks.erase (key r (nd l j) j)).map fun k=>k.headD 0) (fun x hx=>by
   obtain⟨v,hv,rfl⟩:=aba.1 hx
   obtain⟨q,hq,h⟩:=P.Wy v (by have:=List.mem_range.1 hv; omega)
   by_cases J6:key r (nd l q) q=key r (nd l j) j
   ·refine aba.2 ⟨key r (nd l i) i,(List.mem_erase_of_ne hne).2 Y6,?_⟩
    have h1:=(List.cons.inj J6).1
    simp [key,e]
    omega
   ·exact aba.2 ⟨_,(List.mem_erase_of_ne J6).2 ((K.mem _).2 ⟨q,hq,rfl⟩),by simp [key,h]⟩)
  rw [aaX,aaX,List.length_range,List.length_erase_of_mem Y7] at this
  omega
theorem yx {l:List ae}(hT:∀n∈l,EK n){i j:Nat}(hi:i<l.length)(hj:j<l.length)(h:cT (nd l i) (nd l j)=0):Alike (nd l i) (nd l j):=by
 have Ti:=hT _ (iN (i:=(i:Int)) (by omega) (by omega))
 have Tj:=hT _ (iN (i:=(j:Int)) (by omega) (by omega))
 have a3:∀{n:ae},EK n→n.kind=3→n.int=0:=fun T h=>by rcases T.kind with z | z | z | z | z<;>(have:=z.1; first | omega | exact z.2)
 have a0:∀{n:ae},EK n→n.kind≠3→n.args=[]:=fun T h=>by
  rcases T.kind with z | z | z | z | z
  ·exact z.2.2.2
  ·exact z.2.2.2
  ·exact z.2.2
  ·exact absurd z.1 h
  ·exact z.2
 exact Jo h (a3 Ti) (a3 Tj) (a0 Ti) (a0 Tj)
theorem Dw {m:Nat}(hm:2 ^ 41≤m){t:ak}(h:kl t=true) :
  ∃cls ns,fm.f m t=some ⟨ns,0⟩∧Min t.nodes cls∧Ps cls t.nodes [] (vZ cls t.nodes m t.root []) [] ns∧jb cls t.root∈(vZ cls t.nodes m t.root []).map (jb cls):=by
 obtain⟨ok,h1,r0,r1,hT⟩:=su h
 obtain⟨cls,many,ks,ns,e,P,I,K,CB,Q,hr⟩:=we hm ok h1 r0 r1 (Lq t.nodes) (fun d out hp hs hg=>Gr hp hs hg) (fun out many ks next P I K hn hg=>Jq ok out many ks next P I K hn hg)
 refine⟨cls,ns,e,⟨P.len,fun i j hi hj e=>yx hT hi hj (I.1 i j hi hj e),fun i j hi hj e k hk=>?_,I.2⟩,Q,hr⟩
 have hA:=yx hT hi hj (I.1 i j hi hj e)
 exact (Jp ok hA.len (On P K CB hi hj e)).2 k hk
end Go.Proofs.YtmekcfdllhphlaaGreatDoor
namespace Go.Proofs.YtmekcfdllhphlaaGreatDoor
open Go Go.R
open Go.IntKind (i64 u64 u8 u32)
def gb (l:List Bool)(k:Nat):Bool:=l.getD k false
theorem Lr {l:List Bool}{k:Nat}(h:k<l.length):l[k]? = some (gb l k):=by
 unfold gb; rw [aaW,aaL h]; rfl
theorem EU {l:List Bool}{i:Int}(h0:0≤i)(h:i.toNat<l.length):ix l i=some (gb l i.toNat):=by
 unfold ix; rw [if_pos h0,Lr h]
theorem Jr {l:List Bool}{i k:Nat}{x:Bool}(hi:i<l.length):gb (l.set i x) k=if k=i then x else gb l k:=by
 unfold gb
 simp only [aaW,ab5]
 by_cases h:i=k
 ·subst h; simp [hi]
 ·rw [if_neg h,if_neg (by omega)]
def ar (l:List ae)(i k:Nat):Nat:=(gt (nd l i).args k).toNat
def na (l:List ae)(i:Nat):Nat:=(nd l i).args.length
theorem lq {l:List ae}(ok:mf l){i k:Nat}(hi:i<l.length)(hk:k<na l i):ar l i k<l.length∧gt (nd l i).args k=(ar l i k:Int):=by
 obtain⟨h0,h1⟩:=(Bf ok hi).2 _ (a8 (l:=(nd l i).args) (k:=k) hk)
 unfold ar; omega
theorem EV {l:List ae}(ok:mf l){i:Nat}(hi:i<l.length):na l i≤8:=(Bf ok hi).1
theorem wJ {m:Nat}(a b:ae):∃x,fS.f m a b=some x∧(x=true↔Alike a b):=by
 unfold fS.f
 by_cases h1:a.kind=b.kind
 ·rw [if_pos (by simpa using h1)]
  by_cases h2:a.int=b.int
  ·rw [if_pos (by simpa using h2)]
   by_cases h3:a.label=b.label
   ·rw [if_pos (by rw [h3]; simp)]
    refine⟨_,rfl,⟨fun h=>⟨h1,h2,h3,by have:=beq_iff_eq.1 h; omega⟩,fun h=>by have:=h.len; rw [beq_iff_eq]; omega⟩⟩
   ·rw [if_neg (fun h=>h3 (Dv (by simpa using h)))]
    exact⟨_,rfl,⟨fun h=>(by cases h),fun h=>absurd h.label h3⟩⟩
  ·rw [if_neg (by simpa using h2)]
   exact⟨_,rfl,⟨fun h=>(by cases h),fun h=>absurd h.int h2⟩⟩
 ·rw [if_neg (by simpa using h1)]
  exact⟨_,rfl,⟨fun h=>(by cases h),fun h=>absurd h.kind h1⟩⟩
def SA (l:List ae)(c:List Int)(i j:Nat):Prop:=∀k,k<na l i→gt c (ar l i k)=gt c (ar l j k)
theorem Mr {m:Nat}{l:List ae}{c:List Int}(ok:mf l)(hc:c.length=l.length){i j:Nat}(hi:i<l.length)(hj:j<l.length)(hl:na l i=na l j):∀(f k:Nat),na l i - k<f→k≤na l i→
  ∃o,bF.l0 m (nd l i) (nd l j) c f (k:Int)=some o∧((∃x,o = .inr x)∧(∀q,k≤q→q<na l i→gt c (ar l i q)=gt c (ar l j q))∨o = .inl false∧∃q,q<na l i∧gt c (ar l i q)≠gt c (ar l j q))
 | 0,k,hf,_=>absurd hf (by omega)
 | f+1,k,hf,hk=>by
  have h8:=EV ok hi
  unfold bF.l0
  by_cases h:k<na l i
  ·obtain⟨a1,a2⟩:=lq ok hi h
   obtain⟨b1,b2⟩:=lq ok hj (show k<na l j by omega)
   have e1:ix c (gt (nd l i).args k)=some (gt c (ar l i k)):=gX a2 (by omega)
   have e2:ix c (gt (nd l j).args k)=some (gt c (ar l j k)):=gX b2 (by omega)
   rw [if_pos (by simp only [decide_eq_true_eq]; unfold na at h; omega),db (l:=(nd l i).args) h,aaA,e1,aaA,db (l:=(nd l j).args) (show k<(nd l j).args.length by unfold na at hl h; omega),aaA,e2,aaA]
   by_cases e:gt c (ar l i k)=gt c (ar l j k)
   ·obtain⟨o,k1,k2⟩:=Mr (m:=m) ok hc hi hj hl f (k+1) (by omega) (by omega)
    rw [if_neg (by simp [e]),ay (by omega) (by omega),show (k:Int)+1=((k+1:Nat):Int) by omega,k1]
    refine⟨o,rfl,k2.imp (fun ⟨x,y⟩=>⟨x,fun q q1 q2=>?_⟩) id⟩
    by_cases hq:q=k
    ·subst hq; exact e
    ·exact y q (by omega) q2
   ·rw [if_pos (by simpa using e)]
    exact⟨_,rfl,.inr ⟨rfl,k,h,e⟩⟩
  ·refine⟨_,by rw [if_neg (by simp only [decide_eq_true_eq]; unfold na at h; omega)],.inl ⟨⟨_,rfl⟩,fun q q1 q2=>absurd q2 (by omega)⟩⟩
theorem EW {m:Nat}(hm:2 ^ 30≤m){l:List ae}{c:List Int}(ok:mf l)(hc:c.length=l.length){i j:Nat}(hi:i<l.length)(hj:j<l.length)(hl:na l i=na l j):∃x,bF.f m (nd l i) (nd l j) c=some x∧(x=true↔SA l c i j):=by
 have kV:(2:Nat) ^ 30=1073741824:=by decide
 have h8:=EV ok hi
 obtain⟨o,k1,k2⟩:=Mr (m:=m) ok hc hi hj hl m 0 (by omega) (by omega)
 have k1:bF.l0 m (nd l i) (nd l j) c m 0=_:=k1
 unfold bF.f
 rw [k1,aaA]
 rcases k2 with⟨⟨x,rfl⟩,k⟩| ⟨rfl,q,q1,q2⟩
 ·exact⟨true,rfl,⟨fun _ k0 hk=>k k0 (by omega) hk,fun _=>rfl⟩⟩
 ·exact⟨false,rfl,⟨fun h=>(by cases h),fun h=>absurd (h q q1) q2⟩⟩
def Xc (l:List ae)(dn:List Bool)(i:Nat):Prop:=∀k,k<na l i→gb dn (ar l i k)=true
theorem Js {m:Nat}{l:List ae}{dn:List Bool}(ok:mf l)(hd:dn.length=l.length){i:Nat}(hi:i<l.length):∀(f k:Nat),na l i - k<f→k≤na l i→
  ∃o,cC.l0 m (nd l i) dn f (k:Int)=some o∧((∃x,o = .inr x)∧(∀q,k≤q→q<na l i→gb dn (ar l i q)=true)∨o = .inl false∧∃q,q<na l i∧gb dn (ar l i q)=false)
 | 0,k,hf,_=>absurd hf (by omega)
 | f+1,k,hf,hk=>by
  have h8:=EV ok hi
  unfold cC.l0
  by_cases h:k<na l i
  ·obtain⟨a1,a2⟩:=lq ok hi h
   have e1:ix dn (gt (nd l i).args k)=some (gb dn (ar l i k)):=by
    have:=EU (l:=dn) (i:=gt (nd l i).args k) (by omega) (by rw [a2,aaH]; omega)
    rw [this,a2,aaH]
   rw [if_pos (by simp only [decide_eq_true_eq]; unfold na at h; omega),db (l:=(nd l i).args) h,aaA,e1,aaA]
   cases e:gb dn (ar l i k) with
   | true=>
    obtain⟨o,k1,k2⟩:=Js (m:=m) ok hd hi f (k+1) (by omega) (by omega)
    rw [if_neg (by simp),ay (by omega) (by omega),show (k:Int)+1=((k+1:Nat):Int) by omega,k1]
    refine⟨o,rfl,k2.imp (fun ⟨x,y⟩=>⟨x,fun q q1 q2=>?_⟩) id⟩
    by_cases hq:q=k
    ·subst hq; exact e
    ·exact y q (by omega) q2
   | false=>exact⟨_,rfl,.inr ⟨rfl,k,h,e⟩⟩
  ·refine⟨_,by rw [if_neg (by simp only [decide_eq_true_eq]; unfold na at h; omega)],.inl ⟨⟨_,rfl⟩,fun q q1 q2=>absurd q2 (by omega)⟩⟩
theorem Jt {m:Nat}(hm:2 ^ 30≤m){l:List ae}{dn:List Bool}(ok:mf l)(hd:dn.length=l.length){i:Nat}(hi:i<l.length):∃x,cC.f m (nd l i) dn=some x∧(x=true→Xc l dn i)∧(x=false→∃q,q<na l i∧gb dn (ar l i q)=false):=by
 have kV:(2:Nat) ^ 30=1073741824:=by decide
 have h8:=EV ok hi
 obtain⟨o,k1,k2⟩:=Js (m:=m) ok hd hi m 0 (by omega) (by omega)
 have k1:cC.l0 m (nd l i) dn m 0=_:=k1
 unfold cC.f
 rw [k1,aaA]
 rcases k2 with⟨⟨x,rfl⟩,k⟩| ⟨rfl,hq⟩
 ·exact⟨true,rfl,fun _ k0 hk=>k k0 (by omega) hk,fun h=>by cases h⟩
 ·exact⟨false,rfl,fun h=>(by cases h),fun _=>hq⟩
def tt (l:List ae)(c:List Int)(i j:Nat):Prop:=Alike (nd l i) (nd l j)∧SA l c i j
theorem EX {m:Nat}(hm:2 ^ 30≤m){l:List ae}{c fs:List Int}(ok:mf l)(hc:c.length=l.length){i:Nat}(hi:i<l.length)(hf:∀f∈fs,0≤f∧f<l.length)(Nj:fs.length≤8000):∀(f k:Nat),fs.length - k<f→k≤fs.length→
  ∃o,cH.l0 m l fs (i:Int) c f (k:Int)=some o∧((∃x,o = .inr x)∧(∀q,k≤q→q<fs.length→¬tt l c i (gt fs q).toNat)∨∃v,o = .inl v∧v∈fs∧tt l c i v.toNat)
 | 0,k,h,_=>absurd h (by omega)
 | f+1,k,h,hk=>by
  unfold cH.l0
  by_cases Kj:k<fs.length
  ·obtain⟨b0,b1⟩:=hf _ (a8 Kj)
   have Rs:((gt fs k).toNat:Int)=gt fs k:=by omega
   obtain⟨xa,a1,a2⟩:=wJ (m:=m) (nd l (i:Int)) (nd l (gt fs k))
   have ih:=EX hm ok hc hi hf Nj f (k+1) (by omega) (by omega)
   obtain⟨o,k1,k2⟩:=ih
   have next:¬tt l c i (gt fs k).toNat→∃o',(cH.l0 m l fs (i:Int) c f (i64.wrap ((k:Int)+1)))=some o'∧((∃x,o' = .inr x)∧(∀q,k≤q→q<fs.length→¬tt l c i (gt fs q).toNat)∨∃v,o' = .inl v∧v∈fs∧tt l c i v.toNat):=fun hn=>by
    rw [ay (by omega) (by omega),show (k:Int)+1=((k+1:Nat):Int) by omega,k1]
    refine⟨o,rfl,k2.imp (fun ⟨x,y⟩=>⟨x,fun q q1 q2=>?_⟩) id⟩
    by_cases hq:q=k
    ·subst hq; exact hn
    ·exact y q (by omega) q2
   rw [if_pos (by simp only [decide_eq_true_eq]; omega),iT (by omega) (by omega),aaA,db Kj,aaA,iT b0 b1,aaA,a1,aaA]
   cases xa with
   | false=>
    rw [if_neg (by simp)]
    refine next fun hs=>?_
    have:=a2.2 (by have:=hs.1; rw [Rs] at this; exact this)
    cases this
   | true=>
    have hA:=a2.1 rfl
    have hl:na l i=na l (gt fs k).toNat:=by unfold na; rw [Rs]; exact hA.len
    obtain⟨xs,s1,s2⟩:=EW hm ok hc hi (j:=(gt fs k).toNat) (by omega) hl
    rw [Rs] at s1
    rw [if_pos rfl,aaA,aaA,iT b0 b1,aaA,s1,aaA]
    cases xs with
    | false=>
     rw [if_neg (by simp)]
     refine next fun hs=>?_
     have:=s2.2 hs.2; cases this
    | true=>
     exact⟨_,rfl,.inr ⟨_,rfl,a8 Kj,by rw [Rs]; exact hA,s2.1 rfl⟩⟩
  ·exact⟨_,by rw [if_neg (by simp only [decide_eq_true_eq]; omega)],.inl ⟨⟨_,rfl⟩,fun q q1 q2=>absurd q2 (by omega)⟩⟩
theorem find_spec {m:Nat}(hm:2 ^ 30≤m){l:List ae}{c fs:List Int}(ok:mf l)(hc:c.length=l.length){i:Nat}(hi:i<l.length)(hf:∀f∈fs,0≤f∧f<l.length)(Nj:fs.length≤8000) :
  ∃v,cH.f m l fs (i:Int) c=some v∧(v=i∧(∀f∈fs,¬tt l c i f.toNat)∨v∈fs∧tt l c i v.toNat):=by
 have kV:(2:Nat) ^ 30=1073741824:=by decide
 obtain⟨o,k1,k2⟩:=EX hm ok hc hi hf Nj m 0 (by omega) (by omega)
 have k1:cH.l0 m l fs (i:Int) c m 0=_:=k1
 unfold cH.f
 rw [k1,aaA]
 rcases k2 with⟨⟨x,rfl⟩,k⟩| ⟨v,rfl,hv,hs⟩
 ·refine⟨_,rfl,.inl ⟨rfl,fun f hf=>?_⟩⟩
  obtain⟨q,hq,e⟩:=fL hf
  rw [←e]; exact k q (by omega) hq
 ·exact⟨v,rfl,.inr ⟨hv,hs⟩⟩
end Go.Proofs.YtmekcfdllhphlaaGreatDoor
namespace Go.Proofs.YtmekcfdllhphlaaGreatDoor
open Go Go.R
open Go.IntKind (i64 u64 u8 u32)
theorem tt.refl {l:List ae}{c:List Int}(i:Nat):tt l c i i:=⟨Alike.refl _,fun _ _=>rfl⟩
theorem tt.symm {l:List ae}{c:List Int}{i j:Nat}(h:tt l c i j):tt l c j i:=⟨h.1.symm,fun k hk=>(h.2 k (by have:=h.1.len; unfold na at *; omega)).symm⟩
theorem tt.trans {l:List ae}{c:List Int}{i j q:Nat}(h:tt l c i j)(g:tt l c j q):tt l c i q:=
 ⟨h.1.trans g.1,fun k hk=>(h.2 k hk).trans (g.2 k (by have:=h.1.len; unfold na at *; omega))⟩
theorem Gq.symm {l:List ae}{R:Nat→Nat→Prop}(B:Gq l R):Gq l fun i j=>R j i:=
 ⟨fun i j h=>(B.Ch j i h).symm,fun i j h=>(B.top j i h).symm,fun i j h k hk=>B.arg j i h k (by have:=(B.top j i h).len; omega)⟩
structure Kd (l:List ae)(cls:List Int)(dn:List Bool)(fs od:List Int):Prop where
 lc:cls.length=l.length
 ld:dn.length=l.length
 U3:od.Nodup
 Oo:∀x∈od,0≤x∧x<l.length
 Ke:∀i,i<l.length→(gb dn i=true↔(i:Int)∈od)
 xm:∀i:Nat,(i:Int)∈od→∀k,k<na l i→((ar l i k:Nat):Int)∈od∧od.idxOf ((ar l i k:Nat):Int)<od.idxOf (i:Int)
 Sh:fs.Nodup
 fst:∀f∈fs,f∈od∧gt cls f.toNat=f
 rI:∀i:Nat,(i:Int)∈od→gt cls i∈fs∧tt l cls i (gt cls i).toNat
 apart:∀f∈fs,∀g∈fs,tt l cls f.toNat g.toNat→f=g
 coarse:∀R,Gq l R→∀i j:Nat,R i j→(i:Int)∈od→(j:Int)∈od→gt cls i=gt cls j
theorem EY {od:List Int}{n:Nat}(h:od.Nodup)(hr:∀x∈od,0≤x∧x<n):od.length≤n:=by
 have:=h.length_le_of_subset (l₂:=ints n) (fun x hx=>jz.2 (hr x hx))
 rwa [eH] at this
theorem Kd.U4 {l cls dn fs od}(P:Kd l cls dn fs od):∀f∈fs,0≤f∧f<l.length:=fun f hf=>P.Oo f (P.fst f hf).1
theorem Ju {l:List ae}{cls:List Int}{dn:List Bool}{fs od:List Int}(ok:mf l)(P:Kd l cls dn fs od){i:Nat}(hi:i<l.length)(hn:(i:Int)∉od)(hr:Xc l dn i){v:Int}
  (hv:v=i∧(∀f∈fs,¬tt l cls i f.toNat)∨v∈fs∧tt l cls i v.toNat) :
  Kd l (cls.set i v) (dn.set i true) (if v=i then fs++[(i:Int)] else fs) (od++[(i:Int)]):=by
 have Xd:(i:Int)∉fs:=fun h=>hn (P.fst _ h).1
 have Pd:v∈fs→v≠i:=fun h e=>Xd (e ▸ h)
 have gc:∀x,x≠i→gt (cls.set i v) x=gt cls x:=fun x hx=>by rw [fj (by rw [P.lc]; exact hi),if_neg hx]
 have gi:gt (cls.set i v) i=v:=by rw [fj (by rw [P.lc]; exact hi),if_pos rfl]
 have ne:∀{x:Nat},(x:Int)∈od→x≠i:=fun h e=>hn (by rw [←e]; exact h)
 have ad:∀x:Nat,((x:Int)∈od∨x=i)→∀k,k<na l x→((ar l x k:Nat):Int)∈od:=fun x hx k hk=>by
  rcases hx with hx | rfl
  ·exact (P.xm x hx k hk).1
  ·exact (P.Ke _ (lq ok hi hk).1).1 (hr k hk)
 have sm:∀x y:Nat,((x:Int)∈od∨x=i)→((y:Int)∈od∨y=i)→(tt l (cls.set i v) x y↔tt l cls x y):=fun x y hx hy=>by
  constructor
  ·rintro⟨a,b⟩
   refine⟨a,fun k hk=>?_⟩
   have:=b k hk
   rwa [gc _ (ne (ad x hx k hk)),gc _ (ne (ad y hy k (by have:=a.len; unfold na at *; omega)))] at this
  ·rintro⟨a,b⟩
   refine⟨a,fun k hk=>?_⟩
   rw [gc _ (ne (ad x hx k hk)),gc _ (ne (ad y hy k (by have:=a.len; unfold na at *; omega)))]
   exact b k hk
 have fo:∀f∈fs,((f.toNat:Nat):Int)∈od∧((f.toNat:Nat):Int)=f:=fun f hf=>by
  have h:=P.fst f hf
  have r:=P.Oo f h.1
  have e:((f.toNat:Nat):Int)=f:=by omega
  exact⟨by rw [e]; exact h.1,e⟩
 have split:∀{x:Int},x∈od++[(i:Int)]→x∈od∨x=i:=fun h=>by
  rcases aaQ.1 h with h | h
  ·exact .inl h
  ·exact .inr (aaO.1 h)
 have one:∀R,Gq l R→∀j:Nat,R i j→(j:Int)∈od→v=gt cls j:=fun R B j hR hj=>by
  obtain⟨g1,g2⟩:=P.rI j hj
  have s1:tt l cls i j:=⟨B.top i j hR,fun k hk=>P.coarse R B _ _ (B.arg i j hR k hk) (ad i (.inr rfl) k hk) (ad j (.inl hj) k (by have:=(B.top i j hR).len; unfold na at *; omega))⟩
  rcases hv with⟨rfl,h⟩| ⟨h1,h2⟩
  ·exact absurd (s1.trans g2) (h _ g1)
  ·exact P.apart v h1 _ g1 (h2.symm.trans (s1.trans g2))
 refine⟨by simpa using P.lc,by simpa using P.ld,?_,?_,fun x hx=>?_,fun x hx k hk=>?_,?_,fun f hf=>?_,fun x hx=>?_,fun f hf g hg hs=>?_,fun R B x y hR hx hy=>?_⟩
 ·rw [abT]
  refine⟨P.U3,by simp,fun a ha b hb=>?_⟩
  rw [aaO] at hb
  subst hb; intro e; subst e; exact hn ha
 ·intro x hx
  rcases split hx with h | h
  ·exact P.Oo x h
  ·omega
 ·rw [Jr (by rw [P.ld]; exact hi),aaQ,aaO]
  by_cases e:x=i
  ·subst e; simp
  ·rw [if_neg e,P.Ke x hx]
   constructor
   ·exact fun h=>.inl h
   ·rintro (h | h)
    ·exact h
    ·omega
 ·rcases split hx with h | h
  ·obtain⟨r1,r2⟩:=P.xm x h k hk
   refine⟨abo _ r1,?_⟩
   rw [abS,if_pos r1,abS,if_pos h]; exact r2
  ·have e:x=i:=by omega
   subst e
   have r1:=ad x (.inr rfl) k hk
   refine⟨abo _ r1,?_⟩
   rw [abS,if_pos r1,abS,if_neg hn]
   have:=abU r1
   omega
 ·split
  ·rw [abT]
   refine⟨P.Sh,by simp,fun a ha b hb=>?_⟩
   rw [aaO] at hb
   subst hb; intro e; subst e; exact Xd ha
  ·exact P.Sh
 ·have PI:f∈fs∨(f=i∧v=i):=by
   split at hf
   ·rcases aaQ.1 hf with h | h
    ·exact .inl h
    ·exact .inr ⟨aaO.1 h,by assumption⟩
   ·exact .inl hf
  rcases PI with h | ⟨rfl,h2⟩
  ·obtain⟨a,b⟩:=P.fst f h
   refine⟨abo _ a,?_⟩
   rw [gc _ (by have:=(fo f h).1; exact ne this)]; exact b
  ·refine⟨by simp,?_⟩
   rw [aaH,gi]; exact h2
 ·have Xe:∀z∈fs,z∈(if v=(i:Int) then fs++[(i:Int)] else fs):=fun z hz=>by
   split
   ·exact abo _ hz
   ·exact hz
  rcases split hx with h | h
  ·obtain⟨a,b⟩:=P.rI x h
   rw [gc x (ne h)]
   exact⟨Xe _ a,(sm x _ (.inl h) (.inl (fo _ a).1)).2 b⟩
  ·have e:x=i:=by omega
   subst e
   rw [gi]
   rcases hv with⟨rfl,_⟩| ⟨h1,h2⟩
   ·rw [if_pos rfl,aaH]
    exact⟨by simp,tt.refl _⟩
   ·exact⟨Xe _ h1,(sm x _ (.inr rfl) (.inl (fo _ h1).1)).2 h2⟩
 ·have cs:∀z,z∈(if v=(i:Int) then fs++[(i:Int)] else fs)→z∈fs∨(z=i∧v=i):=fun z hz=>by
   split at hz
   ·rcases aaQ.1 hz with h | h
    ·exact .inl h
    ·exact .inr ⟨aaO.1 h,by assumption⟩
   ·exact .inl hz
  have Xf:v=i→∀f∈fs,¬tt l cls i f.toNat:=fun e f hf=>by
   rcases hv with⟨_,h⟩| ⟨h,_⟩
   ·exact h f hf
   ·exact absurd e (Pd h)
  rcases cs f hf with h1 | ⟨rfl,e1⟩
  ·rcases cs g hg with h2 | ⟨rfl,e2⟩
   ·exact P.apart f h1 g h2 ((sm _ _ (.inl (fo f h1).1) (.inl (fo g h2).1)).1 hs)
   ·rw [aaH] at hs
    have:=(sm _ _ (.inl (fo f h1).1) (.inr rfl)).1 hs
    exact absurd this.symm (Xf e2 f h1)
  ·rcases cs g hg with h2 | ⟨rfl,e2⟩
   ·rw [aaH] at hs
    have:=(sm _ _ (.inr rfl) (.inl (fo g h2).1)).1 hs
    exact absurd this (Xf e1 g h2)
   ·rfl
 ·rcases split hx with h1 | h1
  ·rcases split hy with h2 | h2
   ·rw [gc x (ne h1),gc y (ne h2)]; exact P.coarse R B x y hR h1 h2
   ·have e:y=i:=by omega
    subst e
    rw [gc x (ne h1),gi]
    exact (one _ B.symm x hR h1).symm
  ·have e:x=i:=by omega
   subst e
   rcases split hy with h2 | h2
   ·rw [gc y (ne h2),gi]; exact one R B y hR h2
   ·have e:y=x:=by omega
    subst e; rfl
theorem zT {m:Nat}(hm:2 ^ 30≤m){l:List ae}(ok:mf l):∀(f i:Nat) (cls:List Int) (dn:List Bool) (fs od:List Int) (more:Bool),i<f→i≤l.length→Kd l cls dn fs od→
  ∃kn BQ BR jj x wU,ai.l1 m l f cls dn fs more ((i:Int) - 1)=some (kn,BQ,BR,jj,x)∧Kd l kn BQ BR wU∧od.length≤wU.length∧
   (jj=true→more=true∨od.length<wU.length)∧(jj=false→more=false∧wU=od∧∀j,j<i→(j:Int)∉od→∃k,k<na l j∧((ar l j k:Nat):Int)∉od)
 | 0,i,_,_,_,_,_,hf,_,_=>absurd hf (by omega)
 | f+1,0,cls,dn,fs,od,more,hf,hi,P=>by
  unfold ai.l1
  rw [if_neg (by simp)]
  exact⟨cls,dn,fs,more,_,od,rfl,P,aaE _,fun h=>.inl h,fun h=>⟨h,rfl,fun j hj=>absurd hj (by omega)⟩⟩
 | f+1,i+1,cls,dn,fs,od,more,hf,hi,P=>by
  have kV:(2:Nat) ^ 30=1073741824:=by decide
  have h8:=ok.1
  have CK:i<l.length:=by omega
  unfold ai.l1
  have ei:((i+1:Nat):Int) - 1=(i:Int):=by omega
  have ew:i64.wrap ((i:Int) - 1)=(i:Int) - 1:=ay (by omega) (by omega)
  have hgb:ix dn (i:Int)=some (gb dn i):=by
   have:=EU (l:=dn) (i:=(i:Int)) (by omega) (by rw [aaH,P.ld]; exact CK)
   rwa [aaH] at this
  rw [ei,ew,if_pos (by simp),hgb,aaA]
  cases hd:gb dn i with
  | true=>
   rw [if_pos rfl]
   obtain⟨kn,BQ,BR,jj,x,wU,k1,k2,k3,k4,k5⟩:=zT hm ok f i cls dn fs od more (by omega) (by omega) P
   refine⟨kn,BQ,BR,jj,x,wU,k1,k2,k3,k4,fun h=>?_⟩
   obtain⟨q1,q2,q3⟩:=k5 h
   refine⟨q1,q2,fun j hj hn=>?_⟩
   by_cases e:j=i
   ·subst e; exact absurd ((P.Ke j CK).1 hd) hn
   ·exact q3 j (by omega) hn
  | false=>
   have GP:(i:Int)∉od:=fun h=>by rw [(P.Ke i CK).2 h] at hd; cases hd
   obtain⟨xr,r1,r2,r3⟩:=Jt hm ok P.ld CK
   rw [if_neg (by simp),iT (by omega) (by omega),aaA,r1,aaA]
   cases xr with
   | false=>
    rw [if_pos (by simp)]
    obtain⟨kn,BQ,BR,jj,x,wU,k1,k2,k3,k4,k5⟩:=zT hm ok f i cls dn fs od more (by omega) (by omega) P
    refine⟨kn,BQ,BR,jj,x,wU,k1,k2,k3,k4,fun h=>?_⟩
    obtain⟨q1,q2,q3⟩:=k5 h
    refine⟨q1,q2,fun j hj hn=>?_⟩
    by_cases e:j=i
    ·subst e
     obtain⟨k,g1,g2⟩:=r3 rfl
     exact⟨k,g1,fun h=>by rw [(P.Ke _ (lq ok CK g1).1).2 h] at g2; cases g2⟩
    ·exact q3 j (by omega) hn
   | true=>
    have Nj:fs.length≤8000:=abj (EY P.Sh P.U4) h8
    obtain⟨v,f1,f2⟩:=find_spec hm ok P.lc CK P.U4 Nj
    have P':=Ju ok P CK GP (r2 rfl) f2
    have hlen:(od++[(i:Int)]).length=od.length+1:=by simp
    have e2:ix cls (i:Int)=some (gt cls i):=db (by rw [P.lc]; exact CK)
    have e3:ix (cls.set i v) (i:Int)=some v:=by
     rw [db (by simpa using (by rw [P.lc]; exact CK)),fj (by rw [P.lc]; exact CK),if_pos rfl]
    have rest:∀Si,Kd l (cls.set i v) (dn.set i true) Si (od++[(i:Int)])→∃kn BQ BR jj x wU,ai.l1 m l f (cls.set i v) (dn.set i true) Si true ((i:Int) - 1)=some (kn,BQ,BR,jj,x)∧Kd l kn BQ BR wU∧od.length≤wU.length∧
      (jj=true→more=true∨od.length<wU.length)∧(jj=false→more=false∧wU=od∧∀j,j<i+1→(j:Int)∉od→∃k,k<na l j∧((ar l j k:Nat):Int)∉od):=fun Si P2=>by
     obtain⟨kn,BQ,BR,jj,x,wU,k1,k2,k3,k4,k5⟩:=zT hm ok f i _ _ Si _ true (by omega) (by omega) P2
     exact⟨kn,BQ,BR,jj,x,wU,k1,k2,by omega,fun _=>.inr (by omega),fun h=>absurd (k5 h).1 (by simp)⟩
    rw [if_neg (by simp),f1,aaA,e2,aaA,aaH,e3,aaA]
    by_cases Pd:v=i
    ·have jf:app 8 fs [(i:Int)]=some (fs++[(i:Int)]):=by unfold app; rw [if_pos (by simp; omega)]
     rw [if_pos (by simpa using Pd),jf,aaA,aaA]
     rw [if_pos Pd] at P'
     exact rest _ P'
    ·rw [if_neg (by simpa using Pd),aaA]
     rw [if_neg Pd] at P'
     exact rest _ P'
theorem Jv {m:Nat}(hm:2 ^ 30≤m){l:List ae}(ok:mf l):∀(f:Nat) (cls:List Int) (dn:List Bool) (fs od:List Int),l.length - od.length+1<f→Kd l cls dn fs od→
  ∃kn BQ BR wU,ai.l0 m l f cls dn fs true=some (kn,BQ,BR,false)∧Kd l kn BQ BR wU∧∀j,j<l.length→(j:Int)∉wU→∃k,k<na l j∧((ar l j k:Nat):Int)∉wU
 | 0,_,_,_,_,hf,_=>absurd hf (by omega)
 | f+1,cls,dn,fs,od,hf,P=>by
  have kV:(2:Nat) ^ 30=1073741824:=by decide
  have h8:=ok.1
  unfold ai.l0
  obtain⟨kn,BQ,BR,jj,x,wU,k1,k2,k3,k4,k5⟩:=zT hm ok m l.length cls dn fs od false (by omega) (aaE _) P
  have ew:i64.wrap ((l.length:Int) - 1)=(l.length:Int) - 1:=ay (by omega) (by omega)
  rw [if_pos rfl,ew,k1,aaA]
  dsimp only
  have wc:=EY k2.U3 k2.Oo
  cases jj with
  | true=>
   rcases k4 rfl with h | h
   ·cases h
   ·exact Jv hm ok f kn BQ BR wU (by omega) k2
  | false=>
   obtain⟨_,rfl,q⟩:=k5 rfl
   obtain⟨g,rfl⟩:∃g,f=g+1:=⟨f - 1,by omega⟩
   refine⟨kn,BQ,BR,wU,?_,k2,q⟩
   unfold ai.l0
   rw [if_neg (by simp)]
end Go.Proofs.YtmekcfdllhphlaaGreatDoor
namespace Go.Proofs.YtmekcfdllhphlaaGreatDoor
open Go Go.R
open Go.IntKind (i64 u64 u8 u32)
def bZ (dn:List Bool):Nat→List Int
 | 0=>[]
 | p+1=>if gb dn p=true then bZ dn p else bZ dn p++[(p:Int)]
theorem jD {dn:List Bool}:∀{p:Nat} {x:Int},x∈bZ dn p↔∃j:Nat,j<p∧gb dn j=false∧x=j
 | 0,x=>⟨fun h=>by simp [bZ] at h,fun ⟨j,h,_⟩=>absurd h (by omega)⟩
 | p+1,x=>by
  unfold bZ
  have ih:=jD (dn:=dn) (p:=p) (x:=x)
  split
  ·rename_i h
   rw [ih]
   constructor
   ·rintro⟨j,a,b,c⟩; exact⟨j,by omega,b,c⟩
   ·rintro⟨j,a,b,c⟩
    refine⟨j,?_,b,c⟩
    by_cases e:j=p
    ·subst e; rw [b] at h; cases h
    ·omega
  ·rename_i h
   rw [aaQ,ih,aaO]
   constructor
   ·rintro (⟨j,a,b,c⟩| c)
    ·exact⟨j,by omega,b,c⟩
    ·exact⟨p,by omega,by simpa using h,c⟩
   ·rintro⟨j,a,b,c⟩
    by_cases e:j=p
    ·subst e; exact .inr c
    ·exact .inl ⟨j,by omega,b,c⟩
theorem jc {dn:List Bool}:∀p,(bZ dn p).length≤p
 | 0=>aaE _
 | p+1=>by
  have:=jc (dn:=dn) p
  unfold bZ
  split
  ·omega
  ·simp; omega
theorem oa {dn:List Bool}:∀{p k q:Nat},k<q→q<(bZ dn p).length→gt (bZ dn p) k<gt (bZ dn p) q
 | 0,k,q,_,h=>by simp [bZ] at h
 | p+1,k,q,hk,h=>by
  unfold bZ at h ⊢
  split at h
  ·rename_i g; rw [if_pos g]; exact oa hk h
  ·rename_i g
   rw [if_neg g]
   by_cases hq:q<(bZ dn p).length
   ·rw [jh hq,jh (by omega)]; exact oa hk hq
   ·have e:q=(bZ dn p).length:=by simp at h; omega
    have:gt (bZ dn p++[(p:Int)]) q=p:=by
     subst e; unfold gt; rw [aaW,aaY (aaE _),acm]; rfl
    rw [this,jh (by omega)]
    obtain⟨j,a,b,c⟩:=jD.1 (a8 (l:=bZ dn p) (k:=k) (by omega))
    omega
structure Rt (l:List ae)(dn:List Bool)(c0:List Int)(p:Nat)(cls:List Int):Prop where
 lc:cls.length=l.length
 old:∀j,gb dn j=true→gt cls j=gt c0 j
 rI:∀j:Nat,(j:Int)∈bZ dn p→gt cls j∈bZ dn p∧Alike (nd l j) (nd l (gt cls j))∧∀g∈bZ dn p,Alike (nd l j) (nd l g)→gt cls j≤g
theorem Jw {m:Nat}{l:List ae}{dn:List Bool}(ok:mf l){cls:List Int}{i:Nat}(hi:i<l.length)(hc:cls.length=l.length)(hlt:∀g∈bZ dn i,gt cls g.toNat≠i):∀(f k:Nat),(bZ dn i).length - k+2≤f→k≤(bZ dn i).length→(∀q,q<k→¬Alike (nd l i) (nd l (gt (bZ dn i) q)))→
  ∃v x,ai.l3 m l (i:Int) (bZ dn i++[(i:Int)]) f (cls.set i (i:Int)) (k:Int)=some (cls.set i v,x)∧(v=i∧(∀g∈bZ dn i,¬Alike (nd l i) (nd l g))∨∃g∈bZ dn i,Alike (nd l i) (nd l g)∧v=gt cls g.toNat)
 | 0,k,hf,_,_=>absurd hf (by omega)
 | f+1,k,hf,hk,tE=>by
  have h8:=ok.1
  have QQ:=jc (dn:=dn) i
  unfold ai.l3
  have CK:i<(cls.set i (i:Int)).length:=by simp [hc,hi]
  rw [db CK,fj (by omega),if_pos rfl,aaA,if_pos (by simp)]
  have V3:(bZ dn i++[(i:Int)]).length=(bZ dn i).length+1:=by simp
  by_cases h:k<(bZ dn i).length
  ·obtain⟨j,j1,j2,j3⟩:=jD.1 (a8 (l:=bZ dn i) (k:=k) h)
   have hx:ix (bZ dn i++[(i:Int)]) (k:Int)=some (gt (bZ dn i) k):=by rw [db (by omega),jh h]
   obtain⟨xa,a1,a2⟩:=wJ (m:=m) (nd l (i:Int)) (nd l (gt (bZ dn i) k))
   rw [hx,aaA,if_pos (by simp only [decide_eq_true_eq]; omega),iT (by omega) (by omega),aaA,aaA,iT (by omega) (by omega),aaA,a1,aaA]
   cases xa with
   | false=>
    rw [if_neg (by simp),ay (by omega) (by omega),show (k:Int)+1=((k+1:Nat):Int) by omega]
    refine Jw ok hi hc hlt f (k+1) (by omega) (by omega) fun q hq=>?_
    by_cases e:q=k
    ·subst e; intro hA; have:=a2.2 hA; cases this
    ·exact tE q (by omega)
   | true=>
    have hA:=a2.1 rfl
    have Y8:(gt (bZ dn i) k).toNat<cls.length:=by omega
    have N0:ix (cls.set i (i:Int)) (gt (bZ dn i) k)=some (gt cls (gt (bZ dn i) k).toNat):=by
     rw [gX (k:=(gt (bZ dn i) k).toNat) (by omega) (by simpa using Y8),fj (by omega),if_neg (by omega)]
    rw [if_pos rfl,aaA,N0,aaA,aaA,aaH,List.set_set]
    have e:=hlt _ (a8 h)
    obtain⟨g,rfl⟩:∃g,f=g+1:=⟨f - 1,by omega⟩
    refine⟨gt cls (gt (bZ dn i) k).toNat,i64.wrap ((k:Int)+1),?_,.inr ⟨_,a8 h,hA,rfl⟩⟩
    unfold ai.l3
    rw [db (by simpa [hc] using hi),fj (by omega),if_pos rfl,aaA,if_neg (by simpa using e)]
  ·have e:k=(bZ dn i).length:=by omega
   have hx:ix (bZ dn i++[(i:Int)]) (k:Int)=some (i:Int):=by
    rw [db (by omega)]
    subst e; unfold gt; rw [aaW,aaY (aaE _),acm]; rfl
   rw [hx,aaA,if_neg (by simp)]
   refine⟨(i:Int),_,rfl,.inl ⟨rfl,fun g hg=>?_⟩⟩
   obtain⟨q,hq,e2⟩:=fL hg
   rw [←e2]; exact tE q (by omega)
theorem Jx {l:List ae}{dn:List Bool}{c0 cls:List Int}{i:Nat}(hi:i<l.length)(hd:gb dn i=false)(P:Rt l dn c0 i cls){v:Int}
  (hv:v=i∧(∀g∈bZ dn i,¬Alike (nd l i) (nd l g))∨∃g∈bZ dn i,Alike (nd l i) (nd l g)∧v=gt cls g.toNat):Rt l dn c0 (i+1) (cls.set i v):=by
 have hr:bZ dn (i+1)=bZ dn i++[(i:Int)]:=by show (if gb dn i=true then _ else _)=_; rw [if_neg (by rw [hd]; simp)]
 have gc:∀x,x≠i→gt (cls.set i v) x=gt cls x:=fun x hx=>by rw [fj (by rw [P.lc]; exact hi),if_neg hx]
 have gi:gt (cls.set i v) i=v:=by rw [fj (by rw [P.lc]; exact hi),if_pos rfl]
 have Sj:∀{x:Int},x∈bZ dn i→0≤x∧x<i:=fun h=>by obtain⟨j,a,b,c⟩:=jD.1 h; omega
 refine⟨by simpa using P.lc,fun j hj=>?_,fun j hj=>?_⟩
 ·rw [gc j (fun e=>by subst e; rw [hd] at hj; cases hj)]; exact P.old j hj
 ·rw [hr] at hj ⊢
  rcases aaQ.1 hj with hj | hj
  ·obtain⟨r1,r2,r3⟩:=P.rI j hj
   have hji:=Sj hj
   rw [gc j (by omega)]
   refine⟨abo _ r1,r2,fun g hg hA=>?_⟩
   rcases aaQ.1 hg with hg | hg
   ·exact r3 g hg hA
   ·have:=Sj r1
    rw [aaO] at hg; omega
  ·rw [aaO] at hj
   have e:j=i:=by omega
   subst e
   rw [gi]
   rcases hv with⟨rfl,h⟩| ⟨g,g1,g2,rfl⟩
   ·refine⟨by simp,Alike.refl _,fun g hg hA=>?_⟩
    rcases aaQ.1 hg with hg | hg
    ·exact absurd hA (h g hg)
    ·rw [aaO] at hg; omega
   ·have Rs:=Sj g1
    have eg:((g.toNat:Nat):Int)=g:=by omega
    obtain⟨r1,r2,r3⟩:=P.rI g.toNat (by rw [eg]; exact g1)
    rw [eg] at r2 r3
    refine⟨abo _ r1,g2.trans r2,fun x hx hA=>?_⟩
    rcases aaQ.1 hx with hx | hx
    ·exact r3 x hx (g2.symm.trans hA)
    ·have:=Sj r1
     rw [aaO] at hx; omega
theorem Dx {m:Nat}(hm:2 ^ 30≤m){l:List ae}(ok:mf l){dn:List Bool}(hd:dn.length=l.length){c0:List Int}:∀(f i:Nat) (cls:List Int),l.length - i<f→i≤l.length→Rt l dn c0 i cls→
  ∃kn x,ai.l2 m l dn f cls (bZ dn i) (i:Int)=some (kn,bZ dn l.length,x)∧Rt l dn c0 l.length kn
 | 0,i,cls,hf,_,_=>absurd hf (by omega)
 | f+1,i,cls,hf,hi,P=>by
  have kV:(2:Nat) ^ 30=1073741824:=by decide
  have h8:=ok.1
  unfold ai.l2
  by_cases h:i<l.length
  ·have hgb:ix dn (i:Int)=some (gb dn i):=by
    have:=EU (l:=dn) (i:=(i:Int)) (by omega) (by rw [aaH]; omega)
    rwa [aaH] at this
   have ew:i64.wrap ((i:Int)+1)=((i+1:Nat):Int):=by rw [ay (by omega) (by omega)]; omega
   rw [if_pos (by simp only [decide_eq_true_eq]; omega),hgb,aaA,ew]
   cases U5:gb dn i with
   | true=>
    have hr:bZ dn (i+1)=bZ dn i:=by show (if gb dn i=true then _ else _)=_; rw [if_pos U5]
    rw [if_pos rfl,←hr]
    exact Dx hm ok hd f (i+1) cls (by omega) (by omega) ⟨P.lc,P.old,fun j hj=>by rw [hr] at hj ⊢; exact P.rI j hj⟩
   | false=>
    have hr:bZ dn (i+1)=bZ dn i++[(i:Int)]:=by show (if gb dn i=true then _ else _)=_; rw [if_neg (by rw [U5]; simp)]
    have QQ:=jc (dn:=dn) i
    have jf:app 8 (bZ dn i) [(i:Int)]=some (bZ dn i++[(i:Int)]):=by unfold app; rw [if_pos (by simp; omega)]
    obtain⟨v,x,k1,k2⟩:=Jw (m:=m) ok h P.lc (fun g hg e=>by
     obtain⟨j,a,b,c⟩:=jD.1 hg
     have:=(P.rI j (by rw [←c]; exact hg)).1
     obtain⟨j',a',b',c'⟩:=jD.1 this
     rw [c,aaH] at e; omega) m 0 (by omega) (by omega) (fun q hq=>absurd hq (by omega))
    have k1:ai.l3 m l (i:Int) (bZ dn i++[(i:Int)]) m (cls.set i (i:Int)) 0=_:=k1
    rw [if_neg (by simp),jf,aaA,db (by rw [P.lc]; exact h),aaA,aaH,k1,aaA]
    dsimp only
    rw [←hr]
    exact Dx hm ok hd f (i+1) _ (by omega) (by omega) (Jx h U5 P k2)
  ·have e:i=l.length:=by omega
   subst e
   exact⟨cls,_,by rw [if_neg (by simp)],P⟩
end Go.Proofs.YtmekcfdllhphlaaGreatDoor
namespace Go.Proofs.YtmekcfdllhphlaaGreatDoor
open Go Go.R
open Go.IntKind (i64 u64 u8 u32)
structure EZ (l:List ae)(dn:List Bool)(c0 cls:List Int):Prop where
 lc:cls.length=l.length
 old:∀j,j<l.length→gb dn j=true→gt cls j=gt c0 j
 rI:∀j:Nat,(j:Int)∈bZ dn l.length→gt cls j∈bZ dn l.length∧gt cls j≤j∧gt cls (gt cls j).toNat=gt cls j∧Alike (nd l j) (nd l (gt cls j))
 coarse:∀R,Gq l R→∀i j:Nat,R i j→(i:Int)∈bZ dn l.length→(j:Int)∈bZ dn l.length→gt cls i=gt cls j
theorem gK {dn:List Bool}{p:Nat}{x:Int}(h:x∈bZ dn p):0≤x∧x<p∧((x.toNat:Nat):Int)=x:=by
 obtain⟨j,a,b,c⟩:=jD.1 h; omega
theorem Gs {l:List ae}{dn:List Bool}{c0 cls:List Int}(P:Rt l dn c0 l.length cls):EZ l dn c0 cls:=by
 have mn:∀i j:Nat,(i:Int)∈bZ dn l.length→(j:Int)∈bZ dn l.length→Alike (nd l i) (nd l j)→gt cls i≤gt cls j:=fun i j hi hj hA=>by
  obtain⟨r1,r2,r3⟩:=P.rI j hj
  exact (P.rI i hi).2.2 _ r1 (hA.trans r2)
 refine⟨P.lc,fun j _ h=>P.old j h,fun j hj=>?_,fun R B i j hR hi hj=>?_⟩
 ·obtain⟨r1,r2,r3⟩:=P.rI j hj
  have e:=(gK r1).2.2
  refine⟨r1,r3 j hj (Alike.refl _),?_,r2⟩
  have h1:=mn j (gt cls j).toNat hj (by rw [e]; exact r1) (by rw [e]; exact r2)
  have h2:=mn (gt cls j).toNat j (by rw [e]; exact r1) hj (by rw [e]; exact r2.symm)
  omega
 ·have h1:=mn i j hi hj (B.top i j hR)
  have h2:=mn j i hj hi (B.top i j hR).symm
  omega
def Qr (l:List ae)(cls:List Int)(j g:Nat):Prop:=gt cls j=gt cls g∧SA l cls j g
theorem EZ.al {l dn c0 cls}(P:EZ l dn c0 cls){i j:Nat}(hi:(i:Int)∈bZ dn l.length)(hj:(j:Int)∈bZ dn l.length)(h:gt cls i=gt cls j):Alike (nd l i) (nd l j):=by
 have a:=(P.rI i hi).2.2.2
 have b:=(P.rI j hj).2.2.2
 rw [h] at a
 exact a.trans b.symm
theorem EZ.Ms {l dn c0 cls}(P:EZ l dn c0 cls){i j:Nat}(hi:(i:Int)∈bZ dn l.length)(hj:(j:Int)∈bZ dn l.length)(h:Qr l cls i j):Qr l cls j i:=
 ⟨h.1.symm,fun k hk=>(h.2 k (by have:=(P.al hi hj h.1).len; unfold na at *; omega)).symm⟩
theorem EZ.Dy {l dn c0 cls}(P:EZ l dn c0 cls){i j q:Nat}(hi:(i:Int)∈bZ dn l.length)(hj:(j:Int)∈bZ dn l.length)(h:Qr l cls i j)(g:Qr l cls j q):Qr l cls i q:=
 ⟨h.1.trans g.1,fun k hk=>(h.2 k hk).trans (g.2 k (by have:=(P.al hi hj h.1).len; unfold na at *; omega))⟩
theorem Jy {m:Nat}(hm:2 ^ 30≤m){l:List ae}{dn:List Bool}{c0 cls nx:List Int}(ok:mf l)(P:EZ l dn c0 cls)(hnx:nx.length=l.length){J:Nat}(hJ:J<(bZ dn l.length).length)
  (hlt:∀q,q<J→gt nx (gt (bZ dn l.length) q).toNat≠gt (bZ dn l.length) J):∀(f k:Nat),J - k+2≤f→k≤J→(∀q,q<k→¬Qr l cls (gt (bZ dn l.length) J).toNat (gt (bZ dn l.length) q).toNat)→
  ∃w x,ai.l6 m l (bZ dn l.length) cls (J:Int) (gt (bZ dn l.length) J) f (nx.set (gt (bZ dn l.length) J).toNat (gt (bZ dn l.length) J)) (k:Int)=some (nx.set (gt (bZ dn l.length) J).toNat w,x)∧
   (w=gt (bZ dn l.length) J∧(∀q,q<J→¬Qr l cls (gt (bZ dn l.length) J).toNat (gt (bZ dn l.length) q).toNat)∨∃q,q<J∧Qr l cls (gt (bZ dn l.length) J).toNat (gt (bZ dn l.length) q).toNat∧w=gt nx (gt (bZ dn l.length) q).toNat)
 | 0,k,hf,_,_=>absurd hf (by omega)
 | f+1,k,hf,hk,tE=>by
  have kV:(2:Nat) ^ 30=1073741824:=by decide
  have h8:=ok.1
  have QQ:=jc (dn:=dn) l.length
  have mJ:=a8 hJ
  obtain⟨v0,v1,v2⟩:=gK mJ
  unfold ai.l6
  have oV:∀w,ix (nx.set (gt (bZ dn l.length) J).toNat w) (gt (bZ dn l.length) J)=some w:=fun w=>by
   rw [gX (k:=(gt (bZ dn l.length) J).toNat) (by omega) (by rw [aaN]; omega),fj (by omega),if_pos rfl]
  rw [oV,aaA,if_pos (by simp)]
  by_cases h:k<J
  ·have mk:=a8 (l:=bZ dn l.length) (k:=k) (by omega)
   obtain⟨w0,w1,w2⟩:=gK mk
   have next:¬Qr l cls (gt (bZ dn l.length) J).toNat (gt (bZ dn l.length) k).toNat→∃w x,ai.l6 m l (bZ dn l.length) cls (J:Int) (gt (bZ dn l.length) J) f (nx.set (gt (bZ dn l.length) J).toNat (gt (bZ dn l.length) J)) (i64.wrap ((k:Int)+1))=some (nx.set (gt (bZ dn l.length) J).toNat w,x)∧
     (w=gt (bZ dn l.length) J∧(∀q,q<J→¬Qr l cls (gt (bZ dn l.length) J).toNat (gt (bZ dn l.length) q).toNat)∨∃q,q<J∧Qr l cls (gt (bZ dn l.length) J).toNat (gt (bZ dn l.length) q).toNat∧w=gt nx (gt (bZ dn l.length) q).toNat):=fun hn=>by
    rw [ay (by omega) (by omega),show (k:Int)+1=((k+1:Nat):Int) by omega]
    refine Jy hm ok P hnx hJ hlt f (k+1) (by omega) (by omega) fun q hq=>?_
    by_cases e:q=k
    ·subst e; exact hn
    ·exact tE q (by omega)
   have c1:ix cls (gt (bZ dn l.length) J)=some (gt cls (gt (bZ dn l.length) J).toNat):=gX v2.symm (by rw [P.lc]; omega)
   have c2:ix cls (gt (bZ dn l.length) k)=some (gt cls (gt (bZ dn l.length) k).toNat):=gX w2.symm (by rw [P.lc]; omega)
   rw [if_pos (by simp only [decide_eq_true_eq]; omega),c1,aaA,db (by omega),aaA,c2,aaA]
   by_cases e:gt cls (gt (bZ dn l.length) J).toNat=gt cls (gt (bZ dn l.length) k).toNat
   ·have hA:=P.al (i:=(gt (bZ dn l.length) J).toNat) (j:=(gt (bZ dn l.length) k).toNat) (by rw [v2]; exact mJ) (by rw [w2]; exact mk) e
    obtain⟨xs,s1,s2⟩:=EW hm ok P.lc (i:=(gt (bZ dn l.length) J).toNat) (j:=(gt (bZ dn l.length) k).toNat) (by omega) (by omega) hA.len
    rw [v2,w2] at s1
    rw [if_pos (by simpa using e),iT (by omega) (by omega),aaA,aaA,iT (by omega) (by omega),aaA,s1,aaA]
    cases xs with
    | false=>
     rw [if_neg (by simp)]
     exact next fun h=>by have:=s2.2 h.2; cases this
    | true=>
     have hQ:Qr l cls (gt (bZ dn l.length) J).toNat (gt (bZ dn l.length) k).toNat:=⟨e,s2.1 rfl⟩
     have hne:(gt (bZ dn l.length) k).toNat≠(gt (bZ dn l.length) J).toNat:=by have:=oa (dn:=dn) (p:=l.length) h hJ; omega
     have n1:ix (nx.set (gt (bZ dn l.length) J).toNat (gt (bZ dn l.length) J)) (gt (bZ dn l.length) k)=some (gt nx (gt (bZ dn l.length) k).toNat):=by
      rw [gX w2.symm (by rw [aaN]; omega),fj (by omega),if_neg hne]
     obtain⟨g,rfl⟩:∃g,f=g+1:=⟨f - 1,by omega⟩
     rw [if_pos rfl,aaA,n1,aaA,aaA,List.set_set]
     refine⟨gt nx (gt (bZ dn l.length) k).toNat,i64.wrap ((k:Int)+1),?_,.inr ⟨k,h,hQ,rfl⟩⟩
     unfold ai.l6
     rw [oV,aaA,if_neg (by simpa using hlt k h)]
   ·rw [if_neg (by simpa using e)]
    exact next fun h=>e h.1
  ·have e:k=J:=by omega
   rw [if_neg (by simp only [decide_eq_true_eq]; omega)]
   exact⟨gt (bZ dn l.length) J,_,rfl,.inl ⟨rfl,fun q hq=>tE q (by omega)⟩⟩
structure N5 (l:List ae)(dn:List Bool)(cls:List Int)(p:Nat)(nx:List Int):Prop where
 ln:nx.length=l.length
 Oq:∀x:Nat,(x:Int)∉bZ dn l.length→gt nx x=gt cls x
 later:∀q,p≤q→q<(bZ dn l.length).length→gt nx (gt (bZ dn l.length) q).toNat=gt cls (gt (bZ dn l.length) q).toNat
 new:∀q,q<p→gt nx (gt (bZ dn l.length) q).toNat∈bZ dn l.length∧Qr l cls (gt (bZ dn l.length) q).toNat (gt nx (gt (bZ dn l.length) q).toNat).toNat∧∀g∈bZ dn l.length,Qr l cls (gt (bZ dn l.length) q).toNat g.toNat→gt nx (gt (bZ dn l.length) q).toNat≤g
theorem zU {dn:List Bool}{n p q:Nat}(hp:p<(bZ dn n).length)(hq:q<(bZ dn n).length)(e:(gt (bZ dn n) p).toNat=(gt (bZ dn n) q).toNat):p=q:=by
 have a:=(gK (a8 hp)).2.2
 have b:=(gK (a8 hq)).2.2
 rcases Nat.lt_trichotomy p q with h | h | h
 ·have:=oa (dn:=dn) (p:=n) h hq; omega
 ·exact h
 ·have:=oa (dn:=dn) (p:=n) h hp; omega
theorem Ls {l:List ae}{dn:List Bool}{c0 cls nx:List Int}(P:EZ l dn c0 cls){p:Nat}(hp:p<(bZ dn l.length).length)(N:N5 l dn cls p nx){w:Int}
  (hw:w=gt (bZ dn l.length) p∧(∀q,q<p→¬Qr l cls (gt (bZ dn l.length) p).toNat (gt (bZ dn l.length) q).toNat)∨∃q,q<p∧Qr l cls (gt (bZ dn l.length) p).toNat (gt (bZ dn l.length) q).toNat∧w=gt nx (gt (bZ dn l.length) q).toNat) :
  N5 l dn cls (p+1) (nx.set (gt (bZ dn l.length) p).toNat w):=by
 have mp:=a8 hp
 obtain⟨v0,v1,v2⟩:=gK mp
 have gc:∀x,x≠(gt (bZ dn l.length) p).toNat→gt (nx.set (gt (bZ dn l.length) p).toNat w) x=gt nx x:=fun x hx=>by rw [fj (by rw [N.ln]; omega),if_neg hx]
 have gi:gt (nx.set (gt (bZ dn l.length) p).toNat w) (gt (bZ dn l.length) p).toNat=w:=by rw [fj (by rw [N.ln]; omega),if_pos rfl]
 refine⟨by simpa using N.ln,fun x hx=>?_,fun q h1 h2=>?_,fun q hq=>?_⟩
 ·rw [gc x (fun e=>hx (by rw [e,v2]; exact mp))]; exact N.Oq x hx
 ·rw [gc _ (fun e=>by have:=zU h2 hp e; omega)]; exact N.later q (by omega) h2
 ·by_cases e:q=p
  ·subst e
   rw [gi]
   rcases hw with⟨rfl,h⟩| ⟨q',h1,h2,rfl⟩
   ·refine⟨mp,⟨rfl,fun _ _=>rfl⟩,fun g hg hQ=>?_⟩
    obtain⟨k,hk,rfl⟩:=fL hg
    by_cases Y9:k<q
    ·exact absurd hQ (h k Y9)
    ·by_cases U6:k=q
     ·subst U6; exact ab9 _
     ·have:=oa (dn:=dn) (p:=l.length) (k:=q) (q:=k) (by omega) hk; omega
   ·have mq:=a8 (l:=bZ dn l.length) (k:=q') (by omega)
    have eq2:=(gK mq).2.2
    obtain⟨n1,n2,n3⟩:=N.new q' h1
    have e3:=(gK n1).2.2
    have s1:((gt (bZ dn l.length) q).toNat:Int)∈bZ dn l.length:=by rw [v2]; exact mp
    have s2:((gt (bZ dn l.length) q').toNat:Int)∈bZ dn l.length:=by rw [eq2]; exact mq
    exact⟨n1,P.Dy s1 s2 h2 n2,fun g hg hQ=>n3 g hg (P.Dy s2 s1 (P.Ms s1 s2 h2) hQ)⟩
  ·rw [gc _ (fun e2=>by have:=zU (dn:=dn) (n:=l.length) (by omega) hp e2; omega)]
   exact N.new q (by omega)
theorem Dz {m:Nat}(hm:2 ^ 30≤m){l:List ae}{dn:List Bool}{c0 cls:List Int}(ok:mf l)(P:EZ l dn c0 cls):∀(f p:Nat) (more:Bool) (nx:List Int),(bZ dn l.length).length - p<f→p≤(bZ dn l.length).length→N5 l dn cls p nx→
  (more=true↔∃q,q<p∧gt nx (gt (bZ dn l.length) q).toNat≠gt cls (gt (bZ dn l.length) q).toNat)→
  ∃jj U7 x,ai.l5 m l (bZ dn l.length) cls f more nx (p:Int)=some (jj,U7,x)∧N5 l dn cls (bZ dn l.length).length U7∧(jj=true↔∃q,q<(bZ dn l.length).length∧gt U7 (gt (bZ dn l.length) q).toNat≠gt cls (gt (bZ dn l.length) q).toNat)
 | 0,p,_,_,hf,_,_,_=>absurd hf (by omega)
 | f+1,p,more,nx,hf,hp,N,oc=>by
  have kV:(2:Nat) ^ 30=1073741824:=by decide
  have h8:=ok.1
  have QQ:=jc (dn:=dn) l.length
  unfold ai.l5
  by_cases h:p<(bZ dn l.length).length
  ·have mp:=a8 h
   obtain⟨v0,v1,v2⟩:=gK mp
   obtain⟨w,x,k1,k2⟩:=Jy hm ok P N.ln h (fun q hq=>by
    obtain⟨n1,n2,n3⟩:=N.new q hq
    have mq:=a8 (l:=bZ dn l.length) (k:=q) (by omega)
    have:=n3 _ mq ⟨rfl,fun _ _=>rfl⟩
    have:=oa (dn:=dn) (p:=l.length) hq h
    omega) m 0 (by omega) (by omega) (fun q hq=>absurd hq (by omega))
   have k1:ai.l6 m l (bZ dn l.length) cls (p:Int) (gt (bZ dn l.length) p) m (nx.set (gt (bZ dn l.length) p).toNat (gt (bZ dn l.length) p)) 0=_:=k1
   have N':=Ls P h N k2
   have ew:i64.wrap ((p:Int)+1)=((p+1:Nat):Int):=by rw [ay (by omega) (by omega)]; omega
   have Za:ix nx (gt (bZ dn l.length) p)=some (gt nx (gt (bZ dn l.length) p).toNat):=gX v2.symm (by rw [N.ln]; omega)
   have c1:ix cls (gt (bZ dn l.length) p)=some (gt cls (gt (bZ dn l.length) p).toNat):=gX v2.symm (by rw [P.lc]; omega)
   have c2:ix (nx.set (gt (bZ dn l.length) p).toNat w) (gt (bZ dn l.length) p)=some w:=by
    rw [gX v2.symm (by rw [aaN,N.ln]; omega),fj (by rw [N.ln]; omega),if_pos rfl]
   have gw:gt (nx.set (gt (bZ dn l.length) p).toNat w) (gt (bZ dn l.length) p).toNat=w:=by rw [fj (by rw [N.ln]; omega),if_pos rfl]
   have old:∀q,q<p→gt (nx.set (gt (bZ dn l.length) p).toNat w) (gt (bZ dn l.length) q).toNat=gt nx (gt (bZ dn l.length) q).toNat:=fun q hq=>by
    rw [fj (by rw [N.ln]; omega),if_neg (fun e=>by have:=zU (dn:=dn) (n:=l.length) (by omega) h e; omega)]
   rw [if_pos (by simp only [decide_eq_true_eq]; omega),db h,aaA,Za,aaA,k1,aaA]
   dsimp only
   rw [ew]
   cases more with
   | true=>
    rw [if_pos rfl]
    refine Dz hm ok P f (p+1) true _ (by clear oc k2; omega) (by clear oc k2; omega) N' ⟨fun _=>?_,fun _=>rfl⟩
    obtain⟨q,q1,q2⟩:=oc.1 rfl
    exact⟨q,by omega,by rw [old q q1]; exact q2⟩
   | false=>
    rw [if_neg (by simp),c2,aaA,c1,aaA]
    refine Dz hm ok P f (p+1) _ _ (by clear oc k2; omega) (by clear oc k2; omega) N' ?_
    constructor
    ·intro hb
     refine⟨p,by omega,?_⟩
     rw [gw]; simpa using hb
    ·rintro⟨q,q1,q2⟩
     by_cases e:q=p
     ·subst e; rw [gw] at q2; simpa using q2
     ·rw [old q (by omega)] at q2
      have:=oc.2 ⟨q,by omega,q2⟩
      cases this
  ·have e:p=(bZ dn l.length).length:=by omega
   subst e
   exact⟨more,nx,_,by rw [if_neg (by simp)],N,oc⟩
theorem Jz {l:List ae}{dn:List Bool}{c0 cls nx:List Int}{od:List Int}(ok:mf l)(P:EZ l dn c0 cls)(N:N5 l dn cls (bZ dn l.length).length nx)
  (An:∀j,j<l.length→(gb dn j=true↔(j:Int)∈od)) (OM:∀R,Gq l R→∀i j:Nat,R i j→(i:Int)∈od→(j:Int)∈od→gt c0 i=gt c0 j)
  (hfin:∀R,Gq l R→∀i j:Nat,R i j→(i:Int)∈od→(j:Int)∈od):EZ l dn c0 nx:=by
 have Ru:∀j,j<l.length→gb dn j=true→(j:Int)∉bZ dn l.length:=fun j _ h hm=>by
  obtain⟨j',a,b,c⟩:=jD.1 hm
  have:j=j':=by omega
  subst this; rw [h] at b; cases b
 have xn:∀j,j<l.length→(j:Int)∉od→(j:Int)∈bZ dn l.length:=fun j hj h=>jD.2 ⟨j,hj,by
  cases hb:gb dn j with
  | true=>exact absurd ((An j hj).1 hb) h
  | false=>rfl,rfl⟩
 have atR:∀j:Nat,(j:Int)∈bZ dn l.length→gt nx j∈bZ dn l.length∧Qr l cls j (gt nx j).toNat∧∀g∈bZ dn l.length,Qr l cls j g.toNat→gt nx j≤g:=fun j hj=>by
  obtain⟨q,hq,e⟩:=fL hj
  have:=N.new q hq
  rw [e,aaH] at this
  exact this
 have mn:∀i j:Nat,(i:Int)∈bZ dn l.length→(j:Int)∈bZ dn l.length→Qr l cls i j→gt nx i≤gt nx j:=fun i j hi hj hQ=>by
  obtain⟨r1,r2,r3⟩:=atR j hj
  exact (atR i hi).2.2 _ r1 (P.Dy hi hj hQ r2)
 have Xg:∀i j:Nat,(i:Int)∈bZ dn l.length→(j:Int)∈bZ dn l.length→Qr l cls i j→gt nx i=gt nx j:=fun i j hi hj hQ=>by
  have h1:=mn i j hi hj hQ
  have h2:=mn j i hj hi (P.Ms hi hj hQ)
  omega
 refine⟨N.ln,fun j hj h=>by rw [N.Oq j (Ru j hj h)]; exact P.old j hj h,fun j hj=>?_,fun R B i j hR hi hj=>?_⟩
 ·obtain⟨r1,r2,r3⟩:=atR j hj
  have e:=(gK r1).2.2
  have Cy:(((gt nx j).toNat:Nat):Int)∈bZ dn l.length:=by rw [e]; exact r1
  refine⟨r1,r3 j hj ⟨rfl,fun _ _=>rfl⟩,(Xg j _ hj Cy r2).symm,?_⟩
  have:=P.al hj Cy r2.1
  rw [e] at this; exact this
 ·refine Xg i j hi hj ⟨P.coarse R B i j hR hi hj,fun k hk=>?_⟩
  have Rv:R (ar l i k) (ar l j k):=B.arg i j hR k hk
  obtain⟨ra,rb⟩:=B.Ch _ _ Rv
  by_cases ha:((ar l i k:Nat):Int)∈od
  ·have hb:=hfin R B _ _ Rv ha
   rw [P.old _ ra ((An _ ra).2 ha),P.old _ rb ((An _ rb).2 hb)]
   exact OM R B _ _ Rv ha hb
  ·have hb:((ar l j k:Nat):Int)∉od:=fun h=>ha (hfin _ B.symm _ _ Rv h)
   exact P.coarse R B _ _ Rv (xn _ ra ha) (xn _ rb hb)
def Gt (dn:List Bool)(n:Nat)(cls:List Int):List Int:=(bZ dn n).filter fun j=>gt cls j.toNat==j
theorem Gu {dn:List Bool}{n:Nat}:(bZ dn n).Nodup:=by
 unfold List.Nodup
 rw [ab3]
 intro i j hi hj xM e
 have:=oa (dn:=dn) (p:=n) xM hj
 have a:=bL hi
 have b:=bL hj
 rw [aaL hi] at a
 rw [aaL hj] at b
 have a:=aa2 a
 have b:=aa2 b
 omega
theorem JA {m:Nat}(hm:2 ^ 30≤m){l:List ae}{dn:List Bool}{c0 od:List Int}(ok:mf l)
  (An:∀j,j<l.length→(gb dn j=true↔(j:Int)∈od)) (OM:∀R,Gq l R→∀i j:Nat,R i j→(i:Int)∈od→(j:Int)∈od→gt c0 i=gt c0 j)
  (hfin:∀R,Gq l R→∀i j:Nat,R i j→(i:Int)∈od→(j:Int)∈od):∀(f:Nat) (cls:List Int),(bZ dn l.length).length - (Gt dn l.length cls).length+1<f→EZ l dn c0 cls→
  ∃kn,ai.l4 m l (bZ dn l.length) f cls true=some (kn,false)∧EZ l dn c0 kn∧∀j:Nat,(j:Int)∈bZ dn l.length→SA l kn j (gt kn j).toNat
 | 0,cls,hf,_=>absurd hf (by omega)
 | f+1,cls,hf,P=>by
  have kV:(2:Nat) ^ 30=1073741824:=by decide
  have h8:=ok.1
  have QQ:=jc (dn:=dn) l.length
  unfold ai.l4
  have jf:app 8 ([]:List Int) cls=some cls:=by unfold app; rw [if_pos (by simp; rw [P.lc]; omega),aa5]
  obtain⟨jj,nx,x,k1,N,oc⟩:=Dz hm ok P m 0 false cls (by omega) (by omega) ⟨P.lc,fun _ _=>rfl,fun _ _ _=>rfl,fun q hq=>absurd hq (by omega)⟩ ⟨fun h=>(by cases h),fun ⟨q,hq,_⟩=>absurd hq (by omega)⟩
  have k1:ai.l5 m l (bZ dn l.length) cls m false cls 0=_:=k1
  have P':=Jz ok P N An OM hfin
  rw [if_pos rfl,jf,aaA,k1,aaA]
  dsimp only
  cases Xh:jj with
  | true=>
   obtain⟨q,hq,hne⟩:=oc.1 Xh
   have mq:=a8 hq
   have eq2:=(gK mq).2.2
   obtain⟨n1,n2,n3⟩:=N.new q hq
   have e3:=(gK n1).2.2
   have Xi:(Gt dn l.length cls).length+1≤(Gt dn l.length nx).length:=by
    have Zb:(gt nx (gt (bZ dn l.length) q).toNat::Gt dn l.length cls).Nodup:=by
     rw [List.nodup_cons]
     refine⟨fun h=>?_,List.Pairwise.filter _ Gu⟩
     have:=(ace.1 h).2
     have:=beq_iff_eq.1 this
     exact hne (by rw [n2.1,this])
    have:=Zb.length_le_of_subset (l₂:=Gt dn l.length nx) (fun y hy=>by
     rcases abb.1 hy with rfl | hy
     ·refine ace.2 ⟨n1,?_⟩
      have:=(P'.rI (gt (bZ dn l.length) q).toNat (by rw [eq2]; exact mq)).2.2.1
      rw [beq_iff_eq]; exact this
     ·obtain⟨y1,y2⟩:=ace.1 hy
      have y2:=beq_iff_eq.1 y2
      refine ace.2 ⟨y1,?_⟩
      have ey:=(gK y1).2.2
      rw [beq_iff_eq]
      obtain⟨k,hk,e⟩:=fL y1
      obtain⟨m1,m2,m3⟩:=N.new k hk
      rw [e] at m1 m2 m3
      have a1:=m3 y y1 ⟨rfl,fun _ _=>rfl⟩
      have em:=(gK m1).2.2
      have a2:=(P.rI (gt nx y.toNat).toNat (by rw [em]; exact m1)).2.1
      rw [←m2.1,y2] at a2
      omega)
    simpa using this
   have hle:(Gt dn l.length nx).length≤(bZ dn l.length).length:=List.length_filter_le _ _
   exact JA hm ok An OM hfin f nx (by clear oc; omega) P'
  | false=>
   obtain⟨g,rfl⟩:∃g,f=g+1:=⟨f - 1,by omega⟩
   have same:∀j:Nat,(j:Int)∈bZ dn l.length→gt nx j=gt cls j:=fun j hj=>by
    obtain⟨k,hk,e⟩:=fL hj
    by_cases hne:gt nx j=gt cls j
    ·exact hne
    ·have:=oc.2 ⟨k,hk,by rw [e,aaH]; exact hne⟩
     rw [Xh] at this; cases this
   have Zc:nx=cls:=HZ (by rw [N.ln,P.lc]) fun k hk=>by
    by_cases h:(k:Int)∈bZ dn l.length
    ·exact same k h
    ·exact N.Oq k h
   refine⟨nx,?_,P',fun j hj=>?_⟩
   ·unfold ai.l4
    rw [if_neg (by simp)]
   ·obtain⟨k,hk,e⟩:=fL hj
    obtain⟨m1,m2,m3⟩:=N.new k hk
    rw [e,aaH] at m2
    rw [Zc] at m2 ⊢
    exact m2.2
end Go.Proofs.YtmekcfdllhphlaaGreatDoor
namespace Go.Proofs.YtmekcfdllhphlaaGreatDoor
open Go Go.R
open Go.IntKind (i64 u64 u8 u32)
structure Ot (l:List ae)(c od:List Int):Prop where
 min:Min l c
 rI:∀i,i<l.length→0≤gt c i∧gt c i<l.length∧gt c (gt c i).toNat=gt c i
 xm:∀i:Nat,(i:Int)∈od→∀k,k<na l i→((ar l i k:Nat):Int)∈od∧od.idxOf ((ar l i k:Nat):Int)<od.idxOf (i:Int)
 Zd:∀i,i<l.length→(i:Int)∉od→gt c i≤i
theorem Ou {n k:Nat}:gb (aaV n false) k=false:=by
 unfold gb; rw [aaW,List.getElem?_replicate]; split<;>rfl
theorem BS {m:Nat}(hm:2 ^ 30≤m){l:List ae}(ok:mf l):∃c od,ai.f m l=some c∧Ot l c od:=by
 have kV:(2:Nat) ^ 30=1073741824:=by decide
 have h8:=ok.1
 unfold ai.f
 have e0:xb 8 (l.length:Int) (0:Int)=some (aaV l.length 0):=by unfold xb; rw [if_pos ⟨by omega,by rw [aaH]; omega⟩,aaH]
 have e1:xb 1 (l.length:Int) false=some (aaV l.length false):=by unfold xb; rw [if_pos ⟨by omega,by rw [aaH]; omega⟩,aaH]
 obtain⟨c0,dn,fs,od,k1,P1,hq⟩:=Jv hm ok m (aaV l.length 0) (aaV l.length false) [] [] (by simp; omega)
  {lc:=by simp,ld:=by simp,U3:=by simp,Oo:=(by intro x hx; cases hx),Ke:=(by intro i hi; rw [Ou]; simp),xm:=(by intro i hi; cases hi),Sh:=by simp,fst:=(by intro f hf; cases hf),rI:=(by intro i hi; cases hi),apart:=(by intro f hf; cases hf),coarse:=(by intro R B i j hR hi; cases hi)}
 obtain⟨c1,x,k2,P2⟩:=Dx hm ok P1.ld (c0:=c0) m 0 c0 (by omega) (by omega) {lc:=P1.lc,old:=fun _ _=>rfl,rI:=(by intro j hj; cases hj)}
 have k2:ai.l2 m l dn m c0 [] 0=_:=k2
 have hfin:∀R,Gq l R→∀i j:Nat,R i j→(i:Int)∈od→(j:Int)∈od:=by
  intro R B
  have:∀N i j:Nat,od.idxOf (i:Int)<N→R i j→(i:Int)∈od→(j:Int)∈od:=by
   intro N
   induction N with
   | zero=>intro i j h; omega
   | succ N ih=>
    intro i j hN hR hi
    by_cases hj:(j:Int)∈od
    ·exact hj
    ·obtain⟨k,g1,g2⟩:=hq j (B.Ch i j hR).2 hj
     have ur:k<na l i:=by have:=(B.top i j hR).len; unfold na at *; omega
     obtain⟨r1,r2⟩:=P1.xm i hi k ur
     exact absurd (ih (ar l i k) (ar l j k) (by omega) (B.arg i j hR k ur) r1) g2
  exact fun i j=>this (od.idxOf (i:Int)+1) i j (by omega)
 obtain⟨c,k3,P3,hS⟩:=JA hm ok P1.Ke P1.coarse hfin m c1 (by have:=jc (dn:=dn) l.length; omega) (Gs P2)
 have xn:∀j,j<l.length→(j:Int)∉od→(j:Int)∈bZ dn l.length:=fun j hj h=>jD.2 ⟨j,hj,by
  cases hb:gb dn j with
  | true=>exact absurd ((P1.Ke j hj).1 hb) h
  | false=>rfl,rfl⟩
 have Mt:∀{x:Int},x∈bZ dn l.length→x∉od:=fun hx h=>by
  obtain⟨j,a,b,e⟩:=jD.1 hx
  subst e
  rw [(P1.Ke j a).2 h] at b; cases b
 have xo:∀j:Nat,j<l.length→(j:Int)∈od→gt c j=gt c0 j:=fun j hj h=>P3.old j hj ((P1.Ke j hj).2 h)
 have Ov:∀f∈fs,0≤f∧f<l.length∧f∈od∧((f.toNat:Nat):Int)=f:=fun f hf=>by
  have a:=P1.U4 f hf; have b:=(P1.fst f hf).1; exact⟨a.1,a.2,b,by omega⟩
 have U8:∀i j:Nat,(i:Int)∈od→(j:Int)∈od→tt l c0 i j→SA l c i j:=fun i j hi hj h k hk=>by
  have a:=(P1.xm i hi k hk).1
  have b:=(P1.xm j hj k (by have:=h.1.len; unfold na at *; omega)).1
  have ra:=P1.Oo _ a
  have rb:=P1.Oo _ b
  rw [xo _ (by omega) a,xo _ (by omega) b]
  exact h.2 k hk
 have both:∀i j:Nat,i<l.length→j<l.length→gt c i=gt c j→Alike (nd l i) (nd l j)∧SA l c i j:=fun i j hi hj e=>by
  by_cases h1:(i:Int)∈od
  ·obtain⟨f1,s1⟩:=P1.rI i h1
   by_cases h2:(j:Int)∈od
   ·obtain⟨f2,s2⟩:=P1.rI j h2
    rw [xo i hi h1,xo j hj h2] at e
    rw [e] at s1
    have s:=s1.trans s2.symm
    exact⟨s.1,U8 i j h1 h2 s⟩
   ·have:=(P3.rI j (xn j hj h2)).1
    rw [←e,xo i hi h1] at this
    exact absurd (Ov _ f1).2.2.1 (Mt this)
  ·have r1:=xn i hi h1
   by_cases h2:(j:Int)∈od
   ·obtain⟨f2,s2⟩:=P1.rI j h2
    have:=(P3.rI i r1).1
    rw [e,xo j hj h2] at this
    exact absurd (Ov _ f2).2.2.1 (Mt this)
   ·have r2:=xn j hj h2
    have hA:=P3.al r1 r2 e
    refine⟨hA,fun k hk=>?_⟩
    have a:=hS i r1 k hk
    have b:=hS j r2 k (by have:=hA.len; unfold na at *; omega)
    rw [e] at a
    exact a.trans b.symm
 refine⟨c,od,?_,⟨P3.lc,fun i j hi hj e=>(both i j hi hj e).1,fun i j hi hj e k hk=>(both i j hi hj e).2 k hk,fun R B i j hR=>?_⟩,fun i hi=>?_,P1.xm,fun i hi h=>(P3.rI i (xn i hi h)).2.1⟩
 ·rw [e0,aaA,e1,aaA,k1,aaA]
  dsimp only
  rw [k2,aaA]
  dsimp only
  rw [k3]; rfl
 ·obtain⟨hi,hj⟩:=B.Ch i j hR
  by_cases h1:(i:Int)∈od
  ·have h2:=hfin R B i j hR h1
   rw [xo i hi h1,xo j hj h2]; exact P1.coarse R B i j hR h1 h2
  ·have h2:(j:Int)∉od:=fun h=>h1 (hfin _ B.symm j i hR h)
   exact P3.coarse R B i j hR (xn i hi h1) (xn j hj h2)
 ·by_cases h1:(i:Int)∈od
  ·obtain⟨f1,s1⟩:=P1.rI i h1
   obtain⟨a,b,d,e⟩:=Ov _ f1
   rw [xo i hi h1]
   refine⟨a,b,?_⟩
   rw [xo _ (by omega) (by rw [e]; exact d)]
   exact (P1.fst _ f1).2
  ·obtain⟨r1,r2,r3,r4⟩:=P3.rI i (xn i hi h1)
   have:=gK r1
   exact⟨this.1,this.2.1,r3⟩
end Go.Proofs.YtmekcfdllhphlaaGreatDoor
