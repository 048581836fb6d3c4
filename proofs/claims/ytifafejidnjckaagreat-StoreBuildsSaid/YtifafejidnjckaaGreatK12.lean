/- Part of the proof: Q15, Q4, Q5, QA, PA1, PA2, PA3, PA4, PA5, PA6, PR1, PS1, PT6, PS2, PS3. -/
import Derived.Test.YtifafejidnjckaaGreatK11
set_option linter.unusedVariables false
set_option linter.unusedSimpArgs false
set_option maxRecDepth 100000
open Bool renaming and_eq_true → abA, false_eq_true → abK, or_eq_true → acu, true_and → acH, not_true → acO
open Int renaming toNat_natCast → abC
open List renaming getElem?_eq_getElem → abD, getElem?_eq_some_iff → abG, mem_of_getElem? → abJ, getElem?_append_right → abN, getD_eq_getElem?_getD → abO, length_cons → abR, getElem?_append_left → abS, drop_eq_getElem_cons → abT, getElem?_eq_none → abU, length_nil → ab4, drop_zero → acn, getElem?_cons_zero → acp, all_cons → acr, ext_getElem? → acx, getElem?_of_mem → acG, drop_eq_nil_of_le → acU, getElem?_set → acZ
open Nat renaming le_refl → abB, zero_add → abY, zero_le → aco, sub_self → acE
open Option renaming bind_some → abw
open Option.some renaming injEq → abz, inj → ab8
open Or renaming inr → ac3
namespace Go.Proofs.YtifafejidnjckaaGreat
open Go Go.R
open Go.IntKind (i64 u64 u8 u32)
def Bm:cu:=gj [0,1,4,5,10,14,21] [] [124,108,123,116,84,116,52,123,123] [] []
def cV.l0 (m:Nat)(s0:aj)(t0:ay):Nat→Int→Option (Sum Bool (Int))
 | 0,_=>none
 | k+1,n0=>(dM.f m t0).bind fun x2=>if (decide (n0≤x2))=true then ((gX.f m s0 t0 n0).bind fun x3=>if (!x3)=true then (some (.inl false)) else (cV.l0 m s0 t0 k (i64.wrap (n0+(1:Int))))) else (some (.inr n0))
def cV.f (m:Nat)(s0:aj)(t0:ay):Option (Bool):=(eK.f m s0).bind fun x0=>(dM.f m t0).bind fun x1=>if (!(x0==x1))=true then (some false) else ((cV.l0 m s0 t0 m (-1:Int)).bind fun bo=>match bo with | .inl r0=>some r0 | .inr n1=>some true)
def cV.fin (L:Mem)(r:Bool)(s:St):Prop:=∃av,aP Tryz.prog (s.open Bm) Tryz.f15.results.toList=some av∧fi s.h av (.bool r)
def XJ (cf:CallF)(m:Nat):Prop:=∀(s0:aj) (t0:ay) (r:Bool),cV.f m s0 t0=some r→∀h xs,aX b5 h xs [.fp [.bool s0.aF,af.fz s0.ae,aa.fz s0.aB] 0,.fp [af.fz t0.ai,aa.fz t0.an,.bool t0.aH] 0]→cf 15 xs h=some (.bool r,h)
section
variable {cf:CallF}{m:Nat}
theorem cV.cd (L:Mem)(s0:aj)(t0:ay)  (Lt:Ux cf m)(Ox:Vj cf m):b8 Tryz.prog cf Bm m (sub [1,1,0,1,0,0] (br Tryz.f15)) (fun k (σ:Int)=>cV.l0 m s0 t0 k σ) (fun σ s=>match σ with | n0=>∃h0,s=⟨.fp [.bool s0.aF,af.fz s0.ae,aa.fz s0.aB] 0 :: .fp [af.fz t0.ai,aa.fz t0.an,.bool t0.aH] 0 :: .any :: .int .i64 n0::j5 [],[],h0⟩∧Has h0 (L)) (fun out e s=>(e = .exit 0∧∃n0,.inr n0=out∧∃kX tw vk vl h0,s=⟨[kX,tw,.any,vk,.any,vl,.any],[],h0⟩∧Has h0 (L))∨(e = .ret∧∃r,.inl r=out∧cV.fin L r s)):=by
 refine iO (fun _=>rfl) ?_
 rintro k n0 s out ⟨h0,rfl,o0⟩ H
 have H:cV.l0 m s0 t0 (k+1) n0=some out:=H
 refine qq <| qq ?_
 obtain⟨x2,e2,H⟩:=aS H
 refine qr [.a 2 (Lt _ _ e2 h0 _ (er (ab (dJ (pure_cons (bG.aI (E:=af) (l:=t0.ai)) (pure_cons (bG.aI (E:=aa) (l:=t0.an)) (pure_cons (ba) (pure_nil))))) (aq))))] <| qc H (fun c1 H=>?_) (fun c1 H=>?_)
 ·refine qk <| qq <| qb 1 <| qq ?_
  obtain⟨x3,e3,H⟩:=aS H
  refine qr [.a 3 (Ox _ _ _ _ e3 h0 _ (er (ab (dJ (pure_cons (ba) (pure_cons (bG.aI (E:=af) (l:=s0.ae)) (pure_cons (bG.aI (E:=aa) (l:=s0.aB)) (pure_nil))))) (ab (dJ (pure_cons (bG.aI (E:=af) (l:=t0.ai)) (pure_cons (bG.aI (E:=aa) (l:=t0.an)) (pure_cons (ba) (pure_nil))))) (ab (aA) (aq))))))] <| qc H (fun c2 H=>?_) (fun c2 H=>?_)
  ·exact q1 <| qt <| ac3 (⟨rfl,_,oi H,bX (.bool false) h0 (bW (ao))⟩)
  ·exact qk <| q0 <| ⟨i64.wrap (n0+(1:Int)),⟨h0,by kernel_rfl,o0⟩,H⟩
 ·exact qx 0 <| Or.inl (⟨rfl,n0,oi H,.fp [.bool s0.aF,af.fz s0.ae,aa.fz s0.aB] 0,.fp [af.fz t0.ai,aa.fz t0.an,.bool t0.aH] 0,.int .i64 n0,.bool (decide (n0≤x2)),h0,by kernel_rfl,o0⟩)
theorem tO {a7:FuncId→cu}(ha:a7 15=Bm)(Vt:W6 cf m)(Lt:Ux cf m)(Ox:Vj cf m)(s0:aj)(t0:ay)(h:AHeap)(L:Mem)  (o:Has h (L)){out:Bool}(H:cV.f m s0 t0=some out) :
  ∃r h',bj Tryz.prog a7 cf m 15 [.fp [.bool s0.aF,af.fz s0.ae,aa.fz s0.aB] 0,.fp [af.fz t0.ai,aa.fz t0.an,.bool t0.aH] 0] h=some (r,h')∧fi h' r (.bool out):=by
 refine au (fn:=Tryz.f15) ha Tryz.func15 (by kernel_rfl) (by kernel_rfl) ?_
 refine aK (Q:=fun s=>cV.fin L out s) (fun _ _ h=>h) ?_
 have H:_=some out:=H
 unfold cV.f at H
 show dR _ cf Bm m _ ⟨.fp [.bool s0.aF,af.fz s0.ae,aa.fz s0.aB] 0 :: .fp [af.fz t0.ai,aa.fz t0.an,.bool t0.aH] 0::tu [],[],h⟩ _
 refine q1 <| qq <| qq ?_
 obtain⟨x0,e0,H⟩:=aS H
 obtain⟨x1,e1,H⟩:=aS H
 refine qr [.a 1 (Vt _ _ e0 h _ (er (ab (dJ (pure_cons (ba) (pure_cons (bG.aI (E:=af) (l:=s0.ae)) (pure_cons (bG.aI (E:=aa) (l:=s0.aB)) (pure_nil))))) (aq)))),.a 3 (Lt _ _ e1 h _ (er (ab (dJ (pure_cons (bG.aI (E:=af) (l:=t0.ai)) (pure_cons (bG.aI (E:=aa) (l:=t0.an)) (pure_cons (ba) (pure_nil))))) (aq))))] <| qc H (fun c0 H=>?_) (fun c0 H=>?_)
 ·obtain rfl:=oi H
  exact q1 <| qt <| ⟨.inl rfl,bX (.bool false) h (bW (ao))⟩
 ·refine qk <| qq <| qq <| q0 <| qb 0 ?_
  obtain⟨bo,e4,H⟩:=aS H
  refine ql (cV.cd L s0 t0  Lt Ox (-1:Int) _ _ ⟨h,by kernel_rfl,o⟩ e4) ?_
  rintro e s (⟨rfl,n1,rfl,g0,g1,g2,g3,h1,rfl,o1⟩| ⟨rfl,r0,rfl,qS⟩)
  ·try dsimp only at H
   obtain rfl:=oi H
   exact q1 <| qt <| ⟨.inl rfl,bX (.bool true) h1 (bW (ao))⟩
  ·try dsimp only at H
   obtain rfl:=oi H
   exact⟨.inl rfl,qS⟩
end
end Go.Proofs.YtifafejidnjckaaGreat
namespace Go.Proofs.YtifafejidnjckaaGreat
open Go Go.R
open Go.IntKind (i64 u64 u8 u32)
def Lu:cu:=gj [0,2,3,4,5,6,9,30] [] [254,190,253,242,195,99,253,253] [] []
def eY.f (m:Nat)(l0:List ah):Option (Bool):=if (decide ((l0.length:Int) > (60:Int)))=true then ((gT.f m).bind fun x0=>some x0) else ((bE.f m l0).bind fun x1=>H7 x1.1 ((bQ.f m l0).bind fun x2=>H7 x2.1 (if (!(x1.2==x2.2))=true then (some false) else (if (!(false==false))=true then (some false) else (if (!(x1.2==(0:Int)))=true then ((gT.f m).bind fun x3=>if x3=true then (some true) else (if (x1.2==(0:Int))=true then none else (some false))) else (if (x1.2==(0:Int))=true then none else (some false))))) fun iL=>if (!(x1.2==x2.2))=true then (some false) else (if (!(false==true))=true then (some false) else (if (!(x1.2==(0:Int)))=true then ((gT.f m).bind fun x4=>if x4=true then (some true) else (if (x1.2==(0:Int))=true then none else (some false))) else (if (x1.2==(0:Int))=true then none else (some false))))) fun bR=>(bQ.f m l0).bind fun x5=>H7 x5.1 (if (!(x1.2==x5.2))=true then (some false) else (if (!(true==false))=true then (some false) else (if (!(x1.2==(0:Int)))=true then ((gT.f m).bind fun x6=>if x6=true then (some true) else (if (x1.2==(0:Int))=true then none else (some false))) else (if (x1.2==(0:Int))=true then none else (some false))))) fun bf=>if (!(x1.2==x5.2))=true then (some false) else (if (!(true==true))=true then (some false) else (if (!(x1.2==(0:Int)))=true then ((gT.f m).bind fun x7=>if x7=true then (some true) else (if (x1.2==(0:Int))=true then ((cV.f m bR bf).bind fun x8=>if x8=true then ((gT.f m).bind fun x9=>some x9) else (some false)) else (some false))) else (if (x1.2==(0:Int))=true then ((cV.f m bR bf).bind fun mT=>if mT=true then ((gT.f m).bind fun C0=>some C0) else (some false)) else (some false)))))
def eY.fin (L:Mem)(r:Bool)(s:St):Prop:=∃av,aP Tryz.prog (s.open Lu) Tryz.f4.results.toList=some av∧fi s.h av (.bool r)
def S4 (cf:CallF)(m:Nat):Prop:=∀(l0:List ah) (r:Bool),eY.f m l0=some r→∀h xs,aX b5 h xs [af.fz l0]→cf 4 xs h=some (.bool r,h)
section
variable {cf:CallF}{m:Nat}
theorem nb {a7:FuncId→cu}(ha:a7 4=Lu)(Gg:S9 cf m)(RP:XC cf m)(Lv:Xy cf m)(Lw:XJ cf m)(l0:List ah)(h:AHeap)(L:Mem)  (o:Has h (L)){out:Bool}(H:eY.f m l0=some out) :
  ∃r h',bj Tryz.prog a7 cf m 4 [af.fz l0] h=some (r,h')∧fi h' r (.bool out):=by
 refine au (fn:=Tryz.f4) ha Tryz.func4 (by kernel_rfl) (by kernel_rfl) ?_
 refine aK (Q:=fun s=>eY.fin L out s) (fun _ _ h=>h) ?_
 have H:_=some out:=H
 unfold eY.f at H
 show dR _ cf Lu m _ ⟨af.fz l0::zV [],[],h⟩ _
 refine q1 <| qq <| qq <| q0 <| qc H (fun c0 H=>?_) (fun c0 H=>?_)
 ·refine qq ?_
  obtain⟨x0,e0,H⟩:=aS H
  obtain rfl:=oi H
  exact qr [.a 0 (Gg _ e0 h _ (er (aq)))] <| qt <| ⟨.inl rfl,bX (.bool x0) h (bW (ao))⟩
 ·refine qk <| qq ?_
  obtain⟨x1,e1,H⟩:=aS H
  rcases r6 H with⟨hn0,H⟩| ⟨bR,hn0,H⟩
  ·obtain⟨aV,dA,ca,h0,e2,o0⟩:=RP _ _ e1 h _  (o)  [af.fz l0] (aR (bU (sZ (E:=af))) (eO))
   rw [hn0] at e2 o0
   refine qr [.a 1 e2] <| qq ?_
   obtain⟨x2,e3,H⟩:=aS H
   rcases r6 H with⟨Hq,H⟩| ⟨iL,Hq,H⟩
   ·obtain⟨dj,eP,gd,h1,e4,o1⟩:=Lv _ _ e3 h0 _  (o0)  [af.fz l0] (aR (bU (sZ (E:=af))) (eO))
    rw [Hq] at e4 o1
    refine qr [.a 1 e4] <| qq <| qq ?_
    rcases eu H with⟨c1,H⟩| ⟨c1,H⟩
    ·obtain rfl:=oi H
     exact qr [.b 3 c1] <| zX <| qq <| q0 <| qt <| ⟨.inl rfl,bX (.bool false) h1 (bW (ao))⟩
    ·refine qr [.b 3 c1] <| qc H (fun c3 H=>?_) (fun c3 H=>?_)
     ·obtain rfl:=oi H
      exact q1 <| qt <| ⟨.inl rfl,bX (.bool false) h1 (bW (ao))⟩
     ·refine qk <| qq ?_
      rcases eu H with⟨c4,H⟩| ⟨c4,H⟩
      ·obtain⟨x3,e5,H⟩:=aS H
       rcases eu H with⟨c5,H⟩| ⟨c5,H⟩
       ·obtain rfl:=oi H
        exact qr [.b 2 c4,.a 3 (Gg _ e5 h1 _ (er (aq))),.b 5 c5] <| qt <| ⟨.inl rfl,bX (.bool true) h1 (bW (ao))⟩
       ·rcases eu H with⟨c6,H⟩| ⟨c6,H⟩
        ·cases H
        ·obtain rfl:=oi H
         exact qr [.b 2 c4,.a 3 (Gg _ e5 h1 _ (er (aq))),.b 5 c5,.b 8 c6] <| qt <| ⟨.inl rfl,bX (.bool false) h1 (bW (ao))⟩
      ·rcases eu H with⟨c7,H⟩| ⟨c7,H⟩
       ·cases H
       ·obtain rfl:=oi H
        exact qr [.b 2 c4,.b 8 c7] <| qt <| ⟨.inl rfl,bX (.bool false) h1 (bW (ao))⟩
   ·obtain⟨fS,gF,jb,h2,e6,o2⟩:=Lv _ _ e3 h0 _  (o0)  [af.fz l0] (aR (bU (sZ (E:=af))) (eO))
    rw [Hq] at e6 o2
    refine qr [.a 1 e6] <| qq <| qq ?_
    rcases eu H with⟨c8,H⟩| ⟨c8,H⟩
    ·refine qr [.b 3 c8] <| zX <| qq <| q0 ?_
     have o3:Has h2 ((fS,.ob [.rs gF 0 iL.ai.length 4,.rs jb 0 iL.an.length 1,.bool iL.aH])::(gF,.sl iL.ai.length 4 (af.l iL.ai))::L):=Has.del o2 2
     have o4:Has h2 ((fS,.ob [.rs gF 0 iL.ai.length 4,.rs jb 0 iL.an.length 1,.bool iL.aH])::L):=Has.del o3 1
     have o5:Has h2 (L):=Has.del o4 0
     obtain rfl:=oi H
     exact qt <| ⟨.inl rfl,bX (.bool false) h2 (bW (ao))⟩
    ·refine qr [.b 3 c8] <| qc H (fun wT H=>?_) (fun wT H=>?_)
     ·refine q1 ?_
      have o6:Has h2 ((fS,.ob [.rs gF 0 iL.ai.length 4,.rs jb 0 iL.an.length 1,.bool iL.aH])::(gF,.sl iL.ai.length 4 (af.l iL.ai))::L):=Has.del o2 2
      have o7:Has h2 ((fS,.ob [.rs gF 0 iL.ai.length 4,.rs jb 0 iL.an.length 1,.bool iL.aH])::L):=Has.del o6 1
      have o8:Has h2 (L):=Has.del o7 0
      obtain rfl:=oi H
      exact qt <| ⟨.inl rfl,bX (.bool false) h2 (bW (ao))⟩
     ·refine qk <| qq ?_
      rcases eu H with⟨oK,H⟩| ⟨oK,H⟩
      ·obtain⟨x4,e7,H⟩:=aS H
       rcases eu H with⟨tC,H⟩| ⟨tC,H⟩
       ·refine qr [.b 2 oK,.a 3 (Gg _ e7 h2 _ (er (aq))),.b 5 tC] ?_
        have o9:Has h2 ((fS,.ob [.rs gF 0 iL.ai.length 4,.rs jb 0 iL.an.length 1,.bool iL.aH])::(gF,.sl iL.ai.length 4 (af.l iL.ai))::L):=Has.del o2 2
        have qU:Has h2 ((fS,.ob [.rs gF 0 iL.ai.length 4,.rs jb 0 iL.an.length 1,.bool iL.aH])::L):=Has.del o9 1
        have oR:Has h2 (L):=Has.del qU 0
        obtain rfl:=oi H
        exact qt <| ⟨.inl rfl,bX (.bool true) h2 (bW (ao))⟩
       ·rcases eu H with⟨s7,H⟩| ⟨s7,H⟩
        ·cases H
        ·refine qr [.b 2 oK,.a 3 (Gg _ e7 h2 _ (er (aq))),.b 5 tC,.b 8 s7] ?_
         have s6:Has h2 ((fS,.ob [.rs gF 0 iL.ai.length 4,.rs jb 0 iL.an.length 1,.bool iL.aH])::(gF,.sl iL.ai.length 4 (af.l iL.ai))::L):=Has.del o2 2
         have lP:Has h2 ((fS,.ob [.rs gF 0 iL.ai.length 4,.rs jb 0 iL.an.length 1,.bool iL.aH])::L):=Has.del s6 1
         have vH:Has h2 (L):=Has.del lP 0
         obtain rfl:=oi H
         exact qt <| ⟨.inl rfl,bX (.bool false) h2 (bW (ao))⟩
      ·rcases eu H with⟨s8,H⟩| ⟨s8,H⟩
       ·cases H
       ·refine qr [.b 2 oK,.b 8 s8] ?_
        have xR:Has h2 ((fS,.ob [.rs gF 0 iL.ai.length 4,.rs jb 0 iL.an.length 1,.bool iL.aH])::(gF,.sl iL.ai.length 4 (af.l iL.ai))::L):=Has.del o2 2
        have mA:Has h2 ((fS,.ob [.rs gF 0 iL.ai.length 4,.rs jb 0 iL.an.length 1,.bool iL.aH])::L):=Has.del xR 1
        have zw:Has h2 (L):=Has.del mA 0
        obtain rfl:=oi H
        exact qt <| ⟨.inl rfl,bX (.bool false) h2 (bW (ao))⟩
  ·obtain⟨kB,b9,fW,h3,e8,xS⟩:=RP _ _ e1 h _  (o)  [af.fz l0] (aR (bU (sZ (E:=af))) (eO))
   rw [hn0] at e8 xS
   refine qr [.a 1 e8] <| qq ?_
   obtain⟨x5,e9,H⟩:=aS H
   rcases r6 H with⟨Hr,H⟩| ⟨bf,Hr,H⟩
   ·obtain⟨gG,fR,gR,h4,lg,ud⟩:=Lv _ _ e9 h3 _  (xS)  [af.fz l0] (aR (bU (sZ (E:=af))) (eO))
    rw [Hr] at lg ud
    refine qr [.a 1 lg] <| qq <| qq ?_
    rcases eu H with⟨EF,H⟩| ⟨EF,H⟩
    ·refine qr [.b 3 EF] <| zX <| qq <| q0 ?_
     have Lp:Has h4 ((kB,.ob [.bool bR.aF,.rs b9 0 bR.ae.length 4,.rs fW 0 bR.aB.length 1])::(b9,.sl bR.ae.length 4 (af.l bR.ae))::L):=Has.del ud 2
     have wX:Has h4 ((kB,.ob [.bool bR.aF,.rs b9 0 bR.ae.length 4,.rs fW 0 bR.aB.length 1])::L):=Has.del Lp 1
     have GX:Has h4 (L):=Has.del wX 0
     obtain rfl:=oi H
     exact qt <| ⟨.inl rfl,bX (.bool false) h4 (bW (ao))⟩
    ·refine qr [.b 3 EF] <| qc H (fun Gc H=>?_) (fun Gc H=>?_)
     ·refine q1 ?_
      have GY:Has h4 ((kB,.ob [.bool bR.aF,.rs b9 0 bR.ae.length 4,.rs fW 0 bR.aB.length 1])::(b9,.sl bR.ae.length 4 (af.l bR.ae))::L):=Has.del ud 2
      have IL:Has h4 ((kB,.ob [.bool bR.aF,.rs b9 0 bR.ae.length 4,.rs fW 0 bR.aB.length 1])::L):=Has.del GY 1
      have Pu:Has h4 (L):=Has.del IL 0
      obtain rfl:=oi H
      exact qt <| ⟨.inl rfl,bX (.bool false) h4 (bW (ao))⟩
     ·refine qk <| qq ?_
      rcases eu H with⟨GZ,H⟩| ⟨GZ,H⟩
      ·obtain⟨x6,mf,H⟩:=aS H
       rcases eu H with⟨Vu,H⟩| ⟨Vu,H⟩
       ·refine qr [.b 2 GZ,.a 3 (Gg _ mf h4 _ (er (aq))),.b 5 Vu] ?_
        have ot:Has h4 ((kB,.ob [.bool bR.aF,.rs b9 0 bR.ae.length 4,.rs fW 0 bR.aB.length 1])::(b9,.sl bR.ae.length 4 (af.l bR.ae))::L):=Has.del ud 2
        have J9:Has h4 ((kB,.ob [.bool bR.aF,.rs b9 0 bR.ae.length 4,.rs fW 0 bR.aB.length 1])::L):=Has.del ot 1
        have IM:Has h4 (L):=Has.del J9 0
        obtain rfl:=oi H
        exact qt <| ⟨.inl rfl,bX (.bool true) h4 (bW (ao))⟩
       ·rcases eu H with⟨IN,H⟩| ⟨IN,H⟩
        ·cases H
        ·refine qr [.b 2 GZ,.a 3 (Gg _ mf h4 _ (er (aq))),.b 5 Vu,.b 8 IN] ?_
         have Oi:Has h4 ((kB,.ob [.bool bR.aF,.rs b9 0 bR.ae.length 4,.rs fW 0 bR.aB.length 1])::(b9,.sl bR.ae.length 4 (af.l bR.ae))::L):=Has.del ud 2
         have Oj:Has h4 ((kB,.ob [.bool bR.aF,.rs b9 0 bR.ae.length 4,.rs fW 0 bR.aB.length 1])::L):=Has.del Oi 1
         have Rr:Has h4 (L):=Has.del Oj 0
         obtain rfl:=oi H
         exact qt <| ⟨.inl rfl,bX (.bool false) h4 (bW (ao))⟩
      ·rcases eu H with⟨XK,H⟩| ⟨XK,H⟩
       ·cases H
       ·refine qr [.b 2 GZ,.b 8 XK] ?_
        have Rs:Has h4 ((kB,.ob [.bool bR.aF,.rs b9 0 bR.ae.length 4,.rs fW 0 bR.aB.length 1])::(b9,.sl bR.ae.length 4 (af.l bR.ae))::L):=Has.del ud 2
        have XF:Has h4 ((kB,.ob [.bool bR.aF,.rs b9 0 bR.ae.length 4,.rs fW 0 bR.aB.length 1])::L):=Has.del Rs 1
        have o34:Has h4 (L):=Has.del XF 0
        obtain rfl:=oi H
        exact qt <| ⟨.inl rfl,bX (.bool false) h4 (bW (ao))⟩
   ·obtain⟨dm,b6,cE,h5,nI,oL⟩:=Lv _ _ e9 h3 _  (xS)  [af.fz l0] (aR (bU (sZ (E:=af))) (eO))
    rw [Hr] at nI oL
    refine qr [.a 1 nI] <| qq <| qq ?_
    rcases eu H with⟨Oq,H⟩| ⟨Oq,H⟩
    ·refine qr [.b 3 Oq] <| zX <| qq <| q0 ?_
     have Zg:Has h5 ((dm,.ob [.rs b6 0 bf.ai.length 4,.rs cE 0 bf.an.length 1,.bool bf.aH])::(b6,.sl bf.ai.length 4 (af.l bf.ai))::(cE,.sl bf.an.length 1 (aa.l bf.an))::(kB,.ob [.bool bR.aF,.rs b9 0 bR.ae.length 4,.rs fW 0 bR.aB.length 1])::(b9,.sl bR.ae.length 4 (af.l bR.ae))::L):=Has.del oL 5
     have Zh:Has h5 ((dm,.ob [.rs b6 0 bf.ai.length 4,.rs cE 0 bf.an.length 1,.bool bf.aH])::(b6,.sl bf.ai.length 4 (af.l bf.ai))::(cE,.sl bf.an.length 1 (aa.l bf.an))::(kB,.ob [.bool bR.aF,.rs b9 0 bR.ae.length 4,.rs fW 0 bR.aB.length 1])::L):=Has.del Zg 4
     have Zi:Has h5 ((dm,.ob [.rs b6 0 bf.ai.length 4,.rs cE 0 bf.an.length 1,.bool bf.aH])::(b6,.sl bf.ai.length 4 (af.l bf.ai))::(cE,.sl bf.an.length 1 (aa.l bf.an))::L):=Has.del Zh 3
     have Zj:Has h5 ((dm,.ob [.rs b6 0 bf.ai.length 4,.rs cE 0 bf.an.length 1,.bool bf.aH])::(b6,.sl bf.ai.length 4 (af.l bf.ai))::L):=Has.del Zi 2
     have Zk:Has h5 ((dm,.ob [.rs b6 0 bf.ai.length 4,.rs cE 0 bf.an.length 1,.bool bf.aH])::L):=Has.del Zj 1
     have o41:Has h5 (L):=Has.del Zk 0
     obtain rfl:=oi H
     exact qt <| ⟨.inl rfl,bX (.bool false) h5 (bW (ao))⟩
    ·refine qr [.b 3 Oq] <| qc H (fun UM H=>?_) (fun UM H=>?_)
     ·refine q1 ?_
      have Zl:Has h5 ((dm,.ob [.rs b6 0 bf.ai.length 4,.rs cE 0 bf.an.length 1,.bool bf.aH])::(b6,.sl bf.ai.length 4 (af.l bf.ai))::(cE,.sl bf.an.length 1 (aa.l bf.an))::(kB,.ob [.bool bR.aF,.rs b9 0 bR.ae.length 4,.rs fW 0 bR.aB.length 1])::(b9,.sl bR.ae.length 4 (af.l bR.ae))::L):=Has.del oL 5
      have Zm:Has h5 ((dm,.ob [.rs b6 0 bf.ai.length 4,.rs cE 0 bf.an.length 1,.bool bf.aH])::(b6,.sl bf.ai.length 4 (af.l bf.ai))::(cE,.sl bf.an.length 1 (aa.l bf.an))::(kB,.ob [.bool bR.aF,.rs b9 0 bR.ae.length 4,.rs fW 0 bR.aB.length 1])::L):=Has.del Zl 4
      have Zn:Has h5 ((dm,.ob [.rs b6 0 bf.ai.length 4,.rs cE 0 bf.an.length 1,.bool bf.aH])::(b6,.sl bf.ai.length 4 (af.l bf.ai))::(cE,.sl bf.an.length 1 (aa.l bf.an))::L):=Has.del Zm 3
      have Zo:Has h5 ((dm,.ob [.rs b6 0 bf.ai.length 4,.rs cE 0 bf.an.length 1,.bool bf.aH])::(b6,.sl bf.ai.length 4 (af.l bf.ai))::L):=Has.del Zn 2
      have Zp:Has h5 ((dm,.ob [.rs b6 0 bf.ai.length 4,.rs cE 0 bf.an.length 1,.bool bf.aH])::L):=Has.del Zo 1
      have o47:Has h5 (L):=Has.del Zp 0
      obtain rfl:=oi H
      exact qt <| ⟨.inl rfl,bX (.bool false) h5 (bW (ao))⟩
     ·refine qk <| qq ?_
      rcases eu H with⟨Kb,H⟩| ⟨Kb,H⟩
      ·obtain⟨x7,oJ,H⟩:=aS H
       rcases eu H with⟨Lq,H⟩| ⟨Lq,H⟩
       ·refine qr [.b 2 Kb,.a 3 (Gg _ oJ h5 _ (er (aq))),.b 5 Lq] ?_
        have Zq:Has h5 ((dm,.ob [.rs b6 0 bf.ai.length 4,.rs cE 0 bf.an.length 1,.bool bf.aH])::(b6,.sl bf.ai.length 4 (af.l bf.ai))::(cE,.sl bf.an.length 1 (aa.l bf.an))::(kB,.ob [.bool bR.aF,.rs b9 0 bR.ae.length 4,.rs fW 0 bR.aB.length 1])::(b9,.sl bR.ae.length 4 (af.l bR.ae))::L):=Has.del oL 5
        have Zr:Has h5 ((dm,.ob [.rs b6 0 bf.ai.length 4,.rs cE 0 bf.an.length 1,.bool bf.aH])::(b6,.sl bf.ai.length 4 (af.l bf.ai))::(cE,.sl bf.an.length 1 (aa.l bf.an))::(kB,.ob [.bool bR.aF,.rs b9 0 bR.ae.length 4,.rs fW 0 bR.aB.length 1])::L):=Has.del Zq 4
        have Zs:Has h5 ((dm,.ob [.rs b6 0 bf.ai.length 4,.rs cE 0 bf.an.length 1,.bool bf.aH])::(b6,.sl bf.ai.length 4 (af.l bf.ai))::(cE,.sl bf.an.length 1 (aa.l bf.an))::L):=Has.del Zr 3
        have Zt:Has h5 ((dm,.ob [.rs b6 0 bf.ai.length 4,.rs cE 0 bf.an.length 1,.bool bf.aH])::(b6,.sl bf.ai.length 4 (af.l bf.ai))::L):=Has.del Zs 2
        have Zu:Has h5 ((dm,.ob [.rs b6 0 bf.ai.length 4,.rs cE 0 bf.an.length 1,.bool bf.aH])::L):=Has.del Zt 1
        have o53:Has h5 (L):=Has.del Zu 0
        obtain rfl:=oi H
        exact qt <| ⟨.inl rfl,bX (.bool true) h5 (bW (ao))⟩
       ·rcases eu H with⟨SU,H⟩| ⟨SU,H⟩
        ·obtain⟨x8,uc,H⟩:=aS H
         rcases eu H with⟨Rz,H⟩| ⟨Rz,H⟩
         ·obtain⟨x9,wD,H⟩:=aS H
          refine qr [.b 2 Kb,.a 3 (Gg _ oJ h5 _ (er (aq))),.b 5 Lq,.b 8 SU,.a 11 (Lw _ _ _ uc h5 _ (er (ab (jT (q:=3) oL rfl (ab (lC) (ab (gu (E:=af) (l:=bR.ae) (q:=4) oL rfl (fun _=>rfl)) (ab (gu (E:=aa) (l:=bR.aB) (q:=5) oL rfl (fun _=>rfl)) (aq))))) (ab (jT (q:=0) oL rfl (ab (gu (E:=af) (l:=bf.ai) (q:=1) oL rfl (fun _=>rfl)) (ab (gu (E:=aa) (l:=bf.an) (q:=2) oL rfl (fun _=>rfl)) (ab (lC) (aq))))) (aq))))),.b 13 Rz,.a 14 (Gg _ wD h5 _ (er (aq)))] ?_
          have Zv:Has h5 ((dm,.ob [.rs b6 0 bf.ai.length 4,.rs cE 0 bf.an.length 1,.bool bf.aH])::(b6,.sl bf.ai.length 4 (af.l bf.ai))::(cE,.sl bf.an.length 1 (aa.l bf.an))::(kB,.ob [.bool bR.aF,.rs b9 0 bR.ae.length 4,.rs fW 0 bR.aB.length 1])::(b9,.sl bR.ae.length 4 (af.l bR.ae))::L):=Has.del oL 5
          have Zw:Has h5 ((dm,.ob [.rs b6 0 bf.ai.length 4,.rs cE 0 bf.an.length 1,.bool bf.aH])::(b6,.sl bf.ai.length 4 (af.l bf.ai))::(cE,.sl bf.an.length 1 (aa.l bf.an))::(kB,.ob [.bool bR.aF,.rs b9 0 bR.ae.length 4,.rs fW 0 bR.aB.length 1])::L):=Has.del Zv 4
          have Zx:Has h5 ((dm,.ob [.rs b6 0 bf.ai.length 4,.rs cE 0 bf.an.length 1,.bool bf.aH])::(b6,.sl bf.ai.length 4 (af.l bf.ai))::(cE,.sl bf.an.length 1 (aa.l bf.an))::L):=Has.del Zw 3
          have Zy:Has h5 ((dm,.ob [.rs b6 0 bf.ai.length 4,.rs cE 0 bf.an.length 1,.bool bf.aH])::(b6,.sl bf.ai.length 4 (af.l bf.ai))::L):=Has.del Zx 2
          have Zz:Has h5 ((dm,.ob [.rs b6 0 bf.ai.length 4,.rs cE 0 bf.an.length 1,.bool bf.aH])::L):=Has.del Zy 1
          have o59:Has h5 (L):=Has.del Zz 0
          obtain rfl:=oi H
          exact qt <| ⟨.inl rfl,bX (.bool x9) h5 (bW (ao))⟩
         ·refine qr [.b 2 Kb,.a 3 (Gg _ oJ h5 _ (er (aq))),.b 5 Lq,.b 8 SU,.a 11 (Lw _ _ _ uc h5 _ (er (ab (jT (q:=3) oL rfl (ab (lC) (ab (gu (E:=af) (l:=bR.ae) (q:=4) oL rfl (fun _=>rfl)) (ab (gu (E:=aa) (l:=bR.aB) (q:=5) oL rfl (fun _=>rfl)) (aq))))) (ab (jT (q:=0) oL rfl (ab (gu (E:=af) (l:=bf.ai) (q:=1) oL rfl (fun _=>rfl)) (ab (gu (E:=aa) (l:=bf.an) (q:=2) oL rfl (fun _=>rfl)) (ab (lC) (aq))))) (aq))))),.b 13 Rz] ?_
          have ZA:Has h5 ((dm,.ob [.rs b6 0 bf.ai.length 4,.rs cE 0 bf.an.length 1,.bool bf.aH])::(b6,.sl bf.ai.length 4 (af.l bf.ai))::(cE,.sl bf.an.length 1 (aa.l bf.an))::(kB,.ob [.bool bR.aF,.rs b9 0 bR.ae.length 4,.rs fW 0 bR.aB.length 1])::(b9,.sl bR.ae.length 4 (af.l bR.ae))::L):=Has.del oL 5
          have ZB:Has h5 ((dm,.ob [.rs b6 0 bf.ai.length 4,.rs cE 0 bf.an.length 1,.bool bf.aH])::(b6,.sl bf.ai.length 4 (af.l bf.ai))::(cE,.sl bf.an.length 1 (aa.l bf.an))::(kB,.ob [.bool bR.aF,.rs b9 0 bR.ae.length 4,.rs fW 0 bR.aB.length 1])::L):=Has.del ZA 4
          have ZC:Has h5 ((dm,.ob [.rs b6 0 bf.ai.length 4,.rs cE 0 bf.an.length 1,.bool bf.aH])::(b6,.sl bf.ai.length 4 (af.l bf.ai))::(cE,.sl bf.an.length 1 (aa.l bf.an))::L):=Has.del ZB 3
          have ZD:Has h5 ((dm,.ob [.rs b6 0 bf.ai.length 4,.rs cE 0 bf.an.length 1,.bool bf.aH])::(b6,.sl bf.ai.length 4 (af.l bf.ai))::L):=Has.del ZC 2
          have ZE:Has h5 ((dm,.ob [.rs b6 0 bf.ai.length 4,.rs cE 0 bf.an.length 1,.bool bf.aH])::L):=Has.del ZD 1
          have o65:Has h5 (L):=Has.del ZE 0
          obtain rfl:=oi H
          exact qt <| ⟨.inl rfl,bX (.bool false) h5 (bW (ao))⟩
        ·refine qr [.b 2 Kb,.a 3 (Gg _ oJ h5 _ (er (aq))),.b 5 Lq,.b 8 SU] ?_
         have ZF:Has h5 ((dm,.ob [.rs b6 0 bf.ai.length 4,.rs cE 0 bf.an.length 1,.bool bf.aH])::(b6,.sl bf.ai.length 4 (af.l bf.ai))::(cE,.sl bf.an.length 1 (aa.l bf.an))::(kB,.ob [.bool bR.aF,.rs b9 0 bR.ae.length 4,.rs fW 0 bR.aB.length 1])::(b9,.sl bR.ae.length 4 (af.l bR.ae))::L):=Has.del oL 5
         have ZG:Has h5 ((dm,.ob [.rs b6 0 bf.ai.length 4,.rs cE 0 bf.an.length 1,.bool bf.aH])::(b6,.sl bf.ai.length 4 (af.l bf.ai))::(cE,.sl bf.an.length 1 (aa.l bf.an))::(kB,.ob [.bool bR.aF,.rs b9 0 bR.ae.length 4,.rs fW 0 bR.aB.length 1])::L):=Has.del ZF 4
         have ZH:Has h5 ((dm,.ob [.rs b6 0 bf.ai.length 4,.rs cE 0 bf.an.length 1,.bool bf.aH])::(b6,.sl bf.ai.length 4 (af.l bf.ai))::(cE,.sl bf.an.length 1 (aa.l bf.an))::L):=Has.del ZG 3
         have ZI:Has h5 ((dm,.ob [.rs b6 0 bf.ai.length 4,.rs cE 0 bf.an.length 1,.bool bf.aH])::(b6,.sl bf.ai.length 4 (af.l bf.ai))::L):=Has.del ZH 2
         have ZJ:Has h5 ((dm,.ob [.rs b6 0 bf.ai.length 4,.rs cE 0 bf.an.length 1,.bool bf.aH])::L):=Has.del ZI 1
         have o71:Has h5 (L):=Has.del ZJ 0
         obtain rfl:=oi H
         exact qt <| ⟨.inl rfl,bX (.bool false) h5 (bW (ao))⟩
      ·rcases eu H with⟨SV,H⟩| ⟨SV,H⟩
       ·obtain⟨mT,wE,H⟩:=aS H
        rcases eu H with⟨Vv,H⟩| ⟨Vv,H⟩
        ·obtain⟨C0,zh,H⟩:=aS H
         refine qr [.b 2 Kb,.b 8 SV,.a 11 (Lw _ _ _ wE h5 _ (er (ab (jT (q:=3) oL rfl (ab (lC) (ab (gu (E:=af) (l:=bR.ae) (q:=4) oL rfl (fun _=>rfl)) (ab (gu (E:=aa) (l:=bR.aB) (q:=5) oL rfl (fun _=>rfl)) (aq))))) (ab (jT (q:=0) oL rfl (ab (gu (E:=af) (l:=bf.ai) (q:=1) oL rfl (fun _=>rfl)) (ab (gu (E:=aa) (l:=bf.an) (q:=2) oL rfl (fun _=>rfl)) (ab (lC) (aq))))) (aq))))),.b 13 Vv,.a 14 (Gg _ zh h5 _ (er (aq)))] ?_
         have ZK:Has h5 ((dm,.ob [.rs b6 0 bf.ai.length 4,.rs cE 0 bf.an.length 1,.bool bf.aH])::(b6,.sl bf.ai.length 4 (af.l bf.ai))::(cE,.sl bf.an.length 1 (aa.l bf.an))::(kB,.ob [.bool bR.aF,.rs b9 0 bR.ae.length 4,.rs fW 0 bR.aB.length 1])::(b9,.sl bR.ae.length 4 (af.l bR.ae))::L):=Has.del oL 5
         have ZL:Has h5 ((dm,.ob [.rs b6 0 bf.ai.length 4,.rs cE 0 bf.an.length 1,.bool bf.aH])::(b6,.sl bf.ai.length 4 (af.l bf.ai))::(cE,.sl bf.an.length 1 (aa.l bf.an))::(kB,.ob [.bool bR.aF,.rs b9 0 bR.ae.length 4,.rs fW 0 bR.aB.length 1])::L):=Has.del ZK 4
         have ZM:Has h5 ((dm,.ob [.rs b6 0 bf.ai.length 4,.rs cE 0 bf.an.length 1,.bool bf.aH])::(b6,.sl bf.ai.length 4 (af.l bf.ai))::(cE,.sl bf.an.length 1 (aa.l bf.an))::L):=Has.del ZL 3
         have ZN:Has h5 ((dm,.ob [.rs b6 0 bf.ai.length 4,.rs cE 0 bf.an.length 1,.bool bf.aH])::(b6,.sl bf.ai.length 4 (af.l bf.ai))::L):=Has.del ZM 2
         have ZO:Has h5 ((dm,.ob [.rs b6 0 bf.ai.length 4,.rs cE 0 bf.an.length 1,.bool bf.aH])::L):=Has.del ZN 1
         have o77:Has h5 (L):=Has.del ZO 0
         obtain rfl:=oi H
         exact qt <| ⟨.inl rfl,bX (.bool C0) h5 (bW (ao))⟩
        ·refine qr [.b 2 Kb,.b 8 SV,.a 11 (Lw _ _ _ wE h5 _ (er (ab (jT (q:=3) oL rfl (ab (lC) (ab (gu (E:=af) (l:=bR.ae) (q:=4) oL rfl (fun _=>rfl)) (ab (gu (E:=aa) (l:=bR.aB) (q:=5) oL rfl (fun _=>rfl)) (aq))))) (ab (jT (q:=0) oL rfl (ab (gu (E:=af) (l:=bf.ai) (q:=1) oL rfl (fun _=>rfl)) (ab (gu (E:=aa) (l:=bf.an) (q:=2) oL rfl (fun _=>rfl)) (ab (lC) (aq))))) (aq))))),.b 13 Vv] ?_
         have ZP:Has h5 ((dm,.ob [.rs b6 0 bf.ai.length 4,.rs cE 0 bf.an.length 1,.bool bf.aH])::(b6,.sl bf.ai.length 4 (af.l bf.ai))::(cE,.sl bf.an.length 1 (aa.l bf.an))::(kB,.ob [.bool bR.aF,.rs b9 0 bR.ae.length 4,.rs fW 0 bR.aB.length 1])::(b9,.sl bR.ae.length 4 (af.l bR.ae))::L):=Has.del oL 5
         have ZQ:Has h5 ((dm,.ob [.rs b6 0 bf.ai.length 4,.rs cE 0 bf.an.length 1,.bool bf.aH])::(b6,.sl bf.ai.length 4 (af.l bf.ai))::(cE,.sl bf.an.length 1 (aa.l bf.an))::(kB,.ob [.bool bR.aF,.rs b9 0 bR.ae.length 4,.rs fW 0 bR.aB.length 1])::L):=Has.del ZP 4
         have ZR:Has h5 ((dm,.ob [.rs b6 0 bf.ai.length 4,.rs cE 0 bf.an.length 1,.bool bf.aH])::(b6,.sl bf.ai.length 4 (af.l bf.ai))::(cE,.sl bf.an.length 1 (aa.l bf.an))::L):=Has.del ZQ 3
         have ZS:Has h5 ((dm,.ob [.rs b6 0 bf.ai.length 4,.rs cE 0 bf.an.length 1,.bool bf.aH])::(b6,.sl bf.ai.length 4 (af.l bf.ai))::L):=Has.del ZR 2
         have ZT:Has h5 ((dm,.ob [.rs b6 0 bf.ai.length 4,.rs cE 0 bf.an.length 1,.bool bf.aH])::L):=Has.del ZS 1
         have o83:Has h5 (L):=Has.del ZT 0
         obtain rfl:=oi H
         exact qt <| ⟨.inl rfl,bX (.bool false) h5 (bW (ao))⟩
       ·refine qr [.b 2 Kb,.b 8 SV] ?_
        have ZU:Has h5 ((dm,.ob [.rs b6 0 bf.ai.length 4,.rs cE 0 bf.an.length 1,.bool bf.aH])::(b6,.sl bf.ai.length 4 (af.l bf.ai))::(cE,.sl bf.an.length 1 (aa.l bf.an))::(kB,.ob [.bool bR.aF,.rs b9 0 bR.ae.length 4,.rs fW 0 bR.aB.length 1])::(b9,.sl bR.ae.length 4 (af.l bR.ae))::L):=Has.del oL 5
        have ZV:Has h5 ((dm,.ob [.rs b6 0 bf.ai.length 4,.rs cE 0 bf.an.length 1,.bool bf.aH])::(b6,.sl bf.ai.length 4 (af.l bf.ai))::(cE,.sl bf.an.length 1 (aa.l bf.an))::(kB,.ob [.bool bR.aF,.rs b9 0 bR.ae.length 4,.rs fW 0 bR.aB.length 1])::L):=Has.del ZU 4
        have ZW:Has h5 ((dm,.ob [.rs b6 0 bf.ai.length 4,.rs cE 0 bf.an.length 1,.bool bf.aH])::(b6,.sl bf.ai.length 4 (af.l bf.ai))::(cE,.sl bf.an.length 1 (aa.l bf.an))::L):=Has.del ZV 3
        have ZX:Has h5 ((dm,.ob [.rs b6 0 bf.ai.length 4,.rs cE 0 bf.an.length 1,.bool bf.aH])::(b6,.sl bf.ai.length 4 (af.l bf.ai))::L):=Has.del ZW 2
        have ZY:Has h5 ((dm,.ob [.rs b6 0 bf.ai.length 4,.rs cE 0 bf.an.length 1,.bool bf.aH])::L):=Has.del ZX 1
        have o89:Has h5 (L):=Has.del ZY 0
        obtain rfl:=oi H
        exact qt <| ⟨.inl rfl,bX (.bool false) h5 (bW (ao))⟩
end
end Go.Proofs.YtifafejidnjckaaGreat
namespace Go.Proofs.YtifafejidnjckaaGreat
open Go Go.R
open Go.IntKind (i64 u64 u8 u32)
end Go.Proofs.YtifafejidnjckaaGreat
namespace Go.Uf
open Go Go.R
open Go.IntKind (i64 u64 u8 u32)
def uf (to:List Int)(n:Int):Int:=to.getD n.toNat n
def kC (to:List Int):Nat→Int→Int
 | 0,n=>n
 | k+1,n=>uf to (kC to k n)
def Lx:List Int→Nat→Nat
 | [],_=>0
 | x::l,i=>(if x=(i:Int) then 0 else 1)+Lx l (i+1)
def IY (to:List Int):Nat:=Lx to 0
def rp (to:List Int)(n:Int):Int:=kC to (IY to) n
def Rg (len:Nat)(n:Int):Prop:=0≤n∧n<len
instance (len:Nat) (n:Int):Decidable (Rg len n):=inferInstanceAs (Decidable (_∧_))
structure MG (to:List Int):Prop where
 rg:∀n,Rg to.length n→Rg to.length (uf to n)
 rt:∀n,Rg to.length n→uf to (rp to n)=rp to n
theorem IZ:∀(l:List Int) (i:Nat),Lx l i≤l.length
 | [],_=>abB _
 | x::l,i=>by
  have:=IZ l (i+1)
  simp only [Lx,abR]
  split<;>omega
theorem Oy (to:List Int):IY to≤to.length:=IZ to 0
theorem EV:∀(l:List Int) (i:Nat),Lx (l++[((i+l.length:Nat):Int)]) i=Lx l i
 | [],i=>by simp [Lx]
 | x::l,i=>by
  have:=EV l (i+1)
  have e:i+(x::l).length=i+1+l.length:=by simp only [abR]; omega
  rw [e]
  show _+Lx (l++_) (i+1)=_+Lx l (i+1)
  rw [this]
section
variable {to:List Int}{a b n:Int}
theorem Ly (h:Rg to.length n):to[n.toNat]? = some (uf to n):=by
 have hl:n.toNat<to.length:=by have:=h.1; have:=h.2; omega
 unfold uf
 rw [abO,abD hl]; rfl
theorem Oz (h:Rg to.length n):ix to n=some (uf to n):=by
 unfold ix; rw [if_pos h.1,Ly h]
theorem zA (o:MG to)(h:Rg to.length n):∀k,Rg to.length (kC to k n)
 | 0=>h
 | k+1=>o.rg _ (zA o h k)
theorem RQ (o:MG to)(h:Rg to.length n):Rg to.length (rp to n):=zA o h _
theorem Bn (h:uf to n=n):∀k,kC to k n=n
 | 0=>rfl
 | k+1=>by show uf to (kC to k n)=n; rw [Bn h k,h]
theorem vS (h:uf to n=n):rp to n=n:=Bn h _
theorem Bo {d:Nat}(h:uf to (kC to d n)=kC to d n):∀e,kC to (d+e) n=kC to d n
 | 0=>rfl
 | e+1=>by show uf to (kC to (d+e) n)=_; rw [Bo h e,h]
theorem Lz {d:Nat}(hd:d≤IY to)(h:uf to (kC to d n)=kC to d n):rp to n=kC to d n:=by
 have:=Bo h (IY to - d)
 rw [Nat.add_sub_cancel' hd] at this
 exact this
theorem RR (o:MG to):MG (to++[(to.length:Int)])∧(∀n,Rg to.length n→rp (to++[(to.length:Int)]) n=rp to n)∧rp (to++[(to.length:Int)]) (to.length:Int)=(to.length:Int):=by
 have hl:(to++[(to.length:Int)]).length=to.length+1:=by simp
 have hn:IY (to++[(to.length:Int)])=IY to:=by
  have:=EV to 0
  rw [abY] at this
  exact this
 have hs:∀n,Rg to.length n→uf (to++[(to.length:Int)]) n=uf to n:=fun n h=>by
  have:n.toNat<to.length:=by have:=h.1; have:=h.2; omega
  unfold uf
  rw [abO,abO,abS this]
 have hz:uf (to++[(to.length:Int)]) (to.length:Int)=(to.length:Int):=by
  unfold uf
  rw [abO,abC,abN (abB _),acE]; rfl
 have hi:∀n,Rg to.length n→∀k,kC (to++[(to.length:Int)]) k n=kC to k n:=fun n h k=>by
  induction k with
  | zero=>rfl
  | succ k ih=>show uf _ (kC _ k n)=uf to (kC to k n); rw [ih,hs _ (zA o h k)]
 have hr:∀n,Rg to.length n→rp (to++[(to.length:Int)]) n=rp to n:=fun n h=>by
  unfold rp; rw [hn]; exact hi n h _
 have hc:∀n,Rg (to.length+1) n→Rg to.length n∨n=to.length:=fun n h=>by
  unfold Rg at h ⊢; omega
 refine⟨⟨fun n h=>?_,fun n h=>?_⟩,hr,vS hz⟩
 ·rw [hl] at h ⊢
  rcases hc n h with h | rfl
  ·rw [hs n h]; have:=o.rg n h; unfold Rg at this ⊢; omega
  ·rw [hz]; exact h
 ·rw [hl] at h
  rcases hc n h with h | rfl
  ·rw [hr n h,hs _ (RQ o h),o.rt n h]
  ·rw [vS hz,hz]
end
theorem EW:MG []:=⟨fun n h=>by have:=h.1; have:=h.2; simp at this; omega,fun n h=>by have:=h.1; have:=h.2; simp at this; omega⟩
end Go.Uf
namespace Go.Uf
open Go Go.R
open Go.IntKind (i64 u64 u8 u32)
def gI (N:List ah)(n:Int):ah:=N.getD n.toNat ⟨0,0,⟨#[]⟩,[]⟩
def sy (N:List ah)(n:Int):Prop:=(gI N n).kind≠0
instance (N:List ah) (n:Int):Decidable (sy N n):=inferInstanceAs (Decidable (_≠_))
def Bt (N:List ah)(a b:Int):Prop:=(sy N a∧¬sy N b)∨((sy N a↔sy N b)∧a≤b)
def oX (a b:ah):Prop:=a.kind=b.kind∧a.int=b.int∧a.label.data.toList=b.label.data.toList∧a.args.length=b.args.length
structure Cn (N:List ah)(R:Int→Int):Prop where
 rg:∀n,Rg N.length n→Rg N.length (R n)
 id:∀n,Rg N.length n→R (R n)=R n
 bt:∀n,Rg N.length n→Bt N (R n) n
def Cl (N:List ah)(T:Int→Int):Prop:=∀x y,Rg N.length x→Rg N.length y→T x=T y→sy N x→sy N y→oX (gI N x) (gI N y)∧∀(i:Nat) (a b:Int),(gI N x).args[i]? = some a→(gI N y).args[i]? = some b→T a=T b
def Vw (N:List ah)(R T:Int→Int):Prop:=∀x y,Rg N.length x→Rg N.length y→R x=R y→T x=T y
def OA (N:List ah):Prop:=∀v∈N,v.args.length≤8∧∀a∈v.args,Rg N.length a
section
variable {N:List ah}{R T:Int→Int}{a b x y n:Int}
theorem zB (h:Rg N.length n):N[n.toNat]? = some (gI N n):=by
 have hl:n.toNat<N.length:=by have:=h.1; have:=h.2; omega
 unfold gI
 rw [abO,abD hl]; rfl
theorem vT (h:Rg N.length n):ix N n=some (gI N n):=by
 unfold ix; rw [if_pos h.1,zB h]
theorem jK (h:Rg N.length n):gI N n∈N:=abJ (zB h)
theorem Bt.refl:Bt N a a:=.inr ⟨Iff.rfl,Int.le_refl _⟩
end
end Go.Uf
namespace Go.Uf
open Go Go.R
open Go.IntKind (i64 u64 u8 u32)
theorem RU (x:Int):i64.wrap x=if x % 18446744073709551616≥9223372036854775808 then x % 18446744073709551616 - 18446744073709551616 else x % 18446744073709551616:=by
 unfold IntKind.wrap; simp [IntKind.signed,IntKind.bits]
theorem lj {x:Int}(h0 : -9223372036854775808≤x)(h1:x<9223372036854775808):i64.wrap x=x:=by
 rw [RU]; split<;>omega
theorem xU {α:Type}{l:List α}{i:Nat}{a:α}(h:l[i]? = some a):ix l (i:Int)=some a:=by
 unfold ix; rw [if_pos (Int.natCast_nonneg _),abC,h]
theorem vU {α:Type}{b:Nat}{l l2:List α}(h:(l.length+l2.length)*(b+1)≤1099511627776):app b l l2=some (l++l2):=by
 unfold app; rw [if_pos h]
end Go.Uf
namespace Go.Proofs.YtifafejidnjckaaGreat
open Go Go.R Go.Uf
open Go.IntKind (i64 u64 u8 u32)
structure Inv (s:aj):Prop where
 made:s.aF=true
 len:s.aB.length=s.ae.length
 max:s.ae.length≤8000
 ok:MG s.aB
 cn:Cn s.ae (rp s.aB)
 args:OA s.ae
section
variable {m:Nat}{s:aj}{a b n:Int}
theorem Inv.rg (v:Inv s)(h:Rg s.ae.length n):Rg s.aB.length n:=by rw [v.len]; exact h
theorem I0 (v:Inv s)(h:Rg s.ae.length n):∀(k d:Nat),d≤IY s.aB→IY s.aB<k+d→bz.l0 m s k (kC s.aB d n)=some (rp s.aB n)
 | 0,d,h1,h2=>by omega
 | k+1,d,h1,h2=>by
  have hr:=zA v.ok (v.rg h) d
  simp only [bz.l0,Oz hr,abw]
  by_cases he:uf s.aB (kC s.aB d n)=kC s.aB d n
  ·rw [Lz h1 he]
   simp [he]
  ·have hd:d<IY s.aB:=by
    rcases Nat.lt_or_ge d (IY s.aB) with h3 | h3
    ·exact h3
    ·have h4:d=IY s.aB:=by omega
     exact absurd (h4 ▸ v.ok.rt n (v.rg h)) he
   have:=I0 v h k (d+1) hd (by omega)
   simp only [kC] at this
   rw [this]
   have hb:(uf s.aB (kC s.aB d n)==kC s.aB d n)=false:=by simpa using he
   simp [hb]
theorem Bp (hm:16000≤m)(v:Inv s)(h:Rg s.ae.length n):bz.f m s n=some (rp s.aB n):=by
 have h1:=Oy s.aB
 have h2:=v.len
 have h3:=v.max
 have:=I0 (m:=m) v h m 0 (aco _) (by omega)
 simp only [kC] at this
 simp only [bz.f,this,abw]
theorem OB (h:Rg s.ae.length n):eH.f m s n=some ((gI s.ae n).kind==0):=by
 simp only [eH.f,vT h,abw]
theorem LA:dV.f m s n=some (decide (Rg s.ae.length n)):=by
 unfold dV.f Rg
 by_cases h1:n≥0<;>by_cases h2:n<(s.ae.length:Int)<;>simp [h1,h2]
end
end Go.Proofs.YtifafejidnjckaaGreat
namespace Go.Proofs.YtifafejidnjckaaGreat
open Go Go.R Go.Uf
open Go.IntKind (i64 u64 u8 u32)
end Go.Proofs.YtifafejidnjckaaGreat
namespace Go.Uf
open Go Go.R
open Go.IntKind (i64 u64 u8 u32)
end Go.Uf
namespace Go.Proofs.YtifafejidnjckaaGreat
open Go Go.R Go.Uf
open Go.IntKind (i64 u64 u8 u32)
end Go.Proofs.YtifafejidnjckaaGreat
namespace Go.Proofs.YtifafejidnjckaaGreat
open Go Go.R Go.Uf
open Go.IntKind (i64 u64 u8 u32)
section
variable {m:Nat}{s s':aj}
theorem Bq {f:Int→Option Bool}{g:Int→Bool}(l:List Int)(hl:l.length≤1000000)(hf:∀x∈l,f x=some (g x)):∀(k i:Nat),i≤l.length→l.length - i<k→
  (∃j:Nat,dC.l0 m l f k (i:Int)=some (.inl (j:Int))∧i≤j∧j<l.length∧(∀x,l[j]? = some x→g x=true)∧∀q,i≤q→q<j→∀x,l[q]? = some x→g x=false)∨
  (∃z,dC.l0 m l f k (i:Int)=some (.inr z)∧∀q,i≤q→∀x,l[q]? = some x→g x=false)
 | 0,i,h1,h2=>by omega
 | k+1,i,h1,h2=>by
  simp only [dC.l0]
  by_cases hi:i<l.length
  ·have d:decide ((i:Int)<(l.length:Int))=true:=by rw [decide_eq_true_eq]; omega
   have el:=abD hi
   generalize l[i]=n at el
   have ew:i64.wrap ((i:Int)+1)=((i+1:Nat):Int):=by rw [lj (by omega) (by omega)]; omega
   rw [if_pos d,xU el]
   simp only [abw,hf n (abJ el),ew]
   cases hg:g n with
   | true=>
    left
    refine⟨i,by simp,abB _,hi,fun x hx=>?_,fun q h3 h4=>by omega⟩
    rw [el] at hx; cases hx; exact hg
   | false=>
    rw [if_neg (by decide)]
    have uf:∀q,i≤q→q≠i→i+1≤q:=fun q h3 h4=>by omega
    rcases Bq l hl hf k (i+1) (by omega) (by omega) with⟨j,e,j1,j2,j3,j4⟩| ⟨z,e,j4⟩
    ·left
     refine⟨j,e,by omega,j2,j3,fun q h3 h4 x hx=>?_⟩
     by_cases hq:q=i
     ·subst hq; rw [el] at hx; cases hx; exact hg
     ·exact j4 q (uf q h3 hq) h4 x hx
    ·right
     refine⟨z,e,fun q h3 x hx=>?_⟩
     by_cases hq:q=i
     ·subst hq; rw [el] at hx; cases hx; exact hg
     ·exact j4 q (uf q h3 hq) x hx
  ·have d:decide ((i:Int)<(l.length:Int))=false:=by rw [decide_eq_false_iff_not]; omega
   rw [if_neg (by rw [d]; decide)]
   right
   refine⟨_,rfl,fun q h3 x hx=>?_⟩
   rw [abU (by omega)] at hx; cases hx
theorem EX {f:Int→Option Bool}{g:Int→Bool}(hm:2000000≤m)(l:List Int)(hl:l.length≤1000000)(hf:∀x∈l,f x=some (g x)) :
  (∃j:Nat,dC.f m l f=some (j:Int)∧j<l.length∧(∀x,l[j]? = some x→g x=true)∧∀q,q<j→∀x,l[q]? = some x→g x=false)∨
  (dC.f m l f=some (-1)∧∀x∈l,g x=false):=by
 rcases Bq (m:=m) l hl hf m 0 (aco _) (by omega) with⟨j,e,j1,j2,j3,j4⟩| ⟨z,e,j4⟩
 ·left
  have e:dC.l0 m l f m 0=_:=e
  refine⟨j,by simp only [dC.f,e,abw],j2,j3,fun q=>j4 q (aco _)⟩
 ·right
  have e:dC.l0 m l f m 0=_:=e
  refine⟨by simp only [dC.f,e,abw],fun x hx=>?_⟩
  obtain⟨q,hq⟩:=acG hx
  exact j4 q (aco _) x hq
theorem De {f:Int→Option Bool}{g:Int→Bool}(hm:2000000≤m)(l:List Int)(hl:l.length≤1000000)(hf:∀x∈l,f x=some (g x)):fY.f m l f=some (l.any g):=by
 unfold fY.f
 rcases EX hm l hl hf with⟨j,e,j1,j2,_⟩| ⟨e,h⟩
 ·rw [e,abw]
  have h1:=abD j1
  have:l.any g=true:=List.any_eq_true.2 ⟨_,abJ h1,j2 _ h1⟩
  rw [this]
  rw [show decide ((j:Int)≥0)=true by rw [decide_eq_true_eq]; omega]
 ·rw [e,abw]
  have:l.any g=false:=by
   rw [List.any_eq_false]
   intro x hx; simp [h x hx]
  rw [this]; rfl
theorem rf (hm:2000000≤m)(hs:s.aF=true)(l:List Int)(hl:l.length≤1000000):cH.f m s l=some (if l.all (fun n=>decide (Rg s.ae.length n)) then 0 else 1):=by
 unfold cH.f dL.f
 rw [hs]
 simp only [abw,acO,abK,if_false]
 rw [De hm l hl (g:=fun n=>!decide (Rg s.ae.length n)) (fun x _=>by simp only [dS.f,LA,abw])]
 rw [abw]
 have:(l.any fun n=>!decide (Rg s.ae.length n)) = !(l.all fun n=>decide (Rg s.ae.length n)):=by
  induction l with
  | nil=>rfl
  | cons a l ih=>simp only [List.any_cons,acr,Bool.not_and,ih (by simp only [abR] at hl; omega)]
 rw [this]
 cases (l.all fun n=>decide (Rg s.ae.length n))<;>rfl
end
end Go.Proofs.YtifafejidnjckaaGreat
namespace Go.R
open Go
open Go.IntKind (i64 u64 u8 u32)
theorem I1 (x:Int):u64.wrap x=x % 18446744073709551616:=by
 unfold IntKind.wrap; simp [IntKind.signed,IntKind.bits]
theorem OC {x:Int}(h0:0≤x)(h1:x<18446744073709551616):u64.wrap x=x:=by
 rw [I1,Int.emod_eq_of_lt h0 h1]
theorem I2 (x:Int):i64.wrap x=if x % 18446744073709551616≥9223372036854775808 then x % 18446744073709551616 - 18446744073709551616 else x % 18446744073709551616:=by
 unfold IntKind.wrap; simp [IntKind.signed,IntKind.bits]
theorem bl {x:Int}(h0 : -9223372036854775808≤x)(h1:x<9223372036854775808):i64.wrap x=x:=by
 rw [I2]; split<;>omega
end Go.R
namespace Go.Proofs.YtifafejidnjckaaGreat
open Go Go.R
open Go.IntKind (i64 u64 u8 u32)
def gt (l:List Int)(k:Nat):Int:=l.getD k 0
theorem bP {l:List Int}{k:Nat}(h:k<l.length):l[k]? = some (gt l k):=by
 unfold gt; rw [abO,abD h]; rfl
theorem a8 {l:List Int}{k:Nat}(h:k<l.length):gt l k∈l:=abJ (bP h)
theorem dv {l:List Int}{k:Nat}(h:k<l.length):ix l (k:Int)=some (gt l k):=by
 unfold ix; rw [if_pos (by omega),abC,bP h]
theorem gP {l:List Int}{i:Int}{k:Nat}(hi:i=(k:Int))(h:k<l.length):ix l i=some (gt l k):=by rw [hi,dv h]
theorem fL {l:List Int}{i k:Nat}{x:Int}(hi:i<l.length):gt (l.set i x) k=if k=i then x else gt l k:=by
 unfold gt
 simp only [abO,acZ]
 by_cases h:i=k
 ·subst h; simp [hi]
 ·rw [if_neg h,if_neg (by omega)]
theorem I3 {l r:List Int}(hl:l.length=r.length)(h:∀k,k<l.length→gt l k=gt r k):l=r:=by
 apply acx fun k=>?_
 by_cases hk:k<l.length
 ·rw [bP hk,bP (hl ▸ hk),h k hk]
 ·rw [abU (by omega),abU (by omega)]
def swp (l:List Int)(i j:Nat):List Int:=(l.set i (gt l j)).set j (gt l i)
theorem ri {l:List Int}{i j:Nat}(hi:i<l.length)(hj:j<l.length):(swp l i j).Perm l:=by
 have h1:gt l j=l[j]:=by have:=bP hj; rw [abD hj] at this; exact (ab8 this).symm
 have h2:gt l i=l[i]:=by have:=bP hi; rw [abD hi] at this; exact (ab8 this).symm
 unfold swp; rw [h1,h2]; exact List.set_set_perm hi hj
theorem nc {l:List Int}{i j k:Nat}(hi:i<l.length)(hj:j<l.length):gt (swp l i j) k=if k=j then gt l i else if k=i then gt l j else gt l k:=by
 unfold swp
 rw [fL (by simpa using hj),fL hi]
theorem vV {l:List Int}{i j:Nat}:(swp l i j).length=l.length:=by simp [swp]
theorem Br {a b:Nat}(h:a+b<9223372036854775808):i64.wrap (kh .u64 (u64.wrap (i64.wrap ((a:Int)+(b:Int)))) 1)=(((a+b) / 2:Nat):Int):=by
 rw [bl (x:=(a:Int)+b) (by omega) (by omega),OC (by omega) (by omega)]
 have:kh .u64 ((a:Int)+(b:Int)) 1=(((a+b) / 2:Nat):Int):=by
  unfold kh
  rw [Int.fdiv_eq_ediv_of_nonneg _ (by decide)]
  show ((a:Int)+(b:Int)) / 2=_
  omega
 rw [this,bl (by omega) (by omega)]
theorem I4 {m:Nat}{l:List Int}{a b n:Nat}(h1:a+n≤b)(h2:b+n≤l.length)(hl:l.length<2 ^ 40):∀(f i:Nat) (d:List Int),n - i<f→i≤n→d.Perm l→
  (∀k,gt d k=if a≤k∧k<a+i then gt l (k - a+b) else if b≤k∧k<b+i then gt l (k - b+a) else gt l k)→
  ∃d' x,cC.l0 m (a:Int) (b:Int) (n:Int) f d (i:Int)=some (d',x)∧d'.Perm l∧(∀k,gt d' k=if a≤k∧k<a+n then gt l (k - a+b) else if b≤k∧k<b+n then gt l (k - b+a) else gt l k)
 | 0,i,d,hf,_,_,_=>absurd hf (by omega)
 | f+1,i,d,hf,hi,hp,hg=>by
  have wF:(2:Nat) ^ 40=1099511627776:=by decide
  have Vx:=hp.length_eq
  unfold cC.l0
  by_cases h:i<n
  ·have e1:i64.wrap ((b:Int)+(i:Int))=((b+i:Nat):Int):=by rw [bl (by omega) (by omega)]; omega
   have e2:i64.wrap ((a:Int)+(i:Int))=((a+i:Nat):Int):=by rw [bl (by omega) (by omega)]; omega
   have e3:i64.wrap ((i:Int)+1)=((i+1:Nat):Int):=by rw [bl (by omega) (by omega)]; omega
   rw [if_pos (by simp; omega),e1,e2,e3,dv (by omega),dv (by omega),abC,abC,abw,abw,abw,dv (by simp; omega),abw]
   show ∃d' x,cC.l0 m (a:Int) (b:Int) (n:Int) f (swp d (a+i) (b+i)) ((i+1:Nat):Int)=some (d',x)∧_
   refine I4 h1 h2 hl f (i+1) _ (by omega) (by omega) ((ri (by omega) (by omega)).trans hp) fun k=>?_
   rw [nc (by omega) (by omega),hg,hg,hg]
   by_cases k1:k=b+i
   ·subst k1
    rw [if_pos rfl,if_neg (by omega),if_neg (by omega),if_neg (by omega),if_pos (by omega)]
    congr 1; omega
   ·rw [if_neg k1]
    by_cases k2:k=a+i
    ·subst k2
     rw [if_pos rfl,if_neg (by omega),if_neg (by omega),if_pos (by omega)]
     congr 1; omega
    ·rw [if_neg k2]
     by_cases k3:a≤k∧k<a+i
     ·rw [if_pos k3,if_pos (by omega)]
     ·rw [if_neg k3,if_neg (show ¬(a≤k∧k<a+(i+1)) by omega)]
      by_cases k4:b≤k∧k<b+i
      ·rw [if_pos k4,if_pos (by omega)]
      ·rw [if_neg k4,if_neg (by omega)]
  ·have:i=n:=by omega
   subst this
   exact⟨d,i,by rw [if_neg (by simp)],hp,hg⟩
theorem vW {m:Nat}{l:List Int}{a b n:Nat}{cmp:Int→Int→Option Int}(h1:a+n≤b)(h2:b+n≤l.length)(hl:l.length<2 ^ 40)(hm:n<m) :
  ∃d',cC.f m l (a:Int) (b:Int) (n:Int) cmp=some d'∧d'.Perm l∧(∀k,gt d' k=if a≤k∧k<a+n then gt l (k - a+b) else if b≤k∧k<b+n then gt l (k - b+a) else gt l k):=by
 obtain⟨d',x,e,hp,hg⟩:=I4 (m:=m) h1 h2 hl m 0 l (by omega) (by omega) (List.Perm.refl _) (fun k=>by rw [if_neg (by omega),if_neg (by omega)])
 have e:cC.l0 m (a:Int) (b:Int) (n:Int) m l 0=_:=e
 exact⟨d',by unfold cC.f; rw [e]; rfl,hp,hg⟩
def Pw (l d:List Int)(p i j:Nat):Prop:=d.Perm l∧(∀k,k<j→gt d (p+k)=gt l (p+i+k))∧(∀k,k<i→gt d (p+j+k)=gt l (p+k))∧∀k,k<p∨p+i+j≤k→gt d k=gt l k
theorem Df {m:Nat}{q:Nat}{cmp:Int→Int→Option Int}(hm:2 ^ 41≤m):∀(f i j:Nat) (l:List Int),i+j<f→0<i→0<j→i≤q→q+j≤l.length→l.length<2 ^ 40→
  ∃(d':List Int) (x:Nat) (d:List Int),gg.l0 m (q:Int) cmp f l (i:Int) (j:Int)=some (d',(x:Int),(x:Int))∧cC.f m d' (i64.wrap ((q:Int) - (x:Int))) (q:Int) (x:Int) cmp=some d∧Pw l d (q - i) i j
 | 0,i,j,l,hf,_,_,_,_,_=>absurd hf (by omega)
 | f+1,i,j,l,hf,hi,hj,hq,hl,hs=>by
  have wF:(2:Nat) ^ 40=1099511627776:=by decide
  have wZ:(2:Nat) ^ 41=2199023255552:=by decide
  unfold gg.l0
  have e1:i64.wrap ((q:Int) - (i:Int))=((q - i:Nat):Int):=by rw [bl (by omega) (by omega)]; omega
  by_cases h:i=j
  ·subst h
   rw [if_neg (by simp)]
   obtain⟨d,e,hp,hg⟩:=vW (m:=m) (l:=l) (a:=q - i) (b:=q) (n:=i) (cmp:=cmp) (by omega) (by omega) hs (by omega)
   refine⟨l,i,d,rfl,by rw [e1,e],hp,fun k hk=>?_,fun k hk=>?_,fun k hk=>?_⟩
   ·rw [hg,if_pos (by omega)]; congr 1; omega
   ·rw [hg,if_neg (by omega),if_pos (by omega)]; congr 1; omega
   ·rw [hg,if_neg (by omega),if_neg (by omega)]
  ·rw [if_pos (by simp; omega)]
   by_cases h2:j<i
   ·obtain⟨d1,e,hp,hg⟩:=vW (m:=m) (l:=l) (a:=q - i) (b:=q) (n:=j) (cmp:=cmp) (by omega) (by omega) hs (by omega)
    have hd:=hp.length_eq
    have e2:i64.wrap ((i:Int) - (j:Int))=((i - j:Nat):Int):=by rw [bl (by omega) (by omega)]; omega
    rw [if_pos (by simp; omega),e1,e,abw,e2]
    obtain⟨d',x,d,k1,k2,k3,k4,k5,k6⟩:=Df (q:=q) (cmp:=cmp) hm f (i - j) j d1 (by omega) (by omega) hj (by omega) (by omega) (by omega)
    refine⟨d',x,d,k1,k2,k3.trans hp,fun k hk=>?_,fun k hk=>?_,fun k hk=>?_⟩
    ·rw [k6 _ (by omega),hg,if_pos (by omega)]; congr 1; omega
    ·by_cases Px:k<j
     ·have:=k4 k Px
      rw [show q - (i - j)+k=q - i+j+k by omega,hg,if_neg (by omega),if_pos (by omega)] at this
      rw [this]; congr 1; omega
     ·have:=k5 (k - j) (by omega)
      rw [show q - (i - j)+j+(k - j)=q - i+j+k by omega,hg,if_neg (by omega),if_neg (by omega)] at this
      rw [this]; congr 1; omega
    ·rw [k6 _ (by omega),hg,if_neg (by omega),if_neg (by omega)]
   ·have e2:i64.wrap (i64.wrap ((q:Int)+(j:Int)) - (i:Int))=((q+j - i:Nat):Int):=by rw [bl (x:=(q:Int)+j) (by omega) (by omega),bl (by omega) (by omega)]; omega
    have e3:i64.wrap ((j:Int) - (i:Int))=((j - i:Nat):Int):=by rw [bl (by omega) (by omega)]; omega
    obtain⟨d1,e,hp,hg⟩:=vW (m:=m) (l:=l) (a:=q - i) (b:=q+j - i) (n:=i) (cmp:=cmp) (by omega) (by omega) hs (by omega)
    have hd:=hp.length_eq
    rw [if_neg (by simp; omega),e1,e2,e,abw,e3]
    obtain⟨d',x,d,k1,k2,k3,k4,k5,k6⟩:=Df (q:=q) (cmp:=cmp) hm f i (j - i) d1 (by omega) hi (by omega) hq (by omega) (by omega)
    refine⟨d',x,d,k1,k2,k3.trans hp,fun k hk=>?_,fun k hk=>?_,fun k hk=>?_⟩
    ·by_cases Px:k<j - i
     ·rw [k4 k Px,hg,if_neg (by omega),if_neg (by omega)]
     ·have:=k5 (k - (j - i)) (by omega)
      rw [show q - i+(j - i)+(k - (j - i))=q - i+k by omega,hg,if_pos (by omega)] at this
      rw [this]; congr 1; omega
    ·rw [k6 _ (by omega),hg,if_neg (by omega),if_pos (by omega)]; congr 1; omega
    ·rw [k6 _ (by omega),hg,if_neg (by omega),if_neg (by omega)]
theorem I5 {m:Nat}{a q b:Nat}{cmp:Int→Int→Option Int}{l:List Int}(hm:2 ^ 41≤m)(h1:a<q)(h2:q<b)(h3:b≤l.length)(hs:l.length<2 ^ 40) :
  ∃d,gg.f m l (a:Int) (q:Int) (b:Int) cmp=some d∧Pw l d a (q - a) (b - q):=by
 have wF:(2:Nat) ^ 40=1099511627776:=by decide
 have wZ:(2:Nat) ^ 41=2199023255552:=by decide
 obtain⟨d',x,d,k1,k2,k3⟩:=Df (q:=q) (cmp:=cmp) hm m (q - a) (b - q) l (by omega) (by omega) (by omega) (by omega) (by omega) hs
 rw [show q - (q - a)=a by omega] at k3
 refine⟨d,?_,k3⟩
 unfold gg.f
 rw [show i64.wrap ((q:Int) - (a:Int))=((q - a:Nat):Int) by rw [bl (by omega) (by omega)]; omega,show i64.wrap ((b:Int) - (q:Int))=((b - q:Nat):Int) by rw [bl (by omega) (by omega)]; omega,k1,abw]
 dsimp only
 rw [k2]; rfl
end Go.Proofs.YtifafejidnjckaaGreat
namespace Go.Proofs.YtifafejidnjckaaGreat
open Go Go.R
open Go.IntKind (i64 u64 u8 u32)
def iN (c:Int):Bool:=decide (97≤c∧c≤122)||decide (65≤c∧c≤90)||decide (48≤c∧c≤57)||c==95
theorem Bs {m:Nat}(c:Int):gU.f m c=some (iN c):=by
 unfold gU.f
 by_cases h1:97≤c<;>by_cases h2:c≤122<;>by_cases h3:65≤c<;>by_cases h4:c≤90<;>by_cases h5:48≤c<;>by_cases h6:c≤57<;>simp [iN,h1,h2,h3,h4,h5,h6]<;>omega
theorem ug {s:ByteArray}{i:Nat}(h:i<s.size):∃c:UInt8,s.data.toList[i]? = some c∧bt s (i:Int)=some (c.toNat:Int):=by
 have h':i<s.data.toList.length:=by simpa using h
 refine⟨s.data.toList[i],abD h',?_⟩
 unfold bt; rw [if_pos (by omega),abC,abD h']; rfl
theorem EY {m:Nat}{s:ByteArray}(hs:s.size≤16):∀(f i:Nat),s.size - i<f→i≤s.size→
  ∃o,dN.l0 m s f (i:Int)=some o∧((∃x,o = .inr x)∧((s.data.toList.drop i).all fun c=>iN (c.toNat:Int))=true∨o = .inl false∧((s.data.toList.drop i).all fun c=>iN (c.toNat:Int))=false)
 | 0,i,hf,_=>absurd hf (by omega)
 | f+1,i,hf,hi=>by
  unfold dN.l0
  by_cases h:i<s.size
  ·obtain⟨c,hc,hb⟩:=ug h
   obtain⟨h4,h5⟩:=abG.1 hc
   have hd:s.data.toList.drop i=c::s.data.toList.drop (i+1):=by rw [←h5]; exact abT h4
   rw [if_pos (by simp only [decide_eq_true_eq]; omega),hb,abw,Bs,abw,hd,acr]
   cases hl:iN (c.toNat:Int) with
   | false=>exact⟨_,rfl,.inr ⟨rfl,rfl⟩⟩
   | true=>
    obtain⟨o,h1,h2⟩:=EY (m:=m) hs f (i+1) (by omega) (by omega)
    rw [if_neg (by simp),bl (by omega) (by omega),show (i:Int)+1=((i+1:Nat):Int) by omega,h1]
    exact⟨o,rfl,by simpa using h2⟩
  ·refine⟨_,by rw [if_neg (by simp only [decide_eq_true_eq]; omega)],.inl ⟨⟨_,rfl⟩,?_⟩⟩
   rw [acU (by simp; omega)]; rfl
def Bu (s:ByteArray)(lo hi:Int):Bool:=match s.data.toList with
 | []=>false
 | c::cs=>decide (cs.length≤15)&&decide (lo≤(c.toNat:Int))&&decide ((c.toNat:Int)≤hi)&&((c::cs).all fun c=>iN (c.toNat:Int))
theorem Gh {m:Nat}(hm:20≤m)(s:ByteArray)(lo hi:Int):dN.f m s lo hi=some (Bu s lo hi):=by
 have hsz:s.size=s.data.toList.length:=by simp
 unfold dN.f Bu
 cases hl:s.data.toList with
 | nil=>rw [if_pos (by rw [hl,ab4] at hsz; simp only [decide_eq_true_eq]; omega)]
 | cons c cs=>
  rw [hl,abR] at hsz
  rw [if_neg (by simp only [decide_eq_true_eq]; omega)]
  dsimp only
  by_cases h16:cs.length≤15
  ·obtain⟨c',h1,h2⟩:=ug (s:=s) (i:=0) (by omega)
   rw [hl] at h1
   simp only [acp,abz] at h1
   subst h1
   have h2:bt s 0=_:=h2
   rw [if_neg (by simp only [decide_eq_true_eq]; omega),h2,abw]
   by_cases h3:(c.toNat:Int)<lo
   ·rw [if_pos (by simpa using h3)]
    simp only [abz]
    rw [show decide (lo≤(c.toNat:Int))=false by simp; omega]; simp
   rw [if_neg (by simpa using h3),abw]
   by_cases h4:(c.toNat:Int) > hi
   ·rw [if_pos (by simpa using h4)]
    simp only [abz]
    rw [show decide ((c.toNat:Int)≤hi)=false by simp; omega]; simp
   rw [if_neg (by simpa using h4)]
   obtain⟨o,k1,k2⟩:=EY (m:=m) (s:=s) (by omega) m 0 (by omega) (by omega)
   have k1:dN.l0 m s m 0=_:=k1
   rw [k1,abw]
   rw [acn,hl] at k2
   rw [show decide (lo≤(c.toNat:Int))=true by simp; omega,show decide ((c.toNat:Int)≤hi)=true by simp; omega,show decide (cs.length≤15)=true by simpa using h16]
   simp only [acH]
   rcases k2 with⟨⟨x,rfl⟩,k⟩| ⟨rfl,k⟩
   ·rw [k]
   ·rw [k]
  ·rw [if_pos (by simp only [decide_eq_true_eq]; omega),show decide (cs.length≤15)=false by simp; omega]; rfl
def nt (s:ByteArray):Bool:=s.data.toList==[124]||s.data.toList==[35]||Bu s 97 122
theorem xV {m:Nat}(hm:20≤m)(s:ByteArray):iM.f m s=some (nt s):=by
 unfold iM.f nt
 show (if (s.data.toList==[124])=true then _ else if (s.data.toList==[35])=true then _ else _)=_
 cases h1:s.data.toList==[124] with
 | true=>rfl
 | false=>
  cases h2:s.data.toList==[35] with
  | true=>rfl
  | false=>rw [Gh hm]; rfl
theorem xW {s:ByteArray}(h:nt s=true):1≤s.size∧s.size≤16:=by
 have hsz:s.size=s.data.toList.length:=by simp
 unfold nt at h
 simp only [acu,beq_iff_eq] at h
 rcases h with (h | h) | h
 ·rw [h] at hsz; simp at hsz; omega
 ·rw [h] at hsz; simp at hsz; omega
 ·unfold Bu at h
  split at h
  ·cases h
  ·rename_i c cs hl
   rw [hl] at hsz
   simp only [abA,decide_eq_true_eq] at h
   simp at hsz; omega
def Bv (s:ByteArray):Bool:=s.data.toList==[112,114,111,99]||s.data.toList==[99,101,108,108]||s.data.toList==[112,111,114,116]
theorem Gi {m:Nat}(s:ByteArray):iB.f m s=some (Bv s):=by
 unfold iB.f Bv
 show (if (s.data.toList==[112,114,111,99])=true then _ else if (s.data.toList==[99,101,108,108])=true then _ else some (s.data.toList==[112,111,114,116]))=_
 cases h1:s.data.toList==[112,114,111,99] with
 | true=>rfl
 | false=>
  cases h2:s.data.toList==[99,101,108,108] with
  | true=>rfl
  | false=>rfl
theorem I6 {m:Nat}{s:List Int}{f0:Int→Option Bool}{g:Int→Bool}(hs:s.length<2 ^ 40)(C:∀x∈s,f0 x=some (g x)):∀(f i:Nat),s.length - i<f→i≤s.length→
  ∃o,dC.l0 m s f0 f (i:Int)=some o∧((∃x,o = .inr x)∧(s.drop i).any g=false∨(∃x:Nat,o = .inl (x:Int))∧(s.drop i).any g=true)
 | 0,i,hf,_=>absurd hf (by omega)
 | f+1,i,hf,hi=>by
  have wF:(2:Nat) ^ 40=1099511627776:=by decide
  unfold dC.l0
  by_cases h:i<s.length
  ·have hx:ix s (i:Int)=some s[i]:=by unfold ix; rw [if_pos (by omega)]; simp [h]
   rw [if_pos (by simp only [decide_eq_true_eq]; omega),hx,abw,C _ (List.getElem_mem h),abw,abT h,List.any_cons]
   cases g s[i] with
   | true=>exact⟨_,rfl,.inr ⟨⟨i,rfl⟩,rfl⟩⟩
   | false=>
    obtain⟨o,h1,h2⟩:=I6 (m:=m) hs C f (i+1) (by omega) (by omega)
    rw [if_neg (by simp),bl (by omega) (by omega),show (i:Int)+1=((i+1:Nat):Int) by omega,h1]
    exact⟨o,rfl,by simpa using h2⟩
  ·refine⟨_,by rw [if_neg (by simp only [decide_eq_true_eq]; omega)],.inl ⟨⟨_,rfl⟩,?_⟩⟩
   rw [acU (by omega)]; rfl
theorem Gj {m:Nat}{s:List Int}{f0:Int→Option Bool}{g:Int→Bool}(hs:s.length<2 ^ 40)(hm:s.length<m)(C:∀x∈s,f0 x=some (g x)):fY.f m s f0=some (s.any g):=by
 obtain⟨o,h1,h2⟩:=I6 (m:=m) hs C m 0 (by omega) (by omega)
 have h1:dC.l0 m s f0 m 0=_:=h1
 unfold fY.f dC.f
 rw [h1,abw]
 rw [acn] at h2
 rcases h2 with⟨⟨x,rfl⟩,k⟩| ⟨⟨x,rfl⟩,k⟩
 ·rw [k]; rfl
 ·rw [k]
  simp only [abw,abz]
  simp
theorem I7 {m:Nat}{s:List ah}{f0:ah→Option Bool}{g:ah→Bool}(hs:s.length<2 ^ 40)(C:∀x∈s,f0 x=some (g x)):∀(f i:Nat),s.length - i<f→i≤s.length→
  ∃o,gf.l0 m s f0 f (i:Int)=some o∧((∃x,o = .inr x)∧(s.drop i).any g=false∨(∃x:Nat,o = .inl (x:Int))∧(s.drop i).any g=true)
 | 0,i,hf,_=>absurd hf (by omega)
 | f+1,i,hf,hi=>by
  have wF:(2:Nat) ^ 40=1099511627776:=by decide
  unfold gf.l0
  by_cases h:i<s.length
  ·have hx:ix s (i:Int)=some s[i]:=by unfold ix; rw [if_pos (by omega)]; simp [h]
   rw [if_pos (by simp only [decide_eq_true_eq]; omega),hx,abw,C _ (List.getElem_mem h),abw,abT h,List.any_cons]
   cases g s[i] with
   | true=>exact⟨_,rfl,.inr ⟨⟨i,rfl⟩,rfl⟩⟩
   | false=>
    obtain⟨o,h1,h2⟩:=I7 (m:=m) hs C f (i+1) (by omega) (by omega)
    rw [if_neg (by simp),bl (by omega) (by omega),show (i:Int)+1=((i+1:Nat):Int) by omega,h1]
    exact⟨o,rfl,by simpa using h2⟩
  ·refine⟨_,by rw [if_neg (by simp only [decide_eq_true_eq]; omega)],.inl ⟨⟨_,rfl⟩,?_⟩⟩
   rw [acU (by omega)]; rfl
theorem Gk {m:Nat}{s:List ah}{f0:ah→Option Bool}{g:ah→Bool}(hs:s.length<2 ^ 40)(hm:s.length<m)(C:∀x∈s,f0 x=some (g x)):iF.f m s f0=some (s.any g):=by
 obtain⟨o,h1,h2⟩:=I7 (m:=m) hs C m 0 (by omega) (by omega)
 have h1:gf.l0 m s f0 m 0=_:=h1
 unfold iF.f gf.f
 rw [h1,abw]
 rw [acn] at h2
 rcases h2 with⟨⟨x,rfl⟩,k⟩| ⟨⟨x,rfl⟩,k⟩
 ·rw [k]; rfl
 ·rw [k]
  simp only [abw,abz]
  simp
def fu (n:ah)(size:Int):Bool:=
 if n.kind=0 then decide (0≤n.int)&&n.label.data.toList==[]&&n.args.isEmpty
 else if n.kind=1 then decide (-1099511627776≤n.int)&&decide (n.int≤1099511627776)&&n.label.data.toList==[]&&n.args.isEmpty
 else if n.kind=2 then n.int==0&&nt n.label&&n.args.isEmpty
 else if n.kind=3 then n.int==0&&nt n.label&&decide (1≤n.args.length)&&decide (n.args.length≤8)&&n.args.all fun a=>decide (0≤a)&&decide (a<size)
 else if n.kind=4 then decide (0≤n.int)&&Bv n.label&&n.args.isEmpty
 else false
theorem Bw (l:List Int):((l.length:Int)==(0:Int))=l.isEmpty:=by cases l<;>simp; omega
theorem Gl {m:Nat}(hm:20≤m)(n:ah)(size:Int):jt.f m n size=some (fu n size):=by
 unfold jt.f fu
 by_cases k0:n.kind=0
 ·rw [if_pos (by simpa using k0),if_pos k0]
  by_cases h1:0≤n.int
  ·rw [if_pos (by simpa using h1),show decide (0≤n.int)=true by simpa using h1]
   show (if (n.label.data.toList==[])=true then _ else _)=_
   cases n.label.data.toList==[] with
   | true=>rw [if_pos rfl,Bw]; rfl
   | false=>rfl
  ·rw [if_neg (by simpa using h1),show decide (0≤n.int)=false by simp; omega]; rfl
 rw [if_neg (by simpa using k0),if_neg k0]
 by_cases k1:n.kind=1
 ·rw [if_pos (by simpa using k1),if_pos k1]
  by_cases h1 : -1099511627776≤n.int
  ·rw [if_pos (by simpa using h1),show decide (-1099511627776≤n.int)=true by simpa using h1]
   by_cases h3:n.int≤1099511627776
   ·rw [if_pos (by simpa using h3),show decide (n.int≤1099511627776)=true by simpa using h3]
    show (if (n.label.data.toList==[])=true then _ else _)=_
    cases n.label.data.toList==[] with
    | true=>rw [if_pos rfl,Bw]; rfl
    | false=>rfl
   ·rw [if_neg (by simpa using h3),show decide (n.int≤1099511627776)=false by simp; omega]; rfl
  ·rw [if_neg (by simpa using h1),show decide (-1099511627776≤n.int)=false by simp; omega]; rfl
 rw [if_neg (by simpa using k1),if_neg k1]
 by_cases k2:n.kind=2
 ·rw [if_pos (by simpa using k2),if_pos k2]
  cases h1:n.int==0 with
  | false=>rfl
  | true=>
   rw [if_pos rfl,xV hm,abw]
   cases nt n.label with
   | false=>rfl
   | true=>rw [if_pos rfl,Bw]; rfl
 rw [if_neg (by simpa using k2),if_neg k2]
 by_cases k3:n.kind=3
 ·rw [if_pos (by simpa using k3),if_pos k3]
  cases h1:n.int==0 with
  | false=>rfl
  | true=>
   rw [if_pos rfl,xV hm,abw]
   cases nt n.label with
   | false=>rfl
   | true=>
    rw [if_pos rfl]
    by_cases g1:1≤n.args.length
    ·rw [if_pos (by simp only [decide_eq_true_eq]; omega),show decide (1≤n.args.length)=true by simpa using g1]
     by_cases g2:n.args.length≤8
     ·rw [if_pos (by simp only [decide_eq_true_eq]; omega),show decide (n.args.length≤8)=true by simpa using g2]
      rw [Gj (g:=fun a=>!(decide (0≤a)&&decide (a<size))) (by omega) (by omega) (fun a _=>by
       unfold iC.f
       by_cases w:a<0
       ·rw [if_pos (by simpa using w),show decide (0≤a)=false by simp; omega]; rfl
       ·rw [if_neg (by simpa using w),show decide (0≤a)=true by simp; omega]
        by_cases w2:a<size
        ·rw [show decide (a≥size)=false from decide_eq_false (by omega),show decide (a<size)=true from decide_eq_true w2]; rfl
        ·rw [show decide (a≥size)=true from decide_eq_true (by omega),show decide (a<size)=false from decide_eq_false w2]; rfl),abw]
      simp [List.not_any_eq_all_not]
     ·rw [if_neg (by simp only [decide_eq_true_eq]; omega),show decide (n.args.length≤8)=false from decide_eq_false g2]; rfl
    ·rw [if_neg (by simp only [decide_eq_true_eq]; omega),show decide (1≤n.args.length)=false from decide_eq_false g1]; rfl
 rw [if_neg (by simpa using k3),if_neg k3]
 by_cases k4:n.kind=4
 ·rw [if_pos (by simpa using k4),if_pos k4]
  by_cases h1:0≤n.int
  ·rw [if_pos (by simpa using h1),show decide (0≤n.int)=true by simpa using h1,Gi,abw]
   cases Bv n.label with
   | false=>rfl
   | true=>rw [if_pos rfl,Bw]; rfl
  ·rw [if_neg (by simpa using h1),show decide (0≤n.int)=false by simp; omega]; rfl
 rw [if_neg (by simpa using k4),if_neg k4]
end Go.Proofs.YtifafejidnjckaaGreat
namespace Go.Proofs.YtifafejidnjckaaGreat
open Go Go.R
open Go.IntKind (i64 u64 u8 u32)
structure Mv (lo hi:Nat)(l d:List Int):Prop where
 perm:d.Perm l
 out:∀k,k<lo∨hi≤k→gt d k=gt l k
 im:∀k,lo≤k→k<hi→∃k',lo≤k'∧k'<hi∧gt d k=gt l k'
theorem Mv.refl {lo hi:Nat}{l:List Int}:Mv lo hi l l:=⟨List.Perm.refl _,fun _ _=>rfl,fun k h1 h2=>⟨k,h1,h2,rfl⟩⟩
theorem Mv.trans {lo hi:Nat}{l d e:List Int}(a:Mv lo hi l d)(b:Mv lo hi d e):Mv lo hi l e:=
 ⟨b.perm.trans a.perm,fun k hk=>(b.out k hk).trans (a.out k hk),fun k h1 h2=>by
  obtain⟨k',g1,g2,g3⟩:=b.im k h1 h2
  obtain⟨ZZ,g4,g5,g6⟩:=a.im k' g1 g2
  exact⟨ZZ,g4,g5,g3.trans g6⟩⟩
theorem Mv.length {lo hi:Nat}{l d:List Int}(a:Mv lo hi l d):d.length=l.length:=a.perm.length_eq
theorem Mv.wide {lo hi J0 ku:Nat}{l d:List Int}(a:Mv lo hi l d)(h1:J0≤lo)(h2:hi≤ku):Mv J0 ku l d:=
 ⟨a.perm,fun k hk=>a.out k (by omega),fun k h3 h4=>by
  by_cases h:lo≤k∧k<hi
  ·obtain⟨k',g1,g2,g3⟩:=a.im k h.1 h.2
   exact⟨k',by omega,by omega,g3⟩
  ·exact⟨k,h3,h4,a.out k (by omega)⟩⟩
theorem Dg {lo hi i j:Nat}{l:List Int}(SG:lo≤i)(DI:i<hi)(Om:lo≤j)(CL:j<hi)(h:hi≤l.length):Mv lo hi l (swp l i j):=
 ⟨ri (by omega) (by omega),fun k hk=>by rw [nc (by omega) (by omega),if_neg (by omega),if_neg (by omega)],fun k h1 h2=>by
  rw [nc (by omega) (by omega)]
  split
  ·exact⟨i,SG,DI,rfl⟩
  split
  ·exact⟨j,Om,CL,rfl⟩
  ·exact⟨k,h1,h2,rfl⟩⟩
def Cm (cmp:Int→Int→Option Int)(c:Int→Int→Int)(l:List Int):Prop:=∀x∈l,∀y∈l,cmp x y=some (c x y)
theorem Cm.perm {cmp c l d}(h:Cm cmp c l)(p:List.Perm d l):Cm cmp c d:=fun x hx y hy=>h x (p.mem_iff.1 hx) y (p.mem_iff.1 hy)
theorem Cm.at {cmp c}{l:List Int}(h:Cm cmp c l){i j:Nat}(hi:i<l.length)(hj:j<l.length):cmp (gt l i) (gt l j)=some (c (gt l i) (gt l j)):=h _ (a8 hi) _ (a8 hj)
structure Ord (c:Int→Int→Int)(l:List Int):Prop where
 tr:∀x∈l,∀y∈l,∀z∈l,0≤c y x→0≤c z y→0≤c z x
 Py:∀x∈l,∀y∈l,c x y<0→0≤c y x
theorem Ord.perm {c l d}(h:Ord c l)(p:List.Perm d l):Ord c d:=⟨fun x hx y hy z hz=>h.tr x (p.mem_iff.1 hx) y (p.mem_iff.1 hy) z (p.mem_iff.1 hz),fun x hx y hy=>h.Py x (p.mem_iff.1 hx) y (p.mem_iff.1 hy)⟩
def Sg (c:Int→Int→Int)(l:List Int)(a b:Nat):Prop:=∀i j,a≤i→i<j→j<b→0≤c (gt l j) (gt l i)
theorem I8 {m:Nat}{a i:Nat}{cmp:Int→Int→Option Int}{c:Int→Int→Int}:∀(f j:Nat) (d:List Int),j - a<f→a≤j→j≤i→i<d.length→d.length<2 ^ 40→Cm cmp c d→
  ∃d' x,be.l1 m (a:Int) cmp f d (j:Int)=some (d',x)∧Mv a (i+1) d d'∧
   (Ord c d→(∀x y,a≤x→x<y→y≤i→x≠j→y≠j→0≤c (gt d y) (gt d x))→(∀y,j<y→y≤i→0≤c (gt d y) (gt d j))→Sg c d' a (i+1))
 | 0,j,d,hf,_,_,_,_,_=>absurd hf (by omega)
 | f+1,j,d,hf,h1,h2,h3,hs,C=>by
  have wF:(2:Nat) ^ 40=1099511627776:=by decide
  unfold be.l1
  by_cases h:a<j
  ·have e1:i64.wrap ((j:Int) - 1)=((j - 1:Nat):Int):=by rw [bl (by omega) (by omega)]; omega
   rw [if_pos (by simp; omega),e1,dv (by omega),dv (by omega),abw,abw,C.at (by omega) (by omega),abw]
   by_cases hc:c (gt d j) (gt d (j - 1))<0
   ·rw [if_pos (by simpa using hc),abw,abw,abw,abC,abC,dv (by simp; omega),abw]
    obtain⟨d',x,k1,k2,k3⟩:=I8 (m:=m) (a:=a) (i:=i) (cmp:=cmp) (c:=c) f (j - 1) (swp d j (j - 1)) (by omega) (by omega) (by omega) (by rw [vV]; omega) (by rw [vV]; omega) (C.perm (ri (by omega) (by omega)))
    refine⟨d',x,k1,(Dg (by omega) (by omega) (by omega) (by omega) (by omega)).trans k2,fun O g1 g2=>k3 (O.perm (ri (by omega) (by omega))) (fun x y x1 x2 x3 x4 x5=>?_) (fun y y1 y2=>?_)⟩
    ·rw [nc (by omega) (by omega),nc (by omega) (by omega),if_neg x5,if_neg x4]
     by_cases hy:y=j
     ·subst hy
      rw [if_pos rfl,if_neg (by omega)]
      exact g1 _ _ (by omega) (by omega) (by omega) (by omega) (by omega)
     ·rw [if_neg hy]
      by_cases hx:x=j
      ·subst hx
       rw [if_pos rfl]
       exact g1 _ _ (by omega) (by omega) (by omega) (by omega) (by omega)
      ·rw [if_neg hx]
       exact g1 _ _ (by omega) (by omega) (by omega) (by omega) (by omega)
    ·rw [nc (by omega) (by omega),nc (by omega) (by omega),if_neg (by omega),if_pos rfl]
     by_cases hy:y=j
     ·subst hy
      rw [if_pos rfl]
      exact O.Py _ (a8 (by omega)) _ (a8 (by omega)) hc
     ·rw [if_neg hy]
      exact g2 _ (by omega) (by omega)
   ·rw [if_neg (by simpa using hc)]
    refine⟨d,j,rfl,Mv.refl,fun O g1 g2 x y x1 x2 x3=>?_⟩
    have hc:0≤c (gt d j) (gt d (j - 1)):=by omega
    by_cases hx:x=j
    ·subst hx; exact g2 _ x2 (by omega)
    ·by_cases hy:y=j
     ·subst hy
      by_cases hx1:x=y - 1
      ·subst hx1; exact hc
      ·exact O.tr _ (a8 (by omega)) (gt d (y - 1)) (a8 (by omega)) _ (a8 (by omega)) (g1 _ _ x1 (by omega) (by omega) hx (by omega)) hc
     ·exact g1 _ _ x1 x2 (by omega) hx hy
  ·have:j=a:=by omega
   subst this
   rw [if_neg (by simp)]
   refine⟨d,j,rfl,Mv.refl,fun O g1 g2 x y x1 x2 x3=>?_⟩
   by_cases hx:x=j
   ·subst hx; exact g2 _ x2 (by omega)
   ·exact g1 _ _ x1 x2 (by omega) hx (by omega)
theorem I9 {m:Nat}{a b:Nat}{cmp:Int→Int→Option Int}{c:Int→Int→Int}(hm:2 ^ 41≤m):∀(f i:Nat) (d:List Int),b - i<f→a<i→b≤d.length→d.length<2 ^ 40→Cm cmp c d→
  ∃d' x,be.l0 m (a:Int) (b:Int) cmp f d (i:Int)=some (d',x)∧Mv a b d d'∧(Ord c d→Sg c d a i→Sg c d' a b)
 | 0,i,d,hf,_,_,_,_=>absurd hf (by omega)
 | f+1,i,d,hf,h1,h2,hs,C=>by
  have wF:(2:Nat) ^ 40=1099511627776:=by decide
  have wZ:(2:Nat) ^ 41=2199023255552:=by decide
  unfold be.l0
  by_cases h:i<b
  ·obtain⟨d1,x1,k1,k2,k3⟩:=I8 (m:=m) (a:=a) (i:=i) (cmp:=cmp) (c:=c) m i d (by omega) (by omega) (by omega) (by omega) hs C
   have e3:i64.wrap ((i:Int)+1)=((i+1:Nat):Int):=by rw [bl (by omega) (by omega)]; omega
   rw [if_pos (by simp; omega),k1,abw]
   dsimp only
   rw [e3]
   have hl:=k2.length
   obtain⟨d',x,g1,g2,g3⟩:=I9 (a:=a) (b:=b) (cmp:=cmp) (c:=c) hm f (i+1) d1 (by omega) (by omega) (by omega) (by omega) (C.perm k2.perm)
   exact⟨d',x,g1,(k2.wide (abB _) (by omega)).trans g2,fun O S=>g3 (O.perm k2.perm) (k3 O (fun x y q1 q2 q3 q4 q5=>S x y q1 q2 (by omega)) (fun y q1 q2=>absurd q1 (by omega)))⟩
  ·exact⟨d,i,by rw [if_neg (by simp; omega)],Mv.refl,fun O S x y q1 q2 q3=>S x y q1 q2 (by omega)⟩
theorem Bx {m:Nat}{a b:Nat}{cmp:Int→Int→Option Int}{c:Int→Int→Int}(hm:2 ^ 41≤m){l:List Int}(ha:a≤l.length)(hb:b≤l.length)(hs:l.length<2 ^ 40)(C:Cm cmp c l) :
  ∃d,be.f m l (a:Int) (b:Int) cmp=some d∧Mv a b l d∧(Ord c l→Sg c d a b):=by
 have wF:(2:Nat) ^ 40=1099511627776:=by decide
 have wZ:(2:Nat) ^ 41=2199023255552:=by decide
 have e3:i64.wrap ((a:Int)+1)=((a+1:Nat):Int):=by rw [bl (by omega) (by omega)]; omega
 obtain⟨d',x,g1,g2,g3⟩:=I9 (a:=a) (b:=b) (cmp:=cmp) (c:=c) hm m (a+1) l (by omega) (by omega) hb hs C
 exact⟨d',by unfold be.f; rw [e3,g1]; rfl,g2,fun O=>g3 O fun x y q1 q2 q3=>absurd q3 (by omega)⟩
end Go.Proofs.YtifafejidnjckaaGreat
namespace Go.Proofs.YtifafejidnjckaaGreat
open Go Go.R
open Go.IntKind (i64 u64 u8 u32)
theorem Ja {α β:Type}{B:α→Option β}{c1 c2:Bool}{X:Option α}{d0:α}{G:β→Prop}(D:α→Prop)(h1:c1=true→c2=true→∃x,X=some x∧D x)(h0:¬(c1=true∧c2=true)→D d0)
  (h:∀x,D x→∃d,B x=some d∧G d):∃d,jn B (fun j=>if c1=true then (if c2=true then (X.bind fun x0=>j x0) else j d0) else j d0)=some d∧G d:=by
 unfold jn
 dsimp only
 by_cases a1:c1=true
 ·by_cases a2:c2=true
  ·obtain⟨x,e,hx⟩:=h1 a1 a2
   rw [if_pos a1,if_pos a2,e]; exact h x hx
  ·rw [if_pos a1,if_neg a2]; exact h _ (h0 fun z=>a2 z.2)
 ·rw [if_neg a1]; exact h _ (h0 fun z=>a1 z.1)
theorem Vy {α:Type}{c1 c2:Bool}{X:Option α}{d0:α}{G:α→Prop}(h1:c1=true→c2=true→∃x,X=some x∧G x)(h0:¬(c1=true∧c2=true)→G d0) :
  ∃d,(if c1=true then (if c2=true then (X.bind fun x0=>some x0) else some d0) else some d0)=some d∧G d:=by
 by_cases a1:c1=true
 ·by_cases a2:c2=true
  ·obtain⟨x,e,hx⟩:=h1 a1 a2
   rw [if_pos a1,if_pos a2,e]; exact⟨x,rfl,hx⟩
  ·rw [if_pos a1,if_neg a2]; exact⟨_,rfl,h0 fun z=>a2 z.2⟩
 ·rw [if_neg a1]; exact⟨_,rfl,h0 fun z=>a1 z.1⟩
theorem OD {α β:Type}{B:α→Option β}{c:Bool}{x y:α}{G:β→Prop}(h:∀z,(c=true∧z=x)∨(c=false∧z=y)→∃d,B z=some d∧G d):∃d,jn B (fun j=>if c=true then j x else j y)=some d∧G d:=by
 unfold jn
 dsimp only
 cases c with
 | true=>exact h _ (.inl ⟨rfl,rfl⟩)
 | false=>exact h _ (.inr ⟨rfl,rfl⟩)
theorem Ord.refl {c:Int→Int→Int}{l:List Int}(O:Ord c l){x:Int}(hx:x∈l):0≤c x x:=by
 by_cases h:c x x<0
 ·exact O.Py x hx x hx h
 ·omega
theorem Sg.le {c:Int→Int→Int}{l:List Int}{a b:Nat}(S:Sg c l a b)(O:Ord c l){i j:Nat}(h1:a≤i)(h2:i≤j)(h3:j<b)(h4:b≤l.length):0≤c (gt l j) (gt l i):=by
 by_cases h:i=j
 ·subst h; exact O.refl (a8 (by omega))
 ·exact S i j h1 (by omega) h3
section
variable {m:Nat}{cmp:Int→Int→Option Int}{c:Int→Int→Int}
theorem Dh {l:List Int}{a:Nat}(ha:a<l.length)(hs:l.length<2 ^ 40)(C:Cm cmp c l):∀(f i j:Nat),j - i<f→i≤j→j≤l.length→
  ∃x:Nat,aQ.l0 m l (a:Int) cmp f (i:Int) (j:Int)=some ((x:Int),(x:Int))∧i≤x∧x≤j∧(i<x→c (gt l (x - 1)) (gt l a)<0)∧(x<j→0≤c (gt l x) (gt l a))
 | 0,i,j,hf,_,_=>absurd hf (by omega)
 | f+1,i,j,hf,h1,h2=>by
  have wF:(2:Nat) ^ 40=1099511627776:=by decide
  unfold aQ.l0
  by_cases h:i<j
  ·have hh:=Br (a:=i) (b:=j) (by omega)
   rw [if_pos (by simp; omega),hh,dv (by omega),dv ha,abw,abw,C.at (by omega) ha,abw]
   by_cases g:c (gt l ((i+j) / 2)) (gt l a)<0
   ·obtain⟨x,e,x1,x2,x3,x4⟩:=Dh ha hs C f ((i+j) / 2+1) j (by omega) (by omega) h2
    rw [if_pos (by simpa using g),bl (by omega) (by omega),show (((i+j) / 2:Nat):Int)+1=(((i+j) / 2+1:Nat):Int) by omega,e]
    refine⟨x,rfl,by omega,x2,fun _=>?_,x4⟩
    by_cases hx:x=(i+j) / 2+1
    ·rw [hx]; simpa using g
    ·exact x3 (by omega)
   ·obtain⟨x,e,x1,x2,x3,x4⟩:=Dh ha hs C f i ((i+j) / 2) (by omega) (by omega) (by omega)
    rw [if_neg (by simpa using g),e]
    refine⟨x,rfl,x1,by omega,x3,fun _=>?_⟩
    by_cases hx:x=(i+j) / 2
    ·rw [hx]; omega
    ·exact x4 (by omega)
  ·have:i=j:=by omega
   subst this
   exact⟨i,by rw [if_neg (by simp)],abB _,abB _,fun h=>absurd h (by omega),fun h=>absurd h (by omega)⟩
theorem Di {l:List Int}{q:Nat}(hq:q<l.length)(hs:l.length<2 ^ 40)(C:Cm cmp c l):∀(f i j:Nat),j - i<f→i≤j→j≤l.length→
  ∃x:Nat,aQ.l2 m l (q:Int) cmp f (i:Int) (j:Int)=some ((x:Int),(x:Int))∧i≤x∧x≤j∧(i<x→0≤c (gt l q) (gt l (x - 1)))∧(x<j→c (gt l q) (gt l x)<0)
 | 0,i,j,hf,_,_=>absurd hf (by omega)
 | f+1,i,j,hf,h1,h2=>by
  have wF:(2:Nat) ^ 40=1099511627776:=by decide
  unfold aQ.l2
  by_cases h:i<j
  ·have hh:=Br (a:=i) (b:=j) (by omega)
   rw [if_pos (by simp; omega),hh,dv hq,dv (by omega),abw,abw,C.at hq (by omega),abw]
   by_cases g:c (gt l q) (gt l ((i+j) / 2))<0
   ·obtain⟨x,e,x1,x2,x3,x4⟩:=Di hq hs C f i ((i+j) / 2) (by omega) (by omega) (by omega)
    rw [if_neg (by simpa using g),e]
    refine⟨x,rfl,x1,by omega,x3,fun _=>?_⟩
    by_cases hx:x=(i+j) / 2
    ·rw [hx]; omega
    ·exact x4 (by omega)
   ·obtain⟨x,e,x1,x2,x3,x4⟩:=Di hq hs C f ((i+j) / 2+1) j (by omega) (by omega) h2
    rw [if_pos (by simpa using g),bl (by omega) (by omega),show (((i+j) / 2:Nat):Int)+1=(((i+j) / 2+1:Nat):Int) by omega,e]
    refine⟨x,rfl,by omega,x2,fun _=>?_,x4⟩
    by_cases hx:x=(i+j) / 2+1
    ·rw [hx]; simp; omega
    ·exact x3 (by omega)
  ·have:i=j:=by omega
   subst this
   exact⟨i,by rw [if_neg (by simp)],abB _,abB _,fun h=>absurd h (by omega),fun h=>absurd h (by omega)⟩
theorem Jb {l:List Int}{a x:Nat}(hx:x≤l.length)(Vz:a<x)(hs:l.length<2 ^ 40):∀(f k:Nat) (d:List Int),x - k<f→a≤k→k<x→Mv a x l d→
  (∀t,gt d t=if a≤t∧t<k then gt l (t+1) else if t=k then gt l a else gt l t)→
  ∃d' y,aQ.l1 m (x:Int) f d (k:Int)=some (d',y)∧Mv a x l d'∧∀t,gt d' t=if a≤t∧t+1<x then gt l (t+1) else if t+1=x then gt l a else gt l t
 | 0,k,d,hf,_,_,_,_=>absurd hf (by omega)
 | f+1,k,d,hf,h1,h2,M,hg=>by
  have wF:(2:Nat) ^ 40=1099511627776:=by decide
  have hl:=M.length
  unfold aQ.l1
  have e0:i64.wrap ((x:Int) - 1)=((x - 1:Nat):Int):=by rw [bl (by omega) (by omega)]; omega
  rw [e0]
  by_cases h:k<x - 1
  ·have e1:i64.wrap ((k:Int)+1)=((k+1:Nat):Int):=by rw [bl (by omega) (by omega)]; omega
   rw [if_pos (by simp; omega),e1,dv (by omega),dv (by omega),abw,abw,abw,abC,abC,dv (by simp; omega),abw]
   refine Jb hx Vz hs f (k+1) (swp d k (k+1)) (by omega) (by omega) (by omega) (M.trans (Dg (by omega) (by omega) (by omega) (by omega) (by omega))) fun t=>?_
   rw [nc (by omega) (by omega),hg k,hg (k+1),hg t]
   by_cases t1:t=k+1
   ·subst t1; rw [if_pos rfl,if_neg (by omega),if_pos rfl,if_neg (by omega),if_pos rfl]
   ·rw [if_neg t1]
    by_cases t2:t=k
    ·subst t2; rw [if_pos rfl,if_neg (by omega),if_neg (by omega),if_pos (by omega)]
    ·rw [if_neg t2,if_neg t2,if_neg t1]
     by_cases t3:a≤t∧t<k
     ·rw [if_pos t3,if_pos (by omega)]
     ·rw [if_neg t3,if_neg (by omega)]
  ·refine⟨d,k,by rw [if_neg (by simp; omega)],M,fun t=>?_⟩
   rw [hg]
   by_cases t3:a≤t∧t<k
   ·rw [if_pos t3,if_pos (by omega)]
   ·rw [if_neg t3,if_neg (show ¬(a≤t∧t+1<x) by omega)]
    by_cases t4:t=k
    ·rw [if_pos t4,if_pos (by omega)]
    ·rw [if_neg t4,if_neg (by omega)]
theorem Jc {l:List Int}{q x:Nat}(hx:q<l.length)(Vz:x≤q)(hs:l.length<2 ^ 40):∀(f k:Nat) (d:List Int),k - x<f→x≤k→k≤q→Mv x (q+1) l d→
  (∀t,gt d t=if k<t∧t≤q then gt l (t - 1) else if t=k then gt l q else gt l t)→
  ∃d' y,aQ.l3 m (x:Int) f d (k:Int)=some (d',y)∧Mv x (q+1) l d'∧∀t,gt d' t=if x<t∧t≤q then gt l (t - 1) else if t=x then gt l q else gt l t
 | 0,k,d,hf,_,_,_,_=>absurd hf (by omega)
 | f+1,k,d,hf,h1,h2,M,hg=>by
  have wF:(2:Nat) ^ 40=1099511627776:=by decide
  have hl:=M.length
  unfold aQ.l3
  by_cases h:x<k
  ·have e1:i64.wrap ((k:Int) - 1)=((k - 1:Nat):Int):=by rw [bl (by omega) (by omega)]; omega
   rw [if_pos (by simp; omega),e1,dv (by omega),dv (by omega),abw,abw,abw,abC,abC,dv (by simp; omega),abw]
   refine Jc hx Vz hs f (k - 1) (swp d k (k - 1)) (by omega) (by omega) (by omega) (M.trans (Dg (by omega) (by omega) (by omega) (by omega) (by omega))) fun t=>?_
   rw [nc (by omega) (by omega),hg k,hg (k - 1),hg t]
   by_cases t1:t=k - 1
   ·subst t1; rw [if_pos rfl,if_neg (by omega),if_pos rfl,if_neg (by omega),if_pos rfl]
   ·rw [if_neg t1]
    by_cases t2:t=k
    ·subst t2; rw [if_pos rfl,if_neg (by omega),if_neg (by omega),if_pos (by omega)]
    ·rw [if_neg t2,if_neg t2,if_neg t1]
     by_cases t3:k<t∧t≤q
     ·rw [if_pos t3,if_pos (by omega)]
     ·rw [if_neg t3,if_neg (by omega)]
  ·have:k=x:=by omega
   subst this
   exact⟨d,k,by rw [if_neg (by simp)],M,hg⟩
theorem Dj {l:List Int}{a b q:Nat}(TT:a+b<2 ^ 42)(hs:l.length<2 ^ 40)(C:Cm cmp c l):∀(f s r:Nat),r - s<f→s≤r→r≤l.length→r≤(a+b) / 2+q→(a+b) / 2+q≤l.length+s→
  ∃x:Nat,aQ.l4 m l (a:Int) (q:Int) (b:Int) cmp f (s:Int) (r:Int)=some ((x:Int),(x:Int))∧s≤x∧x≤r∧(s<x→0≤c (gt l ((a+b) / 2+q - x)) (gt l (x - 1)))∧(x<r→c (gt l ((a+b) / 2+q - x - 1)) (gt l x)<0)
 | 0,i,j,hf,_,_,_,_=>absurd hf (by omega)
 | f+1,s,r,hf,h1,h2,h3,h4=>by
  have wF:(2:Nat) ^ 40=1099511627776:=by decide
  have VA:(2:Nat) ^ 42=4398046511104:=by decide
  unfold aQ.l4
  by_cases h:s<r
  ·have hh:=Br (a:=s) (b:=r) (by omega)
   have TT:=Br (a:=a) (b:=b) (by omega)
   have e1:i64.wrap (i64.wrap (i64.wrap ((((a+b) / 2:Nat):Int)+(q:Int)) - 1) - (((s+r) / 2:Nat):Int))=(((a+b) / 2+q - (s+r) / 2 - 1:Nat):Int):=by
    rw [bl (x:=(((a+b) / 2:Nat):Int)+(q:Int)) (by omega) (by omega),bl (x:=(((a+b) / 2:Nat):Int)+(q:Int) - 1) (by omega) (by omega),bl (by omega) (by omega)]
    omega
   rw [if_pos (by simp; omega),hh,TT,e1,dv (by omega),dv (by omega),abw,abw,C.at (by omega) (by omega),abw]
   by_cases g:c (gt l ((a+b) / 2+q - (s+r) / 2 - 1)) (gt l ((s+r) / 2))<0
   ·obtain⟨x,e,x1,x2,x3,x4⟩:=Dj (a:=a) (b:=b) (q:=q) (by omega) hs C f s ((s+r) / 2) (by omega) (by omega) (by omega) (by omega) (by omega)
    rw [if_neg (by simpa using g),e]
    refine⟨x,rfl,x1,by omega,x3,fun _=>?_⟩
    by_cases hx:x=(s+r) / 2
    ·rw [hx]; exact g
    ·exact x4 (by omega)
   ·obtain⟨x,e,x1,x2,x3,x4⟩:=Dj (a:=a) (b:=b) (q:=q) (by omega) hs C f ((s+r) / 2+1) r (by omega) (by omega) h2 h3 (by omega)
    rw [if_pos (by simpa using g),bl (by omega) (by omega),show (((s+r) / 2:Nat):Int)+1=(((s+r) / 2+1:Nat):Int) by omega,e]
    refine⟨x,rfl,by omega,x2,fun _=>?_,x4⟩
    by_cases hx:x=(s+r) / 2+1
    ·rw [hx,show (a+b) / 2+q - ((s+r) / 2+1)=(a+b) / 2+q - (s+r) / 2 - 1 by omega,Nat.add_sub_cancel]; omega
    ·exact x3 (by omega)
  ·have:s=r:=by omega
   subst this
   exact⟨s,by rw [if_neg (by simp)],abB _,abB _,fun h=>absurd h (by omega),fun h=>absurd h (by omega)⟩
end
end Go.Proofs.YtifafejidnjckaaGreat
