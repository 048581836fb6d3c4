/- Part of the proof: Q44, Q45, Q83, Q89, Q72, Q76, Q46, Q43, Q21, Q36, Q17. -/
import Derived.Test.YtifafejidnjckaaK9
set_option linter.unusedVariables false
set_option linter.unusedSimpArgs false
set_option maxRecDepth 100000
open Eq renaming trans → aaR
open List renaming length_set → ZO, append_assoc → ZV, cons_append → aak, nil_append → aal
namespace Go.Proofs.Ytifafejidnjckaa
open Go Go.R
open Go.IntKind (i64 u64 u8 u32)
def Df:b9:=gW [0,1,2] [] [5,3] [] []
def gg.f (m:Nat)(t0:bg):Option (Bool):=if (decide ((t0.nodes.length:Int)≥(1:Int)))=true then (if (decide ((t0.nodes.length:Int)≤(8000:Int)))=true then (if (decide (t0.root≥(0:Int)))=true then (if (decide (t0.root<(t0.nodes.length:Int)))=true then ((ib.f m t0.nodes (fun y0=>gM.f m y0 t0)).bind fun x0=>some (!x0)) else (some false)) else (some false)) else (some false)) else (some false)
def gg.fin (L:Mem)(r:Bool)(s:St):Prop:=∃av,aO Try.prog (s.open Df) Try.f44.results.toList=some av∧fG s.h av (.bool r)
def RA (cf:CallF)(m:Nat):Prop:=∀(t0:bg) (r:Bool),gg.f m t0=some r→∀h xs,aU bR h xs [.agg [ai.fz t0.nodes,.int .i64 t0.root]]→cf 44 xs h=some (.bool r,h)
section
variable {cf:CallF}{m:Nat}
theorem sc {aY:FuncId→b9}(ha:aY 44=Df)(RB:Uw cf m)(RC:UH cf m)(t0:bg)(h:AHeap)(L:Mem)  (o:Has h (L)){out:Bool}(H:gg.f m t0=some out) :
  ∃r h',bf Try.prog aY cf m 44 [.agg [ai.fz t0.nodes,.int .i64 t0.root]] h=some (r,h')∧fG h' r (.bool out):=by
 refine ar (fn:=Try.f44) ha Try.func44 (by kernel_rfl) (by kernel_rfl) ?_
 refine aH (Q:=fun s=>gg.fin L out s) (fun _ _ h=>h) ?_
 have H:_=some out:=H
 unfold gg.f at H
 show dK _ cf Df m _ ⟨[.agg [ai.fz t0.nodes,.int .i64 t0.root],.any,.any],[],h⟩ _
 refine qq ?_
 obtain⟨aE,h0,e0,o0⟩:=gJ (cs:=[ai.fz t0.nodes,.int .i64 t0.root]) o (by kernel_rfl)
 refine qr [.a 0 e0] <| qq ?_
 rcases gS H with⟨c0,H⟩| ⟨c0,H⟩
 ·rcases gS H with⟨c1,H⟩| ⟨c1,H⟩
  ·rcases gS H with⟨c2,H⟩| ⟨c2,H⟩
   ·rcases gS H with⟨c3,H⟩| ⟨c3,H⟩
    ·obtain⟨x0,e1,H⟩:=bj H
     refine qr [.v 1 (show bE Try.prog h0 40 (.ptr aE 0)=some (ai.fz t0.nodes) from cq (q:=0) (cs:=[ai.fz t0.nodes,.int .i64 t0.root]) o0 rfl (by kernel_rfl)),.b 4 c0,.v 6 (show bE Try.prog h0 40 (.ptr aE 0)=some (ai.fz t0.nodes) from cq (q:=0) (cs:=[ai.fz t0.nodes,.int .i64 t0.root]) o0 rfl (by kernel_rfl)),.b 10 c1,.v 12 (show bE Try.prog h0 3 (.ptr aE 1)=some (.int .i64 t0.root) from cq (q:=0) (cs:=[ai.fz t0.nodes,.int .i64 t0.root]) o0 rfl (by kernel_rfl)),.b 15 c2,.v 17 (show bE Try.prog h0 3 (.ptr aE 1)=some (.int .i64 t0.root) from cq (q:=0) (cs:=[ai.fz t0.nodes,.int .i64 t0.root]) o0 rfl (by kernel_rfl)),.v 19 (show bE Try.prog h0 40 (.ptr aE 0)=some (ai.fz t0.nodes) from cq (q:=0) (cs:=[ai.fz t0.nodes,.int .i64 t0.root]) o0 rfl (by kernel_rfl)),.b 23 c3,.v 25 (show bE Try.prog h0 40 (.ptr aE 0)=some (ai.fz t0.nodes) from cq (q:=0) (cs:=[ai.fz t0.nodes,.int .i64 t0.root]) o0 rfl (by kernel_rfl)),.a 27 (RB _ _ _ e1 66 [.fp [ai.fz t0.nodes,.int .i64 t0.root] 0] (fun h' tS y0 r hr hx=>RC y0 _ r hr h' tS hx) (fun h_=>jf (ah (fK (pure_cons (bQ.bA (E:=ai) (l:=t0.nodes)) (pure_cons (gR) (pure_nil)))) (aw))) h0 _ (fw (ah (dU (E:=ai)) (ah (rI (ah (ez (q:=0) o0 rfl (ah (dU (E:=ai)) (ah (aZ) (aw)))) (aw))) (aw)))))] ?_
     have o1:Has h0 (L):=Has.del o0 0
     obtain rfl:=oi H
     exact qt <| ⟨.inl rfl,cV (.bool (!x0)) h0 (cP (az))⟩
    ·refine qr [.v 1 (show bE Try.prog h0 40 (.ptr aE 0)=some (ai.fz t0.nodes) from cq (q:=0) (cs:=[ai.fz t0.nodes,.int .i64 t0.root]) o0 rfl (by kernel_rfl)),.b 4 c0,.v 6 (show bE Try.prog h0 40 (.ptr aE 0)=some (ai.fz t0.nodes) from cq (q:=0) (cs:=[ai.fz t0.nodes,.int .i64 t0.root]) o0 rfl (by kernel_rfl)),.b 10 c1,.v 12 (show bE Try.prog h0 3 (.ptr aE 1)=some (.int .i64 t0.root) from cq (q:=0) (cs:=[ai.fz t0.nodes,.int .i64 t0.root]) o0 rfl (by kernel_rfl)),.b 15 c2,.v 17 (show bE Try.prog h0 3 (.ptr aE 1)=some (.int .i64 t0.root) from cq (q:=0) (cs:=[ai.fz t0.nodes,.int .i64 t0.root]) o0 rfl (by kernel_rfl)),.v 19 (show bE Try.prog h0 40 (.ptr aE 0)=some (ai.fz t0.nodes) from cq (q:=0) (cs:=[ai.fz t0.nodes,.int .i64 t0.root]) o0 rfl (by kernel_rfl)),.b 23 c3] ?_
     have o2:Has h0 (L):=Has.del o0 0
     obtain rfl:=oi H
     exact qt <| ⟨.inl rfl,cV (.bool false) h0 (cP (az))⟩
   ·refine qr [.v 1 (show bE Try.prog h0 40 (.ptr aE 0)=some (ai.fz t0.nodes) from cq (q:=0) (cs:=[ai.fz t0.nodes,.int .i64 t0.root]) o0 rfl (by kernel_rfl)),.b 4 c0,.v 6 (show bE Try.prog h0 40 (.ptr aE 0)=some (ai.fz t0.nodes) from cq (q:=0) (cs:=[ai.fz t0.nodes,.int .i64 t0.root]) o0 rfl (by kernel_rfl)),.b 10 c1,.v 12 (show bE Try.prog h0 3 (.ptr aE 1)=some (.int .i64 t0.root) from cq (q:=0) (cs:=[ai.fz t0.nodes,.int .i64 t0.root]) o0 rfl (by kernel_rfl)),.b 15 c2] ?_
    have o3:Has h0 (L):=Has.del o0 0
    obtain rfl:=oi H
    exact qt <| ⟨.inl rfl,cV (.bool false) h0 (cP (az))⟩
  ·refine qr [.v 1 (show bE Try.prog h0 40 (.ptr aE 0)=some (ai.fz t0.nodes) from cq (q:=0) (cs:=[ai.fz t0.nodes,.int .i64 t0.root]) o0 rfl (by kernel_rfl)),.b 4 c0,.v 6 (show bE Try.prog h0 40 (.ptr aE 0)=some (ai.fz t0.nodes) from cq (q:=0) (cs:=[ai.fz t0.nodes,.int .i64 t0.root]) o0 rfl (by kernel_rfl)),.b 10 c1] ?_
   have o4:Has h0 (L):=Has.del o0 0
   obtain rfl:=oi H
   exact qt <| ⟨.inl rfl,cV (.bool false) h0 (cP (az))⟩
 ·refine qr [.v 1 (show bE Try.prog h0 40 (.ptr aE 0)=some (ai.fz t0.nodes) from cq (q:=0) (cs:=[ai.fz t0.nodes,.int .i64 t0.root]) o0 rfl (by kernel_rfl)),.b 4 c0] ?_
  have o5:Has h0 (L):=Has.del o0 0
  obtain rfl:=oi H
  exact qt <| ⟨.inl rfl,cV (.bool false) h0 (cP (az))⟩
end
end Go.Proofs.Ytifafejidnjckaa
namespace Go.Proofs.Ytifafejidnjckaa
open Go Go.R
open Go.IntKind (i64 u64 u8 u32)
def Dg:b9:=gW [0,1,2,3,4] [2,3] [19,15] [] []
def ic.f (m:Nat)(a0:bg)(b0:bg):Option (Bool):=(aG.f m a0.nodes b0.nodes (fun y0 y1=>dT.f m y0 y1)).bind fun x0=>some x0
def ic.fin (L:Mem)(r:Bool)(s:St):Prop:=∃av,aO Try.prog (s.open Dg) Try.f45.results.toList=some av∧fG s.h av (.bool r)
def UM (cf:CallF)(m:Nat):Prop:=∀(a0:bg) (b0:bg) (r:Bool),ic.f m a0 b0=some r→∀h xs,aU bR h xs [.agg [ai.fz a0.nodes,.int .i64 a0.root],.agg [ai.fz b0.nodes,.int .i64 b0.root]]→cf 45 xs h=some (.bool r,h)
section
variable {cf:CallF}{m:Nat}
theorem sd {aY:FuncId→b9}(ha:aY 45=Dg)(RD:Ui cf m)(RE:UI cf m)(a0:bg)(b0:bg)(h:AHeap)(L:Mem)  (o:Has h (L)){out:Bool}(H:ic.f m a0 b0=some out) :
  ∃r h',bf Try.prog aY cf m 45 [.agg [ai.fz a0.nodes,.int .i64 a0.root],.agg [ai.fz b0.nodes,.int .i64 b0.root]] h=some (r,h')∧fG h' r (.bool out):=by
 refine ar (fn:=Try.f45) ha Try.func45 (by kernel_rfl) (by kernel_rfl) ?_
 refine aH (Q:=fun s=>ic.fin L out s) (fun _ _ h=>h) ?_
 have H:_=some out:=H
 unfold ic.f at H
 show dK _ cf Dg m _ ⟨.agg [ai.fz a0.nodes,.int .i64 a0.root] :: .agg [ai.fz b0.nodes,.int .i64 b0.root]::ov [],[none,none],h⟩ _
 refine q1 <| qq ?_
 obtain⟨x0,e0,H⟩:=bj H
 obtain rfl:=oi H
 exact qr [.a 4 (RD _ _ _ _ e0 69 [] (fun h' tS y0 y1 r hr hx=>RE y0 y1 r hr h' tS hx) (fun h_=>jf (aw)) h _ (fw (ah (dU (E:=ai)) (ah (dU (E:=ai)) (ah (rI (aw)) (aw))))))] <| qt <| ⟨.inl rfl,cV (.bool x0) h (cP (az))⟩
end
end Go.Proofs.Ytifafejidnjckaa
namespace Go.Proofs.Ytifafejidnjckaa
open Go Go.R
open Go.IntKind (i64 u64 u8 u32)
def Dh:b9:=gW [0,1] [] [3] [] []
def fZ.f (m:Nat)(x0:List Int)(a7:Int→Int→Option (Int)):Option ((List Int)):=(b7.f m x0 (x0.length:Int) a7).bind fun x1=>some x1
def fZ.fin (L:Mem)(aE:Nat)(x0:List Int)(a7:Int→Int→Option (Int))(r:(List Int))(s:St):Prop:=aO Try.prog (s.open Dh) Try.f83.results.toList=some (.tup [])∧Has s.h ((aE,.sl x0.length 1 (af.l r))::L)
def UN (cf:CallF)(m:Nat):Prop:=∀(x0:List Int) (a7:Int→Int→Option (Int)) (r:(List Int)),fZ.f m x0 a7=some r→∀h L (GR:Nat) (aE:Nat),Has h ((aE,.sl GR 1 (af.l x0))::L)→∀(fH:FuncId) (aX cr:List AV),(aS (.fn fH aX) = .fn fH aX)→(∀(h:AHeap) (xs:List AV) (a0:Int) (a1:Int) r,a7 a0 a1=some r→aU bR h xs ([.int .i64 a0,.int .i64 a1]++cr)→cf fH xs h=some (.int .i64 r,h))→(∀h K,Has h (K++(L))→aU cM h aX cr)→(∀h,aU cM h cr cr)→∀xs,xs.map aS=[.rs aE 0 GR 1,.fn fH aX]→∃h',cf 83 xs h=some (.tup [],h')∧Has h' ((aE,.sl GR 1 (af.l r))::L)
section
variable {cf:CallF}{m:Nat}
theorem qa {aY:FuncId→b9}(ha:aY 83=Dh)(RF:UJ cf m)(x0:List Int)(a7:Int→Int→Option (Int))(h:AHeap)(L:Mem)(aE:Nat)(fH:FuncId)(aX cr:List AV)  (rY:aS (.fn fH aX) = .fn fH aX)(ir:∀(h:AHeap) (xs:List AV) (a0:Int) (a1:Int) r,a7 a0 a1=some r→aU bR h xs ([.int .i64 a0,.int .i64 a1]++cr)→cf fH xs h=some (.int .i64 r,h))(pY:∀h K,Has h (K++(L))→aU cM h aX cr)(iu:∀h,aU cM h cr cr)(o:Has h ((aE,.sl x0.length 1 (af.l x0))::L)){out:(List Int)}(H:fZ.f m x0 a7=some out) :
  ∃r h',bf Try.prog aY cf m 83 [.rs aE 0 x0.length 1,.fn fH aX] h=some (r,h')∧r = .tup []∧Has h' ((aE,.sl x0.length 1 (af.l out))::L):=by
 refine ar (fn:=Try.f83) ha Try.func83 (by kernel_rfl) (by kernel_rfl) ?_
 refine aH (Q:=fun s=>fZ.fin L aE x0 a7 out s) (fun _ _ ⟨h1,h2,h3⟩=>⟨h1,_,h2,rfl,h3⟩) ?_
 have H:_=some out:=H
 unfold fZ.f at H
 show dK _ cf Dh m _ ⟨[.rs aE 0 x0.length 1,.fn fH aX],[],h⟩ _
 obtain⟨x1,e0,H⟩:=bj H
 obtain⟨h0,e1,o0⟩:=RF _ _ _ _ e0 h _ _ _ (o) fH aX cr rY ir (fun h' K' o'=>pY h' (K'++[]) (by simpa only [ZV,aak,aal] using o')) iu [.rs aE 0 x0.length 1,.int .i64 (x0.length:Int),.fn fH aX] (au (rfl) (au (aP (bm)) (au (rY) (bN))))
 obtain rfl:=oi H
 exact qr [.a 4 e1] <| ⟨.inr rfl,⟨by kernel_rfl,he o0⟩⟩
end
end Go.Proofs.Ytifafejidnjckaa
namespace Go.Proofs.Ytifafejidnjckaa
open Go Go.R
open Go.IntKind (i64 u64 u8 u32)
end Go.Proofs.Ytifafejidnjckaa
namespace Go.Proofs.Ytifafejidnjckaa
open Go Go.R
open Go.IntKind (i64 u64 u8 u32)
def qd:b9:=gW [0,1,2,3,4,5,6,7,8,9,10,11,12,13,14,15,17,22,23,24,37,38,39,40,61,73,74,75,76,87,88,89,90,110,126] [12] [34359738365,34359738357,34359345141,34358820853,34359345125,34359345141,34359345141,34359738357,34359738325,34359738261,34352398229,34344009621,34352397845,34335620757,34352397973,34352398229,34352398229,34359737757,34359736733,34124855709,33856420253,34124849565,34124841373,30366749085,26071781789,30366699933,30366749085,30366749085,34124779933,25534910877,34124845469,34124855709,34124855709,17179867613,34359738363,34359738269] [] []
def aA.l0 (m:Nat)(x0:List Int):Nat→(List Int)→Int→Option ((List Int) × Int)
 | 0,_,_=>none
 | k+1,gh,x1=>if (decide (x1<(x0.length:Int)))=true then ((ix gh x1).bind fun v0=>aA.l0 m x0 k (gh.set x1.toNat x1) (i64.wrap (x1+(1:Int)))) else (some ((gh,x1)))
def aA.l1 (m:Nat)(aQ:List ak)(cu:List Int)(x3:(List Int)):Nat→(List Int)→Int→Int→Option ((List Int) × Int × Int)
 | 0,_,_,_=>none
 | k+1,cD,fj,x5=>if (decide (x5<(cu.length:Int)))=true then ((ix x3 x5).bind fun v1=>if (decide (x5 > (0:Int)))=true then ((ix x3 (i64.wrap (x5 - (1:Int)))).bind fun v2=>(ix aQ v2).bind fun v3=>(ix aQ v1).bind fun v4=>(dz.f m v3 v4).bind fun x6=>if (!(x6==(0:Int)))=true then ((ix cD v1).bind fun v5=>aA.l1 m aQ cu x3 k (cD.set v1.toNat (i64.wrap (fj+(1:Int)))) (i64.wrap (fj+(1:Int))) (i64.wrap (x5+(1:Int)))) else ((ix cD v1).bind fun v6=>aA.l1 m aQ cu x3 k (cD.set v1.toNat fj) fj (i64.wrap (x5+(1:Int))))) else ((ix cD v1).bind fun v7=>aA.l1 m aQ cu x3 k (cD.set v1.toNat fj) fj (i64.wrap (x5+(1:Int))))) else (some ((cD,fj,x5)))
def aA.l4 (m:Nat)(dA:List Int)(v8:ak):Nat→(List Int)→Int→Option ((List Int) × Int)
 | 0,_,_=>none
 | k+1,k0,cb=>if (decide (cb<(v8.args.length:Int)))=true then ((ix v8.args cb).bind fun v10=>(ix dA v10).bind fun v11=>(ix k0 (i64.wrap (cb+(1:Int)))).bind fun v12=>aA.l4 m dA v8 k (k0.set (i64.wrap (cb+(1:Int))).toNat (i64.wrap (v11+(1:Int)))) (i64.wrap (cb+(1:Int)))) else (some ((k0,cb)))
def aA.l3 (m:Nat)(aQ:List ak)(dA:List Int):Nat→(List (List Int × Int))→(List Int)→Int→Option ((List (List Int × Int)) × (List Int) × Int)
 | 0,_,_,_=>none
 | k+1,eC,eh,x9=>if (decide (x9<(aQ.length:Int)))=true then ((ix aQ x9).bind fun v8=>(ix dA x9).bind fun v9=>(aA.l4 m dA v8 m ([i64.wrap (v9+(1:Int)),(0:Int),(0:Int),(0:Int),(0:Int),(0:Int),(0:Int),(0:Int),(0:Int)]) (0:Int)).bind fun GA=>match GA with | (k1,zr)=>(IL 9 eC k1).bind fun r0=>if (!r0.2)=true then ((Nz 9 eC k1 (eC.length:Int)).bind fun LK=>(IL 9 LK k1).bind fun r1=>(ix eh x9).bind fun Pe=>aA.l3 m aQ dA k LK (eh.set x9.toNat r1.1) (i64.wrap (x9+(1:Int)))) else ((IL 9 eC k1).bind fun r2=>(ix eh x9).bind fun Wu=>aA.l3 m aQ dA k eC (eh.set x9.toNat r2.1) (i64.wrap (x9+(1:Int))))) else (some ((eC,eh,x9)))
def aA.l2 (m:Nat)(aQ:List ak):Nat→(List Int)→Int→Option (Sum (List Int) ((List Int) × Int))
 | 0,_,_=>none
 | k+1,dA,jH=>(E7 8 (aQ.length:Int) (0:Int)).bind fun x8=>(aA.l3 m aQ dA m ([]:List (List Int × Int)) x8 (0:Int)).bind fun N9=>match N9 with | (gj,nP,pf)=>if ((gj.length:Int)==(i64.wrap (jH+(1:Int))))=true then (some (.inl dA)) else (aA.l2 m aQ k nP (i64.wrap ((gj.length:Int) - (1:Int))))
def aA.f (m:Nat)(aQ:List ak):Option ((List Int)):=(E7 8 (aQ.length:Int) (0:Int)).bind fun x0=>(aA.l0 m x0 m x0 (0:Int)).bind fun bM=>match bM with | (cu,x2)=>(fZ.f m cu (fun y0 y1=>eH.f m y0 y1 aQ)).bind fun x3=>(E7 8 (aQ.length:Int) (0:Int)).bind fun x4=>(aA.l1 m aQ cu x3 m x4 (0:Int) (0:Int)).bind fun zm=>match zm with | (j6,many1,x7)=>(aA.l2 m aQ m j6 many1).bind fun Oa=>match Oa with | .inl r3=>some r3 | .inr (RG,Ob)=>none
def aA.fin (L:Mem)(r:(List Int))(s:St):Prop:=∃av,aO Try.prog (s.open qd) Try.f72.results.toList=some av∧fG s.h av (af.fz r)
def UO (cf:CallF)(m:Nat):Prop:=∀(aQ:List ak) (r:(List Int)),aA.f m aQ=some r→∀h xs,aU bR h xs [ai.fz aQ]→cf 72 xs h=some (af.fz r,h)
section
variable {cf:CallF}{m:Nat}
theorem aA.cQ (L:Mem)(aQ:List ak)(aE:Nat)(x0:List Int)   : dL Try.prog cf qd m (sub [1,1,0,1,0,0] (bZ Try.f72)) (fun k (σ:(List Int) × Int)=>aA.l0 m x0 k σ.1 σ.2) (fun σ s=>match σ with | (gh,x1)=>∃dY h2,s=⟨.any :: .ptr aE 0 :: .any :: .rs dY 0 gh.length 1::rV (.int .i64 (x0.length:Int) :: .int .i64 x1::IN []),[none],h2⟩∧Has h2 ((dY,.sl gh.length 1 (af.l gh))::(aE,.ob [ai.fz aQ])::L)) (fun out e s=>(e = .exit 0∧∃gh x1,(gh,x1)=out∧∃Bj Bc RH dY h2,s=⟨.any :: .ptr aE 0 :: .any :: .rs dY 0 gh.length 1::rV (Bj::Bc::RH::NF []),[none],h2⟩∧Has h2 ((dY,.sl gh.length 1 (af.l gh))::(aE,.ob [ai.fz aQ])::L))):=by
 refine lg (fun _=>rfl) ?_
 rintro k ⟨gh,x1⟩ s out ⟨dY,h2,rfl,o2⟩ H
 have H:aA.l0 m x0 (k+1) gh x1=some out:=H
 refine q1 <| qq <| qc H (fun c0 H=>?_) (fun c0 H=>?_)
 ·refine qk <| qq <| qb 1 <| qq <| q0 ?_
  obtain⟨v0,e3,H⟩:=bj H
  obtain⟨h3,e4,o3⟩:=fS (P:=Try.prog) (tf:=3) (E:=af) (l:=gh) (q:=0) (v:=x1) (x:=.int .i64 x1) o2 rfl Z3 e3 rfl rfl
  exact qr [.v 3 (bp (k:=.i64) (E:=af) (l:=gh) (q:=0) gu o2 rfl e3),.w 4 e4] <| q0 <| ⟨(gh.set x1.toNat x1,i64.wrap (x1+(1:Int))),⟨dY,h3,(aaR (b:=⟨.any :: .ptr aE 0 :: .any :: .rs dY 0 gh.length 1::rV (.int .i64 (x0.length:Int) :: .int .i64 (i64.wrap (x1+(1:Int)))::IN []),[none],h3⟩) (by kernel_rfl) (by simp only [ZO])),(by have o:Has h3 ((dY,.sl gh.length 1 (af.l (gh.set x1.toNat x1)))::(aE,.ob [ai.fz aQ])::L):=o3; simpa only [ZO] using o)⟩,H⟩
 ·exact qx 0 <| ⟨rfl,gh,x1,oi H,.int .i64 (x0.length:Int),.int .i64 x1,.bool (decide (x1<(x0.length:Int))),dY,h2,by kernel_rfl,o2⟩
theorem aA.kz (L:Mem)(aQ:List ak)(aE:Nat)(cW:Nat)(cu:List Int)(cW:Nat)(x3:(List Int))  (zD:N0 cf m):dL Try.prog cf qd m (sub [1,1,1,1,1,1,0,1,0,0] (bZ Try.f72)) (fun k (σ:(List Int) × Int × Int)=>aA.l1 m aQ cu x3 k σ.1 σ.2.1 σ.2.2) (fun σ s=>match σ with | (cD,fj,x5)=>∃ff h7,s=⟨.any :: .ptr aE 0 :: .any :: .rs cW 0 cu.length 1 :: .any :: .rs ff 0 cD.length 1 :: .int .i64 fj::rV (.rs cW 0 cu.length 1 :: .int .i64 (cu.length:Int) :: .int .i64 x5::uT []),[none],h7⟩∧Has h7 ((ff,.sl cD.length 1 (af.l cD))::(cW,.sl cu.length 1 (af.l x3))::(aE,.ob [ai.fz aQ])::L)) (fun out e s=>(e = .exit 2∧∃cD fj x5,(cD,fj,x5)=out∧∃Gw Ba Bb GB GS ff h7,s=⟨.any :: .ptr aE 0 :: .any::Gw :: .any :: .rs ff 0 cD.length 1 :: .int .i64 fj::rV (Ba::Bb::GB::GS::uS []),[none],h7⟩∧Has h7 ((ff,.sl cD.length 1 (af.l cD))::(cW,.sl cu.length 1 (af.l x3))::(aE,.ob [ai.fz aQ])::L))):=by
 refine lg (fun _=>rfl) ?_
 rintro k ⟨cD,fj,x5⟩ s out ⟨ff,h7,rfl,o7⟩ H
 have H:aA.l1 m aQ cu x3 (k+1) cD fj x5=some out:=H
 refine q1 <| qq <| qc H (fun c1 H=>?_) (fun c1 H=>?_)
 ·refine qk <| qq <| qb 3 <| qq ?_
  obtain⟨v1,rK,H⟩:=bj H
  refine qr [.v 1 (bp (k:=.i64) (E:=af) (l:=x3) (q:=1) gu o7 rfl rK),.v 2 (di  (E:=af) (l:=x3) (q:=1) o7 rfl A3 rK rfl)] <| qq <| qq ?_
  rcases gS H with⟨c2,H⟩| ⟨c2,H⟩
  ·obtain⟨v2,uH,H⟩:=bj H
   obtain⟨v3,xq,H⟩:=bj H
   obtain⟨v4,xr,H⟩:=bj H
   obtain⟨x6,Be,H⟩:=bj H
   refine qr [.b 2 c2,.v 3 (show bE Try.prog h7 40 (.ptr aE 0)=some (ai.fz aQ) from cq (q:=2) (cs:=[ai.fz aQ]) o7 rfl (by kernel_rfl)),.v 7 (bp (k:=.i64) (E:=af) (l:=x3) (q:=1) gu o7 rfl uH),.v 8 (di  (E:=af) (l:=x3) (q:=1) o7 rfl A3 uH rfl),.v 9 (fy (k:=.i64) (E:=ai) (l:=aQ) uW xq),.v 10 (jP  (E:=ai) (l:=aQ) h7 Ez EA xq),.v 11 (show bE Try.prog h7 40 (.ptr aE 0)=some (ai.fz aQ) from cq (q:=2) (cs:=[ai.fz aQ]) o7 rfl (by kernel_rfl)),.v 13 (fy (k:=.i64) (E:=ai) (l:=aQ) uW xr),.v 14 (jP  (E:=ai) (l:=aQ) h7 Ez EA xr),.a 15 (zD _ _ _ Be h7 _ (fw (ah (eV (ah (aZ) (ah (aZ) (ah (cK) (ah (dU (E:=af)) (aw)))))) (ah (eV (ah (aZ) (ah (aZ) (ah (cK) (ah (dU (E:=af)) (aw)))))) (aw)))))] ?_
   refine qc H (fun c3 H=>?_) (fun c3 H=>?_)
   ·refine q0 ?_
    obtain⟨v5,Al,H⟩:=bj H
    obtain⟨h8,EE,o8⟩:=fS (P:=Try.prog) (tf:=3) (E:=af) (l:=cD) (q:=0) (v:=(i64.wrap (fj+(1:Int)))) (x:=.int .i64 (i64.wrap (fj+(1:Int)))) o7 rfl Z3 Al rfl rfl
    exact qr [.v 3 (bp (k:=.i64) (E:=af) (l:=cD) (q:=0) gu o7 rfl Al),.w 4 EE] <| q0 <| ⟨(cD.set v1.toNat (i64.wrap (fj+(1:Int))),i64.wrap (fj+(1:Int)),i64.wrap (x5+(1:Int))),⟨ff,h8,(aaR (b:=⟨.any :: .ptr aE 0 :: .any :: .rs cW 0 cu.length 1 :: .any :: .rs ff 0 cD.length 1 :: .int .i64 (i64.wrap (fj+(1:Int)))::rV (.rs cW 0 cu.length 1 :: .int .i64 (cu.length:Int) :: .int .i64 (i64.wrap (x5+(1:Int)))::uT []),[none],h8⟩) (by kernel_rfl) (by simp only [ZO])),(by have o:Has h8 ((ff,.sl cD.length 1 (af.l (cD.set v1.toNat (i64.wrap (fj+(1:Int))))))::(cW,.sl cu.length 1 (af.l x3))::(aE,.ob [ai.fz aQ])::L):=o8; simpa only [ZO] using o)⟩,H⟩
   ·refine qk ?_
    obtain⟨v6,EF,H⟩:=bj H
    obtain⟨h9,Fa,o9⟩:=fS (P:=Try.prog) (tf:=3) (E:=af) (l:=cD) (q:=0) (v:=fj) (x:=.int .i64 fj) o7 rfl Z3 EF rfl rfl
    exact qr [.v 3 (bp (k:=.i64) (E:=af) (l:=cD) (q:=0) gu o7 rfl EF),.w 4 Fa] <| q0 <| ⟨(cD.set v1.toNat fj,fj,i64.wrap (x5+(1:Int))),⟨ff,h9,(aaR (b:=⟨.any :: .ptr aE 0 :: .any :: .rs cW 0 cu.length 1 :: .any :: .rs ff 0 cD.length 1 :: .int .i64 fj::rV (.rs cW 0 cu.length 1 :: .int .i64 (cu.length:Int) :: .int .i64 (i64.wrap (x5+(1:Int)))::uT []),[none],h9⟩) (by kernel_rfl) (by simp only [ZO])),(by have o:Has h9 ((ff,.sl cD.length 1 (af.l (cD.set v1.toNat fj)))::(cW,.sl cu.length 1 (af.l x3))::(aE,.ob [ai.fz aQ])::L):=o9; simpa only [ZO] using o)⟩,H⟩
  ·refine qr [.b 2 c2] <| Gh <| qk ?_
   obtain⟨v7,CV,H⟩:=bj H
   obtain⟨h10,H5,xw⟩:=fS (P:=Try.prog) (tf:=3) (E:=af) (l:=cD) (q:=0) (v:=fj) (x:=.int .i64 fj) o7 rfl Z3 CV rfl rfl
   exact qr [.v 3 (bp (k:=.i64) (E:=af) (l:=cD) (q:=0) gu o7 rfl CV),.w 4 H5] <| q0 <| ⟨(cD.set v1.toNat fj,fj,i64.wrap (x5+(1:Int))),⟨ff,h10,(aaR (b:=⟨.any :: .ptr aE 0 :: .any :: .rs cW 0 cu.length 1 :: .any :: .rs ff 0 cD.length 1 :: .int .i64 fj::rV (.rs cW 0 cu.length 1 :: .int .i64 (cu.length:Int) :: .int .i64 (i64.wrap (x5+(1:Int)))::uT []),[none],h10⟩) (by kernel_rfl) (by simp only [ZO])),(by have o:Has h10 ((ff,.sl cD.length 1 (af.l (cD.set v1.toNat fj)))::(cW,.sl cu.length 1 (af.l x3))::(aE,.ob [ai.fz aQ])::L):=xw; simpa only [ZO] using o)⟩,H⟩
 ·exact qx 2 <| ⟨rfl,cD,fj,x5,oi H,.rs cW 0 cu.length 1,.rs cW 0 cu.length 1,.int .i64 (cu.length:Int),.int .i64 x5,.bool (decide (x5<(cu.length:Int))),ff,h7,(aaR (b:=⟨.any :: .ptr aE 0 :: .any :: .rs cW 0 cu.length 1 :: .any :: .rs ff 0 cD.length 1 :: .int .i64 fj::rV (.rs cW 0 cu.length 1 :: .int .i64 (cu.length:Int) :: .int .i64 x5 :: .bool (decide (x5<(cu.length:Int)))::uS []),[none],h7⟩) (by kernel_rfl) (by simp only [ZO])),(by have o:Has h7 ((ff,.sl cD.length 1 (af.l cD))::(cW,.sl cu.length 1 (af.l x3))::(aE,.ob [ai.fz aQ])::L):=o7; simpa only [ZO] using o)⟩
theorem aA.GQ (L:Mem)(aQ:List ak)(aE:Nat)(fi:Nat)(dA:List Int)(jH:Int)(fi:Nat)(kC:Nat)(iQ:Nat)(eC:List (List Int × Int))(eh:List Int)(x9:Int)(iQ:Nat)(v8:ak)(jR:Nat)   : dL Try.prog cf qd m (sub [1,1,1,1,1,1,1,0,0,0,1,1,0,1,0,0,1,1,0,0,1,1,0,1,0,0] (bZ Try.f72)) (fun k (σ:(List Int) × Int)=>aA.l4 m dA v8 k σ.1 σ.2) (fun σ s=>match σ with | (k0,cb)=>∃h18,s=⟨.any :: .ptr aE 0::ov (.rs fi 0 dA.length 1 :: .int .i64 jH :: .any :: .any :: .mp kC :: .rs iQ 0 eh.length 1 :: .int .i64 x9 :: .any :: .ptr jR 0::uS (ai.fz aQ :: .int .i64 (aQ.length:Int) :: .int .i64 x9 :: .any::af.fz v8.args :: .int .i64 (v8.args.length:Int) :: .int .i64 cb::ov [])),[none],h18⟩∧Has h18 ((jR,.sl 9 1 (af.l k0))::(iQ,.sl eh.length 1 (af.l eh))::(kC,.mp (uR eC))::(fi,.sl dA.length 1 (af.l dA))::(aE,.ob [ai.fz aQ])::L)) (fun out e s=>(e = .exit 8∧∃k0 cb,(k0,cb)=out∧∃RJ RK RL RM h18,s=⟨.any :: .ptr aE 0::ov (.rs fi 0 dA.length 1 :: .int .i64 jH :: .any :: .any :: .mp kC :: .rs iQ 0 eh.length 1 :: .int .i64 x9 :: .any :: .ptr jR 0::uS [ai.fz aQ,.int .i64 (aQ.length:Int),.int .i64 x9,.any,RJ,RK,RL,RM,.any,.any]),[none],h18⟩∧Has h18 ((jR,.sl 9 1 (af.l k0))::(iQ,.sl eh.length 1 (af.l eh))::(kC,.mp (uR eC))::(fi,.sl dA.length 1 (af.l dA))::(aE,.ob [ai.fz aQ])::L))):=by
 refine lg (fun _=>rfl) ?_
 rintro k ⟨k0,cb⟩ s out ⟨h18,rfl,Bm⟩ H
 have H:aA.l4 m dA v8 (k+1) k0 cb=some out:=H
 refine q1 <| qq <| qc H (fun c6 H=>?_) (fun c6 H=>?_)
 ·refine qk <| qq <| qb 9 <| qq ?_
  obtain⟨v10,ME,H⟩:=bj H
  refine qr [.v 1 (fy (k:=.i64) (E:=af) (l:=v8.args) gu ME),.v 2 (iz  (E:=af) (l:=v8.args) h18 A3 ME rfl)] ?_
  obtain⟨v11,MD,H⟩:=bj H
  obtain⟨v12,Pg,H⟩:=bj H
  obtain⟨h19,Wv,LL⟩:=fS (P:=Try.prog) (tf:=3) (E:=af) (l:=k0) (q:=0) (v:=(i64.wrap (v11+(1:Int)))) (x:=.int .i64 (i64.wrap (v11+(1:Int)))) Bm rfl Z3 Pg rfl rfl
  exact qr [.v 4 (bp (k:=.i64) (E:=af) (l:=dA) (q:=3) gu Bm rfl MD),.v 5 (di  (E:=af) (l:=dA) (q:=3) Bm rfl A3 MD rfl),.v 7 (KR (k:=.i64) (q:=0) (l:=k0) vL Bm rfl Pg),.w 8 Wv] <| q0 <| ⟨(k0.set (i64.wrap (cb+(1:Int))).toNat (i64.wrap (v11+(1:Int))),i64.wrap (cb+(1:Int))),⟨h19,by kernel_rfl,LL⟩,H⟩
 ·exact qx 8 <| ⟨rfl,k0,cb,oi H,af.fz v8.args,.int .i64 (v8.args.length:Int),.int .i64 cb,.bool (decide (cb<(v8.args.length:Int))),h18,by kernel_rfl,Bm⟩
theorem aA.GP (L:Mem)(aQ:List ak)(aE:Nat)(fi:Nat)(dA:List Int)(jH:Int)(fi:Nat)(kC:Nat)   : dL Try.prog cf qd m (sub [1,1,1,1,1,1,1,0,0,0,1,1,0,1,0,0] (bZ Try.f72)) (fun k (σ:(List (List Int × Int)) × (List Int) × Int)=>aA.l3 m aQ dA k σ.1 σ.2.1 σ.2.2) (fun σ s=>match σ with | (eC,eh,x9)=>∃iQ h15,s=⟨.any :: .ptr aE 0::ov (.rs fi 0 dA.length 1 :: .int .i64 jH :: .any :: .any :: .mp kC :: .rs iQ 0 eh.length 1::y4 (ai.fz aQ :: .int .i64 (aQ.length:Int) :: .int .i64 x9::En [])),[none],h15⟩∧Has h15 ((iQ,.sl eh.length 1 (af.l eh))::(kC,.mp (uR eC))::(fi,.sl dA.length 1 (af.l dA))::(aE,.ob [ai.fz aQ])::L)) (fun out e s=>(e = .exit 6∧∃eC eh x9,(eC,eh,x9)=out∧∃RN RP RQ RR iQ h15,s=⟨.any :: .ptr aE 0::ov (.rs fi 0 dA.length 1 :: .int .i64 jH :: .any :: .any :: .mp kC :: .rs iQ 0 eh.length 1::y4 (RN::RP::RQ::RR::yZ [])),[none],h15⟩∧Has h15 ((iQ,.sl eh.length 1 (af.l eh))::(kC,.mp (uR eC))::(fi,.sl dA.length 1 (af.l dA))::(aE,.ob [ai.fz aQ])::L))):=by
 refine lg (fun _=>rfl) ?_
 rintro k ⟨eC,eh,x9⟩ s out ⟨iQ,h15,rfl,ye⟩ H
 have H:aA.l3 m aQ dA (k+1) eC eh x9=some out:=H
 refine q1 <| qq <| qc H (fun c5 H=>?_) (fun c5 H=>?_)
 ·refine qk <| qq <| qb 7 <| qq ?_
  obtain⟨v8,H9,H⟩:=bj H
  refine qr [.v 1 (fy (k:=.i64) (E:=ai) (l:=aQ) uW H9),.v 2 (jP  (E:=ai) (l:=aQ) h15 Ez EA H9)] <| qq ?_
  obtain⟨v9,J5,H⟩:=bj H
  obtain⟨jR,h16,N8,C5⟩:=IM (cs:=[.int .i64 (0:Int),.int .i64 (0:Int),.int .i64 (0:Int),.int .i64 (0:Int),.int .i64 (0:Int),.int .i64 (0:Int),.int .i64 (0:Int),.int .i64 (0:Int),.int .i64 (0:Int)]) (l:=[(0:Int),(0:Int),(0:Int),(0:Int),(0:Int),(0:Int),(0:Int),(0:Int),(0:Int)]) ye (by kernel_rfl)
  obtain⟨h17,N7,C4⟩:=KS (q:=0) (l:=([(0:Int),(0:Int),(0:Int),(0:Int),(0:Int),(0:Int),(0:Int),(0:Int),(0:Int)])) (l':=[i64.wrap (v9+(1:Int)),(0:Int),(0:Int),(0:Int),(0:Int),(0:Int),(0:Int),(0:Int),(0:Int)]) (x:=.agg [.int .i64 (i64.wrap (v9+(1:Int))),.int .i64 (0:Int),.int .i64 (0:Int),.int .i64 (0:Int),.int .i64 (0:Int),.int .i64 (0:Int),.int .i64 (0:Int),.int .i64 (0:Int),.int .i64 (0:Int)]) vL C5 rfl rfl rfl
  refine qr [.v 2 (bp (k:=.i64) (E:=af) (l:=dA) (q:=2) gu ye rfl J5),.v 3 (di  (E:=af) (l:=dA) (q:=2) ye rfl A3 J5 rfl),.a 6 N8,.w 7 N7] <| qq <| qq <| q0 <| qb 8 ?_
  obtain⟨GA,Ww,H⟩:=bj H
  refine ql (aA.GQ L aQ aE fi dA jH fi kC iQ eC eh x9 iQ v8 jR   ([i64.wrap (v9+(1:Int)),(0:Int),(0:Int),(0:Int),(0:Int),(0:Int),(0:Int),(0:Int),(0:Int)],(0:Int)) _ _ ⟨h17,by kernel_rfl,C4⟩ Ww) ?_
  rintro e s ⟨rfl,k1,zr,rfl,g13,g14,g15,g16,h20,rfl,Di⟩
  try dsimp only at H
  refine qq <| qq ?_
  obtain⟨r0,Wx,H⟩:=bj H
  refine qr [.v 1 (show bE Try.prog h20 115 (.ptr jR 0)=some (.agg (af.l k1)) from xe (q:=0) (l:=k1) vL Di rfl),.v 2 (show fh Try.prog h20 113 (.mp kC) (.agg (af.l k1)) true=some (.tup [.int .i64 r0.1,.bool r0.2]) from (KP (q:=2) (l:=eC) (k:=k1) Cr Di rfl Wx).1)] <| qq <| q0 <| qc H (fun c7 H=>?_) (fun c7 H=>?_)
  ·obtain⟨LK,Wy,H⟩:=bj H
   obtain⟨h21,Wz,Ia⟩:=Qk (q:=2) (l:=eC) (k:=k1) (v:=(eC.length:Int)) Cr Di rfl Wy
   refine qr [.v 1 (show bE Try.prog h20 115 (.ptr jR 0)=some (.agg (af.l k1)) from xe (q:=0) (l:=k1) vL Di rfl),.v 3 (show sL Try.prog h20 113 (.mp kC)=some (.int .i64 (eC.length:Int)) from KQ (q:=2) (l:=eC) Gv Di rfl),.w 4 Wz] ?_
   obtain⟨r1,WA,H⟩:=bj H
   obtain⟨Pe,UP,H⟩:=bj H
   obtain⟨h22,WB,Oc⟩:=fS (P:=Try.prog) (tf:=3) (E:=af) (l:=eh) (q:=1) (v:=r1.1) (x:=.int .i64 r1.1) Ia rfl Z3 UP rfl rfl
   refine qr [.v 3 (show bE Try.prog h21 115 (.ptr jR 0)=some (.agg (af.l k1)) from xe (q:=0) (l:=k1) vL Ia rfl),.v 4 (show fh Try.prog h21 113 (.mp kC) (.agg (af.l k1)) false=some (.int .i64 r1.1) from (KP (q:=2) (l:=LK) (k:=k1) Cr Ia rfl WA).2),.v 5 (bp (k:=.i64) (E:=af) (l:=eh) (q:=1) gu Ia rfl UP),.w 6 WB] ?_
   have RU:Has h22 ((iQ,.sl eh.length 1 (af.l (eh.set x9.toNat r1.1)))::(kC,.mp (uR LK))::(fi,.sl dA.length 1 (af.l dA))::(aE,.ob [ai.fz aQ])::L):=Has.del Oc 0
   exact q0 <| ⟨(LK,eh.set x9.toNat r1.1,i64.wrap (x9+(1:Int))),⟨iQ,h22,(aaR (b:=⟨.any :: .ptr aE 0::ov (.rs fi 0 dA.length 1 :: .int .i64 jH :: .any :: .any :: .mp kC :: .rs iQ 0 eh.length 1::y4 (ai.fz aQ :: .int .i64 (aQ.length:Int) :: .int .i64 (i64.wrap (x9+(1:Int)))::En [])),[none],h22⟩) (by kernel_rfl) (by simp only [ZO])),(by have o:Has h22 ((iQ,.sl eh.length 1 (af.l (eh.set x9.toNat r1.1)))::(kC,.mp (uR LK))::(fi,.sl dA.length 1 (af.l dA))::(aE,.ob [ai.fz aQ])::L):=RU; simpa only [ZO] using o)⟩,H⟩
  ·refine qk ?_
   obtain⟨r2,WC,H⟩:=bj H
   obtain⟨Wu,UQ,H⟩:=bj H
   obtain⟨h23,WD,RV⟩:=fS (P:=Try.prog) (tf:=3) (E:=af) (l:=eh) (q:=1) (v:=r2.1) (x:=.int .i64 r2.1) Di rfl Z3 UQ rfl rfl
   refine qr [.v 3 (show bE Try.prog h20 115 (.ptr jR 0)=some (.agg (af.l k1)) from xe (q:=0) (l:=k1) vL Di rfl),.v 4 (show fh Try.prog h20 113 (.mp kC) (.agg (af.l k1)) false=some (.int .i64 r2.1) from (KP (q:=2) (l:=eC) (k:=k1) Cr Di rfl WC).2),.v 5 (bp (k:=.i64) (E:=af) (l:=eh) (q:=1) gu Di rfl UQ),.w 6 WD] ?_
   have RW:Has h23 ((iQ,.sl eh.length 1 (af.l (eh.set x9.toNat r2.1)))::(kC,.mp (uR eC))::(fi,.sl dA.length 1 (af.l dA))::(aE,.ob [ai.fz aQ])::L):=Has.del RV 0
   exact q0 <| ⟨(eC,eh.set x9.toNat r2.1,i64.wrap (x9+(1:Int))),⟨iQ,h23,(aaR (b:=⟨.any :: .ptr aE 0::ov (.rs fi 0 dA.length 1 :: .int .i64 jH :: .any :: .any :: .mp kC :: .rs iQ 0 eh.length 1::y4 (ai.fz aQ :: .int .i64 (aQ.length:Int) :: .int .i64 (i64.wrap (x9+(1:Int)))::En [])),[none],h23⟩) (by kernel_rfl) (by simp only [ZO])),(by have o:Has h23 ((iQ,.sl eh.length 1 (af.l (eh.set x9.toNat r2.1)))::(kC,.mp (uR eC))::(fi,.sl dA.length 1 (af.l dA))::(aE,.ob [ai.fz aQ])::L):=RW; simpa only [ZO] using o)⟩,H⟩
 ·exact qx 6 <| ⟨rfl,eC,eh,x9,oi H,ai.fz aQ,.int .i64 (aQ.length:Int),.int .i64 x9,.bool (decide (x9<(aQ.length:Int))),iQ,h15,by kernel_rfl,ye⟩
theorem aA.p7 (L:Mem)(aQ:List ak)(aE:Nat)   : dL Try.prog cf qd m (sub [1,1,1,1,1,1,1,0,0] (bZ Try.f72)) (fun k (σ:(List Int) × Int)=>aA.l2 m aQ k σ.1 σ.2) (fun σ s=>match σ with | (dA,jH)=>∃g8 g9 g10 g11 g12 fi h12,s=⟨.any :: .ptr aE 0 :: .any::g8 :: .any :: .rs fi 0 dA.length 1 :: .int .i64 jH::rV (g9::g10::g11::g12::uS []),[none],h12⟩∧Has h12 ((fi,.sl dA.length 1 (af.l dA))::(aE,.ob [ai.fz aQ])::L)) (fun out e s=>(e = .exit 4∧∃dA jH,.inr (dA,jH)=out∧∃uY Gw NS Gy Ba Bb GB GS fi h12,s=⟨.any::uY :: .any::Gw :: .any::NS::Gy::rV (Ba::Bb::GB::GS::uS []),[none],h12⟩∧Has h12 ((fi,.sl dA.length 1 (af.l dA))::(aE,.ob [ai.fz aQ])::L))∨(e = .ret∧∃r,.inl r=out∧aA.fin L r s)):=by
 refine lg (fun _=>rfl) ?_
 rintro k ⟨dA,jH⟩ s out ⟨g8,g9,g10,g11,g12,fi,h12,rfl,u9⟩ H
 have H:aA.l2 m aQ (k+1) dA jH=some out:=H
 refine qb 5 <| qq ?_
 obtain⟨kC,h13,H7,va⟩:=xd u9
 refine qr [.m 0 H7] <| qq ?_
 obtain⟨x8,Bl,H⟩:=bj H
 obtain⟨E9,h14,H8,Fb⟩:=w9 (P:=Try.prog) (E:=af) (z:=(0:Int)) (zv:=.int .i64 (0:Int)) gu va 3 rfl rfl rfl rfl Bl
 refine qr [.v 0 (show bE Try.prog h13 40 (.ptr aE 0)=some (ai.fz aQ) from cq (q:=2) (cs:=[ai.fz aQ]) va rfl (by kernel_rfl)),.a 2 H8] <| qq <| qq <| qr [.v 0 (show bE Try.prog h14 40 (.ptr aE 0)=some (ai.fz aQ) from cq (q:=3) (cs:=[ai.fz aQ]) Fb rfl (by kernel_rfl))] <| qb 6 ?_
 obtain⟨N9,WE,H⟩:=bj H
 refine ql (aA.GP L aQ aE fi dA jH fi kC   (([]:List (List Int × Int)),x8,(0:Int)) _ _ ⟨E9,h14,by kernel_rfl,Fb⟩ WE) ?_
 rintro e s ⟨rfl,gj,nP,pf,rfl,g17,g18,g19,g20,lN,h24,rfl,Od⟩
 try dsimp only at H
 refine qq <| qq <| qr [.v 1 (show sL Try.prog h24 113 (.mp kC)=some (.int .i64 (gj.length:Int)) from KQ (q:=1) (l:=gj) Gv Od rfl)] <| qc H (fun c8 H=>?_) (fun c8 H=>?_)
 ·refine q1 ?_
  have RX:Has h24 ((lN,.sl nP.length 1 (af.l nP))::(kC,.mp (uR gj))::(fi,.sl dA.length 1 (af.l dA))::L):=Has.del Od 3
  have RY:Has h24 ((lN,.sl nP.length 1 (af.l nP))::(fi,.sl dA.length 1 (af.l dA))::L):=Has.del RX 1
  have RZ:Has h24 ((fi,.sl dA.length 1 (af.l dA))::L):=Has.del RY 0
  exact qt <| Or.inr (⟨rfl,_,oi H,cV (.rs fi 0 dA.length 1) h24 (cP (J1 (E:=af) (l:=dA) (q:=0) RZ rfl (fun _=>rfl)))⟩)
 ·refine qk <| qr [.v 2 (show sL Try.prog h24 113 (.mp kC)=some (.int .i64 (gj.length:Int)) from KQ (q:=1) (l:=gj) Gv Od rfl)] ?_
  have R0:Has h24 ((lN,.sl nP.length 1 (af.l nP))::(kC,.mp (uR gj))::(aE,.ob [ai.fz aQ])::L):=Has.del Od 2
  have R5:Has h24 ((lN,.sl nP.length 1 (af.l nP))::(aE,.ob [ai.fz aQ])::L):=Has.del R0 1
  exact⟨(nP,i64.wrap ((gj.length:Int) - (1:Int))),⟨.any,.any,.any,.any,.any,lN,h24,by kernel_rfl,R5⟩,H⟩
theorem qe {aY:FuncId→b9}(ha:aY 72=qd)(zD:N0 cf m)(R6:UN cf m)(R7:UE cf m)(aQ:List ak)(h:AHeap)(L:Mem)  (o:Has h (L)){out:(List Int)}(H:aA.f m aQ=some out) :
  ∃r h',bf Try.prog aY cf m 72 [ai.fz aQ] h=some (r,h')∧fG h' r (af.fz out):=by
 refine ar (fn:=Try.f72) ha Try.func72 (by kernel_rfl) (by kernel_rfl) ?_
 refine aH (Q:=fun s=>aA.fin L out s) (fun _ _ h=>h) ?_
 have H:_=some out:=H
 unfold aA.f at H
 show dK _ cf qd m _ ⟨ai.fz aQ::Qs [],[none],h⟩ _
 refine qq ?_
 obtain⟨aE,h0,e0,o0⟩:=gJ (cs:=[ai.fz aQ]) o (by kernel_rfl)
 refine qr [.a 0 e0] <| qq ?_
 obtain⟨x0,e1,H⟩:=bj H
 obtain⟨cy,h1,e2,o1⟩:=w9 (P:=Try.prog) (E:=af) (z:=(0:Int)) (zv:=.int .i64 (0:Int)) gu o0 3 rfl rfl rfl rfl e1
 refine qr [.v 0 (show bE Try.prog h0 40 (.ptr aE 0)=some (ai.fz aQ) from cq (q:=0) (cs:=[ai.fz aQ]) o0 rfl (by kernel_rfl)),.a 2 e2] <| qq <| qq <| q0 <| qb 0 ?_
 obtain⟨bM,e5,H⟩:=bj H
 refine ql (aA.cQ L aQ aE x0   (x0,(0:Int)) _ _ ⟨cy,h1,by kernel_rfl,o1⟩ e5) ?_
 rintro e s ⟨rfl,cu,x2,rfl,g0,g1,g2,cW,h4,rfl,o4⟩
 try dsimp only at H
 refine qq ?_
 obtain⟨x3,e6,H⟩:=bj H
 obtain⟨h5,e7,o5⟩:=R6 _ _ _ e6 h4 _ _ _ (o4) 84 [.ptr aE 0] [.fp [ai.fz aQ] 0] rfl (fun h' tS y0 y1 r hr hx=>R7 y0 y1 _ r hr h' tS hx) (fun h' K' o'=>jf (ah (ez (q:=(K'.length+0)) o' (jQ rfl) (ah (dU (E:=ai)) (aw))) (aw))) (fun h_=>jf (ah (fK (pure_cons (bQ.bA (E:=ai) (l:=aQ)) (pure_nil))) (aw))) [.rs cW 0 cu.length 1,.fn 84 [.ptr aE 0]] (au (rfl) (au (rfl) (bN)))
 refine qr [.a 2 e7] <| qq ?_
 obtain⟨x4,e8,H⟩:=bj H
 obtain⟨dD,h6,e9,o6⟩:=w9 (P:=Try.prog) (E:=af) (z:=(0:Int)) (zv:=.int .i64 (0:Int)) gu o5 3 rfl rfl rfl rfl e8
 refine qr [.v 0 (show bE Try.prog h5 40 (.ptr aE 0)=some (ai.fz aQ) from cq (q:=1) (cs:=[ai.fz aQ]) o5 rfl (by kernel_rfl)),.a 2 e9] <| qq <| q0 <| qq <| qq <| q0 <| qb 2 ?_
 obtain⟨zm,H6,H⟩:=bj H
 refine ql (aA.kz L aQ aE cW cu cW x3  zD (x4,(0:Int),(0:Int)) _ _ ⟨dD,h6,(aaR (b:=⟨.any :: .ptr aE 0 :: .any :: .rs cW 0 cu.length 1 :: .any :: .rs dD 0 x4.length 1 :: .int .i64 (0:Int)::rV (.rs cW 0 cu.length 1 :: .int .i64 (cu.length:Int) :: .int .i64 (0:Int)::uT []),[none],h6⟩) (by kernel_rfl) (by simp only [ZO])),(by have o:Has h6 ((dD,.sl x4.length 1 (af.l x4))::(cW,.sl cu.length 1 (af.l x3))::(aE,.ob [ai.fz aQ])::L):=o6; simpa only [ZO] using o)⟩ H6) ?_
 rintro e s ⟨rfl,j6,many1,x7,rfl,g3,g4,g5,g6,g7,gT,h11,rfl,xC⟩
 try dsimp only at H
 refine qb 4 ?_
 have CW:Has h11 ((gT,.sl j6.length 1 (af.l j6))::(aE,.ob [ai.fz aQ])::L):=Has.del xC 1
 obtain⟨Oa,WG,H⟩:=bj H
 refine ql (aA.p7 L aQ aE   (j6,many1) _ _ ⟨g3,g4,g5,g6,g7,gT,h11,by kernel_rfl,CW⟩ WG) ?_
 rintro e s (⟨rfl,RG,Ob,rfl,g21,g22,g23,g24,Zc,Zd,Ze,Zf,ln,h25,rfl,WH⟩| ⟨rfl,r3,rfl,uX⟩)
 ·try dsimp only at H
  cases H
 ·try dsimp only at H
  obtain rfl:=oi H
  exact⟨.inl rfl,uX⟩
end
end Go.Proofs.Ytifafejidnjckaa
namespace Go.Proofs.Ytifafejidnjckaa
open Go Go.R
open Go.IntKind (i64 u64 u8 u32)
end Go.Proofs.Ytifafejidnjckaa
namespace Go.Proofs.Ytifafejidnjckaa
open Go Go.R
open Go.IntKind (i64 u64 u8 u32)
def Dj:b9:=gW [0,1,2,3,4,5,6] [2,4000005] [121,113,97,65,1,25,91,123] [] [(0,[(2,some 0,4)])]
def dJ.f (m:Nat)(t0:bg):Option (bg):=(aA.f m t0.nodes).bind fun x0=>(bk.f m m t0.root ([]:List (Int × Int)) x0 (bg.mk ([]:List ak) (0:Int)) t0).bind fun x1=>some x1.2.2
def dJ.fin (L:Mem)  (r:bg)(s:St):Prop:=∃(dw:Nat) (en:List Nat),aO Try.prog (s.open Dj) Try.f46.results.toList=some (.agg [.rs dw 0 r.nodes.length 4,.int .i64 r.root])∧Has s.h ((dw,.sl r.nodes.length 4 (b4.l (aK r.nodes en)))::(cz r.nodes en++L))
def R8 (cf:CallF)(m:Nat):Prop:=∀(t0:bg) (r:bg),dJ.f m t0=some r→∀h L xs,Has h L→aU bR h xs [.agg [ai.fz t0.nodes,.int .i64 t0.root]]→∃(dw:Nat) (en:List Nat) (h':AHeap),cf 46 xs h=some (.agg [.rs dw 0 r.nodes.length 4,.int .i64 r.root],h')∧Has h' ((dw,.sl r.nodes.length 4 (b4.l (aK r.nodes en)))::(cz r.nodes en++L))∧∀j,j<h.next→h.ver j=h'.ver j
section
variable {cf:CallF}{m:Nat}
theorem se {aY:FuncId→b9}(ha:aY 46=Dj)(R9:UO cf m)(GF:Pa cf m m)(t0:bg)(h:AHeap)(L:Mem)  (o:Has h (L)){out:bg}(H:dJ.f m t0=some out) :
  ∃r h',bf Try.prog aY cf m 46 [.agg [ai.fz t0.nodes,.int .i64 t0.root]] h=some (r,h')∧∃(dw:Nat) (en:List Nat),r = .agg [.rs dw 0 out.nodes.length 4,.int .i64 out.root]∧Has h' ((dw,.sl out.nodes.length 4 (b4.l (aK out.nodes en)))::(cz out.nodes en++L)):=by
 refine ar (fn:=Try.f46) ha Try.func46 (by kernel_rfl) (by kernel_rfl) ?_
 refine aH (Q:=fun s=>dJ.fin L out s) (fun _ _ ⟨h1,dw,en,h2,h3⟩=>⟨h1,_,h2,dw,en,rfl,h3⟩) ?_
 have H:_=some out:=H
 unfold dJ.f at H
 show dK _ cf Dj m _ ⟨.agg [ai.fz t0.nodes,.int .i64 t0.root]::yZ [],[none,none],h⟩ _
 refine qq ?_
 obtain⟨aE,h0,e0,o0⟩:=gJ (cs:=[ai.fz t0.nodes,.int .i64 t0.root]) o (by kernel_rfl)
 refine qr [.a 0 e0] ?_
 have o1:Has h0 (((0),.sl (([]:List ak).length) 4 (b4.l (aK ([]:List ak) ([]:List Nat))))::(aE,.ob [ai.fz t0.nodes,.int .i64 t0.root])::L):=Has.nil o0 4
 refine qq ?_
 obtain⟨x0,e1,H⟩:=bj H
 obtain⟨cy,h1,e2,o2⟩:=gJ (cs:=[.nils]) o1 (by kernel_rfl)
 obtain⟨h2,e3,o3⟩:=oI (P:=Try.prog) (t:=33) (off:=0) (q:=0) (cs:=[.nils]) (fU:=[af.fz x0]) (x:=af.fz x0) o2 rfl (by kernel_rfl)
 refine qr [.v 1 (show bE Try.prog h0 40 (.ptr aE 0)=some (ai.fz t0.nodes) from cq (q:=1) (cs:=[ai.fz t0.nodes,.int .i64 t0.root]) o1 rfl (by kernel_rfl)),.a 2 (R9 _ _ e1 h0 _ (fw (ah (dU (E:=ai)) (aw)))),.a 3 e2,.w 4 e3] <| qq ?_
 obtain⟨dY,h3,e4,o4⟩:=xd o3
 obtain⟨cW,h4,e5,o5⟩:=gJ (cs:=[.mN]) o4 (by kernel_rfl)
 obtain⟨h5,e6,o6⟩:=oI (P:=Try.prog) (t:=82) (off:=0) (q:=0) (cs:=[.mN]) (fU:=[.mp dY]) (x:=.mp dY) o5 rfl (by kernel_rfl)
 refine qr [.m 0 e4,.a 1 e5,.w 2 e6] <| qq ?_
 have o7:Has h5 ((((0)),.sl (([]:List ak).length) 4 (ai.l ([]:List ak)))::(cW,.ob [.mp dY])::(dY,.mp (lW ([]:List (Int × Int))))::(cy,.ob [af.fz x0])::((0),.sl (([]:List ak).length) 4 (b4.l (aK ([]:List ak) ([]:List Nat))))::(aE,.ob [ai.fz t0.nodes,.int .i64 t0.root])::L):=Has.nil o6 4
 obtain⟨dD,h6,e7,o8⟩:=gJ (cs:=[.rs ((0)) 0 (([]:List ak).length) 4,.int .i64 (0:Int)]) o7 (by kernel_rfl)
 refine qr [.a 0 e7] <| qq ?_
 obtain⟨ff,h7,e8,o9⟩:=gJ (cs:=[.pv]) o8 (by kernel_rfl)
 refine qr [.a 0 e8] <| qq ?_
 obtain⟨h8,e9,xw⟩:=oI (P:=Try.prog) (t:=80) (off:=0) (q:=0) (cs:=[.pv]) (fU:=[.fn 73 [.ptr cW 0,.ptr cy 0,.ptr dD 0,.ptr aE 0,.ptr ff 0]]) (x:=.fn 73 [.ptr cW 0,.ptr cy 0,.ptr dD 0,.ptr aE 0,.ptr ff 0]) o9 rfl (by kernel_rfl)
 refine qr [.w 1 e9] <| qq ?_
 obtain⟨x1,rK,H⟩:=bj H
 obtain⟨gT,en,h9,uH,xC⟩:=GF _ _ _ _ _ _ rK h8 _ _ _ _ _ _ ([]:List Nat) _ _ ((Has.front (Has.front (Has.front (Has.front (Has.front (Has.front (Has.front (Has.front xw 6 rfl) 1 rfl) 7 rfl) 4 rfl) 4 rfl) 7 rfl) 7 rfl) 7 rfl))  [.int .i64 t0.root,.ptr cW 0,.ptr cy 0,.ptr dD 0,.ptr aE 0,.ptr ff 0] (au (aP (bm)) (au (rfl) (au (rfl) (au (rfl) (au (rfl) (au (rfl) (bN)))))))
 have CW:=Has.jg (pre:=[(cW,.ob [.mp dY]),(dY,.mp (lW x1.2.1)),(cy,.ob [af.fz x0]),(dD,.ob [.rs gT 0 x1.2.2.nodes.length 4,.int .i64 x1.2.2.root]),(gT,.sl x1.2.2.nodes.length 4 (b4.l (aK x1.2.2.nodes en))),(aE,.ob [ai.fz t0.nodes,.int .i64 t0.root]),(ff,.ob [.fn 73 [.ptr cW 0,.ptr cy 0,.ptr dD 0,.ptr aE 0,.ptr ff 0]])]) (N:=[((0),.sl (([]:List ak).length) 4 (b4.l (aK ([]:List ak) ([]:List Nat))))]) (mid:=cz x1.2.2.nodes en) xC
 refine qr [.v 0 (show bE Try.prog h8 80 (.ptr ff 0)=some (.fn 73 [.ptr cW 0,.ptr cy 0,.ptr dD 0,.ptr aE 0,.ptr ff 0]) from cq (q:=0) (cs:=[.fn 73 [.ptr cW 0,.ptr cy 0,.ptr dD 0,.ptr aE 0,.ptr ff 0]]) xw rfl (by kernel_rfl)),.v 2 (show bE Try.prog h8 3 (.ptr aE 1)=some (.int .i64 t0.root) from cq (q:=7) (cs:=[ai.fz t0.nodes,.int .i64 t0.root]) xw rfl (by kernel_rfl)),.a 3 uH] ?_
 have u9:Has h9 ((cW,.ob [.mp dY])::(dY,.mp (lW x1.2.1))::(cy,.ob [af.fz x0])::(dD,.ob [.rs gT 0 x1.2.2.nodes.length 4,.int .i64 x1.2.2.root])::(gT,.sl x1.2.2.nodes.length 4 (b4.l (aK x1.2.2.nodes en)))::(aE,.ob [ai.fz t0.nodes,.int .i64 t0.root])::((0),.sl (([]:List ak).length) 4 (b4.l (aK ([]:List ak) ([]:List Nat))))::(cz x1.2.2.nodes en++L)):=Has.del CW 6
 have va:Has h9 ((cW,.ob [.mp dY])::(dY,.mp (lW x1.2.1))::(cy,.ob [af.fz x0])::(dD,.ob [.rs gT 0 x1.2.2.nodes.length 4,.int .i64 x1.2.2.root])::(gT,.sl x1.2.2.nodes.length 4 (b4.l (aK x1.2.2.nodes en)))::((0),.sl (([]:List ak).length) 4 (b4.l (aK ([]:List ak) ([]:List Nat))))::(cz x1.2.2.nodes en++L)):=Has.del u9 5
 have Fb:Has h9 ((cW,.ob [.mp dY])::(dY,.mp (lW x1.2.1))::(dD,.ob [.rs gT 0 x1.2.2.nodes.length 4,.int .i64 x1.2.2.root])::(gT,.sl x1.2.2.nodes.length 4 (b4.l (aK x1.2.2.nodes en)))::((0),.sl (([]:List ak).length) 4 (b4.l (aK ([]:List ak) ([]:List Nat))))::(cz x1.2.2.nodes en++L)):=Has.del va 2
 have ye:Has h9 ((cW,.ob [.mp dY])::(dD,.ob [.rs gT 0 x1.2.2.nodes.length 4,.int .i64 x1.2.2.root])::(gT,.sl x1.2.2.nodes.length 4 (b4.l (aK x1.2.2.nodes en)))::((0),.sl (([]:List ak).length) 4 (b4.l (aK ([]:List ak) ([]:List Nat))))::(cz x1.2.2.nodes en++L)):=Has.del Fb 1
 have C5:Has h9 ((dD,.ob [.rs gT 0 x1.2.2.nodes.length 4,.int .i64 x1.2.2.root])::(gT,.sl x1.2.2.nodes.length 4 (b4.l (aK x1.2.2.nodes en)))::((0),.sl (([]:List ak).length) 4 (b4.l (aK ([]:List ak) ([]:List Nat))))::(cz x1.2.2.nodes en++L)):=Has.del ye 0
 refine qs [.v 0 (show bE Try.prog h9 42 (.ptr dD 0)=some (.agg [.rs gT 0 x1.2.2.nodes.length 4,.int .i64 x1.2.2.root]) from cq (q:=0) (cs:=[.rs gT 0 x1.2.2.nodes.length 4,.int .i64 x1.2.2.root]) C5 rfl (by kernel_rfl))] ?_
 have C4:Has h9 ((dD,.ob [.rs gT 0 x1.2.2.nodes.length 4,.int .i64 x1.2.2.root])::(gT,.sl x1.2.2.nodes.length 4 (b4.l (aK x1.2.2.nodes en)))::(cz x1.2.2.nodes en++L)):=Has.del C5 2
 have Bm:Has h9 ((gT,.sl x1.2.2.nodes.length 4 (b4.l (aK x1.2.2.nodes en)))::(cz x1.2.2.nodes en++L)):=Has.del C4 0
 obtain rfl:=oi H
 exact qt <| ⟨.inl rfl,⟨gT,en,by kernel_rfl,he Bm⟩⟩
end
end Go.Proofs.Ytifafejidnjckaa
namespace Go.Proofs.Ytifafejidnjckaa
open Go Go.R
open Go.IntKind (i64 u64 u8 u32)
def Dk:b9:=gW [0,1,2,3,6] [1,2] [25,9,19,19] [] [(0,[(2,some 0,4)]),(2,[(2,some 0,4)])]
def fM.f (m:Nat)(t0:bg):Option (bg × Int):=(gg.f m t0).bind fun x0=>if (!x0)=true then (some ((bg.mk ([]:List ak) (0:Int)),(2:Int))) else ((dJ.f m t0).bind fun x1=>some (x1,(0:Int)))
def fM.fin (L:Mem)  (r:bg × Int)(s:St):Prop:=∃(dw:Nat) (en:List Nat),aO Try.prog (s.open Dk) Try.f43.results.toList=some (.tup [.agg [.rs dw 0 r.1.nodes.length 4,.int .i64 r.1.root],.int .i64 r.2])∧Has s.h ((dw,.sl r.1.nodes.length 4 (b4.l (aK r.1.nodes en)))::(cz r.1.nodes en++L))
def Sa (cf:CallF)(m:Nat):Prop:=∀(t0:bg) (r:bg × Int),fM.f m t0=some r→∀h L xs,Has h L→aU bR h xs [.agg [ai.fz t0.nodes,.int .i64 t0.root]]→∃(dw:Nat) (en:List Nat) (h':AHeap),cf 43 xs h=some (.tup [.agg [.rs dw 0 r.1.nodes.length 4,.int .i64 r.1.root],.int .i64 r.2],h')∧Has h' ((dw,.sl r.1.nodes.length 4 (b4.l (aK r.1.nodes en)))::(cz r.1.nodes en++L))∧∀j,j<h.next→h.ver j=h'.ver j
section
variable {cf:CallF}{m:Nat}
theorem sf {aY:FuncId→b9}(ha:aY 43=Dk)(GU:RA cf m)(Ja:R8 cf m)(t0:bg)(h:AHeap)(L:Mem)  (o:Has h (L)){out:bg × Int}(H:fM.f m t0=some out) :
  ∃r h',bf Try.prog aY cf m 43 [.agg [ai.fz t0.nodes,.int .i64 t0.root]] h=some (r,h')∧∃(dw:Nat) (en:List Nat),r = .tup [.agg [.rs dw 0 out.1.nodes.length 4,.int .i64 out.1.root],.int .i64 out.2]∧Has h' ((dw,.sl out.1.nodes.length 4 (b4.l (aK out.1.nodes en)))::(cz out.1.nodes en++L)):=by
 refine ar (fn:=Try.f43) ha Try.func43 (by kernel_rfl) (by kernel_rfl) ?_
 refine aH (Q:=fun s=>fM.fin L out s) (fun _ _ ⟨h1,dw,en,h2,h3⟩=>⟨h1,_,h2,dw,en,rfl,h3⟩) ?_
 have H:_=some out:=H
 unfold fM.f at H
 show dK _ cf Dk m _ ⟨.agg [ai.fz t0.nodes,.int .i64 t0.root]::oZ [],[none,none],h⟩ _
 refine q1 ?_
 have o0:Has h (((0),.sl (([]:List ak).length) 4 (b4.l (aK ([]:List ak) ([]:List Nat))))::L):=Has.nil o 4
 refine qq <| qq ?_
 obtain⟨x0,e0,H⟩:=bj H
 refine qr [.a 1 (GU _ _ e0 h _ (fw (ah (eV (ah (dU (E:=ai)) (ah (aZ) (aw)))) (aw))))] <| qc H (fun c0 H=>?_) (fun c0 H=>?_)
 ·refine q1 ?_
  have o1:Has h ((((0)),.sl (([]:List ak).length) 4 (b4.l (aK ([]:List ak) ([]:List Nat))))::((0),.sl (([]:List ak).length) 4 (b4.l (aK ([]:List ak) ([]:List Nat))))::L):=Has.nil o0 4
  have o2:Has h ((((0)),.sl (([]:List ak).length) 4 (b4.l (aK ([]:List ak) ([]:List Nat))))::L):=Has.del o1 1
  obtain rfl:=oi H
  exact qt <| ⟨.inl rfl,⟨((0)),([]:List Nat),by kernel_rfl,he o2⟩⟩
 ·refine qk <| qq ?_
  obtain⟨x1,e1,H⟩:=bj H
  obtain⟨aE,cm,h0,e2,o3,HX⟩:=Ja _ _ e1 h _ _ o0 (fw (ah (eV (ah (dU (E:=ai)) (ah (aZ) (aw)))) (aw)))
  have o4:=Has.jg (pre:=[(aE,.sl x1.nodes.length 4 (b4.l (aK x1.nodes cm)))]) (N:=[((0),.sl (([]:List ak).length) 4 (b4.l (aK ([]:List ak) ([]:List Nat))))]) (mid:=cz x1.nodes cm) o3
  refine qr [.a 1 e2] ?_
  have o5:Has h0 ((aE,.sl x1.nodes.length 4 (b4.l (aK x1.nodes cm)))::(cz x1.nodes cm++L)):=Has.del o4 1
  obtain rfl:=oi H
  exact qt <| ⟨.inl rfl,⟨aE,cm,by kernel_rfl,he o5⟩⟩
end
end Go.Proofs.Ytifafejidnjckaa
namespace Go.Proofs.Ytifafejidnjckaa
open Go Go.R
open Go.IntKind (i64 u64 u8 u32)
def uf:b9:=gW [0,1,4,5,6,7,8,9,10,11,13,14,15,16,22,29,30,31,32,40,41,42,43,50,51,52,53] [4,11,14] [134217720,134217704,134201320,134217715,134217690,134217626,133988250,133726106,133987866,133988250,133988250,134217114,130547130,126352826,130546106,130545082,71824826,4715962,71812538,71824826,71824826,130547130,130547130,134217715] [(21,[(14,some 3,0)])] [(0,[(4,some 0,4)]),(3,[(4,some 0,4)]),(11,[(11,some 0,4)]),(15,[(14,some 3,1)])]
def ay.l0 (m:Nat)(x1:(List Int)):Nat→(List (Int × Int))→Int→Option ((List (Int × Int)) × Int)
 | 0,_,_=>none
 | k+1,jS,x2=>if (decide (x2<(x1.length:Int)))=true then ((ix x1 x2).bind fun v0=>ay.l0 m x1 k (yc jS v0 x2) (i64.wrap (x2+(1:Int)))) else (some ((jS,x2)))
def ay.l2 (m:Nat)(dW:List (Int × Int))(x5:ak):Nat→(List Int)→Int→Option ((List Int) × Int)
 | 0,_,_=>none
 | k+1,x6,x7=>if (decide (x7<(x5.args.length:Int)))=true then ((ix x6 x7).bind fun v2=>(ix x6 x7).bind fun v3=>ay.l2 m dW x5 k (x6.set x7.toNat ((mK dW v2).1)) (i64.wrap (x7+(1:Int)))) else (some ((x6,x7)))
def ay.l1 (m:Nat)(s0:ab)(x1:(List Int))(dW:List (Int × Int)):Nat→Int→(List ak)→Int→Option (Int × (List ak) × Int)
 | 0,_,_,_=>none
 | k+1,x4,t0,t1=>if (decide (x4<(x1.length:Int)))=true then ((ix x1 x4).bind fun v1=>(bl.f m s0 v1).bind fun x5=>(ay.l2 m dW x5 m x5.args (0:Int)).bind fun cD=>match cD with | (x8,x9)=>(app 56 t0 ([(ak.mk x5.kind x5.int x5.label x8)])).bind fun cb=>ay.l1 m s0 x1 dW k (i64.wrap (x4+(1:Int))) cb t1) else (some ((x4,t0,t1)))
def ay.f (m:Nat)(s0:ab)(n0:Int):Option (bg × Int):=(b5.f m s0 ([n0])).bind fun x0=>if (!(x0==(0:Int)))=true then (some ((bg.mk ([]:List ak) (0:Int)),x0)) else ((aL.f m s0 n0).bind fun x1=>(ay.l0 m x1 m ([]:List (Int × Int)) (0:Int)).bind fun bM=>match bM with | (dW,x3)=>(ay.l1 m s0 x1 dW m (0:Int) ([]:List ak) (0:Int)).bind fun j6=>match j6 with | (zr,t2,t3)=>(fM.f m (bg.mk t2 t3)).bind fun pf=>some (pf.1,pf.2))
def ay.fin (L:Mem)  (r:bg × Int)(s:St):Prop:=∃(dw:Nat) (en:List Nat),aO Try.prog (s.open uf) Try.f21.results.toList=some (.tup [.agg [.rs dw 0 r.1.nodes.length 4,.int .i64 r.1.root],.int .i64 r.2])∧Has s.h ((dw,.sl r.1.nodes.length 4 (b4.l (aK r.1.nodes en)))::(cz r.1.nodes en++L))
def UR (cf:CallF)(m:Nat):Prop:=∀(s0:ab) (n0:Int) (r:bg × Int),ay.f m s0 n0=some r→∀h L xs,Has h L→aU bR h xs [.fp [.bool s0.aj,ai.fz s0.aa,af.fz s0.ae] 0,.int .i64 n0]→∃(dw:Nat) (en:List Nat) (h':AHeap),cf 21 xs h=some (.tup [.agg [.rs dw 0 r.1.nodes.length 4,.int .i64 r.1.root],.int .i64 r.2],h')∧Has h' ((dw,.sl r.1.nodes.length 4 (b4.l (aK r.1.nodes en)))::(cz r.1.nodes en++L))∧∀j,j<h.next→h.ver j=h'.ver j
section
variable {cf:CallF}{m:Nat}
theorem ay.cQ (L:Mem)(s0:ab)(x1:(List Int))(aE:Nat)(cy:Nat)   : dL Try.prog cf uf m (sub [1,1,1,1,0,1,0,0] (bZ Try.f21)) (fun k (σ:(List (Int × Int)) × Int)=>ay.l0 m x1 k σ.1 σ.2) (fun σ s=>match σ with | (jS,x2)=>∃h2,s=⟨.fp [.bool s0.aj,ai.fz s0.aa,af.fz s0.ae] 0 :: .any :: .lp 4 0 :: .any :: .any :: .rs aE 0 x1.length 1 :: .mp cy::xf (.rs aE 0 x1.length 1 :: .int .i64 (x1.length:Int) :: .int .i64 x2::O8 []),[some [.rs (0) 0 (([]:List ak).length) 4,.int .i64 (0:Int)],none,none],h2⟩∧Has h2 ((cy,.mp (lW jS))::(aE,.sl x1.length 1 (af.l x1))::((0),.sl (([]:List ak).length) 4 (b4.l (aK ([]:List ak) ([]:List Nat))))::L)) (fun out e s=>(e = .exit 0∧∃jS x2,(jS,x2)=out∧∃Lw GK Lx Sc h2,s=⟨.fp [.bool s0.aj,ai.fz s0.aa,af.fz s0.ae] 0 :: .any :: .lp 4 0 :: .any :: .any :: .rs aE 0 x1.length 1 :: .mp cy::xf (Lw::GK::Lx::Sc::xf []),[some [.rs (0) 0 (([]:List ak).length) 4,.int .i64 (0:Int)],none,none],h2⟩∧Has h2 ((cy,.mp (lW jS))::(aE,.sl x1.length 1 (af.l x1))::((0),.sl (([]:List ak).length) 4 (b4.l (aK ([]:List ak) ([]:List Nat))))::L))):=by
 refine lg (fun _=>rfl) ?_
 rintro k ⟨jS,x2⟩ s out ⟨h2,rfl,o5⟩ H
 have H:ay.l0 m x1 (k+1) jS x2=some out:=H
 refine q1 <| qq <| qc H (fun c1 H=>?_) (fun c1 H=>?_)
 ·refine qk <| qq <| qb 1 <| qq ?_
  obtain⟨v0,e4,H⟩:=bj H
  refine qr [.v 1 (bp (k:=.i64) (E:=af) (l:=x1) (q:=1) gu o5 rfl e4),.v 2 (di  (E:=af) (l:=x1) (q:=1) o5 rfl A3 e4 rfl)] ?_
  obtain⟨h3,e5,o6⟩:=NC (q:=0) (l:=jS) (k:=v0) (v:=x2) I2 o5 rfl
  exact qr [.w 3 e5] <| q0 <| ⟨(yc jS v0 x2,i64.wrap (x2+(1:Int))),⟨h3,by kernel_rfl,o6⟩,H⟩
 ·exact qx 0 <| ⟨rfl,jS,x2,oi H,.rs aE 0 x1.length 1,.int .i64 (x1.length:Int),.int .i64 x2,.bool (decide (x2<(x1.length:Int))),h2,by kernel_rfl,o5⟩
theorem ay.p7 (L:Mem)(s0:ab)(x1:(List Int))(aE:Nat)(cy:Nat)(dW:List (Int × Int))(dY:Nat)(x4:Int)(t0:List ak)(t1:Int)(dY:Nat)(x5:ak)   : dL Try.prog cf uf m (sub [1,1,1,1,1,1,0,1,0,0,1,1,0,0,1,1,0,1,0,0] (bZ Try.f21)) (fun k (σ:(List Int) × Int)=>ay.l2 m dW x5 k σ.1 σ.2) (fun σ s=>match σ with | (x6,x7)=>∃dD h7,s=⟨.fp [.bool s0.aj,ai.fz s0.aa,af.fz s0.ae] 0 :: .any :: .lp 4 0::ov (.mp cy :: .any :: .any :: .lp 11 0 :: .any :: .lp 14 0::En [.rs aE 0 x1.length 1,.int .i64 (x1.length:Int),.int .i64 x4,.any,.rs dD 0 x6.length 1,.int .i64 (x5.args.length:Int),.int .i64 x7,.any]),[some [.rs (0) 0 (([]:List ak).length) 4,.int .i64 (0:Int)],some [.rs dY 0 t0.length 4,.int .i64 t1],some [.int .i64 x5.kind,.int .i64 x5.int,.str x5.label,.rs dD 0 x6.length 1]],h7⟩∧Has h7 ((dD,.sl x6.length 1 (af.l x6))::(dY,.sl t0.length 4 (ai.l t0))::(cy,.mp (lW dW))::(aE,.sl x1.length 1 (af.l x1))::((0),.sl (([]:List ak).length) 4 (b4.l (aK ([]:List ak) ([]:List Nat))))::L)) (fun out e s=>(e = .exit 4∧∃x6 x7,(x6,x7)=out∧∃Sd GV GW Bd dD h7,s=⟨.fp [.bool s0.aj,ai.fz s0.aa,af.fz s0.ae] 0 :: .any :: .lp 4 0::ov (.mp cy :: .any :: .any :: .lp 11 0 :: .any :: .lp 14 0::En [.rs aE 0 x1.length 1,.int .i64 (x1.length:Int),.int .i64 x4,.any,Sd,GV,GW,Bd]),[some [.rs (0) 0 (([]:List ak).length) 4,.int .i64 (0:Int)],some [.rs dY 0 t0.length 4,.int .i64 t1],some [.int .i64 x5.kind,.int .i64 x5.int,.str x5.label,.rs dD 0 x6.length 1]],h7⟩∧Has h7 ((dD,.sl x6.length 1 (af.l x6))::(dY,.sl t0.length 4 (ai.l t0))::(cy,.mp (lW dW))::(aE,.sl x1.length 1 (af.l x1))::((0),.sl (([]:List ak).length) 4 (b4.l (aK ([]:List ak) ([]:List Nat))))::L))):=by
 refine lg (fun _=>rfl) ?_
 rintro k ⟨x6,x7⟩ s out ⟨dD,h7,rfl,xC⟩ H
 have H:ay.l2 m dW x5 (k+1) x6 x7=some out:=H
 refine q1 <| qq <| qc H (fun c3 H=>?_) (fun c3 H=>?_)
 ·refine qk <| qq <| qb 5 <| qq ?_
  obtain⟨v2,rK,H⟩:=bj H
  refine qr [.v 1 (bp (k:=.i64) (E:=af) (l:=x6) (q:=0) gu xC rfl rK),.v 2 (di  (E:=af) (l:=x6) (q:=0) xC rfl A3 rK rfl)] ?_
  obtain⟨v3,uH,H⟩:=bj H
  obtain⟨h8,xq,CW⟩:=fS (P:=Try.prog) (tf:=3) (E:=af) (l:=x6) (q:=0) (v:=((mK dW v2).1)) (x:=.int .i64 ((mK dW v2).1)) xC rfl Z3 uH rfl rfl
  exact qr [.v 5 (show fh Try.prog h7 82 (.mp cy) (.int .i64 v2) false=some (.int .i64 ((mK dW v2).1)) from (NB (q:=2) (l:=dW) (k:=v2) I2 xC rfl).2),.v 6 (bp (k:=.i64) (E:=af) (l:=x6) (q:=0) gu xC rfl uH),.w 7 xq] <| q0 <| ⟨(x6.set x7.toNat ((mK dW v2).1),i64.wrap (x7+(1:Int))),⟨dD,h8,(aaR (b:=⟨.fp [.bool s0.aj,ai.fz s0.aa,af.fz s0.ae] 0 :: .any :: .lp 4 0::ov (.mp cy :: .any :: .any :: .lp 11 0 :: .any :: .lp 14 0::En [.rs aE 0 x1.length 1,.int .i64 (x1.length:Int),.int .i64 x4,.any,.rs dD 0 x6.length 1,.int .i64 (x5.args.length:Int),.int .i64 (i64.wrap (x7+(1:Int))),.any]),[some [.rs (0) 0 (([]:List ak).length) 4,.int .i64 (0:Int)],some [.rs dY 0 t0.length 4,.int .i64 t1],some [.int .i64 x5.kind,.int .i64 x5.int,.str x5.label,.rs dD 0 x6.length 1]],h8⟩) (by kernel_rfl) (by simp only [ZO])),(by have o:Has h8 ((dD,.sl x6.length 1 (af.l (x6.set x7.toNat ((mK dW v2).1))))::(dY,.sl t0.length 4 (ai.l t0))::(cy,.mp (lW dW))::(aE,.sl x1.length 1 (af.l x1))::((0),.sl (([]:List ak).length) 4 (b4.l (aK ([]:List ak) ([]:List Nat))))::L):=CW; simpa only [ZO] using o)⟩,H⟩
 ·exact qx 4 <| ⟨rfl,x6,x7,oi H,.rs dD 0 x6.length 1,.int .i64 (x5.args.length:Int),.int .i64 x7,.bool (decide (x7<(x5.args.length:Int))),dD,h7,by kernel_rfl,xC⟩
theorem ay.kz (L:Mem)(s0:ab)(x1:(List Int))(aE:Nat)(cy:Nat)(dW:List (Int × Int))  (LM:QV cf m):dL Try.prog cf uf m (sub [1,1,1,1,1,1,0,1,0,0] (bZ Try.f21)) (fun k (σ:Int × (List ak) × Int)=>ay.l1 m s0 x1 dW k σ.1 σ.2.1 σ.2.2) (fun σ s=>match σ with | (x4,t0,t1)=>∃dY h5,s=⟨.fp [.bool s0.aj,ai.fz s0.aa,af.fz s0.ae] 0 :: .any :: .lp 4 0::ov (.mp cy :: .any :: .any :: .lp 11 0::O8 (.rs aE 0 x1.length 1 :: .int .i64 (x1.length:Int) :: .int .i64 x4::Ai [])),[some [.rs (0) 0 (([]:List ak).length) 4,.int .i64 (0:Int)],some [.rs dY 0 t0.length 4,.int .i64 t1],none],h5⟩∧Has h5 ((dY,.sl t0.length 4 (ai.l t0))::(cy,.mp (lW dW))::(aE,.sl x1.length 1 (af.l x1))::((0),.sl (([]:List ak).length) 4 (b4.l (aK ([]:List ak) ([]:List Nat))))::L)) (fun out e s=>(e = .exit 2∧∃x4 t0 t1,(x4,t0,t1)=out∧∃mP A8 GS Se Sf Sh dY h5,s=⟨mP :: .any :: .lp 4 0::ov (A8 :: .any :: .any :: .lp 11 0::O8 (GS::Se::Sf::Sh::oZ [])),[some [.rs (0) 0 (([]:List ak).length) 4,.int .i64 (0:Int)],some [.rs dY 0 t0.length 4,.int .i64 t1],none],h5⟩∧Has h5 ((dY,.sl t0.length 4 (ai.l t0))::(cy,.mp (lW dW))::(aE,.sl x1.length 1 (af.l x1))::((0),.sl (([]:List ak).length) 4 (b4.l (aK ([]:List ak) ([]:List Nat))))::L))):=by
 refine lg (fun _=>rfl) ?_
 rintro k ⟨x4,t0,t1⟩ s out ⟨dY,h5,rfl,o9⟩ H
 have H:ay.l1 m s0 x1 dW (k+1) x4 t0 t1=some out:=H
 refine q1 <| qq <| qc H (fun c2 H=>?_) (fun c2 H=>?_)
 ·refine qk <| qq <| qb 3 <| qq ?_
  obtain⟨v1,e7,H⟩:=bj H
  refine qr [.v 0 (bp (k:=.i64) (E:=af) (l:=x1) (q:=2) gu o9 rfl e7),.v 1 (di  (E:=af) (l:=x1) (q:=2) o9 rfl A3 e7 rfl)] <| qq ?_
  obtain⟨x5,e8,H⟩:=bj H
  obtain⟨cW,h6,e9,xw,Km⟩:=LM _ _ _ e8 h5 _ _ o9 (fw (ah (fK (pure_cons (cJ) (pure_cons (bQ.bA (E:=ai) (l:=s0.aa)) (pure_cons (bQ.bA (E:=af) (l:=s0.ae)) (pure_nil))))) (ah (aZ) (aw))))
  refine qr [.a 2 e9] <| qq <| qq <| q0 <| qb 4 ?_
  obtain⟨cD,xr,H⟩:=bj H
  refine ql (ay.p7 L s0 x1 aE cy dW dY x4 t0 t1 dY x5   (x5.args,(0:Int)) _ _ ⟨cW,h6,by kernel_rfl,xw⟩ xr) ?_
  rintro e s ⟨rfl,x8,x9,rfl,g4,g5,g6,g7,ff,h9,rfl,u9⟩
  try dsimp only at H
  obtain⟨h10,Be,va⟩:=qK (E:=af) (l:=x8) (q:=0) u9 rfl
  obtain⟨cb,Al,H⟩:=bj H
  obtain⟨gT,h11,EE,Fb⟩:=iA (P:=Try.prog) (E:=ai) (l:=t0) (q:=0) (t2:=40) (x:=.fz [.int .i64 x5.kind,.int .i64 x5.int,.str x5.label,af.fz x8] 1 true) (l2:=([(ak.mk x5.kind x5.int x5.label x8)])) uW va rfl (by kernel_rfl) rfl Al
  exact My [.a 0 Be] [.a 4 EE] <| q0 <| ⟨(i64.wrap (x4+(1:Int)),cb,t1),⟨gT,h11,by kernel_rfl,Fb⟩,H⟩
 ·exact qx 2 <| ⟨rfl,x4,t0,t1,oi H,.fp [.bool s0.aj,ai.fz s0.aa,af.fz s0.ae] 0,.mp cy,.rs aE 0 x1.length 1,.int .i64 (x1.length:Int),.int .i64 x4,.bool (decide (x4<(x1.length:Int))),dY,h5,by kernel_rfl,o9⟩
theorem nb {aY:FuncId→b9}(ha:aY 21=uf)(Bn:NY cf m)(LM:QV cf m)(Si:Ud cf m)(LN:Sa cf m)(s0:ab)(n0:Int)(h:AHeap)(L:Mem)  (o:Has h (L)){out:bg × Int}(H:ay.f m s0 n0=some out) :
  ∃r h',bf Try.prog aY cf m 21 [.fp [.bool s0.aj,ai.fz s0.aa,af.fz s0.ae] 0,.int .i64 n0] h=some (r,h')∧∃(dw:Nat) (en:List Nat),r = .tup [.agg [.rs dw 0 out.1.nodes.length 4,.int .i64 out.1.root],.int .i64 out.2]∧Has h' ((dw,.sl out.1.nodes.length 4 (b4.l (aK out.1.nodes en)))::(cz out.1.nodes en++L)):=by
 refine ar (fn:=Try.f21) ha Try.func21 (by kernel_rfl) (by kernel_rfl) ?_
 refine aH (Q:=fun s=>ay.fin L out s) (fun _ _ ⟨h1,dw,en,h2,h3⟩=>⟨h1,_,h2,dw,en,rfl,h3⟩) ?_
 have H:_=some out:=H
 unfold ay.f at H
 show dK _ cf uf m _ ⟨.fp [.bool s0.aj,ai.fz s0.aa,af.fz s0.ae] 0 :: .int .i64 n0::NG [],[none,none,none],h⟩ _
 refine q1 ?_
 have o0:Has h (((0),.sl (([]:List ak).length) 4 (b4.l (aK ([]:List ak) ([]:List Nat))))::L):=Has.nil o 4
 refine qq <| qq ?_
 obtain⟨x0,e0,H⟩:=bj H
 refine qr [.a 3 (Bn _ _ _ e0 h _ (fw (ah (fK (pure_cons (cJ) (pure_cons (bQ.bA (E:=ai) (l:=s0.aa)) (pure_cons (bQ.bA (E:=af) (l:=s0.ae)) (pure_nil))))) (ah (qL (E:=af) (l:=[n0]) (cs:=[.int .i64 n0]) (b:=true) (by kernel_rfl) (by kernel_rfl) rfl) (aw)))))] <| qq <| q0 <| qc H (fun c0 H=>?_) (fun c0 H=>?_)
 ·refine q1 ?_
  have o1:Has h ((((0)),.sl (([]:List ak).length) 4 (b4.l (aK ([]:List ak) ([]:List Nat))))::((0),.sl (([]:List ak).length) 4 (b4.l (aK ([]:List ak) ([]:List Nat))))::L):=Has.nil o0 4
  have o2:Has h ((((0)),.sl (([]:List ak).length) 4 (b4.l (aK ([]:List ak) ([]:List Nat))))::L):=Has.del o1 1
  obtain rfl:=oi H
  exact qt <| ⟨.inl rfl,⟨((0)),([]:List Nat),by kernel_rfl,he o2⟩⟩
 ·refine qk <| qq ?_
  obtain⟨x1,e1,H⟩:=bj H
  obtain⟨aE,h0,e2,o3,HX⟩:=Si _ _ _ e1 h _ _ o0 (fw (ah (fK (pure_cons (cJ) (pure_cons (bQ.bA (E:=ai) (l:=s0.aa)) (pure_cons (bQ.bA (E:=af) (l:=s0.ae)) (pure_nil))))) (ah (aZ) (aw))))
  refine qr [.a 2 e2] <| qq ?_
  obtain⟨cy,h1,e3,o4⟩:=xd o3
  refine qr [.m 0 e3] <| qq <| qq <| q0 <| qb 0 ?_
  obtain⟨bM,e6,H⟩:=bj H
  refine ql (ay.cQ L s0 x1 aE cy   (([]:List (Int × Int)),(0:Int)) _ _ ⟨h1,by kernel_rfl,o4⟩ e6) ?_
  rintro e s ⟨rfl,dW,x3,rfl,g0,g1,g2,g3,h4,rfl,o7⟩
  try dsimp only at H
  refine q1 ?_
  have o8:Has h4 (((((0))),.sl (([]:List ak).length) 4 (ai.l ([]:List ak)))::(cy,.mp (lW dW))::(aE,.sl x1.length 1 (af.l x1))::((0),.sl (([]:List ak).length) 4 (b4.l (aK ([]:List ak) ([]:List Nat))))::L):=Has.nil o7 4
  refine qq <| qq <| q0 <| qb 2 ?_
  obtain⟨j6,EF,H⟩:=bj H
  refine ql (ay.kz L s0 x1 aE cy dW  LM ((0:Int),([]:List ak),(0:Int)) _ _ ⟨(((0))),h4,by kernel_rfl,o8⟩ EF) ?_
  rintro e s ⟨rfl,zr,t2,t3,rfl,g8,g9,g10,g11,g12,g13,fi,h12,rfl,ye⟩
  try dsimp only at H
  refine qq ?_
  obtain⟨pf,Fa,H⟩:=bj H
  obtain⟨kC,kE,h13,CV,C5,JG⟩:=LN _ _ Fa h12 _ _ ye (fw (ah (eV (ah (cZ (E:=ai) (l:=t2) (q:=0) ye rfl (fun _=>rfl)) (ah (aZ) (aw)))) (aw)))
  have C4:=Has.jg (pre:=[(kC,.sl pf.1.nodes.length 4 (b4.l (aK pf.1.nodes kE)))]) (N:=[(fi,.sl t2.length 4 (ai.l t2)),(cy,.mp (lW dW)),(aE,.sl x1.length 1 (af.l x1)),((0),.sl (([]:List ak).length) 4 (b4.l (aK ([]:List ak) ([]:List Nat))))]) (mid:=cz pf.1.nodes kE) C5
  refine qr [.a 1 CV] ?_
  have Bm:Has h13 ((kC,.sl pf.1.nodes.length 4 (b4.l (aK pf.1.nodes kE)))::(fi,.sl t2.length 4 (ai.l t2))::(cy,.mp (lW dW))::(aE,.sl x1.length 1 (af.l x1))::(cz pf.1.nodes kE++L)):=Has.del C4 4
  have LL:Has h13 ((kC,.sl pf.1.nodes.length 4 (b4.l (aK pf.1.nodes kE)))::(fi,.sl t2.length 4 (ai.l t2))::(cy,.mp (lW dW))::(cz pf.1.nodes kE++L)):=Has.del Bm 3
  have Di:Has h13 ((kC,.sl pf.1.nodes.length 4 (b4.l (aK pf.1.nodes kE)))::(fi,.sl t2.length 4 (ai.l t2))::(cz pf.1.nodes kE++L)):=Has.del LL 2
  have Ia:Has h13 ((kC,.sl pf.1.nodes.length 4 (b4.l (aK pf.1.nodes kE)))::(cz pf.1.nodes kE++L)):=Has.del Di 1
  obtain rfl:=oi H
  exact qt <| ⟨.inl rfl,⟨kC,kE,by kernel_rfl,he Ia⟩⟩
end
end Go.Proofs.Ytifafejidnjckaa
namespace Go.Proofs.Ytifafejidnjckaa
open Go Go.R
open Go.IntKind (i64 u64 u8 u32)
def ug:b9:=gW [0,1,3,4,5,6,7,8,9,10,11,14,21,33,35,36,37,38,44,51,52,53] [3,6,10] [4194298,4192250,4194279,4194206,4190110,4194279,4194142,4185950,4194279,4079486,3948414,4078718,3816574,4078718,2505854,408702,2504830,2505854,2505854,4079486,4079486,4194279] [(19,[(10,some 3,0)])] [(3,[(6,some 0,4)]),(11,[(10,some 3,1)])]
def aF.l1 (m:Nat)(s0:ab)(v0:ak):Nat→Int→(List Int)→ab→Option (Int × (List Int) × ab)
 | 0,_,_,_=>none
 | k+1,x3,n0,s2=>if (decide (x3<(v0.args.length:Int)))=true then ((ix n0 x3).bind fun v1=>(ix n0 x3).bind fun v2=>aF.l1 m s0 v0 k (i64.wrap (x3+(1:Int))) (n0.set x3.toNat (i64.wrap (v1+(s0.aa.length:Int)))) s2) else (some ((x3,n0,s2)))
def aF.l2 (m:Nat)(s0:ab)(v0:ak):Nat→Int→(List Int)→ab→Option (Int × (List Int) × ab)
 | 0,_,_,_=>none
 | k+1,x7,n2,s4=>if (decide (x7<(v0.args.length:Int)))=true then ((ix n2 x7).bind fun v3=>(ix n2 x7).bind fun v4=>aF.l2 m s0 v0 k (i64.wrap (x7+(1:Int))) (n2.set x7.toNat (i64.wrap (v3+(s0.aa.length:Int)))) s4) else (some ((x7,n2,s4)))
def aF.l0 (m:Nat)(s0:ab)(x1:bg × Int):Nat→Int→ab→Option (Int × ab)
 | 0,_,_=>none
 | k+1,x2,s1=>if (decide (x2<(x1.1.nodes.length:Int)))=true then ((ix x1.1.nodes x2).bind fun v0=>if (v0.kind==(0:Int))=true then ((aF.l1 m s0 v0 m (0:Int) v0.args s1).bind fun bM=>match bM with | (x4,n1,s3)=>(app 56 s3.aa ([(ak.mk v0.kind (i64.wrap ((s0.aa.length:Int)+x2)) v0.label n1)])).bind fun x5=>(app 8 s3.ae ([i64.wrap ((s0.aa.length:Int)+x2)])).bind fun x6=>aF.l0 m s0 x1 k (i64.wrap (x2+(1:Int))) (ab.mk s3.aj x5 x6)) else ((aF.l2 m s0 v0 m (0:Int) v0.args s1).bind fun cD=>match cD with | (x8,n3,s5)=>(app 56 s5.aa ([(ak.mk v0.kind v0.int v0.label n3)])).bind fun x9=>(app 8 s5.ae ([i64.wrap ((s0.aa.length:Int)+x2)])).bind fun cb=>aF.l0 m s0 x1 k (i64.wrap (x2+(1:Int))) (ab.mk s5.aj x9 cb))) else (some ((x2,s1)))
def aF.f (m:Nat)(s0:ab)(t0:bg):Option (Int × Int × ab):=(bO.f m s0).bind fun x0=>if (!x0)=true then (some ((0:Int),(6:Int),s0)) else ((fM.f m t0).bind fun x1=>if (!(x1.2==(0:Int)))=true then (some ((0:Int),x1.2,s0)) else (if (decide ((i64.wrap ((s0.aa.length:Int)+(x1.1.nodes.length:Int))) > (8000:Int)))=true then (some ((0:Int),(7:Int),s0)) else ((aF.l0 m s0 x1 m (0:Int) s0).bind fun j6=>match j6 with | (zr,s6)=>some ((s0.aa.length:Int),(0:Int),s6))))
def aF.fin (L:Mem)(aq:Nat)(an:Nat)(ao:Nat)(s0:ab)(t0:bg)(r:Int × Int × ab)(s:St):Prop:=∃aC aD:Nat,aO Try.prog (s.open ug) Try.f36.results.toList=some (.tup [.int .i64 r.1,.int .i64 r.2.1])∧Has s.h ((aq,.ob [.bool r.2.2.aj,.rs aC 0 r.2.2.aa.length 4,.rs aD 0 r.2.2.ae.length 1])::(aC,.sl r.2.2.aa.length 4 (ai.l r.2.2.aa))::(aD,.sl r.2.2.ae.length 1 (af.l r.2.2.ae))::L)
def US (cf:CallF)(m:Nat):Prop:=∀(s0:ab) (t0:bg) (r:Int × Int × ab),aF.f m s0 t0=some r→∀h L (aq:Nat) (an:Nat) (ao:Nat),Has h ((aq,.ob [.bool s0.aj,.rs an 0 s0.aa.length 4,.rs ao 0 s0.ae.length 1])::(an,.sl s0.aa.length 4 (ai.l s0.aa))::(ao,.sl s0.ae.length 1 (af.l s0.ae))::L)→∀xs,xs.map aS=[.ptr aq 0,.agg [ai.fz t0.nodes,.int .i64 t0.root]]→∃aC aD h',cf 36 xs h=some (.tup [.int .i64 r.1,.int .i64 r.2.1],h')∧Has h' ((aq,.ob [.bool r.2.2.aj,.rs aC 0 r.2.2.aa.length 4,.rs aD 0 r.2.2.ae.length 1])::(aC,.sl r.2.2.aa.length 4 (ai.l r.2.2.aa))::(aD,.sl r.2.2.ae.length 1 (af.l r.2.2.ae))::L)
section
variable {cf:CallF}{m:Nat}
theorem aF.kz (L:Mem)(aq:Nat)(an:Nat)(ao:Nat)(s0:ab)(t0:bg)(x1:bg × Int)(aE:Nat)(cm:List Nat)(x2:Int)(v0:ak)   : dL Try.prog cf ug m (sub [1,1,1,1,1,1,0,1,0,0,1,1,0,0,1,1,0,1,0,0] (bZ Try.f36)) (fun k (σ:Int × (List Int) × ab)=>aF.l1 m s0 v0 k σ.1 σ.2.1 σ.2.2) (fun σ s=>match σ with | (x3,n0,s2)=>∃cW dD ff h2,s=⟨.ptr aq 0::yZ (.int .i64 (s0.aa.length:Int) :: .int .i64 x2 :: .lp 10 0::oZ [.rs aE 0 x1.1.nodes.length 4,.int .i64 (x1.1.nodes.length:Int),.int .i64 x2,.any,.any,.int .i64 (v0.args.length:Int),.int .i64 x3,.any]),[none,none,some [.int .i64 v0.kind,.int .i64 (i64.wrap ((s0.aa.length:Int)+x2)),.str v0.label,.rs cW 0 n0.length 1]],h2⟩∧Has h2 ((cW,.sl n0.length 1 (af.l n0))::(aE,.sl x1.1.nodes.length 4 (b4.l (aK x1.1.nodes cm)))::(aq,.ob [.bool s2.aj,.rs dD 0 s2.aa.length 4,.rs ff 0 s2.ae.length 1])::(dD,.sl s2.aa.length 4 (ai.l s2.aa))::(ff,.sl s2.ae.length 1 (af.l s2.ae))::(cz (x1.1.nodes.drop ((i64.wrap (x2+(1:Int))).toNat)) (cm.drop ((i64.wrap (x2+(1:Int))).toNat))++L))) (fun out e s=>(e = .exit 2∧∃x3 n0 s2,(x3,n0,s2)=out∧∃GV GW Bd cW dD ff h2,s=⟨.ptr aq 0::yZ (.int .i64 (s0.aa.length:Int) :: .int .i64 x2 :: .lp 10 0::oZ [.rs aE 0 x1.1.nodes.length 4,.int .i64 (x1.1.nodes.length:Int),.int .i64 x2,.any,.any,GV,GW,Bd]),[none,none,some [.int .i64 v0.kind,.int .i64 (i64.wrap ((s0.aa.length:Int)+x2)),.str v0.label,.rs cW 0 n0.length 1]],h2⟩∧Has h2 ((cW,.sl n0.length 1 (af.l n0))::(aE,.sl x1.1.nodes.length 4 (b4.l (aK x1.1.nodes cm)))::(aq,.ob [.bool s2.aj,.rs dD 0 s2.aa.length 4,.rs ff 0 s2.ae.length 1])::(dD,.sl s2.aa.length 4 (ai.l s2.aa))::(ff,.sl s2.ae.length 1 (af.l s2.ae))::(cz (x1.1.nodes.drop ((i64.wrap (x2+(1:Int))).toNat)) (cm.drop ((i64.wrap (x2+(1:Int))).toNat))++L)))):=by
 refine lg (fun _=>rfl) ?_
 rintro k ⟨x3,n0,s2⟩ s out ⟨cW,dD,ff,h2,rfl,o6⟩ H
 have H:aF.l1 m s0 v0 (k+1) x3 n0 s2=some out:=H
 refine q1 <| qq <| qc H (fun c5 H=>?_) (fun c5 H=>?_)
 ·refine qk <| qq <| qb 3 <| qq <| q0 ?_
  obtain⟨v1,e4,H⟩:=bj H
  obtain⟨v2,e5,H⟩:=bj H
  obtain⟨h3,e6,o7⟩:=fS (P:=Try.prog) (tf:=3) (E:=af) (l:=n0) (q:=0) (v:=(i64.wrap (v1+(s0.aa.length:Int)))) (x:=.int .i64 (i64.wrap (v1+(s0.aa.length:Int)))) o6 rfl Z3 e5 rfl rfl
  exact qr [.v 3 (bp (k:=.i64) (E:=af) (l:=n0) (q:=0) gu o6 rfl e4),.v 4 (di  (E:=af) (l:=n0) (q:=0) o6 rfl A3 e4 rfl),.v 7 (bp (k:=.i64) (E:=af) (l:=n0) (q:=0) gu o6 rfl e5),.w 8 e6] <| q0 <| ⟨(i64.wrap (x3+(1:Int)),n0.set x3.toNat (i64.wrap (v1+(s0.aa.length:Int))),s2),⟨cW,dD,ff,h3,(aaR (b:=⟨.ptr aq 0::yZ (.int .i64 (s0.aa.length:Int) :: .int .i64 x2 :: .lp 10 0::oZ [.rs aE 0 x1.1.nodes.length 4,.int .i64 (x1.1.nodes.length:Int),.int .i64 x2,.any,.any,.int .i64 (v0.args.length:Int),.int .i64 (i64.wrap (x3+(1:Int))),.any]),[none,none,some [.int .i64 v0.kind,.int .i64 (i64.wrap ((s0.aa.length:Int)+x2)),.str v0.label,.rs cW 0 n0.length 1]],h3⟩) (by kernel_rfl) (by simp only [ZO])),(by have o:Has h3 ((cW,.sl n0.length 1 (af.l (n0.set x3.toNat (i64.wrap (v1+(s0.aa.length:Int))))))::(aE,.sl x1.1.nodes.length 4 (b4.l (aK x1.1.nodes cm)))::(aq,.ob [.bool s2.aj,.rs dD 0 s2.aa.length 4,.rs ff 0 s2.ae.length 1])::(dD,.sl s2.aa.length 4 (ai.l s2.aa))::(ff,.sl s2.ae.length 1 (af.l s2.ae))::(cz (x1.1.nodes.drop ((i64.wrap (x2+(1:Int))).toNat)) (cm.drop ((i64.wrap (x2+(1:Int))).toNat))++L)):=o7; simpa only [ZO] using o)⟩,H⟩
 ·exact qx 2 <| ⟨rfl,x3,n0,s2,oi H,.int .i64 (v0.args.length:Int),.int .i64 x3,.bool (decide (x3<(v0.args.length:Int))),cW,dD,ff,h2,by kernel_rfl,o6⟩
theorem aF.p7 (L:Mem)(aq:Nat)(an:Nat)(ao:Nat)(s0:ab)(t0:bg)(x1:bg × Int)(aE:Nat)(cm:List Nat)(x2:Int)(v0:ak)   : dL Try.prog cf ug m (sub [1,1,1,1,1,1,0,1,0,0,1,1,0,0,1,1,0,1,0,0] (bZ Try.f36)) (fun k (σ:Int × (List Int) × ab)=>aF.l2 m s0 v0 k σ.1 σ.2.1 σ.2.2) (fun σ s=>match σ with | (x7,n2,s4)=>∃jR lN ln h10,s=⟨.ptr aq 0::yZ (.int .i64 (s0.aa.length:Int) :: .int .i64 x2 :: .lp 10 0::oZ [.rs aE 0 x1.1.nodes.length 4,.int .i64 (x1.1.nodes.length:Int),.int .i64 x2,.any,.any,.int .i64 (v0.args.length:Int),.int .i64 x7,.any]),[none,none,some [.int .i64 v0.kind,.int .i64 v0.int,.str v0.label,.rs jR 0 n2.length 1]],h10⟩∧Has h10 ((jR,.sl n2.length 1 (af.l n2))::(aE,.sl x1.1.nodes.length 4 (b4.l (aK x1.1.nodes cm)))::(aq,.ob [.bool s4.aj,.rs lN 0 s4.aa.length 4,.rs ln 0 s4.ae.length 1])::(lN,.sl s4.aa.length 4 (ai.l s4.aa))::(ln,.sl s4.ae.length 1 (af.l s4.ae))::(cz (x1.1.nodes.drop ((i64.wrap (x2+(1:Int))).toNat)) (cm.drop ((i64.wrap (x2+(1:Int))).toNat))++L))) (fun out e s=>(e = .exit 2∧∃x7 n2 s4,(x7,n2,s4)=out∧∃GV GW Bd jR lN ln h10,s=⟨.ptr aq 0::yZ (.int .i64 (s0.aa.length:Int) :: .int .i64 x2 :: .lp 10 0::oZ [.rs aE 0 x1.1.nodes.length 4,.int .i64 (x1.1.nodes.length:Int),.int .i64 x2,.any,.any,GV,GW,Bd]),[none,none,some [.int .i64 v0.kind,.int .i64 v0.int,.str v0.label,.rs jR 0 n2.length 1]],h10⟩∧Has h10 ((jR,.sl n2.length 1 (af.l n2))::(aE,.sl x1.1.nodes.length 4 (b4.l (aK x1.1.nodes cm)))::(aq,.ob [.bool s4.aj,.rs lN 0 s4.aa.length 4,.rs ln 0 s4.ae.length 1])::(lN,.sl s4.aa.length 4 (ai.l s4.aa))::(ln,.sl s4.ae.length 1 (af.l s4.ae))::(cz (x1.1.nodes.drop ((i64.wrap (x2+(1:Int))).toNat)) (cm.drop ((i64.wrap (x2+(1:Int))).toNat))++L)))):=by
 refine lg (fun _=>rfl) ?_
 rintro k ⟨x7,n2,s4⟩ s out ⟨jR,lN,ln,h10,rfl,va⟩ H
 have H:aF.l2 m s0 v0 (k+1) x7 n2 s4=some out:=H
 refine q1 <| qq <| qc H (fun c6 H=>?_) (fun c6 H=>?_)
 ·refine qk <| qq <| qb 3 <| qq <| q0 ?_
  obtain⟨v3,Al,H⟩:=bj H
  obtain⟨v4,EE,H⟩:=bj H
  obtain⟨h11,EF,Fb⟩:=fS (P:=Try.prog) (tf:=3) (E:=af) (l:=n2) (q:=0) (v:=(i64.wrap (v3+(s0.aa.length:Int)))) (x:=.int .i64 (i64.wrap (v3+(s0.aa.length:Int)))) va rfl Z3 EE rfl rfl
  exact qr [.v 3 (bp (k:=.i64) (E:=af) (l:=n2) (q:=0) gu va rfl Al),.v 4 (di  (E:=af) (l:=n2) (q:=0) va rfl A3 Al rfl),.v 7 (bp (k:=.i64) (E:=af) (l:=n2) (q:=0) gu va rfl EE),.w 8 EF] <| q0 <| ⟨(i64.wrap (x7+(1:Int)),n2.set x7.toNat (i64.wrap (v3+(s0.aa.length:Int))),s4),⟨jR,lN,ln,h11,(aaR (b:=⟨.ptr aq 0::yZ (.int .i64 (s0.aa.length:Int) :: .int .i64 x2 :: .lp 10 0::oZ [.rs aE 0 x1.1.nodes.length 4,.int .i64 (x1.1.nodes.length:Int),.int .i64 x2,.any,.any,.int .i64 (v0.args.length:Int),.int .i64 (i64.wrap (x7+(1:Int))),.any]),[none,none,some [.int .i64 v0.kind,.int .i64 v0.int,.str v0.label,.rs jR 0 n2.length 1]],h11⟩) (by kernel_rfl) (by simp only [ZO])),(by have o:Has h11 ((jR,.sl n2.length 1 (af.l (n2.set x7.toNat (i64.wrap (v3+(s0.aa.length:Int))))))::(aE,.sl x1.1.nodes.length 4 (b4.l (aK x1.1.nodes cm)))::(aq,.ob [.bool s4.aj,.rs lN 0 s4.aa.length 4,.rs ln 0 s4.ae.length 1])::(lN,.sl s4.aa.length 4 (ai.l s4.aa))::(ln,.sl s4.ae.length 1 (af.l s4.ae))::(cz (x1.1.nodes.drop ((i64.wrap (x2+(1:Int))).toNat)) (cm.drop ((i64.wrap (x2+(1:Int))).toNat))++L)):=Fb; simpa only [ZO] using o)⟩,H⟩
 ·exact qx 2 <| ⟨rfl,x7,n2,s4,oi H,.int .i64 (v0.args.length:Int),.int .i64 x7,.bool (decide (x7<(v0.args.length:Int))),jR,lN,ln,h10,by kernel_rfl,va⟩
theorem aF.cQ (L:Mem)(aq:Nat)(an:Nat)(ao:Nat)(s0:ab)(t0:bg)(x1:bg × Int)(aE:Nat)(cm:List Nat)   : dL Try.prog cf ug m (sub [1,1,1,1,1,1,0,1,0,0] (bZ Try.f36)) (fun k (σ:Int × ab)=>aF.l0 m s0 x1 k σ.1 σ.2) (fun σ s=>match σ with | (x2,s1)=>∃cy dY h1,s=⟨.ptr aq 0::yZ (.int .i64 (s0.aa.length:Int)::yZ (.rs aE 0 x1.1.nodes.length 4 :: .int .i64 (x1.1.nodes.length:Int) :: .int .i64 x2::Ai [])),[none,none,none],h1⟩∧Has h1 ((aE,.sl x1.1.nodes.length 4 (b4.l (aK x1.1.nodes cm)))::(aq,.ob [.bool s1.aj,.rs cy 0 s1.aa.length 4,.rs dY 0 s1.ae.length 1])::(cy,.sl s1.aa.length 4 (ai.l s1.aa))::(dY,.sl s1.ae.length 1 (af.l s1.ae))::(cz (x1.1.nodes.drop x2.toNat) (cm.drop x2.toNat)++L))) (fun out e s=>(e = .exit 0∧∃x2 s1,(x2,s1)=out∧∃mP LH Lj Ba Bb cy dY h1,s=⟨mP::yZ (.int .i64 (s0.aa.length:Int)::yZ (LH::Lj::Ba::Bb::oZ [])),[none,none,none],h1⟩∧Has h1 ((aE,.sl x1.1.nodes.length 4 (b4.l (aK x1.1.nodes cm)))::(aq,.ob [.bool s1.aj,.rs cy 0 s1.aa.length 4,.rs dY 0 s1.ae.length 1])::(cy,.sl s1.aa.length 4 (ai.l s1.aa))::(dY,.sl s1.ae.length 1 (af.l s1.ae))::(cz (x1.1.nodes.drop x2.toNat) (cm.drop x2.toNat)++L)))):=by
 refine lg (fun _=>rfl) ?_
 rintro k ⟨x2,s1⟩ s out ⟨cy,dY,h1,rfl,o4⟩ H
 have H:aF.l0 m s0 x1 (k+1) x2 s1=some out:=H
 refine q1 <| qq <| qc H (fun c3 H=>?_) (fun c3 H=>?_)
 ·refine qk <| qq <| qb 1 <| qq ?_
  obtain⟨v0,e3,H⟩:=bj H
  have o5:=Gu (pre:=[(aE,.sl x1.1.nodes.length 4 (b4.l (aK x1.1.nodes cm))),(aq,.ob [.bool s1.aj,.rs cy 0 s1.aa.length 4,.rs dY 0 s1.ae.length 1]),(cy,.sl s1.aa.length 4 (ai.l s1.aa)),(dY,.sl s1.ae.length 1 (af.l s1.ae))]) (q:=0) (ns:=x1.1.nodes) (ids:=cm) o4 rfl e3
  refine qr [.v 1 (bp (k:=.i64) (E:=b4) (l:=(aK x1.1.nodes cm)) (q:=0) uW o4 rfl (sy e3)),.v 2 (xa  (E:=b4) (l:=(aK x1.1.nodes cm)) (q:=0) o4 rfl Ez EA (sy e3))] <| qq <| qq <| q0 <| qc H (fun c4 H=>?_) (fun c4 H=>?_)
  ·refine q0 <| qq <| qq <| q0 <| qb 2 ?_
   obtain⟨bM,e7,H⟩:=bj H
   refine ql (aF.kz L aq an ao s0 t0 x1 aE cm x2 v0   ((0:Int),v0.args,s1) _ _ ⟨(Mx cm x2),cy,dY,h1,by kernel_rfl,o5⟩ e7) ?_
   rintro e s ⟨rfl,x4,n1,s3,rfl,g0,g1,g2,gT,fi,kC,h4,rfl,o8⟩
   try dsimp only at H
   obtain⟨h5,e8,o9⟩:=qK (E:=af) (l:=n1) (q:=0) o8 rfl
   obtain⟨x5,e9,H⟩:=bj H
   obtain⟨E9,h6,rK,xw⟩:=iA (P:=Try.prog) (E:=ai) (l:=s3.aa) (q:=2) (t2:=40) (x:=.fz [.int .i64 v0.kind,.int .i64 (i64.wrap ((s0.aa.length:Int)+x2)),.str v0.label,af.fz n1] 1 true) (l2:=([(ak.mk v0.kind (i64.wrap ((s0.aa.length:Int)+x2)) v0.label n1)])) uW o9 rfl (by kernel_rfl) rfl e9
   obtain⟨x6,uH,H⟩:=bj H
   obtain⟨iQ,h7,xq,xC⟩:=iA (P:=Try.prog) (E:=af) (l:=s3.ae) (q:=3) (t2:=33) (x:=.fz [.int .i64 (i64.wrap ((s0.aa.length:Int)+x2))] 1 true) (l2:=([i64.wrap ((s0.aa.length:Int)+x2)])) gu xw rfl (by kernel_rfl) rfl uH
   obtain⟨h8,xr,CW⟩:=oI (P:=Try.prog) (t:=40) (off:=1) (q:=1) (cs:=[.bool s3.aj,.rs fi 0 s3.aa.length 4,.rs kC 0 s3.ae.length 1]) (fU:=[.bool s3.aj,.rs E9 0 x5.length 4,.rs kC 0 s3.ae.length 1]) (x:=.rs E9 0 x5.length 4) xC rfl (by kernel_rfl)
   obtain⟨h9,Be,u9⟩:=oI (P:=Try.prog) (t:=33) (off:=2) (q:=1) (cs:=[.bool s3.aj,.rs E9 0 x5.length 4,.rs kC 0 s3.ae.length 1]) (fU:=[.bool s3.aj,.rs E9 0 x5.length 4,.rs iQ 0 x6.length 1]) (x:=.rs iQ 0 x6.length 1) CW rfl (by kernel_rfl)
   exact Mz [.a 0 e8] [.v 5 (show bE Try.prog h5 40 (.ptr aq 1)=some (.rs fi 0 s3.aa.length 4) from cq (q:=1) (cs:=[.bool s3.aj,.rs fi 0 s3.aa.length 4,.rs kC 0 s3.ae.length 1]) o9 rfl (by kernel_rfl)),.a 8 rK,.v 12 (show bE Try.prog h6 33 (.ptr aq 2)=some (.rs kC 0 s3.ae.length 1) from cq (q:=1) (cs:=[.bool s3.aj,.rs fi 0 s3.aa.length 4,.rs kC 0 s3.ae.length 1]) xw rfl (by kernel_rfl)),.a 17 xq,.w 20 xr,.w 23 Be] [.mk (A4 o9 (q:=2) rfl (q2:=1) rfl (by decide) rK)] <| q0 <| ⟨(i64.wrap (x2+(1:Int)),(ab.mk s3.aj x5 x6)),⟨E9,iQ,h9,by kernel_rfl,u9⟩,H⟩
  ·refine qk <| qq <| qq <| q0 <| qb 2 ?_
   obtain⟨cD,Fa,H⟩:=bj H
   refine ql (aF.p7 L aq an ao s0 t0 x1 aE cm x2 v0   ((0:Int),v0.args,s1) _ _ ⟨(Mx cm x2),cy,dY,h1,by kernel_rfl,o5⟩ Fa) ?_
   rintro e s ⟨rfl,x8,n3,s5,rfl,g3,g4,g5,Bk,zB,bL,h12,rfl,ye⟩
   try dsimp only at H
   obtain⟨h13,CV,C5⟩:=qK (E:=af) (l:=n3) (q:=0) ye rfl
   obtain⟨x9,H5,H⟩:=bj H
   obtain⟨bS,h14,H6,C4⟩:=iA (P:=Try.prog) (E:=ai) (l:=s5.aa) (q:=2) (t2:=40) (x:=.fz [.int .i64 v0.kind,.int .i64 v0.int,.str v0.label,af.fz n3] 1 true) (l2:=([(ak.mk v0.kind v0.int v0.label n3)])) uW C5 rfl (by kernel_rfl) rfl H5
   obtain⟨cb,H7,H⟩:=bj H
   obtain⟨kD,h15,Bl,Bm⟩:=iA (P:=Try.prog) (E:=af) (l:=s5.ae) (q:=3) (t2:=33) (x:=.fz [.int .i64 (i64.wrap ((s0.aa.length:Int)+x2))] 1 true) (l2:=([i64.wrap ((s0.aa.length:Int)+x2)])) gu C4 rfl (by kernel_rfl) rfl H7
   obtain⟨h16,H8,LL⟩:=oI (P:=Try.prog) (t:=40) (off:=1) (q:=1) (cs:=[.bool s5.aj,.rs zB 0 s5.aa.length 4,.rs bL 0 s5.ae.length 1]) (fU:=[.bool s5.aj,.rs bS 0 x9.length 4,.rs bL 0 s5.ae.length 1]) (x:=.rs bS 0 x9.length 4) Bm rfl (by kernel_rfl)
   obtain⟨h17,H9,Di⟩:=oI (P:=Try.prog) (t:=33) (off:=2) (q:=1) (cs:=[.bool s5.aj,.rs bS 0 x9.length 4,.rs bL 0 s5.ae.length 1]) (fU:=[.bool s5.aj,.rs bS 0 x9.length 4,.rs kD 0 cb.length 1]) (x:=.rs kD 0 cb.length 1) LL rfl (by kernel_rfl)
   exact Mz [.a 0 CV] [.v 5 (show bE Try.prog h13 40 (.ptr aq 1)=some (.rs zB 0 s5.aa.length 4) from cq (q:=1) (cs:=[.bool s5.aj,.rs zB 0 s5.aa.length 4,.rs bL 0 s5.ae.length 1]) C5 rfl (by kernel_rfl)),.a 8 H6,.v 12 (show bE Try.prog h14 33 (.ptr aq 2)=some (.rs bL 0 s5.ae.length 1) from cq (q:=1) (cs:=[.bool s5.aj,.rs zB 0 s5.aa.length 4,.rs bL 0 s5.ae.length 1]) C4 rfl (by kernel_rfl)),.a 17 Bl,.w 20 H8,.w 23 H9] [.mk (A4 C5 (q:=2) rfl (q2:=1) rfl (by decide) H6)] <| q0 <| ⟨(i64.wrap (x2+(1:Int)),(ab.mk s5.aj x9 cb)),⟨bS,kD,h17,by kernel_rfl,Di⟩,H⟩
 ·exact qx 0 <| ⟨rfl,x2,s1,oi H,.ptr aq 0,.rs aE 0 x1.1.nodes.length 4,.int .i64 (x1.1.nodes.length:Int),.int .i64 x2,.bool (decide (x2<(x1.1.nodes.length:Int))),cy,dY,h1,by kernel_rfl,o4⟩
theorem nQ {aY:FuncId→b9}(ha:aY 36=ug)(xt:MB cf m)(LN:Sa cf m)(s0:ab)(t0:bg)(h:AHeap)(L:Mem)(aq:Nat)(an:Nat)(ao:Nat)  (o:Has h ((aq,.ob [.bool s0.aj,.rs an 0 s0.aa.length 4,.rs ao 0 s0.ae.length 1])::(an,.sl s0.aa.length 4 (ai.l s0.aa))::(ao,.sl s0.ae.length 1 (af.l s0.ae))::L)){out:Int × Int × ab}(H:aF.f m s0 t0=some out) :
  ∃r h',bf Try.prog aY cf m 36 [.ptr aq 0,.agg [ai.fz t0.nodes,.int .i64 t0.root]] h=some (r,h')∧∃aC aD:Nat,r = .tup [.int .i64 out.1,.int .i64 out.2.1]∧Has h' ((aq,.ob [.bool out.2.2.aj,.rs aC 0 out.2.2.aa.length 4,.rs aD 0 out.2.2.ae.length 1])::(aC,.sl out.2.2.aa.length 4 (ai.l out.2.2.aa))::(aD,.sl out.2.2.ae.length 1 (af.l out.2.2.ae))::L):=by
 refine ar (fn:=Try.f36) ha Try.func36 (by kernel_rfl) (by kernel_rfl) ?_
 refine aH (Q:=fun s=>aF.fin L aq an ao s0 t0 out s) (fun _ _ ⟨h1,aC,aD,h2,h3⟩=>⟨h1,_,h2,aC,aD,rfl,h3⟩) ?_
 have H:_=some out:=H
 unfold aF.f at H
 show dK _ cf ug m _ ⟨.ptr aq 0 :: .agg [ai.fz t0.nodes,.int .i64 t0.root]::Qm [],[none,none,none],h⟩ _
 refine q1 <| qq <| qq ?_
 obtain⟨x0,e0,H⟩:=bj H
 refine qr [.a 1 (xt _ _ e0 h _ (fw (ah (ez (q:=0) o rfl (ah (fW) (ah (cZ (E:=ai) (l:=s0.aa) (q:=1) o rfl (fun _=>rfl)) (ah (cZ (E:=af) (l:=s0.ae) (q:=2) o rfl (fun _=>rfl)) (aw))))) (aw))))] <| qc H (fun c0 H=>?_) (fun c0 H=>?_)
 ·obtain rfl:=oi H
  exact q1 <| qt <| ⟨.inl rfl,⟨an,ao,by kernel_rfl,he o⟩⟩
 ·refine qk <| qq ?_
  obtain⟨x1,e1,H⟩:=bj H
  obtain⟨aE,cm,h0,e2,o0,HX⟩:=LN _ _ e1 h _ _ o (fw (ah (eV (ah (dU (E:=ai)) (ah (aZ) (aw)))) (aw)))
  have o1:=Has.jg (pre:=[(aE,.sl x1.1.nodes.length 4 (b4.l (aK x1.1.nodes cm)))]) (N:=[(aq,.ob [.bool s0.aj,.rs an 0 s0.aa.length 4,.rs ao 0 s0.ae.length 1]),(an,.sl s0.aa.length 4 (ai.l s0.aa)),(ao,.sl s0.ae.length 1 (af.l s0.ae))]) (mid:=cz x1.1.nodes cm) o0
  refine qr [.a 1 e2] <| qq <| qq <| q0 <| qc H (fun c1 H=>?_) (fun c1 H=>?_)
  ·refine q1 ?_
   have o2:Has h0 ((aq,.ob [.bool s0.aj,.rs an 0 s0.aa.length 4,.rs ao 0 s0.ae.length 1])::(an,.sl s0.aa.length 4 (ai.l s0.aa))::(ao,.sl s0.ae.length 1 (af.l s0.ae))::L):=Has.gone (pre:=[(aq,.ob [.bool s0.aj,.rs an 0 s0.aa.length 4,.rs ao 0 s0.ae.length 1]),(an,.sl s0.aa.length 4 (ai.l s0.aa)),(ao,.sl s0.ae.length 1 (af.l s0.ae))]) (Has.del o1 0)
   obtain rfl:=oi H
   exact qt <| ⟨.inl rfl,⟨an,ao,by kernel_rfl,he o2⟩⟩
  ·refine qk <| qq <| qr [.v 3 (show bE Try.prog h0 40 (.ptr aq 1)=some (.rs an 0 s0.aa.length 4) from cq (q:=1) (cs:=[.bool s0.aj,.rs an 0 s0.aa.length 4,.rs ao 0 s0.ae.length 1]) o1 rfl (by kernel_rfl))] <| qq <| qq <| q0 <| qc H (fun c2 H=>?_) (fun c2 H=>?_)
   ·refine q1 ?_
    have o3:Has h0 ((aq,.ob [.bool s0.aj,.rs an 0 s0.aa.length 4,.rs ao 0 s0.ae.length 1])::(an,.sl s0.aa.length 4 (ai.l s0.aa))::(ao,.sl s0.ae.length 1 (af.l s0.ae))::L):=Has.gone (pre:=[(aq,.ob [.bool s0.aj,.rs an 0 s0.aa.length 4,.rs ao 0 s0.ae.length 1]),(an,.sl s0.aa.length 4 (ai.l s0.aa)),(ao,.sl s0.ae.length 1 (af.l s0.ae))]) (Has.del o1 0)
    obtain rfl:=oi H
    exact qt <| ⟨.inl rfl,⟨an,ao,by kernel_rfl,he o3⟩⟩
   ·refine qk <| qq <| qq <| q0 <| qb 0 ?_
    obtain⟨j6,J5,H⟩:=bj H
    refine ql (aF.cQ L aq an ao s0 t0 x1 aE cm   ((0:Int),s0) _ _ ⟨an,ao,h0,by kernel_rfl,o1⟩ J5) ?_
    rintro e s ⟨rfl,zr,s6,rfl,g6,g7,g8,g9,g10,tV,u7,h18,rfl,Ia⟩
    try dsimp only at H
    refine q1 ?_
    have Oc:Has h18 ((aq,.ob [.bool s6.aj,.rs tV 0 s6.aa.length 4,.rs u7 0 s6.ae.length 1])::(tV,.sl s6.aa.length 4 (ai.l s6.aa))::(u7,.sl s6.ae.length 1 (af.l s6.ae))::L):=Has.gone (pre:=[(aq,.ob [.bool s6.aj,.rs tV 0 s6.aa.length 4,.rs u7 0 s6.ae.length 1]),(tV,.sl s6.aa.length 4 (ai.l s6.aa)),(u7,.sl s6.ae.length 1 (af.l s6.ae))]) (Has.del Ia 0)
    obtain rfl:=oi H
    exact qt <| ⟨.inl rfl,⟨tV,u7,by kernel_rfl,he Oc⟩⟩
end
end Go.Proofs.Ytifafejidnjckaa
namespace Go.Proofs.Ytifafejidnjckaa
open Go Go.R
open Go.IntKind (i64 u64 u8 u32)
def Dl:b9:=gW [0,1,3,4,5,7,8,15,24,33,44,55,64,75] [3] [16378,16362,16330,16266,16367,16202,16367,16074,16367,15818,16367,15306,16367,14282,16367,12234,16367,8170,16367,16375] [] []
def gd.f (m:Nat)(s0:ab)(x0:aN):Option (Int × ab):=if (x0.fC==(0:Int))=true then ((fo.f m s0).bind fun x1=>some (x1.2.1,x1.2.2)) else (if (x0.fC==(1:Int))=true then ((fq.f m s0 x0.sB).bind fun x2=>some (x2.2.1,x2.2.2)) else (if (x0.fC==(2:Int))=true then ((eX.f m s0 x0.eY).bind fun x3=>some (x3.2.1,x3.2.2)) else (if (x0.fC==(3:Int))=true then ((eJ.f m s0 x0.eY x0.gf).bind fun x4=>some (x4.2.1,x4.2.2)) else (if (x0.fC==(4:Int))=true then ((eW.f m s0 x0.eY x0.sB).bind fun x5=>some (x5.2.1,x5.2.2)) else (if (x0.fC==(5:Int))=true then ((aF.f m s0 x0.xp).bind fun x6=>some (x6.2.1,x6.2.2)) else (if (x0.fC==(6:Int))=true then ((b6.f m s0 x0.sB x0.Ey).bind fun x7=>some (x7.2.1,x7.2.2)) else (if (x0.fC==(7:Int))=true then ((bT.f m s0 x0.sB x0.Ey).bind fun x8=>some (x8.2.2.1,x8.2.2.2)) else (some ((0:Int),s0)))))))))
def gd.fin (L:Mem)(aq:Nat)(an:Nat)(ao:Nat)(s0:ab)(x0:aN)(r:Int × ab)(s:St):Prop:=∃aC aD:Nat,aO Try.prog (s.open Dl) Try.f17.results.toList=some (.int .i64 r.1)∧Has s.h ((aq,.ob [.bool r.2.aj,.rs aC 0 r.2.aa.length 4,.rs aD 0 r.2.ae.length 1])::(aC,.sl r.2.aa.length 4 (ai.l r.2.aa))::(aD,.sl r.2.ae.length 1 (af.l r.2.ae))::L)
def Oe (cf:CallF)(m:Nat):Prop:=∀(s0:ab) (x0:aN) (r:Int × ab),gd.f m s0 x0=some r→∀h L (aq:Nat) (an:Nat) (ao:Nat),Has h ((aq,.ob [.bool s0.aj,.rs an 0 s0.aa.length 4,.rs ao 0 s0.ae.length 1])::(an,.sl s0.aa.length 4 (ai.l s0.aa))::(ao,.sl s0.ae.length 1 (af.l s0.ae))::L)→∀xs,xs.map aS=[.ptr aq 0,.agg [.int .i64 x0.fC,.int .i64 x0.sB,.int .i64 x0.Ey,.str x0.eY,af.fz x0.gf,ai.fz x0.xp.nodes,.int .i64 x0.xp.root]]→∃aC aD h',cf 17 xs h=some (.int .i64 r.1,h')∧Has h' ((aq,.ob [.bool r.2.aj,.rs aC 0 r.2.aa.length 4,.rs aD 0 r.2.ae.length 1])::(aC,.sl r.2.aa.length 4 (ai.l r.2.aa))::(aD,.sl r.2.ae.length 1 (af.l r.2.ae))::L)
section
variable {cf:CallF}{m:Nat}
theorem vc {aY:FuncId→b9}(ha:aY 17=Dl)(LO:Ru cf m)(EG:Ph cf m)(Sj:Uq cf m)(Sk:UL cf m)(Sl:Ur cf m)(Sm:UF cf m)(Sn:UB cf m)(Sp:US cf m)(s0:ab)(x0:aN)(h:AHeap)(L:Mem)(aq:Nat)(an:Nat)(ao:Nat)  (o:Has h ((aq,.ob [.bool s0.aj,.rs an 0 s0.aa.length 4,.rs ao 0 s0.ae.length 1])::(an,.sl s0.aa.length 4 (ai.l s0.aa))::(ao,.sl s0.ae.length 1 (af.l s0.ae))::L)){out:Int × ab}(H:gd.f m s0 x0=some out) :
  ∃r h',bf Try.prog aY cf m 17 [.ptr aq 0,.agg [.int .i64 x0.fC,.int .i64 x0.sB,.int .i64 x0.Ey,.str x0.eY,af.fz x0.gf,ai.fz x0.xp.nodes,.int .i64 x0.xp.root]] h=some (r,h')∧∃aC aD:Nat,r = .int .i64 out.1∧Has h' ((aq,.ob [.bool out.2.aj,.rs aC 0 out.2.aa.length 4,.rs aD 0 out.2.ae.length 1])::(aC,.sl out.2.aa.length 4 (ai.l out.2.aa))::(aD,.sl out.2.ae.length 1 (af.l out.2.ae))::L):=by
 refine ar (fn:=Try.f17) ha Try.func17 (by kernel_rfl) (by kernel_rfl) ?_
 refine aH (Q:=fun s=>gd.fin L aq an ao s0 x0 out s) (fun _ _ ⟨h1,aC,aD,h2,h3⟩=>⟨h1,_,h2,aC,aD,rfl,h3⟩) ?_
 have H:_=some out:=H
 unfold gd.f at H
 show dK _ cf Dl m _ ⟨.ptr aq 0 :: .agg [.int .i64 x0.fC,.int .i64 x0.sB,.int .i64 x0.Ey,.str x0.eY,af.fz x0.gf,ai.fz x0.xp.nodes,.int .i64 x0.xp.root]::uT [],[none],h⟩ _
 refine q1 <| qq <| q0 <| qq <| qq <| q0 <| qb 0 <| qq <| q0 <| qc H (fun c0 H=>?_) (fun c0 H=>?_)
 ·obtain⟨x1,e0,H⟩:=bj H
  obtain⟨aE,cy,h0,e1,o0⟩:=Sj _ _ e0 h _ _ _ _ (o)  [.ptr aq 0] (au (rfl) (bN))
  obtain rfl:=oi H
  exact qr [.a 1 e1] <| qq <| q0 <| qt <| ⟨.inl rfl,⟨aE,cy,by kernel_rfl,he o0⟩⟩
 ·refine q1 <| qc H (fun c1 H=>?_) (fun c1 H=>?_)
  ·obtain⟨x2,e2,H⟩:=bj H
   obtain⟨dY,cW,h1,e3,o1⟩:=Sl _ _ _ e2 h _ _ _ _ (o)  [.ptr aq 0,.int .i64 x0.sB] (au (rfl) (au (aP (bm)) (bN)))
   obtain rfl:=oi H
   exact qr [.a 3 e3] <| qq <| q0 <| qt <| ⟨.inl rfl,⟨dY,cW,by kernel_rfl,he o1⟩⟩
  ·refine q1 <| qc H (fun c2 H=>?_) (fun c2 H=>?_)
   ·obtain⟨x3,e4,H⟩:=bj H
    obtain⟨dD,ff,h2,e5,o2⟩:=Sk _ _ _ e4 h _ _ _ _ (o)  [.ptr aq 0,.str x0.eY] (au (rfl) (au (aP (lf)) (bN)))
    obtain rfl:=oi H
    exact qr [.a 3 e5] <| qq <| q0 <| qt <| ⟨.inl rfl,⟨dD,ff,by kernel_rfl,he o2⟩⟩
   ·refine q1 <| qc H (fun c3 H=>?_) (fun c3 H=>?_)
    ·obtain⟨x4,e6,H⟩:=bj H
     obtain⟨gT,fi,h3,e7,o3⟩:=Sm _ _ _ _ e6 h _ _ _ _ (o)  [.ptr aq 0,.str x0.eY,af.fz x0.gf] (au (rfl) (au (aP (lf)) (au (aP (oH (E:=af))) (bN))))
     obtain rfl:=oi H
     exact qr [.a 5 e7] <| qq <| q0 <| qt <| ⟨.inl rfl,⟨gT,fi,by kernel_rfl,he o3⟩⟩
    ·refine q1 <| qc H (fun c4 H=>?_) (fun c4 H=>?_)
     ·obtain⟨x5,e8,H⟩:=bj H
      obtain⟨kC,E9,h4,e9,o4⟩:=Sn _ _ _ _ e8 h _ _ _ _ (o)  [.ptr aq 0,.str x0.eY,.int .i64 x0.sB] (au (rfl) (au (aP (lf)) (au (aP (bm)) (bN))))
      obtain rfl:=oi H
      exact qr [.a 5 e9] <| qq <| q0 <| qt <| ⟨.inl rfl,⟨kC,E9,by kernel_rfl,he o4⟩⟩
     ·refine q1 <| qc H (fun c5 H=>?_) (fun c5 H=>?_)
      ·obtain⟨x6,rK,H⟩:=bj H
       obtain⟨iQ,jR,h5,uH,o5⟩:=Sp _ _ _ rK h _ _ _ _ (o)  [.ptr aq 0,.agg [ai.fz x0.xp.nodes,.int .i64 x0.xp.root]] (au (rfl) (au (aP (nE (cd (oH (E:=ai)) (cd (bm) (nD))))) (bN)))
       obtain rfl:=oi H
       exact qr [.a 3 uH] <| qq <| q0 <| qt <| ⟨.inl rfl,⟨iQ,jR,by kernel_rfl,he o5⟩⟩
      ·refine q1 <| qc H (fun c6 H=>?_) (fun c6 H=>?_)
       ·obtain⟨x7,xq,H⟩:=bj H
        obtain⟨lN,ln,Bk,h6,xr,o6⟩:=LO _ _ _ _ xq h _ _ _ _ (o)  [.ptr aq 0,.int .i64 x0.sB,.int .i64 x0.Ey] (au (rfl) (au (aP (bm)) (au (aP (bm)) (bN))))
        refine qr [.a 5 xr] ?_
        have o7:Has h6 ((aq,.ob [.bool x7.2.2.aj,.rs ln 0 x7.2.2.aa.length 4,.rs Bk 0 x7.2.2.ae.length 1])::(ln,.sl x7.2.2.aa.length 4 (ai.l x7.2.2.aa))::(Bk,.sl x7.2.2.ae.length 1 (af.l x7.2.2.ae))::L):=Has.del o6 0
        obtain rfl:=oi H
        exact q1 <| qt <| ⟨.inl rfl,⟨ln,Bk,by kernel_rfl,he o7⟩⟩
       ·refine q1 <| qc H (fun c7 H=>?_) (fun c7 H=>?_)
        ·obtain⟨x8,Be,H⟩:=bj H
         obtain⟨zB,bL,bS,h7,Al,o8⟩:=EG _ _ _ _ Be h _ _ _ _ (o)  [.ptr aq 0,.int .i64 x0.sB,.int .i64 x0.Ey] (au (rfl) (au (aP (bm)) (au (aP (bm)) (bN))))
         refine qr [.a 5 Al] ?_
         have o9:Has h7 ((aq,.ob [.bool x8.2.2.2.aj,.rs bL 0 x8.2.2.2.aa.length 4,.rs bS 0 x8.2.2.2.ae.length 1])::(bL,.sl x8.2.2.2.aa.length 4 (ai.l x8.2.2.2.aa))::(bS,.sl x8.2.2.2.ae.length 1 (af.l x8.2.2.2.ae))::L):=Has.del o8 0
         obtain rfl:=oi H
         exact q1 <| qt <| ⟨.inl rfl,⟨bL,bS,by kernel_rfl,he o9⟩⟩
        ·obtain rfl:=oi H
         exact qk <| qq <| q0 <| qt <| ⟨.inl rfl,⟨an,ao,by kernel_rfl,he o⟩⟩
end
end Go.Proofs.Ytifafejidnjckaa
