/- Proved: StorePlays returns true for every input; no condition. -/
import Derived.Test.YtifafejidnjckaaGreatK18
import Derived.Test.YtifafejidnjckaaGreatRows
set_option linter.unusedVariables false
set_option linter.unusedSimpArgs false
set_option maxRecDepth 100000
open List renaming mem_cons → aja
namespace Go.Proofs.YtifafejidnjckaaGreat
open Go Go.R
open Go.IntKind (i64 u64 u8 u32)
theorem j8:S8 cE M:=by
 intro l0 r H  h xs hx
 exact bn (T:=bu) (deep:=aZ) rfl rfl rfl a6 hx (wN (cf:=cE) (m:=M) (aW:=cD) rfl  l0 bH []   aS H)
theorem j16:S16 cE M:=by
 intro  r H h L   o  xs hx
 obtain⟨r',h',hb,cR,dR,dS,rfl,ho⟩:=z6 (cf:=cE) (m:=M) (aW:=cD) rfl   h L  o H
 exact⟨cR,dR,dS,h',iv (T:=bu) rfl rfl hx hb,ho⟩
theorem j17:S17 cE M:=by
 intro  r H h L   o  xs hx
 obtain⟨r',h',hb,cR,dR,dS,rfl,ho⟩:=z7 (cf:=cE) (m:=M) (aW:=cD) rfl   h L  o H
 exact⟨cR,dR,dS,h',iv (T:=bu) rfl rfl hx hb,ho⟩
theorem j35:Zc cE M:=by
 intro a0 b0 r H  h xs hx
 exact bn (T:=bu) (deep:=aZ) rfl rfl rfl a6 hx (yg (cf:=cE) (m:=M) (aW:=cD) rfl  a0 b0 bH []   aS H)
theorem YV:V9 cE M:=by
 intro s0 r H  h xs hx
 exact bn (T:=bu) (deep:=aZ) rfl rfl rfl a6 hx (qZ (cf:=cE) (m:=M) (aW:=cD) rfl  s0 bH []   aS H)
theorem Qq:N4 cE M:=by
 intro s0 r H  h xs hx
 exact bn (T:=bu) (deep:=aZ) rfl rfl rfl a6 hx (q6 (cf:=cE) (m:=M) (aW:=cD) rfl  s0 bH []   aS H)
theorem j65:Zd cE M:=by
 intro s0 n0 r H  h xs hx
 exact bn (T:=bu) (deep:=aZ) rfl rfl rfl a6 hx (q7 (cf:=cE) (m:=M) (aW:=cD) rfl  s0 n0 bH []   aS H)
theorem j69:S69 cE M:=by
 intro s0 bf r H h L  au aq az o  xs hx
 obtain⟨r',h',hb,aB,aC,rfl,ho⟩:=q8 (cf:=cE) (m:=M) (aW:=cD) rfl  s0 bf h L au aq az  o H
 exact⟨aB,aC,h',iv (T:=bu) rfl rfl hx hb,ho⟩
theorem YW:Wa cE M:=by
 intro s0 N6 n0 r H h L  au aq az o iP bA dy Ab kG vi kH xs hx
 obtain⟨r',h',hb,aB,aC,rfl,ho⟩:=sa (cf:=cE) (m:=M) (aW:=cD) rfl YV s0 N6 n0 h L au aq az iP bA dy  Ab kG vi kH o H
 exact⟨aB,aC,h',iv (T:=bu) rfl rfl hx hb,ho⟩
theorem j72:S72 cE M:=by
 intro  r H  h xs hx
 exact bn (T:=bu) (deep:=aZ) rfl rfl rfl a6 hx (pY (cf:=cE) (m:=M) (aW:=cD) rfl   bH []   aS H)
theorem YX:Qk cE M:=by
 intro s0 n0 r H  h xs hx
 exact bn (T:=bu) (deep:=aZ) rfl rfl rfl a6 hx (sb (cf:=cE) (m:=M) (aW:=cD) rfl  s0 n0 bH []   aS H)
theorem j76:S76 cE M:=by
 intro x0 r H  h xs hx
 exact bn (T:=bu) (deep:=aZ) rfl rfl rfl a6 hx (qa (cf:=cE) (m:=M) (aW:=cD) rfl  x0 bH []   aS H)
theorem j85:S85 cE M:=by
 intro s0 n0 r H  h xs hx
 exact bn (T:=bu) (deep:=aZ) rfl rfl rfl a6 hx (qd (cf:=cE) (m:=M) (aW:=cD) rfl  s0 n0 bH []   aS H)
theorem j87:S87 cE M:=by
 intro s0 r H  h xs hx
 exact bn (T:=bu) (deep:=aZ) rfl rfl rfl a6 hx (yi (cf:=cE) (m:=M) (aW:=cD) rfl  s0 bH []   aS H)
theorem Wp:UC cE M:=by
 intro s0 n0 r H  h xs hx
 exact bn (T:=bu) (deep:=aZ) rfl rfl rfl a6 hx (sc (cf:=cE) (m:=M) (aW:=cD) rfl  s0 n0 bH []   aS H)
theorem j91:S91 cE M:=by
 intro s0 cP r H  h L xs o hx
 obtain⟨r',h',hb,cR,rfl,ho⟩:=qe (cf:=cE) (m:=M) (aW:=cD) rfl  s0 cP bH []   aS H
 exact⟨qY h.next cR,_,lS (T:=bu) (deep:=aZ) rfl rfl rfl a6 hx hb (tD),Has.gr o ho (zY (fun _=>rfl) (.nil)),kF _ _⟩
theorem j92:Wb cE M:=by
 intro s0 n0 r H  h xs hx
 exact sP (T:=bu) (deep:=aZ) rfl rfl rfl a6 hx (qf (cf:=cE) (m:=M) (aW:=cD) rfl  s0 n0 bH []   aS H)
theorem j93:S93 cE M:=by
 intro s0 n0 r H  h xs hx
 exact bn (T:=bu) (deep:=aZ) rfl rfl rfl a6 hx (qg (cf:=cE) (m:=M) (aW:=cD) rfl j92 s0 n0 bH []   aS H)
theorem j94:S4 cE M:=by
 intro a0 b0 r H  h xs hx
 exact bn (T:=bu) (deep:=aZ) rfl rfl rfl a6 hx (wQ (cf:=cE) (m:=M) (aW:=cD) rfl  a0 b0 bH []   aS H)
theorem j95:S95 cE M:=by
 intro n0 x0 r H  h xs hx
 exact bn (T:=bu) (deep:=aZ) rfl rfl rfl a6 hx (oH (cf:=cE) (m:=M) (aW:=cD) rfl j85 n0 x0 bH []   aS H)
theorem j97:∀kk,Ze cE M kk
 | 0=>by
  intro i0 x0 x1 x2 x3 r H h L  fH gf fJ eW gV iz fO fD o  xs hx
  cases H
 | kk+1=>by
  intro i0 x0 x1 x2 x3 r H h L  fH gf fJ eW gV iz fO fD o  xs hx
  obtain⟨r',h',hb,qQ,lf,rfl,ho⟩:=vk (cf:=cE) (m:=M) (aW:=cD) rfl  i0 x0 x1 x2 x3 h L fH gf fJ eW gV iz fO fD  (j97 kk) o H
  exact⟨qQ,lf,h',iv (T:=bu) rfl rfl hx hb,ho⟩
theorem j98:S98 cE M:=by
 intro s0 f0 r H iP bA kG kH h xs hx
 exact bn (T:=bu) (deep:=aZ) rfl rfl rfl a6 hx (Dz (cf:=cE) (m:=M) (aW:=cD) rfl  s0 f0 bH [] iP bA  kG kH aS H)
theorem ac3:UJ cE M:=by
 intro a0 b0 r H  h xs hx
 exact bn (T:=bu) (deep:=aZ) rfl rfl rfl a6 hx (vl (cf:=cE) (m:=M) (aW:=cD) rfl  a0 b0 bH []   aS H)
theorem ac4:UK cE M:=by
 intro s0 a0 b0 r H h L  au aq az o  xs hx
 obtain⟨r',h',hb,aB,aC,rfl,ho⟩:=q9 (cf:=cE) (m:=M) (aW:=cD) rfl j65 s0 a0 b0 h L au aq az  o H
 exact⟨aB,aC,h',iv (T:=bu) rfl rfl hx hb,ho⟩
theorem ac5:Xx cE M:=by
 intro n0 x0 r H  h xs hx
 exact bn (T:=bu) (deep:=aZ) rfl rfl rfl a6 hx (oI (cf:=cE) (m:=M) (aW:=cD) rfl j65 n0 x0 bH []   aS H)
theorem ac6:Xy cE M:=by
 intro s0 f0 r H iP bA kG kH h xs hx
 exact bn (T:=bu) (deep:=aZ) rfl rfl rfl a6 hx (DD (cf:=cE) (m:=M) (aW:=cD) rfl  s0 f0 bH [] iP bA  kG kH aS H)
theorem ac7:Xz cE M:=by
 intro a0 x0 r H  h xs hx
 exact bn (T:=bu) (deep:=aZ) rfl rfl rfl a6 hx (wR (cf:=cE) (m:=M) (aW:=cD) rfl  a0 x0 bH []   aS H)
theorem ac8:UL cE M:=by
 intro s0 a0 b0 r H  h xs hx
 exact bn (T:=bu) (deep:=aZ) rfl rfl rfl a6 hx (pg (cf:=cE) (m:=M) (aW:=cD) rfl  s0 a0 b0 bH []   aS H)
theorem ac9:XA cE M:=by
 intro ka r H  h xs hx
 exact bn (T:=bu) (deep:=aZ) rfl rfl rfl a6 hx (yj (cf:=cE) (m:=M) (aW:=cD) rfl  ka bH []   aS H)
theorem ada:UM cE M:=by
 intro c0 r H  h xs hx
 exact bn (T:=bu) (deep:=aZ) rfl rfl rfl a6 hx (wS (cf:=cE) (m:=M) (aW:=cD) rfl  c0 bH []   aS H)
theorem adb:UN cE M:=by
 intro c0 r H  h xs hx
 exact bn (T:=bu) (deep:=aZ) rfl rfl rfl a6 hx (vm (cf:=cE) (m:=M) (aW:=cD) rfl  c0 bH []   aS H)
theorem ade:XB cE M:=by
 intro l0 ku r H  h xs hx
 exact bn (T:=bu) (deep:=aZ) rfl rfl rfl a6 hx (ui (cf:=cE) (m:=M) (aW:=cD) rfl  l0 ku bH []   aS H)
theorem adf:XC cE M:=by
 intro x0 r H  h xs hx
 exact bn (T:=bu) (deep:=aZ) rfl rfl rfl a6 hx (uj (cf:=cE) (m:=M) (aW:=cD) rfl  x0 bH []   aS H)
theorem adg:XD cE M:=by
 intro x0 r H  h xs hx
 exact bn (T:=bu) (deep:=aZ) rfl rfl rfl a6 hx (re (cf:=cE) (m:=M) (aW:=cD) rfl  x0 bH []   aS H)
theorem adh:Rs cE M:=by
 intro n0 gI r H  h xs hx
 exact bn (T:=bu) (deep:=aZ) rfl rfl rfl a6 hx (wU (cf:=cE) (m:=M) (aW:=cD) rfl  n0 gI bH []   aS H)
theorem YY:HL cE M:=by
 intro a0 b0 ck r H  h xs hx
 exact bn (T:=bu) (deep:=aZ) rfl rfl rfl a6 hx (tc (cf:=cE) (m:=M) (aW:=cD) rfl  a0 b0 ck bH []   aS H)
theorem adi:UP cE M:=by
 intro aG a0 b0 bD r H h L dZ aX o xM jL iU LN HM HN LO xs hx
 have hn0:dZ=aG.length:=dX (E:=ab) o (q:=0) rfl
 subst hn0
 obtain⟨r',h',hb,rfl,ho⟩:=te (cf:=cE) (m:=M) (aW:=cD) rfl  aG a0 b0 bD h L aX xM jL iU  LN HM HN LO o H
 exact⟨h',iv (T:=bu) rfl rfl hx hb,ho⟩
theorem adj:UQ cE M:=by
 intro aG a0 b0 n0 bD r H h L dZ aX o iQ bS bE lT kX kY lU xs hx
 have hn0:dZ=aG.length:=dX (E:=ab) o (q:=0) rfl
 subst hn0
 obtain⟨r',h',hb,rfl,ho⟩:=ym (cf:=cE) (m:=M) (aW:=cD) rfl  aG a0 b0 n0 bD h L aX iQ bS bE  lT kX kY lU o H
 exact⟨h',iv (T:=bu) rfl rfl hx hb,ho⟩
theorem j13:S13 cE M:=by
 intro s0 r H  h xs hx
 exact bn (T:=bu) (deep:=aZ) rfl rfl rfl a6 hx (rf (cf:=cE) (m:=M) (aW:=cD) rfl YV s0 bH []   aS H)
theorem j14:S14 cE M:=by
 intro s0 r H  h xs hx
 exact bn (T:=bu) (deep:=aZ) rfl rfl rfl a6 hx (ri (cf:=cE) (m:=M) (aW:=cD) rfl Qq s0 bH []   aS H)
theorem j18:S18 cE M:=by
 intro s0 r H h L  au aq az o  xs hx
 obtain⟨r',h',hb,cR,dR,dS,aB,aC,rfl,ho⟩:=qi (cf:=cE) (m:=M) (aW:=cD) rfl j37 YV j51 s0 h L au aq az  o H
 exact⟨cR,dR,dS,aB,aC,h',iv (T:=bu) rfl rfl hx hb,ho⟩
theorem j19:S19 cE M:=by
 intro s0 r H h L  au aH aq o  xs hx
 obtain⟨r',h',hb,cR,dR,dS,aB,aC,rfl,ho⟩:=qm (cf:=cE) (m:=M) (aW:=cD) rfl Qq s0 h L au aH aq  o H
 exact⟨cR,dR,dS,aB,aC,h',iv (T:=bu) rfl rfl hx hb,ho⟩
theorem j26:S26 cE M:=by
 intro a0 b0 r H  h xs hx
 exact bn (T:=bu) (deep:=aZ) rfl rfl rfl a6 hx (wX (cf:=cE) (m:=M) (aW:=cD) rfl j35 a0 b0 bH []   aS H)
theorem j30:S30 cE M:=by
 intro s0 r H h L  au aq az o  xs hx
 obtain⟨r',h',hb,aB,aC,rfl,ho⟩:=se (cf:=cE) (m:=M) (aW:=cD) rfl YW j72 s0 h L au aq az  o H
 exact⟨aB,aC,h',iv (T:=bu) rfl rfl hx hb,ho⟩
theorem j34:S34 cE M:=by
 intro s0 n0 r H h L  au aq az o  xs hx
 obtain⟨r',h',hb,aB,aC,rfl,ho⟩:=sf (cf:=cE) (m:=M) (aW:=cD) rfl YW j76 s0 n0 h L au aq az  o H
 exact⟨aB,aC,h',iv (T:=bu) rfl rfl hx hb,ho⟩
theorem j52:S52 cE M:=by
 intro s0 n0 r H  h xs hx
 exact bn (T:=bu) (deep:=aZ) rfl rfl rfl a6 hx (sh (cf:=cE) (m:=M) (aW:=cD) rfl Qq Wp s0 n0 bH []   aS H)
theorem j54:S54 cE M:=by
 intro s0 n0 r H  h xs hx
 exact sP (T:=bu) (deep:=aZ) rfl rfl rfl a6 hx (qn (cf:=cE) (m:=M) (aW:=cD) rfl Qq Wp j92 s0 n0 bH []   aS H)
theorem j56:S56 cE M:=by
 intro s0 n0 r H  h xs hx
 exact bn (T:=bu) (deep:=aZ) rfl rfl rfl a6 hx (rj (cf:=cE) (m:=M) (aW:=cD) rfl Qq Wp j93 s0 n0 bH []   aS H)
theorem j57:S57 cE M:=by
 intro a0 b0 r H  h xs hx
 exact bn (T:=bu) (deep:=aZ) rfl rfl rfl a6 hx (wY (cf:=cE) (m:=M) (aW:=cD) rfl j94 a0 b0 bH []   aS H)
theorem j60:S60 cE M:=by
 intro s0 n0 r H  h L xs o hx
 obtain⟨r',h',hb,cR,rfl,ho⟩:=qp (cf:=cE) (m:=M) (aW:=cD) rfl YX s0 n0 bH []   aS H
 exact⟨qY h.next cR,_,lS (T:=bu) (deep:=aZ) rfl rfl rfl a6 hx hb (tD),Has.gr o ho (zY (fun _=>rfl) (.nil)),kF _ _⟩
theorem j61:Zf cE M:=by
 intro s0 n0 r H  h L xs o hx
 obtain⟨r',h',hb,cR,rfl,ho⟩:=qu (cf:=cE) (m:=M) (aW:=cD) rfl j37 YX s0 n0 bH []   aS H
 exact⟨qY h.next cR,_,lS (T:=bu) (deep:=aZ) rfl rfl rfl a6 hx hb (zX (dG (rfl) (dG (rfl) (dG (rfl) (dG (tD) (mA)))))),Has.gr o ho (zY (fun _=>rfl) (.nil)),kF _ _⟩
theorem j63:S63 cE M:=by
 intro s0 oJ r H h L Ru aX o iP bA dy Ab kG vi kH xs hx
 have hn0:Ru=s0.length:=dX (E:=ab) o (q:=0) rfl
 subst hn0
 obtain⟨r',h',hb,rfl,ho⟩:=Bs (cf:=cE) (m:=M) (aW:=cD) rfl j98 s0 oJ h L aX iP bA dy  Ab kG vi kH o H
 exact⟨h',iv (T:=bu) rfl rfl hx hb,ho⟩
theorem j64:S64 cE M:=by
 intro r0 x0 r H  h xs hx
 exact bn (T:=bu) (deep:=aZ) rfl rfl rfl a6 hx (ph (cf:=cE) (m:=M) (aW:=cD) rfl j65 r0 x0 bH []   aS H)
theorem j68:S68 cE M:=by
 intro s0 a0 b0 r H h L  au aq az o  xs hx
 obtain⟨r',h',hb,cR,aB,aC,rfl,ho⟩:=pj (cf:=cE) (m:=M) (aW:=cD) rfl YX ac3 ac4 s0 a0 b0 h L au aq az  o H
 exact⟨cR,aB,aC,h',iv (T:=bu) rfl rfl hx hb,ho⟩
theorem j70:S70 cE M:=by
 intro s0 bf r H  h L xs o hx
 obtain⟨r',h',hb,cR,rfl,ho⟩:=qv (cf:=cE) (m:=M) (aW:=cD) rfl j63 j66 ac5 s0 bf bH []   aS H
 exact⟨qY h.next cR,_,lS (T:=bu) (deep:=aZ) rfl rfl rfl a6 hx hb (tD),Has.gr o ho (zY (fun _=>rfl) (.nil)),kF _ _⟩
theorem j77:S77 cE M:=by
 intro s0 f0 r H iP bA kG kH h xs hx
 exact bn (T:=bu) (deep:=aZ) rfl rfl rfl a6 hx (yn (cf:=cE) (m:=M) (aW:=cD) rfl ac6 s0 f0 bH [] iP bA  kG kH aS H)
theorem j83:Zg cE M:=by
 intro s0 f0 r H iP bA kG kH h xs hx
 exact bn (T:=bu) (deep:=aZ) rfl rfl rfl a6 hx (yo (cf:=cE) (m:=M) (aW:=cD) rfl j98 s0 f0 bH [] iP bA  kG kH aS H)
theorem j84:S84 cE M:=by
 intro a0 x0 r H  h xs hx
 exact bn (T:=bu) (deep:=aZ) rfl rfl rfl a6 hx (nK (cf:=cE) (m:=M) (aW:=cD) rfl j85 a0 x0 bH []   aS H)
theorem j86:S86 cE M:=by
 intro x0 x1 r H  h xs hx
 exact bn (T:=bu) (deep:=aZ) rfl rfl rfl a6 hx (pk (cf:=cE) (m:=M) (aW:=cD) rfl j87 x0 x1 bH []   aS H)
theorem j90:S90 cE M:=by
 intro s0 a0 b0 r H  h L xs o hx
 obtain⟨r',h',hb,cR,rfl,ho⟩:=po (cf:=cE) (m:=M) (aW:=cD) rfl ac8 s0 a0 b0 bH []   aS H
 exact⟨qY h.next cR,_,lS (T:=bu) (deep:=aZ) rfl rfl rfl a6 hx hb (Du (dG (tD) (dG (rfl) (mA)))),Has.gr o ho (zY (fun _=>rfl) (.nil)),kF _ _⟩
theorem adl:XN cE M:=by
 intro s0 oN tG r H  h xs hx
 exact bn (T:=bu) (deep:=aZ) rfl rfl rfl a6 hx (Aq (cf:=cE) (m:=M) (aW:=cD) rfl ada s0 oN tG bH []   aS H)
theorem adm:XO cE M:=by
 intro s0 r H  h xs hx
 exact bn (T:=bu) (deep:=aZ) rfl rfl rfl a6 hx (yq (cf:=cE) (m:=M) (aW:=cD) rfl adb s0 bH []   aS H)
theorem adn:XP cE M:=by
 intro x0 y0 r H  h xs hx
 exact bn (T:=bu) (deep:=aZ) rfl rfl rfl a6 hx (so (cf:=cE) (m:=M) (aW:=cD) rfl adf x0 y0 bH []   aS H)
theorem ado:XQ cE M:=by
 intro x0 y0 r H  h xs hx
 exact bn (T:=bu) (deep:=aZ) rfl rfl rfl a6 hx (pq (cf:=cE) (m:=M) (aW:=cD) rfl adg x0 y0 bH []   aS H)
theorem adp:RA cE M:=by
 intro l0 dU n0 ck r H  h xs hx
 exact bn (T:=bu) (deep:=aZ) rfl rfl rfl a6 hx (yr (cf:=cE) (m:=M) (aW:=cD) rfl j94 YY l0 dU n0 ck bH []   aS H)
theorem adq:XR cE M:=by
 intro aG a0 m0 b0 bD r H h L dZ aX o iQ bS bE lT kX kY lU xs hx
 have hn0:dZ=aG.length:=dX (E:=ab) o (q:=0) rfl
 subst hn0
 obtain⟨r',h',hb,rfl,ho⟩:=DV (cf:=cE) (m:=M) (aW:=cD) rfl adj aG a0 m0 b0 bD h L aX iQ bS bE  lT kX kY lU o H
 exact⟨h',iv (T:=bu) rfl rfl hx hb,ho⟩
theorem j44:S44 cE M:=by
 intro s0 bZ n0 r H h L  au aq az o  xs hx
 obtain⟨r',h',hb,aB,aC,rfl,ho⟩:=rl (cf:=cE) (m:=M) (aW:=cD) rfl YW j86 s0 bZ n0 h L au aq az  o H
 exact⟨aB,aC,h',iv (T:=bu) rfl rfl hx hb,ho⟩
theorem j47:S47 cE M:=by
 intro s0 a0 b0 r H h L  au aH aq o  xs hx
 obtain⟨r',h',hb,cR,aB,aC,rfl,ho⟩:=qw (cf:=cE) (m:=M) (aW:=cD) rfl Qq Wp j90 j91 s0 a0 b0 h L au aH aq  o H
 exact⟨cR,aB,aC,h',iv (T:=bu) rfl rfl hx hb,ho⟩
theorem j48:S48 cE M:=by
 intro s0 a0 b0 r H  h xs hx
 exact bn (T:=bu) (deep:=aZ) rfl rfl rfl a6 hx (rm (cf:=cE) (m:=M) (aW:=cD) rfl Qq Wp j90 j91 s0 a0 b0 bH []   aS H)
theorem Wq:U8 cE M:=by
 intro s0 l0 r H  h xs hx
 exact bn (T:=bu) (deep:=aZ) rfl rfl rfl a6 hx (qy (cf:=cE) (m:=M) (aW:=cD) rfl YV j83 j95 s0 l0 bH []   aS H)
theorem j74:Zi cE M:=by
 intro s0 r H  h xs hx
 exact bn (T:=bu) (deep:=aZ) rfl rfl rfl a6 hx (Av (cf:=cE) (m:=M) (aW:=cD) rfl adl s0 bH []   aS H)
theorem j79:S79 cE M:=by
 intro n0 qR r H  h xs hx
 exact bn (T:=bu) (deep:=aZ) rfl rfl rfl a6 hx (Aw (cf:=cE) (m:=M) (aW:=cD) rfl j74 j83 j87 ac7 n0 qR bH []   aS H)
theorem j80:S80 cE M:=by
 intro s0 r H  h xs hx
 exact bn (T:=bu) (deep:=aZ) rfl rfl rfl a6 hx (vB (cf:=cE) (m:=M) (aW:=cD) rfl adm s0 bH []   aS H)
theorem j82:S82 cE M:=by
 intro x0 x1 x2 r H  h xs hx
 exact bn (T:=bu) (deep:=aZ) rfl rfl rfl a6 hx (oO (cf:=cE) (m:=M) (aW:=cD) rfl j74 j83 j84 x0 x1 x2 bH []   aS H)
theorem YZ:RB cE M:=by
 intro a0 b0 r H  h xs hx
 exact bn (T:=bu) (deep:=aZ) rfl rfl rfl a6 hx (sr (cf:=cE) (m:=M) (aW:=cD) rfl adn ac9 ado a0 b0 bH []   aS H)
theorem ads:XU cE M:=by
 intro i0 j0 x0 r H  h xs hx
 exact bn (T:=bu) (deep:=aZ) rfl rfl rfl a6 hx (tg (cf:=cE) (m:=M) (aW:=cD) rfl YZ i0 j0 x0 bH []   aS H)
theorem adt:XY cE M:=by
 intro l0 r H  h xs hx
 exact bn (T:=bu) (deep:=aZ) rfl rfl rfl a6 hx (uo (cf:=cE) (m:=M) (aW:=cD) rfl j94 adh adp YY l0 bH []   aS H)
theorem Y0:∀kk,By cE M kk
 | 0=>by
  intro aG a0 m0 b0 bD r H h L dZ aX o iQ bS bE lT kX kY lU xs hx
  cases H
 | kk+1=>by
  intro aG a0 m0 b0 bD r H h L dZ aX o iQ bS bE lT kX kY lU xs hx
  have hn0:dZ=aG.length:=dX (E:=ab) o (q:=0) rfl
  subst hn0
  obtain⟨r',h',hb,rfl,ho⟩:=AA (cf:=cE) (m:=M) (aW:=cD) rfl adq aG a0 m0 b0 bD h L aX iQ bS bE  (Y0 kk) lT kX kY lU o H
  exact⟨h',iv (T:=bu) rfl rfl hx hb,ho⟩
theorem j27:S27 cE M:=by
 intro s0 n0 r H  h xs hx
 exact bn (T:=bu) (deep:=aZ) rfl rfl rfl a6 hx (rr (cf:=cE) (m:=M) (aW:=cD) rfl Wq j60 j63 j64 j66 s0 n0 bH []   aS H)
theorem j29:S29 cE M:=by
 intro s0 a0 b0 r H h L  au aq az o  xs hx
 obtain⟨r',h',hb,cR,aB,aC,rfl,ho⟩:=qA (cf:=cE) (m:=M) (aW:=cD) rfl Wq j68 j69 j70 s0 a0 b0 h L au aq az  o H
 exact⟨cR,aB,aC,h',iv (T:=bu) rfl rfl hx hb,ho⟩
theorem j32:S32 cE M:=by
 intro s0 n0 r H  h xs hx
 exact bn (T:=bu) (deep:=aZ) rfl rfl rfl a6 hx (ss (cf:=cE) (m:=M) (aW:=cD) rfl Wq YX s0 n0 bH []   aS H)
theorem j33:S33 cE M:=by
 intro s0 a0 b0 r H h L  au aq az o  xs hx
 obtain⟨r',h',hb,MA,aB,aC,rfl,ho⟩:=ru (cf:=cE) (m:=M) (aW:=cD) rfl Wq j68 j69 j70 s0 a0 b0 h L au aq az  o H
 exact⟨MA,aB,aC,h',iv (T:=bu) rfl rfl hx hb,ho⟩
theorem j38:Zj cE M:=by
 intro n0 bg r H  h xs hx
 exact bn (T:=bu) (deep:=aZ) rfl rfl rfl a6 hx (w6 (cf:=cE) (m:=M) (aW:=cD) rfl j80 n0 bg bH []   aS H)
theorem j42:S42 cE M:=by
 intro s0 bZ br r H h L  au aq az o  xs hx
 obtain⟨r',h',hb,aB,aC,rfl,ho⟩:=qB (cf:=cE) (m:=M) (aW:=cD) rfl j37 YW j82 s0 bZ br h L au aq az  o H
 exact⟨aB,aC,h',iv (T:=bu) rfl rfl hx hb,ho⟩
theorem j53:S53 cE M:=by
 intro s0 n0 r H  h L xs o hx
 obtain⟨r',h',hb,cR,rfl,ho⟩:=qC (cf:=cE) (m:=M) (aW:=cD) rfl Wq j61 YX s0 n0 bH []   aS H
 exact⟨qY h.next cR,_,lS (T:=bu) (deep:=aZ) rfl rfl rfl a6 hx hb (Du (dG (zX (dG (rfl) (dG (rfl) (dG (rfl) (dG (tD) (mA)))))) (dG (rfl) (mA)))),Has.gr o ho (zY (fun _=>rfl) (.nil)),kF _ _⟩
theorem j73:S73 cE M:=by
 intro x0 r H  h xs hx
 exact bn (T:=bu) (deep:=aZ) rfl rfl rfl a6 hx (pw (cf:=cE) (m:=M) (aW:=cD) rfl j74 x0 bH []   aS H)
theorem j78:S78 cE M:=by
 intro n0 x0 r H  h xs hx
 exact bn (T:=bu) (deep:=aZ) rfl rfl rfl a6 hx (vG (cf:=cE) (m:=M) (aW:=cD) rfl j79 n0 x0 bH []   aS H)
theorem Y1:We cE M:=by
 intro s0 n0 r H h L  au aH aq o  xs hx
 obtain⟨r',h',hb,aB,aC,rfl,ho⟩:=rv (cf:=cE) (m:=M) (aW:=cD) rfl j38 Qq s0 n0 h L au aH aq  o H
 exact⟨aB,aC,h',iv (T:=bu) rfl rfl hx hb,ho⟩
theorem adu:X7 cE M:=by
 intro l0 ku r H  h xs hx
 exact sP (T:=bu) (deep:=aZ) rfl rfl rfl a6 hx (w7 (cf:=cE) (m:=M) (aW:=cD) rfl ade adt l0 ku bH []   aS H)
theorem adv:Yc cE M:=by
 intro aG n0 bD r H h L dZ aX o py fT fb yt yu yv yw xs hx
 have hn0:dZ=aG.length:=dX (E:=ab) o (q:=0) rfl
 subst hn0
 obtain⟨r',h',hb,rfl,ho⟩:=DZ (cf:=cE) (m:=M) (aW:=cD) rfl adi (Y0 _) aG n0 bD h L aX py fT fb  yt yu yv yw o H
 exact⟨h',iv (T:=bu) rfl rfl hx hb,ho⟩
theorem j23:S23 cE M:=by
 intro t0 r H  h xs hx
 exact bn (T:=bu) (deep:=aZ) rfl rfl rfl a6 hx (w8 (cf:=cE) (m:=M) (aW:=cD) rfl j38 t0 bH []   aS H)
theorem j31:S31 cE M:=by
 intro s0 a0 r H h L  au aq az o  xs hx
 obtain⟨r',h',hb,aB,aC,rfl,ho⟩:=ry (cf:=cE) (m:=M) (aW:=cD) rfl YW j73 s0 a0 h L au aq az  o H
 exact⟨aB,aC,h',iv (T:=bu) rfl rfl hx hb,ho⟩
theorem j36:S36 cE M:=by
 intro t0 r H  h xs hx
 exact bn (T:=bu) (deep:=aZ) rfl rfl rfl a6 hx (yx (cf:=cE) (m:=M) (aW:=cD) rfl j77 j78 t0 bH []   aS H)
theorem j39:S39 cE M:=by
 intro s0 r H h L  au aH aq o  xs hx
 obtain⟨r',h',hb,aB,aC,rfl,ho⟩:=sv (cf:=cE) (m:=M) (aW:=cD) rfl Y1 s0 h L au aH aq  o H
 exact⟨aB,aC,h',iv (T:=bu) rfl rfl hx hb,ho⟩
theorem j40:S40 cE M:=by
 intro s0 n0 r H h L  au aH aq o  xs hx
 obtain⟨r',h',hb,aB,aC,rfl,ho⟩:=sw (cf:=cE) (m:=M) (aW:=cD) rfl Y1 s0 n0 h L au aH aq  o H
 exact⟨aB,aC,h',iv (T:=bu) rfl rfl hx hb,ho⟩
theorem j41:S41 cE M:=by
 intro s0 a0 r H h L  au aH aq o  xs hx
 obtain⟨r',h',hb,aB,aC,rfl,ho⟩:=rz (cf:=cE) (m:=M) (aW:=cD) rfl Y1 s0 a0 h L au aH aq  o H
 exact⟨aB,aC,h',iv (T:=bu) rfl rfl hx hb,ho⟩
theorem j43:S43 cE M:=by
 intro s0 bZ br r H h L  au aH aq o  xs hx
 obtain⟨r',h',hb,aB,aC,rfl,ho⟩:=qD (cf:=cE) (m:=M) (aW:=cD) rfl Y1 s0 bZ br h L au aH aq  o H
 exact⟨aB,aC,h',iv (T:=bu) rfl rfl hx hb,ho⟩
theorem j45:S45 cE M:=by
 intro s0 bZ n0 r H h L  au aH aq o  xs hx
 obtain⟨r',h',hb,aB,aC,rfl,ho⟩:=rA (cf:=cE) (m:=M) (aW:=cD) rfl Y1 s0 bZ n0 h L au aH aq  o H
 exact⟨aB,aC,h',iv (T:=bu) rfl rfl hx hb,ho⟩
theorem j88:S88 cE M:=by
 intro t0 r H  h xs hx
 exact sP (T:=bu) (deep:=aZ) rfl rfl rfl a6 hx (w9 (cf:=cE) (m:=M) (aW:=cD) rfl j23 adu t0 bH []   aS H)
theorem adw:Ye cE M:=by
 intro x0 bD r H h L OF aX o iP bA dy Ab kG vi kH xs hx
 have hn0:OF=x0.length:=dX (E:=ab) o (q:=0) rfl
 subst hn0
 obtain⟨r',h',hb,rfl,ho⟩:=vH (cf:=cE) (m:=M) (aW:=cD) rfl adv x0 bD h L aX iP bA dy  Ab kG vi kH o H
 exact⟨h',iv (T:=bu) rfl rfl hx hb,ho⟩
theorem j46:S46 cE M:=by
 intro s0 t0 r H h L  au aH aq o  xs hx
 obtain⟨r',h',hb,aB,aC,rfl,ho⟩:=sy (cf:=cE) (m:=M) (aW:=cD) rfl Qq j88 s0 t0 h L au aH aq  o H
 exact⟨aB,aC,h',iv (T:=bu) rfl rfl hx hb,ho⟩
theorem j55:S55 cE M:=by
 intro s0 n0 r H  h xs hx
 exact sP (T:=bu) (deep:=aZ) rfl rfl rfl a6 hx (rB (cf:=cE) (m:=M) (aW:=cD) rfl Qq j88 Wp j92 j93 s0 n0 bH []   aS H)
theorem j96:S96 cE M:=by
 intro bg r H  h xs hx
 exact bn (T:=bu) (deep:=aZ) rfl rfl rfl a6 hx (vJ (cf:=cE) (m:=M) (aW:=cD) rfl YZ adw ads bg bH []   aS H)
theorem j62:S62 cE M:=by
 intro t0 r H  h L xs o hx
 obtain⟨r',h',hb,cR,dT,rfl,ho⟩:=yy (cf:=cE) (m:=M) (aW:=cD) rfl j96 (j97 _) t0 bH []   aS H
 exact⟨qY h.next cR,dT.map (qY h.next),_,lS (T:=bu) (deep:=aZ) rfl rfl rfl a6 hx hb (zX (dG (tD) (dG (rfl) (mA)))),Has.gr o ho (NZ (Dv .nil)),kF _ _⟩
theorem j25:S25 cE M:=by
 intro t0 r H  h L xs o hx
 obtain⟨r',h',hb,cR,dT,rfl,ho⟩:=yz (cf:=cE) (m:=M) (aW:=cD) rfl j36 j62 t0 bH []   aS H
 exact⟨qY h.next cR,dT.map (qY h.next),_,lS (T:=bu) (deep:=aZ) rfl rfl rfl a6 hx hb (Du (dG (zX (dG (tD) (dG (rfl) (mA)))) (dG (rfl) (mA)))),Has.gr o ho (NZ (Dv .nil)),kF _ _⟩
theorem j22:S22 cE M:=by
 intro s0 t0 r H h L  au aq az o  xs hx
 obtain⟨r',h',hb,aB,aC,rfl,ho⟩:=sB (cf:=cE) (m:=M) (aW:=cD) rfl j25 YV s0 t0 h L au aq az  o H
 exact⟨aB,aC,h',iv (T:=bu) rfl rfl hx hb,ho⟩
theorem j24:S24 cE M:=by
 intro s0 n0 r H  h L xs o hx
 obtain⟨r',h',hb,cR,dT,rfl,ho⟩:=rC (cf:=cE) (m:=M) (aW:=cD) rfl j25 Wq j60 j61 s0 n0 bH []   aS H
 exact⟨qY h.next cR,dT.map (qY h.next),_,lS (T:=bu) (deep:=aZ) rfl rfl rfl a6 hx hb (Du (dG (zX (dG (tD) (dG (rfl) (mA)))) (dG (rfl) (mA)))),Has.gr o ho (NZ (Dv .nil)),kF _ _⟩
theorem j12:S12 cE M:=by
 intro s0 t0 x0 r H h L  au aq az jD ic ie o  xs hx
 obtain⟨r',h',hb,aB,aC,qS,qT,rfl,ho⟩:=yA (cf:=cE) (m:=M) (aW:=cD) rfl j22 j29 j30 j31 j33 j34 j35 j39 j40 j41 j42 j43 j44 j45 j46 j47 j48 s0 t0 x0 h L au aq az jD ic ie  o H
 exact⟨aB,aC,qS,qT,h',iv (T:=bu) rfl rfl hx hb,ho⟩
theorem j20:S20 cE M:=by
 intro s0 t0 n0 r H  h xs hx
 exact bn (T:=bu) (deep:=aZ) rfl rfl rfl a6 hx (xb (cf:=cE) (m:=M) (aW:=cD) rfl j24 j26 j27 j32 j35 j52 j53 j54 j55 j56 j57 s0 t0 n0 bH []   aS H)
theorem j15:S15 cE M:=by
 intro s0 t0 r H  h xs hx
 exact bn (T:=bu) (deep:=aZ) rfl rfl rfl a6 hx (yC (cf:=cE) (m:=M) (aW:=cD) rfl j13 j14 j20 s0 t0 bH []   aS H)
theorem j5:S5 cE M:=by
 intro l0 r H  h xs hx
 exact bn (T:=bu) (deep:=aZ) rfl rfl rfl a6 hx (rD (cf:=cE) (m:=M) (aW:=cD) rfl j8 j9 j12 j15 j16 j17 j18 j19 l0 bH []   aS H)
end Go.Proofs.YtifafejidnjckaaGreat
namespace Go.Proofs.YtifafejidnjckaaGreat
open Go Go.R Go.Proofs Go.RowKit Go.ChangeShapes Go.WideShapes
open Go.IntKind (i64 u64 u8 u32)
theorem all_true (Dd:List AV)(h:uW Tryz.prog 7 Tryz.f5.params.toList Dd):∃cf h',CallOK Tryz.prog cf∧cf 5 Dd bH=some (.bool true,h'):=by
 rw [show Tryz.f5.params.toList=[29] from by rw [Tryz.params5]] at h
 obtain⟨xs,rfl,h1⟩:=Mp h
 obtain⟨l,hl,fl⟩:=P9 (n:=0) h1
 exact⟨cE,bH,VS,j5 l true (Iz (by decide) l hl) bH _ (ia (ai (fl bH) (aD)))⟩
theorem vT (os:Os)(started:os.Started)(H:Type)(enc:TypeId × Value→H) :
  ReturnsInHanded {} Tryz.checked os 5 .any (Rows.storePlaysSpec.pre6 enc Tryz.prog Tryz.f5 Rows.storePlaysRow.domain false) (Rows.storePlaysSpec.post enc Tryz.prog Tryz.f5 false true false false):=by
 refine returnsInHanded_of_change (C:=Tryz.checked) kr started kr Tryz.func5
  (ChangeSpec.witness6 (enc:=enc) (C:=Tryz.checked) false ⟨#[],#[.slice none 0 0],[]⟩ 8 kr kr kr kr) ?_
 intro W base args ds gs before gF hW aiv _
 exact Bo (cf:=fun _ _ _=>none) (P:=Tryz.prog) (m:=7) (tb:=4) kr
  (by rw [show Tryz.f5.params.toList=[29] from by rw [Tryz.params5]]; intro t ht; simp only [aja,List.not_mem_nil,or_false] at ht; rcases ht with rfl<;>exact⟨by kernel_rfl,of_decide_eq_true kr⟩)
  (by rw [show Tryz.f5.params.toList=[29] from by rw [Tryz.params5]]; intro t ht; simp only [aja,List.not_mem_nil,or_false] at ht; rcases ht with rfl<;>kernel_rfl) rfl rfl Tryz.underlying4
  (fun ds TT=>by
   have:ds.length=1:=by rw [TT]; rfl
   match ds,this with
   | [d0],_=>rfl) all_true gF hW
theorem storePlays_holds:Rows.StorePlaysSaid:=
 OpenClaim.holds_of_wide 5 Tryz.f5 rfl rfl rfl rfl rfl rfl rfl ⟨rfl,rfl,rfl,rfl,rfl⟩ rfl rfl rfl rfl rfl kr Tryz.func5 kr
  (of_decide_eq_true kr) (by unfold Func.isWrapper; first | (rw [if_pos (by decide +kernel)]; kernel_rfl) | (rw [if_neg (by decide +kernel)]; exact⟨rfl,rfl⟩))
  (fun os started H enc _=>vT os started H enc)
end Go.Proofs.YtifafejidnjckaaGreat
