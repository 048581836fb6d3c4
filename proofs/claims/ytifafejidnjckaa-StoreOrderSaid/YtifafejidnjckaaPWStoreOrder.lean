/- Proved: StoreOrder returns true for every input; no condition. -/
import Derived.Test.YtifafejidnjckaaK13
import Derived.Test.YtifafejidnjckaaRows
set_option linter.unusedVariables false
set_option linter.unusedSimpArgs false
set_option maxRecDepth 100000
open List renaming mem_cons → VT
namespace Go.Proofs.Ytifafejidnjckaa
open Go Go.R
open Go.IntKind (i64 u64 u8 u32)
theorem Us:QR cO M:=by
 intro l0 r H  h xs hx
 exact bk (T:=bC) (deep:=bf) rfl rfl rfl bg hx (pO (cf:=cO) (m:=M) (aV:=cN) rfl  l0 bu []   aW H)
theorem Ut:QS cO M:=by
 intro a0 b0 r H  h xs hx
 exact bk (T:=bC) (deep:=bf) rfl rfl rfl bg hx (qR (cf:=cO) (m:=M) (aV:=cN) rfl  a0 b0 bu []   aW H)
theorem Uu:QT cO M:=by
 intro  r H h L   o  xs hx
 obtain⟨r',h',hb,fc,gm,gp,rfl,ho⟩:=sH (cf:=cO) (m:=M) (aV:=cN) rfl   h L  o H
 exact⟨fc,gm,gp,h',gy (T:=bC) rfl rfl hx hb,ho⟩
theorem R8:Ov cO M:=by
 intro s0 aF r H h L  ao ak an o  xs hx
 obtain⟨r',h',hb,aA,aB,rfl,ho⟩:=lW (cf:=cO) (m:=M) (aV:=cN) rfl  s0 aF h L ao ak an  o H
 exact⟨aA,aB,h',gy (T:=bC) rfl rfl hx hb,ho⟩
theorem Nj:LP cO M:=by
 intro s0 r H  h xs hx
 exact bk (T:=bC) (deep:=bf) rfl rfl rfl bg hx (lX (cf:=cO) (m:=M) (aV:=cN) rfl  s0 bu []   aW H)
theorem R9:MT cO M:=by
 intro s0 n0 r H  h xs hx
 exact bk (T:=bC) (deep:=bf) rfl rfl rfl bg hx (mI (cf:=cO) (m:=M) (aV:=cN) rfl  s0 n0 bu []   aW H)
theorem MG:Kv cO M:=by
 intro s0 EC n0 r H h L  ao ak an o eK aP bX qS gU oU gV xs hx
 obtain⟨r',h',hb,aA,aB,rfl,ho⟩:=mJ (cf:=cO) (m:=M) (aV:=cN) rfl Nj s0 EC n0 h L ao ak an eK aP bX  qS gU oU gV o H
 exact⟨aA,aB,h',gy (T:=bC) rfl rfl hx hb,ho⟩
theorem Uv:QU cO M:=by
 intro  r H  h xs hx
 exact bk (T:=bC) (deep:=bf) rfl rfl rfl bg hx (lC (cf:=cO) (m:=M) (aV:=cN) rfl   bu []   aW H)
theorem Uw:QV cO M:=by
 intro x0 r H  h xs hx
 exact bk (T:=bC) (deep:=bf) rfl rfl rfl bg hx (lD (cf:=cO) (m:=M) (aV:=cN) rfl  x0 bu []   aW H)
theorem Sa:Ow cO M:=by
 intro s0 n0 r H  h xs hx
 exact bk (T:=bC) (deep:=bf) rfl rfl rfl bg hx (lE (cf:=cO) (m:=M) (aV:=cN) rfl  s0 n0 bu []   aW H)
theorem Ux:Ox cO M:=by
 intro a0 b0 r H  h xs hx
 exact bk (T:=bC) (deep:=bf) rfl rfl rfl bg hx (oW (cf:=cO) (m:=M) (aV:=cN) rfl  a0 b0 bu []   aW H)
theorem Sb:Oy cO M:=by
 intro s0 n0 r H  h xs hx
 exact bk (T:=bC) (deep:=bf) rfl rfl rfl bg hx (lY (cf:=cO) (m:=M) (aV:=cN) rfl  s0 n0 bu []   aW H)
theorem Uy:QX cO M:=by
 intro a0 x0 r H  h xs hx
 exact bk (T:=bC) (deep:=bf) rfl rfl rfl bg hx (jT (cf:=cO) (m:=M) (aV:=cN) rfl Sa a0 x0 bu []   aW H)
theorem Sc:Oz cO M:=by
 intro s0 r H  h xs hx
 exact bk (T:=bC) (deep:=bf) rfl rfl rfl bg hx (qT (cf:=cO) (m:=M) (aV:=cN) rfl  s0 bu []   aW H)
theorem Sd:∀kk,MU cO M kk
 | 0=>by
  intro i0 x0 x1 x2 x3 r H h L  da du db cK dZ eC dj cQ o  xs hx
  cases H
 | kk+1=>by
  intro i0 x0 x1 x2 x3 r H h L  da du db cK dZ eC dj cQ o  xs hx
  obtain⟨r',h',hb,lQ,ib,rfl,ho⟩:=oX (cf:=cO) (m:=M) (aV:=cN) rfl  i0 x0 x1 x2 x3 h L da du db cK dZ eC dj cQ  (Sd kk) o H
  exact⟨lQ,ib,h',gy (T:=bC) rfl rfl hx hb,ho⟩
theorem Se:OD cO M:=by
 intro s0 f0 r H eK aP gU gV h xs hx
 exact bk (T:=bC) (deep:=bf) rfl rfl rfl bg hx (vM (cf:=cO) (m:=M) (aV:=cN) rfl  s0 f0 bu [] eK aP  gU gV aW H)
theorem Uz:QY cO M:=by
 intro s0 f0 r H eK aP gU gV h xs hx
 exact bk (T:=bC) (deep:=bf) rfl rfl rfl bg hx (vN (cf:=cO) (m:=M) (aV:=cN) rfl  s0 f0 bu [] eK aP  gU gV aW H)
theorem UA:QZ cO M:=by
 intro a0 x0 r H  h xs hx
 exact bk (T:=bC) (deep:=bf) rfl rfl rfl bg hx (pP (cf:=cO) (m:=M) (aV:=cN) rfl  a0 x0 bu []   aW H)
theorem UB:Q0 cO M:=by
 intro gr r H  h xs hx
 exact bk (T:=bC) (deep:=bf) rfl rfl rfl bg hx (qU (cf:=cO) (m:=M) (aV:=cN) rfl  gr bu []   aW H)
theorem UC:OE cO M:=by
 intro c0 r H  h xs hx
 exact bk (T:=bC) (deep:=bf) rfl rfl rfl bg hx (pQ (cf:=cO) (m:=M) (aV:=cN) rfl  c0 bu []   aW H)
theorem UD:Q1 cO M:=by
 intro x0 r H  h xs hx
 exact bk (T:=bC) (deep:=bf) rfl rfl rfl bg hx (n9 (cf:=cO) (m:=M) (aV:=cN) rfl  x0 bu []   aW H)
theorem UE:Q2 cO M:=by
 intro x0 r H  h xs hx
 exact bk (T:=bC) (deep:=bf) rfl rfl rfl bg hx (lZ (cf:=cO) (m:=M) (aV:=cN) rfl  x0 bu []   aW H)
theorem Qj:Jt cO M:=by
 intro aw a0 b0 aQ r H h L cm aI o qG fP eQ CI zl zm CJ xs hx
 have hn0:cm=aw.length:=ck (E:=af) o (q:=0) rfl
 subst hn0
 obtain⟨r',h',hb,rfl,ho⟩:=nt (cf:=cO) (m:=M) (aV:=cN) rfl  aw a0 b0 aQ h L aI qG fP eQ  CI zl zm CJ o H
 exact⟨h',gy (T:=bC) rfl rfl hx hb,ho⟩
theorem Qk:Jv cO M:=by
 intro aw a0 b0 n0 aQ r H h L cm aI o eL a6 aS gM hY hZ iL xs hx
 have hn0:cm=aw.length:=ck (E:=af) o (q:=0) rfl
 subst hn0
 obtain⟨r',h',hb,rfl,ho⟩:=qV (cf:=cO) (m:=M) (aV:=cN) rfl  aw a0 b0 n0 aQ h L aI eL a6 aS  gM hY hZ iL o H
 exact⟨h',gy (T:=bC) rfl rfl hx hb,ho⟩
theorem UF:OG cO M:=by
 intro s0 r H  h xs hx
 exact bk (T:=bC) (deep:=bf) rfl rfl rfl bg hx (l7 (cf:=cO) (m:=M) (aV:=cN) rfl Nj s0 bu []   aW H)
theorem UG:Q8 cO M:=by
 intro s0 r H h L  ao ak an o  xs hx
 obtain⟨r',h',hb,aA,aB,rfl,ho⟩:=mL (cf:=cO) (m:=M) (aV:=cN) rfl MG Uv s0 h L ao ak an  o H
 exact⟨aA,aB,h',gy (T:=bC) rfl rfl hx hb,ho⟩
theorem UH:Q9 cO M:=by
 intro s0 n0 r H h L  ao ak an o  xs hx
 obtain⟨r',h',hb,aA,aB,rfl,ho⟩:=mM (cf:=cO) (m:=M) (aV:=cN) rfl MG Uw s0 n0 h L ao ak an  o H
 exact⟨aA,aB,h',gy (T:=bC) rfl rfl hx hb,ho⟩
theorem Ql:MV cO M:=by
 intro s0 f0 r H eK aP gU gV h xs hx
 exact bk (T:=bC) (deep:=bf) rfl rfl rfl bg hx (qW (cf:=cO) (m:=M) (aV:=cN) rfl Se s0 f0 bu [] eK aP  gU gV aW H)
theorem UI:Ra cO M:=by
 intro n0 x0 r H  h xs hx
 exact bk (T:=bC) (deep:=bf) rfl rfl rfl bg hx (kp (cf:=cO) (m:=M) (aV:=cN) rfl Sa n0 x0 bu []   aW H)
theorem UJ:OJ cO M:=by
 intro s0 a0 b0 r H h L  ao ak an o  xs hx
 obtain⟨r',h',hb,aA,aB,rfl,ho⟩:=l8 (cf:=cO) (m:=M) (aV:=cN) rfl Sb s0 a0 b0 h L ao ak an  o H
 exact⟨aA,aB,h',gy (T:=bC) rfl rfl hx hb,ho⟩
theorem UK:Rb cO M:=by
 intro s0 kq r H h L Hf aI o eK aP bX qS gU oU gV xs hx
 have hn0:Hf=s0.length:=ck (E:=af) o (q:=0) rfl
 subst hn0
 obtain⟨r',h',hb,rfl,ho⟩:=tL (cf:=cO) (m:=M) (aV:=cN) rfl Se s0 kq h L aI eK aP bX  qS gU oU gV o H
 exact⟨h',gy (T:=bC) rfl rfl hx hb,ho⟩
theorem UL:Rc cO M:=by
 intro n0 x0 r H  h xs hx
 exact bk (T:=bC) (deep:=bf) rfl rfl rfl bg hx (kr (cf:=cO) (m:=M) (aV:=cN) rfl Sb n0 x0 bu []   aW H)
theorem UM:Re cO M:=by
 intro x0 x1 r H  h xs hx
 exact bk (T:=bC) (deep:=bf) rfl rfl rfl bg hx (kR (cf:=cO) (m:=M) (aV:=cN) rfl Sc x0 x1 bu []   aW H)
theorem UN:Rf cO M:=by
 intro s0 f0 r H eK aP gU gV h xs hx
 exact bk (T:=bC) (deep:=bf) rfl rfl rfl bg hx (qX (cf:=cO) (m:=M) (aV:=cN) rfl Uz s0 f0 bu [] eK aP  gU gV aW H)
theorem UO:Rh cO M:=by
 intro s0 ku nG r H  h xs hx
 exact bk (T:=bC) (deep:=bf) rfl rfl rfl bg hx (sL (cf:=cO) (m:=M) (aV:=cN) rfl UC s0 ku nG bu []   aW H)
theorem UP:Ri cO M:=by
 intro x0 y0 r H  h xs hx
 exact bk (T:=bC) (deep:=bf) rfl rfl rfl bg hx (mN (cf:=cO) (m:=M) (aV:=cN) rfl UD x0 y0 bu []   aW H)
theorem UQ:Rj cO M:=by
 intro x0 y0 r H  h xs hx
 exact bk (T:=bC) (deep:=bf) rfl rfl rfl bg hx (kS (cf:=cO) (m:=M) (aV:=cN) rfl UE x0 y0 bu []   aW H)
theorem Qm:LS cO M:=by
 intro aw a0 m0 b0 aQ r H h L cm aI o eL a6 aS gM hY hZ iL xs hx
 have hn0:cm=aw.length:=ck (E:=af) o (q:=0) rfl
 subst hn0
 obtain⟨r',h',hb,rfl,ho⟩:=vP (cf:=cO) (m:=M) (aV:=cN) rfl Qk aw a0 m0 b0 aQ h L aI eL a6 aS  gM hY hZ iL o H
 exact⟨h',gy (T:=bC) rfl rfl hx hb,ho⟩
theorem Qn:MW cO M:=by
 intro s0 l0 r H  h xs hx
 exact bk (T:=bC) (deep:=bf) rfl rfl rfl bg hx (lF (cf:=cO) (m:=M) (aV:=cN) rfl Nj Ql UI s0 l0 bu []   aW H)
theorem Sf:OR cO M:=by
 intro s0 a0 b0 r H h L  ao ak an o  xs hx
 obtain⟨r',h',hb,fc,aA,aB,rfl,ho⟩:=kU (cf:=cO) (m:=M) (aV:=cN) rfl R9 Ux UJ s0 a0 b0 h L ao ak an  o H
 exact⟨fc,aA,aB,h',gy (T:=bC) rfl rfl hx hb,ho⟩
theorem Sh:OY cO M:=by
 intro s0 aF r H  h L xs o hx
 obtain⟨r',h',hb,fc,rfl,ho⟩:=lG (cf:=cO) (m:=M) (aV:=cN) rfl UK UL Up s0 aF bu []   aW H
 exact⟨om h.next fc,_,sF (T:=bC) (deep:=bf) rfl rfl rfl bg hx hb (Aw),Has.eG o ho (Ic (fun _=>rfl) (.nil)),pN _ _⟩
theorem UR:Rl cO M:=by
 intro s0 cg n0 r H h L  ao ak an o  xs hx
 obtain⟨r',h',hb,aA,aB,rfl,ho⟩:=l9 (cf:=cO) (m:=M) (aV:=cN) rfl MG UM s0 cg n0 h L ao ak an  o H
 exact⟨aA,aB,h',gy (T:=bC) rfl rfl hx hb,ho⟩
theorem Qo:MX cO M:=by
 intro s0 r H  h xs hx
 exact bk (T:=bC) (deep:=bf) rfl rfl rfl bg hx (sO (cf:=cO) (m:=M) (aV:=cN) rfl UO s0 bu []   aW H)
theorem US:Rm cO M:=by
 intro x0 x1 x2 r H  h xs hx
 exact bk (T:=bC) (deep:=bf) rfl rfl rfl bg hx (kx (cf:=cO) (m:=M) (aV:=cN) rfl Qo Ql Uy x0 x1 x2 bu []   aW H)
theorem UT:Rn cO M:=by
 intro n0 lR r H  h xs hx
 exact bk (T:=bC) (deep:=bf) rfl rfl rfl bg hx (sP (cf:=cO) (m:=M) (aV:=cN) rfl Qo Ql Sc UA n0 lR bu []   aW H)
theorem Si:MZ cO M:=by
 intro a0 b0 r H  h xs hx
 exact bk (T:=bC) (deep:=bf) rfl rfl rfl bg hx (mO (cf:=cO) (m:=M) (aV:=cN) rfl UP UB UQ a0 b0 bu []   aW H)
theorem UU:Ro cO M:=by
 intro i0 j0 x0 r H  h xs hx
 exact bk (T:=bC) (deep:=bf) rfl rfl rfl bg hx (nu (cf:=cO) (m:=M) (aV:=cN) rfl Si i0 j0 x0 bu []   aW H)
theorem MH:∀kk,tM cO M kk
 | 0=>by
  intro aw a0 m0 b0 aQ r H h L cm aI o eL a6 aS gM hY hZ iL xs hx
  cases H
 | kk+1=>by
  intro aw a0 m0 b0 aQ r H h L cm aI o eL a6 aS gM hY hZ iL xs hx
  have hn0:cm=aw.length:=ck (E:=af) o (q:=0) rfl
  subst hn0
  obtain⟨r',h',hb,rfl,ho⟩:=sU (cf:=cO) (m:=M) (aV:=cN) rfl Qm aw a0 m0 b0 aQ h L aI eL a6 aS  (MH kk) gM hY hZ iL o H
  exact⟨h',gy (T:=bC) rfl rfl hx hb,ho⟩
theorem Sj:M8 cO M:=by
 intro s0 a0 b0 r H h L  ao ak an o  xs hx
 obtain⟨r',h',hb,fc,aA,aB,rfl,ho⟩:=lI (cf:=cO) (m:=M) (aV:=cN) rfl Qn Sf R8 Sh s0 a0 b0 h L ao ak an  o H
 exact⟨fc,aA,aB,h',gy (T:=bC) rfl rfl hx hb,ho⟩
theorem UW:Rp cO M:=by
 intro s0 a0 b0 r H h L  ao ak an o  xs hx
 obtain⟨r',h',hb,Dm,aA,aB,rfl,ho⟩:=ma (cf:=cO) (m:=M) (aV:=cN) rfl Qn Sf R8 Sh s0 a0 b0 h L ao ak an  o H
 exact⟨Dm,aA,aB,h',gy (T:=bC) rfl rfl hx hb,ho⟩
theorem UX:Pd cO M:=by
 intro s0 n0 r H  h xs hx
 exact bk (T:=bC) (deep:=bf) rfl rfl rfl bg hx (mQ (cf:=cO) (m:=M) (aV:=cN) rfl Qn R9 s0 n0 bu []   aW H)
theorem UY:Rq cO M:=by
 intro s0 cg dt r H h L  ao ak an o  xs hx
 obtain⟨r',h',hb,aA,aB,rfl,ho⟩:=lJ (cf:=cO) (m:=M) (aV:=cN) rfl Uq MG US s0 cg dt h L ao ak an  o H
 exact⟨aA,aB,h',gy (T:=bC) rfl rfl hx hb,ho⟩
theorem UZ:Rr cO M:=by
 intro x0 r H  h xs hx
 exact bk (T:=bC) (deep:=bf) rfl rfl rfl bg hx (kW (cf:=cO) (m:=M) (aV:=cN) rfl Qo x0 bu []   aW H)
theorem U0:Rs cO M:=by
 intro n0 x0 r H  h xs hx
 exact bk (T:=bC) (deep:=bf) rfl rfl rfl bg hx (pb (cf:=cO) (m:=M) (aV:=cN) rfl UT n0 x0 bu []   aW H)
theorem U1:Rt cO M:=by
 intro aw n0 aQ r H h L cm aI o kX dy cX nv qZ q6 q7 xs hx
 have hn0:cm=aw.length:=ck (E:=af) o (q:=0) rfl
 subst hn0
 obtain⟨r',h',hb,rfl,ho⟩:=vR (cf:=cO) (m:=M) (aV:=cN) rfl Qj (MH _) aw n0 aQ h L aI kX dy cX  nv qZ q6 q7 o H
 exact⟨h',gy (T:=bC) rfl rfl hx hb,ho⟩
theorem U2:Ru cO M:=by
 intro s0 l0 r H h L  ao ak an o  xs hx
 obtain⟨r',h',hb,aA,aB,rfl,ho⟩:=pU (cf:=cO) (m:=M) (aV:=cN) rfl Sj s0 l0 h L ao ak an  o H
 exact⟨aA,aB,h',gy (T:=bC) rfl rfl hx hb,ho⟩
theorem U3:Rv cO M:=by
 intro s0 r H  h xs hx
 exact bk (T:=bC) (deep:=bf) rfl rfl rfl bg hx (q8 (cf:=cO) (m:=M) (aV:=cN) rfl UF UX s0 bu []   aW H)
theorem U4:Rw cO M:=by
 intro s0 a0 r H h L  ao ak an o  xs hx
 obtain⟨r',h',hb,aA,aB,rfl,ho⟩:=mb (cf:=cO) (m:=M) (aV:=cN) rfl MG UZ s0 a0 h L ao ak an  o H
 exact⟨aA,aB,h',gy (T:=bC) rfl rfl hx hb,ho⟩
theorem U5:Rx cO M:=by
 intro t0 r H  h xs hx
 exact bk (T:=bC) (deep:=bf) rfl rfl rfl bg hx (q9 (cf:=cO) (m:=M) (aV:=cN) rfl UN U0 t0 bu []   aW H)
theorem U6:Ry cO M:=by
 intro x0 aQ r H h L E2 aI o eK aP bX qS gU oU gV xs hx
 have hn0:E2=x0.length:=ck (E:=af) o (q:=0) rfl
 subst hn0
 obtain⟨r',h',hb,rfl,ho⟩:=pc (cf:=cO) (m:=M) (aV:=cN) rfl U1 x0 aQ h L aI eK aP bX  qS gU oU gV o H
 exact⟨h',gy (T:=bC) rfl rfl hx hb,ho⟩
theorem U7:Rz cO M:=by
 intro aJ r H  h xs hx
 exact bk (T:=bC) (deep:=bf) rfl rfl rfl bg hx (pe (cf:=cO) (m:=M) (aV:=cN) rfl Si U6 UU aJ bu []   aW H)
theorem U8:RF cO M:=by
 intro t0 r H  h L xs o hx
 obtain⟨r',h',hb,fc,eP,rfl,ho⟩:=re (cf:=cO) (m:=M) (aV:=cN) rfl U7 (Sd _) t0 bu []   aW H
 exact⟨om h.next fc,eP.map (om h.next),_,sF (T:=bC) (deep:=bf) rfl rfl rfl bg hx hb (Ev (gJ (Aw) (gJ (rfl) (rF)))),Has.eG o ho (Ie (zh .nil)),pN _ _⟩
theorem Va:RG cO M:=by
 intro t0 r H  h L xs o hx
 obtain⟨r',h',hb,fc,eP,rfl,ho⟩:=rf (cf:=cO) (m:=M) (aV:=cN) rfl U5 U8 t0 bu []   aW H
 exact⟨om h.next fc,eP.map (om h.next),_,sF (T:=bC) (deep:=bf) rfl rfl rfl bg hx hb (Jm (gJ (Ev (gJ (Aw) (gJ (rfl) (rF)))) (gJ (rfl) (rF)))),Has.eG o ho (Ie (zh .nil)),pN _ _⟩
theorem Vb:RH cO M:=by
 intro s0 t0 r H h L  ao ak an o  xs hx
 obtain⟨r',h',hb,aA,aB,rfl,ho⟩:=mS (cf:=cO) (m:=M) (aV:=cN) rfl Nj Va s0 t0 h L ao ak an  o H
 exact⟨aA,aB,h',gy (T:=bC) rfl rfl hx hb,ho⟩
theorem Vc:PK cO M:=by
 intro s0 x0 r H h L  ao ak an o  xs hx
 obtain⟨r',h',hb,aA,aB,rfl,ho⟩:=tN (cf:=cO) (m:=M) (aV:=cN) rfl Sj UW UG U4 UH UY UR Vb s0 x0 h L ao ak an  o H
 exact⟨aA,aB,h',gy (T:=bC) rfl rfl hx hb,ho⟩
theorem Vd:RI cO M:=by
 intro l0 r H h L   o  xs hx
 obtain⟨r',h',hb,fc,gm,gp,rfl,ho⟩:=ri (cf:=cO) (m:=M) (aV:=cN) rfl Vc Uu l0 h L  o H
 exact⟨fc,gm,gp,h',gy (T:=bC) rfl rfl hx hb,ho⟩
theorem j3:S3 cO M:=by
 intro l0 bz bP eF r H  h xs hx
 exact bk (T:=bC) (deep:=bf) rfl rfl rfl bg hx (mc (cf:=cO) (m:=M) (aV:=cN) rfl Us Ur Vd U2 Ut U3 l0 bz bP eF bu []   aW H)
end Go.Proofs.Ytifafejidnjckaa
namespace Go.Proofs.Ytifafejidnjckaa
open Go Go.R Go.Proofs Go.RowKit Go.ChangeShapes Go.WideShapes
open Go.IntKind (i64 u64 u8 u32)
theorem all_true (wk:List AV)(h:mX Try.prog 7 Try.f3.params.toList wk):∃cf h',CallOK Try.prog cf∧cf 3 wk bu=some (.bool true,h'):=by
 rw [show Try.f3.params.toList=[22,23,24,25] from by rw [Try.params3]] at h
 obtain⟨xs,ys,zs,ws,rfl,h1,h2,h3,h4⟩:=zP h
 obtain⟨l,hl,fl⟩:=F0 (n:=0) (HF h1)
 obtain⟨a,fa⟩:=C8 (n:=5) h2
 obtain⟨b,hb,hb2,fb⟩:=C6 (n:=5) h3
 obtain⟨k,hk,fk⟩:=C7 (n:=5) h4
 exact⟨cO,bu,Kg,j3 l a b k true (zN (by decide) l a b k hl hb2 hb hk) bu _ (gv (ai (fl bu) (ai (fa bu) (ai (fb bu) (ai (fk bu) (ay))))))⟩
theorem F6:∀t∈Try.f3.params.toList,wj Try.prog 7 t:=by
 rw [show Try.f3.params.toList=[22,23,24,25] from by rw [Try.params3]]
 intro t ht
 simp at ht
 rcases ht with rfl | rfl | rfl | rfl
 ·exact .inl (by kernel_rfl)
 ·exact .inr ⟨31,2,3,Try.underlying23,Try.underlying31,by kernel_rfl,by kernel_rfl⟩
 ·exact .inl (by kernel_rfl)
 ·exact .inl (by kernel_rfl)
theorem po (os:Os)(started:os.Started)(H:Type)(enc:TypeId × Value→H) :
  ReturnsInHanded {} Try.checked os 3 .any (Rows.storeOrderSpec.pre6 enc Try.prog Try.f3 Rows.storeOrderRow.domain false) (Rows.storeOrderSpec.post enc Try.prog Try.f3 false true false false):=by
 refine returnsInHanded_of_change (C:=Try.checked) (by kernel_rfl) started (by kernel_rfl) Try.func3
  (ChangeSpec.witness6 (enc:=enc) (C:=Try.checked) false ⟨#[],#[.slice none 0 0,.slice none 0 0,.slice none 0 0,.slice none 0 0],[]⟩ 8 (by kernel_rfl) (by kernel_rfl) (by kernel_rfl) (by kernel_rfl)) ?_
 intro W base args ds gs before dO hW Ve _
 exact tl (cf:=fun _ _ _=>none) (P:=Try.prog) (m:=7) (tb:=4) (by kernel_rfl)
  (by rw [show Try.f3.params.toList=[22,23,24,25] from by rw [Try.params3]]; intro t ht; simp only [VT,List.not_mem_nil,or_false] at ht; rcases ht with rfl | rfl | rfl | rfl<;>exact⟨by kernel_rfl,of_decide_eq_true (by kernel_rfl)⟩)
  F6 rfl rfl Try.underlying4
  (fun ds IJ=>by
   have:ds.length=4:=by rw [IJ]; rfl
   match ds,this with
   | [d0,d1,d2,d3],_=>rfl) all_true dO hW
theorem storeOrder_holds:Rows.StoreOrderSaid:=
 OpenClaim.holds_of_wide 3 Try.f3 rfl rfl rfl rfl rfl rfl rfl ⟨rfl,rfl,rfl,rfl,rfl⟩ rfl rfl rfl rfl rfl (by kernel_rfl) Try.func3 (by kernel_rfl)
  (of_decide_eq_true (by kernel_rfl)) (by unfold Func.isWrapper; first | (rw [if_pos (by decide +kernel)]; kernel_rfl) | (rw [if_neg (by decide +kernel)]; exact⟨rfl,rfl⟩))
  (fun os started H enc _=>po os started H enc)
end Go.Proofs.Ytifafejidnjckaa
