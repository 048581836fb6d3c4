/- Proved: StoreTests returns true for every input; no condition. -/
import Derived.Test.YtifafejidnjckaaK14
import Derived.Test.YtifafejidnjckaaRows
set_option linter.unusedVariables false
set_option linter.unusedSimpArgs false
set_option maxRecDepth 100000
open List renaming mem_cons → ZZ
namespace Go.Proofs.Ytifafejidnjckaa
open Go Go.R
open Go.IntKind (i64 u64 u8 u32)
theorem Yn:Ua cO M:=by
 intro l0 r H  h xs hx
 exact br (T:=bG) (deep:=bc) rfl rfl rfl be hx (qO (cf:=cO) (m:=M) (aY:=cN) rfl  l0 bD []   aV H)
theorem Yo:Ub cO M:=by
 intro a0 b0 r H  h xs hx
 exact br (T:=bG) (deep:=bc) rfl rfl rfl be hx (rX (cf:=cO) (m:=M) (aY:=cN) rfl  a0 b0 bD []   aV H)
theorem Yp:Uc cO M:=by
 intro  r H h L   o  xs hx
 obtain⟨r',h',hb,dw,eK,eL,rfl,ho⟩:=tN (cf:=cO) (m:=M) (aY:=cN) rfl   h L  o H
 exact⟨dw,eK,eL,h',gY (T:=bG) rfl rfl hx hb,ho⟩
theorem Vk:QE cO M:=by
 intro s0 aJ r H h L  aq an ao o  xs hx
 obtain⟨r',h',hb,aC,aD,rfl,ho⟩:=mQ (cf:=cO) (m:=M) (aY:=cN) rfl  s0 aJ h L aq an ao  o H
 exact⟨aC,aD,h',gY (T:=bG) rfl rfl hx hb,ho⟩
theorem OU:MB cO M:=by
 intro s0 r H  h xs hx
 exact br (T:=bG) (deep:=bc) rfl rfl rfl be hx (mR (cf:=cO) (m:=M) (aY:=cN) rfl  s0 bD []   aV H)
theorem Pu:I3 cO M:=by
 intro s0 n0 r H  h xs hx
 exact br (T:=bG) (deep:=bc) rfl rfl rfl be hx (nH (cf:=cO) (m:=M) (aY:=cN) rfl  s0 n0 bD []   aV H)
theorem Yq:Ud cO M:=by
 intro s0 n0 r H  h L xs o hx
 obtain⟨r',h',hb,dw,rfl,ho⟩:=mo (cf:=cO) (m:=M) (aY:=cN) rfl Pu s0 n0 bD []   aV H
 exact⟨oc h.next dw,_,lK (T:=bG) (deep:=bc) rfl rfl rfl be hx hb (tM),Has.fe o ho (Cq (fun _=>rfl) (.nil)),ke _ _⟩
theorem OV:MC cO M:=by
 intro s0 GC n0 r H h L  aq an ao o fH aX cr rY ir pY iu xs hx
 obtain⟨r',h',hb,aC,aD,rfl,ho⟩:=nJ (cf:=cO) (m:=M) (aY:=cN) rfl OU s0 GC n0 h L aq an ao fH aX cr  rY ir pY iu o H
 exact⟨aC,aD,h',gY (T:=bG) rfl rfl hx hb,ho⟩
theorem Yr:Ue cO M:=by
 intro  r H  h xs hx
 exact br (T:=bG) (deep:=bc) rfl rfl rfl be hx (mq (cf:=cO) (m:=M) (aY:=cN) rfl   bD []   aV H)
theorem Ys:Ug cO M:=by
 intro x0 r H  h xs hx
 exact br (T:=bG) (deep:=bc) rfl rfl rfl be hx (mr (cf:=cO) (m:=M) (aY:=cN) rfl  x0 bD []   aV H)
theorem Vl:QF cO M:=by
 intro s0 n0 r H  h xs hx
 exact br (T:=bG) (deep:=bc) rfl rfl rfl be hx (mu (cf:=cO) (m:=M) (aY:=cN) rfl  s0 n0 bD []   aV H)
theorem Yt:QG cO M:=by
 intro a0 b0 r H  h xs hx
 exact br (T:=bG) (deep:=bc) rfl rfl rfl be hx (pZ (cf:=cO) (m:=M) (aY:=cN) rfl  a0 b0 bD []   aV H)
theorem Vm:QH cO M:=by
 intro s0 n0 r H  h xs hx
 exact br (T:=bG) (deep:=bc) rfl rfl rfl be hx (mS (cf:=cO) (m:=M) (aY:=cN) rfl  s0 n0 bD []   aV H)
theorem Yu:Uh cO M:=by
 intro a0 x0 r H  h xs hx
 exact br (T:=bG) (deep:=bc) rfl rfl rfl be hx (kA (cf:=cO) (m:=M) (aY:=cN) rfl Vl a0 x0 bD []   aV H)
theorem Vn:QI cO M:=by
 intro s0 r H  h xs hx
 exact br (T:=bG) (deep:=bc) rfl rfl rfl be hx (rZ (cf:=cO) (m:=M) (aY:=cN) rfl  s0 bD []   aV H)
theorem Yv:Ui cO M:=by
 intro s0 s1 eq0 r H ju ca mT mU h xs hx
 exact br (T:=bG) (deep:=bc) rfl rfl rfl be hx (jw (cf:=cO) (m:=M) (aY:=cN) rfl  s0 s1 eq0 bD [] ju ca  mT mU aV H)
theorem Yw:Uj cO M:=by
 intro s0 s1 r H  h xs hx
 exact br (T:=bG) (deep:=bc) rfl rfl rfl be hx (pe (cf:=cO) (m:=M) (aY:=cN) rfl  s0 s1 bD []   aV H)
theorem Vo:∀kk,Pa cO M kk
 | 0=>by
  intro i0 x0 x1 x2 x3 r H h L  dN ec dO du eZ fA dS dE o  xs hx
  cases H
 | kk+1=>by
  intro i0 x0 x1 x2 x3 r H h L  dN ec dO du eZ fA dS dE o  xs hx
  obtain⟨r',h',hb,mL,iL,rfl,ho⟩:=p4 (cf:=cO) (m:=M) (aY:=cN) rfl  i0 x0 x1 x2 x3 h L dN ec dO du eZ fA dS dE  (Vo kk) o H
  exact⟨mL,iL,h',gY (T:=bG) rfl rfl hx hb,ho⟩
theorem Vp:QP cO M:=by
 intro s0 f0 r H fH aX ir iu h xs hx
 exact br (T:=bG) (deep:=bc) rfl rfl rfl be hx (xy (cf:=cO) (m:=M) (aY:=cN) rfl  s0 f0 bD [] fH aX  ir iu aV H)
theorem Yx:Uk cO M:=by
 intro s0 f0 r H fH aX ir iu h xs hx
 exact br (T:=bG) (deep:=bc) rfl rfl rfl be hx (xz (cf:=cO) (m:=M) (aY:=cN) rfl  s0 f0 bD [] fH aX  ir iu aV H)
theorem Yy:Ul cO M:=by
 intro a0 x0 r H  h xs hx
 exact br (T:=bG) (deep:=bc) rfl rfl rfl be hx (qP (cf:=cO) (m:=M) (aY:=cN) rfl  a0 x0 bD []   aV H)
theorem Yz:Um cO M:=by
 intro gU r H  h xs hx
 exact br (T:=bG) (deep:=bc) rfl rfl rfl be hx (r6 (cf:=cO) (m:=M) (aY:=cN) rfl  gU bD []   aV H)
theorem YA:QQ cO M:=by
 intro c0 r H  h xs hx
 exact br (T:=bG) (deep:=bc) rfl rfl rfl be hx (qQ (cf:=cO) (m:=M) (aY:=cN) rfl  c0 bD []   aV H)
theorem YB:Un cO M:=by
 intro x0 r H  h xs hx
 exact br (T:=bG) (deep:=bc) rfl rfl rfl be hx (ph (cf:=cO) (m:=M) (aY:=cN) rfl  x0 bD []   aV H)
theorem YC:Uo cO M:=by
 intro x0 r H  h xs hx
 exact br (T:=bG) (deep:=bc) rfl rfl rfl be hx (mV (cf:=cO) (m:=M) (aY:=cN) rfl  x0 bD []   aV H)
theorem TA:Lq cO M:=by
 intro ax a0 b0 a7 r H h L cX aE o rL gE fL EC Bf Bg ED xs hx
 have hn0:cX=ax.length:=dh (E:=af) o (q:=0) rfl
 subst hn0
 obtain⟨r',h',hb,rfl,ho⟩:=ow (cf:=cO) (m:=M) (aY:=cN) rfl  ax a0 b0 a7 h L aE rL gE fL  EC Bf Bg ED o H
 exact⟨h',gY (T:=bG) rfl rfl hx hb,ho⟩
theorem TB:Lr cO M:=by
 intro ax a0 b0 n0 a7 r H h L cX aE o fI bn ba ia iI iJ jh xs hx
 have hn0:cX=ax.length:=dh (E:=af) o (q:=0) rfl
 subst hn0
 obtain⟨r',h',hb,rfl,ho⟩:=r7 (cf:=cO) (m:=M) (aY:=cN) rfl  ax a0 b0 n0 a7 h L aE fI bn ba  ia iI iJ jh o H
 exact⟨h',gY (T:=bG) rfl rfl hx hb,ho⟩
theorem YD:QS cO M:=by
 intro s0 r H  h xs hx
 exact br (T:=bG) (deep:=bc) rfl rfl rfl be hx (mW (cf:=cO) (m:=M) (aY:=cN) rfl OU s0 bD []   aV H)
theorem YE:Up cO M:=by
 intro s0 r H h L  aq an ao o  xs hx
 obtain⟨r',h',hb,dw,eK,eL,aC,aD,rfl,ho⟩:=mw (cf:=cO) (m:=M) (aY:=cN) rfl OU Yl Tz s0 h L aq an ao  o H
 exact⟨dw,eK,eL,aC,aD,h',gY (T:=bG) rfl rfl hx hb,ho⟩
theorem YF:Uq cO M:=by
 intro s0 r H h L  aq an ao o  xs hx
 obtain⟨r',h',hb,aC,aD,rfl,ho⟩:=nK (cf:=cO) (m:=M) (aY:=cN) rfl OV Yr s0 h L aq an ao  o H
 exact⟨aC,aD,h',gY (T:=bG) rfl rfl hx hb,ho⟩
theorem YG:Ur cO M:=by
 intro s0 n0 r H h L  aq an ao o  xs hx
 obtain⟨r',h',hb,aC,aD,rfl,ho⟩:=nL (cf:=cO) (m:=M) (aY:=cN) rfl OV Ys s0 n0 h L aq an ao  o H
 exact⟨aC,aD,h',gY (T:=bG) rfl rfl hx hb,ho⟩
theorem YH:QV cO M:=by
 intro s0 n0 r H  h L xs o hx
 obtain⟨r',h',hb,dw,rfl,ho⟩:=my (cf:=cO) (m:=M) (aY:=cN) rfl Tz Pu s0 n0 bD []   aV H
 exact⟨oc h.next dw,_,lK (T:=bG) (deep:=bc) rfl rfl rfl be hx hb (xl (eA (rfl) (eA (rfl) (eA (rfl) (eA (tM) (mn)))))),Has.fe o ho (Cq (fun _=>rfl) (.nil)),ke _ _⟩
theorem TC:Pb cO M:=by
 intro s0 f0 r H fH aX ir iu h xs hx
 exact br (T:=bG) (deep:=bc) rfl rfl rfl be hx (r8 (cf:=cO) (m:=M) (aY:=cN) rfl Vp s0 f0 bD [] fH aX  ir iu aV H)
theorem YI:Us cO M:=by
 intro n0 x0 r H  h xs hx
 exact br (T:=bG) (deep:=bc) rfl rfl rfl be hx (lh (cf:=cO) (m:=M) (aY:=cN) rfl Vl n0 x0 bD []   aV H)
theorem YJ:QX cO M:=by
 intro s0 a0 b0 r H h L  aq an ao o  xs hx
 obtain⟨r',h',hb,aC,aD,rfl,ho⟩:=mX (cf:=cO) (m:=M) (aY:=cN) rfl Vm s0 a0 b0 h L aq an ao  o H
 exact⟨aC,aD,h',gY (T:=bG) rfl rfl hx hb,ho⟩
theorem YK:Ut cO M:=by
 intro s0 lj r H h L I6 aE o fH aX cr rY ir pY iu xs hx
 have hn0:I6=s0.length:=dh (E:=af) o (q:=0) rfl
 subst hn0
 obtain⟨r',h',hb,rfl,ho⟩:=uZ (cf:=cO) (m:=M) (aY:=cN) rfl Vp s0 lj h L aE fH aX cr  rY ir pY iu o H
 exact⟨h',gY (T:=bG) rfl rfl hx hb,ho⟩
theorem YL:Uu cO M:=by
 intro n0 x0 r H  h xs hx
 exact br (T:=bG) (deep:=bc) rfl rfl rfl be hx (lk (cf:=cO) (m:=M) (aY:=cN) rfl Vm n0 x0 bD []   aV H)
theorem YM:Uv cO M:=by
 intro x0 x1 r H  h xs hx
 exact br (T:=bG) (deep:=bc) rfl rfl rfl be hx (lL (cf:=cO) (m:=M) (aY:=cN) rfl Vn x0 x1 bD []   aV H)
theorem YN:Uw cO M:=by
 intro s0 f0 r H fH aX ir iu h xs hx
 exact br (T:=bG) (deep:=bc) rfl rfl rfl be hx (r9 (cf:=cO) (m:=M) (aY:=cN) rfl Yx s0 f0 bD [] fH aX  ir iu aV H)
theorem YO:Ux cO M:=by
 intro s0 ll oJ r H  h xs hx
 exact br (T:=bG) (deep:=bc) rfl rfl rfl be hx (tT (cf:=cO) (m:=M) (aY:=cN) rfl YA s0 ll oJ bD []   aV H)
theorem YP:Uy cO M:=by
 intro x0 y0 r H  h xs hx
 exact br (T:=bG) (deep:=bc) rfl rfl rfl be hx (nM (cf:=cO) (m:=M) (aY:=cN) rfl YB x0 y0 bD []   aV H)
theorem YQ:Uz cO M:=by
 intro x0 y0 r H  h xs hx
 exact br (T:=bG) (deep:=bc) rfl rfl rfl be hx (lM (cf:=cO) (m:=M) (aY:=cN) rfl YC x0 y0 bD []   aV H)
theorem TD:NX cO M:=by
 intro ax a0 m0 b0 a7 r H h L cX aE o fI bn ba ia iI iJ jh xs hx
 have hn0:cX=ax.length:=dh (E:=af) o (q:=0) rfl
 subst hn0
 obtain⟨r',h',hb,rfl,ho⟩:=xB (cf:=cO) (m:=M) (aY:=cN) rfl TB ax a0 m0 b0 a7 h L aE fI bn ba  ia iI iJ jh o H
 exact⟨h',gY (T:=bG) rfl rfl hx hb,ho⟩
theorem Pv:NY cO M:=by
 intro s0 l0 r H  h xs hx
 exact br (T:=bG) (deep:=bc) rfl rfl rfl be hx (mz (cf:=cO) (m:=M) (aY:=cN) rfl OU TC YI s0 l0 bD []   aV H)
theorem Vq:Ra cO M:=by
 intro s0 a0 b0 r H h L  aq an ao o  xs hx
 obtain⟨r',h',hb,dw,aC,aD,rfl,ho⟩:=lO (cf:=cO) (m:=M) (aY:=cN) rfl Pu Yt YJ s0 a0 b0 h L aq an ao  o H
 exact⟨dw,aC,aD,h',gY (T:=bG) rfl rfl hx hb,ho⟩
theorem Vr:Ri cO M:=by
 intro s0 aJ r H  h L xs o hx
 obtain⟨r',h',hb,dw,rfl,ho⟩:=mA (cf:=cO) (m:=M) (aY:=cN) rfl YK YL Yk s0 aJ bD []   aV H
 exact⟨oc h.next dw,_,lK (T:=bG) (deep:=bc) rfl rfl rfl be hx hb (tM),Has.fe o ho (Cq (fun _=>rfl) (.nil)),ke _ _⟩
theorem YR:UB cO M:=by
 intro s0 cR n0 r H h L  aq an ao o  xs hx
 obtain⟨r',h',hb,aC,aD,rfl,ho⟩:=mY (cf:=cO) (m:=M) (aY:=cN) rfl OV YM s0 cR n0 h L aq an ao  o H
 exact⟨aC,aD,h',gY (T:=bG) rfl rfl hx hb,ho⟩
theorem TE:Pc cO M:=by
 intro s0 r H  h xs hx
 exact br (T:=bG) (deep:=bc) rfl rfl rfl be hx (tX (cf:=cO) (m:=M) (aY:=cN) rfl YO s0 bD []   aV H)
theorem YS:UC cO M:=by
 intro x0 x1 x2 r H  h xs hx
 exact br (T:=bG) (deep:=bc) rfl rfl rfl be hx (lq (cf:=cO) (m:=M) (aY:=cN) rfl TE TC Yu x0 x1 x2 bD []   aV H)
theorem YT:UD cO M:=by
 intro n0 mM r H  h xs hx
 exact br (T:=bG) (deep:=bc) rfl rfl rfl be hx (tY (cf:=cO) (m:=M) (aY:=cN) rfl TE TC Vn Yy n0 mM bD []   aV H)
theorem TF:N0 cO M:=by
 intro a0 b0 r H  h xs hx
 exact br (T:=bG) (deep:=bc) rfl rfl rfl be hx (nN (cf:=cO) (m:=M) (aY:=cN) rfl YP Yz YQ a0 b0 bD []   aV H)
theorem YU:UE cO M:=by
 intro i0 j0 x0 r H  h xs hx
 exact br (T:=bG) (deep:=bc) rfl rfl rfl be hx (ox (cf:=cO) (m:=M) (aY:=cN) rfl TF i0 j0 x0 bD []   aV H)
theorem OW:∀kk,vb cO M kk
 | 0=>by
  intro ax a0 m0 b0 a7 r H h L cX aE o fI bn ba ia iI iJ jh xs hx
  cases H
 | kk+1=>by
  intro ax a0 m0 b0 a7 r H h L cX aE o fI bn ba ia iI iJ jh xs hx
  have hn0:cX=ax.length:=dh (E:=af) o (q:=0) rfl
  subst hn0
  obtain⟨r',h',hb,rfl,ho⟩:=uc (cf:=cO) (m:=M) (aY:=cN) rfl TD ax a0 m0 b0 a7 h L aE fI bn ba  (OW kk) ia iI iJ jh o H
  exact⟨h',gY (T:=bG) rfl rfl hx hb,ho⟩
theorem Vt:Ru cO M:=by
 intro s0 a0 b0 r H h L  aq an ao o  xs hx
 obtain⟨r',h',hb,dw,aC,aD,rfl,ho⟩:=mC (cf:=cO) (m:=M) (aY:=cN) rfl Pv Vq Vk Vr s0 a0 b0 h L aq an ao  o H
 exact⟨dw,aC,aD,h',gY (T:=bG) rfl rfl hx hb,ho⟩
theorem Vu:Ph cO M:=by
 intro s0 a0 b0 r H h L  aq an ao o  xs hx
 obtain⟨r',h',hb,Fc,aC,aD,rfl,ho⟩:=mZ (cf:=cO) (m:=M) (aY:=cN) rfl Pv Vq Vk Vr s0 a0 b0 h L aq an ao  o H
 exact⟨Fc,aC,aD,h',gY (T:=bG) rfl rfl hx hb,ho⟩
theorem YV:Rv cO M:=by
 intro s0 n0 r H  h xs hx
 exact br (T:=bG) (deep:=bc) rfl rfl rfl be hx (nO (cf:=cO) (m:=M) (aY:=cN) rfl Pv Pu s0 n0 bD []   aV H)
theorem YW:UF cO M:=by
 intro s0 cR dZ r H h L  aq an ao o  xs hx
 obtain⟨r',h',hb,aC,aD,rfl,ho⟩:=mD (cf:=cO) (m:=M) (aY:=cN) rfl Tz OV YS s0 cR dZ h L aq an ao  o H
 exact⟨aC,aD,h',gY (T:=bG) rfl rfl hx hb,ho⟩
theorem YX:UG cO M:=by
 intro x0 r H  h xs hx
 exact br (T:=bG) (deep:=bc) rfl rfl rfl be hx (lQ (cf:=cO) (m:=M) (aY:=cN) rfl TE x0 bD []   aV H)
theorem YY:UH cO M:=by
 intro n0 x0 r H  h xs hx
 exact br (T:=bG) (deep:=bc) rfl rfl rfl be hx (p8 (cf:=cO) (m:=M) (aY:=cN) rfl YT n0 x0 bD []   aV H)
theorem YZ:UI cO M:=by
 intro m0 n0 r H  h xs hx
 exact br (T:=bG) (deep:=bc) rfl rfl rfl be hx (p9 (cf:=cO) (m:=M) (aY:=cN) rfl TF Yw m0 n0 bD []   aV H)
theorem Y0:UJ cO M:=by
 intro ax n0 a7 r H h L cX aE o ju ca dI oy mT sa mU xs hx
 have hn0:cX=ax.length:=dh (E:=af) o (q:=0) rfl
 subst hn0
 obtain⟨r',h',hb,rfl,ho⟩:=xE (cf:=cO) (m:=M) (aY:=cN) rfl TA (OW _) ax n0 a7 h L aE ju ca dI  oy mT sa mU o H
 exact⟨h',gY (T:=bG) rfl rfl hx hb,ho⟩
theorem Y1:UK cO M:=by
 intro s0 r H  h xs hx
 exact br (T:=bG) (deep:=bc) rfl rfl rfl be hx (sb (cf:=cO) (m:=M) (aY:=cN) rfl YD YV s0 bD []   aV H)
theorem Y2:UL cO M:=by
 intro s0 a0 r H h L  aq an ao o  xs hx
 obtain⟨r',h',hb,aC,aD,rfl,ho⟩:=na (cf:=cO) (m:=M) (aY:=cN) rfl OV YX s0 a0 h L aq an ao  o H
 exact⟨aC,aD,h',gY (T:=bG) rfl rfl hx hb,ho⟩
theorem Vv:RA cO M:=by
 intro t0 r H  h xs hx
 exact br (T:=bG) (deep:=bc) rfl rfl rfl be hx (sc (cf:=cO) (m:=M) (aY:=cN) rfl YN YY t0 bD []   aV H)
theorem Y3:UM cO M:=by
 intro a0 b0 r H  h xs hx
 exact br (T:=bG) (deep:=bc) rfl rfl rfl be hx (sd (cf:=cO) (m:=M) (aY:=cN) rfl Yv YZ a0 b0 bD []   aV H)
theorem Y4:UN cO M:=by
 intro x0 a7 r H h L GR aE o fH aX cr rY ir pY iu xs hx
 have hn0:GR=x0.length:=dh (E:=af) o (q:=0) rfl
 subst hn0
 obtain⟨r',h',hb,rfl,ho⟩:=qa (cf:=cO) (m:=M) (aY:=cN) rfl Y0 x0 a7 h L aE fH aX cr  rY ir pY iu o H
 exact⟨h',gY (T:=bG) rfl rfl hx hb,ho⟩
theorem Y5:UO cO M:=by
 intro aQ r H  h xs hx
 exact br (T:=bG) (deep:=bc) rfl rfl rfl be hx (qe (cf:=cO) (m:=M) (aY:=cN) rfl TF Y4 YU aQ bD []   aV H)
theorem Vw:R8 cO M:=by
 intro t0 r H  h L xs o hx
 obtain⟨r',h',hb,dw,en,rfl,ho⟩:=se (cf:=cO) (m:=M) (aY:=cN) rfl Y5 (Vo _) t0 bD []   aV H
 exact⟨oc h.next dw,en.map (oc h.next),_,lK (T:=bG) (deep:=bc) rfl rfl rfl be hx hb (xl (eA (tM) (eA (rfl) (mn)))),Has.fe o ho (Gt (xm .nil)),ke _ _⟩
theorem Y6:Vb cO M:=by
 intro a0 b0 r H  h xs hx
 exact br (T:=bG) (deep:=bc) rfl rfl rfl be hx (uE (cf:=cO) (m:=M) (aY:=cN) rfl Vv Y3 Vw a0 b0 bD []   aV H)
theorem Vx:Sa cO M:=by
 intro t0 r H  h L xs o hx
 obtain⟨r',h',hb,dw,en,rfl,ho⟩:=sf (cf:=cO) (m:=M) (aY:=cN) rfl Vv Vw t0 bD []   aV H
 exact⟨oc h.next dw,en.map (oc h.next),_,lK (T:=bG) (deep:=bc) rfl rfl rfl be hx hb (Gr (eA (xl (eA (tM) (eA (rfl) (mn)))) (eA (rfl) (mn)))),Has.fe o ho (Gt (xm .nil)),ke _ _⟩
theorem Y7:UR cO M:=by
 intro s0 n0 r H  h L xs o hx
 obtain⟨r',h',hb,dw,en,rfl,ho⟩:=nb (cf:=cO) (m:=M) (aY:=cN) rfl Pv YH Yq Vx s0 n0 bD []   aV H
 exact⟨oc h.next dw,en.map (oc h.next),_,lK (T:=bG) (deep:=bc) rfl rfl rfl be hx hb (Gr (eA (xl (eA (tM) (eA (rfl) (mn)))) (eA (rfl) (mn)))),Has.fe o ho (Gt (xm .nil)),ke _ _⟩
theorem Y8:US cO M:=by
 intro s0 t0 r H h L  aq an ao o  xs hx
 obtain⟨r',h',hb,aC,aD,rfl,ho⟩:=nQ (cf:=cO) (m:=M) (aY:=cN) rfl OU Vx s0 t0 h L aq an ao  o H
 exact⟨aC,aD,h',gY (T:=bG) rfl rfl hx hb,ho⟩
theorem Vy:Oe cO M:=by
 intro s0 x0 r H h L  aq an ao o  xs hx
 obtain⟨r',h',hb,aC,aD,rfl,ho⟩:=vc (cf:=cO) (m:=M) (aY:=cN) rfl Vt Vu YF Y2 YG YW YR Y8 s0 x0 h L aq an ao  o H
 exact⟨aC,aD,h',gY (T:=bG) rfl rfl hx hb,ho⟩
theorem Y9:UT cO M:=by
 intro l0 r H h L   o  xs hx
 obtain⟨r',h',hb,dw,eK,eL,rfl,ho⟩:=sh (cf:=cO) (m:=M) (aY:=cN) rfl Vy Yp l0 h L  o H
 exact⟨dw,eK,eL,h',gY (T:=bG) rfl rfl hx hb,ho⟩
theorem j9:S9 cO M:=by
 intro l0 a0 b0 cH r H  h xs hx
 exact br (T:=bG) (deep:=bc) rfl rfl rfl be hx (ng (cf:=cO) (m:=M) (aY:=cN) rfl Yn Ym Y9 Yo Y1 Vt Vy YE Y7 Y6 Vu l0 a0 b0 cH bD []   aV H)
end Go.Proofs.Ytifafejidnjckaa
namespace Go.Proofs.Ytifafejidnjckaa
open Go Go.R Go.Proofs Go.RowKit Go.ChangeShapes Go.WideShapes
open Go.IntKind (i64 u64 u8 u32)
theorem all_true (w0:List AV)(h:pR Try.prog 7 Try.f9.params.toList w0):∃cf h',CallOK Try.prog cf∧cf 9 w0 bD=some (.bool true,h'):=by
 rw [show Try.f9.params.toList=[22,3,3,22] from by rw [Try.params9]] at h
 obtain⟨xs,ys,zs,ws,rfl,h1,h2,h3,h4⟩:=E1 h
 obtain⟨l,hl,fl⟩:=Ab (n:=0) h1
 obtain⟨a,fa⟩:=DT (n:=6) h2
 obtain⟨b,fb⟩:=DT (n:=6) h3
 obtain⟨k,hk,fk⟩:=Ab (n:=0) h4
 exact⟨cO,bD,Mj,j9 l a b k true (BI (by decide) l a b k hl hk) bD _ (fw (ah (fl bD) (ah (fa bD) (ah (fb bD) (ah (fk bD) (aw))))))⟩
theorem qi (os:Os)(started:os.Started)(H:Type)(enc:TypeId × Value→H) :
  ReturnsInHanded {} Try.checked os 9 .any (Rows.storeTestsSpec.pre6 enc Try.prog Try.f9 Rows.storeTestsRow.domain false) (Rows.storeTestsSpec.post enc Try.prog Try.f9 false true false false):=by
 refine returnsInHanded_of_change (C:=Try.checked) (by kernel_rfl) started (by kernel_rfl) Try.func9
  (ChangeSpec.witness6 (enc:=enc) (C:=Try.checked) false ⟨#[],#[.slice none 0 0,.int .i64 0,.int .i64 0,.slice none 0 0],[]⟩ 8 (by kernel_rfl) (by kernel_rfl) (by kernel_rfl) (by kernel_rfl)) ?_
 intro W base args ds gs before eO hW Za _
 exact uQ (cf:=fun _ _ _=>none) (P:=Try.prog) (m:=7) (tb:=4) (by kernel_rfl)
  (by rw [show Try.f9.params.toList=[22,3,3,22] from by rw [Try.params9]]; intro t ht; simp only [ZZ,List.not_mem_nil,or_false] at ht; rcases ht with rfl | rfl | rfl | rfl<;>exact⟨by kernel_rfl,of_decide_eq_true (by kernel_rfl)⟩)
  (by rw [show Try.f9.params.toList=[22,3,3,22] from by rw [Try.params9]]; intro t ht; simp only [ZZ,List.not_mem_nil,or_false] at ht; rcases ht with rfl | rfl | rfl | rfl<;>kernel_rfl) rfl rfl Try.underlying4
  (fun ds Ku=>by
   have:ds.length=4:=by rw [Ku]; rfl
   match ds,this with
   | [d0,d1,d2,d3],_=>rfl) all_true eO hW
theorem storeTests_holds:Rows.StoreTestsSaid:=
 OpenClaim.holds_of_wide 9 Try.f9 rfl rfl rfl rfl rfl rfl rfl ⟨rfl,rfl,rfl,rfl,rfl⟩ rfl rfl rfl rfl rfl (by kernel_rfl) Try.func9 (by kernel_rfl)
  (of_decide_eq_true (by kernel_rfl)) (by unfold Func.isWrapper; first | (rw [if_pos (by decide +kernel)]; kernel_rfl) | (rw [if_neg (by decide +kernel)]; exact⟨rfl,rfl⟩))
  (fun os started H enc _=>qi os started H enc)
end Go.Proofs.Ytifafejidnjckaa
