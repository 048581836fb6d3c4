/- Proved: StoreTrees returns true for every input; no condition. -/
import Derived.Test.YtifafejidnjckaaGreatK14
import Derived.Test.YtifafejidnjckaaGreatRows
set_option linter.unusedVariables false
set_option linter.unusedSimpArgs false
set_option maxRecDepth 100000
open List renaming mem_cons → aa6
namespace Go.Proofs.YtifafejidnjckaaGreat
open Go Go.R
open Go.IntKind (i64 u64 u8 u32)
theorem j8:S8 cp M:=by
 intro l0 r H  h xs hx
 exact ba (T:=bu) (deep:=aT) rfl rfl rfl aV hx (rR (cf:=cp) (m:=M) (aS:=ck) rfl  l0 bo []   aO H)
theorem ZK:We cp M:=by
 intro  r H h L   o  xs hx
 obtain⟨r',h',hb,dz,gX,gY,rfl,ho⟩:=vc (cf:=cp) (m:=M) (aS:=ck) rfl   h L  o H
 exact⟨dz,gX,gY,h',iq (T:=bu) rfl rfl hx hb,ho⟩
theorem ZL:Wf cp M:=by
 intro a0 b0 r H  h xs hx
 exact ba (T:=bu) (deep:=aT) rfl rfl rfl aV hx (te (cf:=cp) (m:=M) (aS:=ck) rfl  a0 b0 bo []   aO H)
theorem Vl:RK cp M:=by
 intro s0 r H  h xs hx
 exact ba (T:=bu) (deep:=aT) rfl rfl rfl aV hx (nD (cf:=cp) (m:=M) (aS:=ck) rfl  s0 bo []   aO H)
theorem Vm:RL cp M:=by
 intro s0 n0 r H  h xs hx
 exact ba (T:=bu) (deep:=aT) rfl rfl rfl aV hx (nE (cf:=cp) (m:=M) (aS:=ck) rfl  s0 n0 bo []   aO H)
theorem Xp:Tt cp M:=by
 intro s0 aK r H h L  ar an ao o  xs hx
 obtain⟨r',h',hb,aA,aB,rfl,ho⟩:=nF (cf:=cp) (m:=M) (aS:=ck) rfl  s0 aK h L ar an ao  o H
 exact⟨aA,aB,h',iq (T:=bu) rfl rfl hx hb,ho⟩
theorem Rt:OC cp M:=by
 intro s0 H4 n0 r H h L  ar an ao o fA aU b9 ve iF qM iG xs hx
 obtain⟨r',h',hb,aA,aB,rfl,ho⟩:=oB (cf:=cp) (m:=M) (aS:=ck) rfl Vl s0 H4 n0 h L ar an ao fA aU b9  ve iF qM iG o H
 exact⟨aA,aB,h',iq (T:=bu) rfl rfl hx hb,ho⟩
theorem ZM:Wg cp M:=by
 intro  r H  h xs hx
 exact ba (T:=bu) (deep:=aT) rfl rfl rfl aV hx (mY (cf:=cp) (m:=M) (aS:=ck) rfl   bo []   aO H)
theorem Vn:LV cp M:=by
 intro s0 n0 r H  h xs hx
 exact ba (T:=bu) (deep:=aT) rfl rfl rfl aV hx (oC (cf:=cp) (m:=M) (aS:=ck) rfl  s0 n0 bo []   aO H)
theorem ZN:Wh cp M:=by
 intro x0 r H  h xs hx
 exact ba (T:=bu) (deep:=aT) rfl rfl rfl aV hx (mZ (cf:=cp) (m:=M) (aS:=ck) rfl  x0 bo []   aO H)
theorem Xq:Tu cp M:=by
 intro s0 n0 r H  h xs hx
 exact ba (T:=bu) (deep:=aT) rfl rfl rfl aV hx (na (cf:=cp) (m:=M) (aS:=ck) rfl  s0 n0 bo []   aO H)
theorem Xr:Tv cp M:=by
 intro s0 r H  h xs hx
 exact ba (T:=bu) (deep:=aT) rfl rfl rfl aV hx (tg (cf:=cp) (m:=M) (aS:=ck) rfl  s0 bo []   aO H)
theorem ZO:Wi cp M:=by
 intro n0 x0 r H  h xs hx
 exact ba (T:=bu) (deep:=aT) rfl rfl rfl aV hx (lT (cf:=cp) (m:=M) (aS:=ck) rfl Xq n0 x0 bo []   aO H)
theorem Xs:∀kk,RM cp M kk
 | 0=>by
  intro i0 x0 x1 x2 x3 r H h L  dD dT dE di eP fm dJ dy o  xs hx
  cases H
 | kk+1=>by
  intro i0 x0 x1 x2 x3 r H h L  dD dT dE di eP fm dJ dy o  xs hx
  obtain⟨r',h',hb,nt,iX,rfl,ho⟩:=qN (cf:=cp) (m:=M) (aS:=ck) rfl  i0 x0 x1 x2 x3 h L dD dT dE di eP fm dJ dy  (Xs kk) o H
  exact⟨nt,iX,h',iq (T:=bu) rfl rfl hx hb,ho⟩
theorem Xt:TB cp M:=by
 intro s0 f0 r H fA aU iF iG h xs hx
 exact ba (T:=bu) (deep:=aT) rfl rfl rfl aV hx (yR (cf:=cp) (m:=M) (aS:=ck) rfl  s0 f0 bo [] fA aU  iF iG aO H)
theorem Vo:P4 cp M:=by
 intro s0 s1 eq0 r H jK bW nG nH h xs hx
 exact ba (T:=bu) (deep:=aT) rfl rfl rfl aV hx (jL (cf:=cp) (m:=M) (aS:=ck) rfl  s0 s1 eq0 bo [] jK bW  nG nH aO H)
theorem Vp:P5 cp M:=by
 intro s0 s1 r H  h xs hx
 exact ba (T:=bu) (deep:=aT) rfl rfl rfl aV hx (pQ (cf:=cp) (m:=M) (aS:=ck) rfl  s0 s1 bo []   aO H)
theorem Vq:Nn cp M:=by
 intro a0 b0 r H  h xs hx
 exact ba (T:=bu) (deep:=aT) rfl rfl rfl aV hx (qO (cf:=cp) (m:=M) (aS:=ck) rfl  a0 b0 bo []   aO H)
theorem Vr:No cp M:=by
 intro s0 a0 b0 r H h L  ar an ao o  xs hx
 obtain⟨r',h',hb,aA,aB,rfl,ho⟩:=nI (cf:=cp) (m:=M) (aS:=ck) rfl Vm s0 a0 b0 h L ar an ao  o H
 exact⟨aA,aB,h',iq (T:=bu) rfl rfl hx hb,ho⟩
theorem Vt:P6 cp M:=by
 intro n0 x0 r H  h xs hx
 exact ba (T:=bu) (deep:=aT) rfl rfl rfl aV hx (lU (cf:=cp) (m:=M) (aS:=ck) rfl Vm n0 x0 bo []   aO H)
theorem Vu:P7 cp M:=by
 intro s0 f0 r H fA aU iF iG h xs hx
 exact ba (T:=bu) (deep:=aT) rfl rfl rfl aV hx (yV (cf:=cp) (m:=M) (aS:=ck) rfl  s0 f0 bo [] fA aU  iF iG aO H)
theorem Vv:P8 cp M:=by
 intro a0 x0 r H  h xs hx
 exact ba (T:=bu) (deep:=aT) rfl rfl rfl aV hx (rU (cf:=cp) (m:=M) (aS:=ck) rfl  a0 x0 bo []   aO H)
theorem Vw:P9 cp M:=by
 intro gZ r H  h xs hx
 exact ba (T:=bu) (deep:=aT) rfl rfl rfl aV hx (th (cf:=cp) (m:=M) (aS:=ck) rfl  gZ bo []   aO H)
theorem Vx:Np cp M:=by
 intro c0 r H  h xs hx
 exact ba (T:=bu) (deep:=aT) rfl rfl rfl aV hx (rV (cf:=cp) (m:=M) (aS:=ck) rfl  c0 bo []   aO H)
theorem Vy:Nq cp M:=by
 intro c0 r H  h xs hx
 exact ba (T:=bu) (deep:=aT) rfl rfl rfl aV hx (qP (cf:=cp) (m:=M) (aS:=ck) rfl  c0 bo []   aO H)
theorem Vz:Qa cp M:=by
 intro x0 r H  h xs hx
 exact ba (T:=bu) (deep:=aT) rfl rfl rfl aV hx (pR (cf:=cp) (m:=M) (aS:=ck) rfl  x0 bo []   aO H)
theorem VA:Qb cp M:=by
 intro x0 r H  h xs hx
 exact ba (T:=bu) (deep:=aT) rfl rfl rfl aV hx (nJ (cf:=cp) (m:=M) (aS:=ck) rfl  x0 bo []   aO H)
theorem VB:Nr cp M:=by
 intro au a0 b0 aX r H h L cF aM o sM gF fG FW CJ CK FX xs hx
 have hn0:cF=au.length:=cO (E:=af) o (q:=0) rfl
 subst hn0
 obtain⟨r',h',hb,rfl,ho⟩:=pf (cf:=cp) (m:=M) (aS:=ck) rfl  au a0 b0 aX h L aM sM gF fG  FW CJ CK FX o H
 exact⟨h',iq (T:=bu) rfl rfl hx hb,ho⟩
theorem VC:Ns cp M:=by
 intro au a0 b0 n0 aX r H h L cF aM o fC bf aY jw iS iT jx xs hx
 have hn0:cF=au.length:=cO (E:=af) o (q:=0) rfl
 subst hn0
 obtain⟨r',h',hb,rfl,ho⟩:=ti (cf:=cp) (m:=M) (aS:=ck) rfl  au a0 b0 n0 aX h L aM fC bf aY  jw iS iT jx o H
 exact⟨h',iq (T:=bu) rfl rfl hx hb,ho⟩
theorem ZP:TF cp M:=by
 intro a0 b0 r H  h xs hx
 exact ba (T:=bu) (deep:=aT) rfl rfl rfl aV hx (rX (cf:=cp) (m:=M) (aS:=ck) rfl ZL a0 b0 bo []   aO H)
theorem ZQ:Wj cp M:=by
 intro s0 r H h L  ar an ao o  xs hx
 obtain⟨r',h',hb,aA,aB,rfl,ho⟩:=oD (cf:=cp) (m:=M) (aS:=ck) rfl Rt ZM s0 h L ar an ao  o H
 exact⟨aA,aB,h',iq (T:=bu) rfl rfl hx hb,ho⟩
theorem ZR:Wk cp M:=by
 intro s0 n0 r H h L  ar an ao o  xs hx
 obtain⟨r',h',hb,aA,aB,rfl,ho⟩:=oE (cf:=cp) (m:=M) (aS:=ck) rfl Rt ZN s0 n0 h L ar an ao  o H
 exact⟨aA,aB,h',iq (T:=bu) rfl rfl hx hb,ho⟩
theorem Xu:TJ cp M:=by
 intro s0 n0 r H  h L xs o hx
 obtain⟨r',h',hb,dz,rfl,ho⟩:=nb (cf:=cp) (m:=M) (aS:=ck) rfl Vn s0 n0 bo []   aO H
 exact⟨oW h.next dz,_,mo (T:=bu) (deep:=aT) rfl rfl rfl aV hx hb (u9),Has.eV o ho (DZ (fun _=>rfl) (.nil)),kH _ _⟩
theorem ZS:TK cp M:=by
 intro s0 n0 r H  h L xs o hx
 obtain⟨r',h',hb,dz,rfl,ho⟩:=nc (cf:=cp) (m:=M) (aS:=ck) rfl Xo Vn s0 n0 bo []   aO H
 exact⟨oW h.next dz,_,mo (T:=bu) (deep:=aT) rfl rfl rfl aV hx hb (yL (dR (rfl) (dR (rfl) (dR (rfl) (dR (u9) (mX)))))),Has.eV o ho (DZ (fun _=>rfl) (.nil)),kH _ _⟩
theorem Xv:TL cp M:=by
 intro s0 lW r H h L KJ aM o fA aU b9 ve iF qM iG xs hx
 have hn0:KJ=s0.length:=cO (E:=af) o (q:=0) rfl
 subst hn0
 obtain⟨r',h',hb,rfl,ho⟩:=wM (cf:=cp) (m:=M) (aS:=ck) rfl Xt s0 lW h L aM fA aU b9  ve iF qM iG o H
 exact⟨h',iq (T:=bu) rfl rfl hx hb,ho⟩
theorem ZT:Wl cp M:=by
 intro r0 x0 r H  h xs hx
 exact ba (T:=bu) (deep:=aT) rfl rfl rfl aV hx (mu (cf:=cp) (m:=M) (aS:=ck) rfl Vm r0 x0 bo []   aO H)
theorem Xw:TP cp M:=by
 intro s0 a0 b0 r H h L  ar an ao o  xs hx
 obtain⟨r',h',hb,dz,aA,aB,rfl,ho⟩:=mw (cf:=cp) (m:=M) (aS:=ck) rfl Vn Vq Vr s0 a0 b0 h L ar an ao  o H
 exact⟨dz,aA,aB,h',iq (T:=bu) rfl rfl hx hb,ho⟩
theorem Xx:TU cp M:=by
 intro s0 aK r H  h L xs o hx
 obtain⟨r',h',hb,dz,rfl,ho⟩:=ng (cf:=cp) (m:=M) (aS:=ck) rfl Xv Xn Vt s0 aK bo []   aO H
 exact⟨oW h.next dz,_,mo (T:=bu) (deep:=aT) rfl rfl rfl aV hx hb (u9),Has.eV o ho (DZ (fun _=>rfl) (.nil)),kH _ _⟩
theorem ZU:Wn cp M:=by
 intro s0 f0 r H fA aU iF iG h xs hx
 exact ba (T:=bu) (deep:=aT) rfl rfl rfl aV hx (tl (cf:=cp) (m:=M) (aS:=ck) rfl Vu s0 f0 bo [] fA aU  iF iG aO H)
theorem VD:RN cp M:=by
 intro s0 f0 r H fA aU iF iG h xs hx
 exact ba (T:=bu) (deep:=aT) rfl rfl rfl aV hx (tm (cf:=cp) (m:=M) (aS:=ck) rfl Xt s0 f0 bo [] fA aU  iF iG aO H)
theorem ZV:Wo cp M:=by
 intro a0 x0 r H  h xs hx
 exact ba (T:=bu) (deep:=aT) rfl rfl rfl aV hx (lg (cf:=cp) (m:=M) (aS:=ck) rfl Xq a0 x0 bo []   aO H)
theorem ZW:Wp cp M:=by
 intro x0 x1 r H  h xs hx
 exact ba (T:=bu) (deep:=aT) rfl rfl rfl aV hx (my (cf:=cp) (m:=M) (aS:=ck) rfl Xr x0 x1 bo []   aO H)
theorem VE:Qh cp M:=by
 intro s0 lX px r H  h xs hx
 exact ba (T:=bu) (deep:=aT) rfl rfl rfl aV hx (vu (cf:=cp) (m:=M) (aS:=ck) rfl Vx s0 lX px bo []   aO H)
theorem VF:Qi cp M:=by
 intro s0 r H  h xs hx
 exact ba (T:=bu) (deep:=aT) rfl rfl rfl aV hx (tq (cf:=cp) (m:=M) (aS:=ck) rfl Vy s0 bo []   aO H)
theorem VG:Qj cp M:=by
 intro x0 y0 r H  h xs hx
 exact ba (T:=bu) (deep:=aT) rfl rfl rfl aV hx (oG (cf:=cp) (m:=M) (aS:=ck) rfl Vz x0 y0 bo []   aO H)
theorem VH:Qk cp M:=by
 intro x0 y0 r H  h xs hx
 exact ba (T:=bu) (deep:=aT) rfl rfl rfl aV hx (mz (cf:=cp) (m:=M) (aS:=ck) rfl VA x0 y0 bo []   aO H)
theorem VI:Ql cp M:=by
 intro au a0 m0 b0 aX r H h L cF aM o fC bf aY jw iS iT jx xs hx
 have hn0:cF=au.length:=cO (E:=af) o (q:=0) rfl
 subst hn0
 obtain⟨r',h',hb,rfl,ho⟩:=y8 (cf:=cp) (m:=M) (aS:=ck) rfl VC au a0 m0 b0 aX h L aM fC bf aY  jw iS iT jx o H
 exact⟨h',iq (T:=bu) rfl rfl hx hb,ho⟩
theorem ZX:Wq cp M:=by
 intro s0 cD n0 r H h L  ar an ao o  xs hx
 obtain⟨r',h',hb,aA,aB,rfl,ho⟩:=nK (cf:=cp) (m:=M) (aS:=ck) rfl Rt ZW s0 cD n0 h L ar an ao  o H
 exact⟨aA,aB,h',iq (T:=bu) rfl rfl hx hb,ho⟩
theorem R6:Qm cp M:=by
 intro s0 l0 r H  h xs hx
 exact ba (T:=bu) (deep:=aT) rfl rfl rfl aV hx (nh (cf:=cp) (m:=M) (aS:=ck) rfl Vl VD ZO s0 l0 bo []   aO H)
theorem VJ:RP cp M:=by
 intro s0 r H  h xs hx
 exact ba (T:=bu) (deep:=aT) rfl rfl rfl aV hx (vC (cf:=cp) (m:=M) (aS:=ck) rfl VE s0 bo []   aO H)
theorem ZY:Wr cp M:=by
 intro n0 nu r H  h xs hx
 exact ba (T:=bu) (deep:=aT) rfl rfl rfl aV hx (vD (cf:=cp) (m:=M) (aS:=ck) rfl VJ VD Xr Vv n0 nu bo []   aO H)
theorem ZZ:Ws cp M:=by
 intro s0 r H  h xs hx
 exact ba (T:=bu) (deep:=aT) rfl rfl rfl aV hx (qR (cf:=cp) (m:=M) (aS:=ck) rfl VF s0 bo []   aO H)
theorem Z0:Wt cp M:=by
 intro x0 x1 x2 r H  h xs hx
 exact ba (T:=bu) (deep:=aT) rfl rfl rfl aV hx (lY (cf:=cp) (m:=M) (aS:=ck) rfl VJ VD ZV x0 x1 x2 bo []   aO H)
theorem Oi:Iv cp M:=by
 intro a0 b0 r H  h xs hx
 exact ba (T:=bu) (deep:=aT) rfl rfl rfl aV hx (oH (cf:=cp) (m:=M) (aS:=ck) rfl VG Vw VH a0 b0 bo []   aO H)
theorem VK:Qp cp M:=by
 intro i0 j0 x0 r H  h xs hx
 exact ba (T:=bu) (deep:=aT) rfl rfl rfl aV hx (pg (cf:=cp) (m:=M) (aS:=ck) rfl Oi i0 j0 x0 bo []   aO H)
theorem Ru:∀kk,wN cp M kk
 | 0=>by
  intro au a0 m0 b0 aX r H h L cF aM o fC bf aY jw iS iT jx xs hx
  cases H
 | kk+1=>by
  intro au a0 m0 b0 aX r H h L cF aM o fC bf aY jw iS iT jx xs hx
  have hn0:cF=au.length:=cO (E:=af) o (q:=0) rfl
  subst hn0
  obtain⟨r',h',hb,rfl,ho⟩:=vG (cf:=cp) (m:=M) (aS:=ck) rfl VI au a0 m0 b0 aX h L aM fC bf aY  (Ru kk) jw iS iT jx o H
  exact⟨h',iq (T:=bu) rfl rfl hx hb,ho⟩
theorem Z1:Wu cp M:=by
 intro s0 n0 r H  h xs hx
 exact ba (T:=bu) (deep:=aT) rfl rfl rfl aV hx (nL (cf:=cp) (m:=M) (aS:=ck) rfl R6 Xu Xv ZT Xn s0 n0 bo []   aO H)
theorem Xy:T4 cp M:=by
 intro s0 a0 b0 r H h L  ar an ao o  xs hx
 obtain⟨r',h',hb,dz,aA,aB,rfl,ho⟩:=nj (cf:=cp) (m:=M) (aS:=ck) rfl R6 Xw Xp Xx s0 a0 b0 h L ar an ao  o H
 exact⟨dz,aA,aB,h',iq (T:=bu) rfl rfl hx hb,ho⟩
theorem Z2:Wv cp M:=by
 intro s0 a0 b0 r H h L  ar an ao o  xs hx
 obtain⟨r',h',hb,GJ,aA,aB,rfl,ho⟩:=nM (cf:=cp) (m:=M) (aS:=ck) rfl R6 Xw Xp Xx s0 a0 b0 h L ar an ao  o H
 exact⟨GJ,aA,aB,h',iq (T:=bu) rfl rfl hx hb,ho⟩
theorem Z4:T5 cp M:=by
 intro n0 aL r H  h xs hx
 exact ba (T:=bu) (deep:=aT) rfl rfl rfl aV hx (rZ (cf:=cp) (m:=M) (aS:=ck) rfl ZZ n0 aL bo []   aO H)
theorem Z5:Ww cp M:=by
 intro s0 cD dI r H h L  ar an ao o  xs hx
 obtain⟨r',h',hb,aA,aB,rfl,ho⟩:=nk (cf:=cp) (m:=M) (aS:=ck) rfl Xo Rt Z0 s0 cD dI h L ar an ao  o H
 exact⟨aA,aB,h',iq (T:=bu) rfl rfl hx hb,ho⟩
theorem Z6:Wx cp M:=by
 intro x0 r H  h xs hx
 exact ba (T:=bu) (deep:=aT) rfl rfl rfl aV hx (mB (cf:=cp) (m:=M) (aS:=ck) rfl VJ x0 bo []   aO H)
theorem Z7:Wy cp M:=by
 intro n0 x0 r H  h xs hx
 exact ba (T:=bu) (deep:=aT) rfl rfl rfl aV hx (qU (cf:=cp) (m:=M) (aS:=ck) rfl ZY n0 x0 bo []   aO H)
theorem VL:Qy cp M:=by
 intro m0 n0 r H  h xs hx
 exact ba (T:=bu) (deep:=aT) rfl rfl rfl aV hx (qV (cf:=cp) (m:=M) (aS:=ck) rfl Oi Vp m0 n0 bo []   aO H)
theorem VM:QB cp M:=by
 intro au n0 aX r H h L cF aM o jK bW dp tu nG tv nH xs hx
 have hn0:cF=au.length:=cO (E:=af) o (q:=0) rfl
 subst hn0
 obtain⟨r',h',hb,rfl,ho⟩:=zc (cf:=cp) (m:=M) (aS:=ck) rfl VB (Ru _) au n0 aX h L aM jK bW dp  tu nG tv nH o H
 exact⟨h',iq (T:=bu) rfl rfl hx hb,ho⟩
theorem Z8:Wz cp M:=by
 intro t0 r H  h xs hx
 exact ba (T:=bu) (deep:=aT) rfl rfl rfl aV hx (r6 (cf:=cp) (m:=M) (aS:=ck) rfl Z4 t0 bo []   aO H)
theorem Z9:WA cp M:=by
 intro s0 a0 r H h L  ar an ao o  xs hx
 obtain⟨r',h',hb,aA,aB,rfl,ho⟩:=nN (cf:=cp) (m:=M) (aS:=ck) rfl Rt Z6 s0 a0 h L ar an ao  o H
 exact⟨aA,aB,h',iq (T:=bu) rfl rfl hx hb,ho⟩
theorem Xz:Ua cp M:=by
 intro t0 r H  h xs hx
 exact ba (T:=bu) (deep:=aT) rfl rfl rfl aV hx (tw (cf:=cp) (m:=M) (aS:=ck) rfl ZU Z7 t0 bo []   aO H)
theorem j67:WB cp M:=by
 intro a0 b0 r H  h xs hx
 exact ba (T:=bu) (deep:=aT) rfl rfl rfl aV hx (tz (cf:=cp) (m:=M) (aS:=ck) rfl Vo VL a0 b0 bo []   aO H)
theorem VN:QE cp M:=by
 intro x0 aX r H h L Iz aM o fA aU b9 ve iF qM iG xs hx
 have hn0:Iz=x0.length:=cO (E:=af) o (q:=0) rfl
 subst hn0
 obtain⟨r',h',hb,rfl,ho⟩:=qW (cf:=cp) (m:=M) (aS:=ck) rfl VM x0 aX h L aM fA aU b9  ve iF qM iG o H
 exact⟨h',iq (T:=bu) rfl rfl hx hb,ho⟩
theorem j96:WC cp M:=by
 intro aL r H  h xs hx
 exact ba (T:=bu) (deep:=aT) rfl rfl rfl aV hx (qY (cf:=cp) (m:=M) (aS:=ck) rfl Oi VN VK aL bo []   aO H)
theorem XA:Uw cp M:=by
 intro t0 r H  h L xs o hx
 obtain⟨r',h',hb,dz,dO,rfl,ho⟩:=tC (cf:=cp) (m:=M) (aS:=ck) rfl j96 (Xs _) t0 bo []   aO H
 exact⟨oW h.next dz,dO.map (oW h.next),_,mo (T:=bu) (deep:=aT) rfl rfl rfl aV hx hb (yL (dR (u9) (dR (rfl) (mX)))),Has.eV o ho (HW (yM .nil)),kH _ _⟩
theorem VO:RW cp M:=by
 intro t0 r H  h L xs o hx
 obtain⟨r',h',hb,dz,dO,rfl,ho⟩:=tD (cf:=cp) (m:=M) (aS:=ck) rfl Xz XA t0 bo []   aO H
 exact⟨oW h.next dz,dO.map (oW h.next),_,mo (T:=bu) (deep:=aT) rfl rfl rfl aV hx hb (HU (dR (yL (dR (u9) (dR (rfl) (mX)))) (dR (rfl) (mX)))),Has.eV o ho (HW (yM .nil)),kH _ _⟩
theorem j28:WE cp M:=by
 intro a0 b0 r H  h xs hx
 exact ba (T:=bu) (deep:=aT) rfl rfl rfl aV hx (vH (cf:=cp) (m:=M) (aS:=ck) rfl Xz XA j67 a0 b0 bo []   aO H)
theorem XB:Uz cp M:=by
 intro s0 t0 r H h L  ar an ao o  xs hx
 obtain⟨r',h',hb,aA,aB,rfl,ho⟩:=oJ (cf:=cp) (m:=M) (aS:=ck) rfl VO Vl s0 t0 h L ar an ao  o H
 exact⟨aA,aB,h',iq (T:=bu) rfl rfl hx hb,ho⟩
theorem j24:WG cp M:=by
 intro s0 n0 r H  h L xs o hx
 obtain⟨r',h',hb,dz,dO,rfl,ho⟩:=nP (cf:=cp) (m:=M) (aS:=ck) rfl VO R6 Xu ZS s0 n0 bo []   aO H
 exact⟨oW h.next dz,dO.map (oW h.next),_,mo (T:=bu) (deep:=aT) rfl rfl rfl aV hx hb (HU (dR (yL (dR (u9) (dR (rfl) (mX)))) (dR (rfl) (mX)))),Has.eV o ho (HW (yM .nil)),kH _ _⟩
theorem j58:UF cp M:=by
 intro s0 x0 r H h L  ar an ao o  xs hx
 obtain⟨r',h',hb,aA,aB,rfl,ho⟩:=wO (cf:=cp) (m:=M) (aS:=ck) rfl XB Xy ZQ Z9 Z2 ZR Z5 ZX s0 x0 h L ar an ao  o H
 exact⟨aA,aB,h',iq (T:=bu) rfl rfl hx hb,ho⟩
theorem j21:WH cp M:=by
 intro l0 r H h L   o  xs hx
 obtain⟨r',h',hb,dz,gX,gY,rfl,ho⟩:=tE (cf:=cp) (m:=M) (aS:=ck) rfl ZK j58 l0 h L  o H
 exact⟨dz,gX,gY,h',iq (T:=bu) rfl rfl hx hb,ho⟩
theorem j7:S7 cp M:=by
 intro l0 a0 b0 r H  h xs hx
 exact ba (T:=bu) (deep:=aT) rfl rfl rfl aV hx (nQ (cf:=cp) (m:=M) (aS:=ck) rfl j8 j9 j21 XB Z8 j24 VO ZP Z1 j28 Xy l0 a0 b0 bo []   aO H)
end Go.Proofs.YtifafejidnjckaaGreat
namespace Go.Proofs.YtifafejidnjckaaGreat
open Go Go.R Go.Proofs Go.RowKit Go.ChangeShapes Go.WideShapes
open Go.IntKind (i64 u64 u8 u32)
theorem all_true (yv:List AV)(h:qD Tryz.prog 7 Tryz.f7.params.toList yv):∃cf h',CallOK Tryz.prog cf∧cf 7 yv bo=some (.bool true,h'):=by
 rw [show Tryz.f7.params.toList=[29,25,25] from by rw [Tryz.params7]] at h
 obtain⟨xs,ys,zs,rfl,h1,h2,h3⟩:=Gs h
 obtain⟨l,hl,fl⟩:=Jz (n:=0) h1
 obtain⟨a,ha,fa⟩:=BD (n:=2) h2
 obtain⟨b,hb,fb⟩:=BD (n:=2) h3
 exact⟨cp,bo,Oh,j7 l a b true (Dl (by decide) l a b hl ha hb) bo _ (lZ (ak (fl bo) (ak (fa bo) (ak (fb bo) (aG)))))⟩
theorem ri (os:Os)(started:os.Started)(H:Type)(enc:TypeId × Value→H) :
  ReturnsInHanded {} Tryz.checked os 7 .any (Rows.storeTreesSpec.pre6 enc Tryz.prog Tryz.f7 Rows.storeTreesRow.domain false) (Rows.storeTreesSpec.post enc Tryz.prog Tryz.f7 false true false false):=by
 refine returnsInHanded_of_change (C:=Tryz.checked) kr started kr Tryz.func7
  (ChangeSpec.witness6 (enc:=enc) (C:=Tryz.checked) false ⟨#[],#[.slice none 0 0,.agg #[.slice none 0 0,.int .i64 0],.agg #[.slice none 0 0,.int .i64 0]],[]⟩ 8 kr kr kr kr) ?_
 intro W base args ds gs before eh hW aag _
 exact wF (cf:=fun _ _ _=>none) (P:=Tryz.prog) (m:=7) (tb:=4) kr
  (by rw [show Tryz.f7.params.toList=[29,25,25] from by rw [Tryz.params7]]; intro t ht; simp only [aa6,List.not_mem_nil,or_false] at ht; rcases ht with rfl | rfl | rfl<;>exact⟨by kernel_rfl,of_decide_eq_true kr⟩)
  (by rw [show Tryz.f7.params.toList=[29,25,25] from by rw [Tryz.params7]]; intro t ht; simp only [aa6,List.not_mem_nil,or_false] at ht; rcases ht with rfl | rfl | rfl<;>kernel_rfl) rfl rfl Tryz.underlying4
  (fun ds Mt=>by
   have:ds.length=3:=by rw [Mt]; rfl
   match ds,this with
   | [d0,d1,d2],_=>rfl) all_true eh hW
theorem storeTrees_holds:Rows.StoreTreesSaid:=
 OpenClaim.holds_of_wide 7 Tryz.f7 rfl rfl rfl rfl rfl rfl rfl ⟨rfl,rfl,rfl,rfl,rfl⟩ rfl rfl rfl rfl rfl kr Tryz.func7 kr
  (of_decide_eq_true kr) (by unfold Func.isWrapper; first | (rw [if_pos (by decide +kernel)]; kernel_rfl) | (rw [if_neg (by decide +kernel)]; exact⟨rfl,rfl⟩))
  (fun os started H enc _=>ri os started H enc)
end Go.Proofs.YtifafejidnjckaaGreat
