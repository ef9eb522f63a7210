/- Lemmas, plain functions of the program, and what they answer. No condition. -/
import Derived.Test.YthgbjflfgmahbaeGreatMD
namespace Go.Proofs.YthgbjflfgmahbaeGreat
set_option linter.unusedVariables false
set_option autoImplicit true
set_option relaxedAutoImplicit true
set_option linter.unusedSimpArgs false
open Go Go.VL
def UB (e4:aqc)(eY:Int):dW (Int×aqk) ((aqk)⊕(Unit)):=⟨fun (dV,ad)=>dj [(fM 4 ad),(10,.isl 3 (e4.map aE)),(aZ 11 eY),(aZ 12 dV)] [(au 1 (dk 3 bU) ad)],fun | .inl a=>⟨some 0,[(fM 4 a)],[(au 1 (dk 3 bU) a)]⟩ | .inr a=>⟨none,[(2,.fg),(3,.b false)],[]⟩⟩
def CU (e4:aqc)(eY dV:Int)(ad:aqk):Option ((Int×aqk)⊕((aqk)⊕(Unit))) :=if (decide (dV<eY))=true then if 0<=dV/\dV<e4.length then e4[dV.toNat]? >>= fun an =>wD an >>= fun aW =>if 0<=dV/\dV<(ad.length:Nat) then if (0+dV.toNat)<ad.length then (ad.set (0+dV.toNat) aW)[(0+dV.toNat)]? >>= fun ek =>ek.elim (some (.inr (.inr ()))) fun qk =>some (.inl (R (dV+1),ad.set (0+dV.toNat) aW)) else none else none else none else some (.inr (.inl ad))
def Va (e4:aqc)(eY dV:Int)(ad:aqk):Option ((aqk)⊕(Unit)):=iter (fun w:Int×aqk=>CU e4 eY w.1 w.2) (dV,ad)
theorem Sq:bl (CU e4 eY dV ad) (dZ bk 29 0 161 [1,1,0,1,0,0] (UB e4 eY) (dV,ad)):=.ite (fun h1=>.aL fun h2=>.ae fun an ak=>.ae fun aW aN=>.aL fun a7=>.aL fun bb=>.ae fun ek cu=>(let t1:aqe:=[(I 1),.ab true,.ai (bH 2 (.cf (aE an)) 3),.ai (ag 3 (af (hs 1 (hl 3 bU aW) false) (ag 1 (af .eb []))))];have aK:=((.aY h1 h2.1 (c3 aE h2.2) (bO aE ak) (afP aW aN) a7.1 a7.2 (hD (dk 3 bU) bb) (.cM (ht 1) a7.1 a7.2 (oJ (hN (dk 3 bU) ad dV aW) cu))):cn _);.lD (fun dm=>.ret (a6 (t1.aJ [.ai (ag 3 (af (.cf ((dk 3 bU) ek)) (af (.fm 25 (.f8 3 none) .eb) []))),.ab true,(I 2),.aT [] [] (bj [2,3])]) (aK.aB (.e2 (uT (sz:=3) (f:=bU) dm) cc)))) (fun qk dm=>.ret (a6 (t1.aJ [.ai (ag 3 (af (.cf ((dk 3 bU) ek)) (af (.fm 25 (.f8 3 (some (bU qk))) .eb) []))),.ab false,(I 2),.aT [0] [.cE (au 1 (dk 3 bU) (ad.set (0+dV.toNat) aW))] [(fr 4 (ad.set (0+dV.toNat) aW)),(10,ii),(11,ii),(12,ii)]]) (aK.aB (.db (l0 dm) ga (cT 1 (hN (dk 3 bU) ad dV aW)) (aq 1 (m6 (sz:=3) lI) (ad.set (0+dV.toNat) aW)) (ho ad dV aW))))))) (fun h1=>.ret (a6 (mq 1 0 4) (.e2 h1 (aq 1 (m6 (sz:=3) lI) ad))))
def DD (fi:aqc):Option (aqk×Bool) :=if 0<=(len_ aE fi)/\(8:Int)*(len_ aE fi)<=281474976710656/\(len_ aE fi)<9223372036854775808 then Va fi (len_ aE fi) 0 (List.replicate (len_ aE fi).toNat (none:aqd):aqk) >>= fun r2 =>match r2 with | .inl er=>(some (er,true)) | .inr er=>(some (([]:aqk),false)) else none
theorem afp:bl (DD fi) (fun r=>Con bk 161 [.isl 3 (fi.map aE)] [] (.dd [.isl 1 (r.1.map (dk 3 bU)),.b r.2]) []):=by
 unfold DD
 exact .aL fun h1 =>
  .ae fun r2 J =>
  (let q1:=(List.replicate (len_ aE fi).toNat (none:aqd):aqk);let t1:aqe:=[(I 2),.ai (bH 2 (.cf [(hl 3 bU (none:aqd))]) 1),(I 3),.aT [4] [.cE (au 1 (dk 3 bU) q1)] [(fr 4 q1),(10,ii),(11,ii),(12,ii)]];
  have aK:=((.eU h1.1 (Int.le_refl (len_ aE fi)) h1.2.1 h1.2.2 (cT 1 (lU (dk 3 bU) (len_ aE fi).toNat (none:aqd))) (aq 1 (m6 (sz:=3) lI) q1) (l7 (len_ aE fi).toNat ((none:aqd):aqd))):cn _);
  (by
  rcases r2 with er|er
  ·exact(.ret (bd (t1.aJ [((UB fi (len_ aE fi)).t (.inl er)),(I 3)]) (aK.aB (.cM (cK J Sq) (f5 (dk 3 bU) er) (fo (dk 3 bU) er) (df (m6 (sz:=3) lI) er))) (.comp [.bV (.ep (er.map (dk 3 bU))),.bV .id])))
  exact(.ret (bd (t1.aJ [.sub (.ret) [(2,.fg),(3,.b false)] []]) (aK.aB (.e1 (cK J Sq))) (.comp [.bV (.fv 1),.bV .id])))))
def Db (aP:c6)(im:aqc):Option (aqk×Bool) :=if ((len_ aE im) != (len_ ca aP.bN))=true then some (([]:aqk),false) else wi aP >>= fun r2 =>if r2=true then DD im >>= fun aW =>some (aW.1,aW.2) else some (([]:aqk),false)
theorem TP:bl (Db aP im) (fun r=>Con bk 117 [.fX 2 [(hE aP)] 0 0,.isl 3 (im.map aE)] [] (.dd [.isl 1 (r.1.map (dk 3 bU)),.b r.2]) []):=.ite (fun h1=>.ret (bd [(I 2),.ai (kl 9 5),.ab true,(I 2)] (.eU h1 h1 h1 h1 h1 h1 cc) (.comp [.bV (.fv 1),.bV .id]))) (fun h1=>.ae fun r2 J=>(let t1:aqe:=[(I 2),.ai (ag 12 (af (eh 1 r2) (kf 1)))];have aK:=((.gw h1 h1 h1 h1 (SR r2 J) (bx.b r2) h1 h1):cn _);.ite (fun ak=>.ae fun aW aN=>.ret (bd (t1.aJ [.ab false,.ai (bH 1 (hs 1 (.dd [.isl 1 (aW.1.map (dk 3 bU)),.b aW.2]) false) 4)]) (aK.aB (.e2 (bW ak) (afp aW aN))))) (fun ak=>.ret (bd (t1.aJ [.ab true,(I 2)]) (aK.aB (.e1 (b5 ak))) (.comp [.bV (.fv 1),.bV .id])))))
def DM (az a5:aqd):aqt :=az.elim (some (none:aqd)) fun eL =>a5.elim (some (none:aqd)) fun jU =>ze az a5 >>= fun aW =>xR aW >>= fun bQ =>some bQ
theorem VB:bl (DM az a5) (fun r=>Con bk 162 [hl 3 bU az,hl 3 bU a5] [] (hl 3 bU r) []):=.lD (fun h1=>.ret (bd [(I 1),.ai (ag 1 (af (.fm 5 (.f8 3 none) .eb) (ag 1 (dU 2 (ag 1 []))))),.ab true,(I 1)] (.cM (uT (sz:=3) (f:=bU) h1) cc cc cc) (.bf (.bV (.sk 3))))) (fun eL h1=>(have bX:=((.bG (l0 h1) ga ga):cn _);.lD (fun J=>.ret (bd [(I 1),.ai (ag 1 (af (.fm 5 (.f8 3 (some (bU eL))) .eb) (bH 2 (.fm 8 (.f8 3 none) .eb) 1))),.ab true,(I 1)] (bX.aB (.e2 (uT (sz:=3) (f:=bU) J) cc)) (.bf (.bV (.sk 3))))) (fun jU J=>.ae fun aW aN=>.ae fun bQ bb=>.ret (bd [(I 1),.ai (ag 1 (af (.fm 5 (.f8 3 (some (bU eL))) .eb) (bH 2 (.fm 8 (.f8 3 (some (bU jU))) .eb) 1))),.ab false,.ai (ag 2 (af (hs 2 (hl 3 bU aW) false) (af (hs 1 (hl 3 bU bQ) false) (ag 1 []))))] (bX.aB (.cM (l0 J) ga (SV aW aN) (Vz bQ bb)))))))
def BI (aP:c6)(im:aqk)(aX:Int):aqt :=so aP aX >>= fun r1 =>if 0<=aX/\aX<im.length then im[aX.toNat]? >>= fun fZ =>DM fZ fZ >>= fun a9 =>vm (R ((R (r1.1*r1.1))+(R (r1.2*r1.2)))) >>= fun bS =>DM a9 bS >>= fun ck =>some ck else none
theorem abI:bl (BI aP im aX) (fun r=>Con bk 118 [.fX 2 [(hE aP)] 0 0,.isl 1 (im.map (dk 3 bU)),.n .i64 aX] [] (hl 3 bU r) []):=.ae fun r1 h2=>.aL fun J=>.ae fun fZ ax=>.ae fun a9 a7=>.ae fun bS ch=>.ae fun ck dm=>.ret (bd [(I 1),.ai (bH 2 (hs 2 (.dd [.n .i64 r1.1,.n .i64 r1.2]) true) 5),.ai (ag 3 (af (.cf ((dk 3 bU) fZ)) (ag 3 (af (.cf ((dk 3 bU) fZ)) (af (hs 2 (hl 3 bU a9) false) (ag 7 (af (hs 1 (hl 3 bU bS) false) (af (hs 2 (hl 3 bU ck) false) (ag 1 [])))))))))] (.aY (RN r1 h2) (ri (hq (bx.n .i64 r1.1) (hq (bx.n .i64 r1.2) mm))) J.1 (c3 (dk 3 bU) J.2) (bO (dk 3 bU) ax) J.1 (c3 (dk 3 bU) J.2) (bO (dk 3 bU) ax) (.bG (VB a9 a7) (F8 bS ch) (VB ck dm))))
def ac6 (jB:aqm)(iu:aqn)(z9:aqk)(iH:Int):dW (Int×aqk) ((aqk)⊕(Unit)):=⟨fun (je,ad)=>dj [(yw 0 jB iu),(6,.isl 1 (z9.map (dk 3 bU))),(fM 8 ad),(aZ 22 iH),(aZ 23 je)] [(au 1 (dk 3 bU) ad)],fun | .inl a=>⟨some 0,[(fM 8 a)],[(au 1 (dk 3 bU) a)]⟩ | .inr a=>⟨none,[(4,.fg),(5,.b false)],[]⟩⟩
def BL (jB:aqm)(iu:aqn)(z9:aqk)(iH je:Int)(ad:aqk):Option ((Int×aqk)⊕((aqk)⊕(Unit))) :=if (decide (je<iH))=true then BI (⟨jB,iu⟩:c6) z9 je >>= fun r2 =>if 0<=je/\je<(ad.length:Nat) then if (0+je.toNat)<ad.length then (ad.set (0+je.toNat) r2)[(0+je.toNat)]? >>= fun b0 =>b0.elim (some (.inr (.inr ()))) fun j4 =>some (.inl (R (je+1),ad.set (0+je.toNat) r2)) else none else none else some (.inr (.inl ad))
def SJ (jB:aqm)(iu:aqn)(z9:aqk)(iH je:Int)(ad:aqk):Option ((aqk)⊕(Unit)):=iter (fun w:Int×aqk=>BL jB iu z9 iH w.1 w.2) (je,ad)
theorem Rr:bl (BL jB iu z9 iH je ad) (dZ bk 40 0 77 [1,1,1,1,0,1,0,0] (ac6 jB iu z9 iH) (je,ad)):=.ite (fun h1=>.ae fun r2 J=>.aL fun ak=>.aL fun ax=>.ae fun b0 a7=>(let t1:aqe:=[(I 1),.ab true,(I 2),.ai (ag 5 (af (hs 3 (hl 3 bU r2) false) (ag 1 (af .eb []))))];have aK:=((.aY h1 (abI r2 J) ak.1 ak.2 (hD (dk 3 bU) ax) (ht 1) ak.1 ak.2 (.e1 (oJ (hN (dk 3 bU) ad je r2) a7))):cn _);.lD (fun bb=>.ret (a6 (t1.aJ [.ai (ag 3 (af (.cf ((dk 3 bU) b0)) (af (.fm 36 (.f8 3 none) .eb) []))),.ab true,(I 2),.aT [] [] (bj [4,5])]) (aK.aB (.e2 (uT (sz:=3) (f:=bU) bb) cc)))) (fun j4 bb=>.ret (a6 (t1.aJ [.ai (ag 3 (af (.cf ((dk 3 bU) b0)) (af (.fm 36 (.f8 3 (some (bU j4))) .eb) []))),.ab false,(I 2),.aT [0] [.cE (au 1 (dk 3 bU) (ad.set (0+je.toNat) r2))] [(0,ii),(6,ii),(fr 8 (ad.set (0+je.toNat) r2)),(22,ii),(23,ii)]]) (aK.aB (.db (l0 bb) ga (cT 1 (hN (dk 3 bU) ad je r2)) (aq 1 (m6 (sz:=3) lI) (ad.set (0+je.toNat) r2)) (ho ad je r2))))))) (fun h1=>.ret (a6 (mq 1 0 8) (.e2 h1 (aq 1 (m6 (sz:=3) lI) ad))))
def zc (aP:c6)(im:aqc):Option (aqk×Bool) :=Db aP im >>= fun r1 =>if r1.2=true then if 0<=(len_ (dk 3 bU) r1.1)/\(8:Int)*(len_ (dk 3 bU) r1.1)<=281474976710656/\(len_ (dk 3 bU) r1.1)<9223372036854775808 then SJ aP.cv aP.bN r1.1 (len_ (dk 3 bU) r1.1) 0 (List.replicate (len_ (dk 3 bU) r1.1).toNat (none:aqd):aqk) >>= fun aW =>match aW with | .inl lf=>(some (lf,true)) | .inr lf=>(some (([]:aqk),false)) else none else some (([]:aqk),false)
theorem adt:bl (zc aP im) (fun r=>Con bk 77 [.fX 2 [(hE aP)] 0 0,.isl 3 (im.map aE)] [] (.dd [.isl 1 (r.1.map (dk 3 bU)),.b r.2]) []):=by
 unfold zc
 exact .ae fun r1 h2 =>
  (let t1:aqe:=[(I 2),.ai (bH 2 (hs 2 (.dd [.isl 1 (r1.1.map (dk 3 bU)),.b r1.2]) false) 5),(I 2)];
  .ite (fun J =>
  .aL fun ak =>
  .ae fun aW aN =>
  (let q2:=len_ (dk 3 bU) r1.1;let q1:=(List.replicate q2.toNat (none:aqd):aqk);let t2:aqe:=t1.aJ [.ab false,.ai (bH 2 (.cf [(hl 3 bU (none:aqd))]) 1),(I 3),.aT [14] [.cE (au 1 (dk 3 bU) q1)] [(0,ii),(6,ii),(fr 8 q1),(22,ii),(23,ii)]];
  have eQ:=((.aY (TP r1 h2) (bW J) ak.1 (Int.le_refl q2) ak.2.1 ak.2.2 (cT 1 (lU (dk 3 bU) q2.toNat (none:aqd))) (aq 1 (m6 (sz:=3) lI) q1) (.e1 (l7 q2.toNat ((none:aqd):aqd)))):cn _);
  (by
  rcases aW with lf|lf
  ·exact(.ret (bd (t2.aJ [.sub (.exit 0) [(fM 8 lf)] [(au 1 (dk 3 bU) lf)],(I 3)]) (eQ.aB (.cM (cK aN Rr) (f5 (dk 3 bU) lf) (fo (dk 3 bU) lf) (df (m6 (sz:=3) lI) lf))) (.comp [.bV (.ep (lf.map (dk 3 bU))),.bV .id])))
  ·exact(.ret (bd (t2.aJ [.sub (.ret) [(4,.fg),(5,.b false)] []]) (eQ.aB (.e1 (cK aN Rr))) (.comp [.bV (.fv 1),.bV .id]))))))
  (fun J =>
  .ret (bd (t1.aJ [.ab true,(I 2)]) (.e2 (TP r1 h2) (b5 J)) (.comp [.bV (.fv 1),.bV .id]))))
def Gp (bA:Int):aqo :=if (decide ((0:Int)<=bA))=true then some (decide (bA<=1000)) else some false
theorem aeV:bl (Gp bA) (fun r=>Con bk 120 [.n .i64 bA] [] (.b r) []):=.ite (fun h1=>.ret (bd [(I 1),.ai (bH 5 (.ab true) 1)] (.bG h1 h1 h1))) (fun h1=>.ret (bd [(I 1),.ai (ag 3 (dU 2 (mJ 1)))] (.bG h1 h1 h1)))
def CY (bA:Int):aqo :=Gp bA >>= fun r1 =>some (!r1)
theorem adu:bl (CY bA) (fun r=>Con bk 119 [.n .i64 bA] [] (.b r) []):=.ae fun r1 h2=>.ret (bd [(I 1),.ai (bH 1 (eh 1 r1) 2)] (.e2 (aeV r1 h2) (bx.b r1)))
def abi (aP:ar)(gJ:Int):dW Int ((Unit)⊕(Int)):=⟨fun fk=>dj [(eB 0 aP),(1,.fn 119 []),(aZ 7 gJ),(aZ 8 fk)] [],fun | .inl a=>⟨some 0,[],[]⟩ | .inr a=>⟨none,[(aZ 4 a)],[]⟩⟩
def ti (aP:ar)(gJ fk:Int):Option ((Int)⊕((Unit)⊕(Int))) :=if (decide (fk<gJ))=true then if 0<=fk/\fk<aP.length then aP[fk.toNat]? >>= fun an =>CY an >>= fun aW =>if aW=true then some (.inr (.inr fk)) else some (.inl (R (fk+1))) else none else some (.inr (.inl ()))
def Mn (aP:ar)(gJ fk:Int):Option ((Unit)⊕(Int)):=iter (fun w:Int=>ti aP gJ w) fk
theorem Q9:bl (ti aP gJ fk) (dZ bk 19 0 144 [1,0,1,0,0] (abi aP gJ) fk):=.ite (fun h1=>.aL fun h2=>.ae fun an ak=>.ae fun aW aN=>(let t1:aqe:=[(I 1),.ab true,(I 2),.ai (ag 4 (af (.cf (eI an)) (af (eh 1 aW) [])))];have aK:=((.eJ h1 h2.1 (c3 eI h2.2) (bO eI ak) (adu aW aN) (bx.b aW)):cn _);.ite (fun a7=>.ret (a6 (t1.append (lm 2 4)) (aK.aB (.e1 a7)))) (fun a7=>.ret (a6 (t1.aJ [.ab false,(I 2),.aT [] [] (bj [0,1,7,8])]) (aK.aB (.e1 a7)))))) (fun h1=>.ret (a6 (pK 1) (.e1 h1)))
def Jj (aP:ar):aqq :=Mn aP (len_ eI aP) 0 >>= fun r1 =>match r1 with | .inl bm=>(some (-1)) | .inr bm=>(some bm)
theorem abq:bl (Jj aP) (fun r=>Con bk 144 [.isl 1 (aP.map eI),.fn 119 []] [] (.n .i64 r) []):=by
 unfold Jj
 exact .ae fun r1 h2 =>
  (let t1:aqe:=[(I 1),(I 3),.aT [] [] (bj [0,1,7,8])];
  (by
  rcases r1 with bm|bm
  ·exact(.ret (bd (t1.aJ [.sub (.exit 0) [] [],(I 1)]) (.e1 (cK h2 Q9))))
  exact(.ret (bd (t1.aJ [.sub (.ret) [(aZ 4 bm)] []]) (.e1 (cK h2 Q9))))))
def Jg (aP:ar):aqo :=Jj aP >>= fun r1 =>some (decide ((0:Int)<=r1))
theorem abf:bl (Jg aP) (fun r=>Con bk 104 [.isl 1 (aP.map eI),.fn 119 []] [] (.b r) []):=.ae fun r1 h2=>.ret (bd [(I 1),.ai (bH 2 (hY 2 r1) 2)] (.e2 (abq r1 h2) (bx.n .i64 r1)))
def FN (aP:c6)(hS:ar):aqo :=if ((len_ eI hS) == (len_ ca aP.bN))=true then Jg hS >>= fun r2 =>some (!r2) else some false
theorem adS:bl (FN aP hS) (fun r=>Con bk 78 [.fX 2 [(hE aP)] 0 0,.isl 1 (hS.map eI)] [] (.b r) []):=.ite (fun h1=>.ae fun r2 J=>.ret (bd [(I 1),.ai (ag 10 (af (eh 2 r2) (bH 1 (.ab true) 1)))] (.eJ h1 h1 (abf r2 J) (bx.b r2) h1 h1))) (fun h1=>.ret (bd [(I 1),.ai (ag 9 (dU 3 (mJ 1)))] (.cM h1 h1 h1 h1)))
def FT (cC fz:aqd):aqq :=fz >>= fun gb =>tj cC gb.qG >>= fun bc =>cC >>= fun kr =>tj fz kr.qG >>= fun bQ =>ve bc bQ >>= fun bs =>some bs
theorem ad2:bl (FT cC fz) (fun r=>Con bk 79 [hl 3 bU cC,hl 3 bU fz] [] (.n .i64 r) []):=.ae fun gb h2=>.ae fun bc ak=>.ae fun kr aN=>.ae fun bQ bb=>.ae fun bs cu=>.ret (bd [(I 1),.ai (ag 2 (af (.fm 6 (.f8 3 (some (bU gb))) .eb) (ag 2 (af (hC 2 bc) (ag 2 (af (.fm 12 (.f8 3 (some (bU kr))) .eb) (ag 2 (af (hC 2 bQ) (af (hY 2 bs) (ag 1 []))))))))))] (.eJ (l0 h2) (Ju bc ak) (l0 aN) (Ju bQ bb) (R6 bs cu) (bx.n .i64 bs)))
def SK (hS:ar)(fJ:aqk)(gD:Int):dW (Int×ar) ar:=⟨fun (jA,ad)=>dj [(eB 2 hS),(fM 10 ad),(27,.isl 1 (fJ.map (dk 3 bU))),(aZ 28 gD),(aZ 29 jA)] [(au 1 eI ad)],fun | a=>⟨some 0,[(fM 10 a)],[(au 1 eI a)]⟩⟩
def vd (hS:ar)(fJ:aqk)(gD jA:Int)(ad:ar):Option ((Int×ar)⊕(ar)) :=if (decide (jA<gD))=true then if 0<=jA/\jA<fJ.length then fJ[jA.toNat]? >>= fun an =>if 0<=jA/\jA<hS.length then hS[jA.toNat]? >>= fun b0 =>vm (R (b0*b0)) >>= fun bS =>FT an bS >>= fun ck =>if (decide ((0:Int)<ck))=true then if (ad++([jA]:ar)).length*8<=140737488355328 then some (.inl (R (jA+1),ad++([jA]:ar))) else none else some (.inl (R (jA+1),ad)) else none else none else some (.inr ad)
def Tn (hS:ar)(fJ:aqk)(gD jA:Int)(ad:ar):Option (ar):=iter (fun w:Int×ar=>vd hS fJ gD w.1 w.2) (jA,ad)
theorem acf:bl (vd hS fJ gD jA ad) (dZ bk 53 0 44 [1,1,1,1,0,1,0,0] (SK hS fJ gD) (jA,ad)):=.ite (fun h1=>.aL fun h2=>.ae fun an ak=>.aL fun ax=>.ae fun b0 a7=>.ae fun bS ch=>.ae fun ck dm=>(let t1:aqe:=[(I 1),.ab true,.ai (bH 2 (.cf ((dk 3 bU) an)) 2),.ai (ag 4 (af (.cf (eI b0)) (ag 3 (af (.cf (eI b0)) (ag 1 (af (hs 1 (hl 3 bU bS) false) (af (hY 2 ck) (ag 1 []))))))))];have aK:=((.aY h1 h2.1 (c3 (dk 3 bU) h2.2) (bO (dk 3 bU) ak) ax.1 (c3 eI ax.2) (bO eI a7) ax.1 (.db (c3 eI ax.2) (bO eI a7) (F8 bS ch) (ad2 ck dm) (bx.n .i64 ck))):cn _);.ite (fun eO=>.aL fun eC=>.ret (let q1:=(ad++([jA]:ar));a6 (t1.aJ [.ab true,.ai (hk 3 q1 1),(I 2),.aT [23] [.cE (au 1 eI q1)] (bj [2,10,27,28,29])]) (aK.aB (.eU eO (hB eI jA) (ic eI ad) (hT eI ad jA) eC (cT 1 (ir eI ad jA)) (aq 1 aw q1))))) (fun eO=>.ret (a6 (t1.aJ [.ab false,(I 2),.aT [0] [.pure] (bj [2,10,27,28,29])]) (aK.aB (.e2 eO (aq 1 aw ad))))))) (fun h1=>.ret (a6 (mq 1 0 10) (.e2 h1 (aq 1 aw ad))))
def JD (aP:c6)(im:aqc)(hS:ar):Option (ar×Bool) :=zc aP im >>= fun r1 =>if r1.2=true then FN aP hS >>= fun aM =>if aM=true then Tn hS r1.1 (len_ (dk 3 bU) r1.1) 0 ([]:ar) >>= fun bQ =>some (bQ,true) else some (([]:ar),false) else some (([]:ar),false)
theorem adT:bl (JD aP im hS) (fun r=>Con bk 44 [.fX 2 [(hE aP)] 0 0,.isl 3 (im.map aE),.isl 1 (hS.map eI)] [] (.dd [.isl 1 (r.1.map eI),.b r.2]) []):=.ae fun r1 h2=>(let t1:aqe:=[(I 2),.ai (bH 2 (hs 2 (.dd [.isl 1 (r1.1.map (dk 3 bU)),.b r1.2]) false) 5)];have aK:=((.e1 (adt r1 h2)):cn _);.ite (fun J=>.ae fun aM ax=>(let t3:aqe:=t1.aJ [.ai (ag 5 (af (eh 2 aM) (kf 1)))];have ei:=aK.aB (.eU (bW J) (bW J) (bW J) (adS aM ax) (bx.b aM) (bW J) (bW J));.ite (fun aN=>.ae fun bQ bb=>.ret (bd (t3.aJ [.ab false,(I 1),(I 3),.w3 10 1,.aT [22] [.cE (au 1 eI ([]:ar))] [(2,ii),(fr 10 ([]:ar)),(27,ii),(28,ii),(29,ii)],((SK hS r1.1 (len_ (dk 3 bU) r1.1)).t bQ),(I 3)]) (ei.aB (.gw (bW aN) (cT 1 (hJ eI)) (aq 1 aw ([]:ar)) (fK Int) (cK bb acf) (f5 eI bQ) (fo eI bQ) (df aw bQ))) (.comp [.bV (.ep (bQ.map eI)),.bV .id]))) (fun aN=>.ret (bd (t3.aJ [.ab true,(I 2)]) (ei.aB (.e1 (b5 aN))) (.comp [.bV (.fv 1),.bV .id]))))) (fun J=>.ret (bd (t1.aJ [.ai (kl 3 4),.ab true,(I 2)]) (aK.aB (.eJ (b5 J) (b5 J) (b5 J) (b5 J) (b5 J) cc)) (.comp [.bV (.fv 1),.bV .id]))))
def Gb (aP:c6)(im:aqc)(hS:ar):aqo :=JD aP im hS >>= fun r1 =>if r1.2=true then some ((len_ eI r1.1) == (0:Int)) else some false
theorem aeu:bl (Gb aP im hS) (fun r=>Con bk 23 [.agg (hE aP),.isl 3 (im.map aE),.isl 1 (hS.map eI)] [] (.b r) []):=.ae fun r1 h2=>(let t1:aqe:=[(I 2),.ky 0,.ai (bH 2 (.call {ac:=[.bf (.ptr [.id,.id]),ii,ii],r:= .dd [.isl 1 (r1.1.map eI),.b r1.2],ef:=false,ex:=[0]}) 5)];have aK:=((.e2 (pt (CZ aP):j6 [(hE aP)]) (adT r1 h2)):cn _);.ite (fun J=>.ret (bd (t1.aJ [.ai (bH 5 (.ab true) 1)]) (aK.aB (.cM J J J J)))) (fun J=>.ret (bd (t1.aJ [.ai (ag 2 (dU 3 (mJ 1)))]) (aK.aB (.cM J J J J)))))
def CD (aP:c6)(fw hS:ar):Option ((aqp×aql)⊕(Unit)) :=CT aP fw >>= fun r1 =>match r1 with | .inl bm=>(if bm.1.all (vv bm.2)=true then Gb aP (bm.1.map (kQ bm.2)) hS >>= fun aW =>if aW=true then some (.inl (bm.1,bm.2)) else some (.inr ()) else none) | .inr bm=>(some (.inr ()))
theorem Jq:bl (CD aP fw hS) (Sum.elim (fun a=>Con bk 8 [.agg (hE aP),.isl 1 (fw.map eI),.isl 1 (hS.map eI)] [] (.dd [.br 0 0 0 a.1.length,.b true]) [(aS.mk 3 (a.1.map (cP 0 1)) .live::(cU 1 eI a.2))]) (fun a=>Con bk 8 [.agg (hE aP),.isl 1 (fw.map eI),.isl 1 (hS.map eI)] [] (.dd [.fg,.b false]) [])):=by
 unfold CD
 exact .ae fun r1 h2 =>
  (by
  rcases r1 with bm|bm
  ·exact(.aL fun ak =>
  .ae fun aW aN =>
  (let q1:=cU 1 eI bm.2;let q2:=au 3 (cP 5 1) bm.1;let t1:aqe:=[(I 3),.ai (bH 2 (.call {a4:=[],c9:=[],ac:=[ii,ii],r:= .dd [.br 0 0 0 bm.1.length,.b true],eP:=[(aS.mk 3 (bm.1.map (cP 0 1)) .live::q1)],f9:= .comp [.bV .id,.bV .id],gT:=[.bq (aS.mk 3 (bm.1.map (cP 5 1)) .live::q1)],ex:=[],ef:=true}) 5),.ai (bH 6 (.call {ac:=[ii,.bf (.bV (.view 5 (aS.mk 3 (bm.1.map (cP 5 1)) .live) ((bm.1.map (kQ bm.2)).map aE))),ii],r:= .b aW,ef:=true,ex:=[5]}) 2)];
  have aK:=((.aY (fQ (lc (b1:=(h6 [5])) 3 .live (cP 5 1) (el (cP 0 1) bm.1) (fun x=>(n0 (rfl:(h6 [5]) 0=some 5)) x)) (eg (h6 [5]) 1 kC bm.2)) ((ls rfl (wA (fS 1 eI bm.2))):mE (aS.mk 3 (bm.1.map (cP 0 1)) .live::q1)) (Sp (.inl bm) h2) (ri (hq (lE bm.1) (hq (bx.b true) mm))) ((rb (nn (m7 (Ka _ _)) (Kk vC)) re):oO [(aS.mk 3 (bm.1.map (cP 0 1)) .live::q1)]) ga ga ga (.aY ga (rfl:d8 (some (aS.mk 3 (bm.1.map (cP 5 1)) .live::q1)) 0=some (aS.mk 3 (bm.1.map (cP 5 1)) .live)) (rfl:_=true) (fo (cP 5 1) bm.1) (df d5 (bm.1.map (kQ bm.2))) (uA (c8:=5) (jY:=q2++q1) (bJ:=j8) (sz:=3) (g:=aE) (el (cP 5 1) bm.1) (fun _=>rfl) (fun x U=>(DW (c8:=5) (c:=1) (bJ:=j8) (nN:=q2) (fS 1 eI bm.2) rfl iO rfl (tE ak x U))) (eV bm.1)) (aeu aW aN) (bx.b aW) (.e1 ga))):cn _);
  .ite (fun a7 =>
  .ret (hO (t1.aJ [.ab false,(I 3)]) [5] [.bq (aS.mk 3 (bm.1.map (cP 0 1)) .live::(cU 1 eI bm.2))] (aK.aB (.e2 (bW a7) (fQ (lc (b1:=(b4 [5])) 3 .live (cP 0 1) (el (cP 5 1) bm.1) (fun x=>(n0 (rfl:(b4 [5]) 5=some 0)) x)) (eg (b4 [5]) 1 kC bm.2)))) (.comp [.bV .id,.bV .id])))
  (fun a7 =>
  .ret (hO (t1.aJ [.ab true,(I 2)]) [] [] (aK.aB (.e1 (b5 a7)))))))
  exact(.ret (hO [(I 3),.ai (bH 2 (.call {a4:=[],c9:=[],ac:=[ii,ii],r:= .dd [.fg,.b false],eP:=[],f9:=ii,gT:=[],ex:=[],ef:=true}) 5),.ai (ag 3 (dU 5 (ag 1 []))),.ab true,(I 2)] [] [] (.gw (Sp (.inr bm) h2) (ri (hq bx.fg (hq (bx.b false) mm))) cc cc cc cc cc cc))))
def aev (az a5:ar):dW Int ((Unit)⊕(Unit)):=⟨fun al=>dj [(eB 0 az),(eB 1 a5),(aZ 5 al)] [],fun | .inl a=>⟨some 0,[],[]⟩ | .inr a=>⟨none,[(4,.b false)],[]⟩⟩
def CM (az a5:ar)(al:Int):Option ((Int)⊕((Unit)⊕(Unit))) :=if (decide (al<(len_ eI az)))=true then if 0<=al/\al<az.length then az[al.toNat]? >>= fun an =>if 0<=al/\al<a5.length then a5[al.toNat]? >>= fun b0 =>if (an != b0)=true then some (.inr (.inr ())) else some (.inl (R (al+1))) else none else none else some (.inr (.inl ()))
def UY (az a5:ar)(al:Int):Option ((Unit)⊕(Unit)):=iter (fun w:Int=>CM az a5 w) al
theorem R9:bl (CM az a5 al) (dZ bk 26 0 11 [1,1,0,1,0,0] (aev az a5) al):=.ite (fun h1=>.aL fun h2=>.ae fun an ak=>.aL fun ax=>.ae fun b0 a7=>(let t1:aqe:=[(I 4),.ab true,.ai (ag 3 (af (.cf (eI an)) (gY 3 b0 1)))];have aK:=((.eU h1 h2.1 (c3 eI h2.2) (bO eI ak) ax.1 (c3 eI ax.2) (bO eI a7)):cn _);.ite (fun bb=>.ret (a6 (t1.append (lm 1 4)) (aK.aB (.e1 bb)))) (fun bb=>.ret (a6 (t1.aJ [.ab false,(I 3),.aT [] [] (bj [0,1,5])]) (aK.aB (.e1 bb)))))) (fun h1=>.ret (a6 (pK 4) (.e1 h1)))
def vj (az a5:ar):aqo :=if ((len_ eI az) != (len_ eI a5))=true then some false else UY az a5 0 >>= fun r2 =>match r2 with | .inl er=>(some true) | .inr er=>(some false)
theorem Dc:bl (vj az a5) (fun r=>Con bk 11 (mo az a5) [] (.b r) []):=by
 unfold vj
 exact .ite (fun h1 =>
  .ret (bd [(I 1),(I 5),.ab true,(I 1)] (.e1 h1)))
  (fun h1 =>
  .ae fun r2 J =>
  (let t1:aqe:=[(I 1),(I 5),.ab false,(I 1),.aT [] [] (bj [0,1,5])];
  (by
  rcases r2 with er|er
  ·exact(.ret (bd (t1.aJ [.sub (.exit 0) [] [],(I 1)]) (.e2 h1 (cK J R9))))
  exact(.ret (bd (t1.aJ [.sub (.ret) [(4,.b false)] []]) (.e2 h1 (cK J R9)))))))
def JL (az a5:bC):aqo :=if (az.cD == a5.cD)=true then vj az.bP a5.bP >>= fun r2 =>if r2=true then some true else some false else some false
theorem aew:bl (JL az a5) (fun r=>Con bk 45 [.agg (bo az),.agg (bo a5)] [] (.b r) []):=.ite (fun h1=>.ae fun r2 J=>(let t1:aqe:=[(I 3),(I 5),.ab false,.ai (bH 4 (eh 2 r2) 1)];have aK:=((.bG (bW h1) (Dc r2 J) (bx.b r2)):cn _);.ite (fun ak=>.ret (bd (t1.aJ [.ab false,(I 1)]) (aK.aB (.e1 (bW ak))))) (fun ak=>.ret (bd (t1.aJ [.ab true,(I 1)]) (aK.aB (.e1 (b5 ak))))))) (fun h1=>.ret (bd [(I 3),(I 5),.ab true,(I 1)] (.e1 (b5 h1))))
def GF (az a5:av):aqo :=JL az.cJ a5.cJ >>= fun r1 =>if r1=true then vj az.dl a5.dl >>= fun aM =>if aM=true then some true else some false else some false
theorem afq:bl (GF az a5) (fun r=>Con bk 24 [.agg (aE az),.agg (aE a5)] [] (.b r) []):=.ae fun r1 h2=>(let t1:aqe:=[(I 3),.ai (bH 4 (eh 2 r1) 1)];have aK:=((.e2 (aew r1 h2) (bx.b r1)):cn _);.ite (fun J=>.ae fun aM ax=>(let t3:aqe:=t1.aJ [.ab false,.ai (bH 4 (eh 2 aM) 1)];have ei:=aK.aB (.bG (bW J) (Dc aM ax) (bx.b aM));.ite (fun aN=>.ret (bd (t3.aJ [.ab false,(I 1)]) (ei.aB (.e1 (bW aN))))) (fun aN=>.ret (bd (t3.aJ [.ab true,(I 1)]) (ei.aB (.e1 (b5 aN))))))) (fun J=>.ret (bd (t1.aJ [.ab true,(I 1)]) (aK.aB (.e1 (b5 J))))))
def aex (az a5:aqc):dW Int ((Unit)⊕(Unit)):=⟨fun al=>dj [(0,.isl 3 (az.map aE)),(1,.isl 3 (a5.map aE)),(aZ 5 al)] [],fun | .inl a=>⟨some 0,[],[]⟩ | .inr a=>⟨none,[(4,.b false)],[]⟩⟩
def CN (az a5:aqc)(al:Int):Option ((Int)⊕((Unit)⊕(Unit))) :=if (decide (al<(len_ aE az)))=true then if 0<=al/\al<az.length then az[al.toNat]? >>= fun an =>if 0<=al/\al<a5.length then a5[al.toNat]? >>= fun b0 =>GF an b0 >>= fun bS =>if bS=true then some (.inl (R (al+1))) else some (.inr (.inr ())) else none else none else some (.inr (.inl ()))
def UZ (az a5:aqc)(al:Int):Option ((Unit)⊕(Unit)):=iter (fun w:Int=>CN az a5 w) al
theorem Sa:bl (CN az a5 al) (dZ bk 27 0 9 [1,1,0,1,0,0] (aex az a5) al):=.ite (fun h1=>.aL fun h2=>.ae fun an ak=>.aL fun ax=>.ae fun b0 a7=>.ae fun bS ch=>(let t1:aqe:=[(I 4),.ab true,.ai (ag 3 (af (.cf (aE an)) (ag 3 (af (.cf (aE b0)) (af (eh 2 bS) (ag 1 []))))))];have aK:=((.aY h1 h2.1 (c3 aE h2.2) (bO aE ak) ax.1 (c3 aE ax.2) (bO aE a7) (afq bS ch) (.e1 (bx.b bS))):cn _);.ite (fun cu=>.ret (a6 (t1.aJ [.ab false,(I 3),.aT [] [] (bj [0,1,5])]) (aK.aB (.e1 (bW cu))))) (fun cu=>.ret (a6 (t1.append (lm 1 4)) (aK.aB (.e1 (b5 cu))))))) (fun h1=>.ret (a6 (pK 4) (.e1 h1)))
def Dy (az a5:aqc):aqo :=if ((len_ aE az) != (len_ aE a5))=true then some false else UZ az a5 0 >>= fun r2 =>match r2 with | .inl er=>(some true) | .inr er=>(some false)
theorem Dd:bl (Dy az a5) (fun r=>Con bk 9 [.isl 3 (az.map aE),.isl 3 (a5.map aE)] [] (.b r) []):=by
 unfold Dy
 exact .ite (fun h1 =>
  .ret (bd [(I 1),(I 5),.ab true,(I 1)] (.e1 h1)))
  (fun h1 =>
  .ae fun r2 J =>
  (let t1:aqe:=[(I 1),(I 5),.ab false,(I 1),.aT [] [] (bj [0,1,5])];
  (by
  rcases r2 with er|er
  ·exact(.ret (bd (t1.aJ [.sub (.exit 0) [] [],(I 1)]) (.e2 h1 (cK J Sa))))
  exact(.ret (bd (t1.aJ [.sub (.ret) [(4,.b false)] []]) (.e2 h1 (cK J Sa)))))))
def Gq (az a5:cS):aqo :=if (!(az.iS.toList == a5.iS.toList))=true then some false else if (az.gx != a5.gx)=true then some false else if (az.gI != a5.gI)=true then some false else if (az.iA == a5.iA)=true then some true else some false
theorem aeW:bl (Gq az a5) (fun r=>Con bk 46 [.agg (b3 az),.agg (b3 a5)] [] (.b r) []):=.ite (fun h1=>.ret (bd [(I 3),(I 5),.ab true,(I 1)] (.e1 h1))) (fun h1=>(let t1:aqe:=[(I 3),(I 5),.ab false,(I 5)];.ite (fun h2=>.ret (bd (t1.aJ [.ab true,(I 1)]) (.e2 h1 h2))) (fun h2=>.ite (fun J=>.ret (bd (t1.aJ [.ab false,(I 5),.ab true,(I 1)]) (.bG h1 h2 J))) (fun J=>(let t2:aqe:=t1.aJ [.ab false,(I 5),.ab false,(I 5)];.ite (fun ak=>.ret (bd (t2.aJ [.ab false,(I 1)]) (.cM h1 h2 J (bW ak)))) (fun ak=>.ret (bd (t2.aJ [.ab true,(I 1)]) (.cM h1 h2 J (b5 ak)))))))))
def adU (az a5:aqm):dW Int ((Unit)⊕(Unit)):=⟨fun al=>dj [(0,.isl 4 (az.map b3)),(1,.isl 4 (a5.map b3)),(aZ 5 al)] [],fun | .inl a=>⟨some 0,[],[]⟩ | .inr a=>⟨none,[(4,.b false)],[]⟩⟩
def Ck (az a5:aqm)(al:Int):Option ((Int)⊕((Unit)⊕(Unit))) :=if (decide (al<(len_ b3 az)))=true then if 0<=al/\al<az.length then az[al.toNat]? >>= fun an =>if 0<=al/\al<a5.length then a5[al.toNat]? >>= fun b0 =>Gq an b0 >>= fun bS =>if bS=true then some (.inl (R (al+1))) else some (.inr (.inr ())) else none else none else some (.inr (.inl ()))
def Ue (az a5:aqm)(al:Int):Option ((Unit)⊕(Unit)):=iter (fun w:Int=>Ck az a5 w) al
theorem RQ:bl (Ck az a5 al) (dZ bk 27 0 25 [1,1,0,1,0,0] (adU az a5) al):=.ite (fun h1=>.aL fun h2=>.ae fun an ak=>.aL fun ax=>.ae fun b0 a7=>.ae fun bS ch=>(let t1:aqe:=[(I 4),.ab true,.ai (ag 3 (af (.cf (b3 an)) (ag 3 (af (.cf (b3 b0)) (af (eh 2 bS) (ag 1 []))))))];have aK:=((.aY h1 h2.1 (c3 b3 h2.2) (bO b3 ak) ax.1 (c3 b3 ax.2) (bO b3 a7) (aeW bS ch) (.e1 (bx.b bS))):cn _);.ite (fun cu=>.ret (a6 (t1.aJ [.ab false,(I 3),.aT [] [] (bj [0,1,5])]) (aK.aB (.e1 (bW cu))))) (fun cu=>.ret (a6 (t1.append (lm 1 4)) (aK.aB (.e1 (b5 cu))))))) (fun h1=>.ret (a6 (pK 4) (.e1 h1)))
def Gc (az a5:aqm):aqo :=if ((len_ b3 az) != (len_ b3 a5))=true then some false else Ue az a5 0 >>= fun r2 =>match r2 with | .inl er=>(some true) | .inr er=>(some false)
theorem aey:bl (Gc az a5) (fun r=>Con bk 25 [.isl 4 (az.map b3),.isl 4 (a5.map b3)] [] (.b r) []):=by
 unfold Gc
 exact .ite (fun h1 =>
  .ret (bd [(I 1),(I 5),.ab true,(I 1)] (.e1 h1)))
  (fun h1 =>
  .ae fun r2 J =>
  (let t1:aqe:=[(I 1),(I 5),.ab false,(I 1),.aT [] [] (bj [0,1,5])];
  (by
  rcases r2 with er|er
  ·exact(.ret (bd (t1.aJ [.sub (.exit 0) [] [],(I 1)]) (.e2 h1 (cK J RQ))))
  exact(.ret (bd (t1.aJ [.sub (.ret) [(4,.b false)] []]) (.e2 h1 (cK J RQ)))))))
def Gd (az a5:dg):aqo :=if (az.dr != a5.dr)=true then some false else if (az.d4 != a5.d4)=true then some false else if (az.h3 != a5.h3)=true then some false else some true
theorem aez:bl (Gd az a5) (fun r=>Con bk 47 [.agg (ca az),.agg (ca a5)] [] (.b r) []):=.ite (fun h1=>.ret (bd [(I 3),(I 5),.ab true,(I 1)] (.e1 h1))) (fun h1=>(let t1:aqe:=[(I 3),(I 5),.ab false,(I 5)];.ite (fun h2=>.ret (bd (t1.aJ [.ab true,(I 1)]) (.e2 h1 h2))) (fun h2=>.ite (fun J=>.ret (bd (t1.aJ [.ab false,(I 5),.ab true,(I 1)]) (.bG h1 h2 J))) (fun J=>.ret (bd (t1.aJ [.ab false,(I 5),.ab false,(I 1)]) (.bG h1 h2 J))))))
def adE (az a5:aqn):dW Int ((Unit)⊕(Unit)):=⟨fun al=>dj [(0,.isl 3 (az.map ca)),(1,.isl 3 (a5.map ca)),(aZ 5 al)] [],fun | .inl a=>⟨some 0,[],[]⟩ | .inr a=>⟨none,[(4,.b false)],[]⟩⟩
def Ca (az a5:aqn)(al:Int):Option ((Int)⊕((Unit)⊕(Unit))) :=if (decide (al<(len_ ca az)))=true then if 0<=al/\al<az.length then az[al.toNat]? >>= fun an =>if 0<=al/\al<a5.length then a5[al.toNat]? >>= fun b0 =>Gd an b0 >>= fun bS =>if bS=true then some (.inl (R (al+1))) else some (.inr (.inr ())) else none else none else some (.inr (.inl ()))
def TQ (az a5:aqn)(al:Int):Option ((Unit)⊕(Unit)):=iter (fun w:Int=>Ca az a5 w) al
theorem RH:bl (Ca az a5 al) (dZ bk 27 0 26 [1,1,0,1,0,0] (adE az a5) al):=.ite (fun h1=>.aL fun h2=>.ae fun an ak=>.aL fun ax=>.ae fun b0 a7=>.ae fun bS ch=>(let t1:aqe:=[(I 4),.ab true,.ai (ag 3 (af (.cf (ca an)) (ag 3 (af (.cf (ca b0)) (af (eh 2 bS) (ag 1 []))))))];have aK:=((.aY h1 h2.1 (c3 ca h2.2) (bO ca ak) ax.1 (c3 ca ax.2) (bO ca a7) (aez bS ch) (.e1 (bx.b bS))):cn _);.ite (fun cu=>.ret (a6 (t1.aJ [.ab false,(I 3),.aT [] [] (bj [0,1,5])]) (aK.aB (.e1 (bW cu))))) (fun cu=>.ret (a6 (t1.append (lm 1 4)) (aK.aB (.e1 (b5 cu))))))) (fun h1=>.ret (a6 (pK 4) (.e1 h1)))
def FU (az a5:aqn):aqo :=if ((len_ ca az) != (len_ ca a5))=true then some false else TQ az a5 0 >>= fun r2 =>match r2 with | .inl er=>(some true) | .inr er=>(some false)
theorem ad3:bl (FU az a5) (fun r=>Con bk 26 [.isl 3 (az.map ca),.isl 3 (a5.map ca)] [] (.b r) []):=by
 unfold FU
 exact .ite (fun h1 =>
  .ret (bd [(I 1),(I 5),.ab true,(I 1)] (.e1 h1)))
  (fun h1 =>
  .ae fun r2 J =>
  (let t1:aqe:=[(I 1),(I 5),.ab false,(I 1),.aT [] [] (bj [0,1,5])];
  (by
  rcases r2 with er|er
  ·exact(.ret (bd (t1.aJ [.sub (.exit 0) [] [],(I 1)]) (.e2 h1 (cK J RH))))
  exact(.ret (bd (t1.aJ [.sub (.ret) [(4,.b false)] []]) (.e2 h1 (cK J RH)))))))
def C3 (az a5:c6):aqo :=Gc az.cv a5.cv >>= fun r1 =>if r1=true then FU az.bN a5.bN >>= fun aM =>if aM=true then some true else some false else some false
theorem SW:bl (C3 az a5) (fun r=>Con bk 10 [.agg (hE az),.agg (hE a5)] [] (.b r) []):=.ae fun r1 h2=>(let t1:aqe:=[(I 3),.ai (bH 4 (eh 2 r1) 1)];have aK:=((.e2 (aey r1 h2) (bx.b r1)):cn _);.ite (fun J=>.ae fun aM ax=>(let t3:aqe:=t1.aJ [.ab false,.ai (bH 4 (eh 2 aM) 1)];have ei:=aK.aB (.bG (bW J) (ad3 aM ax) (bx.b aM));.ite (fun aN=>.ret (bd (t3.aJ [.ab false,(I 1)]) (ei.aB (.e1 (bW aN))))) (fun aN=>.ret (bd (t3.aJ [.ab true,(I 1)]) (ei.aB (.e1 (b5 aN))))))) (fun J=>.ret (bd (t1.aJ [.ab true,(I 1)]) (aK.aB (.e1 (b5 J))))))
def To:dW (Int×ByteArray) ByteArray:=⟨fun (aX,vH)=>dj [(aZ 0 aX),(3,.s vH)] [],fun | a=>⟨some 0,[(3,.s a)],[]⟩⟩
def Cl (aX:Int)(vH:ByteArray):Option ((Int×ByteArray)⊕(ByteArray)) :=if (decide ((0:Int)<aX))=true then if (vI [(IntKind.wrap .u8 (R ((48:Int)+(aX.tmod (10:Int)))))]).size+vH.size<9223372036854775808 then some (.inl (R (aX.tdiv (10:Int)),(vI [(IntKind.wrap .u8 (R ((48:Int)+(aX.tmod (10:Int)))))])++vH)) else none else some (.inr vH)
def Uf (aX:Int)(vH:ByteArray):Option (ByteArray):=iter (fun w:Int×ByteArray=>Cl w.1 w.2) (aX,vH)
theorem acx {aX:Int}{vH:ByteArray}:bl (Cl aX vH) (dZ bk 20 0 48 [1,1,1,0,0,0] To (aX,vH)):=.ite (fun h1=>.aL fun h2=>.ret (a6 [(I 2),.ab true,(I 9),(I 3),.aT [] [] (bj [0,3])] (.cM h1 (by decide:(10:Int)≠0) h2 (by decide:(10:Int)≠0)))) (fun h1=>.ret (a6 (qh 2 3) (.e1 h1)))
def Ge (aX:Int):Option ByteArray :=if (decide (aX<=0))=true then some (⟨#[109,48]⟩:ByteArray) else Uf aX (⟨#[]⟩:ByteArray) >>= fun r2 =>if (⟨#[109]⟩:ByteArray).size+r2.size<9223372036854775808 then some ((⟨#[109]⟩:ByteArray)++r2) else none
theorem aeA:bl (Ge aX) (fun r=>Con bk 48 [.n .i64 aX] [] (.s r) []):=.ite (fun h1=>.ret (bd [(I 1),(I 2),.ab true,(I 1)] (.e1 h1))) (fun h1=>.ae fun r2 J=>.aL fun ak=>.ret (bd [(I 1),(I 2),.ab false,(I 1),.aT [] [] (bj [0,3]),(To.t r2),(I 3)] (.bG h1 (cK J acx) ak)))
def Sb:dW (Int×Int×aqm) (Int×aqm):=⟨fun (aX,al,ad)=>dj [(fM 0 ad),(aZ 1 aX),(aZ 5 al)] [(au 4 b3 ad)],fun | a=>⟨some 0,[(aZ 1 a.1)],[(au 4 b3 a.2)]⟩⟩
def yT (aX al:Int)(ad:aqm):Option ((Int×Int×aqm)⊕(Int×aqm)) :=if (decide (al<((ad.length:Nat):Int)))=true then Ge aX >>= fun r2 =>if 0<=al/\al<(ad.length:Nat) then ad[(0+al.toNat)]? >>= fun eR=>(ad.set (0+al.toNat) (⟨r2,eR.gx,eR.gI,eR.iA⟩:cS))[(0+al.toNat)]? >>= fun dX=>((ad.set (0+al.toNat) (⟨r2,eR.gx,eR.gI,eR.iA⟩:cS)).set (0+al.toNat) (⟨dX.iS,R (aX+1),dX.gI,dX.iA⟩:cS))[(0+al.toNat)]? >>= fun ek=>(((ad.set (0+al.toNat) (⟨r2,eR.gx,eR.gI,eR.iA⟩:cS)).set (0+al.toNat) (⟨dX.iS,R (aX+1),dX.gI,dX.iA⟩:cS)).set (0+al.toNat) (⟨ek.iS,ek.gx,R ((R (aX+1))+1),ek.iA⟩:cS))[(0+al.toNat)]? >>= fun jD =>some (.inl (R ((R ((R ((R (aX+1))+1))+1))+1),R (al+1),(((ad.set (0+al.toNat) (⟨r2,eR.gx,eR.gI,eR.iA⟩:cS)).set (0+al.toNat) (⟨dX.iS,R (aX+1),dX.gI,dX.iA⟩:cS)).set (0+al.toNat) (⟨ek.iS,ek.gx,R ((R (aX+1))+1),ek.iA⟩:cS)).set (0+al.toNat) (⟨jD.iS,jD.gx,jD.gI,(((R ((R ((R (aX+1))+1))+1)).tmod (3:Int)) == (0:Int))⟩:cS))) else none else some (.inr (aX,ad))
def SL (aX al:Int)(ad:aqm):Option (Int×aqm):=iter (fun w:Int×Int×aqm=>yT w.1 w.2.1 w.2.2) (aX,al,ad)
theorem abM {aX al:Int}{ad:aqm}:bl (yT aX al ad) (dZ bk 44 1 27 [1,0,1,0,0] Sb (aX,al,ad)):=.ite (fun h1=>.ae fun r2 J=>.aL fun ak=>.ae fun eR aN=>.ae fun dX bb=>.ae fun ek cu=>.ae fun jD eO=>.ret (let cr:=(m3 (el b3 ad) (0+al.toNat) (⟨r2,eR.gx,eR.gI,eR.iA⟩:cS) (rfl:(setCells (b3 eR) 0 [.s r2])=b3 (⟨r2,eR.gx,eR.gI,eR.iA⟩:cS)));let dq:=(R (aX+1));let q1:=(m3 cr (0+al.toNat) (⟨dX.iS,R (aX+1),dX.gI,dX.iA⟩:cS) (rfl:(setCells (b3 dX) 1 [.n .i64 dq])=b3 (⟨dX.iS,R (aX+1),dX.gI,dX.iA⟩:cS)));let q2:=(m3 q1 (0+al.toNat) (⟨ek.iS,ek.gx,R (dq+1),ek.iA⟩:cS) (rfl:(setCells (b3 ek) 2 [.n .i64 (R (dq+1))])=b3 (⟨ek.iS,ek.gx,R (dq+1),ek.iA⟩:cS)));let bL:=(R ((R (dq+1))+1));a6 [(I 4),.ab true,.ai (ag 3 (af (hs 1 (.s r2) true) (ag 1 (af (.cf (b3 eR)) (af (.cf (b3 eR)) []))))),(I 3),.ai (ag 4 (af (.cf (b3 dX)) (af (.cf (b3 dX)) []))),(I 3),.ai (ag 4 (af (.cf (b3 ek)) (af (.cf (b3 ek)) []))),(I 3),.ai (ag 6 (af (.cf (b3 jD)) (af (.cf (b3 jD)) []))),(I 3),(I 3),.aT [0] [.cE (au 4 b3 ((((ad.set (0+al.toNat) (⟨r2,eR.gx,eR.gI,eR.iA⟩:cS)).set (0+al.toNat) (⟨dX.iS,R (aX+1),dX.gI,dX.iA⟩:cS)).set (0+al.toNat) (⟨ek.iS,ek.gx,R (dq+1),ek.iA⟩:cS)).set (0+al.toNat) (⟨jD.iS,jD.gx,jD.gI,((bL.tmod (3:Int)) == (0:Int))⟩:cS)))] [(fr 0 ((((ad.set (0+al.toNat) (⟨r2,eR.gx,eR.gI,eR.iA⟩:cS)).set (0+al.toNat) (⟨dX.iS,R (aX+1),dX.gI,dX.iA⟩:cS)).set (0+al.toNat) (⟨ek.iS,ek.gx,R (dq+1),ek.iA⟩:cS)).set (0+al.toNat) (⟨jD.iS,jD.gx,jD.gI,((bL.tmod (3:Int)) == (0:Int))⟩:cS))),(1,ii),(5,ii)]] (.aY h1 (aeA r2 J) (bx.s r2) ak.1 ak.2 (bO b3 aN) (bO b3 aN) ak.1 (.aY ak.2 (oJ cr bb) (oJ cr bb) ak.1 ak.2 (oJ q1 cu) (oJ q1 cu) (by decide:(3:Int)≠0) (.eU ak.1 ak.2 (oJ q2 eO) (oJ q2 eO) (cT 4 (m3 q2 (0+al.toNat) (⟨jD.iS,jD.gx,jD.gI,((bL.tmod (3:Int)) == (0:Int))⟩:cS) (rfl:(setCells (b3 jD) 3 [.b ((bL.tmod (3:Int)) == (0:Int))])=b3 (⟨jD.iS,jD.gx,jD.gI,((bL.tmod (3:Int)) == (0:Int))⟩:cS)))) (aq 4 mA ((((ad.set (0+al.toNat) (⟨r2,eR.gx,eR.gI,eR.iA⟩:cS)).set (0+al.toNat) (⟨dX.iS,R (aX+1),dX.gI,dX.iA⟩:cS)).set (0+al.toNat) (⟨ek.iS,ek.gx,R (dq+1),ek.iA⟩:cS)).set (0+al.toNat) (⟨jD.iS,jD.gx,jD.gI,((bL.tmod (3:Int)) == (0:Int))⟩:cS))) (xT (xT (xT (ho ad al (⟨r2,eR.gx,eR.gI,eR.iA⟩:cS)) (0+al.toNat) (⟨dX.iS,R (aX+1),dX.gI,dX.iA⟩:cS)) (0+al.toNat) (⟨ek.iS,ek.gx,R (dq+1),ek.iA⟩:cS)) (0+al.toNat) (⟨jD.iS,jD.gx,jD.gI,((bL.tmod (3:Int)) == (0:Int))⟩:cS))))))) (fun h1=>.ret (a6 (mq 4 0 1) (.e2 h1 (aq 4 mA ad))))
def FE (aX:Int)(ew:aqm):Option (Int×aqm) :=SL aX 0 ew >>= fun r1 =>some (r1.1,r1.2)
theorem adv:bl (FE aX ew) (fun a=>Con bk 27 [.br 0 0 0 ew.length,.n .i64 aX] [(au 4 b3 ew)] (.n .i64 a.1) [(au 4 b3 a.2)]):=.ae fun r1 h2=>.ret (hO [(I 1),(I 1),.aT [0] [.pure] (bj [0,1,5]),(Sb.t r1),(I 2)] [0] [.pure] (.bG (aq 4 mA ew) (cK h2 abM) (aq 4 mA r1.2)))
def R0:dW (Int×Int×aqn) (Int×aqn):=⟨fun (aX,al,ad)=>dj [(fM 0 ad),(aZ 1 aX),(aZ 5 al)] [(au 3 ca ad)],fun | a=>⟨some 0,[(aZ 1 a.1)],[(au 3 ca a.2)]⟩⟩
def yS (aX al:Int)(ad:aqn):Option ((Int×Int×aqn)⊕(Int×aqn)) :=if (decide (al<((ad.length:Nat):Int)))=true then if 0<=al/\al<(ad.length:Nat) then ad[(0+al.toNat)]? >>= fun an=>(ad.set (0+al.toNat) (⟨aX,an.d4,an.h3⟩:dg))[(0+al.toNat)]? >>= fun eR=>((ad.set (0+al.toNat) (⟨aX,an.d4,an.h3⟩:dg)).set (0+al.toNat) (⟨eR.dr,R (aX+1),eR.h3⟩:dg))[(0+al.toNat)]? >>= fun dX =>some (.inl (R ((R ((R (aX+1))+1))+1),R (al+1),((ad.set (0+al.toNat) (⟨aX,an.d4,an.h3⟩:dg)).set (0+al.toNat) (⟨eR.dr,R (aX+1),eR.h3⟩:dg)).set (0+al.toNat) (⟨dX.dr,dX.d4,R ((R (aX+1))+1)⟩:dg))) else none else some (.inr (aX,ad))
def Sr (aX al:Int)(ad:aqn):Option (Int×aqn):=iter (fun w:Int×Int×aqn=>yS w.1 w.2.1 w.2.2) (aX,al,ad)
theorem abJ {aX al:Int}{ad:aqn}:bl (yS aX al ad) (dZ bk 34 1 28 [1,0,1,0,0] R0 (aX,al,ad)):=.ite (fun h1=>.aL fun h2=>.ae fun an ak=>.ae fun eR aN=>.ae fun dX bb=>.ret (let q2:=(m3 (el ca ad) (0+al.toNat) (⟨aX,an.d4,an.h3⟩:dg) (rfl:(setCells (ca an) 0 [.n .i64 aX])=ca (⟨aX,an.d4,an.h3⟩:dg)));let bL:=(R (aX+1));let q1:=(m3 q2 (0+al.toNat) (⟨eR.dr,R (aX+1),eR.h3⟩:dg) (rfl:(setCells (ca eR) 1 [.n .i64 bL])=ca (⟨eR.dr,R (aX+1),eR.h3⟩:dg)));a6 [(I 4),.ab true,.ai (ag 4 (af (.cf (ca an)) (af (.cf (ca an)) []))),(I 3),.ai (ag 4 (af (.cf (ca eR)) (af (.cf (ca eR)) []))),(I 3),.ai (ag 4 (af (.cf (ca dX)) (af (.cf (ca dX)) []))),(I 3),(I 3),.aT [0] [.cE (au 3 ca (((ad.set (0+al.toNat) (⟨aX,an.d4,an.h3⟩:dg)).set (0+al.toNat) (⟨eR.dr,R (aX+1),eR.h3⟩:dg)).set (0+al.toNat) (⟨dX.dr,dX.d4,R (bL+1)⟩:dg)))] [(fr 0 (((ad.set (0+al.toNat) (⟨aX,an.d4,an.h3⟩:dg)).set (0+al.toNat) (⟨eR.dr,R (aX+1),eR.h3⟩:dg)).set (0+al.toNat) (⟨dX.dr,dX.d4,R (bL+1)⟩:dg))),(1,ii),(5,ii)]] (.aY h1 h2.1 h2.2 (bO ca ak) (bO ca ak) h2.1 h2.2 (oJ q2 aN) (.gw (oJ q2 aN) h2.1 h2.2 (oJ q1 bb) (oJ q1 bb) (cT 3 (m3 q1 (0+al.toNat) (⟨dX.dr,dX.d4,R (bL+1)⟩:dg) (rfl:(setCells (ca dX) 2 [.n .i64 (R (bL+1))])=ca (⟨dX.dr,dX.d4,R (bL+1)⟩:dg)))) (aq 3 mz (((ad.set (0+al.toNat) (⟨aX,an.d4,an.h3⟩:dg)).set (0+al.toNat) (⟨eR.dr,R (aX+1),eR.h3⟩:dg)).set (0+al.toNat) (⟨dX.dr,dX.d4,R (bL+1)⟩:dg))) (xT (xT (ho ad al (⟨aX,an.d4,an.h3⟩:dg)) (0+al.toNat) (⟨eR.dr,R (aX+1),eR.h3⟩:dg)) (0+al.toNat) (⟨dX.dr,dX.d4,R (bL+1)⟩:dg)))))) (fun h1=>.ret (a6 (mq 4 0 1) (.e2 h1 (aq 3 mz ad))))
def FB (aX:Int)(ew:aqn):Option (Int×aqn) :=Sr aX 0 ew >>= fun r1 =>some (r1.1,r1.2)
theorem adj:bl (FB aX ew) (fun a=>Con bk 28 [.br 0 0 0 ew.length,.n .i64 aX] [(au 3 ca ew)] (.n .i64 a.1) [(au 3 ca a.2)]):=.ae fun r1 h2=>.ret (hO [(I 1),(I 1),.aT [0] [.pure] (bj [0,1,5]),(R0.t r1),(I 2)] [0] [.pure] (.bG (aq 3 mz ew) (cK h2 abJ) (aq 3 mz r1.2)))
def CE (aX:Int)(ew:aqm)(c7:aqn):Option (Int×aqm×aqn) :=FE aX ew >>= fun r1 =>if ew.length=r1.2.length then FB r1.1 c7 >>= fun aM =>if c7.length=aM.2.length then some (aM.1,r1.2,aM.2) else none else none
theorem R1:bl (CE aX ew c7) (fun a=>Con bk 12 [.agg [.br 0 0 0 ew.length,.br 1 0 0 c7.length],.n .i64 aX] [(au 4 b3 ew),(au 3 ca c7)] (.n .i64 a.1) [(au 4 b3 a.2.1),(au 3 ca a.2.2)]):=.ae fun r1 h2=>.aL fun J=>.ae fun aM ax=>.aL fun aN=>.ret (hO [(I 2),.ai (bH 3 (.call {a4:=[.row 0],c9:=[.pure],ac:=[ii,ii],r:= .n .i64 r1.1,eP:=[(au 4 b3 r1.2)],f9:=ii,gT:=[.pure],ex:=[0],ef:=false}) 1),.ai (bH 3 (.call {a4:=[.row 1],c9:=[.pure],ac:=[ii,ii],r:= .n .i64 aM.1,eP:=[(au 3 ca aM.2)],f9:=ii,gT:=[.pure],ex:=[1],ef:=false}) 1),(I 2)] [0,1] [.pure,.pure] (.gw (ej 4 mA ew) (ej 4 mA r1.2) (adv r1 h2) (ej 3 mz c7) (ej 3 mz aM.2) (adj aM ax) (aq 4 mA r1.2) (aq 3 mz aM.2)))
def Ss:dW (Int×Int×ar) (Int×ar):=⟨fun (aX,al,ad)=>dj [(fM 0 ad),(aZ 1 aX),(aZ 5 al)] [(au 1 eI ad)],fun | a=>⟨some 0,[(aZ 1 a.1)],[(au 1 eI a.2)]⟩⟩
def BT (aX al:Int)(ad:ar):Option ((Int×Int×ar)⊕(Int×ar)) :=if (decide (al<((ad.length:Nat):Int)))=true then if 0<=al/\al<(ad.length:Nat) then if (0+al.toNat)<ad.length then some (.inl (R (aX+1),R (al+1),ad.set (0+al.toNat) aX)) else none else none else some (.inr (aX,ad))
def SX (aX al:Int)(ad:ar):Option (Int×ar):=iter (fun w:Int×Int×ar=>BT w.1 w.2.1 w.2.2) (aX,al,ad)
theorem ab0 {aX al:Int}{ad:ar}:bl (BT aX al ad) (dZ bk 19 1 13 [1,0,1,0,0] Ss (aX,al,ad)):=.ite (fun h1=>.aL fun h2=>.aL fun J=>.ret (a6 [(I 4),.ab true,.ai (ag 4 (af .eb [])),(I 3),(I 3),.aT [0] [.cE (au 1 eI (ad.set (0+al.toNat) aX))] [(fr 0 (ad.set (0+al.toNat) aX)),(1,ii),(5,ii)]] (.gw h1 h2.1 h2.2 (hD eI J) (ht 1) (cT 1 (hN eI ad al aX)) (aq 1 aw (ad.set (0+al.toNat) aX)) (ho ad al aX)))) (fun h1=>.ret (a6 (mq 4 0 1) (.e2 h1 (aq 1 aw ad))))
def vf (aX:Int)(ew:ar):Option (Int×ar) :=SX aX 0 ew >>= fun r1 =>some (r1.1,r1.2)
theorem Jv:bl (vf aX ew) (fun a=>Con bk 13 [.br 0 0 0 ew.length,.n .i64 aX] [(au 1 eI ew)] (.n .i64 a.1) [(au 1 eI a.2)]):=.ae fun r1 h2=>.ret (hO [(I 1),(I 1),.aT [0] [.pure] (bj [0,1,5]),(Ss.t r1),(I 2)] [0] [.pure] (.bG (aq 1 aw ew) (cK h2 ab0) (aq 1 aw r1.2)))
def adV (az:ar)(aX:Int):dW Unit Unit:=⟨fun _=>dj [(eB 0 az),(aZ 1 aX),(aZ 5 (0:Int))] [],fun | a=>⟨some 0,[(aZ 1 aX)],[]⟩⟩
def Js (az:ar)(aX:Int):Option ((Unit)⊕(Unit)) :=if (decide ((0:Int)<(len_ eI az)))=true then if 0<=(0:Int)/\(0:Int)<az.length then none else none else some (.inr ())
def M8 (az:ar)(aX:Int):Option (Unit):=iter (fun w:Unit=>Js az aX) ()
theorem acy {az:ar}{aX:Int}:bl (Js az aX) (dZ bk 19 0 13 [1,0,1,0,0] (adV az aX) ()):=.ite (fun h1=>.aL fun h2=>.EK) (fun h1=>.ret (a6 (qh 4 1) (.e1 h1)))
def xH (az:ar)(aX:Int):aqq :=M8 az aX >>= fun r1 =>some aX
theorem M9:bl (xH az aX) (fun r=>Con bk 13 [.isl 1 (az.map eI),.n .i64 aX] [] (.n .i64 r) []):=.ae fun r1 h2=>.ret (bd [(I 1),(I 1),.aT [] [] (bj [0,1,5]),.sub (.exit 0) [(aZ 1 aX)] [],(I 2)] (.e1 (cK h2 acy)))
def SM (qA lv:Nat):dW (Int×Int×ar) (Int×ar):=⟨fun (aX,al,ad)=>dj [(0,.br 0 0 qA lv),(aZ 1 aX),(aZ 5 al)] [(au 1 eI ad)],fun | a=>⟨some 0,[(aZ 1 a.1)],[(au 1 eI a.2)]⟩⟩
def B8 (qA lv:Nat)(aX al:Int)(ad:ar):Option ((Int×Int×ar)⊕(Int×ar)) :=if (decide (al<((lv:Nat):Int)))=true then if 0<=al/\al<(lv:Nat) then if (qA+al.toNat)<ad.length then some (.inl (R (aX+1),R (al+1),ad.set (qA+al.toNat) aX)) else none else none else some (.inr (aX,ad))
def Tp (qA lv:Nat)(aX al:Int)(ad:ar):Option (Int×ar):=iter (fun w:Int×Int×ar=>B8 qA lv w.1 w.2.1 w.2.2) (aX,al,ad)
theorem acg:bl (B8 qA lv aX al ad) (dZ bk 19 1 13 [1,0,1,0,0] (SM qA lv) (aX,al,ad)):=.ite (fun h1=>.aL fun h2=>.aL fun J=>.ret (a6 [(I 4),.ab true,.ai (ag 4 (af .eb [])),(I 3),(I 3),.aT [0] [.cE (au 1 eI (ad.set (qA+al.toNat) aX))] (bj [0,1,5])] (.eU h1 h2.1 h2.2 (hD eI J) (ht 1) (cT 1 (tx (el eI ad) (qA+al.toNat) aX)) (aq 1 aw (ad.set (qA+al.toNat) aX))))) (fun h1=>.ret (a6 (mq 4 0 1) (.e2 h1 (aq 1 aw ad))))
def xF (aX:Int)(qA lv:Nat)(ew:ar):Option (Int×ar) :=Tp qA lv aX 0 ew >>= fun r1 =>some (r1.1,r1.2)
theorem MX:bl (xF aX qA lv ew) (fun a=>Con bk 13 [.br 0 0 qA lv,.n .i64 aX] [(au 1 eI ew)] (.n .i64 a.1) [(au 1 eI a.2)]):=.ae fun r1 h2=>.ret (hO [(I 1),(I 1),.aT [0] [.pure] (bj [0,1,5]),((SM qA lv).t r1),(I 2)] [0] [.pure] (.bG (aq 1 aw ew) (cK h2 acg) (aq 1 aw r1.2)))
def SN:dW (Int×Int×aqp×aql) (Int×aqp×aql):=⟨fun (aX,al,gk,bI)=>dj [(fM 0 gk),(aZ 1 aX),(aZ 5 al)] [(aS.mk 3 (gk.map (cP 0 1)) .live::(cU 1 eI bI))],fun | a=>⟨some 0,[(aZ 1 a.1)],[(aS.mk 3 (a.2.1.map (cP 0 1)) .live::(cU 1 eI a.2.2))]⟩⟩
def B9 (aX al:Int)(gk:aqp)(bI:aql):Option ((Int×Int×aqp×aql)⊕(Int×aqp×aql)) :=if (decide (al<((gk.length:Nat):Int)))=true then if 0<=al/\al<(gk.length:Nat) then gk[(0+al.toNat)]? >>= fun an=>(gk.set (0+al.toNat) (⟨(⟨((aX.tmod (3:Int)) == (0:Int)),an.cJ.bP⟩:hx),an.dl⟩:en))[(0+al.toNat)]? >>= fun eR =>eR.cJ.bP.elim (xH ([]:ar) (R (aX+1)) >>= fun bs =>eR.dl.elim (xH ([]:ar) bs >>= fun cR =>some (.inl (cR,R (al+1),gk.set (0+al.toNat) (⟨(⟨((aX.tmod (3:Int)) == (0:Int)),an.cJ.bP⟩:hx),an.dl⟩:en),bI))) fun qk =>bI[qk.1]? >>= fun l1 =>xF bs 0 qk.2 l1 >>= fun ee =>some (.inl (ee.1,R (al+1),gk.set (0+al.toNat) (⟨(⟨((aX.tmod (3:Int)) == (0:Int)),an.cJ.bP⟩:hx),an.dl⟩:en),bI.set qk.1 ee.2))) fun kB =>bI[kB.1]? >>= fun I3 =>xF (R (aX+1)) 0 kB.2 I3 >>= fun bY =>eR.dl.elim (xH ([]:ar) bY.1 >>= fun ee =>some (.inl (ee,R (al+1),gk.set (0+al.toNat) (⟨(⟨((aX.tmod (3:Int)) == (0:Int)),an.cJ.bP⟩:hx),an.dl⟩:en),bI.set kB.1 bY.2))) fun od=>(bI.set kB.1 bY.2)[od.1]? >>= fun kV =>xF bY.1 0 od.2 kV >>= fun gF =>some (.inl (gF.1,R (al+1),gk.set (0+al.toNat) (⟨(⟨((aX.tmod (3:Int)) == (0:Int)),an.cJ.bP⟩:hx),an.dl⟩:en),(bI.set kB.1 bY.2).set od.1 gF.2)) else none else some (.inr (aX,gk,bI))
def Tq (aX al:Int)(gk:aqp)(bI:aql):Option (Int×aqp×aql):=iter (fun w:Int×Int×aqp×aql=>B9 w.1 w.2.1 w.2.2.1 w.2.2.2) (aX,al,gk,bI)
theorem ach {aX al:Int}{gk:aqp}{bI:aql}:bl (B9 aX al gk bI) (dZ bk 38 1 14 [1,0,1,0,0] SN (aX,al,gk,bI)):=.ite (fun h1=>.aL fun h2=>.ae fun an ak=>.ae fun eR aN=>(let cr:=(m3 (el (cP 0 1) gk) (0+al.toNat) (⟨(⟨((aX.tmod (3:Int)) == (0:Int)),an.cJ.bP⟩:hx),an.dl⟩:en) (rfl:(setCells ((cP 0 1) an) 0 [.b ((aX.tmod (3:Int)) == (0:Int))])=(cP 0 1) (⟨(⟨((aX.tmod (3:Int)) == (0:Int)),an.cJ.bP⟩:hx),an.dl⟩:en)));let dq:=bO (cP 0 1) ak;let t1:aqe:=[(I 4),.ab true,.ai (ag 6 (af (.cf ((cP 0 1) an)) (af (.cf ((cP 0 1) an)) (af (.cf ((cP 0 1) an)) [])))),(I 3)];have aK:=((.aY h1 (by decide:(3:Int)≠0) h2.1 h2.2 dq dq dq h2.1 (.cM h2.2 (oJ cr aN) (oJ cr aN) (oJ cr aN))):cn _);.lD (fun a7=>.ae fun bs cu=>(let q2:=(m3 (el (cP 0 1) gk) (0+al.toNat) (⟨(⟨((aX.tmod (3:Int)) == (0:Int)),an.cJ.bP⟩:hx),an.dl⟩:en) (rfl:(setCells ((cP 0 1) an) 0 [.b ((aX.tmod (3:Int)) == (0:Int))])=(cP 0 1) (⟨(⟨((aX.tmod (3:Int)) == (0:Int)),an.cJ.bP⟩:hx),an.dl⟩:en)));let t3:aqe:=t1.aJ [.ai (ag 3 (af (.cf ((cP 0 1) eR)) (af (.cf ((cP 0 1) eR)) (af (.cf ((cP 0 1) eR)) (bH 1 (.fm 27 (.isl 1 []) (hY 2 bs)) 1)))))];have ei:=aK.aB (.eU (OJ (c8:=0) (c:=1) (sz:=1) a7) (M9 bs cu) (bx.n .i64 bs) h2.1 h2.2 (oJ q2 aN) (oJ q2 aN));.lD (fun dm=>.ae fun cR et=>.ret (a6 (t3.aJ [.ai (ag 3 (af (.cf ((cP 0 1) eR)) (af (.cf ((cP 0 1) eR)) (bH 1 (.fm 34 (.isl 1 []) (hY 2 cR)) 1)))),(I 3),.aT [0] [.bq (aS.mk 3 ((gk.set (0+al.toNat) (⟨(⟨((aX.tmod (3:Int)) == (0:Int)),an.cJ.bP⟩:hx),an.dl⟩:en)).map (cP 0 1)) .live::(cU 1 eI bI))] [(fr 0 (gk.set (0+al.toNat) (⟨(⟨((aX.tmod (3:Int)) == (0:Int)),an.cJ.bP⟩:hx),an.dl⟩:en))),(1,ii),(5,ii)]]) (ei.aB (.db (OJ (c8:=0) (c:=1) (sz:=1) dm) (M9 cR et) (bx.n .i64 cR) (fQ (lc (b1:=(b4 [0])) 3 .live (cP 0 1) (m3 (el (cP 0 1) gk) (0+al.toNat) (⟨(⟨((aX.tmod (3:Int)) == (0:Int)),an.cJ.bP⟩:hx),an.dl⟩:en) (rfl:(setCells ((cP 0 1) an) 0 [.b ((aX.tmod (3:Int)) == (0:Int))])=(cP 0 1) (⟨(⟨((aX.tmod (3:Int)) == (0:Int)),an.cJ.bP⟩:hx),an.dl⟩:en))) (fun x=>(n0 (rfl:(b4 [0]) 0=some 0)) x)) (eg (b4 [0]) 1 kC bI)) (ho gk al (⟨(⟨((aX.tmod (3:Int)) == (0:Int)),an.cJ.bP⟩:hx),an.dl⟩:en)))))) (fun qk dm=>.ae fun l1 et=>.ae fun ee hf=>.ret (a6 (t3.aJ [.ai (ag 3 (af (.cf ((cP 0 1) eR)) (af (.cf ((cP 0 1) eR)) (bH 1 (.fm 34 (.br 0 (qk.1+1) 0 qk.2) (.call {a4:=[.ao 0 (qk.1+1) (cg 1 eI l1)],c9:=[.pure],ac:=[.bf (.bV (.at_ 0 0 qk.2)),ii],r:= .n .i64 ee.1,eP:=[(au 1 eI ee.2)],f9:=ii,gT:=[.pure],ex:=[0],ef:=false})) 1)))),(I 3),.aT [0] [.bq (aS.mk 3 ((gk.set (0+al.toNat) (⟨(⟨((aX.tmod (3:Int)) == (0:Int)),an.cJ.bP⟩:hx),an.dl⟩:en)).map (cP 0 1)) .live::(cU 1 eI (bI.set qk.1 ee.2)))] [(fr 0 (gk.set (0+al.toNat) (⟨(⟨((aX.tmod (3:Int)) == (0:Int)),an.cJ.bP⟩:hx),an.dl⟩:en))),(1,ii),(5,ii)]]) (ei.aB (.aY (lV (c8:=0) (c:=1) (sz:=1) dm) (rfl:k7 [.ao 0 (qk.1+1) (cg 1 eI l1)] 0 0=some (0,(qk.1+1))) (rfl:qk.2=qk.2) (j9 (fS 1 eI bI) iO et) (ej 1 aw l1) (ej 1 aw ee.2) (MX ee hf) (fQ (lc (b1:=(b4 [0])) 3 .live (cP 0 1) (m3 (el (cP 0 1) gk) (0+al.toNat) (⟨(⟨((aX.tmod (3:Int)) == (0:Int)),an.cJ.bP⟩:hx),an.dl⟩:en) (rfl:(setCells ((cP 0 1) an) 0 [.b ((aX.tmod (3:Int)) == (0:Int))])=(cP 0 1) (⟨(⟨((aX.tmod (3:Int)) == (0:Int)),an.cJ.bP⟩:hx),an.dl⟩:en))) (fun x=>(n0 (rfl:(b4 [0]) 0=some 0)) x)) (mC (b1:=(b4 [0])) (pw (fS 1 eI bI) qk.1 (el eI ee.2)) (l9 kC))) (.e1 (ho gk al (⟨(⟨((aX.tmod (3:Int)) == (0:Int)),an.cJ.bP⟩:hx),an.dl⟩:en))))))))) (fun kB a7=>.ae fun I3 cu=>.ae fun bY eO=>(let bL:=(m3 (el (cP 0 1) gk) (0+al.toNat) (⟨(⟨((aX.tmod (3:Int)) == (0:Int)),an.cJ.bP⟩:hx),an.dl⟩:en) (rfl:(setCells ((cP 0 1) an) 0 [.b ((aX.tmod (3:Int)) == (0:Int))])=(cP 0 1) (⟨(⟨((aX.tmod (3:Int)) == (0:Int)),an.cJ.bP⟩:hx),an.dl⟩:en)));let t3:aqe:=t1.aJ [.ai (ag 3 (af (.cf ((cP 0 1) eR)) (af (.cf ((cP 0 1) eR)) (af (.cf ((cP 0 1) eR)) (bH 1 (.fm 27 (.br 0 (kB.1+1) 0 kB.2) (.call {a4:=[.ao 0 (kB.1+1) (cg 1 eI I3)],c9:=[.pure],ac:=[.bf (.bV (.at_ 0 0 kB.2)),ii],r:= .n .i64 bY.1,eP:=[(au 1 eI bY.2)],f9:=ii,gT:=[.pure],ex:=[0],ef:=false})) 1)))))];have ei:=aK.aB (.aY (lV (c8:=0) (c:=1) (sz:=1) a7) (rfl:k7 [.ao 0 (kB.1+1) (cg 1 eI I3)] 0 0=some (0,(kB.1+1))) (rfl:kB.2=kB.2) (j9 (fS 1 eI bI) iO cu) (ej 1 aw I3) (ej 1 aw bY.2) (MX bY eO) h2.1 (.bG h2.2 (oJ bL aN) (oJ bL aN)));.lD (fun eC=>.ae fun ee hf=>.ret (a6 (t3.aJ [.ai (ag 3 (af (.cf ((cP 0 1) eR)) (af (.cf ((cP 0 1) eR)) (bH 1 (.fm 34 (.isl 1 []) (hY 2 ee)) 1)))),(I 3),.aT [0] [.bq (aS.mk 3 ((gk.set (0+al.toNat) (⟨(⟨((aX.tmod (3:Int)) == (0:Int)),an.cJ.bP⟩:hx),an.dl⟩:en)).map (cP 0 1)) .live::(cU 1 eI (bI.set kB.1 bY.2)))] [(fr 0 (gk.set (0+al.toNat) (⟨(⟨((aX.tmod (3:Int)) == (0:Int)),an.cJ.bP⟩:hx),an.dl⟩:en))),(1,ii),(5,ii)]]) (ei.aB (.db (OJ (c8:=0) (c:=1) (sz:=1) eC) (M9 ee hf) (bx.n .i64 ee) (fQ (lc (b1:=(b4 [0])) 3 .live (cP 0 1) (m3 (el (cP 0 1) gk) (0+al.toNat) (⟨(⟨((aX.tmod (3:Int)) == (0:Int)),an.cJ.bP⟩:hx),an.dl⟩:en) (rfl:(setCells ((cP 0 1) an) 0 [.b ((aX.tmod (3:Int)) == (0:Int))])=(cP 0 1) (⟨(⟨((aX.tmod (3:Int)) == (0:Int)),an.cJ.bP⟩:hx),an.dl⟩:en))) (fun x=>(n0 (rfl:(b4 [0]) 0=some 0)) x)) (mC (b1:=(b4 [0])) (pw (fS 1 eI bI) kB.1 (el eI bY.2)) (l9 kC))) (ho gk al (⟨(⟨((aX.tmod (3:Int)) == (0:Int)),an.cJ.bP⟩:hx),an.dl⟩:en)))))) (fun od eC=>.ae fun kV hf=>.ae fun gF hI=>.ret (let q1:=pw (fS 1 eI bI) kB.1 (el eI bY.2);a6 (t3.aJ [.ai (ag 3 (af (.cf ((cP 0 1) eR)) (af (.cf ((cP 0 1) eR)) (bH 1 (.fm 34 (.br 0 (od.1+1) 0 od.2) (.call {a4:=[.ao 0 (od.1+1) (cg 1 eI kV)],c9:=[.pure],ac:=[.bf (.bV (.at_ 0 0 od.2)),ii],r:= .n .i64 gF.1,eP:=[(au 1 eI gF.2)],f9:=ii,gT:=[.pure],ex:=[0],ef:=false})) 1)))),(I 3),.aT [0] [.bq (aS.mk 3 ((gk.set (0+al.toNat) (⟨(⟨((aX.tmod (3:Int)) == (0:Int)),an.cJ.bP⟩:hx),an.dl⟩:en)).map (cP 0 1)) .live::(cU 1 eI ((bI.set kB.1 bY.2).set od.1 gF.2)))] [(fr 0 (gk.set (0+al.toNat) (⟨(⟨((aX.tmod (3:Int)) == (0:Int)),an.cJ.bP⟩:hx),an.dl⟩:en))),(1,ii),(5,ii)]]) (ei.aB (.aY (lV (c8:=0) (c:=1) (sz:=1) eC) (rfl:k7 [.ao 0 (od.1+1) (cg 1 eI kV)] 0 0=some (0,(od.1+1))) (rfl:od.2=od.2) (j9 q1 iO hf) (ej 1 aw kV) (ej 1 aw gF.2) (MX gF hI) (fQ (lc (b1:=(b4 [0])) 3 .live (cP 0 1) (m3 (el (cP 0 1) gk) (0+al.toNat) (⟨(⟨((aX.tmod (3:Int)) == (0:Int)),an.cJ.bP⟩:hx),an.dl⟩:en) (rfl:(setCells ((cP 0 1) an) 0 [.b ((aX.tmod (3:Int)) == (0:Int))])=(cP 0 1) (⟨(⟨((aX.tmod (3:Int)) == (0:Int)),an.cJ.bP⟩:hx),an.dl⟩:en))) (fun x=>(n0 (rfl:(b4 [0]) 0=some 0)) x)) (mC (b1:=(b4 [0])) (pw q1 od.1 (el eI gF.2)) (l9 kC))) (.e1 (ho gk al (⟨(⟨((aX.tmod (3:Int)) == (0:Int)),an.cJ.bP⟩:hx),an.dl⟩:en))))))))))) (fun h1=>.ret (a6 [(I 4),.ab false,.aT [0] [.bq (aS.mk 3 (gk.map (cP 0 1)) .live::(cU 1 eI bI))] (bj [1])] (.e2 h1 (fQ (lc (b1:=(b4 [0])) 3 .live (cP 0 1) (el (cP 0 1) gk) (fun x=>(n0 (rfl:(b4 [0]) 0=some 0)) x)) (eg (b4 [0]) 1 kC bI)))))
def C7 (aX:Int)(Ei:aqp)(ng:aql):Option (Int×aqp×aql) :=Tq aX 0 Ei ng >>= fun r1 =>some (r1.1,r1.2.1,r1.2.2)
theorem adW:bl (C7 aX Ei ng) (fun a=>Con bk 14 [.br 0 0 0 Ei.length,.n .i64 aX] [(aS.mk 3 (Ei.map (cP 0 1)) .live::(cU 1 eI ng))] (.n .i64 a.1) [(aS.mk 3 (a.2.1.map (cP 0 1)) .live::(cU 1 eI a.2.2))]):=.ae fun r1 h2=>.ret (let q1:=b4 [0];hO [(I 1),(I 1),.aT [0] [.bq (aS.mk 3 (Ei.map (cP 0 1)) .live::(cU 1 eI ng))] (bj [0,1,5]),(SN.t r1),(I 2)] [0] [.bq (aS.mk 3 (r1.2.1.map (cP 0 1)) .live::(cU 1 eI r1.2.2))] (.bG (fQ (lc (b1:=q1) 3 .live (cP 0 1) (el (cP 0 1) Ei) (fun x=>(n0 (rfl:q1 0=some 0)) x)) (eg q1 1 kC ng)) (cK h2 ach) (fQ (lc (b1:=q1) 3 .live (cP 0 1) (el (cP 0 1) r1.2.1) (fun x=>(n0 (rfl:q1 0=some 0)) x)) (eg q1 1 kC r1.2.2))))
def Tr (az:ar):dW (Int×Int) ((Int)⊕(Unit)):=⟨fun (aX,al)=>dj [(eB 0 az),(aZ 1 aX),(aZ 5 al)] [],fun | .inl a=>⟨some 0,[(aZ 1 a)],[]⟩ | .inr a=>⟨none,[(aZ 4 (-1:Int))],[]⟩⟩
def Cm (az:ar)(aX al:Int):Option ((Int×Int)⊕((Int)⊕(Unit))) :=if (decide (al<(len_ eI az)))=true then if 0<=al/\al<az.length then az[al.toNat]? >>= fun an =>if (an != aX)=true then some (.inr (.inr ())) else some (.inl (R (aX+1),R (al+1))) else none else some (.inr (.inl aX))
def Ug (az:ar)(aX al:Int):Option ((Int)⊕(Unit)):=iter (fun w:Int×Int=>Cm az w.1 w.2) (aX,al)
theorem RR:bl (Cm az aX al) (dZ bk 21 0 29 [1,0,1,0,0] (Tr az) (aX,al)):=.ite (fun h1=>.aL fun h2=>.ae fun an ak=>(let t1:aqe:=[(I 4),.ab true,.ai (gY 3 an 2)];have aK:=((.cM h1 h2.1 (c3 eI h2.2) (bO eI ak)):cn _);.ite (fun ax=>.ret (a6 (t1.append (lm 1 4)) (aK.aB (.e1 ax)))) (fun ax=>.ret (a6 (t1.aJ [.ab false,(I 3),(I 3),.aT [] [] (bj [0,1,5])]) (aK.aB (.e1 ax)))))) (fun h1=>.ret (a6 (qh 4 1) (.e1 h1)))
def Di (az:ar)(aX:Int):aqq :=Ug az aX 0 >>= fun r1 =>match r1 with | .inl bm=>(some bm) | .inr bm=>(some (-1))
theorem Uh:bl (Di az aX) (fun r=>Con bk 29 [.isl 1 (az.map eI),.n .i64 aX] [] (.n .i64 r) []):=by
 unfold Di
 exact .ae fun r1 h2 =>
  (let t1:aqe:=[(I 1),(I 1),.aT [] [] (bj [0,1,5])];
  (by
  rcases r1 with bm|bm
  ·exact(.ret (bd (t1.aJ [.sub (.exit 0) [(aZ 1 bm)] [],(I 2)]) (.e1 (cK h2 RR))))
  exact(.ret (bd (t1.aJ [((Tr az).t (.inr bm))]) (.e1 (cK h2 RR))))))
def Ts (az:aqc):dW (Int×Int) ((Int)⊕(Unit)):=⟨fun (aX,al)=>dj [(0,.isl 3 (az.map aE)),(aZ 1 aX),(aZ 5 al)] [],fun | .inl a=>⟨some 0,[(aZ 1 a)],[]⟩ | .inr a=>⟨none,[(aZ 4 (-1:Int))],[]⟩⟩
def Cn (az:aqc)(aX al:Int):Option ((Int×Int)⊕((Int)⊕(Unit))) :=if (decide (al<(len_ aE az)))=true then if 0<=al/\al<az.length then az[al.toNat]? >>= fun an =>if (an.cJ.cD == ((aX.tmod (3:Int)) == (0:Int)))=true then Di an.cJ.bP (R (aX+1)) >>= fun a9 =>if (decide (a9<0))=true then some (.inr (.inr ())) else Di an.dl a9 >>= fun bs =>if (decide (bs<0))=true then some (.inr (.inr ())) else some (.inl (bs,R (al+1))) else some (.inr (.inr ())) else none else some (.inr (.inl aX))
def Ui (az:aqc)(aX al:Int):Option ((Int)⊕(Unit)):=iter (fun w:Int×Int=>Cn az w.1 w.2) (aX,al)
theorem RS:bl (Cn az aX al) (dZ bk 44 0 15 [1,0,1,0,0] (Ts az) (aX,al)):=.ite (fun h1=>.aL fun h2=>.ae fun an ak=>(let t1:aqe:=[(I 4),.ab true,.ai (bH 5 (.cf (aE an)) 4)];have aK:=((.db h1 h2.1 (c3 aE h2.2) (bO aE ak) (by decide:(3:Int)≠0)):cn _);.ite (fun ax=>.ae fun a9 a7=>(let t3:aqe:=t1.aJ [.ab false,(I 3),.ai (ag 5 (af (.cf (aE an)) (bH 1 (hY 2 a9) 1))),(I 2)];have ei:=aK.aB (.eJ (bW ax) h2.1 (c3 aE h2.2) (bO aE ak) (Uh a9 a7) (bx.n .i64 a9));.ite (fun bb=>.ret (a6 (t3.append (lm 1 4)) (ei.aB (.e1 bb)))) (fun bb=>.ae fun bs cu=>(let t5:aqe:=t3.aJ [.ab false,.ai (ag 4 (af (.cf (aE an)) (bH 1 (hY 2 bs) 1))),(I 2)];have mw:=ei.aB (.eJ bb h2.1 (c3 aE h2.2) (bO aE ak) (Uh bs cu) (bx.n .i64 bs));.ite (fun dm=>.ret (a6 (t5.append (lm 1 4)) (mw.aB (.e1 dm)))) (fun dm=>.ret (a6 (t5.aJ [.ab false,(I 3),.aT [] [] (bj [0,1,5])]) (mw.aB (.e1 dm)))))))) (fun ax=>.ret (a6 (t1.append (lm 1 4)) (aK.aB (.e1 (b5 ax))))))) (fun h1=>.ret (a6 (qh 4 1) (.e1 h1)))
def wq (az:aqc)(aX:Int):aqq :=Ui az aX 0 >>= fun r1 =>match r1 with | .inl bm=>(some bm) | .inr bm=>(some (-1))
theorem Jz:bl (wq az aX) (fun r=>Con bk 15 [.isl 3 (az.map aE),.n .i64 aX] [] (.n .i64 r) []):=by
 unfold wq
 exact .ae fun r1 h2 =>
  (let t1:aqe:=[(I 1),(I 1),.aT [] [] (bj [0,1,5])];
  (by
  rcases r1 with bm|bm
  ·exact(.ret (bd (t1.aJ [.sub (.exit 0) [(aZ 1 bm)] [],(I 2)]) (.e1 (cK h2 RS))))
  exact(.ret (bd (t1.aJ [((Ts az).t (.inr bm))]) (.e1 (cK h2 RS))))))
def adX (az:aqc)(aX:Int):dW Unit Unit:=⟨fun _=>dj [(0,.isl 3 (az.map aE)),(aZ 1 aX),(aZ 5 (0:Int))] [],fun | a=>⟨some 0,[(aZ 1 aX)],[]⟩⟩
def Jt (az:aqc)(aX:Int):Option ((Unit)⊕(Unit)) :=if (decide ((0:Int)<(len_ aE az)))=true then if 0<=(0:Int)/\(0:Int)<az.length then none else none else some (.inr ())
def Na (az:aqc)(aX:Int):Option (Unit):=iter (fun w:Unit=>Jt az aX) ()
theorem acz {az:aqc}{aX:Int}:bl (Jt az aX) (dZ bk 38 0 14 [1,0,1,0,0] (adX az aX) ()):=.ite (fun h1=>.aL fun h2=>.EK) (fun h1=>.ret (a6 (qh 4 1) (.e1 h1)))
def Dj (az:aqc)(aX:Int):aqq :=Na az aX >>= fun r1 =>some aX
theorem aeB:bl (Dj az aX) (fun r=>Con bk 14 [.isl 3 (az.map aE),.n .i64 aX] [] (.n .i64 r) []):=.ae fun r1 h2=>.ret (bd [(I 1),(I 1),.aT [] [] (bj [0,1,5]),.sub (.exit 0) [(aZ 1 aX)] [],(I 2)] (.e1 (cK h2 acz)))
def Jl (Lo:c6)(Lp Lq:ar):aqo :=if (decide ((1048576:Int)<(len_ eI Lp)))=true then some true else if (decide ((1048576:Int)<(len_ eI Lq)))=true then some true else FG Lo 1048576 >>= fun bc =>if (decide (bc<0))=true then some true else Fx Lo >>= fun a9 =>De Lp >>= fun bS =>De Lq >>= fun ck =>FA (⟨a9.1,a9.2⟩:c6) bS ck >>= fun dY =>CD (⟨a9.1,a9.2⟩:c6) bS ck >>= fun fB =>match fB with | .inl fF=>(if fF.1.all (vv fF.2)=true then Dy (fF.1.map (kQ fF.2)) dY.1 >>= fun fb =>if fb=true then if (true == dY.2)=true then C3 (⟨a9.1,a9.2⟩:c6) (⟨a9.1,a9.2⟩:c6) >>= fun uY =>if uY=true then vj bS bS >>= fun Iq =>if Iq=true then vj ck ck >>= fun mY =>if mY=true then CE 1 a9.1 a9.2 >>= fun vX =>if a9.1.length=vX.2.1.length then if a9.2.length=vX.2.2.length then vf vX.1 bS >>= fun EW =>vf EW.1 ck >>= fun EX =>if (decide (EX.1<0))=true then some false else C7 1 fF.1 fF.2 >>= fun jq =>if 0+fF.1.length<=jq.2.1.length then if ((jq.2.1.drop 0).take fF.1.length).all (vv jq.2.2)=true then wq (((jq.2.1.drop 0).take fF.1.length).map (kQ jq.2.2)) 1 >>= fun ud =>if (decide (ud<0))=true then some false else if (ud != jq.1)=true then some false else some true else none else none else none else none else some false else some false else some false else some false else some false else none) | .inr fF=>(Dy ([]:aqc) dY.1 >>= fun gF =>if gF=true then if (false == dY.2)=true then C3 (⟨a9.1,a9.2⟩:c6) (⟨a9.1,a9.2⟩:c6) >>= fun l2 =>if l2=true then vj bS bS >>= fun pf =>if pf=true then vj ck ck >>= fun Ir =>if Ir=true then CE 1 a9.1 a9.2 >>= fun vY =>if a9.1.length=vY.2.1.length then if a9.2.length=vY.2.2.length then vf vY.1 bS >>= fun EY =>vf EY.1 ck >>= fun EZ =>if (decide (EZ.1<0))=true then some false else Dj ([]:aqc) 1 >>= fun AV =>wq ([]:aqc) 1 >>= fun ue =>if (decide (ue<0))=true then some false else if (ue != AV)=true then some false else some true else none else none else some false else some false else some false else some false else some false)
set_option maxHeartbeats 4000000 in
theorem abN:bl (Jl Lo Lp Lq) (fun r=>Con bk 3 [.agg (hE Lo),.isl 1 (Lp.map eI),.isl 1 (Lq.map eI)] [] (.b r) []):=by
 unfold Jl
 exact .ite (fun h1 =>
  .ret (bd [(I 2),(I 3),.ab true,(I 1)] (.e1 h1)))
  (fun h1 =>
  (let t1:aqe:=[(I 2),(I 3),.ab false,(I 3)];
  .ite (fun h2 =>
  .ret (bd (t1.aJ [.ab true,(I 1)]) (.e2 h1 h2)))
  (fun h2 =>
  .ae fun bc ak =>
  (let t2:aqe:=t1.aJ [.ab false,(I 1),.ai (bH 2 (hY 2 bc) 1),(I 2)];
  have eQ:=((.cM h1 h2 (ady bc ak) (bx.n .i64 bc)):cn _);
  .ite (fun ax =>
  .ret (bd (t2.aJ [.ab true,(I 1)]) (eQ.aB (.e1 ax))))
  (fun ax =>
  .ae fun a9 a7 =>
  .ae fun bS ch =>
  .ae fun ck dm =>
  .ae fun dY eC =>
  .ae fun fB gU =>
  (let t4:aqe:=t2.aJ [.ab false,.ai (ag 1 (af (.call (EQ a9.1 a9.2)) (ag 1 (af (.call (rC bS)) (ag 1 (af (.call (rC ck)) (af (.s8 20 (.s8 18 (.s8 16 (.call {ac:=[.bf (.agg [.ep (a9.1.map b3),.ep (a9.2.map ca)]),.bf (.bV (.ep (bS.map eI))),.bf (.bV (.ep (ck.map eI)))],r:= .dd [.isl 3 (dY.1.map aE),.b dY.2],ef:=false,ex:=[16,18,20]})))) (ag 5 [])))))))),.ai (bH 1 (.call (EQ a9.1 a9.2)) 2),.ai (bH 1 (.call (rC bS)) 1),.ai (bH 1 (.call (rC ck)) 1)];
  have nF:=eQ.aB (.aY ax (fQ (ld (h6 [16]) 4 zy a9.1) (fQ (ld (h6 [16]) 3 zr a9.2) (oo (b1:=(h6 [16]))))) ((ls rfl (ls rfl wF)):mE [cg 4 b3 a9.1,cg 3 ca a9.2]) (Cb a9 a7) (bx.agg (hq (lE a9.1) (hq (bx.br 0 1 0 a9.2.length) mm))) ((rb (nn (m7 zz) (nn (m7 zs) uv)) re):oO [[cg 4 b3 a9.1,cg 3 ca a9.2]]) (ej 1 aw bS) (tk bS ch) (.aY (lE bS) (oP bS) (ej 1 aw ck) (tk ck dm) (lE ck) (oP ck) (f5 b3 a9.1) (fo b3 a9.1) (.aY (df mA a9.1) (f5 ca a9.2) (fo ca a9.2) (df mz a9.2) (f5 eI bS) (fo eI bS) (df aw bS) (f5 eI ck) (.aY (fo eI ck) (df aw ck) (ade dY eC) (fQ (ld (h6 [28]) 4 zy a9.1) (fQ (ld (h6 [28]) 3 zr a9.2) (oo (b1:=(h6 [28]))))) ((ls rfl (ls rfl wF)):mE [cg 4 b3 a9.1,cg 3 ca a9.2]) (Cb a9 a7) (bx.agg (hq (lE a9.1) (hq (bx.br 0 1 0 a9.2.length) mm))) ((rb (nn (m7 zz) (nn (m7 zs) uv)) re):oO [[cg 4 b3 a9.1,cg 3 ca a9.2]]) (.aY (ej 1 aw bS) (tk bS ch) (lE bS) (oP bS) (ej 1 aw ck) (tk ck dm) (lE ck) (oP ck) (.aY (f5 b3 a9.1) (fo b3 a9.1) (df mA a9.1) (f5 ca a9.2) (fo ca a9.2) (df mz a9.2) (f5 eI bS) (fo eI bS) (.cM (df aw bS) (f5 eI ck) (fo eI ck) (df aw ck))))))));
  (by
  rcases fB with fF|fF
  ·exact(.aL fun gl =>
  .ae fun fb gn =>
  (let mL:=cU 1 eI fF.2;let nf:=au 3 (cP 40 1) fF.1;let t6:aqe:=t4.aJ [.ai (bH 3 (.call {a4:=[],c9:=[],ac:=[.bf (.agg [.ep (a9.1.map b3),.ep (a9.2.map ca)]),.bf (.bV (.ep (bS.map eI))),.bf (.bV (.ep (ck.map eI)))],r:= .dd [.br 0 0 0 fF.1.length,.b true],eP:=[(aS.mk 3 (fF.1.map (cP 0 1)) .live::mL)],f9:= .comp [.bV .id,.bV .id],gT:=[.bq (aS.mk 3 (fF.1.map (cP 40 1)) .live::mL)],ex:=[28,32,35],ef:=true}) 5)];
  have xv:=nF.aB (.aY (fQ (lc (b1:=(h6 [40])) 3 .live (cP 40 1) (el (cP 0 1) fF.1) (fun x=>(n0 (rfl:(h6 [40]) 0=some 40)) x)) (eg (h6 [40]) 1 kC fF.2)) ((ls rfl (wA (fS 1 eI fF.2))):mE (aS.mk 3 (fF.1.map (cP 0 1)) .live::mL)) (Jq (.inl fF) gU) (ri (hq (lE fF.1) (hq (bx.b true) mm))) ((rb (nn (m7 (Ka _ _)) (Kk vC)) re):oO [(aS.mk 3 (fF.1.map (cP 0 1)) .live::mL)]) (rfl:d8 (some (aS.mk 3 (fF.1.map (cP 40 1)) .live::mL)) 0=some (aS.mk 3 (fF.1.map (cP 40 1)) .live)) (rfl:_=true) (fo (cP 40 1) fF.1) (.cM (df d5 (fF.1.map (kQ fF.2))) (uA (c8:=40) (jY:=nf++mL) (bJ:=j8) (sz:=3) (g:=aE) (el (cP 40 1) fF.1) (fun _=>rfl) (fun x U=>(DW (c8:=40) (c:=1) (bJ:=j8) (nN:=nf) (fS 1 eI fF.2) rfl iO rfl (tE gl x U))) (eV fF.1)) (Dd fb gn) (bx.b fb)));
  .ite (fun eZ =>
  (let t8:aqe:=t6.aJ [.ai (ag 2 (af (.call {ac:=[.bf (.bV (.view 40 (aS.mk 3 (fF.1.map (cP 40 1)) .live) ((fF.1.map (kQ fF.2)).map aE))),ii],r:= .b fb,ef:=true,ex:=[40]}) (kf 5)))];
  have I4:=xv.aB (.cM (bW eZ) (bW eZ) (bW eZ) (bW eZ));
  .ite (fun h5 =>
  .ae fun uY nd =>
  (let t10:aqe:=t8.aJ [.ab false,.ai (ag 2 (af (.call (EQ a9.1 a9.2)) (af (.call {ac:=[.bf (.agg [.ep (a9.1.map b3),.ep (a9.2.map ca)]),.bf (.agg [.ep (a9.1.map b3),.ep (a9.2.map ca)])],r:= .b uY,ef:=true,ex:=[28,57]}) (ag 1 []))))];
  have Is:=I4.aB (.aY (bW h5) (fQ (ld (h6 [57]) 4 zy a9.1) (fQ (ld (h6 [57]) 3 zr a9.2) (oo (b1:=(h6 [57]))))) ((ls rfl (ls rfl wF)):mE [cg 4 b3 a9.1,cg 3 ca a9.2]) (Cb a9 a7) (bx.agg (hq (lE a9.1) (hq (bx.br 0 1 0 a9.2.length) mm))) ((rb (nn (m7 zz) (nn (m7 zs) uv)) re):oO [[cg 4 b3 a9.1,cg 3 ca a9.2]]) (f5 b3 a9.1) (fo b3 a9.1) (.aY (df mA a9.1) (f5 ca a9.2) (fo ca a9.2) (df mz a9.2) (f5 b3 a9.1) (fo b3 a9.1) (df mA a9.1) (f5 ca a9.2) (.cM (fo ca a9.2) (df mz a9.2) (SW uY nd) (bx.b uY))));
  .ite (fun uc =>
  .ae fun Iq uW =>
  (let t12:aqe:=t10.aJ [.ab false,.ai (ag 2 (af (.call (rC bS)) (af (.call {ac:=[.bf (.bV (.ep (bS.map eI))),.bf (.bV (.ep (bS.map eI)))],r:= .b Iq,ef:=true,ex:=[32,62]}) (ag 1 []))))];
  have It:=Is.aB (.aY (bW uc) (ej 1 aw bS) (tk bS ch) (lE bS) (oP bS) (f5 eI bS) (fo eI bS) (df aw bS) (.db (f5 eI bS) (fo eI bS) (df aw bS) (Dc Iq uW) (bx.b Iq)));
  .ite (fun s0 =>
  .ae fun mY u0 =>
  (let t14:aqe:=t12.aJ [.ab false,.ai (ag 2 (af (.call (rC ck)) (af (.call {ac:=[.bf (.bV (.ep (ck.map eI))),.bf (.bV (.ep (ck.map eI)))],r:= .b mY,ef:=true,ex:=[35,67]}) (ag 1 []))))];
  have Iu:=It.aB (.aY (bW s0) (ej 1 aw ck) (tk ck dm) (lE ck) (oP ck) (f5 eI ck) (fo eI ck) (df aw ck) (.db (f5 eI ck) (fo eI ck) (df aw ck) (Dc mY u0) (bx.b mY)));
  .ite (fun oR =>
  .ae fun vX Io =>
  .aL fun amo =>
  .aL fun Z2 =>
  .ae fun EW amp =>
  .ae fun EX qj =>
  (let t16:aqe:=t14.aJ [.ab false,(I 1),.ai (bH 2 (.call {a4:=[.ao 28 0 (cg 4 b3 a9.1),.ao 28 1 (cg 3 ca a9.2)],c9:=[.pure,.pure],ac:=[.bf (.agg [.at_ 0 0 a9.1.length,.at_ 1 0 a9.2.length]),ii],r:= .n .i64 vX.1,eP:=[(au 4 b3 vX.2.1),(au 3 ca vX.2.2)],f9:=ii,gT:=[.pure,.pure],ex:=[28],ef:=false}) 1),.ai (bH 2 (.call {a4:=[.row 32],c9:=[.pure],ac:=[ii,ii],r:= .n .i64 EW.1,eP:=[(au 1 eI EW.2)],f9:=ii,gT:=[.pure],ex:=[32],ef:=false}) 1),.ai (bH 2 (.call {a4:=[.row 35],c9:=[.pure],ac:=[ii,ii],r:= .n .i64 EX.1,eP:=[(au 1 eI EX.2)],f9:=ii,gT:=[.pure],ex:=[35],ef:=false}) 1)];
  have Iv:=Iu.aB (.aY (bW oR) (by decide:0≠1) (rfl:k7 [.ao 28 0 (cg 4 b3 a9.1),.ao 28 1 (cg 3 ca a9.2)] 0 0=some (28,0)) (eV a9.1) (rfl:k7 [.ao 28 0 (cg 4 b3 a9.1),.ao 28 1 (cg 3 ca a9.2)] 1 0=some (28,1)) (eV a9.2) (rfl:d8 (some [cg 4 b3 a9.1,cg 3 ca a9.2]) 0=some (cg 4 b3 a9.1)) (ej 4 mA a9.1) (.aY (rfl:d8 (some [cg 4 b3 a9.1,cg 3 ca a9.2]) 1=some (cg 3 ca a9.2)) (ej 3 mz a9.2) (ej 4 mA vX.2.1) (ej 3 mz vX.2.2) (R1 vX Io) (ej 1 aw bS) (ej 1 aw EW.2) (Jv EW amp) (.bG (ej 1 aw ck) (ej 1 aw EX.2) (Jv EX qj))));
  .ite (fun u1 =>
  .ret (bd (t16.aJ [.ai (ag 3 (dU 4 (af (.ab true) (ag 1 (dU 3 (ag 1 [])))))),.ab true,(I 1)]) (Iv.aB (.aY u1 u1 u1 u1 u1 cc cc cc (.e1 cc)))))
  (fun u1 =>
  .ae fun jq amq =>
  .aL fun Iw =>
  .aL fun yy =>
  .ae fun ud Z5 =>
  (let dq:=cU 1 eI jq.2.2;let eH:=cU 1 eI fF.2;let gW:=au 3 (cP 40 1) jq.2.1;let ie:=el (cP 40 1) jq.2.1;let kq:=au 3 (cP 40 1) fF.1;let t18:aqe:=t16.aJ [.ai (ag 5 (af (.call {ac:=[.bf (.bV (.view 40 (aS.mk 3 (fF.1.map (cP 40 1)) .live) ((fF.1.map (kQ fF.2)).map aE))),ii],r:= .b fb,ef:=true,ex:=[40]}) (ag 1 (af (.ab false) (kf 4))))),.ab false,(I 1),.ai (bH 2 (.call {a4:=[.row 40],c9:=[.bq (aS.mk 3 (fF.1.map (cP 0 1)) .live::eH)],ac:=[ii,ii],r:= .n .i64 jq.1,eP:=[(aS.mk 3 (jq.2.1.map (cP 0 1)) .live::dq)],f9:=ii,gT:=[.bq (aS.mk 3 (jq.2.1.map (cP 40 1)) .live::dq)],ex:=[40],ef:=false}) 1),(I 1),.ai (bH 2 (.call {ac:=[.bf (.bV (.view 40 (aS.mk 3 (jq.2.1.map (cP 40 1)) .live) ((((jq.2.1.drop 0).take fF.1.length).map (kQ jq.2.2)).map aE))),ii],r:= .n .i64 ud,ef:=true,ex:=[40]}) 1),(I 2)];
  have AW:=Iv.aB (.aY u1 u1 u1 (rfl:d8 (some (aS.mk 3 (fF.1.map (cP 40 1)) .live::eH)) 0=some (aS.mk 3 (fF.1.map (cP 40 1)) .live)) (rfl:_=true) (fo (cP 40 1) fF.1) (df d5 (fF.1.map (kQ fF.2))) (uA (c8:=40) (jY:=kq++eH) (bJ:=j8) (sz:=3) (g:=aE) (el (cP 40 1) fF.1) (fun _=>rfl) (fun x U=>(DW (c8:=40) (c:=1) (bJ:=j8) (nN:=kq) (fS 1 eI fF.2) rfl iO rfl (tE gl x U))) (eV fF.1)) (.aY (Dd fb gn) (bx.b fb) u1 u1 (bW eZ) (bW eZ) (bW eZ) (bW eZ) (.aY (bW h5) (fQ (lc (b1:=(po [40])) 3 .live (cP 0 1) (el (cP 40 1) fF.1) (fun x=>(n0 (rfl:(po [40]) 40=some 0)) x)) (eg (po [40]) 1 kC fF.2)) ((ls rfl (wA (fS 1 eI fF.2))):mE (aS.mk 3 (fF.1.map (cP 40 1)) .live::eH)) (fQ (lc (b1:=(h6 [40])) 3 .live (cP 40 1) (el (cP 0 1) jq.2.1) (fun x=>(n0 (rfl:(h6 [40]) 0=some 40)) x)) (eg (h6 [40]) 1 kC jq.2.2)) ((ls rfl (wA (fS 1 eI jq.2.2))):mE (aS.mk 3 (jq.2.1.map (cP 0 1)) .live::dq)) (adW jq amq) (rfl:d8 (some (aS.mk 3 (jq.2.1.map (cP 40 1)) .live::dq)) 0=some (aS.mk 3 (jq.2.1.map (cP 40 1)) .live)) (rfl:_=true) (.db (sB ie Iw) (df d5 (((jq.2.1.drop 0).take fF.1.length).map (kQ jq.2.2))) (XL (c8:=40) (jY:=gW++dq) (bJ:=j8) (sz:=3) (g:=aE) ie (fun _=>rfl) 0 fF.1.length (fun x U=>(DW (c8:=40) (c:=1) (bJ:=j8) (nN:=gW) (fS 1 eI jq.2.2) rfl iO rfl (tE yy x U)))) (Jz ud Z5) (bx.n .i64 ud)))));
  .ite (fun Ix =>
  .ret (bd (t18.aJ [.ab true,(I 1)]) (AW.aB (.e1 Ix))))
  (fun Ix =>
  .ite (fun vN =>
  .ret (bd (t18.aJ [.ab false,(I 3),.ab true,(I 1)]) (AW.aB (.e2 Ix vN))))
  (fun vN =>
  .ret (let q1:=cU 1 eI fF.2;let q2:=au 3 (cP 40 1) jq.2.1;let bL:=au 3 (cP 117 1) fF.1;let cr:=el (cP 40 1) jq.2.1;bd (t18.aJ [.ab false,(I 3),.ab false,.ai (ag 1 (af (.call (EQ a9.1 a9.2)) (ag 1 (af (.call (rC bS)) (ag 1 (af (.call (rC ck)) (af (.call {a4:=[],c9:=[],ac:=[.bf (.agg [.ep (a9.1.map b3),.ep (a9.2.map ca)]),.bf (.bV (.ep (bS.map eI))),.bf (.bV (.ep (ck.map eI)))],r:= .dd [.br 0 0 0 fF.1.length,.b true],eP:=[(aS.mk 3 (fF.1.map (cP 0 1)) .live::q1)],f9:= .comp [.bV .id,.bV .id],gT:=[.bq (aS.mk 3 (fF.1.map (cP 117 1)) .live::q1)],ex:=[112,114,116],ef:=true}) (ag 5 [])))))))),.ai (ag 2 (af (.call {ac:=[.bf (.bV (.view 117 (aS.mk 3 (fF.1.map (cP 117 1)) .live) ((fF.1.map (kQ fF.2)).map aE))),ii],r:= .b fb,ef:=true,ex:=[117]}) (kf 5))),.ab false,(I 1),.ai (bH 2 (.call {ac:=[.bf (.bV (.view 40 (aS.mk 3 (jq.2.1.map (cP 40 1)) .live) ((((jq.2.1.drop 0).take fF.1.length).map (kQ jq.2.2)).map aE))),ii],r:= .n .i64 ud,ef:=true,ex:=[40]}) 1),(I 2),.ab false,(I 3),.ab false,(I 1)]) (AW.aB (.aY Ix vN (fQ (ld (h6 [112]) 4 zy a9.1) (fQ (ld (h6 [112]) 3 zr a9.2) (oo (b1:=(h6 [112]))))) ((ls rfl (ls rfl wF)):mE [cg 4 b3 a9.1,cg 3 ca a9.2]) (Cb a9 a7) (bx.agg (hq (lE a9.1) (hq (bx.br 0 1 0 a9.2.length) mm))) ((rb (nn (m7 zz) (nn (m7 zs) uv)) re):oO [[cg 4 b3 a9.1,cg 3 ca a9.2]]) (ej 1 aw bS) (.aY (tk bS ch) (lE bS) (oP bS) (ej 1 aw ck) (tk ck dm) (lE ck) (oP ck) (f5 b3 a9.1) (.aY (fo b3 a9.1) (df mA a9.1) (f5 ca a9.2) (fo ca a9.2) (df mz a9.2) (f5 eI bS) (fo eI bS) (df aw bS) (.aY (f5 eI ck) (fo eI ck) (df aw ck) (fQ (lc (b1:=(h6 [117])) 3 .live (cP 117 1) (el (cP 0 1) fF.1) (fun x=>(n0 (rfl:(h6 [117]) 0=some 117)) x)) (eg (h6 [117]) 1 kC fF.2)) ((ls rfl (wA (fS 1 eI fF.2))):mE (aS.mk 3 (fF.1.map (cP 0 1)) .live::q1)) (Jq (.inl fF) gU) (ri (hq (lE fF.1) (hq (bx.b true) mm))) ((rb (nn (m7 (Ka _ _)) (Kk vC)) re):oO [(aS.mk 3 (fF.1.map (cP 0 1)) .live::q1)]) (.aY (rfl:d8 (some (aS.mk 3 (fF.1.map (cP 117 1)) .live::q1)) 0=some (aS.mk 3 (fF.1.map (cP 117 1)) .live)) (rfl:_=true) (fo (cP 117 1) fF.1) (df d5 (fF.1.map (kQ fF.2))) (uA (c8:=117) (jY:=bL++q1) (bJ:=j8) (sz:=3) (g:=aE) (el (cP 117 1) fF.1) (fun _=>rfl) (fun x U=>(DW (c8:=117) (c:=1) (bJ:=j8) (nN:=bL) (fS 1 eI fF.2) rfl iO rfl (tE gl x U))) (eV fF.1)) (Dd fb gn) (bx.b fb) (bW eZ) (.aY (bW eZ) (bW eZ) (bW eZ) (bW h5) (rfl:d8 (some (aS.mk 3 (jq.2.1.map (cP 40 1)) .live::(cU 1 eI jq.2.2))) 0=some (aS.mk 3 (jq.2.1.map (cP 40 1)) .live)) (rfl:_=true) (sB cr Iw) (df d5 (((jq.2.1.drop 0).take fF.1.length).map (kQ jq.2.2))) (.db (XL (c8:=40) (jY:=q2++(cU 1 eI jq.2.2)) (bJ:=j8) (sz:=3) (g:=aE) cr (fun _=>rfl) 0 fF.1.length (fun x U=>(DW (c8:=40) (c:=1) (bJ:=j8) (nN:=q2) (fS 1 eI jq.2.2) rfl iO rfl (tE yy x U)))) (Jz ud Z5) (bx.n .i64 ud) Ix vN)))))))))))))))
  (fun oR =>
  .ret (bd (t14.aJ [.ab true,(I 1)]) (Iu.aB (.e1 (b5 oR)))))))
  (fun s0 =>
  .ret (bd (t12.aJ [.ab true,(I 1)]) (It.aB (.e1 (b5 s0)))))))
  (fun uc =>
  .ret (bd (t10.aJ [.ab true,(I 1)]) (Is.aB (.e1 (b5 uc)))))))
  (fun h5 =>
  .ret (bd (t8.aJ [.ab true,(I 1)]) (I4.aB (.e1 (b5 h5)))))))
  (fun eZ =>
  .ret (bd (t6.aJ [.ai (ag 2 (af (.call {ac:=[.bf (.bV (.view 40 (aS.mk 3 (fF.1.map (cP 40 1)) .live) ((fF.1.map (kQ fF.2)).map aE))),ii],r:= .b fb,ef:=true,ex:=[40]}) (kl 2 3))),.ab true,(I 1)]) (xv.aB (.db (b5 eZ) (b5 eZ) (b5 eZ) (b5 eZ) cc))))))
  ·exact(.ae fun gF hI =>
  (let t6:aqe:=t4.aJ [.ai (bH 3 (.call {a4:=[],c9:=[],ac:=[.bf (.agg [.ep (a9.1.map b3),.ep (a9.2.map ca)]),.bf (.bV (.ep (bS.map eI))),.bf (.bV (.ep (ck.map eI)))],r:= .dd [.fg,.b false],eP:=[],f9:=ii,gT:=[],ex:=[28,32,35],ef:=true}) 5)];
  have xv:=nF.aB (.cM (Jq (.inr fF) gU) (ri (hq bx.fg (hq (bx.b false) mm))) (Dd gF hI) (bx.b gF));
  .ite (fun gn =>
  (let t8:aqe:=t6.aJ [.ai (ag 2 (af (.call {ac:=[.bf (.bV (.fv 3)),ii],r:= .b gF,ef:=true}) (kf 5)))];
  have I4:=xv.aB (.cM (bW gn) (bW gn) (bW gn) (bW gn));
  .ite (fun eZ =>
  .ae fun l2 kg =>
  (let t10:aqe:=t8.aJ [.ab false,.ai (ag 2 (af (.call (EQ a9.1 a9.2)) (af (.call {ac:=[.bf (.agg [.ep (a9.1.map b3),.ep (a9.2.map ca)]),.bf (.agg [.ep (a9.1.map b3),.ep (a9.2.map ca)])],r:= .b l2,ef:=true,ex:=[28,57]}) (ag 1 []))))];
  have Is:=I4.aB (.aY (bW eZ) (fQ (ld (h6 [57]) 4 zy a9.1) (fQ (ld (h6 [57]) 3 zr a9.2) (oo (b1:=(h6 [57]))))) ((ls rfl (ls rfl wF)):mE [cg 4 b3 a9.1,cg 3 ca a9.2]) (Cb a9 a7) (bx.agg (hq (lE a9.1) (hq (bx.br 0 1 0 a9.2.length) mm))) ((rb (nn (m7 zz) (nn (m7 zs) uv)) re):oO [[cg 4 b3 a9.1,cg 3 ca a9.2]]) (f5 b3 a9.1) (fo b3 a9.1) (.aY (df mA a9.1) (f5 ca a9.2) (fo ca a9.2) (df mz a9.2) (f5 b3 a9.1) (fo b3 a9.1) (df mA a9.1) (f5 ca a9.2) (.cM (fo ca a9.2) (df mz a9.2) (SW l2 kg) (bx.b l2))));
  .ite (fun nd =>
  .ae fun pf s3 =>
  (let t12:aqe:=t10.aJ [.ab false,.ai (ag 2 (af (.call (rC bS)) (af (.call {ac:=[.bf (.bV (.ep (bS.map eI))),.bf (.bV (.ep (bS.map eI)))],r:= .b pf,ef:=true,ex:=[32,62]}) (ag 1 []))))];
  have It:=Is.aB (.aY (bW nd) (ej 1 aw bS) (tk bS ch) (lE bS) (oP bS) (f5 eI bS) (fo eI bS) (df aw bS) (.db (f5 eI bS) (fo eI bS) (df aw bS) (Dc pf s3) (bx.b pf)));
  .ite (fun uW =>
  .ae fun Ir amr =>
  (let t14:aqe:=t12.aJ [.ab false,.ai (ag 2 (af (.call (rC ck)) (af (.call {ac:=[.bf (.bV (.ep (ck.map eI))),.bf (.bV (.ep (ck.map eI)))],r:= .b Ir,ef:=true,ex:=[35,67]}) (ag 1 []))))];
  have Iu:=It.aB (.aY (bW uW) (ej 1 aw ck) (tk ck dm) (lE ck) (oP ck) (f5 eI ck) (fo eI ck) (df aw ck) (.db (f5 eI ck) (fo eI ck) (df aw ck) (Dc Ir amr) (bx.b Ir)));
  .ite (fun u0 =>
  .ae fun vY kW =>
  .aL fun Io =>
  .aL fun amo =>
  .ae fun EY LU =>
  .ae fun EZ Qp =>
  (let t16:aqe:=t14.aJ [.ab false,(I 1),.ai (bH 2 (.call {a4:=[.ao 28 0 (cg 4 b3 a9.1),.ao 28 1 (cg 3 ca a9.2)],c9:=[.pure,.pure],ac:=[.bf (.agg [.at_ 0 0 a9.1.length,.at_ 1 0 a9.2.length]),ii],r:= .n .i64 vY.1,eP:=[(au 4 b3 vY.2.1),(au 3 ca vY.2.2)],f9:=ii,gT:=[.pure,.pure],ex:=[28],ef:=false}) 1),.ai (bH 2 (.call {a4:=[.row 32],c9:=[.pure],ac:=[ii,ii],r:= .n .i64 EY.1,eP:=[(au 1 eI EY.2)],f9:=ii,gT:=[.pure],ex:=[32],ef:=false}) 1),.ai (bH 2 (.call {a4:=[.row 35],c9:=[.pure],ac:=[ii,ii],r:= .n .i64 EZ.1,eP:=[(au 1 eI EZ.2)],f9:=ii,gT:=[.pure],ex:=[35],ef:=false}) 1)];
  have Iv:=Iu.aB (.aY (bW u0) (by decide:0≠1) (rfl:k7 [.ao 28 0 (cg 4 b3 a9.1),.ao 28 1 (cg 3 ca a9.2)] 0 0=some (28,0)) (eV a9.1) (rfl:k7 [.ao 28 0 (cg 4 b3 a9.1),.ao 28 1 (cg 3 ca a9.2)] 1 0=some (28,1)) (eV a9.2) (rfl:d8 (some [cg 4 b3 a9.1,cg 3 ca a9.2]) 0=some (cg 4 b3 a9.1)) (ej 4 mA a9.1) (.aY (rfl:d8 (some [cg 4 b3 a9.1,cg 3 ca a9.2]) 1=some (cg 3 ca a9.2)) (ej 3 mz a9.2) (ej 4 mA vY.2.1) (ej 3 mz vY.2.2) (R1 vY kW) (ej 1 aw bS) (ej 1 aw EY.2) (Jv EY LU) (.bG (ej 1 aw ck) (ej 1 aw EZ.2) (Jv EZ Qp))));
  .ite (fun qj =>
  .ret (bd (t16.aJ [.ai (ag 3 (dU 4 (af (.ab true) (ag 1 (dU 3 (ag 1 [])))))),.ab true,(I 1)]) (Iv.aB (.aY qj qj qj qj qj cc cc cc (.e1 cc)))))
  (fun qj =>
  .ae fun AV ams =>
  .ae fun ue Iw =>
  (let t18:aqe:=t16.aJ [.ai (ag 5 (af (.call {ac:=[.bf (.bV (.fv 3)),ii],r:= .b gF,ef:=true}) (ag 1 (af (.ab false) (kf 4))))),.ab false,(I 1),.ai (bH 2 (.call {ac:=[.bf (.bV (.fv 3)),ii],r:= .n .i64 AV,ef:=true}) 1),(I 1),.ai (bH 2 (.call {ac:=[.bf (.bV (.fv 3)),ii],r:= .n .i64 ue,ef:=true}) 1),(I 2)];
  have AW:=Iv.aB (.aY qj qj qj (Dd gF hI) (bx.b gF) qj qj (bW gn) (.gw (bW gn) (bW gn) (bW gn) (bW eZ) (aeB AV ams) (bx.n .i64 AV) (Jz ue Iw) (bx.n .i64 ue)));
  .ite (fun yy =>
  .ret (bd (t18.aJ [.ab true,(I 1)]) (AW.aB (.e1 yy))))
  (fun yy =>
  .ite (fun LV =>
  .ret (bd (t18.aJ [.ab false,(I 3),.ab true,(I 1)]) (AW.aB (.e2 yy LV))))
  (fun LV =>
  .ret (bd (t18.aJ [.ab false,(I 3),.ab false,.ai (ag 1 (af (.call (EQ a9.1 a9.2)) (ag 1 (af (.call (rC bS)) (ag 1 (af (.call (rC ck)) (af (.call {a4:=[],c9:=[],ac:=[.bf (.agg [.ep (a9.1.map b3),.ep (a9.2.map ca)]),.bf (.bV (.ep (bS.map eI))),.bf (.bV (.ep (ck.map eI)))],r:= .dd [.fg,.b false],eP:=[],f9:=ii,gT:=[],ex:=[112,114,116],ef:=true}) (ag 5 [])))))))),.ai (ag 2 (af (.call {ac:=[.bf (.bV (.fv 3)),ii],r:= .b gF,ef:=true}) (kf 5))),.ab false,(I 1),.ai (bH 2 (.call {ac:=[.bf (.bV (.fv 3)),ii],r:= .n .i64 ue,ef:=true}) 1),(I 2),.ab false,(I 3),.ab false,(I 1)]) (AW.aB (.aY yy LV (fQ (ld (h6 [112]) 4 zy a9.1) (fQ (ld (h6 [112]) 3 zr a9.2) (oo (b1:=(h6 [112]))))) ((ls rfl (ls rfl wF)):mE [cg 4 b3 a9.1,cg 3 ca a9.2]) (Cb a9 a7) (bx.agg (hq (lE a9.1) (hq (bx.br 0 1 0 a9.2.length) mm))) ((rb (nn (m7 zz) (nn (m7 zs) uv)) re):oO [[cg 4 b3 a9.1,cg 3 ca a9.2]]) (ej 1 aw bS) (.aY (tk bS ch) (lE bS) (oP bS) (ej 1 aw ck) (tk ck dm) (lE ck) (oP ck) (f5 b3 a9.1) (.aY (fo b3 a9.1) (df mA a9.1) (f5 ca a9.2) (fo ca a9.2) (df mz a9.2) (f5 eI bS) (fo eI bS) (df aw bS) (.aY (f5 eI ck) (fo eI ck) (df aw ck) (Jq (.inr fF) gU) (ri (hq bx.fg (hq (bx.b false) mm))) (Dd gF hI) (bx.b gF) (bW gn) (.gw (bW gn) (bW gn) (bW gn) (bW eZ) (Jz ue Iw) (bx.n .i64 ue) yy LV)))))))))))))
  (fun u0 =>
  .ret (bd (t14.aJ [.ab true,(I 1)]) (Iu.aB (.e1 (b5 u0)))))))
  (fun uW =>
  .ret (bd (t12.aJ [.ab true,(I 1)]) (It.aB (.e1 (b5 uW)))))))
  (fun nd =>
  .ret (bd (t10.aJ [.ab true,(I 1)]) (Is.aB (.e1 (b5 nd)))))))
  (fun eZ =>
  .ret (bd (t8.aJ [.ab true,(I 1)]) (I4.aB (.e1 (b5 eZ)))))))
  (fun gn =>
  .ret (bd (t6.aJ [.ai (ag 2 (af (.call {ac:=[.bf (.bV (.fv 3)),ii],r:= .b gF,ef:=true}) (kl 2 3))),.ab true,(I 1)]) (xv.aB (.db (b5 gn) (b5 gn) (b5 gn) (b5 gn) cc)))))))))))))
theorem p6 {n:Nat}(h:n<=10000000):R ((n:Int)+1)=((n+1:Nat):Int):=by rw[cG (by omega) (by omega)];rfl
theorem tN {n:Nat}(h:n<=10000000):R ((n:Int)-1)=(n:Int)-1:=cG (by omega) (by omega)
theorem Pm {n:Nat}(h:n<=10000000):R (((n+1:Nat):Int)-1)=n:=by rw[cG (by omega) (by omega)];omega
theorem g9 (l:ar):len_ eI l=l.length:=fj _ l
theorem aht {l:ar}{k:Nat}{x:Int}(U:l[k]? = some x)(aU:l.length<=5000000):y1 l ((k+1:Nat):Int)=some (if x=0 then .inl (k:Int) else .inr ((k+1:Nat):Int)):=by have a2:=f6 U;unfold y1;rw[Pm (by omega),dw (by simp),dw (by omega),dy,U];by_cases h:x=0<;>simp[h]
theorem vn {l:ar}(aR:c2 l)(aU:l.length<=5000000):tm l=some (L (V l)):=by
 have : ∃r,iter (fun w:Int=>y1 l w) (l.length:Int)=some r/\ ∃k:Nat,r=k/\k<=l.length/\l.take k=L (V l):=by
  refine j5 (fp:=fun w:Int=> ∃k:Nat,w=k/\k<=l.length/\V (l.take k)=V l) (m:=fun w:Int=>w.toNat) _ ?_ _ ⟨l.length,rfl,by omega,by simp⟩;rintro _ ⟨k,rfl,a2,bh⟩
  cases k with
  | zero =>
   refine .inr ⟨0,by simp[y1],0,rfl,by omega,?_⟩;rw[<- bh];simp[V,sE]
  | succ k =>
   have U:=dz (show k<l.length by omega);rw[aht U aU];by_cases h:l[k]=0
   ·refine .inl ⟨_,by simp[h],⟨k,rfl,by omega,?_⟩,by omega⟩;have:=wI U;rw[h] at this;simp at this;omega
   refine .inr ⟨_,by simp[h],k+1,rfl,a2,?_⟩;rcases gm.OK aR k (fun x h1=>by rw[U] at h1;simp at h1;omega) with h1|h1
   ·exact yg h1 bh
   omega
 obtain⟨r,aj,k,rfl,h1,h2⟩:=this;unfold tm Un;rw[g9,aj];simp[h1,h2]
theorem DX {l:ar}(aR:c2 l)(aU:l.length<=5000000):tt l=some (L (V l)):=by
 have : ∃r,iter (fun w:ar=>CV w) l=some r/\r=L (V l):=by
  refine j5 (fp:=fun w=> ∃k:Nat,w=l.take k/\k<=l.length/\V (l.take k)=V l) (m:=fun w:ar=>w.length) _ ?_ _ ⟨l.length,by simp,by omega,by simp⟩;rintro _ ⟨k,rfl,a2,bh⟩;have hlen:(l.take k).length=k:=by simp;omega
  cases k with
  | zero =>
   refine .inr ⟨[],by simp[CV,g9],?_⟩;rw[<- bh];simp[V,sE]
  | succ k =>
   have U:=dz (show k<l.length by omega);have eT:(l.take (k+1))[k]? = some l[k]:=(by rw[dT];simp[U]);unfold CV;simp only[g9,hlen];rw[Pm (by omega),dw (by simp),dw (by omega),dy,eT];by_cases h:l[k]=0
   ·refine .inl ⟨l.take k,by simp[h,List.take_take,Nat.min_eq_left],⟨k,rfl,by omega,?_⟩,by simp;omega⟩;have:=wI U;rw[h] at this;simp at this;omega
   refine .inr ⟨l.take (k+1),by simp[h],?_⟩;rcases gm.OK aR k (fun x h1=>by rw[U] at h1;simp at h1;omega) with h1|h1
   ·exact yg h1 bh
   omega
 obtain⟨r,aj,rfl⟩:=this;unfold tt Vf;rw[aj];rfl
theorem ahu {l:ar}(aR:c2 l)(aU:l.length<=5000000): ∃k,Gv l=some k/\k<=l.length/\l.take k=L (V l):=by
 have : ∃r,iter (fun w:Nat=>CK l w) l.length=some r/\r<=l.length/\l.take r=L (V l):=by
  refine j5 (fp:=fun k=>k<=l.length/\V (l.take k)=V l) (m:=fun w:Nat=>w) _ ?_ _ ⟨by omega,by simp⟩;rintro k ⟨a2,bh⟩
  cases k with
  | zero =>
   refine .inr ⟨0,by simp[CK],by omega,?_⟩;rw[<- bh];simp[V,sE]
  | succ k =>
   have U:=dz (show k<l.length by omega);unfold CK;rw[Pm (by omega),dw (by simp),dw (by omega),dy,dG,U];by_cases h:l[k]=0
   ·refine .inl ⟨k,by simp[h],⟨by omega,?_⟩,by omega⟩;have:=wI U;rw[h] at this;simp at this;omega
   refine .inr ⟨k+1,by simp[h],a2,?_⟩;rcases gm.OK aR k (fun x h1=>by rw[U] at h1;simp at h1;omega) with h1|h1
   ·exact yg h1 bh
   omega
 obtain⟨r,aj,h1,h2⟩:=this;unfold Gv UR;rw[aj];exact⟨r,rfl,h1,h2⟩
theorem wL {a b:ar}(bF:gm a)(a3:gm b)(aU:a.length<=5000000):tp a b=some (lP (V a) (V b)):=by
 unfold tp lP;simp only[g9];by_cases h1:a.length=b.length;rotate_left
 ·rw[dw (by simp;omega)]
  by_cases h2:a.length<b.length
  ·have:=KB bF a3 h2;simp[h2,this]
  have:=KB a3 bF (by omega);rw[dA (by simp;omega),dA (by omega),dw this]
 rw[dA (by simp[h1])]
 have : ∃r,iter (fun w:Int=>CH a b w) ((a.length:Int)-1)=some r/\(r.elim (fun _=>V a=V b) (fun c=>(c = -1/\V a<V b)\/(c=1/\V b<V a))):=by
  refine j5 (fp:=fun w:Int=> ∃k:Nat,w=(k:Int)-1/\k<=a.length/\V (a.drop k)=V (b.drop k)) (m:=fun w:Int=>(w+1).toNat) _ ?_ _ ⟨a.length,rfl,by omega,by rw[List.drop_length,h1,List.drop_length]⟩;rintro _ ⟨k,rfl,a2,bh⟩
  cases k with
  | zero=>exact .inr ⟨.inl (),by simp[CH],by simpa using bh⟩
  | succ k =>
   have U:=dz (show k<a.length by omega);have aV:=dz (show k<b.length by omega);have e:((k+1:Nat):Int)-1=k:=(by omega);unfold CH;rw[e,tN (by omega),dw (by simp),dw (by omega),dy,U];simp only[dC,dx];rw[dw (by omega),aV];by_cases h2:a[k]<b[k]
   ·exact .inr ⟨.inr (-1),by simp[h2],.inl ⟨rfl,XM bF.1 a3.1 U aV bh h2⟩⟩
   by_cases J:b[k]<a[k]
   ·exact .inr ⟨.inr 1,by simp[h2,J],.inr ⟨rfl,XM a3.1 bF.1 aV U bh.symm J⟩⟩
   refine .inl ⟨(k:Int)-1,by simp[h2,J],⟨k,rfl,by omega,?_⟩,by omega⟩;rw[rf U,rf aV,bh,show a[k]=b[k] by omega]
 obtain⟨r,aj,h2⟩:=this;unfold UI;rw[tN (by omega),aj]
 cases r with
 | inl u =>
  simp at h2;simp[h2]
 | inr c =>
  rcases h2 with ⟨rfl,h2⟩|⟨rfl,h2⟩
  ·simp[h2]
  simp[h2];omega
theorem afQ:su=tp:=rfl
theorem J1 {a b:ar}(bF:gm a)(a3:gm b)(aU:a.length<=5000000):su a b=some (lP (V a) (V b)):=wL bF a3 aU
theorem He {x y:Int}(U:0<=x/\x<1000000000)(aV:0<=y/\y<1000000000):0<=x*y/\x*y<=999999998000000001:=by have h1:=Int.mul_nonneg U.1 aV.1;have h2:x*y<=999999999*999999999:=Int.mul_le_mul (by omega) (by omega) aV.1 (by omega);omega
theorem td {a b:Int}(h:0<=a):a.tmod b=a % b:=Int.tmod_eq_emod_of_nonneg h
theorem pq {a b:Int}(h:0<=a):a.tdiv b=a / b:=Int.tdiv_eq_ediv_of_nonneg h
theorem OM (k:Nat)(x:Int)(q:ar):(List.replicate (k+1) 0++q).set k x=List.replicate k 0++x::q:=by
 induction k with
 | zero=>rfl
 | succ k ih =>
  show (0::(List.replicate (k+1) 0++q)).set (k+1) x=_;rw[List.set_cons_succ,ih];rfl
theorem agL {a:ar}{d rest:Int}{row:ar}{k:Nat}{x:Int}(U:a[k]? = some x)(kI:0<=x/\x<1000000000)(bD:0<d/\d<1000000000)(aj:0<=rest/\rest<d)(ev:row.length=a.length)(aU:a.length<=1000000):
 Cf a d rest (k:Int) row=some (.inl ((rest*1000000000+x) % d,(k:Int)-1,row.set k ((rest*1000000000+x) / d))):=by
 have a2:=f6 U;unfold Cf;rw[dw (by simp),dw (by omega),dy,U];simp only[dC,dx];rw[dw (by omega),dw (by omega),dw (by omega),tN (by omega)];have h1:R (R (rest*1000000000)+x)=rest*1000000000+x:=by rw[cG (x:=rest*1000000000) (by omega) (by omega)];exact cG (by omega) (by omega)
 have h2:0<=rest*1000000000+x:=by omega
 have J:(rest*1000000000+x) / d<=rest*1000000000+x:=Int.ediv_le_self _ h2;have ak:0<=(rest*1000000000+x) / d:=Int.ediv_nonneg h2 (by omega);rw[h1,td h2,pq h2,cG (by omega) (by omega),dG]
theorem V8 {a:ar}{d:Int}(bF:c2 a)(bD:0<d/\d<1000000000)(aU:a.length<=1000000):
 ∃r,M0 a d 0 ((a.length:Int)-1) (List.replicate a.length 0)=some r/\r.1=V a % d/\c2 r.2/\r.2.length=a.length/\V r.2=V a / d:=by
 refine j5 (fp:=fun w:Int×Int×ar=> ∃(k:Nat) (q:ar),w.2.1=(k:Int)-1/\k<=a.length/\w.2.2=List.replicate k 0++q/\q.length+k=a.length/\c2 q/\0<=w.1/\w.1<d/\V (a.drop k)=V q*d+w.1) (m:=fun w:Int×Int×ar=>(w.2.1+1).toNat) _ ?_ _ ⟨a.length,[],rfl,by omega,by simp,by simp,c2.nil,by omega,by omega,by simp[V]⟩;rintro⟨rest,i,row⟩ ⟨k,q,h1,a2,h2,a1,s5,nw,jS,bh⟩;simp only at h1 h2 nw jS bh ⊢;subst h1 h2
 cases k with
 | zero =>
  refine .inr ⟨(rest,q),by simp[Cf],?_,s5,by simpa using a1,?_⟩
  ·simp at bh;rw[bh,Int.add_comm,Int.add_mul_emod_self_right];exact(Int.emod_eq_of_lt nw jS).symm
  simp at bh;rw[bh,Int.add_comm,Int.add_mul_ediv_right _ _ (by omega),Int.ediv_eq_zero_of_lt nw jS];simp
 | succ k =>
  have U:=dz (show k<a.length by omega);have kI:=bF.get U;rw[show ((k+1:Nat):Int)-1=k by omega,agL U kI bD ⟨nw,jS⟩ (by simp;omega) aU];refine .inl ⟨_,rfl,⟨k,(rest*1000000000+a[k]) / d::q,rfl,by omega,OM _ _ _,by simp;omega,c2.cons ⟨Int.ediv_nonneg (by omega) (by omega),?_⟩ s5,Int.emod_nonneg _ (by omega),Int.emod_lt_of_pos _ bD.1,?_⟩,by simp⟩
  ·refine Int.ediv_lt_of_lt_mul bD.1 ?_;omega
  rw[rf U,bh,nq];have:=Int.mul_ediv_add_emod (rest*1000000000+a[k]) d;generalize (rest*1000000000+a[k]) / d=u at *;generalize (rest*1000000000+a[k]) % d=t at *;grind
theorem aiG {a:ar}{d:Int}(bF:c2 a)(bD:0<d/\d<1000000000)(aU:a.length<=1000000):FZ a d=some (L (V a / d),V a % d):=by obtain⟨r,aj,h1,h2,J,ak⟩:=V8 bF bD aU;unfold FZ;simp only[g9];rw[dw (by omega),tN (by omega),dy,aj];simp only[dC,dx];rw[vn h2 (by omega),h1,ak];rfl
theorem aeX:TB=M0:=rfl
theorem Vi {a:ar}{d:Int}(bF:c2 a)(bD:0<d/\d<1000000000)(aU:a.length<=1000000):Da a d=some (L (V a / d),V a % d):=by obtain⟨r,aj,h1,h2,J,ak⟩:=V8 bF bD aU;unfold Da;simp only[g9];rw[dw (by omega),tN (by omega),dy,aeX,aj];simp only[dC,dx];rw[DX h2 (by omega),h1,ak];rfl
theorem ahv {b:ar}{i j:Nat}{x y z carry:Int}{row t26:ar}{t27:Int}(aV:b[j]? = some y)(cB:row[i+j]? = some z)(U:0<=x/\x<1000000000)(qX:0<=y/\y<1000000000)(uN:0<=z/\z<1000000000)(a0:0<=carry/\carry<1000000000)(aU:row.length<=2000000):
 CI b i x t26 t27 b.length carry j row=some (.inl ((z+x*y+carry) / 1000000000,((j+1:Nat):Int),row.set (i+j) ((z+x*y+carry) % 1000000000))):=by
 have ay:=f6 aV;have rB:=f6 cB;obtain⟨js,iw⟩:=He U qX;unfold CI;have e:R ((i:Int)+(j:Int))=((i+j:Nat):Int):=by rw[cG (by omega) (by omega)];rfl
 rw[dw (by simp;omega),dw (by omega),dy,aV];simp only[dC,dx,e,dy,dG];rw[dw (by omega),cB];simp only[dx];rw[dw (by omega),p6 (by omega),cG (x:=x*y) (by omega) (by omega),cG (x:=z+x*y) (by omega) (by omega),cG (x:=z+x*y+carry) (by omega) (by omega),td (by omega),pq (by omega),cG (by omega) (by omega)]
theorem ahw {b:ar}{i:Nat}{x:Int}{row t26:ar}{t27:Int}(a3:c2 b)(ev:c2 row)(U:0<=x/\x<1000000000)(aR:i+b.length<row.length)(aU:row.length<=2000000):
 ∃r,UK b i x t26 t27 b.length 0 0 row=some r/\0<=r.1/\r.1<1000000000/\c2 r.2/\r.2.length=row.length/\V r.2+r.1*B (i+b.length)=V row+x*B i*V b/\ ∀j,i+b.length<=j->r.2[j]? = row[j]? := by
 refine j5 (fp:=fun w:Int×Int×ar=> ∃(j:Nat),w.2.1=(j:Int)/\j<=b.length/\0<=w.1/\w.1<1000000000/\c2 w.2.2/\w.2.2.length=row.length/\V w.2.2+w.1*B (i+j)=V row+x*B i*V (b.take j)/\ ∀j,i+b.length<=j->w.2.2[j]? = row[j]?) (m:=fun w:Int×Int×ar=>b.length-w.2.1.toNat) _ ?_ _ ⟨0,rfl,by omega,by simp,by simp,ev,rfl,by simp[V],fun _ _=>rfl⟩;rintro⟨carry,anz,ew⟩ ⟨j,h1,ay,oN,o8,me,hlen,bh,ns⟩;simp only at h1 oN o8 me hlen bh ns ⊢;subst h1;by_cases amt:j=b.length
 ·subst amt;refine .inr ⟨(carry,ew),by simp[CI],oN,o8,me,hlen,by simpa using bh,ns⟩
 have aV:=dz (show j<b.length by omega);have cB:=dz (show i+j<ew.length by omega);have qX:=a3.get aV;have uN:=me.get cB;obtain⟨js,iw⟩:=He U qX;rw[ahv aV cB U qX uN ⟨oN,o8⟩ (by omega)];refine .inl ⟨_,rfl,⟨j+1,rfl,by omega,by simp only;omega,by simp only;omega,me.set (by omega),by simpa using hlen,?_,fun jx vO=> ?_⟩,by simp;omega⟩
 ·simp only;rw[vE cB,wI aV,<- Nat.add_assoc,oq];rw[Hp] at bh ⊢;have:=Int.mul_ediv_add_emod (ew[i+j]+x*b[j]+carry) 1000000000;generalize (ew[i+j]+x*b[j]+carry) / 1000000000=u at *;generalize (ew[i+j]+x*b[j]+carry) % 1000000000=t at *;grind
 rw[<- ns jx vO];exact List.getElem?_set_ne (by omega)
theorem N9 {a b:ar}(bF:c2 a)(a3:c2 b)(aU:a.length<=1000000)(hm:b.length<=1000000):
 ∃r,JF b a a.length 0 (List.replicate (a.length+b.length) 0)=some r/\c2 r/\r.length=a.length+b.length/\V r=V a*V b:=by
 refine j5 (fp:=fun w:Int×ar=> ∃(i:Nat),w.1=(i:Int)/\i<=a.length/\c2 w.2/\w.2.length=a.length+b.length/\V w.2=V (a.take i)*V b/\ ∀j,i+b.length<=j->j<a.length+b.length->w.2[j]? = some 0) (m:=fun w:Int×ar=>a.length-w.1.toNat) _ ?_ _ ⟨0,rfl,by omega,c2.Qd _,by simp,by simp[V,Ph],fun j _ h=>by simp[List.getElem?_replicate,h]⟩;rintro⟨ii,row⟩ ⟨i,h1,aa,me,hlen,bh,h0⟩;simp only at h1 me hlen bh h0 ⊢;subst h1;by_cases Iy:i=a.length
 ·subst Iy;refine .inr ⟨row,by simp[Ft],me,hlen,by simpa using bh⟩
 have U:=dz (show i<a.length by omega);have kI:=bF.get U;obtain⟨r,aj,oN,o8,als,YN,HX,ns⟩:=ahw (i:=i) (t26:=a) (t27:=a.length) a3 me kI (by omega) (by omega);have e:R ((i:Int)+(b.length:Int))=((i+b.length:Nat):Int):=by rw[cG (by omega) (by omega)];rfl
 have cB:r.2[i+b.length]? = some 0:=by rw[ns _ (dD _)];exact h0 _ (dD _) (by omega)
 refine .inl ⟨(((i+1:Nat):Int),r.2.set (i+b.length) r.1),?_,⟨i+1,rfl,by omega,als.set ⟨oN,o8⟩,by simp;omega,?_,fun j ao9 amu=> ?_⟩,by simp;omega⟩
 ·unfold Ft;rw[dw (by simp;omega),dw (by omega),dy,U];simp only[dC,dx,g9];rw[aj];simp only[dx,e,dy,dG];rw[dw (by omega),dw (by omega),p6 (n:=i) (by omega)]
 ·simp only;rw[vE cB,wI U];grind
 simp only;rw[List.getElem?_set_ne (by omega),ns _ (by omega)];exact h0 _ (by omega) amu
theorem mul_eq {a b:ar}(bF:c2 a)(a3:c2 b)(aU:a.length<=1000000)(hm:b.length<=1000000):jH a b=some (L (V a*V b)):=by
 unfold jH;simp only[g9];by_cases h1:a=[]
 ·subst h1;simp[V,sE]
 by_cases h2:b=[]
 ·subst h2;simp[h1,V,sE]
 obtain⟨r,aj,J,ak,ax⟩:=N9 bF a3 aU hm;have e:R ((a.length:Int)+(b.length:Int))=((a.length+b.length:Nat):Int):=by rw[cG (by omega) (by omega)];rfl
 rw[dA (by simp[h1]),dA (by simp[h2]),e,dw (by omega),dy,aj];simp only[dC,dx];rw[vn J (by omega),ax];rfl
theorem agh:U6=JF:=rfl
theorem afr:Uw=JF:=rfl
theorem GO {a b:ar}(bF:c2 a)(a3:c2 b)(aU:a.length<=1000000)(hm:b.length<=1000000):ts a b=some (L (V a*V b)):=by
 unfold ts;simp only[g9];by_cases h1:a=[]
 ·subst h1;simp[V,sE]
 by_cases h2:b=[]
 ·subst h2;simp[h1,V,sE]
 obtain⟨r,aj,J,ak,ax⟩:=N9 bF a3 aU hm;have e:R ((a.length:Int)+(b.length:Int))=((a.length+b.length:Nat):Int):=by rw[cG (by omega) (by omega)];rfl
 rw[dA (by simp[h1]),dA (by simp[h2]),e,dw (by omega),dy,agh,aj];simp only[dC,dx];rw[DX J (by omega),ax];rfl
theorem V9 {a b:ar}(bF:c2 a)(a3:c2 b)(h1:a≠[])(h2:b≠[])(aU:a.length<=1000000)(hm:b.length<=1000000):
 ∃k r,Dn a b=some (k,r)/\k<=r.length/\r.length=a.length+b.length/\r.take k=L (V a*V b)/\c2 r:=by
 obtain⟨r,aj,J,ak,ax⟩:=N9 bF a3 aU hm;obtain⟨k,a2,aN,a7⟩:=ahu J (by omega);refine⟨k,r,?_,aN,ak,by rw[a7,ax],J⟩;unfold Dn;simp only[g9];have e:R ((a.length:Int)+(b.length:Int))=((a.length+b.length:Nat):Int):=by rw[cG (by omega) (by omega)];rfl
 rw[dA (by simp[h1]),dA (by simp[h2]),e,dw (by omega),dy,afr,aj];simp only[dC,dx];rw[a2];rfl
theorem Ht {x:Int}(h1:0<=x)(h2:x<18446744073709551616):IntKind.wrap .u64 x=x:=by
 simp only[IntKind.wrap,IntKind.signed,IntKind.bits];have:((2:Int) ^ 64)=18446744073709551616:=by decide
 simp;omega
theorem akX {x:Int}(h1:-9223372036854775808<=x)(h2:x<9223372036854775808):IntKind.wrap .i64 x=x:=cG h1 h2
theorem gm.snoc {l:ar}{x:Int}(h:c2 l)(U:0<x/\x<1000000000):gm (l++[x]):=⟨h.append (c2.cons (by omega) c2.nil),fun y aV=>by rw[List.getLast?_append] at aV;simp at aV;omega⟩
theorem WH {N:Int}(hg:N<18446744073709551616){n:Int}{row:ar}(h:0<=n/\c2 row/\V row+B row.length*n=N/\(n=0->gm row)/\((row.length=0/\n<18446744073709551616)\/(row.length=1/\n<20000000000)\/(row.length=2/\n<20)\/(row.length=3/\n=0)))(aU:0<n):
 (fun (n:Int) (row:ar)=>0<=n/\c2 row/\V row+B row.length*n=N/\(n=0->gm row)/\((row.length=0/\n<18446744073709551616)\/(row.length=1/\n<20000000000)\/(row.length=2/\n<20)\/(row.length=3/\n=0))) (n / 1000000000) (row++[n % 1000000000]):=by
 obtain⟨h0,h1,h2,J,ak⟩:=h;refine⟨by omega,h1.append (c2.cons (by omega) c2.nil),?_,fun ax=>gm.snoc h1 (by omega),?_⟩
 ·rw[zM,dE,List.length_singleton,oq,nq,Eh];have:=Int.mul_ediv_add_emod n 1000000000;generalize n / 1000000000=u at *;generalize n % 1000000000=t at *;grind
 rw[dE,List.length_singleton];omega
theorem DN {n:Int}(h:0<=n)(aU:n<9223372036854775808):vk n=some (L n):=by
 have : ∃r,iter (fun w:Int×ar=>CO w.1 w.2) (n,[])=some r/\r=L n:=by
  refine j5 (fp:=fun w:Int×ar=>w.1<=n/\0<=w.1/\c2 w.2/\V w.2+B w.2.length*w.1=n/\(w.1=0->gm w.2)/\((w.2.length=0/\w.1<18446744073709551616)\/(w.2.length=1/\w.1<20000000000)\/(w.2.length=2/\w.1<20)\/(w.2.length=3/\w.1=0))) (m:=fun w:Int×ar=>w.1.toNat) _ ?_ _ ⟨Int.le_refl _,h,c2.nil,by simp[V,B],fun _=>gm.nil,.inl ⟨rfl,by simp only;omega⟩⟩;rintro⟨m,row⟩ ⟨hm,c4⟩;simp only at hm c4;obtain⟨h0,h1,h2,J,ak⟩:=id c4;by_cases ly:0<m
  ·have:=WH (by omega) c4 ly;refine .inl ⟨(m / 1000000000,row++[m % 1000000000]),?_,⟨by simp only;omega,this⟩,by simp only;omega⟩;unfold CO;rw[dw (by simp;omega),td (by omega),pq (by omega),dw (by simp;omega),cG (by omega) (by omega)]
  refine .inr ⟨row,by simp[CO,ly],?_⟩;have qe:m=0:=(by omega);refine yg (J qe) ?_;rw[qe] at h2;simpa using h2
 obtain⟨r,aj,rfl⟩:=this;unfold vk U3;rw[aj];rfl
theorem NX {n:Int}(h:0<=n)(aU:n<18446744073709551616):zn n=some (L n):=by
 have : ∃r,iter (fun w:Int×ar=>Cr w.1 w.2) (n,[])=some r/\r=L n:=by
  refine j5 (fp:=fun w:Int×ar=>w.1<=n/\0<=w.1/\c2 w.2/\V w.2+B w.2.length*w.1=n/\(w.1=0->gm w.2)/\((w.2.length=0/\w.1<18446744073709551616)\/(w.2.length=1/\w.1<20000000000)\/(w.2.length=2/\w.1<20)\/(w.2.length=3/\w.1=0))) (m:=fun w:Int×ar=>w.1.toNat) _ ?_ _ ⟨Int.le_refl _,h,c2.nil,by simp[V,B],fun _=>gm.nil,.inl ⟨rfl,by simp only;omega⟩⟩;rintro⟨m,row⟩ ⟨hm,c4⟩;simp only at hm c4;obtain⟨h0,h1,h2,J,ak⟩:=id c4;by_cases ly:0<m
  ·have:=WH (by omega) c4 ly;refine .inl ⟨(m / 1000000000,row++[m % 1000000000]),?_,⟨by simp only;omega,this⟩,by simp only;omega⟩;unfold Cr;rw[dw (by simp;omega),td (by omega),pq (by omega),akX (x:=m % 1000000000) (by omega) (by omega),dw (by simp;omega),Ht (by omega) (by omega)]
  refine .inr ⟨row,by simp[Cr,ly],?_⟩;have qe:m=0:=(by omega);refine yg (J qe) ?_;rw[qe] at h2;simpa using h2
 obtain⟨r,aj,rfl⟩:=this;unfold zn Us;rw[aj];rfl
def rv (x:Int):Bool:=decide (0<=x) && decide (x<1000000000)
theorem ON (l:ar):l.all rv=true↔c2 l:=by simp[rv,c2]
theorem NY {a:ar}(h:a≠[]): ∃x,a[a.length-1]? = some x/\(gm a↔c2 a/\x≠0):=by
 have ah:=ap9.mpr h;refine⟨a[a.length-1],dz (by omega),?_⟩;have e:a.getLast? = some a[a.length-1]:=by rw[List.getLast?_eq_getElem?];exact dz (by omega)
 constructor
 ·exact fun h=>⟨h.1,h.2 _ e⟩
 refine fun h=>⟨h.1,fun x U=> ?_⟩;rw[e] at U;rw[<- dJ U];exact h.2
theorem YZ {a:ar}(h:a≠[])(hm:(a.length:Int)<9223372036854775807):R ((a.length:Int)-1)=((a.length-1:Nat):Int):=by have ah:=ap9.mpr h;rw[cG (by omega) (by omega)];omega
theorem agM (x:Int):oI x 0 999999999=some (rv x):=by
 unfold oI rv;by_cases h:0<=x
 ·simp[h];omega
 simp[h]
theorem J2 {a:ar}(hm:(a.length:Int)<9223372036854775807): ∃ok,vl a=some ok/\(ok=true↔gm a/\a.length<=60):=by
 have h1:iter (fun w:Int=>CP a a.length w) 0=some (if a.all rv then .inl () else .inr ()):=by refine Km a rv (fun n x U=> ?_) (by simp[CP]);have:=f6 U;unfold CP;rw[dw (by simp;omega),dw (by omega),dy,U];simp only[dC,dx,agM];rw[i1 (by omega)];cases rv x<;>rfl
 unfold vl U4;simp only[g9];rw[h1];by_cases sl:a.all rv=true
 ·have HR:=(ON a).1 sl
  simp only[sl,if_true,dC,dx];by_cases rJ:a.length<=60
  ·rw[dw (by simp;omega)]
   by_cases h0:a=[]
   ·subst h0;exact⟨true,rfl,by simp[gm.nil]⟩
   obtain⟨x,U,aU⟩:=NY h0;have ah:=ap9.mpr h0;rw[dA (by simp[h0]),YZ h0 hm,dw (by omega),dy,U];refine⟨_,rfl,?_⟩;rw[aU];simp[HR,rJ]
  rw[dA (by simp;omega)];exact⟨false,rfl,by simp;omega⟩
 have HR : ¬c2 a:=fun h=>sl ((ON a).2 h);simp only[Bool.not_eq_true] at sl;refine⟨false,by simp[sl],?_⟩;simp only[apS,false_iff];exact fun h=>HR h.1.1
theorem agN (x:Int):Gn x=some (!rv x):=by
 unfold Gn rv;by_cases h:x<0
 ·simp[h]
 rw[dA (by simp[h])];congr 1;rw[Bool.eq_iff_iff];simp;omega
theorem VC {a:ar}(hm:(a.length:Int)<9223372036854775807):BG a=some (!(a.all rv)):=by
 obtain⟨r,aj,h⟩:=WB (f:=fun w:Int=>Bt a a.length w) a (fun x=> !rv x) (fun n x U=>by have:=f6 U;unfold Bt;rw[dw (by simp;omega),dw (by omega),dy,U];simp only[dC,dx,agN];rw[i1 (by omega)];cases rv x<;>rfl) (by simp[Bt]);have e:a.any (fun x=> !rv x) = !(a.all rv):=by rw[List.not_all_eq_any_not]
 rw[e] at h;unfold BG Jn Rw;simp only[g9];rw[aj];rcases h with ⟨k,rfl,a2,h⟩|⟨rfl,h⟩
 ·simp only[dC,dx];rw[h];simp[a2]
 simp only[dC,dx];rw[h];rfl
theorem agO {a:ar}(hm:(a.length:Int)<9223372036854775807): ∃ok,zA a=some ok/\(ok=true↔gm a/\a.length<=60):=by
 unfold zA;simp only[g9];by_cases rJ:60<a.length
 ·rw[dw (by simp;omega)];exact⟨false,rfl,by simp;omega⟩
 rw[dA (by simp;omega)];by_cases h0:a=[]
 ·subst h0;exact⟨true,by simp[VC],by simp[gm.nil]⟩
 obtain⟨x,U,aU⟩:=NY h0;have ah:=ap9.mpr h0;rw[dw (by simp;omega),YZ h0 hm,dw (by omega),dy,U];simp only[dC,dx];rw[aU];by_cases kI:x=0
 ·exact⟨false,by simp[kI],by simp[kI]⟩
 rw[dA (by simp[kI]),VC hm];refine⟨_,rfl,?_⟩;rw[<- ON];simp[kI];omega
theorem Wa {a:ar}(hm:(a.length:Int)<9223372036854775807): ∃ok,vl a=some ok/\zA a=some ok/\(ok=true↔gm a/\a.length<=60):=by obtain⟨bX,h1,h2⟩:=J2 hm;obtain⟨aK,J,ak⟩:=agO hm;have:aK=bX:=Bool.eq_iff_iff.mpr (ak.trans h2.symm);exact⟨bX,h1,this▸J,h2⟩
theorem VD {a:ar}(bF:gm a)(rJ:a.length<=60)(bh:V a<9223372036854775808):Dg a=some (V a,true):=by
 obtain⟨ok,h1,h2⟩:=J2 (a:=a) (by omega);have mb:ok=true:=h2.2 ⟨bF,rJ⟩;subst mb;have a0:gm [854775807,223372036,9]:=⟨by intro x U;simp at U;omega,by simp⟩;have Qr:V [854775807,223372036,9]=9223372036854775807:=by decide
 unfold Dg;rw[h1];simp only[dC,dx,if_true];rw[wL bF a0 (by omega),Qr]
 have : ∃r,iter (fun w:Int×Int=>Cd a w.1 w.2) (0,(a.length:Int)-1)=some r/\r=V a:=by
  refine j5 (fp:=fun w:Int×Int=> ∃k:Nat,w.2=(k:Int)-1/\k<=a.length/\w.1=V (a.drop k)) (m:=fun w:Int×Int=>(w.2+1).toNat) _ ?_ _ ⟨a.length,rfl,by omega,by simp[V]⟩;rintro⟨n,i⟩ ⟨k,J,a2,ak⟩;simp only at J ak;subst J ak
  cases k with
  | zero=>exact .inr ⟨V a,by simp[Cd],rfl⟩
  | succ k =>
   have U:=dz (show k<a.length by omega);have kI:=bF.1.get U;have ax:=rf U;have aN:=m4 (bF.1.drop (k+1));have a7:V (a.drop k)<=V a:=(by have bb:=zT (l:=a) (n:=k) (by omega);have ch:=m4 (bF.1.take k);have cu:=m4 (bF.1.drop k);have dm:1*V (a.drop k)<=B k*V (a.drop k):=Int.mul_le_mul_of_nonneg_right (pY k) cu;omega);refine .inl ⟨(V (a.drop k),(k:Int)-1),?_,⟨k,rfl,by omega,rfl⟩,by simp only;omega⟩;unfold Cd;rw[show ((k+1:Nat):Int)-1=k by omega,dw (by simp),dw (by omega),dy,U];simp only[dC,dx];rw[tN (by omega),cG (x:=V (a.drop (k+1))*1000000000) (by omega) (by omega),cG (by omega) (by omega),ax];congr 3;omega
 obtain⟨r,aj,rfl⟩:=this;unfold lP TY;simp only[g9];rw[tN (by omega),aj];have J : ¬(9223372036854775807:Int)<V a:=by omega
 by_cases ak:V a<9223372036854775807<;>simp[J,ak]
theorem aiH {a b row:ar}{less x:Int}{i:Nat}(a3:c2 b)(U:a[i]? = some x)(kI:0<=x/\x<1000000000)(aR:less=0\/less=1)(aU:a.length<=1000000)(hm:b.length<=1000000)(aj:row.length<=1000000):
 ∃y,0<=y/\y<1000000000/\(∀z,b[i]? = some z->y=z)/\(b[i]? = none->y=0) /\
 y6 a b a.length less i row=some (.inl (if x-less-y<0 then (1,((i+1:Nat):Int),row++[x-less-y+1000000000]) else (0,((i+1:Nat):Int),row++[x-less-y]))):=by
 have aa:=f6 U;unfold y6;rw[dw (by simp;omega),dw (by omega),dy,U];simp only[dC,dx,g9];by_cases Z6:i<b.length
 ·have aV:=dz Z6
  have qX:=a3.get aV;refine⟨b[i],qX.1,qX.2,fun z cB=>by rw[aV] at cB;exact dJ cB,fun h=>by rw[aV] at h;simp at h,?_⟩;rw[dw (by simp;omega),dw (by omega),aV];simp only[dx];rw[cG (x:=x-less) (by omega) (by omega),cG (x:=x-less-b[i]) (by omega) (by omega),p6 (n:=i) (by omega),cG (x:=x-less-b[i]+1000000000) (by omega) (by omega)];by_cases h:x-less-b[i]<0
  ·rw[dw (by simp[h]),dw (by simp;omega)];simp[h]
  rw[dA (by simp[h]),dw (by simp;omega)];simp[h]
 have aV:b[i]? = none:=by simp;omega
 refine⟨0,by omega,by omega,fun z cB=>by rw[aV] at cB;simp at cB,fun _=>rfl,?_⟩;rw[dA (by simp;omega),cG (x:=x-less) (by omega) (by omega),p6 (n:=i) (by omega),cG (x:=x-less+1000000000) (by omega) (by omega),Int.sub_zero];by_cases h:x-less<0
 ·rw[dw (by simp[h]),dw (by simp;omega)];simp[h]
 rw[dA (by simp[h]),dw (by simp;omega)];simp[h]
theorem Xh {b:ar}{i:Nat}{y:Int}(h1:∀z,b[i]? = some z->y=z)(h2:b[i]? = none->y=0):V (b.take (i+1))=V (b.take i)+B i*y:=by
 cases h:b[i]? with
 | some z=>rw[h1 z h,wI h]
 | none =>
  rw[h2 h];have:b.length<=i:=(by simpa using h);rw[apW (by omega),apW (by omega)];simp
theorem sub_eq {a b:ar}(bF:c2 a)(a3:c2 b)(hlen:b.length<=a.length)(yu:V b<=V a)(aU:a.length<=1000000):wx a b=some (L (V a-V b)):=by
 have : ∃r,iter (fun w:Int×Int×ar=>y6 a b a.length w.1 w.2.1 w.2.2) (0,0,[])=some r/\c2 r/\r.length=a.length/\V r=V a-V b:=by
  refine j5 (fp:=fun w:Int×Int×ar=> ∃i:Nat,w.2.1=i/\i<=a.length/\(w.1=0\/w.1=1)/\c2 w.2.2/\w.2.2.length=i/\V w.2.2-w.1*B i=V (a.take i)-V (b.take i)) (m:=fun w:Int×Int×ar=>a.length-w.2.1.toNat) _ ?_ _ ⟨0,rfl,by omega,.inl rfl,c2.nil,rfl,by simp[V]⟩;rintro⟨less,ii,row⟩ ⟨i,h1,aa,aR,me,u2,bh⟩;simp only at h1 aR me u2 bh ⊢;subst h1;by_cases Iy:i=a.length
  ·refine .inr ⟨row,by simp[y6,Iy],me,by omega,?_⟩;rw[Iy] at bh;rw[List.take_length,apW hlen] at bh;have h2:=o2 me;rw[u2,Iy] at h2;rcases aR with rfl|rfl<;>omega
  have U:=dz (show i<a.length by omega);have kI:=bF.get U;obtain⟨y,Iz,IA,amv,amw,he⟩:=aiH (row:=row) a3 U kI aR aU (by omega) (by omega);rw[he];refine .inl ⟨_,rfl,?_⟩;have J:=wI U;have ak:=Xh amv amw;by_cases h:a[i]-less-y<0
  ·rw[dw h];refine⟨⟨i+1,rfl,by omega,.inr rfl,me.append (c2.cons (by omega) c2.nil),by simp[u2],?_⟩,by simp only;omega⟩;simp only;rw[J,ak,zM,u2,oq,nq,Eh];grind
  rw[dA h];refine⟨⟨i+1,rfl,by omega,.inl rfl,me.append (c2.cons (by omega) c2.nil),by simp[u2],?_⟩,by simp only;omega⟩;simp only;rw[J,ak,zM,u2,nq,Eh];grind
 obtain⟨r,aj,h1,h2,J⟩:=this;unfold wx UJ;simp only[g9];rw[aj];simp only[dC,dx];rw[vn h1 (by omega),J];rfl
theorem vo {l:ar}(h:c2 l){k:Nat}(a2:k<=l.length):B k*V (l.drop k)<=V l/\V l<B k*(V (l.drop k)+1):=by have h1:=zT a2;have h2:=m4 (h.take k);have J:=o2 (h.take k);rw[List.length_take,Nat.min_eq_left a2] at J;rw[Int.mul_add,Int.mul_one];omega
theorem GP {l:ar}{k:Nat}{x:Int}(U:l[k]? = some x)(aR:l.length=k+1):V (l.drop k)=x:=by rw[rf U,List.drop_of_length_le (by omega)];simp[V]
theorem Vj {a8 W t d P:Int}(gB:1<=P)(LW:P*t<=a8)(Qs:a8<P*(t+1))(yz:P*d<=W)(LX:W<P*(d+1))(bD:0<d)(cl:0<=t)(Qt:a8<1000000000*W):t / (d+1)<=a8 / W/\a8 / W<=t / d/\a8 / W<=999999999:=by
 have hW:0<W:=by have:=Int.mul_pos (a:=P) (b:=d) (by omega) bD;omega
 have dv:0<=a8:=by have:=Int.mul_nonneg (a:=P) (b:=t) (by omega) cl;omega
 refine⟨?_,?_,?_⟩
 ·apply (Int.le_ediv_iff_mul_le hW).2;have h1:t / (d+1)*(d+1)<=t:=Int.ediv_mul_le _ (by omega);have h2:0<=t / (d+1):=Int.ediv_nonneg cl (by omega);have J:t / (d+1)*W<=t / (d+1)*(P*(d+1)):=dL (by omega) h2;have ak:P*(t / (d+1)*(d+1))<=P*t:=dL h1 (by omega);have ax:t / (d+1)*(P*(d+1))=P*(t / (d+1)*(d+1)):=(by grind);omega
 ·apply (Int.le_ediv_iff_mul_le bD).2;have h1:a8 / W*W<=a8:=Int.ediv_mul_le _ (by omega);have h2:0<=a8 / W:=Int.ediv_nonneg dv (by omega);have J:a8 / W*(P*d)<=a8 / W*W:=dL yz h2;have ak:a8 / W*(P*d)=P*(a8 / W*d):=(by grind);have ax:P*(a8 / W*d)<P*(t+1):=(by omega);have:=Int.lt_of_mul_lt_mul_left ax (by omega);omega
 have:=Int.ediv_lt_of_lt_mul hW Qt;omega
theorem XS {a b:Int}:lP a b<=0↔a<=b:=by
 unfold lP;by_cases h:a<b
 ·simp[h];omega
 by_cases h2:b<a
 ·simp[h,h2]
 simp[h,h2];omega
theorem xV {a b:Int}:lP a b<0↔a<b:=by
 unfold lP;by_cases h:a<b
 ·simp[h]
 by_cases h2:b<a
 ·simp[h,h2]
 simp[h,h2]
theorem Oa {a b:Int}:lP a b=0↔a=b:=by
 unfold lP;by_cases h:a<b
 ·simp[h];omega
 by_cases h2:b<a
 ·simp[h,h2];omega
 simp[h,h2];omega
theorem Wb {r b:ar}(aj:gm r)(a3:gm b)(ny:b≠[])(aU:r.length<=1000000)(hm:b.length<=1000000){cb aa:Int}(h0:0<=cb)(h1:cb<=V r / V b)(h2:V r / V b<=aa)(J:aa<=999999999):M1 r b cb aa=some (V r / V b):=by
 have lo:=uI a3 ny
 have : ∃q,iter (fun w:Int×Int=>yZ r b w.1 w.2) (cb,aa)=some q/\q=V r / V b:=by
  refine j5 (fp:=fun w:Int×Int=>0<=w.1/\w.1<=V r / V b/\V r / V b<=w.2/\w.2<=999999999) (m:=fun w:Int×Int=>(w.2-w.1).toNat) _ ?_ _ ⟨h0,h1,h2,J⟩;rintro⟨l,h⟩ ⟨g0,g1,g2,g3⟩;simp only at g0 g1 g2 g3;by_cases eN:l<h;rotate_left
  ·exact .inr ⟨l,by simp[yZ,eN],by omega⟩
  have e1:R ((R ((R (l+h))+(1:Int))).tdiv (2:Int))=(l+h+1) / 2:=(by rw[cG (x:=l+h) (by omega) (by omega),cG (x:=l+h+1) (by omega) (by omega),pq (by omega),cG (by omega) (by omega)]);have qe:0<=(l+h+1) / 2:=(by omega);have si:(l+h+1) / 2<1000000000:=(by omega);have ZI:(L ((l+h+1) / 2)).length<=1:=(ij qe).2 (by simpa [B] using si)
  have e2:yZ r b l h=some (.inl (if V b*((l+h+1) / 2)<=V r then ((l+h+1) / 2,h) else (l,(l+h+1) / 2-1))):=by
   unfold yZ;rw[dw (by simp[eN]),e1,DN qe (by omega)];simp only[dC,dx];rw[mul_eq a3.1 (h9 _) hm (by omega),eA qe];simp only[dx];have ah:0<=V b*((l+h+1) / 2):=Int.mul_nonneg (by omega) qe;have hlen:(L (V b*((l+h+1) / 2))).length<=b.length+1:=(ij ah).2 (by rw[oq];have ax:=o2 a3.1;have:V b*((l+h+1) / 2)<=V b*1000000000:=dL (by omega) (by omega);omega);rw[wL (i6 _) aj (by omega),eA ah];simp only[dx];by_cases a0:V b*((l+h+1) / 2)<=V r
   ·rw[dw (by simpa using XS.2 a0),dw a0]
   rw[dA (fun h=>a0 (XS.1 (by simpa using h))),dA a0,cG (by omega) (by omega)]
  rw[e2];refine .inl ⟨_,rfl,?_⟩;by_cases a0:V b*((l+h+1) / 2)<=V r
  ·rw[dw a0];have:(l+h+1) / 2<=V r / V b:=(Int.le_ediv_iff_mul_le lo).2 (by rw[Int.mul_comm];exact a0);exact⟨⟨by simp only;omega,this,g2,g3⟩,by simp only;omega⟩
  rw[dA a0];have:V r / V b<(l+h+1) / 2:=(Int.ediv_lt_iff_lt_mul lo).2 (by rw[Int.mul_comm];omega);exact⟨⟨g0,g1,by simp only;omega,by simp only;omega⟩,by simp only;omega⟩
 obtain⟨q,a1,rfl⟩:=this;exact a1
theorem KX {b:ar}(a3:gm b)(ny:b≠[]): ∃k d,b.length=k+1/\b[k]? = some d/\0<d/\d<1000000000/\V (b.drop k)=d:=by have ah:=ap9.mpr ny;obtain⟨x,U,h⟩:=NY ny;have h1:=h.1 a3;have h2:=h1.1.get U;exact⟨b.length-1,x,by omega,U,by omega,h2.2,GP U (by omega)⟩
theorem aiI {r b:ar}(aj:gm r)(a3:gm b)(ny:b≠[])(aU:r.length<=1000000)(hm:b.length<=1000000)(h1:V b<=V r)(h2:V r<1000000000*V b):F0 r b=some (V r / V b):=by
 obtain⟨k,d,a2,bD,tU,uf,yA⟩:=KX a3 ny;have ZB:b.length<=r.length:=Nat.le_of_not_lt fun h=>by have:=KB aj a3 h;omega
 have ZC:r.length<=b.length+1:=aj.len.2 (by have:=o2 a3.1;rw[oq];omega);have yo:=vo a3.1 (k:=k) (by omega);rw[yA] at yo;have jS:=vo aj.1 (k:=k) (by omega);have U:=dz (show k<r.length by omega);have kI:=aj.1.get U;have hw:R ((b.length:Int)-1)=(k:Int):=by rw[cG (by omega) (by omega)];omega
 have oS:=m4 (aj.1.drop k);have LY:=Vj (pY k) jS.1 jS.2 yo.1 yo.2 tU oS h2;have apa:=m4 aj.1;have hW:=uI a3 ny;unfold F0;simp only[g9,hw];rw[dw (by omega),dy,U];simp only[dC,dx];by_cases hlen:b.length<r.length
 ·have aV:=dz hlen;have qX:=aj.1.get aV;have qf:V (r.drop (k+1))=r[b.length]:=(by rw[<- a2];exact GP aV (by omega));have cl:V (r.drop k)=r[k]+1000000000*r[b.length]:=(by rw[rf U,qf]);rw[cl] at LY oS;have nu:0<=(r[k]+1000000000*r[b.length]) / (d+1):=Int.ediv_nonneg oS (by omega);have qN:(r[k]+1000000000*r[b.length]) / (d+1)<=r[k]+1000000000*r[b.length]:=Int.ediv_le_self _ oS;have Eu:0<=(r[k]+1000000000*r[b.length]) / d:=Int.ediv_nonneg oS (by omega);have amx:(r[k]+1000000000*r[b.length]) / d<=r[k]+1000000000*r[b.length]:=Int.ediv_le_self _ oS;rw[dw (by simp;omega),dw (by omega),dy,aV];simp only[dx];rw[dw (by omega),bD];simp only[dx];have e1:R (d+1)=d+1:=cG (by omega) (by omega);have e2:R (r[k]+R (r[b.length]*1000000000))=r[k]+1000000000*r[b.length]:=(by rw[cG (x:=r[b.length]*1000000000) (by omega) (by omega),cG (by omega) (by omega),Int.mul_comm]);rw[e1,dw (by omega),dw (by omega),e2,pq oS,pq oS,cG (by omega) (by omega),cG (x:=(r[k]+1000000000*r[b.length]) / d) (by omega) (by omega)];rw[Wb aj a3 ny aU hm nu LY.1 (by split<;>omega) (by split<;>omega)];rfl
 have cl:V (r.drop k)=r[k]:=GP U (by omega);rw[cl] at LY oS;have nu:0<=r[k] / (d+1):=Int.ediv_nonneg oS (by omega);have qN:r[k] / (d+1)<=r[k]:=Int.ediv_le_self _ oS;have Eu:0<=r[k] / d:=Int.ediv_nonneg oS (by omega);have amx:r[k] / d<=r[k]:=Int.ediv_le_self _ oS;rw[dA (by simp;omega),dw (by omega),bD];simp only[dx];have e1:R (d+1)=d+1:=cG (by omega) (by omega);rw[e1,dw (by omega),dw (by omega),pq oS,pq oS,cG (by omega) (by omega),cG (x:=r[k] / d) (by omega) (by omega)];rw[Wb aj a3 ny aU hm nu LY.1 (by split<;>omega) (by split<;>omega)];rfl
theorem aiJ {a b:ar}(bF:gm a)(a3:gm b)(ny:b≠[])(aU:a.length<=900000)(hm:b.length<=900000):
 ∃r,UL a b [] ((a.length:Int)-1) (List.replicate a.length 0)=some r/\r.1=L (V a % V b)/\c2 r.2/\r.2.length=a.length/\V r.2=V a / V b:=by
 have lo:=uI a3 ny;refine j5 (fp:=fun w:ar×Int×ar=> ∃(k:Nat) (q:ar),w.2.1=(k:Int)-1/\k<=a.length/\w.2.2=List.replicate k 0++q/\q.length+k=a.length/\c2 q/\gm w.1/\V w.1<V b/\V (a.drop k)=V q*V b+V w.1) (m:=fun w:ar×Int×ar=>(w.2.1+1).toNat) _ ?_ _ ⟨a.length,[],rfl,by omega,by simp,by simp,c2.nil,gm.nil,by simpa [V] using lo,by simp[V]⟩;rintro⟨rest,i,row⟩ ⟨k,q,h1,a2,h2,a1,s5,nw,jS,bh⟩;simp only at h1 h2 nw jS bh ⊢;subst h1 h2;have IB:=m4 nw.1
 cases k with
 | zero =>
  simp at bh;refine .inr ⟨(rest,q),by simp[CJ],?_,s5,by simpa using a1,?_⟩
  ·refine yg nw ?_;rw[bh,Int.add_comm,Int.add_mul_emod_self_right];exact(Int.emod_eq_of_lt IB jS).symm
  rw[bh,Int.add_comm,Int.add_mul_ediv_right _ _ (by omega),Int.ediv_eq_zero_of_lt IB jS];simp
 | succ k =>
  have U:=dz (show k<a.length by omega);have kI:=bF.1.get U;have u2:rest.length<=b.length:=nw.len.2 (by have:=o2 a3.1;omega);have jJ:c2 (a[k]::rest):=c2.cons kI nw.1;have Qr:V (a[k]::rest)=a[k]+1000000000*V rest:=nq _ _;have rK:0<=a[k]+1000000000*V rest:=(by omega);have apb:(L (a[k]+1000000000*V rest)).length<=b.length+1:=(ij rK).2 (by have:=o2 a3.1;rw[oq];omega);have bD:=rf U
  have Pn:CJ a b rest (k:Int) (List.replicate (k+1) 0++q)=some (.inl (if a[k]+1000000000*V rest<V b then (L (a[k]+1000000000*V rest),(k:Int)-1,List.replicate (k+1) 0++q) else (L ((a[k]+1000000000*V rest) % V b),(k:Int)-1,(List.replicate (k+1) 0++q).set k ((a[k]+1000000000*V rest) / V b)))):=by
   unfold CJ;rw[dw (by simp),dw (by omega),dy,U];simp only[dC,dx,List.singleton_append];rw[dw (by simp;omega),vn jJ (by simp;omega),Qr];simp only[dx];rw[wL (i6 _) a3 (by omega),eA rK];simp only[dx];by_cases a0:a[k]+1000000000*V rest<V b
   ·rw[dw (by simpa using xV.2 a0),dw a0,tN (by omega)]
   rw[dA (fun h=>a0 (xV.1 (by simpa using h))),dA a0];have eN:a[k]+1000000000*V rest<1000000000*V b:=(by omega);rw[aiI (i6 _) a3 ny (by omega) (by omega) (by rw[eA rK];omega) (by rw[eA rK];exact eN),eA rK];simp only[dx];have nu:0<=(a[k]+1000000000*V rest) / V b:=Int.ediv_nonneg rK (by omega);have qN:(a[k]+1000000000*V rest) / V b<1000000000:=Int.ediv_lt_of_lt_mul lo eN;have apc:(L ((a[k]+1000000000*V rest) / V b)).length<=1:=(ij nu).2 (by simpa [B] using qN);have si:=Int.mul_ediv_add_emod (a[k]+1000000000*V rest) (V b);have IC:=Int.emod_nonneg (a[k]+1000000000*V rest) (b:=V b) (by omega);have ID:0<=V b*((a[k]+1000000000*V rest) / V b):=Int.mul_nonneg (by omega) nu;rw[dw (by simp;omega),dw (by simp;omega),DN nu (by omega)];simp only[dx];rw[mul_eq a3.1 (h9 _) (by omega) (by omega),eA nu];simp only[dx];rw[sub_eq (h9 _) (h9 _) ((ij ID).2 (by have:=o2 (h9 (a[k]+1000000000*V rest));rw[eA rK] at this;omega)) (by rw[eA rK,eA ID];omega) (by omega),eA rK,eA ID];simp only[dx];rw[tN (by omega),dG];congr 4;omega
  rw[show ((k+1:Nat):Int)-1=k by omega,Pn];refine .inl ⟨_,rfl,?_⟩;by_cases a0:a[k]+1000000000*V rest<V b
  ·rw[dw a0]
   refine⟨⟨k,0::q,rfl,by omega,?_,by simp;omega,c2.cons (by omega) s5,i6 _,by rw[eA rK];exact a0,?_⟩,by simp⟩
   ·simp only;rw[List.replicate_succ',List.append_assoc];rfl
   simp only;rw[bD,bh,nq,eA rK];grind
  rw[dA a0];have eN:a[k]+1000000000*V rest<1000000000*V b:=(by omega);have IC:=Int.emod_nonneg (a[k]+1000000000*V rest) (b:=V b) (by omega);refine⟨⟨k,(a[k]+1000000000*V rest) / V b::q,rfl,by omega,OM _ _ _,by simp;omega,c2.cons ⟨Int.ediv_nonneg rK (by omega),Int.ediv_lt_of_lt_mul lo eN⟩ s5,i6 _,by rw[eA IC];exact Int.emod_lt_of_pos _ lo,?_⟩,by simp⟩;simp only;rw[bD,bh,nq,eA IC];have si:=Int.mul_ediv_add_emod (a[k]+1000000000*V rest) (V b);generalize (a[k]+1000000000*V rest) / V b=u at *;generalize (a[k]+1000000000*V rest) % V b=t at *;grind
theorem div_eq {a b:ar}(bF:gm a)(a3:gm b)(ny:b≠[])(aU:a.length<=900000)(hm:b.length<=900000):xL a b=some (L (V a / V b),L (V a % V b)):=by
 unfold xL;simp only[g9];by_cases h1:b.length=1
 ·obtain⟨k,d,a2,bD,tU,uf,yA⟩:=KX a3 ny;have xb:k=0:=(by omega);subst xb;have Qu:V b=d:=(by simpa using yA);rw[dw (by simp[h1]),dw (by omega),bD];simp only[dC,dx];have si:=Int.emod_nonneg (V a) (b:=d) (by omega);have IC:=Int.emod_lt_of_pos (V a) tU;rw[aiG bF.1 ⟨tU,uf⟩ (by omega)];simp only[dx];rw[DN si (by omega),Qu];rfl
 obtain⟨r,aj,e1,e2,bG,cM⟩:=aiJ bF a3 ny aU hm;rw[dA (by simp;omega),dw (by omega),tN (by omega),dy,aj];simp only[dC,dx];rw[vn e2 (by omega),cM,e1];rfl
theorem Ow {x y:Int}(U:0<=x):Int.gcd y (x % y)=Int.gcd x y:=by have:=Nat.gcd_rec y.natAbs x.natAbs;simp only[Int.gcd];rw[Nat.gcd_comm x.natAbs,this,Int.natAbs_emod_of_nonneg U,Nat.gcd_comm]
theorem KF {x:Int}(U:0<=x):(Int.gcd x 0:Int)=x:=by rw[Int.gcd_zero_right];omega
theorem aiK {x y:Int}(U:0<=x)(aV:0<=y)(IE:x<9223372036854775808)(Iz:y<9223372036854775808):FY x y=some (L (Int.gcd x y)):=by
 have : ∃r,iter (fun w:Int×Int=>Ce w.1 w.2) (x,y)=some r/\(r=(Int.gcd x y:Int)/\r<9223372036854775808):=by
  refine j5 (fp:=fun w:Int×Int=>0<=w.1/\0<=w.2/\w.1<9223372036854775808/\w.2<9223372036854775808/\Int.gcd w.1 w.2=Int.gcd x y) (m:=fun w:Int×Int=>w.2.toNat) _ ?_ _ ⟨U,aV,IE,Iz,rfl⟩;rintro⟨u,v⟩ ⟨h1,h2,J,ak,ax⟩;simp only at h1 h2 J ak ax;by_cases bh:0<v
  ·have aN:=Int.emod_nonneg u (b:=v) (by omega);have a7:=Int.emod_lt_of_pos u bh;refine .inl ⟨(v,u % v),?_,⟨h2,aN,ak,by simp only;omega,by rw[<- ax];exact Ow h1⟩,by simp only;omega⟩;unfold Ce;rw[dw (by simpa using bh),dw (by omega),td h1]
  have Z0:v=0:=(by omega);subst Z0;refine .inr ⟨u,by simp[Ce],?_,J⟩;rw[<- ax,KF h1]
 obtain⟨r,aj,rfl,h⟩:=this;unfold FY T0;rw[aj];simp only[dC,dx];rw[DN (by omega) h];rfl
theorem KY {a:ar}(bF:gm a)(h:a.length<3):V a<9223372036854775808:=by
 have h1:=o2 bF.1;have h2:=tF (m:=a.length) (n:=2) (by omega);have J:B 2=1000000000000000000:=by decide
 omega
theorem O3 {a b:ar}(bF:gm a)(a3:gm b)(aU:a.length<=900000)(hm:b.length<=900000):Du a b=some (L (Int.gcd (V a) (V b))):=by
 have : ∃r,iter (fun w:ar×ar=>y7 w.1 w.2) (a,b)=some r/\r.elim id id=L (Int.gcd (V a) (V b)):=by
  refine j5 (fp:=fun w:ar×ar=>gm w.1/\gm w.2/\w.1.length<=900000/\w.2.length<=900000/\Int.gcd (V w.1) (V w.2)=Int.gcd (V a) (V b)) (m:=fun w:ar×ar=>(V w.2).toNat) _ ?_ _ ⟨bF,a3,aU,hm,rfl⟩;rintro⟨x,y⟩ ⟨h1,h2,J,ak,ax⟩;simp only at h1 h2 J ak ax ⊢;have kI:=m4 h1.1;have qX:=m4 h2.1;by_cases aV:y=[]
  ·subst aV;refine .inr ⟨.inl x,by simp[y7,g9],?_⟩;rw[<- ax,Eh,KF kI];exact(xd h1).symm
  have Qv:=uI h2 aV;have amy:=ap9.mpr aV;by_cases bM:x.length<3/\y.length<3
  ·refine .inr ⟨.inr (L (Int.gcd (V a) (V b))),?_,rfl⟩;unfold y7;simp only[g9];rw[dw (by simp;omega),dw (by simp;omega),dw (by simp;omega),VD h1 (by omega) (KY h1 bM.1)];simp only[dC,dx];rw[VD h2 (by omega) (KY h2 bM.2)];simp only[dx];rw[aiK kI qX (KY h1 bM.1) (KY h2 bM.2),ax];rfl
  have AX:=Int.emod_nonneg (V x) (b:=V y) (by omega);have amz:=Int.emod_lt_of_pos (V x) Qv;refine .inl ⟨(y,L (V x % V y)),?_,⟨h2,i6 _,ak,(ij AX).2 ?_,?_⟩,?_⟩
  ·unfold y7
   simp only[g9];rw[dw (by simp;omega),div_eq h1 h2 aV J ak];by_cases xl:x.length<3
   ·rw[dw (by simp;omega),dA (by simp;omega)];rfl
   rw[dA (by simp;omega)];rfl
  ·have:=o2 h2.1;have:=tF ak;omega
  ·simp only;rw[eA AX,<- ax];exact Ow kI
  simp only;rw[eA AX];omega
 obtain⟨r,aj,h⟩:=this;unfold Du UM;rw[List.nil_append,List.nil_append,dw (by omega),dw (by omega),aj]
 cases r with
 | inl r=>exact congrArg some h
 | inr r=>exact congrArg some h
def ry (p:Nat)(l:ar):Prop:= ∀i z,i≠p->l[i]? = some z->0<=z/\z<1000000000
theorem ry.set {p:Nat}{l:ar}(h:ry p l){k:Nat}{x:Int}(U:0<=x/\x<1000000000):ry p (l.set k x):=fun i z aa cB=>by
 by_cases a2:k=i
 ·subst a2
  rw[apT] at cB;simp only[if_true] at cB;split at cB
  ·rw[<- dJ cB];exact U
  simp at cB
 rw[List.getElem?_set_ne a2] at cB;exact h i z aa cB
theorem ry.Zm {p:Nat}{l:ar}(h:ry p l){x:Int}:ry p (l.set p x):=fun i z aa cB=>by rw[List.getElem?_set_ne (fun h=>aa h.symm)] at cB;exact h i z aa cB
theorem c2.toE {l:ar}(h:c2 l)(p:Nat):ry p l:=fun _ _ _ cB=>h.get cB
theorem ahx {v row:ar}{cb o3 i:Nat}{kK carry x y:Int}(U:v[i]? = some x)(aV:row[cb+i]? = some y)(kI:0<=x/\x<1000000000)(qX:0<=y/\y<1000000000)(a3:0<=kK/\kK<1000000000)(a0:0<=carry/\carry<1000000000)(hu:i<o3)(aU:row.length<=5000000):
 ∃c z,y8 cb o3 v kK v.length carry i row=some (.inl (c,((i+1:Nat):Int),row.set (cb+i) z))/\0<=c/\c<1000000000/\0<=z/\z<1000000000/\z-1000000000*c=y-kK*x-carry:=by
 have aa:=f6 U;have ay:=f6 aV;obtain⟨js,iw⟩:=He a3 kI;have e:R (R (y-R (kK*x))-carry)=y-kK*x-carry:=by rw[cG (x:=kK*x) (by omega) (by omega),cG (x:=y-kK*x) (by omega) (by omega),cG (by omega) (by omega)]
 by_cases cl:y-kK*x-carry<0
 ·refine⟨(999999999-(y-kK*x-carry)) / 1000000000,y-kK*x-carry+(999999999-(y-kK*x-carry)) / 1000000000*1000000000,?_,by omega,by omega,by omega,by omega,by omega⟩;unfold y8;rw[dw (by simp;omega),dw (by omega),dy,U];simp only[dC,dx];rw[dw (by omega),aV];simp only[dx,e];rw[dw (by simpa using cl),dw (by omega),p6 (n:=i) (by omega),cG (x:=999999999-(y-kK*x-carry)) (by omega) (by omega),pq (by omega),cG (x:=(999999999-(y-kK*x-carry)) / 1000000000) (by omega) (by omega),cG (x:=(999999999-(y-kK*x-carry)) / 1000000000*1000000000) (by omega) (by omega),cG (by omega) (by omega)]
 refine⟨0,y-kK*x-carry,?_,by omega,by omega,by omega,by omega,by omega⟩;unfold y8;rw[dw (by simp;omega),dw (by omega),dy,U];simp only[dC,dx];rw[dw (by omega),aV];simp only[dx,e];rw[dA (by simpa using cl),dw (by omega),p6 (n:=i) (by omega)]
theorem ahy {v row:ar}{cb o3:Nat}{kK:Int}(bh:c2 v)(aj:c2 row)(a3:0<=kK/\kK<1000000000)(hu:v.length<o3)(aR:cb+v.length<row.length)(aU:row.length<=5000000):
 ∃r,US cb o3 v kK v.length 0 0 row=some r/\0<=r.1/\r.1<1000000000/\c2 r.2/\r.2.length=row.length/\V r.2=V row-kK*B cb*V v+r.1*B (cb+v.length)/\ ∀i,i<cb\/cb+v.length<=i->r.2[i]? = row[i]? := by
 refine j5 (fp:=fun w:Int×Int×ar=> ∃(i:Nat),w.2.1=(i:Int)/\i<=v.length/\0<=w.1/\w.1<1000000000/\c2 w.2.2/\w.2.2.length=row.length/\V w.2.2=V row-kK*B cb*V (v.take i)+w.1*B (cb+i)/\ ∀i,i<cb\/cb+v.length<=i->w.2.2[i]? = row[i]?) (m:=fun w:Int×Int×ar=>v.length-w.2.1.toNat) _ ?_ _ ⟨0,rfl,by omega,by simp,by simp,aj,rfl,by simp[V],fun _ _=>rfl⟩;rintro⟨carry,ii,ew⟩ ⟨i,h1,aa,oN,o8,me,hlen,hV,ns⟩;simp only at h1 oN o8 me hlen hV ns ⊢;subst h1;by_cases Ex:i=v.length
 ·subst Ex;exact .inr ⟨(carry,ew),by simp[y8],oN,o8,me,hlen,by simpa using hV,ns⟩
 have U:=dz (show i<v.length by omega);have aV:=dz (show cb+i<ew.length by omega);obtain⟨c,z,he,bV,bf,fK,qn,cB⟩:=ahx (o3:=o3) U aV (bh.get U) (me.get aV) a3 ⟨oN,o8⟩ (by omega) (by omega);rw[he];refine .inl ⟨_,rfl,⟨i+1,rfl,by omega,bV,bf,me.set ⟨fK,qn⟩,by simpa using hlen,?_,fun k a2=> ?_⟩,by simp;omega⟩
 ·simp only;rw[vE aV,wI U,hV,<- Nat.add_assoc,oq,Hp];have vP:z=ew[cb+i]-kK*v[i]-carry+1000000000*c:=(by omega);rw[vP];grind
 simp only;rw[List.getElem?_set_ne (by omega)];exact ns k a2
theorem akd {v row:ar}{cb o3:Nat}{kK:Int}(bh:c2 v)(aj:c2 row)(a3:0<=kK/\kK<1000000000)(hu:v.length<o3)(aR:cb+v.length<row.length)(aU:row.length<=5000000):
 ∃y eM,Gw v kK cb o3 row=some (decide (y<0),eM)/\eM.length=row.length/\ry (cb+v.length) eM/\eM[cb+v.length]? = some y/\ -1000000000<y/\y<1000000000/\V eM=V row-kK*B cb*V v/\ ∀i,i<cb\/cb+v.length<i->eM[i]? = row[i]? := by
 obtain⟨r,jS,bV,bf,me,hlen,hV,ns⟩:=ahy bh aj a3 hu aR aU;have U:=dz (show cb+v.length<r.2.length by omega);have kI:=me.get U;refine⟨r.2[cb+v.length]-r.1,r.2.set (cb+v.length) (r.2[cb+v.length]-r.1),?_,by simpa using hlen,(c2.toE me _).Zm,?_,by omega,by omega,?_,fun i aa=> ?_⟩
 ·unfold Gw;simp only[g9];rw[jS];simp only[dC,dx,dy];rw[dw (by omega),U];simp only[dx];rw[dw (by omega),cG (by omega) (by omega),apT,dw rfl,dw (by omega)];rfl
 ·rw[apT,dw rfl,dw (by omega)]
 ·rw[vE U,hV];grind
 rw[List.getElem?_set_ne (by omega)];exact ns i (by omega)
theorem ahz {v row:ar}{cb o3:Nat}(bh:c2 v)(aj:ry (cb+v.length) row)(hu:v.length<o3)(aR:cb+v.length<row.length)(aU:row.length<=5000000):
 ∃r,UT cb o3 v v.length 0 0 row=some r/\0<=r.1/\r.1<=1/\ry (cb+v.length) r.2/\r.2.length=row.length/\V r.2=V row+B cb*V v-r.1*B (cb+v.length)/\ ∀i,i<cb\/cb+v.length<=i->r.2[i]? = row[i]? := by
 refine j5 (fp:=fun w:Int×Int×ar=> ∃(i:Nat),w.2.1=(i:Int)/\i<=v.length/\0<=w.1/\w.1<=1/\ry (cb+v.length) w.2.2/\w.2.2.length=row.length/\V w.2.2=V row+B cb*V (v.take i)-w.1*B (cb+i)/\ ∀i,i<cb\/cb+v.length<=i->w.2.2[i]? = row[i]?) (m:=fun w:Int×Int×ar=>v.length-w.2.1.toNat) _ ?_ _ ⟨0,rfl,by omega,by simp,by simp,aj,rfl,by simp[V],fun _ _=>rfl⟩;rintro⟨carry,ii,ew⟩ ⟨i,h1,aa,oN,o8,me,hlen,hV,ns⟩;simp only at h1 oN o8 me hlen hV ns ⊢;subst h1;by_cases Ex:i=v.length
 ·subst Ex;exact .inr ⟨(carry,ew),by simp[CL],oN,o8,me,hlen,by simpa using hV,ns⟩
 have U:=dz (show i<v.length by omega);have aV:=dz (show cb+i<ew.length by omega);have kI:=bh.get U;have qX:=me _ _ (by omega) aV;have he:CL cb o3 v v.length carry i ew=some (.inl ((ew[cb+i]+v[i]+carry) / 1000000000,((i+1:Nat):Int),ew.set (cb+i) ((ew[cb+i]+v[i]+carry) % 1000000000))):=by unfold CL;rw[dw (by simp;omega),dw (by omega),dy,U];simp only[dC,dx];rw[dw (by omega),aV];simp only[dx];rw[dw (by omega),cG (x:=ew[cb+i]+v[i]) (by omega) (by omega),cG (x:=ew[cb+i]+v[i]+carry) (by omega) (by omega),td (by omega),pq (by omega),cG (by omega) (by omega),p6 (n:=i) (by omega)]
 rw[he];refine .inl ⟨_,rfl,⟨i+1,rfl,by omega,by simp only;omega,by simp only;omega,me.set (by omega),by simpa using hlen,?_,fun k a2=> ?_⟩,by simp;omega⟩
 ·simp only;rw[vE aV,wI U,hV,<- Nat.add_assoc,oq,Hp];have:=Int.mul_ediv_add_emod (ew[cb+i]+v[i]+carry) 1000000000;generalize (ew[cb+i]+v[i]+carry) / 1000000000=q at *;generalize (ew[cb+i]+v[i]+carry) % 1000000000=t at *;have vP:t=ew[cb+i]+v[i]+carry-1000000000*q:=(by omega);rw[vP];grind
 simp only;rw[List.getElem?_set_ne (by omega)];exact ns k a2
theorem ake {v row:ar}{cb o3:Nat}{y:Int}(bh:c2 v)(aj:ry (cb+v.length) row)(hu:v.length<o3)(aR:cb+v.length<row.length)(aU:row.length<=5000000)(aV:row[cb+v.length]? = some y)(qX:-1000000000<y)(Iz:y<1000000000):
 ∃nA eM,Dx v cb o3 row=some eM/\eM.length=row.length/\ry (cb+v.length) eM/\eM[cb+v.length]? = some nA/\V eM=V row+B cb*V v/\ ∀i,i<cb\/cb+v.length<i->eM[i]? = row[i]? := by
 obtain⟨r,jS,bV,bf,me,hlen,hV,ns⟩:=ahz bh aj hu aR aU;have U:r.2[cb+v.length]? = some y:=by rw[ns _ (by omega)];exact aV
 refine⟨y+r.1,r.2.set (cb+v.length) (y+r.1),?_,by simpa using hlen,me.Zm,?_,?_,fun i aa=> ?_⟩
 ·unfold Dx;simp only[g9];rw[jS];simp only[dC,dx,dy];rw[dw (by omega),U];simp only[dx];rw[dw (by omega),cG (by omega) (by omega)]
 ·rw[apT,dw rfl,dw (by omega)]
 ·rw[vE U,hV];grind
 rw[List.getElem?_set_ne (by omega)];exact ns i (by omega)
theorem aiL {g q v1 v2 top iN rest a8 W P:Int}(gB:1<=P)(du:0<=g)(cl:g*v1+rest=top)(yz:P*(v1*1000000000+v2)<=W)(Qs:a8<P*(top*1000000000+iN+1))(Z7:q*W<=a8)(hW:0<=W)(h:rest*1000000000+iN<g*v2):q<g:=by
 apply Int.not_le.mp;intro yB;have h1:g*W<=q*W:=Int.mul_le_mul_of_nonneg_right yB hW;have h2:g*(P*(v1*1000000000+v2))<=g*W:=dL yz du;have J:g*(P*(v1*1000000000+v2))=P*(g*(v1*1000000000+v2)):=by grind
 have ak:P*(g*(v1*1000000000+v2))<P*(top*1000000000+iN+1):=by omega
 have ax:=Int.lt_of_mul_lt_mul_left ak (by omega);have aN:g*(v1*1000000000+v2)=1000000000*(g*v1)+g*v2:=by grind
 omega
theorem WI {g v1 v2 top iN rest a8 W P:Int}(gB:1<=P)(du:0<=g)(yC:g<=999999999)(u3:1<=v1)(IF:0<=v2)(cl:g*v1+rest=top)(yz:P*(v1*1000000000+v2)<=W)(LX:W<P*(v1*1000000000+v2+1))(LW:P*(top*1000000000+iN)<=a8)(h:g*v2<=rest*1000000000+iN):g<=a8 / W+1:=by
 have IG:P*1000000000<=W:=by have h1:P*1000000000<=P*(v1*1000000000+v2):=dL (by omega) (by omega);omega
 have h1:g*W<=g*(P*(v1*1000000000+v2+1)):=dL (by omega) du;have h2:g*(P*(v1*1000000000+v2+1))=P*(1000000000*(g*v1)+g*v2+g):=by grind
 have J:P*(1000000000*(g*v1)+g*v2+g)<=P*(top*1000000000+iN+999999999):=dL (by omega) (by omega);have ak:P*(top*1000000000+iN+999999999)=P*(top*1000000000+iN)+P*999999999:=by grind
 have ax:(g-1)*W=g*W-W:=by grind
 have:g-1<=a8 / W:=(Int.le_ediv_iff_mul_le (by omega)).2 (by omega);omega
theorem agP {ad u ks aA:ar}{N n j:Nat}{v1 v2 iN top a8 W P:Int}(aU:2<=n)(LC:n<=5000000)(IH:j+n<N)(hg:N<=5000000)(h1:ks[n-1]? = some v1)(h2:ks[n-2]? = some v2)(J:u[j+n-2]? = some iN)
 (u3:1<=v1/\v1<1000000000) (IF:0<=v2/\v2<1000000000) (apd:0<=iN/\iN<1000000000) (gB:1<=P) (yz:P*(v1*1000000000+v2)<=W) (LX:W<P*(v1*1000000000+v2+1)) (LW:P*(top*1000000000+iN)<=a8) (Qs:a8<P*(top*1000000000+iN+1)) (dv:0<=a8) (Qt:a8<1000000000*W) (oS:0<=top) (ape:top<=v1*1000000000+999999999) (a1:a8 / W<=top / v1) :
 ∃g,Vg N n n j ad u ks aA (top / v1) (top % v1)=some g/\(a8 / W=g\/a8 / W+1=g)/\0<=g/\g<=999999999:=by
 have IG:0<W:=by have h1:P*1000000000<=P*(v1*1000000000+v2):=dL (by omega) (by omega);omega
 have nu:0<=a8 / W:=Int.ediv_nonneg dv (by omega);have qN:a8 / W<1000000000:=Int.ediv_lt_of_lt_mul IG Qt;have Z7:a8 / W*W<=a8:=Int.ediv_mul_le _ (by omega);have amB:=Int.mul_ediv_add_emod top v1;have qe:=Int.emod_nonneg top (b:=v1) (by omega);have si:=Int.emod_lt_of_pos top (b:=v1) (by omega);have PB:R ((n:Int)-1)=((n-1:Nat):Int):=by rw[cG (by omega) (by omega)];omega
 have alt:R ((n:Int)-2)=((n-2:Nat):Int):=by rw[cG (by omega) (by omega)];omega
 have alu:R (R ((j:Int)+(n:Int))-2)=((j+n-2:Nat):Int):=by rw[cG (x:=(j:Int)+n) (by omega) (by omega),cG (by omega) (by omega)];omega
 have Lr:top / v1<=top:=Int.ediv_le_self _ oS;refine j5 (fp:=fun w:Int×Int=>w.1*v1+w.2=top/\0<=w.2/\w.2<1000000000/\a8 / W<=w.1/\w.1<=top) (m:=fun w:Int×Int=>w.1.toNat) _ ?_ _ ⟨by rw[Int.mul_comm];exact amB,qe,by simp only;omega,a1,Lr⟩;rintro⟨g,rest⟩ ⟨i1,i2,Q0,IX,anA⟩;simp only at i1 i2 Q0 IX anA ⊢;have Qw:R (rest+v1)=rest+v1:=cG (by omega) (by omega);have Qx:R (g-1)=g-1:=cG (by omega) (by omega);have yC:(g-1)*v1+(rest+v1)=top:=by grind
 have Yy:a8 / W<=g-1->1000000000<=rest+v1->(a8 / W=g-1\/a8 / W+1=g-1)/\0<=g-1/\g-1<=999999999:=by intro kN j3;have oU:(g-1)*v1<1000000000*v1:=(by omega);have I5:g-1<1000000000:=Int.lt_of_mul_lt_mul_right oU (by omega);have aaO:0<=g-1:=(by omega);have apK:=(He ⟨aaO,I5⟩ IF).2;have:=WI gB aaO (by omega) u3.1 IF.1 yC yz LX LW (by omega);omega
 by_cases PC:1000000000<=g
 ·by_cases a3:1000000000<=rest+v1
  ·refine .inr ⟨g-1,?_,Yy (by omega) a3⟩;unfold za;rw[dw (by simpa using PC),PB,dw (by omega),dG,dy,h1];simp only[dC,dx,Qw,Qx];rw[dw (by simpa using a3)]
  refine .inl ⟨(g-1,rest+v1),?_,⟨yC,by simp only;omega,by simp only;omega,by simp only;omega,by simp only;omega⟩,by simp only;omega⟩;unfold za;rw[dw (by simpa using PC),PB,dw (by omega),dG,dy,h1];simp only[dC,dx,Qw,Qx];rw[dA (by simpa using a3)]
 have kZ:0<=g:=by omega
 obtain⟨js,iw⟩:=He ⟨kZ,by omega⟩ IF;have e1:R (R (rest*1000000000)+iN)=rest*1000000000+iN:=by rw[cG (x:=rest*1000000000) (by omega) (by omega),cG (by omega) (by omega)]
 have e2:R (g*v2)=g*v2:=cG (by omega) (by omega)
 have Pn:za N n n j ad u ks aA g rest=some (if rest*1000000000+iN<g*v2 then (if 1000000000<=rest+v1 then .inr (g-1) else .inl (g-1,rest+v1)) else .inr g):=by
  unfold za;rw[dA (by simpa using PC),alt,dw (by omega),dG,dy,h2];simp only[dC,dx];rw[alu,dw (by omega),dG,dy,J];simp only[dx,e1,e2];by_cases a0:rest*1000000000+iN<g*v2
  ·rw[dw (by simpa using a0),dw a0,PB,dw (by omega),dG,dy,h1]
   simp only[dx,Qw,Qx];by_cases a3:1000000000<=rest+v1
   ·rw[dw (by simpa using a3),dw a3]
   rw[dA (by simpa using a3),dA a3]
  rw[dA (by simpa using a0),dA a0]
 rw[Pn];by_cases a0:rest*1000000000+iN<g*v2
 ·have apf:=aiL gB kZ i1 yz Qs Z7 (by omega) a0
  rw[dw a0];by_cases a3:1000000000<=rest+v1
  ·rw[dw a3];exact .inr ⟨g-1,rfl,Yy (by omega) a3⟩
  rw[dA a3];exact .inl ⟨(g-1,rest+v1),rfl,⟨yC,by simp only;omega,by simp only;omega,by simp only;omega,by simp only;omega⟩,by simp only;omega⟩
 rw[dA a0];have:=WI gB kZ (by omega) u3.1 IF.1 i1 yz LX LW (by omega);exact .inr ⟨g,rfl,by omega,by omega,by omega⟩
theorem ahA {a b:ar}{k:Nat}(h:∀i,k<=i->a[i]? = b[i]?):a.drop k=b.drop k:=by apply ap1;intro i;rw[ap5,ap5];exact h _ (by omega)
theorem ahB {a b:ar}{k:Nat}(h:∀i,i<k->a[i]? = b[i]?):a.take k=b.take k:=by
 apply ap1;intro i;rw[dT,dT];by_cases aa:i<k
 ·rw[dw aa,dw aa];exact h i aa
 rw[dA aa,dA aa]
theorem Z8 {u w:ar}{j n:Nat}{y c:Int}(hlen:w.length=u.length)(IH:j+n<u.length)(e8:ry (j+n) w)(aV:w[j+n]? = some y)(ns:∀i,i<j\/j+n<i->w[i]? = u[i]?)(h0:V (u.drop (j+n+1))=0)(hV:V w=V u-c*B j):
 V (w.drop j)=V (u.drop j)-c/\ ∃low,0<=low/\low<B n/\V (w.drop j)=low+B n*y:=by
 have h1:=zT (l:=u) (n:=j) (by omega);have h2:=zT (l:=w) (n:=j) (by omega);rw[ahB (a:=w) (b:=u) (fun i aa=>ns i (.inl aa))] at h2;have J:B j*V (w.drop j)=B j*(V (u.drop j)-c):=by grind
 have gN:=pY j;have ak:V (w.drop j)=V (u.drop j)-c:=Int.eq_of_mul_eq_mul_left (by omega) J;refine⟨ak,V ((w.drop j).take n),?_,?_,?_⟩
 ·refine m4 (fun x U=> ?_);obtain⟨i,aa⟩:=List.mem_iff_getElem?.mp U;have lZ:=f6 aa;simp at lZ;rw[dT,dw (by omega),ap5] at aa;exact e8 _ _ (by omega) aa
 ·have aR:c2 ((w.drop j).take n):=fun x U=>by
   obtain⟨i,aa⟩:=List.mem_iff_getElem?.mp U;have lZ:=f6 aa;simp at lZ;rw[dT,dw (by omega),ap5] at aa;exact e8 _ _ (by omega) aa
  have:=o2 aR
  rwa [List.length_take,Nat.min_eq_left (by simp;omega)] at this
 have ax:=zT (l:=w.drop j) (n:=n) (by simp;omega);rw[List.drop_drop,rf aV,ahA (a:=w) (b:=u) (k:=j+n+1) (fun i aa=>ns i (.inr (by omega))),h0] at ax;rw[ax];grind
theorem WJ {w:ar}{p:Nat}(e8:ry p w)(aV:w[p]? = some 0):c2 w:=fun x U=>by
 obtain⟨i,aa⟩:=List.mem_iff_getElem?.mp U;by_cases h:i=p
 ·subst h;rw[aV] at aa;have:=dJ aa;omega
 exact e8 i x h aa
theorem Xi {low y X Be W:Int}(h0:0<=low)(h1:low<Be)(Mf:X=low+Be*y)(h2:0<=X)(J:X<W)(ak:W<=Be):y=0:=by
 have eN:Be*y<Be*1:=by omega
 have ax:=Int.lt_of_mul_lt_mul_left eN (by omega);have LK:Be*(-1)<Be*y:=by omega
 have aN:=Int.lt_of_mul_lt_mul_left LK (by omega);omega
theorem ahC {ad u ks aA:ar}{n j:Nat}{v1 W:Int}(aU:2<=n)(II:n<=ks.length)(bh:c2 (ks.take n))(hW:V (ks.take n)=W)(u3:ks[n-1]? = some v1)(PD:1<=v1)(hu:c2 u)(AY:u.length<=5000000)(IH:j+n<u.length)(eN:V (u.drop (j+1))<W)(apg:j<aA.length):
 ∃nl,zb u.length n n ad ks j u aA=some (.inl ((j:Int)-1,nl,aA.set j (V (u.drop j) / W)))/\c2 nl/\nl.length=u.length/\V nl=V u-(V (u.drop j) / W)*B j*W/\V (nl.drop j)<W/\0<=V (u.drop j) / W/\V (u.drop j) / W<1000000000:=by
 obtain⟨n,rfl⟩ : ∃m,n=m+2:=⟨n-2,by omega⟩;have sS:(ks.take (n+2)).length=n+2:=by simp;omega
 have yC:(ks.take (n+2))[n+1]? = some v1:=by rw[dT,dw (by omega)];exact u3
 have Z9:=dz (show n<ks.length by omega);have Zn:(ks.take (n+2))[n]? = some ks[n]:=by rw[dT,dw (by omega)];exact Z9
 have alv:=bh.get yC;have alw:=bh.get Zn;have kI:=dz (show j+(n+2)<u.length by omega);have IE:=dz (show j+(n+1)<u.length by omega);have uP:=dz (show j+n<u.length by omega);have aaa:=dz (show j<u.length by omega);have ny:=hu.get kI;have yo:=hu.get IE;have P1:=hu.get uP;have aph:=hu.get aaa;have xm:=vo bh (k:=n+1) (by omega);rw[GP yC (by omega),hW] at xm;have Qy:=vo bh (k:=n) (by omega);rw[rf Zn,GP yC (by omega),hW] at Qy;have PE:=o2 bh;rw[sS,hW] at PE;have api:0<=W:=by rw[<- hW];exact m4 bh
 have cB:=vo (hu.drop (j+1)) (k:=n+2) (by simp;omega);rw[List.drop_drop] at cB;have amC:=m4 (hu.drop (j+1+(n+2)));have apj:=pY (n+2);have h0:V (u.drop (j+(n+2)+1))=0:=by rw[show j+(n+2)+1=j+1+(n+2) by omega];apply Int.le_antisymm _ amC;apply Int.not_lt.mp;intro h;have:B (n+2)*1<=B (n+2)*V (u.drop (j+1+(n+2))):=dL (by omega) (by omega);omega
 have oS:V (u.drop (j+(n+2)))=u[j+(n+2)]:=by rw[rf kI,h0];omega
 have Lr:V (u.drop (j+(n+1)))=u[j+(n+1)]+1000000000*u[j+(n+2)]:=by rw[rf IE,show j+(n+1)+1=j+(n+2) by omega,oS]
 have iE:V (u.drop (j+n))=u[j+n]+1000000000*(u[j+(n+1)]+1000000000*u[j+(n+2)]):=by rw[rf uP,show j+n+1=j+(n+1) by omega,Lr]
 have jS:=vo (hu.drop j) (k:=n+1) (by simp;omega);rw[List.drop_drop,Lr] at jS;have AZ:=vo (hu.drop j) (k:=n) (by simp;omega);rw[List.drop_drop,iE] at AZ;have rK:=m4 (hu.drop j);have dv:V (u.drop j)<1000000000*W:=by rw[rf aaa];omega
 have amD:=pY n;have alx:=pY (n+1);have AG:u[j+(n+2)]<=v1:=by have h1:=vo (hu.drop (j+1)) (k:=n+1) (by simp;omega);rw[List.drop_drop,show j+1+(n+1)=j+(n+2) by omega,oS] at h1;have h2:B (n+1)*u[j+(n+2)]<B (n+1)*(v1+1):=(by omega);have:=Int.lt_of_mul_lt_mul_left h2 (by omega);omega
 have aly:=Vj alx jS.1 jS.2 xm.1 xm.2 (by omega) (by omega) dv
 obtain⟨g,du,yB,amE,apk⟩:=agP (ad:=ad) (aA:=aA) (N:=u.length) (n:=n+2) (j:=j) (v1:=v1) (v2:=ks[n]) (iN:=u[j+n]) (top:=u[j+(n+1)]+1000000000*u[j+(n+2)]) (a8:=V (u.drop j)) (W:=W) (P:=B n) (u:=u) (ks:=ks) (by omega) (by omega) IH AY u3 Z9 uP ⟨PD,alv.2⟩ alw P1 amD
  (by rw[Int.mul_comm v1,Int.add_comm];exact Qy.1) (by rw[Int.mul_comm v1,Int.add_comm (1000000000*v1)];exact Qy.2)
  (by rw[Int.mul_comm (u[j+(n+1)]+_),Int.add_comm];exact AZ.1) (by rw[Int.mul_comm (u[j+(n+1)]+_),Int.add_comm (1000000000*_) u[j+n]];exact AZ.2) rK dv (by omega) (by omega) aly.2.1
 have IG:0<W:=by have:B (n+1)*1<=B (n+1)*v1:=dL (by omega) (by omega);omega
 have nu:0<=V (u.drop j) / W:=Int.ediv_nonneg rK (by omega);have qN:V (u.drop j) / W<1000000000:=Int.ediv_lt_of_lt_mul IG dv;have hm:=Int.mul_ediv_add_emod (V (u.drop j)) W;have qe:=Int.emod_nonneg (V (u.drop j)) (b:=W) (by omega);have si:=Int.emod_lt_of_pos (V (u.drop j)) IG;obtain⟨y,w,cl,LZ,L0,L1,qX,Iz,L2,O4⟩:=akd (v:=ks.take (n+2)) (row:=u) (cb:=j) (o3:=u.length-j) (kK:=g) bh hu ⟨amE,by omega⟩ (by omega) (by omega) AY;rw[sS] at L0 L1 O4;rw[hW] at L2;obtain⟨xl,low,pI,L3,xa⟩:=Z8 (c:=g*W) LZ IH L0 L1 O4 h0 (by rw[L2];grind);have amF:R ((j:Int)-1)=(j:Int)-1:=tN (by omega);have e1:R ((j:Int)+((n+2:Nat):Int))=((j+(n+2):Nat):Int):=by rw[cG (by omega) (by omega)];omega
 have e2:R (((j+(n+2):Nat):Int)-1)=((j+(n+1):Nat):Int):=by rw[cG (by omega) (by omega)];omega
 have bG:R (((n+2:Nat):Int)-1)=((n+1:Nat):Int):=by rw[cG (by omega) (by omega)];omega
 have cM:R (R (u[j+(n+2)]*1000000000)+u[j+(n+1)])=u[j+(n+1)]+1000000000*u[j+(n+2)]:=by rw[cG (x:=u[j+(n+2)]*1000000000) (by omega) (by omega),cG (by omega) (by omega)];omega
 have db:0<=u[j+(n+1)]+1000000000*u[j+(n+2)]:=by omega
 have eJ:(u[j+(n+1)]+1000000000*u[j+(n+2)]) / v1<=u[j+(n+1)]+1000000000*u[j+(n+2)]:=Int.ediv_le_self _ db;have eU:0<=(u[j+(n+1)]+1000000000*u[j+(n+2)]) / v1:=Int.ediv_nonneg db (by omega);have alz:ks[n+1]? = some v1:=u3
 have pre:zb u.length (n+2) ((n+2:Nat):Int) ad ks j u aA =
  (if (decide (y<0))=true then
    Dx (ks.take (n+2)) j (u.length-j) w >>= fun mr=>some (.inl ((j:Int)-1,mr,aA.set j (R (g-1))))
  else some (.inl ((j:Int)-1,w,aA.set j g))):=by
  unfold zb;rw[dw (by simp)];simp only[e1,e2,bG,dy,dG,amF];rw[dw (by omega),kI];simp only[dC,dx];rw[dw (by omega),IE];simp only[dx];rw[dw (by omega),alz];simp only[dx];rw[dw (by omega),cM,pq db,td db,cG (by omega) (by omega),du];simp only[dx];rw[dw (by omega),dw (by omega),dw (by omega),List.drop_zero,cl];simp only[dx];by_cases aV:y<0
  ·have bD:(decide (y<0))=true:=(by simpa using aV);simp only[dw bD];congr 1;funext r;rw[dw (by omega),dw (by omega)]
  have bD : ¬(decide (y<0))=true:=(by simpa using aV);simp only[dA bD];rw[dw (by omega),dw (by omega)]
 rcases yB with yB|yB
 ·subst yB;have Mf:V (w.drop j)=V (u.drop j) % W:=(by rw[xl];grind);have aV:y=0:=Xi (W:=W) pI L3 xa (by rw[Mf];exact qe) (by rw[Mf];exact si) (Int.le_of_lt PE);subst aV;refine⟨w,?_,WJ L0 L1,LZ,L2,by omega,nu,qN⟩;rw[pre];rfl
 have Mf:V (w.drop j)=V (u.drop j) % W-W:=by rw[xl,<- yB];grind
 have aV:y<0:=by apply Int.not_le.mp;intro h;have:0<=B (n+2)*y:=Int.mul_nonneg (by omega) h;omega
 obtain⟨nA,bZ,oA,aoO,PF,PG,Zo,XT⟩:=ake (v:=ks.take (n+2)) (row:=w) (cb:=j) (o3:=u.length-j) (y:=y) bh (by rw[sS];exact L0) (by omega) (by omega) (by omega) (by rw[sS];exact L1) qX Iz;rw[sS] at PF PG XT;rw[hW] at Zo;have aab:V bZ=V u-V (u.drop j) / W*B j*W:=by rw[Zo,L2,<- yB];grind
 obtain⟨alA,aoP,alB,alC,alD⟩:=Z8 (c:=V (u.drop j) / W*W) (by omega) IH PF PG (fun i aa=>by rw[XT i aa,O4 i aa]) h0 (by rw[aab];grind);have aac:V (bZ.drop j)=V (u.drop j) % W:=by rw[alA];grind
 have qf:nA=0:=Xi (W:=W) alB alC alD (by rw[aac];exact qe) (by rw[aac];exact si) (Int.le_of_lt PE);subst qf;refine⟨bZ,?_,WJ PF PG,by omega,aab,by omega,nu,qN⟩;rw[pre,dw (by simpa using aV),oA];simp only[dC,dx];rw[cG (by omega) (by omega),show g-1=V (u.drop j) / W by omega]
theorem ahD {ad ks u:ar}{n m:Nat}{v1 W:Int}(aU:2<=n)(II:n<=ks.length)(bh:c2 (ks.take n))(hW:V (ks.take n)=W)(u3:ks[n-1]? = some v1)(PD:1<=v1)(hu:c2 u)(AY:u.length<=5000000)(hm:m+n=u.length)(eN:V (u.drop m)<W):
 ∃r,Vh u.length n n ad ks ((m:Int)-1) u (List.replicate m 0)=some r/\c2 r.1/\r.1.length=u.length/\V r.1<W/\c2 r.2/\r.2.length=m/\V u=V r.2*W+V r.1:=by
 refine j5 (fp:=fun w:Int×ar×ar=> ∃(k:Nat) (q:ar),w.1=(k:Int)-1/\k<=m/\c2 w.2.1/\w.2.1.length=u.length/\w.2.2=List.replicate k 0++q/\q.length+k=m/\c2 q/\V (w.2.1.drop k)<W/\V u=V w.2.1+B k*V q*W) (m:=fun w:Int×ar×ar=>(w.1+1).toNat) _ ?_ _ ⟨m,[],rfl,by omega,hu,rfl,by simp,by simp,c2.nil,eN,by simp[V]⟩;rintro⟨anz,nl,aA⟩ ⟨k,q,h1,a2,qO,hlen,J,a1,s5,PH,hV⟩;simp only at h1 qO hlen J PH hV ⊢;subst h1 J
 cases k with
 | zero =>
  refine .inr ⟨(nl,q),by simp[zb],qO,hlen,by simpa using PH,s5,by simpa using a1,?_⟩;rw[hV];simp[B];omega
 | succ k =>
  obtain⟨apl,he,s1,s2,yE,aaP,anB,anC⟩:=ahC (ad:=ad) (ks:=ks) (u:=nl) (aA:=List.replicate (k+1) 0++q) (j:=k) aU II bh hW u3 PD qO (by omega) (by omega) PH (by simp;omega);rw[hlen] at he;rw[show ((k+1:Nat):Int)-1=k by omega,he];refine .inl ⟨_,rfl,⟨k,V (nl.drop k) / W::q,rfl,by omega,s1,s2.trans hlen,OM _ _ _,by simp;omega,c2.cons ⟨anB,anC⟩ s5,aaP,?_⟩,by simp only;omega⟩;simp only;rw[hV,yE,nq,oq];grind
theorem aiM {a:ar}(h:a.length<=900000):G1 a=some a:=by unfold G1;rw[dw (by omega)]
theorem agQ {a b q s:Int}(h:a=q*b+s)(h0:0<=s)(h1:s<b):a / b=q/\a % b=s:=by
 subst h;constructor
 ·rw[Int.add_comm,Int.add_mul_ediv_right _ _ (by omega),Int.ediv_eq_zero_of_lt h0 h1];omega
 rw[Int.add_comm,Int.add_mul_emod_self_right];exact Int.emod_eq_of_lt h0 h1
theorem KG {a b:ar}(bF:gm a)(a3:gm b)(ny:b≠[])(aU:a.length<=900000)(hm:b.length<=900000):wC a b=some (L (V a / V b),L (V a % V b)):=by
 have lo:=uI a3 ny;have LB:=m4 bF.1;unfold wC;simp only[g9];rw[J1 bF a3 (by omega)];simp only[dC,dx];by_cases a0:V a<V b
 ·rw[dw (by simpa using xV.2 a0),aiM aU,Int.ediv_eq_zero_of_lt LB a0,Int.emod_eq_of_lt LB a0,sE,xd bF];rfl
 rw[dA (fun h=>a0 (xV.1 (by simpa using h)))];obtain⟨k,d,a2,bD,tU,uf,yA⟩:=KX a3 ny;by_cases h1:b.length=1
 ·have xb:k=0:=(by omega);subst xb;have Qu:V b=d:=(by simpa using yA);rw[dw (by simp[h1]),dw (by omega),bD];simp only[dx];have si:=Int.emod_nonneg (V a) (b:=d) (by omega);have IC:=Int.emod_lt_of_pos (V a) tU;rw[Vi bF.1 ⟨tU,uf⟩ (by omega)];simp only[dx];rw[Ht si (by omega),NX si (by omega),Qu];rfl
 have hw:R ((b.length:Int)-1)=(k:Int):=by rw[cG (by omega) (by omega)];omega
 have e1:R (d+1)=d+1:=cG (by omega) (by omega);have E0:1<=1000000000 / (d+1):=by apply (Int.le_ediv_iff_mul_le (by omega)).2;omega
 have IJ:1000000000 / (d+1)<1000000000:=by apply Int.ediv_lt_of_lt_mul (by omega);omega
 have amG:1000000000 / (d+1)*(d+1)<=1000000000:=Int.ediv_mul_le _ (by omega);have e2:R ((1000000000:Int).tdiv (d+1))=1000000000 / (d+1):=by rw[pq (by omega),cG (by omega) (by omega)]
 rw[dA (by simp;omega),hw,dw (by omega),dy,bD];simp only[dx,e1,e2];generalize 1000000000 / (d+1)=f at *;rw[dw (by omega)];have lA:c2 [f]:=c2.cons (by omega) c2.nil;have amH:V [f]=f:=by simp[V]
 have amI:a≠[]:=by intro h;subst h;simp[V] at a0;omega
 obtain⟨oh,Bf,amJ,apm,amK,L4,apn⟩:=V9 bF.1 lA amI (by simp) (by omega) (by simp);obtain⟨I6,ks,amL,apo,amM,Qz,app⟩:=V9 a3.1 lA ny (by simp) (by omega) (by simp);rw[amH] at L4 Qz;rw[amJ];simp only[dx];simp only[List.length_singleton] at amK amM;have apq:=pY k;have amN:V b*f<B b.length:=by have h2:=(vo a3.1 (k:=k) (by omega)).2;rw[yA] at h2;have J:V b*f<=(B k*(d+1)-1)*f:=Int.mul_le_mul_of_nonneg_right (by omega) (by omega);have ak:(B k*(d+1)-1)*f=B k*(f*(d+1))-f:=(by grind);have ax:B k*(f*(d+1))<=B k*1000000000:=dL amG (by omega);rw[a2,oq];omega
 have apr:V b<=V b*f:=by have:V b*1<=V b*f:=dL E0 (by omega);omega
 have aps:V a<=V a*f:=by have:V a*1<=V a*f:=dL E0 (by omega);omega
 have QA:0<=V b*f:=by omega
 have aad:0<=V a*f:=by omega
 have aae:I6=b.length:=by have h2:(ks.take I6).length=I6:=(by simp;omega);rw[Qz] at h2;have J:=(ij QA (k:=b.length)).2 amN;have ak:=Lm a3 ny;have ax : ¬(L (V b*f)).length<=b.length-1:=fun h=>(by have:=(ij QA).1 h;omega);omega
 have amO:(L (V a*f)).length=oh:=by rw[<- L4];simp;omega
 have Zp:=o2 (h9 (V a*f));rw[eA aad,amO] at Zp;have aoQ:a.length<=oh:=bF.len.2 (by omega);have apt:b.length<=a.length:=Nat.le_of_not_lt fun h=>by have:=KB bF a3 h;omega
 rw[dw (by omega),dw (by simp;omega),amL];simp only[dx];have AY:(Bf.take oh++[0]).length=oh+1:=by simp;omega
 have QB:NI a I6 [f] ks (Bf.take oh++[0])=some (Bf.take oh++[0]):=by unfold NI;rw[iter];unfold Jx;simp only[g9,AY];rw[dA (by simp;omega)];rfl
 rw[QB];simp only[dx,AY];have oB:R (((oh+1:Nat):Int)-((I6:Nat):Int))=((oh+1-b.length:Nat):Int):=by rw[cG (by omega) (by omega)];omega
 rw[oB,dw (by omega),tN (by omega),dy];have Y0:c2 (Bf.take oh++[0]):=by rw[L4];exact(h9 _).append (c2.cons (by omega) c2.nil)
 have aaf:V (Bf.take oh++[0])=V a*f:=by rw[zM,L4,eA aad];simp[V]
 have O5:ks.take b.length=L (V b*f):=by rw[<- aae];exact Qz
 have amP:V (ks.take b.length)=V b*f:=by rw[O5,eA QA]
 obtain⟨ea,Bg,o9,sR,aoR,aoS,aoT⟩:=KX (i6 (V b*f)) (fun h=>by have:=sI.1 h;omega);rw[<- O5] at o9 sR;have sS:(ks.take b.length).length=b.length:=by simp;omega
 have AK:ks[b.length-1]? = some Bg:=by
  rw[dT] at sR;rw[show b.length-1=ea by omega];split at sR
  ·exact sR
  simp at sR
 have alE:V ((Bf.take oh++[0]).drop (oh+1-b.length))<V b*f:=by have h2:=(vo Y0 (k:=oh+1-b.length) (by omega)).1;rw[aaf] at h2;have J:=Lm a3 ny;have ak:B oh=B (oh+1-b.length)*B (b.length-1):=(by rw[<- Hp];congr 1;omega);rw[ak] at Zp;have ax:B (oh+1-b.length)*V ((Bf.take oh++[0]).drop (oh+1-b.length))<B (oh+1-b.length)*B (b.length-1):=(by omega);have:=Int.lt_of_mul_lt_mul_left ax (by have:=pY (oh+1-b.length);omega);omega
 obtain⟨r,aj,r1,r2,bc,aM,aW,a9⟩:=ahD (ad:=[f]) (m:=oh+1-b.length) (by omega) (by omega) (by rw[O5];exact h9 _) amP AK (by omega) Y0 (by omega) (by omega) alE;rw[AY] at aj r2;rw[aae,aj];simp only[dx];rw[dw (by omega),List.drop_zero,apW (by omega),DX r1 (by omega)];simp only[dx];have IB:=m4 r1;rw[aaf] at a9;have bM:V r.1=(V a-V r.2*V b)*f:=by grind
 have amQ:0<=V a-V r.2*V b:=by apply Int.not_lt.mp;intro h;have:(V a-V r.2*V b)*f<=(-1)*f:=Int.mul_le_mul_of_nonneg_right (by omega) (by omega);omega
 have xl:V a-V r.2*V b<V b:=by apply Int.lt_of_mul_lt_mul_right (a:=f) _ (by omega);omega
 obtain⟨q1,q2⟩:=agQ (a:=V a) (b:=V b) (q:=V r.2) (s:=V a-V r.2*V b) (by omega) amQ xl;rw[dw (by simp)];simp only[List.getElem?_cons_zero,dx];have Ik:(L (V r.1)).length<=oh+1:=(ij IB).2 (by have:=o2 r1;rwa [r2] at this);rw[Vi (h9 _) ⟨by omega,IJ⟩ (by omega),eA IB];simp only[dx];rw[DX aM (by omega)];simp only[dx];rw[q1,q2,bM,Int.mul_ediv_cancel _ (by omega)]
theorem Wc {a b:ar}(bF:gm a)(a3:gm b)(aU:a.length<=900000)(hm:b.length<=900000):Dp a b=some (L (Int.gcd (V a) (V b))):=by
 have : ∃r,iter (fun w:ar×ar=>Cz w.1 w.2) (a,b)=some r/\r=L (Int.gcd (V a) (V b)):=by
  refine j5 (fp:=fun w:ar×ar=>gm w.1/\gm w.2/\w.1.length<=900000/\w.2.length<=900000/\Int.gcd (V w.1) (V w.2)=Int.gcd (V a) (V b)) (m:=fun w:ar×ar=>(V w.2).toNat) _ ?_ _ ⟨bF,a3,aU,hm,rfl⟩;rintro⟨x,y⟩ ⟨h1,h2,J,ak,ax⟩;simp only at h1 h2 J ak ax ⊢;have kI:=m4 h1.1;have qX:=m4 h2.1;by_cases aV:y=[]
  ·subst aV;refine .inr ⟨x,by simp[Cz,g9],?_⟩;rw[<- ax,Eh,KF kI];exact(xd h1).symm
  have Qv:=uI h2 aV;have amy:=ap9.mpr aV;have AX:=Int.emod_nonneg (V x) (b:=V y) (by omega);have amz:=Int.emod_lt_of_pos (V x) Qv;refine .inl ⟨(y,L (V x % V y)),?_,⟨h2,i6 _,ak,(ij AX).2 ?_,?_⟩,?_⟩
  ·unfold Cz;simp only[g9];rw[dw (by simp;omega),KG h1 h2 aV J ak];rfl
  ·have:=o2 h2.1;have:=tF ak;omega
  ·simp only;rw[eA AX,<- ax];exact Ow kI
  simp only;rw[eA AX];omega
 obtain⟨r,aj,rfl⟩:=this;unfold Dp Uz;rw[aj];rfl
def gK (n:Int):bC:=⟨decide (n<0),L n.natAbs⟩
def e9 (neg:Bool)(a:Int):Int:=if neg then -a else a
def mk (p:Int×Int):av:=⟨gK p.1,L p.2⟩
def l3 (p:Int×Int):cF:=⟨gK p.1,L p.2⟩
def A0:av:=⟨⟨false,[]⟩,[]⟩
def enc:Option (Int×Int)->av
 | none=>A0
 | some p=>mk p
def o4 (x:Option (Int×Int)):aqd:=x.map l3
structure Fr (p:Int×Int):Prop where
 pos:0<p.2
 QC:Int.gcd p.1 p.2=1
 num:(p.1.natAbs:Int)<B 24
 den:p.2<B 24
theorem DO {n:Int}:(gK n).bP=L n.natAbs:=rfl
theorem GQ {n:Int}:(gK n).cD=decide (n<0):=rfl
theorem WK {n:Int}(h:0<=n):decide ((0:Int)<((L n).length:Nat))=decide (0<n):=by
 apply decide_eq_decide.2;by_cases h1:0<n
 ·have:(L n)≠[]:=fun h2=>(by have:=sI.1 h2;omega);have:=ap9.mpr this;omega
 have:n=0:=by omega
 subst this;simp[sE]
theorem HS {n:Int}(h:0<=n):(((L n).length:Nat):Int)=0↔n=0:=by
 constructor
 ·intro h1;have:L n=[]:=List.eq_nil_of_length_eq_zero (by omega);have:=sI.1 this;omega
 rintro rfl;simp[sE]
theorem D6 {neg:Bool}{a:Int}(h:0<=a):((e9 neg a).natAbs:Int)=a:=by unfold e9;cases neg<;>simp<;>omega
theorem XU {neg:Bool}{a:Int}(h:0<=a):(⟨neg && decide (0<a),L a⟩:bC)=gK (e9 neg a):=by
 unfold gK;rw[D6 h];congr 1;unfold e9;cases neg
 ·simp;omega
 simp
theorem akf {a:Int}(h:0<=a)(rJ:a<B 60):Dr (L a)=some (L a):=by have aR:=(ij h).2 rJ;unfold Dr;rw[vn (h9 _) (by omega),eA h];simp only[dC,dx,g9];rw[dA (by simp;omega)]
theorem ty {neg:Bool}{a:Int}(h:0<=a)(rJ:a<B 60):jN neg (L a)=some (gK (e9 neg a)):=by
 have aR:=(ij h).2 rJ;unfold jN;rw[akf h rJ];simp only[dC,dx,g9,List.nil_append];have a0:(L a).length*8<=140737488355328:=by omega
 rw[<- XU h,<- WK h];cases neg<;>simp[a0]
theorem tu {neg:Bool}{a:Int}(h:0<=a):nH neg (L a)=some (gK (e9 neg a)):=by unfold nH;rw[<- XU h,g9,WK h];cases neg<;>simp
theorem Yz {a b:Int}:e9 (!(decide (a<0) == decide (b<0))) ((a.natAbs:Int)*(b.natAbs:Int))=a*b:=by
 unfold e9;by_cases bF:a<0
 ·have e1:(a.natAbs:Int) = -a:=by omega
  by_cases a3:b<0
  ·have e2:(b.natAbs:Int) = -b:=(by omega);rw[e1,e2];simp[bF,a3,Int.neg_mul,Int.mul_neg]
  have e2:(b.natAbs:Int)=b:=(by omega);rw[e1,e2];simp[bF,a3,Int.neg_mul,Int.mul_neg]
 have e1:(a.natAbs:Int)=a:=by omega
 by_cases a3:b<0
 ·have e2:(b.natAbs:Int) = -b:=(by omega);rw[e1,e2];simp[bF,a3,Int.neg_mul,Int.mul_neg]
 have e2:(b.natAbs:Int)=b:=by omega
 rw[e1,e2];simp[bF,a3,Int.neg_mul,Int.mul_neg]
theorem DY {a b:Int}:e9 (decide (a<0)) ((a.natAbs:Int)*b)=a*b:=by
 unfold e9;by_cases bF:a<0
 ·have e1:(a.natAbs:Int) = -a:=(by omega);rw[e1];simp[bF,Int.neg_mul,Int.mul_neg]
 have e1:(a.natAbs:Int)=a:=by omega
 rw[e1];simp[bF,Int.neg_mul,Int.mul_neg]
theorem Xj {a c:Int}:lP (-c) (-a)=lP a c:=by
 unfold lP;by_cases h:a<c
 ·have : -c < -a:=(by omega);simp[h,this]
 by_cases h2:c<a
 ·have J : ¬ -c < -a:=(by omega);have ak : -a < -c:=(by omega);simp[h,h2,J,ak]
 have J : ¬ -c < -a:=by omega
 have ak : ¬ -a < -c:=by omega
 simp[h,h2,J,ak]
theorem ahE {a c:Int}(bF:(L a.natAbs).length<=5000000)(a0:(L c.natAbs).length<=5000000):Gt (gK a) (gK c)=some (lP a c):=by
 unfold Gt;simp only[GQ,DO,decide_eq_true_eq];by_cases h1:a<0
 ·by_cases h2:c<0
  ·rw[dw h1,dw h2,wL (i6 _) (i6 _) a0,eA (by omega),eA (by omega),show (c.natAbs:Int) = -c by omega,show (a.natAbs:Int) = -a by omega,Xj];rfl
  rw[dw h1,dA h2];unfold lP;rw[dw (by omega)]
 by_cases h2:c<0
 ·rw[dA h1,dw h2];unfold lP;rw[dA (by omega),dw (by omega)]
 rw[dA h1,dA h2,wL (i6 _) (i6 _) bF,eA (by omega),eA (by omega)];show some (lP _ _)=_;congr 2<;>omega
theorem TR {a c:Int}(bF:(L a.natAbs).length<=5000000)(a0:(L c.natAbs).length<=5000000):ve (gK a) (gK c)=some (lP a c):=by
 have bM:ve (gK a) (gK c)=if (decide (a<0) == decide (c<0))=true then (if decide (a<0)=true then (su (L c.natAbs) (L a.natAbs)).bind (fun r=>some r) else (su (L a.natAbs) (L c.natAbs)).bind (fun r=>some r)) else if decide (a<0)=true then some (-1) else some 1:=rfl;rw[bM,afQ];by_cases h1:a<0
 ·by_cases h2:c<0
  ·rw[dw (by simp[h1,h2]),dw (by simpa using h1),wL (i6 _) (i6 _) a0,eA (by omega),eA (by omega),show (c.natAbs:Int) = -c by omega,show (a.natAbs:Int) = -a by omega,Xj];rfl
  rw[dA (by simp[h1,h2]),dw (by simpa using h1)];unfold lP;rw[dw (by omega)]
 by_cases h2:c<0
 ·rw[dA (by simp[h1,h2]),dA (by simpa using h1)];unfold lP;rw[dA (by omega),dw (by omega)]
 rw[dw (by simp[h1,h2]),dA (by simpa using h1),wL (i6 _) (i6 _) bF,eA (by omega),eA (by omega),show (c.natAbs:Int)=c by omega,show (a.natAbs:Int)=a by omega];rfl
def fits (x:Int):Prop:=x<B 24
noncomputable instance (x:Int):Decidable (fits x):=Classical.propDecidable _
noncomputable def low (n d:Int):Option (Int×Int) :=
 if fits ((n / (Int.gcd n d:Int)).natAbs:Int)/\fits (d / (Int.gcd n d:Int)) then some (n / (Int.gcd n d:Int),d / (Int.gcd n d:Int)) else none
theorem DZ {n d:Int}(h:0<d):(0:Int)<Int.gcd n d:=by
 have:Int.gcd n d≠0:=by rw[Ne,Int.gcd_eq_zero_iff];omega
 omega
theorem KH {n d:Int}(h:0<d): ∃m e,n / (Int.gcd n d:Int)=m/\d / (Int.gcd n d:Int)=e/\n=Int.gcd n d*m/\d=Int.gcd n d*e/\0<e/\(n.natAbs:Int) / (Int.gcd n d:Int)=m.natAbs:=by
 have du:=DZ (n:=n) h;obtain⟨m,hm⟩:=Int.gcd_dvd_left (a:=n) (b:=d);obtain⟨e,he⟩:=Int.gcd_dvd_right (a:=n) (b:=d);refine⟨m,e,?_,?_,hm,he,?_,?_⟩
 ·conv=>lhs;lhs;rw[hm]
  exact Int.mul_ediv_cancel_left _ (by omega)
 ·conv=>lhs;lhs;rw[he]
  exact Int.mul_ediv_cancel_left _ (by omega)
 ·apply Int.not_le.mp;intro h1;have:(Int.gcd n d:Int)*e<=Int.gcd n d*0:=dL h1 (by omega);omega
 have e1:(n.natAbs:Int)=Int.gcd n d*m.natAbs:=by
  conv=>lhs;rw[hm]
  rw[Int.natAbs_mul];simp
 rw[e1];exact Int.mul_ediv_cancel_left _ (by omega)
theorem akg {n d:Int}(h:0<d): ∀p,low n d=some p->Fr p:=by
 intro p ah;obtain⟨m,e,h1,h2,J,ak,ax,aN⟩:=KH (n:=n) h;have du:=DZ (n:=n) h;unfold low at ah;rw[h1,h2] at ah;split at ah
 ·next a0 =>
  have:=dJ ah;subst this;refine⟨ax,?_,a0.1,a0.2⟩
  have a7:Int.gcd n d=Int.gcd n d*Int.gcd m e:=by
   have key : ∀g:Nat,Int.gcd ((g:Int)*m) (g*e)=g*Int.gcd m e:=fun g=>(by rw[Int.gcd_mul_left];simp);have:=key (Int.gcd n d)
   rwa [<- J,<- ak] at this
  simp only;have bb:Int.gcd n d*1=Int.gcd n d*Int.gcd m e:=(by omega);exact(Nat.eq_of_mul_eq_mul_left (by omega) bb).symm
 simp at ah
theorem D7 {a:Int}(h:0<=a):uo (L a)=some (decide (a=1)):=by
 unfold uo;simp only[g9];by_cases h1:(L a).length=1
 ·have h2:=(ij (k:=1) h).1 (by omega);have J:0<a:=(by apply Int.not_le.mp;intro ak;rw[YY ak] at h1;simp at h1);have ax:a<1000000000:=(by simpa [B] using h2);rw[KA ⟨J,ax⟩];by_cases aN:a=1<;>simp[aN]
 rw[dA (by simp;omega)];have:a≠1:=by rintro rfl;rw[KA (by omega)] at h1;simp at h1
 simp[this]
theorem KI {n d:Int}(h:0<=d):Int.gcd (n.natAbs:Int) d=Int.gcd n d:=by simp[Int.gcd]
theorem O6:B 24<=B 60:=tF (by omega)
theorem Ob {neg:Bool}{m e:Int}(hm:0<=m)(he:0<=e):(if (decide ((24:Int)<((L m).length:Nat)))=true then some A0 else if (decide ((24:Int)<((L e).length:Nat)))=true then some A0 else jN neg (L m) >>= fun r=>if (([]:ar)++L e).length*8<=140737488355328 then some (⟨r,([]:ar)++L e⟩:av) else none) =
 some (enc (if fits m/\fits e then some (e9 neg m,e) else none)):=by
 by_cases h1:fits m
 ·have h2:=(ij hm).2 h1
  rw[dA (by simp;omega)];by_cases J:fits e
  ·have ak:=(ij he).2 J;have:=O6;unfold fits at h1;rw[dA (by simp;omega),ty hm (by omega),dw ⟨h1,J⟩];simp only[dC,dx];rw[dw (by simp;omega)];rfl
  have ak : ¬(L e).length<=24:=fun h=>J ((ij he).1 h);rw[dw (by simp;omega),dA (fun h=>J h.2)];rfl
 have ak : ¬(L m).length<=24:=fun h=>h1 ((ij hm).1 h);rw[dw (by simp;omega),dA (fun h=>h1 h.1)];rfl
theorem YA {neg:Bool}{p m g:Int}(ah:0<=p)(du:0<g)(hm:e9 neg p=g*m):e9 neg (m.natAbs:Int)=m:=by
 unfold e9 at hm ⊢;cases neg
 ·simp at hm ⊢;have:0<=m:=(by apply Int.not_lt.mp;intro h1;have:g*m<=g*(-1):=dL (by omega) (by omega);omega);omega
 simp at hm ⊢;have:m<=0:=by apply Int.not_lt.mp;intro h1;have:g*1<=g*m:=dL (by omega) (by omega);omega
 omega
theorem Oc {neg:Bool}{p q:Int}(ah:0<=p)(a1:0<q)(QD:(L p).length<=900000)(s5:(L q).length<=900000):qw neg (L p) (L q)=some (enc (low (e9 neg p) q)):=by
 obtain⟨m,e,h1,h2,J,ak,ax,aN⟩:=KH (n:=e9 neg p) a1;have sV:=YA ah (DZ (n:=e9 neg p) a1) J;rw[D6 ah] at aN;have du:Int.gcd p q=Int.gcd (e9 neg p) q:=by rw[<- KI (n:=e9 neg p) (by omega),D6 ah]
 have apu:=DZ (n:=e9 neg p) a1;unfold qw;rw[vn (h9 _) (by omega),eA ah];simp only[dC,dx];rw[vn (h9 _) (by omega),eA (by omega)];simp only[dx,g9];have nu : ¬((((L q).length:Nat):Int) == 0)=true:=by simp only[beq_iff_eq];intro h;have:=(HS (n:=q) (by omega)).1 h;omega
 rw[dA nu,D7 (by omega)];simp only[dx];have Av:low (e9 neg p) q=if fits (m.natAbs:Int)/\fits e then some (e9 neg (m.natAbs:Int),e) else none:=by unfold low;rw[h1,h2,sV]
 have Y1:Int.gcd (e9 neg p) q=1->(m.natAbs:Int)=p/\e=q:=by intro hu;rw[hu] at h2 aN;simp at h2 aN;omega
 by_cases qN:q=1
 ·have hu:Int.gcd (e9 neg p) q=1:=(by rw[qN];simp);obtain⟨kA,m0⟩:=Y1 hu;rw[dw (by simpa using qN),Av,kA,m0];exact Ob ah (by omega)
 rw[dA (by simpa using qN),O3 (i6 _) (i6 _) QD s5,eA ah,eA (by omega)];simp only[dx];rw[D7 (by omega)];simp only[dx];by_cases hu:Int.gcd p q=1
 ·obtain⟨kA,m0⟩:=Y1 (by omega);rw[dw (by simp;omega),Av,kA,m0];exact Ob ah (by omega)
 rw[dA (by simp;omega)];have A1:(L (Int.gcd p q)).length<=900000:=by have a7:(Int.gcd p q:Int)<=q:=(by rw[du];have:(Int.gcd (e9 neg p) q:Int)*1<=Int.gcd (e9 neg p) q*e:=dL (by omega) (by omega);omega);apply (ij (by omega)).2;have:=(ij (n:=q) (by omega)).1 s5;omega
 have IK:L (Int.gcd p q)≠[]:=fun h=>by have:=sI.1 h;omega
 rw[div_eq (i6 _) (i6 _) IK QD A1,eA ah,eA (by omega)];simp only[dx];rw[div_eq (i6 _) (i6 _) IK s5 A1,eA (by omega),eA (by omega)];simp only[dx];rw[du,aN,h2,Av];exact Ob (by omega) (by omega)
theorem akY {neg:Bool}{a:Int}(h:0<=a)(h2:neg=true->0<a):decide (e9 neg a<0)=neg:=by
 unfold e9;cases neg
 ·simp;omega
 have:=h2 rfl;simp;omega
theorem XV {neg:Bool}{l:ar}(aR:gm l)(h2:neg=true->l≠[]):(⟨neg,l⟩:bC)=gK (e9 neg (V l)):=by have h:=m4 aR.1;unfold gK;rw[D6 h,xd aR,akY h (fun aU=>uI aR (h2 aU))]
theorem afs {x:bC}(hm:(x.bP.length:Int)<9223372036854775807): ∃ok,zk x=some ok/\Ga x=some ok/\(ok=true↔ ∃n,x=gK n/\(L n.natAbs).length<=60):=by
 obtain⟨o,h1,h2,J⟩:=Wa hm;unfold zk Ga;rw[h1,h2];simp only[dC,dx,g9];obtain⟨neg,IL⟩:=x;simp only at J ⊢
 have ly:decide ((0:Int)<(IL.length:Nat)) = !((((IL.length:Nat):Int) == 0)):=by
  by_cases h:IL=[]
  ·subst h;rfl
  have:=ap9.mpr h;rw[decide_eq_true (by omega)]
  symm
  simp;omega
 by_cases ap:o=true;rotate_left
 ·refine⟨false,by simp[ap],by simp[ap],?_⟩;simp only[apS,false_iff];rintro⟨n,aU,rJ⟩;have e2:=congrArg bC.bP aU;simp only[DO] at e2;exact ap (J.2 (e2▸⟨i6 _,rJ⟩))
 obtain⟨ak,ax⟩:=J.1 ap;subst ap;cases neg
 ·refine⟨true,rfl,rfl,?_⟩;simp only[true_iff];refine⟨_,XV ak (fun h=>by simp at h),?_⟩;rw[D6 (m4 ak.1),xd ak];exact ax
 refine⟨decide ((0:Int)<(IL.length:Nat)),rfl,by rw[ly];rfl,?_⟩;rw[decide_eq_true_iff];constructor
 ·intro ah;refine⟨_,XV ak (fun _ h=>by subst h;simp at ah),?_⟩;rw[D6 (m4 ak.1),xd ak];exact ax
 rintro⟨n,aU,-⟩;have e1:=congrArg bC.cD aU;have e2:=congrArg bC.bP aU;simp only[GQ,DO] at e1 e2;have bG:n<0:=by simpa using e1.symm
 have:IL≠[]:=by rw[e2];intro h;have:=sI.1 h;omega
 have:=ap9.mpr this;omega
theorem NZ {r:av}(hm:r.cJ.bP.length<=2000000)(bD:r.dl.length<=2000000): ∃ok,nm r=some ok/\GD r=some ok/\(ok=true↔ ∃p,Fr p/\r=mk p):=by
 obtain⟨bX,gh,gi,bm⟩:=afs (x:=r.cJ) (by omega);obtain⟨aK,iW,jM,pP⟩:=Wa (a:=r.dl) (by omega);unfold nm GD;rw[gh,gi];simp only[dC,dx,g9];by_cases h1:bX=true;rotate_left
 ·refine⟨false,by simp[h1],by simp[h1],?_⟩;simp only[apS,false_iff];rintro⟨p,ah,aj⟩;have e2:r.cJ=gK p.1:=(by rw[aj];rfl);have:=(ij (k:=24) (n:=p.1.natAbs) (by omega)).2 ah.num;exact h1 (bm.2 ⟨p.1,e2,by omega⟩)
 rw[dw h1,dw h1,iW,jM];simp only[dx];by_cases h2:aK=true;rotate_left
 ·refine⟨false,by simp[h2],by simp[h2],?_⟩;simp only[apS,false_iff];rintro⟨p,ah,aj⟩;have e:r.dl=L p.2:=(by rw[aj];rfl);have:=(ij (k:=24) (by have:=ah.pos;omega)).2 ah.den;exact h2 (pP.2 (e▸⟨i6 _,by omega⟩))
 rw[dw h2,dw h2];obtain⟨n,aU,aoU⟩:=bm.1 h1;obtain⟨uf,aoV⟩:=pP.1 h2;have yA:=m4 uf.1;have aag:r.dl=L (V r.dl):=(xd uf).symm;have II:r.cJ.bP=L n.natAbs:=by rw[aU];rfl
 by_cases J:r.dl=[]
 ·rw[dw (by simp[J]),dw (by simp[J])];refine⟨false,rfl,rfl,?_⟩;simp only[apS,false_iff];rintro⟨p,ah,aj⟩;have e:r.dl=L p.2:=(by rw[aj];rfl);rw[J] at e;have:=sI.1 e.symm;have:=ah.pos;omega
 have L5:=uI uf J;have QD:=ap9.mpr J;have tU : ¬((((r.dl.length:Nat):Int) == 0)=true):=by simp[J]
 rw[dA tU,dA tU];by_cases ak:24<r.dl.length
 ·rw[dw (by simp;omega)]
  have hR : ¬∃p,Fr p/\r=mk p:=(by rintro⟨p,ah,aj⟩;have e:r.dl=L p.2:=(by rw[aj];rfl);have:=(ij (k:=24) (by have:=ah.pos;omega)).2 ah.den;rw[<- e] at this;omega);refine⟨false,rfl,?_,by simp[hR]⟩;by_cases ax:24<r.cJ.bP.length
  ·rw[dw (by simp;omega)]
  rw[dA (by simp;omega),dw (by simp;omega)]
 rw[dA (by simp;omega)];by_cases ax:24<r.cJ.bP.length
 ·rw[dw (by simp;omega),dw (by simp;omega)];refine⟨false,rfl,rfl,?_⟩;simp only[apS,false_iff];rintro⟨p,ah,aj⟩;have e:r.cJ.bP=L p.1.natAbs:=(by rw[aj];rfl);have:=(ij (k:=24) (by omega)).2 ah.num;rw[<- e] at this;omega
 rw[dA (by simp;omega),dA (by simp;omega),dA (by simp;omega)];rw[II] at ax ⊢;rw[O3 (i6 _) uf (by omega) (by omega),Wc (i6 _) uf (by omega) (by omega),eA (by omega),KI yA];simp only[dx];have du:=DZ (n:=n) L5;have amR:gm [1]:=gm.one (by omega);have A1:(L (Int.gcd n (V r.dl))).length<=5000000:=by have a7:(Int.gcd n (V r.dl):Int)<=V r.dl:=Int.le_of_dvd L5 (Int.gcd_dvd_right ..);have:=(ij (k:=24) (by omega)).2 (show (Int.gcd n (V r.dl):Int)<B 24 by have:=(uf.len (k:=24)).1 (by omega);omega);omega
 rw[D7 (by omega),J1 (i6 _) amR A1,eA (by omega)];have u3:V [1]=1:=by decide
 rw[u3];simp only[dx];refine⟨decide ((Int.gcd n (V r.dl):Int)=1),rfl,?_,?_⟩
 ·congr 1;rw[Bool.eq_iff_iff];simp[Oa]
 rw[decide_eq_true_iff];constructor
 ·intro hu;refine⟨(n,V r.dl),⟨L5,by simp only;omega,(ij (by omega)).1 (by simp only;omega),(uf.len).1 (by omega)⟩,?_⟩;obtain⟨num,den⟩:=r;simp only at aU aag ⊢;unfold mk;simp only;rw[<- aag,<- aU]
 rintro⟨p,ah,aj⟩;have e:r.dl=L p.2:=by rw[aj];rfl
 have e2:r.cJ=gK p.1:=by rw[aj];rfl
 have bG:V r.dl=p.2:=by rw[e,eA (by have:=ah.pos;omega)]
 have cM:n=p.1:=by
  rw[aU] at e2;have f1:=congrArg bC.cD e2;have f2:=congrArg bC.bP e2;simp only[GQ,DO] at f1 f2;have f3:=congrArg V f2;rw[eA (by omega),eA (by omega)] at f3
  have f4:n<0↔p.1<0:=by
   constructor
   ·intro h;simpa [h] using f1.symm
   intro h;simpa [h] using f1
  omega
 rw[bG,cM,ah.QC];rfl
def xn (x:Option (Int×Int)):Prop:= ∀p,x=some p->Fr p
theorem Fr.o5 {p:Int×Int}(h:Fr p):(L p.1.natAbs).length<=24:=(ij (by omega)).2 h.num
theorem Fr.oL {p:Int×Int}(h:Fr p):(L p.2).length<=24:=(ij (by have:=h.pos;omega)).2 h.den
theorem akh:nm A0=some false:=by
 obtain⟨o,J,-,ak⟩:=NZ (r:=A0) (by simp[A0]) (by simp[A0]);rw[J];congr 1
 cases o with
 | false=>rfl
 | true =>
  obtain⟨p,ah,aj⟩:=ak.1 rfl;have e:[]=L p.2:=congrArg av.dl aj;have:=sI.1 e.symm;have:=ah.pos;omega
theorem O7 {x:Option (Int×Int)}(h:xn x):nm (enc x)=some x.isSome:=by
 cases x with
 | none=>exact akh
 | some p =>
  have ah:=h p rfl;have h1:=ah.o5;have h2:=ah.oL;obtain⟨o,J,-,ak⟩:=NZ (r:=mk p) (show (L p.1.natAbs).length<=_ by omega) (show (L p.2).length<=_ by omega);have:o=true:=ak.2 ⟨p,ah,rfl⟩;subst this;exact J
theorem aju {r:av}(hm:r.cJ.bP.length<=2000000)(bD:r.dl.length<=2000000):(∃p,Fr p/\r=mk p/\nm r=some true/\wD r=some (some (l3 p)))\/(nm r=some false/\wD r=some none):=by
 obtain⟨o,h1,h2,J⟩:=NZ hm bD
 cases o with
 | false =>
  refine .inr ⟨h1,?_⟩;unfold wD;rw[h2];rfl
 | true =>
  obtain⟨p,ah,aj⟩:=J.1 rfl;refine .inl ⟨p,ah,aj,h1,?_⟩;unfold wD;rw[h2];subst aj;rfl
theorem akZ (m n:Nat):B m*B n=B (m+n):=(Hp m n).symm
theorem tz {x y:Int}{m n:Nat}(U:0<=x)(aV:0<=y)(h1:x<B m)(h2:y<B n):(L (x*y)).length<=m+n:=by
 apply (ij (Int.mul_nonneg U aV)).2;rw[<- akZ];have J:x*y<=(B m-1)*(B n-1):=Int.mul_le_mul (by omega) (by omega) aV (by omega);have ak:(B m-1)*(B n-1)=B m*B n-B m-B n+1:=by grind
 have ax:=pY m;have aN:=pY n;omega
noncomputable def vK (x y:Option (Int×Int)):Option (Int×Int):=x.bind fun p=>y.bind fun q=>low (p.1*q.1) (p.2*q.2)
theorem GI {p q:Int×Int}:vK (some p) (some q)=low (p.1*q.1) (p.2*q.2):=by unfold vK;rw[dx,dx]
theorem agR (r s:av){a b:Int}(bF:0<=a)(a3:0<b)(h1:jH r.cJ.bP s.cJ.bP=some (L a))(h2:jH r.dl s.dl=some (L b))(J:(L a).length<=900000)(ak:(L b).length<=900000):ur r s=some (enc (low (e9 (!(r.cJ.cD == s.cJ.cD)) a) b)):=by unfold ur;rw[h1];simp only[dC,dx];rw[h2];simp only[dx];rw[Oc bF a3 J ak];simp only[dx]
theorem WL {p q:Int×Int}(ah:Fr p)(a1:Fr q):ur (mk p) (mk q)=some (enc (low (p.1*q.1) (p.2*q.2))):=by
 have h1:=ah.o5;have h2:=ah.oL;have J:=a1.o5;have ak:=a1.oL;have ax:=ah.pos;have aN:=a1.pos;have a7:=tz (x:=p.1.natAbs) (y:=q.1.natAbs) (by omega) (by omega) ah.num a1.num;have bb:=tz (x:=p.2) (y:=q.2) (by omega) (by omega) ah.den a1.den;have e1:jH (L p.1.natAbs) (L q.1.natAbs)=some (L ((p.1.natAbs:Int)*q.1.natAbs)):=by rw[mul_eq (h9 _) (h9 _) (by omega) (by omega),eA (by omega),eA (by omega)]
 have e2:jH (L p.2) (L q.2)=some (L (p.2*q.2)):=by rw[mul_eq (h9 _) (h9 _) (by omega) (by omega),eA (by omega),eA (by omega)]
 have:=agR (mk p) (mk q) (a:=(p.1.natAbs:Int)*q.1.natAbs) (b:=p.2*q.2) (Int.mul_nonneg (by omega) (by omega)) (Int.mul_pos ax aN) e1 e2 (by omega) (by omega);rw[this];have bG:e9 (!((mk p).cJ.cD == (mk q).cJ.cD)) ((p.1.natAbs:Int)*q.1.natAbs)=p.1*q.1:=Yz;rw[bG]
theorem WM {x y:Option (Int×Int)}(U:xn x)(aV:xn y):Dv (enc x) (enc y)=some (enc (vK x y)):=by
 unfold Dv;rw[O7 U,O7 aV]
 cases x with
 | none =>
  simp only[Option.isSome_none,dC,dx,apS,if_false];rfl
 | some p =>
  cases y with
  | none =>
   simp only[Option.isSome_none,Option.isSome_some,dC,dx,apS,if_false,if_true];rfl
  | some q =>
   simp only[dC,dx,Option.isSome_some,if_true];show (ur (mk p) (mk q)).bind _=_;rw[WL (U p rfl) (aV q rfl),GI];simp only[dx]
theorem KJ {x y:Option (Int×Int)}(U:xn x)(aV:xn y):xn (vK x y):=by
 intro r aj
 cases x with
 | none=>simp[vK] at aj
 | some p =>
  cases y with
  | none=>simp[vK] at aj
  | some q =>
   rw[GI] at aj;exact akg (Int.mul_pos (U p rfl).pos (aV q rfl).pos) r aj
theorem Od {n d:Int}(bD:0<d)(AJ:(L n.natAbs).length<=900000)(IM:(L d).length<=900000):tr (gK n) (L d)=some (some (l3 (n / (Int.gcd n d:Int),d / (Int.gcd n d:Int)))):=by
 obtain⟨m,e,h1,h2,J,ak,ax,aN⟩:=KH (n:=n) bD;have du:=DZ (n:=n) bD;rw[h1,h2];unfold tr;simp only[DO,GQ,g9];by_cases aU:n=0
 ·subst aU;have amS:(Int.gcd 0 d:Int)=d:=(by rw[Int.gcd_comm,KF (by omega)]);rw[amS] at J ak;have hm:m=0:=(by rcases Int.mul_eq_zero.1 J.symm with h|h<;>omega);have he:e=1:=(by have:d*e=d*1:=(by omega);exact Int.eq_of_mul_eq_mul_left (by omega) this);subst hm he;rw[dw (by simp[sE])];unfold l3 gK;simp only[Int.natAbs_zero];rw[KA (x:=1) (by omega),show ((0:Nat):Int)=0 from rfl,sE];rfl
 have alF : ¬((((L n.natAbs).length:Nat):Int) == 0)=true:=by simp only[beq_iff_eq];intro h;have:=(HS (n:=n.natAbs) (by omega)).1 h;omega
 rw[dA alF,Wc (i6 _) (i6 _) AJ IM,eA (by omega),eA (by omega),KI (by omega)];simp only[dC,dx];have A1:(L (Int.gcd n d)).length<=900000:=by have a7:(Int.gcd n d:Int)<=d:=Int.le_of_dvd bD (Int.gcd_dvd_right ..);apply (ij (by omega)).2;have:=(ij (n:=d) (by omega)).1 IM;omega
 rw[J1 (i6 _) (gm.one (by omega)) (by omega),eA (by omega),show V [1]=1 by decide];simp only[dx];by_cases hu:(Int.gcd n d:Int)=1
 ·rw[dw (by simpa using Oa.2 hu)];rw[hu] at J ak;rw[Int.one_mul] at J ak;subst J ak;rfl
 rw[dA (fun h=>hu (Oa.1 (by simpa using h)))];have IK:L (Int.gcd n d)≠[]:=fun h=>by have:=sI.1 h;omega
 rw[KG (i6 _) (i6 _) IK AJ A1,eA (by omega),eA (by omega)];simp only[dx];rw[KG (i6 _) (i6 _) IK IM A1,eA (by omega),eA (by omega)];simp only[dx];rw[aN,h2,tu (by omega)];simp only[dx];have bM:e9 (decide (n<0)) (m.natAbs:Int)=m:=by refine YA (p:=n.natAbs) (g:=Int.gcd n d) (by omega) du ?_;rw[<- J];unfold e9;by_cases h:n<0<;>simp[h]<;>omega
 rw[bM];rfl
theorem YB {m e:Int}(he:0<=e):xR (some (l3 (m,e)))=some (o4 (if fits (m.natAbs:Int)/\fits e then some (m,e) else none)):=by
 have bM:xR (some (l3 (m,e)))=if (decide ((24:Int)<len_ eI (L m.natAbs)))=true then some none else if (decide ((24:Int)<len_ eI (L e)))=true then some none else some (some (l3 (m,e))):=rfl;rw[bM,g9,g9];by_cases h1:fits (m.natAbs:Int)
 ·have h2:=(ij (by omega)).2 h1
  rw[dA (by simp;omega)];by_cases J:fits e
  ·have ak:=(ij he).2 J;rw[dA (by simp;omega),dw ⟨h1,J⟩];rfl
  have ak : ¬(L e).length<=24:=fun h=>J ((ij he).1 h);rw[dw (by simp;omega),dA (fun h=>J h.2)];rfl
 have ak : ¬(L m.natAbs).length<=24:=fun h=>h1 ((ij (by omega)).1 h);rw[dw (by simp;omega),dA (fun h=>h1 h.1)];rfl
theorem aki {n d:Int}(bD:0<d)(AJ:(L n.natAbs).length<=900000)(IM:(L d).length<=900000):(tr (gK n) (L d)).bind (fun r=>xR r)=some (o4 (low n d)):=by obtain⟨m,e,h1,h2,J,ak,ax,aN⟩:=KH (n:=n) bD;rw[Od bD AJ IM,dx,h1,h2,YB (by omega)];unfold low;rw[h1,h2]
theorem Oe {a b:Int}(bF:(L a.natAbs).length<=900000)(a3:(L b.natAbs).length<=900000):q8 (gK a) (gK b)=some (gK (a*b)):=by unfold q8;simp only[DO,GQ];rw[GO (h9 _) (h9 _) (by omega) (by omega),eA (by omega),eA (by omega)];simp only[dC,dx];rw[tu (Int.mul_nonneg (by omega) (by omega)),Yz];rfl
theorem XW {x y:Option (Int×Int)}(U:xn x)(aV:xn y):DM (o4 x) (o4 y)=some (o4 (vK x y)):=by
 cases x with
 | none=>rfl
 | some p =>
  cases y with
  | none=>rfl
  | some q =>
   have ah:=U p rfl;have a1:=aV q rfl;have h1:=ah.o5;have h2:=ah.oL;have J:=a1.o5;have ak:=a1.oL;have ax:=ah.pos;have aN:=a1.pos;have a7:=tz (x:=p.1.natAbs) (y:=q.1.natAbs) (by omega) (by omega) ah.num a1.num;have bb:=tz (x:=p.2) (y:=q.2) (by omega) (by omega) ah.den a1.den;unfold DM ze;simp only[o4,apR,Option.elim_some,dC,dx,l3];rw[Oe (by omega) (by omega)];simp only[dx];rw[GO (h9 _) (h9 _) (by omega) (by omega),eA (by omega),eA (by omega)];simp only[dx];have:=aki (n:=p.1*q.1) (d:=p.2*q.2) (Int.mul_pos ax aN) (by rw[Int.natAbs_mul,Int.natCast_mul];omega) (by omega);rw[Od (Int.mul_pos ax aN) (by rw[Int.natAbs_mul,Int.natCast_mul];omega) (by omega)] at this ⊢;simp only[dx] at this ⊢;rw[this,GI];simp only[dx,o4]
theorem XX:(1000000000000000000000000000:Int)<=B 24:=by
 have h:B 3<=B 24:=tF (by omega);have J:B 3=1000000000000000000000000000:=by decide
 omega
theorem ajv:(1000000000000000000000000000:Int)<=B 60:=by have:=O6;have:=XX;omega
theorem agi {n:Int}(h:nR n):FX n=some (gK n):=by
 obtain⟨h1,h2⟩:=lJ.1 h;have a3:=ajv;unfold FX;by_cases hm:n = -9223372036854775808
 ·rw[dw (by simpa using hm)];have e:([854775808,223372036,9]:ar)=L 9223372036854775808:=yg ⟨by intro x U;simp at U;omega,by simp⟩ (by decide);rw[e,ty (by omega) (by omega)];subst hm;rfl
 rw[dA (by simpa using hm)];by_cases aU:n<0
 ·rw[dw (by simpa using aU),cG (by omega) (by omega),DN (by omega) (by omega)];simp only[dC,dx];rw[ty (by omega) (by omega)];simp only[dx];congr 2;unfold e9;simp
 rw[dA (by simpa using aU),DN (by omega) (by omega)];simp only[dC,dx];rw[ty (by omega) (by omega)];simp only[dx];congr 2
theorem Wd {n:Int}(h:nR n):qu n=some (gK n):=by
 obtain⟨h1,h2⟩:=lJ.1 h;unfold qu;by_cases aU:n<0
 ·rw[dw (by simpa using aU),cG (x:=n+1) (by omega) (by omega),cG (x:=0-(n+1)) (by omega) (by omega),Ht (x:=0-(n+1)) (by omega) (by omega),Ht (by omega) (by omega),NX (by omega) (by omega)];simp only[dC,dx];rw[tu (by omega)];simp only[dx];congr 2;unfold e9;simp;omega
 rw[dA (by simpa using aU),Ht (by omega) (by omega),NX (by omega) (by omega)];simp only[dC,dx];rw[tu (by omega)];simp only[dx];congr 2
theorem Po:L 1=[1]:=KA (by omega)
theorem NF {n:Int}(h:nR n):oG n=some (mk (n,1)):=by unfold oG;rw[agi h];simp only[dC,dx,mk,Po]
theorem Ox {n:Int}(h:nR n):vm n=some (some (l3 (n,1))):=by unfold vm;rw[Wd h];simp only[dC,dx,l3,Po]
theorem KZ {n:Int}(h:nR n):Fr (n,1):=by obtain⟨h1,h2⟩:=lJ.1 h;have a3:=XX;exact⟨by simp,by simp,by simp only;omega,by simp only;omega⟩
theorem WN {p q:Int×Int}(ah:Fr p)(a1:Fr q):xM (mk p) (mk q)=some (lP (p.1*q.2) (q.1*p.2)):=by
 have h1:=ah.o5;have h2:=ah.oL;have J:=a1.o5;have ak:=a1.oL;have ax:=ah.pos;have aN:=a1.pos;have a7:=tz (x:=p.1.natAbs) (y:=q.2) (by omega) (by omega) ah.num a1.den;have bb:=tz (x:=q.1.natAbs) (y:=p.2) (by omega) (by omega) a1.num ah.den;have Bh:0<=(p.1.natAbs:Int)*q.2:=Int.mul_nonneg (by omega) (by omega);have aaQ:0<=(q.1.natAbs:Int)*p.2:=Int.mul_nonneg (by omega) (by omega);have lf:((p.1*q.2).natAbs:Int)=(p.1.natAbs:Int)*q.2:=by rw[Int.natAbs_mul,Int.natCast_mul];congr 1;omega
 have iG:((q.1*p.2).natAbs:Int)=(q.1.natAbs:Int)*p.2:=by rw[Int.natAbs_mul,Int.natCast_mul];congr 1;omega
 have e1:jH (mk p).cJ.bP (mk q).dl=some (L ((p.1.natAbs:Int)*q.2)):=by show jH (L p.1.natAbs) (L q.2)=_;rw[mul_eq (h9 _) (h9 _) (by omega) (by omega),eA (by omega),eA (by omega)]
 have e2:jH (mk q).cJ.bP (mk p).dl=some (L ((q.1.natAbs:Int)*p.2)):=by show jH (L q.1.natAbs) (L p.2)=_;rw[mul_eq (h9 _) (h9 _) (by omega) (by omega),eA (by omega),eA (by omega)]
 have bG:jN (mk p).cJ.cD (L ((p.1.natAbs:Int)*q.2))=some (gK (p.1*q.2)):=by show jN (decide (p.1<0)) _=_;rw[ty Bh ((ij Bh).1 (by omega)),DY]
 have cM:jN (mk q).cJ.cD (L ((q.1.natAbs:Int)*p.2))=some (gK (q.1*p.2)):=by show jN (decide (q.1<0)) _=_;rw[ty aaQ ((ij aaQ).1 (by omega)),DY]
 unfold xM;rw[e1,dC,dx,bG,dC,dx,e2,dC,dx,cM,dx,ahE (by rw[lf];omega) (by rw[iG];omega)];rfl
theorem Kb {p:Int×Int}{d:Int}(bD:0<=d)(h1:(L p.1.natAbs).length<=900000)(h2:(L d).length<=900000):tj (some (l3 p)) (L d)=some (gK (p.1*d)):=by
 have e1:ts (l3 p).tO.bP (L d)=some (L ((p.1.natAbs:Int)*d)):=by show ts (L p.1.natAbs) (L d)=_;rw[GO (h9 _) (h9 _) (by omega) (by omega),eA (by omega),eA (by omega)]
 have Bh:0<=(p.1.natAbs:Int)*d:=Int.mul_nonneg (by omega) (by omega);have bG:nH (l3 p).tO.cD (L ((p.1.natAbs:Int)*d))=some (gK (p.1*d)):=by show nH (decide (p.1<0)) _=_;rw[tu Bh,DY]
 unfold tj;rw[dC,dx,e1,dC,dx,bG];rfl
theorem Hf {a d:Int}(bD:0<=d):((a*d).natAbs:Int)=(a.natAbs:Int)*d:=by rw[Int.natAbs_mul,Int.natCast_mul];congr 1;omega
theorem afR {p q:Int×Int}{i j k l:Nat}(ah:0<p.2)(a1:0<q.2)(h1:(p.1.natAbs:Int)<B i)(h2:p.2<B j)(J:(q.1.natAbs:Int)<B k)(ak:q.2<B l)(aa:i<=1000)(ay:j<=1000)(a2:k<=1000)(aR:l<=1000):FT (some (l3 p)) (some (l3 q))=some (lP (p.1*q.2) (q.1*p.2)):=by have ko:=(ij (by omega)).2 h1;have lq:=(ij (by omega)).2 h2;have yM:=(ij (by omega)).2 J;have lr:=(ij (by omega)).2 ak;have a7:=tz (x:=p.1.natAbs) (y:=q.2) (by omega) (by omega) h1 ak;have bb:=tz (x:=q.1.natAbs) (y:=p.2) (by omega) (by omega) J h2;unfold FT;rw[dC,dx];show (tj (some (l3 p)) (L q.2)).bind _=_;rw[Kb (by omega) (by omega) (by omega),dx,dC,dx];show (tj (some (l3 q)) (L p.2)).bind _=_;rw[Kb (by omega) (by omega) (by omega),dx,TR (by rw[Hf (by omega)];omega) (by rw[Hf (by omega)];omega)];rfl
theorem vu (n cb aa:Int):oI n cb aa=some (decide (cb<=n/\n<=aa)):=by unfold oI;by_cases h:cb<=n<;>simp[h]
theorem N0 (n:Int):Gp n=some (decide (0<=n/\n<=1000)):=by unfold Gp;by_cases h:0<=n<;>simp[h]
theorem Kc {α β:Type}{t:Nat->α->Option β}: ∀(l:List α) (k:Nat),(∀n x,l[n]? = some x->t (k+n) x=none)->scan t k l=none
 | [],_,_=>rfl
 | x::l,k,h=>by have h0:=h 0 x rfl;simp only[Nat.add_zero] at h0;simp only[scan,h0];exact Kc l (k+1) fun n y aV=>by rw[show k+1+n=k+(n+1) by omega];exact h (n+1) y (by simpa using aV)
theorem Dz (l:ar)(h:l.length<=1048576):vj l l=some true:=by
 have h1:UY l l 0=some (.inl ()):=by have:=J7 (f:=fun w=>CM l l w) (t:=fun _ _=>none) (e:= .inl ()) l 0 (fun n x U=>by have aU:=f6 U;have hw:R ((n:Int)+1)=((n+1:Nat):Int):=(by rw[cG (by omega) (by omega)];rfl);simp only[CM,fj,dG,hw];simp[aU]) (by simp[CM,fj]);rw[Kc l 0 (fun _ _ _=>rfl)] at this;exact this
 simp[vj,h1]
theorem afS (j:cS):Gq j j=some true:=by simp[Gq]
theorem aft (j:dg):Gd j j=some true:=by simp[Gd]
theorem afu (l:aqm)(h:l.length<=1048576):Gc l l=some true:=by
 have h1:Ue l l 0=some (.inl ()):=by have:=J7 (f:=fun w=>Ck l l w) (t:=fun _ _=>none) (e:= .inl ()) l 0 (fun n x U=>by have aU:=f6 U;have hw:R ((n:Int)+1)=((n+1:Nat):Int):=(by rw[cG (by omega) (by omega)];rfl);simp only[Ck,fj,dG,hw];simp[aU,afS]) (by simp[Ck,fj]);rw[Kc l 0 (fun _ _ _=>rfl)] at this;exact this
 simp[Gc,h1]
theorem afe (l:aqn)(h:l.length<=1048576):FU l l=some true:=by
 have h1:TQ l l 0=some (.inl ()):=by have:=J7 (f:=fun w=>Ca l l w) (t:=fun _ _=>none) (e:= .inl ()) l 0 (fun n x U=>by have aU:=f6 U;have hw:R ((n:Int)+1)=((n+1:Nat):Int):=(by rw[cG (by omega) (by omega)];rfl);simp only[Ca,fj,dG,hw];simp[aU,aft]) (by simp[Ca,fj]);rw[Kc l 0 (fun _ _ _=>rfl)] at this;exact this
 simp[FU,h1]
theorem Uj (s:c6)(h1:s.cv.length<=1048576)(h2:s.bN.length<=1048576):C3 s s=some true:=by simp[C3,afu _ h1,afe _ h2]
theorem afT (j:cS)(left:Int)(ay:j.iS.size<=maxLen)(h0:0<=left)(h1:left<=1048576): ∃r,Gg j left=some r/\r<=left:=by
 have hm:j.iS.size<9223372036854775808:=by have:maxLen=9223372036854775807:=by decide
                                           omega
 have hw:R (left-j.iS.size)=left-j.iS.size:=cG (by omega) (by omega);unfold Gg;rw[hw];by_cases h:left-(j.iS.size:Int)<0
 ·exact⟨-1,by simp[h],by omega⟩
 exact⟨left-j.iS.size,by simp[h],by omega⟩
theorem afv (l:aqm)(left:Int)(aR:l.length<=maxLen)(ay:∀j∈l,j.iS.size<=maxLen)(h0:0<=left)(h1:left<=1048576):
 ∃r,FV l left=some r/\r<=left/\(0<=r->l.length<=1048576):=by
 have hm:maxLen=9223372036854775807:=by decide
 have hw:R (left-(l.length:Nat))=left-(l.length:Nat):=cG (by omega) (by omega);unfold FV;simp only[fj,hw];by_cases h:left-(l.length:Int)<0
 ·exact⟨-1,by simp[h],by omega,by omega⟩
 obtain⟨r,r1,r2⟩:=j5 (f:=fun w:Int×Int=>yX l w.1 w.2) (fun w=>0<=w.1/\w.1<=left/\0<=w.2/\w.2<=l.length) (fun w=>(l.length-w.2).toNat)
  (fun r=>match r with | .inl a=>a<=left | .inr _=>True) (fun w hw=>by
    obtain⟨a,i⟩:=w;simp only at hw;obtain⟨iP,oV,rP,aaR⟩:=hw;by_cases aa:i<l.length
    ·obtain⟨x,U⟩ : ∃x,l[i.toNat]? = some x:=⟨_,dz (by omega)⟩
     obtain⟨r,s1,s2⟩:=afT x a (ay x (dH U)) iP (by omega);obtain⟨aU,rfl⟩:=apX.1 U;have Ie:R (i+1)=i+1:=cG (by omega) (by omega);by_cases aj:r<0
     ·right;exact⟨.inr (),by simp[yX,fj,aa,rP,U,s1,aj],trivial⟩
     left;refine⟨(r,i+1),by simp[yX,fj,aa,rP,U,s1,aj,Ie],?_,?_⟩
     ·simp only;omega
     simp only;omega
    right;exact⟨.inl a,by simp[yX,fj,aa],by simpa using oV⟩) (left-(l.length:Nat),0) (by simp only;omega)
 have A2:TT l (left-(l.length:Nat)) 0=some r:=r1;rw[A2]
 cases r with
 | inl a=>exact⟨a,by simp[h],r2,by omega⟩
 | inr a=>exact⟨-1,by simp[h],by omega,by omega⟩
theorem aff (l:aqn)(left:Int)(aR:l.length<=maxLen)(h0:0<=left)(h1:left<=1048576):
 ∃r,FO l left=some r/\r<=left/\(0<=r->l.length<=1048576):=by
 have hm:maxLen=9223372036854775807:=by decide
 have hw:R (left-(l.length:Nat))=left-(l.length:Nat):=cG (by omega) (by omega);unfold FO;simp only[fj,hw];by_cases h:left-(l.length:Int)<0
 ·exact⟨-1,by simp[h],by omega,by omega⟩
 exact⟨left-(l.length:Nat),by simp[h],by omega,by omega⟩
theorem aeC (s:c6)(i0:qv s)(left:Int)(h0:0<=left)(h1:left<=1048576):
 ∃r,FG s left=some r/\(0<=r->s.cv.length<=1048576/\s.bN.length<=1048576):=by
 obtain⟨⟨gh,gi⟩,bm,er⟩:=i0;obtain⟨r,r1,r2,bc⟩:=afv s.cv left gh (fun j ay=>(gi j ay).1) h0 h1;unfold FG;rw[r1];by_cases h:r<0
 ·exact⟨-1,by simp[h],by omega⟩
 obtain⟨q,q1,q2,bL⟩:=aff s.bN r bm (by omega) (by omega);by_cases a1:q<0
 ·exact⟨-1,by simp[h,q1,a1],by omega⟩
 exact⟨q,by simp[h,q1,a1],fun _=>⟨bc (by omega),bL (by omega)⟩⟩
theorem xP:maxLen=9223372036854775807:=by decide
theorem agS (n:Int):Dm n=oI n (-50) 50:=by rw[vu];unfold Dm;by_cases h : -50<=n<;>simp[h]
theorem agj (c:Int):F6 c=some (decide (97<=c/\c<=122)):=by unfold F6;by_cases h:97<=c<;>simp[h]
theorem agT (c:Int):Gj c=some (decide (48<=c/\c<=57)):=by unfold Gj;by_cases h:48<=c<;>simp[h]
theorem agk (s:ByteArray)(i:Int):Fu s s.size i=xA s i:=by
 unfold Fu xA;generalize ((s.data.toList.getD i.toNat 0).toNat:Int)=c;simp only[agj,agT,dC,dx]
 by_cases h1:i<(s.size:Int)<;>by_cases h0:0<=i<;>by_cases a:(97:Int)<=c<;>by_cases b:c<=122<;>by_cases d:i=0<;>by_cases e:c<48<;>by_cases f:57<c <;>
  simp[h1,h0,a,b,d,e,f,Int.not_lt.1,Int.not_le]<;>omega
theorem ahF (s:ByteArray):Gu s=xK s:=by
 have h:Ny s s.size 0=JE s 0:=by unfold Ny JE;congr 1;funext w;exact agk s w
 unfold Gu xK;rw[h];congr 1;funext r
 cases r with
 | inr a=>rfl
 | inl a =>
  simp only[vu,dC,dx];by_cases h0:s.size=0
  ·have:s=⟨#[]⟩:=by
    cases s with
    | mk d=>simp only[ByteArray.size] at h0;rw[Array.size_eq_zero_iff] at h0;rw[h0]
   subst this;have e0:(ByteArray.mk #[]).size=0:=rfl;simp[e0]
  have di:s.toList≠(⟨#[]⟩:ByteArray).toList:=(by intro e;have aR : ∀x:ByteArray,x.toList.length=x.size:=(by intro x;rw[ByteArray.toList_eq];rfl);have:=aR s;rw[e,aR] at this;exact h0 this.symm);simp only[beq_iff_eq,di,Bool.not_eq_true',beq_eq_false_iff_ne,ne_eq,not_false_eq_true,if_true];congr 1;apply decide_eq_decide.2;omega
theorem agl (s:ByteArray)(bM:s.size<=maxLen): ∃r,xK s=some r:=by
 have hm:=xP
 obtain⟨r,h,-⟩:=j5 (f:=fun w=>xA s w) (fun i=>0<=i/\i<=s.size) (fun i=>(s.size-i).toNat) (fun _=>True) (fun i aa=>by
  obtain⟨h0,h1⟩:=aa;by_cases h2:i<(s.size:Int)
  ·have hw:R (i+1)=i+1:=cG (by omega) (by omega)
   unfold xA;generalize ((s.data.toList.getD i.toNat 0).toNat:Int)=c;have ak0:0<=i+1/\i+1<=(s.size:Int):=(by omega);have oB:((s.size:Int)-(i+1)).toNat<((s.size:Int)-i).toNat:=by omega
   have key : ∀x:Option (Int⊕(Unit⊕Unit)),(x=some (.inl (i+1))\/x=some (.inr (.inr ())))->(∃eF,x=some (.inl eF)/\(0<=eF/\eF<=(s.size:Int))/\((s.size:Int)-eF).toNat<((s.size:Int)-i).toNat)\/ ∃r,x=some (.inr r)/\True:=by
    intro x U;rcases U with U|U
    ·exact .inl ⟨i+1,U,ak0,oB⟩
    exact .inr ⟨_,U,trivial⟩
   apply key;simp only[h2,h0,hw,decide_true,if_true,and_self];by_cases a:(97:Int)<=c<;>by_cases b:c<=122<;>by_cases d:i=0<;>by_cases e:c<48<;>by_cases f:57<c<;>simp[a,b,d,e,f]
  exact .inr ⟨.inl (),by simp[xA,h2],trivial⟩) 0 (by omega)
 have c1:JE s 0=some r:=h;unfold xK;rw[c1]
 cases r with
 | inl a=>exact⟨_,by simp[vu];rfl⟩
 | inr a=>exact⟨_,rfl⟩
theorem agU (j:cS):Gk j=ss j:=by unfold Gk ss;simp only[ahF,agS]
theorem Vk (j:cS)(h:j.iS.size<=maxLen): ∃r,ss j=some r:=by
 obtain⟨r,aj⟩:=agl _ h;unfold ss;simp only[aj,vu,dC,dx]
 repeat' split
 all_goals exact⟨_,rfl⟩
theorem afw (s:c6)(n:ByteArray):FM s n=zf s n:=by
 have h:Mm s.cv n (len_ b3 s.cv) 0=Fy n s.cv (len_ b3 s.cv) 0:=by unfold Mm Fy;congr 1
 unfold FM zf Ji;rw[h]
 cases Fy n s.cv (len_ b3 s.cv) 0 with
 | none=>rfl
 | some r=>cases r<;>rfl
theorem UC (s:c6)(n:ByteArray)(h:s.cv.length<=maxLen): ∃r,zf s n=some r:=by
 have hm:=xP
 obtain⟨r,h1,-⟩:=j5 (f:=fun w=>BU n s.cv (len_ b3 s.cv) w) (fun i=>0<=i/\i<=s.cv.length) (fun i=>(s.cv.length-i).toNat) (fun _=>True) (fun i aa=>by
  obtain⟨h0,h1⟩:=aa;by_cases h2:i<(s.cv.length:Int)
  ·have hw:R (i+1)=i+1:=cG (by omega) (by omega)
   obtain⟨x,U⟩ : ∃x,s.cv[i.toNat]? = some x:=⟨_,dz (by omega)⟩;unfold BU;simp only[fj,h2,h0,hw,U,decide_true,if_true,and_self,dC,dx];by_cases e:(x.iS.toList == n.toList)=true
   ·exact .inr ⟨_,by rw[dw e],trivial⟩
   exact .inl ⟨i+1,by rw[dA e],by omega,by omega⟩
  exact .inr ⟨.inl (),by simp[BU,fj,h2],trivial⟩) 0 (by omega)
 have c1:Fy n s.cv (len_ b3 s.cv) 0=some r:=h1;unfold zf;rw[c1]
 cases r with
 | inl a=>exact⟨_,rfl⟩
 | inr a=>exact⟨_,rfl⟩
theorem UD (s:c6):MR s.cv (len_ b3 s.cv) s.bN 0=CF s.cv (len_ b3 s.cv) s.bN 0:=by unfold MR CF;congr 1;funext w;unfold Jm vc;simp only[agU,afw]
theorem TS (s:c6)(i0:qv s): ∃r,CF s.cv (len_ b3 s.cv) s.bN 0=some r:=by
 have hm:=xP;obtain⟨⟨gh,gi⟩,-⟩:=i0
 obtain⟨r,h1,-⟩:=j5 (f:=fun w=>vc s.cv (len_ b3 s.cv) s.bN w) (fun i=>0<=i/\i<=s.cv.length) (fun i=>(s.cv.length-i).toNat) (fun _=>True) (fun i aa=>by
  obtain⟨h0,h1⟩:=aa;by_cases h2:i<(s.cv.length:Int)
  ·have hw:R (i+1)=i+1:=cG (by omega) (by omega)
   obtain⟨x,U⟩ : ∃x,s.cv[i.toNat]? = some x:=⟨_,dz (by omega)⟩;obtain⟨p,ah⟩:=Vk x (gi x (dH U)).1;obtain⟨q,a1⟩:=UC ⟨s.cv,s.bN⟩ x.iS gh;unfold vc;simp only[fj,h2,h0,hw,U,ah,a1,decide_true,if_true,and_self,dC,dx];by_cases e:p=true
   ·rw[dw e]
    by_cases e2:(q != i)=true
    ·exact .inr ⟨_,by rw[dw e2],trivial⟩
    exact .inl ⟨i+1,by rw[dA e2],by omega,by omega⟩
   exact .inr ⟨_,by rw[dA e],trivial⟩
  exact .inr ⟨.inl (),by simp[vc,fj,h2],trivial⟩) 0 (by omega)
 exact⟨r,h1⟩
def sD (jj:aqm)(m:dg):Bool :=
 decide (0<=m.dr/\m.dr<jj.length/\0<=m.d4/\m.d4<jj.length/\1<=m.h3/\m.h3<=3) &&
 match jj[m.dr.toNat]?,jj[m.d4.toNat]? with
 | some a,some b=> !(a.gx == b.gx && a.gI == b.gI) && !(a.iA && b.iA)
 | _,_=>false
theorem NR (s:c6)(m:dg):Fj s m=some (sD s.cv m):=by
 unfold Fj sD;simp only[fj];by_cases h1:m.dr<0
 ·simp[h1];omega
 by_cases h2:(s.cv.length:Int)<=m.dr
 ·simp[h1,h2];omega
 by_cases J:m.d4<0
 ·simp[h1,h2,J];omega
 by_cases ak:(s.cv.length:Int)<=m.d4
 ·simp[h1,h2,J,ak];omega
 by_cases ax:m.h3<1
 ·simp[h1,h2,J,ak,ax];omega
 by_cases aN:3<m.h3
 ·simp[h1,h2,J,ak,ax,aN];omega
 obtain⟨x,U⟩ : ∃x,s.cv[m.dr.toNat]? = some x:=⟨_,dz (by omega)⟩;obtain⟨y,aV⟩ : ∃y,s.cv[m.d4.toNat]? = some y:=⟨_,dz (by omega)⟩;have bf:0<=m.dr/\m.dr<s.cv.length:=by omega
 have cx:0<=m.d4/\m.d4<s.cv.length:=by omega
 have kO:0<=m.dr/\m.dr<s.cv.length/\0<=m.d4/\m.d4<s.cv.length/\1<=m.h3/\m.h3<=3:=by omega
 rw[decide_eq_false h1,decide_eq_false h2,decide_eq_false J,decide_eq_false ak,decide_eq_false ax,decide_eq_false aN,decide_eq_true kO,dw bf,U];simp only[apS,if_false,dC,dx,Bool.true_and];rw[dw cx,aV];simp only[dx];by_cases e1:x.gx=y.gx<;>by_cases e2:x.gI=y.gI<;>by_cases E0:x.iA=true<;>by_cases IJ:y.iA=true<;>simp[e1,e2,E0,IJ]
theorem afg (jj:aqm)(gG:aqn)(ay:jj.length<=6)(Lx:gG.length<=8)(i:Int):
 Fi (R (len_ b3 jj-1)) gG (len_ ca gG) jj i =
 (th gG jj gG (len_ ca gG) i).map (Sum.map id (Sum.map id fun _=>())):=by
 have hw:R ((jj.length:Nat)-1)=(jj.length:Nat)-1:=cG (by omega) (by omega);unfold Fi th CQ;simp only[fj,hw,NR,vu,dC,dx];by_cases h1:i<(gG.length:Int);rotate_left
 ·simp[h1]
 by_cases h0:0<=i;rotate_left
 ·simp[h1,h0]
 obtain⟨m,hm⟩ : ∃x,gG[i.toNat]? = some x:=⟨_,dz (by omega)⟩;simp only[h1,h0,hm,decide_true,if_true,and_self,dx];unfold sD;by_cases hA:0<=m.dr/\m.dr<=(jj.length:Int)-1;rotate_left
 ·have kO : ¬(0<=m.dr/\m.dr<jj.length/\0<=m.d4/\m.d4<jj.length/\1<=m.h3/\m.h3<=3):=(by omega);rw[decide_eq_false hA,decide_eq_false kO];simp
 by_cases gN:0<=m.d4/\m.d4<=(jj.length:Int)-1;rotate_left
 ·have kO : ¬(0<=m.dr/\m.dr<jj.length/\0<=m.d4/\m.d4<jj.length/\1<=m.h3/\m.h3<=3):=(by omega);rw[decide_eq_true hA,decide_eq_false gN,decide_eq_false kO];simp
 by_cases jh:1<=m.h3/\m.h3<=3
 ·obtain⟨x,U⟩ : ∃x,jj[m.dr.toNat]? = some x:=⟨_,dz (by omega)⟩;obtain⟨y,aV⟩ : ∃y,jj[m.d4.toNat]? = some y:=⟨_,dz (by omega)⟩;have bf:0<=m.dr/\m.dr<jj.length:=(by omega);have cx:0<=m.d4/\m.d4<jj.length:=(by omega);have kO:0<=m.dr/\m.dr<jj.length/\0<=m.d4/\m.d4<jj.length/\1<=m.h3/\m.h3<=3:=(by omega);rw[decide_eq_true hA,decide_eq_true gN,decide_eq_true jh,decide_eq_true kO];simp only[if_true,dx,Bool.true_and];rw[dw bf,U];simp only[dx];rw[dw cx,aV];simp only[dx];by_cases e1:x.gx=y.gx<;>by_cases e2:x.gI=y.gI<;>by_cases E0:x.iA=true<;>by_cases IJ:y.iA=true<;>simp[e1,e2,E0,IJ]
 have kO : ¬(0<=m.dr/\m.dr<jj.length/\0<=m.d4/\m.d4<jj.length/\1<=m.h3/\m.h3<=3):=by omega
 rw[decide_eq_true hA,decide_eq_true gN,decide_eq_false jh,decide_eq_false kO];simp
theorem Tt (jj:aqm)(gG:aqn)(Lx:gG.length<=8): ∃r,Jf gG jj gG (len_ ca gG) 0=some r/\ ∀k,r = .inr k->0<=k:=by
 exact j5 (f:=fun w=>th gG jj gG (len_ ca gG) w) (fun i=>0<=i/\i<=gG.length) (fun i=>(gG.length-i).toNat) (fun r=> ∀k,r = .inr k->0<=k) (fun i aa=>by
  obtain⟨h0,h1⟩:=aa;by_cases h2:i<(gG.length:Int)
  ·have hw:R (i+1)=i+1:=cG (by omega) (by omega)
   obtain⟨x,U⟩ : ∃x,gG[i.toNat]? = some x:=⟨_,dz (by omega)⟩;unfold th CQ;simp only[fj,h2,h0,hw,U,NR,decide_true,if_true,and_self,dC,dx];by_cases e:(!sD jj x)=true
   ·exact .inr ⟨_,by rw[dw e],by intro k a2;simp at a2;omega⟩
   exact .inl ⟨i+1,by rw[dA e],by omega,by omega⟩
  exact .inr ⟨.inl (),by simp[th,fj,h2],by intro k a2;simp at a2⟩) 0 (by omega)
theorem Nb (s:c6)(i0:qv s): ∃r,oX s=some r/\wi s=some r:=by
 unfold oX wi;by_cases h1:6<(s.cv.length:Int)
 ·exact⟨false,by simp[fj,h1],by simp[fj,h1]⟩
 by_cases h2:8<(s.bN.length:Int)
 ·exact⟨false,by simp[fj,h1,h2],by simp[fj,h1,h2]⟩
 obtain⟨r,aj⟩:=TS s i0;rw[UD,aj];obtain⟨q,a1,nu⟩:=Tt s.cv s.bN (by omega)
 have amT:SP (R (len_ b3 s.cv-1)) s.bN (len_ ca s.bN) s.cv 0=some (Sum.map id (fun _=>()) q) :=
  Xb (f:=fun w=>th s.bN s.cv s.bN (len_ ca s.bN) w) (Sum.map id fun _=>()) (fun _=>True) (fun _ _ _ _=>trivial)
   (fun i _=>afg s.cv s.bN (by omega) (by omega) i) 0 q a1 trivial
 simp only[Fa,Fc,a1,amT,dC,dx];have d1:decide ((6:Int)<len_ b3 s.cv)=false:=by rw[fj];exact decide_eq_false h1
 have d2:decide ((8:Int)<len_ ca s.bN)=false:=by rw[fj];exact decide_eq_false h2
 rw[d1,d2];simp only[apS,if_false]
 cases r with
 | inr a=>exact⟨false,rfl,rfl⟩
 | inl a =>
  cases q with
  | inl b=>exact⟨true,rfl,by simp⟩
  | inr k =>
   have:=nu k rfl;exact⟨false,rfl,by simp[this]⟩
theorem afh (l:ar)(i:Int):Fm l (len_ eI l) i=(ti l (len_ eI l) i).map (Sum.map id (Sum.map id fun _=>())):=by
 unfold Fm ti CY;simp only[N0,vu,dC,dx];by_cases h1:i<len_ eI l
 ·by_cases h2:0<=i/\i<l.length
  ·cases U:l[i.toNat]? with
   | none=>simp[h1]
   | some x =>
    simp only[h1,h2,decide_true,if_true,and_self,dx];cases bD:decide (0<=x/\x<=1000)<;>simp
  rw[decide_eq_true h1,dA h2];simp[h2]
 simp[h1]
theorem ad4 (l:ar)(aR:l.length<=maxLen): ∃r,Mn l (len_ eI l) 0=some r/\ ∀k,r = .inr k->0<=k:=by
 have hm:=xP
 exact j5 (f:=fun w=>ti l (len_ eI l) w) (fun i=>0<=i/\i<=l.length) (fun i=>(l.length-i).toNat) (fun r=> ∀k,r = .inr k->0<=k) (fun i aa=>by
  obtain⟨h0,h1⟩:=aa;by_cases h2:i<(l.length:Int)
  ·have hw:R (i+1)=i+1:=cG (by omega) (by omega)
   obtain⟨x,U⟩ : ∃x,l[i.toNat]? = some x:=⟨_,dz (by omega)⟩;unfold ti CY;simp only[fj,h2,h0,hw,U,N0,decide_true,if_true,and_self,dC,dx];by_cases e:(!decide (0<=x/\x<=1000))=true
   ·exact .inr ⟨_,by rw[dw e],by intro k a2;simp at a2;omega⟩
   exact .inl ⟨i+1,by rw[dA e],by omega,by omega⟩
  exact .inr ⟨.inl (),by simp[ti,fj,h2],by intro k a2;simp at a2⟩) 0 (by omega)
theorem NB (j:cS)(h:ss j=some true): -50<=j.gx/\j.gx<=50/\ -50<=j.gI/\j.gI<=50:=by
 unfold ss at h
 cases aU:xK j.iS with
 | none=>simp[aU] at h
 | some r =>
  simp only[aU,vu,dC,dx] at h
  cases r with
  | false=>simp at h
  | true =>
   by_cases a : -50<=j.gx/\j.gx<=50
   ·by_cases b : -50<=j.gI/\j.gI<=50
    ·omega
    simp[a,b] at h
   simp[a] at h
theorem ahG (s:c6)(i0:qv s)(h:CF s.cv (len_ b3 s.cv) s.bN 0=some (.inl ())): ∀(n:Nat) j,s.cv[n]? = some j->ss j=some true:=by
 have hm:=xP;obtain⟨⟨gh,gi⟩,-⟩:=i0
 obtain⟨r,h1,h2⟩:=j5 (f:=fun w=>vc s.cv (len_ b3 s.cv) s.bN w) (fun i=>0<=i/\i<=s.cv.length/\ ∀(n:Nat) j,(n:Int)<i->s.cv[n]? = some j->ss j=some true) (fun i=>(s.cv.length-i).toNat)
  (fun r=>r = .inl ()-> ∀(n:Nat) j,s.cv[n]? = some j->ss j=some true) (fun i aa=>by
  obtain⟨h0,h1,J⟩:=aa;by_cases h2:i<(s.cv.length:Int)
  ·have hw:R (i+1)=i+1:=cG (by omega) (by omega)
   obtain⟨x,U⟩ : ∃x,s.cv[i.toNat]? = some x:=⟨_,dz (by omega)⟩;obtain⟨p,ah⟩:=Vk x (gi x (dH U)).1;obtain⟨q,a1⟩:=UC ⟨s.cv,s.bN⟩ x.iS gh;unfold vc;simp only[fj,h2,h0,hw,U,ah,a1,decide_true,if_true,and_self,dC,dx];by_cases e:p=true
   ·rw[dw e]
    by_cases e2:(q != i)=true
    ·exact .inr ⟨_,by rw[dw e2],by simp⟩
    refine .inl ⟨i+1,by rw[dA e2],⟨by omega,by omega,fun n j aU ay=> ?_⟩,by omega⟩;by_cases c:(n:Int)<i
    ·exact J n j c ay
    have:n=i.toNat:=(by omega);subst this;rw[U] at ay;obtain rfl:=dJ ay;rw[ah,e]
   exact .inr ⟨_,by rw[dA e],by simp⟩
  refine .inr ⟨.inl (),by simp[vc,fj,h2],fun _ n j ay=>J n j (by have:=f6 ay;omega) ay⟩) 0 ⟨by omega,by omega,fun n j aU=>by omega⟩
 have tS:CF s.cv (len_ b3 s.cv) s.bN 0=some r:=h1;rw[h] at tS;exact h2 (dJ tS).symm
theorem agV (jj:aqm)(gG:aqn)(Lx:gG.length<=8)(h:Jf gG jj gG (len_ ca gG) 0=some (.inl ())): ∀(n:Nat) m,gG[n]? = some m->sD jj m=true:=by
 obtain⟨r,h1,h2⟩:=j5 (f:=fun w=>th gG jj gG (len_ ca gG) w) (fun i=>0<=i/\i<=gG.length/\ ∀(n:Nat) m,(n:Int)<i->gG[n]? = some m->sD jj m=true) (fun i=>(gG.length-i).toNat)
  (fun r=>r = .inl ()-> ∀(n:Nat) m,gG[n]? = some m->sD jj m=true) (fun i aa=>by
  obtain⟨h0,h1,J⟩:=aa;by_cases h2:i<(gG.length:Int)
  ·have hw:R (i+1)=i+1:=cG (by omega) (by omega)
   obtain⟨x,U⟩ : ∃x,gG[i.toNat]? = some x:=⟨_,dz (by omega)⟩;unfold th CQ;simp only[fj,h2,h0,hw,U,NR,decide_true,if_true,and_self,dC,dx];by_cases e:(!sD jj x)=true
   ·exact .inr ⟨_,by rw[dw e],by simp⟩
   refine .inl ⟨i+1,by rw[dA e],⟨by omega,by omega,fun n j aU ay=> ?_⟩,by omega⟩;by_cases c:(n:Int)<i
   ·exact J n j c ay
   have:n=i.toNat:=(by omega);subst this;rw[U] at ay;obtain rfl:=dJ ay;simpa using e
  refine .inr ⟨.inl (),by simp[th,fj,h2],fun _ n j ay=>J n j (by have:=f6 ay;omega) ay⟩) 0 ⟨by omega,by omega,fun n j aU=>by omega⟩
 have tS:Jf gG jj gG (len_ ca gG) 0=some r:=h1;rw[h] at tS;exact h2 (dJ tS).symm
theorem FF (s:c6)(i0:qv s)(h:oX s=some true):
 (∀(n:Nat) j,s.cv[n]? = some j->ss j=some true)/\(∀(n:Nat) m,s.bN[n]? = some m->sD s.cv m=true)/\s.cv.length<=6/\s.bN.length<=8:=by
 obtain⟨p,p1,p2⟩:=Nb s i0;rw[h] at p1;obtain rfl:=dJ p1;unfold wi at p2;by_cases h1:6<(s.cv.length:Int)
 ·simp[fj,h1] at p2
 by_cases h2:8<(s.bN.length:Int)
 ·simp[fj,h1,h2] at p2
 obtain⟨r,aj⟩:=TS s i0;rw[UD,aj] at p2;obtain⟨q,a1,nu⟩:=Tt s.cv s.bN (by omega);have d1:decide ((6:Int)<len_ b3 s.cv)=false:=by rw[fj];exact decide_eq_false h1
 have d2:decide ((8:Int)<len_ ca s.bN)=false:=by rw[fj];exact decide_eq_false h2
 rw[d1,d2] at p2;simp only[Fa,Fc,a1,apS,if_false,dC,dx] at p2
 cases r with
 | inr a=>simp at p2
 | inl a =>
  cases q with
  | inr k =>
   have:=nu k rfl;simp[this] at p2
  | inl b=>exact⟨ahG s i0 aj,agV s.cv s.bN (by omega) a1,by omega,by omega⟩
def oE (s:c6):Prop:=(∀(n:Nat) j,s.cv[n]? = some j-> -50<=j.gx/\j.gx<=50/\ -50<=j.gI/\j.gI<=50)/\(∀(n:Nat) m,s.bN[n]? = some m->sD s.cv m=true)/\s.cv.length<=6/\s.bN.length<=8
theorem aeY (s:c6)(i0:qv s)(h:oX s=some true):oE s:=by obtain⟨f1,f2,f3,f4⟩:=FF s i0 h;exact⟨fun n j ay=>NB j (f1 n j ay),f2,f3,f4⟩
theorem ajw (s:c6)(h:oE s)(k:Int)(h0:0<=k)(h1:k<s.bN.length):
 ∃x y,so s k=some (x,y)/\(-100<=x/\x<=100)/\(-100<=y/\y<=100):=by
 obtain⟨f1,f2,f3,f4⟩:=h;obtain⟨m,hm⟩ : ∃x,s.bN[k.toNat]? = some x:=⟨_,dz (by omega)⟩;have u4:=f2 _ m hm;unfold sD at u4;simp only[dN,decide_eq_true_eq] at u4;obtain⟨⟨g1,g2,g3,g4,-⟩,-⟩:=u4;obtain⟨a,bF⟩ : ∃x,s.cv[m.dr.toNat]? = some x:=⟨_,dz (by omega)⟩;obtain⟨b,a3⟩ : ∃x,s.cv[m.d4.toNat]? = some x:=⟨_,dz (by omega)⟩;have aaS:=f1 _ a bF;have aaT:=f1 _ b a3;have e1:R (b.gx-a.gx)=b.gx-a.gx:=cG (by omega) (by omega);have e2:R (b.gI-a.gI)=b.gI-a.gI:=cG (by omega) (by omega);have bV:0<=k/\k<s.bN.length:=⟨h0,h1⟩;have bf:0<=m.dr/\m.dr<s.cv.length:=⟨g1,g2⟩;have cx:0<=m.d4/\m.d4<s.cv.length:=⟨g3,g4⟩;refine⟨b.gx-a.gx,b.gI-a.gI,?_,by omega,by omega⟩;unfold so;simp only[dw bV,hm,dw bf,dw cx,bF,a3,dC,dx,e1,e2]
theorem ajx (s:c6)(h:oE s)(k:Int)(h0:0<=k)(h1:k<s.bN.length){v:Int×Int}(bh:so s k=some v):xG s k=some v:=by
 obtain⟨f1,f2,f3,f4⟩:=h;obtain⟨m,hm⟩ : ∃x,s.bN[k.toNat]? = some x:=⟨_,dz (by omega)⟩;have u4:=f2 _ m hm;unfold sD at u4;simp only[dN,decide_eq_true_eq] at u4;obtain⟨⟨g1,g2,g3,g4,-⟩,-⟩:=u4;obtain⟨a,bF⟩ : ∃x,s.cv[m.dr.toNat]? = some x:=⟨_,dz (by omega)⟩;obtain⟨b,a3⟩ : ∃x,s.cv[m.d4.toNat]? = some x:=⟨_,dz (by omega)⟩;have aaS:=f1 _ a bF;have aaT:=f1 _ b a3;have e1:R (b.gx-a.gx)=b.gx-a.gx:=cG (by omega) (by omega);have e2:R (b.gI-a.gI)=b.gI-a.gI:=cG (by omega) (by omega);have bV:0<=k/\k<s.bN.length:=⟨h0,h1⟩;have bf:0<=m.dr/\m.dr<s.cv.length:=⟨g1,g2⟩;have cx:0<=m.d4/\m.d4<s.cv.length:=⟨g3,g4⟩;have xw:so s k=some (b.gx-a.gx,b.gI-a.gI):=by unfold so;simp only[dw bV,hm,dw bf,dw cx,bF,a3,dC,dx,e1,e2]
 rw[bh] at xw;obtain rfl:=dJ xw;unfold xG;simp only[dw bV,hm,dw bf,dw cx,bF,a3,dC,dx,e1,e2]
theorem ahH (s:c6)(i0:qv s)(h:oX s=some true)(k:Int)(h0:0<=k)(h1:k<s.bN.length):
 ∃x y,so s k=some (x,y)/\xG s k=some (x,y)/\(-100<=x/\x<=100)/\(-100<=y/\y<=100):=by
 obtain⟨f1,f2,f3,f4⟩:=FF s i0 h;obtain⟨m,hm⟩ : ∃x,s.bN[k.toNat]? = some x:=⟨_,dz (by omega)⟩;have u4:=f2 _ m hm;unfold sD at u4;simp only[dN,decide_eq_true_eq] at u4;obtain⟨⟨g1,g2,g3,g4,-⟩,-⟩:=u4;obtain⟨a,bF⟩ : ∃x,s.cv[m.dr.toNat]? = some x:=⟨_,dz (by omega)⟩;obtain⟨b,a3⟩ : ∃x,s.cv[m.d4.toNat]? = some x:=⟨_,dz (by omega)⟩;have aaS:=NB a (f1 _ a bF);have aaT:=NB b (f1 _ b a3);have e1:R (b.gx-a.gx)=b.gx-a.gx:=cG (by omega) (by omega);have e2:R (b.gI-a.gI)=b.gI-a.gI:=cG (by omega) (by omega);have bV:0<=k/\k<s.bN.length:=⟨h0,h1⟩;have bf:0<=m.dr/\m.dr<s.cv.length:=⟨g1,g2⟩;have cx:0<=m.d4/\m.d4<s.cv.length:=⟨g3,g4⟩;refine⟨b.gx-a.gx,b.gI-a.gI,?_,?_,by omega,by omega⟩
 ·unfold so;simp only[dw bV,hm,dw bf,dw cx,bF,a3,dC,dx,e1,e2]
 unfold xG;simp only[dw bV,hm,dw bf,dw cx,bF,a3,dC,dx,e1,e2]
def wM (r:av):Prop:=r.cJ.bP.length<=1048576/\r.dl.length<=1048576
theorem agW {r:av}(h:wM r):GF r r=some true:=by unfold GF JL;simp[Dz _ h.1,Dz _ h.2]
theorem VE (l:aqc)(h:l.length<=1048576)(aj:∀r∈l,wM r):Dy l l=some true:=by have h1:iter (fun w=>CN l l w) 0=some (if l.all (fun _=>true) then .inl () else .inr ()):=Km l (fun _=>true) (fun n x U=>by have aU:=f6 U;unfold CN;rw[fj,dw (by simp;omega),dw (by omega),dy,U];simp only[dC,dx];rw[dw (by omega),agW (aj x (dH U))];simp only[dx,if_true];rw[i1 (by omega)]) (by simp[CN,fj]);unfold Dy UZ;rw[h1];simp
def r7 (p:Int×Int):aqd:=some (l3 p)
theorem agX (l:aqc)(h:l.length<=1048576)(aj:∀r∈l,wM r):
 (∃xs:List (Int×Int),(∀p∈xs,Fr p)/\l=xs.map mk/\um l=some true/\DD l=some (xs.map r7,true))\/(um l=some false/\DD l=some ([],false)):=by
 have na : ∀r∈l,∃o:Option (Int×Int),(∀p,o=some p->Fr p/\r=mk p)/\nm r=some o.isSome/\wD r=some (o4 o):=by
  intro r u2;have hlen:=aj r u2;rcases aju (r:=r) (by have:=hlen.1;omega) (by have:=hlen.2;omega) with ⟨p,h1,h2,J,ak⟩|⟨J,ak⟩
  ·exact⟨some p,fun q a1=>by rw[<- dJ a1];exact⟨h1,h2⟩,J,ak⟩
  exact⟨none,fun q a1=>by simp at a1,J,ak⟩
 obtain⟨os,Ax,Es⟩ : ∃os:List (Option (Int×Int)),os.length=l.length/\ ∀(n:Nat) r o,l[n]? = some r->os[n]? = some o->(∀p,o=some p->Fr p/\r=mk p)/\nm r=some o.isSome/\wD r=some (o4 o):=by
  clear h aj
  induction l with
  | nil=>exact⟨[],rfl,fun n r o h=>by simp at h⟩
  | cons x l ih =>
   obtain⟨os,e1,e2⟩:=ih (fun r aj=>na r (by simp[aj]));obtain⟨o,ap⟩:=na x (by simp);refine⟨o::os,by simp[e1],fun n r cp h1 h2=> ?_⟩
   cases n with
   | zero =>
    simp at h1 h2;subst h1 h2;exact ap
   | succ n=>exact e2 n r cp (by simpa using h1) (by simpa using h2)
 have Hu:iter (fun w:Int=>wh l l.length w) 0=some (if os.all Option.isSome then .inl () else .inr ()):=Km os Option.isSome (fun n o ap=>by have aU:=f6 ap;have U:=dz (show n<l.length by omega);obtain⟨-,h2,-⟩:=Es n _ o U ap;unfold wh;rw[dw (by simp;omega),dw (by omega),dy,U];simp only[dC,dx];rw[h2];simp only[dx];rw[i1 (by omega)];cases o.isSome<;>rfl) (by rw[Ax];simp[wh]);have Hv:iter (fun w:Int×aqk=>CU l l.length w.1 w.2) (0,List.replicate l.length (none:aqd))=some (if os.all Option.isSome then .inl (os.map o4) else .inr ()):=WC os Option.isSome o4 _ (by simp[Ax]) (fun n o row ap ev=>by have aU:=f6 ap;have U:=dz (show n<l.length by omega);obtain⟨-,-,J⟩:=Es n _ o U ap;unfold CU;rw[dw (by simp;omega),dw (by omega),dy,U];simp only[dC,dx];rw[J];simp only[dx];rw[dw (by omega),dG,dw (by omega),apT,dw rfl,dw (by omega)];simp only[dx];rw[i1 (by omega)];cases o<;>rfl) (fun row=>by rw[Ax];simp[CU]);unfold um M7 DD Va;simp only[fj,dy];have a0:0<=(l.length:Int)/\(8:Int)*(l.length:Int)<=281474976710656/\(l.length:Int)<9223372036854775808:=by omega
 rw[Hu,Hv,dw a0];by_cases kG:os.all Option.isSome=true;rotate_left
 ·simp only[Bool.not_eq_true] at kG;refine .inr ⟨by rw[kG];rfl,by rw[kG];rfl⟩
 refine .inl ⟨os.filterMap id,?_,?_,by rw[kG];rfl,?_⟩
 ·intro p ah;obtain⟨o,ap,qd⟩:=List.mem_filterMap.mp ah;obtain⟨n,aU⟩:=List.mem_iff_getElem?.mp ap;have eN:=f6 aU;exact((Es n _ o (dz (show n<l.length by omega)) aU).1 p qd).1
 ·clear Hu Hv na aj h a0
  induction l generalizing os with
  | nil =>
   have:os=[]:=List.eq_nil_of_length_eq_zero Ax;subst this;rfl
  | cons x l ih =>
   cases os with
   | nil=>simp at Ax
   | cons o os =>
    simp only[List.all_cons,dN] at kG;obtain⟨p,rfl⟩:=Option.isSome_iff_exists.mp kG.1;have h1:=((Es 0 x (some p) rfl rfl).1 p rfl).2;have h2:=ih os (by simpa using Ax) (fun n r o J ak=>Es (n+1) r o (by simpa using J) (by simpa using ak)) kG.2;simp only[List.filterMap_cons,id,List.map_cons];rw[<- h2,<- h1]
 rw[kG];simp only[if_true,dC,dx];congr 2;clear Hu Hv na aj h Es Ax
 induction os with
 | nil=>rfl
 | cons o os ih =>
  simp only[List.all_cons,dN] at kG;obtain⟨p,rfl⟩:=Option.isSome_iff_exists.mp kG.1;simp only[List.filterMap_cons,id,List.map_cons];rw[ih kG.2];rfl
theorem ahI (s:c6)(i0:qv s)(q:aqc)(h:q.length<=1048576)(aj:∀r∈q,wM r):
 (∃xs:List (Int×Int),(∀p∈xs,Fr p)/\q=xs.map mk/\q.length=s.bN.length/\oX s=some true/\xI s q=some true/\Db s q=some (xs.map r7,true))\/(xI s q=some false/\Db s q=some ([],false)):=by
 obtain⟨o,bX,aK⟩:=Nb s i0;unfold xI Db;simp only[fj];rw[bX,aK];by_cases aR:q.length=s.bN.length
 ·cases o with
  | false =>
   refine .inr ⟨rfl,?_⟩;simp[aR]
  | true =>
   rcases agX q h aj with ⟨xs,x1,x2,an,fZ⟩|⟨an,fZ⟩
   ·refine .inl ⟨xs,x1,x2,aR,rfl,?_,?_⟩
    ·simp[aR,an]
    simp[aR,fZ]
   refine .inr ⟨?_,?_⟩
   ·simp[aR,an]
   simp[aR,fZ]
 refine .inr ⟨?_,?_⟩
 ·cases o<;>simp[aR]<;>omega
 have:((q.length:Int) != (s.bN.length:Int))=true:=by simp;omega
 rw[dw this]
noncomputable def QE (x:Int×Int)(E8:Int):Option (Int×Int):=vK (vK (some x) (some x)) (some (E8,1))
theorem tw {p:Int×Int}(h:Fr p):xn (some p):=fun q a1=>by rw[<- dJ a1];exact h
theorem We {n d:Int}(aU:0<=n): ∀p,low n d=some p->0<=p.1:=by
 intro p ah;unfold low at ah;split at ah
 ·rw[<- dJ ah];exact Int.ediv_nonneg aU (by omega)
 simp at ah
theorem akj {x:Int×Int}(U:Fr x){E8:Int}(h0:0<=E8)(h1:E8<=1000000): ∀p,QE x E8=some p->Fr p/\0<=p.1:=by
 intro p ah;have bM:Fr (E8,1):=KZ (lJ.2 (by omega));have uP:=KJ (tw U) (tw U);refine⟨KJ uP (tw bM) p ah,?_⟩;unfold QE at ah;rw[GI] at ah
 cases aR:low (x.1*x.1) (x.2*x.2) with
 | none=>rw[aR] at ah;simp[vK] at ah
 | some q =>
  rw[aR,GI] at ah
  have J:=We (n:=x.1*x.1) (d:=x.2*x.2) (by rcases Int.le_total 0 x.1 with h|h
                                           ·exact Int.mul_nonneg h h
                                           exact Int.mul_nonneg_of_nonpos_of_nonpos h h) q aR
  exact We (Int.mul_nonneg J h0) p ah
def Zq (s:c6)(q:aqc)(xs:List (Int×Int))(k:Nat)(o:Option (Int×Int)):Prop :=
 (∀p,o=some p->Fr p/\0<=p.1)/\C2 s q k=some (enc o,o.isSome)/\BI s (xs.map r7) k=some (o4 o)
theorem sq_nonneg (x:Int):0<=x*x:=by
 rcases Int.le_total 0 x with h|h
 ·exact Int.mul_nonneg h h
 exact Int.mul_nonneg_of_nonpos_of_nonpos h h
theorem Y2 {x:Int}(h0:-100<=x)(h1:x<=100):x*x<=10000:=by
 have h2:=Int.mul_nonneg (show 0<=100+x by omega) (show 0<=100-x by omega);have e:(100+x)*(100-x)=10000-x*x:=by grind
 omega
theorem VF {n k:Nat}(a2:k<n)(aU:n<=1000000):oI (k:Int) 0 (R ((n:Int)-1))=some true:=by rw[vu,cG (by omega) (by omega)];simp;omega
theorem ahJ (s:c6)(i0:qv s)(q:aqc)(xs:List (Int×Int))(U:∀p∈xs,Fr p)(a1:q=xs.map mk)(aR:q.length=s.bN.length)(mb:oX s=some true)(iT:xI s q=some true)(k:Nat)(a2:k<s.bN.length): ∃o,Zq s q xs k o:=by
 obtain⟨-,-,-,aah⟩:=FF s i0 mb;obtain⟨x,y,v1,v2,v3,v4⟩:=ahH s i0 mb k (by omega) (by omega);have LF:xs.length=s.bN.length:=by rw[<- aR,a1];simp
 have QF:=dz (show k<xs.length by omega);have mK:=U _ (dH QF);have s1:=sq_nonneg x;have s2:=sq_nonneg y;have yE:=Y2 v3.1 v3.2;have aaP:=Y2 v4.1 v4.2;have hw:R (R (x*x)+R (y*y))=x*x+y*y:=by rw[cG (x:=x*x) (by omega) (by omega),cG (x:=y*y) (by omega) (by omega),cG (by omega) (by omega)]
 have lZ:nR (x*x+y*y):=lJ.2 (by omega);have bM:Fr (x*x+y*y,1):=KZ lZ;have uP:=KJ (tw mK) (tw mK);refine⟨QE xs[k] (x*x+y*y),akj mK (by omega) (by omega),?_,?_⟩
 ·have bh:F3 s k=some (x,y):=by
   unfold F3;rw[mb];simp only[dC,dx,if_true,fj];rw[VF a2 (by omega)];simp only[dx,if_true];rw[v2];rfl
  have Qg:F4 s k=some (x*x+y*y):=(by unfold F4;rw[bh];simp only[dC,dx];rw[hw]);have amU:q[k]? = some (enc (some xs[k])):=(by rw[a1,dK,QF];rfl);unfold C2;rw[iT];simp only[dC,dx,if_true,fj];rw[VF a2 (by omega)];simp only[dx,if_true];rw[dw (by omega),dy,amU];simp only[dx];rw[WM (tw mK) (tw mK)];simp only[dx];rw[Qg];simp only[dx];rw[NF lZ];simp only[dx];have e1:mk (x*x+y*y,1)=enc (some (x*x+y*y,1)):=rfl;rw[e1,WM uP (tw bM)];simp only[dx];rw[O7 (KJ uP (tw bM))];rfl
 have amV:(xs.map r7)[k]? = some (o4 (some xs[k])):=by rw[dK,QF];rfl
 unfold BI;rw[v1];simp only[dC,dx];rw[dw (by simp;omega),dy,amV];simp only[dx];rw[XW (tw mK) (tw mK)];simp only[dx];rw[hw,Ox lZ];simp only[dx];have e1:some (l3 (x*x+y*y,1))=o4 (some (x*x+y*y,1)):=rfl;rw[e1,XW uP (tw bM)];rfl
theorem aiN {os:List (Option (Int×Int))}(h:os.all Option.isSome=true):os=(os.filterMap id).map some:=by
 induction os with
 | nil=>rfl
 | cons o os ih =>
  simp only[List.all_cons,dN] at h;obtain⟨p,rfl⟩:=Option.isSome_iff_exists.mp h.1;simp only[List.filterMap_cons,id,List.map_cons];rw[<- ih h.2]
theorem afU (s:c6)(i0:qv s)(q:aqc)(h:q.length<=1048576)(aj:∀r∈q,wM r):
 (∃bw:List (Int×Int),(∀p∈bw,Fr p/\0<=p.1)/\bw.length=s.bN.length/\s.bN.length<=8/\oX s=some true/\xE s q=some (bw.map mk,true)/\zc s q=some (bw.map r7,true))\/(xE s q=some ([],false)/\zc s q=some ([],false)):=by
 rcases ahI s i0 q h aj with ⟨xs,U,a1,aR,mb,iT,PI⟩|⟨iT,PI⟩;rotate_left
 ·refine .inr ⟨?_,?_⟩
  ·unfold xE;rw[iT];rfl
  unfold zc;rw[PI];rfl
 obtain⟨-,-,-,aah⟩:=FF s i0 mb;obtain⟨os,bX,aK⟩:=WD (P:=Zq s q xs) s.bN.length (fun k a2=>ahJ s i0 q xs U a1 aR mb iT k a2);have LF:xs.length=s.bN.length:=by rw[<- aR,a1];simp
 have Hu:iter (fun w:Int×aqc=>B7 q s.bN.length s.cv s.bN w.1 w.2) (0,[])=some (if os.all Option.isSome then .inl (os.map enc) else .inr ()):=aiw os Option.isSome enc (fun n o row ap ev=>by
  have aU:=f6 ap;obtain⟨-,h2,-⟩:=aK n o ap;have H8:C2 (⟨s.cv,s.bN⟩:c6) q n=some (enc o,o.isSome):=h2;unfold B7;rw[dw (by simp;omega),H8];simp only[dC,dx];rw[i1 (by omega)];cases o.isSome
  ·rfl
  rw[dw rfl,dw (by simp;omega),dw rfl]) (fun row=>by rw[bX];simp[B7])
 have Hv:iter (fun w:Int×aqk=>BL s.cv s.bN (xs.map r7) xs.length w.1 w.2) (0,List.replicate xs.length (none:aqd))=some (if os.all Option.isSome then .inl (os.map o4) else .inr ()):=WC os Option.isSome o4 _ (by simp;omega) (fun n o row ap ev=>by have aU:=f6 ap;obtain⟨-,-,J⟩:=aK n o ap;have P3:BI (⟨s.cv,s.bN⟩:c6) (xs.map r7) n=some (o4 o):=J;unfold BL;rw[dw (by simp;omega),P3];simp only[dC,dx];rw[dw (by omega),dy,dG,dw (by omega),apT,dw rfl,dw (by omega)];simp only[dx];rw[i1 (by omega)];cases o<;>rfl) (fun row=>by rw[bX,<- LF];simp[BL]);unfold xE Ti zc SJ;rw[iT,PI];simp only[dC,dx,if_true,fj,ap4,dy];have a0:0<=(xs.length:Int)/\(8:Int)*(xs.length:Int)<=281474976710656/\(xs.length:Int)<9223372036854775808:=by omega
 rw[Hu,Hv,dw a0];by_cases kG:os.all Option.isSome=true;rotate_left
 ·simp only[Bool.not_eq_true] at kG;refine .inr ⟨by rw[kG];rfl,by rw[kG];rfl⟩
 have qM:=aiN kG;refine .inl ⟨os.filterMap id,?_,?_,aah,mb,?_,?_⟩
 ·intro p ah;obtain⟨o,ap,qd⟩:=List.mem_filterMap.mp ah;obtain⟨n,aU⟩:=List.mem_iff_getElem?.mp ap;exact(aK n _ aU).1 p qd
 ·rw[<- bX]
  conv=>rhs;rw[qM]
  simp
 ·rw[kG,dw rfl]
  simp only[dx];congr 2
  conv=>lhs;rw[qM]
  rw[List.map_map];rfl
 rw[kG,dw rfl];simp only[dx];congr 2
 conv=>lhs;rw[qM]
 rw[List.map_map];rfl
theorem agm (s:c6)(mb:oX s=some true)(l:ar)(aR:l.length<=maxLen): ∃r,Dh s l=some r/\FN s l=some r/\(r=true->l.length=s.bN.length/\ ∀(n:Nat) x,l[n]? = some x->0<=x/\x<=1000):=by
 have hm:=xP;unfold Dh FN;simp only[mb,dC,dx,if_true];obtain⟨q,a1,nu⟩:=ad4 l aR
 have QB:T7 l (len_ eI l) 0=some (Sum.map id (fun _=>()) q) :=
  Xb (f:=fun w=>ti l (len_ eI l) w) (Sum.map id fun _=>()) (fun _=>True) (fun _ _ _ _=>trivial) (fun i _=>afh l i) 0 q a1 trivial
 simp only[Jg,Jj,a1,QB,dC,dx];by_cases e:len_ eI l=len_ ca s.bN;rotate_left
 ·exact⟨false,by simp[e],by simp[e],by simp⟩
 simp only[e,bne_self_eq_false,beq_self_eq_true,apS,if_false,if_true]
 cases q with
 | inl b =>
  refine⟨true,rfl,by simp,fun _=>⟨by rw[fj,fj] at e;omega,?_⟩⟩
  obtain⟨r,r1,r2⟩:=j5 (f:=fun w=>ti l (len_ eI l) w) (fun i=>0<=i/\i<=l.length/\ ∀(n:Nat) x,(n:Int)<i->l[n]? = some x->0<=x/\x<=1000) (fun i=>(l.length-i).toNat)
   (fun r=>r = .inl ()-> ∀(n:Nat) x,l[n]? = some x->0<=x/\x<=1000) (fun i aa=>by
   obtain⟨h0,h1,J⟩:=aa;by_cases h2:i<(l.length:Int)
   ·have hw:R (i+1)=i+1:=cG (by omega) (by omega)
    obtain⟨x,U⟩ : ∃x,l[i.toNat]? = some x:=⟨_,dz (by omega)⟩;unfold ti CY;simp only[fj,h2,h0,hw,U,N0,decide_true,if_true,and_self,dC,dx];by_cases c:0<=x/\x<=1000
    ·refine .inl ⟨i+1,by simp[c],⟨by omega,by omega,fun n y aU aV=> ?_⟩,by omega⟩
     by_cases d:(n:Int)<i
     ·exact J n y d aV
     have:n=i.toNat:=(by omega);subst this;rw[U] at aV;rw[<- dJ aV];exact c
    exact .inr ⟨.inr i,by simp[c],by simp⟩
   refine .inr ⟨.inl (),by simp[ti,fj,h2],fun _ n x U=>J n x (by have:=f6 U;omega) U⟩) 0 ⟨by omega,by omega,fun n x aU=>by omega⟩
  have A2:Mn l (len_ eI l) 0=some r:=r1;rw[a1] at A2;exact r2 (dJ A2).symm
 | inr k =>
  have:=nu k rfl;exact⟨false,rfl,by simp[this],by simp⟩
theorem ahK {bw:List (Int×Int)}{w:ar}(aV:∀p∈bw,Fr p/\0<=p.1)(hw:w.length=bw.length)(xm:∀(n:Nat) x,w[n]? = some x->0<=x/\x<=1000)(bb:bw.length<=8)(n:Nat)(row:ar)(y:Int×Int)(ev:row.length<=n)(aU:bw[n]? = some y):
 ∃b:Bool,yR w (bw.map mk) bw.length n row=some (.inl (((n+1:Nat):Int),if b then row++[(n:Int)] else row))/\vd w (bw.map r7) bw.length n row=some (.inl (((n+1:Nat):Int),if b then row++[(n:Int)] else row)):=by
 have eN:=f6 aU;have U:=dz (show n<w.length by omega);obtain⟨og,iP⟩:=xm n _ U;obtain⟨mK,-⟩:=aV y (dH aU);have s1:=sq_nonneg w[n];have s2:w[n]*w[n]<=1000000:=by have:=Int.mul_le_mul iP iP og (by omega);omega
 have lZ:nR (w[n]*w[n]):=lJ.2 (by omega);have bM:Fr (w[n]*w[n],1):=KZ lZ;have aai:R (w[n]*w[n])=w[n]*w[n]:=cG (by omega) (by omega);refine⟨decide (0<lP (y.1*1) (w[n]*w[n]*y.2)),?_,?_⟩
 ·unfold yR
  rw[dw (by simp;omega),dw (by simp;omega),dy,dK,aU];simp only[dC,dx,apR];rw[dw (by omega),U];simp only[dx];rw[aai,NF lZ];simp only[dx];rw[WN mK bM,i1 (by omega)];simp only[dx];by_cases c:0<lP (y.1*1) (w[n]*w[n]*y.2)
  ·rw[dw (by simpa using c),dw (by simp;omega),dw (by simpa using c)]
  rw[dA (by simpa using c),dA (by simpa using c)]
 unfold vd;rw[dw (by simp;omega),dw (by simp;omega),dy,dK,aU];simp only[dC,dx,apR];rw[dw (by omega),U];simp only[dx];rw[aai,Ox lZ];simp only[dx,r7];rw[afR mK.pos bM.pos mK.num mK.den bM.num bM.den (by omega) (by omega) (by omega) (by omega),i1 (by omega)];simp only[dx];by_cases c:0<lP (y.1*1) (w[n]*w[n]*y.2)
 ·rw[dw (by simpa using c),dw (by simp;omega),dw (by simpa using c)]
 rw[dA (by simpa using c),dA (by simpa using c)]
theorem aeZ {bw:List (Int×Int)}{w:ar}(aV:∀p∈bw,Fr p/\0<=p.1)(hw:w.length=bw.length)(xm:∀(n:Nat) x,w[n]? = some x->0<=x/\x<=1000)(bb:bw.length<=8):
 ∃r,Mv w (bw.map mk) bw.length 0 []=some r/\Tn w (bw.map r7) bw.length 0 []=some r:=by
 have key : ∃r,Mv w (bw.map mk) bw.length 0 []=some r/\(∀a,iter (fun v:Int×ar=>vd w (bw.map r7) bw.length v.1 v.2) (0,[])=a->a=some r):=by
  have h:=j5 (f:=fun v:Int×ar=>(yR w (bw.map mk) bw.length v.1 v.2)) (fp:=fun v=>(∃n:Nat,v.1=n/\n<=bw.length/\v.2.length<=n)/\iter (fun v:Int×ar=>vd w (bw.map r7) bw.length v.1 v.2) (0,[])=iter (fun v:Int×ar=>vd w (bw.map r7) bw.length v.1 v.2) v) (m:=fun v=>bw.length-v.1.toNat)
   (fun r=>iter (fun v:Int×ar=>vd w (bw.map r7) bw.length v.1 v.2) (0,[])=some r) (by
     rintro⟨i,row⟩ ⟨⟨n,e1,e2,bG⟩,cM⟩;simp only at e1 bG;subst e1;by_cases aU:n=bw.length
     ·subst aU;refine .inr ⟨row,by simp[yR],?_⟩;rw[cM,iter];simp[vd]
     obtain⟨b,iW,jM⟩:=ahK aV hw xm bb n row _ bG (dz (show n<bw.length by omega));refine .inl ⟨_,iW,⟨⟨n+1,rfl,by omega,?_⟩,?_⟩,by simp;omega⟩
     ·cases b<;>simp<;>omega
     rw[cM,iter];simp only;rw[jM];rfl) (0,[]) ⟨⟨0,rfl,by omega,by simp⟩,rfl⟩
  obtain⟨r,r1,r2⟩:=h;exact⟨r,r1,fun a bF=>by rw[<- bF];exact r2⟩
 obtain⟨r,r1,r2⟩:=key;exact⟨r,r1,r2 _ rfl⟩
theorem afx (s:c6)(i0:qv s)(q:aqc)(h:q.length<=1048576)(aj:∀r∈q,wM r)(w:ar)(LZ:w.length<=maxLen): ∃r,F5 s q w=some r/\Gb s q w=some r:=by
 unfold F5 Gb JD;rcases afU s i0 q h aj with ⟨bw,gb,eL,lH,jU,kr,q5⟩|⟨kr,q5⟩
 ·rw[kr,q5]
  simp only[dC,dx,if_true];obtain⟨l,ko,lq,yM⟩:=agm s jU w LZ;rw[ko,lq]
  cases l with
  | false=>exact⟨false,rfl,rfl⟩
  | true =>
   obtain⟨lr,anD⟩:=yM rfl;obtain⟨r,r1,r2⟩:=aeZ gb (by omega) anD (by omega);unfold Jr;rw[kr];simp only[dC,dx,if_true,ko,fj,ap4];rw[r1,r2];exact⟨_,rfl,rfl⟩
 rw[kr,q5];exact⟨false,rfl,rfl⟩
def wa (l:ar)(n:Nat)(x:Int):Prop:=0<=x/\x<1000000000/\(∀z,l[n]? = some z->x=z)/\(l[n]? = none->x=0)
theorem Ar {l:ar}(h:c2 l){n:Nat}(aU:n<l.length):wa l n l[n]:=by have U:=dz aU;have h0:=h.get U;exact⟨h0.1,h0.2,fun z cB=>by rw[U] at cB;exact dJ cB,fun h=>by rw[U] at h;simp at h⟩
theorem D8 {l:ar}{n:Nat}(aU:¬n<l.length):wa l n 0:=by
 have U:l[n]? = none:=by simp;omega
 exact⟨by omega,by omega,fun z cB=>by rw[U] at cB;simp at cB,fun _=>rfl⟩
theorem wa.take {l:ar}{n:Nat}{x:Int}(h:wa l n x):V (l.take (n+1))=V (l.take n)+B n*x:=Xh h.2.2.1 h.2.2.2
theorem aiO {a b row:ar}{carry:Int}{n:Nat}(bF:c2 a)(a3:c2 b)(a0:carry=0\/carry=1)(uS:a.length<=1000000)(QG:b.length<=1000000)(aj:row.length<=1000001)(LC:n<=1000001)(aU:n<a.length\/n<b.length\/carry=1):
 ∃x y,wa a n x/\wa b n y/\y5 a b carry n row=some (.inl ((carry+x+y) / 1000000000,((n+1:Nat):Int),row++[(carry+x+y) % 1000000000])):=by
 have oN:0<=carry/\carry<=1:=by omega
 unfold y5;simp only[g9];by_cases h1:n<a.length
 ·have hA:=Ar bF h1
  have U:=dz h1;rw[dw (by simp;omega),dw (by omega),dy,U];simp only[dC,dx];by_cases h2:n<b.length
  ·have gN:=Ar a3 h2;have aV:=dz h2;have gh:=hA.1;have gi:=hA.2.1;have iW:=gN.1;have jM:=gN.2.1;refine⟨a[n],b[n],hA,gN,?_⟩;rw[dw (by simp;omega),dw (by omega),aV];simp only[dx];rw[cG (x:=carry+a[n]) (by omega) (by omega),cG (x:=carry+a[n]+b[n]) (by omega) (by omega),td (by omega),pq (by omega),cG (by omega) (by omega),p6 (n:=n) (by omega),dw (by simp;omega)]
  have gh:=hA.1;have gi:=hA.2.1;refine⟨a[n],0,hA,D8 h2,?_⟩;rw[dA (by simp;omega),cG (x:=carry+a[n]) (by omega) (by omega),td (by omega),pq (by omega),cG (by omega) (by omega),p6 (n:=n) (by omega),dw (by simp;omega),Int.add_zero]
 rw[dA (by simp;omega)];by_cases h2:n<b.length
 ·have gN:=Ar a3 h2;have aV:=dz h2;have iW:=gN.1;have jM:=gN.2.1;refine⟨0,b[n],D8 h1,gN,?_⟩;rw[dw (by simp;omega),dw (by omega),dy,aV];simp only[dC,dx];rw[cG (x:=carry+b[n]) (by omega) (by omega),td (by omega),pq (by omega),cG (by omega) (by omega),p6 (n:=n) (by omega),dw (by simp;omega),Int.add_zero]
 refine⟨0,0,D8 h1,D8 h2,?_⟩;rw[dA (by simp;omega),dw (by simp;omega),td (by omega),pq (by omega),cG (by omega) (by omega),p6 (n:=n) (by omega),dw (by simp;omega),Int.add_zero,Int.add_zero]
theorem aiP {a b:ar}(bF:c2 a)(a3:c2 b)(uS:a.length<=900000)(QG:b.length<=900000): ∃r,Dt a b=some r/\c2 r/\V r=V a+V b/\r.length<=a.length+b.length+1:=by
 obtain⟨r,aj,h1,h2,J⟩:=j5 (f:=fun w:Int×Int×ar=>y5 a b w.1 w.2.1 w.2.2) (fp:=fun w=> ∃n:Nat,w.2.1=n/\w.2.2.length=n/\(w.1=0\/w.1=1)/\c2 w.2.2/\V w.2.2+w.1*B n=V (a.take n)+V (b.take n)/\(n<=a.length\/n<=b.length\/w.1=0)/\n<=a.length+b.length+1) (m:=fun w=>(a.length+b.length+2-w.2.1.toNat))
  (fun r=>c2 r/\V r=V a+V b/\r.length<=a.length+b.length+1) (by
    rintro⟨carry,ii,row⟩ ⟨n,e1,e2,bG,cM,db,eJ,eU⟩;simp only at e1 e2 bG cM db eJ;subst e1;by_cases aU:n<a.length\/n<b.length\/carry=1
    ·obtain⟨x,y,U,aV,pF⟩:=aiO (row:=row) bF a3 bG (by omega) (by omega) (by omega) (by omega) aU
     have x0:=U.1;have x1:=U.2.1;have aaU:=aV.1;have gb:=aV.2.1;have II:n<=a.length+b.length:=(by omega);refine .inl ⟨_,pF,⟨n+1,rfl,by simp[e2],by simp only;omega,cM.append (c2.cons (by omega) c2.nil),?_,?_,by omega⟩,by simp only;omega⟩
     ·simp only;rw[zM,e2,oq,nq,Eh,U.take,aV.take];have:=Int.mul_ediv_add_emod (carry+x+y) 1000000000;generalize (carry+x+y) / 1000000000=u at *;generalize (carry+x+y) % 1000000000=t at *;have cl:t=carry+x+y-1000000000*u:=(by omega);rw[cl];grind
     simp only;by_cases h:n+1<=a.length\/n+1<=b.length
     ·omega
     ·
      have apv : ¬n<a.length:=(by omega);have apw : ¬n<b.length:=(by omega);have jL:x=0:=U.2.2.2 (by simp;omega);have kM:y=0:=aV.2.2.2 (by simp;omega);omega
    refine .inr ⟨row,?_,cM,?_,by omega⟩
    ·unfold y5;simp only[g9];rw[dA (by simp;omega),dA (by simp;omega),dA (by simp;omega)]
    have a0:carry=0:=(by omega);rw[a0,apW (by omega),apW (by omega)] at db;omega) (0,0,[]) ⟨0,rfl,rfl,.inl rfl,c2.nil,by simp[V],by omega,by omega⟩
 unfold Dt UH;rw[aj];exact⟨r,rfl,h1,h2,J⟩
theorem ahL {neg:Bool}{r:ar}(aj:c2 r)(aR:r.length<=5000000)(rJ:V r<B 60):jN neg r=some (gK (e9 neg (V r))):=by
 have h0:=m4 aj;have:jN neg r=jN neg (L (V r)):=by unfold jN Dr;have hlen:=(ij h0).2 rJ;rw[vn aj aR,vn (h9 _) (by omega),eA h0]
 rw[this,ty h0 rJ]
theorem ahM {a b row:ar}{carry:Int}{n:Nat}(bF:c2 a)(a3:c2 b)(a0:carry=0\/carry=1)(uS:a.length<=1000000)(aU:n<a.length)(aj:n<row.length):
 ∃x y,wa a n x/\wa b n y/\CW a b a.length carry n row=some (.inl ((carry+x+y) / 1000000000,((n+1:Nat):Int),row.set n ((carry+x+y) % 1000000000))):=by
 have oN:0<=carry/\carry<=1:=by omega
 have hA:=Ar bF aU;have U:=dz aU;have gh:=hA.1;have gi:=hA.2.1;unfold CW;simp only[g9];rw[dw (by simp;omega),dw (by omega),dy,U];simp only[dC,dx];by_cases h2:n<b.length
 ·have gN:=Ar a3 h2;have aV:=dz h2;have iW:=gN.1;have jM:=gN.2.1;refine⟨a[n],b[n],hA,gN,?_⟩;rw[dw (by simp;omega),dw (by omega),aV];simp only[dx];rw[dw (by omega),dw (by omega),cG (x:=a[n]+carry) (by omega) (by omega),cG (x:=a[n]+carry+b[n]) (by omega) (by omega),td (by omega),pq (by omega),cG (by omega) (by omega),p6 (n:=n) (by omega),dG,Int.add_comm a[n] carry]
 refine⟨a[n],0,hA,D8 h2,?_⟩;rw[dA (by simp;omega),dw (by omega),dw (by omega),cG (x:=a[n]+carry) (by omega) (by omega),td (by omega),pq (by omega),cG (by omega) (by omega),p6 (n:=n) (by omega),dG,Int.add_zero,Int.add_comm a[n] carry]
theorem ahN {a b:ar}(bF:c2 a)(a3:c2 b)(uS:a.length<=900000)(yu:b.length<=a.length):
 ∃r,JR a b a.length 0 0 (List.replicate (a.length+1) 0)=some r/\(r.1=0\/r.1=1)/\c2 r.2/\r.2.length=a.length+1/\V r.2+r.1*B a.length=V a+V b/\r.2[a.length]? = some 0:=by
 refine j5 (fp:=fun w:Int×Int×ar=> ∃n:Nat,w.2.1=n/\n<=a.length/\(w.1=0\/w.1=1)/\c2 w.2.2/\w.2.2.length=a.length+1/\V w.2.2+w.1*B n=V (a.take n)+V (b.take n)/\ ∀j,n<=j->j<a.length+1->w.2.2[j]? = some 0) (m:=fun w=>a.length-w.2.1.toNat) _ ?_ _ ⟨0,rfl,by omega,.inl rfl,c2.Qd _,by simp,by simp[V,Ph],fun j _ h=>by simp[List.getElem?_replicate];omega⟩;rintro⟨carry,ii,row⟩ ⟨n,e1,e2,bG,cM,db,eJ,eU⟩;simp only at e1 bG cM db eJ eU ⊢;subst e1;by_cases aU:n=a.length
 ·subst aU;refine .inr ⟨(carry,row),by simp[CW],bG,cM,db,?_,eU _ (dD _) (by omega)⟩;rw[List.take_length,apW yu] at eJ;exact eJ
 obtain⟨x,y,U,aV,pF⟩:=ahM (row:=row) (n:=n) bF a3 bG (by omega) (by omega) (by omega);have x0:=U.1;have x1:=U.2.1;have aaU:=aV.1;have gb:=aV.2.1;refine .inl ⟨_,pF,⟨n+1,rfl,by omega,by simp only;omega,cM.set (by omega),by simpa using db,?_,fun j h1 h2=> ?_⟩,by simp only;omega⟩
 ·simp only;rw[vE (eU n (dD _) (by omega)),oq,U.take,aV.take];have:=Int.mul_ediv_add_emod (carry+x+y) 1000000000;generalize (carry+x+y) / 1000000000=u at *;generalize (carry+x+y) % 1000000000=t at *;have cl:t=carry+x+y-1000000000*u:=(by omega);rw[cl];grind
 simp only;rw[List.getElem?_set_ne (by omega)];exact eU j (by omega) h2
theorem WO {a b:ar}(bF:c2 a)(a3:c2 b)(uS:a.length<=900000)(yu:b.length<=a.length):
 (if 0<=(R ((len_ eI a)+(1:Int)))/\(8:Int)*(R ((len_ eI a)+(1:Int)))<=281474976710656/\(R ((len_ eI a)+(1:Int)))<9223372036854775808 then
   (JR a b (len_ eI a) 0 0 (List.replicate (R ((len_ eI a)+(1:Int))).toNat 0:ar)).bind fun bc =>
   if 0<=(len_ eI a)/\(len_ eI a)<(bc.2.length:Nat) then
   if (0+(len_ eI a).toNat)<bc.2.length then
   (tt (bc.2.set (0+(len_ eI a).toNat) bc.1)).bind fun bQ=>some bQ
   else none
   else none
   else none)=some (L (V a+V b)):=by
 obtain⟨r,aj,h1,h2,J,ak,ax⟩:=ahN bF a3 uS yu;rw[g9,p6 (by omega),dw (by omega),dy,aj,dx,dw (by omega),dy,dG,dw (by omega)];have HR:c2 (r.2.set a.length r.1):=h2.set (by omega);rw[DX HR (by simp;omega),vE ax,dx];congr 2;rw[<- ak];grind
theorem ajy {a b:ar}(bF:c2 a)(a3:c2 b)(uS:a.length<=900000)(QG:b.length<=900000):DG a b=some (L (V a+V b)):=by
 unfold DG;by_cases h:a.length<b.length
 ·rw[dw (by rw[g9,g9];simpa using h)];have:=WO a3 bF QG (by omega);rw[Int.add_comm (V a)];exact this
 rw[dA (by rw[g9,g9];simpa using h)];exact WO bF a3 uS (by omega)
theorem agY {a b row:ar}{less:Int}{n:Nat}(bF:c2 a)(a3:c2 b)(aR:less=0\/less=1)(uS:a.length<=1000000)(aU:n<a.length)(aj:n<row.length):
 ∃x y,wa a n x/\wa b n y/\CS b a a.length less n row=some (.inl (if x-less-y<0 then (1,((n+1:Nat):Int),row.set n (x-less-y+1000000000)) else (0,((n+1:Nat):Int),row.set n (x-less-y)))):=by
 have oN:0<=less/\less<=1:=by omega
 have hA:=Ar bF aU;have U:=dz aU;have gh:=hA.1;have gi:=hA.2.1;unfold CS;simp only[g9];rw[dw (by simp;omega),dw (by omega),dy,U];simp only[dC,dx];by_cases h2:n<b.length
 ·have gN:=Ar a3 h2
  have aV:=dz h2;have iW:=gN.1;have jM:=gN.2.1;refine⟨a[n],b[n],hA,gN,?_⟩;rw[dw (by simp;omega),dw (by omega),aV];simp only[dx];rw[cG (x:=a[n]-less) (by omega) (by omega),cG (x:=a[n]-less-b[n]) (by omega) (by omega),p6 (n:=n) (by omega),cG (x:=a[n]-less-b[n]+1000000000) (by omega) (by omega),dG];by_cases h:a[n]-less-b[n]<0
  ·rw[dw (by simpa using h),dw h,dw (by omega),dw (by omega)]
  rw[dA (by simpa using h),dA h,dw (by omega),dw (by omega)]
 refine⟨a[n],0,hA,D8 h2,?_⟩;rw[dA (by simp;omega),cG (x:=a[n]-less) (by omega) (by omega),p6 (n:=n) (by omega),cG (x:=a[n]-less+1000000000) (by omega) (by omega),dG,Int.sub_zero];by_cases h:a[n]-less<0
 ·rw[dw (by simpa using h),dw h,dw (by omega),dw (by omega)]
 rw[dA (by simpa using h),dA h,dw (by omega),dw (by omega)]
theorem Xk {a b:ar}(bF:c2 a)(a3:c2 b)(hlen:b.length<=a.length)(yu:V b<=V a)(uS:a.length<=900000):xO a b=some (L (V a-V b)):=by
 have : ∃r,U7 b a a.length 0 0 (List.replicate a.length 0)=some r/\c2 r/\r.length=a.length/\V r=V a-V b:=by
  refine j5 (fp:=fun w:Int×Int×ar=> ∃n:Nat,w.2.1=n/\n<=a.length/\(w.1=0\/w.1=1)/\c2 w.2.2/\w.2.2.length=a.length/\V w.2.2-w.1*B n=V (a.take n)-V (b.take n)/\ ∀j,n<=j->j<a.length->w.2.2[j]? = some 0) (m:=fun w=>a.length-w.2.1.toNat) _ ?_ _ ⟨0,rfl,by omega,.inl rfl,c2.Qd _,by simp,by simp[V,Ph],fun j _ h=>by simp[List.getElem?_replicate];omega⟩;rintro⟨less,ii,row⟩ ⟨n,e1,e2,bG,cM,db,eJ,eU⟩;simp only at e1 bG cM db eJ eU ⊢;subst e1;by_cases aU:n=a.length
  ·subst aU;refine .inr ⟨row,by simp[CS],cM,db,?_⟩;rw[List.take_length,apW hlen] at eJ;have h2:=o2 cM;rw[db] at h2;rcases bG with rfl|rfl<;>omega
  obtain⟨x,y,U,aV,pF⟩:=agY (row:=row) (n:=n) bF a3 bG (by omega) (by omega) (by omega);have x0:=U.1;have x1:=U.2.1;have aaU:=aV.1;have gb:=aV.2.1;rw[pF];refine .inl ⟨_,rfl,?_⟩;by_cases h:x-less-y<0
  ·rw[dw h]
   refine⟨⟨n+1,rfl,by omega,.inr rfl,cM.set (by omega),by simpa using db,?_,fun j h1 h2=> ?_⟩,by simp only;omega⟩
   ·simp only;rw[vE (eU n (dD _) (by omega)),oq,U.take,aV.take];grind
   simp only;rw[List.getElem?_set_ne (by omega)];exact eU j (by omega) h2
  rw[dA h];refine⟨⟨n+1,rfl,by omega,.inl rfl,cM.set (by omega),by simpa using db,?_,fun j h1 h2=> ?_⟩,by simp only;omega⟩
  ·simp only;rw[vE (eU n (dD _) (by omega)),U.take,aV.take];grind
  simp only;rw[List.getElem?_set_ne (by omega)];exact eU j (by omega) h2
 obtain⟨r,aj,h1,h2,J⟩:=this;unfold xO;simp only[g9];rw[dw (by omega),dy,aj];simp only[dC,dx];rw[DX h1 (by omega),J];rfl
theorem YC {a b:Int}(h:decide (a<0)=decide (b<0)):e9 (decide (a<0)) ((a.natAbs:Int)+(b.natAbs:Int))=a+b:=by
 have c1:a<0↔b<0:=by simpa using h
 unfold e9;by_cases h1:a<0
 ·have:=c1.1 h1;simp only[h1,decide_true,if_true];omega
 have : ¬b<0:=fun a3=>h1 (c1.2 a3);simp only[h1,decide_false,apS,if_false];omega
theorem KK {a b:Int}(h:¬decide (a<0)=decide (b<0)):e9 (decide (a<0)) ((a.natAbs:Int)-(b.natAbs:Int))=a+b/\e9 (decide (b<0)) ((b.natAbs:Int)-(a.natAbs:Int))=a+b:=by
 have c1 : ¬(a<0↔b<0):=by simpa using h
 unfold e9;by_cases h1:a<0
 ·have h2 : ¬b<0:=fun a3=>c1 ⟨fun _=>a3,fun _=>h1⟩;simp only[h1,h2,decide_true,if_true,decide_false,apS,if_false];omega
 have h2:b<0:=by apply Classical.byContradiction;intro a3;exact c1 ⟨fun h=>absurd h h1,fun h=>absurd h a3⟩
 simp only[h1,h2,decide_true,if_true,decide_false,apS,if_false];omega
theorem Kp {x y:Int}(U:0<=x)(Qe:x<=y):(L x).length<=(L y).length:=by apply (ij U).2;have:=o2 (h9 y);rw[eA (by omega)] at this;omega
theorem WQ {a b:Int}(bF:(a.natAbs:Int)<B 50)(a3:(b.natAbs:Int)<B 50):tq (gK a) (gK b)=some (gK (a+b)):=by
 have xx:=(ij (k:=50) (n:=a.natAbs) (by omega)).2 bF;have u9:=(ij (k:=50) (n:=b.natAbs) (by omega)).2 a3;have rJ:B 50+B 50<=B 60:=by have h1:B 51<=B 60:=tF (by omega);have h2:=pY 50;rw[oq] at h1;omega
 have bM:tq (gK a) (gK b)=(if (decide (a<0) == decide (b<0))=true then (Dt (L a.natAbs) (L b.natAbs)).bind fun r2=>(jN (decide (a<0)) r2).bind fun aM=>some aM else (tp (L a.natAbs) (L b.natAbs)).bind fun r2=>if (decide ((0:Int)<=r2))=true then (wx (L a.natAbs) (L b.natAbs)).bind fun aW=>(jN (decide (a<0)) aW).bind fun bQ=>some bQ else (wx (L b.natAbs) (L a.natAbs)).bind fun aW=>(jN (decide (b<0)) aW).bind fun bQ=>some bQ):=rfl;rw[bM];by_cases h:decide (a<0)=decide (b<0)
 ·rw[dw (by simpa using h)];obtain⟨r,r1,r2,bc,aM⟩:=aiP (h9 a.natAbs) (h9 b.natAbs) (by omega) (by omega);rw[eA (by omega),eA (by omega)] at bc;rw[r1,dx,ahL r2 (by omega) (by omega),bc,YC h];rfl
 rw[dA (by simpa using h),wL (i6 _) (i6 _) (by omega),eA (by omega),eA (by omega),dx];by_cases a0:(b.natAbs:Int)<=a.natAbs
 ·have A3:0<=lP (a.natAbs:Int) b.natAbs:=by
   apply Int.not_lt.mp;intro h1;have:=xV.1 h1;omega
  rw[dw (by simpa using A3),sub_eq (h9 _) (h9 _) (Kp (by omega) a0) (by rw[eA (by omega),eA (by omega)];exact a0) (by omega),eA (by omega),eA (by omega),dx,ty (by omega) (by omega),(KK h).1];rfl
 have A3 : ¬0<=lP (a.natAbs:Int) b.natAbs:=by have:=xV.2 (show (a.natAbs:Int)<b.natAbs by omega);omega
 rw[dA (by simpa using A3),sub_eq (h9 _) (h9 _) (Kp (by omega) (by omega)) (by rw[eA (by omega),eA (by omega)];omega) (by omega),eA (by omega),eA (by omega),dx,ty (by omega) (by omega),(KK h).2];rfl
theorem Xl {a b:Int}(bF:(a.natAbs:Int)<B 50)(a3:(b.natAbs:Int)<B 50):xD (gK a) (gK b)=some (gK (a+b)):=by
 have xx:=(ij (k:=50) (n:=a.natAbs) (by omega)).2 bF;have u9:=(ij (k:=50) (n:=b.natAbs) (by omega)).2 a3;have bM:xD (gK a) (gK b)=((su (L a.natAbs) (L b.natAbs)).bind fun r1=>if (decide (a<0) == decide (b<0))=true then (DG (L a.natAbs) (L b.natAbs)).bind fun r2=>(nH (decide (a<0)) r2).bind fun aM=>some aM else if (decide ((0:Int)<=r1))=true then (xO (L a.natAbs) (L b.natAbs)).bind fun aW=>(nH (decide (a<0)) aW).bind fun bQ=>some bQ else (xO (L b.natAbs) (L a.natAbs)).bind fun aW=>(nH (decide (b<0)) aW).bind fun bQ=>some bQ):=rfl;rw[bM,J1 (i6 _) (i6 _) (by omega),eA (by omega),eA (by omega),dx];by_cases h:decide (a<0)=decide (b<0)
 ·rw[dw (by simpa using h),ajy (h9 _) (h9 _) (by omega) (by omega),eA (by omega),eA (by omega),dx,tu (by omega),YC h];rfl
 rw[dA (by simpa using h)];by_cases a0:(b.natAbs:Int)<=a.natAbs
 ·have A3:0<=lP (a.natAbs:Int) b.natAbs:=by
   apply Int.not_lt.mp;intro h1;have:=xV.1 h1;omega
  rw[dw (by simpa using A3),Xk (h9 _) (h9 _) (Kp (by omega) a0) (by rw[eA (by omega),eA (by omega)];exact a0) (by omega),eA (by omega),eA (by omega),dx,tu (by omega),(KK h).1];rfl
 have A3 : ¬0<=lP (a.natAbs:Int) b.natAbs:=by have:=xV.2 (show (a.natAbs:Int)<b.natAbs by omega);omega
 rw[dA (by simpa using A3),Xk (h9 _) (h9 _) (Kp (by omega) (by omega)) (by rw[eA (by omega),eA (by omega)];omega) (by omega),eA (by omega),eA (by omega),dx,tu (by omega),(KK h).2];rfl
theorem O8 {b:Int}:e9 (!(decide (b<0))) (b.natAbs:Int) = -b:=by
 unfold e9;by_cases h:b<0
 ·simp only[h,decide_true,Bool.not_true,apS,if_false];omega
 simp only[h,decide_false,Bool.not_false,if_true];omega
theorem ahO {a b:Int}(bF:(a.natAbs:Int)<B 50)(a3:(b.natAbs:Int)<B 50):y9 (gK a) (gK b)=some (gK (a-b)):=by have bM:y9 (gK a) (gK b)=(((nH (!(decide (b<0))) (L b.natAbs)).bind fun r=>some r).bind fun r1=>(xD (gK a) r1).bind fun bc=>some bc):=rfl;rw[bM,tu (by omega),O8,dx,dx,Xl bF (by omega),dx,Int.sub_eq_add_neg]
theorem Fr.neg {q:Int×Int}(h:Fr q):Fr (-q.1,q.2):=⟨h.pos,by simp only;rw[Int.neg_gcd];exact h.QC,by simp only;have:=h.num;omega,h.den⟩
theorem ahP {q:Int×Int}(h:Fr q):uq (mk q)=some (mk (-q.1,q.2)):=by have h1:=h.num;have h2:=h.oL;have J:=O6;have bM:uq (mk q)=((jN (!(decide (q.1<0))) (L q.1.natAbs)).bind fun r1=>if (([]:ar)++L q.2).length*8<=140737488355328 then some (⟨r1,([]:ar)++L q.2⟩:av) else none):=rfl;rw[bM,ty (by omega) (by omega),O8,dx,dw (by simp;omega)];rfl
theorem Kq {p q:Int×Int}(ah:Fr p)(a1:Fr q):((p.1*q.2).natAbs:Int)<B 48/\(L (p.1.natAbs*q.2:Int)).length<=48/\0<=(p.1.natAbs*q.2:Int):=by have aN:=a1.pos;have a7:=tz (x:=p.1.natAbs) (y:=q.2) (by omega) (by omega) ah.num a1.den;have Bh:0<=(p.1.natAbs:Int)*q.2:=Int.mul_nonneg (by omega) (by omega);rw[Hf (by omega)];exact⟨(ij Bh).1 a7,a7,Bh⟩
theorem O9:B 48+B 48<=B 50:=by have h1:B 49<=B 50:=tF (by omega);have h2:=pY 48;rw[oq] at h1;omega
theorem ahQ {p q:Int×Int}(ah:Fr p)(a1:Fr q):sv (mk p) (mk q)=some (enc (low (p.1*q.2+q.1*p.2) (p.2*q.2))):=by
 have h1:=ah.o5;have h2:=ah.oL;have J:=a1.o5;have ak:=a1.oL;have ax:=ah.pos;have aN:=a1.pos;have Zy:=ah.num;have qN:=a1.num;have apx:=ah.den;have apy:=a1.den;have gN:=O9;have aoL:B 24<=B 48:=tF (by omega);have aoM:B 50<=B 60:=tF (by omega);obtain⟨bf,cx,kO⟩:=Kq ah a1;obtain⟨d1,d2,d3⟩:=Kq a1 ah;have Zr:=pY 48;have e1:jH (L p.1.natAbs) (L q.2)=some (L ((p.1.natAbs:Int)*q.2)):=by rw[mul_eq (h9 _) (h9 _) (by omega) (by omega),eA (by omega),eA (by omega)]
 have e2:jH (L q.1.natAbs) (L p.2)=some (L ((q.1.natAbs:Int)*p.2)):=by rw[mul_eq (h9 _) (h9 _) (by omega) (by omega),eA (by omega),eA (by omega)]
 have bG:jN (decide (p.1<0)) (L ((p.1.natAbs:Int)*q.2))=some (gK (p.1*q.2)):=by rw[ty kO (by rw[<- Hf (by omega)];omega),DY]
 have cM:jN (decide (q.1<0)) (L ((q.1.natAbs:Int)*p.2))=some (gK (q.1*p.2)):=by rw[ty d3 (by rw[<- Hf (by omega)];omega),DY]
 have db:tq (gK (p.1*q.2)) (gK (q.1*p.2))=some (gK (p.1*q.2+q.1*p.2)):=WQ (by omega) (by omega);have bb:=tz (x:=p.2) (y:=q.2) (by omega) (by omega) ah.den a1.den;have eJ:jH (L p.2) (L q.2)=some (L (p.2*q.2)):=by rw[mul_eq (h9 _) (h9 _) (by omega) (by omega),eA (by omega),eA (by omega)]
 have Zk:(L (p.1*q.2+q.1*p.2).natAbs).length<=50:=(ij (by omega)).2 (by omega)
 have eU:qw (decide (p.1*q.2+q.1*p.2<0)) (L (p.1*q.2+q.1*p.2).natAbs) (L (p.2*q.2))=some (enc (low (p.1*q.2+q.1*p.2) (p.2*q.2))):=by
  rw[Oc (by omega) (Int.mul_pos ax aN) (by omega) (by omega)]
  have:e9 (decide (p.1*q.2+q.1*p.2<0)) ((p.1*q.2+q.1*p.2).natAbs:Int)=p.1*q.2+q.1*p.2:=by
   have:=DY (a:=p.1*q.2+q.1*p.2) (b:=1)
   rwa [Int.mul_one,Int.mul_one] at this
  rw[this]
 have Zs:((jH (L p.1.natAbs) (L q.2)).bind fun bQ=>(jN (decide (p.1<0)) bQ).bind fun bs=>(jH (L q.1.natAbs) (L p.2)).bind fun bY=>(jN (decide (q.1<0)) bY).bind fun cR=>(tq bs cR).bind fun ee=>(jH (L p.2) (L q.2)).bind fun gF=>(qw ee.cD ee.bP gF).bind fun hz=>some hz)=some (enc (low (p.1*q.2+q.1*p.2) (p.2*q.2))):=by rw[e1,dx,bG,dx,e2,dx,cM,dx,db,dx,eJ,dx];show (qw (decide (p.1*q.2+q.1*p.2<0)) (L (p.1*q.2+q.1*p.2).natAbs) (L (p.2*q.2))).bind _=_;rw[eU,dx]
 have bM:sv (mk p) (mk q)=((uo (L p.2)).bind fun r1=>if r1=true then (uo (L q.2)).bind fun aM=>if aM=true then (tq (gK p.1) (gK q.1)).bind fun bQ=>(qw bQ.cD bQ.bP ([1]:ar)).bind fun bs=>some bs else ((jH (L p.1.natAbs) (L q.2)).bind fun bQ=>(jN (decide (p.1<0)) bQ).bind fun bs=>(jH (L q.1.natAbs) (L p.2)).bind fun bY=>(jN (decide (q.1<0)) bY).bind fun cR=>(tq bs cR).bind fun ee=>(jH (L p.2) (L q.2)).bind fun gF=>(qw ee.cD ee.bP gF).bind fun hz=>some hz) else ((jH (L p.1.natAbs) (L q.2)).bind fun bQ=>(jN (decide (p.1<0)) bQ).bind fun bs=>(jH (L q.1.natAbs) (L p.2)).bind fun bY=>(jN (decide (q.1<0)) bY).bind fun cR=>(tq bs cR).bind fun ee=>(jH (L p.2) (L q.2)).bind fun gF=>(qw ee.cD ee.bP gF).bind fun hz=>some hz)):=rfl;rw[bM,D7 (by omega),dx];by_cases bX:p.2=1
 ·rw[dw (by simpa using bX),D7 (by omega),dx]
  by_cases aK:q.2=1
  ·rw[dw (by simpa using aK),WQ (by omega) (by omega),dx];have gw:p.1*q.2+q.1*p.2=p.1+q.1:=(by rw[bX,aK,Int.mul_one,Int.mul_one]);have aaV:p.2*q.2=1:=(by rw[bX,aK];rfl);rw[gw,aaV,Po] at eU;rw[gw,aaV];show (qw (decide (p.1+q.1<0)) (L (p.1+q.1).natAbs) [1]).bind _=_;rw[eU,dx]
  rw[dA (by simpa using aK)];exact Zs
 rw[dA (by simpa using bX)];exact Zs
def tH (n:Int):Bool:=decide (-100<=n/\n<=100)
def wX (Bl:Nat)(l:ar):Bool:=decide (l.length=2*Bl) && l.all tH
theorem agZ (n:Int):Gl n=some (tH n):=by unfold Gl tH;by_cases h : -100<=n<;>simp[h]
theorem ahR (s:c6)(p:Bool)(ah:oX s=some p)(va:p=true->s.cv.length<=6)(l:ar)(aR:l.length<=maxLen):zt s l=some (p && wX s.cv.length l):=by
 have hm:=xP;unfold zt;simp only[ah,dC,dx,fj]
 cases p with
 | false=>rfl
 | true =>
  have va:=va rfl;have hw:R (2*((s.cv.length:Nat):Int))=2*((s.cv.length:Nat):Int):=cG (by omega) (by omega);rw[hw];unfold wX;by_cases e:l.length=2*s.cv.length;rotate_left
  ·have c:((l.length:Int) != 2*(s.cv.length:Int))=true:=(by simp;omega);simp only[c,if_true];simp[e]
  have h1:UE l (l.length:Nat) 0=some (if l.all tH then .inl () else .inr ()):=by
   refine Km (f:=fun w=>CG l (l.length:Nat) w) l tH (fun n x U=> ?_) ?_
   ·have eN:=f6 U
    unfold CG;have c:(n:Int)<(l.length:Int):=(by omega);have ez:0<=(n:Int)/\(n:Int)<(l.length:Int):=(by omega);simp only[decide_eq_true c,if_true,dw ez,dy,U,dC,dx,vu];rw[i1 (by omega)];unfold tH;by_cases q : -100<=x/\x<=100
    ·simp[q]
    rw[decide_eq_false q];simp
   simp[CG]
  have c:((l.length:Int) != 2*(s.cv.length:Int))=false:=(by simp;omega);simp only[c,h1,apS,if_false,if_true,dx];cases l.all tH<;>simp[e]
theorem agn (s:c6)(va:s.cv.length<=6)(l:ar)(aR:l.length<=maxLen):F7 s l=some (wX s.cv.length l):=by
 have hm:=xP;have hw:R (2*((s.cv.length:Nat):Int))=2*((s.cv.length:Nat):Int):=cG (by omega) (by omega);unfold F7 Jh Jk wX;simp only[fj,hw,dC];obtain⟨r,h1,h2⟩:=WB (f:=fun w=>Bq l (l.length:Nat) w) l (fun n=> !tH n) (fun n x U=>by have eN:=f6 U;unfold Bq JB;have c:(n:Int)<(l.length:Int):=(by omega);have ez:0<=(n:Int)/\(n:Int)<(l.length:Int):=(by omega);simp only[decide_eq_true c,if_true,dw ez,dy,U,dC,dx,agZ];rw[i1 (by omega)];cases tH x<;>rfl) (by simp[Bq]);have tS:Rl l (l.length:Nat) 0=some r:=h1;rw[tS];have alG:(l.any fun n=> !tH n) = !l.all tH:=by rw[List.not_all_eq_any_not]
 rw[alG] at h2;by_cases e:l.length=2*s.cv.length
 ·have c:((l.length:Int) == 2*(s.cv.length:Int))=true:=by simp;omega
  rw[c];rcases h2 with ⟨k,rfl,a2,bF⟩|⟨rfl,bF⟩
  ·simp only[Bool.not_eq_true'] at bF;simp[e,bF,a2]
  simp only[Bool.not_eq_false'] at bF;simp[e,bF]
 have c:((l.length:Int) == 2*(s.cv.length:Int))=false:=by simp;omega
 rw[c];simp[e]
theorem oV {i:Int}{a:Nat}(h0:0<=i)(h1:i<=100)(bF:a<=1):R (R (2*i)+(a:Int))=(((2*i+a).toNat:Nat):Int):=by rw[cG (x:=2*i) (by omega) (by omega),cG (by omega) (by omega)];omega
theorem VG (l:ar)(h:l.length<=1048576):De l=some l:=by
 have a3 : ∀(n:Nat) x (row:ar),l[n]? = some x->row.length=l.length->yY l n row=some (.inl (((n+1:Nat):Int),row.set n x)):=by intro n x row U aj;obtain⟨aU,rfl⟩:=apX.1 U;have hw:R ((n:Int)+1)=((n+1:Nat):Int):=(by rw[cG (by omega) (by omega)];rfl);simp only[yY,fj,hw];simp[aU,aj]
 have he : ∀row:ar,yY l l.length row=some (.inr row):=by intro row;simp[yY,fj]
 have h1:TU l 0 (List.replicate (len_ eI l).toNat 0)=some l :=
  N7 l (List.replicate (len_ eI l).toNat 0) (by simp[fj]) a3 he
 unfold De;rw[h1,dw (by rw[fj];omega)];simp[fj]
theorem afy (l:aqm)(h:l.length<=1048576):FI l=some l:=by
 have a3 : ∀(n:Nat) x (row:aqm),l[n]? = some x->row.length=l.length->yV l n row=some (.inl (((n+1:Nat):Int),row.set n x)):=by intro n x row U aj;obtain⟨aU,rfl⟩:=apX.1 U;have hw:R ((n:Int)+1)=((n+1:Nat):Int):=(by rw[cG (by omega) (by omega)];rfl);simp only[yV,fj,hw,JP];simp[aU,aj]
 have he : ∀row:aqm,yV l l.length row=some (.inr row):=by intro row;simp[yV,fj]
 have h1:SZ l 0 (List.replicate (len_ b3 l).toNat (⟨ByteArray.empty,0,0,false⟩:cS))=some l :=
  N7 l _ (by simp[fj]) a3 he
 unfold FI;rw[h1,dw (by rw[fj];omega)];simp[fj]
theorem afi (l:aqn)(h:l.length<=1048576):FH l=some l:=by
 have a3 : ∀(n:Nat) x (row:aqn),l[n]? = some x->row.length=l.length->yU l n row=some (.inl (((n+1:Nat):Int),row.set n x)):=by intro n x row U aj;obtain⟨aU,rfl⟩:=apX.1 U;have hw:R ((n:Int)+1)=((n+1:Nat):Int):=(by rw[cG (by omega) (by omega)];rfl);simp only[yU,fj,hw,JJ];simp[aU,aj]
 have he : ∀row:aqn,yU l l.length row=some (.inr row):=by intro row;simp[yU,fj]
 have h1:SO l 0 (List.replicate (len_ ca l).toNat (⟨0,0,0⟩:dg))=some l :=
  N7 l _ (by simp[fj]) a3 he
 unfold FH;rw[h1,dw (by rw[fj];omega)];simp[fj]
theorem aeD (s:c6)(h1:s.cv.length<=1048576)(h2:s.bN.length<=1048576):Fx s=some (s.cv,s.bN):=by simp[Fx,afy _ h1,afi _ h2]
def nW (P:aql):bB->Prop
 | none=>True
 | some (k,c)=> ∃x,P[k]? = some x/\x.length=c/\c<=1048576
theorem nW.IP {P:aql}{h:bB}(gQ:nW P h):qR P h=true:=by
 cases h with
 | none=>rfl
 | some p =>
  obtain⟨k,c⟩:=p;obtain⟨x,h1,h2,-⟩:=gQ;have a2:=f6 h1;have bD:P.getD k []=x:=(by rw[dO,h1];rfl);simp only[qR,bD,dN,decide_eq_true_eq];omega
theorem nW.aB {P:aql}(Q:aql){h:bB}(gQ:nW P h):nW (P++Q) h/\iM (P++Q) h=iM P h:=by
 cases h with
 | none=>exact⟨trivial,rfl⟩
 | some p =>
  obtain⟨k,c⟩:=p;obtain⟨x,h1,h2,J⟩:=gQ;have a2:=f6 h1;have e:(P++Q)[k]? = some x:=(by rw[apY a2];exact h1);refine⟨⟨x,e,h2,J⟩,?_⟩;simp only[iM,dO,e,h1]
theorem nW.new {P Q:aql}{x:ar}{n:Nat}(U:Q[n]? = some x)(aR:x.length<=1048576):nW (P++Q) (some (P.length+n,x.length))/\iM (P++Q) (some (P.length+n,x.length))=x:=by
 have e:(P++Q)[P.length+n]? = some x:=by rw[ap0 (by omega),show P.length+n-P.length=n by omega];exact U
 refine⟨⟨x,e,rfl,aR⟩,?_⟩;simp only[iM,dO,e,Option.getD_some,List.take_length]
theorem nW.set {P:aql}{k:Nat}{x y:ar}(U:P[k]? = some x)(aV:y.length=x.length){h:bB}(gQ:nW P h):nW (P.set k y) h:=by
 cases h with
 | none=>trivial
 | some p =>
  obtain⟨j,c⟩:=p;obtain⟨z,h1,h2,J⟩:=gQ;by_cases ay:k=j
  ·subst ay;rw[U] at h1;obtain rfl:=dJ h1;exact⟨y,by rw[apT,dw rfl,dw (f6 U)],by omega,J⟩
  exact⟨z,by rw[apT,dA ay];exact h1,h2,J⟩
def E1 (P:aql)(x:en):Prop:=nW P x.cJ.bP/\nW P x.dl
theorem E1.IP {P:aql}{x:en}(h:E1 P x):vv P x=true:=by simp only[vv,h.1.IP,h.2.IP,Bool.and_self]
theorem Y3 (x:Int):(vI [x]).size=1:=rfl
theorem afz {k:Int}(h:k<=1000000000000000000): ∃r,Ge k=some r:=by
 unfold Ge;by_cases c:k<=0
 ·exact⟨_,by rw[dw (by simpa using c)]⟩
 rw[dA (by simpa using c)]
 obtain⟨r,r1,r2⟩:=j5 (f:=fun w:Int×ByteArray=>Cl w.1 w.2) (fp:=fun w=>0<=w.1/\(w.2.size:Int)+w.1<=1000000000000000000) (m:=fun w=>w.1.toNat)
  (fun r=>(r.size:Int)<=1000000000000000000) (by
    rintro⟨a,o⟩ ⟨h1,h2⟩;simp only at h1 h2;by_cases bF:0<a
    ·have bD:a.tdiv 10=a / 10:=by rw[Int.tdiv_eq_ediv_of_nonneg h1]
     refine .inl ⟨(a / 10,vI [IntKind.wrap .u8 (R ((48:Int)+(a.tmod (10:Int))))]++o),?_,⟨by simp only;omega,?_⟩,by simp only;omega⟩
     ·unfold Cl;simp only;rw[dw (by simpa using bF),Y3,dw (by omega),bD,cG (by omega) (by omega)]
     simp only[ByteArray.size_append,Y3];omega
    exact .inr ⟨o,by simp[Cl,bF],by omega⟩) (k,⟨#[]⟩) ⟨by simp only;omega,by
    have:(⟨#[]⟩:ByteArray).size=0:=rfl;simp only[this];omega⟩
 unfold Uf;rw[r1];refine⟨_,by simp only[dC,dx];rw[dw ?_];have:(⟨#[109]⟩:ByteArray).size=1:=rfl;rw[this];omega⟩
theorem ad5 {k:Int}{l:aqm}(h0:0<=k)(h:k+4*l.length<=1000000000000000000):
 ∃ea gL,FE k l=some (ea,gL)/\gL.length=l.length/\0<=ea/\ea<=k+4*l.length:=by
 obtain⟨r,r1,r2⟩:=j5 (f:=fun w:Int×Int×aqm=>yT w.1 w.2.1 w.2.2)
  (fp:=fun w=> ∃n:Nat,w.2.1=n/\n<=l.length/\w.2.2.length=l.length/\0<=w.1/\w.1<=k+4*n)
  (m:=fun w=>l.length-w.2.1.toNat) (fun r=>r.2.length=l.length/\0<=r.1/\r.1<=k+4*l.length) (by
    rintro⟨a,i,row⟩ ⟨n,e1,e2,bG,cM,db⟩;simp only at e1 bG cM db;subst e1;by_cases aU:n=l.length
    ·subst aU;refine .inr ⟨(a,row),by simp[yT,bG],bG,cM,db⟩
    have se:n<row.length:=(by omega);obtain⟨t,cl⟩:=afz (k:=a) (by omega);have hw:R ((n:Int)+1)=((n+1:Nat):Int):=(by rw[cG (by omega) (by omega)];rfl);have iP:R (a+1)=a+1:=cG (by omega) (by omega);have oV:R (a+1+1)=a+1+1:=cG (by omega) (by omega);have rP:R (a+1+1+1)=a+1+1+1:=cG (by omega) (by omega);have aaR:R (a+1+1+1+1)=a+1+1+1+1:=cG (by omega) (by omega);have key : ∃eM,yT a n row=some (.inl (a+1+1+1+1,((n+1:Nat):Int),eM))/\eM.length=row.length:=(by unfold yT;rw[dw (by simpa using se),cl,iP,oV,rP,aaR,hw];simp only[dC,dx,dG,dy];rw[dw (by omega),dz se];simp only[dx,List.getElem?_set_self se,List.length_set,List.getElem?_set_self (show n<(row.set n _).length by simpa using se),List.set_set];exact⟨_,rfl,by simp⟩);obtain⟨eM,h1,h2⟩:=key;refine .inl ⟨_,h1,⟨n+1,rfl,by omega,by simp only;omega,by simp only;omega,by simp only;omega⟩,by simp;omega⟩) (k,0,l) ⟨0,rfl,by omega,rfl,h0,by simp⟩
 obtain⟨ea,gL⟩:=r;exact⟨ea,gL,by unfold FE SL;rw[r1];rfl,r2⟩
theorem adY {k:Int}{l:aqn}(h0:0<=k)(h:k+3*l.length<=1000000000000000000):
 ∃ea gL,FB k l=some (ea,gL)/\gL.length=l.length/\0<=ea/\ea<=k+3*l.length:=by
 obtain⟨r,r1,r2⟩:=j5 (f:=fun w:Int×Int×aqn=>yS w.1 w.2.1 w.2.2)
  (fp:=fun w=> ∃n:Nat,w.2.1=n/\n<=l.length/\w.2.2.length=l.length/\0<=w.1/\w.1<=k+3*n)
  (m:=fun w=>l.length-w.2.1.toNat) (fun r=>r.2.length=l.length/\0<=r.1/\r.1<=k+3*l.length) (by
    rintro⟨a,i,row⟩ ⟨n,e1,e2,bG,cM,db⟩;simp only at e1 bG cM db;subst e1;by_cases aU:n=l.length
    ·subst aU;refine .inr ⟨(a,row),by simp[yS,bG],bG,cM,db⟩
    have se:n<row.length:=(by omega);have hw:R ((n:Int)+1)=((n+1:Nat):Int):=(by rw[cG (by omega) (by omega)];rfl);have iP:R (a+1)=a+1:=cG (by omega) (by omega);have oV:R (a+1+1)=a+1+1:=cG (by omega) (by omega);have rP:R (a+1+1+1)=a+1+1+1:=cG (by omega) (by omega);have key : ∃eM,yS a n row=some (.inl (a+1+1+1,((n+1:Nat):Int),eM))/\eM.length=row.length:=(by unfold yS;rw[dw (by simpa using se),iP,oV,rP,hw];simp only[dG,dy];rw[dw (by omega),dz se];simp only[dC,dx,List.getElem?_set_self se,List.length_set,List.getElem?_set_self (show n<(row.set n _).length by simpa using se),List.set_set];exact⟨_,rfl,by simp⟩);obtain⟨eM,h1,h2⟩:=key;refine .inl ⟨_,h1,⟨n+1,rfl,by omega,by simp only;omega,by simp only;omega,by simp only;omega⟩,by simp;omega⟩) (k,0,l) ⟨0,rfl,by omega,rfl,h0,by simp⟩
 obtain⟨ea,gL⟩:=r;exact⟨ea,gL,by unfold FB Sr;rw[r1];rfl,r2⟩
theorem adw {k:Int}{l:aqm}{m:aqn}(h0:0<=k)(h:k+4*l.length+3*m.length<=1000000000000000000):
 ∃ea gL aH,CE k l m=some (ea,gL,aH)/\gL.length=l.length/\aH.length=m.length/\0<=ea/\ea<=k+4*l.length+3*m.length:=by
 obtain⟨kN,gL,e1,e2,bG,cM⟩:=ad5 (l:=l) h0 (by omega);obtain⟨j3,aH,f1,f2,f3,f4⟩:=adY (k:=kN) (l:=m) bG (by omega);refine⟨j3,gL,aH,?_,e2,f2,f3,by omega⟩;unfold CE;rw[e1];simp only[dC,dx];rw[f1]
 first
  | rfl
  | (rw[dw e2.symm];simp only[dx];rw[dw f2.symm])
def marks (k:Int)(n:Nat):ar:=(List.range n).map fun i:Nat=>k+(i:Int)
theorem zG (k:Int)(n:Nat):(marks k n).length=n:=by simp[marks]
theorem ahS {k:Int}{n i:Nat}(h:i<n):(marks k n)[i]? = some (k+i):=by unfold marks;rw[dK,List.getElem?_range h];rfl
theorem Wf {k:Int}{l:ar}{i:Nat}(h:i<l.length):(marks k i++l.drop i).set i (k+i)=marks k (i+1)++l.drop (i+1):=by unfold marks;rw[List.range_succ,List.map_append,List.set_append_right _ _ (by simp)];rw[show i-(List.map (fun i:Nat=>k+(i:Int)) (List.range i)).length=0 by simp,List.drop_eq_getElem_cons h,List.set_cons_zero];simp
theorem afA {k:Int}{l:ar}(h0:0<=k)(h:k+l.length<=1000000000000000000):xF k 0 l.length l=some (k+l.length,marks k l.length):=by
 have:=Kl (f:=fun w:Int×Int×ar=>B8 0 l.length w.1 w.2.1 w.2.2) (s:=fun n=>(k+(n:Int),(n:Int),marks k n++l.drop n)) (r:=(k+(l.length:Int),marks k l.length)) l.length 0 (fun i _ aa=> ?_) ?_
 ·unfold xF Tp;have e:(k+((0:Nat):Int),((0:Nat):Int),marks k 0++l.drop 0)=(k,0,l):=(by simp[marks]);rw[e] at this;rw[this];rfl
 ·have kH:i<l.length:=(by omega);unfold B8;simp only;rw[dw (by simpa using kH),dw (by omega),dG,dy,dw (by simp[zG];omega),Wf kH,cG (by omega) (by omega),cG (by omega) (by omega)];simp only[Int.natCast_add,Int.add_assoc];rfl
 simp[B8]
theorem U0 {k:Int}{l:ar}(h0:0<=k)(h:k+l.length<=1000000000000000000):vf k l=some (k+l.length,marks k l.length):=by
 have:=Kl (f:=fun w:Int×Int×ar=>BT w.1 w.2.1 w.2.2) (s:=fun n=>(k+(n:Int),(n:Int),marks k n++l.drop n)) (r:=(k+(l.length:Int),marks k l.length)) l.length 0 (fun i _ aa=> ?_) ?_
 ·unfold vf SX;have e:(k+((0:Nat):Int),((0:Nat):Int),marks k 0++l.drop 0)=(k,0,l):=(by simp[marks]);rw[e] at this;rw[this];rfl
 ·have kH:i<l.length:=(by omega);have aR:(marks k i++l.drop i).length=l.length:=(by simp[zG];omega);unfold BT;simp only[aR];rw[dw (by simpa using kH),dw (by omega),dG,dy,dw (by omega),Wf kH,cG (by omega) (by omega),cG (by omega) (by omega)];simp only[Int.natCast_add,Int.add_assoc];rfl
 simp[BT,zG]
theorem afV (k:Int):xH [] k=some k:=by
 have h:M8 [] k=some ():=by unfold M8;rw[iter];simp[Js,fj]
 simp[xH,h]
theorem U1 {k:Int}{n:Nat}(h0:0<=k)(h:k+n<=1000000000000000000):Di (marks k n) k=some (k+n):=by
 have:=Kl (f:=fun w:Int×Int=>Cm (marks k n) w.1 w.2) (s:=fun i=>(k+(i:Int),(i:Int))) (r:= .inl (k+(n:Int))) n 0 (fun i _ aa=> ?_) ?_
 ·unfold Di Ug;have e:(k+((0:Nat):Int),((0:Nat):Int))=(k,0):=(by simp);rw[e] at this;rw[this];rfl
 ·have kH:i<n:=(by omega);unfold Cm;simp only[fj,zG];rw[dw (by simpa using kH),dw (by omega),dy,ahS kH,cG (by omega) (by omega),cG (by omega) (by omega)];simp[Int.add_assoc]
 simp[Cm,fj,zG]
theorem XY {l:ar}(h:l.length<=1048576):zF l=some (if l=[] then .inl () else .inr l):=by
 unfold zF;rw[dw (by omega)]
 cases l with
 | nil=>rfl
 | cons x l=>rfl
end Go.Proofs.YthgbjflfgmahbaeGreat
