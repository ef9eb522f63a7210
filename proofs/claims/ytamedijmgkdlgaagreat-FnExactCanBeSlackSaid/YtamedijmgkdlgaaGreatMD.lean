/- Lemmas, plain functions of the program, and what they answer. No condition. -/
import Derived.Test.YtamedijmgkdlgaaGreatMC
namespace Go.Proofs.YtamedijmgkdlgaaGreat
set_option linter.unusedVariables false
set_option linter.unusedSimpArgs false
open Go Go.VL
def Fe (fA:List bB)(e5:List bM)(cN:List Int)(iB:List eu)(af:Int)(gH:List Int)(eW:List (List Int))(gr fg bH dI:Int)(ai aE:List Int):(Int×(List Int))→S:=fun (gu,ay)=>dm [(0,.dW 2 [[.isl 4 (fA.map bI),.isl 3 (e5.map bQ)]] 0 0),(1,.isl 1 (cN.map eI)),(8,.ref 0 0 0 0),(10,.isl 2 (iB.map gl)),(11,.ref 1 0 0 0),(12,.n .i64 af),(13,.isl 1 (gH.map eI)),(46,.isl 1 (eW.map (en 1 eI))),(47,.n .i64 gr),(48,.n .i64 af),(53,.isl 2 (iB.map gl)),(54,.n .i64 fg),(55,.n .i64 gu)] [[ad.mk 5 [[.n .i64 (0:Int),.n .i64 (0:Int),.ek,.ek,.ek]] .live],[ad.mk 5 [(yB bH dI 2 0 0 ay.length 3 0 0 ai.length 4 0 0 aE.length)] .live],(ae 1 eI ay),(ae 1 eI ai),(ae 1 eI aE)]
def Fj (fA:List bB)(e5:List bM)(cN:List Int)(iB:List eu)(af:Int)(gH:List Int)(eW:List (List Int))(gr fg bH dI:Int)(ai aE:List Int):(List Int)→dp
 | a=>⟨some 2,[(0,.dW 2 [[.isl 4 (fA.map bI),.isl 3 (e5.map bQ)]] 0 0),(1,.isl 1 (cN.map eI)),(8,.ref 0 0 0 0),(10,.isl 2 (iB.map gl)),(11,.ref 1 0 0 0),(46,.isl 1 (eW.map (en 1 eI))),(47,.n .i64 gr),(48,.n .i64 af)],[[ad.mk 5 [[.n .i64 (0:Int),.n .i64 (0:Int),.ek,.ek,.ek]] .live],[ad.mk 5 [(yB bH dI 2 0 0 a.length 3 0 0 ai.length 4 0 0 aE.length)] .live],(ae 1 eI a),(ae 1 eI ai),(ae 1 eI aE)]⟩
def vH (fA:List bB)(e5:List bM)(cN:List Int)(iB:List eu)(af:Int)(gH:List Int)(eW:List (List Int))(gr fg bH dI:Int)(ai aE:List Int)(gu:Int)(ay:List Int):Option ((Int×(List Int))⊕((List Int))) :=
 if (decide (gu<fg))=true then
  if 0≤gu∧gu<iB.length then
  iB[gu.toNat]? >>= fun aC =>
  if 0≤aC.mD∧aC.mD<gH.length then
  gH[aC.mD.toNat]? >>= fun cq =>
  if 0≤(R ((R (af*dI))+gu))∧(R ((R (af*dI))+gu))<(ay.length:Nat) then
  if (0+(R ((R (af*dI))+gu)).toNat)<ay.length then
  some (.inl (R (gu+(1:Int)),ay.set (0+(R ((R (af*dI))+gu)).toNat) (R (aC.p5*cq))))
  else none
  else none
  else none
  else none
 else
  some (.inr ay)
def Fw (fA:List bB)(e5:List bM)(cN:List Int)(iB:List eu)(af:Int)(gH:List Int)(eW:List (List Int))(gr fg bH dI:Int)(ai aE:List Int)(gu:Int)(ay:List Int):Option ((List Int)):=iter (fun w:Int×(List Int)=>vH fA e5 cN iB af gH eW gr fg bH dI ai aE w.1 w.2) (gu,ay)
theorem SX {fA:List bB}{e5:List bM}{cN:List Int}{iB:List eu}{af:Int}{gH:List Int}{eW:List (List Int)}{gr fg bH dI:Int}{ai aE:List Int}{gu:Int}{ay:List Int}:bw (vH fA e5 cN iB af gH eW gr fg bH dI ai aE gu ay) (dO a6 113 0 40 [1,1,1,1,0,1,0,0,1,1,0,0,1,1,0,0] (Fe fA e5 cN iB af gH eW gr fg bH dI ai aE (gu,ay)) (Fe fA e5 cN iB af gH eW gr fg bH dI ai aE) (Fj fA e5 cN iB af gH eW gr fg bH dI ai aE)):=by
 unfold vH
 exact .ite (fun h1 =>
  .aX fun h2 =>
  .ar fun aC au =>
  .aX fun aA =>
  .ar fun cq a7 =>
  .aX fun bi =>
  .aX fun cg =>
  .ret (let q1:=R ((R (af*dI))+gu);let q2:=R (aC.p5*cq);bf [(I 1),.U true,.aw (bp 2 (.b2 (gl aC)) 3),.aw (ag 14 (ak (.b2 (eI cq)) (ag 2 (ak .fM [])))),(I 2),.aL [0,1,2,3,4] [.box [.id,.id,.id,.id,.id],.box [.id,.id,.len ((ay.set (0+q1.toNat) q2).length),.id,.id],.cy (ae 1 eI (ay.set (0+q1.toNat) q2)),.pure,.pure] (a8 [0,1,8,10,11,12,13,46,47,48,53,54,55])] (.bg h1 h2.1 (cP gl h2.2) (bT gl au) aA.1 (cP eI aA.2) (bT eI a7) bi.1 (.gM bi.2 (hB eI cg) (hx 1) (hS (dH ay) (0+q1.toNat) q2) (cZ 1 .live (gF (cW eI ay) (0+q1.toNat) q2)) (aI 1 .live aO (ay.set (0+q1.toNat) q2)) (aI 1 .live aO ai) (aI 1 .live aO aE)))))
  (fun h1 =>
  .ret (bf [(I 1),.U false,.aL [0,1,2,3,4] [.box [.id,.id,.id,.id,.id],.box [.id,.id,.id,.id,.id],.pure,.pure,.pure] (a8 [0,1,8,10,11,46,47,48])] (.c7 h1 (aI 1 .live aO ay) (aI 1 .live aO ai) (aI 1 .live aO aE))))
theorem Tb {fA:List bB}{e5:List bM}{cN:List Int}{iB:List eu}{af:Int}{gH:List Int}{eW:List (List Int)}{gr fg bH dI:Int}{ai aE:List Int}{gu:Int}{ay:List Int}{r} (h:Fw fA e5 cN iB af gH eW gr fg bH dI ai aE gu ay=some r):dP a6 113 0 40 [1,1,1,1,0,1,0,0,1,1,0,0,1,1,0,0] (Fe fA e5 cN iB af gH eW gr fg bH dI ai aE) (Fj fA e5 cN iB af gH eW gr fg bH dI ai aE) (gu,ay) r:=dQ (fun _=>SX) h
def Ff (fA:List bB)(e5:List bM)(cN:List Int)(iB:List eu)(eW:List (List Int))(gr bH dI:Int)(ai aE:List Int):(Int×(List Int))→S:=fun (nw,ay)=>dm [(0,.dW 2 [[.isl 4 (fA.map bI),.isl 3 (e5.map bQ)]] 0 0),(1,.isl 1 (cN.map eI)),(8,.ref 0 0 0 0),(10,.isl 2 (iB.map gl)),(11,.ref 1 0 0 0),(46,.isl 1 (eW.map (en 1 eI))),(47,.n .i64 gr),(48,.n .i64 nw)] [[ad.mk 5 [[.n .i64 (0:Int),.n .i64 (0:Int),.ek,.ek,.ek]] .live],[ad.mk 5 [(yB bH dI 2 0 0 ay.length 3 0 0 ai.length 4 0 0 aE.length)] .live],(ae 1 eI ay),(ae 1 eI ai),(ae 1 eI aE)]
def Fk (fA:List bB)(e5:List bM)(cN:List Int)(iB:List eu)(eW:List (List Int))(gr bH dI:Int)(ai aE:List Int):(List Int)→dp
 | a=>⟨some 0,[(0,.dW 2 [[.isl 4 (fA.map bI),.isl 3 (e5.map bQ)]] 0 0),(1,.isl 1 (cN.map eI)),(8,.ref 0 0 0 0),(11,.ref 1 0 0 0)],[[ad.mk 5 [[.n .i64 (0:Int),.n .i64 (0:Int),.ek,.ek,.ek]] .live],[ad.mk 5 [(yB bH dI 2 0 0 a.length 3 0 0 ai.length 4 0 0 aE.length)] .live],(ae 1 eI a),(ae 1 eI ai),(ae 1 eI aE)]⟩
def vI (fA:List bB)(e5:List bM)(cN:List Int)(iB:List eu)(eW:List (List Int))(gr bH dI:Int)(ai aE:List Int)(nw:Int)(ay:List Int):Option ((Int×(List Int))⊕((List Int))) :=
 if (decide (nw<gr))=true then
  if 0≤nw∧nw<eW.length then
  eW[nw.toNat]? >>= fun aC =>
  Fw fA e5 cN iB nw aC eW gr (len_ gl iB) bH dI ai aE 0 ay >>= fun aZ =>
  some (.inl (R (nw+(1:Int)),aZ))
  else none
 else
  some (.inr ay)
def Fx (fA:List bB)(e5:List bM)(cN:List Int)(iB:List eu)(eW:List (List Int))(gr bH dI:Int)(ai aE:List Int)(nw:Int)(ay:List Int):Option ((List Int)):=iter (fun w:Int×(List Int)=>vI fA e5 cN iB eW gr bH dI ai aE w.1 w.2) (nw,ay)
theorem SY {fA:List bB}{e5:List bM}{cN:List Int}{iB:List eu}{eW:List (List Int)}{gr bH dI:Int}{ai aE:List Int}{nw:Int}{ay:List Int}:bw (vI fA e5 cN iB eW gr bH dI ai aE nw ay) (dO a6 113 0 40 [1,1,1,1,0,1,0,0] (Ff fA e5 cN iB eW gr bH dI ai aE (nw,ay)) (Ff fA e5 cN iB eW gr bH dI ai aE) (Fk fA e5 cN iB eW gr bH dI ai aE)):=by
 unfold vI
 exact .ite (fun h1 =>
  .aX fun h2 =>
  .ar fun aC au =>
  .ar fun aZ aW =>
  .ret (bf [(I 1),.U true,.aw (bp 2 (.b2 ((en 1 eI) aC)) 2),(I 3),.aL [0,1,2,3,4] [.box [.id,.id,.id,.id,.id],.box [.id,.id,.id,.id,.id],.pure,.pure,.pure] (a8 [0,1,8,10,11,12,13,46,47,48,53,54,55]),(Fj fA e5 cN iB nw aC eW gr (len_ gl iB) bH dI ai aE aZ).e8,(I 2),.aL [0,1,2,3,4] [.box [.id,.id,.id,.id,.id],.box [.id,.id,.id,.id,.id],.pure,.pure,.pure] (a8 [0,1,8,10,11,46,47,48])] (.bg h1 h2.1 (cP (en 1 eI) h2.2) (bT (en 1 eI) au) (aI 1 .live aO ay) (aI 1 .live aO ai) (aI 1 .live aO aE) (Tb aW) (.bR (aI 1 .live aO aZ) (aI 1 .live aO ai) (aI 1 .live aO aE)))))
  (fun h1 =>
  .ret (bf [(I 1),.U false,.aL [0,1,2,3,4] [.box [.id,.id,.id,.id,.id],.box [.id,.id,.id,.id,.id],.pure,.pure,.pure] (a8 [0,1,8,11])] (.c7 h1 (aI 1 .live aO ay) (aI 1 .live aO ai) (aI 1 .live aO aE))))
theorem Tc {fA:List bB}{e5:List bM}{cN:List Int}{iB:List eu}{eW:List (List Int)}{gr bH dI:Int}{ai aE:List Int}{nw:Int}{ay:List Int}{r} (h:Fx fA e5 cN iB eW gr bH dI ai aE nw ay=some r):dP a6 113 0 40 [1,1,1,1,0,1,0,0] (Ff fA e5 cN iB eW gr bH dI ai aE) (Fk fA e5 cN iB eW gr bH dI ai aE) (nw,ay) r:=dQ (fun _=>SY) h
def Fg (cN n5:List Int)(oF bH dI:Int)(ay aE:List Int):(Int×(List Int))→S:=fun (kQ,ai)=>dm [(1,.isl 1 (cN.map eI)),(8,.ref 0 0 0 0),(11,.ref 1 0 0 0),(80,.isl 1 (n5.map eI)),(81,.n .i64 oF),(82,.n .i64 kQ)] [[ad.mk 5 [[.n .i64 (0:Int),.n .i64 (0:Int),.ek,.ek,.ek]] .live],[ad.mk 5 [(yB bH dI 2 0 0 ay.length 3 0 0 ai.length 4 0 0 aE.length)] .live],(ae 1 eI ay),(ae 1 eI ai),(ae 1 eI aE)]
def Fl (cN n5:List Int)(oF bH dI:Int)(ay aE:List Int):(List Int)→dp
 | a=>⟨some 4,[(8,.ref 0 0 0 0),(11,.ref 1 0 0 0)],[[ad.mk 5 [[.n .i64 (0:Int),.n .i64 (0:Int),.ek,.ek,.ek]] .live],[ad.mk 5 [(yB bH dI 2 0 0 ay.length 3 0 0 a.length 4 0 0 aE.length)] .live],(ae 1 eI ay),(ae 1 eI a),(ae 1 eI aE)]⟩
def vJ (cN n5:List Int)(oF bH dI:Int)(ay aE:List Int)(kQ:Int)(ai:List Int):Option ((Int×(List Int))⊕((List Int))) :=
 if (decide (kQ<oF))=true then
  if 0≤kQ∧kQ<n5.length then
  n5[kQ.toNat]? >>= fun aC =>
  if 0≤(R ((2:Int)*aC))∧(R ((2:Int)*aC))<cN.length then
  cN[(R ((2:Int)*aC)).toNat]? >>= fun cq =>
  if 0≤(R ((R ((2:Int)*aC))+(1:Int)))∧(R ((R ((2:Int)*aC))+(1:Int)))<cN.length then
  cN[(R ((R ((2:Int)*aC))+(1:Int))).toNat]? >>= fun ee =>
  if 0≤(R ((2:Int)*kQ))∧(R ((2:Int)*kQ))<(ai.length:Nat) then
  if (0+(R ((2:Int)*kQ)).toNat)<ai.length then
  if 0≤(R ((R ((2:Int)*kQ))+(1:Int)))∧(R ((R ((2:Int)*kQ))+(1:Int)))<(ai.length:Nat) then
  if (0+(R ((R ((2:Int)*kQ))+(1:Int))).toNat)<(ai.set (0+(R ((2:Int)*kQ)).toNat) (R (0-cq))).length then
  some (.inl (R (kQ+(1:Int)),(ai.set (0+(R ((2:Int)*kQ)).toNat) (R (0-cq))).set (0+(R ((R ((2:Int)*kQ))+(1:Int))).toNat) (R (0-ee))))
  else none
  else none
  else none
  else none
  else none
  else none
  else none
 else
  some (.inr ai)
def Fy (cN n5:List Int)(oF bH dI:Int)(ay aE:List Int)(kQ:Int)(ai:List Int):Option ((List Int)):=iter (fun w:Int×(List Int)=>vJ cN n5 oF bH dI ay aE w.1 w.2) (kQ,ai)
theorem SZ {cN n5:List Int}{oF bH dI:Int}{ay aE:List Int}{kQ:Int}{ai:List Int}:bw (vJ cN n5 oF bH dI ay aE kQ ai) (dO a6 113 0 40 [1,1,1,1,1,0,1,0,0] (Fg cN n5 oF bH dI ay aE (kQ,ai)) (Fg cN n5 oF bH dI ay aE) (Fl cN n5 oF bH dI ay aE)):=by
 unfold vJ
 exact .ite (fun h1 =>
  .aX fun h2 =>
  .ar fun aC au =>
  .aX fun aA =>
  .ar fun cq a7 =>
  .aX fun bi =>
  .ar fun ee cO =>
  .aX fun eH =>
  .aX fun eX =>
  .aX fun ev =>
  .aX fun ew =>
  .ret (let q1:=(R ((2:Int)*kQ));let q2:=(R (q1+(1:Int)));let bL:=R (0-cq);let bZ:=R (0-ee);bf [(I 1),.U true,.aw (bp 2 (.b2 (eI aC)) 2),.aw (ag 13 (ak (.b2 (eI cq)) (ag 6 (ak (.b2 (eI ee)) (ag 2 (ak .fM (ag 1 (ak .fM [])))))))),(I 2),.aL [0,1,2,3,4] [.box [.id,.id,.id,.id,.id],.box [.id,.id,.id,.len (((ai.set (0+q1.toNat) bL).set (0+q2.toNat) bZ).length),.id],.pure,.cy (ae 1 eI ((ai.set (0+q1.toNat) bL).set (0+q2.toNat) bZ)),.pure] (a8 [1,8,11,80,81,82])] (.bg h1 h2.1 (cP eI h2.2) (bT eI au) aA.1 (cP eI aA.2) (bT eI a7) bi.1 (.bg (cP eI bi.2) (bT eI cO) eH.1 eH.2 (hB eI eX) (hx 1) ev.1 ev.2 (.eF (abn (gF (cW eI ai) (0+q1.toNat) bL) ew) (hx 1) (hS (hS (dH ai) (0+q1.toNat) bL) (0+q2.toNat) bZ) (aI 1 .live aO ay) (cZ 1 .live (gF (gF (cW eI ai) (0+q1.toNat) bL) (0+q2.toNat) bZ)) (aI 1 .live aO ((ai.set (0+q1.toNat) bL).set (0+q2.toNat) bZ)) (aI 1 .live aO aE))))))
  (fun h1 =>
  .ret (bf [(I 1),.U false,.aL [0,1,2,3,4] [.box [.id,.id,.id,.id,.id],.box [.id,.id,.id,.id,.id],.pure,.pure,.pure] (a8 [8,11])] (.c7 h1 (aI 1 .live aO ay) (aI 1 .live aO ai) (aI 1 .live aO aE))))
theorem Td {cN n5:List Int}{oF bH dI:Int}{ay aE:List Int}{kQ:Int}{ai:List Int}{r} (h:Fy cN n5 oF bH dI ay aE kQ ai=some r):dP a6 113 0 40 [1,1,1,1,1,0,1,0,0] (Fg cN n5 oF bH dI ay aE) (Fl cN n5 oF bH dI ay aE) (kQ,ai) r:=dQ (fun _=>SZ) h
def yY (aF:ct)(cN:List Int)(np nT:Int):Option hn :=
 yZ aF >>= fun r1 =>
 y3 aF >>= fun bc =>
 if 0≤(R ((R ((len_ (en 1 eI) r1)+nT))*(R ((len_ gl bc)+np))))∧(8:Int)*(R ((R ((len_ (en 1 eI) r1)+nT))*(R ((len_ gl bc)+np))))≤281474976710656∧(R ((R ((len_ (en 1 eI) r1)+nT))*(R ((len_ gl bc)+np))))<9223372036854775808 then
 if 0≤(R ((len_ (en 1 eI) r1)+nT))∧(8:Int)*(R ((len_ (en 1 eI) r1)+nT))≤281474976710656∧(R ((len_ (en 1 eI) r1)+nT))<9223372036854775808 then
 if 0≤(R ((len_ gl bc)+np))∧(8:Int)*(R ((len_ gl bc)+np))≤281474976710656∧(R ((len_ gl bc)+np))<9223372036854775808 then
 Fx aF.bY aF.bt cN bc r1 (len_ (en 1 eI) r1) (R ((len_ (en 1 eI) r1)+nT)) (R ((len_ gl bc)+np)) (List.replicate (R ((len_ (en 1 eI) r1)+nT)).toNat 0:List Int) (List.replicate (R ((len_ gl bc)+np)).toNat 0:List Int) 0 (List.replicate (R ((R ((len_ (en 1 eI) r1)+nT))*(R ((len_ gl bc)+np)))).toNat 0:List Int) >>= fun cm =>
 vY aF >>= fun cY =>
 Fy cN cY (len_ eI cY) (R ((len_ (en 1 eI) r1)+nT)) (R ((len_ gl bc)+np)) cm (List.replicate (R ((len_ gl bc)+np)).toNat 0:List Int) 0 (List.replicate (R ((len_ (en 1 eI) r1)+nT)).toNat 0:List Int) >>= fun dR =>
 some (⟨R ((len_ (en 1 eI) r1)+nT),R ((len_ gl bc)+np),cm,dR,(List.replicate (R ((len_ gl bc)+np)).toNat 0:List Int)⟩:hn)
 else none
 else none
 else none
theorem Tt {aF:ct}{cN:List Int}{np nT:Int}:bw (yY aF cN np nT) (fun r=>Con a6 40 [.dW 2 [(gA aF)] 0 0,.isl 1 (cN.map eI),.n .i64 np,.n .i64 nT] [] (.agg (nV r)) []):=by
 unfold yY
 exact .ar fun r1 h2 =>
  .ar fun bc au =>
  .aX fun aA =>
  .aX fun aW =>
  .aX fun a7 =>
  .ar fun cm cg =>
  .ar fun cY eH =>
  .ar fun dR ev =>
  .ret (let q1:=R ((len_ (en 1 eI) r1)+nT);let q2:=R ((len_ gl bc)+np);let bL:=(List.replicate q2.toNat 0:List Int);let bZ:=(List.replicate q1.toNat 0:List Int);let d8:=R (q1*q2);let cH:=(List.replicate d8.toNat 0:List Int);bs [(I 1),.aw (ag 1 (ak (bn 1 (.isl 1 (r1.map (en 1 eI))) false) (bp 1 (bn 1 (.isl 2 (bc.map gl)) false) 2))),(I 11),(I 18),(I 3),.aL [0,16,23,26,29] [.box [.id,.id,.id,.id,.id],.box [.id,.id,.len (cH.length),.len (bZ.length),.len (bL.length)],.cy (ae 1 eI cH),.cy (ae 1 eI bZ),.cy (ae 1 eI bL)] (a8 [0,1,8,10,11,46,47,48]),(Fk aF.bY aF.bt cN bc r1 (len_ (en 1 eI) r1) q1 q2 bZ bL cm).e8,.aw (bp 1 (bn 1 (.isl 1 (cY.map eI)) false) 2),.aL [0,1,2,3,4] [.box [.id,.id,.id,.id,.id],.box [.id,.id,.id,.id,.id],.pure,.pure,.pure] (a8 [1,8,11,80,81,82]),(Fl cN cY (len_ eI cY) q1 q2 cm bL dR).e8,(I 2)] (.bg (Tu r1 h2) (T4 bc au) aA.1 (Int.le_refl d8) aA.2.1 aA.2.2 aW.1 (Int.le_refl q1) (.bg aW.2.1 aW.2.2 a7.1 (Int.le_refl q2) a7.2.1 a7.2.2 (l0 d8.toNat (0:Int)) (l0 q1.toNat (0:Int)) (.bg (l0 q2.toNat (0:Int)) (cZ 1 .live (lF eI d8.toNat 0)) (aI 1 .live aO cH) (cZ 1 .live (lF eI q1.toNat 0)) (aI 1 .live aO bZ) (cZ 1 .live (lF eI q2.toNat 0)) (aI 1 .live aO bL) (Tc cg) (.bg (Mz cY eH) (aI 1 .live aO cm) (aI 1 .live aO bZ) (aI 1 .live aO bL) (Td ev) (fW eI cm) (fv eI cm) (dv aO cm) (.dS (fW eI dR) (fv eI dR) (dv aO dR) (fW eI bL) (fv eI bL) (dv aO bL)))))) (.br (.agg [.id,.id,.eh (cm.map eI),.eh (dR.map eI),.eh (bL.map eI)])))
def Hb:(Int×(List Int))→S:=fun (aV,aa)=>dm [(0,.n .u64 aV),(3,.bj 0 0 0 aa.length)] [(ae 1 eI aa)]
def HI:(List Int)→dp
 | a=>⟨some 0,[(3,.bj 0 0 0 a.length)],[(ae 1 eI a)]⟩
def wE (aV:Int)(aa:List Int):Option ((Int×(List Int))⊕((List Int))) :=
 if (decide ((0:Int)<aV))=true then
  if (aa++([IntKind.wrap .i64 (aV.tmod (1000000000:Int))]:List Int)).length*8≤140737488355328 then
  some (.inl (IntKind.wrap .u64 (aV.tdiv (1000000000:Int)),aa++([IntKind.wrap .i64 (aV.tmod (1000000000:Int))]:List Int)))
  else none
 else
  some (.inr aa)
def IZ (aV:Int)(aa:List Int):Option ((List Int)):=iter (fun w:Int×(List Int)=>wE w.1 w.2) (aV,aa)
theorem Uu {aV:Int}{aa:List Int}:bw (wE aV aa) (dO a6 15 0 88 [1,1,0,0,0] (Hb (aV,aa)) (Hb) (HI)):=by
 unfold wE
 exact .ite (fun h1 =>
  .aX fun h2 =>
  .ret (let q1:=(aa++([(IntKind.wrap .i64 (aV.tmod (1000000000:Int)))]:List Int));bf [(I 2),.U true,.aw (bp 5 (.aH (q1.length)) 1),(I 3),.aL [8] [.cy (ae 1 eI q1)] (a8 [0,3])] (.bg h1 (by decide:(1000000000:Int)≠0) (gN eI (IntKind.wrap .i64 (aV.tmod (1000000000:Int)))) (gX eI aa) (gz eI aa (IntKind.wrap .i64 (aV.tmod (1000000000:Int)))) h2 (by decide:(1000000000:Int)≠0) (cZ 1 .live (hd eI aa (IntKind.wrap .i64 (aV.tmod (1000000000:Int))))) (.e1 (aI 1 .live aO q1)))))
  (fun h1 =>
  .ret (bf [(I 2),.U false,.aL [0] [.pure] (a8 [3])] (.e2 h1 (aI 1 .live aO aa))))
theorem V2 {aV:Int}{aa:List Int}{r} (h:IZ aV aa=some r):dP a6 15 0 88 [1,1,0,0,0] (Hb) (HI) (aV,aa) r:=dQ (fun _=>Uu) h
def ui (aV:Int):Option (List Int) :=
 IZ aV ([]:List Int) >>= fun r1 =>
 some r1
theorem I0 {aV:Int}:bw (ui aV) (fun r=>Con a6 88 [.n .u64 aV] [] (.isl 1 (r.map eI)) []):=by
 unfold ui
 exact .ar fun r1 h2 =>
  .ret (bs [(I 1),(I 1),.s9 3 1,.aL [2] [.cy (ae 1 eI ([]:List Int))] [(0,ii),(3,fY (([]:List Int).length))],(HI r1).e8,(I 2)] (.eF (cZ 1 .live (nn eI)) (aI 1 .live aO ([]:List Int)) (eZ Int) (V2 h2) (fW eI r1) (fv eI r1) (dv aO r1)) (.br (.da (.eh (r1.map eI)))))
def m0 (n3:Bool)(x8:List Int):Option bm :=
 if n3=true then
  some (⟨(decide ((0:Int)<(len_ eI x8))),x8⟩:bm)
 else
  some (⟨false,x8⟩:bm)
theorem sI {n3:Bool}{x8:List Int}:bw (m0 n3 x8) (fun r=>Con a6 87 [.b n3,.isl 1 (x8.map eI)] [] (.agg (aT r)) []):=by
 unfold m0
 exact .ite (fun h1 =>
  .ret (bs [(I 1),.aw (bp 5 (.U true) 3)] (.c7 h1 h1 h1 h1)))
  (fun h1 =>
  .ret (bs [(I 1),.aw (ag 2 (cj 3 (ak (.U false) (ag 3 []))))] (.c7 h1 h1 h1 h1)))
def om (aV:Int):Option bm :=
 if (decide (aV<(0:Int)))=true then
  ui (IntKind.wrap .u64 ((IntKind.wrap .u64 (R (0-(R (aV+(1:Int))))))+(1:Int))) >>= fun r2 =>
  m0 true r2 >>= fun bh =>
  some bh
 else
  ui (IntKind.wrap .u64 aV) >>= fun r2 =>
  m0 false r2 >>= fun bh =>
  some bh
theorem rH {aV:Int}:bw (om aV) (fun r=>Con a6 65 [.n .i64 aV] [] (.agg (aT r)) []):=by
 unfold om
 exact .ite (fun h1 =>
  .ar fun r2 ab =>
  .ar fun bh aA =>
  .ret (bs [(I 1),(I 2),.U true,.aw (ag 5 (ak (bn 1 (.isl 1 (r2.map eI)) false) (ak (bn 2 (.agg (aT bh)) false) (ag 1 []))))] (.bR h1 (I0 r2 ab) (sI bh aA))))
  (fun h1 =>
  .ar fun r2 ab =>
  .ar fun bh aA =>
  .ret (bs [(I 1),(I 2),.U false,.aw (ag 2 (ak (bn 1 (.isl 1 (r2.map eI)) false) (ak (bn 2 (.agg (aT bh)) false) (ag 1 []))))] (.bR h1 (I0 r2 ab) (sI bh aA))))
def w7 (b8:hn)(af:Int):Option (List Int) :=
 if 0≤(R (af*b8.d9)) then
 if 0≤(R ((R (af+(1:Int)))*b8.d9)) then
 if (R (af*b8.d9)).toNat≤(R ((R (af+(1:Int)))*b8.d9)).toNat∧(R ((R (af+(1:Int)))*b8.d9)).toNat≤b8.dG.length then
 some ((b8.dG.drop ((R (af*b8.d9)).toNat)).take ((R ((R (af+(1:Int)))*b8.d9)).toNat-(R (af*b8.d9)).toNat))
 else none
 else none
 else none
theorem M0 {b8:hn}{af:Int}:bw (w7 b8 af) (fun r=>Con a6 66 [.dW 5 [(nV b8)] 0 0,.n .i64 af] [] (.isl 1 (r.map eI)) []):=by
 unfold w7
 exact .aX fun h1 =>
  .aX fun h2 =>
  .aX fun ab =>
  .ret (let q1:=R (af*b8.d9);let q2:=(R ((R (af+(1:Int)))*b8.d9));bs [(I 1),(I 19)] (.dh h1 h2 ab.1 (rj (cW eI b8.dG) ab.2) (congrArg (az.isl 1) (oo (cW eI b8.dG) (q1.toNat) (q2.toNat-q1.toNat)):(.isl 1 (((b8.dG.map eI).drop (q1.toNat)).take (q2.toNat-q1.toNat)):az) = .isl 1 (((b8.dG.drop (q1.toNat)).take (q2.toNat-q1.toNat)).map eI))) (.br (.da (.cy (.isl 1 (((b8.dG.drop (q1.toNat)).take (q2.toNat-q1.toNat)).map eI))))))
def Ip:(List Int)→S:=fun ah=>dm [(0,.isl 1 (ah.map eI))] []
def IJ:(List Int)→dp
 | a=>⟨some 0,[(0,.isl 1 (a.map eI))],[]⟩
def w2 (ah:List Int):Option (((List Int))⊕((List Int))) :=
 if (decide ((0:Int)<(len_ eI ah)))=true then
  if 0≤(R ((len_ eI ah)-(1:Int)))∧(R ((len_ eI ah)-(1:Int)))<ah.length then
  ah[(R ((len_ eI ah)-(1:Int))).toNat]? >>= fun aC =>
  if (aC == (0:Int))=true then
   if 0≤(R ((len_ eI ah)-(1:Int))) then
   if 0≤(R ((len_ eI ah)-(1:Int))).toNat∧(R ((len_ eI ah)-(1:Int))).toNat≤ah.length then
   some (.inl ((ah.drop 0).take ((R ((len_ eI ah)-(1:Int))).toNat-0)))
   else none
   else none
  else
   some (.inr ah)
  else none
 else
  some (.inr ah)
def Jt (ah:List Int):Option ((List Int)):=iter (fun w:(List Int)=>w2 w) ah
theorem Vo {ah:List Int}:bw (w2 ah) (dO a6 21 0 129 [1,0,0,0] (Ip ah) (Ip) (IJ)):=by
 unfold w2
 exact .ite (fun h1 =>
  .aX fun h2 =>
  .ar fun aC au =>
  (let t1:List bW:=[.aw (ag 9 (ak (.b2 (eI aC)) (ag 1 (ak (.U true) []))))];
  have aS:=((.bg h1 h1 h1 h1 h1 h2.1 (cP eI h2.2) h1 (.bR (bT eI au) h1 h1)):cn _);
  .ite (fun aA =>
  .aX fun aW =>
  .aX fun a7 =>
  .ret (let q1:=(R ((len_ eI ah)-(1:Int)));bf (t1.append [.U true,(I 6),.aL [] [] [(0,.br (.da (.cy (.isl 1 (((ah.drop 0).take (q1.toNat-0)).map eI)))))]]) (aS.aH (.dh aA aW a7.1 (rj (cW eI ah) a7.2) (congrArg (az.isl 1) (oo (cW eI ah) 0 (q1.toNat-0)):(.isl 1 (((ah.map eI).drop 0).take (q1.toNat-0)):az) = .isl 1 (((ah.drop 0).take (q1.toNat-0)).map eI))))))
  (fun aA =>
  .ret (bf (t1.append [.U false,.aL [] [] (a8 [0])]) (aS.aH (.e1 aA))))))
  (fun h1 =>
  .ret (bf [.aw (ag 4 (cj 7 (ak (.U false) []))),.U false,.aL [] [] (a8 [0])] (.bg h1 h1 h1 h1 h1 h1 h1 h1 (.e1 cz))))
theorem W5 {ah:List Int}{r} (h:Jt ah=some r):dP a6 21 0 129 [1,0,0,0] (Ip) (IJ) ah r:=dQ (fun _=>Vo) h
def pR (ah:List Int):Option (List Int) :=
 Jt ah >>= fun r1 =>
 some r1
theorem uj {ah:List Int}:bw (pR ah) (fun r=>Con a6 129 [.isl 1 (ah.map eI)] [] (.isl 1 (r.map eI)) []):=by
 unfold pR
 exact .ar fun r1 h2 =>
  .ret (bs [(I 1),.aL [] [] (a8 [0]),(IJ r1).e8,(I 2)] (.e1 (W5 h2)))
def Ib (aB:List Int)(af aV:Int)(dd:List Int)(de gZ:Int):(Int×Int×(List Int))→S:=fun (c2,df,aa)=>dm [(1,.isl 1 (aB.map eI)),(5,.bj 0 0 0 aa.length),(6,.n .i64 af),(7,.n .i64 aV),(8,.n .i64 c2),(26,.isl 1 (dd.map eI)),(27,.n .i64 de),(28,.n .i64 af),(33,.isl 1 (aB.map eI)),(34,.n .i64 gZ),(35,.n .i64 df)] [(ae 1 eI aa)]
def Iq (aB:List Int)(af aV:Int)(dd:List Int)(de gZ:Int):(Int×(List Int))→dp
 | a=>⟨some 2,[(1,.isl 1 (aB.map eI)),(5,.bj 0 0 0 a.2.length),(6,.n .i64 af),(8,.n .i64 a.1),(26,.isl 1 (dd.map eI)),(27,.n .i64 de),(28,.n .i64 af)],[(ae 1 eI a.2)]⟩
def Ic (aB:List Int)(af aV:Int)(dd:List Int)(de gZ c2 df:Int)(aa:List Int):Option ((Int×Int×(List Int))⊕(Int×(List Int))) :=
 if (decide (df<gZ))=true then
  if 0≤df∧df<aB.length then
  aB[df.toNat]? >>= fun aC =>
  if 0≤(R (af+df))∧(R (af+df))<(aa.length:Nat) then
  aa[(0+(R (af+df)).toNat)]? >>= fun cq =>
  if (0+(R (af+df)).toNat)<aa.length then
  some (.inl (R ((R ((R (cq+(R (aV*aC))))+c2)).tdiv (1000000000:Int)),R (df+(1:Int)),aa.set (0+(R (af+df)).toNat) ((R ((R (cq+(R (aV*aC))))+c2)).tmod (1000000000:Int))))
  else none
  else none
  else none
 else
  some (.inr (c2,aa))
def NQ (aB:List Int)(af aV:Int)(dd:List Int)(de gZ c2 df:Int)(aa:List Int):Option (Int×(List Int)):=iter (fun w:Int×Int×(List Int)=>Ic aB af aV dd de gZ w.1 w.2.1 w.2.2) (c2,df,aa)
theorem Vj {aB:List Int}{af aV:Int}{dd:List Int}{de gZ c2 df:Int}{aa:List Int}:bw (Ic aB af aV dd de gZ c2 df aa) (dO a6 72 0 123 [1,1,1,0,1,0,0,1,1,0,0,1,1,0,1,0,0] (Ib aB af aV dd de gZ (c2,df,aa)) (Ib aB af aV dd de gZ) (Iq aB af aV dd de gZ)):=by
 unfold Ic
 exact .ite (fun h1 =>
  .aX fun h2 =>
  .ar fun aC au =>
  .aX fun aA =>
  .ar fun cq a7 =>
  .aX fun bi =>
  .ret (let q1:=R ((R (cq+(R (aV*aC))))+c2);let q2:=R (af+df);bf [(I 1),.U true,.aw (bp 2 (.b2 (eI aC)) 2),.aw (bp 5 (.b2 (eI cq)) 7),.aw (bp 9 .fM 1),(I 2),.aL [0] [.cy (ae 1 eI (aa.set (0+q2.toNat) (q1.tmod (1000000000:Int))))] [(1,ii),(5,fY ((aa.set (0+q2.toNat) (q1.tmod (1000000000:Int))).length)),(6,ii),(7,ii),(8,ii),(26,ii),(27,ii),(28,ii),(33,ii),(34,ii),(35,ii)]] (.bg h1 h2.1 (cP eI h2.2) (bT eI au) aA.1 aA.2 (bT eI a7) (by decide:(1000000000:Int)≠0) (.gM (by decide:(1000000000:Int)≠0) aA.1 aA.2 (hB eI bi) (hx 1) (cZ 1 .live (gF (cW eI aa) (0+q2.toNat) (q1.tmod (1000000000:Int)))) (aI 1 .live aO (aa.set (0+q2.toNat) (q1.tmod (1000000000:Int)))) (hS (dH aa) (0+q2.toNat) (q1.tmod (1000000000:Int)))))))
  (fun h1 =>
  .ret (bf [(I 1),.U false,.aL [0] [.pure] (a8 [1,5,6,8,26,27,28])] (.e2 h1 (aI 1 .live aO aa))))
theorem WJ {aB:List Int}{af aV:Int}{dd:List Int}{de gZ c2 df:Int}{aa:List Int}{r} (h:NQ aB af aV dd de gZ c2 df aa=some r):dP a6 72 0 123 [1,1,1,0,1,0,0,1,1,0,0,1,1,0,1,0,0] (Ib aB af aV dd de gZ) (Iq aB af aV dd de gZ) (c2,df,aa) r:=dQ (fun _=>Vj) h
def Ie (aB dd:List Int)(de:Int):(Int×(List Int))→S:=fun (fw,aa)=>dm [(1,.isl 1 (aB.map eI)),(5,.bj 0 0 0 aa.length),(26,.isl 1 (dd.map eI)),(27,.n .i64 de),(28,.n .i64 fw)] [(ae 1 eI aa)]
def Ir (aB dd:List Int)(de:Int):(List Int)→dp
 | a=>⟨some 0,[(5,.bj 0 0 0 a.length)],[(ae 1 eI a)]⟩
def Ig (aB dd:List Int)(de fw:Int)(aa:List Int):Option ((Int×(List Int))⊕((List Int))) :=
 if (decide (fw<de))=true then
  if 0≤fw∧fw<dd.length then
  dd[fw.toNat]? >>= fun aC =>
  NQ aB fw aC dd de (len_ eI aB) 0 0 aa >>= fun aZ =>
  if 0≤(R (fw+(len_ eI aB)))∧(R (fw+(len_ eI aB)))<(aZ.2.length:Nat) then
  if (0+(R (fw+(len_ eI aB))).toNat)<aZ.2.length then
  some (.inl (R (fw+(1:Int)),aZ.2.set (0+(R (fw+(len_ eI aB))).toNat) aZ.1))
  else none
  else none
  else none
 else
  some (.inr aa)
def Jq (aB dd:List Int)(de fw:Int)(aa:List Int):Option ((List Int)):=iter (fun w:Int×(List Int)=>Ig aB dd de w.1 w.2) (fw,aa)
theorem Vk {aB dd:List Int}{de fw:Int}{aa:List Int}:bw (Ig aB dd de fw aa) (dO a6 72 0 123 [1,1,1,0,1,0,0] (Ie aB dd de (fw,aa)) (Ie aB dd de) (Ir aB dd de)):=by
 unfold Ig
 exact .ite (fun h1 =>
  .aX fun h2 =>
  .ar fun aC au =>
  .ar fun aZ aW =>
  .aX fun a7 =>
  .aX fun bi =>
  .ret (let q1:=R (fw+(len_ eI aB));bf [(I 1),.U true,.aw (bp 2 (.b2 (eI aC)) 2),(I 1),(I 3),.aL [0] [.pure] (a8 [1,5,6,7,8,26,27,28,33,34,35]),(Iq aB fw aC dd de (len_ eI aB) aZ).e8,.aw (ag 7 (ak .fM [])),(I 2),.aL [0] [.cy (ae 1 eI (aZ.2.set (0+q1.toNat) aZ.1))] [(1,ii),(5,fY ((aZ.2.set (0+q1.toNat) aZ.1).length)),(26,ii),(27,ii),(28,ii)]] (.bg h1 h2.1 (cP eI h2.2) (bT eI au) (aI 1 .live aO aa) (WJ aW) a7.1 a7.2 (.dh (hB eI bi) (hx 1) (cZ 1 .live (gF (cW eI aZ.2) (0+q1.toNat) aZ.1)) (aI 1 .live aO (aZ.2.set (0+q1.toNat) aZ.1)) (hS (dH aZ.2) (0+q1.toNat) aZ.1)))))
  (fun h1 =>
  .ret (bf [(I 1),.U false,.aL [0] [.pure] (a8 [5])] (.e2 h1 (aI 1 .live aO aa))))
theorem WK {aB dd:List Int}{de fw:Int}{aa:List Int}{r} (h:Jq aB dd de fw aa=some r):dP a6 72 0 123 [1,1,1,0,1,0,0] (Ie aB dd de) (Ir aB dd de) (fw,aa) r:=dQ (fun _=>Vk) h
def Ac (ah aB:List Int):Option (List Int) :=
 if ((len_ eI ah) == (0:Int))=true then
  some ([]:List Int)
 else
  if ((len_ eI aB) == (0:Int))=true then
   some ([]:List Int)
  else
   if 0≤(R ((len_ eI ah)+(len_ eI aB)))∧(8:Int)*(R ((len_ eI ah)+(len_ eI aB)))≤281474976710656∧(R ((len_ eI ah)+(len_ eI aB)))<9223372036854775808 then
   Jq aB ah (len_ eI ah) 0 (List.replicate (R ((len_ eI ah)+(len_ eI aB))).toNat 0:List Int) >>= fun bh =>
   pR bh >>= fun bA =>
   some bA
   else none
theorem XA {ah aB:List Int}:bw (Ac ah aB) (fun r=>Con a6 123 [.isl 1 (ah.map eI),.isl 1 (aB.map eI)] [] (.isl 1 (r.map eI)) []):=by
 unfold Ac
 exact .ite (fun h1 =>
  .ret (bs [(I 1),.aw (ag 4 (cj 3 (ak (.U true) []))),.U true,(I 1)] (.dh h1 h1 h1 h1 cL) (.br (.da (.jH 1)))))
  (fun h1 =>
  (let t1:List bW:=[(I 1),.aw (ag 7 (ak (.U false) []))];
  .ite (fun h2 =>
  .ret (bs (t1.append [.U true,(I 1)]) (.dh h1 h1 h1 h1 h2) (.br (.da (.jH 1)))))
  (fun h2 =>
  .aX fun ab =>
  .ar fun bh aA =>
  .ar fun bA a7 =>
  .ret (let q1:=R ((len_ eI ah)+(len_ eI aB));let q2:=(List.replicate q1.toNat 0:List Int);bs (t1.append [.U false,(I 7),(I 3),.aL [14] [.cy (ae 1 eI q2)] [(1,ii),(5,fY (q2.length)),(26,ii),(27,ii),(28,ii)],(Ir aB ah (len_ eI ah) bh).e8,.iN 0,.aw (bp 1 (.call {ac:=[.br (.da (.eh (bh.map eI)))],r:= .isl 1 (bA.map eI),fu:=false,fB:=[0]}) 1)]) (.bg h1 h1 h1 h1 h2 ab.1 (Int.le_refl q1) ab.2.1 (.bg ab.2.2 (cZ 1 .live (lF eI q1.toNat 0)) (aI 1 .live aO q2) (l0 q1.toNat (0:Int)) (WK aA) (fW eI bh) (fv eI bh) (dv aO bh) (.e1 (uj bA a7))))))))
def pb (c5 er:bm):Option bm :=
 Ac c5.cA er.cA >>= fun r1 =>
 m0 (!(c5.cQ == er.cQ)) r1 >>= fun bc =>
 some bc
theorem wF {c5 er:bm}:bw (pb c5 er) (fun r=>Con a6 106 [.agg (aT c5),.agg (aT er)] [] (.agg (aT r)) []):=by
 unfold pb
 exact .ar fun r1 h2 =>
  .ar fun bc au =>
  .ret (bs [(I 3),.aw (ag 9 (ak (bn 2 (.isl 1 (r1.map eI)) false) (ak (bn 2 (.agg (aT bc)) false) (ag 1 []))))] (.e2 (XA r1 h2) (sI bc au)))
def oV (c5:bm):Option Int :=
 if ((len_ eI c5.cA) == (0:Int))=true then
  some 0
 else
  if c5.cQ=true then
   some (-1)
  else
   some 1
theorem sF {c5:bm}:bw (oV c5) (fun r=>Con a6 68 [.agg (aT c5)] [] (.n .i64 r) []):=by
 unfold oV
 exact .ite (fun h1 =>
  .ret (bs [(I 2),(I 5),.U true,(I 1)] (.e1 h1)))
  (fun h1 =>
  (let t1:List bW:=[(I 2),(I 5),.U false,(I 3)];
  .ite (fun h2 =>
  .ret (bs (t1.append [.U true,(I 1)]) (.e2 h1 h2)))
  (fun h2 =>
  .ret (bs (t1.append [.U false,(I 1)]) (.e2 h1 h2)))))
def rC (c5:bm):Option bm :=
 m0 (!c5.cQ) c5.cA >>= fun r1 =>
 some r1
theorem Gm {c5:bm}:bw (rC c5) (fun r=>Con a6 110 [.agg (aT c5)] [] (.agg (aT r)) []):=by
 unfold rC
 exact .ar fun r1 h2 =>
  .ret (bs [(I 2),.aw (bp 5 (bn 2 (.agg (aT r1)) false) 1)] (.e1 (sI r1 h2)))
def Hc (ah aB:List Int):Int→S:=fun af=>dm [(0,.isl 1 (ah.map eI)),(1,.isl 1 (aB.map eI)),(5,.n .i64 af)] []
def M1 (ah aB:List Int):((Unit)⊕(Int))→dp
 | .inl a=>⟨some 0,[],[]⟩
 | .inr a=>⟨none,[(4,.n .i64 a)],[]⟩
def Hd (ah aB:List Int)(af:Int):Option ((Int)⊕((Unit)⊕(Int))) :=
 if (decide ((0:Int)≤af))=true then
  if 0≤af∧af<ah.length then
  ah[af.toNat]? >>= fun aC =>
  if 0≤af∧af<aB.length then
  aB[af.toNat]? >>= fun cq =>
  if (decide (aC<cq))=true then
   some (.inr (.inr (-1)))
  else
   if (decide (cq<aC))=true then
    some (.inr (.inr 1))
   else
    some (.inl (R (af-(1:Int))))
  else none
  else none
 else
  some (.inr (.inl ()))
def Nu (ah aB:List Int)(af:Int):Option ((Unit)⊕(Int)):=iter (fun w:Int=>Hd ah aB w) af
theorem Uv {ah aB:List Int}{af:Int}:bw (Hd ah aB af) (dO a6 43 0 125 [1,1,0,1,0,0] (Hc ah aB af) (Hc ah aB) (M1 ah aB)):=by
 unfold Hd
 exact .ite (fun h1 =>
  .aX fun h2 =>
  .ar fun aC au =>
  .aX fun aA =>
  .ar fun cq a7 =>
  (let t1:List bW:=[(I 2),.U true,.aw (ag 3 (ak (.b2 (eI aC)) (bp 3 (.b2 (eI cq)) 2)))];
  have aS:=((.eF h1 h2.1 (cP eI h2.2) (bT eI au) aA.1 (cP eI aA.2) (bT eI a7)):cn _);
  .ite (fun bi =>
  .ret (bf (t1.append [.U true,(I 1),.aL [] [] (a8 [4])]) (aS.aH (.e1 bi))))
  (fun bi =>
  (let t3:List bW:=t1.append [.U false,.aw (ag 3 (ak (.b2 (eI aC)) (bp 3 (.b2 (eI cq)) 2)))];
  have eP:=aS.aH (.eF bi h2.1 (cP eI h2.2) (bT eI au) aA.1 (cP eI aA.2) (bT eI a7));
  .ite (fun cg =>
  .ret (bf (t3.append [.U true,(I 1),.aL [] [] (a8 [4])]) (eP.aH (.e1 cg))))
  (fun cg =>
  .ret (bf (t3.append [.U false,(I 3),.aL [] [] (a8 [0,1,5])]) (eP.aH (.e1 cg))))))))
  (fun h1 =>
  .ret (bf [(I 2),.U false,.aL [] [] []] (.e1 h1)))
theorem M9 {ah aB:List Int}{af:Int}{r} (h:Nu ah aB af=some r):dP a6 43 0 125 [1,1,0,1,0,0] (Hc ah aB) (M1 ah aB) af r:=dQ (fun _=>Uv) h
def ql (ah aB:List Int):Option Int :=
 if ((len_ eI ah) != (len_ eI aB))=true then
  if (decide ((len_ eI ah)<(len_ eI aB)))=true then
   some (-1)
  else
   some 1
 else
  Nu ah aB (R ((len_ eI ah)-(1:Int))) >>= fun r2 =>
  match r2 with
  | .inl fL=>(some 0)
  | .inr fL=>(some fL)
theorem CY {ah aB:List Int}:bw (ql ah aB) (fun r=>Con a6 125 [.isl 1 (ah.map eI),.isl 1 (aB.map eI)] [] (.n .i64 r) []):=by
 unfold ql
 exact .ite (fun h1 =>
  (let t1:List bW:=[(I 1),(I 5),.U true,(I 5)];
  .ite (fun h2 =>
  .ret (bs (t1.append [.U true,(I 1)]) (.e2 h1 h2)))
  (fun h2 =>
  .ret (bs (t1.append [.U false,(I 1)]) (.e2 h1 h2)))))
  (fun h1 =>
  .ar fun r2 ab =>
  (let t1:List bW:=[(I 1),(I 5),.U false,(I 4),.aL [] [] (a8 [0,1,5])];
  (by
  rcases r2 with fL|fL
  ·exact (.ret (bs (t1.append [.sub (.exit 0) [] [],(I 1)]) (.e2 h1 (M9 ab))))
  ·exact (.ret (bs (t1.append [.sub (.ret) [(4,.n .i64 fL)] []]) (.e2 h1 (M9 ab)))))))
def Is (ah aB:List Int)(gB:Int):(Int×Int×(List Int))→S:=fun (c2,gm,aa)=>dm [(0,.isl 1 (ah.map eI)),(1,.isl 1 (aB.map eI)),(5,.bj 0 0 0 aa.length),(6,.n .i64 c2),(20,.isl 1 (ah.map eI)),(21,.n .i64 gB),(22,.n .i64 gm)] [(ae 1 eI aa)]
def CV (ah aB:List Int)(gB:Int):(Int×(List Int))→dp
 | a=>⟨some 0,[(0,.isl 1 (ah.map eI)),(5,.bj 0 0 0 a.2.length),(6,.n .i64 a.1)],[(ae 1 eI a.2)]⟩
def w3 (ah aB:List Int)(gB c2 gm:Int)(aa:List Int):Option ((Int×Int×(List Int))⊕(Int×(List Int))) :=
 if (decide (gm<gB))=true then
  if 0≤gm∧gm<ah.length then
  ah[gm.toNat]? >>= fun aC =>
  if (decide (gm<(len_ eI aB)))=true then
   if 0≤gm∧gm<aB.length then
   aB[gm.toNat]? >>= fun fi =>
   if 0≤gm∧gm<(aa.length:Nat) then
   if (0+gm.toNat)<aa.length then
   some (.inl (R ((R ((R (aC+c2))+fi)).tdiv (1000000000:Int)),R (gm+(1:Int)),aa.set (0+gm.toNat) ((R ((R (aC+c2))+fi)).tmod (1000000000:Int))))
   else none
   else none
   else none
  else
   if 0≤gm∧gm<(aa.length:Nat) then
   if (0+gm.toNat)<aa.length then
   some (.inl (R ((R (aC+c2)).tdiv (1000000000:Int)),R (gm+(1:Int)),aa.set (0+gm.toNat) ((R (aC+c2)).tmod (1000000000:Int))))
   else none
   else none
  else none
 else
  some (.inr (c2,aa))
def zU (ah aB:List Int)(gB c2 gm:Int)(aa:List Int):Option (Int×(List Int)):=iter (fun w:Int×Int×(List Int)=>w3 ah aB gB w.1 w.2.1 w.2.2) (c2,gm,aa)
theorem Vp {ah aB:List Int}{gB c2 gm:Int}{aa:List Int}:bw (w3 ah aB gB c2 gm aa) (dO a6 55 0 130 [1,1,1,1,0,1,0,0] (Is ah aB gB (c2,gm,aa)) (Is ah aB gB) (CV ah aB gB)):=by
 unfold w3
 exact .ite (fun h1 =>
  .aX fun h2 =>
  .ar fun aC au =>
  (let t1:List bW:=[(I 1),.U true,.aw (bp 2 (.b2 (eI aC)) 2),(I 4),(I 4)];
  have aS:=((.c7 h1 h2.1 (cP eI h2.2) (bT eI au)):cn _);
  .ite (fun aA =>
  .aX fun aW =>
  .ar fun fi bi =>
  .aX fun cg =>
  .aX fun cO =>
  .ret (let q1:=R ((R (aC+c2))+fi);bf (t1.append [.U true,.aw (bp 4 (.b2 (eI fi)) 2),.aw (bp 7 .fM 1),(I 2),.aL [0] [.cy (ae 1 eI (aa.set (0+gm.toNat) (q1.tmod (1000000000:Int))))] [(0,ii),(1,ii),(5,fY ((aa.set (0+gm.toNat) (q1.tmod (1000000000:Int))).length)),(6,ii),(20,ii),(21,ii),(22,ii)]]) (aS.aH (.bg aA aW.1 (cP eI aW.2) (bT eI bi) (by decide:(1000000000:Int)≠0) (by decide:(1000000000:Int)≠0) cg.1 cg.2 (.dh (hB eI cO) (hx 1) (cZ 1 .live (gF (cW eI aa) (0+gm.toNat) (q1.tmod (1000000000:Int)))) (aI 1 .live aO (aa.set (0+gm.toNat) (q1.tmod (1000000000:Int)))) (hS (dH aa) (0+gm.toNat) (q1.tmod (1000000000:Int))))))))
  (fun aA =>
  .aX fun aW =>
  .aX fun a7 =>
  .ret (let q2:=R (aC+c2);bf (t1.append [.U false,.aw (bp 7 .fM 1),(I 2),.aL [0] [.cy (ae 1 eI (aa.set (0+gm.toNat) (q2.tmod (1000000000:Int))))] [(0,ii),(1,ii),(5,fY ((aa.set (0+gm.toNat) (q2.tmod (1000000000:Int))).length)),(6,ii),(20,ii),(21,ii),(22,ii)]]) (aS.aH (.bg aA (by decide:(1000000000:Int)≠0) (by decide:(1000000000:Int)≠0) aW.1 aW.2 (hB eI a7) (hx 1) (cZ 1 .live (gF (cW eI aa) (0+gm.toNat) (q2.tmod (1000000000:Int)))) (.e2 (aI 1 .live aO (aa.set (0+gm.toNat) (q2.tmod (1000000000:Int)))) (hS (dH aa) (0+gm.toNat) (q2.tmod (1000000000:Int))))))))))
  (fun h1 =>
  .ret (bf [(I 1),.U false,.aL [0] [.pure] (a8 [0,5,6])] (.e2 h1 (aI 1 .live aO aa))))
theorem Nv {ah aB:List Int}{gB c2 gm:Int}{aa:List Int}{r} (h:zU ah aB gB c2 gm aa=some r):dP a6 55 0 130 [1,1,1,1,0,1,0,0] (Is ah aB gB) (CV ah aB gB) (c2,gm,aa) r:=dQ (fun _=>Vp) h
def xx (ah aB:List Int):Option (List Int) :=
 if (decide ((len_ eI ah)<(len_ eI aB)))=true then
  if 0≤(R ((len_ eI aB)+(1:Int)))∧(8:Int)*(R ((len_ eI aB)+(1:Int)))≤281474976710656∧(R ((len_ eI aB)+(1:Int)))<9223372036854775808 then
  zU aB ah (len_ eI aB) 0 0 (List.replicate (R ((len_ eI aB)+(1:Int))).toNat 0:List Int) >>= fun bc =>
  if 0≤(len_ eI aB)∧(len_ eI aB)<(bc.2.length:Nat) then
  if (0+(len_ eI aB).toNat)<bc.2.length then
  pR (bc.2.set (0+(len_ eI aB).toNat) bc.1) >>= fun ck =>
  some ck
  else none
  else none
  else none
 else
  if 0≤(R ((len_ eI ah)+(1:Int)))∧(8:Int)*(R ((len_ eI ah)+(1:Int)))≤281474976710656∧(R ((len_ eI ah)+(1:Int)))<9223372036854775808 then
  zU ah aB (len_ eI ah) 0 0 (List.replicate (R ((len_ eI ah)+(1:Int))).toNat 0:List Int) >>= fun bc =>
  if 0≤(len_ eI ah)∧(len_ eI ah)<(bc.2.length:Nat) then
  if (0+(len_ eI ah).toNat)<bc.2.length then
  pR (bc.2.set (0+(len_ eI ah).toNat) bc.1) >>= fun ck =>
  some ck
  else none
  else none
  else none
theorem XU {ah aB:List Int}:bw (xx ah aB) (fun r=>Con a6 130 [.isl 1 (ah.map eI),.isl 1 (aB.map eI)] [] (.isl 1 (r.map eI)) []):=by
 unfold xx
 exact .ite (fun h1 =>
  .aX fun h2 =>
  .ar fun bc au =>
  .aX fun aA =>
  .aX fun aW =>
  .ar fun ck bi =>
  .ret (let q2:=len_ eI aB;let q1:=(R (q2+(1:Int)));let bL:=(List.replicate q1.toNat 0:List Int);let bZ:=hS (dH bc.2) (0+q2.toNat) bc.1;bs [(I 1),(I 5),.U true,(I 4),(I 5),(I 1),(I 3),.aL [13] [.cy (ae 1 eI bL)] [(0,ii),(1,ii),(5,fY (bL.length)),(6,ii),(20,ii),(21,ii),(22,ii)],(CV aB ah q2 bc).e8,.aw (ag 5 (ak .fM [])),.iN 0,.aw (bp 1 (.call {ac:=[.br (.da (.eh ((bc.2.set (0+q2.toNat) bc.1).map eI)))],r:= .isl 1 (ck.map eI),fu:=false,fB:=[0]}) 1)] (.bg h1 h2.1 (Int.le_refl q1) h2.2.1 h2.2.2 (cZ 1 .live (lF eI q1.toNat 0)) (aI 1 .live aO bL) (l0 q1.toNat (0:Int)) (.bg (Nv au) aA.1 aA.2 (hB eI aW) (hx 1) (lr (gF (cW eI bc.2) (0+q2.toNat) bc.1) bZ) (kZ (gF (cW eI bc.2) (0+q2.toNat) bc.1) bZ) (dv aO (bc.2.set (0+q2.toNat) bc.1)) (.e1 (uj ck bi))))))
  (fun h1 =>
  .aX fun h2 =>
  .ar fun bc au =>
  .aX fun aA =>
  .aX fun aW =>
  .ar fun ck bi =>
  .ret (let d8:=len_ eI ah;let cH:=(R (d8+(1:Int)));let fK:=(List.replicate cH.toNat 0:List Int);let eB:=hS (dH bc.2) (0+d8.toNat) bc.1;bs [(I 1),(I 5),.U false,(I 5),(I 1),(I 3),.aL [9] [.cy (ae 1 eI fK)] [(0,ii),(1,ii),(5,fY (fK.length)),(6,ii),(20,ii),(21,ii),(22,ii)],(CV ah aB d8 bc).e8,.aw (ag 5 (ak .fM [])),.iN 0,.aw (bp 1 (.call {ac:=[.br (.da (.eh ((bc.2.set (0+d8.toNat) bc.1).map eI)))],r:= .isl 1 (ck.map eI),fu:=false,fB:=[0]}) 1)] (.bg h1 h2.1 (Int.le_refl cH) h2.2.1 h2.2.2 (cZ 1 .live (lF eI cH.toNat 0)) (aI 1 .live aO fK) (l0 cH.toNat (0:Int)) (.bg (Nv au) aA.1 aA.2 (hB eI aW) (hx 1) (lr (gF (cW eI bc.2) (0+d8.toNat) bc.1) eB) (kZ (gF (cW eI bc.2) (0+d8.toNat) bc.1) eB) (dv aO (bc.2.set (0+d8.toNat) bc.1)) (.e1 (uj ck bi))))))
def Ih (aB dL:List Int)(b9:Int):(Int×Int×(List Int))→S:=fun (mh,bV,aa)=>dm [(1,.isl 1 (aB.map eI)),(5,.bj 0 0 0 aa.length),(6,.n .i64 mh),(12,.isl 1 (dL.map eI)),(13,.n .i64 b9),(14,.n .i64 bV)] [(ae 1 eI aa)]
def It (aB dL:List Int)(b9:Int):(List Int)→dp
 | a=>⟨some 0,[(5,.bj 0 0 0 a.length)],[(ae 1 eI a)]⟩
def w1 (aB dL:List Int)(b9 mh bV:Int)(aa:List Int):Option ((Int×Int×(List Int))⊕((List Int))) :=
 if (decide (bV<b9))=true then
  if 0≤bV∧bV<dL.length then
  dL[bV.toNat]? >>= fun aC =>
  if (decide (bV<(len_ eI aB)))=true then
   if 0≤bV∧bV<aB.length then
   aB[bV.toNat]? >>= fun fi =>
   if (decide ((R ((R (aC-mh))-fi))<(0:Int)))=true then
    if 0≤bV∧bV<(aa.length:Nat) then
    if (0+bV.toNat)<aa.length then
    some (.inl (1,R (bV+(1:Int)),aa.set (0+bV.toNat) (R ((R ((R (aC-mh))-fi))+(1000000000:Int)))))
    else none
    else none
   else
    if 0≤bV∧bV<(aa.length:Nat) then
    if (0+bV.toNat)<aa.length then
    some (.inl (0,R (bV+(1:Int)),aa.set (0+bV.toNat) (R ((R (aC-mh))-fi))))
    else none
    else none
   else none
  else
   if (decide ((R (aC-mh))<(0:Int)))=true then
    if 0≤bV∧bV<(aa.length:Nat) then
    if (0+bV.toNat)<aa.length then
    some (.inl (1,R (bV+(1:Int)),aa.set (0+bV.toNat) (R ((R (aC-mh))+(1000000000:Int)))))
    else none
    else none
   else
    if 0≤bV∧bV<(aa.length:Nat) then
    if (0+bV.toNat)<aa.length then
    some (.inl (0,R (bV+(1:Int)),aa.set (0+bV.toNat) (R (aC-mh))))
    else none
    else none
  else none
 else
  some (.inr aa)
def Jr (aB dL:List Int)(b9 mh bV:Int)(aa:List Int):Option ((List Int)):=iter (fun w:Int×Int×(List Int)=>w1 aB dL b9 w.1 w.2.1 w.2.2) (mh,bV,aa)
theorem Vl {aB dL:List Int}{b9 mh bV:Int}{aa:List Int}:bw (w1 aB dL b9 mh bV aa) (dO a6 43 0 131 [1,1,1,0,1,0,0] (Ih aB dL b9 (mh,bV,aa)) (Ih aB dL b9) (It aB dL b9)):=by
 unfold w1
 exact .ite (fun h1 =>
  .aX fun h2 =>
  .ar fun aC au =>
  (let t1:List bW:=[(I 1),.U true,.aw (bp 2 (.b2 (eI aC)) 2),(I 4),(I 4)];
  have aS:=((.c7 h1 h2.1 (cP eI h2.2) (bT eI au)):cn _);
  .ite (fun aA =>
  .aX fun aW =>
  .ar fun fi bi =>
  (let t3:List bW:=t1.append [.U true,.aw (bp 4 (.b2 (eI fi)) 2),(I 1),(I 2)];
  have eP:=aS.aH (.c7 aA aW.1 (cP eI aW.2) (bT eI bi));
  .ite (fun cg =>
  .aX fun cO =>
  .aX fun eH =>
  .ret (let q1:=(R ((R ((R (aC-mh))-fi))+(1000000000:Int)));bf (t3.append [.U true,(I 3),(I 1),.aw (ag 4 (ak .fM [])),(I 2),.aL [0] [.cy (ae 1 eI (aa.set (0+bV.toNat) q1))] [(1,ii),(5,fY ((aa.set (0+bV.toNat) q1).length)),(6,ii),(12,ii),(13,ii),(14,ii)]]) (eP.aH (.gM cg cO.1 cO.2 (hB eI eH) (hx 1) (cZ 1 .live (gF (cW eI aa) (0+bV.toNat) q1)) (aI 1 .live aO (aa.set (0+bV.toNat) q1)) (hS (dH aa) (0+bV.toNat) q1)))))
  (fun cg =>
  .aX fun cO =>
  .aX fun eH =>
  .ret (let q2:=R ((R (aC-mh))-fi);bf (t3.append [.U false,.aw (ag 4 (ak .fM [])),(I 2),.aL [0] [.cy (ae 1 eI (aa.set (0+bV.toNat) q2))] [(1,ii),(5,fY ((aa.set (0+bV.toNat) q2).length)),(6,ii),(12,ii),(13,ii),(14,ii)]]) (eP.aH (.gM cg cO.1 cO.2 (hB eI eH) (hx 1) (cZ 1 .live (gF (cW eI aa) (0+bV.toNat) q2)) (aI 1 .live aO (aa.set (0+bV.toNat) q2)) (hS (dH aa) (0+bV.toNat) q2)))))))
  (fun aA =>
  (let t3:List bW:=t1.append [.U false,(I 1),(I 2)];
  .ite (fun aW =>
  .aX fun a7 =>
  .aX fun bi =>
  .ret (let bL:=(R ((R (aC-mh))+(1000000000:Int)));bf (t3.append [.U true,(I 3),(I 1),.aw (ag 4 (ak .fM [])),(I 2),.aL [0] [.cy (ae 1 eI (aa.set (0+bV.toNat) bL))] [(1,ii),(5,fY ((aa.set (0+bV.toNat) bL).length)),(6,ii),(12,ii),(13,ii),(14,ii)]]) (aS.aH (.bg aA aW a7.1 a7.2 (hB eI bi) (hx 1) (cZ 1 .live (gF (cW eI aa) (0+bV.toNat) bL)) (aI 1 .live aO (aa.set (0+bV.toNat) bL)) (.e1 (hS (dH aa) (0+bV.toNat) bL))))))
  (fun aW =>
  .aX fun a7 =>
  .aX fun bi =>
  .ret (let bZ:=R (aC-mh);bf (t3.append [.U false,.aw (ag 4 (ak .fM [])),(I 2),.aL [0] [.cy (ae 1 eI (aa.set (0+bV.toNat) bZ))] [(1,ii),(5,fY ((aa.set (0+bV.toNat) bZ).length)),(6,ii),(12,ii),(13,ii),(14,ii)]]) (aS.aH (.bg aA aW a7.1 a7.2 (hB eI bi) (hx 1) (cZ 1 .live (gF (cW eI aa) (0+bV.toNat) bZ)) (aI 1 .live aO (aa.set (0+bV.toNat) bZ)) (.e1 (hS (dH aa) (0+bV.toNat) bZ))))))))))
  (fun h1 =>
  .ret (bf [(I 1),.U false,.aL [0] [.pure] (a8 [5])] (.e2 h1 (aI 1 .live aO aa))))
theorem WL {aB dL:List Int}{b9 mh bV:Int}{aa:List Int}{r} (h:Jr aB dL b9 mh bV aa=some r):dP a6 43 0 131 [1,1,1,0,1,0,0] (Ih aB dL b9) (It aB dL b9) (mh,bV,aa) r:=dQ (fun _=>Vl) h
def sQ (ah aB:List Int):Option (List Int) :=
 if 0≤(len_ eI ah)∧(8:Int)*(len_ eI ah)≤281474976710656∧(len_ eI ah)<9223372036854775808 then
 Jr aB ah (len_ eI ah) 0 0 (List.replicate (len_ eI ah).toNat 0:List Int) >>= fun r2 =>
 pR r2 >>= fun bh =>
 some bh
 else none
theorem NR {ah aB:List Int}:bw (sQ ah aB) (fun r=>Con a6 131 [.isl 1 (ah.map eI),.isl 1 (aB.map eI)] [] (.isl 1 (r.map eI)) []):=by
 unfold sQ
 exact .aX fun h1 =>
  .ar fun r2 ab =>
  .ar fun bh aA =>
  .ret (let q2:=len_ eI ah;let q1:=(List.replicate q2.toNat 0:List Int);bs [(I 1),(I 4),(I 1),(I 3),.aL [3] [.cy (ae 1 eI q1)] [(1,ii),(5,fY (q1.length)),(6,ii),(12,ii),(13,ii),(14,ii)],(It aB ah q2 r2).e8,.iN 0,.aw (bp 1 (.call {ac:=[.br (.da (.eh (r2.map eI)))],r:= .isl 1 (bh.map eI),fu:=false,fB:=[0]}) 1)] (.bg h1.1 (Int.le_refl q2) h1.2.1 h1.2.2 (cZ 1 .live (lF eI q2.toNat 0)) (aI 1 .live aO q1) (l0 q2.toNat (0:Int)) (WL ab) (.c7 (fW eI r2) (fv eI r2) (dv aO r2) (uj bh aA))))
def w8 (c5 er:bm):Option bm :=
 ql c5.cA er.cA >>= fun r1 =>
 if (c5.cQ == er.cQ)=true then
  xx c5.cA er.cA >>= fun bh =>
  m0 c5.cQ bh >>= fun bA =>
  some bA
 else
  if (decide ((0:Int)≤r1))=true then
   sQ c5.cA er.cA >>= fun aZ =>
   m0 c5.cQ aZ >>= fun ck =>
   some ck
  else
   sQ er.cA c5.cA >>= fun aZ =>
   m0 er.cQ aZ >>= fun ck =>
   some ck
theorem VJ {c5 er:bm}:bw (w8 c5 er) (fun r=>Con a6 124 [.agg (aT c5),.agg (aT er)] [] (.agg (aT r)) []):=by
 unfold w8
 exact .ar fun r1 h2 =>
  (let t1:List bW:=[(I 3),.aw (bp 4 (bn 2 (.n .i64 r1) true) 1),(I 6)];
  have aS:=((.e2 (CY r1 h2) (b3.n .i64 r1)):cn _);
  .ite (fun ab =>
  .ar fun bh aA =>
  .ar fun bA a7 =>
  .ret (bs (t1.append [.U true,.aw (ag 6 (ak (bn 2 (.isl 1 (bh.map eI)) false) (ak (bn 2 (.agg (aT bA)) false) (ag 1 []))))]) (aS.aH (.bR ab (XU bh aA) (sI bA a7)))))
  (fun ab =>
  .ite (fun au =>
  .ar fun aZ aW =>
  .ar fun ck bi =>
  .ret (bs (t1.append [.U false,(I 3),.U true,.aw (ag 6 (ak (bn 2 (.isl 1 (aZ.map eI)) false) (ak (bn 2 (.agg (aT ck)) false) (ag 1 []))))]) (aS.aH (.c7 ab au (NR aZ aW) (sI ck bi)))))
  (fun au =>
  .ar fun aZ aW =>
  .ar fun ck bi =>
  .ret (bs (t1.append [.U false,(I 3),.U false,.aw (ag 6 (ak (bn 2 (.isl 1 (aZ.map eI)) false) (ak (bn 2 (.agg (aT ck)) false) (ag 1 []))))]) (aS.aH (.c7 ab au (NR aZ aW) (sI ck bi)))))))
def tZ (c5 er:bm):Option bm :=
 rC er >>= fun r1 =>
 w8 c5 r1 >>= fun bc =>
 some bc
theorem MR {c5 er:bm}:bw (tZ c5 er) (fun r=>Con a6 107 [.agg (aT c5),.agg (aT er)] [] (.agg (aT r)) []):=by
 unfold tZ
 exact .ar fun r1 h2 =>
  .ar fun bc au =>
  .ret (bs [(I 3),.aw (ag 2 (ak (bn 1 (.agg (aT r1)) false) (ak (bn 2 (.agg (aT bc)) false) (ag 1 []))))] (.e2 (Gm r1 h2) (VJ bc au)))
def FV (eG:List (List bm))(eQ:Bool)(eE eJ:List Int)(iT:Int)(j6:List Bool)(lp:List Int)(bq jP:Int):(Int×Bool×(List Int))→S:=fun (h8,aJ,aG)=>dm [(0,.dW 6 [[.isl 1 (eG.map (en 2 aT)),.b eQ,.isl 1 (eE.map eI),.isl 1 (eJ.map eI),.n .i64 iT,.isl 1 (j6.map ed)]] 0 0),(1,.isl 1 (lp.map eI)),(2,.n .i64 bq),(7,.ref 0 0 0 0),(23,.isl 1 (eJ.map eI)),(24,.n .i64 jP),(25,.n .i64 h8)] [[ad.mk 2 [[.b aJ,.isl 1 (aG.map eI)]] .live]]
def MB (eG:List (List bm))(eQ:Bool)(eE eJ:List Int)(iT:Int)(j6:List Bool)(lp:List Int)(bq jP:Int):(Bool×(List Int))→dp
 | a=>⟨some 0,[(7,.ref 0 0 0 0)],[[ad.mk 2 [[.b a.1,.isl 1 (a.2.map eI)]] .live]]⟩
def vZ (eG:List (List bm))(eQ:Bool)(eE eJ:List Int)(iT:Int)(j6:List Bool)(lp:List Int)(bq jP h8:Int)(aJ:Bool)(aG:List Int):Option ((Int×Bool×(List Int))⊕(Bool×(List Int))) :=
 if (decide (h8<jP))=true then
  if 0≤h8∧h8<eJ.length then
  eJ[h8.toNat]? >>= fun aC =>
  if 0≤aC∧aC<lp.length then
  lp[aC.toNat]? >>= fun cq =>
  if (cq != (0:Int))=true then
   if 0≤h8∧h8<eG.length then
   eG[h8.toNat]? >>= fun iO =>
   if 0≤bq∧bq<iO.length then
   iO[bq.toNat]? >>= fun qV =>
   oV qV >>= fun gw =>
   if (gw != (0:Int))=true then
    om cq >>= fun e7 =>
    pb qV e7 >>= fun jj =>
    tZ (⟨aJ,aG⟩:bm) jj >>= fun BT =>
    some (.inl (R (h8+(1:Int)),BT.cQ,BT.cA))
   else
    some (.inl (R (h8+(1:Int)),aJ,aG))
   else none
   else none
  else
   some (.inl (R (h8+(1:Int)),aJ,aG))
  else none
  else none
 else
  some (.inr (aJ,aG))
def He (eG:List (List bm))(eQ:Bool)(eE eJ:List Int)(iT:Int)(j6:List Bool)(lp:List Int)(bq jP h8:Int)(aJ:Bool)(aG:List Int):Option (Bool×(List Int)):=iter (fun w:Int×Bool×(List Int)=>vZ eG eQ eE eJ iT j6 lp bq jP w.1 w.2.1 w.2.2) (h8,aJ,aG)
theorem Tx {eG:List (List bm)}{eQ:Bool}{eE eJ:List Int}{iT:Int}{j6:List Bool}{lp:List Int}{bq jP h8:Int}{aJ:Bool}{aG:List Int}:bw (vZ eG eQ eE eJ iT j6 lp bq jP h8 aJ aG) (dO a6 70 0 89 [1,1,0,1,0,0] (FV eG eQ eE eJ iT j6 lp bq jP (h8,aJ,aG)) (FV eG eQ eE eJ iT j6 lp bq jP) (MB eG eQ eE eJ iT j6 lp bq jP)):=by
 unfold vZ
 exact .ite (fun h1 =>
  .aX fun h2 =>
  .ar fun aC au =>
  .aX fun aA =>
  .ar fun cq a7 =>
  (let t1:List bW:=[(I 1),.U true,.aw (bp 2 (.b2 (eI aC)) 2)];
  have aS:=((.eF h1 h2.1 (cP eI h2.2) (bT eI au) aA.1 (cP eI aA.2) (bT eI a7)):cn _);
  .ite (fun bi =>
  .aX fun cg =>
  .ar fun iO eH =>
  .aX fun eX =>
  .ar fun qV ew =>
  .ar fun gw hR =>
  (let t3:List bW:=t1.append [.aw (ag 3 (ak (.b2 (eI cq)) (ag 8 (ak (.b2 ((en 2 aT) iO)) (ag 2 (ak (.b2 (aT qV)) (ak (bn 1 (.n .i64 gw) true) (ag 1 (ak (.U true) [])))))))))];
  have eP:=aS.aH (.bg bi bi bi bi bi bi cg.1 (cP (en 2 aT) cg.2) (.bg bi (bT (en 2 aT) eH) bi bi eX.1 (cP aT eX.2) bi (bT aT ew) (.dh bi (sF gw hR) (b3.n .i64 gw) bi bi)));
  .ite (fun hp =>
  .ar fun e7 gv =>
  .ar fun jj gK =>
  .ar fun BT mT =>
  .ret (bf (t3.append [.U true,.aw (ag 7 (ak (.b2 ((en 2 aT) iO)) (ag 2 (ak (.b2 (aT qV)) (ag 3 (ak (.b2 (eI cq)) (ak (bn 1 (.agg (aT e7)) false) (ak (bn 2 (.agg (aT jj)) false) (ak (bn 2 (.agg (aT BT)) false) (ag 1 [])))))))))),(I 2),.aL [0] [.box [.id,.id]] (a8 [0,1,2,7,23,24,25])]) (eP.aH (.bg hp cg.1 (cP (en 2 aT) cg.2) (bT (en 2 aT) eH) eX.1 (cP aT eX.2) (bT aT ew) aA.1 (.dh (cP eI aA.2) (bT eI a7) (rH e7 gv) (wF jj gK) (MR BT mT))))))
  (fun hp =>
  .ret (bf (t3.append [.U false,(I 2),.aL [0] [.box [.id,.id]] (a8 [0,1,2,7,23,24,25])]) (eP.aH (.e1 hp))))))
  (fun bi =>
  .ret (bf (t1.append [.aw (ag 3 (ak (.b2 (eI cq)) (ag 2 (cj 12 (ak (.U false) []))))),.U false,(I 2),.aL [0] [.box [.id,.id]] (a8 [0,1,2,7,23,24,25])]) (aS.aH (.bg bi bi bi bi bi bi bi bi (.dS bi bi bi bi bi cz)))))))
  (fun h1 =>
  .ret (bf [(I 1),.U false,.aL [0] [.box [.id,.id]] (a8 [7])] (.e1 h1)))
theorem Uw {eG:List (List bm)}{eQ:Bool}{eE eJ:List Int}{iT:Int}{j6:List Bool}{lp:List Int}{bq jP h8:Int}{aJ:Bool}{aG:List Int}{r} (h:He eG eQ eE eJ iT j6 lp bq jP h8 aJ aG=some r):dP a6 70 0 89 [1,1,0,1,0,0] (FV eG eQ eE eJ iT j6 lp bq jP) (MB eG eQ eE eJ iT j6 lp bq jP) (h8,aJ,aG) r:=dQ (fun _=>Tx) h
def w4 (hb:qo)(lp:List Int)(bq:Int):Option Int :=
 if 0≤bq∧bq<lp.length then
 lp[bq.toNat]? >>= fun x2 =>
 om x2 >>= fun bh =>
 pb hb.vc bh >>= fun bA =>
 He hb.r8 hb.vc.cQ hb.vc.cA hb.rk hb.KG hb.KH lp bq (len_ eI hb.rk) 0 bA.cQ bA.cA >>= fun cm =>
 oV (⟨cm.1,cm.2⟩:bm) >>= fun cY =>
 some cY
 else none
theorem MS {hb:qo}{lp:List Int}{bq:Int}:bw (w4 hb lp bq) (fun r=>Con a6 89 [.dW 6 [(xu hb)] 0 0,.isl 1 (lp.map eI),.n .i64 bq] [] (.n .i64 r) []):=by
 unfold w4
 exact .aX fun h1 =>
  .ar fun x2 ab =>
  .ar fun bh aA =>
  .ar fun bA a7 =>
  .ar fun cm cg =>
  .ar fun cY eH =>
  .ret (bs [(I 1),.aw (ag 7 (ak (.b2 (eI x2)) (ak (bn 1 (.agg (aT bh)) false) (ak (bn 2 (.agg (aT bA)) false) (ag 2 []))))),(I 6),.aL [11] [.box [.id,.id]] (a8 [0,1,2,7,23,24,25]),.sub (.exit 0) [(7,.ref 0 0 0 0)] [[ad.mk 2 [[.b cm.1,.isl 1 (cm.2.map eI)]] .live]],.aw (bp 1 (bn 1 (.n .i64 cY) true) 1)] (.gM h1.1 (cP eI h1.2) (bT eI ab) (rH bh aA) (wF bA a7) (Uw cg) (sF cY eH) (b3.n .i64 cY)))
def rD (c5 er:bm):Option Int :=
 if (c5.cQ == er.cQ)=true then
  if c5.cQ=true then
   ql er.cA c5.cA >>= fun bc =>
   some bc
  else
   ql c5.cA er.cA >>= fun bc =>
   some bc
 else
  if c5.cQ=true then
   some (-1)
  else
   some 1
theorem U0 {c5 er:bm}:bw (rD c5 er) (fun r=>Con a6 108 [.agg (aT c5),.agg (aT er)] [] (.n .i64 r) []):=by
 unfold rD
 exact .ite (fun h1 =>
  (let t1:List bW:=[(I 3),.aw (ag 6 (cj 2 (ak (.U false) (ag 1 [])))),.U false,(I 6),.U false,(I 3)];
  have aS:=((.dh (cS h1) (cS h1) (cS h1) cz (cS h1)):cn _);
  .ite (fun h2 =>
  .ar fun bc au =>
  .ret (bs (t1.append [.U true,.aw (bp 4 (bn 2 (.n .i64 bc) true) 1)]) (aS.aH (.bR h2 (CY bc au) (b3.n .i64 bc)))))
  (fun h2 =>
  .ar fun bc au =>
  .ret (bs (t1.append [.U false,.aw (bp 4 (bn 2 (.n .i64 bc) true) 1)]) (aS.aH (.bR h2 (CY bc au) (b3.n .i64 bc)))))))
  (fun h1 =>
  (let t1:List bW:=[(I 3),.aw (bp 8 (.U true) 1)];
  have aS:=((.bR (cJ h1) (cJ h1) (cJ h1)):cn _);
  .ite (fun h2 =>
  .ret (bs (t1.append [.U true,(I 1)]) (aS.aH (.e1 h2))))
  (fun h2 =>
  .ret (bs (t1.append [.U false,(I 6),.U true,(I 1)]) (aS.aH (.e2 h2 (cJ h1)))))))
def FC (eG:List (List bm))(eQ:Bool)(eE eJ:List Int)(iT:Int)(j6:List Bool)(bq b9:Int):(Int×Int)→S:=fun (hT,bV)=>dm [(0,.dW 6 [[.isl 1 (eG.map (en 2 aT)),.b eQ,.isl 1 (eE.map eI),.isl 1 (eJ.map eI),.n .i64 iT,.isl 1 (j6.map ed)]] 0 0),(1,.n .i64 bq),(5,.n .i64 hT),(12,.isl 1 (eG.map (en 2 aT))),(13,.n .i64 b9),(14,.n .i64 bV)] []
def MA (eG:List (List bm))(eQ:Bool)(eE eJ:List Int)(iT:Int)(j6:List Bool)(bq b9:Int):Int→dp
 | a=>⟨some 0,[(5,.n .i64 a)],[]⟩
def vP (eG:List (List bm))(eQ:Bool)(eE eJ:List Int)(iT:Int)(j6:List Bool)(bq b9 hT bV:Int):Option ((Int×Int)⊕(Int)) :=
 if (decide (bV<b9))=true then
  if 0≤bV∧bV<eG.length then
  eG[bV.toNat]? >>= fun aC =>
  if 0≤bq∧bq<aC.length then
  aC[bq.toNat]? >>= fun cq =>
  oV cq >>= fun cm =>
  if (decide (cm≤(0:Int)))=true then
   some (.inl (hT,R (bV+(1:Int))))
  else
   if (decide (hT<(0:Int)))=true then
    some (.inl (bV,R (bV+(1:Int))))
   else
    if 0≤iT∧iT<aC.length then
    aC[iT.toNat]? >>= fun qV =>
    if 0≤hT∧hT<eG.length then
    eG[hT.toNat]? >>= fun mr =>
    if 0≤bq∧bq<mr.length then
    mr[bq.toNat]? >>= fun qW =>
    pb qV qW >>= fun nJ =>
    if 0≤iT∧iT<mr.length then
    mr[iT.toNat]? >>= fun sn =>
    pb sn cq >>= fun nK =>
    rD nJ nK >>= fun ms =>
    if (decide (ms<(0:Int)))=true then
     some (.inl (bV,R (bV+(1:Int))))
    else
     if (ms == (0:Int))=true then
      if 0≤bV∧bV<eJ.length then
      eJ[bV.toNat]? >>= fun LF =>
      if 0≤hT∧hT<eJ.length then
      eJ[hT.toNat]? >>= fun LG =>
      if (decide (LF<LG))=true then
       some (.inl (bV,R (bV+(1:Int))))
      else
       some (.inl (hT,R (bV+(1:Int))))
      else none
      else none
     else
      some (.inl (hT,R (bV+(1:Int))))
    else none
    else none
    else none
    else none
  else none
  else none
 else
  some (.inr hT)
def Gn (eG:List (List bm))(eQ:Bool)(eE eJ:List Int)(iT:Int)(j6:List Bool)(bq b9 hT bV:Int):Option (Int):=iter (fun w:Int×Int=>vP eG eQ eE eJ iT j6 bq b9 w.1 w.2) (hT,bV)
theorem Tj {eG:List (List bm)}{eQ:Bool}{eE eJ:List Int}{iT:Int}{j6:List Bool}{bq b9 hT bV:Int}:bw (vP eG eQ eE eJ iT j6 bq b9 hT bV) (dO a6 91 0 90 [1,1,0,1,0,0] (FC eG eQ eE eJ iT j6 bq b9 (hT,bV)) (FC eG eQ eE eJ iT j6 bq b9) (MA eG eQ eE eJ iT j6 bq b9)):=by
 unfold vP
 exact .ite (fun h1 =>
  .aX fun h2 =>
  .ar fun aC au =>
  .aX fun aA =>
  .ar fun cq a7 =>
  .ar fun cm cg =>
  (let t1:List bW:=[(I 1),.U true,.aw (bp 2 (.b2 ((en 2 aT) aC)) 2),.aw (ag 3 (ak (.b2 (aT cq)) (ak (bn 1 (.n .i64 cm) true) (ag 1 []))))];
  have aS:=((.bg h1 h2.1 (cP (en 2 aT) h2.2) (bT (en 2 aT) au) aA.1 (cP aT aA.2) (bT aT a7) (sF cm cg) (.e1 (b3.n .i64 cm))):cn _);
  .ite (fun cO =>
  .ret (bf (t1.append [.U true,(I 2),.aL [] [] (a8 [0,1,5,12,13,14])]) (aS.aH (.e1 cO))))
  (fun cO =>
  .ite (fun eH =>
  .ret (bf (t1.append [.U false,(I 2),.U true,(I 2),(I 2),.aL [] [] (a8 [0,1,5,12,13,14])]) (aS.aH (.e2 cO eH))))
  (fun eH =>
  .aX fun eX =>
  .ar fun qV ew =>
  .aX fun fP =>
  .ar fun mr hp =>
  .aX fun hq =>
  .ar fun qW fh =>
  .ar fun nJ iH =>
  .aX fun mT =>
  .ar fun sn oQ =>
  .ar fun nK sm =>
  .ar fun ms BU =>
  (let q1:=en 2 aT;let t3:List bW:=t1.append [.U false,(I 2),.U false,.aw (ag 6 (ak (.b2 (aT qV)) (ag 6 (ak (.b2 (q1 mr)) (ag 2 (ak (.b2 (aT qW)) (ak (bn 2 (.agg (aT nJ)) false) (ag 6 (ak (.b2 (q1 mr)) (ag 5 (ak (.b2 (aT sn)) (ag 3 (ak (.b2 (aT cq)) (ak (bn 2 (.agg (aT nK)) false) (ak (bn 2 (.n .i64 ms) true) (ag 1 []))))))))))))))))];
  have eP:=aS.aH (.bg cO eH eX.1 (cP aT eX.2) (bT aT ew) fP.1 (cP q1 fP.2) (bT q1 hp) (.bg hq.1 (cP aT hq.2) (bT aT fh) (wF nJ iH) fP.1 (cP q1 fP.2) (bT q1 hp) mT.1 (.gM (cP aT mT.2) (bT aT oQ) aA.1 (cP aT aA.2) (bT aT a7) (wF nK sm) (U0 ms BU) (b3.n .i64 ms))));
  .ite (fun oe =>
  .ret (bf (t3.append [.aw (ag 3 (cj 3 (ag 15 (cj 1 (ak (.U true) []))))),.U true,(I 2),(I 2),.aL [] [] (a8 [0,1,5,12,13,14])]) (eP.aH (.dS oe oe oe oe oe cL))))
  (fun oe =>
  .ite (fun jx =>
  .aX fun RZ =>
  .ar fun LF adu =>
  .aX fun R0 =>
  .ar fun LG adv =>
  (let t5:List bW:=t3.append [.aw (ag 12 (ak (.b2 (eI LF)) (ag 6 (ak (.b2 (eI LG)) (ag 1 (ak (.U true) (ak (.U false) [])))))))];
  have ln:=eP.aH (.bg oe oe oe jx jx jx jx jx (.bg jx RZ.1 (cP eI RZ.2) jx (bT eI adu) jx jx jx (.bg jx jx jx R0.1 (cP eI R0.2) jx (bT eI adv) jx (.bR oe jx oe))));
  .ite (fun LH =>
  .ret (bf (t5.append [.U true,(I 2),(I 2),.aL [] [] (a8 [0,1,5,12,13,14])]) (ln.aH (.e1 LH))))
  (fun LH =>
  .ret (bf (t5.append [.U false,(I 2),.aL [] [] (a8 [0,1,5,12,13,14])]) (ln.aH (.e1 LH))))))
  (fun jx =>
  .ret (bf (t3.append [.aw (ag 6 (cj 15 (ak (.U false) (ak (.U false) [])))),.U false,(I 2),.aL [] [] (a8 [0,1,5,12,13,14])]) (eP.aH (.bg oe oe oe jx jx jx jx jx (.bg jx jx jx jx jx jx jx jx (.dS jx jx oe jx oe cz))))))))))))
  (fun h1 =>
  .ret (bf [(I 1),.U false,.aL [] [] (a8 [5])] (.e1 h1)))
theorem TU {eG:List (List bm)}{eQ:Bool}{eE eJ:List Int}{iT:Int}{j6:List Bool}{bq b9 hT bV:Int}{r} (h:Gn eG eQ eE eJ iT j6 bq b9 hT bV=some r):dP a6 91 0 90 [1,1,0,1,0,0] (FC eG eQ eE eJ iT j6 bq b9) (MA eG eQ eE eJ iT j6 bq b9) (hT,bV) r:=dQ (fun _=>Tj) h
def y9 (hb:qo)(bq:Int):Option Int :=
 Gn hb.r8 hb.vc.cQ hb.vc.cA hb.rk hb.KG hb.KH bq (len_ (en 2 aT) hb.r8) (-1) 0 >>= fun r1 =>
 some r1
theorem Ux {hb:qo}{bq:Int}:bw (y9 hb bq) (fun r=>Con a6 90 [.dW 6 [(xu hb)] 0 0,.n .i64 bq] [] (.n .i64 r) []):=by
 unfold y9
 exact .ar fun r1 h2 =>
  .ret (bs [(I 1),(I 1),(I 6),.aL [] [] (a8 [0,1,5,12,13,14]),.sub (.exit 0) [(5,.n .i64 r1)] [],(I 2)] (.e1 (TU h2)))
def As (aF:List Int):Option (List Int) :=
 if aF.length*8≤140737488355328 then some aF else none
theorem Zh:Con a6 132 [.ek] [] (.isl 1 (([]:List Int).map eI)) []:=bs [(I 1),(I 2),.U true,(I 1)] (.e1 cL) (.br (.da (.jH 1)))
theorem Zi:Con a6 132 [.ib] [] (.isl 1 (([]:List Int).map eI)) []:=(by
 have h:=fun (h1:(([]:List Int)++([]:List Int)).length*8≤140737488355328)=>(bs [(I 1),(I 2),.U false,.aw (bp 2 (.aH ((([]:List Int)++([]:List Int)).length)) 1)] (.eF cz (m3 (show []=(([]:List Int)).map eI from rfl) (eZ Int)) (lG (eZ Int) (nn eI):(([]:List Int)++([]:List Int)).length=0+([]:List (List az)).length) h1 (lr (h6 (show []=(([]:List Int)).map eI from rfl) (eZ Int) (nn eI)) (dH (([]:List Int)++([]:List Int)))) (kZ (h6 (show []=(([]:List Int)).map eI from rfl) (eZ Int) (nn eI)) (dH (([]:List Int)++([]:List Int)))) (dv aO (([]:List Int)++([]:List Int)))) (.br (.da (.eh ((([]:List Int)++([]:List Int)).map eI)))):Con a6 132 [.ib] [] (.isl 1 ((([]:List Int)++([]:List Int)).map eI)) [])
 exact h (by decide))
theorem Zj (x:Int)(l:List Int)(h1:(([]:List Int)++(x::l)).length*8≤140737488355328):Con a6 132 [.isl 1 ((x::l).map eI)] [] (.isl 1 ((([]:List Int)++(x::l)).map eI)) []:=bs [(I 1),.aw (ag 1 (ak .fM [])),.U false,.aw (bp 2 (.aH ((([]:List Int)++(x::l)).length)) 1)] (.gM (by simp:(x::l).map eI≠[]) cz (m3 (show []=(([]:List Int)).map eI from rfl) (eZ Int)) (lG (eZ Int) (cW eI (x::l)):(([]:List Int)++(x::l)).length=0+((x::l).map eI).length) h1 (lr (h6 (show []=(([]:List Int)).map eI from rfl) (eZ Int) (cW eI (x::l))) (dH (([]:List Int)++(x::l)))) (kZ (h6 (show []=(([]:List Int)).map eI from rfl) (eZ Int) (cW eI (x::l))) (dH (([]:List Int)++(x::l)))) (dv aO (([]:List Int)++(x::l)))) (.br (.da (.eh ((([]:List Int)++(x::l)).map eI))))
theorem YJ {aF:List Int}:bw (As aF) (fun r=>Con a6 132 [.isl 1 (aF.map eI)] [] (.isl 1 (r.map eI)) []):=by
 unfold As
 refine .aX fun h=> .ret ?_
 cases aF with
 | nil=>exact .jY Zh Zi
 | cons x l =>
  have h2:=Zj x l (by simpa using h)
  simpa using h2
def GB (ah:List Int)(aB:Int):(Int×Int×(List Int))→S:=fun (fI,af,aa)=>dm [(0,.isl 1 (ah.map eI)),(1,.n .i64 aB),(6,.bj 0 0 0 aa.length),(7,.n .i64 fI),(8,.n .i64 af)] [(ae 1 eI aa)]
def GU (ah:List Int)(aB:Int):(Int×(List Int))→dp
 | a=>⟨some 0,[(6,.bj 0 0 0 a.2.length),(7,.n .i64 a.1)],[(ae 1 eI a.2)]⟩
def GC (ah:List Int)(aB fI af:Int)(aa:List Int):Option ((Int×Int×(List Int))⊕(Int×(List Int))) :=
 if (decide ((0:Int)≤af))=true then
  if 0≤af∧af<ah.length then
  ah[af.toNat]? >>= fun aC =>
  if aB≠0 then
  if 0≤af∧af<(aa.length:Nat) then
  if (0+af.toNat)<aa.length then
  some (.inl ((R ((R (fI*(1000000000:Int)))+aC)).tmod aB,R (af-(1:Int)),aa.set (0+af.toNat) (R ((R ((R (fI*(1000000000:Int)))+aC)).tdiv aB))))
  else none
  else none
  else none
  else none
 else
  some (.inr (fI,aa))
def Iu (ah:List Int)(aB fI af:Int)(aa:List Int):Option (Int×(List Int)):=iter (fun w:Int×Int×(List Int)=>GC ah aB w.1 w.2.1 w.2.2) (fI,af,aa)
theorem T5 {ah:List Int}{aB fI af:Int}{aa:List Int}:bw (GC ah aB fI af aa) (dO a6 39 0 133 [1,1,1,0,1,0,0] (GB ah aB (fI,af,aa)) (GB ah aB) (GU ah aB)):=by
 unfold GC
 exact .ite (fun h1 =>
  .aX fun h2 =>
  .ar fun aC au =>
  .aX fun aA =>
  .aX fun aW =>
  .aX fun a7 =>
  .ret (let q1:=(R ((R ((R (fI*(1000000000:Int)))+aC)).tdiv aB));bf [(I 2),.U true,.aw (bp 5 (.b2 (eI aC)) 2),.aw (bp 9 .fM 1),(I 3),.aL [0] [.cy (ae 1 eI (aa.set (0+af.toNat) q1))] [(0,ii),(1,ii),(6,fY ((aa.set (0+af.toNat) q1).length)),(7,ii),(8,ii)]] (.bg h1 h2.1 (cP eI h2.2) (bT eI au) aA aA aW.1 aW.2 (.dh (hB eI a7) (hx 1) (cZ 1 .live (gF (cW eI aa) (0+af.toNat) q1)) (aI 1 .live aO (aa.set (0+af.toNat) q1)) (hS (dH aa) (0+af.toNat) q1)))))
  (fun h1 =>
  .ret (bf [(I 2),.U false,.aL [0] [.pure] (a8 [6,7])] (.e2 h1 (aI 1 .live aO aa))))
theorem Vq {ah:List Int}{aB fI af:Int}{aa:List Int}{r} (h:Iu ah aB fI af aa=some r):dP a6 39 0 133 [1,1,1,0,1,0,0] (GB ah aB) (GU ah aB) (fI,af,aa) r:=dQ (fun _=>T5) h
def xc (ah:List Int)(aB:Int):Option ((List Int)×Int) :=
 if 0≤(len_ eI ah)∧(8:Int)*(len_ eI ah)≤281474976710656∧(len_ eI ah)<9223372036854775808 then
 Iu ah aB 0 (R ((len_ eI ah)-(1:Int))) (List.replicate (len_ eI ah).toNat 0:List Int) >>= fun r2 =>
 pR r2.2 >>= fun bh =>
 some (bh,r2.1)
 else none
theorem Nl {ah:List Int}{aB:Int}:bw (xc ah aB) (fun r=>Con a6 133 [.isl 1 (ah.map eI),.n .i64 aB] [] (.dX [.isl 1 (r.1.map eI),.n .i64 r.2]) []):=by
 unfold xc
 exact .aX fun h1 =>
  .ar fun r2 ab =>
  .ar fun bh aA =>
  .ret (let q1:=(List.replicate (len_ eI ah).toNat 0:List Int);bs [(I 2),(I 4),(I 1),(I 4),.aL [4] [.cy (ae 1 eI q1)] [(0,ii),(1,ii),(6,fY (q1.length)),(7,ii),(8,ii)],(GU ah aB r2).e8,.iN 0,.aw (bp 1 (.call {ac:=[.br (.da (.eh (r2.2.map eI)))],r:= .isl 1 (bh.map eI),fu:=false,fB:=[0]}) 3)] (.bg h1.1 (Int.le_refl (len_ eI ah)) h1.2.1 h1.2.2 (cZ 1 .live (lF eI (len_ eI ah).toNat 0)) (aI 1 .live aO q1) (l0 (len_ eI ah).toNat (0:Int)) (Vq ab) (.c7 (fW eI r2.2) (fv eI r2.2) (dv aO r2.2) (uj bh aA))))
def HJ (aa:List Int):Nat→S:=fun lH=>dm [(0,.bj 0 0 0 lH)] [(ae 1 eI aa)]
def Ii (aa:List Int):Nat→dp
 | a=>⟨some 0,[(0,.bj 0 0 0 a)],[(ae 1 eI aa)]⟩
def wU (aa:List Int)(lH:Nat):Option ((Nat)⊕(Nat)) :=
 if (decide ((0:Int)<((lH:Nat):Int)))=true then
  if 0≤(R (((lH:Nat):Int)-(1:Int)))∧(R (((lH:Nat):Int)-(1:Int)))<(lH:Nat) then
  aa[(0+(R (((lH:Nat):Int)-(1:Int))).toNat)]? >>= fun aC =>
  if (aC == (0:Int))=true then
   if 0≤(R (((lH:Nat):Int)-(1:Int))) then
   if 0≤(R (((lH:Nat):Int)-(1:Int))).toNat∧(R (((lH:Nat):Int)-(1:Int))).toNat≤lH then
   some (.inl ((R (((lH:Nat):Int)-(1:Int))).toNat-0))
   else none
   else none
  else
   some (.inr lH)
  else none
 else
  some (.inr lH)
def Je (aa:List Int)(lH:Nat):Option (Nat):=iter (fun w:Nat=>wU aa w) lH
theorem U1 {aa:List Int}{lH:Nat}:bw (wU aa lH) (dO a6 21 1 129 [1,0,0,0] (HJ aa lH) (HJ aa) (Ii aa)):=by
 unfold wU
 exact .ite (fun h1 =>
  .aX fun h2 =>
  .ar fun aC au =>
  (let t1:List bW:=[.aw (ag 9 (ak (.b2 (eI aC)) (ag 1 (ak (.U true) []))))];
  have aS:=((.bg h1 h1 h1 h1 h1 h2.1 h2.2 h1 (.bR (bT eI au) h1 h1)):cn _);
  .ite (fun aA =>
  .aX fun aW =>
  .aX fun a7 =>
  .ret (bf (t1.append [.U true,(I 6),.aL [0] [.pure] (a8 [0])]) (aS.aH (.dh aA aW a7.1 a7.2 (aI 1 .live aO aa)))))
  (fun aA =>
  .ret (bf (t1.append [.U false,.aL [0] [.pure] (a8 [0])]) (aS.aH (.e2 aA (aI 1 .live aO aa)))))))
  (fun h1 =>
  .ret (bf [.aw (ag 4 (cj 7 (ak (.U false) []))),.U false,.aL [0] [.pure] (a8 [0])] (.bg h1 h1 h1 h1 h1 h1 h1 h1 (.e2 cz (aI 1 .live aO aa)))))
theorem Wj {aa:List Int}{lH:Nat}{r} (h:Je aa lH=some r):dP a6 21 1 129 [1,0,0,0] (HJ aa) (Ii aa) lH r:=dQ (fun _=>U1) h
def z2 (fD:List Int):Option Nat :=
 Je fD fD.length >>= fun r1 =>
 some r1
theorem Xo {fD:List Int}:bw (z2 fD) (fun a=>Con a6 129 [.bj 0 0 0 fD.length] [(ae 1 eI fD)] (.bj 0 0 0 a) [(ae 1 eI fD)]):=by
 unfold z2
 exact .ar fun r1 h2 =>
  .ret (lU [(I 1),.aL [0] [.pure] (a8 [0]),(Ii fD r1).e8,(I 2)] [0] [.pure] (.bR (aI 1 .live aO fD) (Wj h2) (aI 1 .live aO fD)))
def Hf (aB:List Int)(af aV:Int)(dd:List Int)(de gZ:Int):(Int×Int×(List Int))→S:=fun (c2,df,aa)=>dm [(1,.isl 1 (aB.map eI)),(5,.bj 0 0 0 aa.length),(6,.n .i64 af),(7,.n .i64 aV),(8,.n .i64 c2),(26,.isl 1 (dd.map eI)),(27,.n .i64 de),(28,.n .i64 af),(33,.isl 1 (aB.map eI)),(34,.n .i64 gZ),(35,.n .i64 df)] [(ae 1 eI aa)]
def HK (aB:List Int)(af aV:Int)(dd:List Int)(de gZ:Int):(Int×(List Int))→dp
 | a=>⟨some 2,[(1,.isl 1 (aB.map eI)),(5,.bj 0 0 0 a.2.length),(6,.n .i64 af),(8,.n .i64 a.1),(26,.isl 1 (dd.map eI)),(27,.n .i64 de),(28,.n .i64 af)],[(ae 1 eI a.2)]⟩
def Hg (aB:List Int)(af aV:Int)(dd:List Int)(de gZ c2 df:Int)(aa:List Int):Option ((Int×Int×(List Int))⊕(Int×(List Int))) :=
 if (decide (df<gZ))=true then
  if 0≤df∧df<aB.length then
  aB[df.toNat]? >>= fun aC =>
  if 0≤(R (af+df))∧(R (af+df))<(aa.length:Nat) then
  aa[(0+(R (af+df)).toNat)]? >>= fun cq =>
  if (0+(R (af+df)).toNat)<aa.length then
  some (.inl (R ((R ((R (cq+(R (aV*aC))))+c2)).tdiv (1000000000:Int)),R (df+(1:Int)),aa.set (0+(R (af+df)).toNat) ((R ((R (cq+(R (aV*aC))))+c2)).tmod (1000000000:Int))))
  else none
  else none
  else none
 else
  some (.inr (c2,aa))
def Nw (aB:List Int)(af aV:Int)(dd:List Int)(de gZ c2 df:Int)(aa:List Int):Option (Int×(List Int)):=iter (fun w:Int×Int×(List Int)=>Hg aB af aV dd de gZ w.1 w.2.1 w.2.2) (c2,df,aa)
theorem Uy {aB:List Int}{af aV:Int}{dd:List Int}{de gZ c2 df:Int}{aa:List Int}:bw (Hg aB af aV dd de gZ c2 df aa) (dO a6 72 0 123 [1,1,1,0,1,0,0,1,1,0,0,1,1,0,1,0,0] (Hf aB af aV dd de gZ (c2,df,aa)) (Hf aB af aV dd de gZ) (HK aB af aV dd de gZ)):=by
 unfold Hg
 exact .ite (fun h1 =>
  .aX fun h2 =>
  .ar fun aC au =>
  .aX fun aA =>
  .ar fun cq a7 =>
  .aX fun bi =>
  .ret (let q1:=R ((R (cq+(R (aV*aC))))+c2);let q2:=R (af+df);bf [(I 1),.U true,.aw (bp 2 (.b2 (eI aC)) 2),.aw (bp 5 (.b2 (eI cq)) 7),.aw (bp 9 .fM 1),(I 2),.aL [0] [.cy (ae 1 eI (aa.set (0+q2.toNat) (q1.tmod (1000000000:Int))))] [(1,ii),(5,fY ((aa.set (0+q2.toNat) (q1.tmod (1000000000:Int))).length)),(6,ii),(7,ii),(8,ii),(26,ii),(27,ii),(28,ii),(33,ii),(34,ii),(35,ii)]] (.bg h1 h2.1 (cP eI h2.2) (bT eI au) aA.1 aA.2 (bT eI a7) (by decide:(1000000000:Int)≠0) (.gM (by decide:(1000000000:Int)≠0) aA.1 aA.2 (hB eI bi) (hx 1) (cZ 1 .live (gF (cW eI aa) (0+q2.toNat) (q1.tmod (1000000000:Int)))) (aI 1 .live aO (aa.set (0+q2.toNat) (q1.tmod (1000000000:Int)))) (hS (dH aa) (0+q2.toNat) (q1.tmod (1000000000:Int)))))))
  (fun h1 =>
  .ret (bf [(I 1),.U false,.aL [0] [.pure] (a8 [1,5,6,8,26,27,28])] (.e2 h1 (aI 1 .live aO aa))))
theorem V3 {aB:List Int}{af aV:Int}{dd:List Int}{de gZ c2 df:Int}{aa:List Int}{r} (h:Nw aB af aV dd de gZ c2 df aa=some r):dP a6 72 0 123 [1,1,1,0,1,0,0,1,1,0,0,1,1,0,1,0,0] (Hf aB af aV dd de gZ) (HK aB af aV dd de gZ) (c2,df,aa) r:=dQ (fun _=>Uy) h
def Hh (aB dd:List Int)(de:Int):(Int×(List Int))→S:=fun (fw,aa)=>dm [(1,.isl 1 (aB.map eI)),(5,.bj 0 0 0 aa.length),(26,.isl 1 (dd.map eI)),(27,.n .i64 de),(28,.n .i64 fw)] [(ae 1 eI aa)]
def HL (aB dd:List Int)(de:Int):(List Int)→dp
 | a=>⟨some 0,[(5,.bj 0 0 0 a.length)],[(ae 1 eI a)]⟩
def Hi (aB dd:List Int)(de fw:Int)(aa:List Int):Option ((Int×(List Int))⊕((List Int))) :=
 if (decide (fw<de))=true then
  if 0≤fw∧fw<dd.length then
  dd[fw.toNat]? >>= fun aC =>
  Nw aB fw aC dd de (len_ eI aB) 0 0 aa >>= fun aZ =>
  if 0≤(R (fw+(len_ eI aB)))∧(R (fw+(len_ eI aB)))<(aZ.2.length:Nat) then
  if (0+(R (fw+(len_ eI aB))).toNat)<aZ.2.length then
  some (.inl (R (fw+(1:Int)),aZ.2.set (0+(R (fw+(len_ eI aB))).toNat) aZ.1))
  else none
  else none
  else none
 else
  some (.inr aa)
def I1 (aB dd:List Int)(de fw:Int)(aa:List Int):Option ((List Int)):=iter (fun w:Int×(List Int)=>Hi aB dd de w.1 w.2) (fw,aa)
theorem Uz {aB dd:List Int}{de fw:Int}{aa:List Int}:bw (Hi aB dd de fw aa) (dO a6 72 0 123 [1,1,1,0,1,0,0] (Hh aB dd de (fw,aa)) (Hh aB dd de) (HL aB dd de)):=by
 unfold Hi
 exact .ite (fun h1 =>
  .aX fun h2 =>
  .ar fun aC au =>
  .ar fun aZ aW =>
  .aX fun a7 =>
  .aX fun bi =>
  .ret (let q1:=R (fw+(len_ eI aB));bf [(I 1),.U true,.aw (bp 2 (.b2 (eI aC)) 2),(I 1),(I 3),.aL [0] [.pure] (a8 [1,5,6,7,8,26,27,28,33,34,35]),(HK aB fw aC dd de (len_ eI aB) aZ).e8,.aw (ag 7 (ak .fM [])),(I 2),.aL [0] [.cy (ae 1 eI (aZ.2.set (0+q1.toNat) aZ.1))] [(1,ii),(5,fY ((aZ.2.set (0+q1.toNat) aZ.1).length)),(26,ii),(27,ii),(28,ii)]] (.bg h1 h2.1 (cP eI h2.2) (bT eI au) (aI 1 .live aO aa) (V3 aW) a7.1 a7.2 (.dh (hB eI bi) (hx 1) (cZ 1 .live (gF (cW eI aZ.2) (0+q1.toNat) aZ.1)) (aI 1 .live aO (aZ.2.set (0+q1.toNat) aZ.1)) (hS (dH aZ.2) (0+q1.toNat) aZ.1)))))
  (fun h1 =>
  .ret (bf [(I 1),.U false,.aL [0] [.pure] (a8 [5])] (.e2 h1 (aI 1 .live aO aa))))
theorem V4 {aB dd:List Int}{de fw:Int}{aa:List Int}{r} (h:I1 aB dd de fw aa=some r):dP a6 72 0 123 [1,1,1,0,1,0,0] (Hh aB dd de) (HL aB dd de) (fw,aa) r:=dQ (fun _=>Uz) h
def xl (ah aB:List Int):Option (Nat×(List Int)) :=
 if ((len_ eI ah) == (0:Int))=true then
  none
 else
  if ((len_ eI aB) == (0:Int))=true then
   none
  else
   if 0≤(R ((len_ eI ah)+(len_ eI aB)))∧(8:Int)*(R ((len_ eI ah)+(len_ eI aB)))≤281474976710656∧(R ((len_ eI ah)+(len_ eI aB)))<9223372036854775808 then
   I1 aB ah (len_ eI ah) 0 (List.replicate (R ((len_ eI ah)+(len_ eI aB))).toNat 0:List Int) >>= fun bh =>
   z2 bh >>= fun bA =>
   some (bA,bh)
   else none
theorem Nx {ah aB:List Int}:bw (xl ah aB) (fun a=>Con a6 123 [.isl 1 (ah.map eI),.isl 1 (aB.map eI)] [] (.bj 0 0 0 a.1) [(ae 1 eI a.2)]):=by
 unfold xl
 exact .ite (fun h1 =>
  .RR)
  (fun h1 =>
  .ite (fun h2 =>
  .RR)
  (fun h2 =>
  .aX fun ab =>
  .ar fun bh aA =>
  .ar fun bA a7 =>
  .ret (let q1:=R ((len_ eI ah)+(len_ eI aB));let q2:=(List.replicate q1.toNat 0:List Int);lU [(I 1),.aw (ag 7 (ak (.U false) [])),.U false,(I 7),(I 3),.aL [14] [.cy (ae 1 eI q2)] [(1,ii),(5,fY (q2.length)),(26,ii),(27,ii),(28,ii)],(HL aB ah (len_ eI ah) bh).e8,.aw (bp 1 (.call {aY:=[.row 0],dl:=[.pure],ac:=[ii],r:= .bj 0 0 0 bA,fm:=[(ae 1 eI bh)],hI:=ii,jU:=[.pure],fB:=[0],fu:=false}) 1)] [0] [.pure] (.bg h1 h1 h1 h1 h2 ab.1 (Int.le_refl q1) ab.2.1 (.bg ab.2.2 (cZ 1 .live (lF eI q1.toNat 0)) (aI 1 .live aO q2) (l0 q1.toNat (0:Int)) (V4 aA) (hK 1 aO bh) (hK 1 aO bh) (Xo bA a7) (.e1 (aI 1 .live aO bh)))))))
def HM (ff ep:Nat)(el:List Int)(kl dL:Int):(Int×Int×(List Int))→S:=fun (c2,b9,aa)=>dm [(0,.bj 0 0 ff ep),(1,.isl 1 (el.map eI)),(2,.n .i64 kl),(7,.n .i64 c2),(11,.isl 1 (el.map eI)),(12,.n .i64 dL),(13,.n .i64 b9)] [(ae 1 eI aa)]
def Ij (ff ep:Nat)(el:List Int)(kl dL:Int):(Int×(List Int))→dp
 | a=>⟨some 0,[(0,.bj 0 0 ff ep),(1,.isl 1 (el.map eI)),(7,.n .i64 a.1)],[(ae 1 eI a.2)]⟩
def tX (ff ep:Nat)(el:List Int)(kl dL c2 b9:Int)(aa:List Int):Option ((Int×Int×(List Int))⊕(Int×(List Int))) :=
 if (decide (b9<dL))=true then
  if 0≤b9∧b9<el.length then
  el[b9.toNat]? >>= fun aC =>
  if 0≤b9∧b9<(ep:Nat) then
  aa[(ff+b9.toNat)]? >>= fun cq =>
  if (decide ((R ((R (cq-(R (kl*aC))))-c2))<(0:Int)))=true then
   if (ff+b9.toNat)<aa.length then
   some (.inl (R ((R ((999999999:Int)-(R ((R (cq-(R (kl*aC))))-c2)))).tdiv (1000000000:Int)),R (b9+(1:Int)),aa.set (ff+b9.toNat) (R ((R ((R (cq-(R (kl*aC))))-c2))+(R ((R ((R ((999999999:Int)-(R ((R (cq-(R (kl*aC))))-c2)))).tdiv (1000000000:Int)))*(1000000000:Int)))))))
   else none
  else
   if (ff+b9.toNat)<aa.length then
   some (.inl (0,R (b9+(1:Int)),aa.set (ff+b9.toNat) (R ((R (cq-(R (kl*aC))))-c2))))
   else none
  else none
  else none
 else
  some (.inr (c2,aa))
def Jf (ff ep:Nat)(el:List Int)(kl dL c2 b9:Int)(aa:List Int):Option (Int×(List Int)):=iter (fun w:Int×Int×(List Int)=>tX ff ep el kl dL w.1 w.2.1 w.2.2) (c2,b9,aa)
theorem U2 {ff ep:Nat}{el:List Int}{kl dL c2 b9:Int}{aa:List Int}:bw (tX ff ep el kl dL c2 b9 aa) (dO a6 56 1 134 [1,1,0,1,0,0] (HM ff ep el kl dL (c2,b9,aa)) (HM ff ep el kl dL) (Ij ff ep el kl dL)):=by
 unfold tX
 exact .ite (fun h1 =>
  .aX fun h2 =>
  .ar fun aC au =>
  .aX fun aA =>
  .ar fun cq a7 =>
  (let t1:List bW:=[(I 1),.U true,.aw (bp 2 (.b2 (eI aC)) 2),.aw (bp 3 (.b2 (eI cq)) 7),(I 1),(I 2)];
  have aS:=((.eF h1 h2.1 (cP eI h2.2) (bT eI au) aA.1 aA.2 (bT eI a7)):cn _);
  .ite (fun bi =>
  .aX fun cg =>
  .ret (let q1:=(R ((R ((R (cq-(R (kl*aC))))-c2))+(R ((R ((R ((999999999:Int)-(R ((R (cq-(R (kl*aC))))-c2)))).tdiv (1000000000:Int)))*(1000000000:Int)))));bf (t1.append [.U true,(I 4),(I 5),.aw (ag 4 (ak .fM [])),(I 2),.aL [0] [.cy (ae 1 eI (aa.set (ff+b9.toNat) q1))] (a8 [0,1,2,7,11,12,13])]) (aS.aH (.gM bi (by decide:(1000000000:Int)≠0) aA.1 aA.2 (hB eI cg) (hx 1) (cZ 1 .live (gF (cW eI aa) (ff+b9.toNat) q1)) (aI 1 .live aO (aa.set (ff+b9.toNat) q1))))))
  (fun bi =>
  .aX fun cg =>
  .ret (let q2:=R ((R (cq-(R (kl*aC))))-c2);bf (t1.append [.U false,.aw (ag 4 (ak .fM [])),(I 2),.aL [0] [.cy (ae 1 eI (aa.set (ff+b9.toNat) q2))] (a8 [0,1,2,7,11,12,13])]) (aS.aH (.eF bi aA.1 aA.2 (hB eI cg) (hx 1) (cZ 1 .live (gF (cW eI aa) (ff+b9.toNat) q2)) (aI 1 .live aO (aa.set (ff+b9.toNat) q2))))))))
  (fun h1 =>
  .ret (bf [(I 1),.U false,.aL [0] [.pure] (a8 [0,1,7])] (.e2 h1 (aI 1 .live aO aa))))
theorem Wk {ff ep:Nat}{el:List Int}{kl dL c2 b9:Int}{aa:List Int}{r} (h:Jf ff ep el kl dL c2 b9 aa=some r):dP a6 56 1 134 [1,1,0,1,0,0] (HM ff ep el kl dL) (Ij ff ep el kl dL) (c2,b9,aa) r:=dQ (fun _=>U2) h
def z3 (el:List Int)(kl:Int)(ff ep:Nat)(fD:List Int):Option (Bool×(List Int)) :=
 Jf ff ep el kl (len_ eI el) 0 0 fD >>= fun r1 =>
 if 0≤(len_ eI el)∧(len_ eI el)<(ep:Nat) then
 r1.2[(ff+(len_ eI el).toNat)]? >>= fun fT =>
 if (ff+(len_ eI el).toNat)<r1.2.length then
 (r1.2.set (ff+(len_ eI el).toNat) (R (fT-r1.1)))[(ff+(len_ eI el).toNat)]? >>= fun fi =>
 some ((decide (fi<(0:Int))),r1.2.set (ff+(len_ eI el).toNat) (R (fT-r1.1)))
 else none
 else none
theorem Xp {el:List Int}{kl:Int}{ff ep:Nat}{fD:List Int}:bw (z3 el kl ff ep fD) (fun a=>Con a6 134 (ads 0 0 ff ep el kl) [(ae 1 eI fD)] (.b a.1) [(ae 1 eI a.2)]):=by
 unfold z3
 exact .ar fun r1 h2 =>
  .aX fun ab =>
  .ar fun fT aA =>
  .aX fun aW =>
  .ar fun fi bi =>
  .ret (let q1:=R (fT-r1.1);let q2:=len_ eI el;lU [(I 1),(I 1),(I 3),.aL [0] [.pure] (a8 [0,1,2,7,11,12,13]),(Ij ff ep el kl q2 r1).e8,.aw (ag 4 (ak (.b2 (eI fT)) (ag 3 (ak .fM [])))),.aw (bp 4 (.b2 (eI fi)) 2)] [0] [.cy (ae 1 eI (r1.2.set (ff+q2.toNat) q1))] (.bg (aI 1 .live aO fD) (Wk h2) ab.1 ab.2 (bT eI aA) ab.1 ab.2 (hB eI aW) (.dS (hx 1) ab.1 ab.2 (aaP (gF (cW eI r1.2) (ff+q2.toNat) q1) bi) (cZ 1 .live (gF (cW eI r1.2) (ff+q2.toNat) q1)) (aI 1 .live aO (r1.2.set (ff+q2.toNat) q1)))))
def HN (ff ep:Nat)(el:List Int)(dr:Int):(Int×Int×(List Int))→S:=fun (c2,c0,aa)=>dm [(0,.bj 0 0 ff ep),(1,.isl 1 (el.map eI)),(4,.n .i64 c2),(8,.isl 1 (el.map eI)),(9,.n .i64 dr),(10,.n .i64 c0)] [(ae 1 eI aa)]
def Ik (ff ep:Nat)(el:List Int)(dr:Int):(Int×(List Int))→dp
 | a=>⟨some 0,[(0,.bj 0 0 ff ep),(1,.isl 1 (el.map eI)),(4,.n .i64 a.1)],[(ae 1 eI a.2)]⟩
def wV (ff ep:Nat)(el:List Int)(dr c2 c0:Int)(aa:List Int):Option ((Int×Int×(List Int))⊕(Int×(List Int))) :=
 if (decide (c0<dr))=true then
  if 0≤c0∧c0<el.length then
  el[c0.toNat]? >>= fun aC =>
  if 0≤c0∧c0<(ep:Nat) then
  aa[(ff+c0.toNat)]? >>= fun cq =>
  if (ff+c0.toNat)<aa.length then
  some (.inl (R ((R ((R (cq+aC))+c2)).tdiv (1000000000:Int)),R (c0+(1:Int)),aa.set (ff+c0.toNat) ((R ((R (cq+aC))+c2)).tmod (1000000000:Int))))
  else none
  else none
  else none
 else
  some (.inr (c2,aa))
def Jg (ff ep:Nat)(el:List Int)(dr c2 c0:Int)(aa:List Int):Option (Int×(List Int)):=iter (fun w:Int×Int×(List Int)=>wV ff ep el dr w.1 w.2.1 w.2.2) (c2,c0,aa)
theorem U3 {ff ep:Nat}{el:List Int}{dr c2 c0:Int}{aa:List Int}:bw (wV ff ep el dr c2 c0 aa) (dO a6 39 1 135 [1,0,1,0,0] (HN ff ep el dr (c2,c0,aa)) (HN ff ep el dr) (Ik ff ep el dr)):=by
 unfold wV
 exact .ite (fun h1 =>
  .aX fun h2 =>
  .ar fun aC au =>
  .aX fun aA =>
  .ar fun cq a7 =>
  .aX fun bi =>
  .ret (let q1:=R ((R (cq+aC))+c2);bf [(I 1),.U true,.aw (bp 2 (.b2 (eI aC)) 2),.aw (bp 3 (.b2 (eI cq)) 5),.aw (bp 7 .fM 1),(I 2),.aL [0] [.cy (ae 1 eI (aa.set (ff+c0.toNat) (q1.tmod (1000000000:Int))))] (a8 [0,1,4,8,9,10])] (.bg h1 h2.1 (cP eI h2.2) (bT eI au) aA.1 aA.2 (bT eI a7) (by decide:(1000000000:Int)≠0) (.eF (by decide:(1000000000:Int)≠0) aA.1 aA.2 (hB eI bi) (hx 1) (cZ 1 .live (gF (cW eI aa) (ff+c0.toNat) (q1.tmod (1000000000:Int)))) (aI 1 .live aO (aa.set (ff+c0.toNat) (q1.tmod (1000000000:Int))))))))
  (fun h1 =>
  .ret (bf [(I 1),.U false,.aL [0] [.pure] (a8 [0,1,4])] (.e2 h1 (aI 1 .live aO aa))))
theorem Wl {ff ep:Nat}{el:List Int}{dr c2 c0:Int}{aa:List Int}{r} (h:Jg ff ep el dr c2 c0 aa=some r):dP a6 39 1 135 [1,0,1,0,0] (HN ff ep el dr) (Ik ff ep el dr) (c2,c0,aa) r:=dQ (fun _=>U3) h
def xq (el:List Int)(ff ep:Nat)(fD:List Int):Option (List Int) :=
 Jg ff ep el (len_ eI el) 0 0 fD >>= fun r1 =>
 if 0≤(len_ eI el)∧(len_ eI el)<(ep:Nat) then
 r1.2[(ff+(len_ eI el).toNat)]? >>= fun fT =>
 if (ff+(len_ eI el).toNat)<r1.2.length then
 some (r1.2.set (ff+(len_ eI el).toNat) (R (fT+r1.1)))
 else none
 else none
theorem Xq {el:List Int}{ff ep:Nat}{fD:List Int}:bw (xq el ff ep fD) (fun a=>Con a6 135 [.bj 0 0 ff ep,.isl 1 (el.map eI)] [(ae 1 eI fD)] (.dX []) [(ae 1 eI a)]):=by
 unfold xq
 exact .ar fun r1 h2 =>
  .aX fun ab =>
  .ar fun fT aA =>
  .aX fun aW =>
  .ret (let q1:=R (fT+r1.1);let q2:=len_ eI el;lU [(I 1),(I 3),.aL [0] [.pure] (a8 [0,1,4,8,9,10]),(Ik ff ep el q2 r1).e8,.aw (ag 4 (ak (.b2 (eI fT)) (ag 3 (ak .fM []))))] [0] [.cy (ae 1 eI (r1.2.set (ff+q2.toNat) q1))] (.bg (aI 1 .live aO fD) (Wl h2) ab.1 ab.2 (bT eI aA) ab.1 ab.2 (hB eI aW) (.bR (hx 1) (cZ 1 .live (gF (cW eI r1.2) (ff+q2.toNat) q1)) (aI 1 .live aO (r1.2.set (ff+q2.toNat) q1)))))
def Iv (ah:List Int)(fR:Nat)(aa ay:List Int):(List Int)→S:=fun ap=>dm [(0,.isl 1 (ah.map eI)),(8,.bj 0 0 0 aa.length),(9,.bj 1 0 0 ap.length),(10,.bj 2 0 0 fR)] [(ae 1 eI aa),(ae 1 eI ap),(ae 1 eI ay)]
def IK (ah:List Int)(fR:Nat)(aa ay:List Int):(List Int)→dp
 | a=>⟨some 0,[(8,.bj 0 0 0 aa.length),(9,.bj 1 0 0 a.length),(10,.bj 2 0 0 fR)],[(ae 1 eI aa),(ae 1 eI a),(ae 1 eI ay)]⟩
def CQ (ah:List Int)(fR:Nat)(aa ay ap:List Int):Option (((List Int))⊕((List Int))) :=
 if (decide (((ap.length:Nat):Int)≤(len_ eI ah)))=true then
  if (ap++([0]:List Int)).length*8≤140737488355328 then
  some (.inl (ap++([0]:List Int)))
  else none
 else
  some (.inr ap)
def Df (ah:List Int)(fR:Nat)(aa ay ap:List Int):Option ((List Int)):=iter (fun w:(List Int)=>CQ ah fR aa ay w) ap
theorem Vr {ah:List Int}{fR:Nat}{aa ay ap:List Int}:bw (CQ ah fR aa ay ap) (dO a6 172 0 126 [1,1,1,1,1,0,0,0] (Iv ah fR aa ay ap) (Iv ah fR aa ay) (IK ah fR aa ay)):=by
 unfold CQ
 exact .ite (fun h1 =>
  .aX fun h2 =>
  .ret (let q1:=(ap++([0]:List Int));bf [(I 5),.U true,.aw (bp 2 (.aH (q1.length)) 1),.aL [0,10,2] [.pure,.cy (ae 1 eI q1),.pure] (a8 [0,8,9,10])] (.bg h1 (gN eI 0) (gX eI ap) (gz eI ap 0) h2 (aI 1 .live aO aa) (cZ 1 .live (hd eI ap 0)) (aI 1 .live aO q1) (.e1 (aI 1 .live aO ay)))))
  (fun h1 =>
  .ret (bf [(I 5),.U false,.aL [0,1,2] [.pure,.pure,.pure] (a8 [8,9,10])] (.c7 h1 (aI 1 .live aO aa) (aI 1 .live aO ap) (aI 1 .live aO ay))))
theorem W6 {ah:List Int}{fR:Nat}{aa ay ap:List Int}{r} (h:Df ah fR aa ay ap=some r):dP a6 172 0 126 [1,1,1,1,1,0,0,0] (Iv ah fR aa ay) (IK ah fR aa ay) ap r:=dQ (fun _=>Vr) h
def Iw (ep fR:Nat)(aV bP:Int)(aa ap ay ai:List Int):(Int×Int)→S:=fun (ns,fI)=>dm [(8,.bj 0 0 0 aa.length),(9,.bj 1 0 0 ep),(10,.bj 2 0 0 fR),(11,.n .i64 aV),(12,.bj 3 0 0 ai.length),(13,.n .i64 bP),(15,.n .i64 ns),(16,.n .i64 fI)] [(ae 1 eI aa),(ae 1 eI ap),[ad.mk 1 (ay.map eI) .iN],(ae 1 eI ai)]
def IL (ep fR:Nat)(aV bP:Int)(aa ap ay ai:List Int):Int→dp
 | a=>⟨some 4,[(8,.bj 0 0 0 aa.length),(9,.bj 1 0 0 ep),(10,.bj 2 0 0 fR),(11,.n .i64 aV),(12,.bj 3 0 0 ai.length),(13,.n .i64 bP),(15,.n .i64 a)],[(ae 1 eI aa),(ae 1 eI ap),[ad.mk 1 (ay.map eI) .iN],(ae 1 eI ai)]⟩
def t0 (ep fR:Nat)(aV bP:Int)(aa ap ay ai:List Int)(ns fI:Int):Option ((Int×Int)⊕(Int)) :=
 if (decide ((1000000000:Int)≤ns))=true then
  if 0≤(R (aV-(1:Int)))∧(R (aV-(1:Int)))<(fR:Nat) then
  ay[(0+(R (aV-(1:Int))).toNat)]? >>= fun aC =>
  if (decide ((1000000000:Int)≤(R (fI+aC))))=true then
   some (.inr (R (ns-(1:Int))))
  else
   some (.inl (R (ns-(1:Int)),R (fI+aC)))
  else none
 else
  if 0≤(R (aV-(2:Int)))∧(R (aV-(2:Int)))<(fR:Nat) then
  ay[(0+(R (aV-(2:Int))).toNat)]? >>= fun aC =>
  if 0≤(R ((R (bP+aV))-(2:Int)))∧(R ((R (bP+aV))-(2:Int)))<(ep:Nat) then
  ap[(0+(R ((R (bP+aV))-(2:Int))).toNat)]? >>= fun cq =>
  if (decide ((R ((R (fI*(1000000000:Int)))+cq))<(R (ns*aC))))=true then
   if 0≤(R (aV-(1:Int)))∧(R (aV-(1:Int)))<(fR:Nat) then
   ay[(0+(R (aV-(1:Int))).toNat)]? >>= fun iO =>
   if (decide ((1000000000:Int)≤(R (fI+iO))))=true then
    some (.inr (R (ns-(1:Int))))
   else
    some (.inl (R (ns-(1:Int)),R (fI+iO)))
   else none
  else
   some (.inr ns)
  else none
  else none
def Ju (ep fR:Nat)(aV bP:Int)(aa ap ay ai:List Int)(ns fI:Int):Option (Int):=iter (fun w:Int×Int=>t0 ep fR aV bP aa ap ay ai w.1 w.2) (ns,fI)
theorem Vs {ep fR:Nat}{aV bP:Int}{aa ap ay ai:List Int}{ns fI:Int}:bw (t0 ep fR aV bP aa ap ay ai ns fI) (dO a6 172 0 126 [1,1,1,1,1,1,1,1,0,1,0,0,1,0,0,1,1,0,0,0] (Iw ep fR aV bP aa ap ay ai (ns,fI)) (Iw ep fR aV bP aa ap ay ai) (IL ep fR aV bP aa ap ay ai)):=by
 unfold t0
 exact .ite (fun h1 =>
  .aX fun h2 =>
  .ar fun aC au =>
  (let t1:List bW:=[.aw (ag 3 (cj 18 (ak (.U true) []))),.U true,(I 3),.aw (bp 5 (.b2 (eI aC)) 2),(I 2)];
  have aS:=((.bg h1 h1 h1 h1 h1 h1 h1 h1 (.bg h1 h1 h1 h1 h1 h1 h1 h1 (.eF h1 h1 h1 cL h2.1 h2.2 (bT eI au)))):cn _);
  .ite (fun aA =>
  .ret (bf (t1.append [.U true,.aL [0,1,2,3] [.pure,.pure,.pure,.pure] (a8 [8,9,10,11,12,13,15])]) (aS.aH (.dh aA (aI 1 .live aO aa) (aI 1 .live aO ap) (aI 1 .iN aO ay) (aI 1 .live aO ai)))))
  (fun aA =>
  .ret (bf (t1.append [.U false,.aL [0,1,2,3] [.pure,.pure,.pure,.pure] (a8 [8,9,10,11,12,13,15,16])]) (aS.aH (.dh aA (aI 1 .live aO aa) (aI 1 .live aO ap) (aI 1 .iN aO ay) (aI 1 .live aO ai)))))))
  (fun h1 =>
  .aX fun h2 =>
  .ar fun aC au =>
  .aX fun aA =>
  .ar fun cq a7 =>
  (let t1:List bW:=[.aw (ag 8 (ak (.b2 (eI aC)) (ag 9 (ak (.b2 (eI cq)) (ag 2 (ak (.U false) []))))))];
  have aS:=((.bg h1 h1 h1 h1 h1 h2.1 h2.2 h1 (.bg (bT eI au) h1 h1 h1 h1 h1 h1 h1 (.bg h1 h1 aA.1 aA.2 h1 (bT eI a7) h1 h1 (.e1 h1)))):cn _);
  .ite (fun bi =>
  .aX fun cg =>
  .ar fun iO eH =>
  (let t3:List bW:=t1.append [.U true,(I 3),.aw (bp 5 (.b2 (eI iO)) 2),(I 2)];
  .ite (fun eX =>
  .ret (bf (t3.append [.U true,.aL [0,1,2,3] [.pure,.pure,.pure,.pure] (a8 [8,9,10,11,12,13,15])]) (aS.aH (.bg bi cg.1 cg.2 (bT eI eH) eX (aI 1 .live aO aa) (aI 1 .live aO ap) (aI 1 .iN aO ay) (.e1 (aI 1 .live aO ai))))))
  (fun eX =>
  .ret (bf (t3.append [.U false,.aL [0,1,2,3] [.pure,.pure,.pure,.pure] (a8 [8,9,10,11,12,13,15,16])]) (aS.aH (.bg bi cg.1 cg.2 (bT eI eH) eX (aI 1 .live aO aa) (aI 1 .live aO ap) (aI 1 .iN aO ay) (.e1 (aI 1 .live aO ai))))))))
  (fun bi =>
  .ret (bf (t1.append [.U false,.aL [0,1,2,3] [.pure,.pure,.pure,.pure] (a8 [8,9,10,11,12,13,15])]) (aS.aH (.dh bi (aI 1 .live aO aa) (aI 1 .live aO ap) (aI 1 .iN aO ay) (aI 1 .live aO ai)))))))
theorem W7 {ep fR:Nat}{aV bP:Int}{aa ap ay ai:List Int}{ns fI:Int}{r} (h:Ju ep fR aV bP aa ap ay ai ns fI=some r):dP a6 172 0 126 [1,1,1,1,1,1,1,1,0,1,0,0,1,0,0,1,1,0,0,0] (Iw ep fR aV bP aa ap ay ai) (IL ep fR aV bP aa ap ay ai) (ns,fI) r:=dQ (fun _=>Vs) h
def Ix (ep fR:Nat)(aV:Int)(aa ay:List Int):(Int×(List Int)×(List Int))→S:=fun (bP,ap,ai)=>dm [(8,.bj 0 0 0 aa.length),(9,.bj 1 0 0 ep),(10,.bj 2 0 0 fR),(11,.n .i64 aV),(12,.bj 3 0 0 ai.length),(13,.n .i64 bP)] [(ae 1 eI aa),(ae 1 eI ap),[ad.mk 1 (ay.map eI) .iN],(ae 1 eI ai)]
def IM (ep fR:Nat)(aV:Int)(aa ay:List Int):((List Int)×(List Int))→dp
 | a=>⟨some 2,[(8,.bj 0 0 0 aa.length),(9,.bj 1 0 0 ep),(12,.bj 2 0 0 a.2.length)],[(ae 1 eI aa),(ae 1 eI a.1),(ae 1 eI a.2)]⟩
def ua (ep fR:Nat)(aV:Int)(aa ay:List Int)(bP:Int)(ap ai:List Int):Option ((Int×(List Int)×(List Int))⊕((List Int)×(List Int))) :=
 if (decide ((0:Int)≤bP))=true then
  if 0≤(R (bP+aV))∧(R (bP+aV))<(ep:Nat) then
  ap[(0+(R (bP+aV)).toNat)]? >>= fun aC =>
  if 0≤(R ((R (bP+aV))-(1:Int)))∧(R ((R (bP+aV))-(1:Int)))<(ep:Nat) then
  ap[(0+(R ((R (bP+aV))-(1:Int))).toNat)]? >>= fun cq =>
  if 0≤(R (aV-(1:Int)))∧(R (aV-(1:Int)))<(fR:Nat) then
  ay[(0+(R (aV-(1:Int))).toNat)]? >>= fun ee =>
  if ee≠0 then
  Ju ep fR aV bP aa ap ay ai (R ((R ((R (aC*(1000000000:Int)))+cq)).tdiv ee)) ((R ((R (aC*(1000000000:Int)))+cq)).tmod ee) >>= fun dR =>
  if 0≤bP then
  if bP.toNat≤ep then
  if 0+fR≤ay.length then
  z3 ((ay.drop 0).take fR) dR (0+bP.toNat) (ep-bP.toNat) ap >>= fun gk =>
  if gk.1=true then
   xq ((ay.drop 0).take fR) (0+bP.toNat) (ep-bP.toNat) gk.2 >>= fun jj =>
   if 0≤bP∧bP<(ai.length:Nat) then
   if (0+bP.toNat)<ai.length then
   some (.inl (R (bP-(1:Int)),jj,ai.set (0+bP.toNat) (R (dR-(1:Int)))))
   else none
   else none
  else
   if 0≤bP∧bP<(ai.length:Nat) then
   if (0+bP.toNat)<ai.length then
   some (.inl (R (bP-(1:Int)),gk.2,ai.set (0+bP.toNat) dR))
   else none
   else none
  else none
  else none
  else none
  else none
  else none
  else none
  else none
 else
  some (.inr (ap,ai))
def Jv (ep fR:Nat)(aV:Int)(aa ay:List Int)(bP:Int)(ap ai:List Int):Option ((List Int)×(List Int)):=iter (fun w:Int×(List Int)×(List Int)=>ua ep fR aV aa ay w.1 w.2.1 w.2.2) (bP,ap,ai)
theorem Vt {ep fR:Nat}{aV:Int}{aa ay:List Int}{bP:Int}{ap ai:List Int}:bw (ua ep fR aV aa ay bP ap ai) (dO a6 172 0 126 [1,1,1,1,1,1,1,1,0,1,0,0] (Ix ep fR aV aa ay (bP,ap,ai)) (Ix ep fR aV aa ay) (IM ep fR aV aa ay)):=by
 unfold ua
 exact .ite (fun h1 =>
  .aX fun h2 =>
  .ar fun aC au =>
  .aX fun aA =>
  .ar fun cq a7 =>
  .aX fun bi =>
  .ar fun ee cO =>
  .aX fun eH =>
  .ar fun dR ev =>
  .aX fun ew =>
  .aX fun fP =>
  .aX fun hR =>
  .ar fun gk hq =>
  (let t1:List bW:=[(I 2),.U true,.aw (ag 5 (ak (.b2 (eI aC)) (bp 7 (.b2 (eI cq)) 2))),.aw (ag 5 (ak (.b2 (eI ee)) (bp 6 (.b2 (eI ee)) 3))),.aL [0,1,2,3] [.pure,.pure,.pure,.pure] (a8 [8,9,10,11,12,13,15,16]),(IL ep fR aV bP aa ap ay ai dR).e8,.aw (ag 5 (ak (.call {aY:=[.row 1],dl:=[.pure],ac:=[ii,.br (.da (.eh (((ay.drop 0).take fR).map eI))),ii],r:= .b gk.1,fm:=[(ae 1 eI gk.2)],hI:=ii,jU:=[.pure],fB:=[1,2],fu:=false}) []))];
  have aS:=((.bg h1 h2.1 h2.2 (bT eI au) aA.1 aA.2 (bT eI a7) bi.1 (.bg bi.2 (bT eI cO) eH bi.1 bi.2 (bT eI cO) eH (aI 1 .live aO aa) (.bg (aI 1 .live aO ap) (aI 1 .iN aO ay) (aI 1 .live aO ai) (W7 ev) ew fP (Nat.le_refl ep) (J2 (cW eI ay) 0 fR) (.dh (rj (cW eI ay) hR) (dv aO ((ay.drop 0).take fR)) (hK 1 aO ap) (hK 1 aO gk.2) (Xp gk hq))))):cn _);
  .ite (fun gv =>
  .ar fun jj gK =>
  .aX fun iH =>
  .aX fun mT =>
  .ret (let q1:=(R (dR-(1:Int)));bf (t1.append [.U true,(I 3),.aw (ag 4 (ak (.call {aY:=[.row 1],dl:=[.pure],ac:=[ii,.br (.da (.eh (((ay.drop 0).take fR).map eI)))],r:= .dX [],fm:=[(ae 1 eI jj)],hI:=ii,jU:=[.pure],fB:=[1,2],fu:=false}) [])),.aw (ag 4 (ak .fM [])),(I 3),.aL [0,1,2,3] [.pure,.pure,.pure,.cy (ae 1 eI (ai.set (0+bP.toNat) q1))] [(8,ii),(9,ii),(10,ii),(11,ii),(12,fY ((ai.set (0+bP.toNat) q1).length)),(13,ii)]]) (aS.aH (.bg gv ew fP (Nat.le_refl ep) (J2 (cW eI ay) 0 fR) (rj (cW eI ay) hR) (dv aO ((ay.drop 0).take fR)) (hK 1 aO gk.2) (.bg (hK 1 aO jj) (Xq jj gK) iH.1 iH.2 (hB eI mT) (hx 1) (aI 1 .live aO aa) (aI 1 .live aO jj) (.c7 (aI 1 .iN aO ay) (cZ 1 .live (gF (cW eI ai) (0+bP.toNat) q1)) (aI 1 .live aO (ai.set (0+bP.toNat) q1)) (hS (dH ai) (0+bP.toNat) q1)))))))
  (fun gv =>
  .aX fun fh =>
  .aX fun gK =>
  .ret (bf (t1.append [.U false,.aw (ag 4 (ak .fM [])),(I 3),.aL [0,1,2,3] [.pure,.pure,.pure,.cy (ae 1 eI (ai.set (0+bP.toNat) dR))] [(8,ii),(9,ii),(10,ii),(11,ii),(12,fY ((ai.set (0+bP.toNat) dR).length)),(13,ii)]]) (aS.aH (.bg gv fh.1 fh.2 (hB eI gK) (hx 1) (aI 1 .live aO aa) (aI 1 .live aO gk.2) (aI 1 .iN aO ay) (.bR (cZ 1 .live (gF (cW eI ai) (0+bP.toNat) dR)) (aI 1 .live aO (ai.set (0+bP.toNat) dR)) (hS (dH ai) (0+bP.toNat) dR))))))))
  (fun h1 =>
  .ret (bf [(I 2),.U false,.aL [0,1,3] [.pure,.pure,.pure] (a8 [8,9,12])] (.c7 h1 (aI 1 .live aO aa) (aI 1 .live aO ap) (aI 1 .live aO ai))))
theorem W8 {ep fR:Nat}{aV:Int}{aa ay:List Int}{bP:Int}{ap ai:List Int}{r} (h:Jv ep fR aV aa ay bP ap ai=some r):dP a6 172 0 126 [1,1,1,1,1,1,1,1,0,1,0,0] (Ix ep fR aV aa ay) (IM ep fR aV aa ay) (bP,ap,ai) r:=dQ (fun _=>Vt) h
def xy (ah aB:List Int):Option ((List Int)×(List Int)) :=
 ql ah aB >>= fun r1 =>
 if (decide (r1<(0:Int)))=true then
  As ah >>= fun bh =>
  some (([]:List Int),bh)
 else
  if ((len_ eI aB) == (1:Int))=true then
   if 0≤(0:Int)∧(0:Int)<aB.length then
   aB[0]? >>= fun cq =>
   xc ah cq >>= fun cm =>
   ui (IntKind.wrap .u64 cm.2) >>= fun cY =>
   some (cm.1,cY)
   else none
  else
   if 0≤(R ((len_ eI aB)-(1:Int)))∧(R ((len_ eI aB)-(1:Int)))<aB.length then
   aB[(R ((len_ eI aB)-(1:Int))).toNat]? >>= fun cq =>
   if (R (cq+(1:Int)))≠0 then
   xl ah ([R ((1000000000:Int).tdiv (R (cq+(1:Int))))]:List Int) >>= fun b6 =>
   if b6.1≤b6.2.length then
   if (b6.2.take b6.1++([0]:List Int)).length*8≤140737488355328 then
   xl aB ([R ((1000000000:Int).tdiv (R (cq+(1:Int))))]:List Int) >>= fun ex =>
   Df ah ex.1 ([R ((1000000000:Int).tdiv (R (cq+(1:Int))))]:List Int) ex.2 (b6.2.take b6.1++([0]:List Int)) >>= fun gw =>
   if 0≤(R (((gw.length:Nat):Int)-((ex.1:Nat):Int)))∧(8:Int)*(R (((gw.length:Nat):Int)-((ex.1:Nat):Int)))≤281474976710656∧(R (((gw.length:Nat):Int)-((ex.1:Nat):Int)))<9223372036854775808 then
   Jv gw.length ex.1 ((ex.1:Nat):Int) ([R ((1000000000:Int).tdiv (R (cq+(1:Int))))]:List Int) ex.2 (R ((R (((gw.length:Nat):Int)-((ex.1:Nat):Int)))-(1:Int))) gw (List.replicate (R (((gw.length:Nat):Int)-((ex.1:Nat):Int))).toNat 0:List Int) >>= fun e7 =>
   if 0+gw.length≤e7.1.length then
   pR ((e7.1.drop 0).take gw.length) >>= fun nJ =>
   if 0≤(0:Int)∧(0:Int)<(([R ((1000000000:Int).tdiv (R (cq+(1:Int))))]:List Int).length:Nat) then
   ([R ((1000000000:Int).tdiv (R (cq+(1:Int))))]:List Int)[0]? >>= fun sn =>
   xc nJ sn >>= fun nK =>
   pR e7.2 >>= fun ms =>
   some (ms,nK.1)
   else none
   else none
   else none
   else none
   else none
   else none
   else none
theorem XV {ah aB:List Int}:bw (xy ah aB) (fun r=>Con a6 126 [.isl 1 (ah.map eI),.isl 1 (aB.map eI)] [] (.dX [.isl 1 (r.1.map eI),.isl 1 (r.2.map eI)]) []):=by
 unfold xy
 exact .ar fun r1 h2 =>
  (let t1:List bW:=[(I 2),.aw (bp 2 (bn 2 (.n .i64 r1) true) 1)];
  have aS:=((.e2 (CY r1 h2) (b3.n .i64 r1)):cn _);
  .ite (fun ab =>
  .ar fun bh aA =>
  .ret (bs (t1.append [.U true,.aw (bp 1 (bn 1 (.isl 1 (bh.map eI)) false) 2)]) (aS.aH (.e2 ab (YJ bh aA))) (.comp [.da (.jH 1),.da .id])))
  (fun ab =>
  .ite (fun au =>
  .aX fun aA =>
  .ar fun cq a7 =>
  .ar fun cm cg =>
  .ar fun cY eH =>
  .ret (bs (t1.append [.U false,(I 3),.U true,.aw (ag 3 (ak (.b2 (eI cq)) (ak (bn 2 (.dX [.isl 1 (cm.1.map eI),.n .i64 cm.2]) false) (ag 5 [])))),.aw (bp 3 (bn 1 (.isl 1 (cY.map eI)) false) 2)]) (aS.aH (.eF ab au aA.1 (cP eI aA.2) (bT eI a7) (Nl cm cg) (I0 cY eH)))))
  (fun au =>
  .aX fun aA =>
  .ar fun cq a7 =>
  .aX fun bi =>
  .ar fun b6 cO =>
  .aX fun eH =>
  .aX fun eX =>
  .ar fun ex ew =>
  .ar fun gw hR =>
  .aX fun hp =>
  .ar fun e7 gv =>
  .aX fun fh =>
  .ar fun nJ iH =>
  .aX fun mT =>
  .ar fun sn oQ =>
  .ar fun nK sm =>
  .ar fun ms BU =>
  .ret (let q1:=(R ((1000000000:Int).tdiv (R (cq+(1:Int)))));let q2:=(R (((gw.length:Nat):Int)-((ex.1:Nat):Int)));let bL:=(b6.2.take b6.1++([0]:List Int));let bZ:=(List.replicate q2.toNat 0:List Int);let cH:=(aI 1 .live aO ([q1]:List Int));bs (t1.append [.U false,(I 3),.U false,.aw (bp 5 (.b2 (eI cq)) 4),.aw (ag 2 (ak (.call {aY:=[],dl:=[],ac:=[ii,.br (.da (.eh (([q1]:List Int).map eI)))],r:= .bj 0 0 0 b6.1,fm:=[(ae 1 eI b6.2)],hI:=ii,jU:=[.pure],fB:=[17],fu:=true}) (ag 1 (ak (.aH (bL.length)) (bp 2 (.call {aY:=[],dl:=[],ac:=[ii,.br (.da (.eh (([q1]:List Int).map eI)))],r:= .bj 0 0 0 ex.1,fm:=[(ae 1 eI ex.2)],hI:=ii,jU:=[.pure],fB:=[17],fu:=true}) 2))))),.aL [17,23,26] [.cy (ae 1 eI ([q1]:List Int)),.cy (ae 1 eI bL),.pure] [(0,ii),(8,fY (([q1]:List Int).length)),(9,ii),(10,ii)],(IK ah ex.1 ([q1]:List Int) ex.2 gw).e8,(I 3),(I 6),(I 6),.aL [0,1,2,10] [.pure,.pure,.pure,.cy (ae 1 eI bZ)] [(8,ii),(9,ii),(10,ii),(11,ii),(12,fY (bZ.length)),(13,ii)],.iN 2,.aL [0,1,2,3] [.pure,.pure,.pure,.pure] (a8 [8,9,10,11,12,13]),(IM gw.length ex.1 ((ex.1:Nat):Int) ([q1]:List Int) ex.2 e7).e8,.iN 1,.aw (ag 1 (ak (.call {ac:=[.br (.da (.eh (((e7.1.drop 0).take gw.length).map eI)))],r:= .isl 1 (nJ.map eI),fu:=false,fB:=[1]}) (ag 2 (ak (.b2 (eI sn)) (ak (bn 2 (.dX [.isl 1 (nK.1.map eI),.n .i64 nK.2]) false) (ag 5 [])))))),.iN 2,.aw (bp 1 (.call {ac:=[.br (.da (.eh (e7.2.map eI)))],r:= .isl 1 (ms.map eI),fu:=false,fB:=[2]}) 3)]) (aS.aH (.bg ab au aA.1 (cP eI aA.2) (bT eI a7) bi (lr (show [[.n .i64 q1]]=(([q1]:List Int)).map eI from rfl) (show 1=([q1]:List Int).length from rfl)) (gN eI q1) (.bg (dv aO ([q1]:List Int)) (hK 1 aO b6.2) (Nx b6 cO) (b3.bj 0 0 0 b6.1) ((pf (nW (nt s4) pn) pk):nh [(ae 1 eI b6.2)]) (gN eI 0) (rj (cW eI b6.2) eH) (adk eI eH 0) (.bg eX (lr (show [[.n .i64 q1]]=(([q1]:List Int)).map eI from rfl) (show 1=([q1]:List Int).length from rfl)) (gN eI q1) (dv aO ([q1]:List Int)) (hK 1 aO ex.2) (Nx ex ew) (b3.bj 0 0 0 ex.1) ((pf (nW (nt s4) pn) pk):nh [(ae 1 eI ex.2)]) (.bg (cZ 1 .live (show [[.n .i64 q1]]=(([q1]:List Int)).map eI from rfl)) cH (cZ 1 .live (J3 (cW eI b6.2) b6.1 (vv eI 0))) (aI 1 .live aO bL) (aI 1 .live aO ex.2) (show 1=([q1]:List Int).length from rfl) (W6 hR) hp.1 (.bg (Int.le_refl q2) hp.2.1 hp.2.2 cH (aI 1 .live aO gw) (aI 1 .live aO ex.2) (cZ 1 .live (lF eI q2.toNat 0)) (aI 1 .live aO bZ) (.bg (l0 q2.toNat (0:Int)) cH (aI 1 .live aO gw) (aI 1 .iN aO ex.2) (aI 1 .live aO bZ) (W8 gv) (J2 (cW eI e7.1) 0 gw.length) (rj (cW eI e7.1) fh) (.bg (dv aO ((e7.1.drop 0).take gw.length)) (uj nJ iH) mT.1 mT.2 (bT eI oQ) (Nl nK sm) (fW eI e7.2) (fv eI e7.2) (.e2 (dv aO e7.2) (uj ms BU))))))))))))))
def sG (c5 er:bm):Option bm :=
 xy c5.cA er.cA >>= fun r1 =>
 m0 (!(c5.cQ == er.cQ)) r1.1 >>= fun bc =>
 some bc
theorem GD {c5 er:bm}:bw (sG c5 er) (fun r=>Con a6 109 [.agg (aT c5),.agg (aT er)] [] (.agg (aT r)) []):=by
 unfold sG
 exact .ar fun r1 h2 =>
  .ar fun bc au =>
  .ret (bs [(I 3),.aw (bp 4 (bn 2 (.dX [.isl 1 (r1.1.map eI),.isl 1 (r1.2.map eI)]) false) 5),.aw (bp 6 (bn 2 (.agg (aT bc)) false) 1)] (.e2 (XV r1 h2) (sI bc au)))
def FD (bU bq:Int)(gH jM:bu)(js iY jr:Int)(aJ:Bool)(aG:List Int)(bo:Int)(ap:List bu)(ai:List Int)(aE:List Bool)(je:Bool)(ja:List Int)(n6:Bool)(nZ:List Int):(Int×(List (List bm)))→S:=fun (eW,a3)=>dm [(0,.ref 0 0 0 0),(1,.n .i64 bU),(2,.n .i64 bq),(6,lB 2 0 2 gH),(7,.ref 5 0 0 0),(9,lB 2 0 2 jM),(10,.ref 6 0 0 0),(30,.bj 1 0 0 ap.length),(31,.n .i64 js),(32,.n .i64 iY),(45,.n .i64 jr),(46,.n .i64 eW)] [[ad.mk 6 [(fZ 1 0 0 ap.length aJ aG 3 0 0 ai.length bo 4 0 0 aE.length)] .live],(ae 1 (bk 2 0 2) ap),(b5 2 aT a3),(ae 1 eI ai),(ae 1 ed aE),[ad.mk 2 [[.b je,.isl 1 (ja.map eI)]] .live],[ad.mk 2 [[.b n6,.isl 1 (nZ.map eI)]] .live]]
def FL (bU bq:Int)(gH jM:bu)(js iY jr:Int)(aJ:Bool)(aG:List Int)(bo:Int)(ap:List bu)(ai:List Int)(aE:List Bool)(je:Bool)(ja:List Int)(n6:Bool)(nZ:List Int):(List (List bm))→dp
 | a=>⟨some 2,[(0,.ref 0 0 0 0),(1,.n .i64 bU),(2,.n .i64 bq),(6,lB 2 0 2 gH),(7,.ref 5 0 0 0),(30,.bj 1 0 0 ap.length),(31,.n .i64 js),(32,.n .i64 iY)],[[ad.mk 6 [(fZ 1 0 0 ap.length aJ aG 3 0 0 ai.length bo 4 0 0 aE.length)] .live],(ae 1 (bk 2 0 2) ap),(b5 2 aT a),(ae 1 eI ai),(ae 1 ed aE),[ad.mk 2 [[.b je,.isl 1 (ja.map eI)]] .live]]⟩
def vQ (bU bq:Int)(gH jM:bu)(js iY jr:Int)(aJ:Bool)(aG:List Int)(bo:Int)(ap:List bu)(ai:List Int)(aE:List Bool)(je:Bool)(ja:List Int)(n6:Bool)(nZ:List Int)(eW:Int)(a3:List (List bm)):Option ((Int×(List (List bm)))⊕((List (List bm)))) :=
 if (decide (eW<jr))=true then
  jM >>= fun gQ =>
  a3[gQ.1]? >>= fun jV =>
  if 0≤eW∧eW<(gQ.2:Nat) then
  jV[(0+eW.toNat)]? >>= fun fi =>
  pb fi (⟨je,ja⟩:bm) >>= fun b6 =>
  oV (⟨n6,nZ⟩:bm) >>= fun dc =>
  if (dc != (0:Int))=true then
   gH >>= fun vf =>
   a3[vf.1]? >>= fun yI =>
   if 0≤eW∧eW<(vf.2:Nat) then
   yI[(0+eW.toNat)]? >>= fun qW =>
   oV qW >>= fun nJ =>
   if (nJ != (0:Int))=true then
    pb (⟨n6,nZ⟩:bm) qW >>= fun pD =>
    tZ b6 pD >>= fun nK =>
    sG nK (⟨aJ,aG⟩:bm) >>= fun ms =>
    some (.inl (R (eW+(1:Int)),a3.set gQ.1 (jV.set (0+eW.toNat) ms)))
   else
    sG b6 (⟨aJ,aG⟩:bm) >>= fun pD =>
    some (.inl (R (eW+(1:Int)),a3.set gQ.1 (jV.set (0+eW.toNat) pD)))
   else none
  else
   sG b6 (⟨aJ,aG⟩:bm) >>= fun gb =>
   some (.inl (R (eW+(1:Int)),a3.set gQ.1 (jV.set (0+eW.toNat) gb)))
  else none
 else
  some (.inr a3)
def CB (bU bq:Int)(gH jM:bu)(js iY jr:Int)(aJ:Bool)(aG:List Int)(bo:Int)(ap:List bu)(ai:List Int)(aE:List Bool)(je:Bool)(ja:List Int)(n6:Bool)(nZ:List Int)(eW:Int)(a3:List (List bm)):Option ((List (List bm))):=iter (fun w:Int×(List (List bm))=>vQ bU bq gH jM js iY jr aJ aG bo ap ai aE je ja n6 nZ w.1 w.2) (eW,a3)
theorem Tk {bU bq:Int}{gH jM:bu}{js iY jr:Int}{aJ:Bool}{aG:List Int}{bo:Int}{ap:List bu}{ai:List Int}{aE:List Bool}{je:Bool}{ja:List Int}{n6:Bool}{nZ:List Int}{eW:Int}{a3:List (List bm)}:bw (vQ bU bq gH jM js iY jr aJ aG bo ap ai aE je ja n6 nZ eW a3) (dO a6 128 5 91 [1,1,0,1,0,0,1,1,0,0,1,1,1,1,0,0] (FD bU bq gH jM js iY jr aJ aG bo ap ai aE je ja n6 nZ (eW,a3)) (FD bU bq gH jM js iY jr aJ aG bo ap ai aE je ja n6 nZ) (FL bU bq gH jM js iY jr aJ aG bo ap ai aE je ja n6 nZ)):=by
 unfold vQ
 exact .ite (fun h1 =>
  .ar fun gQ ab =>
  .ar fun jV aA =>
  .aX fun aW =>
  .ar fun fi bi =>
  .ar fun b6 cO =>
  .ar fun dc eX =>
  (let jv:=jX (gd .live 2 aT a3) i5 aA;let t1:List bW:=[(I 1),.U true,(I 2),.aw (ag 2 (ak (.kf 49 (.bj 2 (gQ.1+0) 0 gQ.2) (.gf (ad.mk 2 (jV.map aT) .live) [])) (ak (.gf (ad.mk 2 (jV.map aT) .live) (aT fi)) (bp 1 (bn 2 (.agg (aT b6)) false) 2))))];
  have aS:=((.bg h1 (l1 (dN:=2) (c:=0) (sz:=2) ab) jv aW.1 aW.2 jv (bT aT bi) (wF b6 cO) (.e2 (sF dc eX) (b3.n .i64 dc))):cn _);
  .ite (fun ev =>
  .ar fun vf fP =>
  .ar fun yI hp =>
  .aX fun hq =>
  .ar fun qW fh =>
  .ar fun nJ iH =>
  (let hD:=jX (gd .live 2 aT a3) i5 hp;let t3:List bW:=t1.append [.aw (ag 1 (ak (bn 1 (.n .i64 dc) true) (ag 4 (ak (.kf 59 (.bj 2 (vf.1+0) 0 vf.2) (.gf (ad.mk 2 (yI.map aT) .live) [])) (ak (.gf (ad.mk 2 (yI.map aT) .live) (aT qW)) (ak (bn 1 (.n .i64 nJ) true) (ag 1 (ak (.U true) []))))))))];
  have eP:=aS.aH (.bg ev ev ev (l1 (dN:=2) (c:=0) (sz:=2) fP) hD hq.1 hq.2 ev (.eF hD (bT aT fh) ev (sF nJ iH) (b3.n .i64 nJ) ev ev));
  .ite (fun mT =>
  .ar fun pD oQ =>
  .ar fun nK sm =>
  .ar fun ms BU =>
  .ret (let q1:=jX (gd .live 2 aT a3) i5 hp;let q2:=jX (gd .live 2 aT a3) i5 aA;let bL:=cF [0,1,2,3,4,5,6];bf (t3.append [.U true,.aw (ag 4 (ak (.kf 68 (.bj 2 (vf.1+0) 0 vf.2) (.gf (ad.mk 2 (yI.map aT) .live) [])) (ak (.gf (ad.mk 2 (yI.map aT) .live) (aT qW)) (ak (bn 2 (.agg (aT pD)) false) (ak (bn 2 (.agg (aT nK)) false) (ag 1 [])))))),.aw (ag 7 (ak (bn 2 (.agg (aT ms)) false) (ak (.kf 74 (.bj 2 (gQ.1+0) 0 gQ.2) (.gf (ad.mk 2 (jV.map aT) .live) [])) (ak (.gf (ad.mk 2 (jV.map aT) .live) (aT fi)) [])))),(I 2),.aL [0,1,2,3,4,5,6] [.box [.id,.id,.id,.id,.id,.id],.bF (ae 1 (bk 2 0 2) ap),.bF (b5 2 aT (a3.set gQ.1 (jV.set (0+eW.toNat) ms))),.pure,.pure,.box [.id,.id],.box [.id,.id]] (a8 [0,1,2,6,7,9,10,30,31,32,45,46])]) (eP.aH (.bg mT (l1 (dN:=2) (c:=0) (sz:=2) fP) q1 hq.1 hq.2 q1 (bT aT fh) (wF pD oQ) (.bg (MR nK sm) (GD ms BU) (l1 (dN:=2) (c:=0) (sz:=2) ab) q2 aW.1 aW.2 q2 (bT aT bi) (.c7 (et bL 2 2 0 2 rfl ap) (m4 (b7:=bL) (o0 (gd .live 2 aT a3) gQ.1 (qp (cW aT jV) (0+eW.toNat) ms (rfl:(setCells (aT fi) 0 (aT ms))=aT ms))) (mj e4)) (aI 1 .live aO ai) (aI 1 .live eS aE)))))))
  (fun mT =>
  .ar fun pD oQ =>
  .ret (let bZ:=jX (gd .live 2 aT a3) i5 aA;let cH:=cF [0,1,2,3,4,5,6];bf (t3.append [.U false,.aw (ag 7 (ak (bn 2 (.agg (aT pD)) false) (ak (.kf 74 (.bj 2 (gQ.1+0) 0 gQ.2) (.gf (ad.mk 2 (jV.map aT) .live) [])) (ak (.gf (ad.mk 2 (jV.map aT) .live) (aT fi)) [])))),(I 2),.aL [0,1,2,3,4,5,6] [.box [.id,.id,.id,.id,.id,.id],.bF (ae 1 (bk 2 0 2) ap),.bF (b5 2 aT (a3.set gQ.1 (jV.set (0+eW.toNat) pD))),.pure,.pure,.box [.id,.id],.box [.id,.id]] (a8 [0,1,2,6,7,9,10,30,31,32,45,46])]) (eP.aH (.bg mT (GD pD oQ) (l1 (dN:=2) (c:=0) (sz:=2) ab) bZ aW.1 aW.2 bZ (bT aT bi) (.c7 (et cH 2 2 0 2 rfl ap) (m4 (b7:=cH) (o0 (gd .live 2 aT a3) gQ.1 (qp (cW aT jV) (0+eW.toNat) pD (rfl:(setCells (aT fi) 0 (aT pD))=aT pD))) (mj e4)) (aI 1 .live aO ai) (aI 1 .live eS aE))))))))
  (fun ev =>
  .ar fun gb fP =>
  .ret (let d8:=jX (gd .live 2 aT a3) i5 aA;let fK:=cF [0,1,2,3,4,5,6];bf (t1.append [.aw (ag 1 (ak (bn 1 (.n .i64 dc) true) (ag 2 (cj 6 (ak (.U false) []))))),.U false,.aw (ag 7 (ak (bn 2 (.agg (aT gb)) false) (ak (.kf 74 (.bj 2 (gQ.1+0) 0 gQ.2) (.gf (ad.mk 2 (jV.map aT) .live) [])) (ak (.gf (ad.mk 2 (jV.map aT) .live) (aT fi)) [])))),(I 2),.aL [0,1,2,3,4,5,6] [.box [.id,.id,.id,.id,.id,.id],.bF (ae 1 (bk 2 0 2) ap),.bF (b5 2 aT (a3.set gQ.1 (jV.set (0+eW.toNat) gb))),.pure,.pure,.box [.id,.id],.box [.id,.id]] (a8 [0,1,2,6,7,9,10,30,31,32,45,46])]) (aS.aH (.bg ev ev ev ev ev ev ev cz (.bg (GD gb fP) (l1 (dN:=2) (c:=0) (sz:=2) ab) d8 aW.1 aW.2 d8 (bT aT bi) (et fK 2 2 0 2 rfl ap) (.bR (m4 (b7:=fK) (o0 (gd .live 2 aT a3) gQ.1 (qp (cW aT jV) (0+eW.toNat) gb (rfl:(setCells (aT fi) 0 (aT gb))=aT gb))) (mj e4)) (aI 1 .live aO ai) (aI 1 .live eS aE)))))))))
  (fun h1 =>
  .ret (let eB:=cF [0,1,2,3,4,5];bf [(I 1),.U false,.aL [0,1,2,3,4,5] [.box [.id,.id,.id,.id,.id,.id],.bF (ae 1 (bk 2 0 2) ap),.bF (b5 2 aT a3),.pure,.pure,.box [.id,.id]] (a8 [0,1,2,6,7,30,31,32])] (.dh h1 (et eB 2 2 0 2 rfl ap) (dB eB 2 e4 a3) (aI 1 .live aO ai) (aI 1 .live eS aE))))
theorem TV {bU bq:Int}{gH jM:bu}{js iY jr:Int}{aJ:Bool}{aG:List Int}{bo:Int}{ap:List bu}{ai:List Int}{aE:List Bool}{je:Bool}{ja:List Int}{n6:Bool}{nZ:List Int}{eW:Int}{a3:List (List bm)}{r} (h:CB bU bq gH jM js iY jr aJ aG bo ap ai aE je ja n6 nZ eW a3=some r):dP a6 128 5 91 [1,1,0,1,0,0,1,1,0,0,1,1,1,1,0,0] (FD bU bq gH jM js iY jr aJ aG bo ap ai aE je ja n6 nZ) (FL bU bq gH jM js iY jr aJ aG bo ap ai aE je ja n6 nZ) (eW,a3) r:=dQ (fun _=>Tk) h
def FE (bU bq:Int)(gH:bu)(js:Int)(aJ:Bool)(aG:List Int)(bo:Int)(ap:List bu)(ai:List Int)(aE:List Bool)(je:Bool)(ja:List Int):(Int×(List (List bm)))→S:=fun (iY,a3)=>dm [(0,.ref 0 0 0 0),(1,.n .i64 bU),(2,.n .i64 bq),(6,lB 2 0 2 gH),(7,.ref 5 0 0 0),(30,.bj 1 0 0 ap.length),(31,.n .i64 js),(32,.n .i64 iY)] [[ad.mk 6 [(fZ 1 0 0 ap.length aJ aG 3 0 0 ai.length bo 4 0 0 aE.length)] .live],(ae 1 (bk 2 0 2) ap),(b5 2 aT a3),(ae 1 eI ai),(ae 1 ed aE),[ad.mk 2 [[.b je,.isl 1 (ja.map eI)]] .live]]
def FM (bU bq:Int)(gH:bu)(js:Int)(aJ:Bool)(aG:List Int)(bo:Int)(ap:List bu)(ai:List Int)(aE:List Bool)(je:Bool)(ja:List Int):(List (List bm))→dp
 | a=>⟨some 0,[(0,.ref 0 0 0 0),(1,.n .i64 bU),(2,.n .i64 bq),(7,.ref 5 0 0 0)],[[ad.mk 6 [(fZ 1 0 0 ap.length aJ aG 3 0 0 ai.length bo 4 0 0 aE.length)] .live],(ae 1 (bk 2 0 2) ap),(b5 2 aT a),(ae 1 eI ai),(ae 1 ed aE),[ad.mk 2 [[.b je,.isl 1 (ja.map eI)]] .live]]⟩
def vR (bU bq:Int)(gH:bu)(js:Int)(aJ:Bool)(aG:List Int)(bo:Int)(ap:List bu)(ai:List Int)(aE:List Bool)(je:Bool)(ja:List Int)(iY:Int)(a3:List (List bm)):Option ((Int×(List (List bm)))⊕((List (List bm)))) :=
 if (decide (iY<js))=true then
  if 0≤iY∧iY<(ap.length:Nat) then
  ap[(0+iY.toNat)]? >>= fun aC =>
  if (iY == bU)=true then
   some (.inl (R (iY+(1:Int)),a3))
  else
   aC >>= fun sA =>
   a3[sA.1]? >>= fun Cj =>
   if 0≤bq∧bq<(sA.2:Nat) then
   Cj[(0+bq.toNat)]? >>= fun pC =>
   CB bU bq gH aC js iY ((sA.2:Nat):Int) aJ aG bo ap ai aE je ja pC.cQ pC.cA 0 a3 >>= fun ex =>
   some (.inl (R (iY+(1:Int)),ex))
   else none
  else none
 else
  some (.inr a3)
def CC (bU bq:Int)(gH:bu)(js:Int)(aJ:Bool)(aG:List Int)(bo:Int)(ap:List bu)(ai:List Int)(aE:List Bool)(je:Bool)(ja:List Int)(iY:Int)(a3:List (List bm)):Option ((List (List bm))):=iter (fun w:Int×(List (List bm))=>vR bU bq gH js aJ aG bo ap ai aE je ja w.1 w.2) (iY,a3)
theorem Tl {bU bq:Int}{gH:bu}{js:Int}{aJ:Bool}{aG:List Int}{bo:Int}{ap:List bu}{ai:List Int}{aE:List Bool}{je:Bool}{ja:List Int}{iY:Int}{a3:List (List bm)}:bw (vR bU bq gH js aJ aG bo ap ai aE je ja iY a3) (dO a6 128 5 91 [1,1,0,1,0,0] (FE bU bq gH js aJ aG bo ap ai aE je ja (iY,a3)) (FE bU bq gH js aJ aG bo ap ai aE je ja) (FM bU bq gH js aJ aG bo ap ai aE je ja)):=by
 unfold vR
 exact .ite (fun h1 =>
  .aX fun h2 =>
  .ar fun aC au =>
  (let t1:List bW:=[(I 1),.U true,.aw (bp 2 (.b2 ((bk 2 0 2) aC)) 2),(I 3)];
  have aS:=((.c7 h1 h2.1 h2.2 (bT (bk 2 0 2) au)):cn _);
  .ite (fun aA =>
  .ret (let q1:=cF [0,1,2,3,4,5];bf (t1.append [.U true,(I 2),.aL [0,1,2,3,4,5] [.box [.id,.id,.id,.id,.id,.id],.bF (ae 1 (bk 2 0 2) ap),.bF (b5 2 aT a3),.pure,.pure,.box [.id,.id]] (a8 [0,1,2,6,7,30,31,32])]) (aS.aH (.dh aA (et q1 2 2 0 2 rfl ap) (dB q1 2 e4 a3) (aI 1 .live aO ai) (aI 1 .live eS aE)))))
  (fun aA =>
  .ar fun sA a7 =>
  .ar fun Cj cg =>
  .aX fun cO =>
  .ar fun pC eX =>
  .ar fun ex ew =>
  .ret (let q2:=jX (gd .live 2 aT a3) i5 cg;let bL:=cF [0,1,2,3,4,5,19];let bZ:=cF [0,1,2,3,4,5];bf (t1.append [.U false,.aw (ag 2 (ak (.kf 40 (.bj 2 (sA.1+0) 0 sA.2) (.gf (ad.mk 2 (Cj.map aT) .live) [])) (ak (.gf (ad.mk 2 (Cj.map aT) .live) (aT pC)) (ag 2 [])))),.aw (bp 1 (.kf 44 (.bj 2 (sA.1+0) 0 sA.2) (.gf (ad.mk 2 (Cj.map aT) .live) [])) 1),.aL [0,1,2,3,4,5,19] [.box [.id,.id,.id,.id,.id,.id],.bF (ae 1 (bk 2 0 2) ap),.bF (b5 2 aT a3),.pure,.pure,.box [.id,.id],.box [.id,.id]] (a8 [0,1,2,6,7,9,10,30,31,32,45,46]),(FL bU bq gH aC js iY ((sA.2:Nat):Int) aJ aG bo ap ai aE je ja pC.cQ pC.cA ex).e8,(I 2),.aL [0,1,2,3,4,5] [.box [.id,.id,.id,.id,.id,.id],.bF (ae 1 (bk 2 0 2) ap),.bF (b5 2 aT ex),.pure,.pure,.box [.id,.id]] (a8 [0,1,2,6,7,30,31,32])]) (aS.aH (.bg aA (l1 (dN:=2) (c:=0) (sz:=2) a7) q2 cO.1 cO.2 q2 (bT aT eX) (l1 (dN:=2) (c:=0) (sz:=2) a7) (.bg q2 (et bL 2 2 0 2 rfl ap) (dB bL 2 e4 a3) (aI 1 .live aO ai) (aI 1 .live eS aE) (TV ew) (et bZ 2 2 0 2 rfl ap) (dB bZ 2 e4 ex) (.e2 (aI 1 .live aO ai) (aI 1 .live eS aE)))))))))
  (fun h1 =>
  .ret (let cH:=cF [0,1,2,3,4,5];bf [(I 1),.U false,.aL [0,1,2,3,4,5] [.box [.id,.id,.id,.id,.id,.id],.bF (ae 1 (bk 2 0 2) ap),.bF (b5 2 aT a3),.pure,.pure,.box [.id,.id]] (a8 [0,1,2,7])] (.dh h1 (et cH 2 2 0 2 rfl ap) (dB cH 2 e4 a3) (aI 1 .live aO ai) (aI 1 .live eS aE))))
theorem TW {bU bq:Int}{gH:bu}{js:Int}{aJ:Bool}{aG:List Int}{bo:Int}{ap:List bu}{ai:List Int}{aE:List Bool}{je:Bool}{ja:List Int}{iY:Int}{a3:List (List bm)}{r} (h:CC bU bq gH js aJ aG bo ap ai aE je ja iY a3=some r):dP a6 128 5 91 [1,1,0,1,0,0] (FE bU bq gH js aJ aG bo ap ai aE je ja) (FM bU bq gH js aJ aG bo ap ai aE je ja) (iY,a3) r:=dQ (fun _=>Tl) h
def FF (jM:bu)(jo jq ou:Int)(aJ:Bool)(aG:List Int)(bo:Int)(ap:List bu)(ai:List Int)(aE:List Bool):(Int×(List (List bm)))→S:=fun (m5,a3)=>dm [(14,lB 2 0 2 jM),(107,.bj 1 0 0 ap.length),(108,.n .i64 jo),(109,.n .i64 jq),(114,.n .i64 ou),(115,.n .i64 m5)] [[ad.mk 6 [(fZ 1 0 0 ap.length aJ aG 3 0 0 ai.length bo 4 0 0 aE.length)] .live],(ae 1 (bk 2 0 2) ap),(b5 2 aT a3),(ae 1 eI ai),(ae 1 ed aE)]
def FN (jM:bu)(jo jq ou:Int)(aJ:Bool)(aG:List Int)(bo:Int)(ap:List bu)(ai:List Int)(aE:List Bool):(List (List bm))→dp
 | a=>⟨some 6,[(107,.bj 1 0 0 ap.length),(108,.n .i64 jo),(109,.n .i64 jq)],[[ad.mk 6 [(fZ 1 0 0 ap.length aJ aG 3 0 0 ai.length bo 4 0 0 aE.length)] .live],(ae 1 (bk 2 0 2) ap),(b5 2 aT a),(ae 1 eI ai),(ae 1 ed aE)]⟩
def vS (jM:bu)(jo jq ou:Int)(aJ:Bool)(aG:List Int)(bo:Int)(ap:List bu)(ai:List Int)(aE:List Bool)(m5:Int)(a3:List (List bm)):Option ((Int×(List (List bm)))⊕((List (List bm)))) :=
 if (decide (m5<ou))=true then
  jM >>= fun gQ =>
  a3[gQ.1]? >>= fun jV =>
  if 0≤m5∧m5<(gQ.2:Nat) then
  jV[(0+m5.toNat)]? >>= fun fi =>
  rC fi >>= fun b6 =>
  some (.inl (R (m5+(1:Int)),a3.set gQ.1 (jV.set (0+m5.toNat) b6)))
  else none
 else
  some (.inr a3)
def CD (jM:bu)(jo jq ou:Int)(aJ:Bool)(aG:List Int)(bo:Int)(ap:List bu)(ai:List Int)(aE:List Bool)(m5:Int)(a3:List (List bm)):Option ((List (List bm))):=iter (fun w:Int×(List (List bm))=>vS jM jo jq ou aJ aG bo ap ai aE w.1 w.2) (m5,a3)
theorem Tm {jM:bu}{jo jq ou:Int}{aJ:Bool}{aG:List Int}{bo:Int}{ap:List bu}{ai:List Int}{aE:List Bool}{m5:Int}{a3:List (List bm)}:bw (vS jM jo jq ou aJ aG bo ap ai aE m5 a3) (dO a6 128 5 91 [1,1,1,1,1,1,1,1,0,0,1,1,0,0,1,1,0,0] (FF jM jo jq ou aJ aG bo ap ai aE (m5,a3)) (FF jM jo jq ou aJ aG bo ap ai aE) (FN jM jo jq ou aJ aG bo ap ai aE)):=by
 unfold vS
 exact .ite (fun h1 =>
  .ar fun gQ ab =>
  .ar fun jV aA =>
  .aX fun aW =>
  .ar fun fi bi =>
  .ar fun b6 cO =>
  .ret (let q1:=jX (gd .live 2 aT a3) i5 aA;bf [(I 1),.U true,(I 2),.aw (ag 4 (ak (.kf 120 (.bj 2 (gQ.1+0) 0 gQ.2) (.gf (ad.mk 2 (jV.map aT) .live) [])) (ak (.gf (ad.mk 2 (jV.map aT) .live) (aT fi)) (ak (bn 1 (.agg (aT b6)) false) (ak (.kf 118 (.bj 2 (gQ.1+0) 0 gQ.2) (.gf (ad.mk 2 (jV.map aT) .live) [])) (ak (.gf (ad.mk 2 (jV.map aT) .live) (aT fi)) [])))))),(I 2),.aL [0,1,2,3,4] [.box [.id,.id,.id,.id,.id,.id],.bF (ae 1 (bk 2 0 2) ap),.bF (b5 2 aT (a3.set gQ.1 (jV.set (0+m5.toNat) b6))),.pure,.pure] (a8 [14,107,108,109,114,115])] (.bg h1 (l1 (dN:=2) (c:=0) (sz:=2) ab) q1 aW.1 aW.2 q1 (bT aT bi) (Gm b6 cO) (.bg (l1 (dN:=2) (c:=0) (sz:=2) ab) q1 aW.1 aW.2 q1 (bT aT bi) (et (cF [0,1,2,3,4]) 2 2 0 2 rfl ap) (m4 (b7:=(cF [0,1,2,3,4])) (o0 (gd .live 2 aT a3) gQ.1 (qp (cW aT jV) (0+m5.toNat) b6 (rfl:(setCells (aT fi) 0 (aT b6))=aT b6))) (mj e4)) (.e2 (aI 1 .live aO ai) (aI 1 .live eS aE))))))
  (fun h1 =>
  .ret (bf [(I 1),.U false,.aL [0,1,2,3,4] [.box [.id,.id,.id,.id,.id,.id],.bF (ae 1 (bk 2 0 2) ap),.bF (b5 2 aT a3),.pure,.pure] (a8 [107,108,109])] (.dh h1 (et (cF [0,1,2,3,4]) 2 2 0 2 rfl ap) (dB (cF [0,1,2,3,4]) 2 e4 a3) (aI 1 .live aO ai) (aI 1 .live eS aE))))
theorem TX {jM:bu}{jo jq ou:Int}{aJ:Bool}{aG:List Int}{bo:Int}{ap:List bu}{ai:List Int}{aE:List Bool}{m5:Int}{a3:List (List bm)}{r} (h:CD jM jo jq ou aJ aG bo ap ai aE m5 a3=some r):dP a6 128 5 91 [1,1,1,1,1,1,1,1,0,0,1,1,0,0,1,1,0,0] (FF jM jo jq ou aJ aG bo ap ai aE) (FN jM jo jq ou aJ aG bo ap ai aE) (m5,a3) r:=dQ (fun _=>Tm) h
def FG (jo:Int)(aJ:Bool)(aG:List Int)(bo:Int)(ap:List bu)(ai:List Int)(aE:List Bool):(Int×(List (List bm)))→S:=fun (jq,a3)=>dm [(107,.bj 1 0 0 ap.length),(108,.n .i64 jo),(109,.n .i64 jq)] [[ad.mk 6 [(fZ 1 0 0 ap.length aJ aG 3 0 0 ai.length bo 4 0 0 aE.length)] .live],(ae 1 (bk 2 0 2) ap),(b5 2 aT a3),(ae 1 eI ai),(ae 1 ed aE)]
def FO (jo:Int)(aJ:Bool)(aG:List Int)(bo:Int)(ap:List bu)(ai:List Int)(aE:List Bool):(List (List bm))→dp
 | a=>⟨some 4,[],[[ad.mk 6 [(fZ 1 0 0 ap.length aJ aG 3 0 0 ai.length bo 4 0 0 aE.length)] .live],(ae 1 (bk 2 0 2) ap),(b5 2 aT a),(ae 1 eI ai),(ae 1 ed aE)]⟩
def vT (jo:Int)(aJ:Bool)(aG:List Int)(bo:Int)(ap:List bu)(ai:List Int)(aE:List Bool)(jq:Int)(a3:List (List bm)):Option ((Int×(List (List bm)))⊕((List (List bm)))) :=
 if (decide (jq<jo))=true then
  if 0≤jq∧jq<(ap.length:Nat) then
  ap[(0+jq.toNat)]? >>= fun aC =>
  aC >>= fun lC =>
  a3[lC.1]? >>= fun iz =>
  CD aC jo jq ((lC.2:Nat):Int) aJ aG bo ap ai aE 0 a3 >>= fun b6 =>
  some (.inl (R (jq+(1:Int)),b6))
  else none
 else
  some (.inr a3)
def y2 (jo:Int)(aJ:Bool)(aG:List Int)(bo:Int)(ap:List bu)(ai:List Int)(aE:List Bool)(jq:Int)(a3:List (List bm)):Option ((List (List bm))):=iter (fun w:Int×(List (List bm))=>vT jo aJ aG bo ap ai aE w.1 w.2) (jq,a3)
theorem Tn {jo:Int}{aJ:Bool}{aG:List Int}{bo:Int}{ap:List bu}{ai:List Int}{aE:List Bool}{jq:Int}{a3:List (List bm)}:bw (vT jo aJ aG bo ap ai aE jq a3) (dO a6 128 5 91 [1,1,1,1,1,1,1,1,0,0] (FG jo aJ aG bo ap ai aE (jq,a3)) (FG jo aJ aG bo ap ai aE) (FO jo aJ aG bo ap ai aE)):=by
 unfold vT
 exact .ite (fun h1 =>
  .aX fun h2 =>
  .ar fun aC au =>
  .ar fun lC aW =>
  .ar fun iz bi =>
  .ar fun b6 cO =>
  .ret (let q1:=cF [0,1,2,3,4];let q2:=et q1 2 2 0 2 rfl ap;bf [(I 1),.U true,.aw (bp 1 (.b2 ((bk 2 0 2) aC)) 1),.aw (bp 1 (.kf 113 (.bj 2 (lC.1+0) 0 lC.2) (.gf (ad.mk 2 (iz.map aT) .live) [])) 1),.aL [0,1,2,3,4] [.box [.id,.id,.id,.id,.id,.id],.bF (ae 1 (bk 2 0 2) ap),.bF (b5 2 aT a3),.pure,.pure] (a8 [14,107,108,109,114,115]),(FN aC jo jq ((lC.2:Nat):Int) aJ aG bo ap ai aE b6).e8,(I 2),.aL [0,1,2,3,4] [.box [.id,.id,.id,.id,.id,.id],.bF (ae 1 (bk 2 0 2) ap),.bF (b5 2 aT b6),.pure,.pure] (a8 [107,108,109])] (.bg h1 h2.1 h2.2 (bT (bk 2 0 2) au) (l1 (dN:=2) (c:=0) (sz:=2) aW) (jX (gd .live 2 aT a3) i5 bi) q2 (dB q1 2 e4 a3) (.eF (aI 1 .live aO ai) (aI 1 .live eS aE) (TX cO) q2 (dB q1 2 e4 b6) (aI 1 .live aO ai) (aI 1 .live eS aE)))))
  (fun h1 =>
  .ret (bf [(I 1),.U false,.aL [0,1,2,3,4] [.box [.id,.id,.id,.id,.id,.id],.bF (ae 1 (bk 2 0 2) ap),.bF (b5 2 aT a3),.pure,.pure] []] (.dh h1 (et (cF [0,1,2,3,4]) 2 2 0 2 rfl ap) (dB (cF [0,1,2,3,4]) 2 e4 a3) (aI 1 .live aO ai) (aI 1 .live eS aE))))
theorem TY {jo:Int}{aJ:Bool}{aG:List Int}{bo:Int}{ap:List bu}{ai:List Int}{aE:List Bool}{jq:Int}{a3:List (List bm)}{r} (h:y2 jo aJ aG bo ap ai aE jq a3=some r):dP a6 128 5 91 [1,1,1,1,1,1,1,1,0,0] (FG jo aJ aG bo ap ai aE) (FO jo aJ aG bo ap ai aE) (jq,a3) r:=dQ (fun _=>Tn) h
def wG (bU bq:Int)(oK:Bool)(oG:List Int)(jB:Int)(fb:List bu)(lV:List (List bm))(ie:List Int)(hr:List Bool):Option (Bool×(List Int)×(List (List bm))×(List Int)) :=
 if 0≤bU∧bU<(fb.length:Nat) then
 fb[(0+bU.toNat)]? >>= fun x2 =>
 x2 >>= fun jz =>
 lV[jz.1]? >>= fun mX =>
 if 0≤bq∧bq<(jz.2:Nat) then
 mX[(0+bq.toNat)]? >>= fun ee =>
 CC bU bq x2 ((fb.length:Nat):Int) oK oG jB fb ie hr ee.cQ ee.cA 0 lV >>= fun dc =>
 if 0≤bU∧bU<(ie.length:Nat) then
 if (0+bU.toNat)<ie.length then
 oV ee >>= fun gw =>
 if (decide ((0:Int)<gw))=true then
  some (ee.cQ,ee.cA,dc,ie.set (0+bU.toNat) bq)
 else
  rC ee >>= fun e7 =>
  y2 ((fb.length:Nat):Int) e7.cQ e7.cA jB fb (ie.set (0+bU.toNat) bq) hr 0 dc >>= fun jj =>
  some (e7.cQ,e7.cA,jj,ie.set (0+bU.toNat) bq)
 else none
 else none
 else none
 else none
theorem ME {bU bq:Int}{oK:Bool}{oG:List Int}{jB:Int}{fb:List bu}{lV:List (List bm)}{ie:List Int}{hr:List Bool}:bw (wG bU bq oK oG jB fb lV ie hr) (fun a=>Con a6 91 [.ref 0 0 0 0,.n .i64 bU,.n .i64 bq] [[ad.mk 6 [(fZ 1 0 0 fb.length oK oG 3 0 0 ie.length jB 4 0 0 hr.length)] .live],(ae 1 (bk 2 0 2) fb),(b5 2 aT lV),(ae 1 eI ie),(ae 1 ed hr)] (.dX []) [[ad.mk 6 [(fZ 1 0 0 fb.length a.1 a.2.1 3 0 0 a.2.2.2.length jB 4 0 0 hr.length)] .live],(ae 1 (bk 2 0 2) fb),(b5 2 aT a.2.2.1),(ae 1 eI a.2.2.2),(ae 1 ed hr)]):=by
 unfold wG
 exact .aX fun h1 =>
  .ar fun x2 ab =>
  .ar fun jz aA =>
  .ar fun mX a7 =>
  .aX fun bi =>
  .ar fun ee cO =>
  .ar fun dc eX =>
  .aX fun ev =>
  .aX fun ew =>
  .ar fun gw hR =>
  (let fK:=jX (gd .live 2 aT lV) i5 a7;let eB:=cF [0,1,2,3,4,17];let t1:List bW:=[.aw (bp 6 (.b2 ((bk 2 0 2) x2)) 1),.aw (ag 2 (ak (.kf 23 (.bj 2 (jz.1+0) 0 jz.2) (.gf (ad.mk 2 (mX.map aT) .live) [])) (ak (.gf (ad.mk 2 (mX.map aT) .live) (aT ee)) (ag 2 [])))),(I 6),.aL [0,1,2,3,4,17] [.box [.id,.id,.id,.id,.id,.id],.bF (ae 1 (bk 2 0 2) fb),.bF (b5 2 aT lV),.pure,.pure,.box [.id,.id]] (a8 [0,1,2,6,7,30,31,32]),(FM bU bq x2 ((fb.length:Nat):Int) oK oG jB fb ie hr ee.cQ ee.cA dc).e8,(I 5),.aw (ag 7 (ak .fM [])),.aw (bp 1 (bn 1 (.n .i64 gw) true) 1)];
  have aS:=((.bg h1.1 h1.2 (bT (bk 2 0 2) ab) (l1 (dN:=2) (c:=0) (sz:=2) aA) fK bi.1 bi.2 fK (.bg (bT aT cO) (et eB 2 2 0 2 rfl fb) (dB eB 2 e4 lV) (aI 1 .live aO ie) (aI 1 .live eS hr) (TW eX) ev.1 ev.2 (.c7 (hB eI ew) (hx 1) (sF gw hR) (b3.n .i64 gw)))):cn _);
  .ite (fun hp =>
  .ret (let q1:=fZ 1 0 0 fb.length ee.cQ ee.cA 3 0 0 ((ie.set (0+bU.toNat) bq).length) jB 4 0 0 hr.length;let q2:=cF [0,1,2,3,4];lU (t1.append [.U true]) [0,1,2,3,4] [.bF [ad.mk 6 [q1] .live],.bF (ae 1 (bk 2 0 2) fb),.bF (b5 2 aT dc),.cy (ae 1 eI (ie.set (0+bU.toNat) bq)),.pure] (aS.aH (.eF hp (c4 (show ad.mk 6 [q1] .live=gE q2 (ad.mk 6 [(fZ 1 0 0 fb.length ee.cQ ee.cA 3 0 0 ie.length jB 4 0 0 hr.length)] .live) from (congrArg (fun Ci=>ad.mk 6 [(fZ 1 0 0 fb.length ee.cQ ee.cA 3 0 0 Ci jB 4 0 0 hr.length)] .live) (hS (dH ie) (0+bU.toNat) bq).symm)) o1) (et q2 2 2 0 2 rfl fb) (dB q2 2 e4 dc) (cZ 1 .live (gF (cW eI ie) (0+bU.toNat) bq)) (aI 1 .live aO (ie.set (0+bU.toNat) bq)) (aI 1 .live eS hr)))))
  (fun hp =>
  .ar fun e7 gv =>
  .ar fun jj gK =>
  .ret (let bL:=fZ 1 0 0 fb.length e7.cQ e7.cA 3 0 0 ((ie.set (0+bU.toNat) bq).length) jB 4 0 0 hr.length;let bZ:=cF [0,1,2,3,4];let cH:=aI 1 .live aO (ie.set (0+bU.toNat) bq);let d8:=et bZ 2 2 0 2 rfl fb;lU (t1.append [.U false,.aw (bp 2 (bn 1 (.agg (aT e7)) false) 3),(I 6),.aL [0,1,2,3,4] [.box [.id,.id,.id,.len ((ie.set (0+bU.toNat) bq).length),.id,.id],.bF (ae 1 (bk 2 0 2) fb),.bF (b5 2 aT dc),.cy (ae 1 eI (ie.set (0+bU.toNat) bq)),.pure] (a8 [107,108,109]),(FO ((fb.length:Nat):Int) e7.cQ e7.cA jB fb (ie.set (0+bU.toNat) bq) hr jj).e8]) [0,1,2,3,4] [.bF [ad.mk 6 [bL] .live],.bF (ae 1 (bk 2 0 2) fb),.bF (b5 2 aT jj),.pure,.pure] (aS.aH (.bg hp (Gm e7 gv) (hS (dH ie) (0+bU.toNat) bq) d8 (dB bZ 2 e4 dc) (cZ 1 .live (gF (cW eI ie) (0+bU.toNat) bq)) cH (aI 1 .live eS hr) (.dS (TY gK) (x1 bZ 6 [bL] [bL] rfl) d8 (dB bZ 2 e4 jj) cH (aI 1 .live eS hr)))))))
def Fq (b9:Int)(aJ:Bool)(aG:List Int)(ap:List bu)(a3:List (List bm))(ai:List Int)(aE:List Bool)(bD:List Int):Int→S:=fun bV=>dm [(0,.ref 0 0 0 0),(1,.bj 5 0 0 bD.length),(5,.b false),(13,.n .i64 b9),(14,.n .i64 bV)] [[ad.mk 6 [(fZ 1 0 0 ap.length aJ aG 3 0 0 ai.length b9 4 0 0 aE.length)] .live],(ae 1 (bk 2 0 2) ap),(b5 2 aT a3),(ae 1 eI ai),(ae 1 ed aE),(ae 1 eI bD)]
def Cs (b9:Int)(aJ:Bool)(aG:List Int)(ap:List bu)(a3:List (List bm))(ai:List Int)(aE:List Bool)(bD:List Int):((Bool×Bool×(List Int)×(List (List bm))×(List Int))⊕(Unit))→dp
 | .inl a=>⟨some 2,[(0,.ref 0 0 0 0),(1,.bj 5 0 0 bD.length),(5,.b a.1)],[[ad.mk 6 [(fZ 1 0 0 ap.length a.2.1 a.2.2.1 3 0 0 a.2.2.2.2.length b9 4 0 0 aE.length)] .live],(ae 1 (bk 2 0 2) ap),(b5 2 aT a.2.2.2.1),(ae 1 eI a.2.2.2.2),(ae 1 ed aE),(ae 1 eI bD)]⟩
 | .inr a=>⟨none,[(4,.b false)],[[ad.mk 6 [(fZ 1 0 0 ap.length aJ aG 3 0 0 ai.length b9 4 0 0 aE.length)] .live],(ae 1 (bk 2 0 2) ap),(b5 2 aT a3),(ae 1 eI ai),(ae 1 ed aE),(ae 1 eI bD)]⟩
def vM (b9:Int)(aJ:Bool)(aG:List Int)(ap:List bu)(a3:List (List bm))(ai:List Int)(aE:List Bool)(bD:List Int)(bV:Int):Option ((Int)⊕((Bool×Bool×(List Int)×(List (List bm))×(List Int))⊕(Unit))) :=
 if (decide (bV<b9))=true then
  if 0≤bV∧bV<(aE.length:Nat) then
  aE[(0+bV.toNat)]? >>= fun aC =>
  if aC=true then
   rM ai bV >>= fun bA =>
   if bA=true then
    some (.inl (R (bV+(1:Int))))
   else
    if ap.all (qR a3)=true then
    w4 (⟨ap.map (iv a3),(⟨aJ,aG⟩:bm),ai,b9,aE⟩:qo) bD bV >>= fun cY =>
    if (decide (cY≤(0:Int)))=true then
     some (.inl (R (bV+(1:Int))))
    else
     y9 (⟨ap.map (iv a3),(⟨aJ,aG⟩:bm),ai,b9,aE⟩:qo) bV >>= fun ex =>
     if (decide (ex<(0:Int)))=true then
      some (.inr (.inr ()))
     else
      wG ex bV aJ aG b9 ap a3 ai aE >>= fun ey =>
      some (.inr (.inl (true,ey.1,ey.2.1,ey.2.2.1,ey.2.2.2)))
    else none
  else
   some (.inl (R (bV+(1:Int))))
  else none
 else
  some (.inr (.inl (false,aJ,aG,a3,ai)))
def vX (b9:Int)(aJ:Bool)(aG:List Int)(ap:List bu)(a3:List (List bm))(ai:List Int)(aE:List Bool)(bD:List Int)(bV:Int):Option ((Bool×Bool×(List Int)×(List (List bm))×(List Int))⊕(Unit)):=iter (fun w:Int=>vM b9 aJ aG ap a3 ai aE bD w) bV
theorem S5 {b9:Int}{aJ:Bool}{aG:List Int}{ap:List bu}{a3:List (List bm)}{ai:List Int}{aE:List Bool}{bD:List Int}{bV:Int}:bw (vM b9 aJ aG ap a3 ai aE bD bV) (dO a6 87 6 67 [1,0,1,0,0,1,0,1,1,0,0] (Fq b9 aJ aG ap a3 ai aE bD bV) (Fq b9 aJ aG ap a3 ai aE bD) (Cs b9 aJ aG ap a3 ai aE bD)):=by
 unfold vM
 exact .ite (fun h1 =>
  .aX fun h2 =>
  .ar fun aC au =>
  (let t1:List bW:=[(I 1),.U true,(I 2)];
  .ite (fun aA =>
  .ar fun bA a7 =>
  (have aS:=((.bg h1 h2.1 h2.2 (bT ed au) (cS aA) (cS aA) (cS aA) (cS aA) (.gM (cS aA) (cS aA) (fW eI ai) (fv eI ai) (dv aO ai) (Jp bA a7) (b3.b bA) (cS aA))):cn _);
  .ite (fun bi =>
  .ret (let q1:=cF [0,1,2,3,4,5];bf (t1.append [.aw (ag 6 (ak (.b2 (ed aC)) (ag 7 (ak (.call {ac:=[.br (.da (.eh (ai.map eI))),ii],r:= .b bA,fu:=true,fB:=[3]}) (ak (.U false) (ag 1 (cj 5 (ak (.U true) [])))))))),.U true,(I 2),.aL [0,1,2,3,4,5] [.box [.id,.id,.id,.id,.id,.id],.bF (ae 1 (bk 2 0 2) ap),.bF (b5 2 aT a3),.pure,.pure,.pure] (a8 [0,1,5,13,14])]) (aS.aH (.bg bi bi bi bi bi bi cL (et q1 2 2 0 2 rfl ap) (.c7 (dB q1 2 e4 a3) (aI 1 .live aO ai) (aI 1 .live eS aE) (aI 1 .live aO bD))))))
  (fun bi =>
  .aX fun cg =>
  .ar fun cY eH =>
  (let t3:List bW:=t1.append [.aw (ag 6 (ak (.b2 (ed aC)) (ag 7 (ak (.call {ac:=[.br (.da (.eh (ai.map eI))),ii],r:= .b bA,fu:=true,fB:=[3]}) (ak (.U false) (ag 4 (ak (.call {ac:=[.br (.ptr [.view 2 (ad.mk 1 (ap.map (bk 2 0 2)) .live) ((ap.map (iv a3)).map (en 2 aT)),.id,.id,.eh (ai.map eI),.id,.eh (aE.map ed)]),.br (.da (.eh (bD.map eI))),ii],r:= .n .i64 cY,fu:=true,fB:=[0,1,2,3,4,5]}) (ag 1 (ak (.U false) [])))))))))];
  have eP:=aS.aH (.bg bi bi bi bi (rfl:di (some (ae 1 (bk 2 0 2) ap)) 0=some (ad.mk 1 (ap.map (bk 2 0 2)) .live)) (rfl:_=true) (fv (bk 2 0 2) ap) (dv (nr (sz:=2) rJ) (ap.map (iv a3))) (.bg (uM (dN:=2) (jf:=[]++(b5 2 aT a3)) (b4:=kx) (sz:=1) (g:=(en 2 aT)) (cW (bk 2 0 2) ap) (fun _=>rfl) (fun x J=>(yA (dN:=2) (c:=0) (b4:=kx) (qC:=[]) (gd .live 2 aT a3) rJ rfl i5 rfl (xV cg x J))) (dH ap)) (fW eI ai) (fv eI ai) (dv aO ai) (fW ed aE) (fv ed aE) (dv eS aE) (pS (IQ (⟨ap.map (iv a3),(⟨aJ,aG⟩:bm),ai,b9,aE⟩:qo)):jn [[.isl 1 ((ap.map (iv a3)).map (en 2 aT)),.b aJ,.isl 1 (aG.map eI),.isl 1 (ai.map eI),.n .i64 b9,.isl 1 (aE.map ed)]]) (.eF (fW eI bD) (fv eI bD) (dv aO bD) (MS cY eH) (b3.n .i64 cY) bi bi)));
  .ite (fun eX =>
  .ret (let q2:=cF [0,1,2,3,4,5];bf (t3.append [.U true,(I 2),.aL [0,1,2,3,4,5] [.box [.id,.id,.id,.id,.id,.id],.bF (ae 1 (bk 2 0 2) ap),.bF (b5 2 aT a3),.pure,.pure,.pure] (a8 [0,1,5,13,14])]) (eP.aH (.dS eX (et q2 2 2 0 2 rfl ap) (dB q2 2 e4 a3) (aI 1 .live aO ai) (aI 1 .live eS aE) (aI 1 .live aO bD)))))
  (fun eX =>
  .ar fun ex ew =>
  (let t5:List bW:=t3.append [.U false,.aw (bp 2 (.call {ac:=[.br (.ptr [.view 2 (ad.mk 1 (ap.map (bk 2 0 2)) .live) ((ap.map (iv a3)).map (en 2 aT)),.id,.id,.eh (ai.map eI),.id,.eh (aE.map ed)]),ii],r:= .n .i64 ex,fu:=true,fB:=[0,1,2,3,4]}) 1),(I 2)];
  have ln:=eP.aH (.bg eX (rfl:di (some (ae 1 (bk 2 0 2) ap)) 0=some (ad.mk 1 (ap.map (bk 2 0 2)) .live)) (rfl:_=true) (fv (bk 2 0 2) ap) (dv (nr (sz:=2) rJ) (ap.map (iv a3))) (uM (dN:=2) (jf:=[]++(b5 2 aT a3)) (b4:=kx) (sz:=1) (g:=(en 2 aT)) (cW (bk 2 0 2) ap) (fun _=>rfl) (fun x J=>(yA (dN:=2) (c:=0) (b4:=kx) (qC:=[]) (gd .live 2 aT a3) rJ rfl i5 rfl (xV cg x J))) (dH ap)) (fW eI ai) (fv eI ai) (.eF (dv aO ai) (fW ed aE) (fv ed aE) (dv eS aE) (pS (IQ (⟨ap.map (iv a3),(⟨aJ,aG⟩:bm),ai,b9,aE⟩:qo)):jn [[.isl 1 ((ap.map (iv a3)).map (en 2 aT)),.b aJ,.isl 1 (aG.map eI),.isl 1 (ai.map eI),.n .i64 b9,.isl 1 (aE.map ed)]]) (Ux ex ew) (b3.n .i64 ex)));
  .ite (fun fP =>
  .ret (let bL:=cF [0,1,2,3,4,5];bf (t5.append [.U true,(I 1),.aL [0,1,2,3,4,5] [.box [.id,.id,.id,.id,.id,.id],.bF (ae 1 (bk 2 0 2) ap),.bF (b5 2 aT a3),.pure,.pure,.pure] (a8 [4])]) (ln.aH (.dS fP (et bL 2 2 0 2 rfl ap) (dB bL 2 e4 a3) (aI 1 .live aO ai) (aI 1 .live eS aE) (aI 1 .live aO bD)))))
  (fun fP =>
  .ar fun ey hp =>
  .ret (let bZ:=fZ 1 0 0 ap.length ey.1 ey.2.1 3 0 0 ey.2.2.2.length b9 4 0 0 aE.length;let cH:=fZ 1 0 0 ap.length aJ aG 3 0 0 ai.length b9 4 0 0 aE.length;let d8:=ae 1 (bk 2 0 2) ap;let fK:=b5 2 aT ey.2.2.1;let eB:=pa [0,1,2,3,4];let hD:=jJ [0,1,2,3,4];let jv:=kE 1 (ap.map (bk 2 0 2));let jw:=cF [0,1,2,3,4,5];bf (t5.append [.U false,.aw (ag 3 (ak (.call {aY:=(va [0,1,2,3,4]),dl:=[.bF [ad.mk 6 [cH] .live],.bF d8,.bF (b5 2 aT a3),.pure,.pure],ac:=[ii,ii,ii],r:= .dX [],fm:=[[ad.mk 6 [bZ] .live],d8,fK,(ae 1 eI ey.2.2.2),(ae 1 ed aE)],hI:=ii,jU:=[.bF [ad.mk 6 [bZ] .live],.bF d8,.bF fK,.pure,.pure],fB:=[0,1,2,3,4],fu:=false}) [])),(I 1),.aL [0,1,2,3,4,5] [.box [.id,.id,.id,.id,.id,.id],.bF d8,.bF fK,.pure,.pure,.pure] (a8 [0,1,5])]) (ln.aH (.bg fP (x1 eB 6 [cH] [cH] rfl) (kE 6 [cH]) (et eB 2 2 0 2 rfl ap) jv (dB eB 2 e4 a3) (tD 2 aT a3) (hK 1 aO ai) (.bg (hK 1 eS aE) (x1 hD 6 [bZ] [bZ] rfl) (kE 6 [bZ]) (et hD 2 2 0 2 rfl ap) jv (dB hD 2 e4 ey.2.2.1) (tD 2 aT ey.2.2.1) (hK 1 aO ey.2.2.2) (.eF (hK 1 eS aE) (ME ey hp) (et jw 2 2 0 2 rfl ap) (dB jw 2 e4 ey.2.2.1) (aI 1 .live aO ey.2.2.2) (aI 1 .live eS aE) (aI 1 .live aO bD)))))))))))))
  (fun aA =>
  .ret (let mo:=cF [0,1,2,3,4,5];bf (t1.append [.aw (ag 6 (ak (.b2 (ed aC)) (ag 2 (cj 6 (ak (.U true) (ag 1 (cj 5 (ag 1 [])))))))),.U true,(I 2),.aL [0,1,2,3,4,5] [.box [.id,.id,.id,.id,.id,.id],.bF (ae 1 (bk 2 0 2) ap),.bF (b5 2 aT a3),.pure,.pure,.pure] (a8 [0,1,5,13,14])]) (.bg h1 h2.1 h2.2 (bT ed au) (cJ aA) (cJ aA) (cJ aA) (cJ aA) (.bg (cJ aA) (cJ aA) (cJ aA) cL cL cL cL cL (.dS cL (et mo 2 2 0 2 rfl ap) (dB mo 2 e4 a3) (aI 1 .live aO ai) (aI 1 .live eS aE) (aI 1 .live aO bD))))))))
  (fun h1 =>
  .ret (let iI:=cF [0,1,2,3,4,5];bf [(I 1),.U false,.aL [0,1,2,3,4,5] [.box [.id,.id,.id,.id,.id,.id],.bF (ae 1 (bk 2 0 2) ap),.bF (b5 2 aT a3),.pure,.pure,.pure] (a8 [0,1,5])] (.dS h1 (et iI 2 2 0 2 rfl ap) (dB iI 2 e4 a3) (aI 1 .live aO ai) (aI 1 .live eS aE) (aI 1 .live aO bD))))
theorem Mx {b9:Int}{aJ:Bool}{aG:List Int}{ap:List bu}{a3:List (List bm)}{ai:List Int}{aE:List Bool}{bD:List Int}{bV:Int}{r} (h:vX b9 aJ aG ap a3 ai aE bD bV=some r):dP a6 87 6 67 [1,0,1,0,0,1,0,1,1,0,0] (Fq b9 aJ aG ap a3 ai aE bD) (Cs b9 aJ aG ap a3 ai aE bD) bV r:=dQ (fun _=>S5) h
def Fs (bo:Int)(ap:List bu)(aE:List Bool)(bD:List Int):(Bool×Bool×(List Int)×(List (List bm))×(List Int))→S:=fun (qs,aJ,aG,a3,ai)=>dm [(0,.ref 0 0 0 0),(1,.bj 5 0 0 bD.length),(5,.b qs)] [[ad.mk 6 [(fZ 1 0 0 ap.length aJ aG 3 0 0 ai.length bo 4 0 0 aE.length)] .live],(ae 1 (bk 2 0 2) ap),(b5 2 aT a3),(ae 1 eI ai),(ae 1 ed aE),(ae 1 eI bD)]
def Ct (bo:Int)(ap:List bu)(aE:List Bool)(bD:List Int):((Bool×(List Int)×(List (List bm))×(List Int))⊕(Bool×(List Int)×(List (List bm))×(List Int)))→dp
 | .inl a=>⟨some 0,[(0,.ref 0 0 0 0),(1,.bj 5 0 0 bD.length)],[[ad.mk 6 [(fZ 1 0 0 ap.length a.1 a.2.1 3 0 0 a.2.2.2.length bo 4 0 0 aE.length)] .live],(ae 1 (bk 2 0 2) ap),(b5 2 aT a.2.2.1),(ae 1 eI a.2.2.2),(ae 1 ed aE),(ae 1 eI bD)]⟩
 | .inr a=>⟨none,[(4,.b false)],[[ad.mk 6 [(fZ 1 0 0 ap.length a.1 a.2.1 3 0 0 a.2.2.2.length bo 4 0 0 aE.length)] .live],(ae 1 (bk 2 0 2) ap),(b5 2 aT a.2.2.1),(ae 1 eI a.2.2.2),(ae 1 ed aE),(ae 1 eI bD)]⟩
def tK (bo:Int)(ap:List bu)(aE:List Bool)(bD:List Int)(qs aJ:Bool)(aG:List Int)(a3:List (List bm))(ai:List Int):Option ((Bool×Bool×(List Int)×(List (List bm))×(List Int))⊕((Bool×(List Int)×(List (List bm))×(List Int))⊕(Bool×(List Int)×(List (List bm))×(List Int)))) :=
 if qs=true then
  vX bo aJ aG ap a3 ai aE bD 0 >>= fun r2 =>
  match r2 with
  | .inl fL=>(some (.inl (fL.1,fL.2.1,fL.2.2.1,fL.2.2.2.1,fL.2.2.2.2)))
  | .inr fL=>(some (.inr (.inr (aJ,aG,a3,ai))))
 else
  some (.inr (.inl (aJ,aG,a3,ai)))
def Cy (bo:Int)(ap:List bu)(aE:List Bool)(bD:List Int)(qs aJ:Bool)(aG:List Int)(a3:List (List bm))(ai:List Int):Option ((Bool×(List Int)×(List (List bm))×(List Int))⊕(Bool×(List Int)×(List (List bm))×(List Int))):=iter (fun w:Bool×Bool×(List Int)×(List (List bm))×(List Int)=>tK bo ap aE bD w.1 w.2.1 w.2.2.1 w.2.2.2.1 w.2.2.2.2) (qs,aJ,aG,a3,ai)
theorem S6 {bo:Int}{ap:List bu}{aE:List Bool}{bD:List Int}{qs aJ:Bool}{aG:List Int}{a3:List (List bm)}{ai:List Int}:bw (tK bo ap aE bD qs aJ aG a3 ai) (dO a6 87 6 67 [1,0,1,0,0] (Fs bo ap aE bD (qs,aJ,aG,a3,ai)) (Fs bo ap aE bD) (Ct bo ap aE bD)):=by
 unfold tK
 exact .ite (fun h1 =>
  .ar fun r2 ab =>
  (let bZ:=cF [0,1,2,3,4,5];let t1:List bW:=[(I 1),.U true,(I 1),(I 5),.aL [0,1,2,3,4,5] [.box [.id,.id,.id,.id,.id,.id],.bF (ae 1 (bk 2 0 2) ap),.bF (b5 2 aT a3),.pure,.pure,.pure] (a8 [0,1,5,13,14])];
  have aS:=((.dS h1 (et bZ 2 2 0 2 rfl ap) (dB bZ 2 e4 a3) (aI 1 .live aO ai) (aI 1 .live eS aE) (aI 1 .live aO bD)):cn _);
  (by
  rcases r2 with fL|fL
  ·exact (.ret (let q1:=cF [0,1,2,3,4,5];bf (t1.append [(Cs bo aJ aG ap a3 ai aE bD (.inl fL)).e8,.aL [0,1,2,3,4,5] [.box [.id,.id,.id,.id,.id,.id],.bF (ae 1 (bk 2 0 2) ap),.bF (b5 2 aT fL.2.2.2.1),.pure,.pure,.pure] (a8 [0,1,5])]) (aS.aH (.dS (Mx ab) (et q1 2 2 0 2 rfl ap) (dB q1 2 e4 fL.2.2.2.1) (aI 1 .live aO fL.2.2.2.2) (aI 1 .live eS aE) (aI 1 .live aO bD)))))
  ·exact (.ret (let q2:=cF [0,1,2,3,4,5];bf (t1.append [(Cs bo aJ aG ap a3 ai aE bD (.inr fL)).e8,.aL [0,1,2,3,4,5] [.box [.id,.id,.id,.id,.id,.id],.bF (ae 1 (bk 2 0 2) ap),.bF (b5 2 aT a3),.pure,.pure,.pure] (a8 [4])]) (aS.aH (.dS (Mx ab) (et q2 2 2 0 2 rfl ap) (dB q2 2 e4 a3) (aI 1 .live aO ai) (aI 1 .live eS aE) (aI 1 .live aO bD))))))))
  (fun h1 =>
  .ret (let bL:=cF [0,1,2,3,4,5];bf [(I 1),.U false,.aL [0,1,2,3,4,5] [.box [.id,.id,.id,.id,.id,.id],.bF (ae 1 (bk 2 0 2) ap),.bF (b5 2 aT a3),.pure,.pure,.pure] (a8 [0,1])] (.dS h1 (et bL 2 2 0 2 rfl ap) (dB bL 2 e4 a3) (aI 1 .live aO ai) (aI 1 .live eS aE) (aI 1 .live aO bD))))
theorem My {bo:Int}{ap:List bu}{aE:List Bool}{bD:List Int}{qs aJ:Bool}{aG:List Int}{a3:List (List bm)}{ai:List Int}{r} (h:Cy bo ap aE bD qs aJ aG a3 ai=some r):dP a6 87 6 67 [1,0,1,0,0] (Fs bo ap aE bD) (Ct bo ap aE bD) (qs,aJ,aG,a3,ai) r:=dQ (fun _=>S6) h
def Ft (d6:Int)(aJ:Bool)(aG:List Int)(ap:List bu)(a3:List (List bm))(ai bD:List Int):(Int×(List Bool))→S:=fun (fg,aE)=>dm [(0,.ref 0 0 0 0),(1,.bj 5 0 0 bD.length),(53,.n .i64 d6),(54,.n .i64 fg)] [[ad.mk 6 [(fZ 1 0 0 ap.length aJ aG 3 0 0 ai.length d6 4 0 0 aE.length)] .live],(ae 1 (bk 2 0 2) ap),(b5 2 aT a3),(ae 1 eI ai),(ae 1 ed aE),(ae 1 eI bD)]
def Fz (d6:Int)(aJ:Bool)(aG:List Int)(ap:List bu)(a3:List (List bm))(ai bD:List Int):(List Bool)→dp
 | a=>⟨some 4,[],[[ad.mk 6 [(fZ 1 0 0 ap.length aJ aG 3 0 0 ai.length d6 4 0 0 a.length)] .live],(ae 1 (bk 2 0 2) ap),(b5 2 aT a3),(ae 1 eI ai),(ae 1 ed a),(ae 1 eI bD)]⟩
def vN (d6:Int)(aJ:Bool)(aG:List Int)(ap:List bu)(a3:List (List bm))(ai bD:List Int)(fg:Int)(aE:List Bool):Option ((Int×(List Bool))⊕((List Bool))) :=
 if (decide (fg<d6))=true then
  if 0≤fg∧fg<(aE.length:Nat) then
  aE[(0+fg.toNat)]? >>= fun aC =>
  if aC=true then
   rM ai fg >>= fun bA =>
   if bA=true then
    some (.inl (R (fg+(1:Int)),aE))
   else
    if ap.all (qR a3)=true then
    w4 (⟨ap.map (iv a3),(⟨aJ,aG⟩:bm),ai,d6,aE⟩:qo) bD fg >>= fun cY =>
    if (decide (cY<(0:Int)))=true then
     if (0+fg.toNat)<aE.length then
     some (.inl (R (fg+(1:Int)),aE.set (0+fg.toNat) false))
     else none
    else
     some (.inl (R (fg+(1:Int)),aE))
    else none
  else
   some (.inl (R (fg+(1:Int)),aE))
  else none
 else
  some (.inr aE)
def Cz (d6:Int)(aJ:Bool)(aG:List Int)(ap:List bu)(a3:List (List bm))(ai bD:List Int)(fg:Int)(aE:List Bool):Option ((List Bool)):=iter (fun w:Int×(List Bool)=>vN d6 aJ aG ap a3 ai bD w.1 w.2) (fg,aE)
theorem S7 {d6:Int}{aJ:Bool}{aG:List Int}{ap:List bu}{a3:List (List bm)}{ai bD:List Int}{fg:Int}{aE:List Bool}:bw (vN d6 aJ aG ap a3 ai bD fg aE) (dO a6 87 6 67 [1,1,0,1,0,0] (Ft d6 aJ aG ap a3 ai bD (fg,aE)) (Ft d6 aJ aG ap a3 ai bD) (Fz d6 aJ aG ap a3 ai bD)):=by
 unfold vN
 exact .ite (fun h1 =>
  .aX fun h2 =>
  .ar fun aC au =>
  (let t1:List bW:=[(I 1),.U true,(I 2)];
  .ite (fun aA =>
  .ar fun bA a7 =>
  (have aS:=((.bg h1 h2.1 h2.2 (bT ed au) aA aA aA aA (.bg aA aA (fW eI ai) (fv eI ai) (dv aO ai) (Jp bA a7) (b3.b bA) aA (.e1 aA))):cn _);
  .ite (fun bi =>
  .ret (let q1:=cF [0,1,2,3,4,5];bf (t1.append [.aw (ag 6 (ak (.b2 (ed aC)) (ag 6 (ak (.call {ac:=[.br (.da (.eh (ai.map eI))),ii],r:= .b bA,fu:=true,fB:=[3]}) (ag 1 (ak (.U true) (ag 1 (cj 5 (ak (.U false) []))))))))),.U false,(I 2),.aL [0,1,2,3,4,5] [.box [.id,.id,.id,.id,.id,.id],.bF (ae 1 (bk 2 0 2) ap),.bF (b5 2 aT a3),.pure,.pure,.pure] (a8 [0,1,53,54])]) (aS.aH (.bg (cS bi) (cS bi) (cS bi) (cS bi) (cS bi) (cS bi) cz (et q1 2 2 0 2 rfl ap) (.c7 (dB q1 2 e4 a3) (aI 1 .live aO ai) (aI 1 .live eS aE) (aI 1 .live aO bD))))))
  (fun bi =>
  .aX fun cg =>
  .ar fun cY eH =>
  (let t3:List bW:=t1.append [.aw (ag 6 (ak (.b2 (ed aC)) (ag 6 (ak (.call {ac:=[.br (.da (.eh (ai.map eI))),ii],r:= .b bA,fu:=true,fB:=[3]}) (ag 1 (ak (.U true) (ag 4 (ak (.call {ac:=[.br (.ptr [.view 2 (ad.mk 1 (ap.map (bk 2 0 2)) .live) ((ap.map (iv a3)).map (en 2 aT)),.id,.id,.eh (ai.map eI),.id,.eh (aE.map ed)]),.br (.da (.eh (bD.map eI))),ii],r:= .n .i64 cY,fu:=true,fB:=[0,1,2,3,4,5]}) (ag 1 (ak (.U true) []))))))))))];
  have eP:=aS.aH (.bg (cJ bi) (cJ bi) (cJ bi) (cJ bi) (rfl:di (some (ae 1 (bk 2 0 2) ap)) 0=some (ad.mk 1 (ap.map (bk 2 0 2)) .live)) (rfl:_=true) (fv (bk 2 0 2) ap) (dv (nr (sz:=2) rJ) (ap.map (iv a3))) (.bg (uM (dN:=2) (jf:=[]++(b5 2 aT a3)) (b4:=kx) (sz:=1) (g:=(en 2 aT)) (cW (bk 2 0 2) ap) (fun _=>rfl) (fun x J=>(yA (dN:=2) (c:=0) (b4:=kx) (qC:=[]) (gd .live 2 aT a3) rJ rfl i5 rfl (xV cg x J))) (dH ap)) (fW eI ai) (fv eI ai) (dv aO ai) (fW ed aE) (fv ed aE) (dv eS aE) (pS (IQ (⟨ap.map (iv a3),(⟨aJ,aG⟩:bm),ai,d6,aE⟩:qo)):jn [[.isl 1 ((ap.map (iv a3)).map (en 2 aT)),.b aJ,.isl 1 (aG.map eI),.isl 1 (ai.map eI),.n .i64 d6,.isl 1 (aE.map ed)]]) (.eF (fW eI bD) (fv eI bD) (dv aO bD) (MS cY eH) (b3.n .i64 cY) (cJ bi) (cJ bi))));
  .ite (fun eX =>
  .aX fun ev =>
  .ret (let q2:=cF [0,1,2,3,4,5];bf (t3.append [.U true,.aw (ag 6 (ak .fM [])),(I 2),.aL [0,1,2,3,4,5] [.box [.id,.id,.id,.id,.id,.len ((aE.set (0+fg.toNat) false).length)],.bF (ae 1 (bk 2 0 2) ap),.bF (b5 2 aT a3),.pure,.cy (ae 1 ed (aE.set (0+fg.toNat) false)),.pure] (a8 [0,1,53,54])]) (eP.aH (.bg eX h2.1 h2.2 (hB ed ev) (hx 1) (hS (dH aE) (0+fg.toNat) false) (et q2 2 2 0 2 rfl ap) (dB q2 2 e4 a3) (.c7 (aI 1 .live aO ai) (cZ 1 .live (gF (cW ed aE) (0+fg.toNat) false)) (aI 1 .live eS (aE.set (0+fg.toNat) false)) (aI 1 .live aO bD))))))
  (fun eX =>
  .ret (let bL:=cF [0,1,2,3,4,5];bf (t3.append [.U false,(I 2),.aL [0,1,2,3,4,5] [.box [.id,.id,.id,.id,.id,.id],.bF (ae 1 (bk 2 0 2) ap),.bF (b5 2 aT a3),.pure,.pure,.pure] (a8 [0,1,53,54])]) (eP.aH (.dS eX (et bL 2 2 0 2 rfl ap) (dB bL 2 e4 a3) (aI 1 .live aO ai) (aI 1 .live eS aE) (aI 1 .live aO bD)))))))))
  (fun aA =>
  .ret (let bZ:=cF [0,1,2,3,4,5];bf (t1.append [.aw (ag 6 (ak (.b2 (ed aC)) (ag 1 (cj 7 (ak (.U false) (ag 1 (cj 5 (ag 1 [])))))))),.U false,(I 2),.aL [0,1,2,3,4,5] [.box [.id,.id,.id,.id,.id,.id],.bF (ae 1 (bk 2 0 2) ap),.bF (b5 2 aT a3),.pure,.pure,.pure] (a8 [0,1,53,54])]) (.bg h1 h2.1 h2.2 (bT ed au) aA aA aA aA (.bg aA aA aA aA cz cz cz cz (.eF cz cz (et bZ 2 2 0 2 rfl ap) (dB bZ 2 e4 a3) (aI 1 .live aO ai) (aI 1 .live eS aE) (aI 1 .live aO bD))))))))
  (fun h1 =>
  .ret (let cH:=cF [0,1,2,3,4,5];bf [(I 1),.U false,.aL [0,1,2,3,4,5] [.box [.id,.id,.id,.id,.id,.id],.bF (ae 1 (bk 2 0 2) ap),.bF (b5 2 aT a3),.pure,.pure,.pure] []] (.dS h1 (et cH 2 2 0 2 rfl ap) (dB cH 2 e4 a3) (aI 1 .live aO ai) (aI 1 .live eS aE) (aI 1 .live aO bD))))
theorem Tv {d6:Int}{aJ:Bool}{aG:List Int}{ap:List bu}{a3:List (List bm)}{ai bD:List Int}{fg:Int}{aE:List Bool}{r} (h:Cz d6 aJ aG ap a3 ai bD fg aE=some r):dP a6 87 6 67 [1,1,0,1,0,0] (Ft d6 aJ aG ap a3 ai bD) (Fz d6 aJ aG ap a3 ai bD) (fg,aE) r:=dQ (fun _=>S7) h
def wq (oK:Bool)(oG:List Int)(jB:Int)(fb:List bu)(lV:List (List bm))(ie:List Int)(hr:List Bool)(o7:List Int):Option (Bool×Bool×(List Int)×(List (List bm))×(List Int)×(List Bool)) :=
 Cy jB fb hr o7 true oK oG lV ie >>= fun r1 =>
 match r1 with
 | .inl c8=>(Cz jB c8.1 c8.2.1 fb c8.2.2.1 c8.2.2.2 o7 0 hr >>= fun bh =>
  some (true,c8.1,c8.2.1,c8.2.2.1,c8.2.2.2,bh))
 | .inr c8=>(some (false,c8.1,c8.2.1,c8.2.2.1,c8.2.2.2,hr))
theorem TZ {oK:Bool}{oG:List Int}{jB:Int}{fb:List bu}{lV:List (List bm)}{ie:List Int}{hr:List Bool}{o7:List Int}:bw (wq oK oG jB fb lV ie hr o7) (fun a=>Con a6 67 [.ref 0 0 0 0,.bj 5 0 0 o7.length] [[ad.mk 6 [(fZ 1 0 0 fb.length oK oG 3 0 0 ie.length jB 4 0 0 hr.length)] .live],(ae 1 (bk 2 0 2) fb),(b5 2 aT lV),(ae 1 eI ie),(ae 1 ed hr),(ae 1 eI o7)] (.b a.1) [[ad.mk 6 [(fZ 1 0 0 fb.length a.2.1 a.2.2.1 3 0 0 a.2.2.2.2.1.length jB 4 0 0 a.2.2.2.2.2.length)] .live],(ae 1 (bk 2 0 2) fb),(b5 2 aT a.2.2.2.1),(ae 1 eI a.2.2.2.2.1),(ae 1 ed a.2.2.2.2.2),(ae 1 eI o7)]):=by
 unfold wq
 exact .ar fun r1 h2 =>
  (let hD:=cF [0,1,2,3,4,5];let t1:List bW:=[(I 1),(I 1),.aL [0,1,2,3,4,5] [.box [.id,.id,.id,.id,.id,.id],.bF (ae 1 (bk 2 0 2) fb),.bF (b5 2 aT lV),.pure,.pure,.pure] (a8 [0,1,5])];
  have aS:=((.dh (et hD 2 2 0 2 rfl fb) (dB hD 2 e4 lV) (aI 1 .live aO ie) (aI 1 .live eS hr) (aI 1 .live aO o7)):cn _);
  (by
  rcases r1 with c8|c8
  ·exact (.ar fun bh aA =>
  .ret (let q1:=fZ 1 0 0 fb.length c8.1 c8.2.1 3 0 0 c8.2.2.2.length jB 4 0 0 bh.length;let q2:=cF [0,1,2,3,4,5];let bL:=aI 1 .live aO c8.2.2.2;let bZ:=dB q2 2 e4 c8.2.2.1;let cH:=b5 2 aT c8.2.2.1;let d8:=et q2 2 2 0 2 rfl fb;lU (t1.append [(Ct jB fb hr o7 (.inl c8)).e8,(I 5),.aL [0,1,2,3,4,5] [.box [.id,.id,.id,.id,.id,.id],.bF (ae 1 (bk 2 0 2) fb),.bF cH,.pure,.pure,.pure] (a8 [0,1,53,54]),(Fz jB c8.1 c8.2.1 fb c8.2.2.1 c8.2.2.2 o7 bh).e8,(I 1)]) [0,1,2,3,4,5] [.bF [ad.mk 6 [q1] .live],.bF (ae 1 (bk 2 0 2) fb),.bF cH,.pure,.pure,.pure] (aS.aH (.bg (My h2) d8 bZ bL (aI 1 .live eS hr) (aI 1 .live aO o7) (Tv aA) (x1 q2 6 [q1] [q1] rfl) (.dh d8 bZ bL (aI 1 .live eS bh) (aI 1 .live aO o7))))))
  ·exact (.ret (let fK:=fZ 1 0 0 fb.length c8.1 c8.2.1 3 0 0 c8.2.2.2.length jB 4 0 0 hr.length;let eB:=cF [0,1,2,3,4,5];lU (t1.append [(Ct jB fb hr o7 (.inr c8)).e8]) [0,1,2,3,4,5] [.bF [ad.mk 6 [fK] .live],.bF (ae 1 (bk 2 0 2) fb),.bF (b5 2 aT c8.2.2.1),.pure,.pure,.pure] (aS.aH (.eF (My h2) (x1 eB 6 [fK] [fK] rfl) (et eB 2 2 0 2 rfl fb) (dB eB 2 e4 c8.2.2.1) (aI 1 .live aO c8.2.2.2) (aI 1 .live eS hr) (aI 1 .live aO o7)))))))
def FH (hO af:Int)(aJ:Bool)(aG:List Int)(bo:Int)(ap:List bu)(a3:List (List bm))(ai:List Int)(aE:List Bool):Int→S:=fun bq=>dm [(0,.ref 0 0 0 0),(1,.n .i64 hO),(4,.n .i64 af),(5,.n .i64 bq)] [[ad.mk 6 [(fZ 1 0 0 ap.length aJ aG 3 0 0 ai.length bo 4 0 0 aE.length)] .live],(ae 1 (bk 2 0 2) ap),(b5 2 aT a3),(ae 1 eI ai),(ae 1 ed aE)]
def FP (hO af:Int)(aJ:Bool)(aG:List Int)(bo:Int)(ap:List bu)(a3:List (List bm))(ai:List Int)(aE:List Bool):Int→dp
 | a=>⟨some 2,[(0,.ref 0 0 0 0),(1,.n .i64 hO),(4,.n .i64 af),(5,.n .i64 a)],[[ad.mk 6 [(fZ 1 0 0 ap.length aJ aG 3 0 0 ai.length bo 4 0 0 aE.length)] .live],(ae 1 (bk 2 0 2) ap),(b5 2 aT a3),(ae 1 eI ai),(ae 1 ed aE)]⟩
def vU (hO af:Int)(aJ:Bool)(aG:List Int)(bo:Int)(ap:List bu)(a3:List (List bm))(ai:List Int)(aE:List Bool)(bq:Int):Option ((Int)⊕(Int)) :=
 if (decide (bq<hO))=true then
  if 0≤af∧af<(ap.length:Nat) then
  ap[(0+af.toNat)]? >>= fun aC =>
  aC >>= fun lC =>
  a3[lC.1]? >>= fun iz =>
  if 0≤bq∧bq<(lC.2:Nat) then
  iz[(0+bq.toNat)]? >>= fun iO =>
  oV iO >>= fun dR =>
  if (dR == (0:Int))=true then
   some (.inl (R (bq+(1:Int))))
  else
   some (.inr bq)
  else none
  else none
 else
  some (.inr bq)
def CE (hO af:Int)(aJ:Bool)(aG:List Int)(bo:Int)(ap:List bu)(a3:List (List bm))(ai:List Int)(aE:List Bool)(bq:Int):Option (Int):=iter (fun w:Int=>vU hO af aJ aG bo ap a3 ai aE w) bq
theorem To {hO af:Int}{aJ:Bool}{aG:List Int}{bo:Int}{ap:List bu}{a3:List (List bm)}{ai:List Int}{aE:List Bool}{bq:Int}:bw (vU hO af aJ aG bo ap a3 ai aE bq) (dO a6 86 5 69 [1,0,0,1,0,1,1,0,0,0] (FH hO af aJ aG bo ap a3 ai aE bq) (FH hO af aJ aG bo ap a3 ai aE) (FP hO af aJ aG bo ap a3 ai aE)):=by
 unfold vU
 exact .ite (fun h1 =>
  .aX fun h2 =>
  .ar fun aC au =>
  .ar fun lC aW =>
  .ar fun iz bi =>
  .aX fun cg =>
  .ar fun iO eH =>
  .ar fun dR ev =>
  (let q1:=jX (gd .live 2 aT a3) i5 bi;let t1:List bW:=[.aw (ag 10 (ak (.b2 ((bk 2 0 2) aC)) (ag 1 (ak (.kf 34 (.bj 2 (lC.1+0) 0 lC.2) (.gf (ad.mk 2 (iz.map aT) .live) [])) (ak (.gf (ad.mk 2 (iz.map aT) .live) (aT iO)) (ak (bn 1 (.n .i64 dR) true) (ag 1 (ak (.U true) []))))))))];
  have aS:=((.bg h1 h1 h1 h1 h1 h1 h2.1 h2.2 (.bg h1 (bT (bk 2 0 2) au) h1 h1 (l1 (dN:=2) (c:=0) (sz:=2) aW) q1 cg.1 cg.2 (.gM h1 q1 (bT aT eH) h1 (sF dR ev) (b3.n .i64 dR) h1 h1))):cn _);
  .ite (fun ew =>
  .ret (bf (t1.append [.U true,(I 3),.aL [0,1,2,3,4] [.box [.id,.id,.id,.id,.id,.id],.bF (ae 1 (bk 2 0 2) ap),.bF (b5 2 aT a3),.pure,.pure] (a8 [0,1,4,5])]) (aS.aH (.dh ew (et (cF [0,1,2,3,4]) 2 2 0 2 rfl ap) (dB (cF [0,1,2,3,4]) 2 e4 a3) (aI 1 .live aO ai) (aI 1 .live eS aE)))))
  (fun ew =>
  .ret (bf (t1.append [.U false,.aL [0,1,2,3,4] [.box [.id,.id,.id,.id,.id,.id],.bF (ae 1 (bk 2 0 2) ap),.bF (b5 2 aT a3),.pure,.pure] (a8 [0,1,4,5])]) (aS.aH (.dh ew (et (cF [0,1,2,3,4]) 2 2 0 2 rfl ap) (dB (cF [0,1,2,3,4]) 2 e4 a3) (aI 1 .live aO ai) (aI 1 .live eS aE)))))))
  (fun h1 =>
  .ret (bf [.aw (ag 4 (cj 12 (ak (.U false) []))),.U false,.aL [0,1,2,3,4] [.box [.id,.id,.id,.id,.id,.id],.bF (ae 1 (bk 2 0 2) ap),.bF (b5 2 aT a3),.pure,.pure] (a8 [0,1,4,5])] (.bg h1 h1 h1 h1 h1 h1 h1 h1 (.bg h1 h1 h1 h1 h1 cz (et (cF [0,1,2,3,4]) 2 2 0 2 rfl ap) (dB (cF [0,1,2,3,4]) 2 e4 a3) (.e2 (aI 1 .live aO ai) (aI 1 .live eS aE))))))
theorem T0 {hO af:Int}{aJ:Bool}{aG:List Int}{bo:Int}{ap:List bu}{a3:List (List bm)}{ai:List Int}{aE:List Bool}{bq:Int}{r} (h:CE hO af aJ aG bo ap a3 ai aE bq=some r):dP a6 86 5 69 [1,0,0,1,0,1,1,0,0,0] (FH hO af aJ aG bo ap a3 ai aE) (FP hO af aJ aG bo ap a3 ai aE) bq r:=dQ (fun _=>To) h
def FI (hO bo:Int)(aE:List Bool):(Int×Bool×(List Int)×(List bu)×(List (List bm))×(List Int))→S:=fun (af,aJ,aG,ap,a3,ai)=>dm [(0,.ref 0 0 0 0),(1,.n .i64 hO),(4,.n .i64 af)] [[ad.mk 6 [(fZ 1 0 0 ap.length aJ aG 3 0 0 ai.length bo 4 0 0 aE.length)] .live],(ae 1 (bk 2 0 2) ap),(b5 2 aT a3),(ae 1 eI ai),(ae 1 ed aE)]
def FQ (hO bo:Int)(aE:List Bool):(Bool×(List Int)×(List bu)×(List (List bm))×(List Int))→dp
 | a=>⟨some 0,[],[[ad.mk 6 [(fZ 1 0 0 a.2.2.1.length a.1 a.2.1 3 0 0 a.2.2.2.2.length bo 4 0 0 aE.length)] .live],(ae 1 (bk 2 0 2) a.2.2.1),(b5 2 aT a.2.2.2.1),(ae 1 eI a.2.2.2.2),(ae 1 ed aE)]⟩
def yX (hO bo:Int)(aE:List Bool)(af:Int)(aJ:Bool)(aG:List Int)(ap:List bu)(a3:List (List bm))(ai:List Int):Option ((Int×Bool×(List Int)×(List bu)×(List (List bm))×(List Int))⊕(Bool×(List Int)×(List bu)×(List (List bm))×(List Int))) :=
 if (decide (af<((ap.length:Nat):Int)))=true then
  if 0≤af∧af<(ai.length:Nat) then
  ai[(0+af.toNat)]? >>= fun aC =>
  if (decide (aC<hO))=true then
   some (.inl (R (af+(1:Int)),aJ,aG,ap,a3,ai))
  else
   CE hO af aJ aG bo ap a3 ai aE 0 >>= fun bA =>
   if (decide (bA<hO))=true then
    wG af bA aJ aG bo ap a3 ai aE >>= fun b6 =>
    some (.inl (R (af+(1:Int)),b6.1,b6.2.1,ap,b6.2.2.1,b6.2.2.2))
   else
    if 0≤af then
    if 0≤af.toNat∧af.toNat≤ap.length then
    if 0≤(R (af+(1:Int))) then
    if (R (af+(1:Int))).toNat≤ap.length then
    if (0+(R (af+(1:Int))).toNat)+(ap.length-(R (af+(1:Int))).toNat)≤ap.length then
    if (af.toNat-0)+((ap.drop (0+(R (af+(1:Int))).toNat)).take (ap.length-(R (af+(1:Int))).toNat)).length≤ap.length then
    if ((ap.drop (0+(R (af+(1:Int))).toNat)).take (ap.length-(R (af+(1:Int))).toNat)).length*24≤140737488355328 then
    if 0≤af.toNat∧af.toNat≤ai.length then
    if (R (af+(1:Int))).toNat≤ai.length then
    if (0+(R (af+(1:Int))).toNat)+(ai.length-(R (af+(1:Int))).toNat)≤ai.length then
    if (af.toNat-0)+((ai.drop (0+(R (af+(1:Int))).toNat)).take (ai.length-(R (af+(1:Int))).toNat)).length≤ai.length then
    if ((ai.drop (0+(R (af+(1:Int))).toNat)).take (ai.length-(R (af+(1:Int))).toNat)).length*8≤140737488355328 then
    some (.inl (af,aJ,aG,ap.take (af.toNat-0)++((ap.drop (0+(R (af+(1:Int))).toNat)).take (ap.length-(R (af+(1:Int))).toNat)),a3,ai.take (af.toNat-0)++((ai.drop (0+(R (af+(1:Int))).toNat)).take (ai.length-(R (af+(1:Int))).toNat))))
    else none
    else none
    else none
    else none
    else none
    else none
    else none
    else none
    else none
    else none
    else none
    else none
  else none
 else
  some (.inr (aJ,aG,ap,a3,ai))
def Gp (hO bo:Int)(aE:List Bool)(af:Int)(aJ:Bool)(aG:List Int)(ap:List bu)(a3:List (List bm))(ai:List Int):Option (Bool×(List Int)×(List bu)×(List (List bm))×(List Int)):=iter (fun w:Int×Bool×(List Int)×(List bu)×(List (List bm))×(List Int)=>yX hO bo aE w.1 w.2.1 w.2.2.1 w.2.2.2.1 w.2.2.2.2.1 w.2.2.2.2.2) (af,aJ,aG,ap,a3,ai)
theorem Tp {hO bo:Int}{aE:List Bool}{af:Int}{aJ:Bool}{aG:List Int}{ap:List bu}{a3:List (List bm)}{ai:List Int}:bw (yX hO bo aE af aJ aG ap a3 ai) (dO a6 86 5 69 [1,0,0] (FI hO bo aE (af,aJ,aG,ap,a3,ai)) (FI hO bo aE) (FQ hO bo aE)):=by
 unfold yX
 exact .ite (fun h1 =>
  .aX fun h2 =>
  .ar fun aC au =>
  (let t1:List bW:=[(I 7),.U true,.aw (bp 6 (.b2 (eI aC)) 2)];
  .ite (fun aA =>
  .ret (bf (t1.append [.U true,(I 3),.aL [0,1,2,3,4] [.box [.id,.id,.id,.id,.id,.id],.bF (ae 1 (bk 2 0 2) ap),.bF (b5 2 aT a3),.pure,.pure] (a8 [0,1,4])]) (.bg h1 h2.1 h2.2 (bT eI au) aA (et (cF [0,1,2,3,4]) 2 2 0 2 rfl ap) (dB (cF [0,1,2,3,4]) 2 e4 a3) (aI 1 .live aO ai) (.e1 (aI 1 .live eS aE)))))
  (fun aA =>
  .ar fun bA a7 =>
  (let t2:List bW:=t1.append [.U false,(I 1),.aL [0,1,2,3,4] [.box [.id,.id,.id,.id,.id,.id],.bF (ae 1 (bk 2 0 2) ap),.bF (b5 2 aT a3),.pure,.pure] (a8 [0,1,4,5]),(FP hO af aJ aG bo ap a3 ai aE bA).e8,(I 3)];
  have fk:=((.bg h1 h2.1 h2.2 (bT eI au) aA (et (cF [0,1,2,3,4]) 2 2 0 2 rfl ap) (dB (cF [0,1,2,3,4]) 2 e4 a3) (aI 1 .live aO ai) (.e2 (aI 1 .live eS aE) (T0 a7))):cn _);
  .ite (fun bi =>
  .ar fun b6 cO =>
  .ret (let q1:=fZ 1 0 0 ap.length b6.1 b6.2.1 3 0 0 b6.2.2.2.length bo 4 0 0 aE.length;let q2:=fZ 1 0 0 ap.length aJ aG 3 0 0 ai.length bo 4 0 0 aE.length;let bL:=ae 1 (bk 2 0 2) ap;let bZ:=b5 2 aT b6.2.2.1;let cH:=pa [0,1,2,3,4];let d8:=jJ [0,1,2,3,4];let fK:=kE 1 (ap.map (bk 2 0 2));bf (t2.append [.U true,.aw (ag 3 (ak (.call {aY:=(va [0,1,2,3,4]),dl:=[.bF [ad.mk 6 [q2] .live],.bF bL,.bF (b5 2 aT a3),.pure,.pure],ac:=[ii,ii,ii],r:= .dX [],fm:=[[ad.mk 6 [q1] .live],bL,bZ,(ae 1 eI b6.2.2.2),(ae 1 ed aE)],hI:=ii,jU:=[.bF [ad.mk 6 [q1] .live],.bF bL,.bF bZ,.pure,.pure],fB:=[0,1,2,3,4],fu:=false}) [])),(I 3),.aL [0,1,2,3,4] [.box [.id,.id,.id,.id,.id,.id],.bF bL,.bF bZ,.pure,.pure] (a8 [0,1,4])]) (fk.aH (.bg bi (x1 cH 6 [q2] [q2] rfl) (kE 6 [q2]) (et cH 2 2 0 2 rfl ap) fK (dB cH 2 e4 a3) (tD 2 aT a3) (hK 1 aO ai) (.bg (hK 1 eS aE) (x1 d8 6 [q1] [q1] rfl) (kE 6 [q1]) (et d8 2 2 0 2 rfl ap) fK (dB d8 2 e4 b6.2.2.1) (tD 2 aT b6.2.2.1) (hK 1 aO b6.2.2.2) (.dS (hK 1 eS aE) (ME b6 cO) (et (cF [0,1,2,3,4]) 2 2 0 2 rfl ap) (dB (cF [0,1,2,3,4]) 2 e4 b6.2.2.1) (aI 1 .live aO b6.2.2.2) (aI 1 .live eS aE)))))))
  (fun bi =>
  .aX fun cg =>
  .aX fun cO =>
  .aX fun eH =>
  .aX fun eX =>
  .aX fun ev =>
  .aX fun ew =>
  .aX fun fP =>
  .aX fun hR =>
  .aX fun hp =>
  .aX fun hq =>
  .aX fun gv =>
  .aX fun fh =>
  .ret (let eB:=(R (af+(1:Int)));let hD:=cW (bk 2 0 2) ap;let jv:=cF [0,1,2,3,4];let jw:=cW eI ai;bf (t2.append [.U false,.aw (bp 14 .fM 3),.aw (bp 14 .fM 3),.aL [0,1,2,3,4] [.box [.len ((ap.take (af.toNat-0)++((ap.drop (0+eB.toNat)).take (ap.length-eB.toNat))).length),.id,.id,.len ((ai.take (af.toNat-0)++((ai.drop (0+eB.toNat)).take (ai.length-eB.toNat))).length),.id,.id],.bF (ae 1 (bk 2 0 2) (ap.take (af.toNat-0)++((ap.drop (0+eB.toNat)).take (ap.length-eB.toNat)))),.bF (b5 2 aT a3),.cy (ae 1 eI (ai.take (af.toNat-0)++((ai.drop (0+eB.toNat)).take (ai.length-eB.toNat)))),.pure] (a8 [0,1,4])]) (fk.aH (.bg bi cg cO.1 cO.2 eH eX (Nat.le_refl ap.length) (rj hD ev) (.bg (Qx hD (oo hD (0+eB.toNat) (ap.length-eB.toNat)) ew) (Ps (oo hD (0+eB.toNat) (ap.length-eB.toNat)) fP) cg hR.1 hR.2 eH hp (Nat.le_refl ai.length) (.bg (rj jw hq) (Qx jw (oo jw (0+eB.toNat) (ai.length-eB.toNat)) gv) (Ps (oo jw (0+eB.toNat) (ai.length-eB.toNat)) fh) ((J4 (Qw ew) (oo hD (0+eB.toNat) (ap.length-eB.toNat)):(ap.take (af.toNat-0)++((ap.drop (0+eB.toNat)).take (ap.length-eB.toNat))).length=(af.toNat-0)+(((ap.map (bk 2 0 2)).drop (0+eB.toNat)).take (ap.length-eB.toNat)).length).symm) ((J4 (Qw gv) (oo jw (0+eB.toNat) (ai.length-eB.toNat)):(ai.take (af.toNat-0)++((ai.drop (0+eB.toNat)).take (ai.length-eB.toNat))).length=(af.toNat-0)+(((ai.map eI).drop (0+eB.toNat)).take (ai.length-eB.toNat)).length).symm) (c4 (ry (b7:=jv) 1 .live (bk 2 0 2) (J3 hD (af.toNat-0) (oo hD (0+eB.toNat) (ap.length-eB.toNat))) (s5 (rfl:jv 2=some 2))) (o1 (b7:=jv))) (dB jv 2 e4 a3) (cZ 1 .live (J3 jw (af.toNat-0) (oo jw (0+eB.toNat) (ai.length-eB.toNat)))) (.e2 (aI 1 .live aO (ai.take (af.toNat-0)++((ai.drop (0+eB.toNat)).take (ai.length-eB.toNat)))) (aI 1 .live eS aE))))))))))))
  (fun h1 =>
  .ret (bf [(I 7),.U false,.aL [0,1,2,3,4] [.box [.id,.id,.id,.id,.id,.id],.bF (ae 1 (bk 2 0 2) ap),.bF (b5 2 aT a3),.pure,.pure] []] (.dh h1 (et (cF [0,1,2,3,4]) 2 2 0 2 rfl ap) (dB (cF [0,1,2,3,4]) 2 e4 a3) (aI 1 .live aO ai) (aI 1 .live eS aE))))
theorem T1 {hO bo:Int}{aE:List Bool}{af:Int}{aJ:Bool}{aG:List Int}{ap:List bu}{a3:List (List bm)}{ai:List Int}{r} (h:Gp hO bo aE af aJ aG ap a3 ai=some r):dP a6 86 5 69 [1,0,0] (FI hO bo aE) (FQ hO bo aE) (af,aJ,aG,ap,a3,ai) r:=dQ (fun _=>Tp) h
def za (hO:Int)(oK:Bool)(oG:List Int)(jB:Int)(fb:List bu)(lV:List (List bm))(ie:List Int)(hr:List Bool):Option (Bool×(List Int)×(List bu)×(List (List bm))×(List Int)) :=
 Gp hO jB hr 0 oK oG fb lV ie >>= fun r1 =>
 some (r1.1,r1.2.1,r1.2.2.1,r1.2.2.2.1,r1.2.2.2.2)
theorem UA {hO:Int}{oK:Bool}{oG:List Int}{jB:Int}{fb:List bu}{lV:List (List bm)}{ie:List Int}{hr:List Bool}:bw (za hO oK oG jB fb lV ie hr) (fun a=>Con a6 69 [.ref 0 0 0 0,.n .i64 hO] [[ad.mk 6 [(fZ 1 0 0 fb.length oK oG 3 0 0 ie.length jB 4 0 0 hr.length)] .live],(ae 1 (bk 2 0 2) fb),(b5 2 aT lV),(ae 1 eI ie),(ae 1 ed hr)] (.dX []) [[ad.mk 6 [(fZ 1 0 0 a.2.2.1.length a.1 a.2.1 3 0 0 a.2.2.2.2.length jB 4 0 0 hr.length)] .live],(ae 1 (bk 2 0 2) a.2.2.1),(b5 2 aT a.2.2.2.1),(ae 1 eI a.2.2.2.2),(ae 1 ed hr)]):=by
 unfold za
 exact .ar fun r1 h2 =>
  .ret (let q1:=fZ 1 0 0 r1.2.2.1.length r1.1 r1.2.1 3 0 0 r1.2.2.2.2.length jB 4 0 0 hr.length;let q2:=cF [0,1,2,3,4];lU [(I 1),.aL [0,1,2,3,4] [.box [.id,.id,.id,.id,.id,.id],.bF (ae 1 (bk 2 0 2) fb),.bF (b5 2 aT lV),.pure,.pure] (a8 [0,1,4]),(FQ hO jB hr r1).e8] [0,1,2,3,4] [.bF [ad.mk 6 [q1] .live],.bF (ae 1 (bk 2 0 2) r1.2.2.1),.bF (b5 2 aT r1.2.2.2.1),.pure,.pure] (.bg (et q2 2 2 0 2 rfl fb) (dB q2 2 e4 lV) (aI 1 .live aO ie) (aI 1 .live eS hr) (T1 h2) (x1 q2 6 [q1] [q1] rfl) (et q2 2 2 0 2 rfl r1.2.2.1) (dB q2 2 e4 r1.2.2.2.1) (.e2 (aI 1 .live aO r1.2.2.2.2) (aI 1 .live eS hr))))
end Go.Proofs.YtamedijmgkdlgaaGreat
namespace Go.Proofs.YtamedijmgkdlgaaGreat
set_option linter.unusedVariables false
set_option linter.unusedSimpArgs false
open Go Go.VL
def Hj (dD cU:Int)(dU dK dT:List Int)(aV af:Int)(f9 ef:Nat)(jt:List Int)(jS:Int)(aJ:Bool)(aG:List Int)(ay:List bu)(ai:List Int)(aE:List Bool):(Int×(List (List bm)))→S:=fun (d6,iE)=>dm [(0,.dW 5 [[.n .i64 dD,.n .i64 cU,.isl 1 (dU.map eI),.isl 1 (dK.map eI),.isl 1 (dT.map eI)]] 0 0),(4,.n .i64 aV),(5,.ref 0 0 0 0),(6,.n .i64 af),(7,.bj 1 (f9+0) 0 ef),(8,.n .i64 (-1:Int)),(34,.n .i64 dD),(35,.n .i64 af),(51,.isl 1 (jt.map eI)),(52,.n .i64 jS),(53,.n .i64 d6)] [[ad.mk 6 [(fZ 2 0 0 ay.length aJ aG 3 0 0 ai.length aV 4 0 0 aE.length)] .live],(b5 2 aT iE),(ae 1 (bk 1 0 2) ay),(ae 1 eI ai),(ae 1 ed aE)]
def HO (dD cU:Int)(dU dK dT:List Int)(aV af:Int)(f9 ef:Nat)(jt:List Int)(jS:Int)(aJ:Bool)(aG:List Int)(ay:List bu)(ai:List Int)(aE:List Bool):(List (List bm))→dp
 | a=>⟨some 2,[(0,.dW 5 [[.n .i64 dD,.n .i64 cU,.isl 1 (dU.map eI),.isl 1 (dK.map eI),.isl 1 (dT.map eI)]] 0 0),(4,.n .i64 aV),(5,.ref 0 0 0 0),(6,.n .i64 af),(7,.bj 1 (f9+0) 0 ef),(8,.n .i64 (-1:Int)),(34,.n .i64 dD),(35,.n .i64 af)],[[ad.mk 6 [(fZ 2 0 0 ay.length aJ aG 3 0 0 ai.length aV 4 0 0 aE.length)] .live],(b5 2 aT a),(ae 1 (bk 1 0 2) ay),(ae 1 eI ai),(ae 1 ed aE)]⟩
def wH (dD cU:Int)(dU dK dT:List Int)(aV af:Int)(f9 ef:Nat)(jt:List Int)(jS:Int)(aJ:Bool)(aG:List Int)(ay:List bu)(ai:List Int)(aE:List Bool)(d6:Int)(iE:List (List bm)):Option ((Int×(List (List bm)))⊕((List (List bm)))) :=
 if (decide (d6<jS))=true then
  if 0≤d6∧d6<jt.length then
  jt[d6.toNat]? >>= fun aC =>
  om (R ((-1:Int)*aC)) >>= fun aZ =>
  iE[f9]? >>= fun iz =>
  if 0≤d6∧d6<(ef:Nat) then
  iz[(0+d6.toNat)]? >>= fun iO =>
  some (.inl (R (d6+(1:Int)),iE.set f9 (iz.set (0+d6.toNat) aZ)))
  else none
  else none
 else
  some (.inr iE)
def CZ (dD cU:Int)(dU dK dT:List Int)(aV af:Int)(f9 ef:Nat)(jt:List Int)(jS:Int)(aJ:Bool)(aG:List Int)(ay:List bu)(ai:List Int)(aE:List Bool)(d6:Int)(iE:List (List bm)):Option ((List (List bm))):=iter (fun w:Int×(List (List bm))=>wH dD cU dU dK dT aV af f9 ef jt jS aJ aG ay ai aE w.1 w.2) (d6,iE)
theorem UB {dD cU:Int}{dU dK dT:List Int}{aV af:Int}{f9 ef:Nat}{jt:List Int}{jS:Int}{aJ:Bool}{aG:List Int}{ay:List bu}{ai:List Int}{aE:List Bool}{d6:Int}{iE:List (List bm)}:bw (wH dD cU dU dK dT aV af f9 ef jt jS aJ aG ay ai aE d6 iE) (dO a6 205 0 41 [1,1,1,0,1,0,0,1,1,0,0,1,1,1,1,0,1,0,0] (Hj dD cU dU dK dT aV af f9 ef jt jS aJ aG ay ai aE (d6,iE)) (Hj dD cU dU dK dT aV af f9 ef jt jS aJ aG ay ai aE) (HO dD cU dU dK dT aV af f9 ef jt jS aJ aG ay ai aE)):=by
 unfold wH
 exact .ite (fun h1 =>
  .aX fun h2 =>
  .ar fun aC au =>
  .ar fun aZ aW =>
  .ar fun iz bi =>
  .aX fun cg =>
  .ar fun iO eH =>
  .ret (let q1:=jX (gd .live 2 aT iE) i5 bi;bf [(I 1),.U true,.aw (bp 2 (.b2 (eI aC)) 2),.aw (ag 5 (ak (bn 1 (.agg (aT aZ)) false) (ak (.gf (ad.mk 2 (iz.map aT) .live) []) (ak (.gf (ad.mk 2 (iz.map aT) .live) (aT iO)) [])))),(I 2),.aL [0,1,2,3,4] [.box [.id,.id,.id,.id,.id,.id],.bF (b5 2 aT (iE.set f9 (iz.set (0+d6.toNat) aZ))),.bF (ae 1 (bk 1 0 2) ay),.pure,.pure] (a8 [0,4,5,6,7,8,34,35,51,52,53])] (.bg h1 h2.1 (cP eI h2.2) (bT eI au) (rH aZ aW) q1 cg.1 cg.2 (.dS q1 (bT aT eH) (m4 (b7:=(cF [0,1,2,3,4])) (o0 (gd .live 2 aT iE) f9 (qp (cW aT iz) (0+d6.toNat) aZ (rfl:(setCells (aT iO) 0 (aT aZ))=aT aZ))) (mj e4)) (et (cF [0,1,2,3,4]) 1 1 0 2 rfl ay) (aI 1 .live aO ai) (aI 1 .live eS aE)))))
  (fun h1 =>
  .ret (bf [(I 1),.U false,.aL [0,1,2,3,4] [.box [.id,.id,.id,.id,.id,.id],.bF (b5 2 aT iE),.bF (ae 1 (bk 1 0 2) ay),.pure,.pure] (a8 [0,4,5,6,7,8,34,35])] (.dh h1 (dB (cF [0,1,2,3,4]) 2 e4 iE) (et (cF [0,1,2,3,4]) 1 1 0 2 rfl ay) (aI 1 .live aO ai) (aI 1 .live eS aE))))
theorem V5 {dD cU:Int}{dU dK dT:List Int}{aV af:Int}{f9 ef:Nat}{jt:List Int}{jS:Int}{aJ:Bool}{aG:List Int}{ay:List bu}{ai:List Int}{aE:List Bool}{d6:Int}{iE:List (List bm)}{r} (h:CZ dD cU dU dK dT aV af f9 ef jt jS aJ aG ay ai aE d6 iE=some r):dP a6 205 0 41 [1,1,1,0,1,0,0,1,1,0,0,1,1,1,1,0,1,0,0] (Hj dD cU dU dK dT aV af f9 ef jt jS aJ aG ay ai aE) (HO dD cU dU dK dT aV af f9 ef jt jS aJ aG ay ai aE) (d6,iE) r:=dQ (fun _=>UB) h
def Hk (dD cU:Int)(dU dK dT:List Int)(aV af:Int)(f9 ef:Nat)(jt:List Int)(jS:Int)(aJ:Bool)(aG:List Int)(ay:List bu)(ai:List Int)(aE:List Bool):(Int×(List (List bm)))→S:=fun (d6,iE)=>dm [(0,.dW 5 [[.n .i64 dD,.n .i64 cU,.isl 1 (dU.map eI),.isl 1 (dK.map eI),.isl 1 (dT.map eI)]] 0 0),(4,.n .i64 aV),(5,.ref 0 0 0 0),(6,.n .i64 af),(7,.bj 1 (f9+0) 0 ef),(8,.n .i64 (1:Int)),(34,.n .i64 dD),(35,.n .i64 af),(51,.isl 1 (jt.map eI)),(52,.n .i64 jS),(53,.n .i64 d6)] [[ad.mk 6 [(fZ 2 0 0 ay.length aJ aG 3 0 0 ai.length aV 4 0 0 aE.length)] .live],(b5 2 aT iE),(ae 1 (bk 1 0 2) ay),(ae 1 eI ai),(ae 1 ed aE)]
def HP (dD cU:Int)(dU dK dT:List Int)(aV af:Int)(f9 ef:Nat)(jt:List Int)(jS:Int)(aJ:Bool)(aG:List Int)(ay:List bu)(ai:List Int)(aE:List Bool):(List (List bm))→dp
 | a=>⟨some 2,[(0,.dW 5 [[.n .i64 dD,.n .i64 cU,.isl 1 (dU.map eI),.isl 1 (dK.map eI),.isl 1 (dT.map eI)]] 0 0),(4,.n .i64 aV),(5,.ref 0 0 0 0),(6,.n .i64 af),(7,.bj 1 (f9+0) 0 ef),(8,.n .i64 (1:Int)),(34,.n .i64 dD),(35,.n .i64 af)],[[ad.mk 6 [(fZ 2 0 0 ay.length aJ aG 3 0 0 ai.length aV 4 0 0 aE.length)] .live],(b5 2 aT a),(ae 1 (bk 1 0 2) ay),(ae 1 eI ai),(ae 1 ed aE)]⟩
def wI (dD cU:Int)(dU dK dT:List Int)(aV af:Int)(f9 ef:Nat)(jt:List Int)(jS:Int)(aJ:Bool)(aG:List Int)(ay:List bu)(ai:List Int)(aE:List Bool)(d6:Int)(iE:List (List bm)):Option ((Int×(List (List bm)))⊕((List (List bm)))) :=
 if (decide (d6<jS))=true then
  if 0≤d6∧d6<jt.length then
  jt[d6.toNat]? >>= fun aC =>
  om (R ((1:Int)*aC)) >>= fun aZ =>
  iE[f9]? >>= fun iz =>
  if 0≤d6∧d6<(ef:Nat) then
  iz[(0+d6.toNat)]? >>= fun iO =>
  some (.inl (R (d6+(1:Int)),iE.set f9 (iz.set (0+d6.toNat) aZ)))
  else none
  else none
 else
  some (.inr iE)
def C0 (dD cU:Int)(dU dK dT:List Int)(aV af:Int)(f9 ef:Nat)(jt:List Int)(jS:Int)(aJ:Bool)(aG:List Int)(ay:List bu)(ai:List Int)(aE:List Bool)(d6:Int)(iE:List (List bm)):Option ((List (List bm))):=iter (fun w:Int×(List (List bm))=>wI dD cU dU dK dT aV af f9 ef jt jS aJ aG ay ai aE w.1 w.2) (d6,iE)
theorem UC {dD cU:Int}{dU dK dT:List Int}{aV af:Int}{f9 ef:Nat}{jt:List Int}{jS:Int}{aJ:Bool}{aG:List Int}{ay:List bu}{ai:List Int}{aE:List Bool}{d6:Int}{iE:List (List bm)}:bw (wI dD cU dU dK dT aV af f9 ef jt jS aJ aG ay ai aE d6 iE) (dO a6 205 0 41 [1,1,1,0,1,0,0,1,1,0,0,1,1,1,1,0,1,0,0] (Hk dD cU dU dK dT aV af f9 ef jt jS aJ aG ay ai aE (d6,iE)) (Hk dD cU dU dK dT aV af f9 ef jt jS aJ aG ay ai aE) (HP dD cU dU dK dT aV af f9 ef jt jS aJ aG ay ai aE)):=by
 unfold wI
 exact .ite (fun h1 =>
  .aX fun h2 =>
  .ar fun aC au =>
  .ar fun aZ aW =>
  .ar fun iz bi =>
  .aX fun cg =>
  .ar fun iO eH =>
  .ret (let q1:=jX (gd .live 2 aT iE) i5 bi;bf [(I 1),.U true,.aw (bp 2 (.b2 (eI aC)) 2),.aw (ag 5 (ak (bn 1 (.agg (aT aZ)) false) (ak (.gf (ad.mk 2 (iz.map aT) .live) []) (ak (.gf (ad.mk 2 (iz.map aT) .live) (aT iO)) [])))),(I 2),.aL [0,1,2,3,4] [.box [.id,.id,.id,.id,.id,.id],.bF (b5 2 aT (iE.set f9 (iz.set (0+d6.toNat) aZ))),.bF (ae 1 (bk 1 0 2) ay),.pure,.pure] (a8 [0,4,5,6,7,8,34,35,51,52,53])] (.bg h1 h2.1 (cP eI h2.2) (bT eI au) (rH aZ aW) q1 cg.1 cg.2 (.dS q1 (bT aT eH) (m4 (b7:=(cF [0,1,2,3,4])) (o0 (gd .live 2 aT iE) f9 (qp (cW aT iz) (0+d6.toNat) aZ (rfl:(setCells (aT iO) 0 (aT aZ))=aT aZ))) (mj e4)) (et (cF [0,1,2,3,4]) 1 1 0 2 rfl ay) (aI 1 .live aO ai) (aI 1 .live eS aE)))))
  (fun h1 =>
  .ret (bf [(I 1),.U false,.aL [0,1,2,3,4] [.box [.id,.id,.id,.id,.id,.id],.bF (b5 2 aT iE),.bF (ae 1 (bk 1 0 2) ay),.pure,.pure] (a8 [0,4,5,6,7,8,34,35])] (.dh h1 (dB (cF [0,1,2,3,4]) 2 e4 iE) (et (cF [0,1,2,3,4]) 1 1 0 2 rfl ay) (aI 1 .live aO ai) (aI 1 .live eS aE))))
theorem V6 {dD cU:Int}{dU dK dT:List Int}{aV af:Int}{f9 ef:Nat}{jt:List Int}{jS:Int}{aJ:Bool}{aG:List Int}{ay:List bu}{ai:List Int}{aE:List Bool}{d6:Int}{iE:List (List bm)}{r} (h:C0 dD cU dU dK dT aV af f9 ef jt jS aJ aG ay ai aE d6 iE=some r):dP a6 205 0 41 [1,1,1,0,1,0,0,1,1,0,0,1,1,1,1,0,1,0,0] (Hk dD cU dU dK dT aV af f9 ef jt jS aJ aG ay ai aE) (HP dD cU dU dK dT aV af f9 ef jt jS aJ aG ay ai aE) (d6,iE) r:=dQ (fun _=>UC) h
def Hl (dD cU:Int)(dU dK dT:List Int)(aV:Int)(aJ:Bool)(aG:List Int)(aE:List Bool):(Int×(List bu)×(List (List bm))×(List Int))→S:=fun (df,ap,a3,ai)=>dm [(0,.dW 5 [[.n .i64 dD,.n .i64 cU,.isl 1 (dU.map eI),.isl 1 (dK.map eI),.isl 1 (dT.map eI)]] 0 0),(4,.n .i64 aV),(5,.ref 0 0 0 0),(34,.n .i64 dD),(35,.n .i64 df)] [[ad.mk 6 [(fZ 1 0 0 ap.length aJ aG 3 0 0 ai.length aV 4 0 0 aE.length)] .live],(ae 1 (bk 2 0 2) ap),(b5 2 aT a3),(ae 1 eI ai),(ae 1 ed aE)]
def HQ (dD cU:Int)(dU dK dT:List Int)(aV:Int)(aJ:Bool)(aG:List Int)(aE:List Bool):((List bu)×(List (List bm))×(List Int))→dp
 | a=>⟨some 0,[(0,.dW 5 [[.n .i64 dD,.n .i64 cU,.isl 1 (dU.map eI),.isl 1 (dK.map eI),.isl 1 (dT.map eI)]] 0 0),(4,.n .i64 aV),(5,.ref 0 0 0 0)],[[ad.mk 6 [(fZ 1 0 0 a.1.length aJ aG 3 0 0 a.2.2.length aV 4 0 0 aE.length)] .live],(ae 1 (bk 2 0 2) a.1),(b5 2 aT a.2.1),(ae 1 eI a.2.2),(ae 1 ed aE)]⟩
def wJ (dD cU:Int)(dU dK dT:List Int)(aV:Int)(aJ:Bool)(aG:List Int)(aE:List Bool)(df:Int)(ap:List bu)(a3:List (List bm))(ai:List Int):Option ((Int×(List bu)×(List (List bm))×(List Int))⊕((List bu)×(List (List bm))×(List Int))) :=
 if (decide (df<dD))=true then
  if 0≤(R (aV+(1:Int)))∧(32:Int)*(R (aV+(1:Int)))≤281474976710656∧(R (aV+(1:Int)))<9223372036854775808 then
  if 0≤df∧df<dK.length then
  dK[df.toNat]? >>= fun fT =>
  if (decide (fT<(0:Int)))=true then
   w7 (⟨dD,cU,dU,dK,dT⟩:hn) df >>= fun ck =>
   CZ dD cU dU dK dT aV df a3.length ((R (aV+(1:Int))).toNat) ck (len_ eI ck) aJ aG ap ai aE 0 (a3++[(List.replicate (R (aV+(1:Int))).toNat (⟨false,([]:List Int)⟩:bm):List bm)]) >>= fun b6 =>
   om 1 >>= fun dc =>
   b6[a3.length]? >>= fun lf =>
   if 0≤(R (cU+df))∧(R (cU+df))<((R (aV+(1:Int))).toNat:Nat) then
   lf[(0+(R (cU+df)).toNat)]? >>= fun mr =>
   om (R ((-1:Int)*fT)) >>= fun e7 =>
   (b6.set a3.length (lf.set (0+(R (cU+df)).toNat) dc))[a3.length]? >>= fun oR =>
   if 0≤aV∧aV<((R (aV+(1:Int))).toNat:Nat) then
   oR[(0+aV.toNat)]? >>= fun vg =>
   if (ap++([(some (a3.length,(R (aV+(1:Int))).toNat))]:List bu)).length*24≤140737488355328 then
   if (ai++([R (cU+df)]:List Int)).length*8≤140737488355328 then
   some (.inl (R (df+(1:Int)),ap++([(some (a3.length,(R (aV+(1:Int))).toNat))]:List bu),(b6.set a3.length (lf.set (0+(R (cU+df)).toNat) dc)).set a3.length (oR.set (0+aV.toNat) e7),ai++([R (cU+df)]:List Int)))
   else none
   else none
   else none
   else none
  else
   w7 (⟨dD,cU,dU,dK,dT⟩:hn) df >>= fun ck =>
   C0 dD cU dU dK dT aV df a3.length ((R (aV+(1:Int))).toNat) ck (len_ eI ck) aJ aG ap ai aE 0 (a3++[(List.replicate (R (aV+(1:Int))).toNat (⟨false,([]:List Int)⟩:bm):List bm)]) >>= fun b6 =>
   om 1 >>= fun dc =>
   b6[a3.length]? >>= fun lf =>
   if 0≤(R (cU+df))∧(R (cU+df))<((R (aV+(1:Int))).toNat:Nat) then
   lf[(0+(R (cU+df)).toNat)]? >>= fun mr =>
   om (R ((1:Int)*fT)) >>= fun e7 =>
   (b6.set a3.length (lf.set (0+(R (cU+df)).toNat) dc))[a3.length]? >>= fun oR =>
   if 0≤aV∧aV<((R (aV+(1:Int))).toNat:Nat) then
   oR[(0+aV.toNat)]? >>= fun vg =>
   if (ap++([(some (a3.length,(R (aV+(1:Int))).toNat))]:List bu)).length*24≤140737488355328 then
   if (ai++([R (cU+df)]:List Int)).length*8≤140737488355328 then
   some (.inl (R (df+(1:Int)),ap++([(some (a3.length,(R (aV+(1:Int))).toNat))]:List bu),(b6.set a3.length (lf.set (0+(R (cU+df)).toNat) dc)).set a3.length (oR.set (0+aV.toNat) e7),ai++([R (cU+df)]:List Int)))
   else none
   else none
   else none
   else none
  else none
  else none
 else
  some (.inr (ap,a3,ai))
def C1 (dD cU:Int)(dU dK dT:List Int)(aV:Int)(aJ:Bool)(aG:List Int)(aE:List Bool)(df:Int)(ap:List bu)(a3:List (List bm))(ai:List Int):Option ((List bu)×(List (List bm))×(List Int)):=iter (fun w:Int×(List bu)×(List (List bm))×(List Int)=>wJ dD cU dU dK dT aV aJ aG aE w.1 w.2.1 w.2.2.1 w.2.2.2) (df,ap,a3,ai)
theorem UD {dD cU:Int}{dU dK dT:List Int}{aV:Int}{aJ:Bool}{aG:List Int}{aE:List Bool}{df:Int}{ap:List bu}{a3:List (List bm)}{ai:List Int}:bw (wJ dD cU dU dK dT aV aJ aG aE df ap a3 ai) (dO a6 205 0 41 [1,1,1,0,1,0,0] (Hl dD cU dU dK dT aV aJ aG aE (df,ap,a3,ai)) (Hl dD cU dU dK dT aV aJ aG aE) (HQ dD cU dU dK dT aV aJ aG aE)):=by
 unfold wJ
 exact .ite (fun h1 =>
  .aX fun h2 =>
  .aX fun ab =>
  .ar fun fT aA =>
  (let t1:List bW:=[(I 1),.U true,(I 2),.aw (bp 2 (.vn 2 (a3.length+0) (.b2 [.b false,.isl 1 (([]:List Int).map eI)])) 1),(I 1),.aw (bp 6 (.b2 (eI fT)) 1)];
  have aS:=((.bg h1 h2.1 (Int.le_refl (R (aV+(1:Int)))) h2.2.1 h2.2.2 (congrArg (· + 0) (Kr (gd .live 2 aT a3) rfl)) ab.1 (cP eI ab.2) (.e1 (bT eI aA))):cn _);
  .ite (fun aW =>
  .ar fun ck bi =>
  .ar fun b6 cO =>
  .ar fun dc eX =>
  .ar fun lf ew =>
  .aX fun fP =>
  .ar fun mr hp =>
  .ar fun e7 gv =>
  .ar fun oR gK =>
  .aX fun iH =>
  .ar fun vg tt =>
  .aX fun oQ =>
  .aX fun BS =>
  .ret (let q2:=(R (aV+(1:Int)));let bL:=R (cU+df);let q1:=(o0 (gd .live 2 aT b6) a3.length (qp (cW aT lf) (0+bL.toNat) dc (rfl:(setCells (aT mr) 0 (aT dc))=aT dc)));let bZ:=cF [0,36,1,52,4];let cH:=(ai++([bL]:List Int));let d8:=(ap++([(some (a3.length,q2.toNat))]:List bu));let fK:=jX (gd .live 2 aT b6) i5 ew;bf (t1.append [.U true,(I 1),.aw (bp 2 (bn 2 (.isl 1 (ck.map eI)) false) 2),.aL [0,2,1,3,4] [.box [.id,.id,.id,.id,.id,.id],.bF (b5 2 aT (a3++[(List.replicate q2.toNat (⟨false,([]:List Int)⟩:bm):List bm)])),.bF (ae 1 (bk 1 0 2) ap),.pure,.pure] (a8 [0,4,5,6,7,8,34,35,51,52,53]),(HO dD cU dU dK dT aV df a3.length (q2.toNat) ck (len_ eI ck) aJ aG ap ai aE b6).e8,.aw (ag 7 (ak (bn 1 (.agg (aT dc)) false) (ak (.gf (ad.mk 2 (lf.map aT) .live) []) (ak (.gf (ad.mk 2 (lf.map aT) .live) (aT mr)) [])))),.aw (ag 9 (ak (.b2 (eI fT)) (ag 1 (ak (bn 1 (.agg (aT e7)) false) (ak (.gf (ad.mk 2 (oR.map aT) .live) []) (ak (.gf (ad.mk 2 (oR.map aT) .live) (aT vg)) [])))))),.aw (ag 6 (ak (.kf 93 (lB 1 0 2 (some (a3.length,q2.toNat))) .none) (ak (.aH (d8.length)) (ag 3 [])))),.aw (bp 12 (.aH (cH.length)) 3),(I 2),.aL [0,36,1,52,4] [.box [.id,.id,.id,.id,.id,.id],.bF (ae 1 (bk 2 0 2) d8),.bF (b5 2 aT ((b6.set a3.length (lf.set (0+bL.toNat) dc)).set a3.length (oR.set (0+aV.toNat) e7))),.cy (ae 1 eI cH),.pure] (a8 [0,4,5,34,35])]) (aS.aH (.bg aW (M0 ck bi) (m4 (b7:=(cF [0,2,1,3,4])) (D0 (gd .live 2 aT a3) (D9 rJ 10 2 (a3.length+0) (lF aT q2.toNat (⟨false,([]:List Int)⟩:bm)) (Ea 10 2 (a3.length+0)))) (mj e4)) (et (cF [0,2,1,3,4]) 1 2 0 2 rfl ap) (aI 1 .live aO ai) (aI 1 .live eS aE) (V5 cO) (rH dc eX) (.bg fK fP.1 fP.2 fK (bT aT hp) ab.1 (cP eI ab.2) (bT eI aA) (.bg (rH e7 gv) (jX q1 i5 gK) iH.1 iH.2 (jX q1 i5 gK) (bT aT tt) (.s2 1 0 2 a3.length (q2.toNat):kk (.bj 1 (a3.length+0) 0 (q2.toNat)) (lB 1 0 2 (some (a3.length,q2.toNat)))) (gN (bk 1 0 2) (some (a3.length,q2.toNat))) (.bg (gX (bk 1 0 2) ap) (gz (bk 1 0 2) ap (some (a3.length,q2.toNat))) oQ (gN eI bL) (gX eI ai) (gz eI ai bL) BS (c4 (ry (b7:=bZ) 1 .live (bk 2 0 2) (hd (bk 1 0 2) ap (some (a3.length,q2.toNat))) (s5 (rfl:bZ 1=some 2))) (o1 (b7:=bZ))) (.c7 (m4 (b7:=bZ) (o0 q1 a3.length (qp (cW aT oR) (0+aV.toNat) e7 (rfl:(setCells (aT vg) 0 (aT e7))=aT e7))) (mj e4)) (cZ 1 .live (hd eI ai bL)) (aI 1 .live aO cH) (aI 1 .live eS aE)))))))))
  (fun aW =>
  .ar fun ck bi =>
  .ar fun b6 cO =>
  .ar fun dc eX =>
  .ar fun lf ew =>
  .aX fun fP =>
  .ar fun mr hp =>
  .ar fun e7 gv =>
  .ar fun oR gK =>
  .aX fun iH =>
  .ar fun vg tt =>
  .aX fun oQ =>
  .aX fun BS =>
  .ret (let hD:=(R (aV+(1:Int)));let jv:=R (cU+df);let eB:=(o0 (gd .live 2 aT b6) a3.length (qp (cW aT lf) (0+jv.toNat) dc (rfl:(setCells (aT mr) 0 (aT dc))=aT dc)));let jw:=cF [0,36,1,52,4];let mo:=(ai++([jv]:List Int));let iI:=(ap++([(some (a3.length,hD.toNat))]:List bu));let qT:=jX (gd .live 2 aT b6) i5 ew;bf (t1.append [.U false,.aw (bp 2 (bn 2 (.isl 1 (ck.map eI)) false) 2),.aL [0,2,1,3,4] [.box [.id,.id,.id,.id,.id,.id],.bF (b5 2 aT (a3++[(List.replicate hD.toNat (⟨false,([]:List Int)⟩:bm):List bm)])),.bF (ae 1 (bk 1 0 2) ap),.pure,.pure] (a8 [0,4,5,6,7,8,34,35,51,52,53]),(HP dD cU dU dK dT aV df a3.length (hD.toNat) ck (len_ eI ck) aJ aG ap ai aE b6).e8,.aw (ag 7 (ak (bn 1 (.agg (aT dc)) false) (ak (.gf (ad.mk 2 (lf.map aT) .live) []) (ak (.gf (ad.mk 2 (lf.map aT) .live) (aT mr)) [])))),.aw (ag 9 (ak (.b2 (eI fT)) (ag 1 (ak (bn 1 (.agg (aT e7)) false) (ak (.gf (ad.mk 2 (oR.map aT) .live) []) (ak (.gf (ad.mk 2 (oR.map aT) .live) (aT vg)) [])))))),.aw (ag 6 (ak (.kf 93 (lB 1 0 2 (some (a3.length,hD.toNat))) .none) (ak (.aH (iI.length)) (ag 3 [])))),.aw (bp 12 (.aH (mo.length)) 3),(I 2),.aL [0,36,1,52,4] [.box [.id,.id,.id,.id,.id,.id],.bF (ae 1 (bk 2 0 2) iI),.bF (b5 2 aT ((b6.set a3.length (lf.set (0+jv.toNat) dc)).set a3.length (oR.set (0+aV.toNat) e7))),.cy (ae 1 eI mo),.pure] (a8 [0,4,5,34,35])]) (aS.aH (.bg aW (M0 ck bi) (m4 (b7:=(cF [0,2,1,3,4])) (D0 (gd .live 2 aT a3) (D9 rJ 10 2 (a3.length+0) (lF aT hD.toNat (⟨false,([]:List Int)⟩:bm)) (Ea 10 2 (a3.length+0)))) (mj e4)) (et (cF [0,2,1,3,4]) 1 2 0 2 rfl ap) (aI 1 .live aO ai) (aI 1 .live eS aE) (V6 cO) (rH dc eX) (.bg qT fP.1 fP.2 qT (bT aT hp) ab.1 (cP eI ab.2) (bT eI aA) (.bg (rH e7 gv) (jX eB i5 gK) iH.1 iH.2 (jX eB i5 gK) (bT aT tt) (.s2 1 0 2 a3.length (hD.toNat):kk (.bj 1 (a3.length+0) 0 (hD.toNat)) (lB 1 0 2 (some (a3.length,hD.toNat)))) (gN (bk 1 0 2) (some (a3.length,hD.toNat))) (.bg (gX (bk 1 0 2) ap) (gz (bk 1 0 2) ap (some (a3.length,hD.toNat))) oQ (gN eI jv) (gX eI ai) (gz eI ai jv) BS (c4 (ry (b7:=jw) 1 .live (bk 2 0 2) (hd (bk 1 0 2) ap (some (a3.length,hD.toNat))) (s5 (rfl:jw 1=some 2))) (o1 (b7:=jw))) (.c7 (m4 (b7:=jw) (o0 eB a3.length (qp (cW aT oR) (0+aV.toNat) e7 (rfl:(setCells (aT vg) 0 (aT e7))=aT e7))) (mj e4)) (cZ 1 .live (hd eI ai jv)) (aI 1 .live aO mo) (aI 1 .live eS aE)))))))))))
  (fun h1 =>
  .ret (bf [(I 1),.U false,.aL [0,1,2,3,4] [.box [.id,.id,.id,.id,.id,.id],.bF (ae 1 (bk 2 0 2) ap),.bF (b5 2 aT a3),.pure,.pure] (a8 [0,4,5])] (.dh h1 (et (cF [0,1,2,3,4]) 2 2 0 2 rfl ap) (dB (cF [0,1,2,3,4]) 2 e4 a3) (aI 1 .live aO ai) (aI 1 .live eS aE))))
theorem V7 {dD cU:Int}{dU dK dT:List Int}{aV:Int}{aJ:Bool}{aG:List Int}{aE:List Bool}{df:Int}{ap:List bu}{a3:List (List bm)}{ai:List Int}{r} (h:C1 dD cU dU dK dT aV aJ aG aE df ap a3 ai=some r):dP a6 205 0 41 [1,1,1,0,1,0,0] (Hl dD cU dU dK dT aV aJ aG aE) (HQ dD cU dU dK dT aV aJ aG aE) (df,ap,a3,ai) r:=dQ (fun _=>UD) h
def Hm (dD cU:Int)(dU dK dT:List Int)(aV ov:Int)(aJ:Bool)(aG:List Int)(ay:List bu)(dg:List (List bm))(aE:List Int):(Int×(List Int)×(List Bool))→S:=fun (gG,ap,bD)=>dm [(0,.dW 5 [[.n .i64 dD,.n .i64 cU,.isl 1 (dU.map eI),.isl 1 (dK.map eI),.isl 1 (dT.map eI)]] 0 0),(4,.n .i64 aV),(5,.ref 0 0 0 0),(11,.bj 1 0 0 ap.length),(117,.n .i64 ov),(118,.n .i64 gG)] [[ad.mk 6 [(fZ 2 0 0 ay.length aJ aG 4 0 0 aE.length aV 5 0 0 bD.length)] .live],(ae 1 eI ap),(ae 1 (bk 3 0 2) ay),(b5 2 aT dg),(ae 1 eI aE),(ae 1 ed bD)]
def HR (dD cU:Int)(dU dK dT:List Int)(aV ov:Int)(aJ:Bool)(aG:List Int)(ay:List bu)(dg:List (List bm))(aE:List Int):((List Int)×(List Bool))→dp
 | a=>⟨some 4,[(0,.dW 5 [[.n .i64 dD,.n .i64 cU,.isl 1 (dU.map eI),.isl 1 (dK.map eI),.isl 1 (dT.map eI)]] 0 0),(4,.n .i64 aV),(5,.ref 0 0 0 0),(11,.bj 1 0 0 a.1.length)],[[ad.mk 6 [(fZ 2 0 0 ay.length aJ aG 4 0 0 aE.length aV 5 0 0 a.2.length)] .live],(ae 1 eI a.1),(ae 1 (bk 3 0 2) ay),(b5 2 aT dg),(ae 1 eI aE),(ae 1 ed a.2)]⟩
def wK (dD cU:Int)(dU dK dT:List Int)(aV ov:Int)(aJ:Bool)(aG:List Int)(ay:List bu)(dg:List (List bm))(aE:List Int)(gG:Int)(ap:List Int)(bD:List Bool):Option ((Int×(List Int)×(List Bool))⊕((List Int)×(List Bool))) :=
 if (decide (gG<ov))=true then
  if 0≤gG∧gG<(bD.length:Nat) then
  if (0+gG.toNat)<bD.length then
  if (decide (cU≤gG))=true then
   if 0≤gG∧gG<(ap.length:Nat) then
   if (0+gG.toNat)<ap.length then
   some (.inl (R (gG+(1:Int)),ap.set (0+gG.toNat) (-1),bD.set (0+gG.toNat) (decide (gG<cU))))
   else none
   else none
  else
   some (.inl (R (gG+(1:Int)),ap,bD.set (0+gG.toNat) (decide (gG<cU))))
  else none
  else none
 else
  some (.inr (ap,bD))
def C2 (dD cU:Int)(dU dK dT:List Int)(aV ov:Int)(aJ:Bool)(aG:List Int)(ay:List bu)(dg:List (List bm))(aE:List Int)(gG:Int)(ap:List Int)(bD:List Bool):Option ((List Int)×(List Bool)):=iter (fun w:Int×(List Int)×(List Bool)=>wK dD cU dU dK dT aV ov aJ aG ay dg aE w.1 w.2.1 w.2.2) (gG,ap,bD)
theorem UE {dD cU:Int}{dU dK dT:List Int}{aV ov:Int}{aJ:Bool}{aG:List Int}{ay:List bu}{dg:List (List bm)}{aE:List Int}{gG:Int}{ap:List Int}{bD:List Bool}:bw (wK dD cU dU dK dT aV ov aJ aG ay dg aE gG ap bD) (dO a6 205 0 41 [1,1,1,1,1,0,1,0,0] (Hm dD cU dU dK dT aV ov aJ aG ay dg aE (gG,ap,bD)) (Hm dD cU dU dK dT aV ov aJ aG ay dg aE) (HR dD cU dU dK dT aV ov aJ aG ay dg aE)):=by
 unfold wK
 exact .ite (fun h1 =>
  .aX fun h2 =>
  .aX fun ab =>
  (let t1:List bW:=[(I 1),.U true,(I 2),.aw (ag 12 (ak .fM [])),(I 6)];
  have aS:=((.dh h1 h2.1 h2.2 (hB ed ab) (hx 1)):cn _);
  .ite (fun au =>
  .aX fun aA =>
  .aX fun aW =>
  .ret (let q1:=cF [0,1,2,3,4,5];bf (t1.append [.U true,.aw (ag 3 (ak .fM [])),(I 2),.aL [0,1,2,3,4,5] [.box [.id,.id,.id,.id,.id,.len ((bD.set (0+gG.toNat) (decide (gG<cU))).length)],.cy (ae 1 eI (ap.set (0+gG.toNat) (-1))),.bF (ae 1 (bk 3 0 2) ay),.bF (b5 2 aT dg),.pure,.cy (ae 1 ed (bD.set (0+gG.toNat) (decide (gG<cU))))] [(0,ii),(4,ii),(5,ii),(11,fY ((ap.set (0+gG.toNat) (-1)).length)),(117,ii),(118,ii)]]) (aS.aH (.bg au aA.1 aA.2 (hB eI aW) (hx 1) (hS (dH bD) (0+gG.toNat) (decide (gG<cU))) (cZ 1 .live (gF (cW eI ap) (0+gG.toNat) (-1))) (aI 1 .live aO (ap.set (0+gG.toNat) (-1))) (.dS (et q1 3 3 0 2 rfl ay) (dB q1 2 e4 dg) (aI 1 .live aO aE) (cZ 1 .live (gF (cW ed bD) (0+gG.toNat) (decide (gG<cU)))) (aI 1 .live eS (bD.set (0+gG.toNat) (decide (gG<cU)))) (hS (dH ap) (0+gG.toNat) (-1)))))))
  (fun au =>
  .ret (let q2:=cF [0,1,2,3,4,5];bf (t1.append [.U false,(I 2),.aL [0,1,2,3,4,5] [.box [.id,.id,.id,.id,.id,.len ((bD.set (0+gG.toNat) (decide (gG<cU))).length)],.pure,.bF (ae 1 (bk 3 0 2) ay),.bF (b5 2 aT dg),.pure,.cy (ae 1 ed (bD.set (0+gG.toNat) (decide (gG<cU))))] (a8 [0,4,5,11,117,118])]) (aS.aH (.gM au (hS (dH bD) (0+gG.toNat) (decide (gG<cU))) (aI 1 .live aO ap) (et q2 3 3 0 2 rfl ay) (dB q2 2 e4 dg) (aI 1 .live aO aE) (cZ 1 .live (gF (cW ed bD) (0+gG.toNat) (decide (gG<cU)))) (aI 1 .live eS (bD.set (0+gG.toNat) (decide (gG<cU))))))))))
  (fun h1 =>
  .ret (let bL:=cF [0,1,2,3,4,5];bf [(I 1),.U false,.aL [0,1,2,3,4,5] [.box [.id,.id,.id,.id,.id,.id],.pure,.bF (ae 1 (bk 3 0 2) ay),.bF (b5 2 aT dg),.pure,.pure] (a8 [0,4,5,11])] (.dS h1 (aI 1 .live aO ap) (et bL 3 3 0 2 rfl ay) (dB bL 2 e4 dg) (aI 1 .live aO aE) (aI 1 .live eS bD))))
theorem V8 {dD cU:Int}{dU dK dT:List Int}{aV ov:Int}{aJ:Bool}{aG:List Int}{ay:List bu}{dg:List (List bm)}{aE:List Int}{gG:Int}{ap:List Int}{bD:List Bool}{r} (h:C2 dD cU dU dK dT aV ov aJ aG ay dg aE gG ap bD=some r):dP a6 205 0 41 [1,1,1,1,1,0,1,0,0] (Hm dD cU dU dK dT aV ov aJ aG ay dg aE) (HR dD cU dU dK dT aV ov aJ aG ay dg aE) (gG,ap,bD) r:=dQ (fun _=>UE) h
def Hn (dD cU:Int)(dU dK dT:List Int)(aV ow:Int)(aJ:Bool)(aG:List Int)(bo:Int)(ap:List Int)(ay:List bu)(dg:List (List bm))(aE:List Bool):Int→S:=fun mE=>dm [(0,.dW 5 [[.n .i64 dD,.n .i64 cU,.isl 1 (dU.map eI),.isl 1 (dK.map eI),.isl 1 (dT.map eI)]] 0 0),(4,.n .i64 aV),(5,.ref 0 0 0 0),(149,.bj 1 0 0 ap.length),(150,.n .i64 ow),(151,.n .i64 mE)] [[ad.mk 6 [(fZ 2 0 0 ay.length aJ aG 1 0 0 ap.length bo 4 0 0 aE.length)] .live],(ae 1 eI ap),(ae 1 (bk 3 0 2) ay),(b5 2 aT dg),(ae 1 ed aE)]
def HS (dD cU:Int)(dU dK dT:List Int)(aV ow:Int)(aJ:Bool)(aG:List Int)(bo:Int)(ap:List Int)(ay:List bu)(dg:List (List bm))(aE:List Bool):((Unit)⊕(Unit))→dp
 | .inl a=>⟨some 6,[(0,.dW 5 [[.n .i64 dD,.n .i64 cU,.isl 1 (dU.map eI),.isl 1 (dK.map eI),.isl 1 (dT.map eI)]] 0 0),(5,.ref 0 0 0 0)],[[ad.mk 6 [(fZ 1 0 0 ay.length aJ aG 3 0 0 ap.length bo 4 0 0 aE.length)] .live],(ae 1 (bk 2 0 2) ay),(b5 2 aT dg),(ae 1 eI ap),(ae 1 ed aE)]⟩
 | .inr a=>⟨none,[(2,.hX),(3,.b false)],[]⟩
def wL (dD cU:Int)(dU dK dT:List Int)(aV ow:Int)(aJ:Bool)(aG:List Int)(bo:Int)(ap:List Int)(ay:List bu)(dg:List (List bm))(aE:List Bool)(mE:Int):Option ((Int)⊕((Unit)⊕(Unit))) :=
 if (decide (mE<ow))=true then
  if 0≤mE∧mE<(ap.length:Nat) then
  ap[(0+mE.toNat)]? >>= fun aC =>
  if (decide (cU≤aC))=true then
   if 0≤mE∧mE<(ay.length:Nat) then
   ay[(0+mE.toNat)]? >>= fun fi =>
   fi >>= fun lX =>
   dg[lX.1]? >>= fun EJ =>
   if 0≤aV∧aV<(lX.2:Nat) then
   EJ[(0+aV.toNat)]? >>= fun LI =>
   oV LI >>= fun ey =>
   if (decide ((0:Int)<ey))=true then
    some (.inr (.inr ()))
   else
    some (.inl (R (mE+(1:Int))))
   else none
   else none
  else
   some (.inl (R (mE+(1:Int))))
  else none
 else
  some (.inr (.inl ()))
def C3 (dD cU:Int)(dU dK dT:List Int)(aV ow:Int)(aJ:Bool)(aG:List Int)(bo:Int)(ap:List Int)(ay:List bu)(dg:List (List bm))(aE:List Bool)(mE:Int):Option ((Unit)⊕(Unit)):=iter (fun w:Int=>wL dD cU dU dK dT aV ow aJ aG bo ap ay dg aE w) mE
theorem UF {dD cU:Int}{dU dK dT:List Int}{aV ow:Int}{aJ:Bool}{aG:List Int}{bo:Int}{ap:List Int}{ay:List bu}{dg:List (List bm)}{aE:List Bool}{mE:Int}:bw (wL dD cU dU dK dT aV ow aJ aG bo ap ay dg aE mE) (dO a6 205 0 41 [1,1,1,1,1,1,1,0,1,0,0] (Hn dD cU dU dK dT aV ow aJ aG bo ap ay dg aE mE) (Hn dD cU dU dK dT aV ow aJ aG bo ap ay dg aE) (HS dD cU dU dK dT aV ow aJ aG bo ap ay dg aE)):=by
 unfold wL
 exact .ite (fun h1 =>
  .aX fun h2 =>
  .ar fun aC au =>
  (let t1:List bW:=[(I 1),.U true,.aw (bp 2 (.b2 (eI aC)) 2)];
  .ite (fun aA =>
  .aX fun aW =>
  .ar fun fi bi =>
  .ar fun lX cO =>
  .ar fun EJ eX =>
  .aX fun ev =>
  .ar fun LI fP =>
  .ar fun ey hp =>
  (let q1:=jX (gd .live 2 aT dg) i5 eX;let t2:List bW:=t1.append [.aw (ag 13 (ak (.b2 ((bk 3 0 2) fi)) (ag 1 (ak (.kf 169 (.bj 3 (lX.1+0) 0 lX.2) (.gf (ad.mk 2 (EJ.map aT) .live) [])) (ak (.gf (ad.mk 2 (EJ.map aT) .live) (aT LI)) (ak (bn 1 (.n .i64 ey) true) (ag 1 (ak (.U true) []))))))))];
  have fk:=((.bg h1 h2.1 h2.2 (bT eI au) aA aA aA aA (.bg aA aA aW.1 aW.2 aA (bT (bk 3 0 2) bi) aA aA (.bg (l1 (dN:=3) (c:=0) (sz:=2) cO) q1 ev.1 ev.2 aA q1 (bT aT fP) aA (.c7 (sF ey hp) (b3.n .i64 ey) aA aA)))):cn _);
  .ite (fun hq =>
  .ret (bf (t2.append [.U true,(I 2),.aL [] [] (a8 [2,3])]) (fk.aH (.e1 hq))))
  (fun hq =>
  .ret (bf (t2.append [.U false,(I 2),.aL [0,1,2,3,4] [.box [.id,.id,.id,.id,.id,.id],.pure,.bF (ae 1 (bk 3 0 2) ay),.bF (b5 2 aT dg),.pure] (a8 [0,4,5,149,150,151])]) (fk.aH (.dh hq (aI 1 .live aO ap) (et (cF [0,1,2,3,4]) 3 3 0 2 rfl ay) (dB (cF [0,1,2,3,4]) 2 e4 dg) (aI 1 .live eS aE)))))))
  (fun aA =>
  .ret (bf (t1.append [.aw (ag 7 (cj 12 (ak (.U false) []))),.U false,(I 2),.aL [0,1,2,3,4] [.box [.id,.id,.id,.id,.id,.id],.pure,.bF (ae 1 (bk 3 0 2) ay),.bF (b5 2 aT dg),.pure] (a8 [0,4,5,149,150,151])]) (.bg h1 h2.1 h2.2 (bT eI au) aA aA aA aA (.bg aA aA aA aA aA aA aA aA (.dS aA cz (aI 1 .live aO ap) (et (cF [0,1,2,3,4]) 3 3 0 2 rfl ay) (dB (cF [0,1,2,3,4]) 2 e4 dg) (aI 1 .live eS aE))))))))
  (fun h1 =>
  .ret (bf [(I 1),.U false,.aL [0,2,3,1,4] [.box [.id,.id,.id,.id,.id,.id],.bF (ae 1 (bk 2 0 2) ay),.bF (b5 2 aT dg),.pure,.pure] (a8 [0,5])] (.dh h1 (et (cF [0,2,3,1,4]) 2 3 0 2 rfl ay) (dB (cF [0,2,3,1,4]) 2 e4 dg) (aI 1 .live aO ap) (aI 1 .live eS aE))))
theorem Na {dD cU:Int}{dU dK dT:List Int}{aV ow:Int}{aJ:Bool}{aG:List Int}{bo:Int}{ap:List Int}{ay:List bu}{dg:List (List bm)}{aE:List Bool}{mE:Int}{r} (h:C3 dD cU dU dK dT aV ow aJ aG bo ap ay dg aE mE=some r):dP a6 205 0 41 [1,1,1,1,1,1,1,0,1,0,0] (Hn dD cU dU dK dT aV ow aJ aG bo ap ay dg aE) (HS dD cU dU dK dT aV ow aJ aG bo ap ay dg aE) mE r:=dQ (fun _=>UF) h
def Ho (dD cU:Int)(dU dK dT:List Int)(ox:Int)(aJ:Bool)(aG:List Int)(bo:Int)(ap:List bu)(a3:List (List bm))(ai:List Int):(Int×(List Bool))→S:=fun (kw,aE)=>dm [(0,.dW 5 [[.n .i64 dD,.n .i64 cU,.isl 1 (dU.map eI),.isl 1 (dK.map eI),.isl 1 (dT.map eI)]] 0 0),(5,.ref 0 0 0 0),(181,.n .i64 ox),(182,.n .i64 kw)] [[ad.mk 6 [(fZ 1 0 0 ap.length aJ aG 3 0 0 ai.length bo 4 0 0 aE.length)] .live],(ae 1 (bk 2 0 2) ap),(b5 2 aT a3),(ae 1 eI ai),(ae 1 ed aE)]
def HT (dD cU:Int)(dU dK dT:List Int)(ox:Int)(aJ:Bool)(aG:List Int)(bo:Int)(ap:List bu)(a3:List (List bm))(ai:List Int):(List Bool)→dp
 | a=>⟨some 8,[(0,.dW 5 [[.n .i64 dD,.n .i64 cU,.isl 1 (dU.map eI),.isl 1 (dK.map eI),.isl 1 (dT.map eI)]] 0 0),(5,.ref 0 0 0 0)],[[ad.mk 6 [(fZ 1 0 0 ap.length aJ aG 3 0 0 ai.length bo 4 0 0 a.length)] .live],(ae 1 (bk 2 0 2) ap),(b5 2 aT a3),(ae 1 eI ai),(ae 1 ed a)]⟩
def wM (dD cU:Int)(dU dK dT:List Int)(ox:Int)(aJ:Bool)(aG:List Int)(bo:Int)(ap:List bu)(a3:List (List bm))(ai:List Int)(kw:Int)(aE:List Bool):Option ((Int×(List Bool))⊕((List Bool))) :=
 if (decide (kw<ox))=true then
  if 0≤kw∧kw<(aE.length:Nat) then
  if (0+kw.toNat)<aE.length then
  some (.inl (R (kw+(1:Int)),aE.set (0+kw.toNat) (decide (kw<cU))))
  else none
  else none
 else
  some (.inr aE)
def C4 (dD cU:Int)(dU dK dT:List Int)(ox:Int)(aJ:Bool)(aG:List Int)(bo:Int)(ap:List bu)(a3:List (List bm))(ai:List Int)(kw:Int)(aE:List Bool):Option ((List Bool)):=iter (fun w:Int×(List Bool)=>wM dD cU dU dK dT ox aJ aG bo ap a3 ai w.1 w.2) (kw,aE)
theorem UG {dD cU:Int}{dU dK dT:List Int}{ox:Int}{aJ:Bool}{aG:List Int}{bo:Int}{ap:List bu}{a3:List (List bm)}{ai:List Int}{kw:Int}{aE:List Bool}:bw (wM dD cU dU dK dT ox aJ aG bo ap a3 ai kw aE) (dO a6 205 0 41 [1,1,1,1,1,1,1,1,0,1,0,0] (Ho dD cU dU dK dT ox aJ aG bo ap a3 ai (kw,aE)) (Ho dD cU dU dK dT ox aJ aG bo ap a3 ai) (HT dD cU dU dK dT ox aJ aG bo ap a3 ai)):=by
 unfold wM
 exact .ite (fun h1 =>
  .aX fun h2 =>
  .aX fun ab =>
  .ret (bf [(I 1),.U true,(I 2),.aw (ag 12 (ak .fM [])),(I 2),.aL [0,1,2,3,4] [.box [.id,.id,.id,.id,.id,.len ((aE.set (0+kw.toNat) (decide (kw<cU))).length)],.bF (ae 1 (bk 2 0 2) ap),.bF (b5 2 aT a3),.pure,.cy (ae 1 ed (aE.set (0+kw.toNat) (decide (kw<cU))))] (a8 [0,5,181,182])] (.bg h1 h2.1 h2.2 (hB ed ab) (hx 1) (hS (dH aE) (0+kw.toNat) (decide (kw<cU))) (et (cF [0,1,2,3,4]) 2 2 0 2 rfl ap) (dB (cF [0,1,2,3,4]) 2 e4 a3) (.bR (aI 1 .live aO ai) (cZ 1 .live (gF (cW ed aE) (0+kw.toNat) (decide (kw<cU)))) (aI 1 .live eS (aE.set (0+kw.toNat) (decide (kw<cU))))))))
  (fun h1 =>
  .ret (bf [(I 1),.U false,.aL [0,1,2,3,4] [.box [.id,.id,.id,.id,.id,.id],.bF (ae 1 (bk 2 0 2) ap),.bF (b5 2 aT a3),.pure,.pure] (a8 [0,5])] (.dh h1 (et (cF [0,1,2,3,4]) 2 2 0 2 rfl ap) (dB (cF [0,1,2,3,4]) 2 e4 a3) (aI 1 .live aO ai) (aI 1 .live eS aE))))
theorem V9 {dD cU:Int}{dU dK dT:List Int}{ox:Int}{aJ:Bool}{aG:List Int}{bo:Int}{ap:List bu}{a3:List (List bm)}{ai:List Int}{kw:Int}{aE:List Bool}{r} (h:C4 dD cU dU dK dT ox aJ aG bo ap a3 ai kw aE=some r):dP a6 205 0 41 [1,1,1,1,1,1,1,1,0,1,0,0] (Ho dD cU dU dK dT ox aJ aG bo ap a3 ai) (HT dD cU dU dK dT ox aJ aG bo ap a3 ai) (kw,aE) r:=dQ (fun _=>UG) h
def zV (b8:hn):Option ((Bool×(List Int)×Int×(List bu)×(List Int)×(List Bool)×(List (List bm)))⊕(Unit)) :=
 om 1 >>= fun r1 =>
 if 0≤(R (b8.d9+b8.fr))∧(1:Int)*(R (b8.d9+b8.fr))≤281474976710656∧(R (b8.d9+b8.fr))<9223372036854775808 then
 C1 b8.fr b8.d9 b8.dG b8.ei b8.hC (R (b8.d9+b8.fr)) r1.cQ r1.cA (List.replicate (R (b8.d9+b8.fr)).toNat false:List Bool) 0 ([]:List bu) ([]:List (List bm)) ([]:List Int) >>= fun bh =>
 if 0≤(R (b8.d9+b8.fr))∧(8:Int)*(R (b8.d9+b8.fr))≤281474976710656∧(R (b8.d9+b8.fr))<9223372036854775808 then
 C2 b8.fr b8.d9 b8.dG b8.ei b8.hC (R (b8.d9+b8.fr)) (((R (b8.d9+b8.fr)).toNat:Nat):Int) r1.cQ r1.cA bh.1 bh.2.1 bh.2.2 0 (List.replicate (R (b8.d9+b8.fr)).toNat 0:List Int) (List.replicate (R (b8.d9+b8.fr)).toNat false:List Bool) >>= fun ck =>
 wq r1.cQ r1.cA (R (b8.d9+b8.fr)) bh.1 bh.2.1 bh.2.2 ck.2 ck.1 >>= fun b6 =>
 C3 b8.fr b8.d9 b8.dG b8.ei b8.hC (R (b8.d9+b8.fr)) ((b6.2.2.2.2.1.length:Nat):Int) b6.2.1 b6.2.2.1 (R (b8.d9+b8.fr)) b6.2.2.2.2.1 bh.1 b6.2.2.2.1 b6.2.2.2.2.2 0 >>= fun dc =>
 match dc with
 | .inl tq=>(C4 b8.fr b8.d9 b8.dG b8.ei b8.hC ((b6.2.2.2.2.2.length:Nat):Int) b6.2.1 b6.2.2.1 (R (b8.d9+b8.fr)) bh.1 b6.2.2.2.1 b6.2.2.2.2.1 0 b6.2.2.2.2.2 >>= fun gb =>
  za b8.d9 b6.2.1 b6.2.2.1 (R (b8.d9+b8.fr)) bh.1 b6.2.2.2.1 b6.2.2.2.2.1 gb >>= fun ey =>
  some (.inl (ey.1,ey.2.1,(R (b8.d9+b8.fr)),ey.2.2.1,ey.2.2.2.2,gb,ey.2.2.2.1)))
 | .inr tq=>(some (.inr ()))
 else none
 else none
set_option maxHeartbeats 4000000 in
theorem Ny {b8:hn}:bw (zV b8) (Sum.elim (fun a=>Con a6 41 [.dW 5 [(nV b8)] 0 0] [] (.dX [.ref 0 0 0 0,.b true]) [(ad.mk 6 [(fZ 0 1 0 a.2.2.2.1.length a.1 a.2.1 0 2 0 a.2.2.2.2.1.length a.2.2.1 0 3 0 a.2.2.2.2.2.1.length)] .live::ad.mk 1 (a.2.2.2.1.map (bk 0 4 2)) .live::ad.mk 1 (a.2.2.2.2.1.map eI) .live::ad.mk 1 (a.2.2.2.2.2.1.map ed) .live::(b5 2 aT a.2.2.2.2.2.2))]) (fun a=>Con a6 41 [.dW 5 [(nV b8)] 0 0] [] (.dX [.hX,.b false]) [])):=by
 unfold zV
 exact .ar fun r1 h2 =>
  .aX fun ab =>
  .ar fun bh aA =>
  .aX fun aW =>
  .ar fun ck bi =>
  .ar fun b6 cO =>
  .ar fun dc eX =>
  (let iI:=R (b8.d9+b8.fr);let qT:=fZ 1 0 0 bh.1.length b6.2.1 b6.2.2.1 3 0 0 b6.2.2.2.2.1.length iI 4 0 0 b6.2.2.2.2.2.length;let BQ:=fZ 2 0 0 bh.1.length b6.2.1 b6.2.2.1 4 0 0 b6.2.2.2.2.1.length iI 5 0 0 b6.2.2.2.2.2.length;let rs:=(List.replicate iI.toNat false:List Bool);let ts:=cF [17,24,25,26,15];let BR:=fZ 1 0 0 bh.1.length r1.cQ r1.cA 3 0 0 bh.2.2.length iI 4 0 0 ck.2.length;let yE:=fZ 2 0 0 bh.1.length r1.cQ r1.cA 4 0 0 bh.2.2.length iI 5 0 0 ck.2.length;let ve:=b5 2 aT b6.2.2.2.1;let yF:=(List.replicate iI.toNat 0:List Int);let yG:=ae 1 (bk 3 0 2) bh.1;let tr:=pa [0,2,3,4,5,1];let yH:=jJ [0,2,3,4,5,1];let R1:=ae 1 (bk 2 0 2) bh.1;let R2:=cF [0,6,1,2,3,4];let t1:List bW:=[(I 2),(I 10),.aw (bp 1 (bn 1 (.agg (aT r1)) false) 5),(I 5),.rr 17 0 1,.EC,.rr 17 3 1,.aL [17,24,25,26,15] [.box [.len (([]:List bu).length),.id,.id,.len (([]:List Int).length),.id,.len (rs.length)],.bF (ae 1 (bk 2 0 2) ([]:List bu)),.bF (b5 2 aT ([]:List (List bm))),.cy (ae 1 eI ([]:List Int)),.cy (ae 1 ed rs)] (a8 [0,4,5,34,35]),(HQ b8.fr b8.d9 b8.dG b8.ei b8.hC iI r1.cQ r1.cA rs bh).e8,(I 3),(I 3),.aL [0,6,1,2,3,4] [.box [.id,.id,.id,.id,.id,.id],.cy (ae 1 eI yF),.bF yG,.bF (b5 2 aT bh.2.1),.pure,.pure] [(0,ii),(4,ii),(5,ii),(11,fY (yF.length)),(117,ii),(118,ii)],(HR b8.fr b8.d9 b8.dG b8.ei b8.hC iI ((iI.toNat:Nat):Int) r1.cQ r1.cA bh.1 bh.2.1 bh.2.2 ck).e8,.aw (ag 2 (ak (.call {aY:=(va [0,2,3,4,5,1]),dl:=[.bF [ad.mk 6 [BR] .live],.bF R1,.bF (b5 2 aT bh.2.1),.pure,.pure,.pure],ac:=[ii,ii],r:= .b b6.1,fm:=[[ad.mk 6 [qT] .live],R1,ve,(ae 1 eI b6.2.2.2.2.1),(ae 1 ed b6.2.2.2.2.2),(ae 1 eI ck.1)],hI:=ii,jU:=[.bF [ad.mk 6 [BQ] .live],.bF yG,.bF ve,.pure,.pure,.pure],fB:=[0,1,2,3,4,5],fu:=false}) [])),(I 6),.aL [0,4,2,3,5] [.box [.id,.id,.id,.id,.id,.id],.pure,.bF yG,.bF ve,.pure] (a8 [0,4,5,149,150,151])];
  have aS:=((.bg (rH r1 h2) ab.1 (Int.le_refl iI) ab.2.1 ab.2.2 (eZ bu) (eZ Int) (l0 iI.toNat (false:Bool)) (.bg (c4 (ry (b7:=ts) 1 .live (bk 2 0 2) (nn (bk 25 0 2)) (s5 (rfl:ts 25=some 2))) (o1 (b7:=ts))) (m4 (b7:=ts) (Qs .live 2 aT) (mj e4)) (cZ 1 .live (nn eI)) (aI 1 .live aO ([]:List Int)) (cZ 1 .live (lF ed iI.toNat false)) (aI 1 .live eS rs) (V7 aA) aW.1 (.bg (Int.le_refl iI) aW.2.1 aW.2.2 (cZ 1 .live (lF eI iI.toNat 0)) (aI 1 .live aO yF) (et R2 3 2 0 2 rfl bh.1) (dB R2 2 e4 bh.2.1) (aI 1 .live aO bh.2.2) (.bg (aI 1 .live eS rs) (l0 iI.toNat (0:Int)) (V8 bi) (x1 tr 6 [BR] [yE] rfl) (kE 6 [yE]) (et tr 2 3 0 2 rfl bh.1) (kE 1 (bh.1.map (bk 3 0 2))) (dB tr 2 e4 bh.2.1) (.bg (tD 2 aT bh.2.1) (hK 1 aO bh.2.2) (hK 1 eS ck.2) (hK 1 aO ck.1) (x1 yH 6 [BQ] [qT] rfl) (kE 6 [qT]) (et yH 3 2 0 2 rfl bh.1) (kE 1 (bh.1.map (bk 2 0 2))) (.bg (dB yH 2 e4 b6.2.2.2.1) (tD 2 aT b6.2.2.2.1) (hK 1 aO b6.2.2.2.2.1) (hK 1 eS b6.2.2.2.2.2) (hK 1 aO ck.1) (TZ b6 cO) (aI 1 .live aO b6.2.2.2.2.1) (et (cF [0,4,2,3,5]) 3 3 0 2 rfl bh.1) (.e2 (dB (cF [0,4,2,3,5]) 2 e4 b6.2.2.2.1) (aI 1 .live eS b6.2.2.2.2.2)))))))):cn _);
  (by
  rcases dc with tq|tq
  ·exact (.ar fun gb fP =>
  .ar fun ey hp =>
  .ret (let bZ:=b5 2 aT ey.2.2.2.1;let cH:=ae 1 (bk 2 0 2) ey.2.2.1;let d8:=R (b8.d9+b8.fr);let q1:=fZ 1 0 0 ey.2.2.1.length ey.1 ey.2.1 3 0 0 ey.2.2.2.2.length d8 4 0 0 gb.length;let q2:=fZ 1 0 0 bh.1.length b6.2.1 b6.2.2.1 3 0 0 b6.2.2.2.2.1.length d8 4 0 0 gb.length;let bL:=fZ 0 1 0 ey.2.2.1.length ey.1 ey.2.1 0 2 0 ey.2.2.2.2.length d8 0 3 0 gb.length;let fK:=pa [0,1,2,3,4];let eB:=jJ [0,1,2,3,4];let hD:=ae 1 (bk 0 4 2) ey.2.2.1;let jv:=b5 2 aT b6.2.2.2.1;let jw:=ae 1 (bk 2 0 2) bh.1;let mo:=cF [0];lU (t1.append [(HS b8.fr b8.d9 b8.dG b8.ei b8.hC d8 ((b6.2.2.2.2.1.length:Nat):Int) b6.2.1 b6.2.2.1 d8 b6.2.2.2.2.1 bh.1 b6.2.2.2.1 b6.2.2.2.2.2 (.inl tq)).e8,(I 6),.aL [0,1,2,3,4] [.box [.id,.id,.id,.id,.id,.id],.bF jw,.bF jv,.pure,.pure] (a8 [0,5,181,182]),(HT b8.fr b8.d9 b8.dG b8.ei b8.hC ((b6.2.2.2.2.2.length:Nat):Int) b6.2.1 b6.2.2.1 d8 bh.1 b6.2.2.2.1 b6.2.2.2.2.1 gb).e8,.aw (ag 5 (ak (.call {aY:=(va [0,1,2,3,4]),dl:=[.bF [ad.mk 6 [q2] .live],.bF jw,.bF jv,.pure,.pure],ac:=[ii,ii],r:= .dX [],fm:=[[ad.mk 6 [q1] .live],cH,bZ,(ae 1 eI ey.2.2.2.2),(ae 1 ed gb)],hI:=ii,jU:=[.bF [ad.mk 6 [q1] .live],.bF cH,.bF bZ,.pure,.pure],fB:=[0,1,2,3,4],fu:=false}) [])),(I 3),.BM [{bG:=[(0,0),(1,0),(3,0),(4,0)],iy:=some (2,0)}] [([.box [.at_ 0 1 ey.2.2.1.length,.id,.id,.at_ 0 2 ey.2.2.2.2.length,.id,.at_ 0 3 gb.length],.rx hD,.pure,.pure],some (.rx bZ))] [(2,.br (.da (.at_ 0 0 0))),(3,ii)]]) [0] [.bF (ad.mk 6 [bL] .live::ad.mk 1 (ey.2.2.1.map (bk 0 4 2)) .live::ad.mk 1 (ey.2.2.2.2.map eI) .live::ad.mk 1 (gb.map ed) .live::bZ)] (aS.aH (.bg (Na eX) (et (cF [0,1,2,3,4]) 2 2 0 2 rfl bh.1) (dB (cF [0,1,2,3,4]) 2 e4 b6.2.2.2.1) (aI 1 .live aO b6.2.2.2.2.1) (aI 1 .live eS b6.2.2.2.2.2) (V9 fP) (x1 fK 6 [q2] [q2] rfl) (kE 6 [q2]) (.bg (et fK 2 2 0 2 rfl bh.1) (kE 1 (bh.1.map (bk 2 0 2))) (dB fK 2 e4 b6.2.2.2.1) (tD 2 aT b6.2.2.2.1) (hK 1 aO b6.2.2.2.2.1) (hK 1 eS gb) (x1 eB 6 [q1] [q1] rfl) (kE 6 [q1]) (.bg (et eB 2 2 0 2 rfl ey.2.2.1) (kE 1 (ey.2.2.1.map (bk 2 0 2))) (dB eB 2 e4 ey.2.2.2.1) (tD 2 aT ey.2.2.2.1) (hK 1 aO ey.2.2.2.2) (hK 1 eS gb) (UA ey hp) (rfl:(kC [{bG:=[(0,0),(1,0),(3,0),(4,0)],iy:=some (2,0)}]) 0 1=some (1,0)) (.bg (rfl:ey.2.2.1.length=ey.2.2.1.length) (rfl:(kC [{bG:=[(0,0),(1,0),(3,0),(4,0)],iy:=some (2,0)}]) 0 2=some (3,0)) (rfl:ey.2.2.2.2.length=ey.2.2.2.2.length) (rfl:(kC [{bG:=[(0,0),(1,0),(3,0),(4,0)],iy:=some (2,0)}]) 0 3=some (4,0)) (rfl:gb.length=gb.length) (P0 (KE (j1:=(bk 0 4 2)) (cW (bk 2 0 2) ey.2.2.1) (fun _=>rfl) (fun x=>(Q0 (fun _=>rfl)) x)) Qu:rp (kC [{bG:=[(0,0),(1,0),(3,0),(4,0)],iy:=some (2,0)}]) cH hD) (aI 1 .live aO ey.2.2.2.2) (aI 1 .live eS gb) (.bR (P2 (gd .live 2 aT ey.2.2.2.1) (fun _=>rfl) e4:rp (kC [{bG:=[(0,0),(1,0),(3,0),(4,0)],iy:=some (2,0)}]) bZ bZ) (rfl:(kC [{bG:=[(0,0),(1,0),(3,0),(4,0)],iy:=some (2,0)}]) 0 0=some (0,0)) (c4 (show ad.mk 6 [bL] .live=gE mo (ad.mk 6 [bL] .live) from rfl) (c4 (kY mo 0 0 4 2 rfl ey.2.2.1) (c4 (fV mo 1 kz ey.2.2.2.2) (c4 (fV mo 1 QZ gb) (dB mo 2 e4 ey.2.2.2.1))))))))))) (.comp [.da .id,.da .id])))
  ·exact (.ret (lU (t1.append [.sub (.ret) [(2,.hX),(3,.b false)] []]) [] [] (aS.aH (.e1 (Na eX)))))))
def tN (aF:ct)(cN:List Int):Option Bool :=
 yY aF cN 0 0 >>= fun r1 =>
 zV r1 >>= fun bc =>
 match bc with
 | .inl fQ=>(some true)
 | .inr fQ=>(some false)
theorem T6 {aF:ct}{cN:List Int}:bw (tN aF cN) (fun r=>Con a6 24 [.dW 2 [(gA aF)] 0 0,.isl 1 (cN.map eI)] [] (.b r) []):=by
 unfold tN
 exact .ar fun r1 h2 =>
  .ar fun bc au =>
  (let t1:List bW:=[(I 1),.aw (bp 2 (bn 4 (.agg (nV r1)) false) 2),.iN 4];
  have aS:=((.e2 (Tt r1 h2) (pS (Xh r1):jn [(nV r1)])):cn _);
  (by
  rcases bc with fQ|fQ
  ·exact (.ret (let q1:=fZ 0 1 0 fQ.2.2.2.1.length fQ.1 fQ.2.1 0 2 0 fQ.2.2.2.2.1.length fQ.2.2.1 0 3 0 fQ.2.2.2.2.2.1.length;let q2:=fZ 6 1 0 fQ.2.2.2.1.length fQ.1 fQ.2.1 6 2 0 fQ.2.2.2.2.1.length fQ.2.2.1 6 3 0 fQ.2.2.2.2.2.1.length;let bL:=b5 2 aT fQ.2.2.2.2.2.2;bs (t1.append [.aw (ak (.call {aY:=[],dl:=[],ac:=[.br (.ptr [.id,.id,.id,.id,.id])],r:= .dX [.ref 0 0 0 0,.b true],fm:=[(ad.mk 6 [q1] .live::ad.mk 1 (fQ.2.2.2.1.map (bk 0 4 2)) .live::ad.mk 1 (fQ.2.2.2.2.1.map eI) .live::ad.mk 1 (fQ.2.2.2.2.2.1.map ed) .live::bL)],hI:= .comp [.da .id,.da .id],jU:=[.bF (ad.mk 6 [q2] .live::ad.mk 1 (fQ.2.2.2.1.map (bk 6 4 2)) .live::ad.mk 1 (fQ.2.2.2.2.1.map eI) .live::ad.mk 1 (fQ.2.2.2.2.2.1.map ed) .live::bL)],fB:=[4],fu:=false}) (ag 5 [])),(I 2)]) (aS.aH (.bR (c4 (show ad.mk 6 [q2] .live=gE (jJ [6]) (ad.mk 6 [q1] .live) from rfl) (c4 (kY (jJ [6]) 6 0 4 2 rfl fQ.2.2.2.1) (c4 (fV (jJ [6]) 1 kz fQ.2.2.2.2.1) (c4 (fV (jJ [6]) 1 QZ fQ.2.2.2.2.2.1) (dB (jJ [6]) 2 e4 fQ.2.2.2.2.2.2))))) ((jK rfl (jK rfl (jK rfl (jK rfl (ux (gd .live 2 aT fQ.2.2.2.2.2.2)))))):mi (ad.mk 6 [q1] .live::ad.mk 1 (fQ.2.2.2.1.map (bk 0 4 2)) .live::ad.mk 1 (fQ.2.2.2.2.1.map eI) .live::ad.mk 1 (fQ.2.2.2.2.2.1.map ed) .live::bL)) (Ny (.inl fQ) au)))))
  ·exact (.ret (bs (t1.append [.aw (ak (.call {aY:=[],dl:=[],ac:=[.br (.ptr [.id,.id,.id,.id,.id])],r:= .dX [.hX,.b false],fm:=[],hI:=ii,jU:=[],fB:=[4],fu:=false}) (ag 5 [])),(I 2)]) (aS.aH (.e1 (Ny (.inr fQ) au)))))))
def zr (aF:ct)(cN fS:List Int):Option Bool :=
 xp aF cN >>= fun r1 =>
 if r1=true then
  yV fS aF >>= fun bh =>
  if bh=true then
   some false
  else
   wT aF fS >>= fun ck =>
   tN ck cN >>= fun b6 =>
   some b6
 else
  some false
theorem Wa {aF:ct}{cN fS:List Int}:bw (zr aF cN fS) (fun r=>Con a6 8 [.agg (gA aF),.isl 1 (cN.map eI),.isl 1 (fS.map eI)] [] (.b r) []):=by
 unfold zr
 exact .ar fun r1 h2 =>
  (have ae:=((.e2 (Xn r1 h2) (b3.b r1)):cn _);
  .ite (fun ab =>
  .ar fun bh aA =>
  (let t2:List bW:=[(I 2),.aw (ag 2 (ak (bn 2 (.b r1) true) (ag 4 (ak (.call {ac:=[ii,.comp [.ptr [.id,.id]]],r:= .b bh,fu:=true,fB:=[0]}) (ak (.U false) [])))))];
  have fk:=ae.aH (.eF (cS ab) (cS ab) (cS ab) (pS (zf aF):jn [(gA aF)]) (S4 bh aA) (b3.b bh) (cS ab));
  .ite (fun aW =>
  .ret (bs (t2.append [.U true,(I 1)]) (fk.aH (.e1 aW))))
  (fun aW =>
  .ar fun ck bi =>
  .ar fun b6 cO =>
  .ret (bs (t2.append [.U false,.aw (bp 2 (bn 2 (.agg (gA ck)) false) 2),.aw (bp 1 (.call {ac:=[.br (.ptr [.id,.id]),ii],r:= .b b6,fu:=true,fB:=[14]}) 1)]) (fk.aH (.dh aW (UZ ck bi) (pS (zf ck):jn [(gA ck)]) (T6 b6 cO) (b3.b b6)))))))
  (fun ab =>
  .ret (bs [(I 2),.aw (ag 2 (ak (bn 2 (.b r1) true) (ag 2 (cj 3 (ak (.U true) []))))),.U true,(I 1)] (ae.aH (.dh (cJ ab) (cJ ab) (cJ ab) (cJ ab) cL)))))
def zW (ah aB:bB):Option Bool :=
 if (!(ah.k6.toList == aB.k6.toList))=true then
  some false
 else
  if (ah.j2 != aB.j2)=true then
   some false
  else
   if (ah.j3 != aB.j3)=true then
    some false
   else
    if (ah.k3 == aB.k3)=true then
     some true
    else
     some false
theorem W9 {ah aB:bB}:bw (zW ah aB) (fun r=>Con a6 42 [.agg (bI ah),.agg (bI aB)] [] (.b r) []):=by
 unfold zW
 exact .ite (fun h1 =>
  .ret (bs [(I 3),(I 5),.U true,(I 1)] (.e1 h1)))
  (fun h1 =>
  (let t1:List bW:=[(I 3),(I 5),.U false,(I 5)];
  .ite (fun h2 =>
  .ret (bs (t1.append [.U true,(I 1)]) (.e2 h1 h2)))
  (fun h2 =>
  .ite (fun ab =>
  .ret (bs (t1.append [.U false,(I 5),.U true,(I 1)]) (.bR h1 h2 ab)))
  (fun ab =>
  (let t2:List bW:=t1.append [.U false,(I 5),.U false,(I 5)];
  .ite (fun au =>
  .ret (bs (t2.append [.U false,(I 1)]) (.c7 h1 h2 ab (cS au))))
  (fun au =>
  .ret (bs (t2.append [.U true,(I 1)]) (.c7 h1 h2 ab (cJ au)))))))))
def GV (ah aB:List bB):Int→S:=fun af=>dm [(0,.isl 4 (ah.map bI)),(1,.isl 4 (aB.map bI)),(5,.n .i64 af)] []
def MT (ah aB:List bB):((Unit)⊕(Unit))→dp
 | .inl a=>⟨some 0,[],[]⟩
 | .inr a=>⟨none,[(4,.b false)],[]⟩
def wB (ah aB:List bB)(af:Int):Option ((Int)⊕((Unit)⊕(Unit))) :=
 if (decide (af<(len_ bI ah)))=true then
  if 0≤af∧af<ah.length then
  ah[af.toNat]? >>= fun aC =>
  if 0≤af∧af<aB.length then
  aB[af.toNat]? >>= fun cq =>
  zW aC cq >>= fun cm =>
  if cm=true then
   some (.inl (R (af+(1:Int))))
  else
   some (.inr (.inr ()))
  else none
  else none
 else
  some (.inr (.inl ()))
def IP (ah aB:List bB)(af:Int):Option ((Unit)⊕(Unit)):=iter (fun w:Int=>wB ah aB w) af
theorem Un {ah aB:List bB}{af:Int}:bw (wB ah aB af) (dO a6 27 0 25 [1,1,0,1,0,0] (GV ah aB af) (GV ah aB) (MT ah aB)):=by
 unfold wB
 exact .ite (fun h1 =>
  .aX fun h2 =>
  .ar fun aC au =>
  .aX fun aA =>
  .ar fun cq a7 =>
  .ar fun cm cg =>
  (let t1:List bW:=[(I 4),.U true,.aw (ag 3 (ak (.b2 (bI aC)) (ag 3 (ak (.b2 (bI cq)) (ak (bn 2 (.b cm) true) (ag 1 []))))))];
  have aS:=((.bg h1 h2.1 (cP bI h2.2) (bT bI au) aA.1 (cP bI aA.2) (bT bI a7) (W9 cm cg) (.e1 (b3.b cm))):cn _);
  .ite (fun cO =>
  .ret (bf (t1.append [.U false,(I 3),.aL [] [] (a8 [0,1,5])]) (aS.aH (.e1 (cS cO)))))
  (fun cO =>
  .ret (bf (t1.append [.U true,(I 1),.aL [] [] (a8 [4])]) (aS.aH (.e1 (cJ cO)))))))
  (fun h1 =>
  .ret (bf [(I 4),.U false,.aL [] [] []] (.e1 h1)))
theorem M2 {ah aB:List bB}{af:Int}{r} (h:IP ah aB af=some r):dP a6 27 0 25 [1,1,0,1,0,0] (GV ah aB) (MT ah aB) af r:=dQ (fun _=>Un) h
def zM (ah aB:List bB):Option Bool :=
 if ((len_ bI ah) != (len_ bI aB))=true then
  some false
 else
  IP ah aB 0 >>= fun r2 =>
  match r2 with
  | .inl fL=>(some true)
  | .inr fL=>(some false)
theorem WM {ah aB:List bB}:bw (zM ah aB) (fun r=>Con a6 25 [.isl 4 (ah.map bI),.isl 4 (aB.map bI)] [] (.b r) []):=by
 unfold zM
 exact .ite (fun h1 =>
  .ret (bs [(I 1),(I 5),.U true,(I 1)] (.e1 h1)))
  (fun h1 =>
  .ar fun r2 ab =>
  (let t1:List bW:=[(I 1),(I 5),.U false,(I 1),.aL [] [] (a8 [0,1,5])];
  (by
  rcases r2 with fL|fL
  ·exact (.ret (bs (t1.append [.sub (.exit 0) [] [],(I 1)]) (.e2 h1 (M2 ab))))
  ·exact (.ret (bs (t1.append [.sub (.ret) [(4,.b false)] []]) (.e2 h1 (M2 ab)))))))
def zN (ah aB:bM):Option Bool :=
 if (ah.dG != aB.dG)=true then
  some false
 else
  if (ah.ei != aB.ei)=true then
   some false
  else
   if (ah.hU != aB.hU)=true then
    some false
   else
    some true
theorem WN {ah aB:bM}:bw (zN ah aB) (fun r=>Con a6 43 [.agg (bQ ah),.agg (bQ aB)] [] (.b r) []):=by
 unfold zN
 exact .ite (fun h1 =>
  .ret (bs [(I 3),(I 5),.U true,(I 1)] (.e1 h1)))
  (fun h1 =>
  (let t1:List bW:=[(I 3),(I 5),.U false,(I 5)];
  .ite (fun h2 =>
  .ret (bs (t1.append [.U true,(I 1)]) (.e2 h1 h2)))
  (fun h2 =>
  .ite (fun ab =>
  .ret (bs (t1.append [.U false,(I 5),.U true,(I 1)]) (.bR h1 h2 ab)))
  (fun ab =>
  .ret (bs (t1.append [.U false,(I 5),.U false,(I 1)]) (.bR h1 h2 ab))))))
def GF (ah aB:List bM):Int→S:=fun af=>dm [(0,.isl 3 (ah.map bQ)),(1,.isl 3 (aB.map bQ)),(5,.n .i64 af)] []
def MM (ah aB:List bM):((Unit)⊕(Unit))→dp
 | .inl a=>⟨some 0,[],[]⟩
 | .inr a=>⟨none,[(4,.b false)],[]⟩
def wt (ah aB:List bM)(af:Int):Option ((Int)⊕((Unit)⊕(Unit))) :=
 if (decide (af<(len_ bQ ah)))=true then
  if 0≤af∧af<ah.length then
  ah[af.toNat]? >>= fun aC =>
  if 0≤af∧af<aB.length then
  aB[af.toNat]? >>= fun cq =>
  zN aC cq >>= fun cm =>
  if cm=true then
   some (.inl (R (af+(1:Int))))
  else
   some (.inr (.inr ()))
  else none
  else none
 else
  some (.inr (.inl ()))
def Iy (ah aB:List bM)(af:Int):Option ((Unit)⊕(Unit)):=iter (fun w:Int=>wt ah aB w) af
theorem T7 {ah aB:List bM}{af:Int}:bw (wt ah aB af) (dO a6 27 0 26 [1,1,0,1,0,0] (GF ah aB af) (GF ah aB) (MM ah aB)):=by
 unfold wt
 exact .ite (fun h1 =>
  .aX fun h2 =>
  .ar fun aC au =>
  .aX fun aA =>
  .ar fun cq a7 =>
  .ar fun cm cg =>
  (let t1:List bW:=[(I 4),.U true,.aw (ag 3 (ak (.b2 (bQ aC)) (ag 3 (ak (.b2 (bQ cq)) (ak (bn 2 (.b cm) true) (ag 1 []))))))];
  have aS:=((.bg h1 h2.1 (cP bQ h2.2) (bT bQ au) aA.1 (cP bQ aA.2) (bT bQ a7) (WN cm cg) (.e1 (b3.b cm))):cn _);
  .ite (fun cO =>
  .ret (bf (t1.append [.U false,(I 3),.aL [] [] (a8 [0,1,5])]) (aS.aH (.e1 (cS cO)))))
  (fun cO =>
  .ret (bf (t1.append [.U true,(I 1),.aL [] [] (a8 [4])]) (aS.aH (.e1 (cJ cO)))))))
  (fun h1 =>
  .ret (bf [(I 4),.U false,.aL [] [] []] (.e1 h1)))
theorem MU {ah aB:List bM}{af:Int}{r} (h:Iy ah aB af=some r):dP a6 27 0 26 [1,1,0,1,0,0] (GF ah aB) (MM ah aB) af r:=dQ (fun _=>T7) h
def zy (ah aB:List bM):Option Bool :=
 if ((len_ bQ ah) != (len_ bQ aB))=true then
  some false
 else
  Iy ah aB 0 >>= fun r2 =>
  match r2 with
  | .inl fL=>(some true)
  | .inr fL=>(some false)
theorem Wm {ah aB:List bM}:bw (zy ah aB) (fun r=>Con a6 26 [.isl 3 (ah.map bQ),.isl 3 (aB.map bQ)] [] (.b r) []):=by
 unfold zy
 exact .ite (fun h1 =>
  .ret (bs [(I 1),(I 5),.U true,(I 1)] (.e1 h1)))
  (fun h1 =>
  .ar fun r2 ab =>
  (let t1:List bW:=[(I 1),(I 5),.U false,(I 1),.aL [] [] (a8 [0,1,5])];
  (by
  rcases r2 with fL|fL
  ·exact (.ret (bs (t1.append [.sub (.exit 0) [] [],(I 1)]) (.e2 h1 (MU ab))))
  ·exact (.ret (bs (t1.append [.sub (.ret) [(4,.b false)] []]) (.e2 h1 (MU ab)))))))
def zj (ah aB:ct):Option Bool :=
 zM ah.bY aB.bY >>= fun r1 =>
 if r1=true then
  zy ah.bt aB.bt >>= fun bh =>
  if bh=true then
   some true
  else
   some false
 else
  some false
theorem VK {ah aB:ct}:bw (zj ah aB) (fun r=>Con a6 9 [.agg (gA ah),.agg (gA aB)] [] (.b r) []):=by
 unfold zj
 exact .ar fun r1 h2 =>
  (let t1:List bW:=[(I 3),.aw (bp 4 (bn 2 (.b r1) true) 1)];
  have aS:=((.e2 (WM r1 h2) (b3.b r1)):cn _);
  .ite (fun ab =>
  .ar fun bh aA =>
  (let t3:List bW:=t1.append [.U false,.aw (bp 4 (bn 2 (.b bh) true) 1)];
  have eP:=aS.aH (.bR (cS ab) (Wm bh aA) (b3.b bh));
  .ite (fun aW =>
  .ret (bs (t3.append [.U false,(I 1)]) (eP.aH (.e1 (cS aW)))))
  (fun aW =>
  .ret (bs (t3.append [.U true,(I 1)]) (eP.aH (.e1 (cJ aW)))))))
  (fun ab =>
  .ret (bs (t1.append [.U true,(I 1)]) (aS.aH (.e1 (cJ ab))))))
def HU (ah aB:List Int):Int→S:=fun af=>dm [(0,.isl 1 (ah.map eI)),(1,.isl 1 (aB.map eI)),(5,.n .i64 af)] []
def Nb (ah aB:List Int):((Unit)⊕(Unit))→dp
 | .inl a=>⟨some 0,[],[]⟩
 | .inr a=>⟨none,[(4,.b false)],[]⟩
def wW (ah aB:List Int)(af:Int):Option ((Int)⊕((Unit)⊕(Unit))) :=
 if (decide (af<(len_ eI ah)))=true then
  if 0≤af∧af<ah.length then
  ah[af.toNat]? >>= fun aC =>
  if 0≤af∧af<aB.length then
  aB[af.toNat]? >>= fun cq =>
  if (aC != cq)=true then
   some (.inr (.inr ()))
  else
   some (.inl (R (af+(1:Int))))
  else none
  else none
 else
  some (.inr (.inl ()))
def Jh (ah aB:List Int)(af:Int):Option ((Unit)⊕(Unit)):=iter (fun w:Int=>wW ah aB w) af
theorem U4 {ah aB:List Int}{af:Int}:bw (wW ah aB af) (dO a6 26 0 10 [1,1,0,1,0,0] (HU ah aB af) (HU ah aB) (Nb ah aB)):=by
 unfold wW
 exact .ite (fun h1 =>
  .aX fun h2 =>
  .ar fun aC au =>
  .aX fun aA =>
  .ar fun cq a7 =>
  (let t1:List bW:=[(I 4),.U true,.aw (ag 3 (ak (.b2 (eI aC)) (bp 3 (.b2 (eI cq)) 1)))];
  have aS:=((.eF h1 h2.1 (cP eI h2.2) (bT eI au) aA.1 (cP eI aA.2) (bT eI a7)):cn _);
  .ite (fun bi =>
  .ret (bf (t1.append [.U true,(I 1),.aL [] [] (a8 [4])]) (aS.aH (.e1 bi))))
  (fun bi =>
  .ret (bf (t1.append [.U false,(I 3),.aL [] [] (a8 [0,1,5])]) (aS.aH (.e1 bi))))))
  (fun h1 =>
  .ret (bf [(I 4),.U false,.aL [] [] []] (.e1 h1)))
theorem Nm {ah aB:List Int}{af:Int}{r} (h:Jh ah aB af=some r):dP a6 26 0 10 [1,1,0,1,0,0] (HU ah aB) (Nb ah aB) af r:=dQ (fun _=>U4) h
def xr (ah aB:List Int):Option Bool :=
 if ((len_ eI ah) != (len_ eI aB))=true then
  some false
 else
  Jh ah aB 0 >>= fun r2 =>
  match r2 with
  | .inl fL=>(some true)
  | .inr fL=>(some false)
theorem NK {ah aB:List Int}:bw (xr ah aB) (fun r=>Con a6 10 [.isl 1 (ah.map eI),.isl 1 (aB.map eI)] [] (.b r) []):=by
 unfold xr
 exact .ite (fun h1 =>
  .ret (bs [(I 1),(I 5),.U true,(I 1)] (.e1 h1)))
  (fun h1 =>
  .ar fun r2 ab =>
  (let t1:List bW:=[(I 1),(I 5),.U false,(I 1),.aL [] [] (a8 [0,1,5])];
  (by
  rcases r2 with fL|fL
  ·exact (.ret (bs (t1.append [.sub (.exit 0) [] [],(I 1)]) (.e2 h1 (Nm ab))))
  ·exact (.ret (bs (t1.append [.sub (.ret) [(4,.b false)] []]) (.e2 h1 (Nm ab)))))))
def CG (Bk:ct)(Bl At:List Int):Option Bool :=
 if (decide ((1048576:Int)<(len_ eI Bl)))=true then
  some true
 else
  if (decide ((1048576:Int)<(len_ eI At)))=true then
   some true
  else
   zg Bk 1048576 >>= fun bc =>
   if (decide (bc<(0:Int)))=true then
    some true
   else
    zd Bk >>= fun bA =>
    xd Bl >>= fun cm =>
    xd At >>= fun cY =>
    zp (⟨bA.1,bA.2⟩:ct) cm cY >>= fun dR =>
    zr (⟨bA.1,bA.2⟩:ct) cm cY >>= fun gb =>
    if (gb == dR)=true then
     zj (⟨bA.1,bA.2⟩:ct) (⟨bA.1,bA.2⟩:ct) >>= fun gk =>
     if gk=true then
      xr cm cm >>= fun jj =>
      if jj=true then
       xr cY cY >>= fun BV =>
       if BV=true then
        some true
       else
        some false
      else
       some false
     else
      some false
    else
     some false
theorem T8 {Bk:ct}{Bl At:List Int}:bw (CG Bk Bl At) (fun r=>Con a6 3 [.agg (gA Bk),.isl 1 (Bl.map eI),.isl 1 (At.map eI)] [] (.b r) []):=by
 unfold CG
 exact .ite (fun h1 =>
  .ret (bs [(I 2),(I 3),.U true,(I 1)] (.e1 h1)))
  (fun h1 =>
  (let t1:List bW:=[(I 2),(I 3),.U false,(I 3)];
  .ite (fun h2 =>
  .ret (bs (t1.append [.U true,(I 1)]) (.e2 h1 h2)))
  (fun h2 =>
  .ar fun bc au =>
  (let t2:List bW:=t1.append [.U false,(I 1),.aw (bp 2 (bn 2 (.n .i64 bc) true) 1),(I 2)];
  have fk:=((.c7 h1 h2 (Vv bc au) (b3.n .i64 bc)):cn _);
  .ite (fun aA =>
  .ret (bs (t2.append [.U true,(I 1)]) (fk.aH (.e1 aA))))
  (fun aA =>
  .ar fun bA a7 =>
  .ar fun cm cg =>
  .ar fun cY eH =>
  .ar fun dR ev =>
  .ar fun gb fP =>
  (let q1:=ae 1 eI cm;let q2:=ae 1 eI cY;let t4:List bW:=t2.append [.U false,.aw (ag 1 (ak (.call {aY:=[],dl:=[],ac:=[ii],r:= .agg [.bj 0 0 0 bA.1.length,.bj 0 1 0 bA.2.length],fm:=[[ad.mk 4 (bA.1.map bI) .live,ad.mk 3 (bA.2.map bQ) .live]],hI:= .br (.agg [.id,.id]),jU:=[.bF [ad.mk 4 (bA.1.map bI) .live,ad.mk 3 (bA.2.map bQ) .live]],fB:=[],fu:=true}) (ag 1 (ak (.call {aY:=[],dl:=[],ac:=[ii],r:= .bj 0 0 0 cm.length,fm:=[q1],hI:=ii,jU:=[.pure],fB:=[],fu:=true}) (ag 1 (ak (.call {aY:=[],dl:=[],ac:=[ii],r:= .bj 0 0 0 cY.length,fm:=[q2],hI:=ii,jU:=[.pure],fB:=[],fu:=true}) (ak (.call {ac:=[.br (.agg [.eh (bA.1.map bI),.eh (bA.2.map bQ)]),.br (.da (.eh (cm.map eI))),.br (.da (.eh (cY.map eI)))],r:= .b dR,fu:=true,fB:=[16,18,20]}) (ag 1 [])))))))),.aw (bp 1 (.call {aY:=[],dl:=[],ac:=[ii],r:= .agg [.bj 0 0 0 bA.1.length,.bj 0 1 0 bA.2.length],fm:=[[ad.mk 4 (bA.1.map bI) .live,ad.mk 3 (bA.2.map bQ) .live]],hI:= .br (.agg [.id,.id]),jU:=[.bF [ad.mk 4 (bA.1.map bI) .live,ad.mk 3 (bA.2.map bQ) .live]],fB:=[],fu:=true}) 2),.aw (bp 1 (.call {aY:=[],dl:=[],ac:=[ii],r:= .bj 0 0 0 cm.length,fm:=[q1],hI:=ii,jU:=[.pure],fB:=[],fu:=true}) 1),.aw (bp 1 (.call {aY:=[],dl:=[],ac:=[ii],r:= .bj 0 0 0 cY.length,fm:=[q2],hI:=ii,jU:=[.pure],fB:=[],fu:=true}) 1),.aw (bp 3 (.call {ac:=[.br (.agg [.eh (bA.1.map bI),.eh (bA.2.map bQ)]),.br (.da (.eh (cm.map eI))),.br (.da (.eh (cY.map eI)))],r:= .b gb,fu:=true,fB:=[24,28,31]}) 1),(I 3)];
  have lo:=fk.aH (.bg aA (c4 (fV (jJ [16]) 4 Dq bA.1) (c4 (fV (jJ [16]) 3 Dk bA.2) (o1 (b7:=(jJ [16]))))) ((jK rfl (jK rfl DH)):mi [ad.mk 4 (bA.1.map bI) .live,ad.mk 3 (bA.2.map bQ) .live]) (GH bA a7) (b3.agg (oZ (b3.bj 0 0 0 bA.1.length) (oZ (b3.bj 0 1 0 bA.2.length) uL))) ((pf (nW (nt Dr) (nW (nt Dl) pn)) pk):nh [[ad.mk 4 (bA.1.map bI) .live,ad.mk 3 (bA.2.map bQ) .live]]) (hK 1 aO cm) (w5 cm cg) (.bg (b3.bj 0 0 0 cm.length) ((pf (nW (nt s4) pn) pk):nh [q1]) (hK 1 aO cY) (w5 cY eH) (b3.bj 0 0 0 cY.length) ((pf (nW (nt s4) pn) pk):nh [q2]) (fW bI bA.1) (fv bI bA.1) (.bg (dv mA bA.1) (fW bQ bA.2) (fv bQ bA.2) (dv lD bA.2) (fW eI cm) (fv eI cm) (dv aO cm) (fW eI cY) (.bg (fv eI cY) (dv aO cY) (VY dR ev) (b3.b dR) (c4 (fV (jJ [24]) 4 Dq bA.1) (c4 (fV (jJ [24]) 3 Dk bA.2) (o1 (b7:=(jJ [24]))))) ((jK rfl (jK rfl DH)):mi [ad.mk 4 (bA.1.map bI) .live,ad.mk 3 (bA.2.map bQ) .live]) (GH bA a7) (b3.agg (oZ (b3.bj 0 0 0 bA.1.length) (oZ (b3.bj 0 1 0 bA.2.length) uL))) (.bg ((pf (nW (nt Dr) (nW (nt Dl) pn)) pk):nh [[ad.mk 4 (bA.1.map bI) .live,ad.mk 3 (bA.2.map bQ) .live]]) (hK 1 aO cm) (w5 cm cg) (b3.bj 0 0 0 cm.length) ((pf (nW (nt s4) pn) pk):nh [q1]) (hK 1 aO cY) (w5 cY eH) (b3.bj 0 0 0 cY.length) (.bg ((pf (nW (nt s4) pn) pk):nh [q2]) (fW bI bA.1) (fv bI bA.1) (dv mA bA.1) (fW bQ bA.2) (fv bQ bA.2) (dv lD bA.2) (fW eI cm) (.eF (fv eI cm) (dv aO cm) (fW eI cY) (fv eI cY) (dv aO cY) (Wa gb fP) (b3.b gb))))))));
  .ite (fun hR =>
  .ar fun gk hq =>
  (let t6:List bW:=t4.append [.U false,.aw (ag 2 (ak (.call {aY:=[],dl:=[],ac:=[ii],r:= .agg [.bj 0 0 0 bA.1.length,.bj 0 1 0 bA.2.length],fm:=[[ad.mk 4 (bA.1.map bI) .live,ad.mk 3 (bA.2.map bQ) .live]],hI:= .br (.agg [.id,.id]),jU:=[.bF [ad.mk 4 (bA.1.map bI) .live,ad.mk 3 (bA.2.map bQ) .live]],fB:=[],fu:=true}) (ak (.call {ac:=[.br (.agg [.eh (bA.1.map bI),.eh (bA.2.map bQ)]),.br (.agg [.eh (bA.1.map bI),.eh (bA.2.map bQ)])],r:= .b gk,fu:=true,fB:=[24,43]}) (ag 1 []))))];
  have yQ:=lo.aH (.bg (cS hR) (c4 (fV (jJ [43]) 4 Dq bA.1) (c4 (fV (jJ [43]) 3 Dk bA.2) (o1 (b7:=(jJ [43]))))) ((jK rfl (jK rfl DH)):mi [ad.mk 4 (bA.1.map bI) .live,ad.mk 3 (bA.2.map bQ) .live]) (GH bA a7) (b3.agg (oZ (b3.bj 0 0 0 bA.1.length) (oZ (b3.bj 0 1 0 bA.2.length) uL))) ((pf (nW (nt Dr) (nW (nt Dl) pn)) pk):nh [[ad.mk 4 (bA.1.map bI) .live,ad.mk 3 (bA.2.map bQ) .live]]) (fW bI bA.1) (fv bI bA.1) (.bg (dv mA bA.1) (fW bQ bA.2) (fv bQ bA.2) (dv lD bA.2) (fW bI bA.1) (fv bI bA.1) (dv mA bA.1) (fW bQ bA.2) (.c7 (fv bQ bA.2) (dv lD bA.2) (VK gk hq) (b3.b gk))));
  .ite (fun gv =>
  .ar fun jj gK =>
  (let t8:List bW:=t6.append [.U false,.aw (ag 2 (ak (.call {aY:=[],dl:=[],ac:=[ii],r:= .bj 0 0 0 cm.length,fm:=[(ae 1 eI cm)],hI:=ii,jU:=[.pure],fB:=[],fu:=true}) (ak (.call {ac:=[.br (.da (.eh (cm.map eI))),.br (.da (.eh (cm.map eI)))],r:= .b jj,fu:=true,fB:=[28,48]}) (ag 1 []))))];
  have SH:=yQ.aH (.bg (cS gv) (hK 1 aO cm) (w5 cm cg) (b3.bj 0 0 0 cm.length) ((pf (nW (nt s4) pn) pk):nh [(ae 1 eI cm)]) (fW eI cm) (fv eI cm) (dv aO cm) (.dh (fW eI cm) (fv eI cm) (dv aO cm) (NK jj gK) (b3.b jj)));
  .ite (fun iH =>
  .ar fun BV tt =>
  (let t10:List bW:=t8.append [.U false,.aw (ag 2 (ak (.call {aY:=[],dl:=[],ac:=[ii],r:= .bj 0 0 0 cY.length,fm:=[(ae 1 eI cY)],hI:=ii,jU:=[.pure],fB:=[],fu:=true}) (ak (.call {ac:=[.br (.da (.eh (cY.map eI))),.br (.da (.eh (cY.map eI)))],r:= .b BV,fu:=true,fB:=[31,53]}) (ag 1 []))))];
  have R3:=SH.aH (.bg (cS iH) (hK 1 aO cY) (w5 cY eH) (b3.bj 0 0 0 cY.length) ((pf (nW (nt s4) pn) pk):nh [(ae 1 eI cY)]) (fW eI cY) (fv eI cY) (dv aO cY) (.dh (fW eI cY) (fv eI cY) (dv aO cY) (NK BV tt) (b3.b BV)));
  .ite (fun oQ =>
  .ret (bs (t10.append [.U false,(I 1)]) (R3.aH (.e1 (cS oQ)))))
  (fun oQ =>
  .ret (bs (t10.append [.U true,(I 1)]) (R3.aH (.e1 (cJ oQ)))))))
  (fun iH =>
  .ret (bs (t8.append [.U true,(I 1)]) (SH.aH (.e1 (cJ iH)))))))
  (fun gv =>
  .ret (bs (t6.append [.U true,(I 1)]) (yQ.aH (.e1 (cJ gv)))))))
  (fun hR =>
  .ret (bs (t4.append [.U true,(I 1)]) (lo.aH (.e1 (cJ hR)))))))))))
end Go.Proofs.YtamedijmgkdlgaaGreat
