/- Lemmas, plain functions of the program, and what they answer. No condition. -/
import Derived.Test.YtamedijmgkdlgacGreatMC
namespace Go.Proofs.YtamedijmgkdlgacGreat
set_option linter.unusedVariables false
set_option linter.unusedSimpArgs false
open Go Go.VL
def E2 (d6:List b0)(dA:List cc)(dg:List Int)(iG:List eu)(ag:Int)(gI:List Int)(e2:List (List Int))(gx fj bM dP:Int)(al aH:List Int):(Int×(List Int))→S:=fun (gy,aG)=>dl [(0,.dY 2 [[.isl 4 (d6.map b7),.isl 3 (dA.map cl)]] 0 0),(1,.isl 1 (dg.map eI)),(8,.ref 0 0 0 0),(10,.isl 2 (iG.map gp)),(11,.ref 1 0 0 0),(12,.n .i64 ag),(13,.isl 1 (gI.map eI)),(46,.isl 1 (e2.map (eL 1 eI))),(47,.n .i64 gx),(48,.n .i64 ag),(53,.isl 2 (iG.map gp)),(54,.n .i64 fj),(55,.n .i64 gy)] [[ab.mk 5 [[.n .i64 (0:Int),.n .i64 (0:Int),.eT,.eT,.eT]] .live],[ab.mk 5 [(ys bM dP 2 0 0 aG.length 3 0 0 al.length 4 0 0 aH.length)] .live],(ah 1 eI aG),(ah 1 eI al),(ah 1 eI aH)]
def E7 (d6:List b0)(dA:List cc)(dg:List Int)(iG:List eu)(ag:Int)(gI:List Int)(e2:List (List Int))(gx fj bM dP:Int)(al aH:List Int):(List Int)→dm
 | a=>⟨some 2,[(0,.dY 2 [[.isl 4 (d6.map b7),.isl 3 (dA.map cl)]] 0 0),(1,.isl 1 (dg.map eI)),(8,.ref 0 0 0 0),(10,.isl 2 (iG.map gp)),(11,.ref 1 0 0 0),(46,.isl 1 (e2.map (eL 1 eI))),(47,.n .i64 gx),(48,.n .i64 ag)],[[ab.mk 5 [[.n .i64 (0:Int),.n .i64 (0:Int),.eT,.eT,.eT]] .live],[ab.mk 5 [(ys bM dP 2 0 0 a.length 3 0 0 al.length 4 0 0 aH.length)] .live],(ah 1 eI a),(ah 1 eI al),(ah 1 eI aH)]⟩
def vy (d6:List b0)(dA:List cc)(dg:List Int)(iG:List eu)(ag:Int)(gI:List Int)(e2:List (List Int))(gx fj bM dP:Int)(al aH:List Int)(gy:Int)(aG:List Int):Option ((Int×(List Int))⊕((List Int))) :=
 if (decide (gy<fj))=true then
  if 0≤gy∧gy<iG.length then
  iG[gy.toNat]? >>= fun aE =>
  if 0≤aE.mF∧aE.mF<gI.length then
  gI[aE.mF.toNat]? >>= fun ct =>
  if 0≤(U ((U (ag*dP))+gy))∧(U ((U (ag*dP))+gy))<(aG.length:Nat) then
  if (0+(U ((U (ag*dP))+gy)).toNat)<aG.length then
  some (.inl (U (gy+(1:Int)),aG.set (0+(U ((U (ag*dP))+gy)).toNat) (U (aE.p3*ct))))
  else none
  else none
  else none
  else none
 else
  some (.inr aG)
def Fi (d6:List b0)(dA:List cc)(dg:List Int)(iG:List eu)(ag:Int)(gI:List Int)(e2:List (List Int))(gx fj bM dP:Int)(al aH:List Int)(gy:Int)(aG:List Int):Option ((List Int)):=iter (fun w:Int×(List Int)=>vy d6 dA dg iG ag gI e2 gx fj bM dP al aH w.1 w.2) (gy,aG)
theorem SU {d6:List b0}{dA:List cc}{dg:List Int}{iG:List eu}{ag:Int}{gI:List Int}{e2:List (List Int)}{gx fj bM dP:Int}{al aH:List Int}{gy:Int}{aG:List Int}:bA (vy d6 dA dg iG ag gI e2 gx fj bM dP al aH gy aG) (dM bb 113 0 47 [1,1,1,1,0,1,0,0,1,1,0,0,1,1,0,0] (E2 d6 dA dg iG ag gI e2 gx fj bM dP al aH (gy,aG)) (E2 d6 dA dg iG ag gI e2 gx fj bM dP al aH) (E7 d6 dA dg iG ag gI e2 gx fj bM dP al aH)):=by
 unfold vy
 exact .ite (fun h1 =>
  .aZ fun o =>
  .au fun aE av =>
  .aZ fun aA =>
  .au fun ct bd =>
  .aZ fun bn =>
  .aZ fun cp =>
  .ret (let q1:=U ((U (ag*dP))+gy);let aY:=U (aE.p3*ct);bh [(J 1),.aa true,.az (bs 2 (.b4 (gp aE)) 3),.az (aj 14 (an (.b4 (eI ct)) (aj 2 (an .fQ [])))),(J 2),.aL [0,1,2,3,4] [.box [.id,.id,.id,.id,.id],.box [.id,.id,.len ((aG.set (0+q1.toNat) aY).length),.id,.id],.cL (ah 1 eI (aG.set (0+q1.toNat) aY)),.pure,.pure] (a8 [0,1,8,10,11,12,13,46,47,48,53,54,55])] (.bl h1 o.1 (cN gp o.2) (bU gp av) aA.1 (cN eI aA.2) (bU eI bd) bn.1 (.gS bn.2 (hE eI cp) (hs 1) (hR (dL aG) (0+q1.toNat) aY) (c6 1 .live (gD (cW eI aG) (0+q1.toNat) aY)) (aK 1 .live aP (aG.set (0+q1.toNat) aY)) (aK 1 .live aP al) (aK 1 .live aP aH)))))
  (fun h1 =>
  .ret (bh [(J 1),.aa false,.aL [0,1,2,3,4] [.box [.id,.id,.id,.id,.id],.box [.id,.id,.id,.id,.id],.pure,.pure,.pure] (a8 [0,1,8,10,11,46,47,48])] (.c9 h1 (aK 1 .live aP aG) (aK 1 .live aP al) (aK 1 .live aP aH))))
theorem S7 {d6:List b0}{dA:List cc}{dg:List Int}{iG:List eu}{ag:Int}{gI:List Int}{e2:List (List Int)}{gx fj bM dP:Int}{al aH:List Int}{gy:Int}{aG:List Int}{r} (h:Fi d6 dA dg iG ag gI e2 gx fj bM dP al aH gy aG=some r):dN bb 113 0 47 [1,1,1,1,0,1,0,0,1,1,0,0,1,1,0,0] (E2 d6 dA dg iG ag gI e2 gx fj bM dP al aH) (E7 d6 dA dg iG ag gI e2 gx fj bM dP al aH) (gy,aG) r:=dO (fun _=>SU) h
def E3 (d6:List b0)(dA:List cc)(dg:List Int)(iG:List eu)(e2:List (List Int))(gx bM dP:Int)(al aH:List Int):(Int×(List Int))→S:=fun (ns,aG)=>dl [(0,.dY 2 [[.isl 4 (d6.map b7),.isl 3 (dA.map cl)]] 0 0),(1,.isl 1 (dg.map eI)),(8,.ref 0 0 0 0),(10,.isl 2 (iG.map gp)),(11,.ref 1 0 0 0),(46,.isl 1 (e2.map (eL 1 eI))),(47,.n .i64 gx),(48,.n .i64 ns)] [[ab.mk 5 [[.n .i64 (0:Int),.n .i64 (0:Int),.eT,.eT,.eT]] .live],[ab.mk 5 [(ys bM dP 2 0 0 aG.length 3 0 0 al.length 4 0 0 aH.length)] .live],(ah 1 eI aG),(ah 1 eI al),(ah 1 eI aH)]
def E8 (d6:List b0)(dA:List cc)(dg:List Int)(iG:List eu)(e2:List (List Int))(gx bM dP:Int)(al aH:List Int):(List Int)→dm
 | a=>⟨some 0,[(0,.dY 2 [[.isl 4 (d6.map b7),.isl 3 (dA.map cl)]] 0 0),(1,.isl 1 (dg.map eI)),(8,.ref 0 0 0 0),(11,.ref 1 0 0 0)],[[ab.mk 5 [[.n .i64 (0:Int),.n .i64 (0:Int),.eT,.eT,.eT]] .live],[ab.mk 5 [(ys bM dP 2 0 0 a.length 3 0 0 al.length 4 0 0 aH.length)] .live],(ah 1 eI a),(ah 1 eI al),(ah 1 eI aH)]⟩
def vz (d6:List b0)(dA:List cc)(dg:List Int)(iG:List eu)(e2:List (List Int))(gx bM dP:Int)(al aH:List Int)(ns:Int)(aG:List Int):Option ((Int×(List Int))⊕((List Int))) :=
 if (decide (ns<gx))=true then
  if 0≤ns∧ns<e2.length then
  e2[ns.toNat]? >>= fun aE =>
  Fi d6 dA dg iG ns aE e2 gx (len_ gp iG) bM dP al aH 0 aG >>= fun aT =>
  some (.inl (U (ns+(1:Int)),aT))
  else none
 else
  some (.inr aG)
def Fj (d6:List b0)(dA:List cc)(dg:List Int)(iG:List eu)(e2:List (List Int))(gx bM dP:Int)(al aH:List Int)(ns:Int)(aG:List Int):Option ((List Int)):=iter (fun w:Int×(List Int)=>vz d6 dA dg iG e2 gx bM dP al aH w.1 w.2) (ns,aG)
theorem SV {d6:List b0}{dA:List cc}{dg:List Int}{iG:List eu}{e2:List (List Int)}{gx bM dP:Int}{al aH:List Int}{ns:Int}{aG:List Int}:bA (vz d6 dA dg iG e2 gx bM dP al aH ns aG) (dM bb 113 0 47 [1,1,1,1,0,1,0,0] (E3 d6 dA dg iG e2 gx bM dP al aH (ns,aG)) (E3 d6 dA dg iG e2 gx bM dP al aH) (E8 d6 dA dg iG e2 gx bM dP al aH)):=by
 unfold vz
 exact .ite (fun h1 =>
  .aZ fun o =>
  .au fun aE av =>
  .au fun aT a2 =>
  .ret (bh [(J 1),.aa true,.az (bs 2 (.b4 ((eL 1 eI) aE)) 2),(J 3),.aL [0,1,2,3,4] [.box [.id,.id,.id,.id,.id],.box [.id,.id,.id,.id,.id],.pure,.pure,.pure] (a8 [0,1,8,10,11,12,13,46,47,48,53,54,55]),(E7 d6 dA dg iG ns aE e2 gx (len_ gp iG) bM dP al aH aT).fb,(J 2),.aL [0,1,2,3,4] [.box [.id,.id,.id,.id,.id],.box [.id,.id,.id,.id,.id],.pure,.pure,.pure] (a8 [0,1,8,10,11,46,47,48])] (.bl h1 o.1 (cN (eL 1 eI) o.2) (bU (eL 1 eI) av) (aK 1 .live aP aG) (aK 1 .live aP al) (aK 1 .live aP aH) (S7 a2) (.bR (aK 1 .live aP aT) (aK 1 .live aP al) (aK 1 .live aP aH)))))
  (fun h1 =>
  .ret (bh [(J 1),.aa false,.aL [0,1,2,3,4] [.box [.id,.id,.id,.id,.id],.box [.id,.id,.id,.id,.id],.pure,.pure,.pure] (a8 [0,1,8,11])] (.c9 h1 (aK 1 .live aP aG) (aK 1 .live aP al) (aK 1 .live aP aH))))
theorem S8 {d6:List b0}{dA:List cc}{dg:List Int}{iG:List eu}{e2:List (List Int)}{gx bM dP:Int}{al aH:List Int}{ns:Int}{aG:List Int}{r} (h:Fj d6 dA dg iG e2 gx bM dP al aH ns aG=some r):dN bb 113 0 47 [1,1,1,1,0,1,0,0] (E3 d6 dA dg iG e2 gx bM dP al aH) (E8 d6 dA dg iG e2 gx bM dP al aH) (ns,aG) r:=dO (fun _=>SV) h
def E4 (dg nW:List Int)(oC bM dP:Int)(aG aH:List Int):(Int×(List Int))→S:=fun (kT,al)=>dl [(1,.isl 1 (dg.map eI)),(8,.ref 0 0 0 0),(11,.ref 1 0 0 0),(80,.isl 1 (nW.map eI)),(81,.n .i64 oC),(82,.n .i64 kT)] [[ab.mk 5 [[.n .i64 (0:Int),.n .i64 (0:Int),.eT,.eT,.eT]] .live],[ab.mk 5 [(ys bM dP 2 0 0 aG.length 3 0 0 al.length 4 0 0 aH.length)] .live],(ah 1 eI aG),(ah 1 eI al),(ah 1 eI aH)]
def E9 (dg nW:List Int)(oC bM dP:Int)(aG aH:List Int):(List Int)→dm
 | a=>⟨some 4,[(8,.ref 0 0 0 0),(11,.ref 1 0 0 0)],[[ab.mk 5 [[.n .i64 (0:Int),.n .i64 (0:Int),.eT,.eT,.eT]] .live],[ab.mk 5 [(ys bM dP 2 0 0 aG.length 3 0 0 a.length 4 0 0 aH.length)] .live],(ah 1 eI aG),(ah 1 eI a),(ah 1 eI aH)]⟩
def vA (dg nW:List Int)(oC bM dP:Int)(aG aH:List Int)(kT:Int)(al:List Int):Option ((Int×(List Int))⊕((List Int))) :=
 if (decide (kT<oC))=true then
  if 0≤kT∧kT<nW.length then
  nW[kT.toNat]? >>= fun aE =>
  if 0≤(U ((2:Int)*aE))∧(U ((2:Int)*aE))<dg.length then
  dg[(U ((2:Int)*aE)).toNat]? >>= fun ct =>
  if 0≤(U ((U ((2:Int)*aE))+(1:Int)))∧(U ((U ((2:Int)*aE))+(1:Int)))<dg.length then
  dg[(U ((U ((2:Int)*aE))+(1:Int))).toNat]? >>= fun eo =>
  if 0≤(U ((2:Int)*kT))∧(U ((2:Int)*kT))<(al.length:Nat) then
  if (0+(U ((2:Int)*kT)).toNat)<al.length then
  if 0≤(U ((U ((2:Int)*kT))+(1:Int)))∧(U ((U ((2:Int)*kT))+(1:Int)))<(al.length:Nat) then
  if (0+(U ((U ((2:Int)*kT))+(1:Int))).toNat)<(al.set (0+(U ((2:Int)*kT)).toNat) (U (0-ct))).length then
  some (.inl (U (kT+(1:Int)),(al.set (0+(U ((2:Int)*kT)).toNat) (U (0-ct))).set (0+(U ((U ((2:Int)*kT))+(1:Int))).toNat) (U (0-eo))))
  else none
  else none
  else none
  else none
  else none
  else none
  else none
 else
  some (.inr al)
def Fk (dg nW:List Int)(oC bM dP:Int)(aG aH:List Int)(kT:Int)(al:List Int):Option ((List Int)):=iter (fun w:Int×(List Int)=>vA dg nW oC bM dP aG aH w.1 w.2) (kT,al)
theorem SW {dg nW:List Int}{oC bM dP:Int}{aG aH:List Int}{kT:Int}{al:List Int}:bA (vA dg nW oC bM dP aG aH kT al) (dM bb 113 0 47 [1,1,1,1,1,0,1,0,0] (E4 dg nW oC bM dP aG aH (kT,al)) (E4 dg nW oC bM dP aG aH) (E9 dg nW oC bM dP aG aH)):=by
 unfold vA
 exact .ite (fun h1 =>
  .aZ fun o =>
  .au fun aE av =>
  .aZ fun aA =>
  .au fun ct bd =>
  .aZ fun bn =>
  .au fun eo cK =>
  .aZ fun eV =>
  .aZ fun e4 =>
  .aZ fun ev =>
  .aZ fun ew =>
  .ret (let q1:=(U ((2:Int)*kT));let aY:=(U (q1+(1:Int)));let bJ:=U (0-ct);let bS:=U (0-eo);bh [(J 1),.aa true,.az (bs 2 (.b4 (eI aE)) 2),.az (aj 13 (an (.b4 (eI ct)) (aj 6 (an (.b4 (eI eo)) (aj 2 (an .fQ (aj 1 (an .fQ [])))))))),(J 2),.aL [0,1,2,3,4] [.box [.id,.id,.id,.id,.id],.box [.id,.id,.id,.len (((al.set (0+q1.toNat) bJ).set (0+aY.toNat) bS).length),.id],.pure,.cL (ah 1 eI ((al.set (0+q1.toNat) bJ).set (0+aY.toNat) bS)),.pure] (a8 [1,8,11,80,81,82])] (.bl h1 o.1 (cN eI o.2) (bU eI av) aA.1 (cN eI aA.2) (bU eI bd) bn.1 (.bl (cN eI bn.2) (bU eI cK) eV.1 eV.2 (hE eI e4) (hs 1) ev.1 ev.2 (.eJ (abi (gD (cW eI al) (0+q1.toNat) bJ) ew) (hs 1) (hR (hR (dL al) (0+q1.toNat) bJ) (0+aY.toNat) bS) (aK 1 .live aP aG) (c6 1 .live (gD (gD (cW eI al) (0+q1.toNat) bJ) (0+aY.toNat) bS)) (aK 1 .live aP ((al.set (0+q1.toNat) bJ).set (0+aY.toNat) bS)) (aK 1 .live aP aH))))))
  (fun h1 =>
  .ret (bh [(J 1),.aa false,.aL [0,1,2,3,4] [.box [.id,.id,.id,.id,.id],.box [.id,.id,.id,.id,.id],.pure,.pure,.pure] (a8 [8,11])] (.c9 h1 (aK 1 .live aP aG) (aK 1 .live aP al) (aK 1 .live aP aH))))
theorem S9 {dg nW:List Int}{oC bM dP:Int}{aG aH:List Int}{kT:Int}{al:List Int}{r} (h:Fk dg nW oC bM dP aG aH kT al=some r):dN bb 113 0 47 [1,1,1,1,1,0,1,0,0] (E4 dg nW oC bM dP aG aH) (E9 dg nW oC bM dP aG aH) (kT,al) r:=dO (fun _=>SW) h
def yS (aN:cR)(dg:List Int)(nm nN:Int):Option hv :=
 yT aN >>= fun r1 =>
 yX aN >>= fun bk =>
 if 0≤(U ((U ((len_ (eL 1 eI) r1)+nN))*(U ((len_ gp bk)+nm))))∧(8:Int)*(U ((U ((len_ (eL 1 eI) r1)+nN))*(U ((len_ gp bk)+nm))))≤281474976710656∧(U ((U ((len_ (eL 1 eI) r1)+nN))*(U ((len_ gp bk)+nm))))<9223372036854775808 then
 if 0≤(U ((len_ (eL 1 eI) r1)+nN))∧(8:Int)*(U ((len_ (eL 1 eI) r1)+nN))≤281474976710656∧(U ((len_ (eL 1 eI) r1)+nN))<9223372036854775808 then
 if 0≤(U ((len_ gp bk)+nm))∧(8:Int)*(U ((len_ gp bk)+nm))≤281474976710656∧(U ((len_ gp bk)+nm))<9223372036854775808 then
 Fj aN.b3 aN.bQ dg bk r1 (len_ (eL 1 eI) r1) (U ((len_ (eL 1 eI) r1)+nN)) (U ((len_ gp bk)+nm)) (List.replicate (U ((len_ (eL 1 eI) r1)+nN)).toNat 0:List Int) (List.replicate (U ((len_ gp bk)+nm)).toNat 0:List Int) 0 (List.replicate (U ((U ((len_ (eL 1 eI) r1)+nN))*(U ((len_ gp bk)+nm)))).toNat 0:List Int) >>= fun c4 =>
 vN aN >>= fun ef =>
 Fk dg ef (len_ eI ef) (U ((len_ (eL 1 eI) r1)+nN)) (U ((len_ gp bk)+nm)) c4 (List.replicate (U ((len_ gp bk)+nm)).toNat 0:List Int) 0 (List.replicate (U ((len_ (eL 1 eI) r1)+nN)).toNat 0:List Int) >>= fun dT =>
 some (⟨U ((len_ (eL 1 eI) r1)+nN),U ((len_ gp bk)+nm),c4,dT,(List.replicate (U ((len_ gp bk)+nm)).toNat 0:List Int)⟩:hv)
 else none
 else none
 else none
theorem Tn {aN:cR}{dg:List Int}{nm nN:Int}:bA (yS aN dg nm nN) (fun r=>Con bb 47 [.dY 2 [(hK aN)] 0 0,.isl 1 (dg.map eI),.n .i64 nm,.n .i64 nN] [] (.agg (nP r)) []):=by
 unfold yS
 exact .au fun r1 o =>
  .au fun bk av =>
  .aZ fun aA =>
  .aZ fun a2 =>
  .aZ fun bd =>
  .au fun c4 cp =>
  .au fun ef eV =>
  .au fun dT ev =>
  .ret (let q1:=U ((len_ (eL 1 eI) r1)+nN);let aY:=U ((len_ gp bk)+nm);let bJ:=(List.replicate aY.toNat 0:List Int);let bS:=(List.replicate q1.toNat 0:List Int);let d4:=U (q1*aY);let cA:=(List.replicate d4.toNat 0:List Int);bu [(J 1),.az (aj 1 (an (br 1 (.isl 1 (r1.map (eL 1 eI))) false) (bs 1 (br 1 (.isl 2 (bk.map gp)) false) 2))),(J 11),(J 18),(J 3),.aL [0,16,23,26,29] [.box [.id,.id,.id,.id,.id],.box [.id,.id,.len (cA.length),.len (bS.length),.len (bJ.length)],.cL (ah 1 eI cA),.cL (ah 1 eI bS),.cL (ah 1 eI bJ)] (a8 [0,1,8,10,11,46,47,48]),(E8 aN.b3 aN.bQ dg bk r1 (len_ (eL 1 eI) r1) q1 aY bS bJ c4).fb,.az (bs 1 (br 1 (.isl 1 (ef.map eI)) false) 2),.aL [0,1,2,3,4] [.box [.id,.id,.id,.id,.id],.box [.id,.id,.id,.id,.id],.pure,.pure,.pure] (a8 [1,8,11,80,81,82]),(E9 dg ef (len_ eI ef) q1 aY c4 bJ dT).fb,(J 2)] (.bl (To r1 o) (TY bk av) aA.1 (Int.le_refl d4) aA.2.1 aA.2.2 a2.1 (Int.le_refl q1) (.bl a2.2.1 a2.2.2 bd.1 (Int.le_refl aY) bd.2.1 bd.2.2 (lH d4.toNat (0:Int)) (lH q1.toNat (0:Int)) (.bl (lH aY.toNat (0:Int)) (c6 1 .live (lu eI d4.toNat 0)) (aK 1 .live aP cA) (c6 1 .live (lu eI q1.toNat 0)) (aK 1 .live aP bS) (c6 1 .live (lu eI aY.toNat 0)) (aK 1 .live aP bJ) (S8 cp) (.bl (Mw ef eV) (aK 1 .live aP c4) (aK 1 .live aP bS) (aK 1 .live aP bJ) (S9 ev) (gN eI c4) (fT eI c4) (dS aP c4) (.d5 (gN eI dT) (fT eI dT) (dS aP dT) (gN eI bJ) (fT eI bJ) (dS aP bJ)))))) (.bw (.agg [.id,.id,.e5 (c4.map eI),.e5 (dT.map eI),.e5 (bJ.map eI)])))
def G1:(Int×(List Int))→S:=fun (a3,ad)=>dl [(0,.n .u64 a3),(3,.bm 0 0 0 ad.length)] [(ah 1 eI ad)]
def HA:(List Int)→dm
 | a=>⟨some 0,[(3,.bm 0 0 0 a.length)],[(ah 1 eI a)]⟩
def wx (a3:Int)(ad:List Int):Option ((Int×(List Int))⊕((List Int))) :=
 if (decide ((0:Int)<a3))=true then
  if (ad++([IntKind.wrap .i64 (a3.tmod (1000000000:Int))]:List Int)).length*8≤140737488355328 then
  some (.inl (IntKind.wrap .u64 (a3.tdiv (1000000000:Int)),ad++([IntKind.wrap .i64 (a3.tmod (1000000000:Int))]:List Int)))
  else none
 else
  some (.inr ad)
def IR (a3:Int)(ad:List Int):Option ((List Int)):=iter (fun w:Int×(List Int)=>wx w.1 w.2) (a3,ad)
theorem Uq {a3:Int}{ad:List Int}:bA (wx a3 ad) (dM bb 15 0 88 [1,1,0,0,0] (G1 (a3,ad)) (G1) (HA)):=by
 unfold wx
 exact .ite (fun h1 =>
  .aZ fun o =>
  .ret (let q1:=(ad++([(IntKind.wrap .i64 (a3.tmod (1000000000:Int)))]:List Int));bh [(J 2),.aa true,.az (bs 5 (.aJ (q1.length)) 1),(J 3),.aL [8] [.cL (ah 1 eI q1)] (a8 [0,3])] (.bl h1 (by decide:(1000000000:Int)≠0) (gZ eI (IntKind.wrap .i64 (a3.tmod (1000000000:Int)))) (hk eI ad) (gO eI ad (IntKind.wrap .i64 (a3.tmod (1000000000:Int)))) o (by decide:(1000000000:Int)≠0) (c6 1 .live (ht eI ad (IntKind.wrap .i64 (a3.tmod (1000000000:Int))))) (.e1 (aK 1 .live aP q1)))))
  (fun h1 =>
  .ret (bh [(J 2),.aa false,.aL [0] [.pure] (a8 [3])] (.aC h1 (aK 1 .live aP ad))))
theorem VW {a3:Int}{ad:List Int}{r} (h:IR a3 ad=some r):dN bb 15 0 88 [1,1,0,0,0] (G1) (HA) (a3,ad) r:=dO (fun _=>Uq) h
def uc (a3:Int):Option (List Int) :=
 IR a3 ([]:List Int) >>= fun r1 =>
 some r1
theorem IU {a3:Int}:bA (uc a3) (fun r=>Con bb 88 [.n .u64 a3] [] (.isl 1 (r.map eI)) []):=by
 unfold uc
 exact .au fun r1 o =>
  .ret (bu [(J 1),(J 1),.s7 3 1,.aL [2] [.cL (ah 1 eI ([]:List Int))] [(0,ii),(3,fW (([]:List Int).length))],(HA r1).fb,(J 2)] (.eJ (c6 1 .live (pE eI)) (aK 1 .live aP ([]:List Int)) (fH Int) (VW o) (gN eI r1) (fT eI r1) (dS aP r1)) (.bw (.dK (.e5 (r1.map eI)))))
def m3 (nU:Bool)(xX:List Int):Option bp :=
 if nU=true then
  some (⟨(decide ((0:Int)<(len_ eI xX))),xX⟩:bp)
 else
  some (⟨false,xX⟩:bp)
theorem sG {nU:Bool}{xX:List Int}:bA (m3 nU xX) (fun r=>Con bb 87 [.b nU,.isl 1 (xX.map eI)] [] (.agg (aX r)) []):=by
 unfold m3
 exact .ite (fun h1 =>
  .ret (bu [(J 1),.az (bs 5 (.aa true) 3)] (.c9 h1 h1 h1 h1)))
  (fun h1 =>
  .ret (bu [(J 1),.az (aj 2 (cr 3 (an (.aa false) (aj 3 []))))] (.c9 h1 h1 h1 h1)))
def oc (a3:Int):Option bp :=
 if (decide (a3<(0:Int)))=true then
  uc (IntKind.wrap .u64 ((IntKind.wrap .u64 (U (0-(U (a3+(1:Int))))))+(1:Int))) >>= fun b5 =>
  m3 true b5 >>= fun bi =>
  some bi
 else
  uc (IntKind.wrap .u64 a3) >>= fun b5 =>
  m3 false b5 >>= fun bi =>
  some bi
theorem rK {a3:Int}:bA (oc a3) (fun r=>Con bb 68 [.n .i64 a3] [] (.agg (aX r)) []):=by
 unfold oc
 exact .ite (fun h1 =>
  .au fun b5 ae =>
  .au fun bi aA =>
  .ret (bu [(J 1),(J 2),.aa true,.az (aj 5 (an (br 1 (.isl 1 (b5.map eI)) false) (an (br 2 (.agg (aX bi)) false) (aj 1 []))))] (.bR h1 (IU b5 ae) (sG bi aA))))
  (fun h1 =>
  .au fun b5 ae =>
  .au fun bi aA =>
  .ret (bu [(J 1),(J 2),.aa false,.az (aj 2 (an (br 1 (.isl 1 (b5.map eI)) false) (an (br 2 (.agg (aX bi)) false) (aj 1 []))))] (.bR h1 (IU b5 ae) (sG bi aA))))
def wY (ca:hv)(ag:Int):Option (List Int) :=
 if 0≤(U (ag*ca.eb)) then
 if 0≤(U ((U (ag+(1:Int)))*ca.eb)) then
 if (U (ag*ca.eb)).toNat≤(U ((U (ag+(1:Int)))*ca.eb)).toNat∧(U ((U (ag+(1:Int)))*ca.eb)).toNat≤ca.dJ.length then
 some ((ca.dJ.drop ((U (ag*ca.eb)).toNat)).take ((U ((U (ag+(1:Int)))*ca.eb)).toNat-(U (ag*ca.eb)).toNat))
 else none
 else none
 else none
theorem M0 {ca:hv}{ag:Int}:bA (wY ca ag) (fun r=>Con bb 69 [.dY 5 [(nP ca)] 0 0,.n .i64 ag] [] (.isl 1 (r.map eI)) []):=by
 unfold wY
 exact .aZ fun h1 =>
  .aZ fun o =>
  .aZ fun ae =>
  .ret (let q1:=U (ag*ca.eb);let aY:=(U ((U (ag+(1:Int)))*ca.eb));bu [(J 1),(J 19)] (.dn h1 o ae.1 (rk (cW eI ca.dJ) ae.2) (congrArg (aB.isl 1) (od (cW eI ca.dJ) (q1.toNat) (aY.toNat-q1.toNat)):(.isl 1 (((ca.dJ.map eI).drop (q1.toNat)).take (aY.toNat-q1.toNat)):aB) = .isl 1 (((ca.dJ.drop (q1.toNat)).take (aY.toNat-q1.toNat)).map eI))) (.bw (.dK (.cL (.isl 1 (((ca.dJ.drop (q1.toNat)).take (aY.toNat-q1.toNat)).map eI))))))
def IV (aN:List Int)(el du:Int):Int→S:=fun dk=>dl [(0,.isl 1 (aN.map eI)),(1,.n .i64 el),(7,.n .i64 du),(8,.n .i64 dk)] []
def NO (aN:List Int)(el du:Int):((Unit)⊕(Int))→dm
 | .inl a=>⟨some 0,[],[]⟩
 | .inr a=>⟨none,[(4,.n .i64 a)],[]⟩
def w0 (aN:List Int)(el du dk:Int):Option ((Int)⊕((Unit)⊕(Int))) :=
 if (decide (dk<du))=true then
  if 0≤dk∧dk<aN.length then
  aN[dk.toNat]? >>= fun aE =>
  if (el == aE)=true then
   some (.inr (.inr dk))
  else
   some (.inl (U (dk+(1:Int))))
  else none
 else
  some (.inr (.inl ()))
def JC (aN:List Int)(el du dk:Int):Option ((Unit)⊕(Int)):=iter (fun w:Int=>w0 aN el du w) dk
theorem VX {aN:List Int}{el du dk:Int}:bA (w0 aN el du dk) (dM bb 19 0 105 [1,0,1,0,0] (IV aN el du dk) (IV aN el du) (NO aN el du)):=by
 unfold w0
 exact .ite (fun h1 =>
  .aZ fun o =>
  .au fun aE av =>
  (let t1:List bX:=[(J 1),.aa true,(J 2),.az (bs 4 (.b4 (eI aE)) 1)];
  have aQ:=((.c9 h1 o.1 (cN eI o.2) (bU eI av)):cq _);
  .ite (fun aA =>
  .ret (bh (t1.append [.aa true,(J 2),.aL [] [] (a8 [4])]) (aQ.aJ (.e1 aA))))
  (fun aA =>
  .ret (bh (t1.append [.aa false,(J 2),.aL [] [] (a8 [0,1,7,8])]) (aQ.aJ (.e1 aA))))))
  (fun h1 =>
  .ret (bh [(J 1),.aa false,.aL [] [] []] (.e1 h1)))
theorem NT {aN:List Int}{el du dk:Int}{r} (h:JC aN el du dk=some r):dN bb 19 0 105 [1,0,1,0,0] (IV aN el du) (NO aN el du) dk r:=dO (fun _=>VX) h
def DK (aN:List Int)(el:Int):Option Int :=
 JC aN el (len_ eI aN) 0 >>= fun r1 =>
 match r1 with
 | .inl di=>(some (-1))
 | .inr di=>(some di)
theorem YE {aN:List Int}{el:Int}:bA (DK aN el) (fun r=>Con bb 105 [.isl 1 (aN.map eI),.n .i64 el] [] (.n .i64 r) []):=by
 unfold DK
 exact .au fun r1 o =>
  (let t1:List bX:=[(J 1),(J 3),.aL [] [] (a8 [0,1,7,8])];
  (by
  rcases r1 with di|di
  ·exact (.ret (bu (t1.append [.sub (.exit 0) [] [],(J 1)]) (.e1 (NT o))))
  ·exact (.ret (bu (t1.append [.sub (.ret) [(4,.n .i64 di)] []]) (.e1 (NT o))))))
def xl (aN:List Int)(el:Int):Option Bool :=
 DK aN el >>= fun r1 =>
 some (decide ((0:Int)≤r1))
theorem NU {aN:List Int}{el:Int}:bA (xl aN el) (fun r=>Con bb 89 [.isl 1 (aN.map eI),.n .i64 el] [] (.b r) []):=by
 unfold xl
 exact .au fun r1 o =>
  .ret (bu [(J 1),.az (bs 2 (br 2 (.n .i64 r1) true) 2)] (.aC (YE r1 o) (b9.n .i64 r1)))
def Ii:(List Int)→S:=fun af=>dl [(0,.isl 1 (af.map eI))] []
def IB:(List Int)→dm
 | a=>⟨some 0,[(0,.isl 1 (a.map eI))],[]⟩
def wU (af:List Int):Option (((List Int))⊕((List Int))) :=
 if (decide ((0:Int)<(len_ eI af)))=true then
  if 0≤(U ((len_ eI af)-(1:Int)))∧(U ((len_ eI af)-(1:Int)))<af.length then
  af[(U ((len_ eI af)-(1:Int))).toNat]? >>= fun aE =>
  if (aE == (0:Int))=true then
   if 0≤(U ((len_ eI af)-(1:Int))) then
   if 0≤(U ((len_ eI af)-(1:Int))).toNat∧(U ((len_ eI af)-(1:Int))).toNat≤af.length then
   some (.inl ((af.drop 0).take ((U ((len_ eI af)-(1:Int))).toNat-0)))
   else none
   else none
  else
   some (.inr af)
  else none
 else
  some (.inr af)
def Jn (af:List Int):Option ((List Int)):=iter (fun w:(List Int)=>wU w) af
theorem Vj {af:List Int}:bA (wU af) (dM bb 21 0 129 [1,0,0,0] (Ii af) (Ii) (IB)):=by
 unfold wU
 exact .ite (fun h1 =>
  .aZ fun o =>
  .au fun aE av =>
  (let t1:List bX:=[.az (aj 9 (an (.b4 (eI aE)) (aj 1 (an (.aa true) []))))];
  have aQ:=((.bl h1 h1 h1 h1 h1 o.1 (cN eI o.2) h1 (.bR (bU eI av) h1 h1)):cq _);
  .ite (fun aA =>
  .aZ fun a2 =>
  .aZ fun bd =>
  .ret (let q1:=(U ((len_ eI af)-(1:Int)));bh (t1.append [.aa true,(J 6),.aL [] [] [(0,.bw (.dK (.cL (.isl 1 (((af.drop 0).take (q1.toNat-0)).map eI)))))]]) (aQ.aJ (.dn aA a2 bd.1 (rk (cW eI af) bd.2) (congrArg (aB.isl 1) (od (cW eI af) 0 (q1.toNat-0)):(.isl 1 (((af.map eI).drop 0).take (q1.toNat-0)):aB) = .isl 1 (((af.drop 0).take (q1.toNat-0)).map eI))))))
  (fun aA =>
  .ret (bh (t1.append [.aa false,.aL [] [] (a8 [0])]) (aQ.aJ (.e1 aA))))))
  (fun h1 =>
  .ret (bh [.az (aj 4 (cr 7 (an (.aa false) []))),.aa false,.aL [] [] (a8 [0])] (.bl h1 h1 h1 h1 h1 h1 h1 h1 (.e1 c1))))
theorem WY {af:List Int}{r} (h:Jn af=some r):dN bb 21 0 129 [1,0,0,0] (Ii) (IB) af r:=dO (fun _=>Vj) h
def pR (af:List Int):Option (List Int) :=
 Jn af >>= fun r1 =>
 some r1
theorem ud {af:List Int}:bA (pR af) (fun r=>Con bb 129 [.isl 1 (af.map eI)] [] (.isl 1 (r.map eI)) []):=by
 unfold pR
 exact .au fun r1 o =>
  .ret (bu [(J 1),.aL [] [] (a8 [0]),(IB r1).fb,(J 2)] (.e1 (WY o)))
def H3 (ax:List Int)(ag a3:Int)(dd:List Int)(de hb:Int):(Int×Int×(List Int))→S:=fun (c3,df,ad)=>dl [(1,.isl 1 (ax.map eI)),(5,.bm 0 0 0 ad.length),(6,.n .i64 ag),(7,.n .i64 a3),(8,.n .i64 c3),(26,.isl 1 (dd.map eI)),(27,.n .i64 de),(28,.n .i64 ag),(33,.isl 1 (ax.map eI)),(34,.n .i64 hb),(35,.n .i64 df)] [(ah 1 eI ad)]
def Ij (ax:List Int)(ag a3:Int)(dd:List Int)(de hb:Int):(Int×(List Int))→dm
 | a=>⟨some 2,[(1,.isl 1 (ax.map eI)),(5,.bm 0 0 0 a.2.length),(6,.n .i64 ag),(8,.n .i64 a.1),(26,.isl 1 (dd.map eI)),(27,.n .i64 de),(28,.n .i64 ag)],[(ah 1 eI a.2)]⟩
def H4 (ax:List Int)(ag a3:Int)(dd:List Int)(de hb c3 df:Int)(ad:List Int):Option ((Int×Int×(List Int))⊕(Int×(List Int))) :=
 if (decide (df<hb))=true then
  if 0≤df∧df<ax.length then
  ax[df.toNat]? >>= fun aE =>
  if 0≤(U (ag+df))∧(U (ag+df))<(ad.length:Nat) then
  ad[(0+(U (ag+df)).toNat)]? >>= fun ct =>
  if (0+(U (ag+df)).toNat)<ad.length then
  some (.inl (U ((U ((U (ct+(U (a3*aE))))+c3)).tdiv (1000000000:Int)),U (df+(1:Int)),ad.set (0+(U (ag+df)).toNat) ((U ((U (ct+(U (a3*aE))))+c3)).tmod (1000000000:Int))))
  else none
  else none
  else none
 else
  some (.inr (c3,ad))
def NV (ax:List Int)(ag a3:Int)(dd:List Int)(de hb c3 df:Int)(ad:List Int):Option (Int×(List Int)):=iter (fun w:Int×Int×(List Int)=>H4 ax ag a3 dd de hb w.1 w.2.1 w.2.2) (c3,df,ad)
theorem Vd {ax:List Int}{ag a3:Int}{dd:List Int}{de hb c3 df:Int}{ad:List Int}:bA (H4 ax ag a3 dd de hb c3 df ad) (dM bb 72 0 123 [1,1,1,0,1,0,0,1,1,0,0,1,1,0,1,0,0] (H3 ax ag a3 dd de hb (c3,df,ad)) (H3 ax ag a3 dd de hb) (Ij ax ag a3 dd de hb)):=by
 unfold H4
 exact .ite (fun h1 =>
  .aZ fun o =>
  .au fun aE av =>
  .aZ fun aA =>
  .au fun ct bd =>
  .aZ fun bn =>
  .ret (let q1:=U ((U (ct+(U (a3*aE))))+c3);let aY:=U (ag+df);bh [(J 1),.aa true,.az (bs 2 (.b4 (eI aE)) 2),.az (bs 5 (.b4 (eI ct)) 7),.az (bs 9 .fQ 1),(J 2),.aL [0] [.cL (ah 1 eI (ad.set (0+aY.toNat) (q1.tmod (1000000000:Int))))] [(1,ii),(5,fW ((ad.set (0+aY.toNat) (q1.tmod (1000000000:Int))).length)),(6,ii),(7,ii),(8,ii),(26,ii),(27,ii),(28,ii),(33,ii),(34,ii),(35,ii)]] (.bl h1 o.1 (cN eI o.2) (bU eI av) aA.1 aA.2 (bU eI bd) (by decide:(1000000000:Int)≠0) (.gS (by decide:(1000000000:Int)≠0) aA.1 aA.2 (hE eI bn) (hs 1) (c6 1 .live (gD (cW eI ad) (0+aY.toNat) (q1.tmod (1000000000:Int)))) (aK 1 .live aP (ad.set (0+aY.toNat) (q1.tmod (1000000000:Int)))) (hR (dL ad) (0+aY.toNat) (q1.tmod (1000000000:Int)))))))
  (fun h1 =>
  .ret (bh [(J 1),.aa false,.aL [0] [.pure] (a8 [1,5,6,8,26,27,28])] (.aC h1 (aK 1 .live aP ad))))
theorem WC {ax:List Int}{ag a3:Int}{dd:List Int}{de hb c3 df:Int}{ad:List Int}{r} (h:NV ax ag a3 dd de hb c3 df ad=some r):dN bb 72 0 123 [1,1,1,0,1,0,0,1,1,0,0,1,1,0,1,0,0] (H3 ax ag a3 dd de hb) (Ij ax ag a3 dd de hb) (c3,df,ad) r:=dO (fun _=>Vd) h
def H5 (ax dd:List Int)(de:Int):(Int×(List Int))→S:=fun (fx,ad)=>dl [(1,.isl 1 (ax.map eI)),(5,.bm 0 0 0 ad.length),(26,.isl 1 (dd.map eI)),(27,.n .i64 de),(28,.n .i64 fx)] [(ah 1 eI ad)]
def Ik (ax dd:List Int)(de:Int):(List Int)→dm
 | a=>⟨some 0,[(5,.bm 0 0 0 a.length)],[(ah 1 eI a)]⟩
def H6 (ax dd:List Int)(de fx:Int)(ad:List Int):Option ((Int×(List Int))⊕((List Int))) :=
 if (decide (fx<de))=true then
  if 0≤fx∧fx<dd.length then
  dd[fx.toNat]? >>= fun aE =>
  NV ax fx aE dd de (len_ eI ax) 0 0 ad >>= fun aT =>
  if 0≤(U (fx+(len_ eI ax)))∧(U (fx+(len_ eI ax)))<(aT.2.length:Nat) then
  if (0+(U (fx+(len_ eI ax))).toNat)<aT.2.length then
  some (.inl (U (fx+(1:Int)),aT.2.set (0+(U (fx+(len_ eI ax))).toNat) aT.1))
  else none
  else none
  else none
 else
  some (.inr ad)
def Jk (ax dd:List Int)(de fx:Int)(ad:List Int):Option ((List Int)):=iter (fun w:Int×(List Int)=>H6 ax dd de w.1 w.2) (fx,ad)
theorem Ve {ax dd:List Int}{de fx:Int}{ad:List Int}:bA (H6 ax dd de fx ad) (dM bb 72 0 123 [1,1,1,0,1,0,0] (H5 ax dd de (fx,ad)) (H5 ax dd de) (Ik ax dd de)):=by
 unfold H6
 exact .ite (fun h1 =>
  .aZ fun o =>
  .au fun aE av =>
  .au fun aT a2 =>
  .aZ fun bd =>
  .aZ fun bn =>
  .ret (let q1:=U (fx+(len_ eI ax));bh [(J 1),.aa true,.az (bs 2 (.b4 (eI aE)) 2),(J 1),(J 3),.aL [0] [.pure] (a8 [1,5,6,7,8,26,27,28,33,34,35]),(Ij ax fx aE dd de (len_ eI ax) aT).fb,.az (aj 7 (an .fQ [])),(J 2),.aL [0] [.cL (ah 1 eI (aT.2.set (0+q1.toNat) aT.1))] [(1,ii),(5,fW ((aT.2.set (0+q1.toNat) aT.1).length)),(26,ii),(27,ii),(28,ii)]] (.bl h1 o.1 (cN eI o.2) (bU eI av) (aK 1 .live aP ad) (WC a2) bd.1 bd.2 (.dn (hE eI bn) (hs 1) (c6 1 .live (gD (cW eI aT.2) (0+q1.toNat) aT.1)) (aK 1 .live aP (aT.2.set (0+q1.toNat) aT.1)) (hR (dL aT.2) (0+q1.toNat) aT.1)))))
  (fun h1 =>
  .ret (bh [(J 1),.aa false,.aL [0] [.pure] (a8 [5])] (.aC h1 (aK 1 .live aP ad))))
theorem WD {ax dd:List Int}{de fx:Int}{ad:List Int}{r} (h:Jk ax dd de fx ad=some r):dN bb 72 0 123 [1,1,1,0,1,0,0] (H5 ax dd de) (Ik ax dd de) (fx,ad) r:=dO (fun _=>Ve) h
def z8 (af ax:List Int):Option (List Int) :=
 if ((len_ eI af) == (0:Int))=true then
  some ([]:List Int)
 else
  if ((len_ eI ax) == (0:Int))=true then
   some ([]:List Int)
  else
   if 0≤(U ((len_ eI af)+(len_ eI ax)))∧(8:Int)*(U ((len_ eI af)+(len_ eI ax)))≤281474976710656∧(U ((len_ eI af)+(len_ eI ax)))<9223372036854775808 then
   Jk ax af (len_ eI af) 0 (List.replicate (U ((len_ eI af)+(len_ eI ax))).toNat 0:List Int) >>= fun bi =>
   pR bi >>= fun cf =>
   some cf
   else none
theorem Xu {af ax:List Int}:bA (z8 af ax) (fun r=>Con bb 123 [.isl 1 (af.map eI),.isl 1 (ax.map eI)] [] (.isl 1 (r.map eI)) []):=by
 unfold z8
 exact .ite (fun h1 =>
  .ret (bu [(J 1),.az (aj 4 (cr 3 (an (.aa true) []))),.aa true,(J 1)] (.dn h1 h1 h1 h1 cE) (.bw (.dK (.jW 1)))))
  (fun h1 =>
  (let t1:List bX:=[(J 1),.az (aj 7 (an (.aa false) []))];
  .ite (fun o =>
  .ret (bu (t1.append [.aa true,(J 1)]) (.dn h1 h1 h1 h1 o) (.bw (.dK (.jW 1)))))
  (fun o =>
  .aZ fun ae =>
  .au fun bi aA =>
  .au fun cf bd =>
  .ret (let q1:=U ((len_ eI af)+(len_ eI ax));let aY:=(List.replicate q1.toNat 0:List Int);bu (t1.append [.aa false,(J 7),(J 3),.aL [14] [.cL (ah 1 eI aY)] [(1,ii),(5,fW (aY.length)),(26,ii),(27,ii),(28,ii)],(Ik ax af (len_ eI af) bi).fb,.iT 0,.az (bs 1 (.call {ac:=[.bw (.dK (.e5 (bi.map eI)))],r:= .isl 1 (cf.map eI),fE:=false,fN:=[0]}) 1)]) (.bl h1 h1 h1 h1 o ae.1 (Int.le_refl q1) ae.2.1 (.bl ae.2.2 (c6 1 .live (lu eI q1.toNat 0)) (aK 1 .live aP aY) (lH q1.toNat (0:Int)) (WD aA) (gN eI bi) (fT eI bi) (dS aP bi) (.e1 (ud cf bd))))))))
def pb (c7 er:bp):Option bp :=
 z8 c7.cC er.cC >>= fun r1 =>
 m3 (!(c7.cO == er.cO)) r1 >>= fun bk =>
 some bk
theorem wy {c7 er:bp}:bA (pb c7 er) (fun r=>Con bb 106 [.agg (aX c7),.agg (aX er)] [] (.agg (aX r)) []):=by
 unfold pb
 exact .au fun r1 o =>
  .au fun bk av =>
  .ret (bu [(J 3),.az (aj 9 (an (br 2 (.isl 1 (r1.map eI)) false) (an (br 2 (.agg (aX bk)) false) (aj 1 []))))] (.aC (Xu r1 o) (sG bk av)))
def oT (c7:bp):Option Int :=
 if ((len_ eI c7.cC) == (0:Int))=true then
  some 0
 else
  if c7.cO=true then
   some (-1)
  else
   some 1
theorem sD {c7:bp}:bA (oT c7) (fun r=>Con bb 71 [.agg (aX c7)] [] (.n .i64 r) []):=by
 unfold oT
 exact .ite (fun h1 =>
  .ret (bu [(J 2),(J 5),.aa true,(J 1)] (.e1 h1)))
  (fun h1 =>
  (let t1:List bX:=[(J 2),(J 5),.aa false,(J 3)];
  .ite (fun o =>
  .ret (bu (t1.append [.aa true,(J 1)]) (.aC h1 o)))
  (fun o =>
  .ret (bu (t1.append [.aa false,(J 1)]) (.aC h1 o)))))
def rG (c7:bp):Option bp :=
 m3 (!c7.cO) c7.cC >>= fun r1 =>
 some r1
theorem F9 {c7:bp}:bA (rG c7) (fun r=>Con bb 110 [.agg (aX c7)] [] (.agg (aX r)) []):=by
 unfold rG
 exact .au fun r1 o =>
  .ret (bu [(J 2),.az (bs 5 (br 2 (.agg (aX r1)) false) 1)] (.e1 (sG r1 o)))
def G2 (af ax:List Int):Int→S:=fun ag=>dl [(0,.isl 1 (af.map eI)),(1,.isl 1 (ax.map eI)),(5,.n .i64 ag)] []
def M1 (af ax:List Int):((Unit)⊕(Int))→dm
 | .inl a=>⟨some 0,[],[]⟩
 | .inr a=>⟨none,[(4,.n .i64 a)],[]⟩
def G3 (af ax:List Int)(ag:Int):Option ((Int)⊕((Unit)⊕(Int))) :=
 if (decide ((0:Int)≤ag))=true then
  if 0≤ag∧ag<af.length then
  af[ag.toNat]? >>= fun aE =>
  if 0≤ag∧ag<ax.length then
  ax[ag.toNat]? >>= fun ct =>
  if (decide (aE<ct))=true then
   some (.inr (.inr (-1)))
  else
   if (decide (ct<aE))=true then
    some (.inr (.inr 1))
   else
    some (.inl (U (ag-(1:Int))))
  else none
  else none
 else
  some (.inr (.inl ()))
def Nz (af ax:List Int)(ag:Int):Option ((Unit)⊕(Int)):=iter (fun w:Int=>G3 af ax w) ag
theorem Ur {af ax:List Int}{ag:Int}:bA (G3 af ax ag) (dM bb 43 0 125 [1,1,0,1,0,0] (G2 af ax ag) (G2 af ax) (M1 af ax)):=by
 unfold G3
 exact .ite (fun h1 =>
  .aZ fun o =>
  .au fun aE av =>
  .aZ fun aA =>
  .au fun ct bd =>
  (let t1:List bX:=[(J 2),.aa true,.az (aj 3 (an (.b4 (eI aE)) (bs 3 (.b4 (eI ct)) 2)))];
  have aQ:=((.eJ h1 o.1 (cN eI o.2) (bU eI av) aA.1 (cN eI aA.2) (bU eI bd)):cq _);
  .ite (fun bn =>
  .ret (bh (t1.append [.aa true,(J 1),.aL [] [] (a8 [4])]) (aQ.aJ (.e1 bn))))
  (fun bn =>
  (let t3:List bX:=t1.append [.aa false,.az (aj 3 (an (.b4 (eI aE)) (bs 3 (.b4 (eI ct)) 2)))];
  have eR:=aQ.aJ (.eJ bn o.1 (cN eI o.2) (bU eI av) aA.1 (cN eI aA.2) (bU eI bd));
  .ite (fun cp =>
  .ret (bh (t3.append [.aa true,(J 1),.aL [] [] (a8 [4])]) (eR.aJ (.e1 cp))))
  (fun cp =>
  .ret (bh (t3.append [.aa false,(J 3),.aL [] [] (a8 [0,1,5])]) (eR.aJ (.e1 cp))))))))
  (fun h1 =>
  .ret (bh [(J 2),.aa false,.aL [] [] []] (.e1 h1)))
theorem Nc {af ax:List Int}{ag:Int}{r} (h:Nz af ax ag=some r):dN bb 43 0 125 [1,1,0,1,0,0] (G2 af ax) (M1 af ax) ag r:=dO (fun _=>Ur) h
def ql (af ax:List Int):Option Int :=
 if ((len_ eI af) != (len_ eI ax))=true then
  if (decide ((len_ eI af)<(len_ eI ax)))=true then
   some (-1)
  else
   some 1
 else
  Nz af ax (U ((len_ eI af)-(1:Int))) >>= fun b5 =>
  match b5 with
  | .inl ff=>(some 0)
  | .inr ff=>(some ff)
theorem CR {af ax:List Int}:bA (ql af ax) (fun r=>Con bb 125 [.isl 1 (af.map eI),.isl 1 (ax.map eI)] [] (.n .i64 r) []):=by
 unfold ql
 exact .ite (fun h1 =>
  (let t1:List bX:=[(J 1),(J 5),.aa true,(J 5)];
  .ite (fun o =>
  .ret (bu (t1.append [.aa true,(J 1)]) (.aC h1 o)))
  (fun o =>
  .ret (bu (t1.append [.aa false,(J 1)]) (.aC h1 o)))))
  (fun h1 =>
  .au fun b5 ae =>
  (let t1:List bX:=[(J 1),(J 5),.aa false,(J 4),.aL [] [] (a8 [0,1,5])];
  (by
  rcases b5 with ff|ff
  ·exact (.ret (bu (t1.append [.sub (.exit 0) [] [],(J 1)]) (.aC h1 (Nc ae))))
  ·exact (.ret (bu (t1.append [.sub (.ret) [(4,.n .i64 ff)] []]) (.aC h1 (Nc ae)))))))
def Il (af ax:List Int)(gE:Int):(Int×Int×(List Int))→S:=fun (c3,fo,ad)=>dl [(0,.isl 1 (af.map eI)),(1,.isl 1 (ax.map eI)),(5,.bm 0 0 0 ad.length),(6,.n .i64 c3),(20,.isl 1 (af.map eI)),(21,.n .i64 gE),(22,.n .i64 fo)] [(ah 1 eI ad)]
def CO (af ax:List Int)(gE:Int):(Int×(List Int))→dm
 | a=>⟨some 0,[(0,.isl 1 (af.map eI)),(5,.bm 0 0 0 a.2.length),(6,.n .i64 a.1)],[(ah 1 eI a.2)]⟩
def wV (af ax:List Int)(gE c3 fo:Int)(ad:List Int):Option ((Int×Int×(List Int))⊕(Int×(List Int))) :=
 if (decide (fo<gE))=true then
  if 0≤fo∧fo<af.length then
  af[fo.toNat]? >>= fun aE =>
  if (decide (fo<(len_ eI ax)))=true then
   if 0≤fo∧fo<ax.length then
   ax[fo.toNat]? >>= fun fl =>
   if 0≤fo∧fo<(ad.length:Nat) then
   if (0+fo.toNat)<ad.length then
   some (.inl (U ((U ((U (aE+c3))+fl)).tdiv (1000000000:Int)),U (fo+(1:Int)),ad.set (0+fo.toNat) ((U ((U (aE+c3))+fl)).tmod (1000000000:Int))))
   else none
   else none
   else none
  else
   if 0≤fo∧fo<(ad.length:Nat) then
   if (0+fo.toNat)<ad.length then
   some (.inl (U ((U (aE+c3)).tdiv (1000000000:Int)),U (fo+(1:Int)),ad.set (0+fo.toNat) ((U (aE+c3)).tmod (1000000000:Int))))
   else none
   else none
  else none
 else
  some (.inr (c3,ad))
def zO (af ax:List Int)(gE c3 fo:Int)(ad:List Int):Option (Int×(List Int)):=iter (fun w:Int×Int×(List Int)=>wV af ax gE w.1 w.2.1 w.2.2) (c3,fo,ad)
theorem Vk {af ax:List Int}{gE c3 fo:Int}{ad:List Int}:bA (wV af ax gE c3 fo ad) (dM bb 55 0 130 [1,1,1,1,0,1,0,0] (Il af ax gE (c3,fo,ad)) (Il af ax gE) (CO af ax gE)):=by
 unfold wV
 exact .ite (fun h1 =>
  .aZ fun o =>
  .au fun aE av =>
  (let t1:List bX:=[(J 1),.aa true,.az (bs 2 (.b4 (eI aE)) 2),(J 4),(J 4)];
  have aQ:=((.c9 h1 o.1 (cN eI o.2) (bU eI av)):cq _);
  .ite (fun aA =>
  .aZ fun a2 =>
  .au fun fl bn =>
  .aZ fun cp =>
  .aZ fun cK =>
  .ret (let q1:=U ((U (aE+c3))+fl);bh (t1.append [.aa true,.az (bs 4 (.b4 (eI fl)) 2),.az (bs 7 .fQ 1),(J 2),.aL [0] [.cL (ah 1 eI (ad.set (0+fo.toNat) (q1.tmod (1000000000:Int))))] [(0,ii),(1,ii),(5,fW ((ad.set (0+fo.toNat) (q1.tmod (1000000000:Int))).length)),(6,ii),(20,ii),(21,ii),(22,ii)]]) (aQ.aJ (.bl aA a2.1 (cN eI a2.2) (bU eI bn) (by decide:(1000000000:Int)≠0) (by decide:(1000000000:Int)≠0) cp.1 cp.2 (.dn (hE eI cK) (hs 1) (c6 1 .live (gD (cW eI ad) (0+fo.toNat) (q1.tmod (1000000000:Int)))) (aK 1 .live aP (ad.set (0+fo.toNat) (q1.tmod (1000000000:Int)))) (hR (dL ad) (0+fo.toNat) (q1.tmod (1000000000:Int))))))))
  (fun aA =>
  .aZ fun a2 =>
  .aZ fun bd =>
  .ret (let aY:=U (aE+c3);bh (t1.append [.aa false,.az (bs 7 .fQ 1),(J 2),.aL [0] [.cL (ah 1 eI (ad.set (0+fo.toNat) (aY.tmod (1000000000:Int))))] [(0,ii),(1,ii),(5,fW ((ad.set (0+fo.toNat) (aY.tmod (1000000000:Int))).length)),(6,ii),(20,ii),(21,ii),(22,ii)]]) (aQ.aJ (.bl aA (by decide:(1000000000:Int)≠0) (by decide:(1000000000:Int)≠0) a2.1 a2.2 (hE eI bd) (hs 1) (c6 1 .live (gD (cW eI ad) (0+fo.toNat) (aY.tmod (1000000000:Int)))) (.aC (aK 1 .live aP (ad.set (0+fo.toNat) (aY.tmod (1000000000:Int)))) (hR (dL ad) (0+fo.toNat) (aY.tmod (1000000000:Int))))))))))
  (fun h1 =>
  .ret (bh [(J 1),.aa false,.aL [0] [.pure] (a8 [0,5,6])] (.aC h1 (aK 1 .live aP ad))))
theorem NA {af ax:List Int}{gE c3 fo:Int}{ad:List Int}{r} (h:zO af ax gE c3 fo ad=some r):dN bb 55 0 130 [1,1,1,1,0,1,0,0] (Il af ax gE) (CO af ax gE) (c3,fo,ad) r:=dO (fun _=>Vk) h
def xp (af ax:List Int):Option (List Int) :=
 if (decide ((len_ eI af)<(len_ eI ax)))=true then
  if 0≤(U ((len_ eI ax)+(1:Int)))∧(8:Int)*(U ((len_ eI ax)+(1:Int)))≤281474976710656∧(U ((len_ eI ax)+(1:Int)))<9223372036854775808 then
  zO ax af (len_ eI ax) 0 0 (List.replicate (U ((len_ eI ax)+(1:Int))).toNat 0:List Int) >>= fun bk =>
  if 0≤(len_ eI ax)∧(len_ eI ax)<(bk.2.length:Nat) then
  if (0+(len_ eI ax).toNat)<bk.2.length then
  pR (bk.2.set (0+(len_ eI ax).toNat) bk.1) >>= fun bI =>
  some bI
  else none
  else none
  else none
 else
  if 0≤(U ((len_ eI af)+(1:Int)))∧(8:Int)*(U ((len_ eI af)+(1:Int)))≤281474976710656∧(U ((len_ eI af)+(1:Int)))<9223372036854775808 then
  zO af ax (len_ eI af) 0 0 (List.replicate (U ((len_ eI af)+(1:Int))).toNat 0:List Int) >>= fun bk =>
  if 0≤(len_ eI af)∧(len_ eI af)<(bk.2.length:Nat) then
  if (0+(len_ eI af).toNat)<bk.2.length then
  pR (bk.2.set (0+(len_ eI af).toNat) bk.1) >>= fun bI =>
  some bI
  else none
  else none
  else none
theorem XN {af ax:List Int}:bA (xp af ax) (fun r=>Con bb 130 [.isl 1 (af.map eI),.isl 1 (ax.map eI)] [] (.isl 1 (r.map eI)) []):=by
 unfold xp
 exact .ite (fun h1 =>
  .aZ fun o =>
  .au fun bk av =>
  .aZ fun aA =>
  .aZ fun a2 =>
  .au fun bI bn =>
  .ret (let aY:=len_ eI ax;let q1:=(U (aY+(1:Int)));let bJ:=(List.replicate q1.toNat 0:List Int);let bS:=hR (dL bk.2) (0+aY.toNat) bk.1;bu [(J 1),(J 5),.aa true,(J 4),(J 5),(J 1),(J 3),.aL [13] [.cL (ah 1 eI bJ)] [(0,ii),(1,ii),(5,fW (bJ.length)),(6,ii),(20,ii),(21,ii),(22,ii)],(CO ax af aY bk).fb,.az (aj 5 (an .fQ [])),.iT 0,.az (bs 1 (.call {ac:=[.bw (.dK (.e5 ((bk.2.set (0+aY.toNat) bk.1).map eI)))],r:= .isl 1 (bI.map eI),fE:=false,fN:=[0]}) 1)] (.bl h1 o.1 (Int.le_refl q1) o.2.1 o.2.2 (c6 1 .live (lu eI q1.toNat 0)) (aK 1 .live aP bJ) (lH q1.toNat (0:Int)) (.bl (NA av) aA.1 aA.2 (hE eI a2) (hs 1) (lZ (gD (cW eI bk.2) (0+aY.toNat) bk.1) bS) (lG (gD (cW eI bk.2) (0+aY.toNat) bk.1) bS) (dS aP (bk.2.set (0+aY.toNat) bk.1)) (.e1 (ud bI bn))))))
  (fun h1 =>
  .aZ fun o =>
  .au fun bk av =>
  .aZ fun aA =>
  .aZ fun a2 =>
  .au fun bI bn =>
  .ret (let d4:=len_ eI af;let cA:=(U (d4+(1:Int)));let fP:=(List.replicate cA.toNat 0:List Int);let eB:=hR (dL bk.2) (0+d4.toNat) bk.1;bu [(J 1),(J 5),.aa false,(J 5),(J 1),(J 3),.aL [9] [.cL (ah 1 eI fP)] [(0,ii),(1,ii),(5,fW (fP.length)),(6,ii),(20,ii),(21,ii),(22,ii)],(CO af ax d4 bk).fb,.az (aj 5 (an .fQ [])),.iT 0,.az (bs 1 (.call {ac:=[.bw (.dK (.e5 ((bk.2.set (0+d4.toNat) bk.1).map eI)))],r:= .isl 1 (bI.map eI),fE:=false,fN:=[0]}) 1)] (.bl h1 o.1 (Int.le_refl cA) o.2.1 o.2.2 (c6 1 .live (lu eI cA.toNat 0)) (aK 1 .live aP fP) (lH cA.toNat (0:Int)) (.bl (NA av) aA.1 aA.2 (hE eI a2) (hs 1) (lZ (gD (cW eI bk.2) (0+d4.toNat) bk.1) eB) (lG (gD (cW eI bk.2) (0+d4.toNat) bk.1) eB) (dS aP (bk.2.set (0+d4.toNat) bk.1)) (.e1 (ud bI bn))))))
def H7 (ax cZ:List Int)(b1:Int):(Int×Int×(List Int))→S:=fun (mi,ch,ad)=>dl [(1,.isl 1 (ax.map eI)),(5,.bm 0 0 0 ad.length),(6,.n .i64 mi),(12,.isl 1 (cZ.map eI)),(13,.n .i64 b1),(14,.n .i64 ch)] [(ah 1 eI ad)]
def Im (ax cZ:List Int)(b1:Int):(List Int)→dm
 | a=>⟨some 0,[(5,.bm 0 0 0 a.length)],[(ah 1 eI a)]⟩
def wT (ax cZ:List Int)(b1 mi ch:Int)(ad:List Int):Option ((Int×Int×(List Int))⊕((List Int))) :=
 if (decide (ch<b1))=true then
  if 0≤ch∧ch<cZ.length then
  cZ[ch.toNat]? >>= fun aE =>
  if (decide (ch<(len_ eI ax)))=true then
   if 0≤ch∧ch<ax.length then
   ax[ch.toNat]? >>= fun fl =>
   if (decide ((U ((U (aE-mi))-fl))<(0:Int)))=true then
    if 0≤ch∧ch<(ad.length:Nat) then
    if (0+ch.toNat)<ad.length then
    some (.inl (1,U (ch+(1:Int)),ad.set (0+ch.toNat) (U ((U ((U (aE-mi))-fl))+(1000000000:Int)))))
    else none
    else none
   else
    if 0≤ch∧ch<(ad.length:Nat) then
    if (0+ch.toNat)<ad.length then
    some (.inl (0,U (ch+(1:Int)),ad.set (0+ch.toNat) (U ((U (aE-mi))-fl))))
    else none
    else none
   else none
  else
   if (decide ((U (aE-mi))<(0:Int)))=true then
    if 0≤ch∧ch<(ad.length:Nat) then
    if (0+ch.toNat)<ad.length then
    some (.inl (1,U (ch+(1:Int)),ad.set (0+ch.toNat) (U ((U (aE-mi))+(1000000000:Int)))))
    else none
    else none
   else
    if 0≤ch∧ch<(ad.length:Nat) then
    if (0+ch.toNat)<ad.length then
    some (.inl (0,U (ch+(1:Int)),ad.set (0+ch.toNat) (U (aE-mi))))
    else none
    else none
  else none
 else
  some (.inr ad)
def Jl (ax cZ:List Int)(b1 mi ch:Int)(ad:List Int):Option ((List Int)):=iter (fun w:Int×Int×(List Int)=>wT ax cZ b1 w.1 w.2.1 w.2.2) (mi,ch,ad)
theorem Vf {ax cZ:List Int}{b1 mi ch:Int}{ad:List Int}:bA (wT ax cZ b1 mi ch ad) (dM bb 43 0 131 [1,1,1,0,1,0,0] (H7 ax cZ b1 (mi,ch,ad)) (H7 ax cZ b1) (Im ax cZ b1)):=by
 unfold wT
 exact .ite (fun h1 =>
  .aZ fun o =>
  .au fun aE av =>
  (let t1:List bX:=[(J 1),.aa true,.az (bs 2 (.b4 (eI aE)) 2),(J 4),(J 4)];
  have aQ:=((.c9 h1 o.1 (cN eI o.2) (bU eI av)):cq _);
  .ite (fun aA =>
  .aZ fun a2 =>
  .au fun fl bn =>
  (let t3:List bX:=t1.append [.aa true,.az (bs 4 (.b4 (eI fl)) 2),(J 1),(J 2)];
  have eR:=aQ.aJ (.c9 aA a2.1 (cN eI a2.2) (bU eI bn));
  .ite (fun cp =>
  .aZ fun cK =>
  .aZ fun eV =>
  .ret (let q1:=(U ((U ((U (aE-mi))-fl))+(1000000000:Int)));bh (t3.append [.aa true,(J 3),(J 1),.az (aj 4 (an .fQ [])),(J 2),.aL [0] [.cL (ah 1 eI (ad.set (0+ch.toNat) q1))] [(1,ii),(5,fW ((ad.set (0+ch.toNat) q1).length)),(6,ii),(12,ii),(13,ii),(14,ii)]]) (eR.aJ (.gS cp cK.1 cK.2 (hE eI eV) (hs 1) (c6 1 .live (gD (cW eI ad) (0+ch.toNat) q1)) (aK 1 .live aP (ad.set (0+ch.toNat) q1)) (hR (dL ad) (0+ch.toNat) q1)))))
  (fun cp =>
  .aZ fun cK =>
  .aZ fun eV =>
  .ret (let aY:=U ((U (aE-mi))-fl);bh (t3.append [.aa false,.az (aj 4 (an .fQ [])),(J 2),.aL [0] [.cL (ah 1 eI (ad.set (0+ch.toNat) aY))] [(1,ii),(5,fW ((ad.set (0+ch.toNat) aY).length)),(6,ii),(12,ii),(13,ii),(14,ii)]]) (eR.aJ (.gS cp cK.1 cK.2 (hE eI eV) (hs 1) (c6 1 .live (gD (cW eI ad) (0+ch.toNat) aY)) (aK 1 .live aP (ad.set (0+ch.toNat) aY)) (hR (dL ad) (0+ch.toNat) aY)))))))
  (fun aA =>
  (let t3:List bX:=t1.append [.aa false,(J 1),(J 2)];
  .ite (fun a2 =>
  .aZ fun bd =>
  .aZ fun bn =>
  .ret (let bJ:=(U ((U (aE-mi))+(1000000000:Int)));bh (t3.append [.aa true,(J 3),(J 1),.az (aj 4 (an .fQ [])),(J 2),.aL [0] [.cL (ah 1 eI (ad.set (0+ch.toNat) bJ))] [(1,ii),(5,fW ((ad.set (0+ch.toNat) bJ).length)),(6,ii),(12,ii),(13,ii),(14,ii)]]) (aQ.aJ (.bl aA a2 bd.1 bd.2 (hE eI bn) (hs 1) (c6 1 .live (gD (cW eI ad) (0+ch.toNat) bJ)) (aK 1 .live aP (ad.set (0+ch.toNat) bJ)) (.e1 (hR (dL ad) (0+ch.toNat) bJ))))))
  (fun a2 =>
  .aZ fun bd =>
  .aZ fun bn =>
  .ret (let bS:=U (aE-mi);bh (t3.append [.aa false,.az (aj 4 (an .fQ [])),(J 2),.aL [0] [.cL (ah 1 eI (ad.set (0+ch.toNat) bS))] [(1,ii),(5,fW ((ad.set (0+ch.toNat) bS).length)),(6,ii),(12,ii),(13,ii),(14,ii)]]) (aQ.aJ (.bl aA a2 bd.1 bd.2 (hE eI bn) (hs 1) (c6 1 .live (gD (cW eI ad) (0+ch.toNat) bS)) (aK 1 .live aP (ad.set (0+ch.toNat) bS)) (.e1 (hR (dL ad) (0+ch.toNat) bS))))))))))
  (fun h1 =>
  .ret (bh [(J 1),.aa false,.aL [0] [.pure] (a8 [5])] (.aC h1 (aK 1 .live aP ad))))
theorem WE {ax cZ:List Int}{b1 mi ch:Int}{ad:List Int}{r} (h:Jl ax cZ b1 mi ch ad=some r):dN bb 43 0 131 [1,1,1,0,1,0,0] (H7 ax cZ b1) (Im ax cZ b1) (mi,ch,ad) r:=dO (fun _=>Vf) h
def sO (af ax:List Int):Option (List Int) :=
 if 0≤(len_ eI af)∧(8:Int)*(len_ eI af)≤281474976710656∧(len_ eI af)<9223372036854775808 then
 Jl ax af (len_ eI af) 0 0 (List.replicate (len_ eI af).toNat 0:List Int) >>= fun b5 =>
 pR b5 >>= fun bi =>
 some bi
 else none
theorem NW {af ax:List Int}:bA (sO af ax) (fun r=>Con bb 131 [.isl 1 (af.map eI),.isl 1 (ax.map eI)] [] (.isl 1 (r.map eI)) []):=by
 unfold sO
 exact .aZ fun h1 =>
  .au fun b5 ae =>
  .au fun bi aA =>
  .ret (let aY:=len_ eI af;let q1:=(List.replicate aY.toNat 0:List Int);bu [(J 1),(J 4),(J 1),(J 3),.aL [3] [.cL (ah 1 eI q1)] [(1,ii),(5,fW (q1.length)),(6,ii),(12,ii),(13,ii),(14,ii)],(Im ax af aY b5).fb,.iT 0,.az (bs 1 (.call {ac:=[.bw (.dK (.e5 (b5.map eI)))],r:= .isl 1 (bi.map eI),fE:=false,fN:=[0]}) 1)] (.bl h1.1 (Int.le_refl aY) h1.2.1 h1.2.2 (c6 1 .live (lu eI aY.toNat 0)) (aK 1 .live aP q1) (lH aY.toNat (0:Int)) (WE ae) (.c9 (gN eI b5) (fT eI b5) (dS aP b5) (ud bi aA))))
def wZ (c7 er:bp):Option bp :=
 ql c7.cC er.cC >>= fun r1 =>
 if (c7.cO == er.cO)=true then
  xp c7.cC er.cC >>= fun bi =>
  m3 c7.cO bi >>= fun cf =>
  some cf
 else
  if (decide ((0:Int)≤r1))=true then
   sO c7.cC er.cC >>= fun aT =>
   m3 c7.cO aT >>= fun bI =>
   some bI
  else
   sO er.cC c7.cC >>= fun aT =>
   m3 er.cO aT >>= fun bI =>
   some bI
theorem VE {c7 er:bp}:bA (wZ c7 er) (fun r=>Con bb 124 [.agg (aX c7),.agg (aX er)] [] (.agg (aX r)) []):=by
 unfold wZ
 exact .au fun r1 o =>
  (let t1:List bX:=[(J 3),.az (bs 4 (br 2 (.n .i64 r1) true) 1),(J 6)];
  have aQ:=((.aC (CR r1 o) (b9.n .i64 r1)):cq _);
  .ite (fun ae =>
  .au fun bi aA =>
  .au fun cf bd =>
  .ret (bu (t1.append [.aa true,.az (aj 6 (an (br 2 (.isl 1 (bi.map eI)) false) (an (br 2 (.agg (aX cf)) false) (aj 1 []))))]) (aQ.aJ (.bR ae (XN bi aA) (sG cf bd)))))
  (fun ae =>
  .ite (fun av =>
  .au fun aT a2 =>
  .au fun bI bn =>
  .ret (bu (t1.append [.aa false,(J 3),.aa true,.az (aj 6 (an (br 2 (.isl 1 (aT.map eI)) false) (an (br 2 (.agg (aX bI)) false) (aj 1 []))))]) (aQ.aJ (.c9 ae av (NW aT a2) (sG bI bn)))))
  (fun av =>
  .au fun aT a2 =>
  .au fun bI bn =>
  .ret (bu (t1.append [.aa false,(J 3),.aa false,.az (aj 6 (an (br 2 (.isl 1 (aT.map eI)) false) (an (br 2 (.agg (aX bI)) false) (aj 1 []))))]) (aQ.aJ (.c9 ae av (NW aT a2) (sG bI bn)))))))
def tT (c7 er:bp):Option bp :=
 rG er >>= fun r1 =>
 wZ c7 r1 >>= fun bk =>
 some bk
theorem MQ {c7 er:bp}:bA (tT c7 er) (fun r=>Con bb 107 [.agg (aX c7),.agg (aX er)] [] (.agg (aX r)) []):=by
 unfold tT
 exact .au fun r1 o =>
  .au fun bk av =>
  .ret (bu [(J 3),.az (aj 2 (an (br 1 (.agg (aX r1)) false) (an (br 2 (.agg (aX bk)) false) (aj 1 []))))] (.aC (F9 r1 o) (VE bk av)))
def FG (eF:List (List bp))(eS:Bool)(eE eG:List Int)(iY:Int)(j8:List Bool)(lq:List Int)(bz ha:Int):(Int×Bool×(List Int))→S:=fun (ia,aF,aD)=>dl [(0,.dY 6 [[.isl 1 (eF.map (eL 2 aX)),.b eS,.isl 1 (eE.map eI),.isl 1 (eG.map eI),.n .i64 iY,.isl 1 (j8.map eg)]] 0 0),(1,.isl 1 (lq.map eI)),(2,.n .i64 bz),(7,.ref 0 0 0 0),(23,.isl 1 (eG.map eI)),(24,.n .i64 ha),(25,.n .i64 ia)] [[ab.mk 2 [[.b aF,.isl 1 (aD.map eI)]] .live]]
def MA (eF:List (List bp))(eS:Bool)(eE eG:List Int)(iY:Int)(j8:List Bool)(lq:List Int)(bz ha:Int):(Bool×(List Int))→dm
 | a=>⟨some 0,[(7,.ref 0 0 0 0)],[[ab.mk 2 [[.b a.1,.isl 1 (a.2.map eI)]] .live]]⟩
def vO (eF:List (List bp))(eS:Bool)(eE eG:List Int)(iY:Int)(j8:List Bool)(lq:List Int)(bz ha ia:Int)(aF:Bool)(aD:List Int):Option ((Int×Bool×(List Int))⊕(Bool×(List Int))) :=
 if (decide (ia<ha))=true then
  if 0≤ia∧ia<eG.length then
  eG[ia.toNat]? >>= fun aE =>
  if 0≤aE∧aE<lq.length then
  lq[aE.toNat]? >>= fun ct =>
  if (ct != (0:Int))=true then
   if 0≤ia∧ia<eF.length then
   eF[ia.toNat]? >>= fun iU =>
   if 0≤bz∧bz<iU.length then
   iU[bz.toNat]? >>= fun qV =>
   oT qV >>= fun gB =>
   if (gB != (0:Int))=true then
    oc ct >>= fun fa =>
    pb qV fa >>= fun jo =>
    tT (⟨aF,aD⟩:bp) jo >>= fun BP =>
    some (.inl (U (ia+(1:Int)),BP.cO,BP.cC))
   else
    some (.inl (U (ia+(1:Int)),aF,aD))
   else none
   else none
  else
   some (.inl (U (ia+(1:Int)),aF,aD))
  else none
  else none
 else
  some (.inr (aF,aD))
def G4 (eF:List (List bp))(eS:Bool)(eE eG:List Int)(iY:Int)(j8:List Bool)(lq:List Int)(bz ha ia:Int)(aF:Bool)(aD:List Int):Option (Bool×(List Int)):=iter (fun w:Int×Bool×(List Int)=>vO eF eS eE eG iY j8 lq bz ha w.1 w.2.1 w.2.2) (ia,aF,aD)
theorem Ts {eF:List (List bp)}{eS:Bool}{eE eG:List Int}{iY:Int}{j8:List Bool}{lq:List Int}{bz ha ia:Int}{aF:Bool}{aD:List Int}:bA (vO eF eS eE eG iY j8 lq bz ha ia aF aD) (dM bb 70 0 90 [1,1,0,1,0,0] (FG eF eS eE eG iY j8 lq bz ha (ia,aF,aD)) (FG eF eS eE eG iY j8 lq bz ha) (MA eF eS eE eG iY j8 lq bz ha)):=by
 unfold vO
 exact .ite (fun h1 =>
  .aZ fun o =>
  .au fun aE av =>
  .aZ fun aA =>
  .au fun ct bd =>
  (let t1:List bX:=[(J 1),.aa true,.az (bs 2 (.b4 (eI aE)) 2)];
  have aQ:=((.eJ h1 o.1 (cN eI o.2) (bU eI av) aA.1 (cN eI aA.2) (bU eI bd)):cq _);
  .ite (fun bn =>
  .aZ fun cp =>
  .au fun iU eV =>
  .aZ fun e4 =>
  .au fun qV ew =>
  .au fun gB hY =>
  (let t3:List bX:=t1.append [.az (aj 3 (an (.b4 (eI ct)) (aj 8 (an (.b4 ((eL 2 aX) iU)) (aj 2 (an (.b4 (aX qV)) (an (br 1 (.n .i64 gB) true) (aj 1 (an (.aa true) [])))))))))];
  have eR:=aQ.aJ (.bl bn bn bn bn bn bn cp.1 (cN (eL 2 aX) cp.2) (.bl bn (bU (eL 2 aX) eV) bn bn e4.1 (cN aX e4.2) bn (bU aX ew) (.dn bn (sD gB hY) (b9.n .i64 gB) bn bn)));
  .ite (fun hy =>
  .au fun fa gA =>
  .au fun jo gL =>
  .au fun BP mV =>
  .ret (bh (t3.append [.aa true,.az (aj 7 (an (.b4 ((eL 2 aX) iU)) (aj 2 (an (.b4 (aX qV)) (aj 3 (an (.b4 (eI ct)) (an (br 1 (.agg (aX fa)) false) (an (br 2 (.agg (aX jo)) false) (an (br 2 (.agg (aX BP)) false) (aj 1 [])))))))))),(J 2),.aL [0] [.box [.id,.id]] (a8 [0,1,2,7,23,24,25])]) (eR.aJ (.bl hy cp.1 (cN (eL 2 aX) cp.2) (bU (eL 2 aX) eV) e4.1 (cN aX e4.2) (bU aX ew) aA.1 (.dn (cN eI aA.2) (bU eI bd) (rK fa gA) (wy jo gL) (MQ BP mV))))))
  (fun hy =>
  .ret (bh (t3.append [.aa false,(J 2),.aL [0] [.box [.id,.id]] (a8 [0,1,2,7,23,24,25])]) (eR.aJ (.e1 hy))))))
  (fun bn =>
  .ret (bh (t1.append [.az (aj 3 (an (.b4 (eI ct)) (aj 2 (cr 12 (an (.aa false) []))))),.aa false,(J 2),.aL [0] [.box [.id,.id]] (a8 [0,1,2,7,23,24,25])]) (aQ.aJ (.bl bn bn bn bn bn bn bn bn (.d5 bn bn bn bn bn c1)))))))
  (fun h1 =>
  .ret (bh [(J 1),.aa false,.aL [0] [.box [.id,.id]] (a8 [7])] (.e1 h1)))
theorem Us {eF:List (List bp)}{eS:Bool}{eE eG:List Int}{iY:Int}{j8:List Bool}{lq:List Int}{bz ha ia:Int}{aF:Bool}{aD:List Int}{r} (h:G4 eF eS eE eG iY j8 lq bz ha ia aF aD=some r):dN bb 70 0 90 [1,1,0,1,0,0] (FG eF eS eE eG iY j8 lq bz ha) (MA eF eS eE eG iY j8 lq bz ha) (ia,aF,aD) r:=dO (fun _=>Ts) h
def wW (hd:qo)(lq:List Int)(bz:Int):Option Int :=
 if 0≤bz∧bz<lq.length then
 lq[bz.toNat]? >>= fun d3 =>
 oc d3 >>= fun bi =>
 pb hd.u2 bi >>= fun cf =>
 G4 hd.sa hd.u2.cO hd.u2.cC hd.rn hd.KE hd.KF lq bz (len_ eI hd.rn) 0 cf.cO cf.cC >>= fun c4 =>
 oT (⟨c4.1,c4.2⟩:bp) >>= fun ef =>
 some ef
 else none
theorem MR {hd:qo}{lq:List Int}{bz:Int}:bA (wW hd lq bz) (fun r=>Con bb 90 [.dY 6 [(xk hd)] 0 0,.isl 1 (lq.map eI),.n .i64 bz] [] (.n .i64 r) []):=by
 unfold wW
 exact .aZ fun h1 =>
  .au fun d3 ae =>
  .au fun bi aA =>
  .au fun cf bd =>
  .au fun c4 cp =>
  .au fun ef eV =>
  .ret (bu [(J 1),.az (aj 7 (an (.b4 (eI d3)) (an (br 1 (.agg (aX bi)) false) (an (br 2 (.agg (aX cf)) false) (aj 2 []))))),(J 6),.aL [11] [.box [.id,.id]] (a8 [0,1,2,7,23,24,25]),.sub (.exit 0) [(7,.ref 0 0 0 0)] [[ab.mk 2 [[.b c4.1,.isl 1 (c4.2.map eI)]] .live]],.az (bs 1 (br 1 (.n .i64 ef) true) 1)] (.gS h1.1 (cN eI h1.2) (bU eI ae) (rK bi aA) (wy cf bd) (Us cp) (sD ef eV) (b9.n .i64 ef)))
def rH (c7 er:bp):Option Int :=
 if (c7.cO == er.cO)=true then
  if c7.cO=true then
   ql er.cC c7.cC >>= fun bk =>
   some bk
  else
   ql c7.cC er.cC >>= fun bk =>
   some bk
 else
  if c7.cO=true then
   some (-1)
  else
   some 1
theorem UT {c7 er:bp}:bA (rH c7 er) (fun r=>Con bb 108 [.agg (aX c7),.agg (aX er)] [] (.n .i64 r) []):=by
 unfold rH
 exact .ite (fun h1 =>
  (let t1:List bX:=[(J 3),.az (aj 6 (cr 2 (an (.aa false) (aj 1 [])))),.aa false,(J 6),.aa false,(J 3)];
  have aQ:=((.dn (cY h1) (cY h1) (cY h1) c1 (cY h1)):cq _);
  .ite (fun o =>
  .au fun bk av =>
  .ret (bu (t1.append [.aa true,.az (bs 4 (br 2 (.n .i64 bk) true) 1)]) (aQ.aJ (.bR o (CR bk av) (b9.n .i64 bk)))))
  (fun o =>
  .au fun bk av =>
  .ret (bu (t1.append [.aa false,.az (bs 4 (br 2 (.n .i64 bk) true) 1)]) (aQ.aJ (.bR o (CR bk av) (b9.n .i64 bk)))))))
  (fun h1 =>
  (let t1:List bX:=[(J 3),.az (bs 8 (.aa true) 1)];
  have aQ:=((.bR (cU h1) (cU h1) (cU h1)):cq _);
  .ite (fun o =>
  .ret (bu (t1.append [.aa true,(J 1)]) (aQ.aJ (.e1 o))))
  (fun o =>
  .ret (bu (t1.append [.aa false,(J 6),.aa true,(J 1)]) (aQ.aJ (.aC o (cU h1)))))))
def Fq (eF:List (List bp))(eS:Bool)(eE eG:List Int)(iY:Int)(j8:List Bool)(bz b1:Int):(Int×Int)→S:=fun (hZ,ch)=>dl [(0,.dY 6 [[.isl 1 (eF.map (eL 2 aX)),.b eS,.isl 1 (eE.map eI),.isl 1 (eG.map eI),.n .i64 iY,.isl 1 (j8.map eg)]] 0 0),(1,.n .i64 bz),(5,.n .i64 hZ),(12,.isl 1 (eF.map (eL 2 aX))),(13,.n .i64 b1),(14,.n .i64 ch)] []
def My (eF:List (List bp))(eS:Bool)(eE eG:List Int)(iY:Int)(j8:List Bool)(bz b1:Int):Int→dm
 | a=>⟨some 0,[(5,.n .i64 a)],[]⟩
def vG (eF:List (List bp))(eS:Bool)(eE eG:List Int)(iY:Int)(j8:List Bool)(bz b1 hZ ch:Int):Option ((Int×Int)⊕(Int)) :=
 if (decide (ch<b1))=true then
  if 0≤ch∧ch<eF.length then
  eF[ch.toNat]? >>= fun aE =>
  if 0≤bz∧bz<aE.length then
  aE[bz.toNat]? >>= fun ct =>
  oT ct >>= fun c4 =>
  if (decide (c4≤(0:Int)))=true then
   some (.inl (hZ,U (ch+(1:Int))))
  else
   if (decide (hZ<(0:Int)))=true then
    some (.inl (ch,U (ch+(1:Int))))
   else
    if 0≤iY∧iY<aE.length then
    aE[iY.toNat]? >>= fun qV =>
    if 0≤hZ∧hZ<eF.length then
    eF[hZ.toNat]? >>= fun mr =>
    if 0≤bz∧bz<mr.length then
    mr[bz.toNat]? >>= fun qW =>
    pb qV qW >>= fun nF =>
    if 0≤iY∧iY<mr.length then
    mr[iY.toNat]? >>= fun so =>
    pb so ct >>= fun nG =>
    rH nF nG >>= fun ms =>
    if (decide (ms<(0:Int)))=true then
     some (.inl (ch,U (ch+(1:Int))))
    else
     if (ms == (0:Int))=true then
      if 0≤ch∧ch<eG.length then
      eG[ch.toNat]? >>= fun LC =>
      if 0≤hZ∧hZ<eG.length then
      eG[hZ.toNat]? >>= fun LD =>
      if (decide (LC<LD))=true then
       some (.inl (ch,U (ch+(1:Int))))
      else
       some (.inl (hZ,U (ch+(1:Int))))
      else none
      else none
     else
      some (.inl (hZ,U (ch+(1:Int))))
    else none
    else none
    else none
    else none
  else none
  else none
 else
  some (.inr hZ)
def Ga (eF:List (List bp))(eS:Bool)(eE eG:List Int)(iY:Int)(j8:List Bool)(bz b1 hZ ch:Int):Option (Int):=iter (fun w:Int×Int=>vG eF eS eE eG iY j8 bz b1 w.1 w.2) (hZ,ch)
theorem Tf {eF:List (List bp)}{eS:Bool}{eE eG:List Int}{iY:Int}{j8:List Bool}{bz b1 hZ ch:Int}:bA (vG eF eS eE eG iY j8 bz b1 hZ ch) (dM bb 91 0 91 [1,1,0,1,0,0] (Fq eF eS eE eG iY j8 bz b1 (hZ,ch)) (Fq eF eS eE eG iY j8 bz b1) (My eF eS eE eG iY j8 bz b1)):=by
 unfold vG
 exact .ite (fun h1 =>
  .aZ fun o =>
  .au fun aE av =>
  .aZ fun aA =>
  .au fun ct bd =>
  .au fun c4 cp =>
  (let t1:List bX:=[(J 1),.aa true,.az (bs 2 (.b4 ((eL 2 aX) aE)) 2),.az (aj 3 (an (.b4 (aX ct)) (an (br 1 (.n .i64 c4) true) (aj 1 []))))];
  have aQ:=((.bl h1 o.1 (cN (eL 2 aX) o.2) (bU (eL 2 aX) av) aA.1 (cN aX aA.2) (bU aX bd) (sD c4 cp) (.e1 (b9.n .i64 c4))):cq _);
  .ite (fun cK =>
  .ret (bh (t1.append [.aa true,(J 2),.aL [] [] (a8 [0,1,5,12,13,14])]) (aQ.aJ (.e1 cK))))
  (fun cK =>
  .ite (fun eV =>
  .ret (bh (t1.append [.aa false,(J 2),.aa true,(J 2),(J 2),.aL [] [] (a8 [0,1,5,12,13,14])]) (aQ.aJ (.aC cK eV))))
  (fun eV =>
  .aZ fun e4 =>
  .au fun qV ew =>
  .aZ fun fS =>
  .au fun mr hy =>
  .aZ fun hz =>
  .au fun qW fk =>
  .au fun nF iN =>
  .aZ fun mV =>
  .au fun so qX =>
  .au fun nG sn =>
  .au fun ms BQ =>
  (let q1:=eL 2 aX;let t3:List bX:=t1.append [.aa false,(J 2),.aa false,.az (aj 6 (an (.b4 (aX qV)) (aj 6 (an (.b4 (q1 mr)) (aj 2 (an (.b4 (aX qW)) (an (br 2 (.agg (aX nF)) false) (aj 6 (an (.b4 (q1 mr)) (aj 5 (an (.b4 (aX so)) (aj 3 (an (.b4 (aX ct)) (an (br 2 (.agg (aX nG)) false) (an (br 2 (.n .i64 ms) true) (aj 1 []))))))))))))))))];
  have eR:=aQ.aJ (.bl cK eV e4.1 (cN aX e4.2) (bU aX ew) fS.1 (cN q1 fS.2) (bU q1 hy) (.bl hz.1 (cN aX hz.2) (bU aX fk) (wy nF iN) fS.1 (cN q1 fS.2) (bU q1 hy) mV.1 (.gS (cN aX mV.2) (bU aX qX) aA.1 (cN aX aA.2) (bU aX bd) (wy nG sn) (UT ms BQ) (b9.n .i64 ms))));
  .ite (fun n7 =>
  .ret (bh (t3.append [.az (aj 3 (cr 3 (aj 15 (cr 1 (an (.aa true) []))))),.aa true,(J 2),(J 2),.aL [] [] (a8 [0,1,5,12,13,14])]) (eR.aJ (.d5 n7 n7 n7 n7 n7 cE))))
  (fun n7 =>
  .ite (fun jC =>
  .aZ fun RY =>
  .au fun LC ads =>
  .aZ fun RZ =>
  .au fun LD adt =>
  (let t5:List bX:=t3.append [.az (aj 12 (an (.b4 (eI LC)) (aj 6 (an (.b4 (eI LD)) (aj 1 (an (.aa true) (an (.aa false) [])))))))];
  have kF:=eR.aJ (.bl n7 n7 n7 jC jC jC jC jC (.bl jC RY.1 (cN eI RY.2) jC (bU eI ads) jC jC jC (.bl jC jC jC RZ.1 (cN eI RZ.2) jC (bU eI adt) jC (.bR n7 jC n7))));
  .ite (fun LF =>
  .ret (bh (t5.append [.aa true,(J 2),(J 2),.aL [] [] (a8 [0,1,5,12,13,14])]) (kF.aJ (.e1 LF))))
  (fun LF =>
  .ret (bh (t5.append [.aa false,(J 2),.aL [] [] (a8 [0,1,5,12,13,14])]) (kF.aJ (.e1 LF))))))
  (fun jC =>
  .ret (bh (t3.append [.az (aj 6 (cr 15 (an (.aa false) (an (.aa false) [])))),.aa false,(J 2),.aL [] [] (a8 [0,1,5,12,13,14])]) (eR.aJ (.bl n7 n7 n7 jC jC jC jC jC (.bl jC jC jC jC jC jC jC jC (.d5 jC jC n7 jC n7 c1))))))))))))
  (fun h1 =>
  .ret (bh [(J 1),.aa false,.aL [] [] (a8 [5])] (.e1 h1)))
theorem TP {eF:List (List bp)}{eS:Bool}{eE eG:List Int}{iY:Int}{j8:List Bool}{bz b1 hZ ch:Int}{r} (h:Ga eF eS eE eG iY j8 bz b1 hZ ch=some r):dN bb 91 0 91 [1,1,0,1,0,0] (Fq eF eS eE eG iY j8 bz b1) (My eF eS eE eG iY j8 bz b1) (hZ,ch) r:=dO (fun _=>Tf) h
def y3 (hd:qo)(bz:Int):Option Int :=
 Ga hd.sa hd.u2.cO hd.u2.cC hd.rn hd.KE hd.KF bz (len_ (eL 2 aX) hd.sa) (-1) 0 >>= fun r1 =>
 some r1
theorem Ut {hd:qo}{bz:Int}:bA (y3 hd bz) (fun r=>Con bb 91 [.dY 6 [(xk hd)] 0 0,.n .i64 bz] [] (.n .i64 r) []):=by
 unfold y3
 exact .au fun r1 o =>
  .ret (bu [(J 1),(J 1),(J 6),.aL [] [] (a8 [0,1,5,12,13,14]),.sub (.exit 0) [(5,.n .i64 r1)] [],(J 2)] (.e1 (TP o)))
def Ap (aN:List Int):Option (List Int) :=
 if aN.length*8≤140737488355328 then some aN else none
theorem Zd:Con bb 132 [.eT] [] (.isl 1 (([]:List Int).map eI)) []:=bu [(J 1),(J 2),.aa true,(J 1)] (.e1 cE) (.bw (.dK (.jW 1)))
theorem Ze:Con bb 132 [.iL] [] (.isl 1 (([]:List Int).map eI)) []:=(by
 have h:=fun (h1:(([]:List Int)++([]:List Int)).length*8≤140737488355328)=>(bu [(J 1),(J 2),.aa false,.az (bs 2 (.aJ ((([]:List Int)++([]:List Int)).length)) 1)] (.eJ c1 (oe (show []=(([]:List Int)).map eI from rfl) (fH Int)) (mE (fH Int) (pE eI):(([]:List Int)++([]:List Int)).length=0+([]:List (List aB)).length) h1 (lZ (jc (show []=(([]:List Int)).map eI from rfl) (fH Int) (pE eI)) (dL (([]:List Int)++([]:List Int)))) (lG (jc (show []=(([]:List Int)).map eI from rfl) (fH Int) (pE eI)) (dL (([]:List Int)++([]:List Int)))) (dS aP (([]:List Int)++([]:List Int)))) (.bw (.dK (.e5 ((([]:List Int)++([]:List Int)).map eI)))):Con bb 132 [.iL] [] (.isl 1 ((([]:List Int)++([]:List Int)).map eI)) [])
 exact h (by decide))
theorem Zf (x:Int)(l:List Int)(h1:(([]:List Int)++(x::l)).length*8≤140737488355328):Con bb 132 [.isl 1 ((x::l).map eI)] [] (.isl 1 ((([]:List Int)++(x::l)).map eI)) []:=bu [(J 1),.az (aj 1 (an .fQ [])),.aa false,.az (bs 2 (.aJ ((([]:List Int)++(x::l)).length)) 1)] (.gS (by simp:(x::l).map eI≠[]) c1 (oe (show []=(([]:List Int)).map eI from rfl) (fH Int)) (mE (fH Int) (cW eI (x::l)):(([]:List Int)++(x::l)).length=0+((x::l).map eI).length) h1 (lZ (jc (show []=(([]:List Int)).map eI from rfl) (fH Int) (cW eI (x::l))) (dL (([]:List Int)++(x::l)))) (lG (jc (show []=(([]:List Int)).map eI from rfl) (fH Int) (cW eI (x::l))) (dL (([]:List Int)++(x::l)))) (dS aP (([]:List Int)++(x::l)))) (.bw (.dK (.e5 ((([]:List Int)++(x::l)).map eI))))
theorem YF {aN:List Int}:bA (Ap aN) (fun r=>Con bb 132 [.isl 1 (aN.map eI)] [] (.isl 1 (r.map eI)) []):=by
 unfold Ap
 refine .aZ fun h=> .ret ?_
 cases aN with
 | nil=>exact .kb Zd Ze
 | cons x l =>
  have o:=Zf x l (by simpa using h)
  simpa using o
def Gm (af:List Int)(ax:Int):(Int×Int×(List Int))→S:=fun (fM,ag,ad)=>dl [(0,.isl 1 (af.map eI)),(1,.n .i64 ax),(6,.bm 0 0 0 ad.length),(7,.n .i64 fM),(8,.n .i64 ag)] [(ah 1 eI ad)]
def GF (af:List Int)(ax:Int):(Int×(List Int))→dm
 | a=>⟨some 0,[(6,.bm 0 0 0 a.2.length),(7,.n .i64 a.1)],[(ah 1 eI a.2)]⟩
def Gn (af:List Int)(ax fM ag:Int)(ad:List Int):Option ((Int×Int×(List Int))⊕(Int×(List Int))) :=
 if (decide ((0:Int)≤ag))=true then
  if 0≤ag∧ag<af.length then
  af[ag.toNat]? >>= fun aE =>
  if ax≠0 then
  if 0≤ag∧ag<(ad.length:Nat) then
  if (0+ag.toNat)<ad.length then
  some (.inl ((U ((U (fM*(1000000000:Int)))+aE)).tmod ax,U (ag-(1:Int)),ad.set (0+ag.toNat) (U ((U ((U (fM*(1000000000:Int)))+aE)).tdiv ax))))
  else none
  else none
  else none
  else none
 else
  some (.inr (fM,ad))
def Io (af:List Int)(ax fM ag:Int)(ad:List Int):Option (Int×(List Int)):=iter (fun w:Int×Int×(List Int)=>Gn af ax w.1 w.2.1 w.2.2) (fM,ag,ad)
theorem TZ {af:List Int}{ax fM ag:Int}{ad:List Int}:bA (Gn af ax fM ag ad) (dM bb 39 0 133 [1,1,1,0,1,0,0] (Gm af ax (fM,ag,ad)) (Gm af ax) (GF af ax)):=by
 unfold Gn
 exact .ite (fun h1 =>
  .aZ fun o =>
  .au fun aE av =>
  .aZ fun aA =>
  .aZ fun a2 =>
  .aZ fun bd =>
  .ret (let q1:=(U ((U ((U (fM*(1000000000:Int)))+aE)).tdiv ax));bh [(J 2),.aa true,.az (bs 5 (.b4 (eI aE)) 2),.az (bs 9 .fQ 1),(J 3),.aL [0] [.cL (ah 1 eI (ad.set (0+ag.toNat) q1))] [(0,ii),(1,ii),(6,fW ((ad.set (0+ag.toNat) q1).length)),(7,ii),(8,ii)]] (.bl h1 o.1 (cN eI o.2) (bU eI av) aA aA a2.1 a2.2 (.dn (hE eI bd) (hs 1) (c6 1 .live (gD (cW eI ad) (0+ag.toNat) q1)) (aK 1 .live aP (ad.set (0+ag.toNat) q1)) (hR (dL ad) (0+ag.toNat) q1)))))
  (fun h1 =>
  .ret (bh [(J 2),.aa false,.aL [0] [.pure] (a8 [6,7])] (.aC h1 (aK 1 .live aP ad))))
theorem Vl {af:List Int}{ax fM ag:Int}{ad:List Int}{r} (h:Io af ax fM ag ad=some r):dN bb 39 0 133 [1,1,1,0,1,0,0] (Gm af ax) (GF af ax) (fM,ag,ad) r:=dO (fun _=>TZ) h
def w4 (af:List Int)(ax:Int):Option ((List Int)×Int) :=
 if 0≤(len_ eI af)∧(8:Int)*(len_ eI af)≤281474976710656∧(len_ eI af)<9223372036854775808 then
 Io af ax 0 (U ((len_ eI af)-(1:Int))) (List.replicate (len_ eI af).toNat 0:List Int) >>= fun b5 =>
 pR b5.2 >>= fun bi =>
 some (bi,b5.1)
 else none
theorem Np {af:List Int}{ax:Int}:bA (w4 af ax) (fun r=>Con bb 133 [.isl 1 (af.map eI),.n .i64 ax] [] (.dZ [.isl 1 (r.1.map eI),.n .i64 r.2]) []):=by
 unfold w4
 exact .aZ fun h1 =>
  .au fun b5 ae =>
  .au fun bi aA =>
  .ret (let q1:=(List.replicate (len_ eI af).toNat 0:List Int);bu [(J 2),(J 4),(J 1),(J 4),.aL [4] [.cL (ah 1 eI q1)] [(0,ii),(1,ii),(6,fW (q1.length)),(7,ii),(8,ii)],(GF af ax b5).fb,.iT 0,.az (bs 1 (.call {ac:=[.bw (.dK (.e5 (b5.2.map eI)))],r:= .isl 1 (bi.map eI),fE:=false,fN:=[0]}) 3)] (.bl h1.1 (Int.le_refl (len_ eI af)) h1.2.1 h1.2.2 (c6 1 .live (lu eI (len_ eI af).toNat 0)) (aK 1 .live aP q1) (lH (len_ eI af).toNat (0:Int)) (Vl ae) (.c9 (gN eI b5.2) (fT eI b5.2) (dS aP b5.2) (ud bi aA))))
def HB (ad:List Int):Nat→S:=fun lI=>dl [(0,.bm 0 0 0 lI)] [(ah 1 eI ad)]
def H8 (ad:List Int):Nat→dm
 | a=>⟨some 0,[(0,.bm 0 0 0 a)],[(ah 1 eI ad)]⟩
def wL (ad:List Int)(lI:Nat):Option ((Nat)⊕(Nat)) :=
 if (decide ((0:Int)<((lI:Nat):Int)))=true then
  if 0≤(U (((lI:Nat):Int)-(1:Int)))∧(U (((lI:Nat):Int)-(1:Int)))<(lI:Nat) then
  ad[(0+(U (((lI:Nat):Int)-(1:Int))).toNat)]? >>= fun aE =>
  if (aE == (0:Int))=true then
   if 0≤(U (((lI:Nat):Int)-(1:Int))) then
   if 0≤(U (((lI:Nat):Int)-(1:Int))).toNat∧(U (((lI:Nat):Int)-(1:Int))).toNat≤lI then
   some (.inl ((U (((lI:Nat):Int)-(1:Int))).toNat-0))
   else none
   else none
  else
   some (.inr lI)
  else none
 else
  some (.inr lI)
def I9 (ad:List Int)(lI:Nat):Option (Nat):=iter (fun w:Nat=>wL ad w) lI
theorem UU {ad:List Int}{lI:Nat}:bA (wL ad lI) (dM bb 21 1 129 [1,0,0,0] (HB ad lI) (HB ad) (H8 ad)):=by
 unfold wL
 exact .ite (fun h1 =>
  .aZ fun o =>
  .au fun aE av =>
  (let t1:List bX:=[.az (aj 9 (an (.b4 (eI aE)) (aj 1 (an (.aa true) []))))];
  have aQ:=((.bl h1 h1 h1 h1 h1 o.1 o.2 h1 (.bR (bU eI av) h1 h1)):cq _);
  .ite (fun aA =>
  .aZ fun a2 =>
  .aZ fun bd =>
  .ret (bh (t1.append [.aa true,(J 6),.aL [0] [.pure] (a8 [0])]) (aQ.aJ (.dn aA a2 bd.1 bd.2 (aK 1 .live aP ad)))))
  (fun aA =>
  .ret (bh (t1.append [.aa false,.aL [0] [.pure] (a8 [0])]) (aQ.aJ (.aC aA (aK 1 .live aP ad)))))))
  (fun h1 =>
  .ret (bh [.az (aj 4 (cr 7 (an (.aa false) []))),.aa false,.aL [0] [.pure] (a8 [0])] (.bl h1 h1 h1 h1 h1 h1 h1 h1 (.aC c1 (aK 1 .live aP ad)))))
theorem We {ad:List Int}{lI:Nat}{r} (h:I9 ad lI=some r):dN bb 21 1 129 [1,0,0,0] (HB ad) (H8 ad) lI r:=dO (fun _=>UU) h
def zX (fD:List Int):Option Nat :=
 I9 fD fD.length >>= fun r1 =>
 some r1
theorem Xh {fD:List Int}:bA (zX fD) (fun a=>Con bb 129 [.bm 0 0 0 fD.length] [(ah 1 eI fD)] (.bm 0 0 0 a) [(ah 1 eI fD)]):=by
 unfold zX
 exact .au fun r1 o =>
  .ret (lC [(J 1),.aL [0] [.pure] (a8 [0]),(H8 fD r1).fb,(J 2)] [0] [.pure] (.bR (aK 1 .live aP fD) (We o) (aK 1 .live aP fD)))
def G5 (ax:List Int)(ag a3:Int)(dd:List Int)(de hb:Int):(Int×Int×(List Int))→S:=fun (c3,df,ad)=>dl [(1,.isl 1 (ax.map eI)),(5,.bm 0 0 0 ad.length),(6,.n .i64 ag),(7,.n .i64 a3),(8,.n .i64 c3),(26,.isl 1 (dd.map eI)),(27,.n .i64 de),(28,.n .i64 ag),(33,.isl 1 (ax.map eI)),(34,.n .i64 hb),(35,.n .i64 df)] [(ah 1 eI ad)]
def HC (ax:List Int)(ag a3:Int)(dd:List Int)(de hb:Int):(Int×(List Int))→dm
 | a=>⟨some 2,[(1,.isl 1 (ax.map eI)),(5,.bm 0 0 0 a.2.length),(6,.n .i64 ag),(8,.n .i64 a.1),(26,.isl 1 (dd.map eI)),(27,.n .i64 de),(28,.n .i64 ag)],[(ah 1 eI a.2)]⟩
def G6 (ax:List Int)(ag a3:Int)(dd:List Int)(de hb c3 df:Int)(ad:List Int):Option ((Int×Int×(List Int))⊕(Int×(List Int))) :=
 if (decide (df<hb))=true then
  if 0≤df∧df<ax.length then
  ax[df.toNat]? >>= fun aE =>
  if 0≤(U (ag+df))∧(U (ag+df))<(ad.length:Nat) then
  ad[(0+(U (ag+df)).toNat)]? >>= fun ct =>
  if (0+(U (ag+df)).toNat)<ad.length then
  some (.inl (U ((U ((U (ct+(U (a3*aE))))+c3)).tdiv (1000000000:Int)),U (df+(1:Int)),ad.set (0+(U (ag+df)).toNat) ((U ((U (ct+(U (a3*aE))))+c3)).tmod (1000000000:Int))))
  else none
  else none
  else none
 else
  some (.inr (c3,ad))
def NB (ax:List Int)(ag a3:Int)(dd:List Int)(de hb c3 df:Int)(ad:List Int):Option (Int×(List Int)):=iter (fun w:Int×Int×(List Int)=>G6 ax ag a3 dd de hb w.1 w.2.1 w.2.2) (c3,df,ad)
theorem Uu {ax:List Int}{ag a3:Int}{dd:List Int}{de hb c3 df:Int}{ad:List Int}:bA (G6 ax ag a3 dd de hb c3 df ad) (dM bb 72 0 123 [1,1,1,0,1,0,0,1,1,0,0,1,1,0,1,0,0] (G5 ax ag a3 dd de hb (c3,df,ad)) (G5 ax ag a3 dd de hb) (HC ax ag a3 dd de hb)):=by
 unfold G6
 exact .ite (fun h1 =>
  .aZ fun o =>
  .au fun aE av =>
  .aZ fun aA =>
  .au fun ct bd =>
  .aZ fun bn =>
  .ret (let q1:=U ((U (ct+(U (a3*aE))))+c3);let aY:=U (ag+df);bh [(J 1),.aa true,.az (bs 2 (.b4 (eI aE)) 2),.az (bs 5 (.b4 (eI ct)) 7),.az (bs 9 .fQ 1),(J 2),.aL [0] [.cL (ah 1 eI (ad.set (0+aY.toNat) (q1.tmod (1000000000:Int))))] [(1,ii),(5,fW ((ad.set (0+aY.toNat) (q1.tmod (1000000000:Int))).length)),(6,ii),(7,ii),(8,ii),(26,ii),(27,ii),(28,ii),(33,ii),(34,ii),(35,ii)]] (.bl h1 o.1 (cN eI o.2) (bU eI av) aA.1 aA.2 (bU eI bd) (by decide:(1000000000:Int)≠0) (.gS (by decide:(1000000000:Int)≠0) aA.1 aA.2 (hE eI bn) (hs 1) (c6 1 .live (gD (cW eI ad) (0+aY.toNat) (q1.tmod (1000000000:Int)))) (aK 1 .live aP (ad.set (0+aY.toNat) (q1.tmod (1000000000:Int)))) (hR (dL ad) (0+aY.toNat) (q1.tmod (1000000000:Int)))))))
  (fun h1 =>
  .ret (bh [(J 1),.aa false,.aL [0] [.pure] (a8 [1,5,6,8,26,27,28])] (.aC h1 (aK 1 .live aP ad))))
theorem VY {ax:List Int}{ag a3:Int}{dd:List Int}{de hb c3 df:Int}{ad:List Int}{r} (h:NB ax ag a3 dd de hb c3 df ad=some r):dN bb 72 0 123 [1,1,1,0,1,0,0,1,1,0,0,1,1,0,1,0,0] (G5 ax ag a3 dd de hb) (HC ax ag a3 dd de hb) (c3,df,ad) r:=dO (fun _=>Uu) h
def G7 (ax dd:List Int)(de:Int):(Int×(List Int))→S:=fun (fx,ad)=>dl [(1,.isl 1 (ax.map eI)),(5,.bm 0 0 0 ad.length),(26,.isl 1 (dd.map eI)),(27,.n .i64 de),(28,.n .i64 fx)] [(ah 1 eI ad)]
def HD (ax dd:List Int)(de:Int):(List Int)→dm
 | a=>⟨some 0,[(5,.bm 0 0 0 a.length)],[(ah 1 eI a)]⟩
def G8 (ax dd:List Int)(de fx:Int)(ad:List Int):Option ((Int×(List Int))⊕((List Int))) :=
 if (decide (fx<de))=true then
  if 0≤fx∧fx<dd.length then
  dd[fx.toNat]? >>= fun aE =>
  NB ax fx aE dd de (len_ eI ax) 0 0 ad >>= fun aT =>
  if 0≤(U (fx+(len_ eI ax)))∧(U (fx+(len_ eI ax)))<(aT.2.length:Nat) then
  if (0+(U (fx+(len_ eI ax))).toNat)<aT.2.length then
  some (.inl (U (fx+(1:Int)),aT.2.set (0+(U (fx+(len_ eI ax))).toNat) aT.1))
  else none
  else none
  else none
 else
  some (.inr ad)
def IW (ax dd:List Int)(de fx:Int)(ad:List Int):Option ((List Int)):=iter (fun w:Int×(List Int)=>G8 ax dd de w.1 w.2) (fx,ad)
theorem Uv {ax dd:List Int}{de fx:Int}{ad:List Int}:bA (G8 ax dd de fx ad) (dM bb 72 0 123 [1,1,1,0,1,0,0] (G7 ax dd de (fx,ad)) (G7 ax dd de) (HD ax dd de)):=by
 unfold G8
 exact .ite (fun h1 =>
  .aZ fun o =>
  .au fun aE av =>
  .au fun aT a2 =>
  .aZ fun bd =>
  .aZ fun bn =>
  .ret (let q1:=U (fx+(len_ eI ax));bh [(J 1),.aa true,.az (bs 2 (.b4 (eI aE)) 2),(J 1),(J 3),.aL [0] [.pure] (a8 [1,5,6,7,8,26,27,28,33,34,35]),(HC ax fx aE dd de (len_ eI ax) aT).fb,.az (aj 7 (an .fQ [])),(J 2),.aL [0] [.cL (ah 1 eI (aT.2.set (0+q1.toNat) aT.1))] [(1,ii),(5,fW ((aT.2.set (0+q1.toNat) aT.1).length)),(26,ii),(27,ii),(28,ii)]] (.bl h1 o.1 (cN eI o.2) (bU eI av) (aK 1 .live aP ad) (VY a2) bd.1 bd.2 (.dn (hE eI bn) (hs 1) (c6 1 .live (gD (cW eI aT.2) (0+q1.toNat) aT.1)) (aK 1 .live aP (aT.2.set (0+q1.toNat) aT.1)) (hR (dL aT.2) (0+q1.toNat) aT.1)))))
  (fun h1 =>
  .ret (bh [(J 1),.aa false,.aL [0] [.pure] (a8 [5])] (.aC h1 (aK 1 .live aP ad))))
theorem VZ {ax dd:List Int}{de fx:Int}{ad:List Int}{r} (h:IW ax dd de fx ad=some r):dN bb 72 0 123 [1,1,1,0,1,0,0] (G7 ax dd de) (HD ax dd de) (fx,ad) r:=dO (fun _=>Uv) h
def xd (af ax:List Int):Option (Nat×(List Int)) :=
 if ((len_ eI af) == (0:Int))=true then
  none
 else
  if ((len_ eI ax) == (0:Int))=true then
   none
  else
   if 0≤(U ((len_ eI af)+(len_ eI ax)))∧(8:Int)*(U ((len_ eI af)+(len_ eI ax)))≤281474976710656∧(U ((len_ eI af)+(len_ eI ax)))<9223372036854775808 then
   IW ax af (len_ eI af) 0 (List.replicate (U ((len_ eI af)+(len_ eI ax))).toNat 0:List Int) >>= fun bi =>
   zX bi >>= fun cf =>
   some (cf,bi)
   else none
theorem NC {af ax:List Int}:bA (xd af ax) (fun a=>Con bb 123 [.isl 1 (af.map eI),.isl 1 (ax.map eI)] [] (.bm 0 0 0 a.1) [(ah 1 eI a.2)]):=by
 unfold xd
 exact .ite (fun h1 =>
  .RQ)
  (fun h1 =>
  .ite (fun o =>
  .RQ)
  (fun o =>
  .aZ fun ae =>
  .au fun bi aA =>
  .au fun cf bd =>
  .ret (let q1:=U ((len_ eI af)+(len_ eI ax));let aY:=(List.replicate q1.toNat 0:List Int);lC [(J 1),.az (aj 7 (an (.aa false) [])),.aa false,(J 7),(J 3),.aL [14] [.cL (ah 1 eI aY)] [(1,ii),(5,fW (aY.length)),(26,ii),(27,ii),(28,ii)],(HD ax af (len_ eI af) bi).fb,.az (bs 1 (.call {a0:=[.row 0],dp:=[.pure],ac:=[ii],r:= .bm 0 0 0 cf,fw:=[(ah 1 eI bi)],h6:=ii,ke:=[.pure],fN:=[0],fE:=false}) 1)] [0] [.pure] (.bl h1 h1 h1 h1 o ae.1 (Int.le_refl q1) ae.2.1 (.bl ae.2.2 (c6 1 .live (lu eI q1.toNat 0)) (aK 1 .live aP aY) (lH q1.toNat (0:Int)) (VZ aA) (iQ 1 aP bi) (iQ 1 aP bi) (Xh cf bd) (.e1 (aK 1 .live aP bi)))))))
def HE (fi ep:Nat)(el:List Int)(ko cZ:Int):(Int×Int×(List Int))→S:=fun (c3,b1,ad)=>dl [(0,.bm 0 0 fi ep),(1,.isl 1 (el.map eI)),(2,.n .i64 ko),(7,.n .i64 c3),(11,.isl 1 (el.map eI)),(12,.n .i64 cZ),(13,.n .i64 b1)] [(ah 1 eI ad)]
def H9 (fi ep:Nat)(el:List Int)(ko cZ:Int):(Int×(List Int))→dm
 | a=>⟨some 0,[(0,.bm 0 0 fi ep),(1,.isl 1 (el.map eI)),(7,.n .i64 a.1)],[(ah 1 eI a.2)]⟩
def tS (fi ep:Nat)(el:List Int)(ko cZ c3 b1:Int)(ad:List Int):Option ((Int×Int×(List Int))⊕(Int×(List Int))) :=
 if (decide (b1<cZ))=true then
  if 0≤b1∧b1<el.length then
  el[b1.toNat]? >>= fun aE =>
  if 0≤b1∧b1<(ep:Nat) then
  ad[(fi+b1.toNat)]? >>= fun ct =>
  if (decide ((U ((U (ct-(U (ko*aE))))-c3))<(0:Int)))=true then
   if (fi+b1.toNat)<ad.length then
   some (.inl (U ((U ((999999999:Int)-(U ((U (ct-(U (ko*aE))))-c3)))).tdiv (1000000000:Int)),U (b1+(1:Int)),ad.set (fi+b1.toNat) (U ((U ((U (ct-(U (ko*aE))))-c3))+(U ((U ((U ((999999999:Int)-(U ((U (ct-(U (ko*aE))))-c3)))).tdiv (1000000000:Int)))*(1000000000:Int)))))))
   else none
  else
   if (fi+b1.toNat)<ad.length then
   some (.inl (0,U (b1+(1:Int)),ad.set (fi+b1.toNat) (U ((U (ct-(U (ko*aE))))-c3))))
   else none
  else none
  else none
 else
  some (.inr (c3,ad))
def Ja (fi ep:Nat)(el:List Int)(ko cZ c3 b1:Int)(ad:List Int):Option (Int×(List Int)):=iter (fun w:Int×Int×(List Int)=>tS fi ep el ko cZ w.1 w.2.1 w.2.2) (c3,b1,ad)
theorem UW {fi ep:Nat}{el:List Int}{ko cZ c3 b1:Int}{ad:List Int}:bA (tS fi ep el ko cZ c3 b1 ad) (dM bb 56 1 134 [1,1,0,1,0,0] (HE fi ep el ko cZ (c3,b1,ad)) (HE fi ep el ko cZ) (H9 fi ep el ko cZ)):=by
 unfold tS
 exact .ite (fun h1 =>
  .aZ fun o =>
  .au fun aE av =>
  .aZ fun aA =>
  .au fun ct bd =>
  (let t1:List bX:=[(J 1),.aa true,.az (bs 2 (.b4 (eI aE)) 2),.az (bs 3 (.b4 (eI ct)) 7),(J 1),(J 2)];
  have aQ:=((.eJ h1 o.1 (cN eI o.2) (bU eI av) aA.1 aA.2 (bU eI bd)):cq _);
  .ite (fun bn =>
  .aZ fun cp =>
  .ret (let q1:=(U ((U ((U (ct-(U (ko*aE))))-c3))+(U ((U ((U ((999999999:Int)-(U ((U (ct-(U (ko*aE))))-c3)))).tdiv (1000000000:Int)))*(1000000000:Int)))));bh (t1.append [.aa true,(J 4),(J 5),.az (aj 4 (an .fQ [])),(J 2),.aL [0] [.cL (ah 1 eI (ad.set (fi+b1.toNat) q1))] (a8 [0,1,2,7,11,12,13])]) (aQ.aJ (.gS bn (by decide:(1000000000:Int)≠0) aA.1 aA.2 (hE eI cp) (hs 1) (c6 1 .live (gD (cW eI ad) (fi+b1.toNat) q1)) (aK 1 .live aP (ad.set (fi+b1.toNat) q1))))))
  (fun bn =>
  .aZ fun cp =>
  .ret (let aY:=U ((U (ct-(U (ko*aE))))-c3);bh (t1.append [.aa false,.az (aj 4 (an .fQ [])),(J 2),.aL [0] [.cL (ah 1 eI (ad.set (fi+b1.toNat) aY))] (a8 [0,1,2,7,11,12,13])]) (aQ.aJ (.eJ bn aA.1 aA.2 (hE eI cp) (hs 1) (c6 1 .live (gD (cW eI ad) (fi+b1.toNat) aY)) (aK 1 .live aP (ad.set (fi+b1.toNat) aY))))))))
  (fun h1 =>
  .ret (bh [(J 1),.aa false,.aL [0] [.pure] (a8 [0,1,7])] (.aC h1 (aK 1 .live aP ad))))
theorem Wf {fi ep:Nat}{el:List Int}{ko cZ c3 b1:Int}{ad:List Int}{r} (h:Ja fi ep el ko cZ c3 b1 ad=some r):dN bb 56 1 134 [1,1,0,1,0,0] (HE fi ep el ko cZ) (H9 fi ep el ko cZ) (c3,b1,ad) r:=dO (fun _=>UW) h
def zY (el:List Int)(ko:Int)(fi ep:Nat)(fD:List Int):Option (Bool×(List Int)) :=
 Ja fi ep el ko (len_ eI el) 0 0 fD >>= fun r1 =>
 if 0≤(len_ eI el)∧(len_ eI el)<(ep:Nat) then
 r1.2[(fi+(len_ eI el).toNat)]? >>= fun gh =>
 if (fi+(len_ eI el).toNat)<r1.2.length then
 (r1.2.set (fi+(len_ eI el).toNat) (U (gh-r1.1)))[(fi+(len_ eI el).toNat)]? >>= fun fl =>
 some ((decide (fl<(0:Int))),r1.2.set (fi+(len_ eI el).toNat) (U (gh-r1.1)))
 else none
 else none
theorem Xi {el:List Int}{ko:Int}{fi ep:Nat}{fD:List Int}:bA (zY el ko fi ep fD) (fun a=>Con bb 134 (adq 0 0 fi ep el ko) [(ah 1 eI fD)] (.b a.1) [(ah 1 eI a.2)]):=by
 unfold zY
 exact .au fun r1 o =>
  .aZ fun ae =>
  .au fun gh aA =>
  .aZ fun a2 =>
  .au fun fl bn =>
  .ret (let q1:=U (gh-r1.1);let aY:=len_ eI el;lC [(J 1),(J 1),(J 3),.aL [0] [.pure] (a8 [0,1,2,7,11,12,13]),(H9 fi ep el ko aY r1).fb,.az (aj 4 (an (.b4 (eI gh)) (aj 3 (an .fQ [])))),.az (bs 4 (.b4 (eI fl)) 2)] [0] [.cL (ah 1 eI (r1.2.set (fi+aY.toNat) q1))] (.bl (aK 1 .live aP fD) (Wf o) ae.1 ae.2 (bU eI aA) ae.1 ae.2 (hE eI a2) (.d5 (hs 1) ae.1 ae.2 (aaK (gD (cW eI r1.2) (fi+aY.toNat) q1) bn) (c6 1 .live (gD (cW eI r1.2) (fi+aY.toNat) q1)) (aK 1 .live aP (r1.2.set (fi+aY.toNat) q1)))))
def HF (fi ep:Nat)(el:List Int)(d9:Int):(Int×Int×(List Int))→S:=fun (c3,c2,ad)=>dl [(0,.bm 0 0 fi ep),(1,.isl 1 (el.map eI)),(4,.n .i64 c3),(8,.isl 1 (el.map eI)),(9,.n .i64 d9),(10,.n .i64 c2)] [(ah 1 eI ad)]
def Ia (fi ep:Nat)(el:List Int)(d9:Int):(Int×(List Int))→dm
 | a=>⟨some 0,[(0,.bm 0 0 fi ep),(1,.isl 1 (el.map eI)),(4,.n .i64 a.1)],[(ah 1 eI a.2)]⟩
def wM (fi ep:Nat)(el:List Int)(d9 c3 c2:Int)(ad:List Int):Option ((Int×Int×(List Int))⊕(Int×(List Int))) :=
 if (decide (c2<d9))=true then
  if 0≤c2∧c2<el.length then
  el[c2.toNat]? >>= fun aE =>
  if 0≤c2∧c2<(ep:Nat) then
  ad[(fi+c2.toNat)]? >>= fun ct =>
  if (fi+c2.toNat)<ad.length then
  some (.inl (U ((U ((U (ct+aE))+c3)).tdiv (1000000000:Int)),U (c2+(1:Int)),ad.set (fi+c2.toNat) ((U ((U (ct+aE))+c3)).tmod (1000000000:Int))))
  else none
  else none
  else none
 else
  some (.inr (c3,ad))
def Jb (fi ep:Nat)(el:List Int)(d9 c3 c2:Int)(ad:List Int):Option (Int×(List Int)):=iter (fun w:Int×Int×(List Int)=>wM fi ep el d9 w.1 w.2.1 w.2.2) (c3,c2,ad)
theorem UX {fi ep:Nat}{el:List Int}{d9 c3 c2:Int}{ad:List Int}:bA (wM fi ep el d9 c3 c2 ad) (dM bb 39 1 135 [1,0,1,0,0] (HF fi ep el d9 (c3,c2,ad)) (HF fi ep el d9) (Ia fi ep el d9)):=by
 unfold wM
 exact .ite (fun h1 =>
  .aZ fun o =>
  .au fun aE av =>
  .aZ fun aA =>
  .au fun ct bd =>
  .aZ fun bn =>
  .ret (let q1:=U ((U (ct+aE))+c3);bh [(J 1),.aa true,.az (bs 2 (.b4 (eI aE)) 2),.az (bs 3 (.b4 (eI ct)) 5),.az (bs 7 .fQ 1),(J 2),.aL [0] [.cL (ah 1 eI (ad.set (fi+c2.toNat) (q1.tmod (1000000000:Int))))] (a8 [0,1,4,8,9,10])] (.bl h1 o.1 (cN eI o.2) (bU eI av) aA.1 aA.2 (bU eI bd) (by decide:(1000000000:Int)≠0) (.eJ (by decide:(1000000000:Int)≠0) aA.1 aA.2 (hE eI bn) (hs 1) (c6 1 .live (gD (cW eI ad) (fi+c2.toNat) (q1.tmod (1000000000:Int)))) (aK 1 .live aP (ad.set (fi+c2.toNat) (q1.tmod (1000000000:Int))))))))
  (fun h1 =>
  .ret (bh [(J 1),.aa false,.aL [0] [.pure] (a8 [0,1,4])] (.aC h1 (aK 1 .live aP ad))))
theorem Wg {fi ep:Nat}{el:List Int}{d9 c3 c2:Int}{ad:List Int}{r} (h:Jb fi ep el d9 c3 c2 ad=some r):dN bb 39 1 135 [1,0,1,0,0] (HF fi ep el d9) (Ia fi ep el d9) (c3,c2,ad) r:=dO (fun _=>UX) h
def xi (el:List Int)(fi ep:Nat)(fD:List Int):Option (List Int) :=
 Jb fi ep el (len_ eI el) 0 0 fD >>= fun r1 =>
 if 0≤(len_ eI el)∧(len_ eI el)<(ep:Nat) then
 r1.2[(fi+(len_ eI el).toNat)]? >>= fun gh =>
 if (fi+(len_ eI el).toNat)<r1.2.length then
 some (r1.2.set (fi+(len_ eI el).toNat) (U (gh+r1.1)))
 else none
 else none
theorem Xj {el:List Int}{fi ep:Nat}{fD:List Int}:bA (xi el fi ep fD) (fun a=>Con bb 135 [.bm 0 0 fi ep,.isl 1 (el.map eI)] [(ah 1 eI fD)] (.dZ []) [(ah 1 eI a)]):=by
 unfold xi
 exact .au fun r1 o =>
  .aZ fun ae =>
  .au fun gh aA =>
  .aZ fun a2 =>
  .ret (let q1:=U (gh+r1.1);let aY:=len_ eI el;lC [(J 1),(J 3),.aL [0] [.pure] (a8 [0,1,4,8,9,10]),(Ia fi ep el aY r1).fb,.az (aj 4 (an (.b4 (eI gh)) (aj 3 (an .fQ []))))] [0] [.cL (ah 1 eI (r1.2.set (fi+aY.toNat) q1))] (.bl (aK 1 .live aP fD) (Wg o) ae.1 ae.2 (bU eI aA) ae.1 ae.2 (hE eI a2) (.bR (hs 1) (c6 1 .live (gD (cW eI r1.2) (fi+aY.toNat) q1)) (aK 1 .live aP (r1.2.set (fi+aY.toNat) q1)))))
def Ip (af:List Int)(fV:Nat)(ad aG:List Int):(List Int)→S:=fun ap=>dl [(0,.isl 1 (af.map eI)),(8,.bm 0 0 0 ad.length),(9,.bm 1 0 0 ap.length),(10,.bm 2 0 0 fV)] [(ah 1 eI ad),(ah 1 eI ap),(ah 1 eI aG)]
def IC (af:List Int)(fV:Nat)(ad aG:List Int):(List Int)→dm
 | a=>⟨some 0,[(8,.bm 0 0 0 ad.length),(9,.bm 1 0 0 a.length),(10,.bm 2 0 0 fV)],[(ah 1 eI ad),(ah 1 eI a),(ah 1 eI aG)]⟩
def CI (af:List Int)(fV:Nat)(ad aG ap:List Int):Option (((List Int))⊕((List Int))) :=
 if (decide (((ap.length:Nat):Int)≤(len_ eI af)))=true then
  if (ap++([0]:List Int)).length*8≤140737488355328 then
  some (.inl (ap++([0]:List Int)))
  else none
 else
  some (.inr ap)
def C8 (af:List Int)(fV:Nat)(ad aG ap:List Int):Option ((List Int)):=iter (fun w:(List Int)=>CI af fV ad aG w) ap
theorem Vm {af:List Int}{fV:Nat}{ad aG ap:List Int}:bA (CI af fV ad aG ap) (dM bb 172 0 126 [1,1,1,1,1,0,0,0] (Ip af fV ad aG ap) (Ip af fV ad aG) (IC af fV ad aG)):=by
 unfold CI
 exact .ite (fun h1 =>
  .aZ fun o =>
  .ret (let q1:=(ap++([0]:List Int));bh [(J 5),.aa true,.az (bs 2 (.aJ (q1.length)) 1),.aL [0,10,2] [.pure,.cL (ah 1 eI q1),.pure] (a8 [0,8,9,10])] (.bl h1 (gZ eI 0) (hk eI ap) (gO eI ap 0) o (aK 1 .live aP ad) (c6 1 .live (ht eI ap 0)) (aK 1 .live aP q1) (.e1 (aK 1 .live aP aG)))))
  (fun h1 =>
  .ret (bh [(J 5),.aa false,.aL [0,1,2] [.pure,.pure,.pure] (a8 [8,9,10])] (.c9 h1 (aK 1 .live aP ad) (aK 1 .live aP ap) (aK 1 .live aP aG))))
theorem WZ {af:List Int}{fV:Nat}{ad aG ap:List Int}{r} (h:C8 af fV ad aG ap=some r):dN bb 172 0 126 [1,1,1,1,1,0,0,0] (Ip af fV ad aG) (IC af fV ad aG) ap r:=dO (fun _=>Vm) h
def Iq (ep fV:Nat)(a3 bP:Int)(ad ap aG al:List Int):(Int×Int)→S:=fun (np,fM)=>dl [(8,.bm 0 0 0 ad.length),(9,.bm 1 0 0 ep),(10,.bm 2 0 0 fV),(11,.n .i64 a3),(12,.bm 3 0 0 al.length),(13,.n .i64 bP),(15,.n .i64 np),(16,.n .i64 fM)] [(ah 1 eI ad),(ah 1 eI ap),[ab.mk 1 (aG.map eI) .iT],(ah 1 eI al)]
def ID (ep fV:Nat)(a3 bP:Int)(ad ap aG al:List Int):Int→dm
 | a=>⟨some 4,[(8,.bm 0 0 0 ad.length),(9,.bm 1 0 0 ep),(10,.bm 2 0 0 fV),(11,.n .i64 a3),(12,.bm 3 0 0 al.length),(13,.n .i64 bP),(15,.n .i64 a)],[(ah 1 eI ad),(ah 1 eI ap),[ab.mk 1 (aG.map eI) .iT],(ah 1 eI al)]⟩
def tU (ep fV:Nat)(a3 bP:Int)(ad ap aG al:List Int)(np fM:Int):Option ((Int×Int)⊕(Int)) :=
 if (decide ((1000000000:Int)≤np))=true then
  if 0≤(U (a3-(1:Int)))∧(U (a3-(1:Int)))<(fV:Nat) then
  aG[(0+(U (a3-(1:Int))).toNat)]? >>= fun aE =>
  if (decide ((1000000000:Int)≤(U (fM+aE))))=true then
   some (.inr (U (np-(1:Int))))
  else
   some (.inl (U (np-(1:Int)),U (fM+aE)))
  else none
 else
  if 0≤(U (a3-(2:Int)))∧(U (a3-(2:Int)))<(fV:Nat) then
  aG[(0+(U (a3-(2:Int))).toNat)]? >>= fun aE =>
  if 0≤(U ((U (bP+a3))-(2:Int)))∧(U ((U (bP+a3))-(2:Int)))<(ep:Nat) then
  ap[(0+(U ((U (bP+a3))-(2:Int))).toNat)]? >>= fun ct =>
  if (decide ((U ((U (fM*(1000000000:Int)))+ct))<(U (np*aE))))=true then
   if 0≤(U (a3-(1:Int)))∧(U (a3-(1:Int)))<(fV:Nat) then
   aG[(0+(U (a3-(1:Int))).toNat)]? >>= fun iU =>
   if (decide ((1000000000:Int)≤(U (fM+iU))))=true then
    some (.inr (U (np-(1:Int))))
   else
    some (.inl (U (np-(1:Int)),U (fM+iU)))
   else none
  else
   some (.inr np)
  else none
  else none
def Jo (ep fV:Nat)(a3 bP:Int)(ad ap aG al:List Int)(np fM:Int):Option (Int):=iter (fun w:Int×Int=>tU ep fV a3 bP ad ap aG al w.1 w.2) (np,fM)
theorem Vn {ep fV:Nat}{a3 bP:Int}{ad ap aG al:List Int}{np fM:Int}:bA (tU ep fV a3 bP ad ap aG al np fM) (dM bb 172 0 126 [1,1,1,1,1,1,1,1,0,1,0,0,1,0,0,1,1,0,0,0] (Iq ep fV a3 bP ad ap aG al (np,fM)) (Iq ep fV a3 bP ad ap aG al) (ID ep fV a3 bP ad ap aG al)):=by
 unfold tU
 exact .ite (fun h1 =>
  .aZ fun o =>
  .au fun aE av =>
  (let t1:List bX:=[.az (aj 3 (cr 18 (an (.aa true) []))),.aa true,(J 3),.az (bs 5 (.b4 (eI aE)) 2),(J 2)];
  have aQ:=((.bl h1 h1 h1 h1 h1 h1 h1 h1 (.bl h1 h1 h1 h1 h1 h1 h1 h1 (.eJ h1 h1 h1 cE o.1 o.2 (bU eI av)))):cq _);
  .ite (fun aA =>
  .ret (bh (t1.append [.aa true,.aL [0,1,2,3] [.pure,.pure,.pure,.pure] (a8 [8,9,10,11,12,13,15])]) (aQ.aJ (.dn aA (aK 1 .live aP ad) (aK 1 .live aP ap) (aK 1 .iT aP aG) (aK 1 .live aP al)))))
  (fun aA =>
  .ret (bh (t1.append [.aa false,.aL [0,1,2,3] [.pure,.pure,.pure,.pure] (a8 [8,9,10,11,12,13,15,16])]) (aQ.aJ (.dn aA (aK 1 .live aP ad) (aK 1 .live aP ap) (aK 1 .iT aP aG) (aK 1 .live aP al)))))))
  (fun h1 =>
  .aZ fun o =>
  .au fun aE av =>
  .aZ fun aA =>
  .au fun ct bd =>
  (let t1:List bX:=[.az (aj 8 (an (.b4 (eI aE)) (aj 9 (an (.b4 (eI ct)) (aj 2 (an (.aa false) []))))))];
  have aQ:=((.bl h1 h1 h1 h1 h1 o.1 o.2 h1 (.bl (bU eI av) h1 h1 h1 h1 h1 h1 h1 (.bl h1 h1 aA.1 aA.2 h1 (bU eI bd) h1 h1 (.e1 h1)))):cq _);
  .ite (fun bn =>
  .aZ fun cp =>
  .au fun iU eV =>
  (let t3:List bX:=t1.append [.aa true,(J 3),.az (bs 5 (.b4 (eI iU)) 2),(J 2)];
  .ite (fun e4 =>
  .ret (bh (t3.append [.aa true,.aL [0,1,2,3] [.pure,.pure,.pure,.pure] (a8 [8,9,10,11,12,13,15])]) (aQ.aJ (.bl bn cp.1 cp.2 (bU eI eV) e4 (aK 1 .live aP ad) (aK 1 .live aP ap) (aK 1 .iT aP aG) (.e1 (aK 1 .live aP al))))))
  (fun e4 =>
  .ret (bh (t3.append [.aa false,.aL [0,1,2,3] [.pure,.pure,.pure,.pure] (a8 [8,9,10,11,12,13,15,16])]) (aQ.aJ (.bl bn cp.1 cp.2 (bU eI eV) e4 (aK 1 .live aP ad) (aK 1 .live aP ap) (aK 1 .iT aP aG) (.e1 (aK 1 .live aP al))))))))
  (fun bn =>
  .ret (bh (t1.append [.aa false,.aL [0,1,2,3] [.pure,.pure,.pure,.pure] (a8 [8,9,10,11,12,13,15])]) (aQ.aJ (.dn bn (aK 1 .live aP ad) (aK 1 .live aP ap) (aK 1 .iT aP aG) (aK 1 .live aP al)))))))
theorem W0 {ep fV:Nat}{a3 bP:Int}{ad ap aG al:List Int}{np fM:Int}{r} (h:Jo ep fV a3 bP ad ap aG al np fM=some r):dN bb 172 0 126 [1,1,1,1,1,1,1,1,0,1,0,0,1,0,0,1,1,0,0,0] (Iq ep fV a3 bP ad ap aG al) (ID ep fV a3 bP ad ap aG al) (np,fM) r:=dO (fun _=>Vn) h
def Ir (ep fV:Nat)(a3:Int)(ad aG:List Int):(Int×(List Int)×(List Int))→S:=fun (bP,ap,al)=>dl [(8,.bm 0 0 0 ad.length),(9,.bm 1 0 0 ep),(10,.bm 2 0 0 fV),(11,.n .i64 a3),(12,.bm 3 0 0 al.length),(13,.n .i64 bP)] [(ah 1 eI ad),(ah 1 eI ap),[ab.mk 1 (aG.map eI) .iT],(ah 1 eI al)]
def IE (ep fV:Nat)(a3:Int)(ad aG:List Int):((List Int)×(List Int))→dm
 | a=>⟨some 2,[(8,.bm 0 0 0 ad.length),(9,.bm 1 0 0 ep),(12,.bm 2 0 0 a.2.length)],[(ah 1 eI ad),(ah 1 eI a.1),(ah 1 eI a.2)]⟩
def tV (ep fV:Nat)(a3:Int)(ad aG:List Int)(bP:Int)(ap al:List Int):Option ((Int×(List Int)×(List Int))⊕((List Int)×(List Int))) :=
 if (decide ((0:Int)≤bP))=true then
  if 0≤(U (bP+a3))∧(U (bP+a3))<(ep:Nat) then
  ap[(0+(U (bP+a3)).toNat)]? >>= fun aE =>
  if 0≤(U ((U (bP+a3))-(1:Int)))∧(U ((U (bP+a3))-(1:Int)))<(ep:Nat) then
  ap[(0+(U ((U (bP+a3))-(1:Int))).toNat)]? >>= fun ct =>
  if 0≤(U (a3-(1:Int)))∧(U (a3-(1:Int)))<(fV:Nat) then
  aG[(0+(U (a3-(1:Int))).toNat)]? >>= fun eo =>
  if eo≠0 then
  Jo ep fV a3 bP ad ap aG al (U ((U ((U (aE*(1000000000:Int)))+ct)).tdiv eo)) ((U ((U (aE*(1000000000:Int)))+ct)).tmod eo) >>= fun dT =>
  if 0≤bP then
  if bP.toNat≤ep then
  if 0+fV≤aG.length then
  zY ((aG.drop 0).take fV) dT (0+bP.toNat) (ep-bP.toNat) ap >>= fun gn =>
  if gn.1=true then
   xi ((aG.drop 0).take fV) (0+bP.toNat) (ep-bP.toNat) gn.2 >>= fun jo =>
   if 0≤bP∧bP<(al.length:Nat) then
   if (0+bP.toNat)<al.length then
   some (.inl (U (bP-(1:Int)),jo,al.set (0+bP.toNat) (U (dT-(1:Int)))))
   else none
   else none
  else
   if 0≤bP∧bP<(al.length:Nat) then
   if (0+bP.toNat)<al.length then
   some (.inl (U (bP-(1:Int)),gn.2,al.set (0+bP.toNat) dT))
   else none
   else none
  else none
  else none
  else none
  else none
  else none
  else none
  else none
 else
  some (.inr (ap,al))
def Jp (ep fV:Nat)(a3:Int)(ad aG:List Int)(bP:Int)(ap al:List Int):Option ((List Int)×(List Int)):=iter (fun w:Int×(List Int)×(List Int)=>tV ep fV a3 ad aG w.1 w.2.1 w.2.2) (bP,ap,al)
theorem Vo {ep fV:Nat}{a3:Int}{ad aG:List Int}{bP:Int}{ap al:List Int}:bA (tV ep fV a3 ad aG bP ap al) (dM bb 172 0 126 [1,1,1,1,1,1,1,1,0,1,0,0] (Ir ep fV a3 ad aG (bP,ap,al)) (Ir ep fV a3 ad aG) (IE ep fV a3 ad aG)):=by
 unfold tV
 exact .ite (fun h1 =>
  .aZ fun o =>
  .au fun aE av =>
  .aZ fun aA =>
  .au fun ct bd =>
  .aZ fun bn =>
  .au fun eo cK =>
  .aZ fun eV =>
  .au fun dT ev =>
  .aZ fun ew =>
  .aZ fun fS =>
  .aZ fun hY =>
  .au fun gn hz =>
  (let t1:List bX:=[(J 2),.aa true,.az (aj 5 (an (.b4 (eI aE)) (bs 7 (.b4 (eI ct)) 2))),.az (aj 5 (an (.b4 (eI eo)) (bs 6 (.b4 (eI eo)) 3))),.aL [0,1,2,3] [.pure,.pure,.pure,.pure] (a8 [8,9,10,11,12,13,15,16]),(ID ep fV a3 bP ad ap aG al dT).fb,.az (aj 5 (an (.call {a0:=[.row 1],dp:=[.pure],ac:=[ii,.bw (.dK (.e5 (((aG.drop 0).take fV).map eI))),ii],r:= .b gn.1,fw:=[(ah 1 eI gn.2)],h6:=ii,ke:=[.pure],fN:=[1,2],fE:=false}) []))];
  have aQ:=((.bl h1 o.1 o.2 (bU eI av) aA.1 aA.2 (bU eI bd) bn.1 (.bl bn.2 (bU eI cK) eV bn.1 bn.2 (bU eI cK) eV (aK 1 .live aP ad) (.bl (aK 1 .live aP ap) (aK 1 .iT aP aG) (aK 1 .live aP al) (W0 ev) ew fS (Nat.le_refl ep) (JY (cW eI aG) 0 fV) (.dn (rk (cW eI aG) hY) (dS aP ((aG.drop 0).take fV)) (iQ 1 aP ap) (iQ 1 aP gn.2) (Xi gn hz))))):cq _);
  .ite (fun gA =>
  .au fun jo gL =>
  .aZ fun iN =>
  .aZ fun mV =>
  .ret (let q1:=(U (dT-(1:Int)));bh (t1.append [.aa true,(J 3),.az (aj 4 (an (.call {a0:=[.row 1],dp:=[.pure],ac:=[ii,.bw (.dK (.e5 (((aG.drop 0).take fV).map eI)))],r:= .dZ [],fw:=[(ah 1 eI jo)],h6:=ii,ke:=[.pure],fN:=[1,2],fE:=false}) [])),.az (aj 4 (an .fQ [])),(J 3),.aL [0,1,2,3] [.pure,.pure,.pure,.cL (ah 1 eI (al.set (0+bP.toNat) q1))] [(8,ii),(9,ii),(10,ii),(11,ii),(12,fW ((al.set (0+bP.toNat) q1).length)),(13,ii)]]) (aQ.aJ (.bl gA ew fS (Nat.le_refl ep) (JY (cW eI aG) 0 fV) (rk (cW eI aG) hY) (dS aP ((aG.drop 0).take fV)) (iQ 1 aP gn.2) (.bl (iQ 1 aP jo) (Xj jo gL) iN.1 iN.2 (hE eI mV) (hs 1) (aK 1 .live aP ad) (aK 1 .live aP jo) (.c9 (aK 1 .iT aP aG) (c6 1 .live (gD (cW eI al) (0+bP.toNat) q1)) (aK 1 .live aP (al.set (0+bP.toNat) q1)) (hR (dL al) (0+bP.toNat) q1)))))))
  (fun gA =>
  .aZ fun fk =>
  .aZ fun gL =>
  .ret (bh (t1.append [.aa false,.az (aj 4 (an .fQ [])),(J 3),.aL [0,1,2,3] [.pure,.pure,.pure,.cL (ah 1 eI (al.set (0+bP.toNat) dT))] [(8,ii),(9,ii),(10,ii),(11,ii),(12,fW ((al.set (0+bP.toNat) dT).length)),(13,ii)]]) (aQ.aJ (.bl gA fk.1 fk.2 (hE eI gL) (hs 1) (aK 1 .live aP ad) (aK 1 .live aP gn.2) (aK 1 .iT aP aG) (.bR (c6 1 .live (gD (cW eI al) (0+bP.toNat) dT)) (aK 1 .live aP (al.set (0+bP.toNat) dT)) (hR (dL al) (0+bP.toNat) dT))))))))
  (fun h1 =>
  .ret (bh [(J 2),.aa false,.aL [0,1,3] [.pure,.pure,.pure] (a8 [8,9,12])] (.c9 h1 (aK 1 .live aP ad) (aK 1 .live aP ap) (aK 1 .live aP al))))
theorem W1 {ep fV:Nat}{a3:Int}{ad aG:List Int}{bP:Int}{ap al:List Int}{r} (h:Jp ep fV a3 ad aG bP ap al=some r):dN bb 172 0 126 [1,1,1,1,1,1,1,1,0,1,0,0] (Ir ep fV a3 ad aG) (IE ep fV a3 ad aG) (bP,ap,al) r:=dO (fun _=>Vo) h
def xq (af ax:List Int):Option ((List Int)×(List Int)) :=
 ql af ax >>= fun r1 =>
 if (decide (r1<(0:Int)))=true then
  Ap af >>= fun bi =>
  some (([]:List Int),bi)
 else
  if ((len_ eI ax) == (1:Int))=true then
   if 0≤(0:Int)∧(0:Int)<ax.length then
   ax[0]? >>= fun ct =>
   w4 af ct >>= fun c4 =>
   uc (IntKind.wrap .u64 c4.2) >>= fun ef =>
   some (c4.1,ef)
   else none
  else
   if 0≤(U ((len_ eI ax)-(1:Int)))∧(U ((len_ eI ax)-(1:Int)))<ax.length then
   ax[(U ((len_ eI ax)-(1:Int))).toNat]? >>= fun ct =>
   if (U (ct+(1:Int)))≠0 then
   xd af ([U ((1000000000:Int).tdiv (U (ct+(1:Int))))]:List Int) >>= fun bx =>
   if bx.1≤bx.2.length then
   if (bx.2.take bx.1++([0]:List Int)).length*8≤140737488355328 then
   xd ax ([U ((1000000000:Int).tdiv (U (ct+(1:Int))))]:List Int) >>= fun ex =>
   C8 af ex.1 ([U ((1000000000:Int).tdiv (U (ct+(1:Int))))]:List Int) ex.2 (bx.2.take bx.1++([0]:List Int)) >>= fun gB =>
   if 0≤(U (((gB.length:Nat):Int)-((ex.1:Nat):Int)))∧(8:Int)*(U (((gB.length:Nat):Int)-((ex.1:Nat):Int)))≤281474976710656∧(U (((gB.length:Nat):Int)-((ex.1:Nat):Int)))<9223372036854775808 then
   Jp gB.length ex.1 ((ex.1:Nat):Int) ([U ((1000000000:Int).tdiv (U (ct+(1:Int))))]:List Int) ex.2 (U ((U (((gB.length:Nat):Int)-((ex.1:Nat):Int)))-(1:Int))) gB (List.replicate (U (((gB.length:Nat):Int)-((ex.1:Nat):Int))).toNat 0:List Int) >>= fun fa =>
   if 0+gB.length≤fa.1.length then
   pR ((fa.1.drop 0).take gB.length) >>= fun nF =>
   if 0≤(0:Int)∧(0:Int)<(([U ((1000000000:Int).tdiv (U (ct+(1:Int))))]:List Int).length:Nat) then
   ([U ((1000000000:Int).tdiv (U (ct+(1:Int))))]:List Int)[0]? >>= fun so =>
   w4 nF so >>= fun nG =>
   pR fa.2 >>= fun ms =>
   some (ms,nG.1)
   else none
   else none
   else none
   else none
   else none
   else none
   else none
theorem XO {af ax:List Int}:bA (xq af ax) (fun r=>Con bb 126 [.isl 1 (af.map eI),.isl 1 (ax.map eI)] [] (.dZ [.isl 1 (r.1.map eI),.isl 1 (r.2.map eI)]) []):=by
 unfold xq
 exact .au fun r1 o =>
  (let t1:List bX:=[(J 2),.az (bs 2 (br 2 (.n .i64 r1) true) 1)];
  have aQ:=((.aC (CR r1 o) (b9.n .i64 r1)):cq _);
  .ite (fun ae =>
  .au fun bi aA =>
  .ret (bu (t1.append [.aa true,.az (bs 1 (br 1 (.isl 1 (bi.map eI)) false) 2)]) (aQ.aJ (.aC ae (YF bi aA))) (.comp [.dK (.jW 1),.dK .id])))
  (fun ae =>
  .ite (fun av =>
  .aZ fun aA =>
  .au fun ct bd =>
  .au fun c4 cp =>
  .au fun ef eV =>
  .ret (bu (t1.append [.aa false,(J 3),.aa true,.az (aj 3 (an (.b4 (eI ct)) (an (br 2 (.dZ [.isl 1 (c4.1.map eI),.n .i64 c4.2]) false) (aj 5 [])))),.az (bs 3 (br 1 (.isl 1 (ef.map eI)) false) 2)]) (aQ.aJ (.eJ ae av aA.1 (cN eI aA.2) (bU eI bd) (Np c4 cp) (IU ef eV)))))
  (fun av =>
  .aZ fun aA =>
  .au fun ct bd =>
  .aZ fun bn =>
  .au fun bx cK =>
  .aZ fun eV =>
  .aZ fun e4 =>
  .au fun ex ew =>
  .au fun gB hY =>
  .aZ fun hy =>
  .au fun fa gA =>
  .aZ fun fk =>
  .au fun nF iN =>
  .aZ fun mV =>
  .au fun so qX =>
  .au fun nG sn =>
  .au fun ms BQ =>
  .ret (let q1:=(U ((1000000000:Int).tdiv (U (ct+(1:Int)))));let aY:=(U (((gB.length:Nat):Int)-((ex.1:Nat):Int)));let bJ:=(bx.2.take bx.1++([0]:List Int));let bS:=(List.replicate aY.toNat 0:List Int);let cA:=(aK 1 .live aP ([q1]:List Int));bu (t1.append [.aa false,(J 3),.aa false,.az (bs 5 (.b4 (eI ct)) 4),.az (aj 2 (an (.call {a0:=[],dp:=[],ac:=[ii,.bw (.dK (.e5 (([q1]:List Int).map eI)))],r:= .bm 0 0 0 bx.1,fw:=[(ah 1 eI bx.2)],h6:=ii,ke:=[.pure],fN:=[17],fE:=true}) (aj 1 (an (.aJ (bJ.length)) (bs 2 (.call {a0:=[],dp:=[],ac:=[ii,.bw (.dK (.e5 (([q1]:List Int).map eI)))],r:= .bm 0 0 0 ex.1,fw:=[(ah 1 eI ex.2)],h6:=ii,ke:=[.pure],fN:=[17],fE:=true}) 2))))),.aL [17,23,26] [.cL (ah 1 eI ([q1]:List Int)),.cL (ah 1 eI bJ),.pure] [(0,ii),(8,fW (([q1]:List Int).length)),(9,ii),(10,ii)],(IC af ex.1 ([q1]:List Int) ex.2 gB).fb,(J 3),(J 6),(J 6),.aL [0,1,2,10] [.pure,.pure,.pure,.cL (ah 1 eI bS)] [(8,ii),(9,ii),(10,ii),(11,ii),(12,fW (bS.length)),(13,ii)],.iT 2,.aL [0,1,2,3] [.pure,.pure,.pure,.pure] (a8 [8,9,10,11,12,13]),(IE gB.length ex.1 ((ex.1:Nat):Int) ([q1]:List Int) ex.2 fa).fb,.iT 1,.az (aj 1 (an (.call {ac:=[.bw (.dK (.e5 (((fa.1.drop 0).take gB.length).map eI)))],r:= .isl 1 (nF.map eI),fE:=false,fN:=[1]}) (aj 2 (an (.b4 (eI so)) (an (br 2 (.dZ [.isl 1 (nG.1.map eI),.n .i64 nG.2]) false) (aj 5 [])))))),.iT 2,.az (bs 1 (.call {ac:=[.bw (.dK (.e5 (fa.2.map eI)))],r:= .isl 1 (ms.map eI),fE:=false,fN:=[2]}) 3)]) (aQ.aJ (.bl ae av aA.1 (cN eI aA.2) (bU eI bd) bn (lZ (show [[.n .i64 q1]]=(([q1]:List Int)).map eI from rfl) (show 1=([q1]:List Int).length from rfl)) (gZ eI q1) (.bl (dS aP ([q1]:List Int)) (iQ 1 aP bx.2) (NC bx cK) (b9.bm 0 0 0 bx.1) ((qs (oX (oi xV) sU) qu):n4 [(ah 1 eI bx.2)]) (gZ eI 0) (rk (cW eI bx.2) eV) (adi eI eV 0) (.bl e4 (lZ (show [[.n .i64 q1]]=(([q1]:List Int)).map eI from rfl) (show 1=([q1]:List Int).length from rfl)) (gZ eI q1) (dS aP ([q1]:List Int)) (iQ 1 aP ex.2) (NC ex ew) (b9.bm 0 0 0 ex.1) ((qs (oX (oi xV) sU) qu):n4 [(ah 1 eI ex.2)]) (.bl (c6 1 .live (show [[.n .i64 q1]]=(([q1]:List Int)).map eI from rfl)) cA (c6 1 .live (JZ (cW eI bx.2) bx.1 (vm eI 0))) (aK 1 .live aP bJ) (aK 1 .live aP ex.2) (show 1=([q1]:List Int).length from rfl) (WZ hY) hy.1 (.bl (Int.le_refl aY) hy.2.1 hy.2.2 cA (aK 1 .live aP gB) (aK 1 .live aP ex.2) (c6 1 .live (lu eI aY.toNat 0)) (aK 1 .live aP bS) (.bl (lH aY.toNat (0:Int)) cA (aK 1 .live aP gB) (aK 1 .iT aP ex.2) (aK 1 .live aP bS) (W1 gA) (JY (cW eI fa.1) 0 gB.length) (rk (cW eI fa.1) fk) (.bl (dS aP ((fa.1.drop 0).take gB.length)) (ud nF iN) mV.1 mV.2 (bU eI qX) (Np nG sn) (gN eI fa.2) (fT eI fa.2) (.aC (dS aP fa.2) (ud ms BQ))))))))))))))
def sE (c7 er:bp):Option bp :=
 xq c7.cC er.cC >>= fun r1 =>
 m3 (!(c7.cO == er.cO)) r1.1 >>= fun bk =>
 some bk
theorem Gp {c7 er:bp}:bA (sE c7 er) (fun r=>Con bb 109 [.agg (aX c7),.agg (aX er)] [] (.agg (aX r)) []):=by
 unfold sE
 exact .au fun r1 o =>
  .au fun bk av =>
  .ret (bu [(J 3),.az (bs 4 (br 2 (.dZ [.isl 1 (r1.1.map eI),.isl 1 (r1.2.map eI)]) false) 5),.az (bs 6 (br 2 (.agg (aX bk)) false) 1)] (.aC (XO r1 o) (sG bk av)))
def Fs (bW bz:Int)(gI jP:bt)(jx i6 jw:Int)(aF:Bool)(aD:List Int)(bq:Int)(ap:List bt)(al:List Int)(aH:List Bool)(jk:Bool)(jf:List Int)(nX:Bool)(nS:List Int):(Int×(List (List bp)))→S:=fun (e2,a7)=>dl [(0,.ref 0 0 0 0),(1,.n .i64 bW),(2,.n .i64 bz),(6,kQ 2 0 2 gI),(7,.ref 5 0 0 0),(9,kQ 2 0 2 jP),(10,.ref 6 0 0 0),(30,.bm 1 0 0 ap.length),(31,.n .i64 jx),(32,.n .i64 i6),(45,.n .i64 jw),(46,.n .i64 e2)] [[ab.mk 6 [(f8 1 0 0 ap.length aF aD 3 0 0 al.length bq 4 0 0 aH.length)] .live],(ah 1 (a9 2 0 2) ap),(bZ 2 aX a7),(ah 1 eI al),(ah 1 eg aH),[ab.mk 2 [[.b jk,.isl 1 (jf.map eI)]] .live],[ab.mk 2 [[.b nX,.isl 1 (nS.map eI)]] .live]]
def Fy (bW bz:Int)(gI jP:bt)(jx i6 jw:Int)(aF:Bool)(aD:List Int)(bq:Int)(ap:List bt)(al:List Int)(aH:List Bool)(jk:Bool)(jf:List Int)(nX:Bool)(nS:List Int):(List (List bp))→dm
 | a=>⟨some 2,[(0,.ref 0 0 0 0),(1,.n .i64 bW),(2,.n .i64 bz),(6,kQ 2 0 2 gI),(7,.ref 5 0 0 0),(30,.bm 1 0 0 ap.length),(31,.n .i64 jx),(32,.n .i64 i6)],[[ab.mk 6 [(f8 1 0 0 ap.length aF aD 3 0 0 al.length bq 4 0 0 aH.length)] .live],(ah 1 (a9 2 0 2) ap),(bZ 2 aX a),(ah 1 eI al),(ah 1 eg aH),[ab.mk 2 [[.b jk,.isl 1 (jf.map eI)]] .live]]⟩
def vH (bW bz:Int)(gI jP:bt)(jx i6 jw:Int)(aF:Bool)(aD:List Int)(bq:Int)(ap:List bt)(al:List Int)(aH:List Bool)(jk:Bool)(jf:List Int)(nX:Bool)(nS:List Int)(e2:Int)(a7:List (List bp)):Option ((Int×(List (List bp)))⊕((List (List bp)))) :=
 if (decide (e2<jw))=true then
  jP >>= fun gT =>
  a7[gT.1]? >>= fun jX =>
  if 0≤e2∧e2<(gT.2:Nat) then
  jX[(0+e2.toNat)]? >>= fun fl =>
  pb fl (⟨jk,jf⟩:bp) >>= fun bx =>
  oT (⟨nX,nS⟩:bp) >>= fun dc =>
  if (dc != (0:Int))=true then
   gI >>= fun u5 =>
   a7[u5.1]? >>= fun yA =>
   if 0≤e2∧e2<(u5.2:Nat) then
   yA[(0+e2.toNat)]? >>= fun qW =>
   oT qW >>= fun nF =>
   if (nF != (0:Int))=true then
    pb (⟨nX,nS⟩:bp) qW >>= fun pz =>
    tT bx pz >>= fun nG =>
    sE nG (⟨aF,aD⟩:bp) >>= fun ms =>
    some (.inl (U (e2+(1:Int)),a7.set gT.1 (jX.set (0+e2.toNat) ms)))
   else
    sE bx (⟨aF,aD⟩:bp) >>= fun pz =>
    some (.inl (U (e2+(1:Int)),a7.set gT.1 (jX.set (0+e2.toNat) pz)))
   else none
  else
   sE bx (⟨aF,aD⟩:bp) >>= fun gf =>
   some (.inl (U (e2+(1:Int)),a7.set gT.1 (jX.set (0+e2.toNat) gf)))
  else none
 else
  some (.inr a7)
def Cv (bW bz:Int)(gI jP:bt)(jx i6 jw:Int)(aF:Bool)(aD:List Int)(bq:Int)(ap:List bt)(al:List Int)(aH:List Bool)(jk:Bool)(jf:List Int)(nX:Bool)(nS:List Int)(e2:Int)(a7:List (List bp)):Option ((List (List bp))):=iter (fun w:Int×(List (List bp))=>vH bW bz gI jP jx i6 jw aF aD bq ap al aH jk jf nX nS w.1 w.2) (e2,a7)
theorem Tg {bW bz:Int}{gI jP:bt}{jx i6 jw:Int}{aF:Bool}{aD:List Int}{bq:Int}{ap:List bt}{al:List Int}{aH:List Bool}{jk:Bool}{jf:List Int}{nX:Bool}{nS:List Int}{e2:Int}{a7:List (List bp)}:bA (vH bW bz gI jP jx i6 jw aF aD bq ap al aH jk jf nX nS e2 a7) (dM bb 128 5 92 [1,1,0,1,0,0,1,1,0,0,1,1,1,1,0,0] (Fs bW bz gI jP jx i6 jw aF aD bq ap al aH jk jf nX nS (e2,a7)) (Fs bW bz gI jP jx i6 jw aF aD bq ap al aH jk jf nX nS) (Fy bW bz gI jP jx i6 jw aF aD bq ap al aH jk jf nX nS)):=by
 unfold vH
 exact .ite (fun h1 =>
  .au fun gT ae =>
  .au fun jX aA =>
  .aZ fun a2 =>
  .au fun fl bn =>
  .au fun bx cK =>
  .au fun dc e4 =>
  (let jA:=jZ (fG .live 2 aX a7) ir aA;let t1:List bX:=[(J 1),.aa true,(J 2),.az (aj 2 (an (.j2 49 (.bm 2 (gT.1+0) 0 gT.2) (.gi (ab.mk 2 (jX.map aX) .live) [])) (an (.gi (ab.mk 2 (jX.map aX) .live) (aX fl)) (bs 1 (br 2 (.agg (aX bx)) false) 2))))];
  have aQ:=((.bl h1 (l2 (dy:=2) (c:=0) (sz:=2) ae) jA a2.1 a2.2 jA (bU aX bn) (wy bx cK) (.aC (sD dc e4) (b9.n .i64 dc))):cq _);
  .ite (fun ev =>
  .au fun u5 fS =>
  .au fun yA hy =>
  .aZ fun hz =>
  .au fun qW fk =>
  .au fun nF iN =>
  (let hI:=jZ (fG .live 2 aX a7) ir hy;let t3:List bX:=t1.append [.az (aj 1 (an (br 1 (.n .i64 dc) true) (aj 4 (an (.j2 59 (.bm 2 (u5.1+0) 0 u5.2) (.gi (ab.mk 2 (yA.map aX) .live) [])) (an (.gi (ab.mk 2 (yA.map aX) .live) (aX qW)) (an (br 1 (.n .i64 nF) true) (aj 1 (an (.aa true) []))))))))];
  have eR:=aQ.aJ (.bl ev ev ev (l2 (dy:=2) (c:=0) (sz:=2) fS) hI hz.1 hz.2 ev (.eJ hI (bU aX fk) ev (sD nF iN) (b9.n .i64 nF) ev ev));
  .ite (fun mV =>
  .au fun pz qX =>
  .au fun nG sn =>
  .au fun ms BQ =>
  .ret (let q1:=jZ (fG .live 2 aX a7) ir hy;let aY:=jZ (fG .live 2 aX a7) ir aA;let bJ:=cv [0,1,2,3,4,5,6];bh (t3.append [.aa true,.az (aj 4 (an (.j2 68 (.bm 2 (u5.1+0) 0 u5.2) (.gi (ab.mk 2 (yA.map aX) .live) [])) (an (.gi (ab.mk 2 (yA.map aX) .live) (aX qW)) (an (br 2 (.agg (aX pz)) false) (an (br 2 (.agg (aX nG)) false) (aj 1 [])))))),.az (aj 7 (an (br 2 (.agg (aX ms)) false) (an (.j2 74 (.bm 2 (gT.1+0) 0 gT.2) (.gi (ab.mk 2 (jX.map aX) .live) [])) (an (.gi (ab.mk 2 (jX.map aX) .live) (aX fl)) [])))),(J 2),.aL [0,1,2,3,4,5,6] [.box [.id,.id,.id,.id,.id,.id],.bD (ah 1 (a9 2 0 2) ap),.bD (bZ 2 aX (a7.set gT.1 (jX.set (0+e2.toNat) ms))),.pure,.pure,.box [.id,.id],.box [.id,.id]] (a8 [0,1,2,6,7,9,10,30,31,32,45,46])]) (eR.aJ (.bl mV (l2 (dy:=2) (c:=0) (sz:=2) fS) q1 hz.1 hz.2 q1 (bU aX fk) (wy pz qX) (.bl (MQ nG sn) (Gp ms BQ) (l2 (dy:=2) (c:=0) (sz:=2) ae) aY a2.1 a2.2 aY (bU aX bn) (.c9 (et bJ 2 2 0 2 rfl ap) (mj (b8:=bJ) (oZ (fG .live 2 aX a7) gT.1 (qq (cW aX jX) (0+e2.toNat) ms (rfl:(setCells (aX fl) 0 (aX ms))=aX ms))) (lL e8)) (aK 1 .live aP al) (aK 1 .live eX aH)))))))
  (fun mV =>
  .au fun pz qX =>
  .ret (let bS:=jZ (fG .live 2 aX a7) ir aA;let cA:=cv [0,1,2,3,4,5,6];bh (t3.append [.aa false,.az (aj 7 (an (br 2 (.agg (aX pz)) false) (an (.j2 74 (.bm 2 (gT.1+0) 0 gT.2) (.gi (ab.mk 2 (jX.map aX) .live) [])) (an (.gi (ab.mk 2 (jX.map aX) .live) (aX fl)) [])))),(J 2),.aL [0,1,2,3,4,5,6] [.box [.id,.id,.id,.id,.id,.id],.bD (ah 1 (a9 2 0 2) ap),.bD (bZ 2 aX (a7.set gT.1 (jX.set (0+e2.toNat) pz))),.pure,.pure,.box [.id,.id],.box [.id,.id]] (a8 [0,1,2,6,7,9,10,30,31,32,45,46])]) (eR.aJ (.bl mV (Gp pz qX) (l2 (dy:=2) (c:=0) (sz:=2) ae) bS a2.1 a2.2 bS (bU aX bn) (.c9 (et cA 2 2 0 2 rfl ap) (mj (b8:=cA) (oZ (fG .live 2 aX a7) gT.1 (qq (cW aX jX) (0+e2.toNat) pz (rfl:(setCells (aX fl) 0 (aX pz))=aX pz))) (lL e8)) (aK 1 .live aP al) (aK 1 .live eX aH))))))))
  (fun ev =>
  .au fun gf fS =>
  .ret (let d4:=jZ (fG .live 2 aX a7) ir aA;let fP:=cv [0,1,2,3,4,5,6];bh (t1.append [.az (aj 1 (an (br 1 (.n .i64 dc) true) (aj 2 (cr 6 (an (.aa false) []))))),.aa false,.az (aj 7 (an (br 2 (.agg (aX gf)) false) (an (.j2 74 (.bm 2 (gT.1+0) 0 gT.2) (.gi (ab.mk 2 (jX.map aX) .live) [])) (an (.gi (ab.mk 2 (jX.map aX) .live) (aX fl)) [])))),(J 2),.aL [0,1,2,3,4,5,6] [.box [.id,.id,.id,.id,.id,.id],.bD (ah 1 (a9 2 0 2) ap),.bD (bZ 2 aX (a7.set gT.1 (jX.set (0+e2.toNat) gf))),.pure,.pure,.box [.id,.id],.box [.id,.id]] (a8 [0,1,2,6,7,9,10,30,31,32,45,46])]) (aQ.aJ (.bl ev ev ev ev ev ev ev c1 (.bl (Gp gf fS) (l2 (dy:=2) (c:=0) (sz:=2) ae) d4 a2.1 a2.2 d4 (bU aX bn) (et fP 2 2 0 2 rfl ap) (.bR (mj (b8:=fP) (oZ (fG .live 2 aX a7) gT.1 (qq (cW aX jX) (0+e2.toNat) gf (rfl:(setCells (aX fl) 0 (aX gf))=aX gf))) (lL e8)) (aK 1 .live aP al) (aK 1 .live eX aH)))))))))
  (fun h1 =>
  .ret (let eB:=cv [0,1,2,3,4,5];bh [(J 1),.aa false,.aL [0,1,2,3,4,5] [.box [.id,.id,.id,.id,.id,.id],.bD (ah 1 (a9 2 0 2) ap),.bD (bZ 2 aX a7),.pure,.pure,.box [.id,.id]] (a8 [0,1,2,6,7,30,31,32])] (.dn h1 (et eB 2 2 0 2 rfl ap) (dt eB 2 e8 a7) (aK 1 .live aP al) (aK 1 .live eX aH))))
theorem TQ {bW bz:Int}{gI jP:bt}{jx i6 jw:Int}{aF:Bool}{aD:List Int}{bq:Int}{ap:List bt}{al:List Int}{aH:List Bool}{jk:Bool}{jf:List Int}{nX:Bool}{nS:List Int}{e2:Int}{a7:List (List bp)}{r} (h:Cv bW bz gI jP jx i6 jw aF aD bq ap al aH jk jf nX nS e2 a7=some r):dN bb 128 5 92 [1,1,0,1,0,0,1,1,0,0,1,1,1,1,0,0] (Fs bW bz gI jP jx i6 jw aF aD bq ap al aH jk jf nX nS) (Fy bW bz gI jP jx i6 jw aF aD bq ap al aH jk jf nX nS) (e2,a7) r:=dO (fun _=>Tg) h
def Ft (bW bz:Int)(gI:bt)(jx:Int)(aF:Bool)(aD:List Int)(bq:Int)(ap:List bt)(al:List Int)(aH:List Bool)(jk:Bool)(jf:List Int):(Int×(List (List bp)))→S:=fun (i6,a7)=>dl [(0,.ref 0 0 0 0),(1,.n .i64 bW),(2,.n .i64 bz),(6,kQ 2 0 2 gI),(7,.ref 5 0 0 0),(30,.bm 1 0 0 ap.length),(31,.n .i64 jx),(32,.n .i64 i6)] [[ab.mk 6 [(f8 1 0 0 ap.length aF aD 3 0 0 al.length bq 4 0 0 aH.length)] .live],(ah 1 (a9 2 0 2) ap),(bZ 2 aX a7),(ah 1 eI al),(ah 1 eg aH),[ab.mk 2 [[.b jk,.isl 1 (jf.map eI)]] .live]]
def Fz (bW bz:Int)(gI:bt)(jx:Int)(aF:Bool)(aD:List Int)(bq:Int)(ap:List bt)(al:List Int)(aH:List Bool)(jk:Bool)(jf:List Int):(List (List bp))→dm
 | a=>⟨some 0,[(0,.ref 0 0 0 0),(1,.n .i64 bW),(2,.n .i64 bz),(7,.ref 5 0 0 0)],[[ab.mk 6 [(f8 1 0 0 ap.length aF aD 3 0 0 al.length bq 4 0 0 aH.length)] .live],(ah 1 (a9 2 0 2) ap),(bZ 2 aX a),(ah 1 eI al),(ah 1 eg aH),[ab.mk 2 [[.b jk,.isl 1 (jf.map eI)]] .live]]⟩
def vI (bW bz:Int)(gI:bt)(jx:Int)(aF:Bool)(aD:List Int)(bq:Int)(ap:List bt)(al:List Int)(aH:List Bool)(jk:Bool)(jf:List Int)(i6:Int)(a7:List (List bp)):Option ((Int×(List (List bp)))⊕((List (List bp)))) :=
 if (decide (i6<jx))=true then
  if 0≤i6∧i6<(ap.length:Nat) then
  ap[(0+i6.toNat)]? >>= fun aE =>
  if (i6 == bW)=true then
   some (.inl (U (i6+(1:Int)),a7))
  else
   aE >>= fun sw =>
   a7[sw.1]? >>= fun Ce =>
   if 0≤bz∧bz<(sw.2:Nat) then
   Ce[(0+bz.toNat)]? >>= fun py =>
   Cv bW bz gI aE jx i6 ((sw.2:Nat):Int) aF aD bq ap al aH jk jf py.cO py.cC 0 a7 >>= fun ex =>
   some (.inl (U (i6+(1:Int)),ex))
   else none
  else none
 else
  some (.inr a7)
def Cw (bW bz:Int)(gI:bt)(jx:Int)(aF:Bool)(aD:List Int)(bq:Int)(ap:List bt)(al:List Int)(aH:List Bool)(jk:Bool)(jf:List Int)(i6:Int)(a7:List (List bp)):Option ((List (List bp))):=iter (fun w:Int×(List (List bp))=>vI bW bz gI jx aF aD bq ap al aH jk jf w.1 w.2) (i6,a7)
theorem Th {bW bz:Int}{gI:bt}{jx:Int}{aF:Bool}{aD:List Int}{bq:Int}{ap:List bt}{al:List Int}{aH:List Bool}{jk:Bool}{jf:List Int}{i6:Int}{a7:List (List bp)}:bA (vI bW bz gI jx aF aD bq ap al aH jk jf i6 a7) (dM bb 128 5 92 [1,1,0,1,0,0] (Ft bW bz gI jx aF aD bq ap al aH jk jf (i6,a7)) (Ft bW bz gI jx aF aD bq ap al aH jk jf) (Fz bW bz gI jx aF aD bq ap al aH jk jf)):=by
 unfold vI
 exact .ite (fun h1 =>
  .aZ fun o =>
  .au fun aE av =>
  (let t1:List bX:=[(J 1),.aa true,.az (bs 2 (.b4 ((a9 2 0 2) aE)) 2),(J 3)];
  have aQ:=((.c9 h1 o.1 o.2 (bU (a9 2 0 2) av)):cq _);
  .ite (fun aA =>
  .ret (let q1:=cv [0,1,2,3,4,5];bh (t1.append [.aa true,(J 2),.aL [0,1,2,3,4,5] [.box [.id,.id,.id,.id,.id,.id],.bD (ah 1 (a9 2 0 2) ap),.bD (bZ 2 aX a7),.pure,.pure,.box [.id,.id]] (a8 [0,1,2,6,7,30,31,32])]) (aQ.aJ (.dn aA (et q1 2 2 0 2 rfl ap) (dt q1 2 e8 a7) (aK 1 .live aP al) (aK 1 .live eX aH)))))
  (fun aA =>
  .au fun sw bd =>
  .au fun Ce cp =>
  .aZ fun cK =>
  .au fun py e4 =>
  .au fun ex ew =>
  .ret (let aY:=jZ (fG .live 2 aX a7) ir cp;let bJ:=cv [0,1,2,3,4,5,19];let bS:=cv [0,1,2,3,4,5];bh (t1.append [.aa false,.az (aj 2 (an (.j2 40 (.bm 2 (sw.1+0) 0 sw.2) (.gi (ab.mk 2 (Ce.map aX) .live) [])) (an (.gi (ab.mk 2 (Ce.map aX) .live) (aX py)) (aj 2 [])))),.az (bs 1 (.j2 44 (.bm 2 (sw.1+0) 0 sw.2) (.gi (ab.mk 2 (Ce.map aX) .live) [])) 1),.aL [0,1,2,3,4,5,19] [.box [.id,.id,.id,.id,.id,.id],.bD (ah 1 (a9 2 0 2) ap),.bD (bZ 2 aX a7),.pure,.pure,.box [.id,.id],.box [.id,.id]] (a8 [0,1,2,6,7,9,10,30,31,32,45,46]),(Fy bW bz gI aE jx i6 ((sw.2:Nat):Int) aF aD bq ap al aH jk jf py.cO py.cC ex).fb,(J 2),.aL [0,1,2,3,4,5] [.box [.id,.id,.id,.id,.id,.id],.bD (ah 1 (a9 2 0 2) ap),.bD (bZ 2 aX ex),.pure,.pure,.box [.id,.id]] (a8 [0,1,2,6,7,30,31,32])]) (aQ.aJ (.bl aA (l2 (dy:=2) (c:=0) (sz:=2) bd) aY cK.1 cK.2 aY (bU aX e4) (l2 (dy:=2) (c:=0) (sz:=2) bd) (.bl aY (et bJ 2 2 0 2 rfl ap) (dt bJ 2 e8 a7) (aK 1 .live aP al) (aK 1 .live eX aH) (TQ ew) (et bS 2 2 0 2 rfl ap) (dt bS 2 e8 ex) (.aC (aK 1 .live aP al) (aK 1 .live eX aH)))))))))
  (fun h1 =>
  .ret (let cA:=cv [0,1,2,3,4,5];bh [(J 1),.aa false,.aL [0,1,2,3,4,5] [.box [.id,.id,.id,.id,.id,.id],.bD (ah 1 (a9 2 0 2) ap),.bD (bZ 2 aX a7),.pure,.pure,.box [.id,.id]] (a8 [0,1,2,7])] (.dn h1 (et cA 2 2 0 2 rfl ap) (dt cA 2 e8 a7) (aK 1 .live aP al) (aK 1 .live eX aH))))
theorem TR {bW bz:Int}{gI:bt}{jx:Int}{aF:Bool}{aD:List Int}{bq:Int}{ap:List bt}{al:List Int}{aH:List Bool}{jk:Bool}{jf:List Int}{i6:Int}{a7:List (List bp)}{r} (h:Cw bW bz gI jx aF aD bq ap al aH jk jf i6 a7=some r):dN bb 128 5 92 [1,1,0,1,0,0] (Ft bW bz gI jx aF aD bq ap al aH jk jf) (Fz bW bz gI jx aF aD bq ap al aH jk jf) (i6,a7) r:=dO (fun _=>Th) h
def Fu (jP:bt)(ju jv om:Int)(aF:Bool)(aD:List Int)(bq:Int)(ap:List bt)(al:List Int)(aH:List Bool):(Int×(List (List bp)))→S:=fun (m6,a7)=>dl [(14,kQ 2 0 2 jP),(107,.bm 1 0 0 ap.length),(108,.n .i64 ju),(109,.n .i64 jv),(114,.n .i64 om),(115,.n .i64 m6)] [[ab.mk 6 [(f8 1 0 0 ap.length aF aD 3 0 0 al.length bq 4 0 0 aH.length)] .live],(ah 1 (a9 2 0 2) ap),(bZ 2 aX a7),(ah 1 eI al),(ah 1 eg aH)]
def FA (jP:bt)(ju jv om:Int)(aF:Bool)(aD:List Int)(bq:Int)(ap:List bt)(al:List Int)(aH:List Bool):(List (List bp))→dm
 | a=>⟨some 6,[(107,.bm 1 0 0 ap.length),(108,.n .i64 ju),(109,.n .i64 jv)],[[ab.mk 6 [(f8 1 0 0 ap.length aF aD 3 0 0 al.length bq 4 0 0 aH.length)] .live],(ah 1 (a9 2 0 2) ap),(bZ 2 aX a),(ah 1 eI al),(ah 1 eg aH)]⟩
def vJ (jP:bt)(ju jv om:Int)(aF:Bool)(aD:List Int)(bq:Int)(ap:List bt)(al:List Int)(aH:List Bool)(m6:Int)(a7:List (List bp)):Option ((Int×(List (List bp)))⊕((List (List bp)))) :=
 if (decide (m6<om))=true then
  jP >>= fun gT =>
  a7[gT.1]? >>= fun jX =>
  if 0≤m6∧m6<(gT.2:Nat) then
  jX[(0+m6.toNat)]? >>= fun fl =>
  rG fl >>= fun bx =>
  some (.inl (U (m6+(1:Int)),a7.set gT.1 (jX.set (0+m6.toNat) bx)))
  else none
 else
  some (.inr a7)
def Cx (jP:bt)(ju jv om:Int)(aF:Bool)(aD:List Int)(bq:Int)(ap:List bt)(al:List Int)(aH:List Bool)(m6:Int)(a7:List (List bp)):Option ((List (List bp))):=iter (fun w:Int×(List (List bp))=>vJ jP ju jv om aF aD bq ap al aH w.1 w.2) (m6,a7)
theorem Ti {jP:bt}{ju jv om:Int}{aF:Bool}{aD:List Int}{bq:Int}{ap:List bt}{al:List Int}{aH:List Bool}{m6:Int}{a7:List (List bp)}:bA (vJ jP ju jv om aF aD bq ap al aH m6 a7) (dM bb 128 5 92 [1,1,1,1,1,1,1,1,0,0,1,1,0,0,1,1,0,0] (Fu jP ju jv om aF aD bq ap al aH (m6,a7)) (Fu jP ju jv om aF aD bq ap al aH) (FA jP ju jv om aF aD bq ap al aH)):=by
 unfold vJ
 exact .ite (fun h1 =>
  .au fun gT ae =>
  .au fun jX aA =>
  .aZ fun a2 =>
  .au fun fl bn =>
  .au fun bx cK =>
  .ret (let q1:=jZ (fG .live 2 aX a7) ir aA;bh [(J 1),.aa true,(J 2),.az (aj 4 (an (.j2 120 (.bm 2 (gT.1+0) 0 gT.2) (.gi (ab.mk 2 (jX.map aX) .live) [])) (an (.gi (ab.mk 2 (jX.map aX) .live) (aX fl)) (an (br 1 (.agg (aX bx)) false) (an (.j2 118 (.bm 2 (gT.1+0) 0 gT.2) (.gi (ab.mk 2 (jX.map aX) .live) [])) (an (.gi (ab.mk 2 (jX.map aX) .live) (aX fl)) [])))))),(J 2),.aL [0,1,2,3,4] [.box [.id,.id,.id,.id,.id,.id],.bD (ah 1 (a9 2 0 2) ap),.bD (bZ 2 aX (a7.set gT.1 (jX.set (0+m6.toNat) bx))),.pure,.pure] (a8 [14,107,108,109,114,115])] (.bl h1 (l2 (dy:=2) (c:=0) (sz:=2) ae) q1 a2.1 a2.2 q1 (bU aX bn) (F9 bx cK) (.bl (l2 (dy:=2) (c:=0) (sz:=2) ae) q1 a2.1 a2.2 q1 (bU aX bn) (et (cv [0,1,2,3,4]) 2 2 0 2 rfl ap) (mj (b8:=(cv [0,1,2,3,4])) (oZ (fG .live 2 aX a7) gT.1 (qq (cW aX jX) (0+m6.toNat) bx (rfl:(setCells (aX fl) 0 (aX bx))=aX bx))) (lL e8)) (.aC (aK 1 .live aP al) (aK 1 .live eX aH))))))
  (fun h1 =>
  .ret (bh [(J 1),.aa false,.aL [0,1,2,3,4] [.box [.id,.id,.id,.id,.id,.id],.bD (ah 1 (a9 2 0 2) ap),.bD (bZ 2 aX a7),.pure,.pure] (a8 [107,108,109])] (.dn h1 (et (cv [0,1,2,3,4]) 2 2 0 2 rfl ap) (dt (cv [0,1,2,3,4]) 2 e8 a7) (aK 1 .live aP al) (aK 1 .live eX aH))))
theorem TS {jP:bt}{ju jv om:Int}{aF:Bool}{aD:List Int}{bq:Int}{ap:List bt}{al:List Int}{aH:List Bool}{m6:Int}{a7:List (List bp)}{r} (h:Cx jP ju jv om aF aD bq ap al aH m6 a7=some r):dN bb 128 5 92 [1,1,1,1,1,1,1,1,0,0,1,1,0,0,1,1,0,0] (Fu jP ju jv om aF aD bq ap al aH) (FA jP ju jv om aF aD bq ap al aH) (m6,a7) r:=dO (fun _=>Ti) h
def Fv (ju:Int)(aF:Bool)(aD:List Int)(bq:Int)(ap:List bt)(al:List Int)(aH:List Bool):(Int×(List (List bp)))→S:=fun (jv,a7)=>dl [(107,.bm 1 0 0 ap.length),(108,.n .i64 ju),(109,.n .i64 jv)] [[ab.mk 6 [(f8 1 0 0 ap.length aF aD 3 0 0 al.length bq 4 0 0 aH.length)] .live],(ah 1 (a9 2 0 2) ap),(bZ 2 aX a7),(ah 1 eI al),(ah 1 eg aH)]
def FB (ju:Int)(aF:Bool)(aD:List Int)(bq:Int)(ap:List bt)(al:List Int)(aH:List Bool):(List (List bp))→dm
 | a=>⟨some 4,[],[[ab.mk 6 [(f8 1 0 0 ap.length aF aD 3 0 0 al.length bq 4 0 0 aH.length)] .live],(ah 1 (a9 2 0 2) ap),(bZ 2 aX a),(ah 1 eI al),(ah 1 eg aH)]⟩
def vK (ju:Int)(aF:Bool)(aD:List Int)(bq:Int)(ap:List bt)(al:List Int)(aH:List Bool)(jv:Int)(a7:List (List bp)):Option ((Int×(List (List bp)))⊕((List (List bp)))) :=
 if (decide (jv<ju))=true then
  if 0≤jv∧jv<(ap.length:Nat) then
  ap[(0+jv.toNat)]? >>= fun aE =>
  aE >>= fun lE =>
  a7[lE.1]? >>= fun iD =>
  Cx aE ju jv ((lE.2:Nat):Int) aF aD bq ap al aH 0 a7 >>= fun bx =>
  some (.inl (U (jv+(1:Int)),bx))
  else none
 else
  some (.inr a7)
def yW (ju:Int)(aF:Bool)(aD:List Int)(bq:Int)(ap:List bt)(al:List Int)(aH:List Bool)(jv:Int)(a7:List (List bp)):Option ((List (List bp))):=iter (fun w:Int×(List (List bp))=>vK ju aF aD bq ap al aH w.1 w.2) (jv,a7)
theorem Tj {ju:Int}{aF:Bool}{aD:List Int}{bq:Int}{ap:List bt}{al:List Int}{aH:List Bool}{jv:Int}{a7:List (List bp)}:bA (vK ju aF aD bq ap al aH jv a7) (dM bb 128 5 92 [1,1,1,1,1,1,1,1,0,0] (Fv ju aF aD bq ap al aH (jv,a7)) (Fv ju aF aD bq ap al aH) (FB ju aF aD bq ap al aH)):=by
 unfold vK
 exact .ite (fun h1 =>
  .aZ fun o =>
  .au fun aE av =>
  .au fun lE a2 =>
  .au fun iD bn =>
  .au fun bx cK =>
  .ret (let q1:=cv [0,1,2,3,4];let aY:=et q1 2 2 0 2 rfl ap;bh [(J 1),.aa true,.az (bs 1 (.b4 ((a9 2 0 2) aE)) 1),.az (bs 1 (.j2 113 (.bm 2 (lE.1+0) 0 lE.2) (.gi (ab.mk 2 (iD.map aX) .live) [])) 1),.aL [0,1,2,3,4] [.box [.id,.id,.id,.id,.id,.id],.bD (ah 1 (a9 2 0 2) ap),.bD (bZ 2 aX a7),.pure,.pure] (a8 [14,107,108,109,114,115]),(FA aE ju jv ((lE.2:Nat):Int) aF aD bq ap al aH bx).fb,(J 2),.aL [0,1,2,3,4] [.box [.id,.id,.id,.id,.id,.id],.bD (ah 1 (a9 2 0 2) ap),.bD (bZ 2 aX bx),.pure,.pure] (a8 [107,108,109])] (.bl h1 o.1 o.2 (bU (a9 2 0 2) av) (l2 (dy:=2) (c:=0) (sz:=2) a2) (jZ (fG .live 2 aX a7) ir bn) aY (dt q1 2 e8 a7) (.eJ (aK 1 .live aP al) (aK 1 .live eX aH) (TS cK) aY (dt q1 2 e8 bx) (aK 1 .live aP al) (aK 1 .live eX aH)))))
  (fun h1 =>
  .ret (bh [(J 1),.aa false,.aL [0,1,2,3,4] [.box [.id,.id,.id,.id,.id,.id],.bD (ah 1 (a9 2 0 2) ap),.bD (bZ 2 aX a7),.pure,.pure] []] (.dn h1 (et (cv [0,1,2,3,4]) 2 2 0 2 rfl ap) (dt (cv [0,1,2,3,4]) 2 e8 a7) (aK 1 .live aP al) (aK 1 .live eX aH))))
theorem TT {ju:Int}{aF:Bool}{aD:List Int}{bq:Int}{ap:List bt}{al:List Int}{aH:List Bool}{jv:Int}{a7:List (List bp)}{r} (h:yW ju aF aD bq ap al aH jv a7=some r):dN bb 128 5 92 [1,1,1,1,1,1,1,1,0,0] (Fv ju aF aD bq ap al aH) (FB ju aF aD bq ap al aH) (jv,a7) r:=dO (fun _=>Tj) h
def wz (bW bz:Int)(oI:Bool)(oD:List Int)(jG:Int)(fe:List bt)(lV:List (List bp))(ig:List Int)(hB:List Bool):Option (Bool×(List Int)×(List (List bp))×(List Int)) :=
 if 0≤bW∧bW<(fe.length:Nat) then
 fe[(0+bW.toNat)]? >>= fun d3 =>
 d3 >>= fun jE =>
 lV[jE.1]? >>= fun m0 =>
 if 0≤bz∧bz<(jE.2:Nat) then
 m0[(0+bz.toNat)]? >>= fun eo =>
 Cw bW bz d3 ((fe.length:Nat):Int) oI oD jG fe ig hB eo.cO eo.cC 0 lV >>= fun dc =>
 if 0≤bW∧bW<(ig.length:Nat) then
 if (0+bW.toNat)<ig.length then
 oT eo >>= fun gB =>
 if (decide ((0:Int)<gB))=true then
  some (eo.cO,eo.cC,dc,ig.set (0+bW.toNat) bz)
 else
  rG eo >>= fun fa =>
  yW ((fe.length:Nat):Int) fa.cO fa.cC jG fe (ig.set (0+bW.toNat) bz) hB 0 dc >>= fun jo =>
  some (fa.cO,fa.cC,jo,ig.set (0+bW.toNat) bz)
 else none
 else none
 else none
 else none
theorem ME {bW bz:Int}{oI:Bool}{oD:List Int}{jG:Int}{fe:List bt}{lV:List (List bp)}{ig:List Int}{hB:List Bool}:bA (wz bW bz oI oD jG fe lV ig hB) (fun a=>Con bb 92 [.ref 0 0 0 0,.n .i64 bW,.n .i64 bz] [[ab.mk 6 [(f8 1 0 0 fe.length oI oD 3 0 0 ig.length jG 4 0 0 hB.length)] .live],(ah 1 (a9 2 0 2) fe),(bZ 2 aX lV),(ah 1 eI ig),(ah 1 eg hB)] (.dZ []) [[ab.mk 6 [(f8 1 0 0 fe.length a.1 a.2.1 3 0 0 a.2.2.2.length jG 4 0 0 hB.length)] .live],(ah 1 (a9 2 0 2) fe),(bZ 2 aX a.2.2.1),(ah 1 eI a.2.2.2),(ah 1 eg hB)]):=by
 unfold wz
 exact .aZ fun h1 =>
  .au fun d3 ae =>
  .au fun jE aA =>
  .au fun m0 bd =>
  .aZ fun bn =>
  .au fun eo cK =>
  .au fun dc e4 =>
  .aZ fun ev =>
  .aZ fun ew =>
  .au fun gB hY =>
  (let fP:=jZ (fG .live 2 aX lV) ir bd;let eB:=cv [0,1,2,3,4,17];let t1:List bX:=[.az (bs 6 (.b4 ((a9 2 0 2) d3)) 1),.az (aj 2 (an (.j2 23 (.bm 2 (jE.1+0) 0 jE.2) (.gi (ab.mk 2 (m0.map aX) .live) [])) (an (.gi (ab.mk 2 (m0.map aX) .live) (aX eo)) (aj 2 [])))),(J 6),.aL [0,1,2,3,4,17] [.box [.id,.id,.id,.id,.id,.id],.bD (ah 1 (a9 2 0 2) fe),.bD (bZ 2 aX lV),.pure,.pure,.box [.id,.id]] (a8 [0,1,2,6,7,30,31,32]),(Fz bW bz d3 ((fe.length:Nat):Int) oI oD jG fe ig hB eo.cO eo.cC dc).fb,(J 5),.az (aj 7 (an .fQ [])),.az (bs 1 (br 1 (.n .i64 gB) true) 1)];
  have aQ:=((.bl h1.1 h1.2 (bU (a9 2 0 2) ae) (l2 (dy:=2) (c:=0) (sz:=2) aA) fP bn.1 bn.2 fP (.bl (bU aX cK) (et eB 2 2 0 2 rfl fe) (dt eB 2 e8 lV) (aK 1 .live aP ig) (aK 1 .live eX hB) (TR e4) ev.1 ev.2 (.c9 (hE eI ew) (hs 1) (sD gB hY) (b9.n .i64 gB)))):cq _);
  .ite (fun hy =>
  .ret (let q1:=f8 1 0 0 fe.length eo.cO eo.cC 3 0 0 ((ig.set (0+bW.toNat) bz).length) jG 4 0 0 hB.length;let aY:=cv [0,1,2,3,4];lC (t1.append [.aa true]) [0,1,2,3,4] [.bD [ab.mk 6 [q1] .live],.bD (ah 1 (a9 2 0 2) fe),.bD (bZ 2 aX dc),.cL (ah 1 eI (ig.set (0+bW.toNat) bz)),.pure] (aQ.aJ (.eJ hy (c0 (show ab.mk 6 [q1] .live=gG aY (ab.mk 6 [(f8 1 0 0 fe.length eo.cO eo.cC 3 0 0 ig.length jG 4 0 0 hB.length)] .live) from (congrArg (fun Cd=>ab.mk 6 [(f8 1 0 0 fe.length eo.cO eo.cC 3 0 0 Cd jG 4 0 0 hB.length)] .live) (hR (dL ig) (0+bW.toNat) bz).symm)) o0) (et aY 2 2 0 2 rfl fe) (dt aY 2 e8 dc) (c6 1 .live (gD (cW eI ig) (0+bW.toNat) bz)) (aK 1 .live aP (ig.set (0+bW.toNat) bz)) (aK 1 .live eX hB)))))
  (fun hy =>
  .au fun fa gA =>
  .au fun jo gL =>
  .ret (let bJ:=f8 1 0 0 fe.length fa.cO fa.cC 3 0 0 ((ig.set (0+bW.toNat) bz).length) jG 4 0 0 hB.length;let bS:=cv [0,1,2,3,4];let cA:=aK 1 .live aP (ig.set (0+bW.toNat) bz);let d4:=et bS 2 2 0 2 rfl fe;lC (t1.append [.aa false,.az (bs 2 (br 1 (.agg (aX fa)) false) 3),(J 6),.aL [0,1,2,3,4] [.box [.id,.id,.id,.len ((ig.set (0+bW.toNat) bz).length),.id,.id],.bD (ah 1 (a9 2 0 2) fe),.bD (bZ 2 aX dc),.cL (ah 1 eI (ig.set (0+bW.toNat) bz)),.pure] (a8 [107,108,109]),(FB ((fe.length:Nat):Int) fa.cO fa.cC jG fe (ig.set (0+bW.toNat) bz) hB jo).fb]) [0,1,2,3,4] [.bD [ab.mk 6 [bJ] .live],.bD (ah 1 (a9 2 0 2) fe),.bD (bZ 2 aX jo),.pure,.pure] (aQ.aJ (.bl hy (F9 fa gA) (hR (dL ig) (0+bW.toNat) bz) d4 (dt bS 2 e8 dc) (c6 1 .live (gD (cW eI ig) (0+bW.toNat) bz)) cA (aK 1 .live eX hB) (.d5 (TT gL) (x1 bS 6 [bJ] [bJ] rfl) d4 (dt bS 2 e8 jo) cA (aK 1 .live eX hB)))))))
def Fc (b1:Int)(aF:Bool)(aD:List Int)(ap:List bt)(a7:List (List bp))(al:List Int)(aH:List Bool)(bF:List Int):Int→S:=fun ch=>dl [(0,.ref 0 0 0 0),(1,.bm 5 0 0 bF.length),(5,.b false),(13,.n .i64 b1),(14,.n .i64 ch)] [[ab.mk 6 [(f8 1 0 0 ap.length aF aD 3 0 0 al.length b1 4 0 0 aH.length)] .live],(ah 1 (a9 2 0 2) ap),(bZ 2 aX a7),(ah 1 eI al),(ah 1 eg aH),(ah 1 eI bF)]
def Cn (b1:Int)(aF:Bool)(aD:List Int)(ap:List bt)(a7:List (List bp))(al:List Int)(aH:List Bool)(bF:List Int):((Bool×Bool×(List Int)×(List (List bp))×(List Int))⊕(Unit))→dm
 | .inl a=>⟨some 2,[(0,.ref 0 0 0 0),(1,.bm 5 0 0 bF.length),(5,.b a.1)],[[ab.mk 6 [(f8 1 0 0 ap.length a.2.1 a.2.2.1 3 0 0 a.2.2.2.2.length b1 4 0 0 aH.length)] .live],(ah 1 (a9 2 0 2) ap),(bZ 2 aX a.2.2.2.1),(ah 1 eI a.2.2.2.2),(ah 1 eg aH),(ah 1 eI bF)]⟩
 | .inr a=>⟨none,[(4,.b false)],[[ab.mk 6 [(f8 1 0 0 ap.length aF aD 3 0 0 al.length b1 4 0 0 aH.length)] .live],(ah 1 (a9 2 0 2) ap),(bZ 2 aX a7),(ah 1 eI al),(ah 1 eg aH),(ah 1 eI bF)]⟩
def vD (b1:Int)(aF:Bool)(aD:List Int)(ap:List bt)(a7:List (List bp))(al:List Int)(aH:List Bool)(bF:List Int)(ch:Int):Option ((Int)⊕((Bool×Bool×(List Int)×(List (List bp))×(List Int))⊕(Unit))) :=
 if (decide (ch<b1))=true then
  if 0≤ch∧ch<(aH.length:Nat) then
  aH[(0+ch.toNat)]? >>= fun aE =>
  if aE=true then
   xl al ch >>= fun cf =>
   if cf=true then
    some (.inl (U (ch+(1:Int))))
   else
    if ap.all (oM a7)=true then
    wW (⟨ap.map (gz a7),(⟨aF,aD⟩:bp),al,b1,aH⟩:qo) bF ch >>= fun ef =>
    if (decide (ef≤(0:Int)))=true then
     some (.inl (U (ch+(1:Int))))
    else
     y3 (⟨ap.map (gz a7),(⟨aF,aD⟩:bp),al,b1,aH⟩:qo) ch >>= fun ex =>
     if (decide (ex<(0:Int)))=true then
      some (.inr (.inr ()))
     else
      wz ex ch aF aD b1 ap a7 al aH >>= fun ey =>
      some (.inr (.inl (true,ey.1,ey.2.1,ey.2.2.1,ey.2.2.2)))
    else none
  else
   some (.inl (U (ch+(1:Int))))
  else none
 else
  some (.inr (.inl (false,aF,aD,a7,al)))
def vM (b1:Int)(aF:Bool)(aD:List Int)(ap:List bt)(a7:List (List bp))(al:List Int)(aH:List Bool)(bF:List Int)(ch:Int):Option ((Bool×Bool×(List Int)×(List (List bp))×(List Int))⊕(Unit)):=iter (fun w:Int=>vD b1 aF aD ap a7 al aH bF w) ch
theorem S1 {b1:Int}{aF:Bool}{aD:List Int}{ap:List bt}{a7:List (List bp)}{al:List Int}{aH:List Bool}{bF:List Int}{ch:Int}:bA (vD b1 aF aD ap a7 al aH bF ch) (dM bb 87 6 70 [1,0,1,0,0,1,0,1,1,0,0] (Fc b1 aF aD ap a7 al aH bF ch) (Fc b1 aF aD ap a7 al aH bF) (Cn b1 aF aD ap a7 al aH bF)):=by
 unfold vD
 exact .ite (fun h1 =>
  .aZ fun o =>
  .au fun aE av =>
  (let t1:List bX:=[(J 1),.aa true,(J 2)];
  .ite (fun aA =>
  .au fun cf bd =>
  (have aQ:=((.bl h1 o.1 o.2 (bU eg av) (cY aA) (cY aA) (cY aA) (cY aA) (.gS (cY aA) (cY aA) (gN eI al) (fT eI al) (dS aP al) (NU cf bd) (b9.b cf) (cY aA))):cq _);
  .ite (fun bn =>
  .ret (let q1:=cv [0,1,2,3,4,5];bh (t1.append [.az (aj 6 (an (.b4 (eg aE)) (aj 7 (an (.call {ac:=[.bw (.dK (.e5 (al.map eI))),ii],r:= .b cf,fE:=true,fN:=[3]}) (an (.aa false) (aj 1 (cr 5 (an (.aa true) [])))))))),.aa true,(J 2),.aL [0,1,2,3,4,5] [.box [.id,.id,.id,.id,.id,.id],.bD (ah 1 (a9 2 0 2) ap),.bD (bZ 2 aX a7),.pure,.pure,.pure] (a8 [0,1,5,13,14])]) (aQ.aJ (.bl bn bn bn bn bn bn cE (et q1 2 2 0 2 rfl ap) (.c9 (dt q1 2 e8 a7) (aK 1 .live aP al) (aK 1 .live eX aH) (aK 1 .live aP bF))))))
  (fun bn =>
  .aZ fun cp =>
  .au fun ef eV =>
  (let t3:List bX:=t1.append [.az (aj 6 (an (.b4 (eg aE)) (aj 7 (an (.call {ac:=[.bw (.dK (.e5 (al.map eI))),ii],r:= .b cf,fE:=true,fN:=[3]}) (an (.aa false) (aj 4 (an (.call {ac:=[.bw (.ptr [.view 2 (ab.mk 1 (ap.map (a9 2 0 2)) .live) ((ap.map (gz a7)).map (eL 2 aX)),.id,.id,.e5 (al.map eI),.id,.e5 (aH.map eg)]),.bw (.dK (.e5 (bF.map eI))),ii],r:= .n .i64 ef,fE:=true,fN:=[0,1,2,3,4,5]}) (aj 1 (an (.aa false) [])))))))))];
  have eR:=aQ.aJ (.bl bn bn bn bn (rfl:db (some (ah 1 (a9 2 0 2) ap)) 0=some (ab.mk 1 (ap.map (a9 2 0 2)) .live)) (rfl:_=true) (fT (a9 2 0 2) ap) (dS (l1 (sz:=2) rM) (ap.map (gz a7))) (.bl (qz (dy:=2) (ix:=[]++(bZ 2 aX a7)) (bY:=i3) (sz:=1) (g:=(eL 2 aX)) (cW (a9 2 0 2) ap) (fun _=>rfl) (fun x R=>(rz (dy:=2) (c:=0) (bY:=i3) (ov:=[]) (fG .live 2 aX a7) rM rfl ir rfl (rm cp x R))) (dL ap)) (gN eI al) (fT eI al) (dS aP al) (gN eg aH) (fT eg aH) (dS eX aH) (qp (IG (⟨ap.map (gz a7),(⟨aF,aD⟩:bp),al,b1,aH⟩:qo)):jF [[.isl 1 ((ap.map (gz a7)).map (eL 2 aX)),.b aF,.isl 1 (aD.map eI),.isl 1 (al.map eI),.n .i64 b1,.isl 1 (aH.map eg)]]) (.eJ (gN eI bF) (fT eI bF) (dS aP bF) (MR ef eV) (b9.n .i64 ef) bn bn)));
  .ite (fun e4 =>
  .ret (let aY:=cv [0,1,2,3,4,5];bh (t3.append [.aa true,(J 2),.aL [0,1,2,3,4,5] [.box [.id,.id,.id,.id,.id,.id],.bD (ah 1 (a9 2 0 2) ap),.bD (bZ 2 aX a7),.pure,.pure,.pure] (a8 [0,1,5,13,14])]) (eR.aJ (.d5 e4 (et aY 2 2 0 2 rfl ap) (dt aY 2 e8 a7) (aK 1 .live aP al) (aK 1 .live eX aH) (aK 1 .live aP bF)))))
  (fun e4 =>
  .au fun ex ew =>
  (let t5:List bX:=t3.append [.aa false,.az (bs 2 (.call {ac:=[.bw (.ptr [.view 2 (ab.mk 1 (ap.map (a9 2 0 2)) .live) ((ap.map (gz a7)).map (eL 2 aX)),.id,.id,.e5 (al.map eI),.id,.e5 (aH.map eg)]),ii],r:= .n .i64 ex,fE:=true,fN:=[0,1,2,3,4]}) 1),(J 2)];
  have kF:=eR.aJ (.bl e4 (rfl:db (some (ah 1 (a9 2 0 2) ap)) 0=some (ab.mk 1 (ap.map (a9 2 0 2)) .live)) (rfl:_=true) (fT (a9 2 0 2) ap) (dS (l1 (sz:=2) rM) (ap.map (gz a7))) (qz (dy:=2) (ix:=[]++(bZ 2 aX a7)) (bY:=i3) (sz:=1) (g:=(eL 2 aX)) (cW (a9 2 0 2) ap) (fun _=>rfl) (fun x R=>(rz (dy:=2) (c:=0) (bY:=i3) (ov:=[]) (fG .live 2 aX a7) rM rfl ir rfl (rm cp x R))) (dL ap)) (gN eI al) (fT eI al) (.eJ (dS aP al) (gN eg aH) (fT eg aH) (dS eX aH) (qp (IG (⟨ap.map (gz a7),(⟨aF,aD⟩:bp),al,b1,aH⟩:qo)):jF [[.isl 1 ((ap.map (gz a7)).map (eL 2 aX)),.b aF,.isl 1 (aD.map eI),.isl 1 (al.map eI),.n .i64 b1,.isl 1 (aH.map eg)]]) (Ut ex ew) (b9.n .i64 ex)));
  .ite (fun fS =>
  .ret (let bJ:=cv [0,1,2,3,4,5];bh (t5.append [.aa true,(J 1),.aL [0,1,2,3,4,5] [.box [.id,.id,.id,.id,.id,.id],.bD (ah 1 (a9 2 0 2) ap),.bD (bZ 2 aX a7),.pure,.pure,.pure] (a8 [4])]) (kF.aJ (.d5 fS (et bJ 2 2 0 2 rfl ap) (dt bJ 2 e8 a7) (aK 1 .live aP al) (aK 1 .live eX aH) (aK 1 .live aP bF)))))
  (fun fS =>
  .au fun ey hy =>
  .ret (let bS:=f8 1 0 0 ap.length ey.1 ey.2.1 3 0 0 ey.2.2.2.length b1 4 0 0 aH.length;let cA:=f8 1 0 0 ap.length aF aD 3 0 0 al.length b1 4 0 0 aH.length;let d4:=ah 1 (a9 2 0 2) ap;let fP:=bZ 2 aX ey.2.2.1;let eB:=pa [0,1,2,3,4];let hI:=iC [0,1,2,3,4];let jA:=kD 1 (ap.map (a9 2 0 2));let jB:=cv [0,1,2,3,4,5];bh (t5.append [.aa false,.az (aj 3 (an (.call {a0:=(u0 [0,1,2,3,4]),dp:=[.bD [ab.mk 6 [cA] .live],.bD d4,.bD (bZ 2 aX a7),.pure,.pure],ac:=[ii,ii,ii],r:= .dZ [],fw:=[[ab.mk 6 [bS] .live],d4,fP,(ah 1 eI ey.2.2.2),(ah 1 eg aH)],h6:=ii,ke:=[.bD [ab.mk 6 [bS] .live],.bD d4,.bD fP,.pure,.pure],fN:=[0,1,2,3,4],fE:=false}) [])),(J 1),.aL [0,1,2,3,4,5] [.box [.id,.id,.id,.id,.id,.id],.bD d4,.bD fP,.pure,.pure,.pure] (a8 [0,1,5])]) (kF.aJ (.bl fS (x1 eB 6 [cA] [cA] rfl) (kD 6 [cA]) (et eB 2 2 0 2 rfl ap) jA (dt eB 2 e8 a7) (tA 2 aX a7) (iQ 1 aP al) (.bl (iQ 1 eX aH) (x1 hI 6 [bS] [bS] rfl) (kD 6 [bS]) (et hI 2 2 0 2 rfl ap) jA (dt hI 2 e8 ey.2.2.1) (tA 2 aX ey.2.2.1) (iQ 1 aP ey.2.2.2) (.eJ (iQ 1 eX aH) (ME ey hy) (et jB 2 2 0 2 rfl ap) (dt jB 2 e8 ey.2.2.1) (aK 1 .live aP ey.2.2.2) (aK 1 .live eX aH) (aK 1 .live aP bF)))))))))))))
  (fun aA =>
  .ret (let mo:=cv [0,1,2,3,4,5];bh (t1.append [.az (aj 6 (an (.b4 (eg aE)) (aj 2 (cr 6 (an (.aa true) (aj 1 (cr 5 (aj 1 [])))))))),.aa true,(J 2),.aL [0,1,2,3,4,5] [.box [.id,.id,.id,.id,.id,.id],.bD (ah 1 (a9 2 0 2) ap),.bD (bZ 2 aX a7),.pure,.pure,.pure] (a8 [0,1,5,13,14])]) (.bl h1 o.1 o.2 (bU eg av) (cU aA) (cU aA) (cU aA) (cU aA) (.bl (cU aA) (cU aA) (cU aA) cE cE cE cE cE (.d5 cE (et mo 2 2 0 2 rfl ap) (dt mo 2 e8 a7) (aK 1 .live aP al) (aK 1 .live eX aH) (aK 1 .live aP bF))))))))
  (fun h1 =>
  .ret (let iO:=cv [0,1,2,3,4,5];bh [(J 1),.aa false,.aL [0,1,2,3,4,5] [.box [.id,.id,.id,.id,.id,.id],.bD (ah 1 (a9 2 0 2) ap),.bD (bZ 2 aX a7),.pure,.pure,.pure] (a8 [0,1,5])] (.d5 h1 (et iO 2 2 0 2 rfl ap) (dt iO 2 e8 a7) (aK 1 .live aP al) (aK 1 .live eX aH) (aK 1 .live aP bF))))
theorem Mt {b1:Int}{aF:Bool}{aD:List Int}{ap:List bt}{a7:List (List bp)}{al:List Int}{aH:List Bool}{bF:List Int}{ch:Int}{r} (h:vM b1 aF aD ap a7 al aH bF ch=some r):dN bb 87 6 70 [1,0,1,0,0,1,0,1,1,0,0] (Fc b1 aF aD ap a7 al aH bF) (Cn b1 aF aD ap a7 al aH bF) ch r:=dO (fun _=>S1) h
def Fe (bq:Int)(ap:List bt)(aH:List Bool)(bF:List Int):(Bool×Bool×(List Int)×(List (List bp))×(List Int))→S:=fun (qv,aF,aD,a7,al)=>dl [(0,.ref 0 0 0 0),(1,.bm 5 0 0 bF.length),(5,.b qv)] [[ab.mk 6 [(f8 1 0 0 ap.length aF aD 3 0 0 al.length bq 4 0 0 aH.length)] .live],(ah 1 (a9 2 0 2) ap),(bZ 2 aX a7),(ah 1 eI al),(ah 1 eg aH),(ah 1 eI bF)]
def Co (bq:Int)(ap:List bt)(aH:List Bool)(bF:List Int):((Bool×(List Int)×(List (List bp))×(List Int))⊕(Bool×(List Int)×(List (List bp))×(List Int)))→dm
 | .inl a=>⟨some 0,[(0,.ref 0 0 0 0),(1,.bm 5 0 0 bF.length)],[[ab.mk 6 [(f8 1 0 0 ap.length a.1 a.2.1 3 0 0 a.2.2.2.length bq 4 0 0 aH.length)] .live],(ah 1 (a9 2 0 2) ap),(bZ 2 aX a.2.2.1),(ah 1 eI a.2.2.2),(ah 1 eg aH),(ah 1 eI bF)]⟩
 | .inr a=>⟨none,[(4,.b false)],[[ab.mk 6 [(f8 1 0 0 ap.length a.1 a.2.1 3 0 0 a.2.2.2.length bq 4 0 0 aH.length)] .live],(ah 1 (a9 2 0 2) ap),(bZ 2 aX a.2.2.1),(ah 1 eI a.2.2.2),(ah 1 eg aH),(ah 1 eI bF)]⟩
def tF (bq:Int)(ap:List bt)(aH:List Bool)(bF:List Int)(qv aF:Bool)(aD:List Int)(a7:List (List bp))(al:List Int):Option ((Bool×Bool×(List Int)×(List (List bp))×(List Int))⊕((Bool×(List Int)×(List (List bp))×(List Int))⊕(Bool×(List Int)×(List (List bp))×(List Int)))) :=
 if qv=true then
  vM bq aF aD ap a7 al aH bF 0 >>= fun b5 =>
  match b5 with
  | .inl ff=>(some (.inl (ff.1,ff.2.1,ff.2.2.1,ff.2.2.2.1,ff.2.2.2.2)))
  | .inr ff=>(some (.inr (.inr (aF,aD,a7,al))))
 else
  some (.inr (.inl (aF,aD,a7,al)))
def Cs (bq:Int)(ap:List bt)(aH:List Bool)(bF:List Int)(qv aF:Bool)(aD:List Int)(a7:List (List bp))(al:List Int):Option ((Bool×(List Int)×(List (List bp))×(List Int))⊕(Bool×(List Int)×(List (List bp))×(List Int))):=iter (fun w:Bool×Bool×(List Int)×(List (List bp))×(List Int)=>tF bq ap aH bF w.1 w.2.1 w.2.2.1 w.2.2.2.1 w.2.2.2.2) (qv,aF,aD,a7,al)
theorem S2 {bq:Int}{ap:List bt}{aH:List Bool}{bF:List Int}{qv aF:Bool}{aD:List Int}{a7:List (List bp)}{al:List Int}:bA (tF bq ap aH bF qv aF aD a7 al) (dM bb 87 6 70 [1,0,1,0,0] (Fe bq ap aH bF (qv,aF,aD,a7,al)) (Fe bq ap aH bF) (Co bq ap aH bF)):=by
 unfold tF
 exact .ite (fun h1 =>
  .au fun b5 ae =>
  (let bS:=cv [0,1,2,3,4,5];let t1:List bX:=[(J 1),.aa true,(J 1),(J 5),.aL [0,1,2,3,4,5] [.box [.id,.id,.id,.id,.id,.id],.bD (ah 1 (a9 2 0 2) ap),.bD (bZ 2 aX a7),.pure,.pure,.pure] (a8 [0,1,5,13,14])];
  have aQ:=((.d5 h1 (et bS 2 2 0 2 rfl ap) (dt bS 2 e8 a7) (aK 1 .live aP al) (aK 1 .live eX aH) (aK 1 .live aP bF)):cq _);
  (by
  rcases b5 with ff|ff
  ·exact (.ret (let q1:=cv [0,1,2,3,4,5];bh (t1.append [(Cn bq aF aD ap a7 al aH bF (.inl ff)).fb,.aL [0,1,2,3,4,5] [.box [.id,.id,.id,.id,.id,.id],.bD (ah 1 (a9 2 0 2) ap),.bD (bZ 2 aX ff.2.2.2.1),.pure,.pure,.pure] (a8 [0,1,5])]) (aQ.aJ (.d5 (Mt ae) (et q1 2 2 0 2 rfl ap) (dt q1 2 e8 ff.2.2.2.1) (aK 1 .live aP ff.2.2.2.2) (aK 1 .live eX aH) (aK 1 .live aP bF)))))
  ·exact (.ret (let aY:=cv [0,1,2,3,4,5];bh (t1.append [(Cn bq aF aD ap a7 al aH bF (.inr ff)).fb,.aL [0,1,2,3,4,5] [.box [.id,.id,.id,.id,.id,.id],.bD (ah 1 (a9 2 0 2) ap),.bD (bZ 2 aX a7),.pure,.pure,.pure] (a8 [4])]) (aQ.aJ (.d5 (Mt ae) (et aY 2 2 0 2 rfl ap) (dt aY 2 e8 a7) (aK 1 .live aP al) (aK 1 .live eX aH) (aK 1 .live aP bF))))))))
  (fun h1 =>
  .ret (let bJ:=cv [0,1,2,3,4,5];bh [(J 1),.aa false,.aL [0,1,2,3,4,5] [.box [.id,.id,.id,.id,.id,.id],.bD (ah 1 (a9 2 0 2) ap),.bD (bZ 2 aX a7),.pure,.pure,.pure] (a8 [0,1])] (.d5 h1 (et bJ 2 2 0 2 rfl ap) (dt bJ 2 e8 a7) (aK 1 .live aP al) (aK 1 .live eX aH) (aK 1 .live aP bF))))
theorem Mu {bq:Int}{ap:List bt}{aH:List Bool}{bF:List Int}{qv aF:Bool}{aD:List Int}{a7:List (List bp)}{al:List Int}{r} (h:Cs bq ap aH bF qv aF aD a7 al=some r):dN bb 87 6 70 [1,0,1,0,0] (Fe bq ap aH bF) (Co bq ap aH bF) (qv,aF,aD,a7,al) r:=dO (fun _=>S2) h
def Ff (d8:Int)(aF:Bool)(aD:List Int)(ap:List bt)(a7:List (List bp))(al bF:List Int):(Int×(List Bool))→S:=fun (fj,aH)=>dl [(0,.ref 0 0 0 0),(1,.bm 5 0 0 bF.length),(53,.n .i64 d8),(54,.n .i64 fj)] [[ab.mk 6 [(f8 1 0 0 ap.length aF aD 3 0 0 al.length d8 4 0 0 aH.length)] .live],(ah 1 (a9 2 0 2) ap),(bZ 2 aX a7),(ah 1 eI al),(ah 1 eg aH),(ah 1 eI bF)]
def Fl (d8:Int)(aF:Bool)(aD:List Int)(ap:List bt)(a7:List (List bp))(al bF:List Int):(List Bool)→dm
 | a=>⟨some 4,[],[[ab.mk 6 [(f8 1 0 0 ap.length aF aD 3 0 0 al.length d8 4 0 0 a.length)] .live],(ah 1 (a9 2 0 2) ap),(bZ 2 aX a7),(ah 1 eI al),(ah 1 eg a),(ah 1 eI bF)]⟩
def vE (d8:Int)(aF:Bool)(aD:List Int)(ap:List bt)(a7:List (List bp))(al bF:List Int)(fj:Int)(aH:List Bool):Option ((Int×(List Bool))⊕((List Bool))) :=
 if (decide (fj<d8))=true then
  if 0≤fj∧fj<(aH.length:Nat) then
  aH[(0+fj.toNat)]? >>= fun aE =>
  if aE=true then
   xl al fj >>= fun cf =>
   if cf=true then
    some (.inl (U (fj+(1:Int)),aH))
   else
    if ap.all (oM a7)=true then
    wW (⟨ap.map (gz a7),(⟨aF,aD⟩:bp),al,d8,aH⟩:qo) bF fj >>= fun ef =>
    if (decide (ef<(0:Int)))=true then
     if (0+fj.toNat)<aH.length then
     some (.inl (U (fj+(1:Int)),aH.set (0+fj.toNat) false))
     else none
    else
     some (.inl (U (fj+(1:Int)),aH))
    else none
  else
   some (.inl (U (fj+(1:Int)),aH))
  else none
 else
  some (.inr aH)
def Ct (d8:Int)(aF:Bool)(aD:List Int)(ap:List bt)(a7:List (List bp))(al bF:List Int)(fj:Int)(aH:List Bool):Option ((List Bool)):=iter (fun w:Int×(List Bool)=>vE d8 aF aD ap a7 al bF w.1 w.2) (fj,aH)
theorem S3 {d8:Int}{aF:Bool}{aD:List Int}{ap:List bt}{a7:List (List bp)}{al bF:List Int}{fj:Int}{aH:List Bool}:bA (vE d8 aF aD ap a7 al bF fj aH) (dM bb 87 6 70 [1,1,0,1,0,0] (Ff d8 aF aD ap a7 al bF (fj,aH)) (Ff d8 aF aD ap a7 al bF) (Fl d8 aF aD ap a7 al bF)):=by
 unfold vE
 exact .ite (fun h1 =>
  .aZ fun o =>
  .au fun aE av =>
  (let t1:List bX:=[(J 1),.aa true,(J 2)];
  .ite (fun aA =>
  .au fun cf bd =>
  (have aQ:=((.bl h1 o.1 o.2 (bU eg av) aA aA aA aA (.bl aA aA (gN eI al) (fT eI al) (dS aP al) (NU cf bd) (b9.b cf) aA (.e1 aA))):cq _);
  .ite (fun bn =>
  .ret (let q1:=cv [0,1,2,3,4,5];bh (t1.append [.az (aj 6 (an (.b4 (eg aE)) (aj 6 (an (.call {ac:=[.bw (.dK (.e5 (al.map eI))),ii],r:= .b cf,fE:=true,fN:=[3]}) (aj 1 (an (.aa true) (aj 1 (cr 5 (an (.aa false) []))))))))),.aa false,(J 2),.aL [0,1,2,3,4,5] [.box [.id,.id,.id,.id,.id,.id],.bD (ah 1 (a9 2 0 2) ap),.bD (bZ 2 aX a7),.pure,.pure,.pure] (a8 [0,1,53,54])]) (aQ.aJ (.bl (cY bn) (cY bn) (cY bn) (cY bn) (cY bn) (cY bn) c1 (et q1 2 2 0 2 rfl ap) (.c9 (dt q1 2 e8 a7) (aK 1 .live aP al) (aK 1 .live eX aH) (aK 1 .live aP bF))))))
  (fun bn =>
  .aZ fun cp =>
  .au fun ef eV =>
  (let t3:List bX:=t1.append [.az (aj 6 (an (.b4 (eg aE)) (aj 6 (an (.call {ac:=[.bw (.dK (.e5 (al.map eI))),ii],r:= .b cf,fE:=true,fN:=[3]}) (aj 1 (an (.aa true) (aj 4 (an (.call {ac:=[.bw (.ptr [.view 2 (ab.mk 1 (ap.map (a9 2 0 2)) .live) ((ap.map (gz a7)).map (eL 2 aX)),.id,.id,.e5 (al.map eI),.id,.e5 (aH.map eg)]),.bw (.dK (.e5 (bF.map eI))),ii],r:= .n .i64 ef,fE:=true,fN:=[0,1,2,3,4,5]}) (aj 1 (an (.aa true) []))))))))))];
  have eR:=aQ.aJ (.bl (cU bn) (cU bn) (cU bn) (cU bn) (rfl:db (some (ah 1 (a9 2 0 2) ap)) 0=some (ab.mk 1 (ap.map (a9 2 0 2)) .live)) (rfl:_=true) (fT (a9 2 0 2) ap) (dS (l1 (sz:=2) rM) (ap.map (gz a7))) (.bl (qz (dy:=2) (ix:=[]++(bZ 2 aX a7)) (bY:=i3) (sz:=1) (g:=(eL 2 aX)) (cW (a9 2 0 2) ap) (fun _=>rfl) (fun x R=>(rz (dy:=2) (c:=0) (bY:=i3) (ov:=[]) (fG .live 2 aX a7) rM rfl ir rfl (rm cp x R))) (dL ap)) (gN eI al) (fT eI al) (dS aP al) (gN eg aH) (fT eg aH) (dS eX aH) (qp (IG (⟨ap.map (gz a7),(⟨aF,aD⟩:bp),al,d8,aH⟩:qo)):jF [[.isl 1 ((ap.map (gz a7)).map (eL 2 aX)),.b aF,.isl 1 (aD.map eI),.isl 1 (al.map eI),.n .i64 d8,.isl 1 (aH.map eg)]]) (.eJ (gN eI bF) (fT eI bF) (dS aP bF) (MR ef eV) (b9.n .i64 ef) (cU bn) (cU bn))));
  .ite (fun e4 =>
  .aZ fun ev =>
  .ret (let aY:=cv [0,1,2,3,4,5];bh (t3.append [.aa true,.az (aj 6 (an .fQ [])),(J 2),.aL [0,1,2,3,4,5] [.box [.id,.id,.id,.id,.id,.len ((aH.set (0+fj.toNat) false).length)],.bD (ah 1 (a9 2 0 2) ap),.bD (bZ 2 aX a7),.pure,.cL (ah 1 eg (aH.set (0+fj.toNat) false)),.pure] (a8 [0,1,53,54])]) (eR.aJ (.bl e4 o.1 o.2 (hE eg ev) (hs 1) (hR (dL aH) (0+fj.toNat) false) (et aY 2 2 0 2 rfl ap) (dt aY 2 e8 a7) (.c9 (aK 1 .live aP al) (c6 1 .live (gD (cW eg aH) (0+fj.toNat) false)) (aK 1 .live eX (aH.set (0+fj.toNat) false)) (aK 1 .live aP bF))))))
  (fun e4 =>
  .ret (let bJ:=cv [0,1,2,3,4,5];bh (t3.append [.aa false,(J 2),.aL [0,1,2,3,4,5] [.box [.id,.id,.id,.id,.id,.id],.bD (ah 1 (a9 2 0 2) ap),.bD (bZ 2 aX a7),.pure,.pure,.pure] (a8 [0,1,53,54])]) (eR.aJ (.d5 e4 (et bJ 2 2 0 2 rfl ap) (dt bJ 2 e8 a7) (aK 1 .live aP al) (aK 1 .live eX aH) (aK 1 .live aP bF)))))))))
  (fun aA =>
  .ret (let bS:=cv [0,1,2,3,4,5];bh (t1.append [.az (aj 6 (an (.b4 (eg aE)) (aj 1 (cr 7 (an (.aa false) (aj 1 (cr 5 (aj 1 [])))))))),.aa false,(J 2),.aL [0,1,2,3,4,5] [.box [.id,.id,.id,.id,.id,.id],.bD (ah 1 (a9 2 0 2) ap),.bD (bZ 2 aX a7),.pure,.pure,.pure] (a8 [0,1,53,54])]) (.bl h1 o.1 o.2 (bU eg av) aA aA aA aA (.bl aA aA aA aA c1 c1 c1 c1 (.eJ c1 c1 (et bS 2 2 0 2 rfl ap) (dt bS 2 e8 a7) (aK 1 .live aP al) (aK 1 .live eX aH) (aK 1 .live aP bF))))))))
  (fun h1 =>
  .ret (let cA:=cv [0,1,2,3,4,5];bh [(J 1),.aa false,.aL [0,1,2,3,4,5] [.box [.id,.id,.id,.id,.id,.id],.bD (ah 1 (a9 2 0 2) ap),.bD (bZ 2 aX a7),.pure,.pure,.pure] []] (.d5 h1 (et cA 2 2 0 2 rfl ap) (dt cA 2 e8 a7) (aK 1 .live aP al) (aK 1 .live eX aH) (aK 1 .live aP bF))))
theorem Tp {d8:Int}{aF:Bool}{aD:List Int}{ap:List bt}{a7:List (List bp)}{al bF:List Int}{fj:Int}{aH:List Bool}{r} (h:Ct d8 aF aD ap a7 al bF fj aH=some r):dN bb 87 6 70 [1,1,0,1,0,0] (Ff d8 aF aD ap a7 al bF) (Fl d8 aF aD ap a7 al bF) (fj,aH) r:=dO (fun _=>S3) h
def wa (oI:Bool)(oD:List Int)(jG:Int)(fe:List bt)(lV:List (List bp))(ig:List Int)(hB:List Bool)(o6:List Int):Option (Bool×Bool×(List Int)×(List (List bp))×(List Int)×(List Bool)) :=
 Cs jG fe hB o6 true oI oD lV ig >>= fun r1 =>
 match r1 with
 | .inl di=>(Ct jG di.1 di.2.1 fe di.2.2.1 di.2.2.2 o6 0 hB >>= fun bi =>
  some (true,di.1,di.2.1,di.2.2.1,di.2.2.2,bi))
 | .inr di=>(some (false,di.1,di.2.1,di.2.2.1,di.2.2.2,hB))
theorem TU {oI:Bool}{oD:List Int}{jG:Int}{fe:List bt}{lV:List (List bp)}{ig:List Int}{hB:List Bool}{o6:List Int}:bA (wa oI oD jG fe lV ig hB o6) (fun a=>Con bb 70 [.ref 0 0 0 0,.bm 5 0 0 o6.length] [[ab.mk 6 [(f8 1 0 0 fe.length oI oD 3 0 0 ig.length jG 4 0 0 hB.length)] .live],(ah 1 (a9 2 0 2) fe),(bZ 2 aX lV),(ah 1 eI ig),(ah 1 eg hB),(ah 1 eI o6)] (.b a.1) [[ab.mk 6 [(f8 1 0 0 fe.length a.2.1 a.2.2.1 3 0 0 a.2.2.2.2.1.length jG 4 0 0 a.2.2.2.2.2.length)] .live],(ah 1 (a9 2 0 2) fe),(bZ 2 aX a.2.2.2.1),(ah 1 eI a.2.2.2.2.1),(ah 1 eg a.2.2.2.2.2),(ah 1 eI o6)]):=by
 unfold wa
 exact .au fun r1 o =>
  (let hI:=cv [0,1,2,3,4,5];let t1:List bX:=[(J 1),(J 1),.aL [0,1,2,3,4,5] [.box [.id,.id,.id,.id,.id,.id],.bD (ah 1 (a9 2 0 2) fe),.bD (bZ 2 aX lV),.pure,.pure,.pure] (a8 [0,1,5])];
  have aQ:=((.dn (et hI 2 2 0 2 rfl fe) (dt hI 2 e8 lV) (aK 1 .live aP ig) (aK 1 .live eX hB) (aK 1 .live aP o6)):cq _);
  (by
  rcases r1 with di|di
  ·exact (.au fun bi aA =>
  .ret (let q1:=f8 1 0 0 fe.length di.1 di.2.1 3 0 0 di.2.2.2.length jG 4 0 0 bi.length;let aY:=cv [0,1,2,3,4,5];let bJ:=aK 1 .live aP di.2.2.2;let bS:=dt aY 2 e8 di.2.2.1;let cA:=bZ 2 aX di.2.2.1;let d4:=et aY 2 2 0 2 rfl fe;lC (t1.append [(Co jG fe hB o6 (.inl di)).fb,(J 5),.aL [0,1,2,3,4,5] [.box [.id,.id,.id,.id,.id,.id],.bD (ah 1 (a9 2 0 2) fe),.bD cA,.pure,.pure,.pure] (a8 [0,1,53,54]),(Fl jG di.1 di.2.1 fe di.2.2.1 di.2.2.2 o6 bi).fb,(J 1)]) [0,1,2,3,4,5] [.bD [ab.mk 6 [q1] .live],.bD (ah 1 (a9 2 0 2) fe),.bD cA,.pure,.pure,.pure] (aQ.aJ (.bl (Mu o) d4 bS bJ (aK 1 .live eX hB) (aK 1 .live aP o6) (Tp aA) (x1 aY 6 [q1] [q1] rfl) (.dn d4 bS bJ (aK 1 .live eX bi) (aK 1 .live aP o6))))))
  ·exact (.ret (let fP:=f8 1 0 0 fe.length di.1 di.2.1 3 0 0 di.2.2.2.length jG 4 0 0 hB.length;let eB:=cv [0,1,2,3,4,5];lC (t1.append [(Co jG fe hB o6 (.inr di)).fb]) [0,1,2,3,4,5] [.bD [ab.mk 6 [fP] .live],.bD (ah 1 (a9 2 0 2) fe),.bD (bZ 2 aX di.2.2.1),.pure,.pure,.pure] (aQ.aJ (.eJ (Mu o) (x1 eB 6 [fP] [fP] rfl) (et eB 2 2 0 2 rfl fe) (dt eB 2 e8 di.2.2.1) (aK 1 .live aP di.2.2.2) (aK 1 .live eX hB) (aK 1 .live aP o6)))))))
def Fw (hT ag:Int)(aF:Bool)(aD:List Int)(bq:Int)(ap:List bt)(a7:List (List bp))(al:List Int)(aH:List Bool):Int→S:=fun bz=>dl [(0,.ref 0 0 0 0),(1,.n .i64 hT),(4,.n .i64 ag),(5,.n .i64 bz)] [[ab.mk 6 [(f8 1 0 0 ap.length aF aD 3 0 0 al.length bq 4 0 0 aH.length)] .live],(ah 1 (a9 2 0 2) ap),(bZ 2 aX a7),(ah 1 eI al),(ah 1 eg aH)]
def FC (hT ag:Int)(aF:Bool)(aD:List Int)(bq:Int)(ap:List bt)(a7:List (List bp))(al:List Int)(aH:List Bool):Int→dm
 | a=>⟨some 2,[(0,.ref 0 0 0 0),(1,.n .i64 hT),(4,.n .i64 ag),(5,.n .i64 a)],[[ab.mk 6 [(f8 1 0 0 ap.length aF aD 3 0 0 al.length bq 4 0 0 aH.length)] .live],(ah 1 (a9 2 0 2) ap),(bZ 2 aX a7),(ah 1 eI al),(ah 1 eg aH)]⟩
def vL (hT ag:Int)(aF:Bool)(aD:List Int)(bq:Int)(ap:List bt)(a7:List (List bp))(al:List Int)(aH:List Bool)(bz:Int):Option ((Int)⊕(Int)) :=
 if (decide (bz<hT))=true then
  if 0≤ag∧ag<(ap.length:Nat) then
  ap[(0+ag.toNat)]? >>= fun aE =>
  aE >>= fun lE =>
  a7[lE.1]? >>= fun iD =>
  if 0≤bz∧bz<(lE.2:Nat) then
  iD[(0+bz.toNat)]? >>= fun iU =>
  oT iU >>= fun dT =>
  if (dT == (0:Int))=true then
   some (.inl (U (bz+(1:Int))))
  else
   some (.inr bz)
  else none
  else none
 else
  some (.inr bz)
def Cy (hT ag:Int)(aF:Bool)(aD:List Int)(bq:Int)(ap:List bt)(a7:List (List bp))(al:List Int)(aH:List Bool)(bz:Int):Option (Int):=iter (fun w:Int=>vL hT ag aF aD bq ap a7 al aH w) bz
theorem Tk {hT ag:Int}{aF:Bool}{aD:List Int}{bq:Int}{ap:List bt}{a7:List (List bp)}{al:List Int}{aH:List Bool}{bz:Int}:bA (vL hT ag aF aD bq ap a7 al aH bz) (dM bb 86 5 72 [1,0,0,1,0,1,1,0,0,0] (Fw hT ag aF aD bq ap a7 al aH bz) (Fw hT ag aF aD bq ap a7 al aH) (FC hT ag aF aD bq ap a7 al aH)):=by
 unfold vL
 exact .ite (fun h1 =>
  .aZ fun o =>
  .au fun aE av =>
  .au fun lE a2 =>
  .au fun iD bn =>
  .aZ fun cp =>
  .au fun iU eV =>
  .au fun dT ev =>
  (let q1:=jZ (fG .live 2 aX a7) ir bn;let t1:List bX:=[.az (aj 10 (an (.b4 ((a9 2 0 2) aE)) (aj 1 (an (.j2 34 (.bm 2 (lE.1+0) 0 lE.2) (.gi (ab.mk 2 (iD.map aX) .live) [])) (an (.gi (ab.mk 2 (iD.map aX) .live) (aX iU)) (an (br 1 (.n .i64 dT) true) (aj 1 (an (.aa true) []))))))))];
  have aQ:=((.bl h1 h1 h1 h1 h1 h1 o.1 o.2 (.bl h1 (bU (a9 2 0 2) av) h1 h1 (l2 (dy:=2) (c:=0) (sz:=2) a2) q1 cp.1 cp.2 (.gS h1 q1 (bU aX eV) h1 (sD dT ev) (b9.n .i64 dT) h1 h1))):cq _);
  .ite (fun ew =>
  .ret (bh (t1.append [.aa true,(J 3),.aL [0,1,2,3,4] [.box [.id,.id,.id,.id,.id,.id],.bD (ah 1 (a9 2 0 2) ap),.bD (bZ 2 aX a7),.pure,.pure] (a8 [0,1,4,5])]) (aQ.aJ (.dn ew (et (cv [0,1,2,3,4]) 2 2 0 2 rfl ap) (dt (cv [0,1,2,3,4]) 2 e8 a7) (aK 1 .live aP al) (aK 1 .live eX aH)))))
  (fun ew =>
  .ret (bh (t1.append [.aa false,.aL [0,1,2,3,4] [.box [.id,.id,.id,.id,.id,.id],.bD (ah 1 (a9 2 0 2) ap),.bD (bZ 2 aX a7),.pure,.pure] (a8 [0,1,4,5])]) (aQ.aJ (.dn ew (et (cv [0,1,2,3,4]) 2 2 0 2 rfl ap) (dt (cv [0,1,2,3,4]) 2 e8 a7) (aK 1 .live aP al) (aK 1 .live eX aH)))))))
  (fun h1 =>
  .ret (bh [.az (aj 4 (cr 12 (an (.aa false) []))),.aa false,.aL [0,1,2,3,4] [.box [.id,.id,.id,.id,.id,.id],.bD (ah 1 (a9 2 0 2) ap),.bD (bZ 2 aX a7),.pure,.pure] (a8 [0,1,4,5])] (.bl h1 h1 h1 h1 h1 h1 h1 h1 (.bl h1 h1 h1 h1 h1 c1 (et (cv [0,1,2,3,4]) 2 2 0 2 rfl ap) (dt (cv [0,1,2,3,4]) 2 e8 a7) (.aC (aK 1 .live aP al) (aK 1 .live eX aH))))))
theorem TV {hT ag:Int}{aF:Bool}{aD:List Int}{bq:Int}{ap:List bt}{a7:List (List bp)}{al:List Int}{aH:List Bool}{bz:Int}{r} (h:Cy hT ag aF aD bq ap a7 al aH bz=some r):dN bb 86 5 72 [1,0,0,1,0,1,1,0,0,0] (Fw hT ag aF aD bq ap a7 al aH) (FC hT ag aF aD bq ap a7 al aH) bz r:=dO (fun _=>Tk) h
def Fx (hT bq:Int)(aH:List Bool):(Int×Bool×(List Int)×(List bt)×(List (List bp))×(List Int))→S:=fun (ag,aF,aD,ap,a7,al)=>dl [(0,.ref 0 0 0 0),(1,.n .i64 hT),(4,.n .i64 ag)] [[ab.mk 6 [(f8 1 0 0 ap.length aF aD 3 0 0 al.length bq 4 0 0 aH.length)] .live],(ah 1 (a9 2 0 2) ap),(bZ 2 aX a7),(ah 1 eI al),(ah 1 eg aH)]
def FD (hT bq:Int)(aH:List Bool):(Bool×(List Int)×(List bt)×(List (List bp))×(List Int))→dm
 | a=>⟨some 0,[],[[ab.mk 6 [(f8 1 0 0 a.2.2.1.length a.1 a.2.1 3 0 0 a.2.2.2.2.length bq 4 0 0 aH.length)] .live],(ah 1 (a9 2 0 2) a.2.2.1),(bZ 2 aX a.2.2.2.1),(ah 1 eI a.2.2.2.2),(ah 1 eg aH)]⟩
def yR (hT bq:Int)(aH:List Bool)(ag:Int)(aF:Bool)(aD:List Int)(ap:List bt)(a7:List (List bp))(al:List Int):Option ((Int×Bool×(List Int)×(List bt)×(List (List bp))×(List Int))⊕(Bool×(List Int)×(List bt)×(List (List bp))×(List Int))) :=
 if (decide (ag<((ap.length:Nat):Int)))=true then
  if 0≤ag∧ag<(al.length:Nat) then
  al[(0+ag.toNat)]? >>= fun aE =>
  if (decide (aE<hT))=true then
   some (.inl (U (ag+(1:Int)),aF,aD,ap,a7,al))
  else
   Cy hT ag aF aD bq ap a7 al aH 0 >>= fun cf =>
   if (decide (cf<hT))=true then
    wz ag cf aF aD bq ap a7 al aH >>= fun bx =>
    some (.inl (U (ag+(1:Int)),bx.1,bx.2.1,ap,bx.2.2.1,bx.2.2.2))
   else
    if 0≤ag then
    if 0≤ag.toNat∧ag.toNat≤ap.length then
    if 0≤(U (ag+(1:Int))) then
    if (U (ag+(1:Int))).toNat≤ap.length then
    if (0+(U (ag+(1:Int))).toNat)+(ap.length-(U (ag+(1:Int))).toNat)≤ap.length then
    if (ag.toNat-0)+((ap.drop (0+(U (ag+(1:Int))).toNat)).take (ap.length-(U (ag+(1:Int))).toNat)).length≤ap.length then
    if ((ap.drop (0+(U (ag+(1:Int))).toNat)).take (ap.length-(U (ag+(1:Int))).toNat)).length*24≤140737488355328 then
    if 0≤ag.toNat∧ag.toNat≤al.length then
    if (U (ag+(1:Int))).toNat≤al.length then
    if (0+(U (ag+(1:Int))).toNat)+(al.length-(U (ag+(1:Int))).toNat)≤al.length then
    if (ag.toNat-0)+((al.drop (0+(U (ag+(1:Int))).toNat)).take (al.length-(U (ag+(1:Int))).toNat)).length≤al.length then
    if ((al.drop (0+(U (ag+(1:Int))).toNat)).take (al.length-(U (ag+(1:Int))).toNat)).length*8≤140737488355328 then
    some (.inl (ag,aF,aD,ap.take (ag.toNat-0)++((ap.drop (0+(U (ag+(1:Int))).toNat)).take (ap.length-(U (ag+(1:Int))).toNat)),a7,al.take (ag.toNat-0)++((al.drop (0+(U (ag+(1:Int))).toNat)).take (al.length-(U (ag+(1:Int))).toNat))))
    else none
    else none
    else none
    else none
    else none
    else none
    else none
    else none
    else none
    else none
    else none
    else none
  else none
 else
  some (.inr (aF,aD,ap,a7,al))
def Gb (hT bq:Int)(aH:List Bool)(ag:Int)(aF:Bool)(aD:List Int)(ap:List bt)(a7:List (List bp))(al:List Int):Option (Bool×(List Int)×(List bt)×(List (List bp))×(List Int)):=iter (fun w:Int×Bool×(List Int)×(List bt)×(List (List bp))×(List Int)=>yR hT bq aH w.1 w.2.1 w.2.2.1 w.2.2.2.1 w.2.2.2.2.1 w.2.2.2.2.2) (ag,aF,aD,ap,a7,al)
theorem Tl {hT bq:Int}{aH:List Bool}{ag:Int}{aF:Bool}{aD:List Int}{ap:List bt}{a7:List (List bp)}{al:List Int}:bA (yR hT bq aH ag aF aD ap a7 al) (dM bb 86 5 72 [1,0,0] (Fx hT bq aH (ag,aF,aD,ap,a7,al)) (Fx hT bq aH) (FD hT bq aH)):=by
 unfold yR
 exact .ite (fun h1 =>
  .aZ fun o =>
  .au fun aE av =>
  (let t1:List bX:=[(J 7),.aa true,.az (bs 6 (.b4 (eI aE)) 2)];
  .ite (fun aA =>
  .ret (bh (t1.append [.aa true,(J 3),.aL [0,1,2,3,4] [.box [.id,.id,.id,.id,.id,.id],.bD (ah 1 (a9 2 0 2) ap),.bD (bZ 2 aX a7),.pure,.pure] (a8 [0,1,4])]) (.bl h1 o.1 o.2 (bU eI av) aA (et (cv [0,1,2,3,4]) 2 2 0 2 rfl ap) (dt (cv [0,1,2,3,4]) 2 e8 a7) (aK 1 .live aP al) (.e1 (aK 1 .live eX aH)))))
  (fun aA =>
  .au fun cf bd =>
  (let t2:List bX:=t1.append [.aa false,(J 1),.aL [0,1,2,3,4] [.box [.id,.id,.id,.id,.id,.id],.bD (ah 1 (a9 2 0 2) ap),.bD (bZ 2 aX a7),.pure,.pure] (a8 [0,1,4,5]),(FC hT ag aF aD bq ap a7 al aH cf).fb,(J 3)];
  have fF:=((.bl h1 o.1 o.2 (bU eI av) aA (et (cv [0,1,2,3,4]) 2 2 0 2 rfl ap) (dt (cv [0,1,2,3,4]) 2 e8 a7) (aK 1 .live aP al) (.aC (aK 1 .live eX aH) (TV bd))):cq _);
  .ite (fun bn =>
  .au fun bx cK =>
  .ret (let q1:=f8 1 0 0 ap.length bx.1 bx.2.1 3 0 0 bx.2.2.2.length bq 4 0 0 aH.length;let aY:=f8 1 0 0 ap.length aF aD 3 0 0 al.length bq 4 0 0 aH.length;let bJ:=ah 1 (a9 2 0 2) ap;let bS:=bZ 2 aX bx.2.2.1;let cA:=pa [0,1,2,3,4];let d4:=iC [0,1,2,3,4];let fP:=kD 1 (ap.map (a9 2 0 2));bh (t2.append [.aa true,.az (aj 3 (an (.call {a0:=(u0 [0,1,2,3,4]),dp:=[.bD [ab.mk 6 [aY] .live],.bD bJ,.bD (bZ 2 aX a7),.pure,.pure],ac:=[ii,ii,ii],r:= .dZ [],fw:=[[ab.mk 6 [q1] .live],bJ,bS,(ah 1 eI bx.2.2.2),(ah 1 eg aH)],h6:=ii,ke:=[.bD [ab.mk 6 [q1] .live],.bD bJ,.bD bS,.pure,.pure],fN:=[0,1,2,3,4],fE:=false}) [])),(J 3),.aL [0,1,2,3,4] [.box [.id,.id,.id,.id,.id,.id],.bD bJ,.bD bS,.pure,.pure] (a8 [0,1,4])]) (fF.aJ (.bl bn (x1 cA 6 [aY] [aY] rfl) (kD 6 [aY]) (et cA 2 2 0 2 rfl ap) fP (dt cA 2 e8 a7) (tA 2 aX a7) (iQ 1 aP al) (.bl (iQ 1 eX aH) (x1 d4 6 [q1] [q1] rfl) (kD 6 [q1]) (et d4 2 2 0 2 rfl ap) fP (dt d4 2 e8 bx.2.2.1) (tA 2 aX bx.2.2.1) (iQ 1 aP bx.2.2.2) (.d5 (iQ 1 eX aH) (ME bx cK) (et (cv [0,1,2,3,4]) 2 2 0 2 rfl ap) (dt (cv [0,1,2,3,4]) 2 e8 bx.2.2.1) (aK 1 .live aP bx.2.2.2) (aK 1 .live eX aH)))))))
  (fun bn =>
  .aZ fun cp =>
  .aZ fun cK =>
  .aZ fun eV =>
  .aZ fun e4 =>
  .aZ fun ev =>
  .aZ fun ew =>
  .aZ fun fS =>
  .aZ fun hY =>
  .aZ fun hy =>
  .aZ fun hz =>
  .aZ fun gA =>
  .aZ fun fk =>
  .ret (let eB:=(U (ag+(1:Int)));let hI:=cW (a9 2 0 2) ap;let jA:=cv [0,1,2,3,4];let jB:=cW eI al;bh (t2.append [.aa false,.az (bs 14 .fQ 3),.az (bs 14 .fQ 3),.aL [0,1,2,3,4] [.box [.len ((ap.take (ag.toNat-0)++((ap.drop (0+eB.toNat)).take (ap.length-eB.toNat))).length),.id,.id,.len ((al.take (ag.toNat-0)++((al.drop (0+eB.toNat)).take (al.length-eB.toNat))).length),.id,.id],.bD (ah 1 (a9 2 0 2) (ap.take (ag.toNat-0)++((ap.drop (0+eB.toNat)).take (ap.length-eB.toNat)))),.bD (bZ 2 aX a7),.cL (ah 1 eI (al.take (ag.toNat-0)++((al.drop (0+eB.toNat)).take (al.length-eB.toNat)))),.pure] (a8 [0,1,4])]) (fF.aJ (.bl bn cp cK.1 cK.2 eV e4 (Nat.le_refl ap.length) (rk hI ev) (.bl (Qw hI (od hI (0+eB.toNat) (ap.length-eB.toNat)) ew) (Pv (od hI (0+eB.toNat) (ap.length-eB.toNat)) fS) cp hY.1 hY.2 eV hy (Nat.le_refl al.length) (.bl (rk jB hz) (Qw jB (od jB (0+eB.toNat) (al.length-eB.toNat)) gA) (Pv (od jB (0+eB.toNat) (al.length-eB.toNat)) fk) ((J0 (Qv ew) (od hI (0+eB.toNat) (ap.length-eB.toNat)):(ap.take (ag.toNat-0)++((ap.drop (0+eB.toNat)).take (ap.length-eB.toNat))).length=(ag.toNat-0)+(((ap.map (a9 2 0 2)).drop (0+eB.toNat)).take (ap.length-eB.toNat)).length).symm) ((J0 (Qv gA) (od jB (0+eB.toNat) (al.length-eB.toNat)):(al.take (ag.toNat-0)++((al.drop (0+eB.toNat)).take (al.length-eB.toNat))).length=(ag.toNat-0)+(((al.map eI).drop (0+eB.toNat)).take (al.length-eB.toNat)).length).symm) (c0 (qg (b8:=jA) 1 .live (a9 2 0 2) (JZ hI (ag.toNat-0) (od hI (0+eB.toNat) (ap.length-eB.toNat))) (rq (rfl:jA 2=some 2))) (o0 (b8:=jA))) (dt jA 2 e8 a7) (c6 1 .live (JZ jB (ag.toNat-0) (od jB (0+eB.toNat) (al.length-eB.toNat)))) (.aC (aK 1 .live aP (al.take (ag.toNat-0)++((al.drop (0+eB.toNat)).take (al.length-eB.toNat)))) (aK 1 .live eX aH))))))))))))
  (fun h1 =>
  .ret (bh [(J 7),.aa false,.aL [0,1,2,3,4] [.box [.id,.id,.id,.id,.id,.id],.bD (ah 1 (a9 2 0 2) ap),.bD (bZ 2 aX a7),.pure,.pure] []] (.dn h1 (et (cv [0,1,2,3,4]) 2 2 0 2 rfl ap) (dt (cv [0,1,2,3,4]) 2 e8 a7) (aK 1 .live aP al) (aK 1 .live eX aH))))
theorem TW {hT bq:Int}{aH:List Bool}{ag:Int}{aF:Bool}{aD:List Int}{ap:List bt}{a7:List (List bp)}{al:List Int}{r} (h:Gb hT bq aH ag aF aD ap a7 al=some r):dN bb 86 5 72 [1,0,0] (Fx hT bq aH) (FD hT bq aH) (ag,aF,aD,ap,a7,al) r:=dO (fun _=>Tl) h
def y4 (hT:Int)(oI:Bool)(oD:List Int)(jG:Int)(fe:List bt)(lV:List (List bp))(ig:List Int)(hB:List Bool):Option (Bool×(List Int)×(List bt)×(List (List bp))×(List Int)) :=
 Gb hT jG hB 0 oI oD fe lV ig >>= fun r1 =>
 some (r1.1,r1.2.1,r1.2.2.1,r1.2.2.2.1,r1.2.2.2.2)
theorem Uw {hT:Int}{oI:Bool}{oD:List Int}{jG:Int}{fe:List bt}{lV:List (List bp)}{ig:List Int}{hB:List Bool}:bA (y4 hT oI oD jG fe lV ig hB) (fun a=>Con bb 72 [.ref 0 0 0 0,.n .i64 hT] [[ab.mk 6 [(f8 1 0 0 fe.length oI oD 3 0 0 ig.length jG 4 0 0 hB.length)] .live],(ah 1 (a9 2 0 2) fe),(bZ 2 aX lV),(ah 1 eI ig),(ah 1 eg hB)] (.dZ []) [[ab.mk 6 [(f8 1 0 0 a.2.2.1.length a.1 a.2.1 3 0 0 a.2.2.2.2.length jG 4 0 0 hB.length)] .live],(ah 1 (a9 2 0 2) a.2.2.1),(bZ 2 aX a.2.2.2.1),(ah 1 eI a.2.2.2.2),(ah 1 eg hB)]):=by
 unfold y4
 exact .au fun r1 o =>
  .ret (let q1:=f8 1 0 0 r1.2.2.1.length r1.1 r1.2.1 3 0 0 r1.2.2.2.2.length jG 4 0 0 hB.length;let aY:=cv [0,1,2,3,4];lC [(J 1),.aL [0,1,2,3,4] [.box [.id,.id,.id,.id,.id,.id],.bD (ah 1 (a9 2 0 2) fe),.bD (bZ 2 aX lV),.pure,.pure] (a8 [0,1,4]),(FD hT jG hB r1).fb] [0,1,2,3,4] [.bD [ab.mk 6 [q1] .live],.bD (ah 1 (a9 2 0 2) r1.2.2.1),.bD (bZ 2 aX r1.2.2.2.1),.pure,.pure] (.bl (et aY 2 2 0 2 rfl fe) (dt aY 2 e8 lV) (aK 1 .live aP ig) (aK 1 .live eX hB) (TW o) (x1 aY 6 [q1] [q1] rfl) (et aY 2 2 0 2 rfl r1.2.2.1) (dt aY 2 e8 r1.2.2.2.1) (.aC (aK 1 .live aP r1.2.2.2.2) (aK 1 .live eX hB))))
end Go.Proofs.YtamedijmgkdlgacGreat
namespace Go.Proofs.YtamedijmgkdlgacGreat
set_option linter.unusedVariables false
set_option linter.unusedSimpArgs false
open Go Go.VL
def G9 (dH cV:Int)(dW dQ dV:List Int)(a3 ag:Int)(gb eh:Nat)(jy:List Int)(jU:Int)(aF:Bool)(aD:List Int)(aG:List bt)(al:List Int)(aH:List Bool):(Int×(List (List bp)))→S:=fun (d8,iJ)=>dl [(0,.dY 5 [[.n .i64 dH,.n .i64 cV,.isl 1 (dW.map eI),.isl 1 (dQ.map eI),.isl 1 (dV.map eI)]] 0 0),(4,.n .i64 a3),(5,.ref 0 0 0 0),(6,.n .i64 ag),(7,.bm 1 (gb+0) 0 eh),(8,.n .i64 (-1:Int)),(34,.n .i64 dH),(35,.n .i64 ag),(51,.isl 1 (jy.map eI)),(52,.n .i64 jU),(53,.n .i64 d8)] [[ab.mk 6 [(f8 2 0 0 aG.length aF aD 3 0 0 al.length a3 4 0 0 aH.length)] .live],(bZ 2 aX iJ),(ah 1 (a9 1 0 2) aG),(ah 1 eI al),(ah 1 eg aH)]
def HG (dH cV:Int)(dW dQ dV:List Int)(a3 ag:Int)(gb eh:Nat)(jy:List Int)(jU:Int)(aF:Bool)(aD:List Int)(aG:List bt)(al:List Int)(aH:List Bool):(List (List bp))→dm
 | a=>⟨some 2,[(0,.dY 5 [[.n .i64 dH,.n .i64 cV,.isl 1 (dW.map eI),.isl 1 (dQ.map eI),.isl 1 (dV.map eI)]] 0 0),(4,.n .i64 a3),(5,.ref 0 0 0 0),(6,.n .i64 ag),(7,.bm 1 (gb+0) 0 eh),(8,.n .i64 (-1:Int)),(34,.n .i64 dH),(35,.n .i64 ag)],[[ab.mk 6 [(f8 2 0 0 aG.length aF aD 3 0 0 al.length a3 4 0 0 aH.length)] .live],(bZ 2 aX a),(ah 1 (a9 1 0 2) aG),(ah 1 eI al),(ah 1 eg aH)]⟩
def wA (dH cV:Int)(dW dQ dV:List Int)(a3 ag:Int)(gb eh:Nat)(jy:List Int)(jU:Int)(aF:Bool)(aD:List Int)(aG:List bt)(al:List Int)(aH:List Bool)(d8:Int)(iJ:List (List bp)):Option ((Int×(List (List bp)))⊕((List (List bp)))) :=
 if (decide (d8<jU))=true then
  if 0≤d8∧d8<jy.length then
  jy[d8.toNat]? >>= fun aE =>
  oc (U ((-1:Int)*aE)) >>= fun aT =>
  iJ[gb]? >>= fun iD =>
  if 0≤d8∧d8<(eh:Nat) then
  iD[(0+d8.toNat)]? >>= fun iU =>
  some (.inl (U (d8+(1:Int)),iJ.set gb (iD.set (0+d8.toNat) aT)))
  else none
  else none
 else
  some (.inr iJ)
def CS (dH cV:Int)(dW dQ dV:List Int)(a3 ag:Int)(gb eh:Nat)(jy:List Int)(jU:Int)(aF:Bool)(aD:List Int)(aG:List bt)(al:List Int)(aH:List Bool)(d8:Int)(iJ:List (List bp)):Option ((List (List bp))):=iter (fun w:Int×(List (List bp))=>wA dH cV dW dQ dV a3 ag gb eh jy jU aF aD aG al aH w.1 w.2) (d8,iJ)
theorem Ux {dH cV:Int}{dW dQ dV:List Int}{a3 ag:Int}{gb eh:Nat}{jy:List Int}{jU:Int}{aF:Bool}{aD:List Int}{aG:List bt}{al:List Int}{aH:List Bool}{d8:Int}{iJ:List (List bp)}:bA (wA dH cV dW dQ dV a3 ag gb eh jy jU aF aD aG al aH d8 iJ) (dM bb 205 0 48 [1,1,1,0,1,0,0,1,1,0,0,1,1,1,1,0,1,0,0] (G9 dH cV dW dQ dV a3 ag gb eh jy jU aF aD aG al aH (d8,iJ)) (G9 dH cV dW dQ dV a3 ag gb eh jy jU aF aD aG al aH) (HG dH cV dW dQ dV a3 ag gb eh jy jU aF aD aG al aH)):=by
 unfold wA
 exact .ite (fun h1 =>
  .aZ fun o =>
  .au fun aE av =>
  .au fun aT a2 =>
  .au fun iD bn =>
  .aZ fun cp =>
  .au fun iU eV =>
  .ret (let q1:=jZ (fG .live 2 aX iJ) ir bn;bh [(J 1),.aa true,.az (bs 2 (.b4 (eI aE)) 2),.az (aj 5 (an (br 1 (.agg (aX aT)) false) (an (.gi (ab.mk 2 (iD.map aX) .live) []) (an (.gi (ab.mk 2 (iD.map aX) .live) (aX iU)) [])))),(J 2),.aL [0,1,2,3,4] [.box [.id,.id,.id,.id,.id,.id],.bD (bZ 2 aX (iJ.set gb (iD.set (0+d8.toNat) aT))),.bD (ah 1 (a9 1 0 2) aG),.pure,.pure] (a8 [0,4,5,6,7,8,34,35,51,52,53])] (.bl h1 o.1 (cN eI o.2) (bU eI av) (rK aT a2) q1 cp.1 cp.2 (.d5 q1 (bU aX eV) (mj (b8:=(cv [0,1,2,3,4])) (oZ (fG .live 2 aX iJ) gb (qq (cW aX iD) (0+d8.toNat) aT (rfl:(setCells (aX iU) 0 (aX aT))=aX aT))) (lL e8)) (et (cv [0,1,2,3,4]) 1 1 0 2 rfl aG) (aK 1 .live aP al) (aK 1 .live eX aH)))))
  (fun h1 =>
  .ret (bh [(J 1),.aa false,.aL [0,1,2,3,4] [.box [.id,.id,.id,.id,.id,.id],.bD (bZ 2 aX iJ),.bD (ah 1 (a9 1 0 2) aG),.pure,.pure] (a8 [0,4,5,6,7,8,34,35])] (.dn h1 (dt (cv [0,1,2,3,4]) 2 e8 iJ) (et (cv [0,1,2,3,4]) 1 1 0 2 rfl aG) (aK 1 .live aP al) (aK 1 .live eX aH))))
theorem V0 {dH cV:Int}{dW dQ dV:List Int}{a3 ag:Int}{gb eh:Nat}{jy:List Int}{jU:Int}{aF:Bool}{aD:List Int}{aG:List bt}{al:List Int}{aH:List Bool}{d8:Int}{iJ:List (List bp)}{r} (h:CS dH cV dW dQ dV a3 ag gb eh jy jU aF aD aG al aH d8 iJ=some r):dN bb 205 0 48 [1,1,1,0,1,0,0,1,1,0,0,1,1,1,1,0,1,0,0] (G9 dH cV dW dQ dV a3 ag gb eh jy jU aF aD aG al aH) (HG dH cV dW dQ dV a3 ag gb eh jy jU aF aD aG al aH) (d8,iJ) r:=dO (fun _=>Ux) h
def Ha (dH cV:Int)(dW dQ dV:List Int)(a3 ag:Int)(gb eh:Nat)(jy:List Int)(jU:Int)(aF:Bool)(aD:List Int)(aG:List bt)(al:List Int)(aH:List Bool):(Int×(List (List bp)))→S:=fun (d8,iJ)=>dl [(0,.dY 5 [[.n .i64 dH,.n .i64 cV,.isl 1 (dW.map eI),.isl 1 (dQ.map eI),.isl 1 (dV.map eI)]] 0 0),(4,.n .i64 a3),(5,.ref 0 0 0 0),(6,.n .i64 ag),(7,.bm 1 (gb+0) 0 eh),(8,.n .i64 (1:Int)),(34,.n .i64 dH),(35,.n .i64 ag),(51,.isl 1 (jy.map eI)),(52,.n .i64 jU),(53,.n .i64 d8)] [[ab.mk 6 [(f8 2 0 0 aG.length aF aD 3 0 0 al.length a3 4 0 0 aH.length)] .live],(bZ 2 aX iJ),(ah 1 (a9 1 0 2) aG),(ah 1 eI al),(ah 1 eg aH)]
def HH (dH cV:Int)(dW dQ dV:List Int)(a3 ag:Int)(gb eh:Nat)(jy:List Int)(jU:Int)(aF:Bool)(aD:List Int)(aG:List bt)(al:List Int)(aH:List Bool):(List (List bp))→dm
 | a=>⟨some 2,[(0,.dY 5 [[.n .i64 dH,.n .i64 cV,.isl 1 (dW.map eI),.isl 1 (dQ.map eI),.isl 1 (dV.map eI)]] 0 0),(4,.n .i64 a3),(5,.ref 0 0 0 0),(6,.n .i64 ag),(7,.bm 1 (gb+0) 0 eh),(8,.n .i64 (1:Int)),(34,.n .i64 dH),(35,.n .i64 ag)],[[ab.mk 6 [(f8 2 0 0 aG.length aF aD 3 0 0 al.length a3 4 0 0 aH.length)] .live],(bZ 2 aX a),(ah 1 (a9 1 0 2) aG),(ah 1 eI al),(ah 1 eg aH)]⟩
def wB (dH cV:Int)(dW dQ dV:List Int)(a3 ag:Int)(gb eh:Nat)(jy:List Int)(jU:Int)(aF:Bool)(aD:List Int)(aG:List bt)(al:List Int)(aH:List Bool)(d8:Int)(iJ:List (List bp)):Option ((Int×(List (List bp)))⊕((List (List bp)))) :=
 if (decide (d8<jU))=true then
  if 0≤d8∧d8<jy.length then
  jy[d8.toNat]? >>= fun aE =>
  oc (U ((1:Int)*aE)) >>= fun aT =>
  iJ[gb]? >>= fun iD =>
  if 0≤d8∧d8<(eh:Nat) then
  iD[(0+d8.toNat)]? >>= fun iU =>
  some (.inl (U (d8+(1:Int)),iJ.set gb (iD.set (0+d8.toNat) aT)))
  else none
  else none
 else
  some (.inr iJ)
def CT (dH cV:Int)(dW dQ dV:List Int)(a3 ag:Int)(gb eh:Nat)(jy:List Int)(jU:Int)(aF:Bool)(aD:List Int)(aG:List bt)(al:List Int)(aH:List Bool)(d8:Int)(iJ:List (List bp)):Option ((List (List bp))):=iter (fun w:Int×(List (List bp))=>wB dH cV dW dQ dV a3 ag gb eh jy jU aF aD aG al aH w.1 w.2) (d8,iJ)
theorem Uy {dH cV:Int}{dW dQ dV:List Int}{a3 ag:Int}{gb eh:Nat}{jy:List Int}{jU:Int}{aF:Bool}{aD:List Int}{aG:List bt}{al:List Int}{aH:List Bool}{d8:Int}{iJ:List (List bp)}:bA (wB dH cV dW dQ dV a3 ag gb eh jy jU aF aD aG al aH d8 iJ) (dM bb 205 0 48 [1,1,1,0,1,0,0,1,1,0,0,1,1,1,1,0,1,0,0] (Ha dH cV dW dQ dV a3 ag gb eh jy jU aF aD aG al aH (d8,iJ)) (Ha dH cV dW dQ dV a3 ag gb eh jy jU aF aD aG al aH) (HH dH cV dW dQ dV a3 ag gb eh jy jU aF aD aG al aH)):=by
 unfold wB
 exact .ite (fun h1 =>
  .aZ fun o =>
  .au fun aE av =>
  .au fun aT a2 =>
  .au fun iD bn =>
  .aZ fun cp =>
  .au fun iU eV =>
  .ret (let q1:=jZ (fG .live 2 aX iJ) ir bn;bh [(J 1),.aa true,.az (bs 2 (.b4 (eI aE)) 2),.az (aj 5 (an (br 1 (.agg (aX aT)) false) (an (.gi (ab.mk 2 (iD.map aX) .live) []) (an (.gi (ab.mk 2 (iD.map aX) .live) (aX iU)) [])))),(J 2),.aL [0,1,2,3,4] [.box [.id,.id,.id,.id,.id,.id],.bD (bZ 2 aX (iJ.set gb (iD.set (0+d8.toNat) aT))),.bD (ah 1 (a9 1 0 2) aG),.pure,.pure] (a8 [0,4,5,6,7,8,34,35,51,52,53])] (.bl h1 o.1 (cN eI o.2) (bU eI av) (rK aT a2) q1 cp.1 cp.2 (.d5 q1 (bU aX eV) (mj (b8:=(cv [0,1,2,3,4])) (oZ (fG .live 2 aX iJ) gb (qq (cW aX iD) (0+d8.toNat) aT (rfl:(setCells (aX iU) 0 (aX aT))=aX aT))) (lL e8)) (et (cv [0,1,2,3,4]) 1 1 0 2 rfl aG) (aK 1 .live aP al) (aK 1 .live eX aH)))))
  (fun h1 =>
  .ret (bh [(J 1),.aa false,.aL [0,1,2,3,4] [.box [.id,.id,.id,.id,.id,.id],.bD (bZ 2 aX iJ),.bD (ah 1 (a9 1 0 2) aG),.pure,.pure] (a8 [0,4,5,6,7,8,34,35])] (.dn h1 (dt (cv [0,1,2,3,4]) 2 e8 iJ) (et (cv [0,1,2,3,4]) 1 1 0 2 rfl aG) (aK 1 .live aP al) (aK 1 .live eX aH))))
theorem V1 {dH cV:Int}{dW dQ dV:List Int}{a3 ag:Int}{gb eh:Nat}{jy:List Int}{jU:Int}{aF:Bool}{aD:List Int}{aG:List bt}{al:List Int}{aH:List Bool}{d8:Int}{iJ:List (List bp)}{r} (h:CT dH cV dW dQ dV a3 ag gb eh jy jU aF aD aG al aH d8 iJ=some r):dN bb 205 0 48 [1,1,1,0,1,0,0,1,1,0,0,1,1,1,1,0,1,0,0] (Ha dH cV dW dQ dV a3 ag gb eh jy jU aF aD aG al aH) (HH dH cV dW dQ dV a3 ag gb eh jy jU aF aD aG al aH) (d8,iJ) r:=dO (fun _=>Uy) h
def Hb (dH cV:Int)(dW dQ dV:List Int)(a3:Int)(aF:Bool)(aD:List Int)(aH:List Bool):(Int×(List bt)×(List (List bp))×(List Int))→S:=fun (df,ap,a7,al)=>dl [(0,.dY 5 [[.n .i64 dH,.n .i64 cV,.isl 1 (dW.map eI),.isl 1 (dQ.map eI),.isl 1 (dV.map eI)]] 0 0),(4,.n .i64 a3),(5,.ref 0 0 0 0),(34,.n .i64 dH),(35,.n .i64 df)] [[ab.mk 6 [(f8 1 0 0 ap.length aF aD 3 0 0 al.length a3 4 0 0 aH.length)] .live],(ah 1 (a9 2 0 2) ap),(bZ 2 aX a7),(ah 1 eI al),(ah 1 eg aH)]
def HI (dH cV:Int)(dW dQ dV:List Int)(a3:Int)(aF:Bool)(aD:List Int)(aH:List Bool):((List bt)×(List (List bp))×(List Int))→dm
 | a=>⟨some 0,[(0,.dY 5 [[.n .i64 dH,.n .i64 cV,.isl 1 (dW.map eI),.isl 1 (dQ.map eI),.isl 1 (dV.map eI)]] 0 0),(4,.n .i64 a3),(5,.ref 0 0 0 0)],[[ab.mk 6 [(f8 1 0 0 a.1.length aF aD 3 0 0 a.2.2.length a3 4 0 0 aH.length)] .live],(ah 1 (a9 2 0 2) a.1),(bZ 2 aX a.2.1),(ah 1 eI a.2.2),(ah 1 eg aH)]⟩
def wC (dH cV:Int)(dW dQ dV:List Int)(a3:Int)(aF:Bool)(aD:List Int)(aH:List Bool)(df:Int)(ap:List bt)(a7:List (List bp))(al:List Int):Option ((Int×(List bt)×(List (List bp))×(List Int))⊕((List bt)×(List (List bp))×(List Int))) :=
 if (decide (df<dH))=true then
  if 0≤(U (a3+(1:Int)))∧(32:Int)*(U (a3+(1:Int)))≤281474976710656∧(U (a3+(1:Int)))<9223372036854775808 then
  if 0≤df∧df<dQ.length then
  dQ[df.toNat]? >>= fun gh =>
  if (decide (gh<(0:Int)))=true then
   wY (⟨dH,cV,dW,dQ,dV⟩:hv) df >>= fun bI =>
   CS dH cV dW dQ dV a3 df a7.length ((U (a3+(1:Int))).toNat) bI (len_ eI bI) aF aD ap al aH 0 (a7++[(List.replicate (U (a3+(1:Int))).toNat (⟨false,([]:List Int)⟩:bp):List bp)]) >>= fun bx =>
   oc 1 >>= fun dc =>
   bx[a7.length]? >>= fun li =>
   if 0≤(U (cV+df))∧(U (cV+df))<((U (a3+(1:Int))).toNat:Nat) then
   li[(0+(U (cV+df)).toNat)]? >>= fun mr =>
   oc (U ((-1:Int)*gh)) >>= fun fa =>
   (bx.set a7.length (li.set (0+(U (cV+df)).toNat) dc))[a7.length]? >>= fun oP =>
   if 0≤a3∧a3<((U (a3+(1:Int))).toNat:Nat) then
   oP[(0+a3.toNat)]? >>= fun u6 =>
   if (ap++([(some (a7.length,(U (a3+(1:Int))).toNat))]:List bt)).length*24≤140737488355328 then
   if (al++([U (cV+df)]:List Int)).length*8≤140737488355328 then
   some (.inl (U (df+(1:Int)),ap++([(some (a7.length,(U (a3+(1:Int))).toNat))]:List bt),(bx.set a7.length (li.set (0+(U (cV+df)).toNat) dc)).set a7.length (oP.set (0+a3.toNat) fa),al++([U (cV+df)]:List Int)))
   else none
   else none
   else none
   else none
  else
   wY (⟨dH,cV,dW,dQ,dV⟩:hv) df >>= fun bI =>
   CT dH cV dW dQ dV a3 df a7.length ((U (a3+(1:Int))).toNat) bI (len_ eI bI) aF aD ap al aH 0 (a7++[(List.replicate (U (a3+(1:Int))).toNat (⟨false,([]:List Int)⟩:bp):List bp)]) >>= fun bx =>
   oc 1 >>= fun dc =>
   bx[a7.length]? >>= fun li =>
   if 0≤(U (cV+df))∧(U (cV+df))<((U (a3+(1:Int))).toNat:Nat) then
   li[(0+(U (cV+df)).toNat)]? >>= fun mr =>
   oc (U ((1:Int)*gh)) >>= fun fa =>
   (bx.set a7.length (li.set (0+(U (cV+df)).toNat) dc))[a7.length]? >>= fun oP =>
   if 0≤a3∧a3<((U (a3+(1:Int))).toNat:Nat) then
   oP[(0+a3.toNat)]? >>= fun u6 =>
   if (ap++([(some (a7.length,(U (a3+(1:Int))).toNat))]:List bt)).length*24≤140737488355328 then
   if (al++([U (cV+df)]:List Int)).length*8≤140737488355328 then
   some (.inl (U (df+(1:Int)),ap++([(some (a7.length,(U (a3+(1:Int))).toNat))]:List bt),(bx.set a7.length (li.set (0+(U (cV+df)).toNat) dc)).set a7.length (oP.set (0+a3.toNat) fa),al++([U (cV+df)]:List Int)))
   else none
   else none
   else none
   else none
  else none
  else none
 else
  some (.inr (ap,a7,al))
def CU (dH cV:Int)(dW dQ dV:List Int)(a3:Int)(aF:Bool)(aD:List Int)(aH:List Bool)(df:Int)(ap:List bt)(a7:List (List bp))(al:List Int):Option ((List bt)×(List (List bp))×(List Int)):=iter (fun w:Int×(List bt)×(List (List bp))×(List Int)=>wC dH cV dW dQ dV a3 aF aD aH w.1 w.2.1 w.2.2.1 w.2.2.2) (df,ap,a7,al)
theorem Uz {dH cV:Int}{dW dQ dV:List Int}{a3:Int}{aF:Bool}{aD:List Int}{aH:List Bool}{df:Int}{ap:List bt}{a7:List (List bp)}{al:List Int}:bA (wC dH cV dW dQ dV a3 aF aD aH df ap a7 al) (dM bb 205 0 48 [1,1,1,0,1,0,0] (Hb dH cV dW dQ dV a3 aF aD aH (df,ap,a7,al)) (Hb dH cV dW dQ dV a3 aF aD aH) (HI dH cV dW dQ dV a3 aF aD aH)):=by
 unfold wC
 exact .ite (fun h1 =>
  .aZ fun o =>
  .aZ fun ae =>
  .au fun gh aA =>
  (let t1:List bX:=[(J 1),.aa true,(J 2),.az (bs 2 (.tv 2 (a7.length+0) (.b4 [.b false,.isl 1 (([]:List Int).map eI)])) 1),(J 1),.az (bs 6 (.b4 (eI gh)) 1)];
  have aQ:=((.bl h1 o.1 (Int.le_refl (U (a3+(1:Int)))) o.2.1 o.2.2 (congrArg (· + 0) (DT (fG .live 2 aX a7) rfl)) ae.1 (cN eI ae.2) (.e1 (bU eI aA))):cq _);
  .ite (fun a2 =>
  .au fun bI bn =>
  .au fun bx cK =>
  .au fun dc e4 =>
  .au fun li ew =>
  .aZ fun fS =>
  .au fun mr hy =>
  .au fun fa gA =>
  .au fun oP gL =>
  .aZ fun iN =>
  .au fun u6 yz =>
  .aZ fun qX =>
  .aZ fun BO =>
  .ret (let aY:=(U (a3+(1:Int)));let bJ:=U (cV+df);let q1:=(oZ (fG .live 2 aX bx) a7.length (qq (cW aX li) (0+bJ.toNat) dc (rfl:(setCells (aX mr) 0 (aX dc))=aX dc)));let bS:=cv [0,36,1,52,4];let cA:=(al++([bJ]:List Int));let d4:=(ap++([(some (a7.length,aY.toNat))]:List bt));let fP:=jZ (fG .live 2 aX bx) ir ew;bh (t1.append [.aa true,(J 1),.az (bs 2 (br 2 (.isl 1 (bI.map eI)) false) 2),.aL [0,2,1,3,4] [.box [.id,.id,.id,.id,.id,.id],.bD (bZ 2 aX (a7++[(List.replicate aY.toNat (⟨false,([]:List Int)⟩:bp):List bp)])),.bD (ah 1 (a9 1 0 2) ap),.pure,.pure] (a8 [0,4,5,6,7,8,34,35,51,52,53]),(HG dH cV dW dQ dV a3 df a7.length (aY.toNat) bI (len_ eI bI) aF aD ap al aH bx).fb,.az (aj 7 (an (br 1 (.agg (aX dc)) false) (an (.gi (ab.mk 2 (li.map aX) .live) []) (an (.gi (ab.mk 2 (li.map aX) .live) (aX mr)) [])))),.az (aj 9 (an (.b4 (eI gh)) (aj 1 (an (br 1 (.agg (aX fa)) false) (an (.gi (ab.mk 2 (oP.map aX) .live) []) (an (.gi (ab.mk 2 (oP.map aX) .live) (aX u6)) [])))))),.az (aj 6 (an (.j2 93 (kQ 1 0 2 (some (a7.length,aY.toNat))) .none) (an (.aJ (d4.length)) (aj 3 [])))),.az (bs 12 (.aJ (cA.length)) 3),(J 2),.aL [0,36,1,52,4] [.box [.id,.id,.id,.id,.id,.id],.bD (ah 1 (a9 2 0 2) d4),.bD (bZ 2 aX ((bx.set a7.length (li.set (0+bJ.toNat) dc)).set a7.length (oP.set (0+a3.toNat) fa))),.cL (ah 1 eI cA),.pure] (a8 [0,4,5,34,35])]) (aQ.aJ (.bl a2 (M0 bI bn) (mj (b8:=(cv [0,2,1,3,4])) (AB (fG .live 2 aX a7) (AO rM 10 2 (a7.length+0) (lu aX aY.toNat (⟨false,([]:List Int)⟩:bp)) (AP 10 2 (a7.length+0)))) (lL e8)) (et (cv [0,2,1,3,4]) 1 2 0 2 rfl ap) (aK 1 .live aP al) (aK 1 .live eX aH) (V0 cK) (rK dc e4) (.bl fP fS.1 fS.2 fP (bU aX hy) ae.1 (cN eI ae.2) (bU eI aA) (.bl (rK fa gA) (jZ q1 ir gL) iN.1 iN.2 (jZ q1 ir gL) (bU aX yz) (.s2 1 0 2 a7.length (aY.toNat):kd (.bm 1 (a7.length+0) 0 (aY.toNat)) (kQ 1 0 2 (some (a7.length,aY.toNat)))) (gZ (a9 1 0 2) (some (a7.length,aY.toNat))) (.bl (hk (a9 1 0 2) ap) (gO (a9 1 0 2) ap (some (a7.length,aY.toNat))) qX (gZ eI bJ) (hk eI al) (gO eI al bJ) BO (c0 (qg (b8:=bS) 1 .live (a9 2 0 2) (ht (a9 1 0 2) ap (some (a7.length,aY.toNat))) (rq (rfl:bS 1=some 2))) (o0 (b8:=bS))) (.c9 (mj (b8:=bS) (oZ q1 a7.length (qq (cW aX oP) (0+a3.toNat) fa (rfl:(setCells (aX u6) 0 (aX fa))=aX fa))) (lL e8)) (c6 1 .live (ht eI al bJ)) (aK 1 .live aP cA) (aK 1 .live eX aH)))))))))
  (fun a2 =>
  .au fun bI bn =>
  .au fun bx cK =>
  .au fun dc e4 =>
  .au fun li ew =>
  .aZ fun fS =>
  .au fun mr hy =>
  .au fun fa gA =>
  .au fun oP gL =>
  .aZ fun iN =>
  .au fun u6 yz =>
  .aZ fun qX =>
  .aZ fun BO =>
  .ret (let hI:=(U (a3+(1:Int)));let jA:=U (cV+df);let eB:=(oZ (fG .live 2 aX bx) a7.length (qq (cW aX li) (0+jA.toNat) dc (rfl:(setCells (aX mr) 0 (aX dc))=aX dc)));let jB:=cv [0,36,1,52,4];let mo:=(al++([jA]:List Int));let iO:=(ap++([(some (a7.length,hI.toNat))]:List bt));let qT:=jZ (fG .live 2 aX bx) ir ew;bh (t1.append [.aa false,.az (bs 2 (br 2 (.isl 1 (bI.map eI)) false) 2),.aL [0,2,1,3,4] [.box [.id,.id,.id,.id,.id,.id],.bD (bZ 2 aX (a7++[(List.replicate hI.toNat (⟨false,([]:List Int)⟩:bp):List bp)])),.bD (ah 1 (a9 1 0 2) ap),.pure,.pure] (a8 [0,4,5,6,7,8,34,35,51,52,53]),(HH dH cV dW dQ dV a3 df a7.length (hI.toNat) bI (len_ eI bI) aF aD ap al aH bx).fb,.az (aj 7 (an (br 1 (.agg (aX dc)) false) (an (.gi (ab.mk 2 (li.map aX) .live) []) (an (.gi (ab.mk 2 (li.map aX) .live) (aX mr)) [])))),.az (aj 9 (an (.b4 (eI gh)) (aj 1 (an (br 1 (.agg (aX fa)) false) (an (.gi (ab.mk 2 (oP.map aX) .live) []) (an (.gi (ab.mk 2 (oP.map aX) .live) (aX u6)) [])))))),.az (aj 6 (an (.j2 93 (kQ 1 0 2 (some (a7.length,hI.toNat))) .none) (an (.aJ (iO.length)) (aj 3 [])))),.az (bs 12 (.aJ (mo.length)) 3),(J 2),.aL [0,36,1,52,4] [.box [.id,.id,.id,.id,.id,.id],.bD (ah 1 (a9 2 0 2) iO),.bD (bZ 2 aX ((bx.set a7.length (li.set (0+jA.toNat) dc)).set a7.length (oP.set (0+a3.toNat) fa))),.cL (ah 1 eI mo),.pure] (a8 [0,4,5,34,35])]) (aQ.aJ (.bl a2 (M0 bI bn) (mj (b8:=(cv [0,2,1,3,4])) (AB (fG .live 2 aX a7) (AO rM 10 2 (a7.length+0) (lu aX hI.toNat (⟨false,([]:List Int)⟩:bp)) (AP 10 2 (a7.length+0)))) (lL e8)) (et (cv [0,2,1,3,4]) 1 2 0 2 rfl ap) (aK 1 .live aP al) (aK 1 .live eX aH) (V1 cK) (rK dc e4) (.bl qT fS.1 fS.2 qT (bU aX hy) ae.1 (cN eI ae.2) (bU eI aA) (.bl (rK fa gA) (jZ eB ir gL) iN.1 iN.2 (jZ eB ir gL) (bU aX yz) (.s2 1 0 2 a7.length (hI.toNat):kd (.bm 1 (a7.length+0) 0 (hI.toNat)) (kQ 1 0 2 (some (a7.length,hI.toNat)))) (gZ (a9 1 0 2) (some (a7.length,hI.toNat))) (.bl (hk (a9 1 0 2) ap) (gO (a9 1 0 2) ap (some (a7.length,hI.toNat))) qX (gZ eI jA) (hk eI al) (gO eI al jA) BO (c0 (qg (b8:=jB) 1 .live (a9 2 0 2) (ht (a9 1 0 2) ap (some (a7.length,hI.toNat))) (rq (rfl:jB 1=some 2))) (o0 (b8:=jB))) (.c9 (mj (b8:=jB) (oZ eB a7.length (qq (cW aX oP) (0+a3.toNat) fa (rfl:(setCells (aX u6) 0 (aX fa))=aX fa))) (lL e8)) (c6 1 .live (ht eI al jA)) (aK 1 .live aP mo) (aK 1 .live eX aH)))))))))))
  (fun h1 =>
  .ret (bh [(J 1),.aa false,.aL [0,1,2,3,4] [.box [.id,.id,.id,.id,.id,.id],.bD (ah 1 (a9 2 0 2) ap),.bD (bZ 2 aX a7),.pure,.pure] (a8 [0,4,5])] (.dn h1 (et (cv [0,1,2,3,4]) 2 2 0 2 rfl ap) (dt (cv [0,1,2,3,4]) 2 e8 a7) (aK 1 .live aP al) (aK 1 .live eX aH))))
theorem V2 {dH cV:Int}{dW dQ dV:List Int}{a3:Int}{aF:Bool}{aD:List Int}{aH:List Bool}{df:Int}{ap:List bt}{a7:List (List bp)}{al:List Int}{r} (h:CU dH cV dW dQ dV a3 aF aD aH df ap a7 al=some r):dN bb 205 0 48 [1,1,1,0,1,0,0] (Hb dH cV dW dQ dV a3 aF aD aH) (HI dH cV dW dQ dV a3 aF aD aH) (df,ap,a7,al) r:=dO (fun _=>Uz) h
def Hc (dH cV:Int)(dW dQ dV:List Int)(a3 oo:Int)(aF:Bool)(aD:List Int)(aG:List bt)(dh:List (List bp))(aH:List Int):(Int×(List Int)×(List Bool))→S:=fun (gH,ap,bF)=>dl [(0,.dY 5 [[.n .i64 dH,.n .i64 cV,.isl 1 (dW.map eI),.isl 1 (dQ.map eI),.isl 1 (dV.map eI)]] 0 0),(4,.n .i64 a3),(5,.ref 0 0 0 0),(11,.bm 1 0 0 ap.length),(117,.n .i64 oo),(118,.n .i64 gH)] [[ab.mk 6 [(f8 2 0 0 aG.length aF aD 4 0 0 aH.length a3 5 0 0 bF.length)] .live],(ah 1 eI ap),(ah 1 (a9 3 0 2) aG),(bZ 2 aX dh),(ah 1 eI aH),(ah 1 eg bF)]
def HJ (dH cV:Int)(dW dQ dV:List Int)(a3 oo:Int)(aF:Bool)(aD:List Int)(aG:List bt)(dh:List (List bp))(aH:List Int):((List Int)×(List Bool))→dm
 | a=>⟨some 4,[(0,.dY 5 [[.n .i64 dH,.n .i64 cV,.isl 1 (dW.map eI),.isl 1 (dQ.map eI),.isl 1 (dV.map eI)]] 0 0),(4,.n .i64 a3),(5,.ref 0 0 0 0),(11,.bm 1 0 0 a.1.length)],[[ab.mk 6 [(f8 2 0 0 aG.length aF aD 4 0 0 aH.length a3 5 0 0 a.2.length)] .live],(ah 1 eI a.1),(ah 1 (a9 3 0 2) aG),(bZ 2 aX dh),(ah 1 eI aH),(ah 1 eg a.2)]⟩
def wD (dH cV:Int)(dW dQ dV:List Int)(a3 oo:Int)(aF:Bool)(aD:List Int)(aG:List bt)(dh:List (List bp))(aH:List Int)(gH:Int)(ap:List Int)(bF:List Bool):Option ((Int×(List Int)×(List Bool))⊕((List Int)×(List Bool))) :=
 if (decide (gH<oo))=true then
  if 0≤gH∧gH<(bF.length:Nat) then
  if (0+gH.toNat)<bF.length then
  if (decide (cV≤gH))=true then
   if 0≤gH∧gH<(ap.length:Nat) then
   if (0+gH.toNat)<ap.length then
   some (.inl (U (gH+(1:Int)),ap.set (0+gH.toNat) (-1),bF.set (0+gH.toNat) (decide (gH<cV))))
   else none
   else none
  else
   some (.inl (U (gH+(1:Int)),ap,bF.set (0+gH.toNat) (decide (gH<cV))))
  else none
  else none
 else
  some (.inr (ap,bF))
def CV (dH cV:Int)(dW dQ dV:List Int)(a3 oo:Int)(aF:Bool)(aD:List Int)(aG:List bt)(dh:List (List bp))(aH:List Int)(gH:Int)(ap:List Int)(bF:List Bool):Option ((List Int)×(List Bool)):=iter (fun w:Int×(List Int)×(List Bool)=>wD dH cV dW dQ dV a3 oo aF aD aG dh aH w.1 w.2.1 w.2.2) (gH,ap,bF)
theorem UA {dH cV:Int}{dW dQ dV:List Int}{a3 oo:Int}{aF:Bool}{aD:List Int}{aG:List bt}{dh:List (List bp)}{aH:List Int}{gH:Int}{ap:List Int}{bF:List Bool}:bA (wD dH cV dW dQ dV a3 oo aF aD aG dh aH gH ap bF) (dM bb 205 0 48 [1,1,1,1,1,0,1,0,0] (Hc dH cV dW dQ dV a3 oo aF aD aG dh aH (gH,ap,bF)) (Hc dH cV dW dQ dV a3 oo aF aD aG dh aH) (HJ dH cV dW dQ dV a3 oo aF aD aG dh aH)):=by
 unfold wD
 exact .ite (fun h1 =>
  .aZ fun o =>
  .aZ fun ae =>
  (let t1:List bX:=[(J 1),.aa true,(J 2),.az (aj 12 (an .fQ [])),(J 6)];
  have aQ:=((.dn h1 o.1 o.2 (hE eg ae) (hs 1)):cq _);
  .ite (fun av =>
  .aZ fun aA =>
  .aZ fun a2 =>
  .ret (let q1:=cv [0,1,2,3,4,5];bh (t1.append [.aa true,.az (aj 3 (an .fQ [])),(J 2),.aL [0,1,2,3,4,5] [.box [.id,.id,.id,.id,.id,.len ((bF.set (0+gH.toNat) (decide (gH<cV))).length)],.cL (ah 1 eI (ap.set (0+gH.toNat) (-1))),.bD (ah 1 (a9 3 0 2) aG),.bD (bZ 2 aX dh),.pure,.cL (ah 1 eg (bF.set (0+gH.toNat) (decide (gH<cV))))] [(0,ii),(4,ii),(5,ii),(11,fW ((ap.set (0+gH.toNat) (-1)).length)),(117,ii),(118,ii)]]) (aQ.aJ (.bl av aA.1 aA.2 (hE eI a2) (hs 1) (hR (dL bF) (0+gH.toNat) (decide (gH<cV))) (c6 1 .live (gD (cW eI ap) (0+gH.toNat) (-1))) (aK 1 .live aP (ap.set (0+gH.toNat) (-1))) (.d5 (et q1 3 3 0 2 rfl aG) (dt q1 2 e8 dh) (aK 1 .live aP aH) (c6 1 .live (gD (cW eg bF) (0+gH.toNat) (decide (gH<cV)))) (aK 1 .live eX (bF.set (0+gH.toNat) (decide (gH<cV)))) (hR (dL ap) (0+gH.toNat) (-1)))))))
  (fun av =>
  .ret (let aY:=cv [0,1,2,3,4,5];bh (t1.append [.aa false,(J 2),.aL [0,1,2,3,4,5] [.box [.id,.id,.id,.id,.id,.len ((bF.set (0+gH.toNat) (decide (gH<cV))).length)],.pure,.bD (ah 1 (a9 3 0 2) aG),.bD (bZ 2 aX dh),.pure,.cL (ah 1 eg (bF.set (0+gH.toNat) (decide (gH<cV))))] (a8 [0,4,5,11,117,118])]) (aQ.aJ (.gS av (hR (dL bF) (0+gH.toNat) (decide (gH<cV))) (aK 1 .live aP ap) (et aY 3 3 0 2 rfl aG) (dt aY 2 e8 dh) (aK 1 .live aP aH) (c6 1 .live (gD (cW eg bF) (0+gH.toNat) (decide (gH<cV)))) (aK 1 .live eX (bF.set (0+gH.toNat) (decide (gH<cV))))))))))
  (fun h1 =>
  .ret (let bJ:=cv [0,1,2,3,4,5];bh [(J 1),.aa false,.aL [0,1,2,3,4,5] [.box [.id,.id,.id,.id,.id,.id],.pure,.bD (ah 1 (a9 3 0 2) aG),.bD (bZ 2 aX dh),.pure,.pure] (a8 [0,4,5,11])] (.d5 h1 (aK 1 .live aP ap) (et bJ 3 3 0 2 rfl aG) (dt bJ 2 e8 dh) (aK 1 .live aP aH) (aK 1 .live eX bF))))
theorem V3 {dH cV:Int}{dW dQ dV:List Int}{a3 oo:Int}{aF:Bool}{aD:List Int}{aG:List bt}{dh:List (List bp)}{aH:List Int}{gH:Int}{ap:List Int}{bF:List Bool}{r} (h:CV dH cV dW dQ dV a3 oo aF aD aG dh aH gH ap bF=some r):dN bb 205 0 48 [1,1,1,1,1,0,1,0,0] (Hc dH cV dW dQ dV a3 oo aF aD aG dh aH) (HJ dH cV dW dQ dV a3 oo aF aD aG dh aH) (gH,ap,bF) r:=dO (fun _=>UA) h
def Hd (dH cV:Int)(dW dQ dV:List Int)(a3 oq:Int)(aF:Bool)(aD:List Int)(bq:Int)(ap:List Int)(aG:List bt)(dh:List (List bp))(aH:List Bool):Int→S:=fun mG=>dl [(0,.dY 5 [[.n .i64 dH,.n .i64 cV,.isl 1 (dW.map eI),.isl 1 (dQ.map eI),.isl 1 (dV.map eI)]] 0 0),(4,.n .i64 a3),(5,.ref 0 0 0 0),(149,.bm 1 0 0 ap.length),(150,.n .i64 oq),(151,.n .i64 mG)] [[ab.mk 6 [(f8 2 0 0 aG.length aF aD 1 0 0 ap.length bq 4 0 0 aH.length)] .live],(ah 1 eI ap),(ah 1 (a9 3 0 2) aG),(bZ 2 aX dh),(ah 1 eg aH)]
def HK (dH cV:Int)(dW dQ dV:List Int)(a3 oq:Int)(aF:Bool)(aD:List Int)(bq:Int)(ap:List Int)(aG:List bt)(dh:List (List bp))(aH:List Bool):((Unit)⊕(Unit))→dm
 | .inl a=>⟨some 6,[(0,.dY 5 [[.n .i64 dH,.n .i64 cV,.isl 1 (dW.map eI),.isl 1 (dQ.map eI),.isl 1 (dV.map eI)]] 0 0),(5,.ref 0 0 0 0)],[[ab.mk 6 [(f8 1 0 0 aG.length aF aD 3 0 0 ap.length bq 4 0 0 aH.length)] .live],(ah 1 (a9 2 0 2) aG),(bZ 2 aX dh),(ah 1 eI ap),(ah 1 eg aH)]⟩
 | .inr a=>⟨none,[(2,.h2),(3,.b false)],[]⟩
def wE (dH cV:Int)(dW dQ dV:List Int)(a3 oq:Int)(aF:Bool)(aD:List Int)(bq:Int)(ap:List Int)(aG:List bt)(dh:List (List bp))(aH:List Bool)(mG:Int):Option ((Int)⊕((Unit)⊕(Unit))) :=
 if (decide (mG<oq))=true then
  if 0≤mG∧mG<(ap.length:Nat) then
  ap[(0+mG.toNat)]? >>= fun aE =>
  if (decide (cV≤aE))=true then
   if 0≤mG∧mG<(aG.length:Nat) then
   aG[(0+mG.toNat)]? >>= fun fl =>
   fl >>= fun lX =>
   dh[lX.1]? >>= fun EA =>
   if 0≤a3∧a3<(lX.2:Nat) then
   EA[(0+a3.toNat)]? >>= fun LG =>
   oT LG >>= fun ey =>
   if (decide ((0:Int)<ey))=true then
    some (.inr (.inr ()))
   else
    some (.inl (U (mG+(1:Int))))
   else none
   else none
  else
   some (.inl (U (mG+(1:Int))))
  else none
 else
  some (.inr (.inl ()))
def CW (dH cV:Int)(dW dQ dV:List Int)(a3 oq:Int)(aF:Bool)(aD:List Int)(bq:Int)(ap:List Int)(aG:List bt)(dh:List (List bp))(aH:List Bool)(mG:Int):Option ((Unit)⊕(Unit)):=iter (fun w:Int=>wE dH cV dW dQ dV a3 oq aF aD bq ap aG dh aH w) mG
theorem UB {dH cV:Int}{dW dQ dV:List Int}{a3 oq:Int}{aF:Bool}{aD:List Int}{bq:Int}{ap:List Int}{aG:List bt}{dh:List (List bp)}{aH:List Bool}{mG:Int}:bA (wE dH cV dW dQ dV a3 oq aF aD bq ap aG dh aH mG) (dM bb 205 0 48 [1,1,1,1,1,1,1,0,1,0,0] (Hd dH cV dW dQ dV a3 oq aF aD bq ap aG dh aH mG) (Hd dH cV dW dQ dV a3 oq aF aD bq ap aG dh aH) (HK dH cV dW dQ dV a3 oq aF aD bq ap aG dh aH)):=by
 unfold wE
 exact .ite (fun h1 =>
  .aZ fun o =>
  .au fun aE av =>
  (let t1:List bX:=[(J 1),.aa true,.az (bs 2 (.b4 (eI aE)) 2)];
  .ite (fun aA =>
  .aZ fun a2 =>
  .au fun fl bn =>
  .au fun lX cK =>
  .au fun EA e4 =>
  .aZ fun ev =>
  .au fun LG fS =>
  .au fun ey hy =>
  (let q1:=jZ (fG .live 2 aX dh) ir e4;let t2:List bX:=t1.append [.az (aj 13 (an (.b4 ((a9 3 0 2) fl)) (aj 1 (an (.j2 169 (.bm 3 (lX.1+0) 0 lX.2) (.gi (ab.mk 2 (EA.map aX) .live) [])) (an (.gi (ab.mk 2 (EA.map aX) .live) (aX LG)) (an (br 1 (.n .i64 ey) true) (aj 1 (an (.aa true) []))))))))];
  have fF:=((.bl h1 o.1 o.2 (bU eI av) aA aA aA aA (.bl aA aA a2.1 a2.2 aA (bU (a9 3 0 2) bn) aA aA (.bl (l2 (dy:=3) (c:=0) (sz:=2) cK) q1 ev.1 ev.2 aA q1 (bU aX fS) aA (.c9 (sD ey hy) (b9.n .i64 ey) aA aA)))):cq _);
  .ite (fun hz =>
  .ret (bh (t2.append [.aa true,(J 2),.aL [] [] (a8 [2,3])]) (fF.aJ (.e1 hz))))
  (fun hz =>
  .ret (bh (t2.append [.aa false,(J 2),.aL [0,1,2,3,4] [.box [.id,.id,.id,.id,.id,.id],.pure,.bD (ah 1 (a9 3 0 2) aG),.bD (bZ 2 aX dh),.pure] (a8 [0,4,5,149,150,151])]) (fF.aJ (.dn hz (aK 1 .live aP ap) (et (cv [0,1,2,3,4]) 3 3 0 2 rfl aG) (dt (cv [0,1,2,3,4]) 2 e8 dh) (aK 1 .live eX aH)))))))
  (fun aA =>
  .ret (bh (t1.append [.az (aj 7 (cr 12 (an (.aa false) []))),.aa false,(J 2),.aL [0,1,2,3,4] [.box [.id,.id,.id,.id,.id,.id],.pure,.bD (ah 1 (a9 3 0 2) aG),.bD (bZ 2 aX dh),.pure] (a8 [0,4,5,149,150,151])]) (.bl h1 o.1 o.2 (bU eI av) aA aA aA aA (.bl aA aA aA aA aA aA aA aA (.d5 aA c1 (aK 1 .live aP ap) (et (cv [0,1,2,3,4]) 3 3 0 2 rfl aG) (dt (cv [0,1,2,3,4]) 2 e8 dh) (aK 1 .live eX aH))))))))
  (fun h1 =>
  .ret (bh [(J 1),.aa false,.aL [0,2,3,1,4] [.box [.id,.id,.id,.id,.id,.id],.bD (ah 1 (a9 2 0 2) aG),.bD (bZ 2 aX dh),.pure,.pure] (a8 [0,5])] (.dn h1 (et (cv [0,2,3,1,4]) 2 3 0 2 rfl aG) (dt (cv [0,2,3,1,4]) 2 e8 dh) (aK 1 .live aP ap) (aK 1 .live eX aH))))
theorem Nd {dH cV:Int}{dW dQ dV:List Int}{a3 oq:Int}{aF:Bool}{aD:List Int}{bq:Int}{ap:List Int}{aG:List bt}{dh:List (List bp)}{aH:List Bool}{mG:Int}{r} (h:CW dH cV dW dQ dV a3 oq aF aD bq ap aG dh aH mG=some r):dN bb 205 0 48 [1,1,1,1,1,1,1,0,1,0,0] (Hd dH cV dW dQ dV a3 oq aF aD bq ap aG dh aH) (HK dH cV dW dQ dV a3 oq aF aD bq ap aG dh aH) mG r:=dO (fun _=>UB) h
def He (dH cV:Int)(dW dQ dV:List Int)(ot:Int)(aF:Bool)(aD:List Int)(bq:Int)(ap:List bt)(a7:List (List bp))(al:List Int):(Int×(List Bool))→S:=fun (kx,aH)=>dl [(0,.dY 5 [[.n .i64 dH,.n .i64 cV,.isl 1 (dW.map eI),.isl 1 (dQ.map eI),.isl 1 (dV.map eI)]] 0 0),(5,.ref 0 0 0 0),(181,.n .i64 ot),(182,.n .i64 kx)] [[ab.mk 6 [(f8 1 0 0 ap.length aF aD 3 0 0 al.length bq 4 0 0 aH.length)] .live],(ah 1 (a9 2 0 2) ap),(bZ 2 aX a7),(ah 1 eI al),(ah 1 eg aH)]
def HL (dH cV:Int)(dW dQ dV:List Int)(ot:Int)(aF:Bool)(aD:List Int)(bq:Int)(ap:List bt)(a7:List (List bp))(al:List Int):(List Bool)→dm
 | a=>⟨some 8,[(0,.dY 5 [[.n .i64 dH,.n .i64 cV,.isl 1 (dW.map eI),.isl 1 (dQ.map eI),.isl 1 (dV.map eI)]] 0 0),(5,.ref 0 0 0 0)],[[ab.mk 6 [(f8 1 0 0 ap.length aF aD 3 0 0 al.length bq 4 0 0 a.length)] .live],(ah 1 (a9 2 0 2) ap),(bZ 2 aX a7),(ah 1 eI al),(ah 1 eg a)]⟩
def wF (dH cV:Int)(dW dQ dV:List Int)(ot:Int)(aF:Bool)(aD:List Int)(bq:Int)(ap:List bt)(a7:List (List bp))(al:List Int)(kx:Int)(aH:List Bool):Option ((Int×(List Bool))⊕((List Bool))) :=
 if (decide (kx<ot))=true then
  if 0≤kx∧kx<(aH.length:Nat) then
  if (0+kx.toNat)<aH.length then
  some (.inl (U (kx+(1:Int)),aH.set (0+kx.toNat) (decide (kx<cV))))
  else none
  else none
 else
  some (.inr aH)
def CX (dH cV:Int)(dW dQ dV:List Int)(ot:Int)(aF:Bool)(aD:List Int)(bq:Int)(ap:List bt)(a7:List (List bp))(al:List Int)(kx:Int)(aH:List Bool):Option ((List Bool)):=iter (fun w:Int×(List Bool)=>wF dH cV dW dQ dV ot aF aD bq ap a7 al w.1 w.2) (kx,aH)
theorem UC {dH cV:Int}{dW dQ dV:List Int}{ot:Int}{aF:Bool}{aD:List Int}{bq:Int}{ap:List bt}{a7:List (List bp)}{al:List Int}{kx:Int}{aH:List Bool}:bA (wF dH cV dW dQ dV ot aF aD bq ap a7 al kx aH) (dM bb 205 0 48 [1,1,1,1,1,1,1,1,0,1,0,0] (He dH cV dW dQ dV ot aF aD bq ap a7 al (kx,aH)) (He dH cV dW dQ dV ot aF aD bq ap a7 al) (HL dH cV dW dQ dV ot aF aD bq ap a7 al)):=by
 unfold wF
 exact .ite (fun h1 =>
  .aZ fun o =>
  .aZ fun ae =>
  .ret (bh [(J 1),.aa true,(J 2),.az (aj 12 (an .fQ [])),(J 2),.aL [0,1,2,3,4] [.box [.id,.id,.id,.id,.id,.len ((aH.set (0+kx.toNat) (decide (kx<cV))).length)],.bD (ah 1 (a9 2 0 2) ap),.bD (bZ 2 aX a7),.pure,.cL (ah 1 eg (aH.set (0+kx.toNat) (decide (kx<cV))))] (a8 [0,5,181,182])] (.bl h1 o.1 o.2 (hE eg ae) (hs 1) (hR (dL aH) (0+kx.toNat) (decide (kx<cV))) (et (cv [0,1,2,3,4]) 2 2 0 2 rfl ap) (dt (cv [0,1,2,3,4]) 2 e8 a7) (.bR (aK 1 .live aP al) (c6 1 .live (gD (cW eg aH) (0+kx.toNat) (decide (kx<cV)))) (aK 1 .live eX (aH.set (0+kx.toNat) (decide (kx<cV))))))))
  (fun h1 =>
  .ret (bh [(J 1),.aa false,.aL [0,1,2,3,4] [.box [.id,.id,.id,.id,.id,.id],.bD (ah 1 (a9 2 0 2) ap),.bD (bZ 2 aX a7),.pure,.pure] (a8 [0,5])] (.dn h1 (et (cv [0,1,2,3,4]) 2 2 0 2 rfl ap) (dt (cv [0,1,2,3,4]) 2 e8 a7) (aK 1 .live aP al) (aK 1 .live eX aH))))
theorem V4 {dH cV:Int}{dW dQ dV:List Int}{ot:Int}{aF:Bool}{aD:List Int}{bq:Int}{ap:List bt}{a7:List (List bp)}{al:List Int}{kx:Int}{aH:List Bool}{r} (h:CX dH cV dW dQ dV ot aF aD bq ap a7 al kx aH=some r):dN bb 205 0 48 [1,1,1,1,1,1,1,1,0,1,0,0] (He dH cV dW dQ dV ot aF aD bq ap a7 al) (HL dH cV dW dQ dV ot aF aD bq ap a7 al) (kx,aH) r:=dO (fun _=>UC) h
def zP (ca:hv):Option ((Bool×(List Int)×Int×(List bt)×(List Int)×(List Bool)×(List (List bp)))⊕(Unit)) :=
 oc 1 >>= fun r1 =>
 if 0≤(U (ca.eb+ca.fu))∧(1:Int)*(U (ca.eb+ca.fu))≤281474976710656∧(U (ca.eb+ca.fu))<9223372036854775808 then
 CU ca.fu ca.eb ca.dJ ca.ej ca.hH (U (ca.eb+ca.fu)) r1.cO r1.cC (List.replicate (U (ca.eb+ca.fu)).toNat false:List Bool) 0 ([]:List bt) ([]:List (List bp)) ([]:List Int) >>= fun bi =>
 if 0≤(U (ca.eb+ca.fu))∧(8:Int)*(U (ca.eb+ca.fu))≤281474976710656∧(U (ca.eb+ca.fu))<9223372036854775808 then
 CV ca.fu ca.eb ca.dJ ca.ej ca.hH (U (ca.eb+ca.fu)) (((U (ca.eb+ca.fu)).toNat:Nat):Int) r1.cO r1.cC bi.1 bi.2.1 bi.2.2 0 (List.replicate (U (ca.eb+ca.fu)).toNat 0:List Int) (List.replicate (U (ca.eb+ca.fu)).toNat false:List Bool) >>= fun bI =>
 wa r1.cO r1.cC (U (ca.eb+ca.fu)) bi.1 bi.2.1 bi.2.2 bI.2 bI.1 >>= fun bx =>
 CW ca.fu ca.eb ca.dJ ca.ej ca.hH (U (ca.eb+ca.fu)) ((bx.2.2.2.2.1.length:Nat):Int) bx.2.1 bx.2.2.1 (U (ca.eb+ca.fu)) bx.2.2.2.2.1 bi.1 bx.2.2.2.1 bx.2.2.2.2.2 0 >>= fun dc =>
 match dc with
 | .inl tn=>(CX ca.fu ca.eb ca.dJ ca.ej ca.hH ((bx.2.2.2.2.2.length:Nat):Int) bx.2.1 bx.2.2.1 (U (ca.eb+ca.fu)) bi.1 bx.2.2.2.1 bx.2.2.2.2.1 0 bx.2.2.2.2.2 >>= fun gf =>
  y4 ca.eb bx.2.1 bx.2.2.1 (U (ca.eb+ca.fu)) bi.1 bx.2.2.2.1 bx.2.2.2.2.1 gf >>= fun ey =>
  some (.inl (ey.1,ey.2.1,(U (ca.eb+ca.fu)),ey.2.2.1,ey.2.2.2.2,gf,ey.2.2.2.1)))
 | .inr tn=>(some (.inr ()))
 else none
 else none
set_option maxHeartbeats 4000000 in
theorem ND {ca:hv}:bA (zP ca) (Sum.elim (fun a=>Con bb 48 [.dY 5 [(nP ca)] 0 0] [] (.dZ [.ref 0 0 0 0,.b true]) [(ab.mk 6 [(f8 0 1 0 a.2.2.2.1.length a.1 a.2.1 0 2 0 a.2.2.2.2.1.length a.2.2.1 0 3 0 a.2.2.2.2.2.1.length)] .live::ab.mk 1 (a.2.2.2.1.map (a9 0 4 2)) .live::ab.mk 1 (a.2.2.2.2.1.map eI) .live::ab.mk 1 (a.2.2.2.2.2.1.map eg) .live::(bZ 2 aX a.2.2.2.2.2.2))]) (fun a=>Con bb 48 [.dY 5 [(nP ca)] 0 0] [] (.dZ [.h2,.b false]) [])):=by
 unfold zP
 exact .au fun r1 o =>
  .aZ fun ae =>
  .au fun bi aA =>
  .aZ fun a2 =>
  .au fun bI bn =>
  .au fun bx cK =>
  .au fun dc e4 =>
  (let iO:=U (ca.eb+ca.fu);let qT:=f8 1 0 0 bi.1.length bx.2.1 bx.2.2.1 3 0 0 bx.2.2.2.2.1.length iO 4 0 0 bx.2.2.2.2.2.length;let BM:=f8 2 0 0 bi.1.length bx.2.1 bx.2.2.1 4 0 0 bx.2.2.2.2.1.length iO 5 0 0 bx.2.2.2.2.2.length;let rA:=(List.replicate iO.toNat false:List Bool);let tq:=cv [17,24,25,26,15];let BN:=f8 1 0 0 bi.1.length r1.cO r1.cC 3 0 0 bi.2.2.length iO 4 0 0 bI.2.length;let yv:=f8 2 0 0 bi.1.length r1.cO r1.cC 4 0 0 bi.2.2.length iO 5 0 0 bI.2.length;let u4:=bZ 2 aX bx.2.2.2.1;let yw:=(List.replicate iO.toNat 0:List Int);let yx:=ah 1 (a9 3 0 2) bi.1;let tp:=pa [0,2,3,4,5,1];let yy:=iC [0,2,3,4,5,1];let R0:=ah 1 (a9 2 0 2) bi.1;let R1:=cv [0,6,1,2,3,4];let t1:List bX:=[(J 2),(J 10),.az (bs 1 (br 1 (.agg (aX r1)) false) 5),(J 5),.tk 17 0 1,.Es,.tk 17 3 1,.aL [17,24,25,26,15] [.box [.len (([]:List bt).length),.id,.id,.len (([]:List Int).length),.id,.len (rA.length)],.bD (ah 1 (a9 2 0 2) ([]:List bt)),.bD (bZ 2 aX ([]:List (List bp))),.cL (ah 1 eI ([]:List Int)),.cL (ah 1 eg rA)] (a8 [0,4,5,34,35]),(HI ca.fu ca.eb ca.dJ ca.ej ca.hH iO r1.cO r1.cC rA bi).fb,(J 3),(J 3),.aL [0,6,1,2,3,4] [.box [.id,.id,.id,.id,.id,.id],.cL (ah 1 eI yw),.bD yx,.bD (bZ 2 aX bi.2.1),.pure,.pure] [(0,ii),(4,ii),(5,ii),(11,fW (yw.length)),(117,ii),(118,ii)],(HJ ca.fu ca.eb ca.dJ ca.ej ca.hH iO ((iO.toNat:Nat):Int) r1.cO r1.cC bi.1 bi.2.1 bi.2.2 bI).fb,.az (aj 2 (an (.call {a0:=(u0 [0,2,3,4,5,1]),dp:=[.bD [ab.mk 6 [BN] .live],.bD R0,.bD (bZ 2 aX bi.2.1),.pure,.pure,.pure],ac:=[ii,ii],r:= .b bx.1,fw:=[[ab.mk 6 [qT] .live],R0,u4,(ah 1 eI bx.2.2.2.2.1),(ah 1 eg bx.2.2.2.2.2),(ah 1 eI bI.1)],h6:=ii,ke:=[.bD [ab.mk 6 [BM] .live],.bD yx,.bD u4,.pure,.pure,.pure],fN:=[0,1,2,3,4,5],fE:=false}) [])),(J 6),.aL [0,4,2,3,5] [.box [.id,.id,.id,.id,.id,.id],.pure,.bD yx,.bD u4,.pure] (a8 [0,4,5,149,150,151])];
  have aQ:=((.bl (rK r1 o) ae.1 (Int.le_refl iO) ae.2.1 ae.2.2 (fH bt) (fH Int) (lH iO.toNat (false:Bool)) (.bl (c0 (qg (b8:=tq) 1 .live (a9 2 0 2) (pE (a9 25 0 2)) (rq (rfl:tq 25=some 2))) (o0 (b8:=tq))) (mj (b8:=tq) (Kn .live 2 aX) (lL e8)) (c6 1 .live (pE eI)) (aK 1 .live aP ([]:List Int)) (c6 1 .live (lu eg iO.toNat false)) (aK 1 .live eX rA) (V2 aA) a2.1 (.bl (Int.le_refl iO) a2.2.1 a2.2.2 (c6 1 .live (lu eI iO.toNat 0)) (aK 1 .live aP yw) (et R1 3 2 0 2 rfl bi.1) (dt R1 2 e8 bi.2.1) (aK 1 .live aP bi.2.2) (.bl (aK 1 .live eX rA) (lH iO.toNat (0:Int)) (V3 bn) (x1 tp 6 [BN] [yv] rfl) (kD 6 [yv]) (et tp 2 3 0 2 rfl bi.1) (kD 1 (bi.1.map (a9 3 0 2))) (dt tp 2 e8 bi.2.1) (.bl (tA 2 aX bi.2.1) (iQ 1 aP bi.2.2) (iQ 1 eX bI.2) (iQ 1 aP bI.1) (x1 yy 6 [BM] [qT] rfl) (kD 6 [qT]) (et yy 3 2 0 2 rfl bi.1) (kD 1 (bi.1.map (a9 2 0 2))) (.bl (dt yy 2 e8 bx.2.2.2.1) (tA 2 aX bx.2.2.2.1) (iQ 1 aP bx.2.2.2.2.1) (iQ 1 eX bx.2.2.2.2.2) (iQ 1 aP bI.1) (TU bx cK) (aK 1 .live aP bx.2.2.2.2.1) (et (cv [0,4,2,3,5]) 3 3 0 2 rfl bi.1) (.aC (dt (cv [0,4,2,3,5]) 2 e8 bx.2.2.2.1) (aK 1 .live eX bx.2.2.2.2.2)))))))):cq _);
  (by
  rcases dc with tn|tn
  ·exact (.au fun gf fS =>
  .au fun ey hy =>
  .ret (let bS:=bZ 2 aX ey.2.2.2.1;let cA:=ah 1 (a9 2 0 2) ey.2.2.1;let d4:=U (ca.eb+ca.fu);let q1:=f8 1 0 0 ey.2.2.1.length ey.1 ey.2.1 3 0 0 ey.2.2.2.2.length d4 4 0 0 gf.length;let aY:=f8 1 0 0 bi.1.length bx.2.1 bx.2.2.1 3 0 0 bx.2.2.2.2.1.length d4 4 0 0 gf.length;let bJ:=f8 0 1 0 ey.2.2.1.length ey.1 ey.2.1 0 2 0 ey.2.2.2.2.length d4 0 3 0 gf.length;let fP:=pa [0,1,2,3,4];let eB:=iC [0,1,2,3,4];let hI:=ah 1 (a9 0 4 2) ey.2.2.1;let jA:=bZ 2 aX bx.2.2.2.1;let jB:=ah 1 (a9 2 0 2) bi.1;let mo:=cv [0];lC (t1.append [(HK ca.fu ca.eb ca.dJ ca.ej ca.hH d4 ((bx.2.2.2.2.1.length:Nat):Int) bx.2.1 bx.2.2.1 d4 bx.2.2.2.2.1 bi.1 bx.2.2.2.1 bx.2.2.2.2.2 (.inl tn)).fb,(J 6),.aL [0,1,2,3,4] [.box [.id,.id,.id,.id,.id,.id],.bD jB,.bD jA,.pure,.pure] (a8 [0,5,181,182]),(HL ca.fu ca.eb ca.dJ ca.ej ca.hH ((bx.2.2.2.2.2.length:Nat):Int) bx.2.1 bx.2.2.1 d4 bi.1 bx.2.2.2.1 bx.2.2.2.2.1 gf).fb,.az (aj 5 (an (.call {a0:=(u0 [0,1,2,3,4]),dp:=[.bD [ab.mk 6 [aY] .live],.bD jB,.bD jA,.pure,.pure],ac:=[ii,ii],r:= .dZ [],fw:=[[ab.mk 6 [q1] .live],cA,bS,(ah 1 eI ey.2.2.2.2),(ah 1 eg gf)],h6:=ii,ke:=[.bD [ab.mk 6 [q1] .live],.bD cA,.bD bS,.pure,.pure],fN:=[0,1,2,3,4],fE:=false}) [])),(J 3),.BI [{bG:=[(0,0),(1,0),(3,0),(4,0)],iB:=some (2,0)}] [([.box [.at_ 0 1 ey.2.2.1.length,.id,.id,.at_ 0 2 ey.2.2.2.2.length,.id,.at_ 0 3 gf.length],.rx hI,.pure,.pure],some (.rx bS))] [(2,.bw (.dK (.at_ 0 0 0))),(3,ii)]]) [0] [.bD (ab.mk 6 [bJ] .live::ab.mk 1 (ey.2.2.1.map (a9 0 4 2)) .live::ab.mk 1 (ey.2.2.2.2.map eI) .live::ab.mk 1 (gf.map eg) .live::bS)] (aQ.aJ (.bl (Nd e4) (et (cv [0,1,2,3,4]) 2 2 0 2 rfl bi.1) (dt (cv [0,1,2,3,4]) 2 e8 bx.2.2.2.1) (aK 1 .live aP bx.2.2.2.2.1) (aK 1 .live eX bx.2.2.2.2.2) (V4 fS) (x1 fP 6 [aY] [aY] rfl) (kD 6 [aY]) (.bl (et fP 2 2 0 2 rfl bi.1) (kD 1 (bi.1.map (a9 2 0 2))) (dt fP 2 e8 bx.2.2.2.1) (tA 2 aX bx.2.2.2.1) (iQ 1 aP bx.2.2.2.2.1) (iQ 1 eX gf) (x1 eB 6 [q1] [q1] rfl) (kD 6 [q1]) (.bl (et eB 2 2 0 2 rfl ey.2.2.1) (kD 1 (ey.2.2.1.map (a9 2 0 2))) (dt eB 2 e8 ey.2.2.2.1) (tA 2 aX ey.2.2.2.1) (iQ 1 aP ey.2.2.2.2) (iQ 1 eX gf) (Uw ey hy) (rfl:(kB [{bG:=[(0,0),(1,0),(3,0),(4,0)],iB:=some (2,0)}]) 0 1=some (1,0)) (.bl (rfl:ey.2.2.1.length=ey.2.2.1.length) (rfl:(kB [{bG:=[(0,0),(1,0),(3,0),(4,0)],iB:=some (2,0)}]) 0 2=some (3,0)) (rfl:ey.2.2.2.2.length=ey.2.2.2.2.length) (rfl:(kB [{bG:=[(0,0),(1,0),(3,0),(4,0)],iB:=some (2,0)}]) 0 3=some (4,0)) (rfl:gf.length=gf.length) (P1 (KB (j3:=(a9 0 4 2)) (cW (a9 2 0 2) ey.2.2.1) (fun _=>rfl) (fun x=>(QZ (fun _=>rfl)) x)) Qt:rv (kB [{bG:=[(0,0),(1,0),(3,0),(4,0)],iB:=some (2,0)}]) cA hI) (aK 1 .live aP ey.2.2.2.2) (aK 1 .live eX gf) (.bR (P3 (fG .live 2 aX ey.2.2.2.1) (fun _=>rfl) e8:rv (kB [{bG:=[(0,0),(1,0),(3,0),(4,0)],iB:=some (2,0)}]) bS bS) (rfl:(kB [{bG:=[(0,0),(1,0),(3,0),(4,0)],iB:=some (2,0)}]) 0 0=some (0,0)) (c0 (show ab.mk 6 [bJ] .live=gG mo (ab.mk 6 [bJ] .live) from rfl) (c0 (j4 mo 0 0 4 2 rfl ey.2.2.1) (c0 (fY mo 1 jh ey.2.2.2.2) (c0 (fY mo 1 QY gf) (dt mo 2 e8 ey.2.2.2.1))))))))))) (.comp [.dK .id,.dK .id])))
  ·exact (.ret (lC (t1.append [.sub (.ret) [(2,.h2),(3,.b false)] []]) [] [] (aQ.aJ (.e1 (Nd e4)))))))
def wc (aN:cR)(dg:List Int):Option Bool :=
 yS aN dg 0 0 >>= fun r1 =>
 zP r1 >>= fun bk =>
 match bk with
 | .inl fU=>(some true)
 | .inr fU=>(some false)
theorem T0 {aN:cR}{dg:List Int}:bA (wc aN dg) (fun r=>Con bb 33 [.dY 2 [(hK aN)] 0 0,.isl 1 (dg.map eI)] [] (.b r) []):=by
 unfold wc
 exact .au fun r1 o =>
  .au fun bk av =>
  (let t1:List bX:=[(J 1),.az (bs 2 (br 4 (.agg (nP r1)) false) 2),.iT 4];
  have aQ:=((.aC (Tn r1 o) (qp (Xb r1):jF [(nP r1)])):cq _);
  (by
  rcases bk with fU|fU
  ·exact (.ret (let q1:=f8 0 1 0 fU.2.2.2.1.length fU.1 fU.2.1 0 2 0 fU.2.2.2.2.1.length fU.2.2.1 0 3 0 fU.2.2.2.2.2.1.length;let aY:=f8 6 1 0 fU.2.2.2.1.length fU.1 fU.2.1 6 2 0 fU.2.2.2.2.1.length fU.2.2.1 6 3 0 fU.2.2.2.2.2.1.length;let bJ:=bZ 2 aX fU.2.2.2.2.2.2;bu (t1.append [.az (an (.call {a0:=[],dp:=[],ac:=[.bw (.ptr [.id,.id,.id,.id,.id])],r:= .dZ [.ref 0 0 0 0,.b true],fw:=[(ab.mk 6 [q1] .live::ab.mk 1 (fU.2.2.2.1.map (a9 0 4 2)) .live::ab.mk 1 (fU.2.2.2.2.1.map eI) .live::ab.mk 1 (fU.2.2.2.2.2.1.map eg) .live::bJ)],h6:= .comp [.dK .id,.dK .id],ke:=[.bD (ab.mk 6 [aY] .live::ab.mk 1 (fU.2.2.2.1.map (a9 6 4 2)) .live::ab.mk 1 (fU.2.2.2.2.1.map eI) .live::ab.mk 1 (fU.2.2.2.2.2.1.map eg) .live::bJ)],fN:=[4],fE:=false}) (aj 5 [])),(J 2)]) (aQ.aJ (.bR (c0 (show ab.mk 6 [aY] .live=gG (iC [6]) (ab.mk 6 [q1] .live) from rfl) (c0 (j4 (iC [6]) 6 0 4 2 rfl fU.2.2.2.1) (c0 (fY (iC [6]) 1 jh fU.2.2.2.2.1) (c0 (fY (iC [6]) 1 QY fU.2.2.2.2.2.1) (dt (iC [6]) 2 e8 fU.2.2.2.2.2.2))))) ((jb rfl (jb rfl (jb rfl (jb rfl (re (fG .live 2 aX fU.2.2.2.2.2.2)))))):ly (ab.mk 6 [q1] .live::ab.mk 1 (fU.2.2.2.1.map (a9 0 4 2)) .live::ab.mk 1 (fU.2.2.2.2.1.map eI) .live::ab.mk 1 (fU.2.2.2.2.2.1.map eg) .live::bJ)) (ND (.inl fU) av)))))
  ·exact (.ret (bu (t1.append [.az (an (.call {a0:=[],dp:=[],ac:=[.bw (.ptr [.id,.id,.id,.id,.id])],r:= .dZ [.h2,.b false],fw:=[],h6:=ii,ke:=[],fN:=[4],fE:=false}) (aj 5 [])),(J 2)]) (aQ.aJ (.e1 (ND (.inr fU) av)))))))
def Fm (d6:List b0)(dA:List cc)(du:List (List Int))(dk:Int):Int→S:=fun d9=>dl [(0,.dY 2 [[.isl 4 (d6.map b7),.isl 3 (dA.map cl)]] 0 0),(7,.isl 1 (du.map (eL 1 eI))),(8,.n .i64 dk),(9,.n .i64 d9)] []
def Mv (d6:List b0)(dA:List cc)(du:List (List Int))(dk:Int):((Unit)⊕(Int))→dm
 | .inl a=>⟨some 0,[],[]⟩
 | .inr a=>⟨none,[(4,.n .i64 a)],[]⟩
def qj (d6:List b0)(dA:List cc)(du:List (List Int))(dk d9:Int):Option ((Int)⊕((Unit)⊕(Int))) :=
 if (decide (d9<dk))=true then
  if 0≤d9∧d9<du.length then
  du[d9.toNat]? >>= fun aE =>
  wc (⟨d6,dA⟩:cR) aE >>= fun aT =>
  if aT=true then
   some (.inl (U (d9+(1:Int))))
  else
   some (.inr (.inr d9))
  else none
 else
  some (.inr (.inl ()))
def FH (d6:List b0)(dA:List cc)(du:List (List Int))(dk d9:Int):Option ((Unit)⊕(Int)):=iter (fun w:Int=>qj d6 dA du dk w) d9
theorem Ta {d6:List b0}{dA:List cc}{du:List (List Int)}{dk d9:Int}:bA (qj d6 dA du dk d9) (dM bb 20 0 21 [1,0,1,0,0] (Fm d6 dA du dk d9) (Fm d6 dA du dk) (Mv d6 dA du dk)):=by
 unfold qj
 exact .ite (fun h1 =>
  .aZ fun o =>
  .au fun aE av =>
  .au fun aT a2 =>
  (let t1:List bX:=[(J 1),.aa true,.az (bs 2 (.b4 ((eL 1 eI) aE)) 2),.az (bs 2 (br 2 (.b aT) true) 1)];
  have aQ:=((.d5 h1 o.1 (cN (eL 1 eI) o.2) (bU (eL 1 eI) av) (T0 aT a2) (b9.b aT)):cq _);
  .ite (fun bd =>
  .ret (bh (t1.append [.aa false,(J 2),.aL [] [] (a8 [0,7,8,9])]) (aQ.aJ (.e1 (cY bd)))))
  (fun bd =>
  .ret (bh (t1.append [.aa true,(J 2),.aL [] [] (a8 [4])]) (aQ.aJ (.e1 (cU bd)))))))
  (fun h1 =>
  .ret (bh [(J 1),.aa false,.aL [] [] []] (.e1 h1)))
theorem Mx {d6:List b0}{dA:List cc}{du:List (List Int)}{dk d9:Int}{r} (h:FH d6 dA du dk d9=some r):dN bb 20 0 21 [1,0,1,0,0] (Fm d6 dA du dk) (Mv d6 dA du dk) d9 r:=dO (fun _=>Ta) h
def yY (aN:cR)(h9:List (List Int)):Option Int :=
 FH aN.b3 aN.bQ h9 (len_ (eL 1 eI) h9) 0 >>= fun r1 =>
 match r1 with
 | .inl di=>(some (-1))
 | .inr di=>(some di)
theorem T1 {aN:cR}{h9:List (List Int)}:bA (yY aN h9) (fun r=>Con bb 21 [.dY 2 [(hK aN)] 0 0,.isl 1 (h9.map (eL 1 eI))] [] (.n .i64 r) []):=by
 unfold yY
 exact .au fun r1 o =>
  (let t1:List bX:=[(J 1),(J 3),.aL [] [] (a8 [0,7,8,9])];
  (by
  rcases r1 with di|di
  ·exact (.ret (bu (t1.append [.sub (.exit 0) [] [],(J 1)]) (.e1 (Mx o))))
  ·exact (.ret (bu (t1.append [.sub (.ret) [(4,.n .i64 di)] []]) (.e1 (Mx o))))))
def zk (aN:cR)(h9:List (List Int)):Option Bool :=
 xc aN h9 >>= fun r1 =>
 if r1=true then
  yY aN h9 >>= fun bi =>
  some (decide (bi<(0:Int)))
 else
  some false
theorem V5 {aN:cR}{h9:List (List Int)}:bA (zk aN h9) (fun r=>Con bb 9 [.agg (hK aN),.isl 1 (h9.map (eL 1 eI))] [] (.b r) []):=by
 unfold zk
 exact .au fun r1 o =>
  (have ah:=((.bR (qp (CJ aN):jF [(hK aN)]) (WX r1 o) (b9.b r1)):cq _);
  .ite (fun ae =>
  .au fun bi aA =>
  .ret (bu [(J 2),.az (aj 1 (an (.call {ac:=[.bw (.ptr [.id,.id]),ii],r:= .b r1,fE:=true,fN:=[0]}) (aj 2 (an (.call {ac:=[.bw (.ptr [.id,.id]),ii],r:= .n .i64 bi,fE:=true,fN:=[0]}) (bs 1 (.aa true) 1)))))] (ah.aJ (.eJ ae ae (qp (CJ aN):jF [(hK aN)]) (T1 bi aA) (b9.n .i64 bi) ae ae))))
  (fun ae =>
  .ret (bu [(J 2),.az (aj 1 (an (.call {ac:=[.bw (.ptr [.id,.id]),ii],r:= .b r1,fE:=true,fN:=[0]}) (aj 1 (cr 3 (an (.aa false) (aj 1 []))))))] (ah.aJ (.c9 ae ae ae ae)))))
def zQ (af ax:b0):Option Bool :=
 if (!(af.k9.toList == ax.k9.toList))=true then
  some false
 else
  if (af.j5 != ax.j5)=true then
   some false
  else
   if (af.j6 != ax.j6)=true then
    some false
   else
    if (af.k6 == ax.k6)=true then
     some true
    else
     some false
theorem W2 {af ax:b0}:bA (zQ af ax) (fun r=>Con bb 34 [.agg (b7 af),.agg (b7 ax)] [] (.b r) []):=by
 unfold zQ
 exact .ite (fun h1 =>
  .ret (bu [(J 3),(J 5),.aa true,(J 1)] (.e1 h1)))
  (fun h1 =>
  (let t1:List bX:=[(J 3),(J 5),.aa false,(J 5)];
  .ite (fun o =>
  .ret (bu (t1.append [.aa true,(J 1)]) (.aC h1 o)))
  (fun o =>
  .ite (fun ae =>
  .ret (bu (t1.append [.aa false,(J 5),.aa true,(J 1)]) (.bR h1 o ae)))
  (fun ae =>
  (let t2:List bX:=t1.append [.aa false,(J 5),.aa false,(J 5)];
  .ite (fun av =>
  .ret (bu (t2.append [.aa false,(J 1)]) (.c9 h1 o ae (cY av))))
  (fun av =>
  .ret (bu (t2.append [.aa true,(J 1)]) (.c9 h1 o ae (cU av)))))))))
def GG (af ax:List b0):Int→S:=fun ag=>dl [(0,.isl 4 (af.map b7)),(1,.isl 4 (ax.map b7)),(5,.n .i64 ag)] []
def MS (af ax:List b0):((Unit)⊕(Unit))→dm
 | .inl a=>⟨some 0,[],[]⟩
 | .inr a=>⟨none,[(4,.b false)],[]⟩
def wm (af ax:List b0)(ag:Int):Option ((Int)⊕((Unit)⊕(Unit))) :=
 if (decide (ag<(len_ b7 af)))=true then
  if 0≤ag∧ag<af.length then
  af[ag.toNat]? >>= fun aE =>
  if 0≤ag∧ag<ax.length then
  ax[ag.toNat]? >>= fun ct =>
  zQ aE ct >>= fun c4 =>
  if c4=true then
   some (.inl (U (ag+(1:Int))))
  else
   some (.inr (.inr ()))
  else none
  else none
 else
  some (.inr (.inl ()))
def IF (af ax:List b0)(ag:Int):Option ((Unit)⊕(Unit)):=iter (fun w:Int=>wm af ax w) ag
theorem Ug {af ax:List b0}{ag:Int}:bA (wm af ax ag) (dM bb 27 0 22 [1,1,0,1,0,0] (GG af ax ag) (GG af ax) (MS af ax)):=by
 unfold wm
 exact .ite (fun h1 =>
  .aZ fun o =>
  .au fun aE av =>
  .aZ fun aA =>
  .au fun ct bd =>
  .au fun c4 cp =>
  (let t1:List bX:=[(J 4),.aa true,.az (aj 3 (an (.b4 (b7 aE)) (aj 3 (an (.b4 (b7 ct)) (an (br 2 (.b c4) true) (aj 1 []))))))];
  have aQ:=((.bl h1 o.1 (cN b7 o.2) (bU b7 av) aA.1 (cN b7 aA.2) (bU b7 bd) (W2 c4 cp) (.e1 (b9.b c4))):cq _);
  .ite (fun cK =>
  .ret (bh (t1.append [.aa false,(J 3),.aL [] [] (a8 [0,1,5])]) (aQ.aJ (.e1 (cY cK)))))
  (fun cK =>
  .ret (bh (t1.append [.aa true,(J 1),.aL [] [] (a8 [4])]) (aQ.aJ (.e1 (cU cK)))))))
  (fun h1 =>
  .ret (bh [(J 4),.aa false,.aL [] [] []] (.e1 h1)))
theorem M2 {af ax:List b0}{ag:Int}{r} (h:IF af ax ag=some r):dN bb 27 0 22 [1,1,0,1,0,0] (GG af ax) (MS af ax) ag r:=dO (fun _=>Ug) h
def zF (af ax:List b0):Option Bool :=
 if ((len_ b7 af) != (len_ b7 ax))=true then
  some false
 else
  IF af ax 0 >>= fun b5 =>
  match b5 with
  | .inl ff=>(some true)
  | .inr ff=>(some false)
theorem WG {af ax:List b0}:bA (zF af ax) (fun r=>Con bb 22 [.isl 4 (af.map b7),.isl 4 (ax.map b7)] [] (.b r) []):=by
 unfold zF
 exact .ite (fun h1 =>
  .ret (bu [(J 1),(J 5),.aa true,(J 1)] (.e1 h1)))
  (fun h1 =>
  .au fun b5 ae =>
  (let t1:List bX:=[(J 1),(J 5),.aa false,(J 1),.aL [] [] (a8 [0,1,5])];
  (by
  rcases b5 with ff|ff
  ·exact (.ret (bu (t1.append [.sub (.exit 0) [] [],(J 1)]) (.aC h1 (M2 ae))))
  ·exact (.ret (bu (t1.append [.sub (.ret) [(4,.b false)] []]) (.aC h1 (M2 ae)))))))
def zG (af ax:cc):Option Bool :=
 if (af.dJ != ax.dJ)=true then
  some false
 else
  if (af.ej != ax.ej)=true then
   some false
  else
   if (af.i5 != ax.i5)=true then
    some false
   else
    some true
theorem WH {af ax:cc}:bA (zG af ax) (fun r=>Con bb 35 [.agg (cl af),.agg (cl ax)] [] (.b r) []):=by
 unfold zG
 exact .ite (fun h1 =>
  .ret (bu [(J 3),(J 5),.aa true,(J 1)] (.e1 h1)))
  (fun h1 =>
  (let t1:List bX:=[(J 3),(J 5),.aa false,(J 5)];
  .ite (fun o =>
  .ret (bu (t1.append [.aa true,(J 1)]) (.aC h1 o)))
  (fun o =>
  .ite (fun ae =>
  .ret (bu (t1.append [.aa false,(J 5),.aa true,(J 1)]) (.bR h1 o ae)))
  (fun ae =>
  .ret (bu (t1.append [.aa false,(J 5),.aa false,(J 1)]) (.bR h1 o ae))))))
def Gq (af ax:List cc):Int→S:=fun ag=>dl [(0,.isl 3 (af.map cl)),(1,.isl 3 (ax.map cl)),(5,.n .i64 ag)] []
def MM (af ax:List cc):((Unit)⊕(Unit))→dm
 | .inl a=>⟨some 0,[],[]⟩
 | .inr a=>⟨none,[(4,.b false)],[]⟩
def we (af ax:List cc)(ag:Int):Option ((Int)⊕((Unit)⊕(Unit))) :=
 if (decide (ag<(len_ cl af)))=true then
  if 0≤ag∧ag<af.length then
  af[ag.toNat]? >>= fun aE =>
  if 0≤ag∧ag<ax.length then
  ax[ag.toNat]? >>= fun ct =>
  zG aE ct >>= fun c4 =>
  if c4=true then
   some (.inl (U (ag+(1:Int))))
  else
   some (.inr (.inr ()))
  else none
  else none
 else
  some (.inr (.inl ()))
def Is (af ax:List cc)(ag:Int):Option ((Unit)⊕(Unit)):=iter (fun w:Int=>we af ax w) ag
theorem T2 {af ax:List cc}{ag:Int}:bA (we af ax ag) (dM bb 27 0 23 [1,1,0,1,0,0] (Gq af ax ag) (Gq af ax) (MM af ax)):=by
 unfold we
 exact .ite (fun h1 =>
  .aZ fun o =>
  .au fun aE av =>
  .aZ fun aA =>
  .au fun ct bd =>
  .au fun c4 cp =>
  (let t1:List bX:=[(J 4),.aa true,.az (aj 3 (an (.b4 (cl aE)) (aj 3 (an (.b4 (cl ct)) (an (br 2 (.b c4) true) (aj 1 []))))))];
  have aQ:=((.bl h1 o.1 (cN cl o.2) (bU cl av) aA.1 (cN cl aA.2) (bU cl bd) (WH c4 cp) (.e1 (b9.b c4))):cq _);
  .ite (fun cK =>
  .ret (bh (t1.append [.aa false,(J 3),.aL [] [] (a8 [0,1,5])]) (aQ.aJ (.e1 (cY cK)))))
  (fun cK =>
  .ret (bh (t1.append [.aa true,(J 1),.aL [] [] (a8 [4])]) (aQ.aJ (.e1 (cU cK)))))))
  (fun h1 =>
  .ret (bh [(J 4),.aa false,.aL [] [] []] (.e1 h1)))
theorem MT {af ax:List cc}{ag:Int}{r} (h:Is af ax ag=some r):dN bb 27 0 23 [1,1,0,1,0,0] (Gq af ax) (MM af ax) ag r:=dO (fun _=>T2) h
def zs (af ax:List cc):Option Bool :=
 if ((len_ cl af) != (len_ cl ax))=true then
  some false
 else
  Is af ax 0 >>= fun b5 =>
  match b5 with
  | .inl ff=>(some true)
  | .inr ff=>(some false)
theorem Wh {af ax:List cc}:bA (zs af ax) (fun r=>Con bb 23 [.isl 3 (af.map cl),.isl 3 (ax.map cl)] [] (.b r) []):=by
 unfold zs
 exact .ite (fun h1 =>
  .ret (bu [(J 1),(J 5),.aa true,(J 1)] (.e1 h1)))
  (fun h1 =>
  .au fun b5 ae =>
  (let t1:List bX:=[(J 1),(J 5),.aa false,(J 1),.aL [] [] (a8 [0,1,5])];
  (by
  rcases b5 with ff|ff
  ·exact (.ret (bu (t1.append [.sub (.exit 0) [] [],(J 1)]) (.aC h1 (MT ae))))
  ·exact (.ret (bu (t1.append [.sub (.ret) [(4,.b false)] []]) (.aC h1 (MT ae)))))))
def zc (af ax:cR):Option Bool :=
 zF af.b3 ax.b3 >>= fun r1 =>
 if r1=true then
  zs af.bQ ax.bQ >>= fun bi =>
  if bi=true then
   some true
  else
   some false
 else
  some false
theorem VF {af ax:cR}:bA (zc af ax) (fun r=>Con bb 10 [.agg (hK af),.agg (hK ax)] [] (.b r) []):=by
 unfold zc
 exact .au fun r1 o =>
  (let t1:List bX:=[(J 3),.az (bs 4 (br 2 (.b r1) true) 1)];
  have aQ:=((.aC (WG r1 o) (b9.b r1)):cq _);
  .ite (fun ae =>
  .au fun bi aA =>
  (let t3:List bX:=t1.append [.aa false,.az (bs 4 (br 2 (.b bi) true) 1)];
  have eR:=aQ.aJ (.bR (cY ae) (Wh bi aA) (b9.b bi));
  .ite (fun a2 =>
  .ret (bu (t3.append [.aa false,(J 1)]) (eR.aJ (.e1 (cY a2)))))
  (fun a2 =>
  .ret (bu (t3.append [.aa true,(J 1)]) (eR.aJ (.e1 (cU a2)))))))
  (fun ae =>
  .ret (bu (t1.append [.aa true,(J 1)]) (aQ.aJ (.e1 (cU ae))))))
def HM (af ax:List Int):Int→S:=fun ag=>dl [(0,.isl 1 (af.map eI)),(1,.isl 1 (ax.map eI)),(5,.n .i64 ag)] []
def Nf (af ax:List Int):((Unit)⊕(Unit))→dm
 | .inl a=>⟨some 0,[],[]⟩
 | .inr a=>⟨none,[(4,.b false)],[]⟩
def wN (af ax:List Int)(ag:Int):Option ((Int)⊕((Unit)⊕(Unit))) :=
 if (decide (ag<(len_ eI af)))=true then
  if 0≤ag∧ag<af.length then
  af[ag.toNat]? >>= fun aE =>
  if 0≤ag∧ag<ax.length then
  ax[ag.toNat]? >>= fun ct =>
  if (aE != ct)=true then
   some (.inr (.inr ()))
  else
   some (.inl (U (ag+(1:Int))))
  else none
  else none
 else
  some (.inr (.inl ()))
def Jc (af ax:List Int)(ag:Int):Option ((Unit)⊕(Unit)):=iter (fun w:Int=>wN af ax w) ag
theorem UY {af ax:List Int}{ag:Int}:bA (wN af ax ag) (dM bb 26 0 24 [1,1,0,1,0,0] (HM af ax ag) (HM af ax) (Nf af ax)):=by
 unfold wN
 exact .ite (fun h1 =>
  .aZ fun o =>
  .au fun aE av =>
  .aZ fun aA =>
  .au fun ct bd =>
  (let t1:List bX:=[(J 4),.aa true,.az (aj 3 (an (.b4 (eI aE)) (bs 3 (.b4 (eI ct)) 1)))];
  have aQ:=((.eJ h1 o.1 (cN eI o.2) (bU eI av) aA.1 (cN eI aA.2) (bU eI bd)):cq _);
  .ite (fun bn =>
  .ret (bh (t1.append [.aa true,(J 1),.aL [] [] (a8 [4])]) (aQ.aJ (.e1 bn))))
  (fun bn =>
  .ret (bh (t1.append [.aa false,(J 3),.aL [] [] (a8 [0,1,5])]) (aQ.aJ (.e1 bn))))))
  (fun h1 =>
  .ret (bh [(J 4),.aa false,.aL [] [] []] (.e1 h1)))
theorem Nq {af ax:List Int}{ag:Int}{r} (h:Jc af ax ag=some r):dN bb 26 0 24 [1,1,0,1,0,0] (HM af ax) (Nf af ax) ag r:=dO (fun _=>UY) h
def zZ (af ax:List Int):Option Bool :=
 if ((len_ eI af) != (len_ eI ax))=true then
  some false
 else
  Jc af ax 0 >>= fun b5 =>
  match b5 with
  | .inl ff=>(some true)
  | .inr ff=>(some false)
theorem Xk {af ax:List Int}:bA (zZ af ax) (fun r=>Con bb 24 [.isl 1 (af.map eI),.isl 1 (ax.map eI)] [] (.b r) []):=by
 unfold zZ
 exact .ite (fun h1 =>
  .ret (bu [(J 1),(J 5),.aa true,(J 1)] (.e1 h1)))
  (fun h1 =>
  .au fun b5 ae =>
  (let t1:List bX:=[(J 1),(J 5),.aa false,(J 1),.aL [] [] (a8 [0,1,5])];
  (by
  rcases b5 with ff|ff
  ·exact (.ret (bu (t1.append [.sub (.exit 0) [] [],(J 1)]) (.aC h1 (Nq ae))))
  ·exact (.ret (bu (t1.append [.sub (.ret) [(4,.b false)] []]) (.aC h1 (Nq ae)))))))
def Hf (af ax:List (List Int)):Int→S:=fun ag=>dl [(0,.isl 1 (af.map (eL 1 eI))),(1,.isl 1 (ax.map (eL 1 eI))),(5,.n .i64 ag)] []
def M3 (af ax:List (List Int)):((Unit)⊕(Unit))→dm
 | .inl a=>⟨some 0,[],[]⟩
 | .inr a=>⟨none,[(4,.b false)],[]⟩
def wG (af ax:List (List Int))(ag:Int):Option ((Int)⊕((Unit)⊕(Unit))) :=
 if (decide (ag<(len_ (eL 1 eI) af)))=true then
  if 0≤ag∧ag<af.length then
  af[ag.toNat]? >>= fun aE =>
  if 0≤ag∧ag<ax.length then
  ax[ag.toNat]? >>= fun ct =>
  zZ aE ct >>= fun c4 =>
  if c4=true then
   some (.inl (U (ag+(1:Int))))
  else
   some (.inr (.inr ()))
  else none
  else none
 else
  some (.inr (.inl ()))
def IX (af ax:List (List Int))(ag:Int):Option ((Unit)⊕(Unit)):=iter (fun w:Int=>wG af ax w) ag
theorem UD {af ax:List (List Int)}{ag:Int}:bA (wG af ax ag) (dM bb 27 0 11 [1,1,0,1,0,0] (Hf af ax ag) (Hf af ax) (M3 af ax)):=by
 unfold wG
 exact .ite (fun h1 =>
  .aZ fun o =>
  .au fun aE av =>
  .aZ fun aA =>
  .au fun ct bd =>
  .au fun c4 cp =>
  (let t1:List bX:=[(J 4),.aa true,.az (aj 3 (an (.b4 ((eL 1 eI) aE)) (aj 3 (an (.b4 ((eL 1 eI) ct)) (an (br 2 (.b c4) true) (aj 1 []))))))];
  have aQ:=((.bl h1 o.1 (cN (eL 1 eI) o.2) (bU (eL 1 eI) av) aA.1 (cN (eL 1 eI) aA.2) (bU (eL 1 eI) bd) (Xk c4 cp) (.e1 (b9.b c4))):cq _);
  .ite (fun cK =>
  .ret (bh (t1.append [.aa false,(J 3),.aL [] [] (a8 [0,1,5])]) (aQ.aJ (.e1 (cY cK)))))
  (fun cK =>
  .ret (bh (t1.append [.aa true,(J 1),.aL [] [] (a8 [4])]) (aQ.aJ (.e1 (cU cK)))))))
  (fun h1 =>
  .ret (bh [(J 4),.aa false,.aL [] [] []] (.e1 h1)))
theorem Ng {af ax:List (List Int)}{ag:Int}{r} (h:IX af ax ag=some r):dN bb 27 0 11 [1,1,0,1,0,0] (Hf af ax) (M3 af ax) ag r:=dO (fun _=>UD) h
def zR (af ax:List (List Int)):Option Bool :=
 if ((len_ (eL 1 eI) af) != (len_ (eL 1 eI) ax))=true then
  some false
 else
  IX af ax 0 >>= fun b5 =>
  match b5 with
  | .inl ff=>(some true)
  | .inr ff=>(some false)
theorem W3 {af ax:List (List Int)}:bA (zR af ax) (fun r=>Con bb 11 [.isl 1 (af.map (eL 1 eI)),.isl 1 (ax.map (eL 1 eI))] [] (.b r) []):=by
 unfold zR
 exact .ite (fun h1 =>
  .ret (bu [(J 1),(J 5),.aa true,(J 1)] (.e1 h1)))
  (fun h1 =>
  .au fun b5 ae =>
  (let t1:List bX:=[(J 1),(J 5),.aa false,(J 1),.aL [] [] (a8 [0,1,5])];
  (by
  rcases b5 with ff|ff
  ·exact (.ret (bu (t1.append [.sub (.exit 0) [] [],(J 1)]) (.aC h1 (Ng ae))))
  ·exact (.ret (bu (t1.append [.sub (.ret) [(4,.b false)] []]) (.aC h1 (Ng ae)))))))
def CA (Bi:cR)(Ah:List (List Int)):Option Bool :=
 tW Bi 1048576 >>= fun r1 =>
 if (decide (r1<(0:Int)))=true then
  some true
 else
  zJ Ah r1 >>= fun bi =>
  if (decide (bi<(0:Int)))=true then
   some true
  else
   y7 Bi >>= fun bI =>
   zm Ah >>= fun bx =>
   if bx.1.all (oM bx.2)=true then
   zi (⟨bI.1,bI.2⟩:cR) (bx.1.map (gz bx.2)) >>= fun dT =>
   zk (⟨bI.1,bI.2⟩:cR) (bx.1.map (gz bx.2)) >>= fun gf =>
   if (gf == dT)=true then
    zc (⟨bI.1,bI.2⟩:cR) (⟨bI.1,bI.2⟩:cR) >>= fun gn =>
    if gn=true then
     zR (bx.1.map (gz bx.2)) (bx.1.map (gz bx.2)) >>= fun jo =>
     if jo=true then
      some true
     else
      some false
    else
     some false
   else
    some false
   else none
theorem T3 {Bi:cR}{Ah:List (List Int)}:bA (CA Bi Ah) (fun r=>Con bb 3 [.agg (hK Bi),.isl 1 (Ah.map (eL 1 eI))] [] (.b r) []):=by
 unfold CA
 exact .au fun r1 o =>
  (let t1:List bX:=[(J 2),(J 1),.az (bs 2 (br 2 (.n .i64 r1) true) 1),(J 2)];
  have aQ:=((.aC (Vq r1 o) (b9.n .i64 r1)):cq _);
  .ite (fun ae =>
  .ret (bu (t1.append [.aa true,(J 1)]) (aQ.aJ (.e1 ae))))
  (fun ae =>
  .au fun bi aA =>
  (let t3:List bX:=t1.append [.aa false,.az (bs 2 (br 2 (.n .i64 bi) true) 1),(J 2)];
  have eR:=aQ.aJ (.bR ae (WO bi aA) (b9.n .i64 bi));
  .ite (fun a2 =>
  .ret (bu (t3.append [.aa true,(J 1)]) (eR.aJ (.e1 a2))))
  (fun a2 =>
  .au fun bI bn =>
  .au fun bx cK =>
  .aZ fun eV =>
  .au fun dT ev =>
  .au fun gf fS =>
  (let bS:=bZ 1 eI bx.2;let cA:=ah 1 (a9 18 1 1) bx.1;let d4:=ah 1 (a9 26 1 1) bx.1;let t5:List bX:=t3.append [.aa false,.az (aj 1 (an (.call {a0:=[],dp:=[],ac:=[ii],r:= .agg [.bm 0 0 0 bI.1.length,.bm 0 1 0 bI.2.length],fw:=[[ab.mk 4 (bI.1.map b7) .live,ab.mk 3 (bI.2.map cl) .live]],h6:= .bw (.agg [.id,.id]),ke:=[.bD [ab.mk 4 (bI.1.map b7) .live,ab.mk 3 (bI.2.map cl) .live]],fN:=[],fE:=true}) (aj 1 (an (.call {a0:=[],dp:=[],ac:=[ii],r:= .bm 0 0 0 bx.1.length,fw:=[(ab.mk 1 (bx.1.map (a9 0 1 1)) .live::bS)],h6:=ii,ke:=[.bD (ab.mk 1 (bx.1.map (a9 18 1 1)) .live::bS)],fN:=[],fE:=true}) (an (.call {ac:=[.bw (.agg [.e5 (bI.1.map b7),.e5 (bI.2.map cl)]),.bw (.dK (.view 18 (ab.mk 1 (bx.1.map (a9 18 1 1)) .live) ((bx.1.map (gz bx.2)).map (eL 1 eI))))],r:= .b dT,fE:=true,fN:=[16,18]}) (aj 1 [])))))),.az (bs 1 (.call {a0:=[],dp:=[],ac:=[ii],r:= .agg [.bm 0 0 0 bI.1.length,.bm 0 1 0 bI.2.length],fw:=[[ab.mk 4 (bI.1.map b7) .live,ab.mk 3 (bI.2.map cl) .live]],h6:= .bw (.agg [.id,.id]),ke:=[.bD [ab.mk 4 (bI.1.map b7) .live,ab.mk 3 (bI.2.map cl) .live]],fN:=[],fE:=true}) 2),.az (bs 1 (.call {a0:=[],dp:=[],ac:=[ii],r:= .bm 0 0 0 bx.1.length,fw:=[(ab.mk 1 (bx.1.map (a9 0 1 1)) .live::bS)],h6:=ii,ke:=[.bD (ab.mk 1 (bx.1.map (a9 26 1 1)) .live::bS)],fN:=[],fE:=true}) 1),.az (bs 2 (.call {ac:=[.bw (.agg [.e5 (bI.1.map b7),.e5 (bI.2.map cl)]),.bw (.dK (.view 26 (ab.mk 1 (bx.1.map (a9 26 1 1)) .live) ((bx.1.map (gz bx.2)).map (eL 1 eI))))],r:= .b gf,fE:=true,fN:=[22,26]}) 1),(J 3)];
  have kF:=eR.aJ (.bl a2 (c0 (fY (iC [16]) 4 Dh bI.1) (c0 (fY (iC [16]) 3 Dd bI.2) (o0 (b8:=(iC [16]))))) ((jb rfl (jb rfl Dy)):ly [ab.mk 4 (bI.1.map b7) .live,ab.mk 3 (bI.2.map cl) .live]) (Gs bI bn) (b9.agg (oY (b9.bm 0 0 0 bI.1.length) (oY (b9.bm 0 1 0 bI.2.length) uD))) ((qs (oX (oi Di) (oX (oi De) sU)) qu):n4 [[ab.mk 4 (bI.1.map b7) .live,ab.mk 3 (bI.2.map cl) .live]]) (c0 (j4 (iC [18]) 18 0 1 1 rfl bx.1) (dt (iC [18]) 1 jh bx.2)) ((jb rfl (re (fG .live 1 eI bx.2))):ly (ab.mk 1 (bx.1.map (a9 0 1 1)) .live::bS)) (.bl (Ic bx cK) (b9.bm 0 0 0 bx.1.length) ((qs (oX (oi (KC _ _ _)) (J1 xV)) qu):n4 [(ab.mk 1 (bx.1.map (a9 0 1 1)) .live::bS)]) (gN b7 bI.1) (fT b7 bI.1) (dS pM bI.1) (gN cl bI.2) (fT cl bI.2) (.bl (dS pK bI.2) (rfl:db (some (ab.mk 1 (bx.1.map (a9 18 1 1)) .live::bS)) 0=some (ab.mk 1 (bx.1.map (a9 18 1 1)) .live)) (rfl:_=true) (fT (a9 18 1 1) bx.1) (dS (l1 (sz:=1) aP) (bx.1.map (gz bx.2))) (qz (dy:=18) (ix:=cA++bS) (bY:=i3) (sz:=1) (g:=(eL 1 eI)) (cW (a9 18 1 1) bx.1) (fun _=>rfl) (fun x R=>(rz (dy:=18) (c:=1) (bY:=i3) (ov:=cA) (fG .live 1 eI bx.2) aP rfl ir rfl (rm eV x R))) (dL bx.1)) (VT dT ev) (b9.b dT) (.bl (c0 (fY (iC [22]) 4 Dh bI.1) (c0 (fY (iC [22]) 3 Dd bI.2) (o0 (b8:=(iC [22]))))) ((jb rfl (jb rfl Dy)):ly [ab.mk 4 (bI.1.map b7) .live,ab.mk 3 (bI.2.map cl) .live]) (Gs bI bn) (b9.agg (oY (b9.bm 0 0 0 bI.1.length) (oY (b9.bm 0 1 0 bI.2.length) uD))) ((qs (oX (oi Di) (oX (oi De) sU)) qu):n4 [[ab.mk 4 (bI.1.map b7) .live,ab.mk 3 (bI.2.map cl) .live]]) (c0 (j4 (iC [26]) 26 0 1 1 rfl bx.1) (dt (iC [26]) 1 jh bx.2)) ((jb rfl (re (fG .live 1 eI bx.2))):ly (ab.mk 1 (bx.1.map (a9 0 1 1)) .live::bS)) (Ic bx cK) (.bl (b9.bm 0 0 0 bx.1.length) ((qs (oX (oi (KC _ _ _)) (J1 xV)) qu):n4 [(ab.mk 1 (bx.1.map (a9 0 1 1)) .live::bS)]) (gN b7 bI.1) (fT b7 bI.1) (dS pM bI.1) (gN cl bI.2) (fT cl bI.2) (dS pK bI.2) (.eJ (rfl:db (some (ab.mk 1 (bx.1.map (a9 26 1 1)) .live::bS)) 0=some (ab.mk 1 (bx.1.map (a9 26 1 1)) .live)) (rfl:_=true) (fT (a9 26 1 1) bx.1) (dS (l1 (sz:=1) aP) (bx.1.map (gz bx.2))) (qz (dy:=26) (ix:=d4++bS) (bY:=i3) (sz:=1) (g:=(eL 1 eI)) (cW (a9 26 1 1) bx.1) (fun _=>rfl) (fun x R=>(rz (dy:=26) (c:=1) (bY:=i3) (ov:=d4) (fG .live 1 eI bx.2) aP rfl ir rfl (rm eV x R))) (dL bx.1)) (V5 gf fS) (b9.b gf)))))));
  .ite (fun hY =>
  .au fun gn hz =>
  (let t7:List bX:=t5.append [.aa false,.az (aj 2 (an (.call {a0:=[],dp:=[],ac:=[ii],r:= .agg [.bm 0 0 0 bI.1.length,.bm 0 1 0 bI.2.length],fw:=[[ab.mk 4 (bI.1.map b7) .live,ab.mk 3 (bI.2.map cl) .live]],h6:= .bw (.agg [.id,.id]),ke:=[.bD [ab.mk 4 (bI.1.map b7) .live,ab.mk 3 (bI.2.map cl) .live]],fN:=[],fE:=true}) (an (.call {ac:=[.bw (.agg [.e5 (bI.1.map b7),.e5 (bI.2.map cl)]),.bw (.agg [.e5 (bI.1.map b7),.e5 (bI.2.map cl)])],r:= .b gn,fE:=true,fN:=[22,37]}) (aj 1 []))))];
  have my:=kF.aJ (.bl (cY hY) (c0 (fY (iC [37]) 4 Dh bI.1) (c0 (fY (iC [37]) 3 Dd bI.2) (o0 (b8:=(iC [37]))))) ((jb rfl (jb rfl Dy)):ly [ab.mk 4 (bI.1.map b7) .live,ab.mk 3 (bI.2.map cl) .live]) (Gs bI bn) (b9.agg (oY (b9.bm 0 0 0 bI.1.length) (oY (b9.bm 0 1 0 bI.2.length) uD))) ((qs (oX (oi Di) (oX (oi De) sU)) qu):n4 [[ab.mk 4 (bI.1.map b7) .live,ab.mk 3 (bI.2.map cl) .live]]) (gN b7 bI.1) (fT b7 bI.1) (.bl (dS pM bI.1) (gN cl bI.2) (fT cl bI.2) (dS pK bI.2) (gN b7 bI.1) (fT b7 bI.1) (dS pM bI.1) (gN cl bI.2) (.c9 (fT cl bI.2) (dS pK bI.2) (VF gn hz) (b9.b gn))));
  .ite (fun gA =>
  .au fun jo gL =>
  (let q1:=bZ 1 eI bx.2;let aY:=ah 1 (a9 26 1 1) bx.1;let bJ:=ah 1 (a9 42 1 1) bx.1;let t9:List bX:=t7.append [.aa false,.az (aj 2 (an (.call {a0:=[],dp:=[],ac:=[ii],r:= .bm 0 0 0 bx.1.length,fw:=[(ab.mk 1 (bx.1.map (a9 0 1 1)) .live::q1)],h6:=ii,ke:=[.bD (ab.mk 1 (bx.1.map (a9 42 1 1)) .live::q1)],fN:=[],fE:=true}) (an (.call {ac:=[.bw (.dK (.view 26 (ab.mk 1 (bx.1.map (a9 26 1 1)) .live) ((bx.1.map (gz bx.2)).map (eL 1 eI)))),.bw (.dK (.view 42 (ab.mk 1 (bx.1.map (a9 42 1 1)) .live) ((bx.1.map (gz bx.2)).map (eL 1 eI))))],r:= .b jo,fE:=true,fN:=[26,42]}) (aj 1 []))))];
  have R2:=my.aJ (.bl (cY gA) (c0 (j4 (iC [42]) 42 0 1 1 rfl bx.1) (dt (iC [42]) 1 jh bx.2)) ((jb rfl (re (fG .live 1 eI bx.2))):ly (ab.mk 1 (bx.1.map (a9 0 1 1)) .live::q1)) (Ic bx cK) (b9.bm 0 0 0 bx.1.length) ((qs (oX (oi (KC _ _ _)) (J1 xV)) qu):n4 [(ab.mk 1 (bx.1.map (a9 0 1 1)) .live::q1)]) (rfl:db (some (ab.mk 1 (bx.1.map (a9 26 1 1)) .live::q1)) 0=some (ab.mk 1 (bx.1.map (a9 26 1 1)) .live)) (rfl:_=true) (.bl (fT (a9 26 1 1) bx.1) (dS (l1 (sz:=1) aP) (bx.1.map (gz bx.2))) (qz (dy:=26) (ix:=aY++q1) (bY:=i3) (sz:=1) (g:=(eL 1 eI)) (cW (a9 26 1 1) bx.1) (fun _=>rfl) (fun x R=>(rz (dy:=26) (c:=1) (bY:=i3) (ov:=aY) (fG .live 1 eI bx.2) aP rfl ir rfl (rm eV x R))) (dL bx.1)) (rfl:db (some (ab.mk 1 (bx.1.map (a9 42 1 1)) .live::q1)) 0=some (ab.mk 1 (bx.1.map (a9 42 1 1)) .live)) (rfl:_=true) (fT (a9 42 1 1) bx.1) (dS (l1 (sz:=1) aP) (bx.1.map (gz bx.2))) (qz (dy:=42) (ix:=bJ++q1) (bY:=i3) (sz:=1) (g:=(eL 1 eI)) (cW (a9 42 1 1) bx.1) (fun _=>rfl) (fun x R=>(rz (dy:=42) (c:=1) (bY:=i3) (ov:=bJ) (fG .live 1 eI bx.2) aP rfl ir rfl (rm eV x R))) (dL bx.1)) (.aC (W3 jo gL) (b9.b jo))));
  .ite (fun iN =>
  .ret (bu (t9.append [.aa false,(J 1)]) (R2.aJ (.e1 (cY iN)))))
  (fun iN =>
  .ret (bu (t9.append [.aa true,(J 1)]) (R2.aJ (.e1 (cU iN)))))))
  (fun gA =>
  .ret (bu (t7.append [.aa true,(J 1)]) (my.aJ (.e1 (cU gA)))))))
  (fun hY =>
  .ret (bu (t5.append [.aa true,(J 1)]) (kF.aJ (.e1 (cU hY))))))))))
end Go.Proofs.YtamedijmgkdlgacGreat
