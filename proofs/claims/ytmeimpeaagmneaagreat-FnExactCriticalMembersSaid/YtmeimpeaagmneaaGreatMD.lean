/- Lemmas, plain functions of the program, and what they answer. No condition. -/
import Derived.Test.YtmeimpeaagmneaaGreatMC
namespace Go.Proofs.YtmeimpeaagmneaaGreat
set_option linter.unusedVariables false
set_option linter.unusedSimpArgs false
open Go Go.VL
def FV (fL:List bq)(fk:List bC)(cj:List Int)(iV:List eG)(ad:Int)(gS:List Int)(ff:List (List Int))(gH fs bN dV:Int)(al aL:List Int):(Int×(List Int))→S:=fun (gI,aC)=>dr [(0,.ej 2 [[.isl 4 (fL.map bu),.isl 3 (fk.map bA)]] 0 0),(1,.isl 1 (cj.map eI)),(8,.ref 0 0 0 0),(10,.isl 2 (iV.map gy)),(11,.ref 1 0 0 0),(12,.n .i64 ad),(13,.isl 1 (gS.map eI)),(46,.isl 1 (ff.map (eA 1 eI))),(47,.n .i64 gH),(48,.n .i64 ad),(53,.isl 2 (iV.map gy)),(54,.n .i64 fs),(55,.n .i64 gI)] [[ae.mk 5 [[.n .i64 (0:Int),.n .i64 (0:Int),.ei,.ei,.ei]] .live],[ae.mk 5 [(zh bN dV 2 0 0 aC.length 3 0 0 al.length 4 0 0 aL.length)] .live],(av 1 eI aC),(av 1 eI al),(av 1 eI aL)]
def F0 (fL:List bq)(fk:List bC)(cj:List Int)(iV:List eG)(ad:Int)(gS:List Int)(ff:List (List Int))(gH fs bN dV:Int)(al aL:List Int):(List Int)→dy
 | a=>⟨some 2,[(0,.ej 2 [[.isl 4 (fL.map bu),.isl 3 (fk.map bA)]] 0 0),(1,.isl 1 (cj.map eI)),(8,.ref 0 0 0 0),(10,.isl 2 (iV.map gy)),(11,.ref 1 0 0 0),(46,.isl 1 (ff.map (eA 1 eI))),(47,.n .i64 gH),(48,.n .i64 ad)],[[ae.mk 5 [[.n .i64 (0:Int),.n .i64 (0:Int),.ei,.ei,.ei]] .live],[ae.mk 5 [(zh bN dV 2 0 0 a.length 3 0 0 al.length 4 0 0 aL.length)] .live],(av 1 eI a),(av 1 eI al),(av 1 eI aL)]⟩
def wv (fL:List bq)(fk:List bC)(cj:List Int)(iV:List eG)(ad:Int)(gS:List Int)(ff:List (List Int))(gH fs bN dV:Int)(al aL:List Int)(gI:Int)(aC:List Int):Option ((Int×(List Int))⊕((List Int))) :=
 if (decide (gI<fs))=true then
  if 0≤gI∧gI<iV.length then
  iV[gI.toNat]? >>= fun aB =>
  if 0≤aB.mT∧aB.mT<gS.length then
  gS[aB.mT.toNat]? >>= fun cu =>
  if 0≤(R ((R (ad*dV))+gI))∧(R ((R (ad*dV))+gI))<(aC.length:Nat) then
  if (0+(R ((R (ad*dV))+gI)).toNat)<aC.length then
  some (.inl (R (gI+(1:Int)),aC.set (0+(R ((R (ad*dV))+gI)).toNat) (R (aB.qm*cu))))
  else none
  else none
  else none
  else none
 else
  some (.inr aC)
def Ga (fL:List bq)(fk:List bC)(cj:List Int)(iV:List eG)(ad:Int)(gS:List Int)(ff:List (List Int))(gH fs bN dV:Int)(al aL:List Int)(gI:Int)(aC:List Int):Option ((List Int)):=iter (fun w:Int×(List Int)=>wv fL fk cj iV ad gS ff gH fs bN dV al aL w.1 w.2) (gI,aC)
theorem T5 {fL:List bq}{fk:List bC}{cj:List Int}{iV:List eG}{ad:Int}{gS:List Int}{ff:List (List Int)}{gH fs bN dV:Int}{al aL:List Int}{gI:Int}{aC:List Int}:bB (wv fL fk cj iV ad gS ff gH fs bN dV al aL gI aC) (dL a5 113 0 55 [1,1,1,1,0,1,0,0,1,1,0,0,1,1,0,0] (FV fL fk cj iV ad gS ff gH fs bN dV al aL (gI,aC)) (FV fL fk cj iV ad gS ff gH fs bN dV al aL) (F0 fL fk cj iV ad gS ff gH fs bN dV al aL)):=by
 unfold wv
 exact .ite (fun h1 =>
  .aY fun o =>
  .ar fun aB au =>
  .aY fun aA =>
  .ar fun cu bm =>
  .aY fun bn =>
  .aY fun cx =>
  .ret (let q1:=R ((R (ad*dV))+gI);let a6:=R (aB.qm*cu);bg [(J 1),.aa true,.aw (bo 2 (.b5 (gy aB)) 3),.aw (ah 14 (ai (.b5 (eI cu)) (ah 2 (ai .fX [])))),(J 2),.aP [0,1,2,3,4] [.box [.id,.id,.id,.id,.id],.box [.id,.id,.len ((aC.set (0+q1.toNat) a6).length),.id,.id],.cE (av 1 eI (aC.set (0+q1.toNat) a6)),.pure,.pure] (a8 [0,1,8,10,11,12,13,46,47,48,53,54,55])] (.bi h1 o.1 (cW gy o.2) (b2 gy au) aA.1 (cW eI aA.2) (b2 eI bm) bn.1 (.gu bn.2 (hQ eI cx) (hJ 1) (hg (dQ aC) (0+q1.toNat) a6) (cZ 1 .live (gM (cR eI aC) (0+q1.toNat) a6)) (aI 1 .live aN (aC.set (0+q1.toNat) a6)) (aI 1 .live aN al) (aI 1 .live aN aL)))))
  (fun h1 =>
  .ret (bg [(J 1),.aa false,.aP [0,1,2,3,4] [.box [.id,.id,.id,.id,.id],.box [.id,.id,.id,.id,.id],.pure,.pure,.pure] (a8 [0,1,8,10,11,46,47,48])] (.c3 h1 (aI 1 .live aN aC) (aI 1 .live aN al) (aI 1 .live aN aL))))
theorem Ui {fL:List bq}{fk:List bC}{cj:List Int}{iV:List eG}{ad:Int}{gS:List Int}{ff:List (List Int)}{gH fs bN dV:Int}{al aL:List Int}{gI:Int}{aC:List Int}{r} (h:Ga fL fk cj iV ad gS ff gH fs bN dV al aL gI aC=some r):dM a5 113 0 55 [1,1,1,1,0,1,0,0,1,1,0,0,1,1,0,0] (FV fL fk cj iV ad gS ff gH fs bN dV al aL) (F0 fL fk cj iV ad gS ff gH fs bN dV al aL) (gI,aC) r:=dO (fun _=>T5) h
def FW (fL:List bq)(fk:List bC)(cj:List Int)(iV:List eG)(ff:List (List Int))(gH bN dV:Int)(al aL:List Int):(Int×(List Int))→S:=fun (nQ,aC)=>dr [(0,.ej 2 [[.isl 4 (fL.map bu),.isl 3 (fk.map bA)]] 0 0),(1,.isl 1 (cj.map eI)),(8,.ref 0 0 0 0),(10,.isl 2 (iV.map gy)),(11,.ref 1 0 0 0),(46,.isl 1 (ff.map (eA 1 eI))),(47,.n .i64 gH),(48,.n .i64 nQ)] [[ae.mk 5 [[.n .i64 (0:Int),.n .i64 (0:Int),.ei,.ei,.ei]] .live],[ae.mk 5 [(zh bN dV 2 0 0 aC.length 3 0 0 al.length 4 0 0 aL.length)] .live],(av 1 eI aC),(av 1 eI al),(av 1 eI aL)]
def F1 (fL:List bq)(fk:List bC)(cj:List Int)(iV:List eG)(ff:List (List Int))(gH bN dV:Int)(al aL:List Int):(List Int)→dy
 | a=>⟨some 0,[(0,.ej 2 [[.isl 4 (fL.map bu),.isl 3 (fk.map bA)]] 0 0),(1,.isl 1 (cj.map eI)),(8,.ref 0 0 0 0),(11,.ref 1 0 0 0)],[[ae.mk 5 [[.n .i64 (0:Int),.n .i64 (0:Int),.ei,.ei,.ei]] .live],[ae.mk 5 [(zh bN dV 2 0 0 a.length 3 0 0 al.length 4 0 0 aL.length)] .live],(av 1 eI a),(av 1 eI al),(av 1 eI aL)]⟩
def wx (fL:List bq)(fk:List bC)(cj:List Int)(iV:List eG)(ff:List (List Int))(gH bN dV:Int)(al aL:List Int)(nQ:Int)(aC:List Int):Option ((Int×(List Int))⊕((List Int))) :=
 if (decide (nQ<gH))=true then
  if 0≤nQ∧nQ<ff.length then
  ff[nQ.toNat]? >>= fun aB =>
  Ga fL fk cj iV nQ aB ff gH (len_ gy iV) bN dV al aL 0 aC >>= fun ax =>
  some (.inl (R (nQ+(1:Int)),ax))
  else none
 else
  some (.inr aC)
def Gb (fL:List bq)(fk:List bC)(cj:List Int)(iV:List eG)(ff:List (List Int))(gH bN dV:Int)(al aL:List Int)(nQ:Int)(aC:List Int):Option ((List Int)):=iter (fun w:Int×(List Int)=>wx fL fk cj iV ff gH bN dV al aL w.1 w.2) (nQ,aC)
theorem T6 {fL:List bq}{fk:List bC}{cj:List Int}{iV:List eG}{ff:List (List Int)}{gH bN dV:Int}{al aL:List Int}{nQ:Int}{aC:List Int}:bB (wx fL fk cj iV ff gH bN dV al aL nQ aC) (dL a5 113 0 55 [1,1,1,1,0,1,0,0] (FW fL fk cj iV ff gH bN dV al aL (nQ,aC)) (FW fL fk cj iV ff gH bN dV al aL) (F1 fL fk cj iV ff gH bN dV al aL)):=by
 unfold wx
 exact .ite (fun h1 =>
  .aY fun o =>
  .ar fun aB au =>
  .ar fun ax a0 =>
  .ret (bg [(J 1),.aa true,.aw (bo 2 (.b5 ((eA 1 eI) aB)) 2),(J 3),.aP [0,1,2,3,4] [.box [.id,.id,.id,.id,.id],.box [.id,.id,.id,.id,.id],.pure,.pure,.pure] (a8 [0,1,8,10,11,12,13,46,47,48,53,54,55]),(F0 fL fk cj iV nQ aB ff gH (len_ gy iV) bN dV al aL ax).e6,(J 2),.aP [0,1,2,3,4] [.box [.id,.id,.id,.id,.id],.box [.id,.id,.id,.id,.id],.pure,.pure,.pure] (a8 [0,1,8,10,11,46,47,48])] (.bi h1 o.1 (cW (eA 1 eI) o.2) (b2 (eA 1 eI) au) (aI 1 .live aN aC) (aI 1 .live aN al) (aI 1 .live aN aL) (Ui a0) (.bP (aI 1 .live aN ax) (aI 1 .live aN al) (aI 1 .live aN aL)))))
  (fun h1 =>
  .ret (bg [(J 1),.aa false,.aP [0,1,2,3,4] [.box [.id,.id,.id,.id,.id],.box [.id,.id,.id,.id,.id],.pure,.pure,.pure] (a8 [0,1,8,11])] (.c3 h1 (aI 1 .live aN aC) (aI 1 .live aN al) (aI 1 .live aN aL))))
theorem Uj {fL:List bq}{fk:List bC}{cj:List Int}{iV:List eG}{ff:List (List Int)}{gH bN dV:Int}{al aL:List Int}{nQ:Int}{aC:List Int}{r} (h:Gb fL fk cj iV ff gH bN dV al aL nQ aC=some r):dM a5 113 0 55 [1,1,1,1,0,1,0,0] (FW fL fk cj iV ff gH bN dV al aL) (F1 fL fk cj iV ff gH bN dV al aL) (nQ,aC) r:=dO (fun _=>T6) h
def FX (cj oq:List Int)(oY bN dV:Int)(aC aL:List Int):(Int×(List Int))→S:=fun (k8,al)=>dr [(1,.isl 1 (cj.map eI)),(8,.ref 0 0 0 0),(11,.ref 1 0 0 0),(80,.isl 1 (oq.map eI)),(81,.n .i64 oY),(82,.n .i64 k8)] [[ae.mk 5 [[.n .i64 (0:Int),.n .i64 (0:Int),.ei,.ei,.ei]] .live],[ae.mk 5 [(zh bN dV 2 0 0 aC.length 3 0 0 al.length 4 0 0 aL.length)] .live],(av 1 eI aC),(av 1 eI al),(av 1 eI aL)]
def F2 (cj oq:List Int)(oY bN dV:Int)(aC aL:List Int):(List Int)→dy
 | a=>⟨some 4,[(8,.ref 0 0 0 0),(11,.ref 1 0 0 0)],[[ae.mk 5 [[.n .i64 (0:Int),.n .i64 (0:Int),.ei,.ei,.ei]] .live],[ae.mk 5 [(zh bN dV 2 0 0 aC.length 3 0 0 a.length 4 0 0 aL.length)] .live],(av 1 eI aC),(av 1 eI a),(av 1 eI aL)]⟩
def wy (cj oq:List Int)(oY bN dV:Int)(aC aL:List Int)(k8:Int)(al:List Int):Option ((Int×(List Int))⊕((List Int))) :=
 if (decide (k8<oY))=true then
  if 0≤k8∧k8<oq.length then
  oq[k8.toNat]? >>= fun aB =>
  if 0≤(R ((2:Int)*aB))∧(R ((2:Int)*aB))<cj.length then
  cj[(R ((2:Int)*aB)).toNat]? >>= fun cu =>
  if 0≤(R ((R ((2:Int)*aB))+(1:Int)))∧(R ((R ((2:Int)*aB))+(1:Int)))<cj.length then
  cj[(R ((R ((2:Int)*aB))+(1:Int))).toNat]? >>= fun dl =>
  if 0≤(R ((2:Int)*k8))∧(R ((2:Int)*k8))<(al.length:Nat) then
  if (0+(R ((2:Int)*k8)).toNat)<al.length then
  if 0≤(R ((R ((2:Int)*k8))+(1:Int)))∧(R ((R ((2:Int)*k8))+(1:Int)))<(al.length:Nat) then
  if (0+(R ((R ((2:Int)*k8))+(1:Int))).toNat)<(al.set (0+(R ((2:Int)*k8)).toNat) (R (0-cu))).length then
  some (.inl (R (k8+(1:Int)),(al.set (0+(R ((2:Int)*k8)).toNat) (R (0-cu))).set (0+(R ((R ((2:Int)*k8))+(1:Int))).toNat) (R (0-dl))))
  else none
  else none
  else none
  else none
  else none
  else none
  else none
 else
  some (.inr al)
def Gc (cj oq:List Int)(oY bN dV:Int)(aC aL:List Int)(k8:Int)(al:List Int):Option ((List Int)):=iter (fun w:Int×(List Int)=>wy cj oq oY bN dV aC aL w.1 w.2) (k8,al)
theorem T7 {cj oq:List Int}{oY bN dV:Int}{aC aL:List Int}{k8:Int}{al:List Int}:bB (wy cj oq oY bN dV aC aL k8 al) (dL a5 113 0 55 [1,1,1,1,1,0,1,0,0] (FX cj oq oY bN dV aC aL (k8,al)) (FX cj oq oY bN dV aC aL) (F2 cj oq oY bN dV aC aL)):=by
 unfold wy
 exact .ite (fun h1 =>
  .aY fun o =>
  .ar fun aB au =>
  .aY fun aA =>
  .ar fun cu bm =>
  .aY fun bn =>
  .ar fun dl cQ =>
  .aY fun fm =>
  .aY fun eH =>
  .aY fun eS =>
  .aY fun eJ =>
  .ret (let q1:=(R ((2:Int)*k8));let a6:=(R (q1+(1:Int)));let bY:=R (0-cu);let cz:=R (0-dl);bg [(J 1),.aa true,.aw (bo 2 (.b5 (eI aB)) 2),.aw (ah 13 (ai (.b5 (eI cu)) (ah 6 (ai (.b5 (eI dl)) (ah 2 (ai .fX (ah 1 (ai .fX [])))))))),(J 2),.aP [0,1,2,3,4] [.box [.id,.id,.id,.id,.id],.box [.id,.id,.id,.len (((al.set (0+q1.toNat) bY).set (0+a6.toNat) cz).length),.id],.pure,.cE (av 1 eI ((al.set (0+q1.toNat) bY).set (0+a6.toNat) cz)),.pure] (a8 [1,8,11,80,81,82])] (.bi h1 o.1 (cW eI o.2) (b2 eI au) aA.1 (cW eI aA.2) (b2 eI bm) bn.1 (.bi (cW eI bn.2) (b2 eI cQ) fm.1 fm.2 (hQ eI eH) (hJ 1) eS.1 eS.2 (.eB (acT (gM (cR eI al) (0+q1.toNat) bY) eJ) (hJ 1) (hg (hg (dQ al) (0+q1.toNat) bY) (0+a6.toNat) cz) (aI 1 .live aN aC) (cZ 1 .live (gM (gM (cR eI al) (0+q1.toNat) bY) (0+a6.toNat) cz)) (aI 1 .live aN ((al.set (0+q1.toNat) bY).set (0+a6.toNat) cz)) (aI 1 .live aN aL))))))
  (fun h1 =>
  .ret (bg [(J 1),.aa false,.aP [0,1,2,3,4] [.box [.id,.id,.id,.id,.id],.box [.id,.id,.id,.id,.id],.pure,.pure,.pure] (a8 [8,11])] (.c3 h1 (aI 1 .live aN aC) (aI 1 .live aN al) (aI 1 .live aN aL))))
theorem Uk {cj oq:List Int}{oY bN dV:Int}{aC aL:List Int}{k8:Int}{al:List Int}{r} (h:Gc cj oq oY bN dV aC aL k8 al=some r):dM a5 113 0 55 [1,1,1,1,1,0,1,0,0] (FX cj oq oY bN dV aC aL) (F2 cj oq oY bN dV aC aL) (k8,al) r:=dO (fun _=>T7) h
def zB (aM:cF)(cj:List Int)(nJ oe:Int):Option hK :=
 zC aM >>= fun r1 =>
 zG aM >>= fun bl =>
 if 0≤(R ((R ((len_ (eA 1 eI) r1)+oe))*(R ((len_ gy bl)+nJ))))∧(8:Int)*(R ((R ((len_ (eA 1 eI) r1)+oe))*(R ((len_ gy bl)+nJ))))≤281474976710656∧(R ((R ((len_ (eA 1 eI) r1)+oe))*(R ((len_ gy bl)+nJ))))<9223372036854775808 then
 if 0≤(R ((len_ (eA 1 eI) r1)+oe))∧(8:Int)*(R ((len_ (eA 1 eI) r1)+oe))≤281474976710656∧(R ((len_ (eA 1 eI) r1)+oe))<9223372036854775808 then
 if 0≤(R ((len_ gy bl)+nJ))∧(8:Int)*(R ((len_ gy bl)+nJ))≤281474976710656∧(R ((len_ gy bl)+nJ))<9223372036854775808 then
 Gb aM.b7 aM.bE cj bl r1 (len_ (eA 1 eI) r1) (R ((len_ (eA 1 eI) r1)+oe)) (R ((len_ gy bl)+nJ)) (List.replicate (R ((len_ (eA 1 eI) r1)+oe)).toNat 0:List Int) (List.replicate (R ((len_ gy bl)+nJ)).toNat 0:List Int) 0 (List.replicate (R ((R ((len_ (eA 1 eI) r1)+oe))*(R ((len_ gy bl)+nJ)))).toNat 0:List Int) >>= fun c2 =>
 wP aM >>= fun et =>
 Gc cj et (len_ eI et) (R ((len_ (eA 1 eI) r1)+oe)) (R ((len_ gy bl)+nJ)) c2 (List.replicate (R ((len_ gy bl)+nJ)).toNat 0:List Int) 0 (List.replicate (R ((len_ (eA 1 eI) r1)+oe)).toNat 0:List Int) >>= fun el =>
 some (⟨R ((len_ (eA 1 eI) r1)+oe),R ((len_ gy bl)+nJ),c2,el,(List.replicate (R ((len_ gy bl)+nJ)).toNat 0:List Int)⟩:hK)
 else none
 else none
 else none
theorem UC {aM:cF}{cj:List Int}{nJ oe:Int}:bB (zB aM cj nJ oe) (fun r=>Con a5 55 [.ej 2 [(hf aM)] 0 0,.isl 1 (cj.map eI),.n .i64 nJ,.n .i64 oe] [] (.agg (og r)) []):=by
 unfold zB
 exact .ar fun r1 o =>
  .ar fun bl au =>
  .aY fun aA =>
  .aY fun a0 =>
  .aY fun bm =>
  .ar fun c2 cx =>
  .ar fun et fm =>
  .ar fun el eS =>
  .ret (let q1:=R ((len_ (eA 1 eI) r1)+oe);let a6:=R ((len_ gy bl)+nJ);let bY:=(List.replicate a6.toNat 0:List Int);let cz:=(List.replicate q1.toNat 0:List Int);let f6:=R (q1*a6);let dj:=(List.replicate f6.toNat 0:List Int);bz [(J 1),.aw (ah 1 (ai (bw 1 (.isl 1 (r1.map (eA 1 eI))) false) (bo 1 (bw 1 (.isl 2 (bl.map gy)) false) 2))),(J 11),(J 18),(J 3),.aP [0,16,23,26,29] [.box [.id,.id,.id,.id,.id],.box [.id,.id,.len (dj.length),.len (cz.length),.len (bY.length)],.cE (av 1 eI dj),.cE (av 1 eI cz),.cE (av 1 eI bY)] (a8 [0,1,8,10,11,46,47,48]),(F1 aM.b7 aM.bE cj bl r1 (len_ (eA 1 eI) r1) q1 a6 cz bY c2).e6,.aw (bo 1 (bw 1 (.isl 1 (et.map eI)) false) 2),.aP [0,1,2,3,4] [.box [.id,.id,.id,.id,.id],.box [.id,.id,.id,.id,.id],.pure,.pure,.pure] (a8 [1,8,11,80,81,82]),(F2 cj et (len_ eI et) q1 a6 c2 bY el).e6,(J 2)] (.bi (UE r1 o) (Vj bl au) aA.1 (Int.le_refl f6) aA.2.1 aA.2.2 a0.1 (Int.le_refl q1) (.bi a0.2.1 a0.2.2 bm.1 (Int.le_refl a6) bm.2.1 bm.2.2 (me f6.toNat (0:Int)) (me q1.toNat (0:Int)) (.bi (me a6.toNat (0:Int)) (cZ 1 .live (lU eI f6.toNat 0)) (aI 1 .live aN dj) (cZ 1 .live (lU eI q1.toNat 0)) (aI 1 .live aN cz) (cZ 1 .live (lU eI a6.toNat 0)) (aI 1 .live aN bY) (Uj cx) (.bi (NF et fm) (aI 1 .live aN c2) (aI 1 .live aN cz) (aI 1 .live aN bY) (Uk eS) (fv eI c2) (fb eI c2) (dd aN c2) (.d6 (fv eI el) (fb eI el) (dd aN el) (fv eI bY) (fb eI bY) (dd aN bY)))))) (.bs (.agg [.id,.id,.dF (c2.map eI),.dF (el.map eI),.dF (bY.map eI)])))
def H0:(Int×(List Int))→S:=fun (a3,ab)=>dr [(0,.n .u64 a3),(3,.bf 0 0 0 ab.length)] [(av 1 eI ab)]
def IE:(List Int)→dy
 | a=>⟨some 0,[(3,.bf 0 0 0 a.length)],[(av 1 eI a)]⟩
def xl (a3:Int)(ab:List Int):Option ((Int×(List Int))⊕((List Int))) :=
 if (decide ((0:Int)<a3))=true then
  if (ab++([IntKind.wrap .i64 (a3.tmod (1000000000:Int))]:List Int)).length*8≤140737488355328 then
  some (.inl (IntKind.wrap .u64 (a3.tdiv (1000000000:Int)),ab++([IntKind.wrap .i64 (a3.tmod (1000000000:Int))]:List Int)))
  else none
 else
  some (.inr ab)
def JU (a3:Int)(ab:List Int):Option ((List Int)):=iter (fun w:Int×(List Int)=>xl w.1 w.2) (a3,ab)
theorem VM {a3:Int}{ab:List Int}:bB (xl a3 ab) (dL a5 15 0 95 [1,1,0,0,0] (H0 (a3,ab)) (H0) (IE)):=by
 unfold xl
 exact .ite (fun h1 =>
  .aY fun o =>
  .ret (let q1:=(ab++([(IntKind.wrap .i64 (a3.tmod (1000000000:Int)))]:List Int));bg [(J 2),.aa true,.aw (bo 5 (.aH (q1.length)) 1),(J 3),.aP [8] [.cE (av 1 eI q1)] (a8 [0,3])] (.bi h1 (by decide:(1000000000:Int)≠0) (gC eI (IntKind.wrap .i64 (a3.tmod (1000000000:Int)))) (gW eI ab) (gD eI ab (IntKind.wrap .i64 (a3.tmod (1000000000:Int)))) o (by decide:(1000000000:Int)≠0) (cZ 1 .live (hb eI ab (IntKind.wrap .i64 (a3.tmod (1000000000:Int))))) (.e1 (aI 1 .live aN q1)))))
  (fun h1 =>
  .ret (bg [(J 2),.aa false,.aP [0] [.pure] (a8 [3])] (.aE h1 (aI 1 .live aN ab))))
theorem Xp {a3:Int}{ab:List Int}{r} (h:JU a3 ab=some r):dM a5 15 0 95 [1,1,0,0,0] (H0) (IE) (a3,ab) r:=dO (fun _=>VM) h
def uK (a3:Int):Option (List Int) :=
 JU a3 ([]:List Int) >>= fun r1 =>
 some r1
theorem JV {a3:Int}:bB (uK a3) (fun r=>Con a5 95 [.n .u64 a3] [] (.isl 1 (r.map eI)) []):=by
 unfold uK
 exact .ar fun r1 o =>
  .ret (bz [(J 1),(J 1),.sE 3 1,.aP [2] [.cE (av 1 eI ([]:List Int))] [(0,ii),(3,fU (([]:List Int).length))],(IE r1).e6,(J 2)] (.eB (cZ 1 .live (nd eI)) (aI 1 .live aN ([]:List Int)) (fc Int) (Xp o) (fv eI r1) (fb eI r1) (dd aN r1)) (.bs (.c9 (.dF (r1.map eI)))))
def ni (om:Bool)(yO:List Int):Option bt :=
 if om=true then
  some (⟨(decide ((0:Int)<(len_ eI yO))),yO⟩:bt)
 else
  some (⟨false,yO⟩:bt)
theorem td {om:Bool}{yO:List Int}:bB (ni om yO) (fun r=>Con a5 94 [.b om,.isl 1 (yO.map eI)] [] (.agg (aZ r)) []):=by
 unfold ni
 exact .ite (fun h1 =>
  .ret (bz [(J 1),.aw (bo 5 (.aa true) 3)] (.c3 h1 h1 h1 h1)))
  (fun h1 =>
  .ret (bz [(J 1),.aw (ah 2 (cw 3 (ai (.aa false) (ah 3 []))))] (.c3 h1 h1 h1 h1)))
def oH (a3:Int):Option bt :=
 if (decide (a3<(0:Int)))=true then
  uK (IntKind.wrap .u64 ((IntKind.wrap .u64 (R (0-(R (a3+(1:Int))))))+(1:Int))) >>= fun bT =>
  ni true bT >>= fun ba =>
  some ba
 else
  uK (IntKind.wrap .u64 a3) >>= fun bT =>
  ni false bT >>= fun ba =>
  some ba
theorem r8 {a3:Int}:bB (oH a3) (fun r=>Con a5 76 [.n .i64 a3] [] (.agg (aZ r)) []):=by
 unfold oH
 exact .ite (fun h1 =>
  .ar fun bT af =>
  .ar fun ba aA =>
  .ret (bz [(J 1),(J 2),.aa true,.aw (ah 5 (ai (bw 1 (.isl 1 (bT.map eI)) false) (ai (bw 2 (.agg (aZ ba)) false) (ah 1 []))))] (.bP h1 (JV bT af) (td ba aA))))
  (fun h1 =>
  .ar fun bT af =>
  .ar fun ba aA =>
  .ret (bz [(J 1),(J 2),.aa false,.aw (ah 2 (ai (bw 1 (.isl 1 (bT.map eI)) false) (ai (bw 2 (.agg (aZ ba)) false) (ah 1 []))))] (.bP h1 (JV bT af) (td ba aA))))
def xQ (ch:hK)(ad:Int):Option (List Int) :=
 if 0≤(R (ad*ch.ed)) then
 if 0≤(R ((R (ad+(1:Int)))*ch.ed)) then
 if (R (ad*ch.ed)).toNat≤(R ((R (ad+(1:Int)))*ch.ed)).toNat∧(R ((R (ad+(1:Int)))*ch.ed)).toNat≤ch.dp.length then
 some ((ch.dp.drop ((R (ad*ch.ed)).toNat)).take ((R ((R (ad+(1:Int)))*ch.ed)).toNat-(R (ad*ch.ed)).toNat))
 else none
 else none
 else none
theorem N7 {ch:hK}{ad:Int}:bB (xQ ch ad) (fun r=>Con a5 77 [.ej 5 [(og ch)] 0 0,.n .i64 ad] [] (.isl 1 (r.map eI)) []):=by
 unfold xQ
 exact .aY fun h1 =>
  .aY fun o =>
  .aY fun af =>
  .ret (let q1:=R (ad*ch.ed);let a6:=(R ((R (ad+(1:Int)))*ch.ed));bz [(J 1),(J 19)] (.dg h1 o af.1 (qc (cR eI ch.dp) af.2) (congrArg (aD.isl 1) (oI (cR eI ch.dp) (q1.toNat) (a6.toNat-q1.toNat)):(.isl 1 (((ch.dp.map eI).drop (q1.toNat)).take (a6.toNat-q1.toNat)):aD) = .isl 1 (((ch.dp.drop (q1.toNat)).take (a6.toNat-q1.toNat)).map eI))) (.bs (.c9 (.cE (.isl 1 (((ch.dp.drop (q1.toNat)).take (a6.toNat-q1.toNat)).map eI))))))
def Jn:(List Int)→S:=fun ag=>dr [(0,.isl 1 (ag.map eI))] []
def JG:(List Int)→dy
 | a=>⟨some 0,[(0,.isl 1 (a.map eI))],[]⟩
def xL (ag:List Int):Option (((List Int))⊕((List Int))) :=
 if (decide ((0:Int)<(len_ eI ag)))=true then
  if 0≤(R ((len_ eI ag)-(1:Int)))∧(R ((len_ eI ag)-(1:Int)))<ag.length then
  ag[(R ((len_ eI ag)-(1:Int))).toNat]? >>= fun aB =>
  if (aB == (0:Int))=true then
   if 0≤(R ((len_ eI ag)-(1:Int))) then
   if 0≤(R ((len_ eI ag)-(1:Int))).toNat∧(R ((len_ eI ag)-(1:Int))).toNat≤ag.length then
   some (.inl ((ag.drop 0).take ((R ((len_ eI ag)-(1:Int))).toNat-0)))
   else none
   else none
  else
   some (.inr ag)
  else none
 else
  some (.inr ag)
def Kr (ag:List Int):Option ((List Int)):=iter (fun w:(List Int)=>xL w) ag
theorem WJ {ag:List Int}:bB (xL ag) (dL a5 21 0 134 [1,0,0,0] (Jn ag) (Jn) (JG)):=by
 unfold xL
 exact .ite (fun h1 =>
  .aY fun o =>
  .ar fun aB au =>
  (let t1:List b3:=[.aw (ah 9 (ai (.b5 (eI aB)) (ah 1 (ai (.aa true) []))))];
  have aT:=((.bi h1 h1 h1 h1 h1 o.1 (cW eI o.2) h1 (.bP (b2 eI au) h1 h1)):cA _);
  .ite (fun aA =>
  .aY fun a0 =>
  .aY fun bm =>
  .ret (let q1:=(R ((len_ eI ag)-(1:Int)));bg (t1.append [.aa true,(J 6),.aP [] [] [(0,.bs (.c9 (.cE (.isl 1 (((ag.drop 0).take (q1.toNat-0)).map eI)))))]]) (aT.aH (.dg aA a0 bm.1 (qc (cR eI ag) bm.2) (congrArg (aD.isl 1) (oI (cR eI ag) 0 (q1.toNat-0)):(.isl 1 (((ag.map eI).drop 0).take (q1.toNat-0)):aD) = .isl 1 (((ag.drop 0).take (q1.toNat-0)).map eI))))))
  (fun aA =>
  .ret (bg (t1.append [.aa false,.aP [] [] (a8 [0])]) (aT.aH (.e1 aA))))))
  (fun h1 =>
  .ret (bg [.aw (ah 4 (cw 7 (ai (.aa false) []))),.aa false,.aP [] [] (a8 [0])] (.bi h1 h1 h1 h1 h1 h1 h1 h1 (.e1 cU))))
theorem Yt {ag:List Int}{r} (h:Kr ag=some r):dM a5 21 0 134 [1,0,0,0] (Jn) (JG) ag r:=dO (fun _=>WJ) h
def qa (ag:List Int):Option (List Int) :=
 Kr ag >>= fun r1 =>
 some r1
theorem uL {ag:List Int}:bB (qa ag) (fun r=>Con a5 134 [.isl 1 (ag.map eI)] [] (.isl 1 (r.map eI)) []):=by
 unfold qa
 exact .ar fun r1 o =>
  .ret (bz [(J 1),.aP [] [] (a8 [0]),(JG r1).e6,(J 2)] (.e1 (Yt o)))
def Ja (aF:List Int)(ad a3:Int)(du:List Int)(dv hq:Int):(Int×Int×(List Int))→S:=fun (cC,dw,ab)=>dr [(1,.isl 1 (aF.map eI)),(5,.bf 0 0 0 ab.length),(6,.n .i64 ad),(7,.n .i64 a3),(8,.n .i64 cC),(26,.isl 1 (du.map eI)),(27,.n .i64 dv),(28,.n .i64 ad),(33,.isl 1 (aF.map eI)),(34,.n .i64 hq),(35,.n .i64 dw)] [(av 1 eI ab)]
def Jo (aF:List Int)(ad a3:Int)(du:List Int)(dv hq:Int):(Int×(List Int))→dy
 | a=>⟨some 2,[(1,.isl 1 (aF.map eI)),(5,.bf 0 0 0 a.2.length),(6,.n .i64 ad),(8,.n .i64 a.1),(26,.isl 1 (du.map eI)),(27,.n .i64 dv),(28,.n .i64 ad)],[(av 1 eI a.2)]⟩
def Jb (aF:List Int)(ad a3:Int)(du:List Int)(dv hq cC dw:Int)(ab:List Int):Option ((Int×Int×(List Int))⊕(Int×(List Int))) :=
 if (decide (dw<hq))=true then
  if 0≤dw∧dw<aF.length then
  aF[dw.toNat]? >>= fun aB =>
  if 0≤(R (ad+dw))∧(R (ad+dw))<(ab.length:Nat) then
  ab[(0+(R (ad+dw)).toNat)]? >>= fun cu =>
  if (0+(R (ad+dw)).toNat)<ab.length then
  some (.inl (R ((R ((R (cu+(R (a3*aB))))+cC)).tdiv (1000000000:Int)),R (dw+(1:Int)),ab.set (0+(R (ad+dw)).toNat) ((R ((R (cu+(R (a3*aB))))+cC)).tmod (1000000000:Int))))
  else none
  else none
  else none
 else
  some (.inr (cC,ab))
def O1 (aF:List Int)(ad a3:Int)(du:List Int)(dv hq cC dw:Int)(ab:List Int):Option (Int×(List Int)):=iter (fun w:Int×Int×(List Int)=>Jb aF ad a3 du dv hq w.1 w.2.1 w.2.2) (cC,dw,ab)
theorem WB {aF:List Int}{ad a3:Int}{du:List Int}{dv hq cC dw:Int}{ab:List Int}:bB (Jb aF ad a3 du dv hq cC dw ab) (dL a5 72 0 128 [1,1,1,0,1,0,0,1,1,0,0,1,1,0,1,0,0] (Ja aF ad a3 du dv hq (cC,dw,ab)) (Ja aF ad a3 du dv hq) (Jo aF ad a3 du dv hq)):=by
 unfold Jb
 exact .ite (fun h1 =>
  .aY fun o =>
  .ar fun aB au =>
  .aY fun aA =>
  .ar fun cu bm =>
  .aY fun bn =>
  .ret (let q1:=R ((R (cu+(R (a3*aB))))+cC);let a6:=R (ad+dw);bg [(J 1),.aa true,.aw (bo 2 (.b5 (eI aB)) 2),.aw (bo 5 (.b5 (eI cu)) 7),.aw (bo 9 .fX 1),(J 2),.aP [0] [.cE (av 1 eI (ab.set (0+a6.toNat) (q1.tmod (1000000000:Int))))] [(1,ii),(5,fU ((ab.set (0+a6.toNat) (q1.tmod (1000000000:Int))).length)),(6,ii),(7,ii),(8,ii),(26,ii),(27,ii),(28,ii),(33,ii),(34,ii),(35,ii)]] (.bi h1 o.1 (cW eI o.2) (b2 eI au) aA.1 aA.2 (b2 eI bm) (by decide:(1000000000:Int)≠0) (.gu (by decide:(1000000000:Int)≠0) aA.1 aA.2 (hQ eI bn) (hJ 1) (cZ 1 .live (gM (cR eI ab) (0+a6.toNat) (q1.tmod (1000000000:Int)))) (aI 1 .live aN (ab.set (0+a6.toNat) (q1.tmod (1000000000:Int)))) (hg (dQ ab) (0+a6.toNat) (q1.tmod (1000000000:Int)))))))
  (fun h1 =>
  .ret (bg [(J 1),.aa false,.aP [0] [.pure] (a8 [1,5,6,8,26,27,28])] (.aE h1 (aI 1 .live aN ab))))
theorem X6 {aF:List Int}{ad a3:Int}{du:List Int}{dv hq cC dw:Int}{ab:List Int}{r} (h:O1 aF ad a3 du dv hq cC dw ab=some r):dM a5 72 0 128 [1,1,1,0,1,0,0,1,1,0,0,1,1,0,1,0,0] (Ja aF ad a3 du dv hq) (Jo aF ad a3 du dv hq) (cC,dw,ab) r:=dO (fun _=>WB) h
def Jc (aF du:List Int)(dv:Int):(Int×(List Int))→S:=fun (fG,ab)=>dr [(1,.isl 1 (aF.map eI)),(5,.bf 0 0 0 ab.length),(26,.isl 1 (du.map eI)),(27,.n .i64 dv),(28,.n .i64 fG)] [(av 1 eI ab)]
def Jp (aF du:List Int)(dv:Int):(List Int)→dy
 | a=>⟨some 0,[(5,.bf 0 0 0 a.length)],[(av 1 eI a)]⟩
def Jd (aF du:List Int)(dv fG:Int)(ab:List Int):Option ((Int×(List Int))⊕((List Int))) :=
 if (decide (fG<dv))=true then
  if 0≤fG∧fG<du.length then
  du[fG.toNat]? >>= fun aB =>
  O1 aF fG aB du dv (len_ eI aF) 0 0 ab >>= fun ax =>
  if 0≤(R (fG+(len_ eI aF)))∧(R (fG+(len_ eI aF)))<(ax.2.length:Nat) then
  if (0+(R (fG+(len_ eI aF))).toNat)<ax.2.length then
  some (.inl (R (fG+(1:Int)),ax.2.set (0+(R (fG+(len_ eI aF))).toNat) ax.1))
  else none
  else none
  else none
 else
  some (.inr ab)
def Kn (aF du:List Int)(dv fG:Int)(ab:List Int):Option ((List Int)):=iter (fun w:Int×(List Int)=>Jd aF du dv w.1 w.2) (fG,ab)
theorem WC {aF du:List Int}{dv fG:Int}{ab:List Int}:bB (Jd aF du dv fG ab) (dL a5 72 0 128 [1,1,1,0,1,0,0] (Jc aF du dv (fG,ab)) (Jc aF du dv) (Jp aF du dv)):=by
 unfold Jd
 exact .ite (fun h1 =>
  .aY fun o =>
  .ar fun aB au =>
  .ar fun ax a0 =>
  .aY fun bm =>
  .aY fun bn =>
  .ret (let q1:=R (fG+(len_ eI aF));bg [(J 1),.aa true,.aw (bo 2 (.b5 (eI aB)) 2),(J 1),(J 3),.aP [0] [.pure] (a8 [1,5,6,7,8,26,27,28,33,34,35]),(Jo aF fG aB du dv (len_ eI aF) ax).e6,.aw (ah 7 (ai .fX [])),(J 2),.aP [0] [.cE (av 1 eI (ax.2.set (0+q1.toNat) ax.1))] [(1,ii),(5,fU ((ax.2.set (0+q1.toNat) ax.1).length)),(26,ii),(27,ii),(28,ii)]] (.bi h1 o.1 (cW eI o.2) (b2 eI au) (aI 1 .live aN ab) (X6 a0) bm.1 bm.2 (.dg (hQ eI bn) (hJ 1) (cZ 1 .live (gM (cR eI ax.2) (0+q1.toNat) ax.1)) (aI 1 .live aN (ax.2.set (0+q1.toNat) ax.1)) (hg (dQ ax.2) (0+q1.toNat) ax.1)))))
  (fun h1 =>
  .ret (bg [(J 1),.aa false,.aP [0] [.pure] (a8 [5])] (.aE h1 (aI 1 .live aN ab))))
theorem X7 {aF du:List Int}{dv fG:Int}{ab:List Int}{r} (h:Kn aF du dv fG ab=some r):dM a5 72 0 128 [1,1,1,0,1,0,0] (Jc aF du dv) (Jp aF du dv) (fG,ab) r:=dO (fun _=>WC) h
def AQ (ag aF:List Int):Option (List Int) :=
 if ((len_ eI ag) == (0:Int))=true then
  some ([]:List Int)
 else
  if ((len_ eI aF) == (0:Int))=true then
   some ([]:List Int)
  else
   if 0≤(R ((len_ eI ag)+(len_ eI aF)))∧(8:Int)*(R ((len_ eI ag)+(len_ eI aF)))≤281474976710656∧(R ((len_ eI ag)+(len_ eI aF)))<9223372036854775808 then
   Kn aF ag (len_ eI ag) 0 (List.replicate (R ((len_ eI ag)+(len_ eI aF))).toNat 0:List Int) >>= fun ba =>
   qa ba >>= fun cl =>
   some cl
   else none
theorem YW {ag aF:List Int}:bB (AQ ag aF) (fun r=>Con a5 128 [.isl 1 (ag.map eI),.isl 1 (aF.map eI)] [] (.isl 1 (r.map eI)) []):=by
 unfold AQ
 exact .ite (fun h1 =>
  .ret (bz [(J 1),.aw (ah 4 (cw 3 (ai (.aa true) []))),.aa true,(J 1)] (.dg h1 h1 h1 h1 cI) (.bs (.c9 (.iF 1)))))
  (fun h1 =>
  (let t1:List b3:=[(J 1),.aw (ah 7 (ai (.aa false) []))];
  .ite (fun o =>
  .ret (bz (t1.append [.aa true,(J 1)]) (.dg h1 h1 h1 h1 o) (.bs (.c9 (.iF 1)))))
  (fun o =>
  .aY fun af =>
  .ar fun ba aA =>
  .ar fun cl bm =>
  .ret (let q1:=R ((len_ eI ag)+(len_ eI aF));let a6:=(List.replicate q1.toNat 0:List Int);bz (t1.append [.aa false,(J 7),(J 3),.aP [14] [.cE (av 1 eI a6)] [(1,ii),(5,fU (a6.length)),(26,ii),(27,ii),(28,ii)],(Jp aF ag (len_ eI ag) ba).e6,.i9 0,.aw (bo 1 (.call {ac:=[.bs (.c9 (.dF (ba.map eI)))],r:= .isl 1 (cl.map eI),er:=false,eN:=[0]}) 1)]) (.bi h1 h1 h1 h1 o af.1 (Int.le_refl q1) af.2.1 (.bi af.2.2 (cZ 1 .live (lU eI q1.toNat 0)) (aI 1 .live aN a6) (me q1.toNat (0:Int)) (X7 aA) (fv eI ba) (fb eI ba) (dd aN ba) (.e1 (uL cl bm))))))))
def pv (di eE:bt):Option bt :=
 AQ di.cJ eE.cJ >>= fun r1 =>
 ni (!(di.cS == eE.cS)) r1 >>= fun bl =>
 some bl
theorem xm {di eE:bt}:bB (pv di eE) (fun r=>Con a5 111 [.agg (aZ di),.agg (aZ eE)] [] (.agg (aZ r)) []):=by
 unfold pv
 exact .ar fun r1 o =>
  .ar fun bl au =>
  .ret (bz [(J 3),.aw (ah 9 (ai (bw 2 (.isl 1 (r1.map eI)) false) (ai (bw 2 (.agg (aZ bl)) false) (ah 1 []))))] (.aE (YW r1 o) (td bl au)))
def pc (di:bt):Option Int :=
 if ((len_ eI di.cJ) == (0:Int))=true then
  some 0
 else
  if di.cS=true then
   some (-1)
  else
   some 1
theorem ta {di:bt}:bB (pc di) (fun r=>Con a5 79 [.agg (aZ di)] [] (.n .i64 r) []):=by
 unfold pc
 exact .ite (fun h1 =>
  .ret (bz [(J 2),(J 5),.aa true,(J 1)] (.e1 h1)))
  (fun h1 =>
  (let t1:List b3:=[(J 2),(J 5),.aa false,(J 3)];
  .ite (fun o =>
  .ret (bz (t1.append [.aa true,(J 1)]) (.aE h1 o)))
  (fun o =>
  .ret (bz (t1.append [.aa false,(J 1)]) (.aE h1 o)))))
def r3 (di:bt):Option bt :=
 ni (!di.cS) di.cJ >>= fun r1 =>
 some r1
theorem Ha {di:bt}:bB (r3 di) (fun r=>Con a5 115 [.agg (aZ di)] [] (.agg (aZ r)) []):=by
 unfold r3
 exact .ar fun r1 o =>
  .ret (bz [(J 2),.aw (bo 5 (bw 2 (.agg (aZ r1)) false) 1)] (.e1 (td r1 o)))
def H2 (ag aF:List Int):Int→S:=fun ad=>dr [(0,.isl 1 (ag.map eI)),(1,.isl 1 (aF.map eI)),(5,.n .i64 ad)] []
def N8 (ag aF:List Int):((Unit)⊕(Int))→dy
 | .inl a=>⟨some 0,[],[]⟩
 | .inr a=>⟨none,[(4,.n .i64 a)],[]⟩
def H3 (ag aF:List Int)(ad:Int):Option ((Int)⊕((Unit)⊕(Int))) :=
 if (decide ((0:Int)≤ad))=true then
  if 0≤ad∧ad<ag.length then
  ag[ad.toNat]? >>= fun aB =>
  if 0≤ad∧ad<aF.length then
  aF[ad.toNat]? >>= fun cu =>
  if (decide (aB<cu))=true then
   some (.inr (.inr (-1)))
  else
   if (decide (cu<aB))=true then
    some (.inr (.inr 1))
   else
    some (.inl (R (ad-(1:Int))))
  else none
  else none
 else
  some (.inr (.inl ()))
def OG (ag aF:List Int)(ad:Int):Option ((Unit)⊕(Int)):=iter (fun w:Int=>H3 ag aF w) ad
theorem VN {ag aF:List Int}{ad:Int}:bB (H3 ag aF ad) (dL a5 43 0 130 [1,1,0,1,0,0] (H2 ag aF ad) (H2 ag aF) (N8 ag aF)):=by
 unfold H3
 exact .ite (fun h1 =>
  .aY fun o =>
  .ar fun aB au =>
  .aY fun aA =>
  .ar fun cu bm =>
  (let t1:List b3:=[(J 2),.aa true,.aw (ah 3 (ai (.b5 (eI aB)) (bo 3 (.b5 (eI cu)) 2)))];
  have aT:=((.eB h1 o.1 (cW eI o.2) (b2 eI au) aA.1 (cW eI aA.2) (b2 eI bm)):cA _);
  .ite (fun bn =>
  .ret (bg (t1.append [.aa true,(J 1),.aP [] [] (a8 [4])]) (aT.aH (.e1 bn))))
  (fun bn =>
  (let t3:List b3:=t1.append [.aa false,.aw (ah 3 (ai (.b5 (eI aB)) (bo 3 (.b5 (eI cu)) 2)))];
  have e3:=aT.aH (.eB bn o.1 (cW eI o.2) (b2 eI au) aA.1 (cW eI aA.2) (b2 eI bm));
  .ite (fun cx =>
  .ret (bg (t3.append [.aa true,(J 1),.aP [] [] (a8 [4])]) (e3.aH (.e1 cx))))
  (fun cx =>
  .ret (bg (t3.append [.aa false,(J 3),.aP [] [] (a8 [0,1,5])]) (e3.aH (.e1 cx))))))))
  (fun h1 =>
  .ret (bg [(J 2),.aa false,.aP [] [] []] (.e1 h1)))
theorem Oi {ag aF:List Int}{ad:Int}{r} (h:OG ag aF ad=some r):dM a5 43 0 130 [1,1,0,1,0,0] (H2 ag aF) (N8 ag aF) ad r:=dO (fun _=>VN) h
def qF (ag aF:List Int):Option Int :=
 if ((len_ eI ag) != (len_ eI aF))=true then
  if (decide ((len_ eI ag)<(len_ eI aF)))=true then
   some (-1)
  else
   some 1
 else
  OG ag aF (R ((len_ eI ag)-(1:Int))) >>= fun bT =>
  match bT with
  | .inl fZ=>(some 0)
  | .inr fZ=>(some fZ)
theorem DF {ag aF:List Int}:bB (qF ag aF) (fun r=>Con a5 130 [.isl 1 (ag.map eI),.isl 1 (aF.map eI)] [] (.n .i64 r) []):=by
 unfold qF
 exact .ite (fun h1 =>
  (let t1:List b3:=[(J 1),(J 5),.aa true,(J 5)];
  .ite (fun o =>
  .ret (bz (t1.append [.aa true,(J 1)]) (.aE h1 o)))
  (fun o =>
  .ret (bz (t1.append [.aa false,(J 1)]) (.aE h1 o)))))
  (fun h1 =>
  .ar fun bT af =>
  (let t1:List b3:=[(J 1),(J 5),.aa false,(J 4),.aP [] [] (a8 [0,1,5])];
  (by
  rcases bT with fZ|fZ
  ·exact (.ret (bz (t1.append [.sub (.exit 0) [] [],(J 1)]) (.aE h1 (Oi af))))
  ·exact (.ret (bz (t1.append [.sub (.ret) [(4,.n .i64 fZ)] []]) (.aE h1 (Oi af)))))))
def Jq (ag aF:List Int)(gO:Int):(Int×Int×(List Int))→S:=fun (cC,gz,ab)=>dr [(0,.isl 1 (ag.map eI)),(1,.isl 1 (aF.map eI)),(5,.bf 0 0 0 ab.length),(6,.n .i64 cC),(20,.isl 1 (ag.map eI)),(21,.n .i64 gO),(22,.n .i64 gz)] [(av 1 eI ab)]
def DA (ag aF:List Int)(gO:Int):(Int×(List Int))→dy
 | a=>⟨some 0,[(0,.isl 1 (ag.map eI)),(5,.bf 0 0 0 a.2.length),(6,.n .i64 a.1)],[(av 1 eI a.2)]⟩
def xM (ag aF:List Int)(gO cC gz:Int)(ab:List Int):Option ((Int×Int×(List Int))⊕(Int×(List Int))) :=
 if (decide (gz<gO))=true then
  if 0≤gz∧gz<ag.length then
  ag[gz.toNat]? >>= fun aB =>
  if (decide (gz<(len_ eI aF)))=true then
   if 0≤gz∧gz<aF.length then
   aF[gz.toNat]? >>= fun c7 =>
   if 0≤gz∧gz<(ab.length:Nat) then
   if (0+gz.toNat)<ab.length then
   some (.inl (R ((R ((R (aB+cC))+c7)).tdiv (1000000000:Int)),R (gz+(1:Int)),ab.set (0+gz.toNat) ((R ((R (aB+cC))+c7)).tmod (1000000000:Int))))
   else none
   else none
   else none
  else
   if 0≤gz∧gz<(ab.length:Nat) then
   if (0+gz.toNat)<ab.length then
   some (.inl (R ((R (aB+cC)).tdiv (1000000000:Int)),R (gz+(1:Int)),ab.set (0+gz.toNat) ((R (aB+cC)).tmod (1000000000:Int))))
   else none
   else none
  else none
 else
  some (.inr (cC,ab))
def Ax (ag aF:List Int)(gO cC gz:Int)(ab:List Int):Option (Int×(List Int)):=iter (fun w:Int×Int×(List Int)=>xM ag aF gO w.1 w.2.1 w.2.2) (cC,gz,ab)
theorem WK {ag aF:List Int}{gO cC gz:Int}{ab:List Int}:bB (xM ag aF gO cC gz ab) (dL a5 55 0 135 [1,1,1,1,0,1,0,0] (Jq ag aF gO (cC,gz,ab)) (Jq ag aF gO) (DA ag aF gO)):=by
 unfold xM
 exact .ite (fun h1 =>
  .aY fun o =>
  .ar fun aB au =>
  (let t1:List b3:=[(J 1),.aa true,.aw (bo 2 (.b5 (eI aB)) 2),(J 4),(J 4)];
  have aT:=((.c3 h1 o.1 (cW eI o.2) (b2 eI au)):cA _);
  .ite (fun aA =>
  .aY fun a0 =>
  .ar fun c7 bn =>
  .aY fun cx =>
  .aY fun cQ =>
  .ret (let q1:=R ((R (aB+cC))+c7);bg (t1.append [.aa true,.aw (bo 4 (.b5 (eI c7)) 2),.aw (bo 7 .fX 1),(J 2),.aP [0] [.cE (av 1 eI (ab.set (0+gz.toNat) (q1.tmod (1000000000:Int))))] [(0,ii),(1,ii),(5,fU ((ab.set (0+gz.toNat) (q1.tmod (1000000000:Int))).length)),(6,ii),(20,ii),(21,ii),(22,ii)]]) (aT.aH (.bi aA a0.1 (cW eI a0.2) (b2 eI bn) (by decide:(1000000000:Int)≠0) (by decide:(1000000000:Int)≠0) cx.1 cx.2 (.dg (hQ eI cQ) (hJ 1) (cZ 1 .live (gM (cR eI ab) (0+gz.toNat) (q1.tmod (1000000000:Int)))) (aI 1 .live aN (ab.set (0+gz.toNat) (q1.tmod (1000000000:Int)))) (hg (dQ ab) (0+gz.toNat) (q1.tmod (1000000000:Int))))))))
  (fun aA =>
  .aY fun a0 =>
  .aY fun bm =>
  .ret (let a6:=R (aB+cC);bg (t1.append [.aa false,.aw (bo 7 .fX 1),(J 2),.aP [0] [.cE (av 1 eI (ab.set (0+gz.toNat) (a6.tmod (1000000000:Int))))] [(0,ii),(1,ii),(5,fU ((ab.set (0+gz.toNat) (a6.tmod (1000000000:Int))).length)),(6,ii),(20,ii),(21,ii),(22,ii)]]) (aT.aH (.bi aA (by decide:(1000000000:Int)≠0) (by decide:(1000000000:Int)≠0) a0.1 a0.2 (hQ eI bm) (hJ 1) (cZ 1 .live (gM (cR eI ab) (0+gz.toNat) (a6.tmod (1000000000:Int)))) (.aE (aI 1 .live aN (ab.set (0+gz.toNat) (a6.tmod (1000000000:Int)))) (hg (dQ ab) (0+gz.toNat) (a6.tmod (1000000000:Int))))))))))
  (fun h1 =>
  .ret (bg [(J 1),.aa false,.aP [0] [.pure] (a8 [0,5,6])] (.aE h1 (aI 1 .live aN ab))))
theorem OH {ag aF:List Int}{gO cC gz:Int}{ab:List Int}{r} (h:Ax ag aF gO cC gz ab=some r):dM a5 55 0 135 [1,1,1,1,0,1,0,0] (Jq ag aF gO) (DA ag aF gO) (cC,gz,ab) r:=dO (fun _=>WK) h
def yf (ag aF:List Int):Option (List Int) :=
 if (decide ((len_ eI ag)<(len_ eI aF)))=true then
  if 0≤(R ((len_ eI aF)+(1:Int)))∧(8:Int)*(R ((len_ eI aF)+(1:Int)))≤281474976710656∧(R ((len_ eI aF)+(1:Int)))<9223372036854775808 then
  Ax aF ag (len_ eI aF) 0 0 (List.replicate (R ((len_ eI aF)+(1:Int))).toNat 0:List Int) >>= fun bl =>
  if 0≤(len_ eI aF)∧(len_ eI aF)<(bl.2.length:Nat) then
  if (0+(len_ eI aF).toNat)<bl.2.length then
  qa (bl.2.set (0+(len_ eI aF).toNat) bl.1) >>= fun bQ =>
  some bQ
  else none
  else none
  else none
 else
  if 0≤(R ((len_ eI ag)+(1:Int)))∧(8:Int)*(R ((len_ eI ag)+(1:Int)))≤281474976710656∧(R ((len_ eI ag)+(1:Int)))<9223372036854775808 then
  Ax ag aF (len_ eI ag) 0 0 (List.replicate (R ((len_ eI ag)+(1:Int))).toNat 0:List Int) >>= fun bl =>
  if 0≤(len_ eI ag)∧(len_ eI ag)<(bl.2.length:Nat) then
  if (0+(len_ eI ag).toNat)<bl.2.length then
  qa (bl.2.set (0+(len_ eI ag).toNat) bl.1) >>= fun bQ =>
  some bQ
  else none
  else none
  else none
theorem Zj {ag aF:List Int}:bB (yf ag aF) (fun r=>Con a5 135 [.isl 1 (ag.map eI),.isl 1 (aF.map eI)] [] (.isl 1 (r.map eI)) []):=by
 unfold yf
 exact .ite (fun h1 =>
  .aY fun o =>
  .ar fun bl au =>
  .aY fun aA =>
  .aY fun a0 =>
  .ar fun bQ bn =>
  .ret (let a6:=len_ eI aF;let q1:=(R (a6+(1:Int)));let bY:=(List.replicate q1.toNat 0:List Int);let cz:=hg (dQ bl.2) (0+a6.toNat) bl.1;bz [(J 1),(J 5),.aa true,(J 4),(J 5),(J 1),(J 3),.aP [13] [.cE (av 1 eI bY)] [(0,ii),(1,ii),(5,fU (bY.length)),(6,ii),(20,ii),(21,ii),(22,ii)],(DA aF ag a6 bl).e6,.aw (ah 5 (ai .fX [])),.i9 0,.aw (bo 1 (.call {ac:=[.bs (.c9 (.dF ((bl.2.set (0+a6.toNat) bl.1).map eI)))],r:= .isl 1 (bQ.map eI),er:=false,eN:=[0]}) 1)] (.bi h1 o.1 (Int.le_refl q1) o.2.1 o.2.2 (cZ 1 .live (lU eI q1.toNat 0)) (aI 1 .live aN bY) (me q1.toNat (0:Int)) (.bi (OH au) aA.1 aA.2 (hQ eI a0) (hJ 1) (k4 (gM (cR eI bl.2) (0+a6.toNat) bl.1) cz) (lj (gM (cR eI bl.2) (0+a6.toNat) bl.1) cz) (dd aN (bl.2.set (0+a6.toNat) bl.1)) (.e1 (uL bQ bn))))))
  (fun h1 =>
  .aY fun o =>
  .ar fun bl au =>
  .aY fun aA =>
  .aY fun a0 =>
  .ar fun bQ bn =>
  .ret (let f6:=len_ eI ag;let dj:=(R (f6+(1:Int)));let h4:=(List.replicate dj.toNat 0:List Int);let fw:=hg (dQ bl.2) (0+f6.toNat) bl.1;bz [(J 1),(J 5),.aa false,(J 5),(J 1),(J 3),.aP [9] [.cE (av 1 eI h4)] [(0,ii),(1,ii),(5,fU (h4.length)),(6,ii),(20,ii),(21,ii),(22,ii)],(DA ag aF f6 bl).e6,.aw (ah 5 (ai .fX [])),.i9 0,.aw (bo 1 (.call {ac:=[.bs (.c9 (.dF ((bl.2.set (0+f6.toNat) bl.1).map eI)))],r:= .isl 1 (bQ.map eI),er:=false,eN:=[0]}) 1)] (.bi h1 o.1 (Int.le_refl dj) o.2.1 o.2.2 (cZ 1 .live (lU eI dj.toNat 0)) (aI 1 .live aN h4) (me dj.toNat (0:Int)) (.bi (OH au) aA.1 aA.2 (hQ eI a0) (hJ 1) (k4 (gM (cR eI bl.2) (0+f6.toNat) bl.1) fw) (lj (gM (cR eI bl.2) (0+f6.toNat) bl.1) fw) (dd aN (bl.2.set (0+f6.toNat) bl.1)) (.e1 (uL bQ bn))))))
def Je (aF d3:List Int)(b9:Int):(Int×Int×(List Int))→S:=fun (mz,bM,ab)=>dr [(1,.isl 1 (aF.map eI)),(5,.bf 0 0 0 ab.length),(6,.n .i64 mz),(12,.isl 1 (d3.map eI)),(13,.n .i64 b9),(14,.n .i64 bM)] [(av 1 eI ab)]
def Jr (aF d3:List Int)(b9:Int):(List Int)→dy
 | a=>⟨some 0,[(5,.bf 0 0 0 a.length)],[(av 1 eI a)]⟩
def xK (aF d3:List Int)(b9 mz bM:Int)(ab:List Int):Option ((Int×Int×(List Int))⊕((List Int))) :=
 if (decide (bM<b9))=true then
  if 0≤bM∧bM<d3.length then
  d3[bM.toNat]? >>= fun aB =>
  if (decide (bM<(len_ eI aF)))=true then
   if 0≤bM∧bM<aF.length then
   aF[bM.toNat]? >>= fun c7 =>
   if (decide ((R ((R (aB-mz))-c7))<(0:Int)))=true then
    if 0≤bM∧bM<(ab.length:Nat) then
    if (0+bM.toNat)<ab.length then
    some (.inl (1,R (bM+(1:Int)),ab.set (0+bM.toNat) (R ((R ((R (aB-mz))-c7))+(1000000000:Int)))))
    else none
    else none
   else
    if 0≤bM∧bM<(ab.length:Nat) then
    if (0+bM.toNat)<ab.length then
    some (.inl (0,R (bM+(1:Int)),ab.set (0+bM.toNat) (R ((R (aB-mz))-c7))))
    else none
    else none
   else none
  else
   if (decide ((R (aB-mz))<(0:Int)))=true then
    if 0≤bM∧bM<(ab.length:Nat) then
    if (0+bM.toNat)<ab.length then
    some (.inl (1,R (bM+(1:Int)),ab.set (0+bM.toNat) (R ((R (aB-mz))+(1000000000:Int)))))
    else none
    else none
   else
    if 0≤bM∧bM<(ab.length:Nat) then
    if (0+bM.toNat)<ab.length then
    some (.inl (0,R (bM+(1:Int)),ab.set (0+bM.toNat) (R (aB-mz))))
    else none
    else none
  else none
 else
  some (.inr ab)
def Ko (aF d3:List Int)(b9 mz bM:Int)(ab:List Int):Option ((List Int)):=iter (fun w:Int×Int×(List Int)=>xK aF d3 b9 w.1 w.2.1 w.2.2) (mz,bM,ab)
theorem WD {aF d3:List Int}{b9 mz bM:Int}{ab:List Int}:bB (xK aF d3 b9 mz bM ab) (dL a5 43 0 136 [1,1,1,0,1,0,0] (Je aF d3 b9 (mz,bM,ab)) (Je aF d3 b9) (Jr aF d3 b9)):=by
 unfold xK
 exact .ite (fun h1 =>
  .aY fun o =>
  .ar fun aB au =>
  (let t1:List b3:=[(J 1),.aa true,.aw (bo 2 (.b5 (eI aB)) 2),(J 4),(J 4)];
  have aT:=((.c3 h1 o.1 (cW eI o.2) (b2 eI au)):cA _);
  .ite (fun aA =>
  .aY fun a0 =>
  .ar fun c7 bn =>
  (let t3:List b3:=t1.append [.aa true,.aw (bo 4 (.b5 (eI c7)) 2),(J 1),(J 2)];
  have e3:=aT.aH (.c3 aA a0.1 (cW eI a0.2) (b2 eI bn));
  .ite (fun cx =>
  .aY fun cQ =>
  .aY fun fm =>
  .ret (let q1:=(R ((R ((R (aB-mz))-c7))+(1000000000:Int)));bg (t3.append [.aa true,(J 3),(J 1),.aw (ah 4 (ai .fX [])),(J 2),.aP [0] [.cE (av 1 eI (ab.set (0+bM.toNat) q1))] [(1,ii),(5,fU ((ab.set (0+bM.toNat) q1).length)),(6,ii),(12,ii),(13,ii),(14,ii)]]) (e3.aH (.gu cx cQ.1 cQ.2 (hQ eI fm) (hJ 1) (cZ 1 .live (gM (cR eI ab) (0+bM.toNat) q1)) (aI 1 .live aN (ab.set (0+bM.toNat) q1)) (hg (dQ ab) (0+bM.toNat) q1)))))
  (fun cx =>
  .aY fun cQ =>
  .aY fun fm =>
  .ret (let a6:=R ((R (aB-mz))-c7);bg (t3.append [.aa false,.aw (ah 4 (ai .fX [])),(J 2),.aP [0] [.cE (av 1 eI (ab.set (0+bM.toNat) a6))] [(1,ii),(5,fU ((ab.set (0+bM.toNat) a6).length)),(6,ii),(12,ii),(13,ii),(14,ii)]]) (e3.aH (.gu cx cQ.1 cQ.2 (hQ eI fm) (hJ 1) (cZ 1 .live (gM (cR eI ab) (0+bM.toNat) a6)) (aI 1 .live aN (ab.set (0+bM.toNat) a6)) (hg (dQ ab) (0+bM.toNat) a6)))))))
  (fun aA =>
  (let t3:List b3:=t1.append [.aa false,(J 1),(J 2)];
  .ite (fun a0 =>
  .aY fun bm =>
  .aY fun bn =>
  .ret (let bY:=(R ((R (aB-mz))+(1000000000:Int)));bg (t3.append [.aa true,(J 3),(J 1),.aw (ah 4 (ai .fX [])),(J 2),.aP [0] [.cE (av 1 eI (ab.set (0+bM.toNat) bY))] [(1,ii),(5,fU ((ab.set (0+bM.toNat) bY).length)),(6,ii),(12,ii),(13,ii),(14,ii)]]) (aT.aH (.bi aA a0 bm.1 bm.2 (hQ eI bn) (hJ 1) (cZ 1 .live (gM (cR eI ab) (0+bM.toNat) bY)) (aI 1 .live aN (ab.set (0+bM.toNat) bY)) (.e1 (hg (dQ ab) (0+bM.toNat) bY))))))
  (fun a0 =>
  .aY fun bm =>
  .aY fun bn =>
  .ret (let cz:=R (aB-mz);bg (t3.append [.aa false,.aw (ah 4 (ai .fX [])),(J 2),.aP [0] [.cE (av 1 eI (ab.set (0+bM.toNat) cz))] [(1,ii),(5,fU ((ab.set (0+bM.toNat) cz).length)),(6,ii),(12,ii),(13,ii),(14,ii)]]) (aT.aH (.bi aA a0 bm.1 bm.2 (hQ eI bn) (hJ 1) (cZ 1 .live (gM (cR eI ab) (0+bM.toNat) cz)) (aI 1 .live aN (ab.set (0+bM.toNat) cz)) (.e1 (hg (dQ ab) (0+bM.toNat) cz))))))))))
  (fun h1 =>
  .ret (bg [(J 1),.aa false,.aP [0] [.pure] (a8 [5])] (.aE h1 (aI 1 .live aN ab))))
theorem X8 {aF d3:List Int}{b9 mz bM:Int}{ab:List Int}{r} (h:Ko aF d3 b9 mz bM ab=some r):dM a5 43 0 136 [1,1,1,0,1,0,0] (Je aF d3 b9) (Jr aF d3 b9) (mz,bM,ab) r:=dO (fun _=>WD) h
def tm (ag aF:List Int):Option (List Int) :=
 if 0≤(len_ eI ag)∧(8:Int)*(len_ eI ag)≤281474976710656∧(len_ eI ag)<9223372036854775808 then
 Ko aF ag (len_ eI ag) 0 0 (List.replicate (len_ eI ag).toNat 0:List Int) >>= fun bT =>
 qa bT >>= fun ba =>
 some ba
 else none
theorem O2 {ag aF:List Int}:bB (tm ag aF) (fun r=>Con a5 136 [.isl 1 (ag.map eI),.isl 1 (aF.map eI)] [] (.isl 1 (r.map eI)) []):=by
 unfold tm
 exact .aY fun h1 =>
  .ar fun bT af =>
  .ar fun ba aA =>
  .ret (let a6:=len_ eI ag;let q1:=(List.replicate a6.toNat 0:List Int);bz [(J 1),(J 4),(J 1),(J 3),.aP [3] [.cE (av 1 eI q1)] [(1,ii),(5,fU (q1.length)),(6,ii),(12,ii),(13,ii),(14,ii)],(Jr aF ag a6 bT).e6,.i9 0,.aw (bo 1 (.call {ac:=[.bs (.c9 (.dF (bT.map eI)))],r:= .isl 1 (ba.map eI),er:=false,eN:=[0]}) 1)] (.bi h1.1 (Int.le_refl a6) h1.2.1 h1.2.2 (cZ 1 .live (lU eI a6.toNat 0)) (aI 1 .live aN q1) (me a6.toNat (0:Int)) (X8 af) (.c3 (fv eI bT) (fb eI bT) (dd aN bT) (uL ba aA))))
def xR (di eE:bt):Option bt :=
 qF di.cJ eE.cJ >>= fun r1 =>
 if (di.cS == eE.cS)=true then
  yf di.cJ eE.cJ >>= fun ba =>
  ni di.cS ba >>= fun cl =>
  some cl
 else
  if (decide ((0:Int)≤r1))=true then
   tm di.cJ eE.cJ >>= fun ax =>
   ni di.cS ax >>= fun bQ =>
   some bQ
  else
   tm eE.cJ di.cJ >>= fun ax =>
   ni eE.cS ax >>= fun bQ =>
   some bQ
theorem W7 {di eE:bt}:bB (xR di eE) (fun r=>Con a5 129 [.agg (aZ di),.agg (aZ eE)] [] (.agg (aZ r)) []):=by
 unfold xR
 exact .ar fun r1 o =>
  (let t1:List b3:=[(J 3),.aw (bo 4 (bw 2 (.n .i64 r1) true) 1),(J 6)];
  have aT:=((.aE (DF r1 o) (bX.n .i64 r1)):cA _);
  .ite (fun af =>
  .ar fun ba aA =>
  .ar fun cl bm =>
  .ret (bz (t1.append [.aa true,.aw (ah 6 (ai (bw 2 (.isl 1 (ba.map eI)) false) (ai (bw 2 (.agg (aZ cl)) false) (ah 1 []))))]) (aT.aH (.bP af (Zj ba aA) (td cl bm)))))
  (fun af =>
  .ite (fun au =>
  .ar fun ax a0 =>
  .ar fun bQ bn =>
  .ret (bz (t1.append [.aa false,(J 3),.aa true,.aw (ah 6 (ai (bw 2 (.isl 1 (ax.map eI)) false) (ai (bw 2 (.agg (aZ bQ)) false) (ah 1 []))))]) (aT.aH (.c3 af au (O2 ax a0) (td bQ bn)))))
  (fun au =>
  .ar fun ax a0 =>
  .ar fun bQ bn =>
  .ret (bz (t1.append [.aa false,(J 3),.aa false,.aw (ah 6 (ai (bw 2 (.isl 1 (ax.map eI)) false) (ai (bw 2 (.agg (aZ bQ)) false) (ah 1 []))))]) (aT.aH (.c3 af au (O2 ax a0) (td bQ bn)))))))
def ux (di eE:bt):Option bt :=
 r3 eE >>= fun r1 =>
 xR di r1 >>= fun bl =>
 some bl
theorem NY {di eE:bt}:bB (ux di eE) (fun r=>Con a5 112 [.agg (aZ di),.agg (aZ eE)] [] (.agg (aZ r)) []):=by
 unfold ux
 exact .ar fun r1 o =>
  .ar fun bl au =>
  .ret (bz [(J 3),.aw (ah 2 (ai (bw 1 (.agg (aZ r1)) false) (ai (bw 2 (.agg (aZ bl)) false) (ah 1 []))))] (.aE (Ha r1 o) (W7 bl au)))
def GC (eT:List (List bt))(e4:Bool)(eR eW:List Int)(jg:Int)(km:List Bool)(lF:List Int)(aO j6:Int):(Int×Bool×(List Int))→S:=fun (ix,aK,aJ)=>dr [(0,.ej 6 [[.isl 1 (eT.map (eA 2 aZ)),.b e4,.isl 1 (eR.map eI),.isl 1 (eW.map eI),.n .i64 jg,.isl 1 (km.map eu)]] 0 0),(1,.isl 1 (lF.map eI)),(2,.n .i64 aO),(7,.ref 0 0 0 0),(23,.isl 1 (eW.map eI)),(24,.n .i64 j6),(25,.n .i64 ix)] [[ae.mk 2 [[.b aK,.isl 1 (aJ.map eI)]] .live]]
def NI (eT:List (List bt))(e4:Bool)(eR eW:List Int)(jg:Int)(km:List Bool)(lF:List Int)(aO j6:Int):(Bool×(List Int))→dy
 | a=>⟨some 0,[(7,.ref 0 0 0 0)],[[ae.mk 2 [[.b a.1,.isl 1 (a.2.map eI)]] .live]]⟩
def wQ (eT:List (List bt))(e4:Bool)(eR eW:List Int)(jg:Int)(km:List Bool)(lF:List Int)(aO j6 ix:Int)(aK:Bool)(aJ:List Int):Option ((Int×Bool×(List Int))⊕(Bool×(List Int))) :=
 if (decide (ix<j6))=true then
  if 0≤ix∧ix<eW.length then
  eW[ix.toNat]? >>= fun aB =>
  if 0≤aB∧aB<lF.length then
  lF[aB.toNat]? >>= fun cu =>
  if (cu != (0:Int))=true then
   if 0≤ix∧ix<eT.length then
   eT[ix.toNat]? >>= fun ja =>
   if 0≤aO∧aO<ja.length then
   ja[aO.toNat]? >>= fun rl =>
   pc rl >>= fun gK =>
   if (gK != (0:Int))=true then
    oH cu >>= fun fi =>
    pv rl fi >>= fun iq =>
    ux (⟨aK,aJ⟩:bt) iq >>= fun Cv =>
    some (.inl (R (ix+(1:Int)),Cv.cS,Cv.cJ))
   else
    some (.inl (R (ix+(1:Int)),aK,aJ))
   else none
   else none
  else
   some (.inl (R (ix+(1:Int)),aK,aJ))
  else none
  else none
 else
  some (.inr (aK,aJ))
def H4 (eT:List (List bt))(e4:Bool)(eR eW:List Int)(jg:Int)(km:List Bool)(lF:List Int)(aO j6 ix:Int)(aK:Bool)(aJ:List Int):Option (Bool×(List Int)):=iter (fun w:Int×Bool×(List Int)=>wQ eT e4 eR eW jg km lF aO j6 w.1 w.2.1 w.2.2) (ix,aK,aJ)
theorem UI {eT:List (List bt)}{e4:Bool}{eR eW:List Int}{jg:Int}{km:List Bool}{lF:List Int}{aO j6 ix:Int}{aK:Bool}{aJ:List Int}:bB (wQ eT e4 eR eW jg km lF aO j6 ix aK aJ) (dL a5 70 0 96 [1,1,0,1,0,0] (GC eT e4 eR eW jg km lF aO j6 (ix,aK,aJ)) (GC eT e4 eR eW jg km lF aO j6) (NI eT e4 eR eW jg km lF aO j6)):=by
 unfold wQ
 exact .ite (fun h1 =>
  .aY fun o =>
  .ar fun aB au =>
  .aY fun aA =>
  .ar fun cu bm =>
  (let t1:List b3:=[(J 1),.aa true,.aw (bo 2 (.b5 (eI aB)) 2)];
  have aT:=((.eB h1 o.1 (cW eI o.2) (b2 eI au) aA.1 (cW eI aA.2) (b2 eI bm)):cA _);
  .ite (fun bn =>
  .aY fun cx =>
  .ar fun ja fm =>
  .aY fun eH =>
  .ar fun rl eJ =>
  .ar fun gK ha =>
  (let t3:List b3:=t1.append [.aw (ah 3 (ai (.b5 (eI cu)) (ah 8 (ai (.b5 ((eA 2 aZ) ja)) (ah 2 (ai (.b5 (aZ rl)) (ai (bw 1 (.n .i64 gK) true) (ah 1 (ai (.aa true) [])))))))))];
  have e3:=aT.aH (.bi bn bn bn bn bn bn cx.1 (cW (eA 2 aZ) cx.2) (.bi bn (b2 (eA 2 aZ) fm) bn bn eH.1 (cW aZ eH.2) bn (b2 aZ eJ) (.dg bn (ta gK ha) (bX.n .i64 gK) bn bn)));
  .ite (fun hN =>
  .ar fun fi gq =>
  .ar fun iq gJ =>
  .ar fun Cv na =>
  .ret (bg (t3.append [.aa true,.aw (ah 7 (ai (.b5 ((eA 2 aZ) ja)) (ah 2 (ai (.b5 (aZ rl)) (ah 3 (ai (.b5 (eI cu)) (ai (bw 1 (.agg (aZ fi)) false) (ai (bw 2 (.agg (aZ iq)) false) (ai (bw 2 (.agg (aZ Cv)) false) (ah 1 [])))))))))),(J 2),.aP [0] [.box [.id,.id]] (a8 [0,1,2,7,23,24,25])]) (e3.aH (.bi hN cx.1 (cW (eA 2 aZ) cx.2) (b2 (eA 2 aZ) fm) eH.1 (cW aZ eH.2) (b2 aZ eJ) aA.1 (.dg (cW eI aA.2) (b2 eI bm) (r8 fi gq) (xm iq gJ) (NY Cv na))))))
  (fun hN =>
  .ret (bg (t3.append [.aa false,(J 2),.aP [0] [.box [.id,.id]] (a8 [0,1,2,7,23,24,25])]) (e3.aH (.e1 hN))))))
  (fun bn =>
  .ret (bg (t1.append [.aw (ah 3 (ai (.b5 (eI cu)) (ah 2 (cw 12 (ai (.aa false) []))))),.aa false,(J 2),.aP [0] [.box [.id,.id]] (a8 [0,1,2,7,23,24,25])]) (aT.aH (.bi bn bn bn bn bn bn bn bn (.d6 bn bn bn bn bn cU)))))))
  (fun h1 =>
  .ret (bg [(J 1),.aa false,.aP [0] [.box [.id,.id]] (a8 [7])] (.e1 h1)))
theorem VO {eT:List (List bt)}{e4:Bool}{eR eW:List Int}{jg:Int}{km:List Bool}{lF:List Int}{aO j6 ix:Int}{aK:Bool}{aJ:List Int}{r} (h:H4 eT e4 eR eW jg km lF aO j6 ix aK aJ=some r):dM a5 70 0 96 [1,1,0,1,0,0] (GC eT e4 eR eW jg km lF aO j6) (NI eT e4 eR eW jg km lF aO j6) (ix,aK,aJ) r:=dO (fun _=>UI) h
def xN (hs:qK)(lF:List Int)(aO:Int):Option Int :=
 if 0≤aO∧aO<lF.length then
 lF[aO.toNat]? >>= fun eb =>
 oH eb >>= fun ba =>
 pv hs.vJ ba >>= fun cl =>
 H4 hs.sB hs.vJ.cS hs.vJ.cJ hs.rK hs.LH hs.LI lF aO (len_ eI hs.rK) 0 cl.cS cl.cJ >>= fun c2 =>
 pc (⟨c2.1,c2.2⟩:bt) >>= fun et =>
 some et
 else none
theorem NZ {hs:qK}{lF:List Int}{aO:Int}:bB (xN hs lF aO) (fun r=>Con a5 96 [.ej 6 [(yc hs)] 0 0,.isl 1 (lF.map eI),.n .i64 aO] [] (.n .i64 r) []):=by
 unfold xN
 exact .aY fun h1 =>
  .ar fun eb af =>
  .ar fun ba aA =>
  .ar fun cl bm =>
  .ar fun c2 cx =>
  .ar fun et fm =>
  .ret (bz [(J 1),.aw (ah 7 (ai (.b5 (eI eb)) (ai (bw 1 (.agg (aZ ba)) false) (ai (bw 2 (.agg (aZ cl)) false) (ah 2 []))))),(J 6),.aP [11] [.box [.id,.id]] (a8 [0,1,2,7,23,24,25]),.sub (.exit 0) [(7,.ref 0 0 0 0)] [[ae.mk 2 [[.b c2.1,.isl 1 (c2.2.map eI)]] .live]],.aw (bo 1 (bw 1 (.n .i64 et) true) 1)] (.gu h1.1 (cW eI h1.2) (b2 eI af) (r8 ba aA) (xm cl bm) (VO cx) (ta et fm) (bX.n .i64 et)))
def r4 (di eE:bt):Option Int :=
 if (di.cS == eE.cS)=true then
  if di.cS=true then
   qF eE.cJ di.cJ >>= fun bl =>
   some bl
  else
   qF di.cJ eE.cJ >>= fun bl =>
   some bl
 else
  if di.cS=true then
   some (-1)
  else
   some 1
theorem Wi {di eE:bt}:bB (r4 di eE) (fun r=>Con a5 113 [.agg (aZ di),.agg (aZ eE)] [] (.n .i64 r) []):=by
 unfold r4
 exact .ite (fun h1 =>
  (let t1:List b3:=[(J 3),.aw (ah 6 (cw 2 (ai (.aa false) (ah 1 [])))),.aa false,(J 6),.aa false,(J 3)];
  have aT:=((.dg (cV h1) (cV h1) (cV h1) cU (cV h1)):cA _);
  .ite (fun o =>
  .ar fun bl au =>
  .ret (bz (t1.append [.aa true,.aw (bo 4 (bw 2 (.n .i64 bl) true) 1)]) (aT.aH (.bP o (DF bl au) (bX.n .i64 bl)))))
  (fun o =>
  .ar fun bl au =>
  .ret (bz (t1.append [.aa false,.aw (bo 4 (bw 2 (.n .i64 bl) true) 1)]) (aT.aH (.bP o (DF bl au) (bX.n .i64 bl)))))))
  (fun h1 =>
  (let t1:List b3:=[(J 3),.aw (bo 8 (.aa true) 1)];
  have aT:=((.bP (cT h1) (cT h1) (cT h1)):cA _);
  .ite (fun o =>
  .ret (bz (t1.append [.aa true,(J 1)]) (aT.aH (.e1 o))))
  (fun o =>
  .ret (bz (t1.append [.aa false,(J 6),.aa true,(J 1)]) (aT.aH (.aE o (cT h1)))))))
def Gi (eT:List (List bt))(e4:Bool)(eR eW:List Int)(jg:Int)(km:List Bool)(aO b9:Int):(Int×Int)→S:=fun (ig,bM)=>dr [(0,.ej 6 [[.isl 1 (eT.map (eA 2 aZ)),.b e4,.isl 1 (eR.map eI),.isl 1 (eW.map eI),.n .i64 jg,.isl 1 (km.map eu)]] 0 0),(1,.n .i64 aO),(5,.n .i64 ig),(12,.isl 1 (eT.map (eA 2 aZ))),(13,.n .i64 b9),(14,.n .i64 bM)] []
def NH (eT:List (List bt))(e4:Bool)(eR eW:List Int)(jg:Int)(km:List Bool)(aO b9:Int):Int→dy
 | a=>⟨some 0,[(5,.n .i64 a)],[]⟩
def wG (eT:List (List bt))(e4:Bool)(eR eW:List Int)(jg:Int)(km:List Bool)(aO b9 ig bM:Int):Option ((Int×Int)⊕(Int)) :=
 if (decide (bM<b9))=true then
  if 0≤bM∧bM<eT.length then
  eT[bM.toNat]? >>= fun aB =>
  if 0≤aO∧aO<aB.length then
  aB[aO.toNat]? >>= fun cu =>
  pc cu >>= fun c2 =>
  if (decide (c2≤(0:Int)))=true then
   some (.inl (ig,R (bM+(1:Int))))
  else
   if (decide (ig<(0:Int)))=true then
    some (.inl (bM,R (bM+(1:Int))))
   else
    if 0≤jg∧jg<aB.length then
    aB[jg.toNat]? >>= fun rl =>
    if 0≤ig∧ig<eT.length then
    eT[ig.toNat]? >>= fun mI =>
    if 0≤aO∧aO<mI.length then
    mI[aO.toNat]? >>= fun rm =>
    pv rl rm >>= fun n4 =>
    if 0≤jg∧jg<mI.length then
    mI[jg.toNat]? >>= fun sQ =>
    pv sQ cu >>= fun n5 =>
    r4 n4 n5 >>= fun mJ =>
    if (decide (mJ<(0:Int)))=true then
     some (.inl (bM,R (bM+(1:Int))))
    else
     if (mJ == (0:Int))=true then
      if 0≤bM∧bM<eW.length then
      eW[bM.toNat]? >>= fun MI =>
      if 0≤ig∧ig<eW.length then
      eW[ig.toNat]? >>= fun MJ =>
      if (decide (MI<MJ))=true then
       some (.inl (bM,R (bM+(1:Int))))
      else
       some (.inl (ig,R (bM+(1:Int))))
      else none
      else none
     else
      some (.inl (ig,R (bM+(1:Int))))
    else none
    else none
    else none
    else none
  else none
  else none
 else
  some (.inr ig)
def Hb (eT:List (List bt))(e4:Bool)(eR eW:List Int)(jg:Int)(km:List Bool)(aO b9 ig bM:Int):Option (Int):=iter (fun w:Int×Int=>wG eT e4 eR eW jg km aO b9 w.1 w.2) (ig,bM)
theorem Us {eT:List (List bt)}{e4:Bool}{eR eW:List Int}{jg:Int}{km:List Bool}{aO b9 ig bM:Int}:bB (wG eT e4 eR eW jg km aO b9 ig bM) (dL a5 91 0 97 [1,1,0,1,0,0] (Gi eT e4 eR eW jg km aO b9 (ig,bM)) (Gi eT e4 eR eW jg km aO b9) (NH eT e4 eR eW jg km aO b9)):=by
 unfold wG
 exact .ite (fun h1 =>
  .aY fun o =>
  .ar fun aB au =>
  .aY fun aA =>
  .ar fun cu bm =>
  .ar fun c2 cx =>
  (let t1:List b3:=[(J 1),.aa true,.aw (bo 2 (.b5 ((eA 2 aZ) aB)) 2),.aw (ah 3 (ai (.b5 (aZ cu)) (ai (bw 1 (.n .i64 c2) true) (ah 1 []))))];
  have aT:=((.bi h1 o.1 (cW (eA 2 aZ) o.2) (b2 (eA 2 aZ) au) aA.1 (cW aZ aA.2) (b2 aZ bm) (ta c2 cx) (.e1 (bX.n .i64 c2))):cA _);
  .ite (fun cQ =>
  .ret (bg (t1.append [.aa true,(J 2),.aP [] [] (a8 [0,1,5,12,13,14])]) (aT.aH (.e1 cQ))))
  (fun cQ =>
  .ite (fun fm =>
  .ret (bg (t1.append [.aa false,(J 2),.aa true,(J 2),(J 2),.aP [] [] (a8 [0,1,5,12,13,14])]) (aT.aH (.aE cQ fm))))
  (fun fm =>
  .aY fun eH =>
  .ar fun rl eJ =>
  .aY fun fJ =>
  .ar fun mI hN =>
  .aY fun hy =>
  .ar fun rm ft =>
  .ar fun n4 ib =>
  .aY fun na =>
  .ar fun sQ pR =>
  .ar fun n5 sP =>
  .ar fun mJ ks =>
  (let q1:=eA 2 aZ;let t3:List b3:=t1.append [.aa false,(J 2),.aa false,.aw (ah 6 (ai (.b5 (aZ rl)) (ah 6 (ai (.b5 (q1 mI)) (ah 2 (ai (.b5 (aZ rm)) (ai (bw 2 (.agg (aZ n4)) false) (ah 6 (ai (.b5 (q1 mI)) (ah 5 (ai (.b5 (aZ sQ)) (ah 3 (ai (.b5 (aZ cu)) (ai (bw 2 (.agg (aZ n5)) false) (ai (bw 2 (.n .i64 mJ) true) (ah 1 []))))))))))))))))];
  have e3:=aT.aH (.bi cQ fm eH.1 (cW aZ eH.2) (b2 aZ eJ) fJ.1 (cW q1 fJ.2) (b2 q1 hN) (.bi hy.1 (cW aZ hy.2) (b2 aZ ft) (xm n4 ib) fJ.1 (cW q1 fJ.2) (b2 q1 hN) na.1 (.gu (cW aZ na.2) (b2 aZ pR) aA.1 (cW aZ aA.2) (b2 aZ bm) (xm n5 sP) (Wi mJ ks) (bX.n .i64 mJ))));
  .ite (fun oB =>
  .ret (bg (t3.append [.aw (ah 3 (cw 3 (ah 15 (cw 1 (ai (.aa true) []))))),.aa true,(J 2),(J 2),.aP [] [] (a8 [0,1,5,12,13,14])]) (e3.aH (.d6 oB oB oB oB oB cI))))
  (fun oB =>
  .ite (fun i4 =>
  .aY fun Cw =>
  .ar fun MI rV =>
  .aY fun pS =>
  .ar fun MJ aeW =>
  (let t5:List b3:=t3.append [.aw (ah 12 (ai (.b5 (eI MI)) (ah 6 (ai (.b5 (eI MJ)) (ah 1 (ai (.aa true) (ai (.aa false) [])))))))];
  have kj:=e3.aH (.bi oB oB oB i4 i4 i4 i4 i4 (.bi i4 Cw.1 (cW eI Cw.2) i4 (b2 eI rV) i4 i4 i4 (.bi i4 i4 i4 pS.1 (cW eI pS.2) i4 (b2 eI aeW) i4 (.bP oB i4 oB))));
  .ite (fun MK =>
  .ret (bg (t5.append [.aa true,(J 2),(J 2),.aP [] [] (a8 [0,1,5,12,13,14])]) (kj.aH (.e1 MK))))
  (fun MK =>
  .ret (bg (t5.append [.aa false,(J 2),.aP [] [] (a8 [0,1,5,12,13,14])]) (kj.aH (.e1 MK))))))
  (fun i4 =>
  .ret (bg (t3.append [.aw (ah 6 (cw 15 (ai (.aa false) (ai (.aa false) [])))),.aa false,(J 2),.aP [] [] (a8 [0,1,5,12,13,14])]) (e3.aH (.bi oB oB oB i4 i4 i4 i4 i4 (.bi i4 i4 i4 i4 i4 i4 i4 i4 (.d6 i4 i4 oB i4 oB cU))))))))))))
  (fun h1 =>
  .ret (bg [(J 1),.aa false,.aP [] [] (a8 [5])] (.e1 h1)))
theorem U8 {eT:List (List bt)}{e4:Bool}{eR eW:List Int}{jg:Int}{km:List Bool}{aO b9 ig bM:Int}{r} (h:Hb eT e4 eR eW jg km aO b9 ig bM=some r):dM a5 91 0 97 [1,1,0,1,0,0] (Gi eT e4 eR eW jg km aO b9) (NH eT e4 eR eW jg km aO b9) (ig,bM) r:=dO (fun _=>Us) h
def zM (hs:qK)(aO:Int):Option Int :=
 Hb hs.sB hs.vJ.cS hs.vJ.cJ hs.rK hs.LH hs.LI aO (len_ (eA 2 aZ) hs.sB) (-1) 0 >>= fun r1 =>
 some r1
theorem VP {hs:qK}{aO:Int}:bB (zM hs aO) (fun r=>Con a5 97 [.ej 6 [(yc hs)] 0 0,.n .i64 aO] [] (.n .i64 r) []):=by
 unfold zM
 exact .ar fun r1 o =>
  .ret (bz [(J 1),(J 1),(J 6),.aP [] [] (a8 [0,1,5,12,13,14]),.sub (.exit 0) [(5,.n .i64 r1)] [],(J 2)] (.e1 (U8 o)))
def A8 (aM:List Int):Option (List Int) :=
 if aM.length*8≤140737488355328 then some aM else none
theorem aaL:Con a5 137 [.ei] [] (.isl 1 (([]:List Int).map eI)) []:=bz [(J 1),(J 2),.aa true,(J 1)] (.e1 cI) (.bs (.c9 (.iF 1)))
theorem aaM:Con a5 137 [.iB] [] (.isl 1 (([]:List Int).map eI)) []:=(by
 have h:=fun (h1:(([]:List Int)++([]:List Int)).length*8≤140737488355328)=>(bz [(J 1),(J 2),.aa false,.aw (bo 2 (.aH ((([]:List Int)++([]:List Int)).length)) 1)] (.eB cU (nn (show []=(([]:List Int)).map eI from rfl) (fc Int)) (lV (fc Int) (nd eI):(([]:List Int)++([]:List Int)).length=0+([]:List (List aD)).length) h1 (k4 (iv (show []=(([]:List Int)).map eI from rfl) (fc Int) (nd eI)) (dQ (([]:List Int)++([]:List Int)))) (lj (iv (show []=(([]:List Int)).map eI from rfl) (fc Int) (nd eI)) (dQ (([]:List Int)++([]:List Int)))) (dd aN (([]:List Int)++([]:List Int)))) (.bs (.c9 (.dF ((([]:List Int)++([]:List Int)).map eI)))):Con a5 137 [.iB] [] (.isl 1 ((([]:List Int)++([]:List Int)).map eI)) [])
 exact h (by decide))
theorem aaN (x:Int)(l:List Int)(h1:(([]:List Int)++(x::l)).length*8≤140737488355328):Con a5 137 [.isl 1 ((x::l).map eI)] [] (.isl 1 ((([]:List Int)++(x::l)).map eI)) []:=bz [(J 1),.aw (ah 1 (ai .fX [])),.aa false,.aw (bo 2 (.aH ((([]:List Int)++(x::l)).length)) 1)] (.gu (by simp:(x::l).map eI≠[]) cU (nn (show []=(([]:List Int)).map eI from rfl) (fc Int)) (lV (fc Int) (cR eI (x::l)):(([]:List Int)++(x::l)).length=0+((x::l).map eI).length) h1 (k4 (iv (show []=(([]:List Int)).map eI from rfl) (fc Int) (cR eI (x::l))) (dQ (([]:List Int)++(x::l)))) (lj (iv (show []=(([]:List Int)).map eI from rfl) (fc Int) (cR eI (x::l))) (dQ (([]:List Int)++(x::l)))) (dd aN (([]:List Int)++(x::l)))) (.bs (.c9 (.dF ((([]:List Int)++(x::l)).map eI))))
theorem aab {aM:List Int}:bB (A8 aM) (fun r=>Con a5 137 [.isl 1 (aM.map eI)] [] (.isl 1 (r.map eI)) []):=by
 unfold A8
 refine .aY fun h=> .ret ?_
 cases aM with
 | nil=>exact .kf aaL aaM
 | cons x l =>
  have o:=aaN x l (by simpa using h)
  simpa using o
def Hp (ag:List Int)(aF:Int):(Int×Int×(List Int))→S:=fun (fT,ad,ab)=>dr [(0,.isl 1 (ag.map eI)),(1,.n .i64 aF),(6,.bf 0 0 0 ab.length),(7,.n .i64 fT),(8,.n .i64 ad)] [(av 1 eI ab)]
def HF (ag:List Int)(aF:Int):(Int×(List Int))→dy
 | a=>⟨some 0,[(6,.bf 0 0 0 a.2.length),(7,.n .i64 a.1)],[(av 1 eI a.2)]⟩
def Hq (ag:List Int)(aF fT ad:Int)(ab:List Int):Option ((Int×Int×(List Int))⊕(Int×(List Int))) :=
 if (decide ((0:Int)≤ad))=true then
  if 0≤ad∧ad<ag.length then
  ag[ad.toNat]? >>= fun aB =>
  if aF≠0 then
  if 0≤ad∧ad<(ab.length:Nat) then
  if (0+ad.toNat)<ab.length then
  some (.inl ((R ((R (fT*(1000000000:Int)))+aB)).tmod aF,R (ad-(1:Int)),ab.set (0+ad.toNat) (R ((R ((R (fT*(1000000000:Int)))+aB)).tdiv aF))))
  else none
  else none
  else none
  else none
 else
  some (.inr (fT,ab))
def Js (ag:List Int)(aF fT ad:Int)(ab:List Int):Option (Int×(List Int)):=iter (fun w:Int×Int×(List Int)=>Hq ag aF w.1 w.2.1 w.2.2) (fT,ad,ab)
theorem Vk {ag:List Int}{aF fT ad:Int}{ab:List Int}:bB (Hq ag aF fT ad ab) (dL a5 39 0 138 [1,1,1,0,1,0,0] (Hp ag aF (fT,ad,ab)) (Hp ag aF) (HF ag aF)):=by
 unfold Hq
 exact .ite (fun h1 =>
  .aY fun o =>
  .ar fun aB au =>
  .aY fun aA =>
  .aY fun a0 =>
  .aY fun bm =>
  .ret (let q1:=(R ((R ((R (fT*(1000000000:Int)))+aB)).tdiv aF));bg [(J 2),.aa true,.aw (bo 5 (.b5 (eI aB)) 2),.aw (bo 9 .fX 1),(J 3),.aP [0] [.cE (av 1 eI (ab.set (0+ad.toNat) q1))] [(0,ii),(1,ii),(6,fU ((ab.set (0+ad.toNat) q1).length)),(7,ii),(8,ii)]] (.bi h1 o.1 (cW eI o.2) (b2 eI au) aA aA a0.1 a0.2 (.dg (hQ eI bm) (hJ 1) (cZ 1 .live (gM (cR eI ab) (0+ad.toNat) q1)) (aI 1 .live aN (ab.set (0+ad.toNat) q1)) (hg (dQ ab) (0+ad.toNat) q1)))))
  (fun h1 =>
  .ret (bg [(J 2),.aa false,.aP [0] [.pure] (a8 [6,7])] (.aE h1 (aI 1 .live aN ab))))
theorem WL {ag:List Int}{aF fT ad:Int}{ab:List Int}{r} (h:Js ag aF fT ad ab=some r):dM a5 39 0 138 [1,1,1,0,1,0,0] (Hp ag aF) (HF ag aF) (fT,ad,ab) r:=dO (fun _=>Vk) h
def xW (ag:List Int)(aF:Int):Option ((List Int)×Int) :=
 if 0≤(len_ eI ag)∧(8:Int)*(len_ eI ag)≤281474976710656∧(len_ eI ag)<9223372036854775808 then
 Js ag aF 0 (R ((len_ eI ag)-(1:Int))) (List.replicate (len_ eI ag).toNat 0:List Int) >>= fun bT =>
 qa bT.2 >>= fun ba =>
 some (ba,bT.1)
 else none
theorem Ow {ag:List Int}{aF:Int}:bB (xW ag aF) (fun r=>Con a5 138 [.isl 1 (ag.map eI),.n .i64 aF] [] (.ea [.isl 1 (r.1.map eI),.n .i64 r.2]) []):=by
 unfold xW
 exact .aY fun h1 =>
  .ar fun bT af =>
  .ar fun ba aA =>
  .ret (let q1:=(List.replicate (len_ eI ag).toNat 0:List Int);bz [(J 2),(J 4),(J 1),(J 4),.aP [4] [.cE (av 1 eI q1)] [(0,ii),(1,ii),(6,fU (q1.length)),(7,ii),(8,ii)],(HF ag aF bT).e6,.i9 0,.aw (bo 1 (.call {ac:=[.bs (.c9 (.dF (bT.2.map eI)))],r:= .isl 1 (ba.map eI),er:=false,eN:=[0]}) 3)] (.bi h1.1 (Int.le_refl (len_ eI ag)) h1.2.1 h1.2.2 (cZ 1 .live (lU eI (len_ eI ag).toNat 0)) (aI 1 .live aN q1) (me (len_ eI ag).toNat (0:Int)) (WL af) (.c3 (fv eI bT.2) (fb eI bT.2) (dd aN bT.2) (uL ba aA))))
def IF (ab:List Int):Nat→S:=fun lW=>dr [(0,.bf 0 0 0 lW)] [(av 1 eI ab)]
def Jf (ab:List Int):Nat→dy
 | a=>⟨some 0,[(0,.bf 0 0 0 a)],[(av 1 eI ab)]⟩
def xD (ab:List Int)(lW:Nat):Option ((Nat)⊕(Nat)) :=
 if (decide ((0:Int)<((lW:Nat):Int)))=true then
  if 0≤(R (((lW:Nat):Int)-(1:Int)))∧(R (((lW:Nat):Int)-(1:Int)))<(lW:Nat) then
  ab[(0+(R (((lW:Nat):Int)-(1:Int))).toNat)]? >>= fun aB =>
  if (aB == (0:Int))=true then
   if 0≤(R (((lW:Nat):Int)-(1:Int))) then
   if 0≤(R (((lW:Nat):Int)-(1:Int))).toNat∧(R (((lW:Nat):Int)-(1:Int))).toNat≤lW then
   some (.inl ((R (((lW:Nat):Int)-(1:Int))).toNat-0))
   else none
   else none
  else
   some (.inr lW)
  else none
 else
  some (.inr lW)
def Ka (ab:List Int)(lW:Nat):Option (Nat):=iter (fun w:Nat=>xD ab w) lW
theorem Wj {ab:List Int}{lW:Nat}:bB (xD ab lW) (dL a5 21 1 134 [1,0,0,0] (IF ab lW) (IF ab) (Jf ab)):=by
 unfold xD
 exact .ite (fun h1 =>
  .aY fun o =>
  .ar fun aB au =>
  (let t1:List b3:=[.aw (ah 9 (ai (.b5 (eI aB)) (ah 1 (ai (.aa true) []))))];
  have aT:=((.bi h1 h1 h1 h1 h1 o.1 o.2 h1 (.bP (b2 eI au) h1 h1)):cA _);
  .ite (fun aA =>
  .aY fun a0 =>
  .aY fun bm =>
  .ret (bg (t1.append [.aa true,(J 6),.aP [0] [.pure] (a8 [0])]) (aT.aH (.dg aA a0 bm.1 bm.2 (aI 1 .live aN ab)))))
  (fun aA =>
  .ret (bg (t1.append [.aa false,.aP [0] [.pure] (a8 [0])]) (aT.aH (.aE aA (aI 1 .live aN ab)))))))
  (fun h1 =>
  .ret (bg [.aw (ah 4 (cw 7 (ai (.aa false) []))),.aa false,.aP [0] [.pure] (a8 [0])] (.bi h1 h1 h1 h1 h1 h1 h1 h1 (.aE cU (aI 1 .live aN ab)))))
theorem XG {ab:List Int}{lW:Nat}{r} (h:Ka ab lW=some r):dM a5 21 1 134 [1,0,0,0] (IF ab) (Jf ab) lW r:=dO (fun _=>Wj) h
def AG (ep:List Int):Option Nat :=
 Ka ep ep.length >>= fun r1 =>
 some r1
theorem YK {ep:List Int}:bB (AG ep) (fun a=>Con a5 134 [.bf 0 0 0 ep.length] [(av 1 eI ep)] (.bf 0 0 0 a) [(av 1 eI ep)]):=by
 unfold AG
 exact .ar fun r1 o =>
  .ret (kH [(J 1),.aP [0] [.pure] (a8 [0]),(Jf ep r1).e6,(J 2)] [0] [.pure] (.bP (aI 1 .live aN ep) (XG o) (aI 1 .live aN ep)))
def H5 (aF:List Int)(ad a3:Int)(du:List Int)(dv hq:Int):(Int×Int×(List Int))→S:=fun (cC,dw,ab)=>dr [(1,.isl 1 (aF.map eI)),(5,.bf 0 0 0 ab.length),(6,.n .i64 ad),(7,.n .i64 a3),(8,.n .i64 cC),(26,.isl 1 (du.map eI)),(27,.n .i64 dv),(28,.n .i64 ad),(33,.isl 1 (aF.map eI)),(34,.n .i64 hq),(35,.n .i64 dw)] [(av 1 eI ab)]
def IG (aF:List Int)(ad a3:Int)(du:List Int)(dv hq:Int):(Int×(List Int))→dy
 | a=>⟨some 2,[(1,.isl 1 (aF.map eI)),(5,.bf 0 0 0 a.2.length),(6,.n .i64 ad),(8,.n .i64 a.1),(26,.isl 1 (du.map eI)),(27,.n .i64 dv),(28,.n .i64 ad)],[(av 1 eI a.2)]⟩
def H6 (aF:List Int)(ad a3:Int)(du:List Int)(dv hq cC dw:Int)(ab:List Int):Option ((Int×Int×(List Int))⊕(Int×(List Int))) :=
 if (decide (dw<hq))=true then
  if 0≤dw∧dw<aF.length then
  aF[dw.toNat]? >>= fun aB =>
  if 0≤(R (ad+dw))∧(R (ad+dw))<(ab.length:Nat) then
  ab[(0+(R (ad+dw)).toNat)]? >>= fun cu =>
  if (0+(R (ad+dw)).toNat)<ab.length then
  some (.inl (R ((R ((R (cu+(R (a3*aB))))+cC)).tdiv (1000000000:Int)),R (dw+(1:Int)),ab.set (0+(R (ad+dw)).toNat) ((R ((R (cu+(R (a3*aB))))+cC)).tmod (1000000000:Int))))
  else none
  else none
  else none
 else
  some (.inr (cC,ab))
def OI (aF:List Int)(ad a3:Int)(du:List Int)(dv hq cC dw:Int)(ab:List Int):Option (Int×(List Int)):=iter (fun w:Int×Int×(List Int)=>H6 aF ad a3 du dv hq w.1 w.2.1 w.2.2) (cC,dw,ab)
theorem VQ {aF:List Int}{ad a3:Int}{du:List Int}{dv hq cC dw:Int}{ab:List Int}:bB (H6 aF ad a3 du dv hq cC dw ab) (dL a5 72 0 128 [1,1,1,0,1,0,0,1,1,0,0,1,1,0,1,0,0] (H5 aF ad a3 du dv hq (cC,dw,ab)) (H5 aF ad a3 du dv hq) (IG aF ad a3 du dv hq)):=by
 unfold H6
 exact .ite (fun h1 =>
  .aY fun o =>
  .ar fun aB au =>
  .aY fun aA =>
  .ar fun cu bm =>
  .aY fun bn =>
  .ret (let q1:=R ((R (cu+(R (a3*aB))))+cC);let a6:=R (ad+dw);bg [(J 1),.aa true,.aw (bo 2 (.b5 (eI aB)) 2),.aw (bo 5 (.b5 (eI cu)) 7),.aw (bo 9 .fX 1),(J 2),.aP [0] [.cE (av 1 eI (ab.set (0+a6.toNat) (q1.tmod (1000000000:Int))))] [(1,ii),(5,fU ((ab.set (0+a6.toNat) (q1.tmod (1000000000:Int))).length)),(6,ii),(7,ii),(8,ii),(26,ii),(27,ii),(28,ii),(33,ii),(34,ii),(35,ii)]] (.bi h1 o.1 (cW eI o.2) (b2 eI au) aA.1 aA.2 (b2 eI bm) (by decide:(1000000000:Int)≠0) (.gu (by decide:(1000000000:Int)≠0) aA.1 aA.2 (hQ eI bn) (hJ 1) (cZ 1 .live (gM (cR eI ab) (0+a6.toNat) (q1.tmod (1000000000:Int)))) (aI 1 .live aN (ab.set (0+a6.toNat) (q1.tmod (1000000000:Int)))) (hg (dQ ab) (0+a6.toNat) (q1.tmod (1000000000:Int)))))))
  (fun h1 =>
  .ret (bg [(J 1),.aa false,.aP [0] [.pure] (a8 [1,5,6,8,26,27,28])] (.aE h1 (aI 1 .live aN ab))))
theorem Xq {aF:List Int}{ad a3:Int}{du:List Int}{dv hq cC dw:Int}{ab:List Int}{r} (h:OI aF ad a3 du dv hq cC dw ab=some r):dM a5 72 0 128 [1,1,1,0,1,0,0,1,1,0,0,1,1,0,1,0,0] (H5 aF ad a3 du dv hq) (IG aF ad a3 du dv hq) (cC,dw,ab) r:=dO (fun _=>VQ) h
def H7 (aF du:List Int)(dv:Int):(Int×(List Int))→S:=fun (fG,ab)=>dr [(1,.isl 1 (aF.map eI)),(5,.bf 0 0 0 ab.length),(26,.isl 1 (du.map eI)),(27,.n .i64 dv),(28,.n .i64 fG)] [(av 1 eI ab)]
def IH (aF du:List Int)(dv:Int):(List Int)→dy
 | a=>⟨some 0,[(5,.bf 0 0 0 a.length)],[(av 1 eI a)]⟩
def H8 (aF du:List Int)(dv fG:Int)(ab:List Int):Option ((Int×(List Int))⊕((List Int))) :=
 if (decide (fG<dv))=true then
  if 0≤fG∧fG<du.length then
  du[fG.toNat]? >>= fun aB =>
  OI aF fG aB du dv (len_ eI aF) 0 0 ab >>= fun ax =>
  if 0≤(R (fG+(len_ eI aF)))∧(R (fG+(len_ eI aF)))<(ax.2.length:Nat) then
  if (0+(R (fG+(len_ eI aF))).toNat)<ax.2.length then
  some (.inl (R (fG+(1:Int)),ax.2.set (0+(R (fG+(len_ eI aF))).toNat) ax.1))
  else none
  else none
  else none
 else
  some (.inr ab)
def JW (aF du:List Int)(dv fG:Int)(ab:List Int):Option ((List Int)):=iter (fun w:Int×(List Int)=>H8 aF du dv w.1 w.2) (fG,ab)
theorem VR {aF du:List Int}{dv fG:Int}{ab:List Int}:bB (H8 aF du dv fG ab) (dL a5 72 0 128 [1,1,1,0,1,0,0] (H7 aF du dv (fG,ab)) (H7 aF du dv) (IH aF du dv)):=by
 unfold H8
 exact .ite (fun h1 =>
  .aY fun o =>
  .ar fun aB au =>
  .ar fun ax a0 =>
  .aY fun bm =>
  .aY fun bn =>
  .ret (let q1:=R (fG+(len_ eI aF));bg [(J 1),.aa true,.aw (bo 2 (.b5 (eI aB)) 2),(J 1),(J 3),.aP [0] [.pure] (a8 [1,5,6,7,8,26,27,28,33,34,35]),(IG aF fG aB du dv (len_ eI aF) ax).e6,.aw (ah 7 (ai .fX [])),(J 2),.aP [0] [.cE (av 1 eI (ax.2.set (0+q1.toNat) ax.1))] [(1,ii),(5,fU ((ax.2.set (0+q1.toNat) ax.1).length)),(26,ii),(27,ii),(28,ii)]] (.bi h1 o.1 (cW eI o.2) (b2 eI au) (aI 1 .live aN ab) (Xq a0) bm.1 bm.2 (.dg (hQ eI bn) (hJ 1) (cZ 1 .live (gM (cR eI ax.2) (0+q1.toNat) ax.1)) (aI 1 .live aN (ax.2.set (0+q1.toNat) ax.1)) (hg (dQ ax.2) (0+q1.toNat) ax.1)))))
  (fun h1 =>
  .ret (bg [(J 1),.aa false,.aP [0] [.pure] (a8 [5])] (.aE h1 (aI 1 .live aN ab))))
theorem Xr {aF du:List Int}{dv fG:Int}{ab:List Int}{r} (h:JW aF du dv fG ab=some r):dM a5 72 0 128 [1,1,1,0,1,0,0] (H7 aF du dv) (IH aF du dv) (fG,ab) r:=dO (fun _=>VR) h
def x5 (ag aF:List Int):Option (Nat×(List Int)) :=
 if ((len_ eI ag) == (0:Int))=true then
  none
 else
  if ((len_ eI aF) == (0:Int))=true then
   none
  else
   if 0≤(R ((len_ eI ag)+(len_ eI aF)))∧(8:Int)*(R ((len_ eI ag)+(len_ eI aF)))≤281474976710656∧(R ((len_ eI ag)+(len_ eI aF)))<9223372036854775808 then
   JW aF ag (len_ eI ag) 0 (List.replicate (R ((len_ eI ag)+(len_ eI aF))).toNat 0:List Int) >>= fun ba =>
   AG ba >>= fun cl =>
   some (cl,ba)
   else none
theorem OJ {ag aF:List Int}:bB (x5 ag aF) (fun a=>Con a5 128 [.isl 1 (ag.map eI),.isl 1 (aF.map eI)] [] (.bf 0 0 0 a.1) [(av 1 eI a.2)]):=by
 unfold x5
 exact .ite (fun h1 =>
  .MA)
  (fun h1 =>
  .ite (fun o =>
  .MA)
  (fun o =>
  .aY fun af =>
  .ar fun ba aA =>
  .ar fun cl bm =>
  .ret (let q1:=R ((len_ eI ag)+(len_ eI aF));let a6:=(List.replicate q1.toNat 0:List Int);kH [(J 1),.aw (ah 7 (ai (.aa false) [])),.aa false,(J 7),(J 3),.aP [14] [.cE (av 1 eI a6)] [(1,ii),(5,fU (a6.length)),(26,ii),(27,ii),(28,ii)],(IH aF ag (len_ eI ag) ba).e6,.aw (bo 1 (.call {a2:=[.row 0],da:=[.pure],ac:=[ii],r:= .bf 0 0 0 cl,eV:=[(av 1 eI ba)],gr:=ii,hD:=[.pure],eN:=[0],er:=false}) 1)] [0] [.pure] (.bi h1 h1 h1 h1 o af.1 (Int.le_refl q1) af.2.1 (.bi af.2.2 (cZ 1 .live (lU eI q1.toNat 0)) (aI 1 .live aN a6) (me q1.toNat (0:Int)) (Xr aA) (f8 1 aN ba) (f8 1 aN ba) (YK cl bm) (.e1 (aI 1 .live aN ba)))))))
def II (fr eD:Nat)(ez:List Int)(kD d3:Int):(Int×Int×(List Int))→S:=fun (cC,b9,ab)=>dr [(0,.bf 0 0 fr eD),(1,.isl 1 (ez.map eI)),(2,.n .i64 kD),(7,.n .i64 cC),(11,.isl 1 (ez.map eI)),(12,.n .i64 d3),(13,.n .i64 b9)] [(av 1 eI ab)]
def Jg (fr eD:Nat)(ez:List Int)(kD d3:Int):(Int×(List Int))→dy
 | a=>⟨some 0,[(0,.bf 0 0 fr eD),(1,.isl 1 (ez.map eI)),(7,.n .i64 a.1)],[(av 1 eI a.2)]⟩
def uv (fr eD:Nat)(ez:List Int)(kD d3 cC b9:Int)(ab:List Int):Option ((Int×Int×(List Int))⊕(Int×(List Int))) :=
 if (decide (b9<d3))=true then
  if 0≤b9∧b9<ez.length then
  ez[b9.toNat]? >>= fun aB =>
  if 0≤b9∧b9<(eD:Nat) then
  ab[(fr+b9.toNat)]? >>= fun cu =>
  if (decide ((R ((R (cu-(R (kD*aB))))-cC))<(0:Int)))=true then
   if (fr+b9.toNat)<ab.length then
   some (.inl (R ((R ((999999999:Int)-(R ((R (cu-(R (kD*aB))))-cC)))).tdiv (1000000000:Int)),R (b9+(1:Int)),ab.set (fr+b9.toNat) (R ((R ((R (cu-(R (kD*aB))))-cC))+(R ((R ((R ((999999999:Int)-(R ((R (cu-(R (kD*aB))))-cC)))).tdiv (1000000000:Int)))*(1000000000:Int)))))))
   else none
  else
   if (fr+b9.toNat)<ab.length then
   some (.inl (0,R (b9+(1:Int)),ab.set (fr+b9.toNat) (R ((R (cu-(R (kD*aB))))-cC))))
   else none
  else none
  else none
 else
  some (.inr (cC,ab))
def Kb (fr eD:Nat)(ez:List Int)(kD d3 cC b9:Int)(ab:List Int):Option (Int×(List Int)):=iter (fun w:Int×Int×(List Int)=>uv fr eD ez kD d3 w.1 w.2.1 w.2.2) (cC,b9,ab)
theorem Wk {fr eD:Nat}{ez:List Int}{kD d3 cC b9:Int}{ab:List Int}:bB (uv fr eD ez kD d3 cC b9 ab) (dL a5 56 1 139 [1,1,0,1,0,0] (II fr eD ez kD d3 (cC,b9,ab)) (II fr eD ez kD d3) (Jg fr eD ez kD d3)):=by
 unfold uv
 exact .ite (fun h1 =>
  .aY fun o =>
  .ar fun aB au =>
  .aY fun aA =>
  .ar fun cu bm =>
  (let t1:List b3:=[(J 1),.aa true,.aw (bo 2 (.b5 (eI aB)) 2),.aw (bo 3 (.b5 (eI cu)) 7),(J 1),(J 2)];
  have aT:=((.eB h1 o.1 (cW eI o.2) (b2 eI au) aA.1 aA.2 (b2 eI bm)):cA _);
  .ite (fun bn =>
  .aY fun cx =>
  .ret (let q1:=(R ((R ((R (cu-(R (kD*aB))))-cC))+(R ((R ((R ((999999999:Int)-(R ((R (cu-(R (kD*aB))))-cC)))).tdiv (1000000000:Int)))*(1000000000:Int)))));bg (t1.append [.aa true,(J 4),(J 5),.aw (ah 4 (ai .fX [])),(J 2),.aP [0] [.cE (av 1 eI (ab.set (fr+b9.toNat) q1))] (a8 [0,1,2,7,11,12,13])]) (aT.aH (.gu bn (by decide:(1000000000:Int)≠0) aA.1 aA.2 (hQ eI cx) (hJ 1) (cZ 1 .live (gM (cR eI ab) (fr+b9.toNat) q1)) (aI 1 .live aN (ab.set (fr+b9.toNat) q1))))))
  (fun bn =>
  .aY fun cx =>
  .ret (let a6:=R ((R (cu-(R (kD*aB))))-cC);bg (t1.append [.aa false,.aw (ah 4 (ai .fX [])),(J 2),.aP [0] [.cE (av 1 eI (ab.set (fr+b9.toNat) a6))] (a8 [0,1,2,7,11,12,13])]) (aT.aH (.eB bn aA.1 aA.2 (hQ eI cx) (hJ 1) (cZ 1 .live (gM (cR eI ab) (fr+b9.toNat) a6)) (aI 1 .live aN (ab.set (fr+b9.toNat) a6))))))))
  (fun h1 =>
  .ret (bg [(J 1),.aa false,.aP [0] [.pure] (a8 [0,1,7])] (.aE h1 (aI 1 .live aN ab))))
theorem XH {fr eD:Nat}{ez:List Int}{kD d3 cC b9:Int}{ab:List Int}{r} (h:Kb fr eD ez kD d3 cC b9 ab=some r):dM a5 56 1 139 [1,1,0,1,0,0] (II fr eD ez kD d3) (Jg fr eD ez kD d3) (cC,b9,ab) r:=dO (fun _=>Wk) h
def AH (ez:List Int)(kD:Int)(fr eD:Nat)(ep:List Int):Option (Bool×(List Int)) :=
 Kb fr eD ez kD (len_ eI ez) 0 0 ep >>= fun r1 =>
 if 0≤(len_ eI ez)∧(len_ eI ez)<(eD:Nat) then
 r1.2[(fr+(len_ eI ez).toNat)]? >>= fun fM =>
 if (fr+(len_ eI ez).toNat)<r1.2.length then
 (r1.2.set (fr+(len_ eI ez).toNat) (R (fM-r1.1)))[(fr+(len_ eI ez).toNat)]? >>= fun c7 =>
 some ((decide (c7<(0:Int))),r1.2.set (fr+(len_ eI ez).toNat) (R (fM-r1.1)))
 else none
 else none
theorem YL {ez:List Int}{kD:Int}{fr eD:Nat}{ep:List Int}:bB (AH ez kD fr eD ep) (fun a=>Con a5 139 (aeU 0 0 fr eD ez kD) [(av 1 eI ep)] (.b a.1) [(av 1 eI a.2)]):=by
 unfold AH
 exact .ar fun r1 o =>
  .aY fun af =>
  .ar fun fM aA =>
  .aY fun a0 =>
  .ar fun c7 bn =>
  .ret (let q1:=R (fM-r1.1);let a6:=len_ eI ez;kH [(J 1),(J 1),(J 3),.aP [0] [.pure] (a8 [0,1,2,7,11,12,13]),(Jg fr eD ez kD a6 r1).e6,.aw (ah 4 (ai (.b5 (eI fM)) (ah 3 (ai .fX [])))),.aw (bo 4 (.b5 (eI c7)) 2)] [0] [.cE (av 1 eI (r1.2.set (fr+a6.toNat) q1))] (.bi (aI 1 .live aN ep) (XH o) af.1 af.2 (b2 eI aA) af.1 af.2 (hQ eI a0) (.d6 (hJ 1) af.1 af.2 (qN (gM (cR eI r1.2) (fr+a6.toNat) q1) bn) (cZ 1 .live (gM (cR eI r1.2) (fr+a6.toNat) q1)) (aI 1 .live aN (r1.2.set (fr+a6.toNat) q1)))))
def IJ (fr eD:Nat)(ez:List Int)(eh:Int):(Int×Int×(List Int))→S:=fun (cC,db,ab)=>dr [(0,.bf 0 0 fr eD),(1,.isl 1 (ez.map eI)),(4,.n .i64 cC),(8,.isl 1 (ez.map eI)),(9,.n .i64 eh),(10,.n .i64 db)] [(av 1 eI ab)]
def Jh (fr eD:Nat)(ez:List Int)(eh:Int):(Int×(List Int))→dy
 | a=>⟨some 0,[(0,.bf 0 0 fr eD),(1,.isl 1 (ez.map eI)),(4,.n .i64 a.1)],[(av 1 eI a.2)]⟩
def xE (fr eD:Nat)(ez:List Int)(eh cC db:Int)(ab:List Int):Option ((Int×Int×(List Int))⊕(Int×(List Int))) :=
 if (decide (db<eh))=true then
  if 0≤db∧db<ez.length then
  ez[db.toNat]? >>= fun aB =>
  if 0≤db∧db<(eD:Nat) then
  ab[(fr+db.toNat)]? >>= fun cu =>
  if (fr+db.toNat)<ab.length then
  some (.inl (R ((R ((R (cu+aB))+cC)).tdiv (1000000000:Int)),R (db+(1:Int)),ab.set (fr+db.toNat) ((R ((R (cu+aB))+cC)).tmod (1000000000:Int))))
  else none
  else none
  else none
 else
  some (.inr (cC,ab))
def Kc (fr eD:Nat)(ez:List Int)(eh cC db:Int)(ab:List Int):Option (Int×(List Int)):=iter (fun w:Int×Int×(List Int)=>xE fr eD ez eh w.1 w.2.1 w.2.2) (cC,db,ab)
theorem Wl {fr eD:Nat}{ez:List Int}{eh cC db:Int}{ab:List Int}:bB (xE fr eD ez eh cC db ab) (dL a5 39 1 140 [1,0,1,0,0] (IJ fr eD ez eh (cC,db,ab)) (IJ fr eD ez eh) (Jh fr eD ez eh)):=by
 unfold xE
 exact .ite (fun h1 =>
  .aY fun o =>
  .ar fun aB au =>
  .aY fun aA =>
  .ar fun cu bm =>
  .aY fun bn =>
  .ret (let q1:=R ((R (cu+aB))+cC);bg [(J 1),.aa true,.aw (bo 2 (.b5 (eI aB)) 2),.aw (bo 3 (.b5 (eI cu)) 5),.aw (bo 7 .fX 1),(J 2),.aP [0] [.cE (av 1 eI (ab.set (fr+db.toNat) (q1.tmod (1000000000:Int))))] (a8 [0,1,4,8,9,10])] (.bi h1 o.1 (cW eI o.2) (b2 eI au) aA.1 aA.2 (b2 eI bm) (by decide:(1000000000:Int)≠0) (.eB (by decide:(1000000000:Int)≠0) aA.1 aA.2 (hQ eI bn) (hJ 1) (cZ 1 .live (gM (cR eI ab) (fr+db.toNat) (q1.tmod (1000000000:Int)))) (aI 1 .live aN (ab.set (fr+db.toNat) (q1.tmod (1000000000:Int))))))))
  (fun h1 =>
  .ret (bg [(J 1),.aa false,.aP [0] [.pure] (a8 [0,1,4])] (.aE h1 (aI 1 .live aN ab))))
theorem XI {fr eD:Nat}{ez:List Int}{eh cC db:Int}{ab:List Int}{r} (h:Kc fr eD ez eh cC db ab=some r):dM a5 39 1 140 [1,0,1,0,0] (IJ fr eD ez eh) (Jh fr eD ez eh) (cC,db,ab) r:=dO (fun _=>Wl) h
def x9 (ez:List Int)(fr eD:Nat)(ep:List Int):Option (List Int) :=
 Kc fr eD ez (len_ eI ez) 0 0 ep >>= fun r1 =>
 if 0≤(len_ eI ez)∧(len_ eI ez)<(eD:Nat) then
 r1.2[(fr+(len_ eI ez).toNat)]? >>= fun fM =>
 if (fr+(len_ eI ez).toNat)<r1.2.length then
 some (r1.2.set (fr+(len_ eI ez).toNat) (R (fM+r1.1)))
 else none
 else none
theorem YM {ez:List Int}{fr eD:Nat}{ep:List Int}:bB (x9 ez fr eD ep) (fun a=>Con a5 140 [.bf 0 0 fr eD,.isl 1 (ez.map eI)] [(av 1 eI ep)] (.ea []) [(av 1 eI a)]):=by
 unfold x9
 exact .ar fun r1 o =>
  .aY fun af =>
  .ar fun fM aA =>
  .aY fun a0 =>
  .ret (let q1:=R (fM+r1.1);let a6:=len_ eI ez;kH [(J 1),(J 3),.aP [0] [.pure] (a8 [0,1,4,8,9,10]),(Jh fr eD ez a6 r1).e6,.aw (ah 4 (ai (.b5 (eI fM)) (ah 3 (ai .fX []))))] [0] [.cE (av 1 eI (r1.2.set (fr+a6.toNat) q1))] (.bi (aI 1 .live aN ep) (XI o) af.1 af.2 (b2 eI aA) af.1 af.2 (hQ eI a0) (.bP (hJ 1) (cZ 1 .live (gM (cR eI r1.2) (fr+a6.toNat) q1)) (aI 1 .live aN (r1.2.set (fr+a6.toNat) q1)))))
def Jt (ag:List Int)(ga:Nat)(ab aC:List Int):(List Int)→S:=fun an=>dr [(0,.isl 1 (ag.map eI)),(8,.bf 0 0 0 ab.length),(9,.bf 1 0 0 an.length),(10,.bf 2 0 0 ga)] [(av 1 eI ab),(av 1 eI an),(av 1 eI aC)]
def JH (ag:List Int)(ga:Nat)(ab aC:List Int):(List Int)→dy
 | a=>⟨some 0,[(8,.bf 0 0 0 ab.length),(9,.bf 1 0 0 a.length),(10,.bf 2 0 0 ga)],[(av 1 eI ab),(av 1 eI a),(av 1 eI aC)]⟩
def Du (ag:List Int)(ga:Nat)(ab aC an:List Int):Option (((List Int))⊕((List Int))) :=
 if (decide (((an.length:Nat):Int)≤(len_ eI ag)))=true then
  if (an++([0]:List Int)).length*8≤140737488355328 then
  some (.inl (an++([0]:List Int)))
  else none
 else
  some (.inr an)
def DW (ag:List Int)(ga:Nat)(ab aC an:List Int):Option ((List Int)):=iter (fun w:(List Int)=>Du ag ga ab aC w) an
theorem WM {ag:List Int}{ga:Nat}{ab aC an:List Int}:bB (Du ag ga ab aC an) (dL a5 172 0 131 [1,1,1,1,1,0,0,0] (Jt ag ga ab aC an) (Jt ag ga ab aC) (JH ag ga ab aC)):=by
 unfold Du
 exact .ite (fun h1 =>
  .aY fun o =>
  .ret (let q1:=(an++([0]:List Int));bg [(J 5),.aa true,.aw (bo 2 (.aH (q1.length)) 1),.aP [0,10,2] [.pure,.cE (av 1 eI q1),.pure] (a8 [0,8,9,10])] (.bi h1 (gC eI 0) (gW eI an) (gD eI an 0) o (aI 1 .live aN ab) (cZ 1 .live (hb eI an 0)) (aI 1 .live aN q1) (.e1 (aI 1 .live aN aC)))))
  (fun h1 =>
  .ret (bg [(J 5),.aa false,.aP [0,1,2] [.pure,.pure,.pure] (a8 [8,9,10])] (.c3 h1 (aI 1 .live aN ab) (aI 1 .live aN an) (aI 1 .live aN aC))))
theorem Yu {ag:List Int}{ga:Nat}{ab aC an:List Int}{r} (h:DW ag ga ab aC an=some r):dM a5 172 0 131 [1,1,1,1,1,0,0,0] (Jt ag ga ab aC) (JH ag ga ab aC) an r:=dO (fun _=>WM) h
def Ju (eD ga:Nat)(a3 bW:Int)(ab an aC al:List Int):(Int×Int)→S:=fun (nM,fT)=>dr [(8,.bf 0 0 0 ab.length),(9,.bf 1 0 0 eD),(10,.bf 2 0 0 ga),(11,.n .i64 a3),(12,.bf 3 0 0 al.length),(13,.n .i64 bW),(15,.n .i64 nM),(16,.n .i64 fT)] [(av 1 eI ab),(av 1 eI an),[ae.mk 1 (aC.map eI) .i9],(av 1 eI al)]
def JI (eD ga:Nat)(a3 bW:Int)(ab an aC al:List Int):Int→dy
 | a=>⟨some 4,[(8,.bf 0 0 0 ab.length),(9,.bf 1 0 0 eD),(10,.bf 2 0 0 ga),(11,.n .i64 a3),(12,.bf 3 0 0 al.length),(13,.n .i64 bW),(15,.n .i64 a)],[(av 1 eI ab),(av 1 eI an),[ae.mk 1 (aC.map eI) .i9],(av 1 eI al)]⟩
def uy (eD ga:Nat)(a3 bW:Int)(ab an aC al:List Int)(nM fT:Int):Option ((Int×Int)⊕(Int)) :=
 if (decide ((1000000000:Int)≤nM))=true then
  if 0≤(R (a3-(1:Int)))∧(R (a3-(1:Int)))<(ga:Nat) then
  aC[(0+(R (a3-(1:Int))).toNat)]? >>= fun aB =>
  if (decide ((1000000000:Int)≤(R (fT+aB))))=true then
   some (.inr (R (nM-(1:Int))))
  else
   some (.inl (R (nM-(1:Int)),R (fT+aB)))
  else none
 else
  if 0≤(R (a3-(2:Int)))∧(R (a3-(2:Int)))<(ga:Nat) then
  aC[(0+(R (a3-(2:Int))).toNat)]? >>= fun aB =>
  if 0≤(R ((R (bW+a3))-(2:Int)))∧(R ((R (bW+a3))-(2:Int)))<(eD:Nat) then
  an[(0+(R ((R (bW+a3))-(2:Int))).toNat)]? >>= fun cu =>
  if (decide ((R ((R (fT*(1000000000:Int)))+cu))<(R (nM*aB))))=true then
   if 0≤(R (a3-(1:Int)))∧(R (a3-(1:Int)))<(ga:Nat) then
   aC[(0+(R (a3-(1:Int))).toNat)]? >>= fun ja =>
   if (decide ((1000000000:Int)≤(R (fT+ja))))=true then
    some (.inr (R (nM-(1:Int))))
   else
    some (.inl (R (nM-(1:Int)),R (fT+ja)))
   else none
  else
   some (.inr nM)
  else none
  else none
def Ks (eD ga:Nat)(a3 bW:Int)(ab an aC al:List Int)(nM fT:Int):Option (Int):=iter (fun w:Int×Int=>uy eD ga a3 bW ab an aC al w.1 w.2) (nM,fT)
theorem WN {eD ga:Nat}{a3 bW:Int}{ab an aC al:List Int}{nM fT:Int}:bB (uy eD ga a3 bW ab an aC al nM fT) (dL a5 172 0 131 [1,1,1,1,1,1,1,1,0,1,0,0,1,0,0,1,1,0,0,0] (Ju eD ga a3 bW ab an aC al (nM,fT)) (Ju eD ga a3 bW ab an aC al) (JI eD ga a3 bW ab an aC al)):=by
 unfold uy
 exact .ite (fun h1 =>
  .aY fun o =>
  .ar fun aB au =>
  (let t1:List b3:=[.aw (ah 3 (cw 18 (ai (.aa true) []))),.aa true,(J 3),.aw (bo 5 (.b5 (eI aB)) 2),(J 2)];
  have aT:=((.bi h1 h1 h1 h1 h1 h1 h1 h1 (.bi h1 h1 h1 h1 h1 h1 h1 h1 (.eB h1 h1 h1 cI o.1 o.2 (b2 eI au)))):cA _);
  .ite (fun aA =>
  .ret (bg (t1.append [.aa true,.aP [0,1,2,3] [.pure,.pure,.pure,.pure] (a8 [8,9,10,11,12,13,15])]) (aT.aH (.dg aA (aI 1 .live aN ab) (aI 1 .live aN an) (aI 1 .i9 aN aC) (aI 1 .live aN al)))))
  (fun aA =>
  .ret (bg (t1.append [.aa false,.aP [0,1,2,3] [.pure,.pure,.pure,.pure] (a8 [8,9,10,11,12,13,15,16])]) (aT.aH (.dg aA (aI 1 .live aN ab) (aI 1 .live aN an) (aI 1 .i9 aN aC) (aI 1 .live aN al)))))))
  (fun h1 =>
  .aY fun o =>
  .ar fun aB au =>
  .aY fun aA =>
  .ar fun cu bm =>
  (let t1:List b3:=[.aw (ah 8 (ai (.b5 (eI aB)) (ah 9 (ai (.b5 (eI cu)) (ah 2 (ai (.aa false) []))))))];
  have aT:=((.bi h1 h1 h1 h1 h1 o.1 o.2 h1 (.bi (b2 eI au) h1 h1 h1 h1 h1 h1 h1 (.bi h1 h1 aA.1 aA.2 h1 (b2 eI bm) h1 h1 (.e1 h1)))):cA _);
  .ite (fun bn =>
  .aY fun cx =>
  .ar fun ja fm =>
  (let t3:List b3:=t1.append [.aa true,(J 3),.aw (bo 5 (.b5 (eI ja)) 2),(J 2)];
  .ite (fun eH =>
  .ret (bg (t3.append [.aa true,.aP [0,1,2,3] [.pure,.pure,.pure,.pure] (a8 [8,9,10,11,12,13,15])]) (aT.aH (.bi bn cx.1 cx.2 (b2 eI fm) eH (aI 1 .live aN ab) (aI 1 .live aN an) (aI 1 .i9 aN aC) (.e1 (aI 1 .live aN al))))))
  (fun eH =>
  .ret (bg (t3.append [.aa false,.aP [0,1,2,3] [.pure,.pure,.pure,.pure] (a8 [8,9,10,11,12,13,15,16])]) (aT.aH (.bi bn cx.1 cx.2 (b2 eI fm) eH (aI 1 .live aN ab) (aI 1 .live aN an) (aI 1 .i9 aN aC) (.e1 (aI 1 .live aN al))))))))
  (fun bn =>
  .ret (bg (t1.append [.aa false,.aP [0,1,2,3] [.pure,.pure,.pure,.pure] (a8 [8,9,10,11,12,13,15])]) (aT.aH (.dg bn (aI 1 .live aN ab) (aI 1 .live aN an) (aI 1 .i9 aN aC) (aI 1 .live aN al)))))))
theorem Yv {eD ga:Nat}{a3 bW:Int}{ab an aC al:List Int}{nM fT:Int}{r} (h:Ks eD ga a3 bW ab an aC al nM fT=some r):dM a5 172 0 131 [1,1,1,1,1,1,1,1,0,1,0,0,1,0,0,1,1,0,0,0] (Ju eD ga a3 bW ab an aC al) (JI eD ga a3 bW ab an aC al) (nM,fT) r:=dO (fun _=>WN) h
def Jv (eD ga:Nat)(a3:Int)(ab aC:List Int):(Int×(List Int)×(List Int))→S:=fun (bW,an,al)=>dr [(8,.bf 0 0 0 ab.length),(9,.bf 1 0 0 eD),(10,.bf 2 0 0 ga),(11,.n .i64 a3),(12,.bf 3 0 0 al.length),(13,.n .i64 bW)] [(av 1 eI ab),(av 1 eI an),[ae.mk 1 (aC.map eI) .i9],(av 1 eI al)]
def JJ (eD ga:Nat)(a3:Int)(ab aC:List Int):((List Int)×(List Int))→dy
 | a=>⟨some 2,[(8,.bf 0 0 0 ab.length),(9,.bf 1 0 0 eD),(12,.bf 2 0 0 a.2.length)],[(av 1 eI ab),(av 1 eI a.1),(av 1 eI a.2)]⟩
def uz (eD ga:Nat)(a3:Int)(ab aC:List Int)(bW:Int)(an al:List Int):Option ((Int×(List Int)×(List Int))⊕((List Int)×(List Int))) :=
 if (decide ((0:Int)≤bW))=true then
  if 0≤(R (bW+a3))∧(R (bW+a3))<(eD:Nat) then
  an[(0+(R (bW+a3)).toNat)]? >>= fun aB =>
  if 0≤(R ((R (bW+a3))-(1:Int)))∧(R ((R (bW+a3))-(1:Int)))<(eD:Nat) then
  an[(0+(R ((R (bW+a3))-(1:Int))).toNat)]? >>= fun cu =>
  if 0≤(R (a3-(1:Int)))∧(R (a3-(1:Int)))<(ga:Nat) then
  aC[(0+(R (a3-(1:Int))).toNat)]? >>= fun dl =>
  if dl≠0 then
  Ks eD ga a3 bW ab an aC al (R ((R ((R (aB*(1000000000:Int)))+cu)).tdiv dl)) ((R ((R (aB*(1000000000:Int)))+cu)).tmod dl) >>= fun el =>
  if 0≤bW then
  if bW.toNat≤eD then
  if 0+ga≤aC.length then
  AH ((aC.drop 0).take ga) el (0+bW.toNat) (eD-bW.toNat) an >>= fun gb =>
  if gb.1=true then
   x9 ((aC.drop 0).take ga) (0+bW.toNat) (eD-bW.toNat) gb.2 >>= fun iq =>
   if 0≤bW∧bW<(al.length:Nat) then
   if (0+bW.toNat)<al.length then
   some (.inl (R (bW-(1:Int)),iq,al.set (0+bW.toNat) (R (el-(1:Int)))))
   else none
   else none
  else
   if 0≤bW∧bW<(al.length:Nat) then
   if (0+bW.toNat)<al.length then
   some (.inl (R (bW-(1:Int)),gb.2,al.set (0+bW.toNat) el))
   else none
   else none
  else none
  else none
  else none
  else none
  else none
  else none
  else none
 else
  some (.inr (an,al))
def Kt (eD ga:Nat)(a3:Int)(ab aC:List Int)(bW:Int)(an al:List Int):Option ((List Int)×(List Int)):=iter (fun w:Int×(List Int)×(List Int)=>uz eD ga a3 ab aC w.1 w.2.1 w.2.2) (bW,an,al)
theorem WO {eD ga:Nat}{a3:Int}{ab aC:List Int}{bW:Int}{an al:List Int}:bB (uz eD ga a3 ab aC bW an al) (dL a5 172 0 131 [1,1,1,1,1,1,1,1,0,1,0,0] (Jv eD ga a3 ab aC (bW,an,al)) (Jv eD ga a3 ab aC) (JJ eD ga a3 ab aC)):=by
 unfold uz
 exact .ite (fun h1 =>
  .aY fun o =>
  .ar fun aB au =>
  .aY fun aA =>
  .ar fun cu bm =>
  .aY fun bn =>
  .ar fun dl cQ =>
  .aY fun fm =>
  .ar fun el eS =>
  .aY fun eJ =>
  .aY fun fJ =>
  .aY fun ha =>
  .ar fun gb hy =>
  (let t1:List b3:=[(J 2),.aa true,.aw (ah 5 (ai (.b5 (eI aB)) (bo 7 (.b5 (eI cu)) 2))),.aw (ah 5 (ai (.b5 (eI dl)) (bo 6 (.b5 (eI dl)) 3))),.aP [0,1,2,3] [.pure,.pure,.pure,.pure] (a8 [8,9,10,11,12,13,15,16]),(JI eD ga a3 bW ab an aC al el).e6,.aw (ah 5 (ai (.call {a2:=[.row 1],da:=[.pure],ac:=[ii,.bs (.c9 (.dF (((aC.drop 0).take ga).map eI))),ii],r:= .b gb.1,eV:=[(av 1 eI gb.2)],gr:=ii,hD:=[.pure],eN:=[1,2],er:=false}) []))];
  have aT:=((.bi h1 o.1 o.2 (b2 eI au) aA.1 aA.2 (b2 eI bm) bn.1 (.bi bn.2 (b2 eI cQ) fm bn.1 bn.2 (b2 eI cQ) fm (aI 1 .live aN ab) (.bi (aI 1 .live aN an) (aI 1 .i9 aN aC) (aI 1 .live aN al) (Yv eS) eJ fJ (Nat.le_refl eD) (AZ (cR eI aC) 0 ga) (.dg (qc (cR eI aC) ha) (dd aN ((aC.drop 0).take ga)) (f8 1 aN an) (f8 1 aN gb.2) (YL gb hy))))):cA _);
  .ite (fun gq =>
  .ar fun iq gJ =>
  .aY fun ib =>
  .aY fun na =>
  .ret (let q1:=(R (el-(1:Int)));bg (t1.append [.aa true,(J 3),.aw (ah 4 (ai (.call {a2:=[.row 1],da:=[.pure],ac:=[ii,.bs (.c9 (.dF (((aC.drop 0).take ga).map eI)))],r:= .ea [],eV:=[(av 1 eI iq)],gr:=ii,hD:=[.pure],eN:=[1,2],er:=false}) [])),.aw (ah 4 (ai .fX [])),(J 3),.aP [0,1,2,3] [.pure,.pure,.pure,.cE (av 1 eI (al.set (0+bW.toNat) q1))] [(8,ii),(9,ii),(10,ii),(11,ii),(12,fU ((al.set (0+bW.toNat) q1).length)),(13,ii)]]) (aT.aH (.bi gq eJ fJ (Nat.le_refl eD) (AZ (cR eI aC) 0 ga) (qc (cR eI aC) ha) (dd aN ((aC.drop 0).take ga)) (f8 1 aN gb.2) (.bi (f8 1 aN iq) (YM iq gJ) ib.1 ib.2 (hQ eI na) (hJ 1) (aI 1 .live aN ab) (aI 1 .live aN iq) (.c3 (aI 1 .i9 aN aC) (cZ 1 .live (gM (cR eI al) (0+bW.toNat) q1)) (aI 1 .live aN (al.set (0+bW.toNat) q1)) (hg (dQ al) (0+bW.toNat) q1)))))))
  (fun gq =>
  .aY fun ft =>
  .aY fun gJ =>
  .ret (bg (t1.append [.aa false,.aw (ah 4 (ai .fX [])),(J 3),.aP [0,1,2,3] [.pure,.pure,.pure,.cE (av 1 eI (al.set (0+bW.toNat) el))] [(8,ii),(9,ii),(10,ii),(11,ii),(12,fU ((al.set (0+bW.toNat) el).length)),(13,ii)]]) (aT.aH (.bi gq ft.1 ft.2 (hQ eI gJ) (hJ 1) (aI 1 .live aN ab) (aI 1 .live aN gb.2) (aI 1 .i9 aN aC) (.bP (cZ 1 .live (gM (cR eI al) (0+bW.toNat) el)) (aI 1 .live aN (al.set (0+bW.toNat) el)) (hg (dQ al) (0+bW.toNat) el))))))))
  (fun h1 =>
  .ret (bg [(J 2),.aa false,.aP [0,1,3] [.pure,.pure,.pure] (a8 [8,9,12])] (.c3 h1 (aI 1 .live aN ab) (aI 1 .live aN an) (aI 1 .live aN al))))
theorem Yw {eD ga:Nat}{a3:Int}{ab aC:List Int}{bW:Int}{an al:List Int}{r} (h:Kt eD ga a3 ab aC bW an al=some r):dM a5 172 0 131 [1,1,1,1,1,1,1,1,0,1,0,0] (Jv eD ga a3 ab aC) (JJ eD ga a3 ab aC) (bW,an,al) r:=dO (fun _=>WO) h
def yg (ag aF:List Int):Option ((List Int)×(List Int)) :=
 qF ag aF >>= fun r1 =>
 if (decide (r1<(0:Int)))=true then
  A8 ag >>= fun ba =>
  some (([]:List Int),ba)
 else
  if ((len_ eI aF) == (1:Int))=true then
   if 0≤(0:Int)∧(0:Int)<aF.length then
   aF[0]? >>= fun cu =>
   xW ag cu >>= fun c2 =>
   uK (IntKind.wrap .u64 c2.2) >>= fun et =>
   some (c2.1,et)
   else none
  else
   if 0≤(R ((len_ eI aF)-(1:Int)))∧(R ((len_ eI aF)-(1:Int)))<aF.length then
   aF[(R ((len_ eI aF)-(1:Int))).toNat]? >>= fun cu =>
   if (R (cu+(1:Int)))≠0 then
   x5 ag ([R ((1000000000:Int).tdiv (R (cu+(1:Int))))]:List Int) >>= fun cg =>
   if cg.1≤cg.2.length then
   if (cg.2.take cg.1++([0]:List Int)).length*8≤140737488355328 then
   x5 aF ([R ((1000000000:Int).tdiv (R (cu+(1:Int))))]:List Int) >>= fun eK =>
   DW ag eK.1 ([R ((1000000000:Int).tdiv (R (cu+(1:Int))))]:List Int) eK.2 (cg.2.take cg.1++([0]:List Int)) >>= fun gK =>
   if 0≤(R (((gK.length:Nat):Int)-((eK.1:Nat):Int)))∧(8:Int)*(R (((gK.length:Nat):Int)-((eK.1:Nat):Int)))≤281474976710656∧(R (((gK.length:Nat):Int)-((eK.1:Nat):Int)))<9223372036854775808 then
   Kt gK.length eK.1 ((eK.1:Nat):Int) ([R ((1000000000:Int).tdiv (R (cu+(1:Int))))]:List Int) eK.2 (R ((R (((gK.length:Nat):Int)-((eK.1:Nat):Int)))-(1:Int))) gK (List.replicate (R (((gK.length:Nat):Int)-((eK.1:Nat):Int))).toNat 0:List Int) >>= fun fi =>
   if 0+gK.length≤fi.1.length then
   qa ((fi.1.drop 0).take gK.length) >>= fun n4 =>
   if 0≤(0:Int)∧(0:Int)<(([R ((1000000000:Int).tdiv (R (cu+(1:Int))))]:List Int).length:Nat) then
   ([R ((1000000000:Int).tdiv (R (cu+(1:Int))))]:List Int)[0]? >>= fun sQ =>
   xW n4 sQ >>= fun n5 =>
   qa fi.2 >>= fun mJ =>
   some (mJ,n5.1)
   else none
   else none
   else none
   else none
   else none
   else none
   else none
theorem Zk {ag aF:List Int}:bB (yg ag aF) (fun r=>Con a5 131 [.isl 1 (ag.map eI),.isl 1 (aF.map eI)] [] (.ea [.isl 1 (r.1.map eI),.isl 1 (r.2.map eI)]) []):=by
 unfold yg
 exact .ar fun r1 o =>
  (let t1:List b3:=[(J 2),.aw (bo 2 (bw 2 (.n .i64 r1) true) 1)];
  have aT:=((.aE (DF r1 o) (bX.n .i64 r1)):cA _);
  .ite (fun af =>
  .ar fun ba aA =>
  .ret (bz (t1.append [.aa true,.aw (bo 1 (bw 1 (.isl 1 (ba.map eI)) false) 2)]) (aT.aH (.aE af (aab ba aA))) (.comp [.c9 (.iF 1),.c9 .id])))
  (fun af =>
  .ite (fun au =>
  .aY fun aA =>
  .ar fun cu bm =>
  .ar fun c2 cx =>
  .ar fun et fm =>
  .ret (bz (t1.append [.aa false,(J 3),.aa true,.aw (ah 3 (ai (.b5 (eI cu)) (ai (bw 2 (.ea [.isl 1 (c2.1.map eI),.n .i64 c2.2]) false) (ah 5 [])))),.aw (bo 3 (bw 1 (.isl 1 (et.map eI)) false) 2)]) (aT.aH (.eB af au aA.1 (cW eI aA.2) (b2 eI bm) (Ow c2 cx) (JV et fm)))))
  (fun au =>
  .aY fun aA =>
  .ar fun cu bm =>
  .aY fun bn =>
  .ar fun cg cQ =>
  .aY fun fm =>
  .aY fun eH =>
  .ar fun eK eJ =>
  .ar fun gK ha =>
  .aY fun hN =>
  .ar fun fi gq =>
  .aY fun ft =>
  .ar fun n4 ib =>
  .aY fun na =>
  .ar fun sQ pR =>
  .ar fun n5 sP =>
  .ar fun mJ ks =>
  .ret (let q1:=(R ((1000000000:Int).tdiv (R (cu+(1:Int)))));let a6:=(R (((gK.length:Nat):Int)-((eK.1:Nat):Int)));let bY:=(cg.2.take cg.1++([0]:List Int));let cz:=(List.replicate a6.toNat 0:List Int);let dj:=(aI 1 .live aN ([q1]:List Int));bz (t1.append [.aa false,(J 3),.aa false,.aw (bo 5 (.b5 (eI cu)) 4),.aw (ah 2 (ai (.call {a2:=[],da:=[],ac:=[ii,.bs (.c9 (.dF (([q1]:List Int).map eI)))],r:= .bf 0 0 0 cg.1,eV:=[(av 1 eI cg.2)],gr:=ii,hD:=[.pure],eN:=[17],er:=true}) (ah 1 (ai (.aH (bY.length)) (bo 2 (.call {a2:=[],da:=[],ac:=[ii,.bs (.c9 (.dF (([q1]:List Int).map eI)))],r:= .bf 0 0 0 eK.1,eV:=[(av 1 eI eK.2)],gr:=ii,hD:=[.pure],eN:=[17],er:=true}) 2))))),.aP [17,23,26] [.cE (av 1 eI ([q1]:List Int)),.cE (av 1 eI bY),.pure] [(0,ii),(8,fU (([q1]:List Int).length)),(9,ii),(10,ii)],(JH ag eK.1 ([q1]:List Int) eK.2 gK).e6,(J 3),(J 6),(J 6),.aP [0,1,2,10] [.pure,.pure,.pure,.cE (av 1 eI cz)] [(8,ii),(9,ii),(10,ii),(11,ii),(12,fU (cz.length)),(13,ii)],.i9 2,.aP [0,1,2,3] [.pure,.pure,.pure,.pure] (a8 [8,9,10,11,12,13]),(JJ gK.length eK.1 ((eK.1:Nat):Int) ([q1]:List Int) eK.2 fi).e6,.i9 1,.aw (ah 1 (ai (.call {ac:=[.bs (.c9 (.dF (((fi.1.drop 0).take gK.length).map eI)))],r:= .isl 1 (n4.map eI),er:=false,eN:=[1]}) (ah 2 (ai (.b5 (eI sQ)) (ai (bw 2 (.ea [.isl 1 (n5.1.map eI),.n .i64 n5.2]) false) (ah 5 [])))))),.i9 2,.aw (bo 1 (.call {ac:=[.bs (.c9 (.dF (fi.2.map eI)))],r:= .isl 1 (mJ.map eI),er:=false,eN:=[2]}) 3)]) (aT.aH (.bi af au aA.1 (cW eI aA.2) (b2 eI bm) bn (k4 (show [[.n .i64 (R ((1000000000:Int).tdiv (R (cu+(1:Int)))))]]=(([(R ((1000000000:Int).tdiv (R (cu+(1:Int)))))]:List Int)).map eI from rfl) (show 1=([(R ((1000000000:Int).tdiv (R (cu+(1:Int)))))]:List Int).length from rfl)) (gC eI q1) (.bi (dd aN ([q1]:List Int)) (f8 1 aN cg.2) (OJ cg cQ) (bX.bf 0 0 0 cg.1) ((nl (lk (k7 rM) nr) nq):lN [(av 1 eI cg.2)]) (gC eI 0) (qc (cR eI cg.2) fm) (aeM eI fm 0) (.bi eH (k4 (show [[.n .i64 (R ((1000000000:Int).tdiv (R (cu+(1:Int)))))]]=(([(R ((1000000000:Int).tdiv (R (cu+(1:Int)))))]:List Int)).map eI from rfl) (show 1=([(R ((1000000000:Int).tdiv (R (cu+(1:Int)))))]:List Int).length from rfl)) (gC eI q1) (dd aN ([q1]:List Int)) (f8 1 aN eK.2) (OJ eK eJ) (bX.bf 0 0 0 eK.1) ((nl (lk (k7 rM) nr) nq):lN [(av 1 eI eK.2)]) (.bi (cZ 1 .live (show [[.n .i64 (R ((1000000000:Int).tdiv (R (cu+(1:Int)))))]]=(([(R ((1000000000:Int).tdiv (R (cu+(1:Int)))))]:List Int)).map eI from rfl)) dj (cZ 1 .live (K0 (cR eI cg.2) cg.1 (wc eI 0))) (aI 1 .live aN bY) (aI 1 .live aN eK.2) (show 1=([(R ((1000000000:Int).tdiv (R (cu+(1:Int)))))]:List Int).length from rfl) (Yu ha) hN.1 (.bi (Int.le_refl a6) hN.2.1 hN.2.2 dj (aI 1 .live aN gK) (aI 1 .live aN eK.2) (cZ 1 .live (lU eI a6.toNat 0)) (aI 1 .live aN cz) (.bi (me a6.toNat (0:Int)) dj (aI 1 .live aN gK) (aI 1 .i9 aN eK.2) (aI 1 .live aN cz) (Yw gq) (AZ (cR eI fi.1) 0 gK.length) (qc (cR eI fi.1) ft) (.bi (dd aN ((fi.1.drop 0).take gK.length)) (uL n4 ib) na.1 na.2 (b2 eI pR) (Ow n5 sP) (fv eI fi.2) (fb eI fi.2) (.aE (dd aN fi.2) (uL mJ ks))))))))))))))
def tb (di eE:bt):Option bt :=
 yg di.cJ eE.cJ >>= fun r1 =>
 ni (!(di.cS == eE.cS)) r1.1 >>= fun bl =>
 some bl
theorem Hr {di eE:bt}:bB (tb di eE) (fun r=>Con a5 114 [.agg (aZ di),.agg (aZ eE)] [] (.agg (aZ r)) []):=by
 unfold tb
 exact .ar fun r1 o =>
  .ar fun bl au =>
  .ret (bz [(J 3),.aw (bo 4 (bw 2 (.ea [.isl 1 (r1.1.map eI),.isl 1 (r1.2.map eI)]) false) 5),.aw (bo 6 (bw 2 (.agg (aZ bl)) false) 1)] (.aE (Zk r1 o) (td bl au)))
def Gj (b1 aO:Int)(gS j3:bD)(jM jl jL:Int)(aK:Bool)(aJ:List Int)(bx:Int)(an:List bD)(al:List Int)(aL:List Bool)(jA:Bool)(jx:List Int)(ot:Bool)(oj:List Int):(Int×(List (List bt)))→S:=fun (ff,bb)=>dr [(0,.ref 0 0 0 0),(1,.n .i64 b1),(2,.n .i64 aO),(6,lQ 2 0 2 gS),(7,.ref 5 0 0 0),(9,lQ 2 0 2 j3),(10,.ref 6 0 0 0),(30,.bf 1 0 0 an.length),(31,.n .i64 jM),(32,.n .i64 jl),(45,.n .i64 jL),(46,.n .i64 ff)] [[ae.mk 6 [(fV 1 0 0 an.length aK aJ 3 0 0 al.length bx 4 0 0 aL.length)] .live],(av 1 (bp 2 0 2) an),(cf 2 aZ bb),(av 1 eI al),(av 1 eu aL),[ae.mk 2 [[.b jA,.isl 1 (jx.map eI)]] .live],[ae.mk 2 [[.b ot,.isl 1 (oj.map eI)]] .live]]
def Gs (b1 aO:Int)(gS j3:bD)(jM jl jL:Int)(aK:Bool)(aJ:List Int)(bx:Int)(an:List bD)(al:List Int)(aL:List Bool)(jA:Bool)(jx:List Int)(ot:Bool)(oj:List Int):(List (List bt))→dy
 | a=>⟨some 2,[(0,.ref 0 0 0 0),(1,.n .i64 b1),(2,.n .i64 aO),(6,lQ 2 0 2 gS),(7,.ref 5 0 0 0),(30,.bf 1 0 0 an.length),(31,.n .i64 jM),(32,.n .i64 jl)],[[ae.mk 6 [(fV 1 0 0 an.length aK aJ 3 0 0 al.length bx 4 0 0 aL.length)] .live],(av 1 (bp 2 0 2) an),(cf 2 aZ a),(av 1 eI al),(av 1 eu aL),[ae.mk 2 [[.b jA,.isl 1 (jx.map eI)]] .live]]⟩
def wH (b1 aO:Int)(gS j3:bD)(jM jl jL:Int)(aK:Bool)(aJ:List Int)(bx:Int)(an:List bD)(al:List Int)(aL:List Bool)(jA:Bool)(jx:List Int)(ot:Bool)(oj:List Int)(ff:Int)(bb:List (List bt)):Option ((Int×(List (List bt)))⊕((List (List bt)))) :=
 if (decide (ff<jL))=true then
  j3 >>= fun hc =>
  bb[hc.1]? >>= fun kc =>
  if 0≤ff∧ff<(hc.2:Nat) then
  kc[(0+ff.toNat)]? >>= fun c7 =>
  pv c7 (⟨jA,jx⟩:bt) >>= fun cg =>
  pc (⟨ot,oj⟩:bt) >>= fun dh =>
  if (dh != (0:Int))=true then
   gS >>= fun vR =>
   bb[vR.1]? >>= fun zo =>
   if 0≤ff∧ff<(vR.2:Nat) then
   zo[(0+ff.toNat)]? >>= fun rm =>
   pc rm >>= fun n4 =>
   if (n4 != (0:Int))=true then
    pv (⟨ot,oj⟩:bt) rm >>= fun pT =>
    ux cg pT >>= fun n5 =>
    tb n5 (⟨aK,aJ⟩:bt) >>= fun mJ =>
    some (.inl (R (ff+(1:Int)),bb.set hc.1 (kc.set (0+ff.toNat) mJ)))
   else
    tb cg (⟨aK,aJ⟩:bt) >>= fun pT =>
    some (.inl (R (ff+(1:Int)),bb.set hc.1 (kc.set (0+ff.toNat) pT)))
   else none
  else
   tb cg (⟨aK,aJ⟩:bt) >>= fun fo =>
   some (.inl (R (ff+(1:Int)),bb.set hc.1 (kc.set (0+ff.toNat) fo)))
  else none
 else
  some (.inr bb)
def Df (b1 aO:Int)(gS j3:bD)(jM jl jL:Int)(aK:Bool)(aJ:List Int)(bx:Int)(an:List bD)(al:List Int)(aL:List Bool)(jA:Bool)(jx:List Int)(ot:Bool)(oj:List Int)(ff:Int)(bb:List (List bt)):Option ((List (List bt))):=iter (fun w:Int×(List (List bt))=>wH b1 aO gS j3 jM jl jL aK aJ bx an al aL jA jx ot oj w.1 w.2) (ff,bb)
theorem Ut {b1 aO:Int}{gS j3:bD}{jM jl jL:Int}{aK:Bool}{aJ:List Int}{bx:Int}{an:List bD}{al:List Int}{aL:List Bool}{jA:Bool}{jx:List Int}{ot:Bool}{oj:List Int}{ff:Int}{bb:List (List bt)}:bB (wH b1 aO gS j3 jM jl jL aK aJ bx an al aL jA jx ot oj ff bb) (dL a5 128 5 98 [1,1,0,1,0,0,1,1,0,0,1,1,1,1,0,0] (Gj b1 aO gS j3 jM jl jL aK aJ bx an al aL jA jx ot oj (ff,bb)) (Gj b1 aO gS j3 jM jl jL aK aJ bx an al aL jA jx ot oj) (Gs b1 aO gS j3 jM jl jL aK aJ bx an al aL jA jx ot oj)):=by
 unfold wH
 exact .ite (fun h1 =>
  .ar fun hc af =>
  .ar fun kc aA =>
  .aY fun a0 =>
  .ar fun c7 bn =>
  .ar fun cg cQ =>
  .ar fun dh eH =>
  (let lO:=ke (gl .live 2 aZ bb) jr aA;let t1:List b3:=[(J 1),.aa true,(J 2),.aw (ah 2 (ai (.kw 49 (.bf 2 (hc.1+0) 0 hc.2) (.gm (ae.mk 2 (kc.map aZ) .live) [])) (ai (.gm (ae.mk 2 (kc.map aZ) .live) (aZ c7)) (bo 1 (bw 2 (.agg (aZ cg)) false) 2))))];
  have aT:=((.bi h1 (mf (d5:=2) (c:=0) (sz:=2) af) lO a0.1 a0.2 lO (b2 aZ bn) (xm cg cQ) (.aE (ta dh eH) (bX.n .i64 dh))):cA _);
  .ite (fun eS =>
  .ar fun vR fJ =>
  .ar fun zo hN =>
  .aY fun hy =>
  .ar fun rm ft =>
  .ar fun n4 ib =>
  (let js:=ke (gl .live 2 aZ bb) jr hN;let t3:List b3:=t1.append [.aw (ah 1 (ai (bw 1 (.n .i64 dh) true) (ah 4 (ai (.kw 59 (.bf 2 (vR.1+0) 0 vR.2) (.gm (ae.mk 2 (zo.map aZ) .live) [])) (ai (.gm (ae.mk 2 (zo.map aZ) .live) (aZ rm)) (ai (bw 1 (.n .i64 n4) true) (ah 1 (ai (.aa true) []))))))))];
  have e3:=aT.aH (.bi eS eS eS (mf (d5:=2) (c:=0) (sz:=2) fJ) js hy.1 hy.2 eS (.eB js (b2 aZ ft) eS (ta n4 ib) (bX.n .i64 n4) eS eS));
  .ite (fun na =>
  .ar fun pT pR =>
  .ar fun n5 sP =>
  .ar fun mJ ks =>
  .ret (let q1:=ke (gl .live 2 aZ bb) jr hN;let a6:=ke (gl .live 2 aZ bb) jr aA;let bY:=bZ [0,1,2,3,4,5,6];bg (t3.append [.aa true,.aw (ah 4 (ai (.kw 68 (.bf 2 (vR.1+0) 0 vR.2) (.gm (ae.mk 2 (zo.map aZ) .live) [])) (ai (.gm (ae.mk 2 (zo.map aZ) .live) (aZ rm)) (ai (bw 2 (.agg (aZ pT)) false) (ai (bw 2 (.agg (aZ n5)) false) (ah 1 [])))))),.aw (ah 7 (ai (bw 2 (.agg (aZ mJ)) false) (ai (.kw 74 (.bf 2 (hc.1+0) 0 hc.2) (.gm (ae.mk 2 (kc.map aZ) .live) [])) (ai (.gm (ae.mk 2 (kc.map aZ) .live) (aZ c7)) [])))),(J 2),.aP [0,1,2,3,4,5,6] [.box [.id,.id,.id,.id,.id,.id],.bK (av 1 (bp 2 0 2) an),.bK (cf 2 aZ (bb.set hc.1 (kc.set (0+ff.toNat) mJ))),.pure,.pure,.box [.id,.id],.box [.id,.id]] (a8 [0,1,2,6,7,9,10,30,31,32,45,46])]) (e3.aH (.bi na (mf (d5:=2) (c:=0) (sz:=2) fJ) q1 hy.1 hy.2 q1 (b2 aZ ft) (xm pT pR) (.bi (NY n5 sP) (Hr mJ ks) (mf (d5:=2) (c:=0) (sz:=2) af) a6 a0.1 a0.2 a6 (b2 aZ bn) (.c3 (eF bY 2 2 0 2 rfl an) (np (cd:=bY) (ph (gl .live 2 aZ bb) hc.1 (nk (cR aZ kc) (0+ff.toNat) mJ (rfl:(setCells (aZ c7) 0 (aZ mJ))=aZ mJ))) (mB fj)) (aI 1 .live aN al) (aI 1 .live e7 aL)))))))
  (fun na =>
  .ar fun pT pR =>
  .ret (let cz:=ke (gl .live 2 aZ bb) jr aA;let dj:=bZ [0,1,2,3,4,5,6];bg (t3.append [.aa false,.aw (ah 7 (ai (bw 2 (.agg (aZ pT)) false) (ai (.kw 74 (.bf 2 (hc.1+0) 0 hc.2) (.gm (ae.mk 2 (kc.map aZ) .live) [])) (ai (.gm (ae.mk 2 (kc.map aZ) .live) (aZ c7)) [])))),(J 2),.aP [0,1,2,3,4,5,6] [.box [.id,.id,.id,.id,.id,.id],.bK (av 1 (bp 2 0 2) an),.bK (cf 2 aZ (bb.set hc.1 (kc.set (0+ff.toNat) pT))),.pure,.pure,.box [.id,.id],.box [.id,.id]] (a8 [0,1,2,6,7,9,10,30,31,32,45,46])]) (e3.aH (.bi na (Hr pT pR) (mf (d5:=2) (c:=0) (sz:=2) af) cz a0.1 a0.2 cz (b2 aZ bn) (.c3 (eF dj 2 2 0 2 rfl an) (np (cd:=dj) (ph (gl .live 2 aZ bb) hc.1 (nk (cR aZ kc) (0+ff.toNat) pT (rfl:(setCells (aZ c7) 0 (aZ pT))=aZ pT))) (mB fj)) (aI 1 .live aN al) (aI 1 .live e7 aL))))))))
  (fun eS =>
  .ar fun fo fJ =>
  .ret (let f6:=ke (gl .live 2 aZ bb) jr aA;let h4:=bZ [0,1,2,3,4,5,6];bg (t1.append [.aw (ah 1 (ai (bw 1 (.n .i64 dh) true) (ah 2 (cw 6 (ai (.aa false) []))))),.aa false,.aw (ah 7 (ai (bw 2 (.agg (aZ fo)) false) (ai (.kw 74 (.bf 2 (hc.1+0) 0 hc.2) (.gm (ae.mk 2 (kc.map aZ) .live) [])) (ai (.gm (ae.mk 2 (kc.map aZ) .live) (aZ c7)) [])))),(J 2),.aP [0,1,2,3,4,5,6] [.box [.id,.id,.id,.id,.id,.id],.bK (av 1 (bp 2 0 2) an),.bK (cf 2 aZ (bb.set hc.1 (kc.set (0+ff.toNat) fo))),.pure,.pure,.box [.id,.id],.box [.id,.id]] (a8 [0,1,2,6,7,9,10,30,31,32,45,46])]) (aT.aH (.bi eS eS eS eS eS eS eS cU (.bi (Hr fo fJ) (mf (d5:=2) (c:=0) (sz:=2) af) f6 a0.1 a0.2 f6 (b2 aZ bn) (eF h4 2 2 0 2 rfl an) (.bP (np (cd:=h4) (ph (gl .live 2 aZ bb) hc.1 (nk (cR aZ kc) (0+ff.toNat) fo (rfl:(setCells (aZ c7) 0 (aZ fo))=aZ fo))) (mB fj)) (aI 1 .live aN al) (aI 1 .live e7 aL)))))))))
  (fun h1 =>
  .ret (let fw:=bZ [0,1,2,3,4,5];bg [(J 1),.aa false,.aP [0,1,2,3,4,5] [.box [.id,.id,.id,.id,.id,.id],.bK (av 1 (bp 2 0 2) an),.bK (cf 2 aZ bb),.pure,.pure,.box [.id,.id]] (a8 [0,1,2,6,7,30,31,32])] (.dg h1 (eF fw 2 2 0 2 rfl an) (dR fw 2 fj bb) (aI 1 .live aN al) (aI 1 .live e7 aL))))
theorem U9 {b1 aO:Int}{gS j3:bD}{jM jl jL:Int}{aK:Bool}{aJ:List Int}{bx:Int}{an:List bD}{al:List Int}{aL:List Bool}{jA:Bool}{jx:List Int}{ot:Bool}{oj:List Int}{ff:Int}{bb:List (List bt)}{r} (h:Df b1 aO gS j3 jM jl jL aK aJ bx an al aL jA jx ot oj ff bb=some r):dM a5 128 5 98 [1,1,0,1,0,0,1,1,0,0,1,1,1,1,0,0] (Gj b1 aO gS j3 jM jl jL aK aJ bx an al aL jA jx ot oj) (Gs b1 aO gS j3 jM jl jL aK aJ bx an al aL jA jx ot oj) (ff,bb) r:=dO (fun _=>Ut) h
def Gk (b1 aO:Int)(gS:bD)(jM:Int)(aK:Bool)(aJ:List Int)(bx:Int)(an:List bD)(al:List Int)(aL:List Bool)(jA:Bool)(jx:List Int):(Int×(List (List bt)))→S:=fun (jl,bb)=>dr [(0,.ref 0 0 0 0),(1,.n .i64 b1),(2,.n .i64 aO),(6,lQ 2 0 2 gS),(7,.ref 5 0 0 0),(30,.bf 1 0 0 an.length),(31,.n .i64 jM),(32,.n .i64 jl)] [[ae.mk 6 [(fV 1 0 0 an.length aK aJ 3 0 0 al.length bx 4 0 0 aL.length)] .live],(av 1 (bp 2 0 2) an),(cf 2 aZ bb),(av 1 eI al),(av 1 eu aL),[ae.mk 2 [[.b jA,.isl 1 (jx.map eI)]] .live]]
def Gt (b1 aO:Int)(gS:bD)(jM:Int)(aK:Bool)(aJ:List Int)(bx:Int)(an:List bD)(al:List Int)(aL:List Bool)(jA:Bool)(jx:List Int):(List (List bt))→dy
 | a=>⟨some 0,[(0,.ref 0 0 0 0),(1,.n .i64 b1),(2,.n .i64 aO),(7,.ref 5 0 0 0)],[[ae.mk 6 [(fV 1 0 0 an.length aK aJ 3 0 0 al.length bx 4 0 0 aL.length)] .live],(av 1 (bp 2 0 2) an),(cf 2 aZ a),(av 1 eI al),(av 1 eu aL),[ae.mk 2 [[.b jA,.isl 1 (jx.map eI)]] .live]]⟩
def wI (b1 aO:Int)(gS:bD)(jM:Int)(aK:Bool)(aJ:List Int)(bx:Int)(an:List bD)(al:List Int)(aL:List Bool)(jA:Bool)(jx:List Int)(jl:Int)(bb:List (List bt)):Option ((Int×(List (List bt)))⊕((List (List bt)))) :=
 if (decide (jl<jM))=true then
  if 0≤jl∧jl<(an.length:Nat) then
  an[(0+jl.toNat)]? >>= fun aB =>
  if (jl == b1)=true then
   some (.inl (R (jl+(1:Int)),bb))
  else
   aB >>= fun s5 =>
   bb[s5.1]? >>= fun CW =>
   if 0≤aO∧aO<(s5.2:Nat) then
   CW[(0+aO.toNat)]? >>= fun iD =>
   Df b1 aO gS aB jM jl ((s5.2:Nat):Int) aK aJ bx an al aL jA jx iD.cS iD.cJ 0 bb >>= fun eK =>
   some (.inl (R (jl+(1:Int)),eK))
   else none
  else none
 else
  some (.inr bb)
def Dg (b1 aO:Int)(gS:bD)(jM:Int)(aK:Bool)(aJ:List Int)(bx:Int)(an:List bD)(al:List Int)(aL:List Bool)(jA:Bool)(jx:List Int)(jl:Int)(bb:List (List bt)):Option ((List (List bt))):=iter (fun w:Int×(List (List bt))=>wI b1 aO gS jM aK aJ bx an al aL jA jx w.1 w.2) (jl,bb)
theorem Uu {b1 aO:Int}{gS:bD}{jM:Int}{aK:Bool}{aJ:List Int}{bx:Int}{an:List bD}{al:List Int}{aL:List Bool}{jA:Bool}{jx:List Int}{jl:Int}{bb:List (List bt)}:bB (wI b1 aO gS jM aK aJ bx an al aL jA jx jl bb) (dL a5 128 5 98 [1,1,0,1,0,0] (Gk b1 aO gS jM aK aJ bx an al aL jA jx (jl,bb)) (Gk b1 aO gS jM aK aJ bx an al aL jA jx) (Gt b1 aO gS jM aK aJ bx an al aL jA jx)):=by
 unfold wI
 exact .ite (fun h1 =>
  .aY fun o =>
  .ar fun aB au =>
  (let t1:List b3:=[(J 1),.aa true,.aw (bo 2 (.b5 ((bp 2 0 2) aB)) 2),(J 3)];
  have aT:=((.c3 h1 o.1 o.2 (b2 (bp 2 0 2) au)):cA _);
  .ite (fun aA =>
  .ret (let q1:=bZ [0,1,2,3,4,5];bg (t1.append [.aa true,(J 2),.aP [0,1,2,3,4,5] [.box [.id,.id,.id,.id,.id,.id],.bK (av 1 (bp 2 0 2) an),.bK (cf 2 aZ bb),.pure,.pure,.box [.id,.id]] (a8 [0,1,2,6,7,30,31,32])]) (aT.aH (.dg aA (eF q1 2 2 0 2 rfl an) (dR q1 2 fj bb) (aI 1 .live aN al) (aI 1 .live e7 aL)))))
  (fun aA =>
  .ar fun s5 bm =>
  .ar fun CW cx =>
  .aY fun cQ =>
  .ar fun iD eH =>
  .ar fun eK eJ =>
  .ret (let a6:=ke (gl .live 2 aZ bb) jr cx;let bY:=bZ [0,1,2,3,4,5,19];let cz:=bZ [0,1,2,3,4,5];bg (t1.append [.aa false,.aw (ah 2 (ai (.kw 40 (.bf 2 (s5.1+0) 0 s5.2) (.gm (ae.mk 2 (CW.map aZ) .live) [])) (ai (.gm (ae.mk 2 (CW.map aZ) .live) (aZ iD)) (ah 2 [])))),.aw (bo 1 (.kw 44 (.bf 2 (s5.1+0) 0 s5.2) (.gm (ae.mk 2 (CW.map aZ) .live) [])) 1),.aP [0,1,2,3,4,5,19] [.box [.id,.id,.id,.id,.id,.id],.bK (av 1 (bp 2 0 2) an),.bK (cf 2 aZ bb),.pure,.pure,.box [.id,.id],.box [.id,.id]] (a8 [0,1,2,6,7,9,10,30,31,32,45,46]),(Gs b1 aO gS aB jM jl ((s5.2:Nat):Int) aK aJ bx an al aL jA jx iD.cS iD.cJ eK).e6,(J 2),.aP [0,1,2,3,4,5] [.box [.id,.id,.id,.id,.id,.id],.bK (av 1 (bp 2 0 2) an),.bK (cf 2 aZ eK),.pure,.pure,.box [.id,.id]] (a8 [0,1,2,6,7,30,31,32])]) (aT.aH (.bi aA (mf (d5:=2) (c:=0) (sz:=2) bm) a6 cQ.1 cQ.2 a6 (b2 aZ eH) (mf (d5:=2) (c:=0) (sz:=2) bm) (.bi a6 (eF bY 2 2 0 2 rfl an) (dR bY 2 fj bb) (aI 1 .live aN al) (aI 1 .live e7 aL) (U9 eJ) (eF cz 2 2 0 2 rfl an) (dR cz 2 fj eK) (.aE (aI 1 .live aN al) (aI 1 .live e7 aL)))))))))
  (fun h1 =>
  .ret (let dj:=bZ [0,1,2,3,4,5];bg [(J 1),.aa false,.aP [0,1,2,3,4,5] [.box [.id,.id,.id,.id,.id,.id],.bK (av 1 (bp 2 0 2) an),.bK (cf 2 aZ bb),.pure,.pure,.box [.id,.id]] (a8 [0,1,2,7])] (.dg h1 (eF dj 2 2 0 2 rfl an) (dR dj 2 fj bb) (aI 1 .live aN al) (aI 1 .live e7 aL))))
theorem Va {b1 aO:Int}{gS:bD}{jM:Int}{aK:Bool}{aJ:List Int}{bx:Int}{an:List bD}{al:List Int}{aL:List Bool}{jA:Bool}{jx:List Int}{jl:Int}{bb:List (List bt)}{r} (h:Dg b1 aO gS jM aK aJ bx an al aL jA jx jl bb=some r):dM a5 128 5 98 [1,1,0,1,0,0] (Gk b1 aO gS jM aK aJ bx an al aL jA jx) (Gt b1 aO gS jM aK aJ bx an al aL jA jx) (jl,bb) r:=dO (fun _=>Uu) h
def Gl (j3:bD)(jI jJ oN:Int)(aK:Bool)(aJ:List Int)(bx:Int)(an:List bD)(al:List Int)(aL:List Bool):(Int×(List (List bt)))→S:=fun (ns,bb)=>dr [(14,lQ 2 0 2 j3),(107,.bf 1 0 0 an.length),(108,.n .i64 jI),(109,.n .i64 jJ),(114,.n .i64 oN),(115,.n .i64 ns)] [[ae.mk 6 [(fV 1 0 0 an.length aK aJ 3 0 0 al.length bx 4 0 0 aL.length)] .live],(av 1 (bp 2 0 2) an),(cf 2 aZ bb),(av 1 eI al),(av 1 eu aL)]
def Gu (j3:bD)(jI jJ oN:Int)(aK:Bool)(aJ:List Int)(bx:Int)(an:List bD)(al:List Int)(aL:List Bool):(List (List bt))→dy
 | a=>⟨some 6,[(107,.bf 1 0 0 an.length),(108,.n .i64 jI),(109,.n .i64 jJ)],[[ae.mk 6 [(fV 1 0 0 an.length aK aJ 3 0 0 al.length bx 4 0 0 aL.length)] .live],(av 1 (bp 2 0 2) an),(cf 2 aZ a),(av 1 eI al),(av 1 eu aL)]⟩
def wJ (j3:bD)(jI jJ oN:Int)(aK:Bool)(aJ:List Int)(bx:Int)(an:List bD)(al:List Int)(aL:List Bool)(ns:Int)(bb:List (List bt)):Option ((Int×(List (List bt)))⊕((List (List bt)))) :=
 if (decide (ns<oN))=true then
  j3 >>= fun hc =>
  bb[hc.1]? >>= fun kc =>
  if 0≤ns∧ns<(hc.2:Nat) then
  kc[(0+ns.toNat)]? >>= fun c7 =>
  r3 c7 >>= fun cg =>
  some (.inl (R (ns+(1:Int)),bb.set hc.1 (kc.set (0+ns.toNat) cg)))
  else none
 else
  some (.inr bb)
def Dh (j3:bD)(jI jJ oN:Int)(aK:Bool)(aJ:List Int)(bx:Int)(an:List bD)(al:List Int)(aL:List Bool)(ns:Int)(bb:List (List bt)):Option ((List (List bt))):=iter (fun w:Int×(List (List bt))=>wJ j3 jI jJ oN aK aJ bx an al aL w.1 w.2) (ns,bb)
theorem Uv {j3:bD}{jI jJ oN:Int}{aK:Bool}{aJ:List Int}{bx:Int}{an:List bD}{al:List Int}{aL:List Bool}{ns:Int}{bb:List (List bt)}:bB (wJ j3 jI jJ oN aK aJ bx an al aL ns bb) (dL a5 128 5 98 [1,1,1,1,1,1,1,1,0,0,1,1,0,0,1,1,0,0] (Gl j3 jI jJ oN aK aJ bx an al aL (ns,bb)) (Gl j3 jI jJ oN aK aJ bx an al aL) (Gu j3 jI jJ oN aK aJ bx an al aL)):=by
 unfold wJ
 exact .ite (fun h1 =>
  .ar fun hc af =>
  .ar fun kc aA =>
  .aY fun a0 =>
  .ar fun c7 bn =>
  .ar fun cg cQ =>
  .ret (let q1:=ke (gl .live 2 aZ bb) jr aA;bg [(J 1),.aa true,(J 2),.aw (ah 4 (ai (.kw 120 (.bf 2 (hc.1+0) 0 hc.2) (.gm (ae.mk 2 (kc.map aZ) .live) [])) (ai (.gm (ae.mk 2 (kc.map aZ) .live) (aZ c7)) (ai (bw 1 (.agg (aZ cg)) false) (ai (.kw 118 (.bf 2 (hc.1+0) 0 hc.2) (.gm (ae.mk 2 (kc.map aZ) .live) [])) (ai (.gm (ae.mk 2 (kc.map aZ) .live) (aZ c7)) [])))))),(J 2),.aP [0,1,2,3,4] [.box [.id,.id,.id,.id,.id,.id],.bK (av 1 (bp 2 0 2) an),.bK (cf 2 aZ (bb.set hc.1 (kc.set (0+ns.toNat) cg))),.pure,.pure] (a8 [14,107,108,109,114,115])] (.bi h1 (mf (d5:=2) (c:=0) (sz:=2) af) q1 a0.1 a0.2 q1 (b2 aZ bn) (Ha cg cQ) (.bi (mf (d5:=2) (c:=0) (sz:=2) af) q1 a0.1 a0.2 q1 (b2 aZ bn) (eF (bZ [0,1,2,3,4]) 2 2 0 2 rfl an) (np (cd:=(bZ [0,1,2,3,4])) (ph (gl .live 2 aZ bb) hc.1 (nk (cR aZ kc) (0+ns.toNat) cg (rfl:(setCells (aZ c7) 0 (aZ cg))=aZ cg))) (mB fj)) (.aE (aI 1 .live aN al) (aI 1 .live e7 aL))))))
  (fun h1 =>
  .ret (bg [(J 1),.aa false,.aP [0,1,2,3,4] [.box [.id,.id,.id,.id,.id,.id],.bK (av 1 (bp 2 0 2) an),.bK (cf 2 aZ bb),.pure,.pure] (a8 [107,108,109])] (.dg h1 (eF (bZ [0,1,2,3,4]) 2 2 0 2 rfl an) (dR (bZ [0,1,2,3,4]) 2 fj bb) (aI 1 .live aN al) (aI 1 .live e7 aL))))
theorem Vb {j3:bD}{jI jJ oN:Int}{aK:Bool}{aJ:List Int}{bx:Int}{an:List bD}{al:List Int}{aL:List Bool}{ns:Int}{bb:List (List bt)}{r} (h:Dh j3 jI jJ oN aK aJ bx an al aL ns bb=some r):dM a5 128 5 98 [1,1,1,1,1,1,1,1,0,0,1,1,0,0,1,1,0,0] (Gl j3 jI jJ oN aK aJ bx an al aL) (Gu j3 jI jJ oN aK aJ bx an al aL) (ns,bb) r:=dO (fun _=>Uv) h
def Gm (jI:Int)(aK:Bool)(aJ:List Int)(bx:Int)(an:List bD)(al:List Int)(aL:List Bool):(Int×(List (List bt)))→S:=fun (jJ,bb)=>dr [(107,.bf 1 0 0 an.length),(108,.n .i64 jI),(109,.n .i64 jJ)] [[ae.mk 6 [(fV 1 0 0 an.length aK aJ 3 0 0 al.length bx 4 0 0 aL.length)] .live],(av 1 (bp 2 0 2) an),(cf 2 aZ bb),(av 1 eI al),(av 1 eu aL)]
def Gv (jI:Int)(aK:Bool)(aJ:List Int)(bx:Int)(an:List bD)(al:List Int)(aL:List Bool):(List (List bt))→dy
 | a=>⟨some 4,[],[[ae.mk 6 [(fV 1 0 0 an.length aK aJ 3 0 0 al.length bx 4 0 0 aL.length)] .live],(av 1 (bp 2 0 2) an),(cf 2 aZ a),(av 1 eI al),(av 1 eu aL)]⟩
def wK (jI:Int)(aK:Bool)(aJ:List Int)(bx:Int)(an:List bD)(al:List Int)(aL:List Bool)(jJ:Int)(bb:List (List bt)):Option ((Int×(List (List bt)))⊕((List (List bt)))) :=
 if (decide (jJ<jI))=true then
  if 0≤jJ∧jJ<(an.length:Nat) then
  an[(0+jJ.toNat)]? >>= fun aB =>
  aB >>= fun lS =>
  bb[lS.1]? >>= fun iR =>
  Dh aB jI jJ ((lS.2:Nat):Int) aK aJ bx an al aL 0 bb >>= fun cg =>
  some (.inl (R (jJ+(1:Int)),cg))
  else none
 else
  some (.inr bb)
def zF (jI:Int)(aK:Bool)(aJ:List Int)(bx:Int)(an:List bD)(al:List Int)(aL:List Bool)(jJ:Int)(bb:List (List bt)):Option ((List (List bt))):=iter (fun w:Int×(List (List bt))=>wK jI aK aJ bx an al aL w.1 w.2) (jJ,bb)
theorem Uw {jI:Int}{aK:Bool}{aJ:List Int}{bx:Int}{an:List bD}{al:List Int}{aL:List Bool}{jJ:Int}{bb:List (List bt)}:bB (wK jI aK aJ bx an al aL jJ bb) (dL a5 128 5 98 [1,1,1,1,1,1,1,1,0,0] (Gm jI aK aJ bx an al aL (jJ,bb)) (Gm jI aK aJ bx an al aL) (Gv jI aK aJ bx an al aL)):=by
 unfold wK
 exact .ite (fun h1 =>
  .aY fun o =>
  .ar fun aB au =>
  .ar fun lS a0 =>
  .ar fun iR bn =>
  .ar fun cg cQ =>
  .ret (let q1:=bZ [0,1,2,3,4];let a6:=eF q1 2 2 0 2 rfl an;bg [(J 1),.aa true,.aw (bo 1 (.b5 ((bp 2 0 2) aB)) 1),.aw (bo 1 (.kw 113 (.bf 2 (lS.1+0) 0 lS.2) (.gm (ae.mk 2 (iR.map aZ) .live) [])) 1),.aP [0,1,2,3,4] [.box [.id,.id,.id,.id,.id,.id],.bK (av 1 (bp 2 0 2) an),.bK (cf 2 aZ bb),.pure,.pure] (a8 [14,107,108,109,114,115]),(Gu aB jI jJ ((lS.2:Nat):Int) aK aJ bx an al aL cg).e6,(J 2),.aP [0,1,2,3,4] [.box [.id,.id,.id,.id,.id,.id],.bK (av 1 (bp 2 0 2) an),.bK (cf 2 aZ cg),.pure,.pure] (a8 [107,108,109])] (.bi h1 o.1 o.2 (b2 (bp 2 0 2) au) (mf (d5:=2) (c:=0) (sz:=2) a0) (ke (gl .live 2 aZ bb) jr bn) a6 (dR q1 2 fj bb) (.eB (aI 1 .live aN al) (aI 1 .live e7 aL) (Vb cQ) a6 (dR q1 2 fj cg) (aI 1 .live aN al) (aI 1 .live e7 aL)))))
  (fun h1 =>
  .ret (bg [(J 1),.aa false,.aP [0,1,2,3,4] [.box [.id,.id,.id,.id,.id,.id],.bK (av 1 (bp 2 0 2) an),.bK (cf 2 aZ bb),.pure,.pure] []] (.dg h1 (eF (bZ [0,1,2,3,4]) 2 2 0 2 rfl an) (dR (bZ [0,1,2,3,4]) 2 fj bb) (aI 1 .live aN al) (aI 1 .live e7 aL))))
theorem Vc {jI:Int}{aK:Bool}{aJ:List Int}{bx:Int}{an:List bD}{al:List Int}{aL:List Bool}{jJ:Int}{bb:List (List bt)}{r} (h:zF jI aK aJ bx an al aL jJ bb=some r):dM a5 128 5 98 [1,1,1,1,1,1,1,1,0,0] (Gm jI aK aJ bx an al aL) (Gv jI aK aJ bx an al aL) (jJ,bb) r:=dO (fun _=>Uw) h
def xn (b1 aO:Int)(o3:Bool)(oZ:List Int)(jK:Int)(eU:List bD)(l7:List (List bt))(ir:List Int)(hG:List Bool):Option (Bool×(List Int)×(List (List bt))×(List Int)) :=
 if 0≤b1∧b1<(eU.length:Nat) then
 eU[(0+b1.toNat)]? >>= fun eb =>
 eb >>= fun jR =>
 l7[jR.1]? >>= fun nf =>
 if 0≤aO∧aO<(jR.2:Nat) then
 nf[(0+aO.toNat)]? >>= fun dl =>
 Dg b1 aO eb ((eU.length:Nat):Int) o3 oZ jK eU ir hG dl.cS dl.cJ 0 l7 >>= fun dh =>
 if 0≤b1∧b1<(ir.length:Nat) then
 if (0+b1.toNat)<ir.length then
 pc dl >>= fun gK =>
 if (decide ((0:Int)<gK))=true then
  some (dl.cS,dl.cJ,dh,ir.set (0+b1.toNat) aO)
 else
  r3 dl >>= fun fi =>
  zF ((eU.length:Nat):Int) fi.cS fi.cJ jK eU (ir.set (0+b1.toNat) aO) hG 0 dh >>= fun iq =>
  some (fi.cS,fi.cJ,iq,ir.set (0+b1.toNat) aO)
 else none
 else none
 else none
 else none
theorem NL {b1 aO:Int}{o3:Bool}{oZ:List Int}{jK:Int}{eU:List bD}{l7:List (List bt)}{ir:List Int}{hG:List Bool}:bB (xn b1 aO o3 oZ jK eU l7 ir hG) (fun a=>Con a5 98 [.ref 0 0 0 0,.n .i64 b1,.n .i64 aO] [[ae.mk 6 [(fV 1 0 0 eU.length o3 oZ 3 0 0 ir.length jK 4 0 0 hG.length)] .live],(av 1 (bp 2 0 2) eU),(cf 2 aZ l7),(av 1 eI ir),(av 1 eu hG)] (.ea []) [[ae.mk 6 [(fV 1 0 0 eU.length a.1 a.2.1 3 0 0 a.2.2.2.length jK 4 0 0 hG.length)] .live],(av 1 (bp 2 0 2) eU),(cf 2 aZ a.2.2.1),(av 1 eI a.2.2.2),(av 1 eu hG)]):=by
 unfold xn
 exact .aY fun h1 =>
  .ar fun eb af =>
  .ar fun jR aA =>
  .ar fun nf bm =>
  .aY fun bn =>
  .ar fun dl cQ =>
  .ar fun dh eH =>
  .aY fun eS =>
  .aY fun eJ =>
  .ar fun gK ha =>
  (let dj:=ke (gl .live 2 aZ l7) jr bm;let f6:=bZ [0,1,2,3,4,17];let t1:List b3:=[.aw (bo 6 (.b5 ((bp 2 0 2) eb)) 1),.aw (ah 2 (ai (.kw 23 (.bf 2 (jR.1+0) 0 jR.2) (.gm (ae.mk 2 (nf.map aZ) .live) [])) (ai (.gm (ae.mk 2 (nf.map aZ) .live) (aZ dl)) (ah 2 [])))),(J 6),.aP [0,1,2,3,4,17] [.box [.id,.id,.id,.id,.id,.id],.bK (av 1 (bp 2 0 2) eU),.bK (cf 2 aZ l7),.pure,.pure,.box [.id,.id]] (a8 [0,1,2,6,7,30,31,32]),(Gt b1 aO eb ((eU.length:Nat):Int) o3 oZ jK eU ir hG dl.cS dl.cJ dh).e6,(J 5),.aw (ah 7 (ai .fX [])),.aw (bo 1 (bw 1 (.n .i64 gK) true) 1)];
  have aT:=((.bi h1.1 h1.2 (b2 (bp 2 0 2) af) (mf (d5:=2) (c:=0) (sz:=2) aA) dj bn.1 bn.2 dj (.bi (b2 aZ cQ) (eF f6 2 2 0 2 rfl eU) (dR f6 2 fj l7) (aI 1 .live aN ir) (aI 1 .live e7 hG) (Va eH) eS.1 eS.2 (.c3 (hQ eI eJ) (hJ 1) (ta gK ha) (bX.n .i64 gK)))):cA _);
  .ite (fun hN =>
  .ret (kH (t1.append [.aa true]) [0,1,2,3,4] [.bK [ae.mk 6 [(fV 1 0 0 eU.length dl.cS dl.cJ 3 0 0 ((ir.set (0+b1.toNat) aO).length) jK 4 0 0 hG.length)] .live],.bK (av 1 (bp 2 0 2) eU),.bK (cf 2 aZ dh),.cE (av 1 eI (ir.set (0+b1.toNat) aO)),.pure] (aT.aH (.eB hN (c8 (show ae.mk 6 [(fV 1 0 0 eU.length dl.cS dl.cJ 3 0 0 ((ir.set (0+b1.toNat) aO).length) jK 4 0 0 hG.length)] .live=gQ (bZ [0,1,2,3,4]) (ae.mk 6 [(fV 1 0 0 eU.length dl.cS dl.cJ 3 0 0 ir.length jK 4 0 0 hG.length)] .live) from (congrArg (fun CV=>ae.mk 6 [(fV 1 0 0 eU.length dl.cS dl.cJ 3 0 0 CV jK 4 0 0 hG.length)] .live) (hg (dQ ir) (0+b1.toNat) aO).symm)) nN) (eF (bZ [0,1,2,3,4]) 2 2 0 2 rfl eU) (dR (bZ [0,1,2,3,4]) 2 fj dh) (cZ 1 .live (gM (cR eI ir) (0+b1.toNat) aO)) (aI 1 .live aN (ir.set (0+b1.toNat) aO)) (aI 1 .live e7 hG)))))
  (fun hN =>
  .ar fun fi gq =>
  .ar fun iq gJ =>
  .ret (let q1:=fV 1 0 0 eU.length fi.cS fi.cJ 3 0 0 ((ir.set (0+b1.toNat) aO).length) jK 4 0 0 hG.length;let a6:=bZ [0,1,2,3,4];let bY:=aI 1 .live aN (ir.set (0+b1.toNat) aO);let cz:=eF a6 2 2 0 2 rfl eU;kH (t1.append [.aa false,.aw (bo 2 (bw 1 (.agg (aZ fi)) false) 3),(J 6),.aP [0,1,2,3,4] [.box [.id,.id,.id,.len ((ir.set (0+b1.toNat) aO).length),.id,.id],.bK (av 1 (bp 2 0 2) eU),.bK (cf 2 aZ dh),.cE (av 1 eI (ir.set (0+b1.toNat) aO)),.pure] (a8 [107,108,109]),(Gv ((eU.length:Nat):Int) fi.cS fi.cJ jK eU (ir.set (0+b1.toNat) aO) hG iq).e6]) [0,1,2,3,4] [.bK [ae.mk 6 [q1] .live],.bK (av 1 (bp 2 0 2) eU),.bK (cf 2 aZ iq),.pure,.pure] (aT.aH (.bi hN (Ha fi gq) (hg (dQ ir) (0+b1.toNat) aO) cz (dR a6 2 fj dh) (cZ 1 .live (gM (cR eI ir) (0+b1.toNat) aO)) bY (aI 1 .live e7 hG) (.d6 (Vc gJ) (qD a6 6 [q1] [q1] rfl) cz (dR a6 2 fj iq) bY (aI 1 .live e7 hG)))))))
def F5 (b9:Int)(aK:Bool)(aJ:List Int)(an:List bD)(bb:List (List bt))(al:List Int)(aL:List Bool)(bI:List Int):Int→S:=fun bM=>dr [(0,.ref 0 0 0 0),(1,.bf 5 0 0 bI.length),(5,.b false),(13,.n .i64 b9),(14,.n .i64 bM)] [[ae.mk 6 [(fV 1 0 0 an.length aK aJ 3 0 0 al.length b9 4 0 0 aL.length)] .live],(av 1 (bp 2 0 2) an),(cf 2 aZ bb),(av 1 eI al),(av 1 eu aL),(av 1 eI bI)]
def C5 (b9:Int)(aK:Bool)(aJ:List Int)(an:List bD)(bb:List (List bt))(al:List Int)(aL:List Bool)(bI:List Int):((Bool×Bool×(List Int)×(List (List bt))×(List Int))⊕(Unit))→dy
 | .inl a=>⟨some 2,[(0,.ref 0 0 0 0),(1,.bf 5 0 0 bI.length),(5,.b a.1)],[[ae.mk 6 [(fV 1 0 0 an.length a.2.1 a.2.2.1 3 0 0 a.2.2.2.2.length b9 4 0 0 aL.length)] .live],(av 1 (bp 2 0 2) an),(cf 2 aZ a.2.2.2.1),(av 1 eI a.2.2.2.2),(av 1 eu aL),(av 1 eI bI)]⟩
 | .inr a=>⟨none,[(4,.b false)],[[ae.mk 6 [(fV 1 0 0 an.length aK aJ 3 0 0 al.length b9 4 0 0 aL.length)] .live],(av 1 (bp 2 0 2) an),(cf 2 aZ bb),(av 1 eI al),(av 1 eu aL),(av 1 eI bI)]⟩
def wB (b9:Int)(aK:Bool)(aJ:List Int)(an:List bD)(bb:List (List bt))(al:List Int)(aL:List Bool)(bI:List Int)(bM:Int):Option ((Int)⊕((Bool×Bool×(List Int)×(List (List bt))×(List Int))⊕(Unit))) :=
 if (decide (bM<b9))=true then
  if 0≤bM∧bM<(aL.length:Nat) then
  aL[(0+bM.toNat)]? >>= fun aB =>
  if aB=true then
   sf al bM >>= fun cl =>
   if cl=true then
    some (.inl (R (bM+(1:Int))))
   else
    if an.all (rh bb)=true then
    xN (⟨an.map (iM bb),(⟨aK,aJ⟩:bt),al,b9,aL⟩:qK) bI bM >>= fun et =>
    if (decide (et≤(0:Int)))=true then
     some (.inl (R (bM+(1:Int))))
    else
     zM (⟨an.map (iM bb),(⟨aK,aJ⟩:bt),al,b9,aL⟩:qK) bM >>= fun eK =>
     if (decide (eK<(0:Int)))=true then
      some (.inr (.inr ()))
     else
      xn eK bM aK aJ b9 an bb al aL >>= fun ek =>
      some (.inr (.inl (true,ek.1,ek.2.1,ek.2.2.1,ek.2.2.2)))
    else none
  else
   some (.inl (R (bM+(1:Int))))
  else none
 else
  some (.inr (.inl (false,aK,aJ,bb,al)))
def wO (b9:Int)(aK:Bool)(aJ:List Int)(an:List bD)(bb:List (List bt))(al:List Int)(aL:List Bool)(bI:List Int)(bM:Int):Option ((Bool×Bool×(List Int)×(List (List bt))×(List Int))⊕(Unit)):=iter (fun w:Int=>wB b9 aK aJ an bb al aL bI w) bM
theorem Uc {b9:Int}{aK:Bool}{aJ:List Int}{an:List bD}{bb:List (List bt)}{al:List Int}{aL:List Bool}{bI:List Int}{bM:Int}:bB (wB b9 aK aJ an bb al aL bI bM) (dL a5 87 6 78 [1,0,1,0,0,1,0,1,1,0,0] (F5 b9 aK aJ an bb al aL bI bM) (F5 b9 aK aJ an bb al aL bI) (C5 b9 aK aJ an bb al aL bI)):=by
 unfold wB
 exact .ite (fun h1 =>
  .aY fun o =>
  .ar fun aB au =>
  (let t1:List b3:=[(J 1),.aa true,(J 2)];
  .ite (fun aA =>
  .ar fun cl bm =>
  (have aT:=((.bi h1 o.1 o.2 (b2 eu au) (cV aA) (cV aA) (cV aA) (cV aA) (.gu (cV aA) (cV aA) (fv eI al) (fb eI al) (dd aN al) (Km cl bm) (bX.b cl) (cV aA))):cA _);
  .ite (fun bn =>
  .ret (let q1:=bZ [0,1,2,3,4,5];bg (t1.append [.aw (ah 6 (ai (.b5 (eu aB)) (ah 7 (ai (.call {ac:=[.bs (.c9 (.dF (al.map eI))),ii],r:= .b cl,er:=true,eN:=[3]}) (ai (.aa false) (ah 1 (cw 5 (ai (.aa true) [])))))))),.aa true,(J 2),.aP [0,1,2,3,4,5] [.box [.id,.id,.id,.id,.id,.id],.bK (av 1 (bp 2 0 2) an),.bK (cf 2 aZ bb),.pure,.pure,.pure] (a8 [0,1,5,13,14])]) (aT.aH (.bi bn bn bn bn bn bn cI (eF q1 2 2 0 2 rfl an) (.c3 (dR q1 2 fj bb) (aI 1 .live aN al) (aI 1 .live e7 aL) (aI 1 .live aN bI))))))
  (fun bn =>
  .aY fun cx =>
  .ar fun et fm =>
  (let t3:List b3:=t1.append [.aw (ah 6 (ai (.b5 (eu aB)) (ah 7 (ai (.call {ac:=[.bs (.c9 (.dF (al.map eI))),ii],r:= .b cl,er:=true,eN:=[3]}) (ai (.aa false) (ah 4 (ai (.call {ac:=[.bs (.ptr [.view 2 (ae.mk 1 (an.map (bp 2 0 2)) .live) ((an.map (iM bb)).map (eA 2 aZ)),.id,.id,.dF (al.map eI),.id,.dF (aL.map eu)]),.bs (.c9 (.dF (bI.map eI))),ii],r:= .n .i64 et,er:=true,eN:=[0,1,2,3,4,5]}) (ah 1 (ai (.aa false) [])))))))))];
  have e3:=aT.aH (.bi bn bn bn bn (rfl:dn (some (av 1 (bp 2 0 2) an)) 0=some (ae.mk 1 (an.map (bp 2 0 2)) .live)) (rfl:_=true) (fb (bp 2 0 2) an) (dd (nL (sz:=2) sa) (an.map (iM bb))) (.bi (vh (d5:=2) (jB:=[]++(cf 2 aZ bb)) (cc:=kP) (sz:=1) (g:=(eA 2 aZ)) (cR (bp 2 0 2) an) (fun _=>rfl) (fun x U=>(zf (d5:=2) (c:=0) (cc:=kP) (qY:=[]) (gl .live 2 aZ bb) sa rfl jr rfl (yE cx x U))) (dQ an)) (fv eI al) (fb eI al) (dd aN al) (fv eu aL) (fb eu aL) (dd e7 aL) (qL (JN (⟨an.map (iM bb),(⟨aK,aJ⟩:bt),al,b9,aL⟩:qK)):jU [[.isl 1 ((an.map (iM bb)).map (eA 2 aZ)),.b aK,.isl 1 (aJ.map eI),.isl 1 (al.map eI),.n .i64 b9,.isl 1 (aL.map eu)]]) (.eB (fv eI bI) (fb eI bI) (dd aN bI) (NZ et fm) (bX.n .i64 et) bn bn)));
  .ite (fun eH =>
  .ret (let a6:=bZ [0,1,2,3,4,5];bg (t3.append [.aa true,(J 2),.aP [0,1,2,3,4,5] [.box [.id,.id,.id,.id,.id,.id],.bK (av 1 (bp 2 0 2) an),.bK (cf 2 aZ bb),.pure,.pure,.pure] (a8 [0,1,5,13,14])]) (e3.aH (.d6 eH (eF a6 2 2 0 2 rfl an) (dR a6 2 fj bb) (aI 1 .live aN al) (aI 1 .live e7 aL) (aI 1 .live aN bI)))))
  (fun eH =>
  .ar fun eK eJ =>
  (let t5:List b3:=t3.append [.aa false,.aw (bo 2 (.call {ac:=[.bs (.ptr [.view 2 (ae.mk 1 (an.map (bp 2 0 2)) .live) ((an.map (iM bb)).map (eA 2 aZ)),.id,.id,.dF (al.map eI),.id,.dF (aL.map eu)]),ii],r:= .n .i64 eK,er:=true,eN:=[0,1,2,3,4]}) 1),(J 2)];
  have kj:=e3.aH (.bi eH (rfl:dn (some (av 1 (bp 2 0 2) an)) 0=some (ae.mk 1 (an.map (bp 2 0 2)) .live)) (rfl:_=true) (fb (bp 2 0 2) an) (dd (nL (sz:=2) sa) (an.map (iM bb))) (vh (d5:=2) (jB:=[]++(cf 2 aZ bb)) (cc:=kP) (sz:=1) (g:=(eA 2 aZ)) (cR (bp 2 0 2) an) (fun _=>rfl) (fun x U=>(zf (d5:=2) (c:=0) (cc:=kP) (qY:=[]) (gl .live 2 aZ bb) sa rfl jr rfl (yE cx x U))) (dQ an)) (fv eI al) (fb eI al) (.eB (dd aN al) (fv eu aL) (fb eu aL) (dd e7 aL) (qL (JN (⟨an.map (iM bb),(⟨aK,aJ⟩:bt),al,b9,aL⟩:qK)):jU [[.isl 1 ((an.map (iM bb)).map (eA 2 aZ)),.b aK,.isl 1 (aJ.map eI),.isl 1 (al.map eI),.n .i64 b9,.isl 1 (aL.map eu)]]) (VP eK eJ) (bX.n .i64 eK)));
  .ite (fun fJ =>
  .ret (let bY:=bZ [0,1,2,3,4,5];bg (t5.append [.aa true,(J 1),.aP [0,1,2,3,4,5] [.box [.id,.id,.id,.id,.id,.id],.bK (av 1 (bp 2 0 2) an),.bK (cf 2 aZ bb),.pure,.pure,.pure] (a8 [4])]) (kj.aH (.d6 fJ (eF bY 2 2 0 2 rfl an) (dR bY 2 fj bb) (aI 1 .live aN al) (aI 1 .live e7 aL) (aI 1 .live aN bI)))))
  (fun fJ =>
  .ar fun ek hN =>
  .ret (let cz:=fV 1 0 0 an.length ek.1 ek.2.1 3 0 0 ek.2.2.2.length b9 4 0 0 aL.length;let dj:=fV 1 0 0 an.length aK aJ 3 0 0 al.length b9 4 0 0 aL.length;let f6:=av 1 (bp 2 0 2) an;let h4:=cf 2 aZ ek.2.2.1;let fw:=pt [0,1,2,3,4];let js:=ic [0,1,2,3,4];let lO:=pu 1 (an.map (bp 2 0 2));let jb:=bZ [0,1,2,3,4,5];bg (t5.append [.aa false,.aw (ah 3 (ai (.call {a2:=(vG [0,1,2,3,4]),da:=[.bK [ae.mk 6 [dj] .live],.bK f6,.bK (cf 2 aZ bb),.pure,.pure],ac:=[ii,ii,ii],r:= .ea [],eV:=[[ae.mk 6 [cz] .live],f6,h4,(av 1 eI ek.2.2.2),(av 1 eu aL)],gr:=ii,hD:=[.bK [ae.mk 6 [cz] .live],.bK f6,.bK h4,.pure,.pure],eN:=[0,1,2,3,4],er:=false}) [])),(J 1),.aP [0,1,2,3,4,5] [.box [.id,.id,.id,.id,.id,.id],.bK f6,.bK h4,.pure,.pure,.pure] (a8 [0,1,5])]) (kj.aH (.bi fJ (qD fw 6 [dj] [dj] rfl) (pu 6 [dj]) (eF fw 2 2 0 2 rfl an) lO (dR fw 2 fj bb) (tZ 2 aZ bb) (f8 1 aN al) (.bi (f8 1 e7 aL) (qD js 6 [cz] [cz] rfl) (pu 6 [cz]) (eF js 2 2 0 2 rfl an) lO (dR js 2 fj ek.2.2.1) (tZ 2 aZ ek.2.2.1) (f8 1 aN ek.2.2.2) (.eB (f8 1 e7 aL) (NL ek hN) (eF jb 2 2 0 2 rfl an) (dR jb 2 fj ek.2.2.1) (aI 1 .live aN ek.2.2.2) (aI 1 .live e7 aL) (aI 1 .live aN bI)))))))))))))
  (fun aA =>
  .ret (let pP:=bZ [0,1,2,3,4,5];bg (t1.append [.aw (ah 6 (ai (.b5 (eu aB)) (ah 2 (cw 6 (ai (.aa true) (ah 1 (cw 5 (ah 1 [])))))))),.aa true,(J 2),.aP [0,1,2,3,4,5] [.box [.id,.id,.id,.id,.id,.id],.bK (av 1 (bp 2 0 2) an),.bK (cf 2 aZ bb),.pure,.pure,.pure] (a8 [0,1,5,13,14])]) (.bi h1 o.1 o.2 (b2 eu au) (cT aA) (cT aA) (cT aA) (cT aA) (.bi (cT aA) (cT aA) (cT aA) cI cI cI cI cI (.d6 cI (eF pP 2 2 0 2 rfl an) (dR pP 2 fj bb) (aI 1 .live aN al) (aI 1 .live e7 aL) (aI 1 .live aN bI))))))))
  (fun h1 =>
  .ret (let mG:=bZ [0,1,2,3,4,5];bg [(J 1),.aa false,.aP [0,1,2,3,4,5] [.box [.id,.id,.id,.id,.id,.id],.bK (av 1 (bp 2 0 2) an),.bK (cf 2 aZ bb),.pure,.pure,.pure] (a8 [0,1,5])] (.d6 h1 (eF mG 2 2 0 2 rfl an) (dR mG 2 fj bb) (aI 1 .live aN al) (aI 1 .live e7 aL) (aI 1 .live aN bI))))
theorem NC {b9:Int}{aK:Bool}{aJ:List Int}{an:List bD}{bb:List (List bt)}{al:List Int}{aL:List Bool}{bI:List Int}{bM:Int}{r} (h:wO b9 aK aJ an bb al aL bI bM=some r):dM a5 87 6 78 [1,0,1,0,0,1,0,1,1,0,0] (F5 b9 aK aJ an bb al aL bI) (C5 b9 aK aJ an bb al aL bI) bM r:=dO (fun _=>Uc) h
def F6 (bx:Int)(an:List bD)(aL:List Bool)(bI:List Int):(Bool×Bool×(List Int)×(List (List bt))×(List Int))→S:=fun (qO,aK,aJ,bb,al)=>dr [(0,.ref 0 0 0 0),(1,.bf 5 0 0 bI.length),(5,.b qO)] [[ae.mk 6 [(fV 1 0 0 an.length aK aJ 3 0 0 al.length bx 4 0 0 aL.length)] .live],(av 1 (bp 2 0 2) an),(cf 2 aZ bb),(av 1 eI al),(av 1 eu aL),(av 1 eI bI)]
def C6 (bx:Int)(an:List bD)(aL:List Bool)(bI:List Int):((Bool×(List Int)×(List (List bt))×(List Int))⊕(Bool×(List Int)×(List (List bt))×(List Int)))→dy
 | .inl a=>⟨some 0,[(0,.ref 0 0 0 0),(1,.bf 5 0 0 bI.length)],[[ae.mk 6 [(fV 1 0 0 an.length a.1 a.2.1 3 0 0 a.2.2.2.length bx 4 0 0 aL.length)] .live],(av 1 (bp 2 0 2) an),(cf 2 aZ a.2.2.1),(av 1 eI a.2.2.2),(av 1 eu aL),(av 1 eI bI)]⟩
 | .inr a=>⟨none,[(4,.b false)],[[ae.mk 6 [(fV 1 0 0 an.length a.1 a.2.1 3 0 0 a.2.2.2.length bx 4 0 0 aL.length)] .live],(av 1 (bp 2 0 2) an),(cf 2 aZ a.2.2.1),(av 1 eI a.2.2.2),(av 1 eu aL),(av 1 eI bI)]⟩
def ud (bx:Int)(an:List bD)(aL:List Bool)(bI:List Int)(qO aK:Bool)(aJ:List Int)(bb:List (List bt))(al:List Int):Option ((Bool×Bool×(List Int)×(List (List bt))×(List Int))⊕((Bool×(List Int)×(List (List bt))×(List Int))⊕(Bool×(List Int)×(List (List bt))×(List Int)))) :=
 if qO=true then
  wO bx aK aJ an bb al aL bI 0 >>= fun bT =>
  match bT with
  | .inl fZ=>(some (.inl (fZ.1,fZ.2.1,fZ.2.2.1,fZ.2.2.2.1,fZ.2.2.2.2)))
  | .inr fZ=>(some (.inr (.inr (aK,aJ,bb,al))))
 else
  some (.inr (.inl (aK,aJ,bb,al)))
def Db (bx:Int)(an:List bD)(aL:List Bool)(bI:List Int)(qO aK:Bool)(aJ:List Int)(bb:List (List bt))(al:List Int):Option ((Bool×(List Int)×(List (List bt))×(List Int))⊕(Bool×(List Int)×(List (List bt))×(List Int))):=iter (fun w:Bool×Bool×(List Int)×(List (List bt))×(List Int)=>ud bx an aL bI w.1 w.2.1 w.2.2.1 w.2.2.2.1 w.2.2.2.2) (qO,aK,aJ,bb,al)
theorem Ud {bx:Int}{an:List bD}{aL:List Bool}{bI:List Int}{qO aK:Bool}{aJ:List Int}{bb:List (List bt)}{al:List Int}:bB (ud bx an aL bI qO aK aJ bb al) (dL a5 87 6 78 [1,0,1,0,0] (F6 bx an aL bI (qO,aK,aJ,bb,al)) (F6 bx an aL bI) (C6 bx an aL bI)):=by
 unfold ud
 exact .ite (fun h1 =>
  .ar fun bT af =>
  (let cz:=bZ [0,1,2,3,4,5];let t1:List b3:=[(J 1),.aa true,(J 1),(J 5),.aP [0,1,2,3,4,5] [.box [.id,.id,.id,.id,.id,.id],.bK (av 1 (bp 2 0 2) an),.bK (cf 2 aZ bb),.pure,.pure,.pure] (a8 [0,1,5,13,14])];
  have aT:=((.d6 h1 (eF cz 2 2 0 2 rfl an) (dR cz 2 fj bb) (aI 1 .live aN al) (aI 1 .live e7 aL) (aI 1 .live aN bI)):cA _);
  (by
  rcases bT with fZ|fZ
  ·exact (.ret (let q1:=bZ [0,1,2,3,4,5];bg (t1.append [(C5 bx aK aJ an bb al aL bI (.inl fZ)).e6,.aP [0,1,2,3,4,5] [.box [.id,.id,.id,.id,.id,.id],.bK (av 1 (bp 2 0 2) an),.bK (cf 2 aZ fZ.2.2.2.1),.pure,.pure,.pure] (a8 [0,1,5])]) (aT.aH (.d6 (NC af) (eF q1 2 2 0 2 rfl an) (dR q1 2 fj fZ.2.2.2.1) (aI 1 .live aN fZ.2.2.2.2) (aI 1 .live e7 aL) (aI 1 .live aN bI)))))
  ·exact (.ret (let a6:=bZ [0,1,2,3,4,5];bg (t1.append [(C5 bx aK aJ an bb al aL bI (.inr fZ)).e6,.aP [0,1,2,3,4,5] [.box [.id,.id,.id,.id,.id,.id],.bK (av 1 (bp 2 0 2) an),.bK (cf 2 aZ bb),.pure,.pure,.pure] (a8 [4])]) (aT.aH (.d6 (NC af) (eF a6 2 2 0 2 rfl an) (dR a6 2 fj bb) (aI 1 .live aN al) (aI 1 .live e7 aL) (aI 1 .live aN bI))))))))
  (fun h1 =>
  .ret (let bY:=bZ [0,1,2,3,4,5];bg [(J 1),.aa false,.aP [0,1,2,3,4,5] [.box [.id,.id,.id,.id,.id,.id],.bK (av 1 (bp 2 0 2) an),.bK (cf 2 aZ bb),.pure,.pure,.pure] (a8 [0,1])] (.d6 h1 (eF bY 2 2 0 2 rfl an) (dR bY 2 fj bb) (aI 1 .live aN al) (aI 1 .live e7 aL) (aI 1 .live aN bI))))
theorem ND {bx:Int}{an:List bD}{aL:List Bool}{bI:List Int}{qO aK:Bool}{aJ:List Int}{bb:List (List bt)}{al:List Int}{r} (h:Db bx an aL bI qO aK aJ bb al=some r):dM a5 87 6 78 [1,0,1,0,0] (F6 bx an aL bI) (C6 bx an aL bI) (qO,aK,aJ,bb,al) r:=dO (fun _=>Ud) h
def F7 (ef:Int)(aK:Bool)(aJ:List Int)(an:List bD)(bb:List (List bt))(al bI:List Int):(Int×(List Bool))→S:=fun (fs,aL)=>dr [(0,.ref 0 0 0 0),(1,.bf 5 0 0 bI.length),(53,.n .i64 ef),(54,.n .i64 fs)] [[ae.mk 6 [(fV 1 0 0 an.length aK aJ 3 0 0 al.length ef 4 0 0 aL.length)] .live],(av 1 (bp 2 0 2) an),(cf 2 aZ bb),(av 1 eI al),(av 1 eu aL),(av 1 eI bI)]
def Gd (ef:Int)(aK:Bool)(aJ:List Int)(an:List bD)(bb:List (List bt))(al bI:List Int):(List Bool)→dy
 | a=>⟨some 4,[],[[ae.mk 6 [(fV 1 0 0 an.length aK aJ 3 0 0 al.length ef 4 0 0 a.length)] .live],(av 1 (bp 2 0 2) an),(cf 2 aZ bb),(av 1 eI al),(av 1 eu a),(av 1 eI bI)]⟩
def wC (ef:Int)(aK:Bool)(aJ:List Int)(an:List bD)(bb:List (List bt))(al bI:List Int)(fs:Int)(aL:List Bool):Option ((Int×(List Bool))⊕((List Bool))) :=
 if (decide (fs<ef))=true then
  if 0≤fs∧fs<(aL.length:Nat) then
  aL[(0+fs.toNat)]? >>= fun aB =>
  if aB=true then
   sf al fs >>= fun cl =>
   if cl=true then
    some (.inl (R (fs+(1:Int)),aL))
   else
    if an.all (rh bb)=true then
    xN (⟨an.map (iM bb),(⟨aK,aJ⟩:bt),al,ef,aL⟩:qK) bI fs >>= fun et =>
    if (decide (et<(0:Int)))=true then
     if (0+fs.toNat)<aL.length then
     some (.inl (R (fs+(1:Int)),aL.set (0+fs.toNat) false))
     else none
    else
     some (.inl (R (fs+(1:Int)),aL))
    else none
  else
   some (.inl (R (fs+(1:Int)),aL))
  else none
 else
  some (.inr aL)
def Dc (ef:Int)(aK:Bool)(aJ:List Int)(an:List bD)(bb:List (List bt))(al bI:List Int)(fs:Int)(aL:List Bool):Option ((List Bool)):=iter (fun w:Int×(List Bool)=>wC ef aK aJ an bb al bI w.1 w.2) (fs,aL)
theorem Ue {ef:Int}{aK:Bool}{aJ:List Int}{an:List bD}{bb:List (List bt)}{al bI:List Int}{fs:Int}{aL:List Bool}:bB (wC ef aK aJ an bb al bI fs aL) (dL a5 87 6 78 [1,1,0,1,0,0] (F7 ef aK aJ an bb al bI (fs,aL)) (F7 ef aK aJ an bb al bI) (Gd ef aK aJ an bb al bI)):=by
 unfold wC
 exact .ite (fun h1 =>
  .aY fun o =>
  .ar fun aB au =>
  (let t1:List b3:=[(J 1),.aa true,(J 2)];
  .ite (fun aA =>
  .ar fun cl bm =>
  (have aT:=((.bi h1 o.1 o.2 (b2 eu au) aA aA aA aA (.bi aA aA (fv eI al) (fb eI al) (dd aN al) (Km cl bm) (bX.b cl) aA (.e1 aA))):cA _);
  .ite (fun bn =>
  .ret (let q1:=bZ [0,1,2,3,4,5];bg (t1.append [.aw (ah 6 (ai (.b5 (eu aB)) (ah 6 (ai (.call {ac:=[.bs (.c9 (.dF (al.map eI))),ii],r:= .b cl,er:=true,eN:=[3]}) (ah 1 (ai (.aa true) (ah 1 (cw 5 (ai (.aa false) []))))))))),.aa false,(J 2),.aP [0,1,2,3,4,5] [.box [.id,.id,.id,.id,.id,.id],.bK (av 1 (bp 2 0 2) an),.bK (cf 2 aZ bb),.pure,.pure,.pure] (a8 [0,1,53,54])]) (aT.aH (.bi (cV bn) (cV bn) (cV bn) (cV bn) (cV bn) (cV bn) cU (eF q1 2 2 0 2 rfl an) (.c3 (dR q1 2 fj bb) (aI 1 .live aN al) (aI 1 .live e7 aL) (aI 1 .live aN bI))))))
  (fun bn =>
  .aY fun cx =>
  .ar fun et fm =>
  (let t3:List b3:=t1.append [.aw (ah 6 (ai (.b5 (eu aB)) (ah 6 (ai (.call {ac:=[.bs (.c9 (.dF (al.map eI))),ii],r:= .b cl,er:=true,eN:=[3]}) (ah 1 (ai (.aa true) (ah 4 (ai (.call {ac:=[.bs (.ptr [.view 2 (ae.mk 1 (an.map (bp 2 0 2)) .live) ((an.map (iM bb)).map (eA 2 aZ)),.id,.id,.dF (al.map eI),.id,.dF (aL.map eu)]),.bs (.c9 (.dF (bI.map eI))),ii],r:= .n .i64 et,er:=true,eN:=[0,1,2,3,4,5]}) (ah 1 (ai (.aa true) []))))))))))];
  have e3:=aT.aH (.bi (cT bn) (cT bn) (cT bn) (cT bn) (rfl:dn (some (av 1 (bp 2 0 2) an)) 0=some (ae.mk 1 (an.map (bp 2 0 2)) .live)) (rfl:_=true) (fb (bp 2 0 2) an) (dd (nL (sz:=2) sa) (an.map (iM bb))) (.bi (vh (d5:=2) (jB:=[]++(cf 2 aZ bb)) (cc:=kP) (sz:=1) (g:=(eA 2 aZ)) (cR (bp 2 0 2) an) (fun _=>rfl) (fun x U=>(zf (d5:=2) (c:=0) (cc:=kP) (qY:=[]) (gl .live 2 aZ bb) sa rfl jr rfl (yE cx x U))) (dQ an)) (fv eI al) (fb eI al) (dd aN al) (fv eu aL) (fb eu aL) (dd e7 aL) (qL (JN (⟨an.map (iM bb),(⟨aK,aJ⟩:bt),al,ef,aL⟩:qK)):jU [[.isl 1 ((an.map (iM bb)).map (eA 2 aZ)),.b aK,.isl 1 (aJ.map eI),.isl 1 (al.map eI),.n .i64 ef,.isl 1 (aL.map eu)]]) (.eB (fv eI bI) (fb eI bI) (dd aN bI) (NZ et fm) (bX.n .i64 et) (cT bn) (cT bn))));
  .ite (fun eH =>
  .aY fun eS =>
  .ret (let a6:=bZ [0,1,2,3,4,5];bg (t3.append [.aa true,.aw (ah 6 (ai .fX [])),(J 2),.aP [0,1,2,3,4,5] [.box [.id,.id,.id,.id,.id,.len ((aL.set (0+fs.toNat) false).length)],.bK (av 1 (bp 2 0 2) an),.bK (cf 2 aZ bb),.pure,.cE (av 1 eu (aL.set (0+fs.toNat) false)),.pure] (a8 [0,1,53,54])]) (e3.aH (.bi eH o.1 o.2 (hQ eu eS) (hJ 1) (hg (dQ aL) (0+fs.toNat) false) (eF a6 2 2 0 2 rfl an) (dR a6 2 fj bb) (.c3 (aI 1 .live aN al) (cZ 1 .live (gM (cR eu aL) (0+fs.toNat) false)) (aI 1 .live e7 (aL.set (0+fs.toNat) false)) (aI 1 .live aN bI))))))
  (fun eH =>
  .ret (let bY:=bZ [0,1,2,3,4,5];bg (t3.append [.aa false,(J 2),.aP [0,1,2,3,4,5] [.box [.id,.id,.id,.id,.id,.id],.bK (av 1 (bp 2 0 2) an),.bK (cf 2 aZ bb),.pure,.pure,.pure] (a8 [0,1,53,54])]) (e3.aH (.d6 eH (eF bY 2 2 0 2 rfl an) (dR bY 2 fj bb) (aI 1 .live aN al) (aI 1 .live e7 aL) (aI 1 .live aN bI)))))))))
  (fun aA =>
  .ret (let cz:=bZ [0,1,2,3,4,5];bg (t1.append [.aw (ah 6 (ai (.b5 (eu aB)) (ah 1 (cw 7 (ai (.aa false) (ah 1 (cw 5 (ah 1 [])))))))),.aa false,(J 2),.aP [0,1,2,3,4,5] [.box [.id,.id,.id,.id,.id,.id],.bK (av 1 (bp 2 0 2) an),.bK (cf 2 aZ bb),.pure,.pure,.pure] (a8 [0,1,53,54])]) (.bi h1 o.1 o.2 (b2 eu au) aA aA aA aA (.bi aA aA aA aA cU cU cU cU (.eB cU cU (eF cz 2 2 0 2 rfl an) (dR cz 2 fj bb) (aI 1 .live aN al) (aI 1 .live e7 aL) (aI 1 .live aN bI))))))))
  (fun h1 =>
  .ret (let dj:=bZ [0,1,2,3,4,5];bg [(J 1),.aa false,.aP [0,1,2,3,4,5] [.box [.id,.id,.id,.id,.id,.id],.bK (av 1 (bp 2 0 2) an),.bK (cf 2 aZ bb),.pure,.pure,.pure] []] (.d6 h1 (eF dj 2 2 0 2 rfl an) (dR dj 2 fj bb) (aI 1 .live aN al) (aI 1 .live e7 aL) (aI 1 .live aN bI))))
theorem UF {ef:Int}{aK:Bool}{aJ:List Int}{an:List bD}{bb:List (List bt)}{al bI:List Int}{fs:Int}{aL:List Bool}{r} (h:Dc ef aK aJ an bb al bI fs aL=some r):dM a5 87 6 78 [1,1,0,1,0,0] (F7 ef aK aJ an bb al bI) (Gd ef aK aJ an bb al bI) (fs,aL) r:=dO (fun _=>Ue) h
def w6 (o3:Bool)(oZ:List Int)(jK:Int)(eU:List bD)(l7:List (List bt))(ir:List Int)(hG:List Bool)(pp:List Int):Option (Bool×Bool×(List Int)×(List (List bt))×(List Int)×(List Bool)) :=
 Db jK eU hG pp true o3 oZ l7 ir >>= fun r1 =>
 match r1 with
 | .inl dt=>(Dc jK dt.1 dt.2.1 eU dt.2.2.1 dt.2.2.2 pp 0 hG >>= fun ba =>
  some (true,dt.1,dt.2.1,dt.2.2.1,dt.2.2.2,ba))
 | .inr dt=>(some (false,dt.1,dt.2.1,dt.2.2.1,dt.2.2.2,hG))
theorem Vd {o3:Bool}{oZ:List Int}{jK:Int}{eU:List bD}{l7:List (List bt)}{ir:List Int}{hG:List Bool}{pp:List Int}:bB (w6 o3 oZ jK eU l7 ir hG pp) (fun a=>Con a5 78 [.ref 0 0 0 0,.bf 5 0 0 pp.length] [[ae.mk 6 [(fV 1 0 0 eU.length o3 oZ 3 0 0 ir.length jK 4 0 0 hG.length)] .live],(av 1 (bp 2 0 2) eU),(cf 2 aZ l7),(av 1 eI ir),(av 1 eu hG),(av 1 eI pp)] (.b a.1) [[ae.mk 6 [(fV 1 0 0 eU.length a.2.1 a.2.2.1 3 0 0 a.2.2.2.2.1.length jK 4 0 0 a.2.2.2.2.2.length)] .live],(av 1 (bp 2 0 2) eU),(cf 2 aZ a.2.2.2.1),(av 1 eI a.2.2.2.2.1),(av 1 eu a.2.2.2.2.2),(av 1 eI pp)]):=by
 unfold w6
 exact .ar fun r1 o =>
  (let js:=bZ [0,1,2,3,4,5];let t1:List b3:=[(J 1),(J 1),.aP [0,1,2,3,4,5] [.box [.id,.id,.id,.id,.id,.id],.bK (av 1 (bp 2 0 2) eU),.bK (cf 2 aZ l7),.pure,.pure,.pure] (a8 [0,1,5])];
  have aT:=((.dg (eF js 2 2 0 2 rfl eU) (dR js 2 fj l7) (aI 1 .live aN ir) (aI 1 .live e7 hG) (aI 1 .live aN pp)):cA _);
  (by
  rcases r1 with dt|dt
  ·exact (.ar fun ba aA =>
  .ret (let q1:=fV 1 0 0 eU.length dt.1 dt.2.1 3 0 0 dt.2.2.2.length jK 4 0 0 ba.length;let a6:=bZ [0,1,2,3,4,5];let bY:=aI 1 .live aN dt.2.2.2;let cz:=dR a6 2 fj dt.2.2.1;let dj:=cf 2 aZ dt.2.2.1;let f6:=eF a6 2 2 0 2 rfl eU;kH (t1.append [(C6 jK eU hG pp (.inl dt)).e6,(J 5),.aP [0,1,2,3,4,5] [.box [.id,.id,.id,.id,.id,.id],.bK (av 1 (bp 2 0 2) eU),.bK dj,.pure,.pure,.pure] (a8 [0,1,53,54]),(Gd jK dt.1 dt.2.1 eU dt.2.2.1 dt.2.2.2 pp ba).e6,(J 1)]) [0,1,2,3,4,5] [.bK [ae.mk 6 [q1] .live],.bK (av 1 (bp 2 0 2) eU),.bK dj,.pure,.pure,.pure] (aT.aH (.bi (ND o) f6 cz bY (aI 1 .live e7 hG) (aI 1 .live aN pp) (UF aA) (qD a6 6 [q1] [q1] rfl) (.dg f6 cz bY (aI 1 .live e7 ba) (aI 1 .live aN pp))))))
  ·exact (.ret (let h4:=fV 1 0 0 eU.length dt.1 dt.2.1 3 0 0 dt.2.2.2.length jK 4 0 0 hG.length;let fw:=bZ [0,1,2,3,4,5];kH (t1.append [(C6 jK eU hG pp (.inr dt)).e6]) [0,1,2,3,4,5] [.bK [ae.mk 6 [h4] .live],.bK (av 1 (bp 2 0 2) eU),.bK (cf 2 aZ dt.2.2.1),.pure,.pure,.pure] (aT.aH (.eB (ND o) (qD fw 6 [h4] [h4] rfl) (eF fw 2 2 0 2 rfl eU) (dR fw 2 fj dt.2.2.1) (aI 1 .live aN dt.2.2.2) (aI 1 .live e7 hG) (aI 1 .live aN pp)))))))
def Gn (h7 ad:Int)(aK:Bool)(aJ:List Int)(bx:Int)(an:List bD)(bb:List (List bt))(al:List Int)(aL:List Bool):Int→S:=fun aO=>dr [(0,.ref 0 0 0 0),(1,.n .i64 h7),(4,.n .i64 ad),(5,.n .i64 aO)] [[ae.mk 6 [(fV 1 0 0 an.length aK aJ 3 0 0 al.length bx 4 0 0 aL.length)] .live],(av 1 (bp 2 0 2) an),(cf 2 aZ bb),(av 1 eI al),(av 1 eu aL)]
def Gw (h7 ad:Int)(aK:Bool)(aJ:List Int)(bx:Int)(an:List bD)(bb:List (List bt))(al:List Int)(aL:List Bool):Int→dy
 | a=>⟨some 2,[(0,.ref 0 0 0 0),(1,.n .i64 h7),(4,.n .i64 ad),(5,.n .i64 a)],[[ae.mk 6 [(fV 1 0 0 an.length aK aJ 3 0 0 al.length bx 4 0 0 aL.length)] .live],(av 1 (bp 2 0 2) an),(cf 2 aZ bb),(av 1 eI al),(av 1 eu aL)]⟩
def wL (h7 ad:Int)(aK:Bool)(aJ:List Int)(bx:Int)(an:List bD)(bb:List (List bt))(al:List Int)(aL:List Bool)(aO:Int):Option ((Int)⊕(Int)) :=
 if (decide (aO<h7))=true then
  if 0≤ad∧ad<(an.length:Nat) then
  an[(0+ad.toNat)]? >>= fun aB =>
  aB >>= fun lS =>
  bb[lS.1]? >>= fun iR =>
  if 0≤aO∧aO<(lS.2:Nat) then
  iR[(0+aO.toNat)]? >>= fun ja =>
  pc ja >>= fun el =>
  if (el == (0:Int))=true then
   some (.inl (R (aO+(1:Int))))
  else
   some (.inr aO)
  else none
  else none
 else
  some (.inr aO)
def Di (h7 ad:Int)(aK:Bool)(aJ:List Int)(bx:Int)(an:List bD)(bb:List (List bt))(al:List Int)(aL:List Bool)(aO:Int):Option (Int):=iter (fun w:Int=>wL h7 ad aK aJ bx an bb al aL w) aO
theorem Ux {h7 ad:Int}{aK:Bool}{aJ:List Int}{bx:Int}{an:List bD}{bb:List (List bt)}{al:List Int}{aL:List Bool}{aO:Int}:bB (wL h7 ad aK aJ bx an bb al aL aO) (dL a5 86 5 80 [1,0,0,1,0,1,1,0,0,0] (Gn h7 ad aK aJ bx an bb al aL aO) (Gn h7 ad aK aJ bx an bb al aL) (Gw h7 ad aK aJ bx an bb al aL)):=by
 unfold wL
 exact .ite (fun h1 =>
  .aY fun o =>
  .ar fun aB au =>
  .ar fun lS a0 =>
  .ar fun iR bn =>
  .aY fun cx =>
  .ar fun ja fm =>
  .ar fun el eS =>
  (let q1:=ke (gl .live 2 aZ bb) jr bn;let t1:List b3:=[.aw (ah 10 (ai (.b5 ((bp 2 0 2) aB)) (ah 1 (ai (.kw 34 (.bf 2 (lS.1+0) 0 lS.2) (.gm (ae.mk 2 (iR.map aZ) .live) [])) (ai (.gm (ae.mk 2 (iR.map aZ) .live) (aZ ja)) (ai (bw 1 (.n .i64 el) true) (ah 1 (ai (.aa true) []))))))))];
  have aT:=((.bi h1 h1 h1 h1 h1 h1 o.1 o.2 (.bi h1 (b2 (bp 2 0 2) au) h1 h1 (mf (d5:=2) (c:=0) (sz:=2) a0) q1 cx.1 cx.2 (.gu h1 q1 (b2 aZ fm) h1 (ta el eS) (bX.n .i64 el) h1 h1))):cA _);
  .ite (fun eJ =>
  .ret (bg (t1.append [.aa true,(J 3),.aP [0,1,2,3,4] [.box [.id,.id,.id,.id,.id,.id],.bK (av 1 (bp 2 0 2) an),.bK (cf 2 aZ bb),.pure,.pure] (a8 [0,1,4,5])]) (aT.aH (.dg eJ (eF (bZ [0,1,2,3,4]) 2 2 0 2 rfl an) (dR (bZ [0,1,2,3,4]) 2 fj bb) (aI 1 .live aN al) (aI 1 .live e7 aL)))))
  (fun eJ =>
  .ret (bg (t1.append [.aa false,.aP [0,1,2,3,4] [.box [.id,.id,.id,.id,.id,.id],.bK (av 1 (bp 2 0 2) an),.bK (cf 2 aZ bb),.pure,.pure] (a8 [0,1,4,5])]) (aT.aH (.dg eJ (eF (bZ [0,1,2,3,4]) 2 2 0 2 rfl an) (dR (bZ [0,1,2,3,4]) 2 fj bb) (aI 1 .live aN al) (aI 1 .live e7 aL)))))))
  (fun h1 =>
  .ret (bg [.aw (ah 4 (cw 12 (ai (.aa false) []))),.aa false,.aP [0,1,2,3,4] [.box [.id,.id,.id,.id,.id,.id],.bK (av 1 (bp 2 0 2) an),.bK (cf 2 aZ bb),.pure,.pure] (a8 [0,1,4,5])] (.bi h1 h1 h1 h1 h1 h1 h1 h1 (.bi h1 h1 h1 h1 h1 cU (eF (bZ [0,1,2,3,4]) 2 2 0 2 rfl an) (dR (bZ [0,1,2,3,4]) 2 fj bb) (.aE (aI 1 .live aN al) (aI 1 .live e7 aL))))))
theorem Ve {h7 ad:Int}{aK:Bool}{aJ:List Int}{bx:Int}{an:List bD}{bb:List (List bt)}{al:List Int}{aL:List Bool}{aO:Int}{r} (h:Di h7 ad aK aJ bx an bb al aL aO=some r):dM a5 86 5 80 [1,0,0,1,0,1,1,0,0,0] (Gn h7 ad aK aJ bx an bb al aL) (Gw h7 ad aK aJ bx an bb al aL) aO r:=dO (fun _=>Ux) h
def Gp (h7 bx:Int)(aL:List Bool):(Int×Bool×(List Int)×(List bD)×(List (List bt))×(List Int))→S:=fun (ad,aK,aJ,an,bb,al)=>dr [(0,.ref 0 0 0 0),(1,.n .i64 h7),(4,.n .i64 ad)] [[ae.mk 6 [(fV 1 0 0 an.length aK aJ 3 0 0 al.length bx 4 0 0 aL.length)] .live],(av 1 (bp 2 0 2) an),(cf 2 aZ bb),(av 1 eI al),(av 1 eu aL)]
def Gx (h7 bx:Int)(aL:List Bool):(Bool×(List Int)×(List bD)×(List (List bt))×(List Int))→dy
 | a=>⟨some 0,[],[[ae.mk 6 [(fV 1 0 0 a.2.2.1.length a.1 a.2.1 3 0 0 a.2.2.2.2.length bx 4 0 0 aL.length)] .live],(av 1 (bp 2 0 2) a.2.2.1),(cf 2 aZ a.2.2.2.1),(av 1 eI a.2.2.2.2),(av 1 eu aL)]⟩
def zA (h7 bx:Int)(aL:List Bool)(ad:Int)(aK:Bool)(aJ:List Int)(an:List bD)(bb:List (List bt))(al:List Int):Option ((Int×Bool×(List Int)×(List bD)×(List (List bt))×(List Int))⊕(Bool×(List Int)×(List bD)×(List (List bt))×(List Int))) :=
 if (decide (ad<((an.length:Nat):Int)))=true then
  if 0≤ad∧ad<(al.length:Nat) then
  al[(0+ad.toNat)]? >>= fun aB =>
  if (decide (aB<h7))=true then
   some (.inl (R (ad+(1:Int)),aK,aJ,an,bb,al))
  else
   Di h7 ad aK aJ bx an bb al aL 0 >>= fun cl =>
   if (decide (cl<h7))=true then
    xn ad cl aK aJ bx an bb al aL >>= fun cg =>
    some (.inl (R (ad+(1:Int)),cg.1,cg.2.1,an,cg.2.2.1,cg.2.2.2))
   else
    if 0≤ad then
    if 0≤ad.toNat∧ad.toNat≤an.length then
    if 0≤(R (ad+(1:Int))) then
    if (R (ad+(1:Int))).toNat≤an.length then
    if (0+(R (ad+(1:Int))).toNat)+(an.length-(R (ad+(1:Int))).toNat)≤an.length then
    if (ad.toNat-0)+((an.drop (0+(R (ad+(1:Int))).toNat)).take (an.length-(R (ad+(1:Int))).toNat)).length≤an.length then
    if ((an.drop (0+(R (ad+(1:Int))).toNat)).take (an.length-(R (ad+(1:Int))).toNat)).length*24≤140737488355328 then
    if 0≤ad.toNat∧ad.toNat≤al.length then
    if (R (ad+(1:Int))).toNat≤al.length then
    if (0+(R (ad+(1:Int))).toNat)+(al.length-(R (ad+(1:Int))).toNat)≤al.length then
    if (ad.toNat-0)+((al.drop (0+(R (ad+(1:Int))).toNat)).take (al.length-(R (ad+(1:Int))).toNat)).length≤al.length then
    if ((al.drop (0+(R (ad+(1:Int))).toNat)).take (al.length-(R (ad+(1:Int))).toNat)).length*8≤140737488355328 then
    some (.inl (ad,aK,aJ,an.take (ad.toNat-0)++((an.drop (0+(R (ad+(1:Int))).toNat)).take (an.length-(R (ad+(1:Int))).toNat)),bb,al.take (ad.toNat-0)++((al.drop (0+(R (ad+(1:Int))).toNat)).take (al.length-(R (ad+(1:Int))).toNat))))
    else none
    else none
    else none
    else none
    else none
    else none
    else none
    else none
    else none
    else none
    else none
    else none
  else none
 else
  some (.inr (aK,aJ,an,bb,al))
def Hc (h7 bx:Int)(aL:List Bool)(ad:Int)(aK:Bool)(aJ:List Int)(an:List bD)(bb:List (List bt))(al:List Int):Option (Bool×(List Int)×(List bD)×(List (List bt))×(List Int)):=iter (fun w:Int×Bool×(List Int)×(List bD)×(List (List bt))×(List Int)=>zA h7 bx aL w.1 w.2.1 w.2.2.1 w.2.2.2.1 w.2.2.2.2.1 w.2.2.2.2.2) (ad,aK,aJ,an,bb,al)
theorem Uy {h7 bx:Int}{aL:List Bool}{ad:Int}{aK:Bool}{aJ:List Int}{an:List bD}{bb:List (List bt)}{al:List Int}:bB (zA h7 bx aL ad aK aJ an bb al) (dL a5 86 5 80 [1,0,0] (Gp h7 bx aL (ad,aK,aJ,an,bb,al)) (Gp h7 bx aL) (Gx h7 bx aL)):=by
 unfold zA
 exact .ite (fun h1 =>
  .aY fun o =>
  .ar fun aB au =>
  (let t1:List b3:=[(J 7),.aa true,.aw (bo 6 (.b5 (eI aB)) 2)];
  .ite (fun aA =>
  .ret (bg (t1.append [.aa true,(J 3),.aP [0,1,2,3,4] [.box [.id,.id,.id,.id,.id,.id],.bK (av 1 (bp 2 0 2) an),.bK (cf 2 aZ bb),.pure,.pure] (a8 [0,1,4])]) (.bi h1 o.1 o.2 (b2 eI au) aA (eF (bZ [0,1,2,3,4]) 2 2 0 2 rfl an) (dR (bZ [0,1,2,3,4]) 2 fj bb) (aI 1 .live aN al) (.e1 (aI 1 .live e7 aL)))))
  (fun aA =>
  .ar fun cl bm =>
  (let t2:List b3:=t1.append [.aa false,(J 1),.aP [0,1,2,3,4] [.box [.id,.id,.id,.id,.id,.id],.bK (av 1 (bp 2 0 2) an),.bK (cf 2 aZ bb),.pure,.pure] (a8 [0,1,4,5]),(Gw h7 ad aK aJ bx an bb al aL cl).e6,(J 3)];
  have fO:=((.bi h1 o.1 o.2 (b2 eI au) aA (eF (bZ [0,1,2,3,4]) 2 2 0 2 rfl an) (dR (bZ [0,1,2,3,4]) 2 fj bb) (aI 1 .live aN al) (.aE (aI 1 .live e7 aL) (Ve bm))):cA _);
  .ite (fun bn =>
  .ar fun cg cQ =>
  .ret (let q1:=fV 1 0 0 an.length cg.1 cg.2.1 3 0 0 cg.2.2.2.length bx 4 0 0 aL.length;let a6:=fV 1 0 0 an.length aK aJ 3 0 0 al.length bx 4 0 0 aL.length;let bY:=av 1 (bp 2 0 2) an;let cz:=cf 2 aZ cg.2.2.1;let dj:=pt [0,1,2,3,4];let f6:=ic [0,1,2,3,4];let h4:=pu 1 (an.map (bp 2 0 2));bg (t2.append [.aa true,.aw (ah 3 (ai (.call {a2:=(vG [0,1,2,3,4]),da:=[.bK [ae.mk 6 [a6] .live],.bK bY,.bK (cf 2 aZ bb),.pure,.pure],ac:=[ii,ii,ii],r:= .ea [],eV:=[[ae.mk 6 [q1] .live],bY,cz,(av 1 eI cg.2.2.2),(av 1 eu aL)],gr:=ii,hD:=[.bK [ae.mk 6 [q1] .live],.bK bY,.bK cz,.pure,.pure],eN:=[0,1,2,3,4],er:=false}) [])),(J 3),.aP [0,1,2,3,4] [.box [.id,.id,.id,.id,.id,.id],.bK bY,.bK cz,.pure,.pure] (a8 [0,1,4])]) (fO.aH (.bi bn (qD dj 6 [a6] [a6] rfl) (pu 6 [a6]) (eF dj 2 2 0 2 rfl an) h4 (dR dj 2 fj bb) (tZ 2 aZ bb) (f8 1 aN al) (.bi (f8 1 e7 aL) (qD f6 6 [q1] [q1] rfl) (pu 6 [q1]) (eF f6 2 2 0 2 rfl an) h4 (dR f6 2 fj cg.2.2.1) (tZ 2 aZ cg.2.2.1) (f8 1 aN cg.2.2.2) (.d6 (f8 1 e7 aL) (NL cg cQ) (eF (bZ [0,1,2,3,4]) 2 2 0 2 rfl an) (dR (bZ [0,1,2,3,4]) 2 fj cg.2.2.1) (aI 1 .live aN cg.2.2.2) (aI 1 .live e7 aL)))))))
  (fun bn =>
  .aY fun cx =>
  .aY fun cQ =>
  .aY fun fm =>
  .aY fun eH =>
  .aY fun eS =>
  .aY fun eJ =>
  .aY fun fJ =>
  .aY fun ha =>
  .aY fun hN =>
  .aY fun hy =>
  .aY fun gq =>
  .aY fun ft =>
  .ret (let fw:=(R (ad+(1:Int)));let js:=cR (bp 2 0 2) an;let lO:=bZ [0,1,2,3,4];let jb:=cR eI al;bg (t2.append [.aa false,.aw (bo 14 .fX 3),.aw (bo 14 .fX 3),.aP [0,1,2,3,4] [.box [.len ((an.take (ad.toNat-0)++((an.drop (0+fw.toNat)).take (an.length-fw.toNat))).length),.id,.id,.len ((al.take (ad.toNat-0)++((al.drop (0+fw.toNat)).take (al.length-fw.toNat))).length),.id,.id],.bK (av 1 (bp 2 0 2) (an.take (ad.toNat-0)++((an.drop (0+fw.toNat)).take (an.length-fw.toNat)))),.bK (cf 2 aZ bb),.cE (av 1 eI (al.take (ad.toNat-0)++((al.drop (0+fw.toNat)).take (al.length-fw.toNat)))),.pure] (a8 [0,1,4])]) (fO.aH (.bi bn cx cQ.1 cQ.2 fm eH (Nat.le_refl an.length) (qc js eS) (.bi (RE js (oI js (0+fw.toNat) (an.length-fw.toNat)) eJ) (Qy (oI js (0+fw.toNat) (an.length-fw.toNat)) fJ) cx ha.1 ha.2 fm hN (Nat.le_refl al.length) (.bi (qc jb hy) (RE jb (oI jb (0+fw.toNat) (al.length-fw.toNat)) gq) (Qy (oI jb (0+fw.toNat) (al.length-fw.toNat)) ft) ((K1 (RD eJ) (oI js (0+fw.toNat) (an.length-fw.toNat)):(an.take (ad.toNat-0)++((an.drop (0+fw.toNat)).take (an.length-fw.toNat))).length=(ad.toNat-0)+(((an.map (bp 2 0 2)).drop (0+fw.toNat)).take (an.length-fw.toNat)).length).symm) ((K1 (RD gq) (oI jb (0+fw.toNat) (al.length-fw.toNat)):(al.take (ad.toNat-0)++((al.drop (0+fw.toNat)).take (al.length-fw.toNat))).length=(ad.toNat-0)+(((al.map eI).drop (0+fw.toNat)).take (al.length-fw.toNat)).length).symm) (c8 (rY (cd:=lO) 1 .live (bp 2 0 2) (K0 js (ad.toNat-0) (oI js (0+fw.toNat) (an.length-fw.toNat))) (ty (rfl:lO 2=some 2))) (nN (cd:=lO))) (dR lO 2 fj bb) (cZ 1 .live (K0 jb (ad.toNat-0) (oI jb (0+fw.toNat) (al.length-fw.toNat)))) (.aE (aI 1 .live aN (al.take (ad.toNat-0)++((al.drop (0+fw.toNat)).take (al.length-fw.toNat)))) (aI 1 .live e7 aL))))))))))))
  (fun h1 =>
  .ret (bg [(J 7),.aa false,.aP [0,1,2,3,4] [.box [.id,.id,.id,.id,.id,.id],.bK (av 1 (bp 2 0 2) an),.bK (cf 2 aZ bb),.pure,.pure] []] (.dg h1 (eF (bZ [0,1,2,3,4]) 2 2 0 2 rfl an) (dR (bZ [0,1,2,3,4]) 2 fj bb) (aI 1 .live aN al) (aI 1 .live e7 aL))))
theorem Vf {h7 bx:Int}{aL:List Bool}{ad:Int}{aK:Bool}{aJ:List Int}{an:List bD}{bb:List (List bt)}{al:List Int}{r} (h:Hc h7 bx aL ad aK aJ an bb al=some r):dM a5 86 5 80 [1,0,0] (Gp h7 bx aL) (Gx h7 bx aL) (ad,aK,aJ,an,bb,al) r:=dO (fun _=>Uy) h
def zN (h7:Int)(o3:Bool)(oZ:List Int)(jK:Int)(eU:List bD)(l7:List (List bt))(ir:List Int)(hG:List Bool):Option (Bool×(List Int)×(List bD)×(List (List bt))×(List Int)) :=
 Hc h7 jK hG 0 o3 oZ eU l7 ir >>= fun r1 =>
 some (r1.1,r1.2.1,r1.2.2.1,r1.2.2.2.1,r1.2.2.2.2)
theorem VS {h7:Int}{o3:Bool}{oZ:List Int}{jK:Int}{eU:List bD}{l7:List (List bt)}{ir:List Int}{hG:List Bool}:bB (zN h7 o3 oZ jK eU l7 ir hG) (fun a=>Con a5 80 [.ref 0 0 0 0,.n .i64 h7] [[ae.mk 6 [(fV 1 0 0 eU.length o3 oZ 3 0 0 ir.length jK 4 0 0 hG.length)] .live],(av 1 (bp 2 0 2) eU),(cf 2 aZ l7),(av 1 eI ir),(av 1 eu hG)] (.ea []) [[ae.mk 6 [(fV 1 0 0 a.2.2.1.length a.1 a.2.1 3 0 0 a.2.2.2.2.length jK 4 0 0 hG.length)] .live],(av 1 (bp 2 0 2) a.2.2.1),(cf 2 aZ a.2.2.2.1),(av 1 eI a.2.2.2.2),(av 1 eu hG)]):=by
 unfold zN
 exact .ar fun r1 o =>
  .ret (let q1:=fV 1 0 0 r1.2.2.1.length r1.1 r1.2.1 3 0 0 r1.2.2.2.2.length jK 4 0 0 hG.length;let a6:=bZ [0,1,2,3,4];kH [(J 1),.aP [0,1,2,3,4] [.box [.id,.id,.id,.id,.id,.id],.bK (av 1 (bp 2 0 2) eU),.bK (cf 2 aZ l7),.pure,.pure] (a8 [0,1,4]),(Gx h7 jK hG r1).e6] [0,1,2,3,4] [.bK [ae.mk 6 [q1] .live],.bK (av 1 (bp 2 0 2) r1.2.2.1),.bK (cf 2 aZ r1.2.2.2.1),.pure,.pure] (.bi (eF a6 2 2 0 2 rfl eU) (dR a6 2 fj l7) (aI 1 .live aN ir) (aI 1 .live e7 hG) (Vf o) (qD a6 6 [q1] [q1] rfl) (eF a6 2 2 0 2 rfl r1.2.2.1) (dR a6 2 fj r1.2.2.2.1) (.aE (aI 1 .live aN r1.2.2.2.2) (aI 1 .live e7 hG))))
end Go.Proofs.YtmeimpeaagmneaaGreat
namespace Go.Proofs.YtmeimpeaagmneaaGreat
set_option linter.unusedVariables false
set_option linter.unusedSimpArgs false
open Go Go.VL
def H9 (dT c0:Int)(d8 dZ d7:List Int)(a3 ad:Int)(gj ev:Nat)(jN:List Int)(j9:Int)(aK:Bool)(aJ:List Int)(aC:List bD)(al:List Int)(aL:List Bool):(Int×(List (List bt)))→S:=fun (ef,iY)=>dr [(0,.ej 5 [[.n .i64 dT,.n .i64 c0,.isl 1 (d8.map eI),.isl 1 (dZ.map eI),.isl 1 (d7.map eI)]] 0 0),(4,.n .i64 a3),(5,.ref 0 0 0 0),(6,.n .i64 ad),(7,.bf 1 (gj+0) 0 ev),(8,.n .i64 (-1:Int)),(34,.n .i64 dT),(35,.n .i64 ad),(51,.isl 1 (jN.map eI)),(52,.n .i64 j9),(53,.n .i64 ef)] [[ae.mk 6 [(fV 2 0 0 aC.length aK aJ 3 0 0 al.length a3 4 0 0 aL.length)] .live],(cf 2 aZ iY),(av 1 (bp 1 0 2) aC),(av 1 eI al),(av 1 eu aL)]
def IK (dT c0:Int)(d8 dZ d7:List Int)(a3 ad:Int)(gj ev:Nat)(jN:List Int)(j9:Int)(aK:Bool)(aJ:List Int)(aC:List bD)(al:List Int)(aL:List Bool):(List (List bt))→dy
 | a=>⟨some 2,[(0,.ej 5 [[.n .i64 dT,.n .i64 c0,.isl 1 (d8.map eI),.isl 1 (dZ.map eI),.isl 1 (d7.map eI)]] 0 0),(4,.n .i64 a3),(5,.ref 0 0 0 0),(6,.n .i64 ad),(7,.bf 1 (gj+0) 0 ev),(8,.n .i64 (-1:Int)),(34,.n .i64 dT),(35,.n .i64 ad)],[[ae.mk 6 [(fV 2 0 0 aC.length aK aJ 3 0 0 al.length a3 4 0 0 aL.length)] .live],(cf 2 aZ a),(av 1 (bp 1 0 2) aC),(av 1 eI al),(av 1 eu aL)]⟩
def xo (dT c0:Int)(d8 dZ d7:List Int)(a3 ad:Int)(gj ev:Nat)(jN:List Int)(j9:Int)(aK:Bool)(aJ:List Int)(aC:List bD)(al:List Int)(aL:List Bool)(ef:Int)(iY:List (List bt)):Option ((Int×(List (List bt)))⊕((List (List bt)))) :=
 if (decide (ef<j9))=true then
  if 0≤ef∧ef<jN.length then
  jN[ef.toNat]? >>= fun aB =>
  oH (R ((-1:Int)*aB)) >>= fun ax =>
  iY[gj]? >>= fun iR =>
  if 0≤ef∧ef<(ev:Nat) then
  iR[(0+ef.toNat)]? >>= fun ja =>
  some (.inl (R (ef+(1:Int)),iY.set gj (iR.set (0+ef.toNat) ax)))
  else none
  else none
 else
  some (.inr iY)
def DG (dT c0:Int)(d8 dZ d7:List Int)(a3 ad:Int)(gj ev:Nat)(jN:List Int)(j9:Int)(aK:Bool)(aJ:List Int)(aC:List bD)(al:List Int)(aL:List Bool)(ef:Int)(iY:List (List bt)):Option ((List (List bt))):=iter (fun w:Int×(List (List bt))=>xo dT c0 d8 dZ d7 a3 ad gj ev jN j9 aK aJ aC al aL w.1 w.2) (ef,iY)
theorem VT {dT c0:Int}{d8 dZ d7:List Int}{a3 ad:Int}{gj ev:Nat}{jN:List Int}{j9:Int}{aK:Bool}{aJ:List Int}{aC:List bD}{al:List Int}{aL:List Bool}{ef:Int}{iY:List (List bt)}:bB (xo dT c0 d8 dZ d7 a3 ad gj ev jN j9 aK aJ aC al aL ef iY) (dL a5 205 0 56 [1,1,1,0,1,0,0,1,1,0,0,1,1,1,1,0,1,0,0] (H9 dT c0 d8 dZ d7 a3 ad gj ev jN j9 aK aJ aC al aL (ef,iY)) (H9 dT c0 d8 dZ d7 a3 ad gj ev jN j9 aK aJ aC al aL) (IK dT c0 d8 dZ d7 a3 ad gj ev jN j9 aK aJ aC al aL)):=by
 unfold xo
 exact .ite (fun h1 =>
  .aY fun o =>
  .ar fun aB au =>
  .ar fun ax a0 =>
  .ar fun iR bn =>
  .aY fun cx =>
  .ar fun ja fm =>
  .ret (let q1:=ke (gl .live 2 aZ iY) jr bn;bg [(J 1),.aa true,.aw (bo 2 (.b5 (eI aB)) 2),.aw (ah 5 (ai (bw 1 (.agg (aZ ax)) false) (ai (.gm (ae.mk 2 (iR.map aZ) .live) []) (ai (.gm (ae.mk 2 (iR.map aZ) .live) (aZ ja)) [])))),(J 2),.aP [0,1,2,3,4] [.box [.id,.id,.id,.id,.id,.id],.bK (cf 2 aZ (iY.set gj (iR.set (0+ef.toNat) ax))),.bK (av 1 (bp 1 0 2) aC),.pure,.pure] (a8 [0,4,5,6,7,8,34,35,51,52,53])] (.bi h1 o.1 (cW eI o.2) (b2 eI au) (r8 ax a0) q1 cx.1 cx.2 (.d6 q1 (b2 aZ fm) (np (cd:=(bZ [0,1,2,3,4])) (ph (gl .live 2 aZ iY) gj (nk (cR aZ iR) (0+ef.toNat) ax (rfl:(setCells (aZ ja) 0 (aZ ax))=aZ ax))) (mB fj)) (eF (bZ [0,1,2,3,4]) 1 1 0 2 rfl aC) (aI 1 .live aN al) (aI 1 .live e7 aL)))))
  (fun h1 =>
  .ret (bg [(J 1),.aa false,.aP [0,1,2,3,4] [.box [.id,.id,.id,.id,.id,.id],.bK (cf 2 aZ iY),.bK (av 1 (bp 1 0 2) aC),.pure,.pure] (a8 [0,4,5,6,7,8,34,35])] (.dg h1 (dR (bZ [0,1,2,3,4]) 2 fj iY) (eF (bZ [0,1,2,3,4]) 1 1 0 2 rfl aC) (aI 1 .live aN al) (aI 1 .live e7 aL))))
theorem Xs {dT c0:Int}{d8 dZ d7:List Int}{a3 ad:Int}{gj ev:Nat}{jN:List Int}{j9:Int}{aK:Bool}{aJ:List Int}{aC:List bD}{al:List Int}{aL:List Bool}{ef:Int}{iY:List (List bt)}{r} (h:DG dT c0 d8 dZ d7 a3 ad gj ev jN j9 aK aJ aC al aL ef iY=some r):dM a5 205 0 56 [1,1,1,0,1,0,0,1,1,0,0,1,1,1,1,0,1,0,0] (H9 dT c0 d8 dZ d7 a3 ad gj ev jN j9 aK aJ aC al aL) (IK dT c0 d8 dZ d7 a3 ad gj ev jN j9 aK aJ aC al aL) (ef,iY) r:=dO (fun _=>VT) h
def Ia (dT c0:Int)(d8 dZ d7:List Int)(a3 ad:Int)(gj ev:Nat)(jN:List Int)(j9:Int)(aK:Bool)(aJ:List Int)(aC:List bD)(al:List Int)(aL:List Bool):(Int×(List (List bt)))→S:=fun (ef,iY)=>dr [(0,.ej 5 [[.n .i64 dT,.n .i64 c0,.isl 1 (d8.map eI),.isl 1 (dZ.map eI),.isl 1 (d7.map eI)]] 0 0),(4,.n .i64 a3),(5,.ref 0 0 0 0),(6,.n .i64 ad),(7,.bf 1 (gj+0) 0 ev),(8,.n .i64 (1:Int)),(34,.n .i64 dT),(35,.n .i64 ad),(51,.isl 1 (jN.map eI)),(52,.n .i64 j9),(53,.n .i64 ef)] [[ae.mk 6 [(fV 2 0 0 aC.length aK aJ 3 0 0 al.length a3 4 0 0 aL.length)] .live],(cf 2 aZ iY),(av 1 (bp 1 0 2) aC),(av 1 eI al),(av 1 eu aL)]
def IL (dT c0:Int)(d8 dZ d7:List Int)(a3 ad:Int)(gj ev:Nat)(jN:List Int)(j9:Int)(aK:Bool)(aJ:List Int)(aC:List bD)(al:List Int)(aL:List Bool):(List (List bt))→dy
 | a=>⟨some 2,[(0,.ej 5 [[.n .i64 dT,.n .i64 c0,.isl 1 (d8.map eI),.isl 1 (dZ.map eI),.isl 1 (d7.map eI)]] 0 0),(4,.n .i64 a3),(5,.ref 0 0 0 0),(6,.n .i64 ad),(7,.bf 1 (gj+0) 0 ev),(8,.n .i64 (1:Int)),(34,.n .i64 dT),(35,.n .i64 ad)],[[ae.mk 6 [(fV 2 0 0 aC.length aK aJ 3 0 0 al.length a3 4 0 0 aL.length)] .live],(cf 2 aZ a),(av 1 (bp 1 0 2) aC),(av 1 eI al),(av 1 eu aL)]⟩
def xp (dT c0:Int)(d8 dZ d7:List Int)(a3 ad:Int)(gj ev:Nat)(jN:List Int)(j9:Int)(aK:Bool)(aJ:List Int)(aC:List bD)(al:List Int)(aL:List Bool)(ef:Int)(iY:List (List bt)):Option ((Int×(List (List bt)))⊕((List (List bt)))) :=
 if (decide (ef<j9))=true then
  if 0≤ef∧ef<jN.length then
  jN[ef.toNat]? >>= fun aB =>
  oH (R ((1:Int)*aB)) >>= fun ax =>
  iY[gj]? >>= fun iR =>
  if 0≤ef∧ef<(ev:Nat) then
  iR[(0+ef.toNat)]? >>= fun ja =>
  some (.inl (R (ef+(1:Int)),iY.set gj (iR.set (0+ef.toNat) ax)))
  else none
  else none
 else
  some (.inr iY)
def DH (dT c0:Int)(d8 dZ d7:List Int)(a3 ad:Int)(gj ev:Nat)(jN:List Int)(j9:Int)(aK:Bool)(aJ:List Int)(aC:List bD)(al:List Int)(aL:List Bool)(ef:Int)(iY:List (List bt)):Option ((List (List bt))):=iter (fun w:Int×(List (List bt))=>xp dT c0 d8 dZ d7 a3 ad gj ev jN j9 aK aJ aC al aL w.1 w.2) (ef,iY)
theorem VU {dT c0:Int}{d8 dZ d7:List Int}{a3 ad:Int}{gj ev:Nat}{jN:List Int}{j9:Int}{aK:Bool}{aJ:List Int}{aC:List bD}{al:List Int}{aL:List Bool}{ef:Int}{iY:List (List bt)}:bB (xp dT c0 d8 dZ d7 a3 ad gj ev jN j9 aK aJ aC al aL ef iY) (dL a5 205 0 56 [1,1,1,0,1,0,0,1,1,0,0,1,1,1,1,0,1,0,0] (Ia dT c0 d8 dZ d7 a3 ad gj ev jN j9 aK aJ aC al aL (ef,iY)) (Ia dT c0 d8 dZ d7 a3 ad gj ev jN j9 aK aJ aC al aL) (IL dT c0 d8 dZ d7 a3 ad gj ev jN j9 aK aJ aC al aL)):=by
 unfold xp
 exact .ite (fun h1 =>
  .aY fun o =>
  .ar fun aB au =>
  .ar fun ax a0 =>
  .ar fun iR bn =>
  .aY fun cx =>
  .ar fun ja fm =>
  .ret (let q1:=ke (gl .live 2 aZ iY) jr bn;bg [(J 1),.aa true,.aw (bo 2 (.b5 (eI aB)) 2),.aw (ah 5 (ai (bw 1 (.agg (aZ ax)) false) (ai (.gm (ae.mk 2 (iR.map aZ) .live) []) (ai (.gm (ae.mk 2 (iR.map aZ) .live) (aZ ja)) [])))),(J 2),.aP [0,1,2,3,4] [.box [.id,.id,.id,.id,.id,.id],.bK (cf 2 aZ (iY.set gj (iR.set (0+ef.toNat) ax))),.bK (av 1 (bp 1 0 2) aC),.pure,.pure] (a8 [0,4,5,6,7,8,34,35,51,52,53])] (.bi h1 o.1 (cW eI o.2) (b2 eI au) (r8 ax a0) q1 cx.1 cx.2 (.d6 q1 (b2 aZ fm) (np (cd:=(bZ [0,1,2,3,4])) (ph (gl .live 2 aZ iY) gj (nk (cR aZ iR) (0+ef.toNat) ax (rfl:(setCells (aZ ja) 0 (aZ ax))=aZ ax))) (mB fj)) (eF (bZ [0,1,2,3,4]) 1 1 0 2 rfl aC) (aI 1 .live aN al) (aI 1 .live e7 aL)))))
  (fun h1 =>
  .ret (bg [(J 1),.aa false,.aP [0,1,2,3,4] [.box [.id,.id,.id,.id,.id,.id],.bK (cf 2 aZ iY),.bK (av 1 (bp 1 0 2) aC),.pure,.pure] (a8 [0,4,5,6,7,8,34,35])] (.dg h1 (dR (bZ [0,1,2,3,4]) 2 fj iY) (eF (bZ [0,1,2,3,4]) 1 1 0 2 rfl aC) (aI 1 .live aN al) (aI 1 .live e7 aL))))
theorem Xt {dT c0:Int}{d8 dZ d7:List Int}{a3 ad:Int}{gj ev:Nat}{jN:List Int}{j9:Int}{aK:Bool}{aJ:List Int}{aC:List bD}{al:List Int}{aL:List Bool}{ef:Int}{iY:List (List bt)}{r} (h:DH dT c0 d8 dZ d7 a3 ad gj ev jN j9 aK aJ aC al aL ef iY=some r):dM a5 205 0 56 [1,1,1,0,1,0,0,1,1,0,0,1,1,1,1,0,1,0,0] (Ia dT c0 d8 dZ d7 a3 ad gj ev jN j9 aK aJ aC al aL) (IL dT c0 d8 dZ d7 a3 ad gj ev jN j9 aK aJ aC al aL) (ef,iY) r:=dO (fun _=>VU) h
def Ib (dT c0:Int)(d8 dZ d7:List Int)(a3:Int)(aK:Bool)(aJ:List Int)(aL:List Bool):(Int×(List bD)×(List (List bt))×(List Int))→S:=fun (dw,an,bb,al)=>dr [(0,.ej 5 [[.n .i64 dT,.n .i64 c0,.isl 1 (d8.map eI),.isl 1 (dZ.map eI),.isl 1 (d7.map eI)]] 0 0),(4,.n .i64 a3),(5,.ref 0 0 0 0),(34,.n .i64 dT),(35,.n .i64 dw)] [[ae.mk 6 [(fV 1 0 0 an.length aK aJ 3 0 0 al.length a3 4 0 0 aL.length)] .live],(av 1 (bp 2 0 2) an),(cf 2 aZ bb),(av 1 eI al),(av 1 eu aL)]
def IM (dT c0:Int)(d8 dZ d7:List Int)(a3:Int)(aK:Bool)(aJ:List Int)(aL:List Bool):((List bD)×(List (List bt))×(List Int))→dy
 | a=>⟨some 0,[(0,.ej 5 [[.n .i64 dT,.n .i64 c0,.isl 1 (d8.map eI),.isl 1 (dZ.map eI),.isl 1 (d7.map eI)]] 0 0),(4,.n .i64 a3),(5,.ref 0 0 0 0)],[[ae.mk 6 [(fV 1 0 0 a.1.length aK aJ 3 0 0 a.2.2.length a3 4 0 0 aL.length)] .live],(av 1 (bp 2 0 2) a.1),(cf 2 aZ a.2.1),(av 1 eI a.2.2),(av 1 eu aL)]⟩
def xq (dT c0:Int)(d8 dZ d7:List Int)(a3:Int)(aK:Bool)(aJ:List Int)(aL:List Bool)(dw:Int)(an:List bD)(bb:List (List bt))(al:List Int):Option ((Int×(List bD)×(List (List bt))×(List Int))⊕((List bD)×(List (List bt))×(List Int))) :=
 if (decide (dw<dT))=true then
  if 0≤(R (a3+(1:Int)))∧(32:Int)*(R (a3+(1:Int)))≤281474976710656∧(R (a3+(1:Int)))<9223372036854775808 then
  if 0≤dw∧dw<dZ.length then
  dZ[dw.toNat]? >>= fun fM =>
  if (decide (fM<(0:Int)))=true then
   xQ (⟨dT,c0,d8,dZ,d7⟩:hK) dw >>= fun bQ =>
   DG dT c0 d8 dZ d7 a3 dw bb.length ((R (a3+(1:Int))).toNat) bQ (len_ eI bQ) aK aJ an al aL 0 (bb++[(List.replicate (R (a3+(1:Int))).toNat (⟨false,([]:List Int)⟩:bt):List bt)]) >>= fun cg =>
   oH 1 >>= fun dh =>
   cg[bb.length]? >>= fun ly =>
   if 0≤(R (c0+dw))∧(R (c0+dw))<((R (a3+(1:Int))).toNat:Nat) then
   ly[(0+(R (c0+dw)).toNat)]? >>= fun mI =>
   oH (R ((-1:Int)*fM)) >>= fun fi =>
   (cg.set bb.length (ly.set (0+(R (c0+dw)).toNat) dh))[bb.length]? >>= fun o8 =>
   if 0≤a3∧a3<((R (a3+(1:Int))).toNat:Nat) then
   o8[(0+a3.toNat)]? >>= fun vS =>
   if (an++([(some (bb.length,(R (a3+(1:Int))).toNat))]:List bD)).length*24≤140737488355328 then
   if (al++([R (c0+dw)]:List Int)).length*8≤140737488355328 then
   some (.inl (R (dw+(1:Int)),an++([(some (bb.length,(R (a3+(1:Int))).toNat))]:List bD),(cg.set bb.length (ly.set (0+(R (c0+dw)).toNat) dh)).set bb.length (o8.set (0+a3.toNat) fi),al++([R (c0+dw)]:List Int)))
   else none
   else none
   else none
   else none
  else
   xQ (⟨dT,c0,d8,dZ,d7⟩:hK) dw >>= fun bQ =>
   DH dT c0 d8 dZ d7 a3 dw bb.length ((R (a3+(1:Int))).toNat) bQ (len_ eI bQ) aK aJ an al aL 0 (bb++[(List.replicate (R (a3+(1:Int))).toNat (⟨false,([]:List Int)⟩:bt):List bt)]) >>= fun cg =>
   oH 1 >>= fun dh =>
   cg[bb.length]? >>= fun ly =>
   if 0≤(R (c0+dw))∧(R (c0+dw))<((R (a3+(1:Int))).toNat:Nat) then
   ly[(0+(R (c0+dw)).toNat)]? >>= fun mI =>
   oH (R ((1:Int)*fM)) >>= fun fi =>
   (cg.set bb.length (ly.set (0+(R (c0+dw)).toNat) dh))[bb.length]? >>= fun o8 =>
   if 0≤a3∧a3<((R (a3+(1:Int))).toNat:Nat) then
   o8[(0+a3.toNat)]? >>= fun vS =>
   if (an++([(some (bb.length,(R (a3+(1:Int))).toNat))]:List bD)).length*24≤140737488355328 then
   if (al++([R (c0+dw)]:List Int)).length*8≤140737488355328 then
   some (.inl (R (dw+(1:Int)),an++([(some (bb.length,(R (a3+(1:Int))).toNat))]:List bD),(cg.set bb.length (ly.set (0+(R (c0+dw)).toNat) dh)).set bb.length (o8.set (0+a3.toNat) fi),al++([R (c0+dw)]:List Int)))
   else none
   else none
   else none
   else none
  else none
  else none
 else
  some (.inr (an,bb,al))
def DI (dT c0:Int)(d8 dZ d7:List Int)(a3:Int)(aK:Bool)(aJ:List Int)(aL:List Bool)(dw:Int)(an:List bD)(bb:List (List bt))(al:List Int):Option ((List bD)×(List (List bt))×(List Int)):=iter (fun w:Int×(List bD)×(List (List bt))×(List Int)=>xq dT c0 d8 dZ d7 a3 aK aJ aL w.1 w.2.1 w.2.2.1 w.2.2.2) (dw,an,bb,al)
theorem VV {dT c0:Int}{d8 dZ d7:List Int}{a3:Int}{aK:Bool}{aJ:List Int}{aL:List Bool}{dw:Int}{an:List bD}{bb:List (List bt)}{al:List Int}:bB (xq dT c0 d8 dZ d7 a3 aK aJ aL dw an bb al) (dL a5 205 0 56 [1,1,1,0,1,0,0] (Ib dT c0 d8 dZ d7 a3 aK aJ aL (dw,an,bb,al)) (Ib dT c0 d8 dZ d7 a3 aK aJ aL) (IM dT c0 d8 dZ d7 a3 aK aJ aL)):=by
 unfold xq
 exact .ite (fun h1 =>
  .aY fun o =>
  .aY fun af =>
  .ar fun fM aA =>
  (let t1:List b3:=[(J 1),.aa true,(J 2),.aw (bo 2 (.vZ 2 (bb.length+0) (.b5 [.b false,.isl 1 (([]:List Int).map eI)])) 1),(J 1),.aw (bo 6 (.b5 (eI fM)) 1)];
  have aT:=((.bi h1 o.1 (Int.le_refl (R (a3+(1:Int)))) o.2.1 o.2.2 (congrArg (· + 0) (Lq (gl .live 2 aZ bb) rfl)) af.1 (cW eI af.2) (.e1 (b2 eI aA))):cA _);
  .ite (fun a0 =>
  .ar fun bQ bn =>
  .ar fun cg cQ =>
  .ar fun dh eH =>
  .ar fun ly eJ =>
  .aY fun fJ =>
  .ar fun mI hN =>
  .ar fun fi gq =>
  .ar fun o8 gJ =>
  .aY fun ib =>
  .ar fun vS rU =>
  .aY fun pR =>
  .aY fun vQ =>
  .ret (let a6:=(R (a3+(1:Int)));let bY:=R (c0+dw);let q1:=(ph (gl .live 2 aZ cg) bb.length (nk (cR aZ ly) (0+bY.toNat) dh (rfl:(setCells (aZ mI) 0 (aZ dh))=aZ dh)));let cz:=bZ [0,36,1,52,4];let dj:=(al++([bY]:List Int));let f6:=(an++([(some (bb.length,a6.toNat))]:List bD));let h4:=ke (gl .live 2 aZ cg) jr eJ;bg (t1.append [.aa true,(J 1),.aw (bo 2 (bw 2 (.isl 1 (bQ.map eI)) false) 2),.aP [0,2,1,3,4] [.box [.id,.id,.id,.id,.id,.id],.bK (cf 2 aZ (bb++[(List.replicate a6.toNat (⟨false,([]:List Int)⟩:bt):List bt)])),.bK (av 1 (bp 1 0 2) an),.pure,.pure] (a8 [0,4,5,6,7,8,34,35,51,52,53]),(IK dT c0 d8 dZ d7 a3 dw bb.length (a6.toNat) bQ (len_ eI bQ) aK aJ an al aL cg).e6,.aw (ah 7 (ai (bw 1 (.agg (aZ dh)) false) (ai (.gm (ae.mk 2 (ly.map aZ) .live) []) (ai (.gm (ae.mk 2 (ly.map aZ) .live) (aZ mI)) [])))),.aw (ah 9 (ai (.b5 (eI fM)) (ah 1 (ai (bw 1 (.agg (aZ fi)) false) (ai (.gm (ae.mk 2 (o8.map aZ) .live) []) (ai (.gm (ae.mk 2 (o8.map aZ) .live) (aZ vS)) [])))))),.aw (ah 6 (ai (.kw 93 (lQ 1 0 2 (some (bb.length,a6.toNat))) .none) (ai (.aH (f6.length)) (ah 3 [])))),.aw (bo 12 (.aH (dj.length)) 3),(J 2),.aP [0,36,1,52,4] [.box [.id,.id,.id,.id,.id,.id],.bK (av 1 (bp 2 0 2) f6),.bK (cf 2 aZ ((cg.set bb.length (ly.set (0+bY.toNat) dh)).set bb.length (o8.set (0+a3.toNat) fi))),.cE (av 1 eI dj),.pure] (a8 [0,4,5,34,35])]) (aT.aH (.bi a0 (N7 bQ bn) (np (cd:=(bZ [0,2,1,3,4])) (EF (gl .live 2 aZ bb) (EO sa 10 2 (bb.length+0) (lU aZ a6.toNat (⟨false,([]:List Int)⟩:bt)) (EP 10 2 (bb.length+0)))) (mB fj)) (eF (bZ [0,2,1,3,4]) 1 2 0 2 rfl an) (aI 1 .live aN al) (aI 1 .live e7 aL) (Xs cQ) (r8 dh eH) (.bi h4 fJ.1 fJ.2 h4 (b2 aZ hN) af.1 (cW eI af.2) (b2 eI aA) (.bi (r8 fi gq) (ke q1 jr gJ) ib.1 ib.2 (ke q1 jr gJ) (b2 aZ rU) (.s2 1 0 2 bb.length (a6.toNat):kC (.bf 1 (bb.length+0) 0 (a6.toNat)) (lQ 1 0 2 (some (bb.length,a6.toNat)))) (gC (bp 1 0 2) (some (bb.length,a6.toNat))) (.bi (gW (bp 1 0 2) an) (gD (bp 1 0 2) an (some (bb.length,a6.toNat))) pR (gC eI bY) (gW eI al) (gD eI al bY) vQ (c8 (rY (cd:=cz) 1 .live (bp 2 0 2) (hb (bp 1 0 2) an (some (bb.length,a6.toNat))) (ty (rfl:cz 1=some 2))) (nN (cd:=cz))) (.c3 (np (cd:=cz) (ph q1 bb.length (nk (cR aZ o8) (0+a3.toNat) fi (rfl:(setCells (aZ vS) 0 (aZ fi))=aZ fi))) (mB fj)) (cZ 1 .live (hb eI al bY)) (aI 1 .live aN dj) (aI 1 .live e7 aL)))))))))
  (fun a0 =>
  .ar fun bQ bn =>
  .ar fun cg cQ =>
  .ar fun dh eH =>
  .ar fun ly eJ =>
  .aY fun fJ =>
  .ar fun mI hN =>
  .ar fun fi gq =>
  .ar fun o8 gJ =>
  .aY fun ib =>
  .ar fun vS rU =>
  .aY fun pR =>
  .aY fun vQ =>
  .ret (let js:=(R (a3+(1:Int)));let lO:=R (c0+dw);let fw:=(ph (gl .live 2 aZ cg) bb.length (nk (cR aZ ly) (0+lO.toNat) dh (rfl:(setCells (aZ mI) 0 (aZ dh))=aZ dh)));let jb:=bZ [0,36,1,52,4];let pP:=(al++([lO]:List Int));let mG:=(an++([(some (bb.length,js.toNat))]:List bD));let pQ:=ke (gl .live 2 aZ cg) jr eJ;bg (t1.append [.aa false,.aw (bo 2 (bw 2 (.isl 1 (bQ.map eI)) false) 2),.aP [0,2,1,3,4] [.box [.id,.id,.id,.id,.id,.id],.bK (cf 2 aZ (bb++[(List.replicate js.toNat (⟨false,([]:List Int)⟩:bt):List bt)])),.bK (av 1 (bp 1 0 2) an),.pure,.pure] (a8 [0,4,5,6,7,8,34,35,51,52,53]),(IL dT c0 d8 dZ d7 a3 dw bb.length (js.toNat) bQ (len_ eI bQ) aK aJ an al aL cg).e6,.aw (ah 7 (ai (bw 1 (.agg (aZ dh)) false) (ai (.gm (ae.mk 2 (ly.map aZ) .live) []) (ai (.gm (ae.mk 2 (ly.map aZ) .live) (aZ mI)) [])))),.aw (ah 9 (ai (.b5 (eI fM)) (ah 1 (ai (bw 1 (.agg (aZ fi)) false) (ai (.gm (ae.mk 2 (o8.map aZ) .live) []) (ai (.gm (ae.mk 2 (o8.map aZ) .live) (aZ vS)) [])))))),.aw (ah 6 (ai (.kw 93 (lQ 1 0 2 (some (bb.length,js.toNat))) .none) (ai (.aH (mG.length)) (ah 3 [])))),.aw (bo 12 (.aH (pP.length)) 3),(J 2),.aP [0,36,1,52,4] [.box [.id,.id,.id,.id,.id,.id],.bK (av 1 (bp 2 0 2) mG),.bK (cf 2 aZ ((cg.set bb.length (ly.set (0+lO.toNat) dh)).set bb.length (o8.set (0+a3.toNat) fi))),.cE (av 1 eI pP),.pure] (a8 [0,4,5,34,35])]) (aT.aH (.bi a0 (N7 bQ bn) (np (cd:=(bZ [0,2,1,3,4])) (EF (gl .live 2 aZ bb) (EO sa 10 2 (bb.length+0) (lU aZ js.toNat (⟨false,([]:List Int)⟩:bt)) (EP 10 2 (bb.length+0)))) (mB fj)) (eF (bZ [0,2,1,3,4]) 1 2 0 2 rfl an) (aI 1 .live aN al) (aI 1 .live e7 aL) (Xt cQ) (r8 dh eH) (.bi pQ fJ.1 fJ.2 pQ (b2 aZ hN) af.1 (cW eI af.2) (b2 eI aA) (.bi (r8 fi gq) (ke fw jr gJ) ib.1 ib.2 (ke fw jr gJ) (b2 aZ rU) (.s2 1 0 2 bb.length (js.toNat):kC (.bf 1 (bb.length+0) 0 (js.toNat)) (lQ 1 0 2 (some (bb.length,js.toNat)))) (gC (bp 1 0 2) (some (bb.length,js.toNat))) (.bi (gW (bp 1 0 2) an) (gD (bp 1 0 2) an (some (bb.length,js.toNat))) pR (gC eI lO) (gW eI al) (gD eI al lO) vQ (c8 (rY (cd:=jb) 1 .live (bp 2 0 2) (hb (bp 1 0 2) an (some (bb.length,js.toNat))) (ty (rfl:jb 1=some 2))) (nN (cd:=jb))) (.c3 (np (cd:=jb) (ph fw bb.length (nk (cR aZ o8) (0+a3.toNat) fi (rfl:(setCells (aZ vS) 0 (aZ fi))=aZ fi))) (mB fj)) (cZ 1 .live (hb eI al lO)) (aI 1 .live aN pP) (aI 1 .live e7 aL)))))))))))
  (fun h1 =>
  .ret (bg [(J 1),.aa false,.aP [0,1,2,3,4] [.box [.id,.id,.id,.id,.id,.id],.bK (av 1 (bp 2 0 2) an),.bK (cf 2 aZ bb),.pure,.pure] (a8 [0,4,5])] (.dg h1 (eF (bZ [0,1,2,3,4]) 2 2 0 2 rfl an) (dR (bZ [0,1,2,3,4]) 2 fj bb) (aI 1 .live aN al) (aI 1 .live e7 aL))))
theorem Xu {dT c0:Int}{d8 dZ d7:List Int}{a3:Int}{aK:Bool}{aJ:List Int}{aL:List Bool}{dw:Int}{an:List bD}{bb:List (List bt)}{al:List Int}{r} (h:DI dT c0 d8 dZ d7 a3 aK aJ aL dw an bb al=some r):dM a5 205 0 56 [1,1,1,0,1,0,0] (Ib dT c0 d8 dZ d7 a3 aK aJ aL) (IM dT c0 d8 dZ d7 a3 aK aJ aL) (dw,an,bb,al) r:=dO (fun _=>VV) h
def Ic (dT c0:Int)(d8 dZ d7:List Int)(a3 oO:Int)(aK:Bool)(aJ:List Int)(aC:List bD)(dz:List (List bt))(aL:List Int):(Int×(List Int)×(List Bool))→S:=fun (gR,an,bI)=>dr [(0,.ej 5 [[.n .i64 dT,.n .i64 c0,.isl 1 (d8.map eI),.isl 1 (dZ.map eI),.isl 1 (d7.map eI)]] 0 0),(4,.n .i64 a3),(5,.ref 0 0 0 0),(11,.bf 1 0 0 an.length),(117,.n .i64 oO),(118,.n .i64 gR)] [[ae.mk 6 [(fV 2 0 0 aC.length aK aJ 4 0 0 aL.length a3 5 0 0 bI.length)] .live],(av 1 eI an),(av 1 (bp 3 0 2) aC),(cf 2 aZ dz),(av 1 eI aL),(av 1 eu bI)]
def IP (dT c0:Int)(d8 dZ d7:List Int)(a3 oO:Int)(aK:Bool)(aJ:List Int)(aC:List bD)(dz:List (List bt))(aL:List Int):((List Int)×(List Bool))→dy
 | a=>⟨some 4,[(0,.ej 5 [[.n .i64 dT,.n .i64 c0,.isl 1 (d8.map eI),.isl 1 (dZ.map eI),.isl 1 (d7.map eI)]] 0 0),(4,.n .i64 a3),(5,.ref 0 0 0 0),(11,.bf 1 0 0 a.1.length)],[[ae.mk 6 [(fV 2 0 0 aC.length aK aJ 4 0 0 aL.length a3 5 0 0 a.2.length)] .live],(av 1 eI a.1),(av 1 (bp 3 0 2) aC),(cf 2 aZ dz),(av 1 eI aL),(av 1 eu a.2)]⟩
def xr (dT c0:Int)(d8 dZ d7:List Int)(a3 oO:Int)(aK:Bool)(aJ:List Int)(aC:List bD)(dz:List (List bt))(aL:List Int)(gR:Int)(an:List Int)(bI:List Bool):Option ((Int×(List Int)×(List Bool))⊕((List Int)×(List Bool))) :=
 if (decide (gR<oO))=true then
  if 0≤gR∧gR<(bI.length:Nat) then
  if (0+gR.toNat)<bI.length then
  if (decide (c0≤gR))=true then
   if 0≤gR∧gR<(an.length:Nat) then
   if (0+gR.toNat)<an.length then
   some (.inl (R (gR+(1:Int)),an.set (0+gR.toNat) (-1),bI.set (0+gR.toNat) (decide (gR<c0))))
   else none
   else none
  else
   some (.inl (R (gR+(1:Int)),an,bI.set (0+gR.toNat) (decide (gR<c0))))
  else none
  else none
 else
  some (.inr (an,bI))
def DJ (dT c0:Int)(d8 dZ d7:List Int)(a3 oO:Int)(aK:Bool)(aJ:List Int)(aC:List bD)(dz:List (List bt))(aL:List Int)(gR:Int)(an:List Int)(bI:List Bool):Option ((List Int)×(List Bool)):=iter (fun w:Int×(List Int)×(List Bool)=>xr dT c0 d8 dZ d7 a3 oO aK aJ aC dz aL w.1 w.2.1 w.2.2) (gR,an,bI)
theorem VW {dT c0:Int}{d8 dZ d7:List Int}{a3 oO:Int}{aK:Bool}{aJ:List Int}{aC:List bD}{dz:List (List bt)}{aL:List Int}{gR:Int}{an:List Int}{bI:List Bool}:bB (xr dT c0 d8 dZ d7 a3 oO aK aJ aC dz aL gR an bI) (dL a5 205 0 56 [1,1,1,1,1,0,1,0,0] (Ic dT c0 d8 dZ d7 a3 oO aK aJ aC dz aL (gR,an,bI)) (Ic dT c0 d8 dZ d7 a3 oO aK aJ aC dz aL) (IP dT c0 d8 dZ d7 a3 oO aK aJ aC dz aL)):=by
 unfold xr
 exact .ite (fun h1 =>
  .aY fun o =>
  .aY fun af =>
  (let t1:List b3:=[(J 1),.aa true,(J 2),.aw (ah 12 (ai .fX [])),(J 6)];
  have aT:=((.dg h1 o.1 o.2 (hQ eu af) (hJ 1)):cA _);
  .ite (fun au =>
  .aY fun aA =>
  .aY fun a0 =>
  .ret (let q1:=bZ [0,1,2,3,4,5];bg (t1.append [.aa true,.aw (ah 3 (ai .fX [])),(J 2),.aP [0,1,2,3,4,5] [.box [.id,.id,.id,.id,.id,.len ((bI.set (0+gR.toNat) (decide (gR<c0))).length)],.cE (av 1 eI (an.set (0+gR.toNat) (-1))),.bK (av 1 (bp 3 0 2) aC),.bK (cf 2 aZ dz),.pure,.cE (av 1 eu (bI.set (0+gR.toNat) (decide (gR<c0))))] [(0,ii),(4,ii),(5,ii),(11,fU ((an.set (0+gR.toNat) (-1)).length)),(117,ii),(118,ii)]]) (aT.aH (.bi au aA.1 aA.2 (hQ eI a0) (hJ 1) (hg (dQ bI) (0+gR.toNat) (decide (gR<c0))) (cZ 1 .live (gM (cR eI an) (0+gR.toNat) (-1))) (aI 1 .live aN (an.set (0+gR.toNat) (-1))) (.d6 (eF q1 3 3 0 2 rfl aC) (dR q1 2 fj dz) (aI 1 .live aN aL) (cZ 1 .live (gM (cR eu bI) (0+gR.toNat) (decide (gR<c0)))) (aI 1 .live e7 (bI.set (0+gR.toNat) (decide (gR<c0)))) (hg (dQ an) (0+gR.toNat) (-1)))))))
  (fun au =>
  .ret (let a6:=bZ [0,1,2,3,4,5];bg (t1.append [.aa false,(J 2),.aP [0,1,2,3,4,5] [.box [.id,.id,.id,.id,.id,.len ((bI.set (0+gR.toNat) (decide (gR<c0))).length)],.pure,.bK (av 1 (bp 3 0 2) aC),.bK (cf 2 aZ dz),.pure,.cE (av 1 eu (bI.set (0+gR.toNat) (decide (gR<c0))))] (a8 [0,4,5,11,117,118])]) (aT.aH (.gu au (hg (dQ bI) (0+gR.toNat) (decide (gR<c0))) (aI 1 .live aN an) (eF a6 3 3 0 2 rfl aC) (dR a6 2 fj dz) (aI 1 .live aN aL) (cZ 1 .live (gM (cR eu bI) (0+gR.toNat) (decide (gR<c0)))) (aI 1 .live e7 (bI.set (0+gR.toNat) (decide (gR<c0))))))))))
  (fun h1 =>
  .ret (let bY:=bZ [0,1,2,3,4,5];bg [(J 1),.aa false,.aP [0,1,2,3,4,5] [.box [.id,.id,.id,.id,.id,.id],.pure,.bK (av 1 (bp 3 0 2) aC),.bK (cf 2 aZ dz),.pure,.pure] (a8 [0,4,5,11])] (.d6 h1 (aI 1 .live aN an) (eF bY 3 3 0 2 rfl aC) (dR bY 2 fj dz) (aI 1 .live aN aL) (aI 1 .live e7 bI))))
theorem Xv {dT c0:Int}{d8 dZ d7:List Int}{a3 oO:Int}{aK:Bool}{aJ:List Int}{aC:List bD}{dz:List (List bt)}{aL:List Int}{gR:Int}{an:List Int}{bI:List Bool}{r} (h:DJ dT c0 d8 dZ d7 a3 oO aK aJ aC dz aL gR an bI=some r):dM a5 205 0 56 [1,1,1,1,1,0,1,0,0] (Ic dT c0 d8 dZ d7 a3 oO aK aJ aC dz aL) (IP dT c0 d8 dZ d7 a3 oO aK aJ aC dz aL) (gR,an,bI) r:=dO (fun _=>VW) h
def Ie (dT c0:Int)(d8 dZ d7:List Int)(a3 oP:Int)(aK:Bool)(aJ:List Int)(bx:Int)(an:List Int)(aC:List bD)(dz:List (List bt))(aL:List Bool):Int→S:=fun mU=>dr [(0,.ej 5 [[.n .i64 dT,.n .i64 c0,.isl 1 (d8.map eI),.isl 1 (dZ.map eI),.isl 1 (d7.map eI)]] 0 0),(4,.n .i64 a3),(5,.ref 0 0 0 0),(149,.bf 1 0 0 an.length),(150,.n .i64 oP),(151,.n .i64 mU)] [[ae.mk 6 [(fV 2 0 0 aC.length aK aJ 1 0 0 an.length bx 4 0 0 aL.length)] .live],(av 1 eI an),(av 1 (bp 3 0 2) aC),(cf 2 aZ dz),(av 1 eu aL)]
def IQ (dT c0:Int)(d8 dZ d7:List Int)(a3 oP:Int)(aK:Bool)(aJ:List Int)(bx:Int)(an:List Int)(aC:List bD)(dz:List (List bt))(aL:List Bool):((Unit)⊕(Unit))→dy
 | .inl a=>⟨some 6,[(0,.ej 5 [[.n .i64 dT,.n .i64 c0,.isl 1 (d8.map eI),.isl 1 (dZ.map eI),.isl 1 (d7.map eI)]] 0 0),(5,.ref 0 0 0 0)],[[ae.mk 6 [(fV 1 0 0 aC.length aK aJ 3 0 0 an.length bx 4 0 0 aL.length)] .live],(av 1 (bp 2 0 2) aC),(cf 2 aZ dz),(av 1 eI an),(av 1 eu aL)]⟩
 | .inr a=>⟨none,[(2,.ij),(3,.b false)],[]⟩
def xt (dT c0:Int)(d8 dZ d7:List Int)(a3 oP:Int)(aK:Bool)(aJ:List Int)(bx:Int)(an:List Int)(aC:List bD)(dz:List (List bt))(aL:List Bool)(mU:Int):Option ((Int)⊕((Unit)⊕(Unit))) :=
 if (decide (mU<oP))=true then
  if 0≤mU∧mU<(an.length:Nat) then
  an[(0+mU.toNat)]? >>= fun aB =>
  if (decide (c0≤aB))=true then
   if 0≤mU∧mU<(aC.length:Nat) then
   aC[(0+mU.toNat)]? >>= fun c7 =>
   c7 >>= fun ma =>
   dz[ma.1]? >>= fun Fo =>
   if 0≤a3∧a3<(ma.2:Nat) then
   Fo[(0+a3.toNat)]? >>= fun ML =>
   pc ML >>= fun ek =>
   if (decide ((0:Int)<ek))=true then
    some (.inr (.inr ()))
   else
    some (.inl (R (mU+(1:Int))))
   else none
   else none
  else
   some (.inl (R (mU+(1:Int))))
  else none
 else
  some (.inr (.inl ()))
def DK (dT c0:Int)(d8 dZ d7:List Int)(a3 oP:Int)(aK:Bool)(aJ:List Int)(bx:Int)(an:List Int)(aC:List bD)(dz:List (List bt))(aL:List Bool)(mU:Int):Option ((Unit)⊕(Unit)):=iter (fun w:Int=>xt dT c0 d8 dZ d7 a3 oP aK aJ bx an aC dz aL w) mU
theorem VX {dT c0:Int}{d8 dZ d7:List Int}{a3 oP:Int}{aK:Bool}{aJ:List Int}{bx:Int}{an:List Int}{aC:List bD}{dz:List (List bt)}{aL:List Bool}{mU:Int}:bB (xt dT c0 d8 dZ d7 a3 oP aK aJ bx an aC dz aL mU) (dL a5 205 0 56 [1,1,1,1,1,1,1,0,1,0,0] (Ie dT c0 d8 dZ d7 a3 oP aK aJ bx an aC dz aL mU) (Ie dT c0 d8 dZ d7 a3 oP aK aJ bx an aC dz aL) (IQ dT c0 d8 dZ d7 a3 oP aK aJ bx an aC dz aL)):=by
 unfold xt
 exact .ite (fun h1 =>
  .aY fun o =>
  .ar fun aB au =>
  (let t1:List b3:=[(J 1),.aa true,.aw (bo 2 (.b5 (eI aB)) 2)];
  .ite (fun aA =>
  .aY fun a0 =>
  .ar fun c7 bn =>
  .ar fun ma cQ =>
  .ar fun Fo eH =>
  .aY fun eS =>
  .ar fun ML fJ =>
  .ar fun ek hN =>
  (let q1:=ke (gl .live 2 aZ dz) jr eH;let t2:List b3:=t1.append [.aw (ah 13 (ai (.b5 ((bp 3 0 2) c7)) (ah 1 (ai (.kw 169 (.bf 3 (ma.1+0) 0 ma.2) (.gm (ae.mk 2 (Fo.map aZ) .live) [])) (ai (.gm (ae.mk 2 (Fo.map aZ) .live) (aZ ML)) (ai (bw 1 (.n .i64 ek) true) (ah 1 (ai (.aa true) []))))))))];
  have fO:=((.bi h1 o.1 o.2 (b2 eI au) aA aA aA aA (.bi aA aA a0.1 a0.2 aA (b2 (bp 3 0 2) bn) aA aA (.bi (mf (d5:=3) (c:=0) (sz:=2) cQ) q1 eS.1 eS.2 aA q1 (b2 aZ fJ) aA (.c3 (ta ek hN) (bX.n .i64 ek) aA aA)))):cA _);
  .ite (fun hy =>
  .ret (bg (t2.append [.aa true,(J 2),.aP [] [] (a8 [2,3])]) (fO.aH (.e1 hy))))
  (fun hy =>
  .ret (bg (t2.append [.aa false,(J 2),.aP [0,1,2,3,4] [.box [.id,.id,.id,.id,.id,.id],.pure,.bK (av 1 (bp 3 0 2) aC),.bK (cf 2 aZ dz),.pure] (a8 [0,4,5,149,150,151])]) (fO.aH (.dg hy (aI 1 .live aN an) (eF (bZ [0,1,2,3,4]) 3 3 0 2 rfl aC) (dR (bZ [0,1,2,3,4]) 2 fj dz) (aI 1 .live e7 aL)))))))
  (fun aA =>
  .ret (bg (t1.append [.aw (ah 7 (cw 12 (ai (.aa false) []))),.aa false,(J 2),.aP [0,1,2,3,4] [.box [.id,.id,.id,.id,.id,.id],.pure,.bK (av 1 (bp 3 0 2) aC),.bK (cf 2 aZ dz),.pure] (a8 [0,4,5,149,150,151])]) (.bi h1 o.1 o.2 (b2 eI au) aA aA aA aA (.bi aA aA aA aA aA aA aA aA (.d6 aA cU (aI 1 .live aN an) (eF (bZ [0,1,2,3,4]) 3 3 0 2 rfl aC) (dR (bZ [0,1,2,3,4]) 2 fj dz) (aI 1 .live e7 aL))))))))
  (fun h1 =>
  .ret (bg [(J 1),.aa false,.aP [0,2,3,1,4] [.box [.id,.id,.id,.id,.id,.id],.bK (av 1 (bp 2 0 2) aC),.bK (cf 2 aZ dz),.pure,.pure] (a8 [0,5])] (.dg h1 (eF (bZ [0,2,3,1,4]) 2 3 0 2 rfl aC) (dR (bZ [0,2,3,1,4]) 2 fj dz) (aI 1 .live aN an) (aI 1 .live e7 aL))))
theorem Oj {dT c0:Int}{d8 dZ d7:List Int}{a3 oP:Int}{aK:Bool}{aJ:List Int}{bx:Int}{an:List Int}{aC:List bD}{dz:List (List bt)}{aL:List Bool}{mU:Int}{r} (h:DK dT c0 d8 dZ d7 a3 oP aK aJ bx an aC dz aL mU=some r):dM a5 205 0 56 [1,1,1,1,1,1,1,0,1,0,0] (Ie dT c0 d8 dZ d7 a3 oP aK aJ bx an aC dz aL) (IQ dT c0 d8 dZ d7 a3 oP aK aJ bx an aC dz aL) mU r:=dO (fun _=>VX) h
def Ig (dT c0:Int)(d8 dZ d7:List Int)(oQ:Int)(aK:Bool)(aJ:List Int)(bx:Int)(an:List bD)(bb:List (List bt))(al:List Int):(Int×(List Bool))→S:=fun (kO,aL)=>dr [(0,.ej 5 [[.n .i64 dT,.n .i64 c0,.isl 1 (d8.map eI),.isl 1 (dZ.map eI),.isl 1 (d7.map eI)]] 0 0),(5,.ref 0 0 0 0),(181,.n .i64 oQ),(182,.n .i64 kO)] [[ae.mk 6 [(fV 1 0 0 an.length aK aJ 3 0 0 al.length bx 4 0 0 aL.length)] .live],(av 1 (bp 2 0 2) an),(cf 2 aZ bb),(av 1 eI al),(av 1 eu aL)]
def IR (dT c0:Int)(d8 dZ d7:List Int)(oQ:Int)(aK:Bool)(aJ:List Int)(bx:Int)(an:List bD)(bb:List (List bt))(al:List Int):(List Bool)→dy
 | a=>⟨some 8,[(0,.ej 5 [[.n .i64 dT,.n .i64 c0,.isl 1 (d8.map eI),.isl 1 (dZ.map eI),.isl 1 (d7.map eI)]] 0 0),(5,.ref 0 0 0 0)],[[ae.mk 6 [(fV 1 0 0 an.length aK aJ 3 0 0 al.length bx 4 0 0 a.length)] .live],(av 1 (bp 2 0 2) an),(cf 2 aZ bb),(av 1 eI al),(av 1 eu a)]⟩
def xu (dT c0:Int)(d8 dZ d7:List Int)(oQ:Int)(aK:Bool)(aJ:List Int)(bx:Int)(an:List bD)(bb:List (List bt))(al:List Int)(kO:Int)(aL:List Bool):Option ((Int×(List Bool))⊕((List Bool))) :=
 if (decide (kO<oQ))=true then
  if 0≤kO∧kO<(aL.length:Nat) then
  if (0+kO.toNat)<aL.length then
  some (.inl (R (kO+(1:Int)),aL.set (0+kO.toNat) (decide (kO<c0))))
  else none
  else none
 else
  some (.inr aL)
def DL (dT c0:Int)(d8 dZ d7:List Int)(oQ:Int)(aK:Bool)(aJ:List Int)(bx:Int)(an:List bD)(bb:List (List bt))(al:List Int)(kO:Int)(aL:List Bool):Option ((List Bool)):=iter (fun w:Int×(List Bool)=>xu dT c0 d8 dZ d7 oQ aK aJ bx an bb al w.1 w.2) (kO,aL)
theorem VY {dT c0:Int}{d8 dZ d7:List Int}{oQ:Int}{aK:Bool}{aJ:List Int}{bx:Int}{an:List bD}{bb:List (List bt)}{al:List Int}{kO:Int}{aL:List Bool}:bB (xu dT c0 d8 dZ d7 oQ aK aJ bx an bb al kO aL) (dL a5 205 0 56 [1,1,1,1,1,1,1,1,0,1,0,0] (Ig dT c0 d8 dZ d7 oQ aK aJ bx an bb al (kO,aL)) (Ig dT c0 d8 dZ d7 oQ aK aJ bx an bb al) (IR dT c0 d8 dZ d7 oQ aK aJ bx an bb al)):=by
 unfold xu
 exact .ite (fun h1 =>
  .aY fun o =>
  .aY fun af =>
  .ret (bg [(J 1),.aa true,(J 2),.aw (ah 12 (ai .fX [])),(J 2),.aP [0,1,2,3,4] [.box [.id,.id,.id,.id,.id,.len ((aL.set (0+kO.toNat) (decide (kO<c0))).length)],.bK (av 1 (bp 2 0 2) an),.bK (cf 2 aZ bb),.pure,.cE (av 1 eu (aL.set (0+kO.toNat) (decide (kO<c0))))] (a8 [0,5,181,182])] (.bi h1 o.1 o.2 (hQ eu af) (hJ 1) (hg (dQ aL) (0+kO.toNat) (decide (kO<c0))) (eF (bZ [0,1,2,3,4]) 2 2 0 2 rfl an) (dR (bZ [0,1,2,3,4]) 2 fj bb) (.bP (aI 1 .live aN al) (cZ 1 .live (gM (cR eu aL) (0+kO.toNat) (decide (kO<c0)))) (aI 1 .live e7 (aL.set (0+kO.toNat) (decide (kO<c0))))))))
  (fun h1 =>
  .ret (bg [(J 1),.aa false,.aP [0,1,2,3,4] [.box [.id,.id,.id,.id,.id,.id],.bK (av 1 (bp 2 0 2) an),.bK (cf 2 aZ bb),.pure,.pure] (a8 [0,5])] (.dg h1 (eF (bZ [0,1,2,3,4]) 2 2 0 2 rfl an) (dR (bZ [0,1,2,3,4]) 2 fj bb) (aI 1 .live aN al) (aI 1 .live e7 aL))))
theorem Xw {dT c0:Int}{d8 dZ d7:List Int}{oQ:Int}{aK:Bool}{aJ:List Int}{bx:Int}{an:List bD}{bb:List (List bt)}{al:List Int}{kO:Int}{aL:List Bool}{r} (h:DL dT c0 d8 dZ d7 oQ aK aJ bx an bb al kO aL=some r):dM a5 205 0 56 [1,1,1,1,1,1,1,1,0,1,0,0] (Ig dT c0 d8 dZ d7 oQ aK aJ bx an bb al) (IR dT c0 d8 dZ d7 oQ aK aJ bx an bb al) (kO,aL) r:=dO (fun _=>VY) h
def Ay (ch:hK):Option ((Bool×(List Int)×Int×(List bD)×(List Int)×(List Bool)×(List (List bt)))⊕(Unit)) :=
 oH 1 >>= fun r1 =>
 if 0≤(R (ch.ed+ch.fy))∧(1:Int)*(R (ch.ed+ch.fy))≤281474976710656∧(R (ch.ed+ch.fy))<9223372036854775808 then
 DI ch.fy ch.ed ch.dp ch.dN ch.hU (R (ch.ed+ch.fy)) r1.cS r1.cJ (List.replicate (R (ch.ed+ch.fy)).toNat false:List Bool) 0 ([]:List bD) ([]:List (List bt)) ([]:List Int) >>= fun ba =>
 if 0≤(R (ch.ed+ch.fy))∧(8:Int)*(R (ch.ed+ch.fy))≤281474976710656∧(R (ch.ed+ch.fy))<9223372036854775808 then
 DJ ch.fy ch.ed ch.dp ch.dN ch.hU (R (ch.ed+ch.fy)) (((R (ch.ed+ch.fy)).toNat:Nat):Int) r1.cS r1.cJ ba.1 ba.2.1 ba.2.2 0 (List.replicate (R (ch.ed+ch.fy)).toNat 0:List Int) (List.replicate (R (ch.ed+ch.fy)).toNat false:List Bool) >>= fun bQ =>
 w6 r1.cS r1.cJ (R (ch.ed+ch.fy)) ba.1 ba.2.1 ba.2.2 bQ.2 bQ.1 >>= fun cg =>
 DK ch.fy ch.ed ch.dp ch.dN ch.hU (R (ch.ed+ch.fy)) ((cg.2.2.2.2.1.length:Nat):Int) cg.2.1 cg.2.2.1 (R (ch.ed+ch.fy)) cg.2.2.2.2.1 ba.1 cg.2.2.2.1 cg.2.2.2.2.2 0 >>= fun dh =>
 match dh with
 | .inl g9=>(DL ch.fy ch.ed ch.dp ch.dN ch.hU ((cg.2.2.2.2.2.length:Nat):Int) cg.2.1 cg.2.2.1 (R (ch.ed+ch.fy)) ba.1 cg.2.2.2.1 cg.2.2.2.2.1 0 cg.2.2.2.2.2 >>= fun fo =>
  zN ch.ed cg.2.1 cg.2.2.1 (R (ch.ed+ch.fy)) ba.1 cg.2.2.2.1 cg.2.2.2.2.1 fo >>= fun ek =>
  some (.inl (ek.1,ek.2.1,(R (ch.ed+ch.fy)),ek.2.2.1,ek.2.2.2.2,fo,ek.2.2.2.1)))
 | .inr g9=>(some (.inr ()))
 else none
 else none
set_option maxHeartbeats 4000000 in
theorem OK {ch:hK}:bB (Ay ch) (Sum.elim (fun a=>Con a5 56 [.ej 5 [(og ch)] 0 0] [] (.ea [.ref 0 0 0 0,.b true]) [(ae.mk 6 [(fV 0 1 0 a.2.2.2.1.length a.1 a.2.1 0 2 0 a.2.2.2.2.1.length a.2.2.1 0 3 0 a.2.2.2.2.2.1.length)] .live::ae.mk 1 (a.2.2.2.1.map (bp 0 4 2)) .live::ae.mk 1 (a.2.2.2.2.1.map eI) .live::ae.mk 1 (a.2.2.2.2.2.1.map eu) .live::(cf 2 aZ a.2.2.2.2.2.2))]) (fun a=>Con a5 56 [.ej 5 [(og ch)] 0 0] [] (.ea [.ij,.b false]) [])):=by
 unfold Ay
 exact .ar fun r1 o =>
  .aY fun af =>
  .ar fun ba aA =>
  .aY fun a0 =>
  .ar fun bQ bn =>
  .ar fun cg cQ =>
  .ar fun dh eH =>
  (let jb:=R (ch.ed+ch.fy);let pP:=fV 1 0 0 ba.1.length cg.2.1 cg.2.2.1 3 0 0 cg.2.2.2.2.1.length jb 4 0 0 cg.2.2.2.2.2.length;let mG:=fV 2 0 0 ba.1.length cg.2.1 cg.2.2.1 4 0 0 cg.2.2.2.2.1.length jb 5 0 0 cg.2.2.2.2.2.length;let pQ:=(List.replicate jb.toNat false:List Bool);let vL:=bZ [17,24,25,26,15];let vM:=fV 1 0 0 ba.1.length r1.cS r1.cJ 3 0 0 ba.2.2.length jb 4 0 0 bQ.2.length;let zn:=fV 2 0 0 ba.1.length r1.cS r1.cJ 4 0 0 ba.2.2.length jb 5 0 0 bQ.2.length;let zk:=cf 2 aZ cg.2.2.2.1;let vN:=(List.replicate jb.toNat 0:List Int);let vO:=av 1 (bp 3 0 2) ba.1;let zl:=pt [0,2,3,4,5,1];let zm:=ic [0,2,3,4,5,1];let vP:=av 1 (bp 2 0 2) ba.1;let Cu:=bZ [0,6,1,2,3,4];let t1:List b3:=[(J 2),(J 10),.aw (bo 1 (bw 1 (.agg (aZ r1)) false) 5),(J 5),.rS 17 0 1,.Fg,.rS 17 3 1,.aP [17,24,25,26,15] [.box [.len (([]:List bD).length),.id,.id,.len (([]:List Int).length),.id,.len (pQ.length)],.bK (av 1 (bp 2 0 2) ([]:List bD)),.bK (cf 2 aZ ([]:List (List bt))),.cE (av 1 eI ([]:List Int)),.cE (av 1 eu pQ)] (a8 [0,4,5,34,35]),(IM ch.fy ch.ed ch.dp ch.dN ch.hU jb r1.cS r1.cJ pQ ba).e6,(J 3),(J 3),.aP [0,6,1,2,3,4] [.box [.id,.id,.id,.id,.id,.id],.cE (av 1 eI vN),.bK vO,.bK (cf 2 aZ ba.2.1),.pure,.pure] [(0,ii),(4,ii),(5,ii),(11,fU (vN.length)),(117,ii),(118,ii)],(IP ch.fy ch.ed ch.dp ch.dN ch.hU jb ((jb.toNat:Nat):Int) r1.cS r1.cJ ba.1 ba.2.1 ba.2.2 bQ).e6,.aw (ah 2 (ai (.call {a2:=(vG [0,2,3,4,5,1]),da:=[.bK [ae.mk 6 [vM] .live],.bK vP,.bK (cf 2 aZ ba.2.1),.pure,.pure,.pure],ac:=[ii,ii],r:= .b cg.1,eV:=[[ae.mk 6 [pP] .live],vP,zk,(av 1 eI cg.2.2.2.2.1),(av 1 eu cg.2.2.2.2.2),(av 1 eI bQ.1)],gr:=ii,hD:=[.bK [ae.mk 6 [mG] .live],.bK vO,.bK zk,.pure,.pure,.pure],eN:=[0,1,2,3,4,5],er:=false}) [])),(J 6),.aP [0,4,2,3,5] [.box [.id,.id,.id,.id,.id,.id],.pure,.bK vO,.bK zk,.pure] (a8 [0,4,5,149,150,151])];
  have aT:=((.bi (r8 r1 o) af.1 (Int.le_refl jb) af.2.1 af.2.2 (fc bD) (fc Int) (me jb.toNat (false:Bool)) (.bi (c8 (rY (cd:=vL) 1 .live (bp 2 0 2) (nd (bp 25 0 2)) (ty (rfl:vL 25=some 2))) (nN (cd:=vL))) (np (cd:=vL) (Rz .live 2 aZ) (mB fj)) (cZ 1 .live (nd eI)) (aI 1 .live aN ([]:List Int)) (cZ 1 .live (lU eu jb.toNat false)) (aI 1 .live e7 pQ) (Xu aA) a0.1 (.bi (Int.le_refl jb) a0.2.1 a0.2.2 (cZ 1 .live (lU eI jb.toNat 0)) (aI 1 .live aN vN) (eF Cu 3 2 0 2 rfl ba.1) (dR Cu 2 fj ba.2.1) (aI 1 .live aN ba.2.2) (.bi (aI 1 .live e7 pQ) (me jb.toNat (0:Int)) (Xv bn) (qD zl 6 [vM] [zn] rfl) (pu 6 [zn]) (eF zl 2 3 0 2 rfl ba.1) (pu 1 (ba.1.map (bp 3 0 2))) (dR zl 2 fj ba.2.1) (.bi (tZ 2 aZ ba.2.1) (f8 1 aN ba.2.2) (f8 1 e7 bQ.2) (f8 1 aN bQ.1) (qD zm 6 [mG] [pP] rfl) (pu 6 [pP]) (eF zm 3 2 0 2 rfl ba.1) (pu 1 (ba.1.map (bp 2 0 2))) (.bi (dR zm 2 fj cg.2.2.2.1) (tZ 2 aZ cg.2.2.2.1) (f8 1 aN cg.2.2.2.2.1) (f8 1 e7 cg.2.2.2.2.2) (f8 1 aN bQ.1) (Vd cg cQ) (aI 1 .live aN cg.2.2.2.2.1) (eF (bZ [0,4,2,3,5]) 3 3 0 2 rfl ba.1) (.aE (dR (bZ [0,4,2,3,5]) 2 fj cg.2.2.2.1) (aI 1 .live e7 cg.2.2.2.2.2)))))))):cA _);
  (by
  rcases dh with g9|g9
  ·exact (.ar fun fo fJ =>
  .ar fun ek hN =>
  .ret (let bY:=cf 2 aZ ek.2.2.2.1;let cz:=av 1 (bp 2 0 2) ek.2.2.1;let dj:=R (ch.ed+ch.fy);let q1:=fV 1 0 0 ek.2.2.1.length ek.1 ek.2.1 3 0 0 ek.2.2.2.2.length dj 4 0 0 fo.length;let a6:=fV 1 0 0 ba.1.length cg.2.1 cg.2.2.1 3 0 0 cg.2.2.2.2.1.length dj 4 0 0 fo.length;let f6:=pt [0,1,2,3,4];let h4:=ic [0,1,2,3,4];let fw:=av 1 (bp 0 4 2) ek.2.2.1;let js:=cf 2 aZ cg.2.2.2.1;let lO:=av 1 (bp 2 0 2) ba.1;kH (t1.append [(IQ ch.fy ch.ed ch.dp ch.dN ch.hU dj ((cg.2.2.2.2.1.length:Nat):Int) cg.2.1 cg.2.2.1 dj cg.2.2.2.2.1 ba.1 cg.2.2.2.1 cg.2.2.2.2.2 (.inl g9)).e6,(J 6),.aP [0,1,2,3,4] [.box [.id,.id,.id,.id,.id,.id],.bK lO,.bK js,.pure,.pure] (a8 [0,5,181,182]),(IR ch.fy ch.ed ch.dp ch.dN ch.hU ((cg.2.2.2.2.2.length:Nat):Int) cg.2.1 cg.2.2.1 dj ba.1 cg.2.2.2.1 cg.2.2.2.2.1 fo).e6,.aw (ah 5 (ai (.call {a2:=(vG [0,1,2,3,4]),da:=[.bK [ae.mk 6 [a6] .live],.bK lO,.bK js,.pure,.pure],ac:=[ii,ii],r:= .ea [],eV:=[[ae.mk 6 [q1] .live],cz,bY,(av 1 eI ek.2.2.2.2),(av 1 eu fo)],gr:=ii,hD:=[.bK [ae.mk 6 [q1] .live],.bK cz,.bK bY,.pure,.pure],eN:=[0,1,2,3,4],er:=false}) [])),(J 3),.Cp [{bL:=[(0,0),(1,0),(3,0),(4,0)],iP:=some (2,0)}] [([.box [.at_ 0 1 ek.2.2.1.length,.id,.id,.at_ 0 2 ek.2.2.2.2.length,.id,.at_ 0 3 fo.length],.rx fw,.pure,.pure],some (.rx bY))] [(2,.bs (.c9 (.at_ 0 0 0))),(3,ii)]]) [0] [.bK (ae.mk 6 [(fV 0 1 0 ek.2.2.1.length ek.1 ek.2.1 0 2 0 ek.2.2.2.2.length dj 0 3 0 fo.length)] .live::ae.mk 1 (ek.2.2.1.map (bp 0 4 2)) .live::ae.mk 1 (ek.2.2.2.2.map eI) .live::ae.mk 1 (fo.map eu) .live::bY)] (aT.aH (.bi (Oj eH) (eF (bZ [0,1,2,3,4]) 2 2 0 2 rfl ba.1) (dR (bZ [0,1,2,3,4]) 2 fj cg.2.2.2.1) (aI 1 .live aN cg.2.2.2.2.1) (aI 1 .live e7 cg.2.2.2.2.2) (Xw fJ) (qD f6 6 [a6] [a6] rfl) (pu 6 [a6]) (.bi (eF f6 2 2 0 2 rfl ba.1) (pu 1 (ba.1.map (bp 2 0 2))) (dR f6 2 fj cg.2.2.2.1) (tZ 2 aZ cg.2.2.2.1) (f8 1 aN cg.2.2.2.2.1) (f8 1 e7 fo) (qD h4 6 [q1] [q1] rfl) (pu 6 [q1]) (.bi (eF h4 2 2 0 2 rfl ek.2.2.1) (pu 1 (ek.2.2.1.map (bp 2 0 2))) (dR h4 2 fj ek.2.2.2.1) (tZ 2 aZ ek.2.2.2.1) (f8 1 aN ek.2.2.2.2) (f8 1 e7 fo) (VS ek hN) (rfl:(kT [{bL:=[(0,0),(1,0),(3,0),(4,0)],iP:=some (2,0)}]) 0 1=some (1,0)) (.bi (rfl:ek.2.2.1.length=ek.2.2.1.length) (rfl:(kT [{bL:=[(0,0),(1,0),(3,0),(4,0)],iP:=some (2,0)}]) 0 2=some (3,0)) (rfl:ek.2.2.2.2.length=ek.2.2.2.2.length) (rfl:(kT [{bL:=[(0,0),(1,0),(3,0),(4,0)],iP:=some (2,0)}]) 0 3=some (4,0)) (rfl:fo.length=fo.length) (Q7 (LF (ki:=(bp 0 4 2)) (cR (bp 2 0 2) ek.2.2.1) (fun _=>rfl) (fun x=>(R7 (fun _=>rfl)) x)) RB:rQ (kT [{bL:=[(0,0),(1,0),(3,0),(4,0)],iP:=some (2,0)}]) cz fw) (aI 1 .live aN ek.2.2.2.2) (aI 1 .live e7 fo) (.bP (Q9 (gl .live 2 aZ ek.2.2.2.1) (fun _=>rfl) fj:rQ (kT [{bL:=[(0,0),(1,0),(3,0),(4,0)],iP:=some (2,0)}]) bY bY) (rfl:(kT [{bL:=[(0,0),(1,0),(3,0),(4,0)],iP:=some (2,0)}]) 0 0=some (0,0)) (c8 (show ae.mk 6 [(fV 0 1 0 ek.2.2.1.length ek.1 ek.2.1 0 2 0 ek.2.2.2.2.length (R (ch.ed+ch.fy)) 0 3 0 fo.length)] .live=gQ (bZ [0]) (ae.mk 6 [(fV 0 1 0 ek.2.2.1.length ek.1 ek.2.1 0 2 0 ek.2.2.2.2.length (R (ch.ed+ch.fy)) 0 3 0 fo.length)] .live) from rfl) (c8 (li (bZ [0]) 0 0 4 2 rfl ek.2.2.1) (c8 (fN (bZ [0]) 1 kR ek.2.2.2.2) (c8 (fN (bZ [0]) 1 R6 fo) (dR (bZ [0]) 2 fj ek.2.2.2.1))))))))))) (.comp [.c9 .id,.c9 .id])))
  ·exact (.ret (kH (t1.append [.sub (.ret) [(2,.ij),(3,.b false)] []]) [] [] (aT.aH (.e1 (Oj eH)))))))
def ui (aM:cF)(cj:List Int):Option Bool :=
 zB aM cj 0 0 >>= fun r1 =>
 Ay r1 >>= fun bl =>
 match bl with
 | .inl fu=>(some true)
 | .inr fu=>(some false)
theorem Vl {aM:cF}{cj:List Int}:bB (ui aM cj) (fun r=>Con a5 36 [.ej 2 [(hf aM)] 0 0,.isl 1 (cj.map eI)] [] (.b r) []):=by
 unfold ui
 exact .ar fun r1 o =>
  .ar fun bl au =>
  (let t1:List b3:=[(J 1),.aw (bo 2 (bw 4 (.agg (og r1)) false) 2),.i9 4];
  have aT:=((.aE (UC r1 o) (qL (YE r1):jU [(og r1)])):cA _);
  (by
  rcases bl with fu|fu
  ·exact (.ret (let q1:=fV 0 1 0 fu.2.2.2.1.length fu.1 fu.2.1 0 2 0 fu.2.2.2.2.1.length fu.2.2.1 0 3 0 fu.2.2.2.2.2.1.length;let a6:=cf 2 aZ fu.2.2.2.2.2.2;bz (t1.append [.aw (ai (.call {a2:=[],da:=[],ac:=[.bs (.ptr [.id,.id,.id,.id,.id])],r:= .ea [.ref 0 0 0 0,.b true],eV:=[(ae.mk 6 [q1] .live::ae.mk 1 (fu.2.2.2.1.map (bp 0 4 2)) .live::ae.mk 1 (fu.2.2.2.2.1.map eI) .live::ae.mk 1 (fu.2.2.2.2.2.1.map eu) .live::a6)],gr:= .comp [.c9 .id,.c9 .id],hD:=[.bK (ae.mk 6 [(fV 6 1 0 fu.2.2.2.1.length fu.1 fu.2.1 6 2 0 fu.2.2.2.2.1.length fu.2.2.1 6 3 0 fu.2.2.2.2.2.1.length)] .live::ae.mk 1 (fu.2.2.2.1.map (bp 6 4 2)) .live::ae.mk 1 (fu.2.2.2.2.1.map eI) .live::ae.mk 1 (fu.2.2.2.2.2.1.map eu) .live::a6)],eN:=[4],er:=false}) (ah 5 [])),(J 2)]) (aT.aH (.bP (c8 (show ae.mk 6 [(fV 6 1 0 fu.2.2.2.1.length fu.1 fu.2.1 6 2 0 fu.2.2.2.2.1.length fu.2.2.1 6 3 0 fu.2.2.2.2.2.1.length)] .live=gQ (ic [6]) (ae.mk 6 [(fV 0 1 0 fu.2.2.2.1.length fu.1 fu.2.1 0 2 0 fu.2.2.2.2.1.length fu.2.2.1 0 3 0 fu.2.2.2.2.2.1.length)] .live) from rfl) (c8 (li (ic [6]) 6 0 4 2 rfl fu.2.2.2.1) (c8 (fN (ic [6]) 1 kR fu.2.2.2.2.1) (c8 (fN (ic [6]) 1 R6 fu.2.2.2.2.2.1) (dR (ic [6]) 2 fj fu.2.2.2.2.2.2))))) ((iU rfl (iU rfl (iU rfl (iU rfl (u0 (gl .live 2 aZ fu.2.2.2.2.2.2)))))):lJ (ae.mk 6 [q1] .live::ae.mk 1 (fu.2.2.2.1.map (bp 0 4 2)) .live::ae.mk 1 (fu.2.2.2.2.1.map eI) .live::ae.mk 1 (fu.2.2.2.2.2.1.map eu) .live::a6)) (OK (.inl fu) au)))))
  ·exact (.ret (bz (t1.append [.aw (ai (.call {a2:=[],da:=[],ac:=[.bs (.ptr [.id,.id,.id,.id,.id])],r:= .ea [.ij,.b false],eV:=[],gr:=ii,hD:=[],eN:=[4],er:=false}) (ah 5 [])),(J 2)]) (aT.aH (.e1 (OK (.inr fu) au)))))))
def uF (aM:cF)(cj:List Int)(aO:Int):Option Bool :=
 uU aM cj >>= fun r1 =>
 if r1=true then
  if (decide (aO<(0:Int)))=true then
   some false
  else
   if (decide ((len_ bA aM.bE)≤aO))=true then
    some false
   else
    xC aM ([aO]:List Int) >>= fun cl =>
    ui cl cj >>= fun c2 =>
    some c2
 else
  some false
theorem X9 {aM:cF}{cj:List Int}{aO:Int}:bB (uF aM cj aO) (fun r=>Con a5 21 [.agg (hf aM),.isl 1 (cj.map eI),.n .i64 aO] [] (.b r) []):=by
 unfold uF
 exact .ar fun r1 o =>
  (have b8:=((.aE (OU r1 o) (bX.b r1)):cA _);
  .ite (fun af =>
  (have aT:=b8.aH (.bP (cV af) (cV af) (cV af));
  .ite (fun au =>
  .ret (bz [(J 2),.aw (ah 2 (ai (bw 2 (.b r1) true) (ah 4 (ai (.aa false) (ah 1 (cw 5 (ai (.aa true) []))))))),.aa true,(J 1)] (aT.aH (.eB au au au au au au cI))))
  (fun au =>
  (let t3:List b3:=[(J 2),.aw (ah 2 (ai (bw 2 (.b r1) true) (ah 4 (ai (.aa false) (ah 6 (ai (.aa false) []))))))];
  .ite (fun aA =>
  .ret (bz (t3.append [.aa true,(J 1)]) (aT.aH (.eB au au au au au au aA))))
  (fun aA =>
  .ar fun cl bm =>
  .ar fun c2 cx =>
  .ret (bz (t3.append [.aa false,.aw (bo 3 (.rn 19 (.call {ac:=[ii,.bs (.c9 (.dF (([aO]:List Int).map eI)))],r:= .agg (hf cl),er:=false,eN:=[19]})) 2),.aw (bo 1 (.call {ac:=[.bs (.ptr [.id,.id]),ii],r:= .b c2,er:=true,eN:=[21]}) 1)]) (aT.aH (.bi au au au au au au aA (k4 (show [[.n .i64 aO]]=(([aO]:List Int)).map eI from rfl) (show 1=([aO]:List Int).length from rfl)) (.d6 (gC eI aO) (dd aN ([aO]:List Int)) (Wh cl bm) (qL (Dv cl):jU [(hf cl)]) (Vl c2 cx) (bX.b c2))))))))))
  (fun af =>
  .ret (bz [(J 2),.aw (ah 2 (ai (bw 2 (.b r1) true) (ah 2 (cw 2 (ai (.aa true) (ah 1 (cw 5 (ah 1 [])))))))),.aa true,(J 1)] (b8.aH (.bi (cT af) (cT af) (cT af) cI cI cI cI cI (.e1 cI))))))
def Ge (cj:List Int)(b9:Int)(aK:List bq)(aJ:List bC):(Int×(List Int))→S:=fun (bM,an)=>dr [(1,.isl 1 (cj.map eI)),(2,.ref 0 0 0 0),(5,.bf 1 0 0 an.length),(13,.n .i64 b9),(14,.n .i64 bM)] [[ae.mk 2 [[.isl 4 (aK.map bu),.isl 3 (aJ.map bA)]] .live],(av 1 eI an)]
def NE (cj:List Int)(b9:Int)(aK:List bq)(aJ:List bC):(List Int)→dy
 | a=>⟨some 0,[(5,.bf 0 0 0 a.length)],[(av 1 eI a)]⟩
def wE (cj:List Int)(b9:Int)(aK:List bq)(aJ:List bC)(bM:Int)(an:List Int):Option ((Int×(List Int))⊕((List Int))) :=
 if (decide (bM<b9))=true then
  uF (⟨aK,aJ⟩:cF) cj bM >>= fun bT =>
  if bT=true then
   some (.inl (R (bM+(1:Int)),an))
  else
   if (an++([bM]:List Int)).length*8≤140737488355328 then
   some (.inl (R (bM+(1:Int)),an++([bM]:List Int)))
   else none
 else
  some (.inr an)
def GD (cj:List Int)(b9:Int)(aK:List bq)(aJ:List bC)(bM:Int)(an:List Int):Option ((List Int)):=iter (fun w:Int×(List Int)=>wE cj b9 aK aJ w.1 w.2) (bM,an)
theorem Ul {cj:List Int}{b9:Int}{aK:List bq}{aJ:List bC}{bM:Int}{an:List Int}:bB (wE cj b9 aK aJ bM an) (dL a5 28 0 8 [1,1,1,0,1,0,0] (Ge cj b9 aK aJ (bM,an)) (Ge cj b9 aK aJ) (NE cj b9 aK aJ)):=by
 unfold wE
 exact .ite (fun h1 =>
  .ar fun bT af =>
  (let t1:List b3:=[(J 1),.aa true,(J 2),.aw (bo 3 (bw 3 (.b bT) true) 1)];
  have aT:=((.bP h1 (X9 bT af) (bX.b bT)):cA _);
  .ite (fun au =>
  .ret (bg (t1.append [.aa false,(J 2),.aP [0,1] [.box [.id,.id],.pure] (a8 [1,2,5,13,14])]) (aT.aH (.aE (cV au) (aI 1 .live aN an)))))
  (fun au =>
  .aY fun aA =>
  .ret (let q1:=(an++([bM]:List Int));bg (t1.append [.aa true,.aw (bo 3 (.aH (q1.length)) 1),(J 2),.aP [0,13] [.box [.id,.id],.cE (av 1 eI q1)] (a8 [1,2,5,13,14])]) (aT.aH (.eB (cT au) (gC eI bM) (gW eI an) (gD eI an bM) aA (cZ 1 .live (hb eI an bM)) (aI 1 .live aN q1)))))))
  (fun h1 =>
  .ret (bg [(J 1),.aa false,.aP [1] [.pure] (a8 [5])] (.aE h1 (aI 1 .live aN an))))
theorem UJ {cj:List Int}{b9:Int}{aK:List bq}{aJ:List bC}{bM:Int}{an:List Int}{r} (h:GD cj b9 aK aJ bM an=some r):dM a5 28 0 8 [1,1,1,0,1,0,0] (Ge cj b9 aK aJ) (NE cj b9 aK aJ) (bM,an) r:=dO (fun _=>Ul) h
def w8 (aM:cF)(cj:List Int):Option (((List Int))⊕(Unit)) :=
 uU aM cj >>= fun r1 =>
 if r1=true then
  GD cj (len_ bA aM.bE) aM.b7 aM.bE 0 ([]:List Int) >>= fun ba =>
  some (.inl ba)
 else
  some (.inr ())
theorem Dd {aM:cF}{cj:List Int}:bB (w8 aM cj) (Sum.elim (fun a=>Con a5 8 [.agg (hf aM),.isl 1 (cj.map eI)] [] (.bf 0 0 0 a.length) [(av 1 eI a)]) (fun a=>Con a5 8 [.agg (hf aM),.isl 1 (cj.map eI)] [] (.ei) [])):=by
 unfold w8
 exact .ar fun r1 o =>
  (let t1:List b3:=[(J 2),.aw (bo 2 (bw 2 (.b r1) true) 1)];
  have aT:=((.aE (OU r1 o) (bX.b r1)):cA _);
  .ite (fun af =>
  .ar fun ba aA =>
  .ret (kH (t1.append [.aa false,(J 1),(J 4),.sE 5 1,.aP [0,11] [.box [.id,.id],.cE (av 1 eI ([]:List Int))] [(1,ii),(2,ii),(5,fU (([]:List Int).length)),(13,ii),(14,ii)],.sub (.exit 0) [(5,.bf 0 0 0 ba.length)] [(av 1 eI ba)],(J 2)]) [0] [.pure] (aT.aH (.d6 (cV af) (cZ 1 .live (nd eI)) (aI 1 .live aN ([]:List Int)) (fc Int) (UJ aA) (aI 1 .live aN ba)))))
  (fun af =>
  .ret (kH (t1.append [.aa true,(J 1)]) [] [] (aT.aH (.e1 (cT af))))))
def IU (ag aF:List Int):Int→S:=fun ad=>dr [(0,.isl 1 (ag.map eI)),(1,.isl 1 (aF.map eI)),(5,.n .i64 ad)] []
def Ok (ag aF:List Int):((Unit)⊕(Unit))→dy
 | .inl a=>⟨some 0,[],[]⟩
 | .inr a=>⟨none,[(4,.b false)],[]⟩
def xF (ag aF:List Int)(ad:Int):Option ((Int)⊕((Unit)⊕(Unit))) :=
 if (decide (ad<(len_ eI ag)))=true then
  if 0≤ad∧ad<ag.length then
  ag[ad.toNat]? >>= fun aB =>
  if 0≤ad∧ad<aF.length then
  aF[ad.toNat]? >>= fun cu =>
  if (aB != cu)=true then
   some (.inr (.inr ()))
  else
   some (.inl (R (ad+(1:Int))))
  else none
  else none
 else
  some (.inr (.inl ()))
def Kd (ag aF:List Int)(ad:Int):Option ((Unit)⊕(Unit)):=iter (fun w:Int=>xF ag aF w) ad
theorem Wm {ag aF:List Int}{ad:Int}:bB (xF ag aF ad) (dL a5 26 0 9 [1,1,0,1,0,0] (IU ag aF ad) (IU ag aF) (Ok ag aF)):=by
 unfold xF
 exact .ite (fun h1 =>
  .aY fun o =>
  .ar fun aB au =>
  .aY fun aA =>
  .ar fun cu bm =>
  (let t1:List b3:=[(J 4),.aa true,.aw (ah 3 (ai (.b5 (eI aB)) (bo 3 (.b5 (eI cu)) 1)))];
  have aT:=((.eB h1 o.1 (cW eI o.2) (b2 eI au) aA.1 (cW eI aA.2) (b2 eI bm)):cA _);
  .ite (fun bn =>
  .ret (bg (t1.append [.aa true,(J 1),.aP [] [] (a8 [4])]) (aT.aH (.e1 bn))))
  (fun bn =>
  .ret (bg (t1.append [.aa false,(J 3),.aP [] [] (a8 [0,1,5])]) (aT.aH (.e1 bn))))))
  (fun h1 =>
  .ret (bg [(J 4),.aa false,.aP [] [] []] (.e1 h1)))
theorem Ox {ag aF:List Int}{ad:Int}{r} (h:Kd ag aF ad=some r):dM a5 26 0 9 [1,1,0,1,0,0] (IU ag aF) (Ok ag aF) ad r:=dO (fun _=>Wm) h
def tj (ag aF:List Int):Option Bool :=
 if ((len_ eI ag) != (len_ eI aF))=true then
  some false
 else
  Kd ag aF 0 >>= fun bT =>
  match bT with
  | .inl fZ=>(some true)
  | .inr fZ=>(some false)
theorem te {ag aF:List Int}:bB (tj ag aF) (fun r=>Con a5 9 [.isl 1 (ag.map eI),.isl 1 (aF.map eI)] [] (.b r) []):=by
 unfold tj
 exact .ite (fun h1 =>
  .ret (bz [(J 1),(J 5),.aa true,(J 1)] (.e1 h1)))
  (fun h1 =>
  .ar fun bT af =>
  (let t1:List b3:=[(J 1),(J 5),.aa false,(J 1),.aP [] [] (a8 [0,1,5])];
  (by
  rcases bT with fZ|fZ
  ·exact (.ret (bz (t1.append [.sub (.exit 0) [] [],(J 1)]) (.aE h1 (Ox af))))
  ·exact (.ret (bz (t1.append [.sub (.ret) [(4,.b false)] []]) (.aE h1 (Ox af)))))))
def Az (ag aF:bq):Option Bool :=
 if (!(ag.hh.toList == aF.hh.toList))=true then
  some false
 else
  if (ag.gx != aF.gx)=true then
   some false
  else
   if (ag.gw != aF.gw)=true then
    some false
   else
    if (ag.gN == aF.gN)=true then
     some true
    else
     some false
theorem Yx {ag aF:bq}:bB (Az ag aF) (fun r=>Con a5 37 [.agg (bu ag),.agg (bu aF)] [] (.b r) []):=by
 unfold Az
 exact .ite (fun h1 =>
  .ret (bz [(J 3),(J 5),.aa true,(J 1)] (.e1 h1)))
  (fun h1 =>
  (let t1:List b3:=[(J 3),(J 5),.aa false,(J 5)];
  .ite (fun o =>
  .ret (bz (t1.append [.aa true,(J 1)]) (.aE h1 o)))
  (fun o =>
  .ite (fun af =>
  .ret (bz (t1.append [.aa false,(J 5),.aa true,(J 1)]) (.bP h1 o af)))
  (fun af =>
  (let t2:List b3:=t1.append [.aa false,(J 5),.aa false,(J 5)];
  .ite (fun au =>
  .ret (bz (t2.append [.aa false,(J 1)]) (.c3 h1 o af (cV au))))
  (fun au =>
  .ret (bz (t2.append [.aa true,(J 1)]) (.c3 h1 o af (cT au)))))))))
def HG (ag aF:List bq):Int→S:=fun ad=>dr [(0,.isl 4 (ag.map bu)),(1,.isl 4 (aF.map bu)),(5,.n .i64 ad)] []
def N0 (ag aF:List bq):((Unit)⊕(Unit))→dy
 | .inl a=>⟨some 0,[],[]⟩
 | .inr a=>⟨none,[(4,.b false)],[]⟩
def xg (ag aF:List bq)(ad:Int):Option ((Int)⊕((Unit)⊕(Unit))) :=
 if (decide (ad<(len_ bu ag)))=true then
  if 0≤ad∧ad<ag.length then
  ag[ad.toNat]? >>= fun aB =>
  if 0≤ad∧ad<aF.length then
  aF[ad.toNat]? >>= fun cu =>
  Az aB cu >>= fun c2 =>
  if c2=true then
   some (.inl (R (ad+(1:Int))))
  else
   some (.inr (.inr ()))
  else none
  else none
 else
  some (.inr (.inl ()))
def JK (ag aF:List bq)(ad:Int):Option ((Unit)⊕(Unit)):=iter (fun w:Int=>xg ag aF w) ad
theorem Vz {ag aF:List bq}{ad:Int}:bB (xg ag aF ad) (dL a5 27 0 22 [1,1,0,1,0,0] (HG ag aF ad) (HG ag aF) (N0 ag aF)):=by
 unfold xg
 exact .ite (fun h1 =>
  .aY fun o =>
  .ar fun aB au =>
  .aY fun aA =>
  .ar fun cu bm =>
  .ar fun c2 cx =>
  (let t1:List b3:=[(J 4),.aa true,.aw (ah 3 (ai (.b5 (bu aB)) (ah 3 (ai (.b5 (bu cu)) (ai (bw 2 (.b c2) true) (ah 1 []))))))];
  have aT:=((.bi h1 o.1 (cW bu o.2) (b2 bu au) aA.1 (cW bu aA.2) (b2 bu bm) (Yx c2 cx) (.e1 (bX.b c2))):cA _);
  .ite (fun cQ =>
  .ret (bg (t1.append [.aa false,(J 3),.aP [] [] (a8 [0,1,5])]) (aT.aH (.e1 (cV cQ)))))
  (fun cQ =>
  .ret (bg (t1.append [.aa true,(J 1),.aP [] [] (a8 [4])]) (aT.aH (.e1 (cT cQ)))))))
  (fun h1 =>
  .ret (bg [(J 4),.aa false,.aP [] [] []] (.e1 h1)))
theorem N9 {ag aF:List bq}{ad:Int}{r} (h:JK ag aF ad=some r):dM a5 27 0 22 [1,1,0,1,0,0] (HG ag aF) (N0 ag aF) ad r:=dO (fun _=>Vz) h
def An (ag aF:List bq):Option Bool :=
 if ((len_ bu ag) != (len_ bu aF))=true then
  some false
 else
  JK ag aF 0 >>= fun bT =>
  match bT with
  | .inl fZ=>(some true)
  | .inr fZ=>(some false)
theorem Ya {ag aF:List bq}:bB (An ag aF) (fun r=>Con a5 22 [.isl 4 (ag.map bu),.isl 4 (aF.map bu)] [] (.b r) []):=by
 unfold An
 exact .ite (fun h1 =>
  .ret (bz [(J 1),(J 5),.aa true,(J 1)] (.e1 h1)))
  (fun h1 =>
  .ar fun bT af =>
  (let t1:List b3:=[(J 1),(J 5),.aa false,(J 1),.aP [] [] (a8 [0,1,5])];
  (by
  rcases bT with fZ|fZ
  ·exact (.ret (bz (t1.append [.sub (.exit 0) [] [],(J 1)]) (.aE h1 (N9 af))))
  ·exact (.ret (bz (t1.append [.sub (.ret) [(4,.b false)] []]) (.aE h1 (N9 af)))))))
def Ao (ag aF:bC):Option Bool :=
 if (ag.dp != aF.dp)=true then
  some false
 else
  if (ag.dN != aF.dN)=true then
   some false
  else
   if (ag.gG != aF.gG)=true then
    some false
   else
    some true
theorem Yb {ag aF:bC}:bB (Ao ag aF) (fun r=>Con a5 38 [.agg (bA ag),.agg (bA aF)] [] (.b r) []):=by
 unfold Ao
 exact .ite (fun h1 =>
  .ret (bz [(J 3),(J 5),.aa true,(J 1)] (.e1 h1)))
  (fun h1 =>
  (let t1:List b3:=[(J 3),(J 5),.aa false,(J 5)];
  .ite (fun o =>
  .ret (bz (t1.append [.aa true,(J 1)]) (.aE h1 o)))
  (fun o =>
  .ite (fun af =>
  .ret (bz (t1.append [.aa false,(J 5),.aa true,(J 1)]) (.bP h1 o af)))
  (fun af =>
  .ret (bz (t1.append [.aa false,(J 5),.aa false,(J 1)]) (.bP h1 o af))))))
def Hs (ag aF:List bC):Int→S:=fun ad=>dr [(0,.isl 3 (ag.map bA)),(1,.isl 3 (aF.map bA)),(5,.n .i64 ad)] []
def NU (ag aF:List bC):((Unit)⊕(Unit))→dy
 | .inl a=>⟨some 0,[],[]⟩
 | .inr a=>⟨none,[(4,.b false)],[]⟩
def w9 (ag aF:List bC)(ad:Int):Option ((Int)⊕((Unit)⊕(Unit))) :=
 if (decide (ad<(len_ bA ag)))=true then
  if 0≤ad∧ad<ag.length then
  ag[ad.toNat]? >>= fun aB =>
  if 0≤ad∧ad<aF.length then
  aF[ad.toNat]? >>= fun cu =>
  Ao aB cu >>= fun c2 =>
  if c2=true then
   some (.inl (R (ad+(1:Int))))
  else
   some (.inr (.inr ()))
  else none
  else none
 else
  some (.inr (.inl ()))
def Jw (ag aF:List bC)(ad:Int):Option ((Unit)⊕(Unit)):=iter (fun w:Int=>w9 ag aF w) ad
theorem Vm {ag aF:List bC}{ad:Int}:bB (w9 ag aF ad) (dL a5 27 0 23 [1,1,0,1,0,0] (Hs ag aF ad) (Hs ag aF) (NU ag aF)):=by
 unfold w9
 exact .ite (fun h1 =>
  .aY fun o =>
  .ar fun aB au =>
  .aY fun aA =>
  .ar fun cu bm =>
  .ar fun c2 cx =>
  (let t1:List b3:=[(J 4),.aa true,.aw (ah 3 (ai (.b5 (bA aB)) (ah 3 (ai (.b5 (bA cu)) (ai (bw 2 (.b c2) true) (ah 1 []))))))];
  have aT:=((.bi h1 o.1 (cW bA o.2) (b2 bA au) aA.1 (cW bA aA.2) (b2 bA bm) (Yb c2 cx) (.e1 (bX.b c2))):cA _);
  .ite (fun cQ =>
  .ret (bg (t1.append [.aa false,(J 3),.aP [] [] (a8 [0,1,5])]) (aT.aH (.e1 (cV cQ)))))
  (fun cQ =>
  .ret (bg (t1.append [.aa true,(J 1),.aP [] [] (a8 [4])]) (aT.aH (.e1 (cT cQ)))))))
  (fun h1 =>
  .ret (bg [(J 4),.aa false,.aP [] [] []] (.e1 h1)))
theorem N1 {ag aF:List bC}{ad:Int}{r} (h:Jw ag aF ad=some r):dM a5 27 0 23 [1,1,0,1,0,0] (Hs ag aF) (NU ag aF) ad r:=dO (fun _=>Vm) h
def z9 (ag aF:List bC):Option Bool :=
 if ((len_ bA ag) != (len_ bA aF))=true then
  some false
 else
  Jw ag aF 0 >>= fun bT =>
  match bT with
  | .inl fZ=>(some true)
  | .inr fZ=>(some false)
theorem XJ {ag aF:List bC}:bB (z9 ag aF) (fun r=>Con a5 23 [.isl 3 (ag.map bA),.isl 3 (aF.map bA)] [] (.b r) []):=by
 unfold z9
 exact .ite (fun h1 =>
  .ret (bz [(J 1),(J 5),.aa true,(J 1)] (.e1 h1)))
  (fun h1 =>
  .ar fun bT af =>
  (let t1:List b3:=[(J 1),(J 5),.aa false,(J 1),.aP [] [] (a8 [0,1,5])];
  (by
  rcases bT with fZ|fZ
  ·exact (.ret (bz (t1.append [.sub (.exit 0) [] [],(J 1)]) (.aE h1 (N1 af))))
  ·exact (.ret (bz (t1.append [.sub (.ret) [(4,.b false)] []]) (.aE h1 (N1 af)))))))
def xS (ag aF:cF):Option Bool :=
 An ag.b7 aF.b7 >>= fun r1 =>
 if r1=true then
  z9 ag.bE aF.bE >>= fun ba =>
  if ba=true then
   some true
  else
   some false
 else
  some false
theorem Oa {ag aF:cF}:bB (xS ag aF) (fun r=>Con a5 10 [.agg (hf ag),.agg (hf aF)] [] (.b r) []):=by
 unfold xS
 exact .ar fun r1 o =>
  (let t1:List b3:=[(J 3),.aw (bo 4 (bw 2 (.b r1) true) 1)];
  have aT:=((.aE (Ya r1 o) (bX.b r1)):cA _);
  .ite (fun af =>
  .ar fun ba aA =>
  (let t3:List b3:=t1.append [.aa false,.aw (bo 4 (bw 2 (.b ba) true) 1)];
  have e3:=aT.aH (.bP (cV af) (XJ ba aA) (bX.b ba));
  .ite (fun a0 =>
  .ret (bz (t3.append [.aa false,(J 1)]) (e3.aH (.e1 (cV a0)))))
  (fun a0 =>
  .ret (bz (t3.append [.aa true,(J 1)]) (e3.aH (.e1 (cT a0)))))))
  (fun af =>
  .ret (bz (t1.append [.aa true,(J 1)]) (aT.aH (.e1 (cT af))))))
def HH:(Int×ByteArray)→S:=fun (aO,pE)=>dr [(0,.n .i64 aO),(3,.s pE)] []
def Ih:ByteArray→dy
 | a=>⟨some 0,[(3,.s a)],[]⟩
def xh (aO:Int)(pE:ByteArray):Option ((Int×ByteArray)⊕(ByteArray)) :=
 if (decide ((0:Int)<aO))=true then
  if (rO [(IntKind.wrap .u8 (R ((48:Int)+(aO.tmod (10:Int)))))]).size+pE.size<9223372036854775808 then
  some (.inl (R (aO.tdiv (10:Int)),(rO [(IntKind.wrap .u8 (R ((48:Int)+(aO.tmod (10:Int)))))])++pE))
  else none
 else
  some (.inr pE)
def JL (aO:Int)(pE:ByteArray):Option (ByteArray):=iter (fun w:Int×ByteArray=>xh w.1 w.2) (aO,pE)
theorem VA {aO:Int}{pE:ByteArray}:bB (xh aO pE) (dL a5 20 0 39 [1,1,1,0,0,0] (HH (aO,pE)) (HH) (Ih)):=by
 unfold xh
 exact .ite (fun h1 =>
  .aY fun o =>
  .ret (bg [(J 2),.aa true,(J 9),(J 3),.aP [] [] (a8 [0,3])] (.c3 h1 (by decide:(10:Int)≠0) o (by decide:(10:Int)≠0))))
  (fun h1 =>
  .ret (bg [(J 2),.aa false,.aP [] [] (a8 [3])] (.e1 h1)))
theorem W8 {aO:Int}{pE:ByteArray}{r} (h:JL aO pE=some r):dM a5 20 0 39 [1,1,1,0,0,0] (HH) (Ih) (aO,pE) r:=dO (fun _=>VA) h
def Ap (aO:Int):Option ByteArray :=
 if (decide (aO≤(0:Int)))=true then
  some (⟨#[109,48]⟩:ByteArray)
 else
  JL aO (⟨#[]⟩:ByteArray) >>= fun bT =>
  if (⟨#[109]⟩:ByteArray).size+bT.size<9223372036854775808 then
  some ((⟨#[109]⟩:ByteArray)++bT)
  else none
theorem Yc {aO:Int}:bB (Ap aO) (fun r=>Con a5 39 [.n .i64 aO] [] (.s r) []):=by
 unfold Ap
 exact .ite (fun h1 =>
  .ret (bz [(J 1),(J 2),.aa true,(J 1)] (.e1 h1)))
  (fun h1 =>
  .ar fun bT af =>
  .aY fun au =>
  .ret (bz [(J 1),(J 2),.aa false,(J 1),.aP [] [] (a8 [0,3]),(Ih bT).e6,(J 3)] (.bP h1 (W8 af) au)))
def GF:(Int×Int×(List bq))→S:=fun (aO,ad,ab)=>dr [(0,.bf 0 0 0 ab.length),(1,.n .i64 aO),(5,.n .i64 ad)] [(av 4 bu ab)]
def GP:(Int×(List bq))→dy
 | a=>⟨some 0,[(1,.n .i64 a.1)],[(av 4 bu a.2)]⟩
def uf (aO ad:Int)(ab:List bq):Option ((Int×Int×(List bq))⊕(Int×(List bq))) :=
 if (decide (ad<((ab.length:Nat):Int)))=true then
  Ap aO >>= fun bT =>
  if 0≤ad∧ad<(ab.length:Nat) then
  ab[(0+ad.toNat)]? >>= fun eX =>
  (ab.set (0+ad.toNat) (⟨bT,eX.gx,eX.gw,eX.gN⟩:bq))[(0+ad.toNat)]? >>= fun c7 =>
  ((ab.set (0+ad.toNat) (⟨bT,eX.gx,eX.gw,eX.gN⟩:bq)).set (0+ad.toNat) (⟨c7.hh,R (aO+(1:Int)),c7.gw,c7.gN⟩:bq))[(0+ad.toNat)]? >>= fun dl =>
  (((ab.set (0+ad.toNat) (⟨bT,eX.gx,eX.gw,eX.gN⟩:bq)).set (0+ad.toNat) (⟨c7.hh,R (aO+(1:Int)),c7.gw,c7.gN⟩:bq)).set (0+ad.toNat) (⟨dl.hh,dl.gx,R ((R (aO+(1:Int)))+(1:Int)),dl.gN⟩:bq))[(0+ad.toNat)]? >>= fun iD =>
  some (.inl (R ((R ((R ((R (aO+(1:Int)))+(1:Int)))+(1:Int)))+(1:Int)),R (ad+(1:Int)),(((ab.set (0+ad.toNat) (⟨bT,eX.gx,eX.gw,eX.gN⟩:bq)).set (0+ad.toNat) (⟨c7.hh,R (aO+(1:Int)),c7.gw,c7.gN⟩:bq)).set (0+ad.toNat) (⟨dl.hh,dl.gx,R ((R (aO+(1:Int)))+(1:Int)),dl.gN⟩:bq)).set (0+ad.toNat) (⟨iD.hh,iD.gx,iD.gw,(((R ((R ((R (aO+(1:Int)))+(1:Int)))+(1:Int))).tmod (3:Int)) == (0:Int))⟩:bq)))
  else none
 else
  some (.inr (aO,ab))
def Ii (aO ad:Int)(ab:List bq):Option (Int×(List bq)):=iter (fun w:Int×Int×(List bq)=>uf w.1 w.2.1 w.2.2) (aO,ad,ab)
theorem UK {aO ad:Int}{ab:List bq}:bB (uf aO ad ab) (dL a5 44 1 24 [1,0,1,0,0] (GF (aO,ad,ab)) (GF) (GP)):=by
 unfold uf
 exact .ite (fun h1 =>
  .ar fun bT af =>
  .aY fun au =>
  .ar fun eX a0 =>
  .ar fun c7 bn =>
  .ar fun dl cQ =>
  .ar fun iD eH =>
  .ret (let cz:=(nk (cR bu ab) (0+ad.toNat) (⟨bT,eX.gx,eX.gw,eX.gN⟩:bq) (rfl:(setCells (bu eX) 0 [.s bT])=bu (⟨bT,eX.gx,eX.gw,eX.gN⟩:bq)));let dj:=(R (aO+(1:Int)));let q1:=(nk cz (0+ad.toNat) (⟨c7.hh,R (aO+(1:Int)),c7.gw,c7.gN⟩:bq) (rfl:(setCells (bu c7) 1 [.n .i64 dj])=bu (⟨c7.hh,R (aO+(1:Int)),c7.gw,c7.gN⟩:bq)));let a6:=(nk q1 (0+ad.toNat) (⟨dl.hh,dl.gx,R (dj+(1:Int)),dl.gN⟩:bq) (rfl:(setCells (bu dl) 2 [.n .i64 (R (dj+(1:Int)))])=bu (⟨dl.hh,dl.gx,R (dj+(1:Int)),dl.gN⟩:bq)));let bY:=(R ((R (dj+(1:Int)))+(1:Int)));bg [(J 4),.aa true,.aw (ah 3 (ai (bw 1 (.s bT) true) (ah 1 (ai (.b5 (bu eX)) (ai (.b5 (bu eX)) []))))),(J 3),.aw (ah 4 (ai (.b5 (bu c7)) (ai (.b5 (bu c7)) []))),(J 3),.aw (ah 4 (ai (.b5 (bu dl)) (ai (.b5 (bu dl)) []))),(J 3),.aw (ah 6 (ai (.b5 (bu iD)) (ai (.b5 (bu iD)) []))),(J 3),(J 3),.aP [0] [.cE (av 4 bu ((((ab.set (0+ad.toNat) (⟨bT,eX.gx,eX.gw,eX.gN⟩:bq)).set (0+ad.toNat) (⟨c7.hh,R (aO+(1:Int)),c7.gw,c7.gN⟩:bq)).set (0+ad.toNat) (⟨dl.hh,dl.gx,R (dj+(1:Int)),dl.gN⟩:bq)).set (0+ad.toNat) (⟨iD.hh,iD.gx,iD.gw,((bY.tmod (3:Int)) == (0:Int))⟩:bq)))] [(0,fU (((((ab.set (0+ad.toNat) (⟨bT,eX.gx,eX.gw,eX.gN⟩:bq)).set (0+ad.toNat) (⟨c7.hh,R (aO+(1:Int)),c7.gw,c7.gN⟩:bq)).set (0+ad.toNat) (⟨dl.hh,dl.gx,R (dj+(1:Int)),dl.gN⟩:bq)).set (0+ad.toNat) (⟨iD.hh,iD.gx,iD.gw,((bY.tmod (3:Int)) == (0:Int))⟩:bq)).length)),(1,ii),(5,ii)]] (.bi h1 (Yc bT af) (bX.s bT) au.1 au.2 (b2 bu a0) (b2 bu a0) au.1 (.bi au.2 (qN cz bn) (qN cz bn) au.1 au.2 (qN q1 cQ) (qN q1 cQ) (by decide:(3:Int)≠0) (.eB au.1 au.2 (qN a6 eH) (qN a6 eH) (cZ 4 .live (nk a6 (0+ad.toNat) (⟨iD.hh,iD.gx,iD.gw,((bY.tmod (3:Int)) == (0:Int))⟩:bq) (rfl:(setCells (bu iD) 3 [.b ((bY.tmod (3:Int)) == (0:Int))])=bu (⟨iD.hh,iD.gx,iD.gw,((bY.tmod (3:Int)) == (0:Int))⟩:bq)))) (aI 4 .live ju ((((ab.set (0+ad.toNat) (⟨bT,eX.gx,eX.gw,eX.gN⟩:bq)).set (0+ad.toNat) (⟨c7.hh,R (aO+(1:Int)),c7.gw,c7.gN⟩:bq)).set (0+ad.toNat) (⟨dl.hh,dl.gx,R (dj+(1:Int)),dl.gN⟩:bq)).set (0+ad.toNat) (⟨iD.hh,iD.gx,iD.gw,((bY.tmod (3:Int)) == (0:Int))⟩:bq))) (hg (hg (hg (hg (dQ ab) (0+ad.toNat) (⟨bT,eX.gx,eX.gw,eX.gN⟩:bq)) (0+ad.toNat) (⟨c7.hh,R (aO+(1:Int)),c7.gw,c7.gN⟩:bq)) (0+ad.toNat) (⟨dl.hh,dl.gx,R (dj+(1:Int)),dl.gN⟩:bq)) (0+ad.toNat) (⟨iD.hh,iD.gx,iD.gw,((bY.tmod (3:Int)) == (0:Int))⟩:bq)))))))
  (fun h1 =>
  .ret (bg [(J 4),.aa false,.aP [0] [.pure] (a8 [1])] (.aE h1 (aI 4 .live ju ab))))
theorem VZ {aO ad:Int}{ab:List bq}{r} (h:Ii aO ad ab=some r):dM a5 44 1 24 [1,0,1,0,0] (GF) (GP) (aO,ad,ab) r:=dO (fun _=>UK) h
def zT (aO:Int)(ep:List bq):Option (Int×(List bq)) :=
 Ii aO 0 ep >>= fun r1 =>
 some (r1.1,r1.2)
theorem WQ {aO:Int}{ep:List bq}:bB (zT aO ep) (fun a=>Con a5 24 [.bf 0 0 0 ep.length,.n .i64 aO] [(av 4 bu ep)] (.n .i64 a.1) [(av 4 bu a.2)]):=by
 unfold zT
 exact .ar fun r1 o =>
  .ret (kH [(J 1),(J 1),.aP [0] [.pure] (a8 [0,1,5]),(GP r1).e6,(J 2)] [0] [.pure] (.bP (aI 4 .live ju ep) (VZ o) (aI 4 .live ju r1.2)))
def GA:(Int×Int×(List bC))→S:=fun (aO,ad,ab)=>dr [(0,.bf 0 0 0 ab.length),(1,.n .i64 aO),(5,.n .i64 ad)] [(av 3 bA ab)]
def GG:(Int×(List bC))→dy
 | a=>⟨some 0,[(1,.n .i64 a.1)],[(av 3 bA a.2)]⟩
def ue (aO ad:Int)(ab:List bC):Option ((Int×Int×(List bC))⊕(Int×(List bC))) :=
 if (decide (ad<((ab.length:Nat):Int)))=true then
  if 0≤ad∧ad<(ab.length:Nat) then
  ab[(0+ad.toNat)]? >>= fun aB =>
  (ab.set (0+ad.toNat) (⟨aO,aB.dN,aB.gG⟩:bC))[(0+ad.toNat)]? >>= fun eX =>
  ((ab.set (0+ad.toNat) (⟨aO,aB.dN,aB.gG⟩:bC)).set (0+ad.toNat) (⟨eX.dp,R (aO+(1:Int)),eX.gG⟩:bC))[(0+ad.toNat)]? >>= fun c7 =>
  some (.inl (R ((R ((R (aO+(1:Int)))+(1:Int)))+(1:Int)),R (ad+(1:Int)),((ab.set (0+ad.toNat) (⟨aO,aB.dN,aB.gG⟩:bC)).set (0+ad.toNat) (⟨eX.dp,R (aO+(1:Int)),eX.gG⟩:bC)).set (0+ad.toNat) (⟨c7.dp,c7.dN,R ((R (aO+(1:Int)))+(1:Int))⟩:bC)))
  else none
 else
  some (.inr (aO,ab))
def HI (aO ad:Int)(ab:List bC):Option (Int×(List bC)):=iter (fun w:Int×Int×(List bC)=>ue w.1 w.2.1 w.2.2) (aO,ad,ab)
theorem UG {aO ad:Int}{ab:List bC}:bB (ue aO ad ab) (dL a5 34 1 25 [1,0,1,0,0] (GA (aO,ad,ab)) (GA) (GG)):=by
 unfold ue
 exact .ite (fun h1 =>
  .aY fun o =>
  .ar fun aB au =>
  .ar fun eX a0 =>
  .ar fun c7 bn =>
  .ret (let a6:=(nk (cR bA ab) (0+ad.toNat) (⟨aO,aB.dN,aB.gG⟩:bC) (rfl:(setCells (bA aB) 0 [.n .i64 aO])=bA (⟨aO,aB.dN,aB.gG⟩:bC)));let bY:=(R (aO+(1:Int)));let q1:=(nk a6 (0+ad.toNat) (⟨eX.dp,R (aO+(1:Int)),eX.gG⟩:bC) (rfl:(setCells (bA eX) 1 [.n .i64 bY])=bA (⟨eX.dp,R (aO+(1:Int)),eX.gG⟩:bC)));bg [(J 4),.aa true,.aw (ah 4 (ai (.b5 (bA aB)) (ai (.b5 (bA aB)) []))),(J 3),.aw (ah 4 (ai (.b5 (bA eX)) (ai (.b5 (bA eX)) []))),(J 3),.aw (ah 4 (ai (.b5 (bA c7)) (ai (.b5 (bA c7)) []))),(J 3),(J 3),.aP [0] [.cE (av 3 bA (((ab.set (0+ad.toNat) (⟨aO,aB.dN,aB.gG⟩:bC)).set (0+ad.toNat) (⟨eX.dp,R (aO+(1:Int)),eX.gG⟩:bC)).set (0+ad.toNat) (⟨c7.dp,c7.dN,R (bY+(1:Int))⟩:bC)))] [(0,fU ((((ab.set (0+ad.toNat) (⟨aO,aB.dN,aB.gG⟩:bC)).set (0+ad.toNat) (⟨eX.dp,R (aO+(1:Int)),eX.gG⟩:bC)).set (0+ad.toNat) (⟨c7.dp,c7.dN,R (bY+(1:Int))⟩:bC)).length)),(1,ii),(5,ii)]] (.bi h1 o.1 o.2 (b2 bA au) (b2 bA au) o.1 o.2 (qN a6 a0) (.gu (qN a6 a0) o.1 o.2 (qN q1 bn) (qN q1 bn) (cZ 3 .live (nk q1 (0+ad.toNat) (⟨c7.dp,c7.dN,R (bY+(1:Int))⟩:bC) (rfl:(setCells (bA c7) 2 [.n .i64 (R (bY+(1:Int)))])=bA (⟨c7.dp,c7.dN,R (bY+(1:Int))⟩:bC)))) (aI 3 .live iT (((ab.set (0+ad.toNat) (⟨aO,aB.dN,aB.gG⟩:bC)).set (0+ad.toNat) (⟨eX.dp,R (aO+(1:Int)),eX.gG⟩:bC)).set (0+ad.toNat) (⟨c7.dp,c7.dN,R (bY+(1:Int))⟩:bC))) (hg (hg (hg (dQ ab) (0+ad.toNat) (⟨aO,aB.dN,aB.gG⟩:bC)) (0+ad.toNat) (⟨eX.dp,R (aO+(1:Int)),eX.gG⟩:bC)) (0+ad.toNat) (⟨c7.dp,c7.dN,R (bY+(1:Int))⟩:bC))))))
  (fun h1 =>
  .ret (bg [(J 4),.aa false,.aP [0] [.pure] (a8 [1])] (.aE h1 (aI 3 .live iT ab))))
theorem VB {aO ad:Int}{ab:List bC}{r} (h:HI aO ad ab=some r):dM a5 34 1 25 [1,0,1,0,0] (GA) (GG) (aO,ad,ab) r:=dO (fun _=>UG) h
def zS (aO:Int)(ep:List bC):Option (Int×(List bC)) :=
 HI aO 0 ep >>= fun r1 =>
 some (r1.1,r1.2)
theorem WE {aO:Int}{ep:List bC}:bB (zS aO ep) (fun a=>Con a5 25 [.bf 0 0 0 ep.length,.n .i64 aO] [(av 3 bA ep)] (.n .i64 a.1) [(av 3 bA a.2)]):=by
 unfold zS
 exact .ar fun r1 o =>
  .ret (kH [(J 1),(J 1),.aP [0] [.pure] (a8 [0,1,5]),(GG r1).e6,(J 2)] [0] [.pure] (.bP (aI 3 .live iT ep) (VB o) (aI 3 .live iT r1.2)))
def xv (aO:Int)(ep:List bq)(eU:List bC):Option (Int×(List bq)×(List bC)) :=
 zT aO ep >>= fun r1 =>
 if ep.length=r1.2.length then
 zS r1.1 eU >>= fun ba =>
 if eU.length=ba.2.length then
 some (ba.1,r1.2,ba.2)
 else none
 else none
theorem NM {aO:Int}{ep:List bq}{eU:List bC}:bB (xv aO ep eU) (fun a=>Con a5 11 [.agg [.bf 0 0 0 ep.length,.bf 1 0 0 eU.length],.n .i64 aO] [(av 4 bu ep),(av 3 bA eU)] (.n .i64 a.1) [(av 4 bu a.2.1),(av 3 bA a.2.2)]):=by
 unfold xv
 exact .ar fun r1 o =>
  .aY fun af =>
  .ar fun ba aA =>
  .aY fun a0 =>
  .ret (kH [(J 2),.aw (bo 3 (.call {a2:=[.row 0],da:=[.pure],ac:=[ii,ii],r:= .n .i64 r1.1,eV:=[(av 4 bu r1.2)],gr:=ii,hD:=[.pure],eN:=[0],er:=false}) 1),.aw (bo 3 (.call {a2:=[.row 1],da:=[.pure],ac:=[ii,ii],r:= .n .i64 ba.1,eV:=[(av 3 bA ba.2)],gr:=ii,hD:=[.pure],eN:=[1],er:=false}) 1),(J 2)] [0,1] [.pure,.pure] (.gu (f8 4 ju ep) (f8 4 ju r1.2) (WQ r1 o) (f8 3 iT eU) (f8 3 iT ba.2) (WE ba aA) (aI 4 .live ju r1.2) (aI 3 .live iT ba.2)))
def Hd:(Int×Int×(List Int))→S:=fun (aO,ad,ab)=>dr [(0,.bf 0 0 0 ab.length),(1,.n .i64 aO),(5,.n .i64 ad)] [(av 1 eI ab)]
def Ht:(Int×(List Int))→dy
 | a=>⟨some 0,[(1,.n .i64 a.1)],[(av 1 eI a.2)]⟩
def w7 (aO ad:Int)(ab:List Int):Option ((Int×Int×(List Int))⊕(Int×(List Int))) :=
 if (decide (ad<((ab.length:Nat):Int)))=true then
  if 0≤ad∧ad<(ab.length:Nat) then
  if (0+ad.toNat)<ab.length then
  some (.inl (R (aO+(1:Int)),R (ad+(1:Int)),ab.set (0+ad.toNat) aO))
  else none
  else none
 else
  some (.inr (aO,ab))
def Ji (aO ad:Int)(ab:List Int):Option (Int×(List Int)):=iter (fun w:Int×Int×(List Int)=>w7 w.1 w.2.1 w.2.2) (aO,ad,ab)
theorem Vg {aO ad:Int}{ab:List Int}:bB (w7 aO ad ab) (dL a5 19 1 12 [1,0,1,0,0] (Hd (aO,ad,ab)) (Hd) (Ht)):=by
 unfold w7
 exact .ite (fun h1 =>
  .aY fun o =>
  .aY fun af =>
  .ret (bg [(J 4),.aa true,.aw (ah 4 (ai .fX [])),(J 3),(J 3),.aP [0] [.cE (av 1 eI (ab.set (0+ad.toNat) aO))] [(0,fU ((ab.set (0+ad.toNat) aO).length)),(1,ii),(5,ii)]] (.gu h1 o.1 o.2 (hQ eI af) (hJ 1) (cZ 1 .live (gM (cR eI ab) (0+ad.toNat) aO)) (aI 1 .live aN (ab.set (0+ad.toNat) aO)) (hg (dQ ab) (0+ad.toNat) aO))))
  (fun h1 =>
  .ret (bg [(J 4),.aa false,.aP [0] [.pure] (a8 [1])] (.aE h1 (aI 1 .live aN ab))))
theorem WG {aO ad:Int}{ab:List Int}{r} (h:Ji aO ad ab=some r):dM a5 19 1 12 [1,0,1,0,0] (Hd) (Ht) (aO,ad,ab) r:=dO (fun _=>Vg) h
def uD (aO:Int)(ep:List Int):Option (Int×(List Int)) :=
 Ji aO 0 ep >>= fun r1 =>
 some (r1.1,r1.2)
theorem Jj {aO:Int}{ep:List Int}:bB (uD aO ep) (fun a=>Con a5 12 [.bf 0 0 0 ep.length,.n .i64 aO] [(av 1 eI ep)] (.n .i64 a.1) [(av 1 eI a.2)]):=by
 unfold uD
 exact .ar fun r1 o =>
  .ret (kH [(J 1),(J 1),.aP [0] [.pure] (a8 [0,1,5]),(Ht r1).e6,(J 2)] [0] [.pure] (.bP (aI 1 .live aN ep) (WG o) (aI 1 .live aN r1.2)))
def HJ (ag:List Int):(Int×Int)→S:=fun (aO,ad)=>dr [(0,.isl 1 (ag.map eI)),(1,.n .i64 aO),(5,.n .i64 ad)] []
def Ij (ag:List Int):((Int)⊕(Unit))→dy
 | .inl a=>⟨some 0,[(1,.n .i64 a)],[]⟩
 | .inr a=>⟨none,[(4,.n .i64 (-1:Int))],[]⟩
def xi (ag:List Int)(aO ad:Int):Option ((Int×Int)⊕((Int)⊕(Unit))) :=
 if (decide (ad<(len_ eI ag)))=true then
  if 0≤ad∧ad<ag.length then
  ag[ad.toNat]? >>= fun aB =>
  if (aB != aO)=true then
   some (.inr (.inr ()))
  else
   some (.inl (R (aO+(1:Int)),R (ad+(1:Int))))
  else none
 else
  some (.inr (.inl aO))
def JM (ag:List Int)(aO ad:Int):Option ((Int)⊕(Unit)):=iter (fun w:Int×Int=>xi ag w.1 w.2) (aO,ad)
theorem VC {ag:List Int}{aO ad:Int}:bB (xi ag aO ad) (dL a5 21 0 13 [1,0,1,0,0] (HJ ag (aO,ad)) (HJ ag) (Ij ag)):=by
 unfold xi
 exact .ite (fun h1 =>
  .aY fun o =>
  .ar fun aB au =>
  (let t1:List b3:=[(J 4),.aa true,.aw (bo 3 (.b5 (eI aB)) 2)];
  have aT:=((.c3 h1 o.1 (cW eI o.2) (b2 eI au)):cA _);
  .ite (fun aA =>
  .ret (bg (t1.append [.aa true,(J 1),.aP [] [] (a8 [4])]) (aT.aH (.e1 aA))))
  (fun aA =>
  .ret (bg (t1.append [.aa false,(J 3),(J 3),.aP [] [] (a8 [0,1,5])]) (aT.aH (.e1 aA))))))
  (fun h1 =>
  .ret (bg [(J 4),.aa false,.aP [] [] (a8 [1])] (.e1 h1)))
theorem Ob {ag:List Int}{aO ad:Int}{r} (h:JM ag aO ad=some r):dM a5 21 0 13 [1,0,1,0,0] (HJ ag) (Ij ag) (aO,ad) r:=dO (fun _=>VC) h
def uG (ag:List Int)(aO:Int):Option Int :=
 JM ag aO 0 >>= fun r1 =>
 match r1 with
 | .inl dt=>(some dt)
 | .inr dt=>(some (-1))
theorem DB {ag:List Int}{aO:Int}:bB (uG ag aO) (fun r=>Con a5 13 [.isl 1 (ag.map eI),.n .i64 aO] [] (.n .i64 r) []):=by
 unfold uG
 exact .ar fun r1 o =>
  (let t1:List b3:=[(J 1),(J 1),.aP [] [] (a8 [0,1,5])];
  (by
  rcases r1 with dt|dt
  ·exact (.ret (bz (t1.append [.sub (.exit 0) [(1,.n .i64 dt)] [],(J 2)]) (.e1 (Ob o))))
  ·exact (.ret (bz (t1.append [(Ij ag (.inr dt)).e6]) (.e1 (Ob o))))))
def HK (ag:List Int)(aO:Int):Unit→S:=fun _=>dr [(0,.isl 1 (ag.map eI)),(1,.n .i64 aO),(5,.n .i64 (0:Int))] []
def N2 (ag:List Int)(aO:Int):Unit→dy
 | a=>⟨some 0,[(1,.n .i64 aO)],[]⟩
def Dk (ag:List Int)(aO:Int):Option ((Unit)⊕(Unit)) :=
 if (decide ((0:Int)<(len_ eI ag)))=true then
  if 0≤(0:Int)∧(0:Int)<ag.length then
  none
  else none
 else
  some (.inr ())
def DC (ag:List Int)(aO:Int):Option (Unit):=iter (fun w:Unit=>Dk ag aO) ()
theorem VD {ag:List Int}{aO:Int}:bB (Dk ag aO) (dL a5 19 0 12 [1,0,1,0,0] (HK ag aO ()) (HK ag aO) (N2 ag aO)):=by
 unfold Dk
 exact .ite (fun h1 =>
  .aY fun o =>
  .MA)
  (fun h1 =>
  .ret (bg [(J 4),.aa false,.aP [] [] (a8 [1])] (.e1 h1)))
theorem W9 {ag:List Int}{aO:Int}{r} (h:DC ag aO=some r):dM a5 19 0 12 [1,0,1,0,0] (HK ag aO) (N2 ag aO) () r:=dO (fun _=>VD) h
def Aq (ag:List Int)(aO:Int):Option Int :=
 DC ag aO >>= fun r1 =>
 some aO
theorem Yd {ag:List Int}{aO:Int}:bB (Aq ag aO) (fun r=>Con a5 12 [.isl 1 (ag.map eI),.n .i64 aO] [] (.n .i64 r) []):=by
 unfold Aq
 exact .ar fun r1 o =>
  .ret (bz [(J 1),(J 1),.aP [] [] (a8 [0,1,5]),.sub (.exit 0) [(1,.n .i64 aO)] [],(J 2)] (.e1 (W9 o)))
def Da (BX:cF)(BZ:List Int):Option Bool :=
 if (decide ((1048576:Int)<(len_ eI BZ)))=true then
  some true
 else
  zU BX 1048576 >>= fun bT =>
  if (decide (bT<(0:Int)))=true then
   some true
  else
   zQ BX >>= fun ax =>
   Ab BZ >>= fun bQ =>
   zL (⟨ax.1,ax.2⟩:cF) bQ >>= fun cg =>
   w8 (⟨ax.1,ax.2⟩:cF) bQ >>= fun dh =>
   match dh with
   | .inl g9=>(tj g9 cg >>= fun fo =>
    if fo=true then
     xS (⟨ax.1,ax.2⟩:cF) (⟨ax.1,ax.2⟩:cF) >>= fun gb =>
     if gb=true then
      tj bQ bQ >>= fun iq =>
      if iq=true then
       xv 1 ax.1 ax.2 >>= fun mq =>
       if ax.1.length=mq.2.1.length then
       if ax.2.length=mq.2.2.length then
       uD mq.1 bQ >>= fun pU =>
       if (decide (pU.1<(0:Int)))=true then
        some false
       else
        uD 1 g9 >>= fun l8 =>
        if 0+g9.length≤l8.2.length then
        uG ((l8.2.drop 0).take g9.length) 1 >>= fun sR =>
        if (decide (sR<(0:Int)))=true then
         some false
        else
         if (sR != l8.1)=true then
          some false
         else
          some true
        else none
       else none
       else none
      else
       some false
     else
      some false
    else
     some false)
   | .inr g9=>(tj ([]:List Int) cg >>= fun fo =>
    if fo=true then
     xS (⟨ax.1,ax.2⟩:cF) (⟨ax.1,ax.2⟩:cF) >>= fun gb =>
     if gb=true then
      tj bQ bQ >>= fun iq =>
      if iq=true then
       xv 1 ax.1 ax.2 >>= fun mq =>
       if ax.1.length=mq.2.1.length then
       if ax.2.length=mq.2.2.length then
       uD mq.1 bQ >>= fun pU =>
       if (decide (pU.1<(0:Int)))=true then
        some false
       else
        Aq ([]:List Int) 1 >>= fun l8 =>
        uG ([]:List Int) 1 >>= fun sS =>
        if (decide (sS<(0:Int)))=true then
         some false
        else
         if (sS != l8)=true then
          some false
         else
          some true
       else none
       else none
      else
       some false
     else
      some false
    else
     some false)
set_option maxHeartbeats 4000000 in
theorem UD {BX:cF}{BZ:List Int}:bB (Da BX BZ) (fun r=>Con a5 3 [.agg (hf BX),.isl 1 (BZ.map eI)] [] (.b r) []):=by
 unfold Da
 exact .ite (fun h1 =>
  .ret (bz [(J 2),(J 3),.aa true,(J 1)] (.e1 h1)))
  (fun h1 =>
  .ar fun bT af =>
  (let t1:List b3:=[(J 2),(J 3),.aa false,(J 1),.aw (bo 2 (bw 2 (.n .i64 bT) true) 1),(J 2)];
  have aT:=((.bP h1 (WT bT af) (bX.n .i64 bT)):cA _);
  .ite (fun au =>
  .ret (bz (t1.append [.aa true,(J 1)]) (aT.aH (.e1 au))))
  (fun au =>
  .ar fun ax a0 =>
  .ar fun bQ bn =>
  .ar fun cg cQ =>
  .ar fun dh eH =>
  (let q1:=av 1 eI bQ;let t3:List b3:=t1.append [.aa false,.aw (ah 1 (ai (.call {a2:=[],da:=[],ac:=[ii],r:= .agg [.bf 0 0 0 ax.1.length,.bf 0 1 0 ax.2.length],eV:=[[ae.mk 4 (ax.1.map bu) .live,ae.mk 3 (ax.2.map bA) .live]],gr:= .bs (.agg [.id,.id]),hD:=[.bK [ae.mk 4 (ax.1.map bu) .live,ae.mk 3 (ax.2.map bA) .live]],eN:=[],er:=true}) (ah 1 (ai (.call {a2:=[],da:=[],ac:=[ii],r:= .bf 0 0 0 bQ.length,eV:=[q1],gr:=ii,hD:=[.pure],eN:=[],er:=true}) (ai (.rn 15 (.rn 13 (.call {ac:=[.bs (.agg [.dF (ax.1.map bu),.dF (ax.2.map bA)]),.bs (.c9 (.dF (bQ.map eI)))],r:= .isl 1 (cg.map eI),er:=false,eN:=[13,15]}))) (ah 1 [])))))),.aw (bo 1 (.call {a2:=[],da:=[],ac:=[ii],r:= .agg [.bf 0 0 0 ax.1.length,.bf 0 1 0 ax.2.length],eV:=[[ae.mk 4 (ax.1.map bu) .live,ae.mk 3 (ax.2.map bA) .live]],gr:= .bs (.agg [.id,.id]),hD:=[.bK [ae.mk 4 (ax.1.map bu) .live,ae.mk 3 (ax.2.map bA) .live]],eN:=[],er:=true}) 2),.aw (bo 1 (.call {a2:=[],da:=[],ac:=[ii],r:= .bf 0 0 0 bQ.length,eV:=[q1],gr:=ii,hD:=[.pure],eN:=[],er:=true}) 1)];
  have e3:=aT.aH (.bi au (c8 (fN (ic [13]) 4 uX ax.1) (c8 (fN (ic [13]) 3 uO ax.2) (nN (cd:=(ic [13]))))) ((iU rfl (iU rfl u9)):lJ [ae.mk 4 (ax.1.map bu) .live,ae.mk 3 (ax.2.map bA) .live]) (xa ax a0) (bX.agg (mA (bX.bf 0 0 0 ax.1.length) (mA (bX.bf 0 1 0 ax.2.length) rJ))) ((nl (lk (k7 uY) (lk (k7 uP) nr)) nq):lN [[ae.mk 4 (ax.1.map bu) .live,ae.mk 3 (ax.2.map bA) .live]]) (f8 1 aN bQ) (xO bQ bn) (.bi (bX.bf 0 0 0 bQ.length) ((nl (lk (k7 rM) nr) nq):lN [q1]) (fv bu ax.1) (fb bu ax.1) (dd ju ax.1) (fv bA ax.2) (fb bA ax.2) (dd iT ax.2) (.bi (fv eI bQ) (fb eI bQ) (dd aN bQ) (VK cg cQ) (c8 (fN (ic [19]) 4 uX ax.1) (c8 (fN (ic [19]) 3 uO ax.2) (nN (cd:=(ic [19]))))) ((iU rfl (iU rfl u9)):lJ [ae.mk 4 (ax.1.map bu) .live,ae.mk 3 (ax.2.map bA) .live]) (xa ax a0) (bX.agg (mA (bX.bf 0 0 0 ax.1.length) (mA (bX.bf 0 1 0 ax.2.length) rJ))) (.bi ((nl (lk (k7 uY) (lk (k7 uP) nr)) nq):lN [[ae.mk 4 (ax.1.map bu) .live,ae.mk 3 (ax.2.map bA) .live]]) (f8 1 aN bQ) (xO bQ bn) (bX.bf 0 0 0 bQ.length) ((nl (lk (k7 rM) nr) nq):lN [q1]) (fv bu ax.1) (fb bu ax.1) (dd ju ax.1) (.d6 (fv bA ax.2) (fb bA ax.2) (dd iT ax.2) (fv eI bQ) (fb eI bQ) (dd aN bQ))))));
  (by
  rcases dh with g9|g9
  ·exact (.ar fun fo fJ =>
  (let t5:List b3:=t3.append [.aw (bo 2 (.call {a2:=[],da:=[],ac:=[.bs (.agg [.dF (ax.1.map bu),.dF (ax.2.map bA)]),.bs (.c9 (.dF (bQ.map eI)))],r:= .bf 0 0 0 g9.length,eV:=[(av 1 eI g9)],gr:=ii,hD:=[.pure],eN:=[19,23],er:=true}) 1),.aw (bo 2 (.call {ac:=[.bs (.c9 (.dF (g9.map eI))),ii],r:= .b fo,er:=true,eN:=[27]}) 1)];
  have kj:=e3.aH (.bi (f8 1 aN g9) (Dd (.inl g9) eH) (bX.bf 0 0 0 g9.length) ((nl (lk (k7 rM) nr) nq):lN [(av 1 eI g9)]) (fv eI g9) (fb eI g9) (dd aN g9) (te fo fJ) (.e1 (bX.b fo)));
  .ite (fun ha =>
  .ar fun gb hy =>
  (let t7:List b3:=t5.append [.aa false,.aw (ah 2 (ai (.call {a2:=[],da:=[],ac:=[ii],r:= .agg [.bf 0 0 0 ax.1.length,.bf 0 1 0 ax.2.length],eV:=[[ae.mk 4 (ax.1.map bu) .live,ae.mk 3 (ax.2.map bA) .live]],gr:= .bs (.agg [.id,.id]),hD:=[.bK [ae.mk 4 (ax.1.map bu) .live,ae.mk 3 (ax.2.map bA) .live]],eN:=[],er:=true}) (ai (.call {ac:=[.bs (.agg [.dF (ax.1.map bu),.dF (ax.2.map bA)]),.bs (.agg [.dF (ax.1.map bu),.dF (ax.2.map bA)])],r:= .b gb,er:=true,eN:=[19,35]}) (ah 1 []))))];
  have lR:=kj.aH (.bi (cV ha) (c8 (fN (ic [35]) 4 uX ax.1) (c8 (fN (ic [35]) 3 uO ax.2) (nN (cd:=(ic [35]))))) ((iU rfl (iU rfl u9)):lJ [ae.mk 4 (ax.1.map bu) .live,ae.mk 3 (ax.2.map bA) .live]) (xa ax a0) (bX.agg (mA (bX.bf 0 0 0 ax.1.length) (mA (bX.bf 0 1 0 ax.2.length) rJ))) ((nl (lk (k7 uY) (lk (k7 uP) nr)) nq):lN [[ae.mk 4 (ax.1.map bu) .live,ae.mk 3 (ax.2.map bA) .live]]) (fv bu ax.1) (fb bu ax.1) (.bi (dd ju ax.1) (fv bA ax.2) (fb bA ax.2) (dd iT ax.2) (fv bu ax.1) (fb bu ax.1) (dd ju ax.1) (fv bA ax.2) (.c3 (fb bA ax.2) (dd iT ax.2) (Oa gb hy) (bX.b gb))));
  .ite (fun gq =>
  .ar fun iq gJ =>
  (let t9:List b3:=t7.append [.aa false,.aw (ah 2 (ai (.call {a2:=[],da:=[],ac:=[ii],r:= .bf 0 0 0 bQ.length,eV:=[(av 1 eI bQ)],gr:=ii,hD:=[.pure],eN:=[],er:=true}) (ai (.call {ac:=[.bs (.c9 (.dF (bQ.map eI))),.bs (.c9 (.dF (bQ.map eI)))],r:= .b iq,er:=true,eN:=[23,40]}) (ah 1 []))))];
  have Cx:=lR.aH (.bi (cV gq) (f8 1 aN bQ) (xO bQ bn) (bX.bf 0 0 0 bQ.length) ((nl (lk (k7 rM) nr) nq):lN [(av 1 eI bQ)]) (fv eI bQ) (fb eI bQ) (dd aN bQ) (.dg (fv eI bQ) (fb eI bQ) (dd aN bQ) (te iq gJ) (bX.b iq)));
  .ite (fun ib =>
  .ar fun mq rU =>
  .aY fun pR =>
  .aY fun vQ =>
  .ar fun pU MM =>
  (let t11:List b3:=t9.append [.aa false,(J 1),.aw (bo 2 (.call {a2:=[.ao 19 0 (ae.mk 4 (ax.1.map bu) .live),.ao 19 1 (ae.mk 3 (ax.2.map bA) .live)],da:=[.pure,.pure],ac:=[.bs (.agg [.at_ 0 0 ax.1.length,.at_ 1 0 ax.2.length]),ii],r:= .n .i64 mq.1,eV:=[(av 4 bu mq.2.1),(av 3 bA mq.2.2)],gr:=ii,hD:=[.pure,.pure],eN:=[19],er:=false}) 1),.aw (bo 2 (.call {a2:=[.row 23],da:=[.pure],ac:=[ii,ii],r:= .n .i64 pU.1,eV:=[(av 1 eI pU.2)],gr:=ii,hD:=[.pure],eN:=[23],er:=false}) 1)];
  have Cy:=Cx.aH (.bi (cV ib) (by decide:0≠1) (rfl:kG [.ao 19 0 (ae.mk 4 (ax.1.map bu) .live),.ao 19 1 (ae.mk 3 (ax.2.map bA) .live)] 0 0=some (19,0)) (rfl:ax.1.length=ax.1.length) (rfl:kG [.ao 19 0 (ae.mk 4 (ax.1.map bu) .live),.ao 19 1 (ae.mk 3 (ax.2.map bA) .live)] 1 0=some (19,1)) (rfl:ax.2.length=ax.2.length) (rfl:dn (some [ae.mk 4 (ax.1.map bu) .live,ae.mk 3 (ax.2.map bA) .live]) 0=some (ae.mk 4 (ax.1.map bu) .live)) (f8 4 ju ax.1) (.gu (rfl:dn (some [ae.mk 4 (ax.1.map bu) .live,ae.mk 3 (ax.2.map bA) .live]) 1=some (ae.mk 3 (ax.2.map bA) .live)) (f8 3 iT ax.2) (f8 4 ju mq.2.1) (f8 3 iT mq.2.2) (NM mq rU) (f8 1 aN bQ) (f8 1 aN pU.2) (Jj pU MM)));
  .ite (fun ks =>
  .ret (bz (t11.append [.aw (ah 3 (cw 4 (ai (.aa true) []))),.aa true,(J 1)]) (Cy.aH (.d6 ks ks ks ks ks cI))))
  (fun ks =>
  .ar fun l8 i4 =>
  .aY fun Cw =>
  .ar fun sR rV =>
  (let t13:List b3:=t11.append [.aw (ah 5 (ai (.call {ac:=[.bs (.c9 (.dF (g9.map eI))),ii],r:= .b fo,er:=true,eN:=[27]}) (ah 1 (ai (.aa false) [])))),.aa false,(J 1),.aw (bo 2 (.call {a2:=[.row 27],da:=[.pure],ac:=[ii,ii],r:= .n .i64 l8.1,eV:=[(av 1 eI l8.2)],gr:=ii,hD:=[.pure],eN:=[27],er:=false}) 1),(J 1),.aw (bo 2 (.call {ac:=[.bs (.c9 (.dF (((l8.2.drop 0).take g9.length).map eI))),ii],r:= .n .i64 sR,er:=true,eN:=[27]}) 1),(J 2)];
  have vT:=Cy.aH (.bi ks ks ks (fv eI g9) (fb eI g9) (dd aN g9) (te fo fJ) (bX.b fo) (.bi ks ks (cV ha) (f8 1 aN g9) (f8 1 aN l8.2) (Jj l8 i4) (AZ (cR eI l8.2) 0 g9.length) (qc (cR eI l8.2) Cw) (.bP (dd aN ((l8.2.drop 0).take g9.length)) (DB sR rV) (bX.n .i64 sR))));
  .ite (fun pS =>
  .ret (bz (t13.append [.aa true,(J 1)]) (vT.aH (.e1 pS))))
  (fun pS =>
  .ite (fun Fp =>
  .ret (bz (t13.append [.aa false,(J 3),.aa true,(J 1)]) (vT.aH (.aE pS Fp))))
  (fun Fp =>
  .ret (bz (t13.append [.aa false,(J 3),.aa false,.aw (ah 1 (ai (.call {a2:=[],da:=[],ac:=[ii],r:= .agg [.bf 0 0 0 ax.1.length,.bf 0 1 0 ax.2.length],eV:=[[ae.mk 4 (ax.1.map bu) .live,ae.mk 3 (ax.2.map bA) .live]],gr:= .bs (.agg [.id,.id]),hD:=[.bK [ae.mk 4 (ax.1.map bu) .live,ae.mk 3 (ax.2.map bA) .live]],eN:=[],er:=true}) (ah 1 (ai (.call {a2:=[],da:=[],ac:=[ii],r:= .bf 0 0 0 bQ.length,eV:=[(av 1 eI bQ)],gr:=ii,hD:=[.pure],eN:=[],er:=true}) (ai (.call {a2:=[],da:=[],ac:=[.bs (.agg [.dF (ax.1.map bu),.dF (ax.2.map bA)]),.bs (.c9 (.dF (bQ.map eI)))],r:= .bf 0 0 0 g9.length,eV:=[(av 1 eI g9)],gr:=ii,hD:=[.pure],eN:=[76,78],er:=true}) (ah 1 [])))))),.aw (bo 2 (.call {ac:=[.bs (.c9 (.dF (g9.map eI))),ii],r:= .b fo,er:=true,eN:=[79]}) 1),.aa false,(J 1),.aw (bo 2 (.call {ac:=[.bs (.c9 (.dF (((l8.2.drop 0).take g9.length).map eI))),ii],r:= .n .i64 sR,er:=true,eN:=[27]}) 1),(J 2),.aa false,(J 3),.aa false,(J 1)]) (vT.aH (.bi pS Fp (c8 (fN (ic [76]) 4 uX ax.1) (c8 (fN (ic [76]) 3 uO ax.2) (nN (cd:=(ic [76]))))) ((iU rfl (iU rfl u9)):lJ [ae.mk 4 (ax.1.map bu) .live,ae.mk 3 (ax.2.map bA) .live]) (xa ax a0) (bX.agg (mA (bX.bf 0 0 0 ax.1.length) (mA (bX.bf 0 1 0 ax.2.length) rJ))) ((nl (lk (k7 uY) (lk (k7 uP) nr)) nq):lN [[ae.mk 4 (ax.1.map bu) .live,ae.mk 3 (ax.2.map bA) .live]]) (f8 1 aN bQ) (.bi (xO bQ bn) (bX.bf 0 0 0 bQ.length) ((nl (lk (k7 rM) nr) nq):lN [(av 1 eI bQ)]) (fv bu ax.1) (fb bu ax.1) (dd ju ax.1) (fv bA ax.2) (fb bA ax.2) (.bi (dd iT ax.2) (fv eI bQ) (fb eI bQ) (dd aN bQ) (f8 1 aN g9) (Dd (.inl g9) eH) (bX.bf 0 0 0 g9.length) ((nl (lk (k7 rM) nr) nq):lN [(av 1 eI g9)]) (.bi (fv eI g9) (fb eI g9) (dd aN g9) (te fo fJ) (bX.b fo) (cV ha) (AZ (cR eI l8.2) 0 g9.length) (qc (cR eI l8.2) Cw) (.dg (dd aN ((l8.2.drop 0).take g9.length)) (DB sR rV) (bX.n .i64 sR) pS Fp)))))))))))))
  (fun ib =>
  .ret (bz (t9.append [.aa true,(J 1)]) (Cx.aH (.e1 (cT ib)))))))
  (fun gq =>
  .ret (bz (t7.append [.aa true,(J 1)]) (lR.aH (.e1 (cT gq)))))))
  (fun ha =>
  .ret (bz (t5.append [.aa true,(J 1)]) (kj.aH (.e1 (cT ha)))))))
  ·exact (.ar fun fo fJ =>
  (let t5:List b3:=t3.append [.aw (bo 2 (.call {a2:=[],da:=[],ac:=[.bs (.agg [.dF (ax.1.map bu),.dF (ax.2.map bA)]),.bs (.c9 (.dF (bQ.map eI)))],r:= .ei,eV:=[],gr:=ii,hD:=[],eN:=[19,23],er:=true}) 1),.aw (bo 2 (.call {ac:=[.bs (.c9 (.iF 1)),ii],r:= .b fo,er:=true}) 1)];
  have kj:=e3.aH (.c3 (Dd (.inr g9) eH) bX.ei (te fo fJ) (bX.b fo));
  .ite (fun ha =>
  .ar fun gb hy =>
  (let t7:List b3:=t5.append [.aa false,.aw (ah 2 (ai (.call {a2:=[],da:=[],ac:=[ii],r:= .agg [.bf 0 0 0 ax.1.length,.bf 0 1 0 ax.2.length],eV:=[[ae.mk 4 (ax.1.map bu) .live,ae.mk 3 (ax.2.map bA) .live]],gr:= .bs (.agg [.id,.id]),hD:=[.bK [ae.mk 4 (ax.1.map bu) .live,ae.mk 3 (ax.2.map bA) .live]],eN:=[],er:=true}) (ai (.call {ac:=[.bs (.agg [.dF (ax.1.map bu),.dF (ax.2.map bA)]),.bs (.agg [.dF (ax.1.map bu),.dF (ax.2.map bA)])],r:= .b gb,er:=true,eN:=[19,35]}) (ah 1 []))))];
  have lR:=kj.aH (.bi (cV ha) (c8 (fN (ic [35]) 4 uX ax.1) (c8 (fN (ic [35]) 3 uO ax.2) (nN (cd:=(ic [35]))))) ((iU rfl (iU rfl u9)):lJ [ae.mk 4 (ax.1.map bu) .live,ae.mk 3 (ax.2.map bA) .live]) (xa ax a0) (bX.agg (mA (bX.bf 0 0 0 ax.1.length) (mA (bX.bf 0 1 0 ax.2.length) rJ))) ((nl (lk (k7 uY) (lk (k7 uP) nr)) nq):lN [[ae.mk 4 (ax.1.map bu) .live,ae.mk 3 (ax.2.map bA) .live]]) (fv bu ax.1) (fb bu ax.1) (.bi (dd ju ax.1) (fv bA ax.2) (fb bA ax.2) (dd iT ax.2) (fv bu ax.1) (fb bu ax.1) (dd ju ax.1) (fv bA ax.2) (.c3 (fb bA ax.2) (dd iT ax.2) (Oa gb hy) (bX.b gb))));
  .ite (fun gq =>
  .ar fun iq gJ =>
  (let t9:List b3:=t7.append [.aa false,.aw (ah 2 (ai (.call {a2:=[],da:=[],ac:=[ii],r:= .bf 0 0 0 bQ.length,eV:=[(av 1 eI bQ)],gr:=ii,hD:=[.pure],eN:=[],er:=true}) (ai (.call {ac:=[.bs (.c9 (.dF (bQ.map eI))),.bs (.c9 (.dF (bQ.map eI)))],r:= .b iq,er:=true,eN:=[23,40]}) (ah 1 []))))];
  have Cx:=lR.aH (.bi (cV gq) (f8 1 aN bQ) (xO bQ bn) (bX.bf 0 0 0 bQ.length) ((nl (lk (k7 rM) nr) nq):lN [(av 1 eI bQ)]) (fv eI bQ) (fb eI bQ) (dd aN bQ) (.dg (fv eI bQ) (fb eI bQ) (dd aN bQ) (te iq gJ) (bX.b iq)));
  .ite (fun ib =>
  .ar fun mq rU =>
  .aY fun pR =>
  .aY fun vQ =>
  .ar fun pU MM =>
  (let t11:List b3:=t9.append [.aa false,(J 1),.aw (bo 2 (.call {a2:=[.ao 19 0 (ae.mk 4 (ax.1.map bu) .live),.ao 19 1 (ae.mk 3 (ax.2.map bA) .live)],da:=[.pure,.pure],ac:=[.bs (.agg [.at_ 0 0 ax.1.length,.at_ 1 0 ax.2.length]),ii],r:= .n .i64 mq.1,eV:=[(av 4 bu mq.2.1),(av 3 bA mq.2.2)],gr:=ii,hD:=[.pure,.pure],eN:=[19],er:=false}) 1),.aw (bo 2 (.call {a2:=[.row 23],da:=[.pure],ac:=[ii,ii],r:= .n .i64 pU.1,eV:=[(av 1 eI pU.2)],gr:=ii,hD:=[.pure],eN:=[23],er:=false}) 1)];
  have Cy:=Cx.aH (.bi (cV ib) (by decide:0≠1) (rfl:kG [.ao 19 0 (ae.mk 4 (ax.1.map bu) .live),.ao 19 1 (ae.mk 3 (ax.2.map bA) .live)] 0 0=some (19,0)) (rfl:ax.1.length=ax.1.length) (rfl:kG [.ao 19 0 (ae.mk 4 (ax.1.map bu) .live),.ao 19 1 (ae.mk 3 (ax.2.map bA) .live)] 1 0=some (19,1)) (rfl:ax.2.length=ax.2.length) (rfl:dn (some [ae.mk 4 (ax.1.map bu) .live,ae.mk 3 (ax.2.map bA) .live]) 0=some (ae.mk 4 (ax.1.map bu) .live)) (f8 4 ju ax.1) (.gu (rfl:dn (some [ae.mk 4 (ax.1.map bu) .live,ae.mk 3 (ax.2.map bA) .live]) 1=some (ae.mk 3 (ax.2.map bA) .live)) (f8 3 iT ax.2) (f8 4 ju mq.2.1) (f8 3 iT mq.2.2) (NM mq rU) (f8 1 aN bQ) (f8 1 aN pU.2) (Jj pU MM)));
  .ite (fun ks =>
  .ret (bz (t11.append [.aw (ah 3 (cw 4 (ai (.aa true) []))),.aa true,(J 1)]) (Cy.aH (.d6 ks ks ks ks ks cI))))
  (fun ks =>
  .ar fun l8 i4 =>
  .ar fun sS Tc =>
  (let t13:List b3:=t11.append [.aw (ah 5 (ai (.call {ac:=[.bs (.c9 (.iF 1)),ii],r:= .b fo,er:=true}) (ah 1 (ai (.aa false) [])))),.aa false,(J 1),.aw (bo 2 (.call {ac:=[.bs (.c9 (.iF 1)),ii],r:= .n .i64 l8,er:=true}) 1),(J 1),.aw (bo 2 (.call {ac:=[.bs (.c9 (.iF 1)),ii],r:= .n .i64 sS,er:=true}) 1),(J 2)];
  have vT:=Cy.aH (.bi ks ks ks (te fo fJ) (bX.b fo) ks ks (cV ha) (.c3 (Yd l8 i4) (bX.n .i64 l8) (DB sS Tc) (bX.n .i64 sS)));
  .ite (fun rV =>
  .ret (bz (t13.append [.aa true,(J 1)]) (vT.aH (.e1 rV))))
  (fun rV =>
  .ite (fun pS =>
  .ret (bz (t13.append [.aa false,(J 3),.aa true,(J 1)]) (vT.aH (.aE rV pS))))
  (fun pS =>
  .ret (bz (t13.append [.aa false,(J 3),.aa false,.aw (ah 1 (ai (.call {a2:=[],da:=[],ac:=[ii],r:= .agg [.bf 0 0 0 ax.1.length,.bf 0 1 0 ax.2.length],eV:=[[ae.mk 4 (ax.1.map bu) .live,ae.mk 3 (ax.2.map bA) .live]],gr:= .bs (.agg [.id,.id]),hD:=[.bK [ae.mk 4 (ax.1.map bu) .live,ae.mk 3 (ax.2.map bA) .live]],eN:=[],er:=true}) (ah 1 (ai (.call {a2:=[],da:=[],ac:=[ii],r:= .bf 0 0 0 bQ.length,eV:=[(av 1 eI bQ)],gr:=ii,hD:=[.pure],eN:=[],er:=true}) (ai (.call {a2:=[],da:=[],ac:=[.bs (.agg [.dF (ax.1.map bu),.dF (ax.2.map bA)]),.bs (.c9 (.dF (bQ.map eI)))],r:= .ei,eV:=[],gr:=ii,hD:=[],eN:=[76,78],er:=true}) (ah 1 [])))))),.aw (bo 2 (.call {ac:=[.bs (.c9 (.iF 1)),ii],r:= .b fo,er:=true}) 1),.aa false,(J 1),.aw (bo 2 (.call {ac:=[.bs (.c9 (.iF 1)),ii],r:= .n .i64 sS,er:=true}) 1),(J 2),.aa false,(J 3),.aa false,(J 1)]) (vT.aH (.bi rV pS (c8 (fN (ic [76]) 4 uX ax.1) (c8 (fN (ic [76]) 3 uO ax.2) (nN (cd:=(ic [76]))))) ((iU rfl (iU rfl u9)):lJ [ae.mk 4 (ax.1.map bu) .live,ae.mk 3 (ax.2.map bA) .live]) (xa ax a0) (bX.agg (mA (bX.bf 0 0 0 ax.1.length) (mA (bX.bf 0 1 0 ax.2.length) rJ))) ((nl (lk (k7 uY) (lk (k7 uP) nr)) nq):lN [[ae.mk 4 (ax.1.map bu) .live,ae.mk 3 (ax.2.map bA) .live]]) (f8 1 aN bQ) (.bi (xO bQ bn) (bX.bf 0 0 0 bQ.length) ((nl (lk (k7 rM) nr) nq):lN [(av 1 eI bQ)]) (fv bu ax.1) (fb bu ax.1) (dd ju ax.1) (fv bA ax.2) (fb bA ax.2) (.bi (dd iT ax.2) (fv eI bQ) (fb eI bQ) (dd aN bQ) (Dd (.inr g9) eH) bX.ei (te fo fJ) (bX.b fo) (.dg (cV ha) (DB sS Tc) (bX.n .i64 sS) rV pS))))))))))))
  (fun ib =>
  .ret (bz (t9.append [.aa true,(J 1)]) (Cx.aH (.e1 (cT ib)))))))
  (fun gq =>
  .ret (bz (t7.append [.aa true,(J 1)]) (lR.aH (.e1 (cT gq)))))))
  (fun ha =>
  .ret (bz (t5.append [.aa true,(J 1)]) (kj.aH (.e1 (cT ha))))))))))))
end Go.Proofs.YtmeimpeaagmneaaGreat
