/- Lemmas, plain functions of the program, and what they answer. No condition. -/
import Derived.Test.YtmeimpeaagmneabGreatMC
namespace Go.Proofs.YtmeimpeaagmneabGreat
set_option linter.unusedVariables false
set_option linter.unusedSimpArgs false
open Go Go.VL
def Gt (e4:List bo)(ew:List bC)(cp:List Int)(iX:List eJ)(ad:Int)(gW:List Int)(fi:List (List Int))(gJ ft bN d5:Int)(al aK:List Int):(Int×(List Int))→S:=fun (gK,aC)=>dv [(0,.dS 2 [[.isl 4 (e4.map bw),.isl 3 (ew.map bB)]] 0 0),(1,.isl 1 (cp.map eI)),(8,.ref 0 0 0 0),(10,.isl 2 (iX.map gB)),(11,.ref 1 0 0 0),(12,.n .i64 ad),(13,.isl 1 (gW.map eI)),(46,.isl 1 (fi.map (eD 1 eI))),(47,.n .i64 gJ),(48,.n .i64 ad),(53,.isl 2 (iX.map gB)),(54,.n .i64 ft),(55,.n .i64 gK)] [[ae.mk 5 [[.n .i64 (0:Int),.n .i64 (0:Int),.ek,.ek,.ek]] .live],[ae.mk 5 [(zA bN d5 2 0 0 aC.length 3 0 0 al.length 4 0 0 aK.length)] .live],(au 1 eI aC),(au 1 eI al),(au 1 eI aK)]
def Gy (e4:List bo)(ew:List bC)(cp:List Int)(iX:List eJ)(ad:Int)(gW:List Int)(fi:List (List Int))(gJ ft bN d5:Int)(al aK:List Int):(List Int)→dy
 | a=>⟨some 2,[(0,.dS 2 [[.isl 4 (e4.map bw),.isl 3 (ew.map bB)]] 0 0),(1,.isl 1 (cp.map eI)),(8,.ref 0 0 0 0),(10,.isl 2 (iX.map gB)),(11,.ref 1 0 0 0),(46,.isl 1 (fi.map (eD 1 eI))),(47,.n .i64 gJ),(48,.n .i64 ad)],[[ae.mk 5 [[.n .i64 (0:Int),.n .i64 (0:Int),.ek,.ek,.ek]] .live],[ae.mk 5 [(zA bN d5 2 0 0 a.length 3 0 0 al.length 4 0 0 aK.length)] .live],(au 1 eI a),(au 1 eI al),(au 1 eI aK)]⟩
def wR (e4:List bo)(ew:List bC)(cp:List Int)(iX:List eJ)(ad:Int)(gW:List Int)(fi:List (List Int))(gJ ft bN d5:Int)(al aK:List Int)(gK:Int)(aC:List Int):Option ((Int×(List Int))⊕((List Int))) :=
 if (decide (gK<ft))=true then
  if 0≤gK∧gK<iX.length then
  iX[gK.toNat]? >>= fun az =>
  if 0≤az.mY∧az.mY<gW.length then
  gW[az.mY.toNat]? >>= fun cy =>
  if 0≤(R ((R (ad*d5))+gK))∧(R ((R (ad*d5))+gK))<(aC.length:Nat) then
  if (0+(R ((R (ad*d5))+gK)).toNat)<aC.length then
  some (.inl (R (gK+(1:Int)),aC.set (0+(R ((R (ad*d5))+gK)).toNat) (R (az.qz*cy))))
  else none
  else none
  else none
  else none
 else
  some (.inr aC)
def GK (e4:List bo)(ew:List bC)(cp:List Int)(iX:List eJ)(ad:Int)(gW:List Int)(fi:List (List Int))(gJ ft bN d5:Int)(al aK:List Int)(gK:Int)(aC:List Int):Option ((List Int)):=iter (fun w:Int×(List Int)=>wR e4 ew cp iX ad gW fi gJ ft bN d5 al aK w.1 w.2) (gK,aC)
theorem UJ {e4:List bo}{ew:List bC}{cp:List Int}{iX:List eJ}{ad:Int}{gW:List Int}{fi:List (List Int)}{gJ ft bN d5:Int}{al aK:List Int}{gK:Int}{aC:List Int}:bD (wR e4 ew cp iX ad gW fi gJ ft bN d5 al aK gK aC) (dO a4 113 0 58 [1,1,1,1,0,1,0,0,1,1,0,0,1,1,0,0] (Gt e4 ew cp iX ad gW fi gJ ft bN d5 al aK (gK,aC)) (Gt e4 ew cp iX ad gW fi gJ ft bN d5 al aK) (Gy e4 ew cp iX ad gW fi gJ ft bN d5 al aK)):=by
 unfold wR
 exact .ite (fun h1 =>
  .aY fun o =>
  .ar fun az av =>
  .aY fun aA =>
  .ar fun cy bf =>
  .aY fun bl =>
  .aY fun cB =>
  .ret (let q1:=R ((R (ad*d5))+gK);let a7:=R (az.qz*cy);bg [(J 1),.aa true,.aw (bq 2 (.b5 (gB az)) 3),.aw (ai 14 (aj (.b5 (eI cy)) (ai 2 (aj .fZ [])))),(J 2),.aN [0,1,2,3,4] [.box [.id,.id,.id,.id,.id],.box [.id,.id,.len ((aC.set (0+q1.toNat) a7).length),.id,.id],.cG (au 1 eI (aC.set (0+q1.toNat) a7)),.pure,.pure] (a8 [0,1,8,10,11,12,13,46,47,48,53,54,55])] (.bi h1 o.1 (cX gB o.2) (b1 gB av) aA.1 (cX eI aA.2) (b1 eI bf) bl.1 (.gz bl.2 (hT eI cB) (hM 1) (hi (dX aC) (0+q1.toNat) a7) (c2 1 .live (gP (cZ eI aC) (0+q1.toNat) a7)) (aJ 1 .live aO (aC.set (0+q1.toNat) a7)) (aJ 1 .live aO al) (aJ 1 .live aO aK)))))
  (fun h1 =>
  .ret (bg [(J 1),.aa false,.aN [0,1,2,3,4] [.box [.id,.id,.id,.id,.id],.box [.id,.id,.id,.id,.id],.pure,.pure,.pure] (a8 [0,1,8,10,11,46,47,48])] (.c4 h1 (aJ 1 .live aO aC) (aJ 1 .live aO al) (aJ 1 .live aO aK))))
theorem UY {e4:List bo}{ew:List bC}{cp:List Int}{iX:List eJ}{ad:Int}{gW:List Int}{fi:List (List Int)}{gJ ft bN d5:Int}{al aK:List Int}{gK:Int}{aC:List Int}{r} (h:GK e4 ew cp iX ad gW fi gJ ft bN d5 al aK gK aC=some r):dP a4 113 0 58 [1,1,1,1,0,1,0,0,1,1,0,0,1,1,0,0] (Gt e4 ew cp iX ad gW fi gJ ft bN d5 al aK) (Gy e4 ew cp iX ad gW fi gJ ft bN d5 al aK) (gK,aC) r:=dQ (fun _=>UJ) h
def Gu (e4:List bo)(ew:List bC)(cp:List Int)(iX:List eJ)(fi:List (List Int))(gJ bN d5:Int)(al aK:List Int):(Int×(List Int))→S:=fun (nT,aC)=>dv [(0,.dS 2 [[.isl 4 (e4.map bw),.isl 3 (ew.map bB)]] 0 0),(1,.isl 1 (cp.map eI)),(8,.ref 0 0 0 0),(10,.isl 2 (iX.map gB)),(11,.ref 1 0 0 0),(46,.isl 1 (fi.map (eD 1 eI))),(47,.n .i64 gJ),(48,.n .i64 nT)] [[ae.mk 5 [[.n .i64 (0:Int),.n .i64 (0:Int),.ek,.ek,.ek]] .live],[ae.mk 5 [(zA bN d5 2 0 0 aC.length 3 0 0 al.length 4 0 0 aK.length)] .live],(au 1 eI aC),(au 1 eI al),(au 1 eI aK)]
def Gz (e4:List bo)(ew:List bC)(cp:List Int)(iX:List eJ)(fi:List (List Int))(gJ bN d5:Int)(al aK:List Int):(List Int)→dy
 | a=>⟨some 0,[(0,.dS 2 [[.isl 4 (e4.map bw),.isl 3 (ew.map bB)]] 0 0),(1,.isl 1 (cp.map eI)),(8,.ref 0 0 0 0),(11,.ref 1 0 0 0)],[[ae.mk 5 [[.n .i64 (0:Int),.n .i64 (0:Int),.ek,.ek,.ek]] .live],[ae.mk 5 [(zA bN d5 2 0 0 a.length 3 0 0 al.length 4 0 0 aK.length)] .live],(au 1 eI a),(au 1 eI al),(au 1 eI aK)]⟩
def wS (e4:List bo)(ew:List bC)(cp:List Int)(iX:List eJ)(fi:List (List Int))(gJ bN d5:Int)(al aK:List Int)(nT:Int)(aC:List Int):Option ((Int×(List Int))⊕((List Int))) :=
 if (decide (nT<gJ))=true then
  if 0≤nT∧nT<fi.length then
  fi[nT.toNat]? >>= fun az =>
  GK e4 ew cp iX nT az fi gJ (len_ gB iX) bN d5 al aK 0 aC >>= fun ax =>
  some (.inl (R (nT+(1:Int)),ax))
  else none
 else
  some (.inr aC)
def GL (e4:List bo)(ew:List bC)(cp:List Int)(iX:List eJ)(fi:List (List Int))(gJ bN d5:Int)(al aK:List Int)(nT:Int)(aC:List Int):Option ((List Int)):=iter (fun w:Int×(List Int)=>wS e4 ew cp iX fi gJ bN d5 al aK w.1 w.2) (nT,aC)
theorem UK {e4:List bo}{ew:List bC}{cp:List Int}{iX:List eJ}{fi:List (List Int)}{gJ bN d5:Int}{al aK:List Int}{nT:Int}{aC:List Int}:bD (wS e4 ew cp iX fi gJ bN d5 al aK nT aC) (dO a4 113 0 58 [1,1,1,1,0,1,0,0] (Gu e4 ew cp iX fi gJ bN d5 al aK (nT,aC)) (Gu e4 ew cp iX fi gJ bN d5 al aK) (Gz e4 ew cp iX fi gJ bN d5 al aK)):=by
 unfold wS
 exact .ite (fun h1 =>
  .aY fun o =>
  .ar fun az av =>
  .ar fun ax aX =>
  .ret (bg [(J 1),.aa true,.aw (bq 2 (.b5 ((eD 1 eI) az)) 2),(J 3),.aN [0,1,2,3,4] [.box [.id,.id,.id,.id,.id],.box [.id,.id,.id,.id,.id],.pure,.pure,.pure] (a8 [0,1,8,10,11,12,13,46,47,48,53,54,55]),(Gy e4 ew cp iX nT az fi gJ (len_ gB iX) bN d5 al aK ax).e8,(J 2),.aN [0,1,2,3,4] [.box [.id,.id,.id,.id,.id],.box [.id,.id,.id,.id,.id],.pure,.pure,.pure] (a8 [0,1,8,10,11,46,47,48])] (.bi h1 o.1 (cX (eD 1 eI) o.2) (b1 (eD 1 eI) av) (aJ 1 .live aO aC) (aJ 1 .live aO al) (aJ 1 .live aO aK) (UY aX) (.bP (aJ 1 .live aO ax) (aJ 1 .live aO al) (aJ 1 .live aO aK)))))
  (fun h1 =>
  .ret (bg [(J 1),.aa false,.aN [0,1,2,3,4] [.box [.id,.id,.id,.id,.id],.box [.id,.id,.id,.id,.id],.pure,.pure,.pure] (a8 [0,1,8,11])] (.c4 h1 (aJ 1 .live aO aC) (aJ 1 .live aO al) (aJ 1 .live aO aK))))
theorem UZ {e4:List bo}{ew:List bC}{cp:List Int}{iX:List eJ}{fi:List (List Int)}{gJ bN d5:Int}{al aK:List Int}{nT:Int}{aC:List Int}{r} (h:GL e4 ew cp iX fi gJ bN d5 al aK nT aC=some r):dP a4 113 0 58 [1,1,1,1,0,1,0,0] (Gu e4 ew cp iX fi gJ bN d5 al aK) (Gz e4 ew cp iX fi gJ bN d5 al aK) (nT,aC) r:=dQ (fun _=>UK) h
def Gv (cp ow:List Int)(o2 bN d5:Int)(aC aK:List Int):(Int×(List Int))→S:=fun (la,al)=>dv [(1,.isl 1 (cp.map eI)),(8,.ref 0 0 0 0),(11,.ref 1 0 0 0),(80,.isl 1 (ow.map eI)),(81,.n .i64 o2),(82,.n .i64 la)] [[ae.mk 5 [[.n .i64 (0:Int),.n .i64 (0:Int),.ek,.ek,.ek]] .live],[ae.mk 5 [(zA bN d5 2 0 0 aC.length 3 0 0 al.length 4 0 0 aK.length)] .live],(au 1 eI aC),(au 1 eI al),(au 1 eI aK)]
def GA (cp ow:List Int)(o2 bN d5:Int)(aC aK:List Int):(List Int)→dy
 | a=>⟨some 4,[(8,.ref 0 0 0 0),(11,.ref 1 0 0 0)],[[ae.mk 5 [[.n .i64 (0:Int),.n .i64 (0:Int),.ek,.ek,.ek]] .live],[ae.mk 5 [(zA bN d5 2 0 0 aC.length 3 0 0 a.length 4 0 0 aK.length)] .live],(au 1 eI aC),(au 1 eI a),(au 1 eI aK)]⟩
def wT (cp ow:List Int)(o2 bN d5:Int)(aC aK:List Int)(la:Int)(al:List Int):Option ((Int×(List Int))⊕((List Int))) :=
 if (decide (la<o2))=true then
  if 0≤la∧la<ow.length then
  ow[la.toNat]? >>= fun az =>
  if 0≤(R ((2:Int)*az))∧(R ((2:Int)*az))<cp.length then
  cp[(R ((2:Int)*az)).toNat]? >>= fun cy =>
  if 0≤(R ((R ((2:Int)*az))+(1:Int)))∧(R ((R ((2:Int)*az))+(1:Int)))<cp.length then
  cp[(R ((R ((2:Int)*az))+(1:Int))).toNat]? >>= fun dj =>
  if 0≤(R ((2:Int)*la))∧(R ((2:Int)*la))<(al.length:Nat) then
  if (0+(R ((2:Int)*la)).toNat)<al.length then
  if 0≤(R ((R ((2:Int)*la))+(1:Int)))∧(R ((R ((2:Int)*la))+(1:Int)))<(al.length:Nat) then
  if (0+(R ((R ((2:Int)*la))+(1:Int))).toNat)<(al.set (0+(R ((2:Int)*la)).toNat) (R (0-cy))).length then
  some (.inl (R (la+(1:Int)),(al.set (0+(R ((2:Int)*la)).toNat) (R (0-cy))).set (0+(R ((R ((2:Int)*la))+(1:Int))).toNat) (R (0-dj))))
  else none
  else none
  else none
  else none
  else none
  else none
  else none
 else
  some (.inr al)
def GM (cp ow:List Int)(o2 bN d5:Int)(aC aK:List Int)(la:Int)(al:List Int):Option ((List Int)):=iter (fun w:Int×(List Int)=>wT cp ow o2 bN d5 aC aK w.1 w.2) (la,al)
theorem UL {cp ow:List Int}{o2 bN d5:Int}{aC aK:List Int}{la:Int}{al:List Int}:bD (wT cp ow o2 bN d5 aC aK la al) (dO a4 113 0 58 [1,1,1,1,1,0,1,0,0] (Gv cp ow o2 bN d5 aC aK (la,al)) (Gv cp ow o2 bN d5 aC aK) (GA cp ow o2 bN d5 aC aK)):=by
 unfold wT
 exact .ite (fun h1 =>
  .aY fun o =>
  .ar fun az av =>
  .aY fun aA =>
  .ar fun cy bf =>
  .aY fun bl =>
  .ar fun dj cQ =>
  .aY fun fe =>
  .aY fun eK =>
  .aY fun eU =>
  .aY fun eL =>
  .ret (let q1:=(R ((2:Int)*la));let a7:=(R (q1+(1:Int)));let bZ:=R (0-cy);let cC:=R (0-dj);bg [(J 1),.aa true,.aw (bq 2 (.b5 (eI az)) 2),.aw (ai 13 (aj (.b5 (eI cy)) (ai 6 (aj (.b5 (eI dj)) (ai 2 (aj .fZ (ai 1 (aj .fZ [])))))))),(J 2),.aN [0,1,2,3,4] [.box [.id,.id,.id,.id,.id],.box [.id,.id,.id,.len (((al.set (0+q1.toNat) bZ).set (0+a7.toNat) cC).length),.id],.pure,.cG (au 1 eI ((al.set (0+q1.toNat) bZ).set (0+a7.toNat) cC)),.pure] (a8 [1,8,11,80,81,82])] (.bi h1 o.1 (cX eI o.2) (b1 eI av) aA.1 (cX eI aA.2) (b1 eI bf) bl.1 (.bi (cX eI bl.2) (b1 eI cQ) fe.1 fe.2 (hT eI eK) (hM 1) eU.1 eU.2 (.eP (adM (gP (cZ eI al) (0+q1.toNat) bZ) eL) (hM 1) (hi (hi (dX al) (0+q1.toNat) bZ) (0+a7.toNat) cC) (aJ 1 .live aO aC) (c2 1 .live (gP (gP (cZ eI al) (0+q1.toNat) bZ) (0+a7.toNat) cC)) (aJ 1 .live aO ((al.set (0+q1.toNat) bZ).set (0+a7.toNat) cC)) (aJ 1 .live aO aK))))))
  (fun h1 =>
  .ret (bg [(J 1),.aa false,.aN [0,1,2,3,4] [.box [.id,.id,.id,.id,.id],.box [.id,.id,.id,.id,.id],.pure,.pure,.pure] (a8 [8,11])] (.c4 h1 (aJ 1 .live aO aC) (aJ 1 .live aO al) (aJ 1 .live aO aK))))
theorem U0 {cp ow:List Int}{o2 bN d5:Int}{aC aK:List Int}{la:Int}{al:List Int}{r} (h:GM cp ow o2 bN d5 aC aK la al=some r):dP a4 113 0 58 [1,1,1,1,1,0,1,0,0] (Gv cp ow o2 bN d5 aC aK) (GA cp ow o2 bN d5 aC aK) (la,al) r:=dQ (fun _=>UL) h
def zV (aH:cl)(cp:List Int)(nN oh:Int):Option hN :=
 zW aH >>= fun r1 =>
 z0 aH >>= fun bn =>
 if 0≤(R ((R ((len_ (eD 1 eI) r1)+oh))*(R ((len_ gB bn)+nN))))∧(8:Int)*(R ((R ((len_ (eD 1 eI) r1)+oh))*(R ((len_ gB bn)+nN))))≤281474976710656∧(R ((R ((len_ (eD 1 eI) r1)+oh))*(R ((len_ gB bn)+nN))))<9223372036854775808 then
 if 0≤(R ((len_ (eD 1 eI) r1)+oh))∧(8:Int)*(R ((len_ (eD 1 eI) r1)+oh))≤281474976710656∧(R ((len_ (eD 1 eI) r1)+oh))<9223372036854775808 then
 if 0≤(R ((len_ gB bn)+nN))∧(8:Int)*(R ((len_ gB bn)+nN))≤281474976710656∧(R ((len_ gB bn)+nN))<9223372036854775808 then
 GL aH.bY aH.bs cp bn r1 (len_ (eD 1 eI) r1) (R ((len_ (eD 1 eI) r1)+oh)) (R ((len_ gB bn)+nN)) (List.replicate (R ((len_ (eD 1 eI) r1)+oh)).toNat 0:List Int) (List.replicate (R ((len_ gB bn)+nN)).toNat 0:List Int) 0 (List.replicate (R ((R ((len_ (eD 1 eI) r1)+oh))*(R ((len_ gB bn)+nN)))).toNat 0:List Int) >>= fun de =>
 w8 aH >>= fun et =>
 GM cp et (len_ eI et) (R ((len_ (eD 1 eI) r1)+oh)) (R ((len_ gB bn)+nN)) de (List.replicate (R ((len_ gB bn)+nN)).toNat 0:List Int) 0 (List.replicate (R ((len_ (eD 1 eI) r1)+oh)).toNat 0:List Int) >>= fun en =>
 some (⟨R ((len_ (eD 1 eI) r1)+oh),R ((len_ gB bn)+nN),de,en,(List.replicate (R ((len_ gB bn)+nN)).toNat 0:List Int)⟩:hN)
 else none
 else none
 else none
theorem Vf {aH:cl}{cp:List Int}{nN oh:Int}:bD (zV aH cp nN oh) (fun r=>Con a4 58 [.dS 2 [(gf aH)] 0 0,.isl 1 (cp.map eI),.n .i64 nN,.n .i64 oh] [] (.agg (oi r)) []):=by
 unfold zV
 exact .ar fun r1 o =>
  .ar fun bn av =>
  .aY fun aA =>
  .aY fun aX =>
  .aY fun bf =>
  .ar fun de cB =>
  .ar fun et fe =>
  .ar fun en eU =>
  .ret (let q1:=R ((len_ (eD 1 eI) r1)+oh);let a7:=R ((len_ gB bn)+nN);let bZ:=(List.replicate a7.toNat 0:List Int);let cC:=(List.replicate q1.toNat 0:List Int);let f8:=R (q1*a7);let dr:=(List.replicate f8.toNat 0:List Int);bA [(J 1),.aw (ai 1 (aj (bu 1 (.isl 1 (r1.map (eD 1 eI))) false) (bq 1 (bu 1 (.isl 2 (bn.map gB)) false) 2))),(J 11),(J 18),(J 3),.aN [0,16,23,26,29] [.box [.id,.id,.id,.id,.id],.box [.id,.id,.len (dr.length),.len (cC.length),.len (bZ.length)],.cG (au 1 eI dr),.cG (au 1 eI cC),.cG (au 1 eI bZ)] (a8 [0,1,8,10,11,46,47,48]),(Gz aH.bY aH.bs cp bn r1 (len_ (eD 1 eI) r1) q1 a7 cC bZ de).e8,.aw (bq 1 (bu 1 (.isl 1 (et.map eI)) false) 2),.aN [0,1,2,3,4] [.box [.id,.id,.id,.id,.id],.box [.id,.id,.id,.id,.id],.pure,.pure,.pure] (a8 [1,8,11,80,81,82]),(GA cp et (len_ eI et) q1 a7 de bZ en).e8,(J 2)] (.bi (Vh r1 o) (VW bn av) aA.1 (Int.le_refl f8) aA.2.1 aA.2.2 aX.1 (Int.le_refl q1) (.bi aX.2.1 aX.2.2 bf.1 (Int.le_refl a7) bf.2.1 bf.2.2 (mh f8.toNat (0:Int)) (mh q1.toNat (0:Int)) (.bi (mh a7.toNat (0:Int)) (c2 1 .live (lY eI f8.toNat 0)) (aJ 1 .live aO dr) (c2 1 .live (lY eI q1.toNat 0)) (aJ 1 .live aO cC) (c2 1 .live (lY eI a7.toNat 0)) (aJ 1 .live aO bZ) (UZ cB) (.bi (Oc et fe) (aJ 1 .live aO de) (aJ 1 .live aO cC) (aJ 1 .live aO bZ) (U0 eU) (fw eI de) (ff eI de) (dk aO de) (.dW (fw eI en) (ff eI en) (dk aO en) (fw eI bZ) (ff eI bZ) (dk aO bZ)))))) (.bp (.agg [.id,.id,.dL (de.map eI),.dL (en.map eI),.dL (bZ.map eI)])))
def IA:(Int×(List Int))→S:=fun (a3,ab)=>dv [(0,.n .u64 a3),(3,.bh 0 0 0 ab.length)] [(au 1 eI ab)]
def Jf:(List Int)→dy
 | a=>⟨some 0,[(3,.bh 0 0 0 a.length)],[(au 1 eI a)]⟩
def xH (a3:Int)(ab:List Int):Option ((Int×(List Int))⊕((List Int))) :=
 if (decide ((0:Int)<a3))=true then
  if (ab++([IntKind.wrap .i64 (a3.tmod (1000000000:Int))]:List Int)).length*8≤140737488355328 then
  some (.inl (IntKind.wrap .u64 (a3.tdiv (1000000000:Int)),ab++([IntKind.wrap .i64 (a3.tmod (1000000000:Int))]:List Int)))
  else none
 else
  some (.inr ab)
def Kr (a3:Int)(ab:List Int):Option ((List Int)):=iter (fun w:Int×(List Int)=>xH w.1 w.2) (a3,ab)
theorem Wo {a3:Int}{ab:List Int}:bD (xH a3 ab) (dO a4 15 0 111 [1,1,0,0,0] (IA (a3,ab)) (IA) (Jf)):=by
 unfold xH
 exact .ite (fun h1 =>
  .aY fun o =>
  .ret (let q1:=(ab++([(IntKind.wrap .i64 (a3.tmod (1000000000:Int)))]:List Int));bg [(J 2),.aa true,.aw (bq 5 (.aI (q1.length)) 1),(J 3),.aN [8] [.cG (au 1 eI q1)] (a8 [0,3])] (.bi h1 (by decide:(1000000000:Int)≠0) (gF eI (IntKind.wrap .i64 (a3.tmod (1000000000:Int)))) (g9 eI ab) (gG eI ab (IntKind.wrap .i64 (a3.tmod (1000000000:Int)))) o (by decide:(1000000000:Int)≠0) (c2 1 .live (hf eI ab (IntKind.wrap .i64 (a3.tmod (1000000000:Int))))) (.e1 (aJ 1 .live aO q1)))))
  (fun h1 =>
  .ret (bg [(J 2),.aa false,.aN [0] [.pure] (a8 [3])] (.aD h1 (aJ 1 .live aO ab))))
theorem X4 {a3:Int}{ab:List Int}{r} (h:Kr a3 ab=some r):dP a4 15 0 111 [1,1,0,0,0] (IA) (Jf) (a3,ab) r:=dQ (fun _=>Wo) h
def uY (a3:Int):Option (List Int) :=
 Kr a3 ([]:List Int) >>= fun r1 =>
 some r1
theorem Ks {a3:Int}:bD (uY a3) (fun r=>Con a4 111 [.n .u64 a3] [] (.isl 1 (r.map eI)) []):=by
 unfold uY
 exact .ar fun r1 o =>
  .ret (bA [(J 1),(J 1),.sO 3 1,.aN [2] [.cG (au 1 eI ([]:List Int))] [(0,ii),(3,fW (([]:List Int).length))],(Jf r1).e8,(J 2)] (.eP (c2 1 .live (nj eI)) (aJ 1 .live aO ([]:List Int)) (fg Int) (X4 o) (fw eI r1) (ff eI r1) (dk aO r1)) (.bp (.cJ (.dL (r1.map eI)))))
def np (ou:Bool)(y9:List Int):Option bx :=
 if ou=true then
  some (⟨(decide ((0:Int)<(len_ eI y9))),y9⟩:bx)
 else
  some (⟨false,y9⟩:bx)
theorem ts {ou:Bool}{y9:List Int}:bD (np ou y9) (fun r=>Con a4 110 [.b ou,.isl 1 (y9.map eI)] [] (.agg (a1 r)) []):=by
 unfold np
 exact .ite (fun h1 =>
  .ret (bA [(J 1),.aw (bq 5 (.aa true) 3)] (.c4 h1 h1 h1 h1)))
  (fun h1 =>
  .ret (bA [(J 1),.aw (ai 2 (cx 3 (aj (.aa false) (ai 3 []))))] (.c4 h1 h1 h1 h1)))
def oK (a3:Int):Option bx :=
 if (decide (a3<(0:Int)))=true then
  uY (IntKind.wrap .u64 ((IntKind.wrap .u64 (R (0-(R (a3+(1:Int))))))+(1:Int))) >>= fun bV =>
  np true bV >>= fun a6 =>
  some a6
 else
  uY (IntKind.wrap .u64 a3) >>= fun bV =>
  np false bV >>= fun a6 =>
  some a6
theorem sj {a3:Int}:bD (oK a3) (fun r=>Con a4 85 [.n .i64 a3] [] (.agg (a1 r)) []):=by
 unfold oK
 exact .ite (fun h1 =>
  .ar fun bV af =>
  .ar fun a6 aA =>
  .ret (bA [(J 1),(J 2),.aa true,.aw (ai 5 (aj (bu 1 (.isl 1 (bV.map eI)) false) (aj (bu 2 (.agg (a1 a6)) false) (ai 1 []))))] (.bP h1 (Ks bV af) (ts a6 aA))))
  (fun h1 =>
  .ar fun bV af =>
  .ar fun a6 aA =>
  .ret (bA [(J 1),(J 2),.aa false,.aw (ai 2 (aj (bu 1 (.isl 1 (bV.map eI)) false) (aj (bu 2 (.agg (a1 a6)) false) (ai 1 []))))] (.bP h1 (Ks bV af) (ts a6 aA))))
def ye (cg:hN)(ad:Int):Option (List Int) :=
 if 0≤(R (ad*cg.eh)) then
 if 0≤(R ((R (ad+(1:Int)))*cg.eh)) then
 if (R (ad*cg.eh)).toNat≤(R ((R (ad+(1:Int)))*cg.eh)).toNat∧(R ((R (ad+(1:Int)))*cg.eh)).toNat≤cg.dt.length then
 some ((cg.dt.drop ((R (ad*cg.eh)).toNat)).take ((R ((R (ad+(1:Int)))*cg.eh)).toNat-(R (ad*cg.eh)).toNat))
 else none
 else none
 else none
theorem OM {cg:hN}{ad:Int}:bD (ye cg ad) (fun r=>Con a4 86 [.dS 5 [(oi cg)] 0 0,.n .i64 ad] [] (.isl 1 (r.map eI)) []):=by
 unfold ye
 exact .aY fun h1 =>
  .aY fun o =>
  .aY fun af =>
  .ret (let q1:=R (ad*cg.eh);let a7:=(R ((R (ad+(1:Int)))*cg.eh));bA [(J 1),(J 19)] (.dh h1 o af.1 (qo (cZ eI cg.dt) af.2) (congrArg (aF.isl 1) (oM (cZ eI cg.dt) (q1.toNat) (a7.toNat-q1.toNat)):(.isl 1 (((cg.dt.map eI).drop (q1.toNat)).take (a7.toNat-q1.toNat)):aF) = .isl 1 (((cg.dt.drop (q1.toNat)).take (a7.toNat-q1.toNat)).map eI))) (.bp (.cJ (.cG (.isl 1 (((cg.dt.drop (q1.toNat)).take (a7.toNat-q1.toNat)).map eI))))))
def Kt (aH:List Int)(eB cV:Int):Int→S:=fun cL=>dv [(0,.isl 1 (aH.map eI)),(1,.n .i64 eB),(7,.n .i64 cV),(8,.n .i64 cL)] []
def Pz (aH:List Int)(eB cV:Int):((Unit)⊕(Int))→dy
 | .inl a=>⟨some 0,[],[]⟩
 | .inr a=>⟨none,[(4,.n .i64 a)],[]⟩
def sk (aH:List Int)(eB cV cL:Int):Option ((Int)⊕((Unit)⊕(Int))) :=
 if (decide (cL<cV))=true then
  if 0≤cL∧cL<aH.length then
  aH[cL.toNat]? >>= fun az =>
  if (eB == az)=true then
   some (.inr (.inr cL))
  else
   some (.inl (R (cL+(1:Int))))
  else none
 else
  some (.inr (.inl ()))
def Ey (aH:List Int)(eB cV cL:Int):Option ((Unit)⊕(Int)):=iter (fun w:Int=>sk aH eB cV w) cL
theorem X5 {aH:List Int}{eB cV cL:Int}:bD (sk aH eB cV cL) (dO a4 19 0 90 [1,0,1,0,0] (Kt aH eB cV cL) (Kt aH eB cV) (Pz aH eB cV)):=by
 unfold sk
 exact .ite (fun h1 =>
  .aY fun o =>
  .ar fun az av =>
  (let t1:List b0:=[(J 1),.aa true,(J 2),.aw (bq 4 (.b5 (eI az)) 1)];
  have aV:=((.c4 h1 o.1 (cX eI o.2) (b1 eI av)):cA _);
  .ite (fun aA =>
  .ret (bg (t1.append [.aa true,(J 2),.aN [] [] (a8 [4])]) (aV.aI (.e1 aA))))
  (fun aA =>
  .ret (bg (t1.append [.aa false,(J 2),.aN [] [] (a8 [0,1,7,8])]) (aV.aI (.e1 aA))))))
  (fun h1 =>
  .ret (bg [(J 1),.aa false,.aN [] [] []] (.e1 h1)))
theorem PD {aH:List Int}{eB cV cL:Int}{r} (h:Ey aH eB cV cL=some r):dP a4 19 0 90 [1,0,1,0,0] (Kt aH eB cV) (Pz aH eB cV) cL r:=dQ (fun _=>X5) h
def Bt (aH:List Int)(eB:Int):Option Int :=
 Ey aH eB (len_ eI aH) 0 >>= fun r1 =>
 match r1 with
 | .inl dd=>(some (-1))
 | .inr dd=>(some dd)
theorem aaU {aH:List Int}{eB:Int}:bD (Bt aH eB) (fun r=>Con a4 90 [.isl 1 (aH.map eI),.n .i64 eB] [] (.n .i64 r) []):=by
 unfold Bt
 exact .ar fun r1 o =>
  (let t1:List b0:=[(J 1),(J 3),.aN [] [] (a8 [0,1,7,8])];
  (by
  rcases r1 with dd|dd
  ·exact (.ret (bA (t1.append [.sub (.exit 0) [] [],(J 1)]) (.e1 (PD o))))
  ·exact (.ret (bA (t1.append [.sub (.ret) [(4,.n .i64 dd)] []]) (.e1 (PD o))))))
def sr (aH:List Int)(eB:Int):Option Bool :=
 Bt aH eB >>= fun r1 =>
 some (decide ((0:Int)≤r1))
theorem KT {aH:List Int}{eB:Int}:bD (sr aH eB) (fun r=>Con a4 62 [.isl 1 (aH.map eI),.n .i64 eB] [] (.b r) []):=by
 unfold sr
 exact .ar fun r1 o =>
  .ret (bA [(J 1),.aw (bq 2 (bu 2 (.n .i64 r1) true) 2)] (.aD (aaU r1 o) (bR.n .i64 r1)))
def JU:(List Int)→S:=fun ag=>dv [(0,.isl 1 (ag.map eI))] []
def Ke:(List Int)→dy
 | a=>⟨some 0,[(0,.isl 1 (a.map eI))],[]⟩
def x9 (ag:List Int):Option (((List Int))⊕((List Int))) :=
 if (decide ((0:Int)<(len_ eI ag)))=true then
  if 0≤(R ((len_ eI ag)-(1:Int)))∧(R ((len_ eI ag)-(1:Int)))<ag.length then
  ag[(R ((len_ eI ag)-(1:Int))).toNat]? >>= fun az =>
  if (az == (0:Int))=true then
   if 0≤(R ((len_ eI ag)-(1:Int))) then
   if 0≤(R ((len_ eI ag)-(1:Int))).toNat∧(R ((len_ eI ag)-(1:Int))).toNat≤ag.length then
   some (.inl ((ag.drop 0).take ((R ((len_ eI ag)-(1:Int))).toNat-0)))
   else none
   else none
  else
   some (.inr ag)
  else none
 else
  some (.inr ag)
def KY (ag:List Int):Option ((List Int)):=iter (fun w:(List Int)=>x9 w) ag
theorem Xn {ag:List Int}:bD (x9 ag) (dO a4 21 0 140 [1,0,0,0] (JU ag) (JU) (Ke)):=by
 unfold x9
 exact .ite (fun h1 =>
  .aY fun o =>
  .ar fun az av =>
  (let t1:List b0:=[.aw (ai 9 (aj (.b5 (eI az)) (ai 1 (aj (.aa true) []))))];
  have aV:=((.bi h1 h1 h1 h1 h1 o.1 (cX eI o.2) h1 (.bP (b1 eI av) h1 h1)):cA _);
  .ite (fun aA =>
  .aY fun aX =>
  .aY fun bf =>
  .ret (let q1:=(R ((len_ eI ag)-(1:Int)));bg (t1.append [.aa true,(J 6),.aN [] [] [(0,.bp (.cJ (.cG (.isl 1 (((ag.drop 0).take (q1.toNat-0)).map eI)))))]]) (aV.aI (.dh aA aX bf.1 (qo (cZ eI ag) bf.2) (congrArg (aF.isl 1) (oM (cZ eI ag) 0 (q1.toNat-0)):(.isl 1 (((ag.map eI).drop 0).take (q1.toNat-0)):aF) = .isl 1 (((ag.drop 0).take (q1.toNat-0)).map eI))))))
  (fun aA =>
  .ret (bg (t1.append [.aa false,.aN [] [] (a8 [0])]) (aV.aI (.e1 aA))))))
  (fun h1 =>
  .ret (bg [.aw (ai 4 (cx 7 (aj (.aa false) []))),.aa false,.aN [] [] (a8 [0])] (.bi h1 h1 h1 h1 h1 h1 h1 h1 (.e1 cK))))
theorem Y7 {ag:List Int}{r} (h:KY ag=some r):dP a4 21 0 140 [1,0,0,0] (JU) (Ke) ag r:=dQ (fun _=>Xn) h
def qn (ag:List Int):Option (List Int) :=
 KY ag >>= fun r1 =>
 some r1
theorem uZ {ag:List Int}:bD (qn ag) (fun r=>Con a4 140 [.isl 1 (ag.map eI)] [] (.isl 1 (r.map eI)) []):=by
 unfold qn
 exact .ar fun r1 o =>
  .ret (bA [(J 1),.aN [] [] (a8 [0]),(Ke r1).e8,(J 2)] (.e1 (Y7 o)))
def JH (aG:List Int)(ad a3:Int)(dA:List Int)(dB hr:Int):(Int×Int×(List Int))→S:=fun (cE,dC,ab)=>dv [(1,.isl 1 (aG.map eI)),(5,.bh 0 0 0 ab.length),(6,.n .i64 ad),(7,.n .i64 a3),(8,.n .i64 cE),(26,.isl 1 (dA.map eI)),(27,.n .i64 dB),(28,.n .i64 ad),(33,.isl 1 (aG.map eI)),(34,.n .i64 hr),(35,.n .i64 dC)] [(au 1 eI ab)]
def JV (aG:List Int)(ad a3:Int)(dA:List Int)(dB hr:Int):(Int×(List Int))→dy
 | a=>⟨some 2,[(1,.isl 1 (aG.map eI)),(5,.bh 0 0 0 a.2.length),(6,.n .i64 ad),(8,.n .i64 a.1),(26,.isl 1 (dA.map eI)),(27,.n .i64 dB),(28,.n .i64 ad)],[(au 1 eI a.2)]⟩
def JI (aG:List Int)(ad a3:Int)(dA:List Int)(dB hr cE dC:Int)(ab:List Int):Option ((Int×Int×(List Int))⊕(Int×(List Int))) :=
 if (decide (dC<hr))=true then
  if 0≤dC∧dC<aG.length then
  aG[dC.toNat]? >>= fun az =>
  if 0≤(R (ad+dC))∧(R (ad+dC))<(ab.length:Nat) then
  ab[(0+(R (ad+dC)).toNat)]? >>= fun cy =>
  if (0+(R (ad+dC)).toNat)<ab.length then
  some (.inl (R ((R ((R (cy+(R (a3*az))))+cE)).tdiv (1000000000:Int)),R (dC+(1:Int)),ab.set (0+(R (ad+dC)).toNat) ((R ((R (cy+(R (a3*az))))+cE)).tmod (1000000000:Int))))
  else none
  else none
  else none
 else
  some (.inr (cE,ab))
def PE (aG:List Int)(ad a3:Int)(dA:List Int)(dB hr cE dC:Int)(ab:List Int):Option (Int×(List Int)):=iter (fun w:Int×Int×(List Int)=>JI aG ad a3 dA dB hr w.1 w.2.1 w.2.2) (cE,dC,ab)
theorem Xg {aG:List Int}{ad a3:Int}{dA:List Int}{dB hr cE dC:Int}{ab:List Int}:bD (JI aG ad a3 dA dB hr cE dC ab) (dO a4 72 0 136 [1,1,1,0,1,0,0,1,1,0,0,1,1,0,1,0,0] (JH aG ad a3 dA dB hr (cE,dC,ab)) (JH aG ad a3 dA dB hr) (JV aG ad a3 dA dB hr)):=by
 unfold JI
 exact .ite (fun h1 =>
  .aY fun o =>
  .ar fun az av =>
  .aY fun aA =>
  .ar fun cy bf =>
  .aY fun bl =>
  .ret (let q1:=R ((R (cy+(R (a3*az))))+cE);let a7:=R (ad+dC);bg [(J 1),.aa true,.aw (bq 2 (.b5 (eI az)) 2),.aw (bq 5 (.b5 (eI cy)) 7),.aw (bq 9 .fZ 1),(J 2),.aN [0] [.cG (au 1 eI (ab.set (0+a7.toNat) (q1.tmod (1000000000:Int))))] [(1,ii),(5,fW ((ab.set (0+a7.toNat) (q1.tmod (1000000000:Int))).length)),(6,ii),(7,ii),(8,ii),(26,ii),(27,ii),(28,ii),(33,ii),(34,ii),(35,ii)]] (.bi h1 o.1 (cX eI o.2) (b1 eI av) aA.1 aA.2 (b1 eI bf) (by decide:(1000000000:Int)≠0) (.gz (by decide:(1000000000:Int)≠0) aA.1 aA.2 (hT eI bl) (hM 1) (c2 1 .live (gP (cZ eI ab) (0+a7.toNat) (q1.tmod (1000000000:Int)))) (aJ 1 .live aO (ab.set (0+a7.toNat) (q1.tmod (1000000000:Int)))) (hi (dX ab) (0+a7.toNat) (q1.tmod (1000000000:Int)))))))
  (fun h1 =>
  .ret (bg [(J 1),.aa false,.aN [0] [.pure] (a8 [1,5,6,8,26,27,28])] (.aD h1 (aJ 1 .live aO ab))))
theorem YM {aG:List Int}{ad a3:Int}{dA:List Int}{dB hr cE dC:Int}{ab:List Int}{r} (h:PE aG ad a3 dA dB hr cE dC ab=some r):dP a4 72 0 136 [1,1,1,0,1,0,0,1,1,0,0,1,1,0,1,0,0] (JH aG ad a3 dA dB hr) (JV aG ad a3 dA dB hr) (cE,dC,ab) r:=dQ (fun _=>Xg) h
def JJ (aG dA:List Int)(dB:Int):(Int×(List Int))→S:=fun (fJ,ab)=>dv [(1,.isl 1 (aG.map eI)),(5,.bh 0 0 0 ab.length),(26,.isl 1 (dA.map eI)),(27,.n .i64 dB),(28,.n .i64 fJ)] [(au 1 eI ab)]
def JW (aG dA:List Int)(dB:Int):(List Int)→dy
 | a=>⟨some 0,[(5,.bh 0 0 0 a.length)],[(au 1 eI a)]⟩
def JK (aG dA:List Int)(dB fJ:Int)(ab:List Int):Option ((Int×(List Int))⊕((List Int))) :=
 if (decide (fJ<dB))=true then
  if 0≤fJ∧fJ<dA.length then
  dA[fJ.toNat]? >>= fun az =>
  PE aG fJ az dA dB (len_ eI aG) 0 0 ab >>= fun ax =>
  if 0≤(R (fJ+(len_ eI aG)))∧(R (fJ+(len_ eI aG)))<(ax.2.length:Nat) then
  if (0+(R (fJ+(len_ eI aG))).toNat)<ax.2.length then
  some (.inl (R (fJ+(1:Int)),ax.2.set (0+(R (fJ+(len_ eI aG))).toNat) ax.1))
  else none
  else none
  else none
 else
  some (.inr ab)
def KU (aG dA:List Int)(dB fJ:Int)(ab:List Int):Option ((List Int)):=iter (fun w:Int×(List Int)=>JK aG dA dB w.1 w.2) (fJ,ab)
theorem Xh {aG dA:List Int}{dB fJ:Int}{ab:List Int}:bD (JK aG dA dB fJ ab) (dO a4 72 0 136 [1,1,1,0,1,0,0] (JJ aG dA dB (fJ,ab)) (JJ aG dA dB) (JW aG dA dB)):=by
 unfold JK
 exact .ite (fun h1 =>
  .aY fun o =>
  .ar fun az av =>
  .ar fun ax aX =>
  .aY fun bf =>
  .aY fun bl =>
  .ret (let q1:=R (fJ+(len_ eI aG));bg [(J 1),.aa true,.aw (bq 2 (.b5 (eI az)) 2),(J 1),(J 3),.aN [0] [.pure] (a8 [1,5,6,7,8,26,27,28,33,34,35]),(JV aG fJ az dA dB (len_ eI aG) ax).e8,.aw (ai 7 (aj .fZ [])),(J 2),.aN [0] [.cG (au 1 eI (ax.2.set (0+q1.toNat) ax.1))] [(1,ii),(5,fW ((ax.2.set (0+q1.toNat) ax.1).length)),(26,ii),(27,ii),(28,ii)]] (.bi h1 o.1 (cX eI o.2) (b1 eI av) (aJ 1 .live aO ab) (YM aX) bf.1 bf.2 (.dh (hT eI bl) (hM 1) (c2 1 .live (gP (cZ eI ax.2) (0+q1.toNat) ax.1)) (aJ 1 .live aO (ax.2.set (0+q1.toNat) ax.1)) (hi (dX ax.2) (0+q1.toNat) ax.1)))))
  (fun h1 =>
  .ret (bg [(J 1),.aa false,.aN [0] [.pure] (a8 [5])] (.aD h1 (aJ 1 .live aO ab))))
theorem YN {aG dA:List Int}{dB fJ:Int}{ab:List Int}{r} (h:KU aG dA dB fJ ab=some r):dP a4 72 0 136 [1,1,1,0,1,0,0] (JJ aG dA dB) (JW aG dA dB) (fJ,ab) r:=dQ (fun _=>Xh) h
def Bc (ag aG:List Int):Option (List Int) :=
 if ((len_ eI ag) == (0:Int))=true then
  some ([]:List Int)
 else
  if ((len_ eI aG) == (0:Int))=true then
   some ([]:List Int)
  else
   if 0≤(R ((len_ eI ag)+(len_ eI aG)))∧(8:Int)*(R ((len_ eI ag)+(len_ eI aG)))≤281474976710656∧(R ((len_ eI ag)+(len_ eI aG)))<9223372036854775808 then
   KU aG ag (len_ eI ag) 0 (List.replicate (R ((len_ eI ag)+(len_ eI aG))).toNat 0:List Int) >>= fun a6 =>
   qn a6 >>= fun cn =>
   some cn
   else none
theorem ZG {ag aG:List Int}:bD (Bc ag aG) (fun r=>Con a4 136 [.isl 1 (ag.map eI),.isl 1 (aG.map eI)] [] (.isl 1 (r.map eI)) []):=by
 unfold Bc
 exact .ite (fun h1 =>
  .ret (bA [(J 1),.aw (ai 4 (cx 3 (aj (.aa true) []))),.aa true,(J 1)] (.dh h1 h1 h1 h1 cT) (.bp (.cJ (.iJ 1)))))
  (fun h1 =>
  (let t1:List b0:=[(J 1),.aw (ai 7 (aj (.aa false) []))];
  .ite (fun o =>
  .ret (bA (t1.append [.aa true,(J 1)]) (.dh h1 h1 h1 h1 o) (.bp (.cJ (.iJ 1)))))
  (fun o =>
  .aY fun af =>
  .ar fun a6 aA =>
  .ar fun cn bf =>
  .ret (let q1:=R ((len_ eI ag)+(len_ eI aG));let a7:=(List.replicate q1.toNat 0:List Int);bA (t1.append [.aa false,(J 7),(J 3),.aN [14] [.cG (au 1 eI a7)] [(1,ii),(5,fW (a7.length)),(26,ii),(27,ii),(28,ii)],(JW aG ag (len_ eI ag) a6).e8,.jd 0,.aw (bq 1 (.call {ac:=[.bp (.cJ (.dL (a6.map eI)))],r:= .isl 1 (cn.map eI),ej:=false,eC:=[0]}) 1)]) (.bi h1 h1 h1 h1 o af.1 (Int.le_refl q1) af.2.1 (.bi af.2.2 (c2 1 .live (lY eI q1.toNat 0)) (aJ 1 .live aO a7) (mh q1.toNat (0:Int)) (YN aA) (fw eI a6) (ff eI a6) (dk aO a6) (.e1 (uZ cn bf))))))))
def pH (dq eG:bx):Option bx :=
 Bc dq.cN eG.cN >>= fun r1 =>
 np (!(dq.c0 == eG.c0)) r1 >>= fun bn =>
 some bn
theorem xI {dq eG:bx}:bD (pH dq eG) (fun r=>Con a4 129 [.agg (a1 dq),.agg (a1 eG)] [] (.agg (a1 r)) []):=by
 unfold pH
 exact .ar fun r1 o =>
  .ar fun bn av =>
  .ret (bA [(J 3),.aw (ai 9 (aj (bu 2 (.isl 1 (r1.map eI)) false) (aj (bu 2 (.agg (a1 bn)) false) (ai 1 []))))] (.aD (ZG r1 o) (ts bn av)))
def pn (dq:bx):Option Int :=
 if ((len_ eI dq.cN) == (0:Int))=true then
  some 0
 else
  if dq.c0=true then
   some (-1)
  else
   some 1
theorem tn {dq:bx}:bD (pn dq) (fun r=>Con a4 88 [.agg (a1 dq)] [] (.n .i64 r) []):=by
 unfold pn
 exact .ite (fun h1 =>
  .ret (bA [(J 2),(J 5),.aa true,(J 1)] (.e1 h1)))
  (fun h1 =>
  (let t1:List b0:=[(J 2),(J 5),.aa false,(J 3)];
  .ite (fun o =>
  .ret (bA (t1.append [.aa true,(J 1)]) (.aD h1 o)))
  (fun o =>
  .ret (bA (t1.append [.aa false,(J 1)]) (.aD h1 o)))))
def se (dq:bx):Option bx :=
 np (!dq.c0) dq.cN >>= fun r1 =>
 some r1
theorem HF {dq:bx}:bD (se dq) (fun r=>Con a4 133 [.agg (a1 dq)] [] (.agg (a1 r)) []):=by
 unfold se
 exact .ar fun r1 o =>
  .ret (bA [(J 2),.aw (bq 5 (bu 2 (.agg (a1 r1)) false) 1)] (.e1 (ts r1 o)))
def IB (ag aG:List Int):Int→S:=fun ad=>dv [(0,.isl 1 (ag.map eI)),(1,.isl 1 (aG.map eI)),(5,.n .i64 ad)] []
def ON (ag aG:List Int):((Unit)⊕(Int))→dy
 | .inl a=>⟨some 0,[],[]⟩
 | .inr a=>⟨none,[(4,.n .i64 a)],[]⟩
def IC (ag aG:List Int)(ad:Int):Option ((Int)⊕((Unit)⊕(Int))) :=
 if (decide ((0:Int)≤ad))=true then
  if 0≤ad∧ad<ag.length then
  ag[ad.toNat]? >>= fun az =>
  if 0≤ad∧ad<aG.length then
  aG[ad.toNat]? >>= fun cy =>
  if (decide (az<cy))=true then
   some (.inr (.inr (-1)))
  else
   if (decide (cy<az))=true then
    some (.inr (.inr 1))
   else
    some (.inl (R (ad-(1:Int))))
  else none
  else none
 else
  some (.inr (.inl ()))
def Pj (ag aG:List Int)(ad:Int):Option ((Unit)⊕(Int)):=iter (fun w:Int=>IC ag aG w) ad
theorem Wp {ag aG:List Int}{ad:Int}:bD (IC ag aG ad) (dO a4 43 0 138 [1,1,0,1,0,0] (IB ag aG ad) (IB ag aG) (ON ag aG)):=by
 unfold IC
 exact .ite (fun h1 =>
  .aY fun o =>
  .ar fun az av =>
  .aY fun aA =>
  .ar fun cy bf =>
  (let t1:List b0:=[(J 2),.aa true,.aw (ai 3 (aj (.b5 (eI az)) (bq 3 (.b5 (eI cy)) 2)))];
  have aV:=((.eP h1 o.1 (cX eI o.2) (b1 eI av) aA.1 (cX eI aA.2) (b1 eI bf)):cA _);
  .ite (fun bl =>
  .ret (bg (t1.append [.aa true,(J 1),.aN [] [] (a8 [4])]) (aV.aI (.e1 bl))))
  (fun bl =>
  (let t3:List b0:=t1.append [.aa false,.aw (ai 3 (aj (.b5 (eI az)) (bq 3 (.b5 (eI cy)) 2)))];
  have eA:=aV.aI (.eP bl o.1 (cX eI o.2) (b1 eI av) aA.1 (cX eI aA.2) (b1 eI bf));
  .ite (fun cB =>
  .ret (bg (t3.append [.aa true,(J 1),.aN [] [] (a8 [4])]) (eA.aI (.e1 cB))))
  (fun cB =>
  .ret (bg (t3.append [.aa false,(J 3),.aN [] [] (a8 [0,1,5])]) (eA.aI (.e1 cB))))))))
  (fun h1 =>
  .ret (bg [(J 2),.aa false,.aN [] [] []] (.e1 h1)))
theorem OX {ag aG:List Int}{ad:Int}{r} (h:Pj ag aG ad=some r):dP a4 43 0 138 [1,1,0,1,0,0] (IB ag aG) (ON ag aG) ad r:=dQ (fun _=>Wp) h
def qR (ag aG:List Int):Option Int :=
 if ((len_ eI ag) != (len_ eI aG))=true then
  if (decide ((len_ eI ag)<(len_ eI aG)))=true then
   some (-1)
  else
   some 1
 else
  Pj ag aG (R ((len_ eI ag)-(1:Int))) >>= fun bV =>
  match bV with
  | .inl f7=>(some 0)
  | .inr f7=>(some f7)
theorem D7 {ag aG:List Int}:bD (qR ag aG) (fun r=>Con a4 138 [.isl 1 (ag.map eI),.isl 1 (aG.map eI)] [] (.n .i64 r) []):=by
 unfold qR
 exact .ite (fun h1 =>
  (let t1:List b0:=[(J 1),(J 5),.aa true,(J 5)];
  .ite (fun o =>
  .ret (bA (t1.append [.aa true,(J 1)]) (.aD h1 o)))
  (fun o =>
  .ret (bA (t1.append [.aa false,(J 1)]) (.aD h1 o)))))
  (fun h1 =>
  .ar fun bV af =>
  (let t1:List b0:=[(J 1),(J 5),.aa false,(J 4),.aN [] [] (a8 [0,1,5])];
  (by
  rcases bV with f7|f7
  ·exact (.ret (bA (t1.append [.sub (.exit 0) [] [],(J 1)]) (.aD h1 (OX af))))
  ·exact (.ret (bA (t1.append [.sub (.ret) [(4,.n .i64 f7)] []]) (.aD h1 (OX af)))))))
def JX (ag aG:List Int)(gR:Int):(Int×Int×(List Int))→S:=fun (cE,gC,ab)=>dv [(0,.isl 1 (ag.map eI)),(1,.isl 1 (aG.map eI)),(5,.bh 0 0 0 ab.length),(6,.n .i64 cE),(20,.isl 1 (ag.map eI)),(21,.n .i64 gR),(22,.n .i64 gC)] [(au 1 eI ab)]
def D2 (ag aG:List Int)(gR:Int):(Int×(List Int))→dy
 | a=>⟨some 0,[(0,.isl 1 (ag.map eI)),(5,.bh 0 0 0 a.2.length),(6,.n .i64 a.1)],[(au 1 eI a.2)]⟩
def ya (ag aG:List Int)(gR cE gC:Int)(ab:List Int):Option ((Int×Int×(List Int))⊕(Int×(List Int))) :=
 if (decide (gC<gR))=true then
  if 0≤gC∧gC<ag.length then
  ag[gC.toNat]? >>= fun az =>
  if (decide (gC<(len_ eI aG)))=true then
   if 0≤gC∧gC<aG.length then
   aG[gC.toNat]? >>= fun c9 =>
   if 0≤gC∧gC<(ab.length:Nat) then
   if (0+gC.toNat)<ab.length then
   some (.inl (R ((R ((R (az+cE))+c9)).tdiv (1000000000:Int)),R (gC+(1:Int)),ab.set (0+gC.toNat) ((R ((R (az+cE))+c9)).tmod (1000000000:Int))))
   else none
   else none
   else none
  else
   if 0≤gC∧gC<(ab.length:Nat) then
   if (0+gC.toNat)<ab.length then
   some (.inl (R ((R (az+cE)).tdiv (1000000000:Int)),R (gC+(1:Int)),ab.set (0+gC.toNat) ((R (az+cE)).tmod (1000000000:Int))))
   else none
   else none
  else none
 else
  some (.inr (cE,ab))
def AV (ag aG:List Int)(gR cE gC:Int)(ab:List Int):Option (Int×(List Int)):=iter (fun w:Int×Int×(List Int)=>ya ag aG gR w.1 w.2.1 w.2.2) (cE,gC,ab)
theorem Xo {ag aG:List Int}{gR cE gC:Int}{ab:List Int}:bD (ya ag aG gR cE gC ab) (dO a4 55 0 141 [1,1,1,1,0,1,0,0] (JX ag aG gR (cE,gC,ab)) (JX ag aG gR) (D2 ag aG gR)):=by
 unfold ya
 exact .ite (fun h1 =>
  .aY fun o =>
  .ar fun az av =>
  (let t1:List b0:=[(J 1),.aa true,.aw (bq 2 (.b5 (eI az)) 2),(J 4),(J 4)];
  have aV:=((.c4 h1 o.1 (cX eI o.2) (b1 eI av)):cA _);
  .ite (fun aA =>
  .aY fun aX =>
  .ar fun c9 bl =>
  .aY fun cB =>
  .aY fun cQ =>
  .ret (let q1:=R ((R (az+cE))+c9);bg (t1.append [.aa true,.aw (bq 4 (.b5 (eI c9)) 2),.aw (bq 7 .fZ 1),(J 2),.aN [0] [.cG (au 1 eI (ab.set (0+gC.toNat) (q1.tmod (1000000000:Int))))] [(0,ii),(1,ii),(5,fW ((ab.set (0+gC.toNat) (q1.tmod (1000000000:Int))).length)),(6,ii),(20,ii),(21,ii),(22,ii)]]) (aV.aI (.bi aA aX.1 (cX eI aX.2) (b1 eI bl) (by decide:(1000000000:Int)≠0) (by decide:(1000000000:Int)≠0) cB.1 cB.2 (.dh (hT eI cQ) (hM 1) (c2 1 .live (gP (cZ eI ab) (0+gC.toNat) (q1.tmod (1000000000:Int)))) (aJ 1 .live aO (ab.set (0+gC.toNat) (q1.tmod (1000000000:Int)))) (hi (dX ab) (0+gC.toNat) (q1.tmod (1000000000:Int))))))))
  (fun aA =>
  .aY fun aX =>
  .aY fun bf =>
  .ret (let a7:=R (az+cE);bg (t1.append [.aa false,.aw (bq 7 .fZ 1),(J 2),.aN [0] [.cG (au 1 eI (ab.set (0+gC.toNat) (a7.tmod (1000000000:Int))))] [(0,ii),(1,ii),(5,fW ((ab.set (0+gC.toNat) (a7.tmod (1000000000:Int))).length)),(6,ii),(20,ii),(21,ii),(22,ii)]]) (aV.aI (.bi aA (by decide:(1000000000:Int)≠0) (by decide:(1000000000:Int)≠0) aX.1 aX.2 (hT eI bf) (hM 1) (c2 1 .live (gP (cZ eI ab) (0+gC.toNat) (a7.tmod (1000000000:Int)))) (.aD (aJ 1 .live aO (ab.set (0+gC.toNat) (a7.tmod (1000000000:Int)))) (hi (dX ab) (0+gC.toNat) (a7.tmod (1000000000:Int))))))))))
  (fun h1 =>
  .ret (bg [(J 1),.aa false,.aN [0] [.pure] (a8 [0,5,6])] (.aD h1 (aJ 1 .live aO ab))))
theorem Pk {ag aG:List Int}{gR cE gC:Int}{ab:List Int}{r} (h:AV ag aG gR cE gC ab=some r):dP a4 55 0 141 [1,1,1,1,0,1,0,0] (JX ag aG gR) (D2 ag aG gR) (cE,gC,ab) r:=dQ (fun _=>Xo) h
def yB (ag aG:List Int):Option (List Int) :=
 if (decide ((len_ eI ag)<(len_ eI aG)))=true then
  if 0≤(R ((len_ eI aG)+(1:Int)))∧(8:Int)*(R ((len_ eI aG)+(1:Int)))≤281474976710656∧(R ((len_ eI aG)+(1:Int)))<9223372036854775808 then
  AV aG ag (len_ eI aG) 0 0 (List.replicate (R ((len_ eI aG)+(1:Int))).toNat 0:List Int) >>= fun bn =>
  if 0≤(len_ eI aG)∧(len_ eI aG)<(bn.2.length:Nat) then
  if (0+(len_ eI aG).toNat)<bn.2.length then
  qn (bn.2.set (0+(len_ eI aG).toNat) bn.1) >>= fun bO =>
  some bO
  else none
  else none
  else none
 else
  if 0≤(R ((len_ eI ag)+(1:Int)))∧(8:Int)*(R ((len_ eI ag)+(1:Int)))≤281474976710656∧(R ((len_ eI ag)+(1:Int)))<9223372036854775808 then
  AV ag aG (len_ eI ag) 0 0 (List.replicate (R ((len_ eI ag)+(1:Int))).toNat 0:List Int) >>= fun bn =>
  if 0≤(len_ eI ag)∧(len_ eI ag)<(bn.2.length:Nat) then
  if (0+(len_ eI ag).toNat)<bn.2.length then
  qn (bn.2.set (0+(len_ eI ag).toNat) bn.1) >>= fun bO =>
  some bO
  else none
  else none
  else none
theorem Z2 {ag aG:List Int}:bD (yB ag aG) (fun r=>Con a4 141 [.isl 1 (ag.map eI),.isl 1 (aG.map eI)] [] (.isl 1 (r.map eI)) []):=by
 unfold yB
 exact .ite (fun h1 =>
  .aY fun o =>
  .ar fun bn av =>
  .aY fun aA =>
  .aY fun aX =>
  .ar fun bO bl =>
  .ret (let a7:=len_ eI aG;let q1:=(R (a7+(1:Int)));let bZ:=(List.replicate q1.toNat 0:List Int);let cC:=hi (dX bn.2) (0+a7.toNat) bn.1;bA [(J 1),(J 5),.aa true,(J 4),(J 5),(J 1),(J 3),.aN [13] [.cG (au 1 eI bZ)] [(0,ii),(1,ii),(5,fW (bZ.length)),(6,ii),(20,ii),(21,ii),(22,ii)],(D2 aG ag a7 bn).e8,.aw (ai 5 (aj .fZ [])),.jd 0,.aw (bq 1 (.call {ac:=[.bp (.cJ (.dL ((bn.2.set (0+a7.toNat) bn.1).map eI)))],r:= .isl 1 (bO.map eI),ej:=false,eC:=[0]}) 1)] (.bi h1 o.1 (Int.le_refl q1) o.2.1 o.2.2 (c2 1 .live (lY eI q1.toNat 0)) (aJ 1 .live aO bZ) (mh q1.toNat (0:Int)) (.bi (Pk av) aA.1 aA.2 (hT eI aX) (hM 1) (k6 (gP (cZ eI bn.2) (0+a7.toNat) bn.1) cC) (lm (gP (cZ eI bn.2) (0+a7.toNat) bn.1) cC) (dk aO (bn.2.set (0+a7.toNat) bn.1)) (.e1 (uZ bO bl))))))
  (fun h1 =>
  .aY fun o =>
  .ar fun bn av =>
  .aY fun aA =>
  .aY fun aX =>
  .ar fun bO bl =>
  .ret (let f8:=len_ eI ag;let dr:=(R (f8+(1:Int)));let h7:=(List.replicate dr.toNat 0:List Int);let fx:=hi (dX bn.2) (0+f8.toNat) bn.1;bA [(J 1),(J 5),.aa false,(J 5),(J 1),(J 3),.aN [9] [.cG (au 1 eI h7)] [(0,ii),(1,ii),(5,fW (h7.length)),(6,ii),(20,ii),(21,ii),(22,ii)],(D2 ag aG f8 bn).e8,.aw (ai 5 (aj .fZ [])),.jd 0,.aw (bq 1 (.call {ac:=[.bp (.cJ (.dL ((bn.2.set (0+f8.toNat) bn.1).map eI)))],r:= .isl 1 (bO.map eI),ej:=false,eC:=[0]}) 1)] (.bi h1 o.1 (Int.le_refl dr) o.2.1 o.2.2 (c2 1 .live (lY eI dr.toNat 0)) (aJ 1 .live aO h7) (mh dr.toNat (0:Int)) (.bi (Pk av) aA.1 aA.2 (hT eI aX) (hM 1) (k6 (gP (cZ eI bn.2) (0+f8.toNat) bn.1) fx) (lm (gP (cZ eI bn.2) (0+f8.toNat) bn.1) fx) (dk aO (bn.2.set (0+f8.toNat) bn.1)) (.e1 (uZ bO bl))))))
def JL (aG dn:List Int)(cm:Int):(Int×Int×(List Int))→S:=fun (mC,bS,ab)=>dv [(1,.isl 1 (aG.map eI)),(5,.bh 0 0 0 ab.length),(6,.n .i64 mC),(12,.isl 1 (dn.map eI)),(13,.n .i64 cm),(14,.n .i64 bS)] [(au 1 eI ab)]
def JY (aG dn:List Int)(cm:Int):(List Int)→dy
 | a=>⟨some 0,[(5,.bh 0 0 0 a.length)],[(au 1 eI a)]⟩
def x7 (aG dn:List Int)(cm mC bS:Int)(ab:List Int):Option ((Int×Int×(List Int))⊕((List Int))) :=
 if (decide (bS<cm))=true then
  if 0≤bS∧bS<dn.length then
  dn[bS.toNat]? >>= fun az =>
  if (decide (bS<(len_ eI aG)))=true then
   if 0≤bS∧bS<aG.length then
   aG[bS.toNat]? >>= fun c9 =>
   if (decide ((R ((R (az-mC))-c9))<(0:Int)))=true then
    if 0≤bS∧bS<(ab.length:Nat) then
    if (0+bS.toNat)<ab.length then
    some (.inl (1,R (bS+(1:Int)),ab.set (0+bS.toNat) (R ((R ((R (az-mC))-c9))+(1000000000:Int)))))
    else none
    else none
   else
    if 0≤bS∧bS<(ab.length:Nat) then
    if (0+bS.toNat)<ab.length then
    some (.inl (0,R (bS+(1:Int)),ab.set (0+bS.toNat) (R ((R (az-mC))-c9))))
    else none
    else none
   else none
  else
   if (decide ((R (az-mC))<(0:Int)))=true then
    if 0≤bS∧bS<(ab.length:Nat) then
    if (0+bS.toNat)<ab.length then
    some (.inl (1,R (bS+(1:Int)),ab.set (0+bS.toNat) (R ((R (az-mC))+(1000000000:Int)))))
    else none
    else none
   else
    if 0≤bS∧bS<(ab.length:Nat) then
    if (0+bS.toNat)<ab.length then
    some (.inl (0,R (bS+(1:Int)),ab.set (0+bS.toNat) (R (az-mC))))
    else none
    else none
  else none
 else
  some (.inr ab)
def KV (aG dn:List Int)(cm mC bS:Int)(ab:List Int):Option ((List Int)):=iter (fun w:Int×Int×(List Int)=>x7 aG dn cm w.1 w.2.1 w.2.2) (mC,bS,ab)
theorem Xi {aG dn:List Int}{cm mC bS:Int}{ab:List Int}:bD (x7 aG dn cm mC bS ab) (dO a4 43 0 142 [1,1,1,0,1,0,0] (JL aG dn cm (mC,bS,ab)) (JL aG dn cm) (JY aG dn cm)):=by
 unfold x7
 exact .ite (fun h1 =>
  .aY fun o =>
  .ar fun az av =>
  (let t1:List b0:=[(J 1),.aa true,.aw (bq 2 (.b5 (eI az)) 2),(J 4),(J 4)];
  have aV:=((.c4 h1 o.1 (cX eI o.2) (b1 eI av)):cA _);
  .ite (fun aA =>
  .aY fun aX =>
  .ar fun c9 bl =>
  (let t3:List b0:=t1.append [.aa true,.aw (bq 4 (.b5 (eI c9)) 2),(J 1),(J 2)];
  have eA:=aV.aI (.c4 aA aX.1 (cX eI aX.2) (b1 eI bl));
  .ite (fun cB =>
  .aY fun cQ =>
  .aY fun fe =>
  .ret (let q1:=(R ((R ((R (az-mC))-c9))+(1000000000:Int)));bg (t3.append [.aa true,(J 3),(J 1),.aw (ai 4 (aj .fZ [])),(J 2),.aN [0] [.cG (au 1 eI (ab.set (0+bS.toNat) q1))] [(1,ii),(5,fW ((ab.set (0+bS.toNat) q1).length)),(6,ii),(12,ii),(13,ii),(14,ii)]]) (eA.aI (.gz cB cQ.1 cQ.2 (hT eI fe) (hM 1) (c2 1 .live (gP (cZ eI ab) (0+bS.toNat) q1)) (aJ 1 .live aO (ab.set (0+bS.toNat) q1)) (hi (dX ab) (0+bS.toNat) q1)))))
  (fun cB =>
  .aY fun cQ =>
  .aY fun fe =>
  .ret (let a7:=R ((R (az-mC))-c9);bg (t3.append [.aa false,.aw (ai 4 (aj .fZ [])),(J 2),.aN [0] [.cG (au 1 eI (ab.set (0+bS.toNat) a7))] [(1,ii),(5,fW ((ab.set (0+bS.toNat) a7).length)),(6,ii),(12,ii),(13,ii),(14,ii)]]) (eA.aI (.gz cB cQ.1 cQ.2 (hT eI fe) (hM 1) (c2 1 .live (gP (cZ eI ab) (0+bS.toNat) a7)) (aJ 1 .live aO (ab.set (0+bS.toNat) a7)) (hi (dX ab) (0+bS.toNat) a7)))))))
  (fun aA =>
  (let t3:List b0:=t1.append [.aa false,(J 1),(J 2)];
  .ite (fun aX =>
  .aY fun bf =>
  .aY fun bl =>
  .ret (let bZ:=(R ((R (az-mC))+(1000000000:Int)));bg (t3.append [.aa true,(J 3),(J 1),.aw (ai 4 (aj .fZ [])),(J 2),.aN [0] [.cG (au 1 eI (ab.set (0+bS.toNat) bZ))] [(1,ii),(5,fW ((ab.set (0+bS.toNat) bZ).length)),(6,ii),(12,ii),(13,ii),(14,ii)]]) (aV.aI (.bi aA aX bf.1 bf.2 (hT eI bl) (hM 1) (c2 1 .live (gP (cZ eI ab) (0+bS.toNat) bZ)) (aJ 1 .live aO (ab.set (0+bS.toNat) bZ)) (.e1 (hi (dX ab) (0+bS.toNat) bZ))))))
  (fun aX =>
  .aY fun bf =>
  .aY fun bl =>
  .ret (let cC:=R (az-mC);bg (t3.append [.aa false,.aw (ai 4 (aj .fZ [])),(J 2),.aN [0] [.cG (au 1 eI (ab.set (0+bS.toNat) cC))] [(1,ii),(5,fW ((ab.set (0+bS.toNat) cC).length)),(6,ii),(12,ii),(13,ii),(14,ii)]]) (aV.aI (.bi aA aX bf.1 bf.2 (hT eI bl) (hM 1) (c2 1 .live (gP (cZ eI ab) (0+bS.toNat) cC)) (aJ 1 .live aO (ab.set (0+bS.toNat) cC)) (.e1 (hi (dX ab) (0+bS.toNat) cC))))))))))
  (fun h1 =>
  .ret (bg [(J 1),.aa false,.aN [0] [.pure] (a8 [5])] (.aD h1 (aJ 1 .live aO ab))))
theorem YO {aG dn:List Int}{cm mC bS:Int}{ab:List Int}{r} (h:KV aG dn cm mC bS ab=some r):dP a4 43 0 142 [1,1,1,0,1,0,0] (JL aG dn cm) (JY aG dn cm) (mC,bS,ab) r:=dQ (fun _=>Xi) h
def tA (ag aG:List Int):Option (List Int) :=
 if 0≤(len_ eI ag)∧(8:Int)*(len_ eI ag)≤281474976710656∧(len_ eI ag)<9223372036854775808 then
 KV aG ag (len_ eI ag) 0 0 (List.replicate (len_ eI ag).toNat 0:List Int) >>= fun bV =>
 qn bV >>= fun a6 =>
 some a6
 else none
theorem PF {ag aG:List Int}:bD (tA ag aG) (fun r=>Con a4 142 [.isl 1 (ag.map eI),.isl 1 (aG.map eI)] [] (.isl 1 (r.map eI)) []):=by
 unfold tA
 exact .aY fun h1 =>
  .ar fun bV af =>
  .ar fun a6 aA =>
  .ret (let a7:=len_ eI ag;let q1:=(List.replicate a7.toNat 0:List Int);bA [(J 1),(J 4),(J 1),(J 3),.aN [3] [.cG (au 1 eI q1)] [(1,ii),(5,fW (q1.length)),(6,ii),(12,ii),(13,ii),(14,ii)],(JY aG ag a7 bV).e8,.jd 0,.aw (bq 1 (.call {ac:=[.bp (.cJ (.dL (bV.map eI)))],r:= .isl 1 (a6.map eI),ej:=false,eC:=[0]}) 1)] (.bi h1.1 (Int.le_refl a7) h1.2.1 h1.2.2 (c2 1 .live (lY eI a7.toNat 0)) (aJ 1 .live aO q1) (mh a7.toNat (0:Int)) (YO af) (.c4 (fw eI bV) (ff eI bV) (dk aO bV) (uZ a6 aA))))
def yf (dq eG:bx):Option bx :=
 qR dq.cN eG.cN >>= fun r1 =>
 if (dq.c0 == eG.c0)=true then
  yB dq.cN eG.cN >>= fun a6 =>
  np dq.c0 a6 >>= fun cn =>
  some cn
 else
  if (decide ((0:Int)≤r1))=true then
   tA dq.cN eG.cN >>= fun ax =>
   np dq.c0 ax >>= fun bO =>
   some bO
  else
   tA eG.cN dq.cN >>= fun ax =>
   np eG.c0 ax >>= fun bO =>
   some bO
theorem XM {dq eG:bx}:bD (yf dq eG) (fun r=>Con a4 137 [.agg (a1 dq),.agg (a1 eG)] [] (.agg (a1 r)) []):=by
 unfold yf
 exact .ar fun r1 o =>
  (let t1:List b0:=[(J 3),.aw (bq 4 (bu 2 (.n .i64 r1) true) 1),(J 6)];
  have aV:=((.aD (D7 r1 o) (bR.n .i64 r1)):cA _);
  .ite (fun af =>
  .ar fun a6 aA =>
  .ar fun cn bf =>
  .ret (bA (t1.append [.aa true,.aw (ai 6 (aj (bu 2 (.isl 1 (a6.map eI)) false) (aj (bu 2 (.agg (a1 cn)) false) (ai 1 []))))]) (aV.aI (.bP af (Z2 a6 aA) (ts cn bf)))))
  (fun af =>
  .ite (fun av =>
  .ar fun ax aX =>
  .ar fun bO bl =>
  .ret (bA (t1.append [.aa false,(J 3),.aa true,.aw (ai 6 (aj (bu 2 (.isl 1 (ax.map eI)) false) (aj (bu 2 (.agg (a1 bO)) false) (ai 1 []))))]) (aV.aI (.c4 af av (PF ax aX) (ts bO bl)))))
  (fun av =>
  .ar fun ax aX =>
  .ar fun bO bl =>
  .ret (bA (t1.append [.aa false,(J 3),.aa false,.aw (ai 6 (aj (bu 2 (.isl 1 (ax.map eI)) false) (aj (bu 2 (.agg (a1 bO)) false) (ai 1 []))))]) (aV.aI (.c4 af av (PF ax aX) (ts bO bl)))))))
def uK (dq eG:bx):Option bx :=
 se eG >>= fun r1 =>
 yf dq r1 >>= fun bn =>
 some bn
theorem OB {dq eG:bx}:bD (uK dq eG) (fun r=>Con a4 130 [.agg (a1 dq),.agg (a1 eG)] [] (.agg (a1 r)) []):=by
 unfold uK
 exact .ar fun r1 o =>
  .ar fun bn av =>
  .ret (bA [(J 3),.aw (ai 2 (aj (bu 1 (.agg (a1 r1)) false) (aj (bu 2 (.agg (a1 bn)) false) (ai 1 []))))] (.aD (HF r1 o) (XM bn av)))
def Ha (eW:List (List bx))(e6:Bool)(eT eY:List Int)(jk:Int)(kl:List Bool)(lI:List Int)(aQ j8:Int):(Int×Bool×(List Int))→S:=fun (iB,aL,aM)=>dv [(0,.dS 6 [[.isl 1 (eW.map (eD 2 a1)),.b e6,.isl 1 (eT.map eI),.isl 1 (eY.map eI),.n .i64 jk,.isl 1 (kl.map eu)]] 0 0),(1,.isl 1 (lI.map eI)),(2,.n .i64 aQ),(7,.ref 0 0 0 0),(23,.isl 1 (eY.map eI)),(24,.n .i64 j8),(25,.n .i64 iB)] [[ae.mk 2 [[.b aL,.isl 1 (aM.map eI)]] .live]]
def Of (eW:List (List bx))(e6:Bool)(eT eY:List Int)(jk:Int)(kl:List Bool)(lI:List Int)(aQ j8:Int):(Bool×(List Int))→dy
 | a=>⟨some 0,[(7,.ref 0 0 0 0)],[[ae.mk 2 [[.b a.1,.isl 1 (a.2.map eI)]] .live]]⟩
def w9 (eW:List (List bx))(e6:Bool)(eT eY:List Int)(jk:Int)(kl:List Bool)(lI:List Int)(aQ j8 iB:Int)(aL:Bool)(aM:List Int):Option ((Int×Bool×(List Int))⊕(Bool×(List Int))) :=
 if (decide (iB<j8))=true then
  if 0≤iB∧iB<eY.length then
  eY[iB.toNat]? >>= fun az =>
  if 0≤az∧az<lI.length then
  lI[az.toNat]? >>= fun cy =>
  if (cy != (0:Int))=true then
   if 0≤iB∧iB<eW.length then
   eW[iB.toNat]? >>= fun je =>
   if 0≤aQ∧aQ<je.length then
   je[aQ.toNat]? >>= fun ru =>
   pn ru >>= fun gN =>
   if (gN != (0:Int))=true then
    oK cy >>= fun fl =>
    pH ru fl >>= fun iv =>
    uK (⟨aL,aM⟩:bx) iv >>= fun CU =>
    some (.inl (R (iB+(1:Int)),CU.c0,CU.cN))
   else
    some (.inl (R (iB+(1:Int)),aL,aM))
   else none
   else none
  else
   some (.inl (R (iB+(1:Int)),aL,aM))
  else none
  else none
 else
  some (.inr (aL,aM))
def ID (eW:List (List bx))(e6:Bool)(eT eY:List Int)(jk:Int)(kl:List Bool)(lI:List Int)(aQ j8 iB:Int)(aL:Bool)(aM:List Int):Option (Bool×(List Int)):=iter (fun w:Int×Bool×(List Int)=>w9 eW e6 eT eY jk kl lI aQ j8 w.1 w.2.1 w.2.2) (iB,aL,aM)
theorem Vl {eW:List (List bx)}{e6:Bool}{eT eY:List Int}{jk:Int}{kl:List Bool}{lI:List Int}{aQ j8 iB:Int}{aL:Bool}{aM:List Int}:bD (w9 eW e6 eT eY jk kl lI aQ j8 iB aL aM) (dO a4 70 0 112 [1,1,0,1,0,0] (Ha eW e6 eT eY jk kl lI aQ j8 (iB,aL,aM)) (Ha eW e6 eT eY jk kl lI aQ j8) (Of eW e6 eT eY jk kl lI aQ j8)):=by
 unfold w9
 exact .ite (fun h1 =>
  .aY fun o =>
  .ar fun az av =>
  .aY fun aA =>
  .ar fun cy bf =>
  (let t1:List b0:=[(J 1),.aa true,.aw (bq 2 (.b5 (eI az)) 2)];
  have aV:=((.eP h1 o.1 (cX eI o.2) (b1 eI av) aA.1 (cX eI aA.2) (b1 eI bf)):cA _);
  .ite (fun bl =>
  .aY fun cB =>
  .ar fun je fe =>
  .aY fun eK =>
  .ar fun ru eL =>
  .ar fun gN hd =>
  (let t3:List b0:=t1.append [.aw (ai 3 (aj (.b5 (eI cy)) (ai 8 (aj (.b5 ((eD 2 a1) je)) (ai 2 (aj (.b5 (a1 ru)) (aj (bu 1 (.n .i64 gN) true) (ai 1 (aj (.aa true) [])))))))))];
  have eA:=aV.aI (.bi bl bl bl bl bl bl cB.1 (cX (eD 2 a1) cB.2) (.bi bl (b1 (eD 2 a1) fe) bl bl eK.1 (cX a1 eK.2) bl (b1 a1 eL) (.dh bl (tn gN hd) (bR.n .i64 gN) bl bl)));
  .ite (fun hQ =>
  .ar fun fl gy =>
  .ar fun iv gM =>
  .ar fun CU ng =>
  .ret (bg (t3.append [.aa true,.aw (ai 7 (aj (.b5 ((eD 2 a1) je)) (ai 2 (aj (.b5 (a1 ru)) (ai 3 (aj (.b5 (eI cy)) (aj (bu 1 (.agg (a1 fl)) false) (aj (bu 2 (.agg (a1 iv)) false) (aj (bu 2 (.agg (a1 CU)) false) (ai 1 [])))))))))),(J 2),.aN [0] [.box [.id,.id]] (a8 [0,1,2,7,23,24,25])]) (eA.aI (.bi hQ cB.1 (cX (eD 2 a1) cB.2) (b1 (eD 2 a1) fe) eK.1 (cX a1 eK.2) (b1 a1 eL) aA.1 (.dh (cX eI aA.2) (b1 eI bf) (sj fl gy) (xI iv gM) (OB CU ng))))))
  (fun hQ =>
  .ret (bg (t3.append [.aa false,(J 2),.aN [0] [.box [.id,.id]] (a8 [0,1,2,7,23,24,25])]) (eA.aI (.e1 hQ))))))
  (fun bl =>
  .ret (bg (t1.append [.aw (ai 3 (aj (.b5 (eI cy)) (ai 2 (cx 12 (aj (.aa false) []))))),.aa false,(J 2),.aN [0] [.box [.id,.id]] (a8 [0,1,2,7,23,24,25])]) (aV.aI (.bi bl bl bl bl bl bl bl bl (.dW bl bl bl bl bl cK)))))))
  (fun h1 =>
  .ret (bg [(J 1),.aa false,.aN [0] [.box [.id,.id]] (a8 [7])] (.e1 h1)))
theorem Wq {eW:List (List bx)}{e6:Bool}{eT eY:List Int}{jk:Int}{kl:List Bool}{lI:List Int}{aQ j8 iB:Int}{aL:Bool}{aM:List Int}{r} (h:ID eW e6 eT eY jk kl lI aQ j8 iB aL aM=some r):dP a4 70 0 112 [1,1,0,1,0,0] (Ha eW e6 eT eY jk kl lI aQ j8) (Of eW e6 eT eY jk kl lI aQ j8) (iB,aL,aM) r:=dQ (fun _=>Vl) h
def yb (hv:qW)(lI:List Int)(aQ:Int):Option Int :=
 if 0≤aQ∧aQ<lI.length then
 lI[aQ.toNat]? >>= fun ef =>
 oK ef >>= fun a6 =>
 pH hv.v5 a6 >>= fun cn =>
 ID hv.sL hv.v5.c0 hv.v5.cN hv.rU hv.Mh hv.Mi lI aQ (len_ eI hv.rU) 0 cn.c0 cn.cN >>= fun de =>
 pn (⟨de.1,de.2⟩:bx) >>= fun et =>
 some et
 else none
theorem OC {hv:qW}{lI:List Int}{aQ:Int}:bD (yb hv lI aQ) (fun r=>Con a4 112 [.dS 6 [(yy hv)] 0 0,.isl 1 (lI.map eI),.n .i64 aQ] [] (.n .i64 r) []):=by
 unfold yb
 exact .aY fun h1 =>
  .ar fun ef af =>
  .ar fun a6 aA =>
  .ar fun cn bf =>
  .ar fun de cB =>
  .ar fun et fe =>
  .ret (bA [(J 1),.aw (ai 7 (aj (.b5 (eI ef)) (aj (bu 1 (.agg (a1 a6)) false) (aj (bu 2 (.agg (a1 cn)) false) (ai 2 []))))),(J 6),.aN [11] [.box [.id,.id]] (a8 [0,1,2,7,23,24,25]),.sub (.exit 0) [(7,.ref 0 0 0 0)] [[ae.mk 2 [[.b de.1,.isl 1 (de.2.map eI)]] .live]],.aw (bq 1 (bu 1 (.n .i64 et) true) 1)] (.gz h1.1 (cX eI h1.2) (b1 eI af) (sj a6 aA) (xI cn bf) (Wq cB) (tn et fe) (bR.n .i64 et)))
def sf (dq eG:bx):Option Int :=
 if (dq.c0 == eG.c0)=true then
  if dq.c0=true then
   qR eG.cN dq.cN >>= fun bn =>
   some bn
  else
   qR dq.cN eG.cN >>= fun bn =>
   some bn
 else
  if dq.c0=true then
   some (-1)
  else
   some 1
theorem WW {dq eG:bx}:bD (sf dq eG) (fun r=>Con a4 131 [.agg (a1 dq),.agg (a1 eG)] [] (.n .i64 r) []):=by
 unfold sf
 exact .ite (fun h1 =>
  (let t1:List b0:=[(J 3),.aw (ai 6 (cx 2 (aj (.aa false) (ai 1 [])))),.aa false,(J 6),.aa false,(J 3)];
  have aV:=((.dh (cO h1) (cO h1) (cO h1) cK (cO h1)):cA _);
  .ite (fun o =>
  .ar fun bn av =>
  .ret (bA (t1.append [.aa true,.aw (bq 4 (bu 2 (.n .i64 bn) true) 1)]) (aV.aI (.bP o (D7 bn av) (bR.n .i64 bn)))))
  (fun o =>
  .ar fun bn av =>
  .ret (bA (t1.append [.aa false,.aw (bq 4 (bu 2 (.n .i64 bn) true) 1)]) (aV.aI (.bP o (D7 bn av) (bR.n .i64 bn)))))))
  (fun h1 =>
  (let t1:List b0:=[(J 3),.aw (bq 8 (.aa true) 1)];
  have aV:=((.bP (cM h1) (cM h1) (cM h1)):cA _);
  .ite (fun o =>
  .ret (bA (t1.append [.aa true,(J 1)]) (aV.aI (.e1 o))))
  (fun o =>
  .ret (bA (t1.append [.aa false,(J 6),.aa true,(J 1)]) (aV.aI (.aD o (cM h1)))))))
def GQ (eW:List (List bx))(e6:Bool)(eT eY:List Int)(jk:Int)(kl:List Bool)(aQ cm:Int):(Int×Int)→S:=fun (il,bS)=>dv [(0,.dS 6 [[.isl 1 (eW.map (eD 2 a1)),.b e6,.isl 1 (eT.map eI),.isl 1 (eY.map eI),.n .i64 jk,.isl 1 (kl.map eu)]] 0 0),(1,.n .i64 aQ),(5,.n .i64 il),(12,.isl 1 (eW.map (eD 2 a1))),(13,.n .i64 cm),(14,.n .i64 bS)] []
def Od (eW:List (List bx))(e6:Bool)(eT eY:List Int)(jk:Int)(kl:List Bool)(aQ cm:Int):Int→dy
 | a=>⟨some 0,[(5,.n .i64 a)],[]⟩
def wZ (eW:List (List bx))(e6:Bool)(eT eY:List Int)(jk:Int)(kl:List Bool)(aQ cm il bS:Int):Option ((Int×Int)⊕(Int)) :=
 if (decide (bS<cm))=true then
  if 0≤bS∧bS<eW.length then
  eW[bS.toNat]? >>= fun az =>
  if 0≤aQ∧aQ<az.length then
  az[aQ.toNat]? >>= fun cy =>
  pn cy >>= fun de =>
  if (decide (de≤(0:Int)))=true then
   some (.inl (il,R (bS+(1:Int))))
  else
   if (decide (il<(0:Int)))=true then
    some (.inl (bS,R (bS+(1:Int))))
   else
    if 0≤jk∧jk<az.length then
    az[jk.toNat]? >>= fun ru =>
    if 0≤il∧il<eW.length then
    eW[il.toNat]? >>= fun mL =>
    if 0≤aQ∧aQ<mL.length then
    mL[aQ.toNat]? >>= fun rv =>
    pH ru rv >>= fun n7 =>
    if 0≤jk∧jk<mL.length then
    mL[jk.toNat]? >>= fun s4 =>
    pH s4 cy >>= fun n8 =>
    sf n7 n8 >>= fun mM =>
    if (decide (mM<(0:Int)))=true then
     some (.inl (bS,R (bS+(1:Int))))
    else
     if (mM == (0:Int))=true then
      if 0≤bS∧bS<eY.length then
      eY[bS.toNat]? >>= fun Ng =>
      if 0≤il∧il<eY.length then
      eY[il.toNat]? >>= fun Nh =>
      if (decide (Ng<Nh))=true then
       some (.inl (bS,R (bS+(1:Int))))
      else
       some (.inl (il,R (bS+(1:Int))))
      else none
      else none
     else
      some (.inl (il,R (bS+(1:Int))))
    else none
    else none
    else none
    else none
  else none
  else none
 else
  some (.inr il)
def HG (eW:List (List bx))(e6:Bool)(eT eY:List Int)(jk:Int)(kl:List Bool)(aQ cm il bS:Int):Option (Int):=iter (fun w:Int×Int=>wZ eW e6 eT eY jk kl aQ cm w.1 w.2) (il,bS)
theorem U6 {eW:List (List bx)}{e6:Bool}{eT eY:List Int}{jk:Int}{kl:List Bool}{aQ cm il bS:Int}:bD (wZ eW e6 eT eY jk kl aQ cm il bS) (dO a4 91 0 113 [1,1,0,1,0,0] (GQ eW e6 eT eY jk kl aQ cm (il,bS)) (GQ eW e6 eT eY jk kl aQ cm) (Od eW e6 eT eY jk kl aQ cm)):=by
 unfold wZ
 exact .ite (fun h1 =>
  .aY fun o =>
  .ar fun az av =>
  .aY fun aA =>
  .ar fun cy bf =>
  .ar fun de cB =>
  (let t1:List b0:=[(J 1),.aa true,.aw (bq 2 (.b5 ((eD 2 a1) az)) 2),.aw (ai 3 (aj (.b5 (a1 cy)) (aj (bu 1 (.n .i64 de) true) (ai 1 []))))];
  have aV:=((.bi h1 o.1 (cX (eD 2 a1) o.2) (b1 (eD 2 a1) av) aA.1 (cX a1 aA.2) (b1 a1 bf) (tn de cB) (.e1 (bR.n .i64 de))):cA _);
  .ite (fun cQ =>
  .ret (bg (t1.append [.aa true,(J 2),.aN [] [] (a8 [0,1,5,12,13,14])]) (aV.aI (.e1 cQ))))
  (fun cQ =>
  .ite (fun fe =>
  .ret (bg (t1.append [.aa false,(J 2),.aa true,(J 2),(J 2),.aN [] [] (a8 [0,1,5,12,13,14])]) (aV.aI (.aD cQ fe))))
  (fun fe =>
  .aY fun eK =>
  .ar fun ru eL =>
  .aY fun fM =>
  .ar fun mL hQ =>
  .aY fun hD =>
  .ar fun rv fu =>
  .ar fun n7 ig =>
  .aY fun ng =>
  .ar fun s4 p5 =>
  .ar fun n8 s3 =>
  .ar fun mM ks =>
  (let q1:=eD 2 a1;let t3:List b0:=t1.append [.aa false,(J 2),.aa false,.aw (ai 6 (aj (.b5 (a1 ru)) (ai 6 (aj (.b5 (q1 mL)) (ai 2 (aj (.b5 (a1 rv)) (aj (bu 2 (.agg (a1 n7)) false) (ai 6 (aj (.b5 (q1 mL)) (ai 5 (aj (.b5 (a1 s4)) (ai 3 (aj (.b5 (a1 cy)) (aj (bu 2 (.agg (a1 n8)) false) (aj (bu 2 (.n .i64 mM) true) (ai 1 []))))))))))))))))];
  have eA:=aV.aI (.bi cQ fe eK.1 (cX a1 eK.2) (b1 a1 eL) fM.1 (cX q1 fM.2) (b1 q1 hQ) (.bi hD.1 (cX a1 hD.2) (b1 a1 fu) (xI n7 ig) fM.1 (cX q1 fM.2) (b1 q1 hQ) ng.1 (.gz (cX a1 ng.2) (b1 a1 p5) aA.1 (cX a1 aA.2) (b1 a1 bf) (xI n8 s3) (WW mM ks) (bR.n .i64 mM))));
  .ite (fun oE =>
  .ret (bg (t3.append [.aw (ai 3 (cx 3 (ai 15 (cx 1 (aj (.aa true) []))))),.aa true,(J 2),(J 2),.aN [] [] (a8 [0,1,5,12,13,14])]) (eA.aI (.dW oE oE oE oE oE cT))))
  (fun oE =>
  .ite (fun i7 =>
  .aY fun CV =>
  .ar fun Ng r7 =>
  .aY fun p6 =>
  .ar fun Nh afK =>
  (let t5:List b0:=t3.append [.aw (ai 12 (aj (.b5 (eI Ng)) (ai 6 (aj (.b5 (eI Nh)) (ai 1 (aj (.aa true) (aj (.aa false) [])))))))];
  have kj:=eA.aI (.bi oE oE oE i7 i7 i7 i7 i7 (.bi i7 CV.1 (cX eI CV.2) i7 (b1 eI r7) i7 i7 i7 (.bi i7 i7 i7 p6.1 (cX eI p6.2) i7 (b1 eI afK) i7 (.bP oE i7 oE))));
  .ite (fun Ni =>
  .ret (bg (t5.append [.aa true,(J 2),(J 2),.aN [] [] (a8 [0,1,5,12,13,14])]) (kj.aI (.e1 Ni))))
  (fun Ni =>
  .ret (bg (t5.append [.aa false,(J 2),.aN [] [] (a8 [0,1,5,12,13,14])]) (kj.aI (.e1 Ni))))))
  (fun i7 =>
  .ret (bg (t3.append [.aw (ai 6 (cx 15 (aj (.aa false) (aj (.aa false) [])))),.aa false,(J 2),.aN [] [] (a8 [0,1,5,12,13,14])]) (eA.aI (.bi oE oE oE i7 i7 i7 i7 i7 (.bi i7 i7 i7 i7 i7 i7 i7 i7 (.dW i7 i7 oE i7 oE cK))))))))))))
  (fun h1 =>
  .ret (bg [(J 1),.aa false,.aN [] [] (a8 [5])] (.e1 h1)))
theorem VK {eW:List (List bx)}{e6:Bool}{eT eY:List Int}{jk:Int}{kl:List Bool}{aQ cm il bS:Int}{r} (h:HG eW e6 eT eY jk kl aQ cm il bS=some r):dP a4 91 0 113 [1,1,0,1,0,0] (GQ eW e6 eT eY jk kl aQ cm) (Od eW e6 eT eY jk kl aQ cm) (il,bS) r:=dQ (fun _=>U6) h
def z5 (hv:qW)(aQ:Int):Option Int :=
 HG hv.sL hv.v5.c0 hv.v5.cN hv.rU hv.Mh hv.Mi aQ (len_ (eD 2 a1) hv.sL) (-1) 0 >>= fun r1 =>
 some r1
theorem Wr {hv:qW}{aQ:Int}:bD (z5 hv aQ) (fun r=>Con a4 113 [.dS 6 [(yy hv)] 0 0,.n .i64 aQ] [] (.n .i64 r) []):=by
 unfold z5
 exact .ar fun r1 o =>
  .ret (bA [(J 1),(J 1),(J 6),.aN [] [] (a8 [0,1,5,12,13,14]),.sub (.exit 0) [(5,.n .i64 r1)] [],(J 2)] (.e1 (VK o)))
def Bu (aH:List Int):Option (List Int) :=
 if aH.length*8≤140737488355328 then some aH else none
theorem abx:Con a4 143 [.ek] [] (.isl 1 (([]:List Int).map eI)) []:=bA [(J 1),(J 2),.aa true,(J 1)] (.e1 cT) (.bp (.cJ (.iJ 1)))
theorem aby:Con a4 143 [.iF] [] (.isl 1 (([]:List Int).map eI)) []:=(by
 have h:=fun (h1:(([]:List Int)++([]:List Int)).length*8≤140737488355328)=>(bA [(J 1),(J 2),.aa false,.aw (bq 2 (.aI ((([]:List Int)++([]:List Int)).length)) 1)] (.eP cK (nu (show []=(([]:List Int)).map eI from rfl) (fg Int)) (lZ (fg Int) (nj eI):(([]:List Int)++([]:List Int)).length=0+([]:List (List aF)).length) h1 (k6 (iz (show []=(([]:List Int)).map eI from rfl) (fg Int) (nj eI)) (dX (([]:List Int)++([]:List Int)))) (lm (iz (show []=(([]:List Int)).map eI from rfl) (fg Int) (nj eI)) (dX (([]:List Int)++([]:List Int)))) (dk aO (([]:List Int)++([]:List Int)))) (.bp (.cJ (.dL ((([]:List Int)++([]:List Int)).map eI)))):Con a4 143 [.iF] [] (.isl 1 ((([]:List Int)++([]:List Int)).map eI)) [])
 exact h (by decide))
theorem abz (x:Int)(l:List Int)(h1:(([]:List Int)++(x::l)).length*8≤140737488355328):Con a4 143 [.isl 1 ((x::l).map eI)] [] (.isl 1 ((([]:List Int)++(x::l)).map eI)) []:=bA [(J 1),.aw (ai 1 (aj .fZ [])),.aa false,.aw (bq 2 (.aI ((([]:List Int)++(x::l)).length)) 1)] (.gz (by simp:(x::l).map eI≠[]) cK (nu (show []=(([]:List Int)).map eI from rfl) (fg Int)) (lZ (fg Int) (cZ eI (x::l)):(([]:List Int)++(x::l)).length=0+((x::l).map eI).length) h1 (k6 (iz (show []=(([]:List Int)).map eI from rfl) (fg Int) (cZ eI (x::l))) (dX (([]:List Int)++(x::l)))) (lm (iz (show []=(([]:List Int)).map eI from rfl) (fg Int) (cZ eI (x::l))) (dX (([]:List Int)++(x::l)))) (dk aO (([]:List Int)++(x::l)))) (.bp (.cJ (.dL ((([]:List Int)++(x::l)).map eI))))
theorem aaV {aH:List Int}:bD (Bu aH) (fun r=>Con a4 143 [.isl 1 (aH.map eI)] [] (.isl 1 (r.map eI)) []):=by
 unfold Bu
 refine .aY fun h=> .ret ?_
 cases aH with
 | nil=>exact .kf abx aby
 | cons x l =>
  have o:=abz x l (by simpa using h)
  simpa using o
def HT (ag:List Int)(aG:Int):(Int×Int×(List Int))→S:=fun (fV,ad,ab)=>dv [(0,.isl 1 (ag.map eI)),(1,.n .i64 aG),(6,.bh 0 0 0 ab.length),(7,.n .i64 fV),(8,.n .i64 ad)] [(au 1 eI ab)]
def Ic (ag:List Int)(aG:Int):(Int×(List Int))→dy
 | a=>⟨some 0,[(6,.bh 0 0 0 a.2.length),(7,.n .i64 a.1)],[(au 1 eI a.2)]⟩
def HU (ag:List Int)(aG fV ad:Int)(ab:List Int):Option ((Int×Int×(List Int))⊕(Int×(List Int))) :=
 if (decide ((0:Int)≤ad))=true then
  if 0≤ad∧ad<ag.length then
  ag[ad.toNat]? >>= fun az =>
  if aG≠0 then
  if 0≤ad∧ad<(ab.length:Nat) then
  if (0+ad.toNat)<ab.length then
  some (.inl ((R ((R (fV*(1000000000:Int)))+az)).tmod aG,R (ad-(1:Int)),ab.set (0+ad.toNat) (R ((R ((R (fV*(1000000000:Int)))+az)).tdiv aG))))
  else none
  else none
  else none
  else none
 else
  some (.inr (fV,ab))
def JZ (ag:List Int)(aG fV ad:Int)(ab:List Int):Option (Int×(List Int)):=iter (fun w:Int×Int×(List Int)=>HU ag aG w.1 w.2.1 w.2.2) (fV,ad,ab)
theorem VX {ag:List Int}{aG fV ad:Int}{ab:List Int}:bD (HU ag aG fV ad ab) (dO a4 39 0 144 [1,1,1,0,1,0,0] (HT ag aG (fV,ad,ab)) (HT ag aG) (Ic ag aG)):=by
 unfold HU
 exact .ite (fun h1 =>
  .aY fun o =>
  .ar fun az av =>
  .aY fun aA =>
  .aY fun aX =>
  .aY fun bf =>
  .ret (let q1:=(R ((R ((R (fV*(1000000000:Int)))+az)).tdiv aG));bg [(J 2),.aa true,.aw (bq 5 (.b5 (eI az)) 2),.aw (bq 9 .fZ 1),(J 3),.aN [0] [.cG (au 1 eI (ab.set (0+ad.toNat) q1))] [(0,ii),(1,ii),(6,fW ((ab.set (0+ad.toNat) q1).length)),(7,ii),(8,ii)]] (.bi h1 o.1 (cX eI o.2) (b1 eI av) aA aA aX.1 aX.2 (.dh (hT eI bf) (hM 1) (c2 1 .live (gP (cZ eI ab) (0+ad.toNat) q1)) (aJ 1 .live aO (ab.set (0+ad.toNat) q1)) (hi (dX ab) (0+ad.toNat) q1)))))
  (fun h1 =>
  .ret (bg [(J 2),.aa false,.aN [0] [.pure] (a8 [6,7])] (.aD h1 (aJ 1 .live aO ab))))
theorem Xp {ag:List Int}{aG fV ad:Int}{ab:List Int}{r} (h:JZ ag aG fV ad ab=some r):dP a4 39 0 144 [1,1,1,0,1,0,0] (HT ag aG) (Ic ag aG) (fV,ad,ab) r:=dQ (fun _=>VX) h
def yk (ag:List Int)(aG:Int):Option ((List Int)×Int) :=
 if 0≤(len_ eI ag)∧(8:Int)*(len_ eI ag)≤281474976710656∧(len_ eI ag)<9223372036854775808 then
 JZ ag aG 0 (R ((len_ eI ag)-(1:Int))) (List.replicate (len_ eI ag).toNat 0:List Int) >>= fun bV =>
 qn bV.2 >>= fun a6 =>
 some (a6,bV.1)
 else none
theorem O8 {ag:List Int}{aG:Int}:bD (yk ag aG) (fun r=>Con a4 144 [.isl 1 (ag.map eI),.n .i64 aG] [] (.ee [.isl 1 (r.1.map eI),.n .i64 r.2]) []):=by
 unfold yk
 exact .aY fun h1 =>
  .ar fun bV af =>
  .ar fun a6 aA =>
  .ret (let q1:=(List.replicate (len_ eI ag).toNat 0:List Int);bA [(J 2),(J 4),(J 1),(J 4),.aN [4] [.cG (au 1 eI q1)] [(0,ii),(1,ii),(6,fW (q1.length)),(7,ii),(8,ii)],(Ic ag aG bV).e8,.jd 0,.aw (bq 1 (.call {ac:=[.bp (.cJ (.dL (bV.2.map eI)))],r:= .isl 1 (a6.map eI),ej:=false,eC:=[0]}) 3)] (.bi h1.1 (Int.le_refl (len_ eI ag)) h1.2.1 h1.2.2 (c2 1 .live (lY eI (len_ eI ag).toNat 0)) (aJ 1 .live aO q1) (mh (len_ eI ag).toNat (0:Int)) (Xp af) (.c4 (fw eI bV.2) (ff eI bV.2) (dk aO bV.2) (uZ a6 aA))))
def Jg (ab:List Int):Nat→S:=fun l0=>dv [(0,.bh 0 0 0 l0)] [(au 1 eI ab)]
def JM (ab:List Int):Nat→dy
 | a=>⟨some 0,[(0,.bh 0 0 0 a)],[(au 1 eI ab)]⟩
def xX (ab:List Int)(l0:Nat):Option ((Nat)⊕(Nat)) :=
 if (decide ((0:Int)<((l0:Nat):Int)))=true then
  if 0≤(R (((l0:Nat):Int)-(1:Int)))∧(R (((l0:Nat):Int)-(1:Int)))<(l0:Nat) then
  ab[(0+(R (((l0:Nat):Int)-(1:Int))).toNat)]? >>= fun az =>
  if (az == (0:Int))=true then
   if 0≤(R (((l0:Nat):Int)-(1:Int))) then
   if 0≤(R (((l0:Nat):Int)-(1:Int))).toNat∧(R (((l0:Nat):Int)-(1:Int))).toNat≤l0 then
   some (.inl ((R (((l0:Nat):Int)-(1:Int))).toNat-0))
   else none
   else none
  else
   some (.inr l0)
  else none
 else
  some (.inr l0)
def KH (ab:List Int)(l0:Nat):Option (Nat):=iter (fun w:Nat=>xX ab w) l0
theorem WX {ab:List Int}{l0:Nat}:bD (xX ab l0) (dO a4 21 1 140 [1,0,0,0] (Jg ab l0) (Jg ab) (JM ab)):=by
 unfold xX
 exact .ite (fun h1 =>
  .aY fun o =>
  .ar fun az av =>
  (let t1:List b0:=[.aw (ai 9 (aj (.b5 (eI az)) (ai 1 (aj (.aa true) []))))];
  have aV:=((.bi h1 h1 h1 h1 h1 o.1 o.2 h1 (.bP (b1 eI av) h1 h1)):cA _);
  .ite (fun aA =>
  .aY fun aX =>
  .aY fun bf =>
  .ret (bg (t1.append [.aa true,(J 6),.aN [0] [.pure] (a8 [0])]) (aV.aI (.dh aA aX bf.1 bf.2 (aJ 1 .live aO ab)))))
  (fun aA =>
  .ret (bg (t1.append [.aa false,.aN [0] [.pure] (a8 [0])]) (aV.aI (.aD aA (aJ 1 .live aO ab)))))))
  (fun h1 =>
  .ret (bg [.aw (ai 4 (cx 7 (aj (.aa false) []))),.aa false,.aN [0] [.pure] (a8 [0])] (.bi h1 h1 h1 h1 h1 h1 h1 h1 (.aD cK (aJ 1 .live aO ab)))))
theorem Yn {ab:List Int}{l0:Nat}{r} (h:KH ab l0=some r):dP a4 21 1 140 [1,0,0,0] (Jg ab) (JM ab) l0 r:=dQ (fun _=>WX) h
def A3 (er:List Int):Option Nat :=
 KH er er.length >>= fun r1 =>
 some r1
theorem Zt {er:List Int}:bD (A3 er) (fun a=>Con a4 140 [.bh 0 0 0 er.length] [(au 1 eI er)] (.bh 0 0 0 a) [(au 1 eI er)]):=by
 unfold A3
 exact .ar fun r1 o =>
  .ret (kq [(J 1),.aN [0] [.pure] (a8 [0]),(JM er r1).e8,(J 2)] [0] [.pure] (.bP (aJ 1 .live aO er) (Yn o) (aJ 1 .live aO er)))
def IE (aG:List Int)(ad a3:Int)(dA:List Int)(dB hr:Int):(Int×Int×(List Int))→S:=fun (cE,dC,ab)=>dv [(1,.isl 1 (aG.map eI)),(5,.bh 0 0 0 ab.length),(6,.n .i64 ad),(7,.n .i64 a3),(8,.n .i64 cE),(26,.isl 1 (dA.map eI)),(27,.n .i64 dB),(28,.n .i64 ad),(33,.isl 1 (aG.map eI)),(34,.n .i64 hr),(35,.n .i64 dC)] [(au 1 eI ab)]
def Jh (aG:List Int)(ad a3:Int)(dA:List Int)(dB hr:Int):(Int×(List Int))→dy
 | a=>⟨some 2,[(1,.isl 1 (aG.map eI)),(5,.bh 0 0 0 a.2.length),(6,.n .i64 ad),(8,.n .i64 a.1),(26,.isl 1 (dA.map eI)),(27,.n .i64 dB),(28,.n .i64 ad)],[(au 1 eI a.2)]⟩
def IF (aG:List Int)(ad a3:Int)(dA:List Int)(dB hr cE dC:Int)(ab:List Int):Option ((Int×Int×(List Int))⊕(Int×(List Int))) :=
 if (decide (dC<hr))=true then
  if 0≤dC∧dC<aG.length then
  aG[dC.toNat]? >>= fun az =>
  if 0≤(R (ad+dC))∧(R (ad+dC))<(ab.length:Nat) then
  ab[(0+(R (ad+dC)).toNat)]? >>= fun cy =>
  if (0+(R (ad+dC)).toNat)<ab.length then
  some (.inl (R ((R ((R (cy+(R (a3*az))))+cE)).tdiv (1000000000:Int)),R (dC+(1:Int)),ab.set (0+(R (ad+dC)).toNat) ((R ((R (cy+(R (a3*az))))+cE)).tmod (1000000000:Int))))
  else none
  else none
  else none
 else
  some (.inr (cE,ab))
def Pl (aG:List Int)(ad a3:Int)(dA:List Int)(dB hr cE dC:Int)(ab:List Int):Option (Int×(List Int)):=iter (fun w:Int×Int×(List Int)=>IF aG ad a3 dA dB hr w.1 w.2.1 w.2.2) (cE,dC,ab)
theorem Ws {aG:List Int}{ad a3:Int}{dA:List Int}{dB hr cE dC:Int}{ab:List Int}:bD (IF aG ad a3 dA dB hr cE dC ab) (dO a4 72 0 136 [1,1,1,0,1,0,0,1,1,0,0,1,1,0,1,0,0] (IE aG ad a3 dA dB hr (cE,dC,ab)) (IE aG ad a3 dA dB hr) (Jh aG ad a3 dA dB hr)):=by
 unfold IF
 exact .ite (fun h1 =>
  .aY fun o =>
  .ar fun az av =>
  .aY fun aA =>
  .ar fun cy bf =>
  .aY fun bl =>
  .ret (let q1:=R ((R (cy+(R (a3*az))))+cE);let a7:=R (ad+dC);bg [(J 1),.aa true,.aw (bq 2 (.b5 (eI az)) 2),.aw (bq 5 (.b5 (eI cy)) 7),.aw (bq 9 .fZ 1),(J 2),.aN [0] [.cG (au 1 eI (ab.set (0+a7.toNat) (q1.tmod (1000000000:Int))))] [(1,ii),(5,fW ((ab.set (0+a7.toNat) (q1.tmod (1000000000:Int))).length)),(6,ii),(7,ii),(8,ii),(26,ii),(27,ii),(28,ii),(33,ii),(34,ii),(35,ii)]] (.bi h1 o.1 (cX eI o.2) (b1 eI av) aA.1 aA.2 (b1 eI bf) (by decide:(1000000000:Int)≠0) (.gz (by decide:(1000000000:Int)≠0) aA.1 aA.2 (hT eI bl) (hM 1) (c2 1 .live (gP (cZ eI ab) (0+a7.toNat) (q1.tmod (1000000000:Int)))) (aJ 1 .live aO (ab.set (0+a7.toNat) (q1.tmod (1000000000:Int)))) (hi (dX ab) (0+a7.toNat) (q1.tmod (1000000000:Int)))))))
  (fun h1 =>
  .ret (bg [(J 1),.aa false,.aN [0] [.pure] (a8 [1,5,6,8,26,27,28])] (.aD h1 (aJ 1 .live aO ab))))
theorem X6 {aG:List Int}{ad a3:Int}{dA:List Int}{dB hr cE dC:Int}{ab:List Int}{r} (h:Pl aG ad a3 dA dB hr cE dC ab=some r):dP a4 72 0 136 [1,1,1,0,1,0,0,1,1,0,0,1,1,0,1,0,0] (IE aG ad a3 dA dB hr) (Jh aG ad a3 dA dB hr) (cE,dC,ab) r:=dQ (fun _=>Ws) h
def IG (aG dA:List Int)(dB:Int):(Int×(List Int))→S:=fun (fJ,ab)=>dv [(1,.isl 1 (aG.map eI)),(5,.bh 0 0 0 ab.length),(26,.isl 1 (dA.map eI)),(27,.n .i64 dB),(28,.n .i64 fJ)] [(au 1 eI ab)]
def Ji (aG dA:List Int)(dB:Int):(List Int)→dy
 | a=>⟨some 0,[(5,.bh 0 0 0 a.length)],[(au 1 eI a)]⟩
def IH (aG dA:List Int)(dB fJ:Int)(ab:List Int):Option ((Int×(List Int))⊕((List Int))) :=
 if (decide (fJ<dB))=true then
  if 0≤fJ∧fJ<dA.length then
  dA[fJ.toNat]? >>= fun az =>
  Pl aG fJ az dA dB (len_ eI aG) 0 0 ab >>= fun ax =>
  if 0≤(R (fJ+(len_ eI aG)))∧(R (fJ+(len_ eI aG)))<(ax.2.length:Nat) then
  if (0+(R (fJ+(len_ eI aG))).toNat)<ax.2.length then
  some (.inl (R (fJ+(1:Int)),ax.2.set (0+(R (fJ+(len_ eI aG))).toNat) ax.1))
  else none
  else none
  else none
 else
  some (.inr ab)
def Ku (aG dA:List Int)(dB fJ:Int)(ab:List Int):Option ((List Int)):=iter (fun w:Int×(List Int)=>IH aG dA dB w.1 w.2) (fJ,ab)
theorem Wt {aG dA:List Int}{dB fJ:Int}{ab:List Int}:bD (IH aG dA dB fJ ab) (dO a4 72 0 136 [1,1,1,0,1,0,0] (IG aG dA dB (fJ,ab)) (IG aG dA dB) (Ji aG dA dB)):=by
 unfold IH
 exact .ite (fun h1 =>
  .aY fun o =>
  .ar fun az av =>
  .ar fun ax aX =>
  .aY fun bf =>
  .aY fun bl =>
  .ret (let q1:=R (fJ+(len_ eI aG));bg [(J 1),.aa true,.aw (bq 2 (.b5 (eI az)) 2),(J 1),(J 3),.aN [0] [.pure] (a8 [1,5,6,7,8,26,27,28,33,34,35]),(Jh aG fJ az dA dB (len_ eI aG) ax).e8,.aw (ai 7 (aj .fZ [])),(J 2),.aN [0] [.cG (au 1 eI (ax.2.set (0+q1.toNat) ax.1))] [(1,ii),(5,fW ((ax.2.set (0+q1.toNat) ax.1).length)),(26,ii),(27,ii),(28,ii)]] (.bi h1 o.1 (cX eI o.2) (b1 eI av) (aJ 1 .live aO ab) (X6 aX) bf.1 bf.2 (.dh (hT eI bl) (hM 1) (c2 1 .live (gP (cZ eI ax.2) (0+q1.toNat) ax.1)) (aJ 1 .live aO (ax.2.set (0+q1.toNat) ax.1)) (hi (dX ax.2) (0+q1.toNat) ax.1)))))
  (fun h1 =>
  .ret (bg [(J 1),.aa false,.aN [0] [.pure] (a8 [5])] (.aD h1 (aJ 1 .live aO ab))))
theorem X7 {aG dA:List Int}{dB fJ:Int}{ab:List Int}{r} (h:Ku aG dA dB fJ ab=some r):dP a4 72 0 136 [1,1,1,0,1,0,0] (IG aG dA dB) (Ji aG dA dB) (fJ,ab) r:=dQ (fun _=>Wt) h
def yr (ag aG:List Int):Option (Nat×(List Int)) :=
 if ((len_ eI ag) == (0:Int))=true then
  none
 else
  if ((len_ eI aG) == (0:Int))=true then
   none
  else
   if 0≤(R ((len_ eI ag)+(len_ eI aG)))∧(8:Int)*(R ((len_ eI ag)+(len_ eI aG)))≤281474976710656∧(R ((len_ eI ag)+(len_ eI aG)))<9223372036854775808 then
   Ku aG ag (len_ eI ag) 0 (List.replicate (R ((len_ eI ag)+(len_ eI aG))).toNat 0:List Int) >>= fun a6 =>
   A3 a6 >>= fun cn =>
   some (cn,a6)
   else none
theorem Pm {ag aG:List Int}:bD (yr ag aG) (fun a=>Con a4 136 [.isl 1 (ag.map eI),.isl 1 (aG.map eI)] [] (.bh 0 0 0 a.1) [(au 1 eI a.2)]):=by
 unfold yr
 exact .ite (fun h1 =>
  .M8)
  (fun h1 =>
  .ite (fun o =>
  .M8)
  (fun o =>
  .aY fun af =>
  .ar fun a6 aA =>
  .ar fun cn bf =>
  .ret (let q1:=R ((len_ eI ag)+(len_ eI aG));let a7:=(List.replicate q1.toNat 0:List Int);kq [(J 1),.aw (ai 7 (aj (.aa false) [])),.aa false,(J 7),(J 3),.aN [14] [.cG (au 1 eI a7)] [(1,ii),(5,fW (a7.length)),(26,ii),(27,ii),(28,ii)],(Ji aG ag (len_ eI ag) a6).e8,.aw (bq 1 (.call {a2:=[.row 0],dc:=[.pure],ac:=[ii],r:= .bh 0 0 0 cn,eV:=[(au 1 eI a6)],gr:=ii,hC:=[.pure],eC:=[0],ej:=false}) 1)] [0] [.pure] (.bi h1 h1 h1 h1 o af.1 (Int.le_refl q1) af.2.1 (.bi af.2.2 (c2 1 .live (lY eI q1.toNat 0)) (aJ 1 .live aO a7) (mh q1.toNat (0:Int)) (X7 aA) (f9 1 aO a6) (f9 1 aO a6) (Zt cn bf) (.e1 (aJ 1 .live aO a6)))))))
def Jj (fs eF:Nat)(eB:List Int)(kD dn:Int):(Int×Int×(List Int))→S:=fun (cE,cm,ab)=>dv [(0,.bh 0 0 fs eF),(1,.isl 1 (eB.map eI)),(2,.n .i64 kD),(7,.n .i64 cE),(11,.isl 1 (eB.map eI)),(12,.n .i64 dn),(13,.n .i64 cm)] [(au 1 eI ab)]
def JN (fs eF:Nat)(eB:List Int)(kD dn:Int):(Int×(List Int))→dy
 | a=>⟨some 0,[(0,.bh 0 0 fs eF),(1,.isl 1 (eB.map eI)),(7,.n .i64 a.1)],[(au 1 eI a.2)]⟩
def uI (fs eF:Nat)(eB:List Int)(kD dn cE cm:Int)(ab:List Int):Option ((Int×Int×(List Int))⊕(Int×(List Int))) :=
 if (decide (cm<dn))=true then
  if 0≤cm∧cm<eB.length then
  eB[cm.toNat]? >>= fun az =>
  if 0≤cm∧cm<(eF:Nat) then
  ab[(fs+cm.toNat)]? >>= fun cy =>
  if (decide ((R ((R (cy-(R (kD*az))))-cE))<(0:Int)))=true then
   if (fs+cm.toNat)<ab.length then
   some (.inl (R ((R ((999999999:Int)-(R ((R (cy-(R (kD*az))))-cE)))).tdiv (1000000000:Int)),R (cm+(1:Int)),ab.set (fs+cm.toNat) (R ((R ((R (cy-(R (kD*az))))-cE))+(R ((R ((R ((999999999:Int)-(R ((R (cy-(R (kD*az))))-cE)))).tdiv (1000000000:Int)))*(1000000000:Int)))))))
   else none
  else
   if (fs+cm.toNat)<ab.length then
   some (.inl (0,R (cm+(1:Int)),ab.set (fs+cm.toNat) (R ((R (cy-(R (kD*az))))-cE))))
   else none
  else none
  else none
 else
  some (.inr (cE,ab))
def KI (fs eF:Nat)(eB:List Int)(kD dn cE cm:Int)(ab:List Int):Option (Int×(List Int)):=iter (fun w:Int×Int×(List Int)=>uI fs eF eB kD dn w.1 w.2.1 w.2.2) (cE,cm,ab)
theorem WY {fs eF:Nat}{eB:List Int}{kD dn cE cm:Int}{ab:List Int}:bD (uI fs eF eB kD dn cE cm ab) (dO a4 56 1 145 [1,1,0,1,0,0] (Jj fs eF eB kD dn (cE,cm,ab)) (Jj fs eF eB kD dn) (JN fs eF eB kD dn)):=by
 unfold uI
 exact .ite (fun h1 =>
  .aY fun o =>
  .ar fun az av =>
  .aY fun aA =>
  .ar fun cy bf =>
  (let t1:List b0:=[(J 1),.aa true,.aw (bq 2 (.b5 (eI az)) 2),.aw (bq 3 (.b5 (eI cy)) 7),(J 1),(J 2)];
  have aV:=((.eP h1 o.1 (cX eI o.2) (b1 eI av) aA.1 aA.2 (b1 eI bf)):cA _);
  .ite (fun bl =>
  .aY fun cB =>
  .ret (let q1:=(R ((R ((R (cy-(R (kD*az))))-cE))+(R ((R ((R ((999999999:Int)-(R ((R (cy-(R (kD*az))))-cE)))).tdiv (1000000000:Int)))*(1000000000:Int)))));bg (t1.append [.aa true,(J 4),(J 5),.aw (ai 4 (aj .fZ [])),(J 2),.aN [0] [.cG (au 1 eI (ab.set (fs+cm.toNat) q1))] (a8 [0,1,2,7,11,12,13])]) (aV.aI (.gz bl (by decide:(1000000000:Int)≠0) aA.1 aA.2 (hT eI cB) (hM 1) (c2 1 .live (gP (cZ eI ab) (fs+cm.toNat) q1)) (aJ 1 .live aO (ab.set (fs+cm.toNat) q1))))))
  (fun bl =>
  .aY fun cB =>
  .ret (let a7:=R ((R (cy-(R (kD*az))))-cE);bg (t1.append [.aa false,.aw (ai 4 (aj .fZ [])),(J 2),.aN [0] [.cG (au 1 eI (ab.set (fs+cm.toNat) a7))] (a8 [0,1,2,7,11,12,13])]) (aV.aI (.eP bl aA.1 aA.2 (hT eI cB) (hM 1) (c2 1 .live (gP (cZ eI ab) (fs+cm.toNat) a7)) (aJ 1 .live aO (ab.set (fs+cm.toNat) a7))))))))
  (fun h1 =>
  .ret (bg [(J 1),.aa false,.aN [0] [.pure] (a8 [0,1,7])] (.aD h1 (aJ 1 .live aO ab))))
theorem Yo {fs eF:Nat}{eB:List Int}{kD dn cE cm:Int}{ab:List Int}{r} (h:KI fs eF eB kD dn cE cm ab=some r):dP a4 56 1 145 [1,1,0,1,0,0] (Jj fs eF eB kD dn) (JN fs eF eB kD dn) (cE,cm,ab) r:=dQ (fun _=>WY) h
def A4 (eB:List Int)(kD:Int)(fs eF:Nat)(er:List Int):Option (Bool×(List Int)) :=
 KI fs eF eB kD (len_ eI eB) 0 0 er >>= fun r1 =>
 if 0≤(len_ eI eB)∧(len_ eI eB)<(eF:Nat) then
 r1.2[(fs+(len_ eI eB).toNat)]? >>= fun fE =>
 if (fs+(len_ eI eB).toNat)<r1.2.length then
 (r1.2.set (fs+(len_ eI eB).toNat) (R (fE-r1.1)))[(fs+(len_ eI eB).toNat)]? >>= fun c9 =>
 some ((decide (c9<(0:Int))),r1.2.set (fs+(len_ eI eB).toNat) (R (fE-r1.1)))
 else none
 else none
theorem Zu {eB:List Int}{kD:Int}{fs eF:Nat}{er:List Int}:bD (A4 eB kD fs eF er) (fun a=>Con a4 145 (afI 0 0 fs eF eB kD) [(au 1 eI er)] (.b a.1) [(au 1 eI a.2)]):=by
 unfold A4
 exact .ar fun r1 o =>
  .aY fun af =>
  .ar fun fE aA =>
  .aY fun aX =>
  .ar fun c9 bl =>
  .ret (let q1:=R (fE-r1.1);let a7:=len_ eI eB;kq [(J 1),(J 1),(J 3),.aN [0] [.pure] (a8 [0,1,2,7,11,12,13]),(JN fs eF eB kD a7 r1).e8,.aw (ai 4 (aj (.b5 (eI fE)) (ai 3 (aj .fZ [])))),.aw (bq 4 (.b5 (eI c9)) 2)] [0] [.cG (au 1 eI (r1.2.set (fs+a7.toNat) q1))] (.bi (aJ 1 .live aO er) (Yo o) af.1 af.2 (b1 eI aA) af.1 af.2 (hT eI aX) (.dW (hM 1) af.1 af.2 (qY (gP (cZ eI r1.2) (fs+a7.toNat) q1) bl) (c2 1 .live (gP (cZ eI r1.2) (fs+a7.toNat) q1)) (aJ 1 .live aO (r1.2.set (fs+a7.toNat) q1)))))
def Jk (fs eF:Nat)(eB:List Int)(dJ:Int):(Int×Int×(List Int))→S:=fun (cE,df,ab)=>dv [(0,.bh 0 0 fs eF),(1,.isl 1 (eB.map eI)),(4,.n .i64 cE),(8,.isl 1 (eB.map eI)),(9,.n .i64 dJ),(10,.n .i64 df)] [(au 1 eI ab)]
def JO (fs eF:Nat)(eB:List Int)(dJ:Int):(Int×(List Int))→dy
 | a=>⟨some 0,[(0,.bh 0 0 fs eF),(1,.isl 1 (eB.map eI)),(4,.n .i64 a.1)],[(au 1 eI a.2)]⟩
def xY (fs eF:Nat)(eB:List Int)(dJ cE df:Int)(ab:List Int):Option ((Int×Int×(List Int))⊕(Int×(List Int))) :=
 if (decide (df<dJ))=true then
  if 0≤df∧df<eB.length then
  eB[df.toNat]? >>= fun az =>
  if 0≤df∧df<(eF:Nat) then
  ab[(fs+df.toNat)]? >>= fun cy =>
  if (fs+df.toNat)<ab.length then
  some (.inl (R ((R ((R (cy+az))+cE)).tdiv (1000000000:Int)),R (df+(1:Int)),ab.set (fs+df.toNat) ((R ((R (cy+az))+cE)).tmod (1000000000:Int))))
  else none
  else none
  else none
 else
  some (.inr (cE,ab))
def KJ (fs eF:Nat)(eB:List Int)(dJ cE df:Int)(ab:List Int):Option (Int×(List Int)):=iter (fun w:Int×Int×(List Int)=>xY fs eF eB dJ w.1 w.2.1 w.2.2) (cE,df,ab)
theorem WZ {fs eF:Nat}{eB:List Int}{dJ cE df:Int}{ab:List Int}:bD (xY fs eF eB dJ cE df ab) (dO a4 39 1 146 [1,0,1,0,0] (Jk fs eF eB dJ (cE,df,ab)) (Jk fs eF eB dJ) (JO fs eF eB dJ)):=by
 unfold xY
 exact .ite (fun h1 =>
  .aY fun o =>
  .ar fun az av =>
  .aY fun aA =>
  .ar fun cy bf =>
  .aY fun bl =>
  .ret (let q1:=R ((R (cy+az))+cE);bg [(J 1),.aa true,.aw (bq 2 (.b5 (eI az)) 2),.aw (bq 3 (.b5 (eI cy)) 5),.aw (bq 7 .fZ 1),(J 2),.aN [0] [.cG (au 1 eI (ab.set (fs+df.toNat) (q1.tmod (1000000000:Int))))] (a8 [0,1,4,8,9,10])] (.bi h1 o.1 (cX eI o.2) (b1 eI av) aA.1 aA.2 (b1 eI bf) (by decide:(1000000000:Int)≠0) (.eP (by decide:(1000000000:Int)≠0) aA.1 aA.2 (hT eI bl) (hM 1) (c2 1 .live (gP (cZ eI ab) (fs+df.toNat) (q1.tmod (1000000000:Int)))) (aJ 1 .live aO (ab.set (fs+df.toNat) (q1.tmod (1000000000:Int))))))))
  (fun h1 =>
  .ret (bg [(J 1),.aa false,.aN [0] [.pure] (a8 [0,1,4])] (.aD h1 (aJ 1 .live aO ab))))
theorem Yp {fs eF:Nat}{eB:List Int}{dJ cE df:Int}{ab:List Int}{r} (h:KJ fs eF eB dJ cE df ab=some r):dP a4 39 1 146 [1,0,1,0,0] (Jk fs eF eB dJ) (JO fs eF eB dJ) (cE,df,ab) r:=dQ (fun _=>WZ) h
def yv (eB:List Int)(fs eF:Nat)(er:List Int):Option (List Int) :=
 KJ fs eF eB (len_ eI eB) 0 0 er >>= fun r1 =>
 if 0≤(len_ eI eB)∧(len_ eI eB)<(eF:Nat) then
 r1.2[(fs+(len_ eI eB).toNat)]? >>= fun fE =>
 if (fs+(len_ eI eB).toNat)<r1.2.length then
 some (r1.2.set (fs+(len_ eI eB).toNat) (R (fE+r1.1)))
 else none
 else none
theorem Zv {eB:List Int}{fs eF:Nat}{er:List Int}:bD (yv eB fs eF er) (fun a=>Con a4 146 [.bh 0 0 fs eF,.isl 1 (eB.map eI)] [(au 1 eI er)] (.ee []) [(au 1 eI a)]):=by
 unfold yv
 exact .ar fun r1 o =>
  .aY fun af =>
  .ar fun fE aA =>
  .aY fun aX =>
  .ret (let q1:=R (fE+r1.1);let a7:=len_ eI eB;kq [(J 1),(J 3),.aN [0] [.pure] (a8 [0,1,4,8,9,10]),(JO fs eF eB a7 r1).e8,.aw (ai 4 (aj (.b5 (eI fE)) (ai 3 (aj .fZ []))))] [0] [.cG (au 1 eI (r1.2.set (fs+a7.toNat) q1))] (.bi (aJ 1 .live aO er) (Yp o) af.1 af.2 (b1 eI aA) af.1 af.2 (hT eI aX) (.bP (hM 1) (c2 1 .live (gP (cZ eI r1.2) (fs+a7.toNat) q1)) (aJ 1 .live aO (r1.2.set (fs+a7.toNat) q1)))))
def J0 (ag:List Int)(gg:Nat)(ab aC:List Int):(List Int)→S:=fun ao=>dv [(0,.isl 1 (ag.map eI)),(8,.bh 0 0 0 ab.length),(9,.bh 1 0 0 ao.length),(10,.bh 2 0 0 gg)] [(au 1 eI ab),(au 1 eI ao),(au 1 eI aC)]
def Kf (ag:List Int)(gg:Nat)(ab aC:List Int):(List Int)→dy
 | a=>⟨some 0,[(8,.bh 0 0 0 ab.length),(9,.bh 1 0 0 a.length),(10,.bh 2 0 0 gg)],[(au 1 eI ab),(au 1 eI a),(au 1 eI aC)]⟩
def DW (ag:List Int)(gg:Nat)(ab aC ao:List Int):Option (((List Int))⊕((List Int))) :=
 if (decide (((ao.length:Nat):Int)≤(len_ eI ag)))=true then
  if (ao++([0]:List Int)).length*8≤140737488355328 then
  some (.inl (ao++([0]:List Int)))
  else none
 else
  some (.inr ao)
def Ep (ag:List Int)(gg:Nat)(ab aC ao:List Int):Option ((List Int)):=iter (fun w:(List Int)=>DW ag gg ab aC w) ao
theorem Xq {ag:List Int}{gg:Nat}{ab aC ao:List Int}:bD (DW ag gg ab aC ao) (dO a4 172 0 139 [1,1,1,1,1,0,0,0] (J0 ag gg ab aC ao) (J0 ag gg ab aC) (Kf ag gg ab aC)):=by
 unfold DW
 exact .ite (fun h1 =>
  .aY fun o =>
  .ret (let q1:=(ao++([0]:List Int));bg [(J 5),.aa true,.aw (bq 2 (.aI (q1.length)) 1),.aN [0,10,2] [.pure,.cG (au 1 eI q1),.pure] (a8 [0,8,9,10])] (.bi h1 (gF eI 0) (g9 eI ao) (gG eI ao 0) o (aJ 1 .live aO ab) (c2 1 .live (hf eI ao 0)) (aJ 1 .live aO q1) (.e1 (aJ 1 .live aO aC)))))
  (fun h1 =>
  .ret (bg [(J 5),.aa false,.aN [0,1,2] [.pure,.pure,.pure] (a8 [8,9,10])] (.c4 h1 (aJ 1 .live aO ab) (aJ 1 .live aO ao) (aJ 1 .live aO aC))))
theorem Y8 {ag:List Int}{gg:Nat}{ab aC ao:List Int}{r} (h:Ep ag gg ab aC ao=some r):dP a4 172 0 139 [1,1,1,1,1,0,0,0] (J0 ag gg ab aC) (Kf ag gg ab aC) ao r:=dQ (fun _=>Xq) h
def J1 (eF gg:Nat)(a3 bX:Int)(ab ao aC al:List Int):(Int×Int)→S:=fun (nP,fV)=>dv [(8,.bh 0 0 0 ab.length),(9,.bh 1 0 0 eF),(10,.bh 2 0 0 gg),(11,.n .i64 a3),(12,.bh 3 0 0 al.length),(13,.n .i64 bX),(15,.n .i64 nP),(16,.n .i64 fV)] [(au 1 eI ab),(au 1 eI ao),[ae.mk 1 (aC.map eI) .jd],(au 1 eI al)]
def Kg (eF gg:Nat)(a3 bX:Int)(ab ao aC al:List Int):Int→dy
 | a=>⟨some 4,[(8,.bh 0 0 0 ab.length),(9,.bh 1 0 0 eF),(10,.bh 2 0 0 gg),(11,.n .i64 a3),(12,.bh 3 0 0 al.length),(13,.n .i64 bX),(15,.n .i64 a)],[(au 1 eI ab),(au 1 eI ao),[ae.mk 1 (aC.map eI) .jd],(au 1 eI al)]⟩
def uL (eF gg:Nat)(a3 bX:Int)(ab ao aC al:List Int)(nP fV:Int):Option ((Int×Int)⊕(Int)) :=
 if (decide ((1000000000:Int)≤nP))=true then
  if 0≤(R (a3-(1:Int)))∧(R (a3-(1:Int)))<(gg:Nat) then
  aC[(0+(R (a3-(1:Int))).toNat)]? >>= fun az =>
  if (decide ((1000000000:Int)≤(R (fV+az))))=true then
   some (.inr (R (nP-(1:Int))))
  else
   some (.inl (R (nP-(1:Int)),R (fV+az)))
  else none
 else
  if 0≤(R (a3-(2:Int)))∧(R (a3-(2:Int)))<(gg:Nat) then
  aC[(0+(R (a3-(2:Int))).toNat)]? >>= fun az =>
  if 0≤(R ((R (bX+a3))-(2:Int)))∧(R ((R (bX+a3))-(2:Int)))<(eF:Nat) then
  ao[(0+(R ((R (bX+a3))-(2:Int))).toNat)]? >>= fun cy =>
  if (decide ((R ((R (fV*(1000000000:Int)))+cy))<(R (nP*az))))=true then
   if 0≤(R (a3-(1:Int)))∧(R (a3-(1:Int)))<(gg:Nat) then
   aC[(0+(R (a3-(1:Int))).toNat)]? >>= fun je =>
   if (decide ((1000000000:Int)≤(R (fV+je))))=true then
    some (.inr (R (nP-(1:Int))))
   else
    some (.inl (R (nP-(1:Int)),R (fV+je)))
   else none
  else
   some (.inr nP)
  else none
  else none
def KZ (eF gg:Nat)(a3 bX:Int)(ab ao aC al:List Int)(nP fV:Int):Option (Int):=iter (fun w:Int×Int=>uL eF gg a3 bX ab ao aC al w.1 w.2) (nP,fV)
theorem Xr {eF gg:Nat}{a3 bX:Int}{ab ao aC al:List Int}{nP fV:Int}:bD (uL eF gg a3 bX ab ao aC al nP fV) (dO a4 172 0 139 [1,1,1,1,1,1,1,1,0,1,0,0,1,0,0,1,1,0,0,0] (J1 eF gg a3 bX ab ao aC al (nP,fV)) (J1 eF gg a3 bX ab ao aC al) (Kg eF gg a3 bX ab ao aC al)):=by
 unfold uL
 exact .ite (fun h1 =>
  .aY fun o =>
  .ar fun az av =>
  (let t1:List b0:=[.aw (ai 3 (cx 18 (aj (.aa true) []))),.aa true,(J 3),.aw (bq 5 (.b5 (eI az)) 2),(J 2)];
  have aV:=((.bi h1 h1 h1 h1 h1 h1 h1 h1 (.bi h1 h1 h1 h1 h1 h1 h1 h1 (.eP h1 h1 h1 cT o.1 o.2 (b1 eI av)))):cA _);
  .ite (fun aA =>
  .ret (bg (t1.append [.aa true,.aN [0,1,2,3] [.pure,.pure,.pure,.pure] (a8 [8,9,10,11,12,13,15])]) (aV.aI (.dh aA (aJ 1 .live aO ab) (aJ 1 .live aO ao) (aJ 1 .jd aO aC) (aJ 1 .live aO al)))))
  (fun aA =>
  .ret (bg (t1.append [.aa false,.aN [0,1,2,3] [.pure,.pure,.pure,.pure] (a8 [8,9,10,11,12,13,15,16])]) (aV.aI (.dh aA (aJ 1 .live aO ab) (aJ 1 .live aO ao) (aJ 1 .jd aO aC) (aJ 1 .live aO al)))))))
  (fun h1 =>
  .aY fun o =>
  .ar fun az av =>
  .aY fun aA =>
  .ar fun cy bf =>
  (let t1:List b0:=[.aw (ai 8 (aj (.b5 (eI az)) (ai 9 (aj (.b5 (eI cy)) (ai 2 (aj (.aa false) []))))))];
  have aV:=((.bi h1 h1 h1 h1 h1 o.1 o.2 h1 (.bi (b1 eI av) h1 h1 h1 h1 h1 h1 h1 (.bi h1 h1 aA.1 aA.2 h1 (b1 eI bf) h1 h1 (.e1 h1)))):cA _);
  .ite (fun bl =>
  .aY fun cB =>
  .ar fun je fe =>
  (let t3:List b0:=t1.append [.aa true,(J 3),.aw (bq 5 (.b5 (eI je)) 2),(J 2)];
  .ite (fun eK =>
  .ret (bg (t3.append [.aa true,.aN [0,1,2,3] [.pure,.pure,.pure,.pure] (a8 [8,9,10,11,12,13,15])]) (aV.aI (.bi bl cB.1 cB.2 (b1 eI fe) eK (aJ 1 .live aO ab) (aJ 1 .live aO ao) (aJ 1 .jd aO aC) (.e1 (aJ 1 .live aO al))))))
  (fun eK =>
  .ret (bg (t3.append [.aa false,.aN [0,1,2,3] [.pure,.pure,.pure,.pure] (a8 [8,9,10,11,12,13,15,16])]) (aV.aI (.bi bl cB.1 cB.2 (b1 eI fe) eK (aJ 1 .live aO ab) (aJ 1 .live aO ao) (aJ 1 .jd aO aC) (.e1 (aJ 1 .live aO al))))))))
  (fun bl =>
  .ret (bg (t1.append [.aa false,.aN [0,1,2,3] [.pure,.pure,.pure,.pure] (a8 [8,9,10,11,12,13,15])]) (aV.aI (.dh bl (aJ 1 .live aO ab) (aJ 1 .live aO ao) (aJ 1 .jd aO aC) (aJ 1 .live aO al)))))))
theorem Y9 {eF gg:Nat}{a3 bX:Int}{ab ao aC al:List Int}{nP fV:Int}{r} (h:KZ eF gg a3 bX ab ao aC al nP fV=some r):dP a4 172 0 139 [1,1,1,1,1,1,1,1,0,1,0,0,1,0,0,1,1,0,0,0] (J1 eF gg a3 bX ab ao aC al) (Kg eF gg a3 bX ab ao aC al) (nP,fV) r:=dQ (fun _=>Xr) h
def J2 (eF gg:Nat)(a3:Int)(ab aC:List Int):(Int×(List Int)×(List Int))→S:=fun (bX,ao,al)=>dv [(8,.bh 0 0 0 ab.length),(9,.bh 1 0 0 eF),(10,.bh 2 0 0 gg),(11,.n .i64 a3),(12,.bh 3 0 0 al.length),(13,.n .i64 bX)] [(au 1 eI ab),(au 1 eI ao),[ae.mk 1 (aC.map eI) .jd],(au 1 eI al)]
def Kh (eF gg:Nat)(a3:Int)(ab aC:List Int):((List Int)×(List Int))→dy
 | a=>⟨some 2,[(8,.bh 0 0 0 ab.length),(9,.bh 1 0 0 eF),(12,.bh 2 0 0 a.2.length)],[(au 1 eI ab),(au 1 eI a.1),(au 1 eI a.2)]⟩
def uM (eF gg:Nat)(a3:Int)(ab aC:List Int)(bX:Int)(ao al:List Int):Option ((Int×(List Int)×(List Int))⊕((List Int)×(List Int))) :=
 if (decide ((0:Int)≤bX))=true then
  if 0≤(R (bX+a3))∧(R (bX+a3))<(eF:Nat) then
  ao[(0+(R (bX+a3)).toNat)]? >>= fun az =>
  if 0≤(R ((R (bX+a3))-(1:Int)))∧(R ((R (bX+a3))-(1:Int)))<(eF:Nat) then
  ao[(0+(R ((R (bX+a3))-(1:Int))).toNat)]? >>= fun cy =>
  if 0≤(R (a3-(1:Int)))∧(R (a3-(1:Int)))<(gg:Nat) then
  aC[(0+(R (a3-(1:Int))).toNat)]? >>= fun dj =>
  if dj≠0 then
  KZ eF gg a3 bX ab ao aC al (R ((R ((R (az*(1000000000:Int)))+cy)).tdiv dj)) ((R ((R (az*(1000000000:Int)))+cy)).tmod dj) >>= fun en =>
  if 0≤bX then
  if bX.toNat≤eF then
  if 0+gg≤aC.length then
  A4 ((aC.drop 0).take gg) en (0+bX.toNat) (eF-bX.toNat) ao >>= fun gi =>
  if gi.1=true then
   yv ((aC.drop 0).take gg) (0+bX.toNat) (eF-bX.toNat) gi.2 >>= fun iv =>
   if 0≤bX∧bX<(al.length:Nat) then
   if (0+bX.toNat)<al.length then
   some (.inl (R (bX-(1:Int)),iv,al.set (0+bX.toNat) (R (en-(1:Int)))))
   else none
   else none
  else
   if 0≤bX∧bX<(al.length:Nat) then
   if (0+bX.toNat)<al.length then
   some (.inl (R (bX-(1:Int)),gi.2,al.set (0+bX.toNat) en))
   else none
   else none
  else none
  else none
  else none
  else none
  else none
  else none
  else none
 else
  some (.inr (ao,al))
def K0 (eF gg:Nat)(a3:Int)(ab aC:List Int)(bX:Int)(ao al:List Int):Option ((List Int)×(List Int)):=iter (fun w:Int×(List Int)×(List Int)=>uM eF gg a3 ab aC w.1 w.2.1 w.2.2) (bX,ao,al)
theorem Xs {eF gg:Nat}{a3:Int}{ab aC:List Int}{bX:Int}{ao al:List Int}:bD (uM eF gg a3 ab aC bX ao al) (dO a4 172 0 139 [1,1,1,1,1,1,1,1,0,1,0,0] (J2 eF gg a3 ab aC (bX,ao,al)) (J2 eF gg a3 ab aC) (Kh eF gg a3 ab aC)):=by
 unfold uM
 exact .ite (fun h1 =>
  .aY fun o =>
  .ar fun az av =>
  .aY fun aA =>
  .ar fun cy bf =>
  .aY fun bl =>
  .ar fun dj cQ =>
  .aY fun fe =>
  .ar fun en eU =>
  .aY fun eL =>
  .aY fun fM =>
  .aY fun hd =>
  .ar fun gi hD =>
  (let t1:List b0:=[(J 2),.aa true,.aw (ai 5 (aj (.b5 (eI az)) (bq 7 (.b5 (eI cy)) 2))),.aw (ai 5 (aj (.b5 (eI dj)) (bq 6 (.b5 (eI dj)) 3))),.aN [0,1,2,3] [.pure,.pure,.pure,.pure] (a8 [8,9,10,11,12,13,15,16]),(Kg eF gg a3 bX ab ao aC al en).e8,.aw (ai 5 (aj (.call {a2:=[.row 1],dc:=[.pure],ac:=[ii,.bp (.cJ (.dL (((aC.drop 0).take gg).map eI))),ii],r:= .b gi.1,eV:=[(au 1 eI gi.2)],gr:=ii,hC:=[.pure],eC:=[1,2],ej:=false}) []))];
  have aV:=((.bi h1 o.1 o.2 (b1 eI av) aA.1 aA.2 (b1 eI bf) bl.1 (.bi bl.2 (b1 eI cQ) fe bl.1 bl.2 (b1 eI cQ) fe (aJ 1 .live aO ab) (.bi (aJ 1 .live aO ao) (aJ 1 .jd aO aC) (aJ 1 .live aO al) (Y9 eU) eL fM (Nat.le_refl eF) (Bk (cZ eI aC) 0 gg) (.dh (qo (cZ eI aC) hd) (dk aO ((aC.drop 0).take gg)) (f9 1 aO ao) (f9 1 aO gi.2) (Zu gi hD))))):cA _);
  .ite (fun gy =>
  .ar fun iv gM =>
  .aY fun ig =>
  .aY fun ng =>
  .ret (let q1:=(R (en-(1:Int)));bg (t1.append [.aa true,(J 3),.aw (ai 4 (aj (.call {a2:=[.row 1],dc:=[.pure],ac:=[ii,.bp (.cJ (.dL (((aC.drop 0).take gg).map eI)))],r:= .ee [],eV:=[(au 1 eI iv)],gr:=ii,hC:=[.pure],eC:=[1,2],ej:=false}) [])),.aw (ai 4 (aj .fZ [])),(J 3),.aN [0,1,2,3] [.pure,.pure,.pure,.cG (au 1 eI (al.set (0+bX.toNat) q1))] [(8,ii),(9,ii),(10,ii),(11,ii),(12,fW ((al.set (0+bX.toNat) q1).length)),(13,ii)]]) (aV.aI (.bi gy eL fM (Nat.le_refl eF) (Bk (cZ eI aC) 0 gg) (qo (cZ eI aC) hd) (dk aO ((aC.drop 0).take gg)) (f9 1 aO gi.2) (.bi (f9 1 aO iv) (Zv iv gM) ig.1 ig.2 (hT eI ng) (hM 1) (aJ 1 .live aO ab) (aJ 1 .live aO iv) (.c4 (aJ 1 .jd aO aC) (c2 1 .live (gP (cZ eI al) (0+bX.toNat) q1)) (aJ 1 .live aO (al.set (0+bX.toNat) q1)) (hi (dX al) (0+bX.toNat) q1)))))))
  (fun gy =>
  .aY fun fu =>
  .aY fun gM =>
  .ret (bg (t1.append [.aa false,.aw (ai 4 (aj .fZ [])),(J 3),.aN [0,1,2,3] [.pure,.pure,.pure,.cG (au 1 eI (al.set (0+bX.toNat) en))] [(8,ii),(9,ii),(10,ii),(11,ii),(12,fW ((al.set (0+bX.toNat) en).length)),(13,ii)]]) (aV.aI (.bi gy fu.1 fu.2 (hT eI gM) (hM 1) (aJ 1 .live aO ab) (aJ 1 .live aO gi.2) (aJ 1 .jd aO aC) (.bP (c2 1 .live (gP (cZ eI al) (0+bX.toNat) en)) (aJ 1 .live aO (al.set (0+bX.toNat) en)) (hi (dX al) (0+bX.toNat) en))))))))
  (fun h1 =>
  .ret (bg [(J 2),.aa false,.aN [0,1,3] [.pure,.pure,.pure] (a8 [8,9,12])] (.c4 h1 (aJ 1 .live aO ab) (aJ 1 .live aO ao) (aJ 1 .live aO al))))
theorem Za {eF gg:Nat}{a3:Int}{ab aC:List Int}{bX:Int}{ao al:List Int}{r} (h:K0 eF gg a3 ab aC bX ao al=some r):dP a4 172 0 139 [1,1,1,1,1,1,1,1,0,1,0,0] (J2 eF gg a3 ab aC) (Kh eF gg a3 ab aC) (bX,ao,al) r:=dQ (fun _=>Xs) h
def yC (ag aG:List Int):Option ((List Int)×(List Int)) :=
 qR ag aG >>= fun r1 =>
 if (decide (r1<(0:Int)))=true then
  Bu ag >>= fun a6 =>
  some (([]:List Int),a6)
 else
  if ((len_ eI aG) == (1:Int))=true then
   if 0≤(0:Int)∧(0:Int)<aG.length then
   aG[0]? >>= fun cy =>
   yk ag cy >>= fun de =>
   uY (IntKind.wrap .u64 de.2) >>= fun et =>
   some (de.1,et)
   else none
  else
   if 0≤(R ((len_ eI aG)-(1:Int)))∧(R ((len_ eI aG)-(1:Int)))<aG.length then
   aG[(R ((len_ eI aG)-(1:Int))).toNat]? >>= fun cy =>
   if (R (cy+(1:Int)))≠0 then
   yr ag ([R ((1000000000:Int).tdiv (R (cy+(1:Int))))]:List Int) >>= fun cb =>
   if cb.1≤cb.2.length then
   if (cb.2.take cb.1++([0]:List Int)).length*8≤140737488355328 then
   yr aG ([R ((1000000000:Int).tdiv (R (cy+(1:Int))))]:List Int) >>= fun eM =>
   Ep ag eM.1 ([R ((1000000000:Int).tdiv (R (cy+(1:Int))))]:List Int) eM.2 (cb.2.take cb.1++([0]:List Int)) >>= fun gN =>
   if 0≤(R (((gN.length:Nat):Int)-((eM.1:Nat):Int)))∧(8:Int)*(R (((gN.length:Nat):Int)-((eM.1:Nat):Int)))≤281474976710656∧(R (((gN.length:Nat):Int)-((eM.1:Nat):Int)))<9223372036854775808 then
   K0 gN.length eM.1 ((eM.1:Nat):Int) ([R ((1000000000:Int).tdiv (R (cy+(1:Int))))]:List Int) eM.2 (R ((R (((gN.length:Nat):Int)-((eM.1:Nat):Int)))-(1:Int))) gN (List.replicate (R (((gN.length:Nat):Int)-((eM.1:Nat):Int))).toNat 0:List Int) >>= fun fl =>
   if 0+gN.length≤fl.1.length then
   qn ((fl.1.drop 0).take gN.length) >>= fun n7 =>
   if 0≤(0:Int)∧(0:Int)<(([R ((1000000000:Int).tdiv (R (cy+(1:Int))))]:List Int).length:Nat) then
   ([R ((1000000000:Int).tdiv (R (cy+(1:Int))))]:List Int)[0]? >>= fun s4 =>
   yk n7 s4 >>= fun n8 =>
   qn fl.2 >>= fun mM =>
   some (mM,n8.1)
   else none
   else none
   else none
   else none
   else none
   else none
   else none
theorem Z3 {ag aG:List Int}:bD (yC ag aG) (fun r=>Con a4 139 [.isl 1 (ag.map eI),.isl 1 (aG.map eI)] [] (.ee [.isl 1 (r.1.map eI),.isl 1 (r.2.map eI)]) []):=by
 unfold yC
 exact .ar fun r1 o =>
  (let t1:List b0:=[(J 2),.aw (bq 2 (bu 2 (.n .i64 r1) true) 1)];
  have aV:=((.aD (D7 r1 o) (bR.n .i64 r1)):cA _);
  .ite (fun af =>
  .ar fun a6 aA =>
  .ret (bA (t1.append [.aa true,.aw (bq 1 (bu 1 (.isl 1 (a6.map eI)) false) 2)]) (aV.aI (.aD af (aaV a6 aA))) (.comp [.cJ (.iJ 1),.cJ .id])))
  (fun af =>
  .ite (fun av =>
  .aY fun aA =>
  .ar fun cy bf =>
  .ar fun de cB =>
  .ar fun et fe =>
  .ret (bA (t1.append [.aa false,(J 3),.aa true,.aw (ai 3 (aj (.b5 (eI cy)) (aj (bu 2 (.ee [.isl 1 (de.1.map eI),.n .i64 de.2]) false) (ai 5 [])))),.aw (bq 3 (bu 1 (.isl 1 (et.map eI)) false) 2)]) (aV.aI (.eP af av aA.1 (cX eI aA.2) (b1 eI bf) (O8 de cB) (Ks et fe)))))
  (fun av =>
  .aY fun aA =>
  .ar fun cy bf =>
  .aY fun bl =>
  .ar fun cb cQ =>
  .aY fun fe =>
  .aY fun eK =>
  .ar fun eM eL =>
  .ar fun gN hd =>
  .aY fun hQ =>
  .ar fun fl gy =>
  .aY fun fu =>
  .ar fun n7 ig =>
  .aY fun ng =>
  .ar fun s4 p5 =>
  .ar fun n8 s3 =>
  .ar fun mM ks =>
  .ret (let q1:=(R ((1000000000:Int).tdiv (R (cy+(1:Int)))));let a7:=(R (((gN.length:Nat):Int)-((eM.1:Nat):Int)));let bZ:=(cb.2.take cb.1++([0]:List Int));let cC:=(List.replicate a7.toNat 0:List Int);let dr:=(aJ 1 .live aO ([q1]:List Int));bA (t1.append [.aa false,(J 3),.aa false,.aw (bq 5 (.b5 (eI cy)) 4),.aw (ai 2 (aj (.call {a2:=[],dc:=[],ac:=[ii,.bp (.cJ (.dL (([q1]:List Int).map eI)))],r:= .bh 0 0 0 cb.1,eV:=[(au 1 eI cb.2)],gr:=ii,hC:=[.pure],eC:=[17],ej:=true}) (ai 1 (aj (.aI (bZ.length)) (bq 2 (.call {a2:=[],dc:=[],ac:=[ii,.bp (.cJ (.dL (([q1]:List Int).map eI)))],r:= .bh 0 0 0 eM.1,eV:=[(au 1 eI eM.2)],gr:=ii,hC:=[.pure],eC:=[17],ej:=true}) 2))))),.aN [17,23,26] [.cG (au 1 eI ([q1]:List Int)),.cG (au 1 eI bZ),.pure] [(0,ii),(8,fW (([q1]:List Int).length)),(9,ii),(10,ii)],(Kf ag eM.1 ([q1]:List Int) eM.2 gN).e8,(J 3),(J 6),(J 6),.aN [0,1,2,10] [.pure,.pure,.pure,.cG (au 1 eI cC)] [(8,ii),(9,ii),(10,ii),(11,ii),(12,fW (cC.length)),(13,ii)],.jd 2,.aN [0,1,2,3] [.pure,.pure,.pure,.pure] (a8 [8,9,10,11,12,13]),(Kh gN.length eM.1 ((eM.1:Nat):Int) ([q1]:List Int) eM.2 fl).e8,.jd 1,.aw (ai 1 (aj (.call {ac:=[.bp (.cJ (.dL (((fl.1.drop 0).take gN.length).map eI)))],r:= .isl 1 (n7.map eI),ej:=false,eC:=[1]}) (ai 2 (aj (.b5 (eI s4)) (aj (bu 2 (.ee [.isl 1 (n8.1.map eI),.n .i64 n8.2]) false) (ai 5 [])))))),.jd 2,.aw (bq 1 (.call {ac:=[.bp (.cJ (.dL (fl.2.map eI)))],r:= .isl 1 (mM.map eI),ej:=false,eC:=[2]}) 3)]) (aV.aI (.bi af av aA.1 (cX eI aA.2) (b1 eI bf) bl (k6 (show [[.n .i64 (R ((1000000000:Int).tdiv (R (cy+(1:Int)))))]]=(([(R ((1000000000:Int).tdiv (R (cy+(1:Int)))))]:List Int)).map eI from rfl) (show 1=([(R ((1000000000:Int).tdiv (R (cy+(1:Int)))))]:List Int).length from rfl)) (gF eI q1) (.bi (dk aO ([q1]:List Int)) (f9 1 aO cb.2) (Pm cb cQ) (bR.bh 0 0 0 cb.1) ((mT (k8 (kX rb) mX) mW):lx [(au 1 eI cb.2)]) (gF eI 0) (qo (cZ eI cb.2) fe) (afA eI fe 0) (.bi eK (k6 (show [[.n .i64 (R ((1000000000:Int).tdiv (R (cy+(1:Int)))))]]=(([(R ((1000000000:Int).tdiv (R (cy+(1:Int)))))]:List Int)).map eI from rfl) (show 1=([(R ((1000000000:Int).tdiv (R (cy+(1:Int)))))]:List Int).length from rfl)) (gF eI q1) (dk aO ([q1]:List Int)) (f9 1 aO eM.2) (Pm eM eL) (bR.bh 0 0 0 eM.1) ((mT (k8 (kX rb) mX) mW):lx [(au 1 eI eM.2)]) (.bi (c2 1 .live (show [[.n .i64 (R ((1000000000:Int).tdiv (R (cy+(1:Int)))))]]=(([(R ((1000000000:Int).tdiv (R (cy+(1:Int)))))]:List Int)).map eI from rfl)) dr (c2 1 .live (Lz (cZ eI cb.2) cb.1 (wC eI 0))) (aJ 1 .live aO bZ) (aJ 1 .live aO eM.2) (show 1=([(R ((1000000000:Int).tdiv (R (cy+(1:Int)))))]:List Int).length from rfl) (Y8 hd) hQ.1 (.bi (Int.le_refl a7) hQ.2.1 hQ.2.2 dr (aJ 1 .live aO gN) (aJ 1 .live aO eM.2) (c2 1 .live (lY eI a7.toNat 0)) (aJ 1 .live aO cC) (.bi (mh a7.toNat (0:Int)) dr (aJ 1 .live aO gN) (aJ 1 .jd aO eM.2) (aJ 1 .live aO cC) (Za gy) (Bk (cZ eI fl.1) 0 gN.length) (qo (cZ eI fl.1) fu) (.bi (dk aO ((fl.1.drop 0).take gN.length)) (uZ n7 ig) ng.1 ng.2 (b1 eI p5) (O8 n8 s3) (fw eI fl.2) (ff eI fl.2) (.aD (dk aO fl.2) (uZ mM ks))))))))))))))
def tp (dq eG:bx):Option bx :=
 yC dq.cN eG.cN >>= fun r1 =>
 np (!(dq.c0 == eG.c0)) r1.1 >>= fun bn =>
 some bn
theorem HV {dq eG:bx}:bD (tp dq eG) (fun r=>Con a4 132 [.agg (a1 dq),.agg (a1 eG)] [] (.agg (a1 r)) []):=by
 unfold tp
 exact .ar fun r1 o =>
  .ar fun bn av =>
  .ret (bA [(J 3),.aw (bq 4 (bu 2 (.ee [.isl 1 (r1.1.map eI),.isl 1 (r1.2.map eI)]) false) 5),.aw (bq 6 (bu 2 (.agg (a1 bn)) false) 1)] (.aD (Z3 r1 o) (ts bn av)))
def GR (b4 aQ:Int)(gW j4:bF)(jQ jq jP:Int)(aL:Bool)(aM:List Int)(bz:Int)(ao:List bF)(al:List Int)(aK:List Bool)(jE:Bool)(jB:List Int)(ox:Bool)(oo:List Int):(Int×(List (List bx)))→S:=fun (fi,bc)=>dv [(0,.ref 0 0 0 0),(1,.n .i64 b4),(2,.n .i64 aQ),(6,lT 2 0 2 gW),(7,.ref 5 0 0 0),(9,lT 2 0 2 j4),(10,.ref 6 0 0 0),(30,.bh 1 0 0 ao.length),(31,.n .i64 jQ),(32,.n .i64 jq),(45,.n .i64 jP),(46,.n .i64 fi)] [[ae.mk 6 [(fX 1 0 0 ao.length aL aM 3 0 0 al.length bz 4 0 0 aK.length)] .live],(au 1 (br 2 0 2) ao),(cf 2 a1 bc),(au 1 eI al),(au 1 eu aK),[ae.mk 2 [[.b jE,.isl 1 (jB.map eI)]] .live],[ae.mk 2 [[.b ox,.isl 1 (oo.map eI)]] .live]]
def GZ (b4 aQ:Int)(gW j4:bF)(jQ jq jP:Int)(aL:Bool)(aM:List Int)(bz:Int)(ao:List bF)(al:List Int)(aK:List Bool)(jE:Bool)(jB:List Int)(ox:Bool)(oo:List Int):(List (List bx))→dy
 | a=>⟨some 2,[(0,.ref 0 0 0 0),(1,.n .i64 b4),(2,.n .i64 aQ),(6,lT 2 0 2 gW),(7,.ref 5 0 0 0),(30,.bh 1 0 0 ao.length),(31,.n .i64 jQ),(32,.n .i64 jq)],[[ae.mk 6 [(fX 1 0 0 ao.length aL aM 3 0 0 al.length bz 4 0 0 aK.length)] .live],(au 1 (br 2 0 2) ao),(cf 2 a1 a),(au 1 eI al),(au 1 eu aK),[ae.mk 2 [[.b jE,.isl 1 (jB.map eI)]] .live]]⟩
def w0 (b4 aQ:Int)(gW j4:bF)(jQ jq jP:Int)(aL:Bool)(aM:List Int)(bz:Int)(ao:List bF)(al:List Int)(aK:List Bool)(jE:Bool)(jB:List Int)(ox:Bool)(oo:List Int)(fi:Int)(bc:List (List bx)):Option ((Int×(List (List bx)))⊕((List (List bx)))) :=
 if (decide (fi<jP))=true then
  j4 >>= fun hg =>
  bc[hg.1]? >>= fun kc =>
  if 0≤fi∧fi<(hg.2:Nat) then
  kc[(0+fi.toNat)]? >>= fun c9 =>
  pH c9 (⟨jE,jB⟩:bx) >>= fun cb =>
  pn (⟨ox,oo⟩:bx) >>= fun dp =>
  if (dp != (0:Int))=true then
   gW >>= fun wg =>
   bc[wg.1]? >>= fun zH =>
   if 0≤fi∧fi<(wg.2:Nat) then
   zH[(0+fi.toNat)]? >>= fun rv =>
   pn rv >>= fun n7 =>
   if (n7 != (0:Int))=true then
    pH (⟨ox,oo⟩:bx) rv >>= fun p7 =>
    uK cb p7 >>= fun n8 =>
    tp n8 (⟨aL,aM⟩:bx) >>= fun mM =>
    some (.inl (R (fi+(1:Int)),bc.set hg.1 (kc.set (0+fi.toNat) mM)))
   else
    tp cb (⟨aL,aM⟩:bx) >>= fun p7 =>
    some (.inl (R (fi+(1:Int)),bc.set hg.1 (kc.set (0+fi.toNat) p7)))
   else none
  else
   tp cb (⟨aL,aM⟩:bx) >>= fun fp =>
   some (.inl (R (fi+(1:Int)),bc.set hg.1 (kc.set (0+fi.toNat) fp)))
  else none
 else
  some (.inr bc)
def DF (b4 aQ:Int)(gW j4:bF)(jQ jq jP:Int)(aL:Bool)(aM:List Int)(bz:Int)(ao:List bF)(al:List Int)(aK:List Bool)(jE:Bool)(jB:List Int)(ox:Bool)(oo:List Int)(fi:Int)(bc:List (List bx)):Option ((List (List bx))):=iter (fun w:Int×(List (List bx))=>w0 b4 aQ gW j4 jQ jq jP aL aM bz ao al aK jE jB ox oo w.1 w.2) (fi,bc)
theorem U7 {b4 aQ:Int}{gW j4:bF}{jQ jq jP:Int}{aL:Bool}{aM:List Int}{bz:Int}{ao:List bF}{al:List Int}{aK:List Bool}{jE:Bool}{jB:List Int}{ox:Bool}{oo:List Int}{fi:Int}{bc:List (List bx)}:bD (w0 b4 aQ gW j4 jQ jq jP aL aM bz ao al aK jE jB ox oo fi bc) (dO a4 128 5 114 [1,1,0,1,0,0,1,1,0,0,1,1,1,1,0,0] (GR b4 aQ gW j4 jQ jq jP aL aM bz ao al aK jE jB ox oo (fi,bc)) (GR b4 aQ gW j4 jQ jq jP aL aM bz ao al aK jE jB ox oo) (GZ b4 aQ gW j4 jQ jq jP aL aM bz ao al aK jE jB ox oo)):=by
 unfold w0
 exact .ite (fun h1 =>
  .ar fun hg af =>
  .ar fun kc aA =>
  .aY fun aX =>
  .ar fun c9 bl =>
  .ar fun cb cQ =>
  .ar fun dp eK =>
  (let lQ:=ke (gu .live 2 a1 bc) jv aA;let t1:List b0:=[(J 1),.aa true,(J 2),.aw (ai 2 (aj (.kw 49 (.bh 2 (hg.1+0) 0 hg.2) (.gv (ae.mk 2 (kc.map a1) .live) [])) (aj (.gv (ae.mk 2 (kc.map a1) .live) (a1 c9)) (bq 1 (bu 2 (.agg (a1 cb)) false) 2))))];
  have aV:=((.bi h1 (mi (ea:=2) (c:=0) (sz:=2) af) lQ aX.1 aX.2 lQ (b1 a1 bl) (xI cb cQ) (.aD (tn dp eK) (bR.n .i64 dp))):cA _);
  .ite (fun eU =>
  .ar fun wg fM =>
  .ar fun zH hQ =>
  .aY fun hD =>
  .ar fun rv fu =>
  .ar fun n7 ig =>
  (let jw:=ke (gu .live 2 a1 bc) jv hQ;let t3:List b0:=t1.append [.aw (ai 1 (aj (bu 1 (.n .i64 dp) true) (ai 4 (aj (.kw 59 (.bh 2 (wg.1+0) 0 wg.2) (.gv (ae.mk 2 (zH.map a1) .live) [])) (aj (.gv (ae.mk 2 (zH.map a1) .live) (a1 rv)) (aj (bu 1 (.n .i64 n7) true) (ai 1 (aj (.aa true) []))))))))];
  have eA:=aV.aI (.bi eU eU eU (mi (ea:=2) (c:=0) (sz:=2) fM) jw hD.1 hD.2 eU (.eP jw (b1 a1 fu) eU (tn n7 ig) (bR.n .i64 n7) eU eU));
  .ite (fun ng =>
  .ar fun p7 p5 =>
  .ar fun n8 s3 =>
  .ar fun mM ks =>
  .ret (let q1:=ke (gu .live 2 a1 bc) jv hQ;let a7:=ke (gu .live 2 a1 bc) jv aA;let bZ:=b2 [0,1,2,3,4,5,6];bg (t3.append [.aa true,.aw (ai 4 (aj (.kw 68 (.bh 2 (wg.1+0) 0 wg.2) (.gv (ae.mk 2 (zH.map a1) .live) [])) (aj (.gv (ae.mk 2 (zH.map a1) .live) (a1 rv)) (aj (bu 2 (.agg (a1 p7)) false) (aj (bu 2 (.agg (a1 n8)) false) (ai 1 [])))))),.aw (ai 7 (aj (bu 2 (.agg (a1 mM)) false) (aj (.kw 74 (.bh 2 (hg.1+0) 0 hg.2) (.gv (ae.mk 2 (kc.map a1) .live) [])) (aj (.gv (ae.mk 2 (kc.map a1) .live) (a1 c9)) [])))),(J 2),.aN [0,1,2,3,4,5,6] [.box [.id,.id,.id,.id,.id,.id],.bM (au 1 (br 2 0 2) ao),.bM (cf 2 a1 (bc.set hg.1 (kc.set (0+fi.toNat) mM))),.pure,.pure,.box [.id,.id],.box [.id,.id]] (a8 [0,1,2,6,7,9,10,30,31,32,45,46])]) (eA.aI (.bi ng (mi (ea:=2) (c:=0) (sz:=2) fM) q1 hD.1 hD.2 q1 (b1 a1 fu) (xI p7 p5) (.bi (OB n8 s3) (HV mM ks) (mi (ea:=2) (c:=0) (sz:=2) af) a7 aX.1 aX.2 a7 (b1 a1 bl) (.c4 (eH bZ 2 2 0 2 rfl ao) (nv (cd:=bZ) (ps (gu .live 2 a1 bc) hg.1 (nr (cZ a1 kc) (0+fi.toNat) mM (rfl:(setCells (a1 c9) 0 (a1 mM))=a1 mM))) (mE fm)) (aJ 1 .live aO al) (aJ 1 .live e9 aK)))))))
  (fun ng =>
  .ar fun p7 p5 =>
  .ret (let cC:=ke (gu .live 2 a1 bc) jv aA;let dr:=b2 [0,1,2,3,4,5,6];bg (t3.append [.aa false,.aw (ai 7 (aj (bu 2 (.agg (a1 p7)) false) (aj (.kw 74 (.bh 2 (hg.1+0) 0 hg.2) (.gv (ae.mk 2 (kc.map a1) .live) [])) (aj (.gv (ae.mk 2 (kc.map a1) .live) (a1 c9)) [])))),(J 2),.aN [0,1,2,3,4,5,6] [.box [.id,.id,.id,.id,.id,.id],.bM (au 1 (br 2 0 2) ao),.bM (cf 2 a1 (bc.set hg.1 (kc.set (0+fi.toNat) p7))),.pure,.pure,.box [.id,.id],.box [.id,.id]] (a8 [0,1,2,6,7,9,10,30,31,32,45,46])]) (eA.aI (.bi ng (HV p7 p5) (mi (ea:=2) (c:=0) (sz:=2) af) cC aX.1 aX.2 cC (b1 a1 bl) (.c4 (eH dr 2 2 0 2 rfl ao) (nv (cd:=dr) (ps (gu .live 2 a1 bc) hg.1 (nr (cZ a1 kc) (0+fi.toNat) p7 (rfl:(setCells (a1 c9) 0 (a1 p7))=a1 p7))) (mE fm)) (aJ 1 .live aO al) (aJ 1 .live e9 aK))))))))
  (fun eU =>
  .ar fun fp fM =>
  .ret (let f8:=ke (gu .live 2 a1 bc) jv aA;let h7:=b2 [0,1,2,3,4,5,6];bg (t1.append [.aw (ai 1 (aj (bu 1 (.n .i64 dp) true) (ai 2 (cx 6 (aj (.aa false) []))))),.aa false,.aw (ai 7 (aj (bu 2 (.agg (a1 fp)) false) (aj (.kw 74 (.bh 2 (hg.1+0) 0 hg.2) (.gv (ae.mk 2 (kc.map a1) .live) [])) (aj (.gv (ae.mk 2 (kc.map a1) .live) (a1 c9)) [])))),(J 2),.aN [0,1,2,3,4,5,6] [.box [.id,.id,.id,.id,.id,.id],.bM (au 1 (br 2 0 2) ao),.bM (cf 2 a1 (bc.set hg.1 (kc.set (0+fi.toNat) fp))),.pure,.pure,.box [.id,.id],.box [.id,.id]] (a8 [0,1,2,6,7,9,10,30,31,32,45,46])]) (aV.aI (.bi eU eU eU eU eU eU eU cK (.bi (HV fp fM) (mi (ea:=2) (c:=0) (sz:=2) af) f8 aX.1 aX.2 f8 (b1 a1 bl) (eH h7 2 2 0 2 rfl ao) (.bP (nv (cd:=h7) (ps (gu .live 2 a1 bc) hg.1 (nr (cZ a1 kc) (0+fi.toNat) fp (rfl:(setCells (a1 c9) 0 (a1 fp))=a1 fp))) (mE fm)) (aJ 1 .live aO al) (aJ 1 .live e9 aK)))))))))
  (fun h1 =>
  .ret (let fx:=b2 [0,1,2,3,4,5];bg [(J 1),.aa false,.aN [0,1,2,3,4,5] [.box [.id,.id,.id,.id,.id,.id],.bM (au 1 (br 2 0 2) ao),.bM (cf 2 a1 bc),.pure,.pure,.box [.id,.id]] (a8 [0,1,2,6,7,30,31,32])] (.dh h1 (eH fx 2 2 0 2 rfl ao) (dY fx 2 fm bc) (aJ 1 .live aO al) (aJ 1 .live e9 aK))))
theorem VM {b4 aQ:Int}{gW j4:bF}{jQ jq jP:Int}{aL:Bool}{aM:List Int}{bz:Int}{ao:List bF}{al:List Int}{aK:List Bool}{jE:Bool}{jB:List Int}{ox:Bool}{oo:List Int}{fi:Int}{bc:List (List bx)}{r} (h:DF b4 aQ gW j4 jQ jq jP aL aM bz ao al aK jE jB ox oo fi bc=some r):dP a4 128 5 114 [1,1,0,1,0,0,1,1,0,0,1,1,1,1,0,0] (GR b4 aQ gW j4 jQ jq jP aL aM bz ao al aK jE jB ox oo) (GZ b4 aQ gW j4 jQ jq jP aL aM bz ao al aK jE jB ox oo) (fi,bc) r:=dQ (fun _=>U7) h
def GS (b4 aQ:Int)(gW:bF)(jQ:Int)(aL:Bool)(aM:List Int)(bz:Int)(ao:List bF)(al:List Int)(aK:List Bool)(jE:Bool)(jB:List Int):(Int×(List (List bx)))→S:=fun (jq,bc)=>dv [(0,.ref 0 0 0 0),(1,.n .i64 b4),(2,.n .i64 aQ),(6,lT 2 0 2 gW),(7,.ref 5 0 0 0),(30,.bh 1 0 0 ao.length),(31,.n .i64 jQ),(32,.n .i64 jq)] [[ae.mk 6 [(fX 1 0 0 ao.length aL aM 3 0 0 al.length bz 4 0 0 aK.length)] .live],(au 1 (br 2 0 2) ao),(cf 2 a1 bc),(au 1 eI al),(au 1 eu aK),[ae.mk 2 [[.b jE,.isl 1 (jB.map eI)]] .live]]
def G0 (b4 aQ:Int)(gW:bF)(jQ:Int)(aL:Bool)(aM:List Int)(bz:Int)(ao:List bF)(al:List Int)(aK:List Bool)(jE:Bool)(jB:List Int):(List (List bx))→dy
 | a=>⟨some 0,[(0,.ref 0 0 0 0),(1,.n .i64 b4),(2,.n .i64 aQ),(7,.ref 5 0 0 0)],[[ae.mk 6 [(fX 1 0 0 ao.length aL aM 3 0 0 al.length bz 4 0 0 aK.length)] .live],(au 1 (br 2 0 2) ao),(cf 2 a1 a),(au 1 eI al),(au 1 eu aK),[ae.mk 2 [[.b jE,.isl 1 (jB.map eI)]] .live]]⟩
def w1 (b4 aQ:Int)(gW:bF)(jQ:Int)(aL:Bool)(aM:List Int)(bz:Int)(ao:List bF)(al:List Int)(aK:List Bool)(jE:Bool)(jB:List Int)(jq:Int)(bc:List (List bx)):Option ((Int×(List (List bx)))⊕((List (List bx)))) :=
 if (decide (jq<jQ))=true then
  if 0≤jq∧jq<(ao.length:Nat) then
  ao[(0+jq.toNat)]? >>= fun az =>
  if (jq == b4)=true then
   some (.inl (R (jq+(1:Int)),bc))
  else
   az >>= fun ti =>
   bc[ti.1]? >>= fun Dl =>
   if 0≤aQ∧aQ<(ti.2:Nat) then
   Dl[(0+aQ.toNat)]? >>= fun iH =>
   DF b4 aQ gW az jQ jq ((ti.2:Nat):Int) aL aM bz ao al aK jE jB iH.c0 iH.cN 0 bc >>= fun eM =>
   some (.inl (R (jq+(1:Int)),eM))
   else none
  else none
 else
  some (.inr bc)
def DG (b4 aQ:Int)(gW:bF)(jQ:Int)(aL:Bool)(aM:List Int)(bz:Int)(ao:List bF)(al:List Int)(aK:List Bool)(jE:Bool)(jB:List Int)(jq:Int)(bc:List (List bx)):Option ((List (List bx))):=iter (fun w:Int×(List (List bx))=>w1 b4 aQ gW jQ aL aM bz ao al aK jE jB w.1 w.2) (jq,bc)
theorem U8 {b4 aQ:Int}{gW:bF}{jQ:Int}{aL:Bool}{aM:List Int}{bz:Int}{ao:List bF}{al:List Int}{aK:List Bool}{jE:Bool}{jB:List Int}{jq:Int}{bc:List (List bx)}:bD (w1 b4 aQ gW jQ aL aM bz ao al aK jE jB jq bc) (dO a4 128 5 114 [1,1,0,1,0,0] (GS b4 aQ gW jQ aL aM bz ao al aK jE jB (jq,bc)) (GS b4 aQ gW jQ aL aM bz ao al aK jE jB) (G0 b4 aQ gW jQ aL aM bz ao al aK jE jB)):=by
 unfold w1
 exact .ite (fun h1 =>
  .aY fun o =>
  .ar fun az av =>
  (let t1:List b0:=[(J 1),.aa true,.aw (bq 2 (.b5 ((br 2 0 2) az)) 2),(J 3)];
  have aV:=((.c4 h1 o.1 o.2 (b1 (br 2 0 2) av)):cA _);
  .ite (fun aA =>
  .ret (let q1:=b2 [0,1,2,3,4,5];bg (t1.append [.aa true,(J 2),.aN [0,1,2,3,4,5] [.box [.id,.id,.id,.id,.id,.id],.bM (au 1 (br 2 0 2) ao),.bM (cf 2 a1 bc),.pure,.pure,.box [.id,.id]] (a8 [0,1,2,6,7,30,31,32])]) (aV.aI (.dh aA (eH q1 2 2 0 2 rfl ao) (dY q1 2 fm bc) (aJ 1 .live aO al) (aJ 1 .live e9 aK)))))
  (fun aA =>
  .ar fun ti bf =>
  .ar fun Dl cB =>
  .aY fun cQ =>
  .ar fun iH eK =>
  .ar fun eM eL =>
  .ret (let a7:=ke (gu .live 2 a1 bc) jv cB;let bZ:=b2 [0,1,2,3,4,5,19];let cC:=b2 [0,1,2,3,4,5];bg (t1.append [.aa false,.aw (ai 2 (aj (.kw 40 (.bh 2 (ti.1+0) 0 ti.2) (.gv (ae.mk 2 (Dl.map a1) .live) [])) (aj (.gv (ae.mk 2 (Dl.map a1) .live) (a1 iH)) (ai 2 [])))),.aw (bq 1 (.kw 44 (.bh 2 (ti.1+0) 0 ti.2) (.gv (ae.mk 2 (Dl.map a1) .live) [])) 1),.aN [0,1,2,3,4,5,19] [.box [.id,.id,.id,.id,.id,.id],.bM (au 1 (br 2 0 2) ao),.bM (cf 2 a1 bc),.pure,.pure,.box [.id,.id],.box [.id,.id]] (a8 [0,1,2,6,7,9,10,30,31,32,45,46]),(GZ b4 aQ gW az jQ jq ((ti.2:Nat):Int) aL aM bz ao al aK jE jB iH.c0 iH.cN eM).e8,(J 2),.aN [0,1,2,3,4,5] [.box [.id,.id,.id,.id,.id,.id],.bM (au 1 (br 2 0 2) ao),.bM (cf 2 a1 eM),.pure,.pure,.box [.id,.id]] (a8 [0,1,2,6,7,30,31,32])]) (aV.aI (.bi aA (mi (ea:=2) (c:=0) (sz:=2) bf) a7 cQ.1 cQ.2 a7 (b1 a1 eK) (mi (ea:=2) (c:=0) (sz:=2) bf) (.bi a7 (eH bZ 2 2 0 2 rfl ao) (dY bZ 2 fm bc) (aJ 1 .live aO al) (aJ 1 .live e9 aK) (VM eL) (eH cC 2 2 0 2 rfl ao) (dY cC 2 fm eM) (.aD (aJ 1 .live aO al) (aJ 1 .live e9 aK)))))))))
  (fun h1 =>
  .ret (let dr:=b2 [0,1,2,3,4,5];bg [(J 1),.aa false,.aN [0,1,2,3,4,5] [.box [.id,.id,.id,.id,.id,.id],.bM (au 1 (br 2 0 2) ao),.bM (cf 2 a1 bc),.pure,.pure,.box [.id,.id]] (a8 [0,1,2,7])] (.dh h1 (eH dr 2 2 0 2 rfl ao) (dY dr 2 fm bc) (aJ 1 .live aO al) (aJ 1 .live e9 aK))))
theorem VN {b4 aQ:Int}{gW:bF}{jQ:Int}{aL:Bool}{aM:List Int}{bz:Int}{ao:List bF}{al:List Int}{aK:List Bool}{jE:Bool}{jB:List Int}{jq:Int}{bc:List (List bx)}{r} (h:DG b4 aQ gW jQ aL aM bz ao al aK jE jB jq bc=some r):dP a4 128 5 114 [1,1,0,1,0,0] (GS b4 aQ gW jQ aL aM bz ao al aK jE jB) (G0 b4 aQ gW jQ aL aM bz ao al aK jE jB) (jq,bc) r:=dQ (fun _=>U8) h
def GU (j4:bF)(jM jN oQ:Int)(aL:Bool)(aM:List Int)(bz:Int)(ao:List bF)(al:List Int)(aK:List Bool):(Int×(List (List bx)))→S:=fun (nw,bc)=>dv [(14,lT 2 0 2 j4),(107,.bh 1 0 0 ao.length),(108,.n .i64 jM),(109,.n .i64 jN),(114,.n .i64 oQ),(115,.n .i64 nw)] [[ae.mk 6 [(fX 1 0 0 ao.length aL aM 3 0 0 al.length bz 4 0 0 aK.length)] .live],(au 1 (br 2 0 2) ao),(cf 2 a1 bc),(au 1 eI al),(au 1 eu aK)]
def G1 (j4:bF)(jM jN oQ:Int)(aL:Bool)(aM:List Int)(bz:Int)(ao:List bF)(al:List Int)(aK:List Bool):(List (List bx))→dy
 | a=>⟨some 6,[(107,.bh 1 0 0 ao.length),(108,.n .i64 jM),(109,.n .i64 jN)],[[ae.mk 6 [(fX 1 0 0 ao.length aL aM 3 0 0 al.length bz 4 0 0 aK.length)] .live],(au 1 (br 2 0 2) ao),(cf 2 a1 a),(au 1 eI al),(au 1 eu aK)]⟩
def w2 (j4:bF)(jM jN oQ:Int)(aL:Bool)(aM:List Int)(bz:Int)(ao:List bF)(al:List Int)(aK:List Bool)(nw:Int)(bc:List (List bx)):Option ((Int×(List (List bx)))⊕((List (List bx)))) :=
 if (decide (nw<oQ))=true then
  j4 >>= fun hg =>
  bc[hg.1]? >>= fun kc =>
  if 0≤nw∧nw<(hg.2:Nat) then
  kc[(0+nw.toNat)]? >>= fun c9 =>
  se c9 >>= fun cb =>
  some (.inl (R (nw+(1:Int)),bc.set hg.1 (kc.set (0+nw.toNat) cb)))
  else none
 else
  some (.inr bc)
def DH (j4:bF)(jM jN oQ:Int)(aL:Bool)(aM:List Int)(bz:Int)(ao:List bF)(al:List Int)(aK:List Bool)(nw:Int)(bc:List (List bx)):Option ((List (List bx))):=iter (fun w:Int×(List (List bx))=>w2 j4 jM jN oQ aL aM bz ao al aK w.1 w.2) (nw,bc)
theorem U9 {j4:bF}{jM jN oQ:Int}{aL:Bool}{aM:List Int}{bz:Int}{ao:List bF}{al:List Int}{aK:List Bool}{nw:Int}{bc:List (List bx)}:bD (w2 j4 jM jN oQ aL aM bz ao al aK nw bc) (dO a4 128 5 114 [1,1,1,1,1,1,1,1,0,0,1,1,0,0,1,1,0,0] (GU j4 jM jN oQ aL aM bz ao al aK (nw,bc)) (GU j4 jM jN oQ aL aM bz ao al aK) (G1 j4 jM jN oQ aL aM bz ao al aK)):=by
 unfold w2
 exact .ite (fun h1 =>
  .ar fun hg af =>
  .ar fun kc aA =>
  .aY fun aX =>
  .ar fun c9 bl =>
  .ar fun cb cQ =>
  .ret (let q1:=ke (gu .live 2 a1 bc) jv aA;bg [(J 1),.aa true,(J 2),.aw (ai 4 (aj (.kw 120 (.bh 2 (hg.1+0) 0 hg.2) (.gv (ae.mk 2 (kc.map a1) .live) [])) (aj (.gv (ae.mk 2 (kc.map a1) .live) (a1 c9)) (aj (bu 1 (.agg (a1 cb)) false) (aj (.kw 118 (.bh 2 (hg.1+0) 0 hg.2) (.gv (ae.mk 2 (kc.map a1) .live) [])) (aj (.gv (ae.mk 2 (kc.map a1) .live) (a1 c9)) [])))))),(J 2),.aN [0,1,2,3,4] [.box [.id,.id,.id,.id,.id,.id],.bM (au 1 (br 2 0 2) ao),.bM (cf 2 a1 (bc.set hg.1 (kc.set (0+nw.toNat) cb))),.pure,.pure] (a8 [14,107,108,109,114,115])] (.bi h1 (mi (ea:=2) (c:=0) (sz:=2) af) q1 aX.1 aX.2 q1 (b1 a1 bl) (HF cb cQ) (.bi (mi (ea:=2) (c:=0) (sz:=2) af) q1 aX.1 aX.2 q1 (b1 a1 bl) (eH (b2 [0,1,2,3,4]) 2 2 0 2 rfl ao) (nv (cd:=(b2 [0,1,2,3,4])) (ps (gu .live 2 a1 bc) hg.1 (nr (cZ a1 kc) (0+nw.toNat) cb (rfl:(setCells (a1 c9) 0 (a1 cb))=a1 cb))) (mE fm)) (.aD (aJ 1 .live aO al) (aJ 1 .live e9 aK))))))
  (fun h1 =>
  .ret (bg [(J 1),.aa false,.aN [0,1,2,3,4] [.box [.id,.id,.id,.id,.id,.id],.bM (au 1 (br 2 0 2) ao),.bM (cf 2 a1 bc),.pure,.pure] (a8 [107,108,109])] (.dh h1 (eH (b2 [0,1,2,3,4]) 2 2 0 2 rfl ao) (dY (b2 [0,1,2,3,4]) 2 fm bc) (aJ 1 .live aO al) (aJ 1 .live e9 aK))))
theorem VO {j4:bF}{jM jN oQ:Int}{aL:Bool}{aM:List Int}{bz:Int}{ao:List bF}{al:List Int}{aK:List Bool}{nw:Int}{bc:List (List bx)}{r} (h:DH j4 jM jN oQ aL aM bz ao al aK nw bc=some r):dP a4 128 5 114 [1,1,1,1,1,1,1,1,0,0,1,1,0,0,1,1,0,0] (GU j4 jM jN oQ aL aM bz ao al aK) (G1 j4 jM jN oQ aL aM bz ao al aK) (nw,bc) r:=dQ (fun _=>U9) h
def GV (jM:Int)(aL:Bool)(aM:List Int)(bz:Int)(ao:List bF)(al:List Int)(aK:List Bool):(Int×(List (List bx)))→S:=fun (jN,bc)=>dv [(107,.bh 1 0 0 ao.length),(108,.n .i64 jM),(109,.n .i64 jN)] [[ae.mk 6 [(fX 1 0 0 ao.length aL aM 3 0 0 al.length bz 4 0 0 aK.length)] .live],(au 1 (br 2 0 2) ao),(cf 2 a1 bc),(au 1 eI al),(au 1 eu aK)]
def G2 (jM:Int)(aL:Bool)(aM:List Int)(bz:Int)(ao:List bF)(al:List Int)(aK:List Bool):(List (List bx))→dy
 | a=>⟨some 4,[],[[ae.mk 6 [(fX 1 0 0 ao.length aL aM 3 0 0 al.length bz 4 0 0 aK.length)] .live],(au 1 (br 2 0 2) ao),(cf 2 a1 a),(au 1 eI al),(au 1 eu aK)]⟩
def w3 (jM:Int)(aL:Bool)(aM:List Int)(bz:Int)(ao:List bF)(al:List Int)(aK:List Bool)(jN:Int)(bc:List (List bx)):Option ((Int×(List (List bx)))⊕((List (List bx)))) :=
 if (decide (jN<jM))=true then
  if 0≤jN∧jN<(ao.length:Nat) then
  ao[(0+jN.toNat)]? >>= fun az =>
  az >>= fun lV =>
  bc[lV.1]? >>= fun iT =>
  DH az jM jN ((lV.2:Nat):Int) aL aM bz ao al aK 0 bc >>= fun cb =>
  some (.inl (R (jN+(1:Int)),cb))
  else none
 else
  some (.inr bc)
def zZ (jM:Int)(aL:Bool)(aM:List Int)(bz:Int)(ao:List bF)(al:List Int)(aK:List Bool)(jN:Int)(bc:List (List bx)):Option ((List (List bx))):=iter (fun w:Int×(List (List bx))=>w3 jM aL aM bz ao al aK w.1 w.2) (jN,bc)
theorem Va {jM:Int}{aL:Bool}{aM:List Int}{bz:Int}{ao:List bF}{al:List Int}{aK:List Bool}{jN:Int}{bc:List (List bx)}:bD (w3 jM aL aM bz ao al aK jN bc) (dO a4 128 5 114 [1,1,1,1,1,1,1,1,0,0] (GV jM aL aM bz ao al aK (jN,bc)) (GV jM aL aM bz ao al aK) (G2 jM aL aM bz ao al aK)):=by
 unfold w3
 exact .ite (fun h1 =>
  .aY fun o =>
  .ar fun az av =>
  .ar fun lV aX =>
  .ar fun iT bl =>
  .ar fun cb cQ =>
  .ret (let q1:=b2 [0,1,2,3,4];let a7:=eH q1 2 2 0 2 rfl ao;bg [(J 1),.aa true,.aw (bq 1 (.b5 ((br 2 0 2) az)) 1),.aw (bq 1 (.kw 113 (.bh 2 (lV.1+0) 0 lV.2) (.gv (ae.mk 2 (iT.map a1) .live) [])) 1),.aN [0,1,2,3,4] [.box [.id,.id,.id,.id,.id,.id],.bM (au 1 (br 2 0 2) ao),.bM (cf 2 a1 bc),.pure,.pure] (a8 [14,107,108,109,114,115]),(G1 az jM jN ((lV.2:Nat):Int) aL aM bz ao al aK cb).e8,(J 2),.aN [0,1,2,3,4] [.box [.id,.id,.id,.id,.id,.id],.bM (au 1 (br 2 0 2) ao),.bM (cf 2 a1 cb),.pure,.pure] (a8 [107,108,109])] (.bi h1 o.1 o.2 (b1 (br 2 0 2) av) (mi (ea:=2) (c:=0) (sz:=2) aX) (ke (gu .live 2 a1 bc) jv bl) a7 (dY q1 2 fm bc) (.eP (aJ 1 .live aO al) (aJ 1 .live e9 aK) (VO cQ) a7 (dY q1 2 fm cb) (aJ 1 .live aO al) (aJ 1 .live e9 aK)))))
  (fun h1 =>
  .ret (bg [(J 1),.aa false,.aN [0,1,2,3,4] [.box [.id,.id,.id,.id,.id,.id],.bM (au 1 (br 2 0 2) ao),.bM (cf 2 a1 bc),.pure,.pure] []] (.dh h1 (eH (b2 [0,1,2,3,4]) 2 2 0 2 rfl ao) (dY (b2 [0,1,2,3,4]) 2 fm bc) (aJ 1 .live aO al) (aJ 1 .live e9 aK))))
theorem VP {jM:Int}{aL:Bool}{aM:List Int}{bz:Int}{ao:List bF}{al:List Int}{aK:List Bool}{jN:Int}{bc:List (List bx)}{r} (h:zZ jM aL aM bz ao al aK jN bc=some r):dP a4 128 5 114 [1,1,1,1,1,1,1,1,0,0] (GV jM aL aM bz ao al aK) (G2 jM aL aM bz ao al aK) (jN,bc) r:=dQ (fun _=>Va) h
def xJ (b4 aQ:Int)(o9:Bool)(o3:List Int)(jO:Int)(eX:List bF)(ma:List (List bx))(iw:List Int)(hJ:List Bool):Option (Bool×(List Int)×(List (List bx))×(List Int)) :=
 if 0≤b4∧b4<(eX.length:Nat) then
 eX[(0+b4.toNat)]? >>= fun ef =>
 ef >>= fun jU =>
 ma[jU.1]? >>= fun nk =>
 if 0≤aQ∧aQ<(jU.2:Nat) then
 nk[(0+aQ.toNat)]? >>= fun dj =>
 DG b4 aQ ef ((eX.length:Nat):Int) o9 o3 jO eX iw hJ dj.c0 dj.cN 0 ma >>= fun dp =>
 if 0≤b4∧b4<(iw.length:Nat) then
 if (0+b4.toNat)<iw.length then
 pn dj >>= fun gN =>
 if (decide ((0:Int)<gN))=true then
  some (dj.c0,dj.cN,dp,iw.set (0+b4.toNat) aQ)
 else
  se dj >>= fun fl =>
  zZ ((eX.length:Nat):Int) fl.c0 fl.cN jO eX (iw.set (0+b4.toNat) aQ) hJ 0 dp >>= fun iv =>
  some (fl.c0,fl.cN,iv,iw.set (0+b4.toNat) aQ)
 else none
 else none
 else none
 else none
theorem Ok {b4 aQ:Int}{o9:Bool}{o3:List Int}{jO:Int}{eX:List bF}{ma:List (List bx)}{iw:List Int}{hJ:List Bool}:bD (xJ b4 aQ o9 o3 jO eX ma iw hJ) (fun a=>Con a4 114 [.ref 0 0 0 0,.n .i64 b4,.n .i64 aQ] [[ae.mk 6 [(fX 1 0 0 eX.length o9 o3 3 0 0 iw.length jO 4 0 0 hJ.length)] .live],(au 1 (br 2 0 2) eX),(cf 2 a1 ma),(au 1 eI iw),(au 1 eu hJ)] (.ee []) [[ae.mk 6 [(fX 1 0 0 eX.length a.1 a.2.1 3 0 0 a.2.2.2.length jO 4 0 0 hJ.length)] .live],(au 1 (br 2 0 2) eX),(cf 2 a1 a.2.2.1),(au 1 eI a.2.2.2),(au 1 eu hJ)]):=by
 unfold xJ
 exact .aY fun h1 =>
  .ar fun ef af =>
  .ar fun jU aA =>
  .ar fun nk bf =>
  .aY fun bl =>
  .ar fun dj cQ =>
  .ar fun dp eK =>
  .aY fun eU =>
  .aY fun eL =>
  .ar fun gN hd =>
  (let dr:=ke (gu .live 2 a1 ma) jv bf;let f8:=b2 [0,1,2,3,4,17];let t1:List b0:=[.aw (bq 6 (.b5 ((br 2 0 2) ef)) 1),.aw (ai 2 (aj (.kw 23 (.bh 2 (jU.1+0) 0 jU.2) (.gv (ae.mk 2 (nk.map a1) .live) [])) (aj (.gv (ae.mk 2 (nk.map a1) .live) (a1 dj)) (ai 2 [])))),(J 6),.aN [0,1,2,3,4,17] [.box [.id,.id,.id,.id,.id,.id],.bM (au 1 (br 2 0 2) eX),.bM (cf 2 a1 ma),.pure,.pure,.box [.id,.id]] (a8 [0,1,2,6,7,30,31,32]),(G0 b4 aQ ef ((eX.length:Nat):Int) o9 o3 jO eX iw hJ dj.c0 dj.cN dp).e8,(J 5),.aw (ai 7 (aj .fZ [])),.aw (bq 1 (bu 1 (.n .i64 gN) true) 1)];
  have aV:=((.bi h1.1 h1.2 (b1 (br 2 0 2) af) (mi (ea:=2) (c:=0) (sz:=2) aA) dr bl.1 bl.2 dr (.bi (b1 a1 cQ) (eH f8 2 2 0 2 rfl eX) (dY f8 2 fm ma) (aJ 1 .live aO iw) (aJ 1 .live e9 hJ) (VN eK) eU.1 eU.2 (.c4 (hT eI eL) (hM 1) (tn gN hd) (bR.n .i64 gN)))):cA _);
  .ite (fun hQ =>
  .ret (kq (t1.append [.aa true]) [0,1,2,3,4] [.bM [ae.mk 6 [(fX 1 0 0 eX.length dj.c0 dj.cN 3 0 0 ((iw.set (0+b4.toNat) aQ).length) jO 4 0 0 hJ.length)] .live],.bM (au 1 (br 2 0 2) eX),.bM (cf 2 a1 dp),.cG (au 1 eI (iw.set (0+b4.toNat) aQ)),.pure] (aV.aI (.eP hQ (db (show ae.mk 6 [(fX 1 0 0 eX.length dj.c0 dj.cN 3 0 0 ((iw.set (0+b4.toNat) aQ).length) jO 4 0 0 hJ.length)] .live=gT (b2 [0,1,2,3,4]) (ae.mk 6 [(fX 1 0 0 eX.length dj.c0 dj.cN 3 0 0 iw.length jO 4 0 0 hJ.length)] .live) from (congrArg (fun Dk=>ae.mk 6 [(fX 1 0 0 eX.length dj.c0 dj.cN 3 0 0 Dk jO 4 0 0 hJ.length)] .live) (hi (dX iw) (0+b4.toNat) aQ).symm)) nQ) (eH (b2 [0,1,2,3,4]) 2 2 0 2 rfl eX) (dY (b2 [0,1,2,3,4]) 2 fm dp) (c2 1 .live (gP (cZ eI iw) (0+b4.toNat) aQ)) (aJ 1 .live aO (iw.set (0+b4.toNat) aQ)) (aJ 1 .live e9 hJ)))))
  (fun hQ =>
  .ar fun fl gy =>
  .ar fun iv gM =>
  .ret (let q1:=fX 1 0 0 eX.length fl.c0 fl.cN 3 0 0 ((iw.set (0+b4.toNat) aQ).length) jO 4 0 0 hJ.length;let a7:=b2 [0,1,2,3,4];let bZ:=aJ 1 .live aO (iw.set (0+b4.toNat) aQ);let cC:=eH a7 2 2 0 2 rfl eX;kq (t1.append [.aa false,.aw (bq 2 (bu 1 (.agg (a1 fl)) false) 3),(J 6),.aN [0,1,2,3,4] [.box [.id,.id,.id,.len ((iw.set (0+b4.toNat) aQ).length),.id,.id],.bM (au 1 (br 2 0 2) eX),.bM (cf 2 a1 dp),.cG (au 1 eI (iw.set (0+b4.toNat) aQ)),.pure] (a8 [107,108,109]),(G2 ((eX.length:Nat):Int) fl.c0 fl.cN jO eX (iw.set (0+b4.toNat) aQ) hJ iv).e8]) [0,1,2,3,4] [.bM [ae.mk 6 [q1] .live],.bM (au 1 (br 2 0 2) eX),.bM (cf 2 a1 iv),.pure,.pure] (aV.aI (.bi hQ (HF fl gy) (hi (dX iw) (0+b4.toNat) aQ) cC (dY a7 2 fm dp) (c2 1 .live (gP (cZ eI iw) (0+b4.toNat) aQ)) bZ (aJ 1 .live e9 hJ) (.dW (VP gM) (qP a7 6 [q1] [q1] rfl) cC (dY a7 2 fm iv) bZ (aJ 1 .live e9 hJ)))))))
def GF (cm:Int)(aL:Bool)(aM:List Int)(ao:List bF)(bc:List (List bx))(al:List Int)(aK:List Bool)(bL:List Int):Int→S:=fun bS=>dv [(0,.ref 0 0 0 0),(1,.bh 5 0 0 bL.length),(5,.b false),(13,.n .i64 cm),(14,.n .i64 bS)] [[ae.mk 6 [(fX 1 0 0 ao.length aL aM 3 0 0 al.length cm 4 0 0 aK.length)] .live],(au 1 (br 2 0 2) ao),(cf 2 a1 bc),(au 1 eI al),(au 1 eu aK),(au 1 eI bL)]
def Dw (cm:Int)(aL:Bool)(aM:List Int)(ao:List bF)(bc:List (List bx))(al:List Int)(aK:List Bool)(bL:List Int):((Bool×Bool×(List Int)×(List (List bx))×(List Int))⊕(Unit))→dy
 | .inl a=>⟨some 2,[(0,.ref 0 0 0 0),(1,.bh 5 0 0 bL.length),(5,.b a.1)],[[ae.mk 6 [(fX 1 0 0 ao.length a.2.1 a.2.2.1 3 0 0 a.2.2.2.2.length cm 4 0 0 aK.length)] .live],(au 1 (br 2 0 2) ao),(cf 2 a1 a.2.2.2.1),(au 1 eI a.2.2.2.2),(au 1 eu aK),(au 1 eI bL)]⟩
 | .inr a=>⟨none,[(4,.b false)],[[ae.mk 6 [(fX 1 0 0 ao.length aL aM 3 0 0 al.length cm 4 0 0 aK.length)] .live],(au 1 (br 2 0 2) ao),(cf 2 a1 bc),(au 1 eI al),(au 1 eu aK),(au 1 eI bL)]⟩
def wW (cm:Int)(aL:Bool)(aM:List Int)(ao:List bF)(bc:List (List bx))(al:List Int)(aK:List Bool)(bL:List Int)(bS:Int):Option ((Int)⊕((Bool×Bool×(List Int)×(List (List bx))×(List Int))⊕(Unit))) :=
 if (decide (bS<cm))=true then
  if 0≤bS∧bS<(aK.length:Nat) then
  aK[(0+bS.toNat)]? >>= fun az =>
  if az=true then
   sr al bS >>= fun cn =>
   if cn=true then
    some (.inl (R (bS+(1:Int))))
   else
    if ao.all (rq bc)=true then
    yb (⟨ao.map (iP bc),(⟨aL,aM⟩:bx),al,cm,aK⟩:qW) bL bS >>= fun et =>
    if (decide (et≤(0:Int)))=true then
     some (.inl (R (bS+(1:Int))))
    else
     z5 (⟨ao.map (iP bc),(⟨aL,aM⟩:bx),al,cm,aK⟩:qW) bS >>= fun eM =>
     if (decide (eM<(0:Int)))=true then
      some (.inr (.inr ()))
     else
      xJ eM bS aL aM cm ao bc al aK >>= fun el =>
      some (.inr (.inl (true,el.1,el.2.1,el.2.2.1,el.2.2.2)))
    else none
  else
   some (.inl (R (bS+(1:Int))))
  else none
 else
  some (.inr (.inl (false,aL,aM,bc,al)))
def w7 (cm:Int)(aL:Bool)(aM:List Int)(ao:List bF)(bc:List (List bx))(al:List Int)(aK:List Bool)(bL:List Int)(bS:Int):Option ((Bool×Bool×(List Int)×(List (List bx))×(List Int))⊕(Unit)):=iter (fun w:Int=>wW cm aL aM ao bc al aK bL w) bS
theorem UR {cm:Int}{aL:Bool}{aM:List Int}{ao:List bF}{bc:List (List bx)}{al:List Int}{aK:List Bool}{bL:List Int}{bS:Int}:bD (wW cm aL aM ao bc al aK bL bS) (dO a4 87 6 87 [1,0,1,0,0,1,0,1,1,0,0] (GF cm aL aM ao bc al aK bL bS) (GF cm aL aM ao bc al aK bL) (Dw cm aL aM ao bc al aK bL)):=by
 unfold wW
 exact .ite (fun h1 =>
  .aY fun o =>
  .ar fun az av =>
  (let t1:List b0:=[(J 1),.aa true,(J 2)];
  .ite (fun aA =>
  .ar fun cn bf =>
  (have aV:=((.bi h1 o.1 o.2 (b1 eu av) (cO aA) (cO aA) (cO aA) (cO aA) (.gz (cO aA) (cO aA) (fw eI al) (ff eI al) (dk aO al) (KT cn bf) (bR.b cn) (cO aA))):cA _);
  .ite (fun bl =>
  .ret (let q1:=b2 [0,1,2,3,4,5];bg (t1.append [.aw (ai 6 (aj (.b5 (eu az)) (ai 7 (aj (.call {ac:=[.bp (.cJ (.dL (al.map eI))),ii],r:= .b cn,ej:=true,eC:=[3]}) (aj (.aa false) (ai 1 (cx 5 (aj (.aa true) [])))))))),.aa true,(J 2),.aN [0,1,2,3,4,5] [.box [.id,.id,.id,.id,.id,.id],.bM (au 1 (br 2 0 2) ao),.bM (cf 2 a1 bc),.pure,.pure,.pure] (a8 [0,1,5,13,14])]) (aV.aI (.bi bl bl bl bl bl bl cT (eH q1 2 2 0 2 rfl ao) (.c4 (dY q1 2 fm bc) (aJ 1 .live aO al) (aJ 1 .live e9 aK) (aJ 1 .live aO bL))))))
  (fun bl =>
  .aY fun cB =>
  .ar fun et fe =>
  (let t3:List b0:=t1.append [.aw (ai 6 (aj (.b5 (eu az)) (ai 7 (aj (.call {ac:=[.bp (.cJ (.dL (al.map eI))),ii],r:= .b cn,ej:=true,eC:=[3]}) (aj (.aa false) (ai 4 (aj (.call {ac:=[.bp (.ptr [.view 2 (ae.mk 1 (ao.map (br 2 0 2)) .live) ((ao.map (iP bc)).map (eD 2 a1)),.id,.id,.dL (al.map eI),.id,.dL (aK.map eu)]),.bp (.cJ (.dL (bL.map eI))),ii],r:= .n .i64 et,ej:=true,eC:=[0,1,2,3,4,5]}) (ai 1 (aj (.aa false) [])))))))))];
  have eA:=aV.aI (.bi bl bl bl bl (rfl:dx (some (au 1 (br 2 0 2) ao)) 0=some (ae.mk 1 (ao.map (br 2 0 2)) .live)) (rfl:_=true) (ff (br 2 0 2) ao) (dk (nt (sz:=2) sm) (ao.map (iP bc))) (.bi (vw (ea:=2) (jF:=[]++(cf 2 a1 bc)) (b8:=kO) (sz:=1) (g:=(eD 2 a1)) (cZ (br 2 0 2) ao) (fun _=>rfl) (fun x U=>(zy (ea:=2) (c:=0) (b8:=kO) (ra:=[]) (gu .live 2 a1 bc) sm rfl jv rfl (y0 cB x U))) (dX ao)) (fw eI al) (ff eI al) (dk aO al) (fw eu aK) (ff eu aK) (dk e9 aK) (oj (Kl (⟨ao.map (iP bc),(⟨aL,aM⟩:bx),al,cm,aK⟩:qW)):iY [[.isl 1 ((ao.map (iP bc)).map (eD 2 a1)),.b aL,.isl 1 (aM.map eI),.isl 1 (al.map eI),.n .i64 cm,.isl 1 (aK.map eu)]]) (.eP (fw eI bL) (ff eI bL) (dk aO bL) (OC et fe) (bR.n .i64 et) bl bl)));
  .ite (fun eK =>
  .ret (let a7:=b2 [0,1,2,3,4,5];bg (t3.append [.aa true,(J 2),.aN [0,1,2,3,4,5] [.box [.id,.id,.id,.id,.id,.id],.bM (au 1 (br 2 0 2) ao),.bM (cf 2 a1 bc),.pure,.pure,.pure] (a8 [0,1,5,13,14])]) (eA.aI (.dW eK (eH a7 2 2 0 2 rfl ao) (dY a7 2 fm bc) (aJ 1 .live aO al) (aJ 1 .live e9 aK) (aJ 1 .live aO bL)))))
  (fun eK =>
  .ar fun eM eL =>
  (let t5:List b0:=t3.append [.aa false,.aw (bq 2 (.call {ac:=[.bp (.ptr [.view 2 (ae.mk 1 (ao.map (br 2 0 2)) .live) ((ao.map (iP bc)).map (eD 2 a1)),.id,.id,.dL (al.map eI),.id,.dL (aK.map eu)]),ii],r:= .n .i64 eM,ej:=true,eC:=[0,1,2,3,4]}) 1),(J 2)];
  have kj:=eA.aI (.bi eK (rfl:dx (some (au 1 (br 2 0 2) ao)) 0=some (ae.mk 1 (ao.map (br 2 0 2)) .live)) (rfl:_=true) (ff (br 2 0 2) ao) (dk (nt (sz:=2) sm) (ao.map (iP bc))) (vw (ea:=2) (jF:=[]++(cf 2 a1 bc)) (b8:=kO) (sz:=1) (g:=(eD 2 a1)) (cZ (br 2 0 2) ao) (fun _=>rfl) (fun x U=>(zy (ea:=2) (c:=0) (b8:=kO) (ra:=[]) (gu .live 2 a1 bc) sm rfl jv rfl (y0 cB x U))) (dX ao)) (fw eI al) (ff eI al) (.eP (dk aO al) (fw eu aK) (ff eu aK) (dk e9 aK) (oj (Kl (⟨ao.map (iP bc),(⟨aL,aM⟩:bx),al,cm,aK⟩:qW)):iY [[.isl 1 ((ao.map (iP bc)).map (eD 2 a1)),.b aL,.isl 1 (aM.map eI),.isl 1 (al.map eI),.n .i64 cm,.isl 1 (aK.map eu)]]) (Wr eM eL) (bR.n .i64 eM)));
  .ite (fun fM =>
  .ret (let bZ:=b2 [0,1,2,3,4,5];bg (t5.append [.aa true,(J 1),.aN [0,1,2,3,4,5] [.box [.id,.id,.id,.id,.id,.id],.bM (au 1 (br 2 0 2) ao),.bM (cf 2 a1 bc),.pure,.pure,.pure] (a8 [4])]) (kj.aI (.dW fM (eH bZ 2 2 0 2 rfl ao) (dY bZ 2 fm bc) (aJ 1 .live aO al) (aJ 1 .live e9 aK) (aJ 1 .live aO bL)))))
  (fun fM =>
  .ar fun el hQ =>
  .ret (let cC:=fX 1 0 0 ao.length el.1 el.2.1 3 0 0 el.2.2.2.length cm 4 0 0 aK.length;let dr:=fX 1 0 0 ao.length aL aM 3 0 0 al.length cm 4 0 0 aK.length;let f8:=au 1 (br 2 0 2) ao;let h7:=cf 2 a1 el.2.2.1;let fx:=pF [0,1,2,3,4];let jw:=ij [0,1,2,3,4];let lQ:=pG 1 (ao.map (br 2 0 2));let jf:=b2 [0,1,2,3,4,5];bg (t5.append [.aa false,.aw (ai 3 (aj (.call {a2:=(vX [0,1,2,3,4]),dc:=[.bM [ae.mk 6 [dr] .live],.bM f8,.bM (cf 2 a1 bc),.pure,.pure],ac:=[ii,ii,ii],r:= .ee [],eV:=[[ae.mk 6 [cC] .live],f8,h7,(au 1 eI el.2.2.2),(au 1 eu aK)],gr:=ii,hC:=[.bM [ae.mk 6 [cC] .live],.bM f8,.bM h7,.pure,.pure],eC:=[0,1,2,3,4],ej:=false}) [])),(J 1),.aN [0,1,2,3,4,5] [.box [.id,.id,.id,.id,.id,.id],.bM f8,.bM h7,.pure,.pure,.pure] (a8 [0,1,5])]) (kj.aI (.bi fM (qP fx 6 [dr] [dr] rfl) (pG 6 [dr]) (eH fx 2 2 0 2 rfl ao) lQ (dY fx 2 fm bc) (um 2 a1 bc) (f9 1 aO al) (.bi (f9 1 e9 aK) (qP jw 6 [cC] [cC] rfl) (pG 6 [cC]) (eH jw 2 2 0 2 rfl ao) lQ (dY jw 2 fm el.2.2.1) (um 2 a1 el.2.2.1) (f9 1 aO el.2.2.2) (.eP (f9 1 e9 aK) (Ok el hQ) (eH jf 2 2 0 2 rfl ao) (dY jf 2 fm el.2.2.1) (aJ 1 .live aO el.2.2.2) (aJ 1 .live e9 aK) (aJ 1 .live aO bL)))))))))))))
  (fun aA =>
  .ret (let p3:=b2 [0,1,2,3,4,5];bg (t1.append [.aw (ai 6 (aj (.b5 (eu az)) (ai 2 (cx 6 (aj (.aa true) (ai 1 (cx 5 (ai 1 [])))))))),.aa true,(J 2),.aN [0,1,2,3,4,5] [.box [.id,.id,.id,.id,.id,.id],.bM (au 1 (br 2 0 2) ao),.bM (cf 2 a1 bc),.pure,.pure,.pure] (a8 [0,1,5,13,14])]) (.bi h1 o.1 o.2 (b1 eu av) (cM aA) (cM aA) (cM aA) (cM aA) (.bi (cM aA) (cM aA) (cM aA) cT cT cT cT cT (.dW cT (eH p3 2 2 0 2 rfl ao) (dY p3 2 fm bc) (aJ 1 .live aO al) (aJ 1 .live e9 aK) (aJ 1 .live aO bL))))))))
  (fun h1 =>
  .ret (let mJ:=b2 [0,1,2,3,4,5];bg [(J 1),.aa false,.aN [0,1,2,3,4,5] [.box [.id,.id,.id,.id,.id,.id],.bM (au 1 (br 2 0 2) ao),.bM (cf 2 a1 bc),.pure,.pure,.pure] (a8 [0,1,5])] (.dW h1 (eH mJ 2 2 0 2 rfl ao) (dY mJ 2 fm bc) (aJ 1 .live aO al) (aJ 1 .live e9 aK) (aJ 1 .live aO bL))))
theorem Oa {cm:Int}{aL:Bool}{aM:List Int}{ao:List bF}{bc:List (List bx)}{al:List Int}{aK:List Bool}{bL:List Int}{bS:Int}{r} (h:w7 cm aL aM ao bc al aK bL bS=some r):dP a4 87 6 87 [1,0,1,0,0,1,0,1,1,0,0] (GF cm aL aM ao bc al aK bL) (Dw cm aL aM ao bc al aK bL) bS r:=dQ (fun _=>UR) h
def GG (bz:Int)(ao:List bF)(aK:List Bool)(bL:List Int):(Bool×Bool×(List Int)×(List (List bx))×(List Int))→S:=fun (qZ,aL,aM,bc,al)=>dv [(0,.ref 0 0 0 0),(1,.bh 5 0 0 bL.length),(5,.b qZ)] [[ae.mk 6 [(fX 1 0 0 ao.length aL aM 3 0 0 al.length bz 4 0 0 aK.length)] .live],(au 1 (br 2 0 2) ao),(cf 2 a1 bc),(au 1 eI al),(au 1 eu aK),(au 1 eI bL)]
def Dx (bz:Int)(ao:List bF)(aK:List Bool)(bL:List Int):((Bool×(List Int)×(List (List bx))×(List Int))⊕(Bool×(List Int)×(List (List bx))×(List Int)))→dy
 | .inl a=>⟨some 0,[(0,.ref 0 0 0 0),(1,.bh 5 0 0 bL.length)],[[ae.mk 6 [(fX 1 0 0 ao.length a.1 a.2.1 3 0 0 a.2.2.2.length bz 4 0 0 aK.length)] .live],(au 1 (br 2 0 2) ao),(cf 2 a1 a.2.2.1),(au 1 eI a.2.2.2),(au 1 eu aK),(au 1 eI bL)]⟩
 | .inr a=>⟨none,[(4,.b false)],[[ae.mk 6 [(fX 1 0 0 ao.length a.1 a.2.1 3 0 0 a.2.2.2.length bz 4 0 0 aK.length)] .live],(au 1 (br 2 0 2) ao),(cf 2 a1 a.2.2.1),(au 1 eI a.2.2.2),(au 1 eu aK),(au 1 eI bL)]⟩
def uv (bz:Int)(ao:List bF)(aK:List Bool)(bL:List Int)(qZ aL:Bool)(aM:List Int)(bc:List (List bx))(al:List Int):Option ((Bool×Bool×(List Int)×(List (List bx))×(List Int))⊕((Bool×(List Int)×(List (List bx))×(List Int))⊕(Bool×(List Int)×(List (List bx))×(List Int)))) :=
 if qZ=true then
  w7 bz aL aM ao bc al aK bL 0 >>= fun bV =>
  match bV with
  | .inl f7=>(some (.inl (f7.1,f7.2.1,f7.2.2.1,f7.2.2.2.1,f7.2.2.2.2)))
  | .inr f7=>(some (.inr (.inr (aL,aM,bc,al))))
 else
  some (.inr (.inl (aL,aM,bc,al)))
def DC (bz:Int)(ao:List bF)(aK:List Bool)(bL:List Int)(qZ aL:Bool)(aM:List Int)(bc:List (List bx))(al:List Int):Option ((Bool×(List Int)×(List (List bx))×(List Int))⊕(Bool×(List Int)×(List (List bx))×(List Int))):=iter (fun w:Bool×Bool×(List Int)×(List (List bx))×(List Int)=>uv bz ao aK bL w.1 w.2.1 w.2.2.1 w.2.2.2.1 w.2.2.2.2) (qZ,aL,aM,bc,al)
theorem US {bz:Int}{ao:List bF}{aK:List Bool}{bL:List Int}{qZ aL:Bool}{aM:List Int}{bc:List (List bx)}{al:List Int}:bD (uv bz ao aK bL qZ aL aM bc al) (dO a4 87 6 87 [1,0,1,0,0] (GG bz ao aK bL (qZ,aL,aM,bc,al)) (GG bz ao aK bL) (Dx bz ao aK bL)):=by
 unfold uv
 exact .ite (fun h1 =>
  .ar fun bV af =>
  (let cC:=b2 [0,1,2,3,4,5];let t1:List b0:=[(J 1),.aa true,(J 1),(J 5),.aN [0,1,2,3,4,5] [.box [.id,.id,.id,.id,.id,.id],.bM (au 1 (br 2 0 2) ao),.bM (cf 2 a1 bc),.pure,.pure,.pure] (a8 [0,1,5,13,14])];
  have aV:=((.dW h1 (eH cC 2 2 0 2 rfl ao) (dY cC 2 fm bc) (aJ 1 .live aO al) (aJ 1 .live e9 aK) (aJ 1 .live aO bL)):cA _);
  (by
  rcases bV with f7|f7
  ·exact (.ret (let q1:=b2 [0,1,2,3,4,5];bg (t1.append [(Dw bz aL aM ao bc al aK bL (.inl f7)).e8,.aN [0,1,2,3,4,5] [.box [.id,.id,.id,.id,.id,.id],.bM (au 1 (br 2 0 2) ao),.bM (cf 2 a1 f7.2.2.2.1),.pure,.pure,.pure] (a8 [0,1,5])]) (aV.aI (.dW (Oa af) (eH q1 2 2 0 2 rfl ao) (dY q1 2 fm f7.2.2.2.1) (aJ 1 .live aO f7.2.2.2.2) (aJ 1 .live e9 aK) (aJ 1 .live aO bL)))))
  ·exact (.ret (let a7:=b2 [0,1,2,3,4,5];bg (t1.append [(Dw bz aL aM ao bc al aK bL (.inr f7)).e8,.aN [0,1,2,3,4,5] [.box [.id,.id,.id,.id,.id,.id],.bM (au 1 (br 2 0 2) ao),.bM (cf 2 a1 bc),.pure,.pure,.pure] (a8 [4])]) (aV.aI (.dW (Oa af) (eH a7 2 2 0 2 rfl ao) (dY a7 2 fm bc) (aJ 1 .live aO al) (aJ 1 .live e9 aK) (aJ 1 .live aO bL))))))))
  (fun h1 =>
  .ret (let bZ:=b2 [0,1,2,3,4,5];bg [(J 1),.aa false,.aN [0,1,2,3,4,5] [.box [.id,.id,.id,.id,.id,.id],.bM (au 1 (br 2 0 2) ao),.bM (cf 2 a1 bc),.pure,.pure,.pure] (a8 [0,1])] (.dW h1 (eH bZ 2 2 0 2 rfl ao) (dY bZ 2 fm bc) (aJ 1 .live aO al) (aJ 1 .live e9 aK) (aJ 1 .live aO bL))))
theorem Ob {bz:Int}{ao:List bF}{aK:List Bool}{bL:List Int}{qZ aL:Bool}{aM:List Int}{bc:List (List bx)}{al:List Int}{r} (h:DC bz ao aK bL qZ aL aM bc al=some r):dP a4 87 6 87 [1,0,1,0,0] (GG bz ao aK bL) (Dx bz ao aK bL) (qZ,aL,aM,bc,al) r:=dQ (fun _=>US) h
def GH (ei:Int)(aL:Bool)(aM:List Int)(ao:List bF)(bc:List (List bx))(al bL:List Int):(Int×(List Bool))→S:=fun (ft,aK)=>dv [(0,.ref 0 0 0 0),(1,.bh 5 0 0 bL.length),(53,.n .i64 ei),(54,.n .i64 ft)] [[ae.mk 6 [(fX 1 0 0 ao.length aL aM 3 0 0 al.length ei 4 0 0 aK.length)] .live],(au 1 (br 2 0 2) ao),(cf 2 a1 bc),(au 1 eI al),(au 1 eu aK),(au 1 eI bL)]
def GN (ei:Int)(aL:Bool)(aM:List Int)(ao:List bF)(bc:List (List bx))(al bL:List Int):(List Bool)→dy
 | a=>⟨some 4,[],[[ae.mk 6 [(fX 1 0 0 ao.length aL aM 3 0 0 al.length ei 4 0 0 a.length)] .live],(au 1 (br 2 0 2) ao),(cf 2 a1 bc),(au 1 eI al),(au 1 eu a),(au 1 eI bL)]⟩
def wX (ei:Int)(aL:Bool)(aM:List Int)(ao:List bF)(bc:List (List bx))(al bL:List Int)(ft:Int)(aK:List Bool):Option ((Int×(List Bool))⊕((List Bool))) :=
 if (decide (ft<ei))=true then
  if 0≤ft∧ft<(aK.length:Nat) then
  aK[(0+ft.toNat)]? >>= fun az =>
  if az=true then
   sr al ft >>= fun cn =>
   if cn=true then
    some (.inl (R (ft+(1:Int)),aK))
   else
    if ao.all (rq bc)=true then
    yb (⟨ao.map (iP bc),(⟨aL,aM⟩:bx),al,ei,aK⟩:qW) bL ft >>= fun et =>
    if (decide (et<(0:Int)))=true then
     if (0+ft.toNat)<aK.length then
     some (.inl (R (ft+(1:Int)),aK.set (0+ft.toNat) false))
     else none
    else
     some (.inl (R (ft+(1:Int)),aK))
    else none
  else
   some (.inl (R (ft+(1:Int)),aK))
  else none
 else
  some (.inr aK)
def DD (ei:Int)(aL:Bool)(aM:List Int)(ao:List bF)(bc:List (List bx))(al bL:List Int)(ft:Int)(aK:List Bool):Option ((List Bool)):=iter (fun w:Int×(List Bool)=>wX ei aL aM ao bc al bL w.1 w.2) (ft,aK)
theorem UT {ei:Int}{aL:Bool}{aM:List Int}{ao:List bF}{bc:List (List bx)}{al bL:List Int}{ft:Int}{aK:List Bool}:bD (wX ei aL aM ao bc al bL ft aK) (dO a4 87 6 87 [1,1,0,1,0,0] (GH ei aL aM ao bc al bL (ft,aK)) (GH ei aL aM ao bc al bL) (GN ei aL aM ao bc al bL)):=by
 unfold wX
 exact .ite (fun h1 =>
  .aY fun o =>
  .ar fun az av =>
  (let t1:List b0:=[(J 1),.aa true,(J 2)];
  .ite (fun aA =>
  .ar fun cn bf =>
  (have aV:=((.bi h1 o.1 o.2 (b1 eu av) aA aA aA aA (.bi aA aA (fw eI al) (ff eI al) (dk aO al) (KT cn bf) (bR.b cn) aA (.e1 aA))):cA _);
  .ite (fun bl =>
  .ret (let q1:=b2 [0,1,2,3,4,5];bg (t1.append [.aw (ai 6 (aj (.b5 (eu az)) (ai 6 (aj (.call {ac:=[.bp (.cJ (.dL (al.map eI))),ii],r:= .b cn,ej:=true,eC:=[3]}) (ai 1 (aj (.aa true) (ai 1 (cx 5 (aj (.aa false) []))))))))),.aa false,(J 2),.aN [0,1,2,3,4,5] [.box [.id,.id,.id,.id,.id,.id],.bM (au 1 (br 2 0 2) ao),.bM (cf 2 a1 bc),.pure,.pure,.pure] (a8 [0,1,53,54])]) (aV.aI (.bi (cO bl) (cO bl) (cO bl) (cO bl) (cO bl) (cO bl) cK (eH q1 2 2 0 2 rfl ao) (.c4 (dY q1 2 fm bc) (aJ 1 .live aO al) (aJ 1 .live e9 aK) (aJ 1 .live aO bL))))))
  (fun bl =>
  .aY fun cB =>
  .ar fun et fe =>
  (let t3:List b0:=t1.append [.aw (ai 6 (aj (.b5 (eu az)) (ai 6 (aj (.call {ac:=[.bp (.cJ (.dL (al.map eI))),ii],r:= .b cn,ej:=true,eC:=[3]}) (ai 1 (aj (.aa true) (ai 4 (aj (.call {ac:=[.bp (.ptr [.view 2 (ae.mk 1 (ao.map (br 2 0 2)) .live) ((ao.map (iP bc)).map (eD 2 a1)),.id,.id,.dL (al.map eI),.id,.dL (aK.map eu)]),.bp (.cJ (.dL (bL.map eI))),ii],r:= .n .i64 et,ej:=true,eC:=[0,1,2,3,4,5]}) (ai 1 (aj (.aa true) []))))))))))];
  have eA:=aV.aI (.bi (cM bl) (cM bl) (cM bl) (cM bl) (rfl:dx (some (au 1 (br 2 0 2) ao)) 0=some (ae.mk 1 (ao.map (br 2 0 2)) .live)) (rfl:_=true) (ff (br 2 0 2) ao) (dk (nt (sz:=2) sm) (ao.map (iP bc))) (.bi (vw (ea:=2) (jF:=[]++(cf 2 a1 bc)) (b8:=kO) (sz:=1) (g:=(eD 2 a1)) (cZ (br 2 0 2) ao) (fun _=>rfl) (fun x U=>(zy (ea:=2) (c:=0) (b8:=kO) (ra:=[]) (gu .live 2 a1 bc) sm rfl jv rfl (y0 cB x U))) (dX ao)) (fw eI al) (ff eI al) (dk aO al) (fw eu aK) (ff eu aK) (dk e9 aK) (oj (Kl (⟨ao.map (iP bc),(⟨aL,aM⟩:bx),al,ei,aK⟩:qW)):iY [[.isl 1 ((ao.map (iP bc)).map (eD 2 a1)),.b aL,.isl 1 (aM.map eI),.isl 1 (al.map eI),.n .i64 ei,.isl 1 (aK.map eu)]]) (.eP (fw eI bL) (ff eI bL) (dk aO bL) (OC et fe) (bR.n .i64 et) (cM bl) (cM bl))));
  .ite (fun eK =>
  .aY fun eU =>
  .ret (let a7:=b2 [0,1,2,3,4,5];bg (t3.append [.aa true,.aw (ai 6 (aj .fZ [])),(J 2),.aN [0,1,2,3,4,5] [.box [.id,.id,.id,.id,.id,.len ((aK.set (0+ft.toNat) false).length)],.bM (au 1 (br 2 0 2) ao),.bM (cf 2 a1 bc),.pure,.cG (au 1 eu (aK.set (0+ft.toNat) false)),.pure] (a8 [0,1,53,54])]) (eA.aI (.bi eK o.1 o.2 (hT eu eU) (hM 1) (hi (dX aK) (0+ft.toNat) false) (eH a7 2 2 0 2 rfl ao) (dY a7 2 fm bc) (.c4 (aJ 1 .live aO al) (c2 1 .live (gP (cZ eu aK) (0+ft.toNat) false)) (aJ 1 .live e9 (aK.set (0+ft.toNat) false)) (aJ 1 .live aO bL))))))
  (fun eK =>
  .ret (let bZ:=b2 [0,1,2,3,4,5];bg (t3.append [.aa false,(J 2),.aN [0,1,2,3,4,5] [.box [.id,.id,.id,.id,.id,.id],.bM (au 1 (br 2 0 2) ao),.bM (cf 2 a1 bc),.pure,.pure,.pure] (a8 [0,1,53,54])]) (eA.aI (.dW eK (eH bZ 2 2 0 2 rfl ao) (dY bZ 2 fm bc) (aJ 1 .live aO al) (aJ 1 .live e9 aK) (aJ 1 .live aO bL)))))))))
  (fun aA =>
  .ret (let cC:=b2 [0,1,2,3,4,5];bg (t1.append [.aw (ai 6 (aj (.b5 (eu az)) (ai 1 (cx 7 (aj (.aa false) (ai 1 (cx 5 (ai 1 [])))))))),.aa false,(J 2),.aN [0,1,2,3,4,5] [.box [.id,.id,.id,.id,.id,.id],.bM (au 1 (br 2 0 2) ao),.bM (cf 2 a1 bc),.pure,.pure,.pure] (a8 [0,1,53,54])]) (.bi h1 o.1 o.2 (b1 eu av) aA aA aA aA (.bi aA aA aA aA cK cK cK cK (.eP cK cK (eH cC 2 2 0 2 rfl ao) (dY cC 2 fm bc) (aJ 1 .live aO al) (aJ 1 .live e9 aK) (aJ 1 .live aO bL))))))))
  (fun h1 =>
  .ret (let dr:=b2 [0,1,2,3,4,5];bg [(J 1),.aa false,.aN [0,1,2,3,4,5] [.box [.id,.id,.id,.id,.id,.id],.bM (au 1 (br 2 0 2) ao),.bM (cf 2 a1 bc),.pure,.pure,.pure] []] (.dW h1 (eH dr 2 2 0 2 rfl ao) (dY dr 2 fm bc) (aJ 1 .live aO al) (aJ 1 .live e9 aK) (aJ 1 .live aO bL))))
theorem Vi {ei:Int}{aL:Bool}{aM:List Int}{ao:List bF}{bc:List (List bx)}{al bL:List Int}{ft:Int}{aK:List Bool}{r} (h:DD ei aL aM ao bc al bL ft aK=some r):dP a4 87 6 87 [1,1,0,1,0,0] (GH ei aL aM ao bc al bL) (GN ei aL aM ao bc al bL) (ft,aK) r:=dQ (fun _=>UT) h
def xq (o9:Bool)(o3:List Int)(jO:Int)(eX:List bF)(ma:List (List bx))(iw:List Int)(hJ:List Bool)(pA:List Int):Option (Bool×Bool×(List Int)×(List (List bx))×(List Int)×(List Bool)) :=
 DC jO eX hJ pA true o9 o3 ma iw >>= fun r1 =>
 match r1 with
 | .inl dd=>(DD jO dd.1 dd.2.1 eX dd.2.2.1 dd.2.2.2 pA 0 hJ >>= fun a6 =>
  some (true,dd.1,dd.2.1,dd.2.2.1,dd.2.2.2,a6))
 | .inr dd=>(some (false,dd.1,dd.2.1,dd.2.2.1,dd.2.2.2,hJ))
theorem VQ {o9:Bool}{o3:List Int}{jO:Int}{eX:List bF}{ma:List (List bx)}{iw:List Int}{hJ:List Bool}{pA:List Int}:bD (xq o9 o3 jO eX ma iw hJ pA) (fun a=>Con a4 87 [.ref 0 0 0 0,.bh 5 0 0 pA.length] [[ae.mk 6 [(fX 1 0 0 eX.length o9 o3 3 0 0 iw.length jO 4 0 0 hJ.length)] .live],(au 1 (br 2 0 2) eX),(cf 2 a1 ma),(au 1 eI iw),(au 1 eu hJ),(au 1 eI pA)] (.b a.1) [[ae.mk 6 [(fX 1 0 0 eX.length a.2.1 a.2.2.1 3 0 0 a.2.2.2.2.1.length jO 4 0 0 a.2.2.2.2.2.length)] .live],(au 1 (br 2 0 2) eX),(cf 2 a1 a.2.2.2.1),(au 1 eI a.2.2.2.2.1),(au 1 eu a.2.2.2.2.2),(au 1 eI pA)]):=by
 unfold xq
 exact .ar fun r1 o =>
  (let jw:=b2 [0,1,2,3,4,5];let t1:List b0:=[(J 1),(J 1),.aN [0,1,2,3,4,5] [.box [.id,.id,.id,.id,.id,.id],.bM (au 1 (br 2 0 2) eX),.bM (cf 2 a1 ma),.pure,.pure,.pure] (a8 [0,1,5])];
  have aV:=((.dh (eH jw 2 2 0 2 rfl eX) (dY jw 2 fm ma) (aJ 1 .live aO iw) (aJ 1 .live e9 hJ) (aJ 1 .live aO pA)):cA _);
  (by
  rcases r1 with dd|dd
  ·exact (.ar fun a6 aA =>
  .ret (let q1:=fX 1 0 0 eX.length dd.1 dd.2.1 3 0 0 dd.2.2.2.length jO 4 0 0 a6.length;let a7:=b2 [0,1,2,3,4,5];let bZ:=aJ 1 .live aO dd.2.2.2;let cC:=dY a7 2 fm dd.2.2.1;let dr:=cf 2 a1 dd.2.2.1;let f8:=eH a7 2 2 0 2 rfl eX;kq (t1.append [(Dx jO eX hJ pA (.inl dd)).e8,(J 5),.aN [0,1,2,3,4,5] [.box [.id,.id,.id,.id,.id,.id],.bM (au 1 (br 2 0 2) eX),.bM dr,.pure,.pure,.pure] (a8 [0,1,53,54]),(GN jO dd.1 dd.2.1 eX dd.2.2.1 dd.2.2.2 pA a6).e8,(J 1)]) [0,1,2,3,4,5] [.bM [ae.mk 6 [q1] .live],.bM (au 1 (br 2 0 2) eX),.bM dr,.pure,.pure,.pure] (aV.aI (.bi (Ob o) f8 cC bZ (aJ 1 .live e9 hJ) (aJ 1 .live aO pA) (Vi aA) (qP a7 6 [q1] [q1] rfl) (.dh f8 cC bZ (aJ 1 .live e9 a6) (aJ 1 .live aO pA))))))
  ·exact (.ret (let h7:=fX 1 0 0 eX.length dd.1 dd.2.1 3 0 0 dd.2.2.2.length jO 4 0 0 hJ.length;let fx:=b2 [0,1,2,3,4,5];kq (t1.append [(Dx jO eX hJ pA (.inr dd)).e8]) [0,1,2,3,4,5] [.bM [ae.mk 6 [h7] .live],.bM (au 1 (br 2 0 2) eX),.bM (cf 2 a1 dd.2.2.1),.pure,.pure,.pure] (aV.aI (.eP (Ob o) (qP fx 6 [h7] [h7] rfl) (eH fx 2 2 0 2 rfl eX) (dY fx 2 fm dd.2.2.1) (aJ 1 .live aO dd.2.2.2) (aJ 1 .live e9 hJ) (aJ 1 .live aO pA)))))))
def GW (ia ad:Int)(aL:Bool)(aM:List Int)(bz:Int)(ao:List bF)(bc:List (List bx))(al:List Int)(aK:List Bool):Int→S:=fun aQ=>dv [(0,.ref 0 0 0 0),(1,.n .i64 ia),(4,.n .i64 ad),(5,.n .i64 aQ)] [[ae.mk 6 [(fX 1 0 0 ao.length aL aM 3 0 0 al.length bz 4 0 0 aK.length)] .live],(au 1 (br 2 0 2) ao),(cf 2 a1 bc),(au 1 eI al),(au 1 eu aK)]
def G3 (ia ad:Int)(aL:Bool)(aM:List Int)(bz:Int)(ao:List bF)(bc:List (List bx))(al:List Int)(aK:List Bool):Int→dy
 | a=>⟨some 2,[(0,.ref 0 0 0 0),(1,.n .i64 ia),(4,.n .i64 ad),(5,.n .i64 a)],[[ae.mk 6 [(fX 1 0 0 ao.length aL aM 3 0 0 al.length bz 4 0 0 aK.length)] .live],(au 1 (br 2 0 2) ao),(cf 2 a1 bc),(au 1 eI al),(au 1 eu aK)]⟩
def w4 (ia ad:Int)(aL:Bool)(aM:List Int)(bz:Int)(ao:List bF)(bc:List (List bx))(al:List Int)(aK:List Bool)(aQ:Int):Option ((Int)⊕(Int)) :=
 if (decide (aQ<ia))=true then
  if 0≤ad∧ad<(ao.length:Nat) then
  ao[(0+ad.toNat)]? >>= fun az =>
  az >>= fun lV =>
  bc[lV.1]? >>= fun iT =>
  if 0≤aQ∧aQ<(lV.2:Nat) then
  iT[(0+aQ.toNat)]? >>= fun je =>
  pn je >>= fun en =>
  if (en == (0:Int))=true then
   some (.inl (R (aQ+(1:Int))))
  else
   some (.inr aQ)
  else none
  else none
 else
  some (.inr aQ)
def DI (ia ad:Int)(aL:Bool)(aM:List Int)(bz:Int)(ao:List bF)(bc:List (List bx))(al:List Int)(aK:List Bool)(aQ:Int):Option (Int):=iter (fun w:Int=>w4 ia ad aL aM bz ao bc al aK w) aQ
theorem Vb {ia ad:Int}{aL:Bool}{aM:List Int}{bz:Int}{ao:List bF}{bc:List (List bx)}{al:List Int}{aK:List Bool}{aQ:Int}:bD (w4 ia ad aL aM bz ao bc al aK aQ) (dO a4 86 5 89 [1,0,0,1,0,1,1,0,0,0] (GW ia ad aL aM bz ao bc al aK aQ) (GW ia ad aL aM bz ao bc al aK) (G3 ia ad aL aM bz ao bc al aK)):=by
 unfold w4
 exact .ite (fun h1 =>
  .aY fun o =>
  .ar fun az av =>
  .ar fun lV aX =>
  .ar fun iT bl =>
  .aY fun cB =>
  .ar fun je fe =>
  .ar fun en eU =>
  (let q1:=ke (gu .live 2 a1 bc) jv bl;let t1:List b0:=[.aw (ai 10 (aj (.b5 ((br 2 0 2) az)) (ai 1 (aj (.kw 34 (.bh 2 (lV.1+0) 0 lV.2) (.gv (ae.mk 2 (iT.map a1) .live) [])) (aj (.gv (ae.mk 2 (iT.map a1) .live) (a1 je)) (aj (bu 1 (.n .i64 en) true) (ai 1 (aj (.aa true) []))))))))];
  have aV:=((.bi h1 h1 h1 h1 h1 h1 o.1 o.2 (.bi h1 (b1 (br 2 0 2) av) h1 h1 (mi (ea:=2) (c:=0) (sz:=2) aX) q1 cB.1 cB.2 (.gz h1 q1 (b1 a1 fe) h1 (tn en eU) (bR.n .i64 en) h1 h1))):cA _);
  .ite (fun eL =>
  .ret (bg (t1.append [.aa true,(J 3),.aN [0,1,2,3,4] [.box [.id,.id,.id,.id,.id,.id],.bM (au 1 (br 2 0 2) ao),.bM (cf 2 a1 bc),.pure,.pure] (a8 [0,1,4,5])]) (aV.aI (.dh eL (eH (b2 [0,1,2,3,4]) 2 2 0 2 rfl ao) (dY (b2 [0,1,2,3,4]) 2 fm bc) (aJ 1 .live aO al) (aJ 1 .live e9 aK)))))
  (fun eL =>
  .ret (bg (t1.append [.aa false,.aN [0,1,2,3,4] [.box [.id,.id,.id,.id,.id,.id],.bM (au 1 (br 2 0 2) ao),.bM (cf 2 a1 bc),.pure,.pure] (a8 [0,1,4,5])]) (aV.aI (.dh eL (eH (b2 [0,1,2,3,4]) 2 2 0 2 rfl ao) (dY (b2 [0,1,2,3,4]) 2 fm bc) (aJ 1 .live aO al) (aJ 1 .live e9 aK)))))))
  (fun h1 =>
  .ret (bg [.aw (ai 4 (cx 12 (aj (.aa false) []))),.aa false,.aN [0,1,2,3,4] [.box [.id,.id,.id,.id,.id,.id],.bM (au 1 (br 2 0 2) ao),.bM (cf 2 a1 bc),.pure,.pure] (a8 [0,1,4,5])] (.bi h1 h1 h1 h1 h1 h1 h1 h1 (.bi h1 h1 h1 h1 h1 cK (eH (b2 [0,1,2,3,4]) 2 2 0 2 rfl ao) (dY (b2 [0,1,2,3,4]) 2 fm bc) (.aD (aJ 1 .live aO al) (aJ 1 .live e9 aK))))))
theorem VR {ia ad:Int}{aL:Bool}{aM:List Int}{bz:Int}{ao:List bF}{bc:List (List bx)}{al:List Int}{aK:List Bool}{aQ:Int}{r} (h:DI ia ad aL aM bz ao bc al aK aQ=some r):dP a4 86 5 89 [1,0,0,1,0,1,1,0,0,0] (GW ia ad aL aM bz ao bc al aK) (G3 ia ad aL aM bz ao bc al aK) aQ r:=dQ (fun _=>Vb) h
def GX (ia bz:Int)(aK:List Bool):(Int×Bool×(List Int)×(List bF)×(List (List bx))×(List Int))→S:=fun (ad,aL,aM,ao,bc,al)=>dv [(0,.ref 0 0 0 0),(1,.n .i64 ia),(4,.n .i64 ad)] [[ae.mk 6 [(fX 1 0 0 ao.length aL aM 3 0 0 al.length bz 4 0 0 aK.length)] .live],(au 1 (br 2 0 2) ao),(cf 2 a1 bc),(au 1 eI al),(au 1 eu aK)]
def G4 (ia bz:Int)(aK:List Bool):(Bool×(List Int)×(List bF)×(List (List bx))×(List Int))→dy
 | a=>⟨some 0,[],[[ae.mk 6 [(fX 1 0 0 a.2.2.1.length a.1 a.2.1 3 0 0 a.2.2.2.2.length bz 4 0 0 aK.length)] .live],(au 1 (br 2 0 2) a.2.2.1),(cf 2 a1 a.2.2.2.1),(au 1 eI a.2.2.2.2),(au 1 eu aK)]⟩
def zU (ia bz:Int)(aK:List Bool)(ad:Int)(aL:Bool)(aM:List Int)(ao:List bF)(bc:List (List bx))(al:List Int):Option ((Int×Bool×(List Int)×(List bF)×(List (List bx))×(List Int))⊕(Bool×(List Int)×(List bF)×(List (List bx))×(List Int))) :=
 if (decide (ad<((ao.length:Nat):Int)))=true then
  if 0≤ad∧ad<(al.length:Nat) then
  al[(0+ad.toNat)]? >>= fun az =>
  if (decide (az<ia))=true then
   some (.inl (R (ad+(1:Int)),aL,aM,ao,bc,al))
  else
   DI ia ad aL aM bz ao bc al aK 0 >>= fun cn =>
   if (decide (cn<ia))=true then
    xJ ad cn aL aM bz ao bc al aK >>= fun cb =>
    some (.inl (R (ad+(1:Int)),cb.1,cb.2.1,ao,cb.2.2.1,cb.2.2.2))
   else
    if 0≤ad then
    if 0≤ad.toNat∧ad.toNat≤ao.length then
    if 0≤(R (ad+(1:Int))) then
    if (R (ad+(1:Int))).toNat≤ao.length then
    if (0+(R (ad+(1:Int))).toNat)+(ao.length-(R (ad+(1:Int))).toNat)≤ao.length then
    if (ad.toNat-0)+((ao.drop (0+(R (ad+(1:Int))).toNat)).take (ao.length-(R (ad+(1:Int))).toNat)).length≤ao.length then
    if ((ao.drop (0+(R (ad+(1:Int))).toNat)).take (ao.length-(R (ad+(1:Int))).toNat)).length*24≤140737488355328 then
    if 0≤ad.toNat∧ad.toNat≤al.length then
    if (R (ad+(1:Int))).toNat≤al.length then
    if (0+(R (ad+(1:Int))).toNat)+(al.length-(R (ad+(1:Int))).toNat)≤al.length then
    if (ad.toNat-0)+((al.drop (0+(R (ad+(1:Int))).toNat)).take (al.length-(R (ad+(1:Int))).toNat)).length≤al.length then
    if ((al.drop (0+(R (ad+(1:Int))).toNat)).take (al.length-(R (ad+(1:Int))).toNat)).length*8≤140737488355328 then
    some (.inl (ad,aL,aM,ao.take (ad.toNat-0)++((ao.drop (0+(R (ad+(1:Int))).toNat)).take (ao.length-(R (ad+(1:Int))).toNat)),bc,al.take (ad.toNat-0)++((al.drop (0+(R (ad+(1:Int))).toNat)).take (al.length-(R (ad+(1:Int))).toNat))))
    else none
    else none
    else none
    else none
    else none
    else none
    else none
    else none
    else none
    else none
    else none
    else none
  else none
 else
  some (.inr (aL,aM,ao,bc,al))
def HH (ia bz:Int)(aK:List Bool)(ad:Int)(aL:Bool)(aM:List Int)(ao:List bF)(bc:List (List bx))(al:List Int):Option (Bool×(List Int)×(List bF)×(List (List bx))×(List Int)):=iter (fun w:Int×Bool×(List Int)×(List bF)×(List (List bx))×(List Int)=>zU ia bz aK w.1 w.2.1 w.2.2.1 w.2.2.2.1 w.2.2.2.2.1 w.2.2.2.2.2) (ad,aL,aM,ao,bc,al)
theorem Vc {ia bz:Int}{aK:List Bool}{ad:Int}{aL:Bool}{aM:List Int}{ao:List bF}{bc:List (List bx)}{al:List Int}:bD (zU ia bz aK ad aL aM ao bc al) (dO a4 86 5 89 [1,0,0] (GX ia bz aK (ad,aL,aM,ao,bc,al)) (GX ia bz aK) (G4 ia bz aK)):=by
 unfold zU
 exact .ite (fun h1 =>
  .aY fun o =>
  .ar fun az av =>
  (let t1:List b0:=[(J 7),.aa true,.aw (bq 6 (.b5 (eI az)) 2)];
  .ite (fun aA =>
  .ret (bg (t1.append [.aa true,(J 3),.aN [0,1,2,3,4] [.box [.id,.id,.id,.id,.id,.id],.bM (au 1 (br 2 0 2) ao),.bM (cf 2 a1 bc),.pure,.pure] (a8 [0,1,4])]) (.bi h1 o.1 o.2 (b1 eI av) aA (eH (b2 [0,1,2,3,4]) 2 2 0 2 rfl ao) (dY (b2 [0,1,2,3,4]) 2 fm bc) (aJ 1 .live aO al) (.e1 (aJ 1 .live e9 aK)))))
  (fun aA =>
  .ar fun cn bf =>
  (let t2:List b0:=t1.append [.aa false,(J 1),.aN [0,1,2,3,4] [.box [.id,.id,.id,.id,.id,.id],.bM (au 1 (br 2 0 2) ao),.bM (cf 2 a1 bc),.pure,.pure] (a8 [0,1,4,5]),(G3 ia ad aL aM bz ao bc al aK cn).e8,(J 3)];
  have fI:=((.bi h1 o.1 o.2 (b1 eI av) aA (eH (b2 [0,1,2,3,4]) 2 2 0 2 rfl ao) (dY (b2 [0,1,2,3,4]) 2 fm bc) (aJ 1 .live aO al) (.aD (aJ 1 .live e9 aK) (VR bf))):cA _);
  .ite (fun bl =>
  .ar fun cb cQ =>
  .ret (let q1:=fX 1 0 0 ao.length cb.1 cb.2.1 3 0 0 cb.2.2.2.length bz 4 0 0 aK.length;let a7:=fX 1 0 0 ao.length aL aM 3 0 0 al.length bz 4 0 0 aK.length;let bZ:=au 1 (br 2 0 2) ao;let cC:=cf 2 a1 cb.2.2.1;let dr:=pF [0,1,2,3,4];let f8:=ij [0,1,2,3,4];let h7:=pG 1 (ao.map (br 2 0 2));bg (t2.append [.aa true,.aw (ai 3 (aj (.call {a2:=(vX [0,1,2,3,4]),dc:=[.bM [ae.mk 6 [a7] .live],.bM bZ,.bM (cf 2 a1 bc),.pure,.pure],ac:=[ii,ii,ii],r:= .ee [],eV:=[[ae.mk 6 [q1] .live],bZ,cC,(au 1 eI cb.2.2.2),(au 1 eu aK)],gr:=ii,hC:=[.bM [ae.mk 6 [q1] .live],.bM bZ,.bM cC,.pure,.pure],eC:=[0,1,2,3,4],ej:=false}) [])),(J 3),.aN [0,1,2,3,4] [.box [.id,.id,.id,.id,.id,.id],.bM bZ,.bM cC,.pure,.pure] (a8 [0,1,4])]) (fI.aI (.bi bl (qP dr 6 [a7] [a7] rfl) (pG 6 [a7]) (eH dr 2 2 0 2 rfl ao) h7 (dY dr 2 fm bc) (um 2 a1 bc) (f9 1 aO al) (.bi (f9 1 e9 aK) (qP f8 6 [q1] [q1] rfl) (pG 6 [q1]) (eH f8 2 2 0 2 rfl ao) h7 (dY f8 2 fm cb.2.2.1) (um 2 a1 cb.2.2.1) (f9 1 aO cb.2.2.2) (.dW (f9 1 e9 aK) (Ok cb cQ) (eH (b2 [0,1,2,3,4]) 2 2 0 2 rfl ao) (dY (b2 [0,1,2,3,4]) 2 fm cb.2.2.1) (aJ 1 .live aO cb.2.2.2) (aJ 1 .live e9 aK)))))))
  (fun bl =>
  .aY fun cB =>
  .aY fun cQ =>
  .aY fun fe =>
  .aY fun eK =>
  .aY fun eU =>
  .aY fun eL =>
  .aY fun fM =>
  .aY fun hd =>
  .aY fun hQ =>
  .aY fun hD =>
  .aY fun gy =>
  .aY fun fu =>
  .ret (let fx:=(R (ad+(1:Int)));let jw:=cZ (br 2 0 2) ao;let lQ:=b2 [0,1,2,3,4];let jf:=cZ eI al;bg (t2.append [.aa false,.aw (bq 14 .fZ 3),.aw (bq 14 .fZ 3),.aN [0,1,2,3,4] [.box [.len ((ao.take (ad.toNat-0)++((ao.drop (0+fx.toNat)).take (ao.length-fx.toNat))).length),.id,.id,.len ((al.take (ad.toNat-0)++((al.drop (0+fx.toNat)).take (al.length-fx.toNat))).length),.id,.id],.bM (au 1 (br 2 0 2) (ao.take (ad.toNat-0)++((ao.drop (0+fx.toNat)).take (ao.length-fx.toNat)))),.bM (cf 2 a1 bc),.cG (au 1 eI (al.take (ad.toNat-0)++((al.drop (0+fx.toNat)).take (al.length-fx.toNat)))),.pure] (a8 [0,1,4])]) (fI.aI (.bi bl cB cQ.1 cQ.2 fe eK (Nat.le_refl ao.length) (qo jw eU) (.bi (Sf jw (oM jw (0+fx.toNat) (ao.length-fx.toNat)) eL) (Q8 (oM jw (0+fx.toNat) (ao.length-fx.toNat)) fM) cB hd.1 hd.2 fe hQ (Nat.le_refl al.length) (.bi (qo jf hD) (Sf jf (oM jf (0+fx.toNat) (al.length-fx.toNat)) gy) (Q8 (oM jf (0+fx.toNat) (al.length-fx.toNat)) fu) ((LA (Se eL) (oM jw (0+fx.toNat) (ao.length-fx.toNat)):(ao.take (ad.toNat-0)++((ao.drop (0+fx.toNat)).take (ao.length-fx.toNat))).length=(ad.toNat-0)+(((ao.map (br 2 0 2)).drop (0+fx.toNat)).take (ao.length-fx.toNat)).length).symm) ((LA (Se gy) (oM jf (0+fx.toNat) (al.length-fx.toNat)):(al.take (ad.toNat-0)++((al.drop (0+fx.toNat)).take (al.length-fx.toNat))).length=(ad.toNat-0)+(((al.map eI).drop (0+fx.toNat)).take (al.length-fx.toNat)).length).symm) (db (sb (cd:=lQ) 1 .live (br 2 0 2) (Lz jw (ad.toNat-0) (oM jw (0+fx.toNat) (ao.length-fx.toNat))) (tL (rfl:lQ 2=some 2))) (nQ (cd:=lQ))) (dY lQ 2 fm bc) (c2 1 .live (Lz jf (ad.toNat-0) (oM jf (0+fx.toNat) (al.length-fx.toNat)))) (.aD (aJ 1 .live aO (al.take (ad.toNat-0)++((al.drop (0+fx.toNat)).take (al.length-fx.toNat)))) (aJ 1 .live e9 aK))))))))))))
  (fun h1 =>
  .ret (bg [(J 7),.aa false,.aN [0,1,2,3,4] [.box [.id,.id,.id,.id,.id,.id],.bM (au 1 (br 2 0 2) ao),.bM (cf 2 a1 bc),.pure,.pure] []] (.dh h1 (eH (b2 [0,1,2,3,4]) 2 2 0 2 rfl ao) (dY (b2 [0,1,2,3,4]) 2 fm bc) (aJ 1 .live aO al) (aJ 1 .live e9 aK))))
theorem VS {ia bz:Int}{aK:List Bool}{ad:Int}{aL:Bool}{aM:List Int}{ao:List bF}{bc:List (List bx)}{al:List Int}{r} (h:HH ia bz aK ad aL aM ao bc al=some r):dP a4 86 5 89 [1,0,0] (GX ia bz aK) (G4 ia bz aK) (ad,aL,aM,ao,bc,al) r:=dQ (fun _=>Vc) h
def z6 (ia:Int)(o9:Bool)(o3:List Int)(jO:Int)(eX:List bF)(ma:List (List bx))(iw:List Int)(hJ:List Bool):Option (Bool×(List Int)×(List bF)×(List (List bx))×(List Int)) :=
 HH ia jO hJ 0 o9 o3 eX ma iw >>= fun r1 =>
 some (r1.1,r1.2.1,r1.2.2.1,r1.2.2.2.1,r1.2.2.2.2)
theorem Wu {ia:Int}{o9:Bool}{o3:List Int}{jO:Int}{eX:List bF}{ma:List (List bx)}{iw:List Int}{hJ:List Bool}:bD (z6 ia o9 o3 jO eX ma iw hJ) (fun a=>Con a4 89 [.ref 0 0 0 0,.n .i64 ia] [[ae.mk 6 [(fX 1 0 0 eX.length o9 o3 3 0 0 iw.length jO 4 0 0 hJ.length)] .live],(au 1 (br 2 0 2) eX),(cf 2 a1 ma),(au 1 eI iw),(au 1 eu hJ)] (.ee []) [[ae.mk 6 [(fX 1 0 0 a.2.2.1.length a.1 a.2.1 3 0 0 a.2.2.2.2.length jO 4 0 0 hJ.length)] .live],(au 1 (br 2 0 2) a.2.2.1),(cf 2 a1 a.2.2.2.1),(au 1 eI a.2.2.2.2),(au 1 eu hJ)]):=by
 unfold z6
 exact .ar fun r1 o =>
  .ret (let q1:=fX 1 0 0 r1.2.2.1.length r1.1 r1.2.1 3 0 0 r1.2.2.2.2.length jO 4 0 0 hJ.length;let a7:=b2 [0,1,2,3,4];kq [(J 1),.aN [0,1,2,3,4] [.box [.id,.id,.id,.id,.id,.id],.bM (au 1 (br 2 0 2) eX),.bM (cf 2 a1 ma),.pure,.pure] (a8 [0,1,4]),(G4 ia jO hJ r1).e8] [0,1,2,3,4] [.bM [ae.mk 6 [q1] .live],.bM (au 1 (br 2 0 2) r1.2.2.1),.bM (cf 2 a1 r1.2.2.2.1),.pure,.pure] (.bi (eH a7 2 2 0 2 rfl eX) (dY a7 2 fm ma) (aJ 1 .live aO iw) (aJ 1 .live e9 hJ) (VS o) (qP a7 6 [q1] [q1] rfl) (eH a7 2 2 0 2 rfl r1.2.2.1) (dY a7 2 fm r1.2.2.2.1) (.aD (aJ 1 .live aO r1.2.2.2.2) (aJ 1 .live e9 hJ))))
end Go.Proofs.YtmeimpeaagmneabGreat
namespace Go.Proofs.YtmeimpeaagmneabGreat
set_option linter.unusedVariables false
set_option linter.unusedSimpArgs false
open Go Go.VL
def II (dZ c3:Int)(ed d8 ec:List Int)(a3 ad:Int)(gp ev:Nat)(jR:List Int)(ka:Int)(aL:Bool)(aM:List Int)(aC:List bF)(al:List Int)(aK:List Bool):(Int×(List (List bx)))→S:=fun (ei,i3)=>dv [(0,.dS 5 [[.n .i64 dZ,.n .i64 c3,.isl 1 (ed.map eI),.isl 1 (d8.map eI),.isl 1 (ec.map eI)]] 0 0),(4,.n .i64 a3),(5,.ref 0 0 0 0),(6,.n .i64 ad),(7,.bh 1 (gp+0) 0 ev),(8,.n .i64 (-1:Int)),(34,.n .i64 dZ),(35,.n .i64 ad),(51,.isl 1 (jR.map eI)),(52,.n .i64 ka),(53,.n .i64 ei)] [[ae.mk 6 [(fX 2 0 0 aC.length aL aM 3 0 0 al.length a3 4 0 0 aK.length)] .live],(cf 2 a1 i3),(au 1 (br 1 0 2) aC),(au 1 eI al),(au 1 eu aK)]
def Jl (dZ c3:Int)(ed d8 ec:List Int)(a3 ad:Int)(gp ev:Nat)(jR:List Int)(ka:Int)(aL:Bool)(aM:List Int)(aC:List bF)(al:List Int)(aK:List Bool):(List (List bx))→dy
 | a=>⟨some 2,[(0,.dS 5 [[.n .i64 dZ,.n .i64 c3,.isl 1 (ed.map eI),.isl 1 (d8.map eI),.isl 1 (ec.map eI)]] 0 0),(4,.n .i64 a3),(5,.ref 0 0 0 0),(6,.n .i64 ad),(7,.bh 1 (gp+0) 0 ev),(8,.n .i64 (-1:Int)),(34,.n .i64 dZ),(35,.n .i64 ad)],[[ae.mk 6 [(fX 2 0 0 aC.length aL aM 3 0 0 al.length a3 4 0 0 aK.length)] .live],(cf 2 a1 a),(au 1 (br 1 0 2) aC),(au 1 eI al),(au 1 eu aK)]⟩
def xK (dZ c3:Int)(ed d8 ec:List Int)(a3 ad:Int)(gp ev:Nat)(jR:List Int)(ka:Int)(aL:Bool)(aM:List Int)(aC:List bF)(al:List Int)(aK:List Bool)(ei:Int)(i3:List (List bx)):Option ((Int×(List (List bx)))⊕((List (List bx)))) :=
 if (decide (ei<ka))=true then
  if 0≤ei∧ei<jR.length then
  jR[ei.toNat]? >>= fun az =>
  oK (R ((-1:Int)*az)) >>= fun ax =>
  i3[gp]? >>= fun iT =>
  if 0≤ei∧ei<(ev:Nat) then
  iT[(0+ei.toNat)]? >>= fun je =>
  some (.inl (R (ei+(1:Int)),i3.set gp (iT.set (0+ei.toNat) ax)))
  else none
  else none
 else
  some (.inr i3)
def D8 (dZ c3:Int)(ed d8 ec:List Int)(a3 ad:Int)(gp ev:Nat)(jR:List Int)(ka:Int)(aL:Bool)(aM:List Int)(aC:List bF)(al:List Int)(aK:List Bool)(ei:Int)(i3:List (List bx)):Option ((List (List bx))):=iter (fun w:Int×(List (List bx))=>xK dZ c3 ed d8 ec a3 ad gp ev jR ka aL aM aC al aK w.1 w.2) (ei,i3)
theorem Wv {dZ c3:Int}{ed d8 ec:List Int}{a3 ad:Int}{gp ev:Nat}{jR:List Int}{ka:Int}{aL:Bool}{aM:List Int}{aC:List bF}{al:List Int}{aK:List Bool}{ei:Int}{i3:List (List bx)}:bD (xK dZ c3 ed d8 ec a3 ad gp ev jR ka aL aM aC al aK ei i3) (dO a4 205 0 59 [1,1,1,0,1,0,0,1,1,0,0,1,1,1,1,0,1,0,0] (II dZ c3 ed d8 ec a3 ad gp ev jR ka aL aM aC al aK (ei,i3)) (II dZ c3 ed d8 ec a3 ad gp ev jR ka aL aM aC al aK) (Jl dZ c3 ed d8 ec a3 ad gp ev jR ka aL aM aC al aK)):=by
 unfold xK
 exact .ite (fun h1 =>
  .aY fun o =>
  .ar fun az av =>
  .ar fun ax aX =>
  .ar fun iT bl =>
  .aY fun cB =>
  .ar fun je fe =>
  .ret (let q1:=ke (gu .live 2 a1 i3) jv bl;bg [(J 1),.aa true,.aw (bq 2 (.b5 (eI az)) 2),.aw (ai 5 (aj (bu 1 (.agg (a1 ax)) false) (aj (.gv (ae.mk 2 (iT.map a1) .live) []) (aj (.gv (ae.mk 2 (iT.map a1) .live) (a1 je)) [])))),(J 2),.aN [0,1,2,3,4] [.box [.id,.id,.id,.id,.id,.id],.bM (cf 2 a1 (i3.set gp (iT.set (0+ei.toNat) ax))),.bM (au 1 (br 1 0 2) aC),.pure,.pure] (a8 [0,4,5,6,7,8,34,35,51,52,53])] (.bi h1 o.1 (cX eI o.2) (b1 eI av) (sj ax aX) q1 cB.1 cB.2 (.dW q1 (b1 a1 fe) (nv (cd:=(b2 [0,1,2,3,4])) (ps (gu .live 2 a1 i3) gp (nr (cZ a1 iT) (0+ei.toNat) ax (rfl:(setCells (a1 je) 0 (a1 ax))=a1 ax))) (mE fm)) (eH (b2 [0,1,2,3,4]) 1 1 0 2 rfl aC) (aJ 1 .live aO al) (aJ 1 .live e9 aK)))))
  (fun h1 =>
  .ret (bg [(J 1),.aa false,.aN [0,1,2,3,4] [.box [.id,.id,.id,.id,.id,.id],.bM (cf 2 a1 i3),.bM (au 1 (br 1 0 2) aC),.pure,.pure] (a8 [0,4,5,6,7,8,34,35])] (.dh h1 (dY (b2 [0,1,2,3,4]) 2 fm i3) (eH (b2 [0,1,2,3,4]) 1 1 0 2 rfl aC) (aJ 1 .live aO al) (aJ 1 .live e9 aK))))
theorem X8 {dZ c3:Int}{ed d8 ec:List Int}{a3 ad:Int}{gp ev:Nat}{jR:List Int}{ka:Int}{aL:Bool}{aM:List Int}{aC:List bF}{al:List Int}{aK:List Bool}{ei:Int}{i3:List (List bx)}{r} (h:D8 dZ c3 ed d8 ec a3 ad gp ev jR ka aL aM aC al aK ei i3=some r):dP a4 205 0 59 [1,1,1,0,1,0,0,1,1,0,0,1,1,1,1,0,1,0,0] (II dZ c3 ed d8 ec a3 ad gp ev jR ka aL aM aC al aK) (Jl dZ c3 ed d8 ec a3 ad gp ev jR ka aL aM aC al aK) (ei,i3) r:=dQ (fun _=>Wv) h
def IJ (dZ c3:Int)(ed d8 ec:List Int)(a3 ad:Int)(gp ev:Nat)(jR:List Int)(ka:Int)(aL:Bool)(aM:List Int)(aC:List bF)(al:List Int)(aK:List Bool):(Int×(List (List bx)))→S:=fun (ei,i3)=>dv [(0,.dS 5 [[.n .i64 dZ,.n .i64 c3,.isl 1 (ed.map eI),.isl 1 (d8.map eI),.isl 1 (ec.map eI)]] 0 0),(4,.n .i64 a3),(5,.ref 0 0 0 0),(6,.n .i64 ad),(7,.bh 1 (gp+0) 0 ev),(8,.n .i64 (1:Int)),(34,.n .i64 dZ),(35,.n .i64 ad),(51,.isl 1 (jR.map eI)),(52,.n .i64 ka),(53,.n .i64 ei)] [[ae.mk 6 [(fX 2 0 0 aC.length aL aM 3 0 0 al.length a3 4 0 0 aK.length)] .live],(cf 2 a1 i3),(au 1 (br 1 0 2) aC),(au 1 eI al),(au 1 eu aK)]
def Jm (dZ c3:Int)(ed d8 ec:List Int)(a3 ad:Int)(gp ev:Nat)(jR:List Int)(ka:Int)(aL:Bool)(aM:List Int)(aC:List bF)(al:List Int)(aK:List Bool):(List (List bx))→dy
 | a=>⟨some 2,[(0,.dS 5 [[.n .i64 dZ,.n .i64 c3,.isl 1 (ed.map eI),.isl 1 (d8.map eI),.isl 1 (ec.map eI)]] 0 0),(4,.n .i64 a3),(5,.ref 0 0 0 0),(6,.n .i64 ad),(7,.bh 1 (gp+0) 0 ev),(8,.n .i64 (1:Int)),(34,.n .i64 dZ),(35,.n .i64 ad)],[[ae.mk 6 [(fX 2 0 0 aC.length aL aM 3 0 0 al.length a3 4 0 0 aK.length)] .live],(cf 2 a1 a),(au 1 (br 1 0 2) aC),(au 1 eI al),(au 1 eu aK)]⟩
def xL (dZ c3:Int)(ed d8 ec:List Int)(a3 ad:Int)(gp ev:Nat)(jR:List Int)(ka:Int)(aL:Bool)(aM:List Int)(aC:List bF)(al:List Int)(aK:List Bool)(ei:Int)(i3:List (List bx)):Option ((Int×(List (List bx)))⊕((List (List bx)))) :=
 if (decide (ei<ka))=true then
  if 0≤ei∧ei<jR.length then
  jR[ei.toNat]? >>= fun az =>
  oK (R ((1:Int)*az)) >>= fun ax =>
  i3[gp]? >>= fun iT =>
  if 0≤ei∧ei<(ev:Nat) then
  iT[(0+ei.toNat)]? >>= fun je =>
  some (.inl (R (ei+(1:Int)),i3.set gp (iT.set (0+ei.toNat) ax)))
  else none
  else none
 else
  some (.inr i3)
def D9 (dZ c3:Int)(ed d8 ec:List Int)(a3 ad:Int)(gp ev:Nat)(jR:List Int)(ka:Int)(aL:Bool)(aM:List Int)(aC:List bF)(al:List Int)(aK:List Bool)(ei:Int)(i3:List (List bx)):Option ((List (List bx))):=iter (fun w:Int×(List (List bx))=>xL dZ c3 ed d8 ec a3 ad gp ev jR ka aL aM aC al aK w.1 w.2) (ei,i3)
theorem Ww {dZ c3:Int}{ed d8 ec:List Int}{a3 ad:Int}{gp ev:Nat}{jR:List Int}{ka:Int}{aL:Bool}{aM:List Int}{aC:List bF}{al:List Int}{aK:List Bool}{ei:Int}{i3:List (List bx)}:bD (xL dZ c3 ed d8 ec a3 ad gp ev jR ka aL aM aC al aK ei i3) (dO a4 205 0 59 [1,1,1,0,1,0,0,1,1,0,0,1,1,1,1,0,1,0,0] (IJ dZ c3 ed d8 ec a3 ad gp ev jR ka aL aM aC al aK (ei,i3)) (IJ dZ c3 ed d8 ec a3 ad gp ev jR ka aL aM aC al aK) (Jm dZ c3 ed d8 ec a3 ad gp ev jR ka aL aM aC al aK)):=by
 unfold xL
 exact .ite (fun h1 =>
  .aY fun o =>
  .ar fun az av =>
  .ar fun ax aX =>
  .ar fun iT bl =>
  .aY fun cB =>
  .ar fun je fe =>
  .ret (let q1:=ke (gu .live 2 a1 i3) jv bl;bg [(J 1),.aa true,.aw (bq 2 (.b5 (eI az)) 2),.aw (ai 5 (aj (bu 1 (.agg (a1 ax)) false) (aj (.gv (ae.mk 2 (iT.map a1) .live) []) (aj (.gv (ae.mk 2 (iT.map a1) .live) (a1 je)) [])))),(J 2),.aN [0,1,2,3,4] [.box [.id,.id,.id,.id,.id,.id],.bM (cf 2 a1 (i3.set gp (iT.set (0+ei.toNat) ax))),.bM (au 1 (br 1 0 2) aC),.pure,.pure] (a8 [0,4,5,6,7,8,34,35,51,52,53])] (.bi h1 o.1 (cX eI o.2) (b1 eI av) (sj ax aX) q1 cB.1 cB.2 (.dW q1 (b1 a1 fe) (nv (cd:=(b2 [0,1,2,3,4])) (ps (gu .live 2 a1 i3) gp (nr (cZ a1 iT) (0+ei.toNat) ax (rfl:(setCells (a1 je) 0 (a1 ax))=a1 ax))) (mE fm)) (eH (b2 [0,1,2,3,4]) 1 1 0 2 rfl aC) (aJ 1 .live aO al) (aJ 1 .live e9 aK)))))
  (fun h1 =>
  .ret (bg [(J 1),.aa false,.aN [0,1,2,3,4] [.box [.id,.id,.id,.id,.id,.id],.bM (cf 2 a1 i3),.bM (au 1 (br 1 0 2) aC),.pure,.pure] (a8 [0,4,5,6,7,8,34,35])] (.dh h1 (dY (b2 [0,1,2,3,4]) 2 fm i3) (eH (b2 [0,1,2,3,4]) 1 1 0 2 rfl aC) (aJ 1 .live aO al) (aJ 1 .live e9 aK))))
theorem X9 {dZ c3:Int}{ed d8 ec:List Int}{a3 ad:Int}{gp ev:Nat}{jR:List Int}{ka:Int}{aL:Bool}{aM:List Int}{aC:List bF}{al:List Int}{aK:List Bool}{ei:Int}{i3:List (List bx)}{r} (h:D9 dZ c3 ed d8 ec a3 ad gp ev jR ka aL aM aC al aK ei i3=some r):dP a4 205 0 59 [1,1,1,0,1,0,0,1,1,0,0,1,1,1,1,0,1,0,0] (IJ dZ c3 ed d8 ec a3 ad gp ev jR ka aL aM aC al aK) (Jm dZ c3 ed d8 ec a3 ad gp ev jR ka aL aM aC al aK) (ei,i3) r:=dQ (fun _=>Ww) h
def IK (dZ c3:Int)(ed d8 ec:List Int)(a3:Int)(aL:Bool)(aM:List Int)(aK:List Bool):(Int×(List bF)×(List (List bx))×(List Int))→S:=fun (dC,ao,bc,al)=>dv [(0,.dS 5 [[.n .i64 dZ,.n .i64 c3,.isl 1 (ed.map eI),.isl 1 (d8.map eI),.isl 1 (ec.map eI)]] 0 0),(4,.n .i64 a3),(5,.ref 0 0 0 0),(34,.n .i64 dZ),(35,.n .i64 dC)] [[ae.mk 6 [(fX 1 0 0 ao.length aL aM 3 0 0 al.length a3 4 0 0 aK.length)] .live],(au 1 (br 2 0 2) ao),(cf 2 a1 bc),(au 1 eI al),(au 1 eu aK)]
def Jn (dZ c3:Int)(ed d8 ec:List Int)(a3:Int)(aL:Bool)(aM:List Int)(aK:List Bool):((List bF)×(List (List bx))×(List Int))→dy
 | a=>⟨some 0,[(0,.dS 5 [[.n .i64 dZ,.n .i64 c3,.isl 1 (ed.map eI),.isl 1 (d8.map eI),.isl 1 (ec.map eI)]] 0 0),(4,.n .i64 a3),(5,.ref 0 0 0 0)],[[ae.mk 6 [(fX 1 0 0 a.1.length aL aM 3 0 0 a.2.2.length a3 4 0 0 aK.length)] .live],(au 1 (br 2 0 2) a.1),(cf 2 a1 a.2.1),(au 1 eI a.2.2),(au 1 eu aK)]⟩
def xM (dZ c3:Int)(ed d8 ec:List Int)(a3:Int)(aL:Bool)(aM:List Int)(aK:List Bool)(dC:Int)(ao:List bF)(bc:List (List bx))(al:List Int):Option ((Int×(List bF)×(List (List bx))×(List Int))⊕((List bF)×(List (List bx))×(List Int))) :=
 if (decide (dC<dZ))=true then
  if 0≤(R (a3+(1:Int)))∧(32:Int)*(R (a3+(1:Int)))≤281474976710656∧(R (a3+(1:Int)))<9223372036854775808 then
  if 0≤dC∧dC<d8.length then
  d8[dC.toNat]? >>= fun fE =>
  if (decide (fE<(0:Int)))=true then
   ye (⟨dZ,c3,ed,d8,ec⟩:hN) dC >>= fun bO =>
   D8 dZ c3 ed d8 ec a3 dC bc.length ((R (a3+(1:Int))).toNat) bO (len_ eI bO) aL aM ao al aK 0 (bc++[(List.replicate (R (a3+(1:Int))).toNat (⟨false,([]:List Int)⟩:bx):List bx)]) >>= fun cb =>
   oK 1 >>= fun dp =>
   cb[bc.length]? >>= fun lA =>
   if 0≤(R (c3+dC))∧(R (c3+dC))<((R (a3+(1:Int))).toNat:Nat) then
   lA[(0+(R (c3+dC)).toNat)]? >>= fun mL =>
   oK (R ((-1:Int)*fE)) >>= fun fl =>
   (cb.set bc.length (lA.set (0+(R (c3+dC)).toNat) dp))[bc.length]? >>= fun pg =>
   if 0≤a3∧a3<((R (a3+(1:Int))).toNat:Nat) then
   pg[(0+a3.toNat)]? >>= fun wh =>
   if (ao++([(some (bc.length,(R (a3+(1:Int))).toNat))]:List bF)).length*24≤140737488355328 then
   if (al++([R (c3+dC)]:List Int)).length*8≤140737488355328 then
   some (.inl (R (dC+(1:Int)),ao++([(some (bc.length,(R (a3+(1:Int))).toNat))]:List bF),(cb.set bc.length (lA.set (0+(R (c3+dC)).toNat) dp)).set bc.length (pg.set (0+a3.toNat) fl),al++([R (c3+dC)]:List Int)))
   else none
   else none
   else none
   else none
  else
   ye (⟨dZ,c3,ed,d8,ec⟩:hN) dC >>= fun bO =>
   D9 dZ c3 ed d8 ec a3 dC bc.length ((R (a3+(1:Int))).toNat) bO (len_ eI bO) aL aM ao al aK 0 (bc++[(List.replicate (R (a3+(1:Int))).toNat (⟨false,([]:List Int)⟩:bx):List bx)]) >>= fun cb =>
   oK 1 >>= fun dp =>
   cb[bc.length]? >>= fun lA =>
   if 0≤(R (c3+dC))∧(R (c3+dC))<((R (a3+(1:Int))).toNat:Nat) then
   lA[(0+(R (c3+dC)).toNat)]? >>= fun mL =>
   oK (R ((1:Int)*fE)) >>= fun fl =>
   (cb.set bc.length (lA.set (0+(R (c3+dC)).toNat) dp))[bc.length]? >>= fun pg =>
   if 0≤a3∧a3<((R (a3+(1:Int))).toNat:Nat) then
   pg[(0+a3.toNat)]? >>= fun wh =>
   if (ao++([(some (bc.length,(R (a3+(1:Int))).toNat))]:List bF)).length*24≤140737488355328 then
   if (al++([R (c3+dC)]:List Int)).length*8≤140737488355328 then
   some (.inl (R (dC+(1:Int)),ao++([(some (bc.length,(R (a3+(1:Int))).toNat))]:List bF),(cb.set bc.length (lA.set (0+(R (c3+dC)).toNat) dp)).set bc.length (pg.set (0+a3.toNat) fl),al++([R (c3+dC)]:List Int)))
   else none
   else none
   else none
   else none
  else none
  else none
 else
  some (.inr (ao,bc,al))
def Ea (dZ c3:Int)(ed d8 ec:List Int)(a3:Int)(aL:Bool)(aM:List Int)(aK:List Bool)(dC:Int)(ao:List bF)(bc:List (List bx))(al:List Int):Option ((List bF)×(List (List bx))×(List Int)):=iter (fun w:Int×(List bF)×(List (List bx))×(List Int)=>xM dZ c3 ed d8 ec a3 aL aM aK w.1 w.2.1 w.2.2.1 w.2.2.2) (dC,ao,bc,al)
theorem Wx {dZ c3:Int}{ed d8 ec:List Int}{a3:Int}{aL:Bool}{aM:List Int}{aK:List Bool}{dC:Int}{ao:List bF}{bc:List (List bx)}{al:List Int}:bD (xM dZ c3 ed d8 ec a3 aL aM aK dC ao bc al) (dO a4 205 0 59 [1,1,1,0,1,0,0] (IK dZ c3 ed d8 ec a3 aL aM aK (dC,ao,bc,al)) (IK dZ c3 ed d8 ec a3 aL aM aK) (Jn dZ c3 ed d8 ec a3 aL aM aK)):=by
 unfold xM
 exact .ite (fun h1 =>
  .aY fun o =>
  .aY fun af =>
  .ar fun fE aA =>
  (let t1:List b0:=[(J 1),.aa true,(J 2),.aw (bq 2 (.wu 2 (bc.length+0) (.b5 [.b false,.isl 1 (([]:List Int).map eI)])) 1),(J 1),.aw (bq 6 (.b5 (eI fE)) 1)];
  have aV:=((.bi h1 o.1 (Int.le_refl (R (a3+(1:Int)))) o.2.1 o.2.2 (congrArg (· + 0) (L0 (gu .live 2 a1 bc) rfl)) af.1 (cX eI af.2) (.e1 (b1 eI aA))):cA _);
  .ite (fun aX =>
  .ar fun bO bl =>
  .ar fun cb cQ =>
  .ar fun dp eK =>
  .ar fun lA eL =>
  .aY fun fM =>
  .ar fun mL hQ =>
  .ar fun fl gy =>
  .ar fun pg gM =>
  .aY fun ig =>
  .ar fun wh r6 =>
  .aY fun p5 =>
  .aY fun we =>
  .ret (let a7:=(R (a3+(1:Int)));let bZ:=R (c3+dC);let q1:=(ps (gu .live 2 a1 cb) bc.length (nr (cZ a1 lA) (0+bZ.toNat) dp (rfl:(setCells (a1 mL) 0 (a1 dp))=a1 dp)));let cC:=b2 [0,36,1,52,4];let dr:=(al++([bZ]:List Int));let f8:=(ao++([(some (bc.length,a7.toNat))]:List bF));let h7:=ke (gu .live 2 a1 cb) jv eL;bg (t1.append [.aa true,(J 1),.aw (bq 2 (bu 2 (.isl 1 (bO.map eI)) false) 2),.aN [0,2,1,3,4] [.box [.id,.id,.id,.id,.id,.id],.bM (cf 2 a1 (bc++[(List.replicate a7.toNat (⟨false,([]:List Int)⟩:bx):List bx)])),.bM (au 1 (br 1 0 2) ao),.pure,.pure] (a8 [0,4,5,6,7,8,34,35,51,52,53]),(Jl dZ c3 ed d8 ec a3 dC bc.length (a7.toNat) bO (len_ eI bO) aL aM ao al aK cb).e8,.aw (ai 7 (aj (bu 1 (.agg (a1 dp)) false) (aj (.gv (ae.mk 2 (lA.map a1) .live) []) (aj (.gv (ae.mk 2 (lA.map a1) .live) (a1 mL)) [])))),.aw (ai 9 (aj (.b5 (eI fE)) (ai 1 (aj (bu 1 (.agg (a1 fl)) false) (aj (.gv (ae.mk 2 (pg.map a1) .live) []) (aj (.gv (ae.mk 2 (pg.map a1) .live) (a1 wh)) [])))))),.aw (ai 6 (aj (.kw 93 (lT 1 0 2 (some (bc.length,a7.toNat))) .none) (aj (.aI (f8.length)) (ai 3 [])))),.aw (bq 12 (.aI (dr.length)) 3),(J 2),.aN [0,36,1,52,4] [.box [.id,.id,.id,.id,.id,.id],.bM (au 1 (br 2 0 2) f8),.bM (cf 2 a1 ((cb.set bc.length (lA.set (0+bZ.toNat) dp)).set bc.length (pg.set (0+a3.toNat) fl))),.cG (au 1 eI dr),.pure] (a8 [0,4,5,34,35])]) (aV.aI (.bi aX (OM bO bl) (nv (cd:=(b2 [0,2,1,3,4])) (E9 (gu .live 2 a1 bc) (Fj sm 10 2 (bc.length+0) (lY a1 a7.toNat (⟨false,([]:List Int)⟩:bx)) (Fk 10 2 (bc.length+0)))) (mE fm)) (eH (b2 [0,2,1,3,4]) 1 2 0 2 rfl ao) (aJ 1 .live aO al) (aJ 1 .live e9 aK) (X8 cQ) (sj dp eK) (.bi h7 fM.1 fM.2 h7 (b1 a1 hQ) af.1 (cX eI af.2) (b1 eI aA) (.bi (sj fl gy) (ke q1 jv gM) ig.1 ig.2 (ke q1 jv gM) (b1 a1 r6) (.s2 1 0 2 bc.length (a7.toNat):kC (.bh 1 (bc.length+0) 0 (a7.toNat)) (lT 1 0 2 (some (bc.length,a7.toNat)))) (gF (br 1 0 2) (some (bc.length,a7.toNat))) (.bi (g9 (br 1 0 2) ao) (gG (br 1 0 2) ao (some (bc.length,a7.toNat))) p5 (gF eI bZ) (g9 eI al) (gG eI al bZ) we (db (sb (cd:=cC) 1 .live (br 2 0 2) (hf (br 1 0 2) ao (some (bc.length,a7.toNat))) (tL (rfl:cC 1=some 2))) (nQ (cd:=cC))) (.c4 (nv (cd:=cC) (ps q1 bc.length (nr (cZ a1 pg) (0+a3.toNat) fl (rfl:(setCells (a1 wh) 0 (a1 fl))=a1 fl))) (mE fm)) (c2 1 .live (hf eI al bZ)) (aJ 1 .live aO dr) (aJ 1 .live e9 aK)))))))))
  (fun aX =>
  .ar fun bO bl =>
  .ar fun cb cQ =>
  .ar fun dp eK =>
  .ar fun lA eL =>
  .aY fun fM =>
  .ar fun mL hQ =>
  .ar fun fl gy =>
  .ar fun pg gM =>
  .aY fun ig =>
  .ar fun wh r6 =>
  .aY fun p5 =>
  .aY fun we =>
  .ret (let jw:=(R (a3+(1:Int)));let lQ:=R (c3+dC);let fx:=(ps (gu .live 2 a1 cb) bc.length (nr (cZ a1 lA) (0+lQ.toNat) dp (rfl:(setCells (a1 mL) 0 (a1 dp))=a1 dp)));let jf:=b2 [0,36,1,52,4];let p3:=(al++([lQ]:List Int));let mJ:=(ao++([(some (bc.length,jw.toNat))]:List bF));let p4:=ke (gu .live 2 a1 cb) jv eL;bg (t1.append [.aa false,.aw (bq 2 (bu 2 (.isl 1 (bO.map eI)) false) 2),.aN [0,2,1,3,4] [.box [.id,.id,.id,.id,.id,.id],.bM (cf 2 a1 (bc++[(List.replicate jw.toNat (⟨false,([]:List Int)⟩:bx):List bx)])),.bM (au 1 (br 1 0 2) ao),.pure,.pure] (a8 [0,4,5,6,7,8,34,35,51,52,53]),(Jm dZ c3 ed d8 ec a3 dC bc.length (jw.toNat) bO (len_ eI bO) aL aM ao al aK cb).e8,.aw (ai 7 (aj (bu 1 (.agg (a1 dp)) false) (aj (.gv (ae.mk 2 (lA.map a1) .live) []) (aj (.gv (ae.mk 2 (lA.map a1) .live) (a1 mL)) [])))),.aw (ai 9 (aj (.b5 (eI fE)) (ai 1 (aj (bu 1 (.agg (a1 fl)) false) (aj (.gv (ae.mk 2 (pg.map a1) .live) []) (aj (.gv (ae.mk 2 (pg.map a1) .live) (a1 wh)) [])))))),.aw (ai 6 (aj (.kw 93 (lT 1 0 2 (some (bc.length,jw.toNat))) .none) (aj (.aI (mJ.length)) (ai 3 [])))),.aw (bq 12 (.aI (p3.length)) 3),(J 2),.aN [0,36,1,52,4] [.box [.id,.id,.id,.id,.id,.id],.bM (au 1 (br 2 0 2) mJ),.bM (cf 2 a1 ((cb.set bc.length (lA.set (0+lQ.toNat) dp)).set bc.length (pg.set (0+a3.toNat) fl))),.cG (au 1 eI p3),.pure] (a8 [0,4,5,34,35])]) (aV.aI (.bi aX (OM bO bl) (nv (cd:=(b2 [0,2,1,3,4])) (E9 (gu .live 2 a1 bc) (Fj sm 10 2 (bc.length+0) (lY a1 jw.toNat (⟨false,([]:List Int)⟩:bx)) (Fk 10 2 (bc.length+0)))) (mE fm)) (eH (b2 [0,2,1,3,4]) 1 2 0 2 rfl ao) (aJ 1 .live aO al) (aJ 1 .live e9 aK) (X9 cQ) (sj dp eK) (.bi p4 fM.1 fM.2 p4 (b1 a1 hQ) af.1 (cX eI af.2) (b1 eI aA) (.bi (sj fl gy) (ke fx jv gM) ig.1 ig.2 (ke fx jv gM) (b1 a1 r6) (.s2 1 0 2 bc.length (jw.toNat):kC (.bh 1 (bc.length+0) 0 (jw.toNat)) (lT 1 0 2 (some (bc.length,jw.toNat)))) (gF (br 1 0 2) (some (bc.length,jw.toNat))) (.bi (g9 (br 1 0 2) ao) (gG (br 1 0 2) ao (some (bc.length,jw.toNat))) p5 (gF eI lQ) (g9 eI al) (gG eI al lQ) we (db (sb (cd:=jf) 1 .live (br 2 0 2) (hf (br 1 0 2) ao (some (bc.length,jw.toNat))) (tL (rfl:jf 1=some 2))) (nQ (cd:=jf))) (.c4 (nv (cd:=jf) (ps fx bc.length (nr (cZ a1 pg) (0+a3.toNat) fl (rfl:(setCells (a1 wh) 0 (a1 fl))=a1 fl))) (mE fm)) (c2 1 .live (hf eI al lQ)) (aJ 1 .live aO p3) (aJ 1 .live e9 aK)))))))))))
  (fun h1 =>
  .ret (bg [(J 1),.aa false,.aN [0,1,2,3,4] [.box [.id,.id,.id,.id,.id,.id],.bM (au 1 (br 2 0 2) ao),.bM (cf 2 a1 bc),.pure,.pure] (a8 [0,4,5])] (.dh h1 (eH (b2 [0,1,2,3,4]) 2 2 0 2 rfl ao) (dY (b2 [0,1,2,3,4]) 2 fm bc) (aJ 1 .live aO al) (aJ 1 .live e9 aK))))
theorem Ya {dZ c3:Int}{ed d8 ec:List Int}{a3:Int}{aL:Bool}{aM:List Int}{aK:List Bool}{dC:Int}{ao:List bF}{bc:List (List bx)}{al:List Int}{r} (h:Ea dZ c3 ed d8 ec a3 aL aM aK dC ao bc al=some r):dP a4 205 0 59 [1,1,1,0,1,0,0] (IK dZ c3 ed d8 ec a3 aL aM aK) (Jn dZ c3 ed d8 ec a3 aL aM aK) (dC,ao,bc,al) r:=dQ (fun _=>Wx) h
def IL (dZ c3:Int)(ed d8 ec:List Int)(a3 oR:Int)(aL:Bool)(aM:List Int)(aC:List bF)(dE:List (List bx))(aK:List Int):(Int×(List Int)×(List Bool))→S:=fun (gV,ao,bL)=>dv [(0,.dS 5 [[.n .i64 dZ,.n .i64 c3,.isl 1 (ed.map eI),.isl 1 (d8.map eI),.isl 1 (ec.map eI)]] 0 0),(4,.n .i64 a3),(5,.ref 0 0 0 0),(11,.bh 1 0 0 ao.length),(117,.n .i64 oR),(118,.n .i64 gV)] [[ae.mk 6 [(fX 2 0 0 aC.length aL aM 4 0 0 aK.length a3 5 0 0 bL.length)] .live],(au 1 eI ao),(au 1 (br 3 0 2) aC),(cf 2 a1 dE),(au 1 eI aK),(au 1 eu bL)]
def Jo (dZ c3:Int)(ed d8 ec:List Int)(a3 oR:Int)(aL:Bool)(aM:List Int)(aC:List bF)(dE:List (List bx))(aK:List Int):((List Int)×(List Bool))→dy
 | a=>⟨some 4,[(0,.dS 5 [[.n .i64 dZ,.n .i64 c3,.isl 1 (ed.map eI),.isl 1 (d8.map eI),.isl 1 (ec.map eI)]] 0 0),(4,.n .i64 a3),(5,.ref 0 0 0 0),(11,.bh 1 0 0 a.1.length)],[[ae.mk 6 [(fX 2 0 0 aC.length aL aM 4 0 0 aK.length a3 5 0 0 a.2.length)] .live],(au 1 eI a.1),(au 1 (br 3 0 2) aC),(cf 2 a1 dE),(au 1 eI aK),(au 1 eu a.2)]⟩
def xN (dZ c3:Int)(ed d8 ec:List Int)(a3 oR:Int)(aL:Bool)(aM:List Int)(aC:List bF)(dE:List (List bx))(aK:List Int)(gV:Int)(ao:List Int)(bL:List Bool):Option ((Int×(List Int)×(List Bool))⊕((List Int)×(List Bool))) :=
 if (decide (gV<oR))=true then
  if 0≤gV∧gV<(bL.length:Nat) then
  if (0+gV.toNat)<bL.length then
  if (decide (c3≤gV))=true then
   if 0≤gV∧gV<(ao.length:Nat) then
   if (0+gV.toNat)<ao.length then
   some (.inl (R (gV+(1:Int)),ao.set (0+gV.toNat) (-1),bL.set (0+gV.toNat) (decide (gV<c3))))
   else none
   else none
  else
   some (.inl (R (gV+(1:Int)),ao,bL.set (0+gV.toNat) (decide (gV<c3))))
  else none
  else none
 else
  some (.inr (ao,bL))
def Eb (dZ c3:Int)(ed d8 ec:List Int)(a3 oR:Int)(aL:Bool)(aM:List Int)(aC:List bF)(dE:List (List bx))(aK:List Int)(gV:Int)(ao:List Int)(bL:List Bool):Option ((List Int)×(List Bool)):=iter (fun w:Int×(List Int)×(List Bool)=>xN dZ c3 ed d8 ec a3 oR aL aM aC dE aK w.1 w.2.1 w.2.2) (gV,ao,bL)
theorem Wy {dZ c3:Int}{ed d8 ec:List Int}{a3 oR:Int}{aL:Bool}{aM:List Int}{aC:List bF}{dE:List (List bx)}{aK:List Int}{gV:Int}{ao:List Int}{bL:List Bool}:bD (xN dZ c3 ed d8 ec a3 oR aL aM aC dE aK gV ao bL) (dO a4 205 0 59 [1,1,1,1,1,0,1,0,0] (IL dZ c3 ed d8 ec a3 oR aL aM aC dE aK (gV,ao,bL)) (IL dZ c3 ed d8 ec a3 oR aL aM aC dE aK) (Jo dZ c3 ed d8 ec a3 oR aL aM aC dE aK)):=by
 unfold xN
 exact .ite (fun h1 =>
  .aY fun o =>
  .aY fun af =>
  (let t1:List b0:=[(J 1),.aa true,(J 2),.aw (ai 12 (aj .fZ [])),(J 6)];
  have aV:=((.dh h1 o.1 o.2 (hT eu af) (hM 1)):cA _);
  .ite (fun av =>
  .aY fun aA =>
  .aY fun aX =>
  .ret (let q1:=b2 [0,1,2,3,4,5];bg (t1.append [.aa true,.aw (ai 3 (aj .fZ [])),(J 2),.aN [0,1,2,3,4,5] [.box [.id,.id,.id,.id,.id,.len ((bL.set (0+gV.toNat) (decide (gV<c3))).length)],.cG (au 1 eI (ao.set (0+gV.toNat) (-1))),.bM (au 1 (br 3 0 2) aC),.bM (cf 2 a1 dE),.pure,.cG (au 1 eu (bL.set (0+gV.toNat) (decide (gV<c3))))] [(0,ii),(4,ii),(5,ii),(11,fW ((ao.set (0+gV.toNat) (-1)).length)),(117,ii),(118,ii)]]) (aV.aI (.bi av aA.1 aA.2 (hT eI aX) (hM 1) (hi (dX bL) (0+gV.toNat) (decide (gV<c3))) (c2 1 .live (gP (cZ eI ao) (0+gV.toNat) (-1))) (aJ 1 .live aO (ao.set (0+gV.toNat) (-1))) (.dW (eH q1 3 3 0 2 rfl aC) (dY q1 2 fm dE) (aJ 1 .live aO aK) (c2 1 .live (gP (cZ eu bL) (0+gV.toNat) (decide (gV<c3)))) (aJ 1 .live e9 (bL.set (0+gV.toNat) (decide (gV<c3)))) (hi (dX ao) (0+gV.toNat) (-1)))))))
  (fun av =>
  .ret (let a7:=b2 [0,1,2,3,4,5];bg (t1.append [.aa false,(J 2),.aN [0,1,2,3,4,5] [.box [.id,.id,.id,.id,.id,.len ((bL.set (0+gV.toNat) (decide (gV<c3))).length)],.pure,.bM (au 1 (br 3 0 2) aC),.bM (cf 2 a1 dE),.pure,.cG (au 1 eu (bL.set (0+gV.toNat) (decide (gV<c3))))] (a8 [0,4,5,11,117,118])]) (aV.aI (.gz av (hi (dX bL) (0+gV.toNat) (decide (gV<c3))) (aJ 1 .live aO ao) (eH a7 3 3 0 2 rfl aC) (dY a7 2 fm dE) (aJ 1 .live aO aK) (c2 1 .live (gP (cZ eu bL) (0+gV.toNat) (decide (gV<c3)))) (aJ 1 .live e9 (bL.set (0+gV.toNat) (decide (gV<c3))))))))))
  (fun h1 =>
  .ret (let bZ:=b2 [0,1,2,3,4,5];bg [(J 1),.aa false,.aN [0,1,2,3,4,5] [.box [.id,.id,.id,.id,.id,.id],.pure,.bM (au 1 (br 3 0 2) aC),.bM (cf 2 a1 dE),.pure,.pure] (a8 [0,4,5,11])] (.dW h1 (aJ 1 .live aO ao) (eH bZ 3 3 0 2 rfl aC) (dY bZ 2 fm dE) (aJ 1 .live aO aK) (aJ 1 .live e9 bL))))
theorem Yb {dZ c3:Int}{ed d8 ec:List Int}{a3 oR:Int}{aL:Bool}{aM:List Int}{aC:List bF}{dE:List (List bx)}{aK:List Int}{gV:Int}{ao:List Int}{bL:List Bool}{r} (h:Eb dZ c3 ed d8 ec a3 oR aL aM aC dE aK gV ao bL=some r):dP a4 205 0 59 [1,1,1,1,1,0,1,0,0] (IL dZ c3 ed d8 ec a3 oR aL aM aC dE aK) (Jo dZ c3 ed d8 ec a3 oR aL aM aC dE aK) (gV,ao,bL) r:=dQ (fun _=>Wy) h
def IM (dZ c3:Int)(ed d8 ec:List Int)(a3 oS:Int)(aL:Bool)(aM:List Int)(bz:Int)(ao:List Int)(aC:List bF)(dE:List (List bx))(aK:List Bool):Int→S:=fun mZ=>dv [(0,.dS 5 [[.n .i64 dZ,.n .i64 c3,.isl 1 (ed.map eI),.isl 1 (d8.map eI),.isl 1 (ec.map eI)]] 0 0),(4,.n .i64 a3),(5,.ref 0 0 0 0),(149,.bh 1 0 0 ao.length),(150,.n .i64 oS),(151,.n .i64 mZ)] [[ae.mk 6 [(fX 2 0 0 aC.length aL aM 1 0 0 ao.length bz 4 0 0 aK.length)] .live],(au 1 eI ao),(au 1 (br 3 0 2) aC),(cf 2 a1 dE),(au 1 eu aK)]
def Jp (dZ c3:Int)(ed d8 ec:List Int)(a3 oS:Int)(aL:Bool)(aM:List Int)(bz:Int)(ao:List Int)(aC:List bF)(dE:List (List bx))(aK:List Bool):((Unit)⊕(Unit))→dy
 | .inl a=>⟨some 6,[(0,.dS 5 [[.n .i64 dZ,.n .i64 c3,.isl 1 (ed.map eI),.isl 1 (d8.map eI),.isl 1 (ec.map eI)]] 0 0),(5,.ref 0 0 0 0)],[[ae.mk 6 [(fX 1 0 0 aC.length aL aM 3 0 0 ao.length bz 4 0 0 aK.length)] .live],(au 1 (br 2 0 2) aC),(cf 2 a1 dE),(au 1 eI ao),(au 1 eu aK)]⟩
 | .inr a=>⟨none,[(2,.im),(3,.b false)],[]⟩
def xO (dZ c3:Int)(ed d8 ec:List Int)(a3 oS:Int)(aL:Bool)(aM:List Int)(bz:Int)(ao:List Int)(aC:List bF)(dE:List (List bx))(aK:List Bool)(mZ:Int):Option ((Int)⊕((Unit)⊕(Unit))) :=
 if (decide (mZ<oS))=true then
  if 0≤mZ∧mZ<(ao.length:Nat) then
  ao[(0+mZ.toNat)]? >>= fun az =>
  if (decide (c3≤az))=true then
   if 0≤mZ∧mZ<(aC.length:Nat) then
   aC[(0+mZ.toNat)]? >>= fun c9 =>
   c9 >>= fun me =>
   dE[me.1]? >>= fun FU =>
   if 0≤a3∧a3<(me.2:Nat) then
   FU[(0+a3.toNat)]? >>= fun Nj =>
   pn Nj >>= fun el =>
   if (decide ((0:Int)<el))=true then
    some (.inr (.inr ()))
   else
    some (.inl (R (mZ+(1:Int))))
   else none
   else none
  else
   some (.inl (R (mZ+(1:Int))))
  else none
 else
  some (.inr (.inl ()))
def Ec (dZ c3:Int)(ed d8 ec:List Int)(a3 oS:Int)(aL:Bool)(aM:List Int)(bz:Int)(ao:List Int)(aC:List bF)(dE:List (List bx))(aK:List Bool)(mZ:Int):Option ((Unit)⊕(Unit)):=iter (fun w:Int=>xO dZ c3 ed d8 ec a3 oS aL aM bz ao aC dE aK w) mZ
theorem Wz {dZ c3:Int}{ed d8 ec:List Int}{a3 oS:Int}{aL:Bool}{aM:List Int}{bz:Int}{ao:List Int}{aC:List bF}{dE:List (List bx)}{aK:List Bool}{mZ:Int}:bD (xO dZ c3 ed d8 ec a3 oS aL aM bz ao aC dE aK mZ) (dO a4 205 0 59 [1,1,1,1,1,1,1,0,1,0,0] (IM dZ c3 ed d8 ec a3 oS aL aM bz ao aC dE aK mZ) (IM dZ c3 ed d8 ec a3 oS aL aM bz ao aC dE aK) (Jp dZ c3 ed d8 ec a3 oS aL aM bz ao aC dE aK)):=by
 unfold xO
 exact .ite (fun h1 =>
  .aY fun o =>
  .ar fun az av =>
  (let t1:List b0:=[(J 1),.aa true,.aw (bq 2 (.b5 (eI az)) 2)];
  .ite (fun aA =>
  .aY fun aX =>
  .ar fun c9 bl =>
  .ar fun me cQ =>
  .ar fun FU eK =>
  .aY fun eU =>
  .ar fun Nj fM =>
  .ar fun el hQ =>
  (let q1:=ke (gu .live 2 a1 dE) jv eK;let t2:List b0:=t1.append [.aw (ai 13 (aj (.b5 ((br 3 0 2) c9)) (ai 1 (aj (.kw 169 (.bh 3 (me.1+0) 0 me.2) (.gv (ae.mk 2 (FU.map a1) .live) [])) (aj (.gv (ae.mk 2 (FU.map a1) .live) (a1 Nj)) (aj (bu 1 (.n .i64 el) true) (ai 1 (aj (.aa true) []))))))))];
  have fI:=((.bi h1 o.1 o.2 (b1 eI av) aA aA aA aA (.bi aA aA aX.1 aX.2 aA (b1 (br 3 0 2) bl) aA aA (.bi (mi (ea:=3) (c:=0) (sz:=2) cQ) q1 eU.1 eU.2 aA q1 (b1 a1 fM) aA (.c4 (tn el hQ) (bR.n .i64 el) aA aA)))):cA _);
  .ite (fun hD =>
  .ret (bg (t2.append [.aa true,(J 2),.aN [] [] (a8 [2,3])]) (fI.aI (.e1 hD))))
  (fun hD =>
  .ret (bg (t2.append [.aa false,(J 2),.aN [0,1,2,3,4] [.box [.id,.id,.id,.id,.id,.id],.pure,.bM (au 1 (br 3 0 2) aC),.bM (cf 2 a1 dE),.pure] (a8 [0,4,5,149,150,151])]) (fI.aI (.dh hD (aJ 1 .live aO ao) (eH (b2 [0,1,2,3,4]) 3 3 0 2 rfl aC) (dY (b2 [0,1,2,3,4]) 2 fm dE) (aJ 1 .live e9 aK)))))))
  (fun aA =>
  .ret (bg (t1.append [.aw (ai 7 (cx 12 (aj (.aa false) []))),.aa false,(J 2),.aN [0,1,2,3,4] [.box [.id,.id,.id,.id,.id,.id],.pure,.bM (au 1 (br 3 0 2) aC),.bM (cf 2 a1 dE),.pure] (a8 [0,4,5,149,150,151])]) (.bi h1 o.1 o.2 (b1 eI av) aA aA aA aA (.bi aA aA aA aA aA aA aA aA (.dW aA cK (aJ 1 .live aO ao) (eH (b2 [0,1,2,3,4]) 3 3 0 2 rfl aC) (dY (b2 [0,1,2,3,4]) 2 fm dE) (aJ 1 .live e9 aK))))))))
  (fun h1 =>
  .ret (bg [(J 1),.aa false,.aN [0,2,3,1,4] [.box [.id,.id,.id,.id,.id,.id],.bM (au 1 (br 2 0 2) aC),.bM (cf 2 a1 dE),.pure,.pure] (a8 [0,5])] (.dh h1 (eH (b2 [0,2,3,1,4]) 2 3 0 2 rfl aC) (dY (b2 [0,2,3,1,4]) 2 fm dE) (aJ 1 .live aO ao) (aJ 1 .live e9 aK))))
theorem OY {dZ c3:Int}{ed d8 ec:List Int}{a3 oS:Int}{aL:Bool}{aM:List Int}{bz:Int}{ao:List Int}{aC:List bF}{dE:List (List bx)}{aK:List Bool}{mZ:Int}{r} (h:Ec dZ c3 ed d8 ec a3 oS aL aM bz ao aC dE aK mZ=some r):dP a4 205 0 59 [1,1,1,1,1,1,1,0,1,0,0] (IM dZ c3 ed d8 ec a3 oS aL aM bz ao aC dE aK) (Jp dZ c3 ed d8 ec a3 oS aL aM bz ao aC dE aK) mZ r:=dQ (fun _=>Wz) h
def IP (dZ c3:Int)(ed d8 ec:List Int)(oT:Int)(aL:Bool)(aM:List Int)(bz:Int)(ao:List bF)(bc:List (List bx))(al:List Int):(Int×(List Bool))→S:=fun (kN,aK)=>dv [(0,.dS 5 [[.n .i64 dZ,.n .i64 c3,.isl 1 (ed.map eI),.isl 1 (d8.map eI),.isl 1 (ec.map eI)]] 0 0),(5,.ref 0 0 0 0),(181,.n .i64 oT),(182,.n .i64 kN)] [[ae.mk 6 [(fX 1 0 0 ao.length aL aM 3 0 0 al.length bz 4 0 0 aK.length)] .live],(au 1 (br 2 0 2) ao),(cf 2 a1 bc),(au 1 eI al),(au 1 eu aK)]
def Jq (dZ c3:Int)(ed d8 ec:List Int)(oT:Int)(aL:Bool)(aM:List Int)(bz:Int)(ao:List bF)(bc:List (List bx))(al:List Int):(List Bool)→dy
 | a=>⟨some 8,[(0,.dS 5 [[.n .i64 dZ,.n .i64 c3,.isl 1 (ed.map eI),.isl 1 (d8.map eI),.isl 1 (ec.map eI)]] 0 0),(5,.ref 0 0 0 0)],[[ae.mk 6 [(fX 1 0 0 ao.length aL aM 3 0 0 al.length bz 4 0 0 a.length)] .live],(au 1 (br 2 0 2) ao),(cf 2 a1 bc),(au 1 eI al),(au 1 eu a)]⟩
def xP (dZ c3:Int)(ed d8 ec:List Int)(oT:Int)(aL:Bool)(aM:List Int)(bz:Int)(ao:List bF)(bc:List (List bx))(al:List Int)(kN:Int)(aK:List Bool):Option ((Int×(List Bool))⊕((List Bool))) :=
 if (decide (kN<oT))=true then
  if 0≤kN∧kN<(aK.length:Nat) then
  if (0+kN.toNat)<aK.length then
  some (.inl (R (kN+(1:Int)),aK.set (0+kN.toNat) (decide (kN<c3))))
  else none
  else none
 else
  some (.inr aK)
def Ed (dZ c3:Int)(ed d8 ec:List Int)(oT:Int)(aL:Bool)(aM:List Int)(bz:Int)(ao:List bF)(bc:List (List bx))(al:List Int)(kN:Int)(aK:List Bool):Option ((List Bool)):=iter (fun w:Int×(List Bool)=>xP dZ c3 ed d8 ec oT aL aM bz ao bc al w.1 w.2) (kN,aK)
theorem WA {dZ c3:Int}{ed d8 ec:List Int}{oT:Int}{aL:Bool}{aM:List Int}{bz:Int}{ao:List bF}{bc:List (List bx)}{al:List Int}{kN:Int}{aK:List Bool}:bD (xP dZ c3 ed d8 ec oT aL aM bz ao bc al kN aK) (dO a4 205 0 59 [1,1,1,1,1,1,1,1,0,1,0,0] (IP dZ c3 ed d8 ec oT aL aM bz ao bc al (kN,aK)) (IP dZ c3 ed d8 ec oT aL aM bz ao bc al) (Jq dZ c3 ed d8 ec oT aL aM bz ao bc al)):=by
 unfold xP
 exact .ite (fun h1 =>
  .aY fun o =>
  .aY fun af =>
  .ret (bg [(J 1),.aa true,(J 2),.aw (ai 12 (aj .fZ [])),(J 2),.aN [0,1,2,3,4] [.box [.id,.id,.id,.id,.id,.len ((aK.set (0+kN.toNat) (decide (kN<c3))).length)],.bM (au 1 (br 2 0 2) ao),.bM (cf 2 a1 bc),.pure,.cG (au 1 eu (aK.set (0+kN.toNat) (decide (kN<c3))))] (a8 [0,5,181,182])] (.bi h1 o.1 o.2 (hT eu af) (hM 1) (hi (dX aK) (0+kN.toNat) (decide (kN<c3))) (eH (b2 [0,1,2,3,4]) 2 2 0 2 rfl ao) (dY (b2 [0,1,2,3,4]) 2 fm bc) (.bP (aJ 1 .live aO al) (c2 1 .live (gP (cZ eu aK) (0+kN.toNat) (decide (kN<c3)))) (aJ 1 .live e9 (aK.set (0+kN.toNat) (decide (kN<c3))))))))
  (fun h1 =>
  .ret (bg [(J 1),.aa false,.aN [0,1,2,3,4] [.box [.id,.id,.id,.id,.id,.id],.bM (au 1 (br 2 0 2) ao),.bM (cf 2 a1 bc),.pure,.pure] (a8 [0,5])] (.dh h1 (eH (b2 [0,1,2,3,4]) 2 2 0 2 rfl ao) (dY (b2 [0,1,2,3,4]) 2 fm bc) (aJ 1 .live aO al) (aJ 1 .live e9 aK))))
theorem Yc {dZ c3:Int}{ed d8 ec:List Int}{oT:Int}{aL:Bool}{aM:List Int}{bz:Int}{ao:List bF}{bc:List (List bx)}{al:List Int}{kN:Int}{aK:List Bool}{r} (h:Ed dZ c3 ed d8 ec oT aL aM bz ao bc al kN aK=some r):dP a4 205 0 59 [1,1,1,1,1,1,1,1,0,1,0,0] (IP dZ c3 ed d8 ec oT aL aM bz ao bc al) (Jq dZ c3 ed d8 ec oT aL aM bz ao bc al) (kN,aK) r:=dQ (fun _=>WA) h
def AW (cg:hN):Option ((Bool×(List Int)×Int×(List bF)×(List Int)×(List Bool)×(List (List bx)))⊕(Unit)) :=
 oK 1 >>= fun r1 =>
 if 0≤(R (cg.eh+cg.fz))∧(1:Int)*(R (cg.eh+cg.fz))≤281474976710656∧(R (cg.eh+cg.fz))<9223372036854775808 then
 Ea cg.fz cg.eh cg.dt cg.dM cg.hZ (R (cg.eh+cg.fz)) r1.c0 r1.cN (List.replicate (R (cg.eh+cg.fz)).toNat false:List Bool) 0 ([]:List bF) ([]:List (List bx)) ([]:List Int) >>= fun a6 =>
 if 0≤(R (cg.eh+cg.fz))∧(8:Int)*(R (cg.eh+cg.fz))≤281474976710656∧(R (cg.eh+cg.fz))<9223372036854775808 then
 Eb cg.fz cg.eh cg.dt cg.dM cg.hZ (R (cg.eh+cg.fz)) (((R (cg.eh+cg.fz)).toNat:Nat):Int) r1.c0 r1.cN a6.1 a6.2.1 a6.2.2 0 (List.replicate (R (cg.eh+cg.fz)).toNat 0:List Int) (List.replicate (R (cg.eh+cg.fz)).toNat false:List Bool) >>= fun bO =>
 xq r1.c0 r1.cN (R (cg.eh+cg.fz)) a6.1 a6.2.1 a6.2.2 bO.2 bO.1 >>= fun cb =>
 Ec cg.fz cg.eh cg.dt cg.dM cg.hZ (R (cg.eh+cg.fz)) ((cb.2.2.2.2.1.length:Nat):Int) cb.2.1 cb.2.2.1 (R (cg.eh+cg.fz)) cb.2.2.2.2.1 a6.1 cb.2.2.2.1 cb.2.2.2.2.2 0 >>= fun dp =>
 match dp with
 | .inl hc=>(Ed cg.fz cg.eh cg.dt cg.dM cg.hZ ((cb.2.2.2.2.2.length:Nat):Int) cb.2.1 cb.2.2.1 (R (cg.eh+cg.fz)) a6.1 cb.2.2.2.1 cb.2.2.2.2.1 0 cb.2.2.2.2.2 >>= fun fp =>
  z6 cg.eh cb.2.1 cb.2.2.1 (R (cg.eh+cg.fz)) a6.1 cb.2.2.2.1 cb.2.2.2.2.1 fp >>= fun el =>
  some (.inl (el.1,el.2.1,(R (cg.eh+cg.fz)),el.2.2.1,el.2.2.2.2,fp,el.2.2.2.1)))
 | .inr hc=>(some (.inr ()))
 else none
 else none
set_option maxHeartbeats 4000000 in
theorem Pn {cg:hN}:bD (AW cg) (Sum.elim (fun a=>Con a4 59 [.dS 5 [(oi cg)] 0 0] [] (.ee [.ref 0 0 0 0,.b true]) [(ae.mk 6 [(fX 0 1 0 a.2.2.2.1.length a.1 a.2.1 0 2 0 a.2.2.2.2.1.length a.2.2.1 0 3 0 a.2.2.2.2.2.1.length)] .live::ae.mk 1 (a.2.2.2.1.map (br 0 4 2)) .live::ae.mk 1 (a.2.2.2.2.1.map eI) .live::ae.mk 1 (a.2.2.2.2.2.1.map eu) .live::(cf 2 a1 a.2.2.2.2.2.2))]) (fun a=>Con a4 59 [.dS 5 [(oi cg)] 0 0] [] (.ee [.im,.b false]) [])):=by
 unfold AW
 exact .ar fun r1 o =>
  .aY fun af =>
  .ar fun a6 aA =>
  .aY fun aX =>
  .ar fun bO bl =>
  .ar fun cb cQ =>
  .ar fun dp eK =>
  (let jf:=R (cg.eh+cg.fz);let p3:=fX 1 0 0 a6.1.length cb.2.1 cb.2.2.1 3 0 0 cb.2.2.2.2.1.length jf 4 0 0 cb.2.2.2.2.2.length;let mJ:=fX 2 0 0 a6.1.length cb.2.1 cb.2.2.1 4 0 0 cb.2.2.2.2.1.length jf 5 0 0 cb.2.2.2.2.2.length;let p4:=(List.replicate jf.toNat false:List Bool);let v8:=b2 [17,24,25,26,15];let v9:=fX 1 0 0 a6.1.length r1.c0 r1.cN 3 0 0 a6.2.2.length jf 4 0 0 bO.2.length;let zG:=fX 2 0 0 a6.1.length r1.c0 r1.cN 4 0 0 a6.2.2.length jf 5 0 0 bO.2.length;let zD:=cf 2 a1 cb.2.2.2.1;let wa:=(List.replicate jf.toNat 0:List Int);let wb:=au 1 (br 3 0 2) a6.1;let zE:=pF [0,2,3,4,5,1];let zF:=ij [0,2,3,4,5,1];let wc:=au 1 (br 2 0 2) a6.1;let CT:=b2 [0,6,1,2,3,4];let t1:List b0:=[(J 2),(J 10),.aw (bq 1 (bu 1 (.agg (a1 r1)) false) 5),(J 5),.r4 17 0 1,.FM,.r4 17 3 1,.aN [17,24,25,26,15] [.box [.len (([]:List bF).length),.id,.id,.len (([]:List Int).length),.id,.len (p4.length)],.bM (au 1 (br 2 0 2) ([]:List bF)),.bM (cf 2 a1 ([]:List (List bx))),.cG (au 1 eI ([]:List Int)),.cG (au 1 eu p4)] (a8 [0,4,5,34,35]),(Jn cg.fz cg.eh cg.dt cg.dM cg.hZ jf r1.c0 r1.cN p4 a6).e8,(J 3),(J 3),.aN [0,6,1,2,3,4] [.box [.id,.id,.id,.id,.id,.id],.cG (au 1 eI wa),.bM wb,.bM (cf 2 a1 a6.2.1),.pure,.pure] [(0,ii),(4,ii),(5,ii),(11,fW (wa.length)),(117,ii),(118,ii)],(Jo cg.fz cg.eh cg.dt cg.dM cg.hZ jf ((jf.toNat:Nat):Int) r1.c0 r1.cN a6.1 a6.2.1 a6.2.2 bO).e8,.aw (ai 2 (aj (.call {a2:=(vX [0,2,3,4,5,1]),dc:=[.bM [ae.mk 6 [v9] .live],.bM wc,.bM (cf 2 a1 a6.2.1),.pure,.pure,.pure],ac:=[ii,ii],r:= .b cb.1,eV:=[[ae.mk 6 [p3] .live],wc,zD,(au 1 eI cb.2.2.2.2.1),(au 1 eu cb.2.2.2.2.2),(au 1 eI bO.1)],gr:=ii,hC:=[.bM [ae.mk 6 [mJ] .live],.bM wb,.bM zD,.pure,.pure,.pure],eC:=[0,1,2,3,4,5],ej:=false}) [])),(J 6),.aN [0,4,2,3,5] [.box [.id,.id,.id,.id,.id,.id],.pure,.bM wb,.bM zD,.pure] (a8 [0,4,5,149,150,151])];
  have aV:=((.bi (sj r1 o) af.1 (Int.le_refl jf) af.2.1 af.2.2 (fg bF) (fg Int) (mh jf.toNat (false:Bool)) (.bi (db (sb (cd:=v8) 1 .live (br 2 0 2) (nj (br 25 0 2)) (tL (rfl:v8 25=some 2))) (nQ (cd:=v8))) (nv (cd:=v8) (Sa .live 2 a1) (mE fm)) (c2 1 .live (nj eI)) (aJ 1 .live aO ([]:List Int)) (c2 1 .live (lY eu jf.toNat false)) (aJ 1 .live e9 p4) (Ya aA) aX.1 (.bi (Int.le_refl jf) aX.2.1 aX.2.2 (c2 1 .live (lY eI jf.toNat 0)) (aJ 1 .live aO wa) (eH CT 3 2 0 2 rfl a6.1) (dY CT 2 fm a6.2.1) (aJ 1 .live aO a6.2.2) (.bi (aJ 1 .live e9 p4) (mh jf.toNat (0:Int)) (Yb bl) (qP zE 6 [v9] [zG] rfl) (pG 6 [zG]) (eH zE 2 3 0 2 rfl a6.1) (pG 1 (a6.1.map (br 3 0 2))) (dY zE 2 fm a6.2.1) (.bi (um 2 a1 a6.2.1) (f9 1 aO a6.2.2) (f9 1 e9 bO.2) (f9 1 aO bO.1) (qP zF 6 [mJ] [p3] rfl) (pG 6 [p3]) (eH zF 3 2 0 2 rfl a6.1) (pG 1 (a6.1.map (br 2 0 2))) (.bi (dY zF 2 fm cb.2.2.2.1) (um 2 a1 cb.2.2.2.1) (f9 1 aO cb.2.2.2.2.1) (f9 1 e9 cb.2.2.2.2.2) (f9 1 aO bO.1) (VQ cb cQ) (aJ 1 .live aO cb.2.2.2.2.1) (eH (b2 [0,4,2,3,5]) 3 3 0 2 rfl a6.1) (.aD (dY (b2 [0,4,2,3,5]) 2 fm cb.2.2.2.1) (aJ 1 .live e9 cb.2.2.2.2.2)))))))):cA _);
  (by
  rcases dp with hc|hc
  ·exact (.ar fun fp fM =>
  .ar fun el hQ =>
  .ret (let bZ:=cf 2 a1 el.2.2.2.1;let cC:=au 1 (br 2 0 2) el.2.2.1;let dr:=R (cg.eh+cg.fz);let q1:=fX 1 0 0 el.2.2.1.length el.1 el.2.1 3 0 0 el.2.2.2.2.length dr 4 0 0 fp.length;let a7:=fX 1 0 0 a6.1.length cb.2.1 cb.2.2.1 3 0 0 cb.2.2.2.2.1.length dr 4 0 0 fp.length;let f8:=pF [0,1,2,3,4];let h7:=ij [0,1,2,3,4];let fx:=au 1 (br 0 4 2) el.2.2.1;let jw:=cf 2 a1 cb.2.2.2.1;let lQ:=au 1 (br 2 0 2) a6.1;kq (t1.append [(Jp cg.fz cg.eh cg.dt cg.dM cg.hZ dr ((cb.2.2.2.2.1.length:Nat):Int) cb.2.1 cb.2.2.1 dr cb.2.2.2.2.1 a6.1 cb.2.2.2.1 cb.2.2.2.2.2 (.inl hc)).e8,(J 6),.aN [0,1,2,3,4] [.box [.id,.id,.id,.id,.id,.id],.bM lQ,.bM jw,.pure,.pure] (a8 [0,5,181,182]),(Jq cg.fz cg.eh cg.dt cg.dM cg.hZ ((cb.2.2.2.2.2.length:Nat):Int) cb.2.1 cb.2.2.1 dr a6.1 cb.2.2.2.1 cb.2.2.2.2.1 fp).e8,.aw (ai 5 (aj (.call {a2:=(vX [0,1,2,3,4]),dc:=[.bM [ae.mk 6 [a7] .live],.bM lQ,.bM jw,.pure,.pure],ac:=[ii,ii],r:= .ee [],eV:=[[ae.mk 6 [q1] .live],cC,bZ,(au 1 eI el.2.2.2.2),(au 1 eu fp)],gr:=ii,hC:=[.bM [ae.mk 6 [q1] .live],.bM cC,.bM bZ,.pure,.pure],eC:=[0,1,2,3,4],ej:=false}) [])),(J 3),.CN [{bK:=[(0,0),(1,0),(3,0),(4,0)],iS:=some (2,0)}] [([.box [.at_ 0 1 el.2.2.1.length,.id,.id,.at_ 0 2 el.2.2.2.2.length,.id,.at_ 0 3 fp.length],.rx fx,.pure,.pure],some (.rx bZ))] [(2,.bp (.cJ (.at_ 0 0 0))),(3,ii)]]) [0] [.bM (ae.mk 6 [(fX 0 1 0 el.2.2.1.length el.1 el.2.1 0 2 0 el.2.2.2.2.length dr 0 3 0 fp.length)] .live::ae.mk 1 (el.2.2.1.map (br 0 4 2)) .live::ae.mk 1 (el.2.2.2.2.map eI) .live::ae.mk 1 (fp.map eu) .live::bZ)] (aV.aI (.bi (OY eK) (eH (b2 [0,1,2,3,4]) 2 2 0 2 rfl a6.1) (dY (b2 [0,1,2,3,4]) 2 fm cb.2.2.2.1) (aJ 1 .live aO cb.2.2.2.2.1) (aJ 1 .live e9 cb.2.2.2.2.2) (Yc fM) (qP f8 6 [a7] [a7] rfl) (pG 6 [a7]) (.bi (eH f8 2 2 0 2 rfl a6.1) (pG 1 (a6.1.map (br 2 0 2))) (dY f8 2 fm cb.2.2.2.1) (um 2 a1 cb.2.2.2.1) (f9 1 aO cb.2.2.2.2.1) (f9 1 e9 fp) (qP h7 6 [q1] [q1] rfl) (pG 6 [q1]) (.bi (eH h7 2 2 0 2 rfl el.2.2.1) (pG 1 (el.2.2.1.map (br 2 0 2))) (dY h7 2 fm el.2.2.2.1) (um 2 a1 el.2.2.2.1) (f9 1 aO el.2.2.2.2) (f9 1 e9 fp) (Wu el hQ) (rfl:(kS [{bK:=[(0,0),(1,0),(3,0),(4,0)],iS:=some (2,0)}]) 0 1=some (1,0)) (.bi (rfl:el.2.2.1.length=el.2.2.1.length) (rfl:(kS [{bK:=[(0,0),(1,0),(3,0),(4,0)],iS:=some (2,0)}]) 0 2=some (3,0)) (rfl:el.2.2.2.2.length=el.2.2.2.2.length) (rfl:(kS [{bK:=[(0,0),(1,0),(3,0),(4,0)],iS:=some (2,0)}]) 0 3=some (4,0)) (rfl:fp.length=fp.length) (RI (Mf (ki:=(br 0 4 2)) (cZ (br 2 0 2) el.2.2.1) (fun _=>rfl) (fun x=>(SI (fun _=>rfl)) x)) Sc:r2 (kS [{bK:=[(0,0),(1,0),(3,0),(4,0)],iS:=some (2,0)}]) cC fx) (aJ 1 .live aO el.2.2.2.2) (aJ 1 .live e9 fp) (.bP (RK (gu .live 2 a1 el.2.2.2.1) (fun _=>rfl) fm:r2 (kS [{bK:=[(0,0),(1,0),(3,0),(4,0)],iS:=some (2,0)}]) bZ bZ) (rfl:(kS [{bK:=[(0,0),(1,0),(3,0),(4,0)],iS:=some (2,0)}]) 0 0=some (0,0)) (db (show ae.mk 6 [(fX 0 1 0 el.2.2.1.length el.1 el.2.1 0 2 0 el.2.2.2.2.length (R (cg.eh+cg.fz)) 0 3 0 fp.length)] .live=gT (b2 [0]) (ae.mk 6 [(fX 0 1 0 el.2.2.1.length el.1 el.2.1 0 2 0 el.2.2.2.2.length (R (cg.eh+cg.fz)) 0 3 0 fp.length)] .live) from rfl) (db (ll (b2 [0]) 0 0 4 2 rfl el.2.2.1) (db (fO (b2 [0]) 1 kQ el.2.2.2.2) (db (fO (b2 [0]) 1 SH fp) (dY (b2 [0]) 2 fm el.2.2.2.1))))))))))) (.comp [.cJ .id,.cJ .id])))
  ·exact (.ret (kq (t1.append [.sub (.ret) [(2,.im),(3,.b false)] []]) [] [] (aV.aI (.e1 (OY eK)))))))
def tl (aH:cl)(cp:List Int):Option Bool :=
 zV aH cp 0 0 >>= fun r1 =>
 AW r1 >>= fun bn =>
 match bn with
 | .inl fv=>(some true)
 | .inr fv=>(some false)
theorem Oe {aH:cl}{cp:List Int}:bD (tl aH cp) (fun r=>Con a4 37 [.dS 2 [(gf aH)] 0 0,.isl 1 (cp.map eI)] [] (.b r) []):=by
 unfold tl
 exact .ar fun r1 o =>
  .ar fun bn av =>
  (let t1:List b0:=[(J 1),.aw (bq 2 (bu 4 (.agg (oi r1)) false) 2),.jd 4];
  have aV:=((.aD (Vf r1 o) (oj (Zn r1):iY [(oi r1)])):cA _);
  (by
  rcases bn with fv|fv
  ·exact (.ret (let q1:=fX 0 1 0 fv.2.2.2.1.length fv.1 fv.2.1 0 2 0 fv.2.2.2.2.1.length fv.2.2.1 0 3 0 fv.2.2.2.2.2.1.length;let a7:=cf 2 a1 fv.2.2.2.2.2.2;bA (t1.append [.aw (aj (.call {a2:=[],dc:=[],ac:=[.bp (.ptr [.id,.id,.id,.id,.id])],r:= .ee [.ref 0 0 0 0,.b true],eV:=[(ae.mk 6 [q1] .live::ae.mk 1 (fv.2.2.2.1.map (br 0 4 2)) .live::ae.mk 1 (fv.2.2.2.2.1.map eI) .live::ae.mk 1 (fv.2.2.2.2.2.1.map eu) .live::a7)],gr:= .comp [.cJ .id,.cJ .id],hC:=[.bM (ae.mk 6 [(fX 6 1 0 fv.2.2.2.1.length fv.1 fv.2.1 6 2 0 fv.2.2.2.2.1.length fv.2.2.1 6 3 0 fv.2.2.2.2.2.1.length)] .live::ae.mk 1 (fv.2.2.2.1.map (br 6 4 2)) .live::ae.mk 1 (fv.2.2.2.2.1.map eI) .live::ae.mk 1 (fv.2.2.2.2.2.1.map eu) .live::a7)],eC:=[4],ej:=false}) (ai 5 [])),(J 2)]) (aV.aI (.bP (db (show ae.mk 6 [(fX 6 1 0 fv.2.2.2.1.length fv.1 fv.2.1 6 2 0 fv.2.2.2.2.1.length fv.2.2.1 6 3 0 fv.2.2.2.2.2.1.length)] .live=gT (ij [6]) (ae.mk 6 [(fX 0 1 0 fv.2.2.2.1.length fv.1 fv.2.1 0 2 0 fv.2.2.2.2.1.length fv.2.2.1 0 3 0 fv.2.2.2.2.2.1.length)] .live) from rfl) (db (ll (ij [6]) 6 0 4 2 rfl fv.2.2.2.1) (db (fO (ij [6]) 1 kQ fv.2.2.2.2.1) (db (fO (ij [6]) 1 SH fv.2.2.2.2.2.1) (dY (ij [6]) 2 fm fv.2.2.2.2.2.2))))) ((iW rfl (iW rfl (iW rfl (iW rfl (vf (gu .live 2 a1 fv.2.2.2.2.2.2)))))):lM (ae.mk 6 [q1] .live::ae.mk 1 (fv.2.2.2.1.map (br 0 4 2)) .live::ae.mk 1 (fv.2.2.2.2.1.map eI) .live::ae.mk 1 (fv.2.2.2.2.2.1.map eu) .live::a7)) (Pn (.inl fv) av)))))
  ·exact (.ret (bA (t1.append [.aw (aj (.call {a2:=[],dc:=[],ac:=[.bp (.ptr [.id,.id,.id,.id,.id])],r:= .ee [.im,.b false],eV:=[],gr:=ii,hC:=[],eC:=[4],ej:=false}) (ai 5 [])),(J 2)]) (aV.aI (.e1 (Pn (.inr fv) av)))))))
def Ej (aH:cl)(cp:List Int):Option Bool :=
 u9 aH cp >>= fun r1 =>
 if r1=true then
  tl aH cp >>= fun a6 =>
  some a6
 else
  some false
theorem YP {aH:cl}{cp:List Int}:bD (Ej aH cp) (fun r=>Con a4 20 [.agg (gf aH),.isl 1 (cp.map eI)] [] (.b r) []):=by
 unfold Ej
 exact .ar fun r1 o =>
  (have b9:=((.aD (Py r1 o) (bR.b r1)):cA _);
  .ite (fun af =>
  .ar fun a6 aA =>
  .ret (bA [(J 2),.aw (ai 2 (aj (bu 2 (.b r1) true) (ai 2 (aj (.call {ac:=[.bp (.ptr [.id,.id]),ii],r:= .b a6,ej:=true,eC:=[0]}) (aj (.aa true) (ai 1 []))))))] (b9.aI (.dW af af (oj (tq aH):iY [(gf aH)]) (Oe a6 aA) (bR.b a6) af))))
  (fun af =>
  .ret (bA [(J 2),.aw (ai 2 (aj (bu 2 (.b r1) true) (ai 1 (cx 2 (aj (.aa false) (ai 1 []))))))] (b9.aI (.bP af af af)))))
def xB (aH:cl)(aQ:Int):Option Bool :=
 if (decide ((0:Int)≤aQ))=true then
  if (decide (aQ<(len_ bB aH.bs)))=true then
   if 0≤aQ∧aQ<aH.bs.length then
   aH.bs[aQ.toNat]? >>= fun fE =>
   some (fE.gk == (1:Int))
   else none
  else
   some false
 else
  some false
theorem Og {aH:cl}{aQ:Int}:bD (xB aH aQ) (fun r=>Con a4 38 [.dS 2 [(gf aH)] 0 0,.n .i64 aQ] [] (.b r) []):=by
 unfold xB
 exact .ite (fun h1 =>
  .ite (fun o =>
  .aY fun af =>
  .ar fun fE aA =>
  .ret (bA [(J 1),.aw (ai 10 (aj (.aa true) (ai 8 (aj (.b5 (bB fE)) (bq 1 (.aa true) 1)))))] (.bi h1 h1 h1 h1 h1 h1 h1 h1 (.bi o o o o o o af.1 (cX bB af.2) (.dh o o (b1 bB aA) o o)))))
  (fun o =>
  .ret (bA [(J 1),.aw (ai 10 (aj (.aa true) (ai 1 (cx 9 (aj (.aa false) (ai 1 []))))))] (.bi h1 h1 h1 h1 h1 h1 h1 h1 (.bi o o o o o o o o (.aD o o))))))
  (fun h1 =>
  .ret (bA [(J 1),.aw (ai 3 (cx 7 (aj (.aa false) (ai 1 (cx 9 (ai 2 []))))))] (.bi h1 h1 h1 h1 h1 h1 h1 h1 (.bi cK cK cK cK cK cK cK cK (.e1 cK)))))
def DX (aQ:Int)(cJ:cl):Option Bool :=
 xB cJ aQ >>= fun r1 =>
 some (!r1)
theorem Xt {aQ:Int}{cJ:cl}:bD (DX aQ cJ) (fun r=>Con a4 40 [.n .i64 aQ,.dS 2 [(gf cJ)] 0 0] [] (.b r) []):=by
 unfold DX
 exact .ar fun r1 o =>
  .ret (bA [(J 1),.aw (bq 1 (bu 2 (.b r1) true) 2)] (.aD (Og r1 o) (bR.b r1)))
def Gr (aH:List Int)(hs:List bo)(j7:List bC)(cV:Int):Int→S:=fun cL=>dv [(0,.isl 1 (aH.map eI)),(1,.fn 40 [.dS 2 [[.isl 4 (hs.map bw),.isl 3 (j7.map bB)]] 0 0]),(7,.n .i64 cV),(8,.n .i64 cL)] []
def N2 (aH:List Int)(hs:List bo)(j7:List bC)(cV:Int):((Unit)⊕(Int))→dy
 | .inl a=>⟨some 0,[],[]⟩
 | .inr a=>⟨none,[(4,.n .i64 a)],[]⟩
def wP (aH:List Int)(hs:List bo)(j7:List bC)(cV cL:Int):Option ((Int)⊕((Unit)⊕(Int))) :=
 if (decide (cL<cV))=true then
  if 0≤cL∧cL<aH.length then
  aH[cL.toNat]? >>= fun az =>
  DX az (⟨hs,j7⟩:cl) >>= fun ax =>
  if ax=true then
   some (.inr (.inr cL))
  else
   some (.inl (R (cL+(1:Int))))
  else none
 else
  some (.inr (.inl ()))
def GD (aH:List Int)(hs:List bo)(j7:List bC)(cV cL:Int):Option ((Unit)⊕(Int)):=iter (fun w:Int=>wP aH hs j7 cV w) cL
theorem UH {aH:List Int}{hs:List bo}{j7:List bC}{cV cL:Int}:bD (wP aH hs j7 cV cL) (dO a4 19 0 60 [1,0,1,0,0] (Gr aH hs j7 cV cL) (Gr aH hs j7 cV) (N2 aH hs j7 cV)):=by
 unfold wP
 exact .ite (fun h1 =>
  .aY fun o =>
  .ar fun az av =>
  .ar fun ax aX =>
  (let t1:List b0:=[(J 1),.aa true,(J 2),.aw (ai 4 (aj (.b5 (eI az)) (aj (bu 2 (.b ax) true) [])))];
  have aV:=((.dW h1 o.1 (cX eI o.2) (b1 eI av) (Xt ax aX) (bR.b ax)):cA _);
  .ite (fun bf =>
  .ret (bg (t1.append [.aa true,(J 2),.aN [] [] (a8 [4])]) (aV.aI (.e1 bf))))
  (fun bf =>
  .ret (bg (t1.append [.aa false,(J 2),.aN [] [] [(0,ii),(1,.comp [.cJ .id]),(7,ii),(8,ii)]]) (aV.aI (.e1 bf))))))
  (fun h1 =>
  .ret (bg [(J 1),.aa false,.aN [] [] []] (.e1 h1)))
theorem N4 {aH:List Int}{hs:List bo}{j7:List bC}{cV cL:Int}{r} (h:GD aH hs j7 cV cL=some r):dP a4 19 0 60 [1,0,1,0,0] (Gr aH hs j7 cV) (N2 aH hs j7 cV) cL r:=dQ (fun _=>UH) h
def DA (aH:List Int)(kY:cl):Option Int :=
 GD aH kY.bY kY.bs (len_ eI aH) 0 >>= fun r1 =>
 match r1 with
 | .inl dd=>(some (-1))
 | .inr dd=>(some dd)
theorem U4 {aH:List Int}{kY:cl}:bD (DA aH kY) (fun r=>Con a4 60 [.isl 1 (aH.map eI),.fn 40 [.dS 2 [(gf kY)] 0 0]] [] (.n .i64 r) []):=by
 unfold DA
 exact .ar fun r1 o =>
  (let t1:List b0:=[(J 1),(J 3),.aN [] [] [(0,ii),(1,.comp [.cJ .id]),(7,ii),(8,ii)]];
  (by
  rcases r1 with dd|dd
  ·exact (.ret (bA (t1.append [.sub (.exit 0) [] [],(J 1)]) (.e1 (N4 o))))
  ·exact (.ret (bA (t1.append [.sub (.ret) [(4,.n .i64 dd)] []]) (.e1 (N4 o))))))
def zS (aH:List Int)(kY:cl):Option Bool :=
 DA aH kY >>= fun r1 =>
 some (decide ((0:Int)≤r1))
theorem UQ {aH:List Int}{kY:cl}:bD (zS aH kY) (fun r=>Con a4 39 [.isl 1 (aH.map eI),.fn 40 [.dS 2 [(gf kY)] 0 0]] [] (.b r) []):=by
 unfold zS
 exact .ar fun r1 o =>
  .ret (bA [(J 1),.aw (bq 2 (bu 2 (.n .i64 r1) true) 2)] (.aD (U4 r1 o) (bR.n .i64 r1)))
def Ek (aH:List bo):Option (List bo) :=
 if aH.length*40≤140737488355328 then some aH else none
theorem Zb:Con a4 61 [.ek] [] (.isl 4 (([]:List bo).map bw)) []:=bA [(J 1),(J 2),.aa true,(J 1)] (.e1 cT) (.bp (.cJ (.iJ 4)))
theorem Zc:Con a4 61 [.iF] [] (.isl 4 (([]:List bo).map bw)) []:=(by
 have h:=fun (h1:(([]:List bo)++([]:List bo)).length*40≤140737488355328)=>(bA [(J 1),(J 2),.aa false,.aw (bq 2 (.aI ((([]:List bo)++([]:List bo)).length)) 1)] (.eP cK (nu (show []=(([]:List bo)).map bw from rfl) (fg bo)) (lZ (fg bo) (nj bw):(([]:List bo)++([]:List bo)).length=0+([]:List (List aF)).length) h1 (k6 (iz (show []=(([]:List bo)).map bw from rfl) (fg bo) (nj bw)) (dX (([]:List bo)++([]:List bo)))) (lm (iz (show []=(([]:List bo)).map bw from rfl) (fg bo) (nj bw)) (dX (([]:List bo)++([]:List bo)))) (dk jy (([]:List bo)++([]:List bo)))) (.bp (.cJ (.dL ((([]:List bo)++([]:List bo)).map bw)))):Con a4 61 [.iF] [] (.isl 4 ((([]:List bo)++([]:List bo)).map bw)) [])
 exact h (by decide))
theorem Zd (x:bo)(l:List bo)(h1:(([]:List bo)++(x::l)).length*40≤140737488355328):Con a4 61 [.isl 4 ((x::l).map bw)] [] (.isl 4 ((([]:List bo)++(x::l)).map bw)) []:=bA [(J 1),.aw (ai 1 (aj .fZ [])),.aa false,.aw (bq 2 (.aI ((([]:List bo)++(x::l)).length)) 1)] (.gz (by simp:(x::l).map bw≠[]) cK (nu (show []=(([]:List bo)).map bw from rfl) (fg bo)) (lZ (fg bo) (cZ bw (x::l)):(([]:List bo)++(x::l)).length=0+((x::l).map bw).length) h1 (k6 (iz (show []=(([]:List bo)).map bw from rfl) (fg bo) (cZ bw (x::l))) (dX (([]:List bo)++(x::l)))) (lm (iz (show []=(([]:List bo)).map bw from rfl) (fg bo) (cZ bw (x::l))) (dX (([]:List bo)++(x::l)))) (dk jy (([]:List bo)++(x::l)))) (.bp (.cJ (.dL ((([]:List bo)++(x::l)).map bw))))
theorem YQ {aH:List bo}:bD (Ek aH) (fun r=>Con a4 61 [.isl 4 (aH.map bw)] [] (.isl 4 (r.map bw)) []):=by
 unfold Ek
 refine .aY fun h=> .ret ?_
 cases aH with
 | nil=>exact .kf Zb Zc
 | cons x l =>
  have o:=Zd x l (by simpa using h)
  simpa using o
def G5 (gh:List Int)(cm:List bC)(bS:Int)(bN:List bo):(Int×(List bC))→S:=fun (da,aC)=>dv [(1,.isl 1 (gh.map eI)),(4,.ref 0 0 0 0),(5,.ref 1 0 0 0),(13,.isl 3 (cm.map bB)),(14,.n .i64 bS),(15,.n .i64 da)] [[ae.mk 2 [[.ek,.ek]] .live],[ae.mk 2 [[.isl 4 (bN.map bw),.bh 2 0 0 aC.length]] .live],(au 3 bB aC)]
def G7 (gh:List Int)(cm:List bC)(bS:Int)(bN:List bo):(List bC)→dy
 | a=>⟨some 0,[(4,.ref 0 0 0 0),(5,.ref 1 0 0 0)],[[ae.mk 2 [[.ek,.ek]] .live],[ae.mk 2 [[.isl 4 (bN.map bw),.bh 2 0 0 a.length]] .live],(au 3 bB a)]⟩
def w6 (gh:List Int)(cm:List bC)(bS:Int)(bN:List bo)(da:Int)(aC:List bC):Option ((Int×(List bC))⊕((List bC))) :=
 if (decide (da<bS))=true then
  if 0≤da∧da<cm.length then
  cm[da.toNat]? >>= fun az =>
  sr gh da >>= fun ax =>
  if ax=true then
   some (.inl (R (da+(1:Int)),aC))
  else
   if (aC++([az]:List bC)).length*24≤140737488355328 then
   some (.inl (R (da+(1:Int)),aC++([az]:List bC)))
   else none
  else none
 else
  some (.inr aC)
def HW (gh:List Int)(cm:List bC)(bS:Int)(bN:List bo)(da:Int)(aC:List bC):Option ((List bC)):=iter (fun w:Int×(List bC)=>w6 gh cm bS bN w.1 w.2) (da,aC)
theorem Vg {gh:List Int}{cm:List bC}{bS:Int}{bN:List bo}{da:Int}{aC:List bC}:bD (w6 gh cm bS bN da aC) (dO a4 32 0 41 [1,1,0,1,0,0] (G5 gh cm bS bN (da,aC)) (G5 gh cm bS bN) (G7 gh cm bS bN)):=by
 unfold w6
 exact .ite (fun h1 =>
  .aY fun o =>
  .ar fun az av =>
  .ar fun ax aX =>
  (let t1:List b0:=[(J 1),.aa true,.aw (bq 2 (.b5 (bB az)) 3),.aw (bq 2 (bu 2 (.b ax) true) 1)];
  have aV:=((.dW h1 o.1 (cX bB o.2) (b1 bB av) (KT ax aX) (bR.b ax)):cA _);
  .ite (fun bf =>
  .ret (bg (t1.append [.aa false,(J 2),.aN [0,1,2] [.box [.id,.id],.box [.id,.id],.pure] (a8 [1,4,5,13,14,15])]) (aV.aI (.aD (cO bf) (aJ 3 .live iV aC)))))
  (fun bf =>
  .aY fun bl =>
  .ret (let q1:=(aC++([az]:List bC));bg (t1.append [.aa true,.aw (bq 4 (.aI (q1.length)) 2),(J 2),.aN [0,1,18] [.box [.id,.id],.box [.id,.id],.cG (au 3 bB q1)] (a8 [1,4,5,13,14,15])]) (aV.aI (.eP (cM bf) (gF bB az) (g9 bB aC) (gG bB aC az) bl (c2 3 .live (hf bB aC az)) (aJ 3 .live iV q1)))))))
  (fun h1 =>
  .ret (bg [(J 1),.aa false,.aN [0,1,2] [.box [.id,.id],.box [.id,.id],.pure] (a8 [4,5])] (.aD h1 (aJ 3 .live iV aC))))
theorem VY {gh:List Int}{cm:List bC}{bS:Int}{bN:List bo}{da:Int}{aC:List bC}{r} (h:HW gh cm bS bN da aC=some r):dP a4 32 0 41 [1,1,0,1,0,0] (G5 gh cm bS bN) (G7 gh cm bS bN) (da,aC) r:=dQ (fun _=>Vg) h
def xZ (aH:cl)(gh:List Int):Option cl :=
 Ek aH.bY >>= fun r1 =>
 HW gh aH.bs (len_ bB aH.bs) r1 0 ([]:List bC) >>= fun bn =>
 some (⟨r1,bn⟩:cl)
theorem W0 {aH:cl}{gh:List Int}:bD (xZ aH gh) (fun r=>Con a4 41 [.agg (gf aH),.isl 1 (gh.map eI)] [] (.agg (gf r)) []):=by
 unfold xZ
 exact .ar fun r1 o =>
  .ar fun bn av =>
  .ret (bA [(J 2),.aw (bq 2 (bu 1 (.isl 4 (r1.map bw)) false) 3),(J 4),.r4 6 1 3,.aN [1,6,12] [.box [.id,.id],.box [.id,.len (([]:List bC).length)],.cG (au 3 bB ([]:List bC))] (a8 [1,4,5,13,14,15]),(G7 gh aH.bs (len_ bB aH.bs) r1 bn).e8,(J 2)] (.gz (YQ r1 o) (fg bC) (c2 3 .live (nj bB)) (aJ 3 .live iV ([]:List bC)) (VY av) (fw bB bn) (ff bB bn) (dk iV bn)) (.bp (.agg [.id,.dL (bn.map bB)])))
def yh (aH:cl)(cp gh:List Int):Option Bool :=
 u9 aH cp >>= fun r1 =>
 if r1=true then
  zS gh aH >>= fun a6 =>
  if a6=true then
   some false
  else
   xZ aH gh >>= fun bO =>
   tl bO cp >>= fun cb =>
   some cb
 else
  some false
theorem Yd {aH:cl}{cp gh:List Int}:bD (yh aH cp gh) (fun r=>Con a4 23 [.agg (gf aH),.isl 1 (cp.map eI),.isl 1 (gh.map eI)] [] (.b r) []):=by
 unfold yh
 exact .ar fun r1 o =>
  (have b9:=((.aD (Py r1 o) (bR.b r1)):cA _);
  .ite (fun af =>
  .ar fun a6 aA =>
  (let t2:List b0:=[(J 2),.aw (ai 2 (aj (bu 2 (.b r1) true) (ai 4 (aj (.call {ac:=[ii,.comp [.ptr [.id,.id]]],r:= .b a6,ej:=true,eC:=[0]}) (aj (.aa false) [])))))];
  have fI:=b9.aI (.eP (cO af) (cO af) (cO af) (oj (tq aH):iY [(gf aH)]) (UQ a6 aA) (bR.b a6) (cO af));
  .ite (fun aX =>
  .ret (bA (t2.append [.aa true,(J 1)]) (fI.aI (.e1 aX))))
  (fun aX =>
  .ar fun bO bl =>
  .ar fun cb cQ =>
  .ret (bA (t2.append [.aa false,.aw (bq 2 (bu 2 (.agg (gf bO)) false) 2),.aw (bq 1 (.call {ac:=[.bp (.ptr [.id,.id]),ii],r:= .b cb,ej:=true,eC:=[14]}) 1)]) (fI.aI (.dh aX (W0 bO bl) (oj (tq bO):iY [(gf bO)]) (Oe cb cQ) (bR.b cb)))))))
  (fun af =>
  .ret (bA [(J 2),.aw (ai 2 (aj (bu 2 (.b r1) true) (ai 2 (cx 3 (aj (.aa true) []))))),.aa true,(J 1)] (b9.aI (.dh (cM af) (cM af) (cM af) (cM af) cT)))))
def DV (aQ:Int)(cJ:cl)(bp:List Int):Option Bool :=
 yh cJ bp ([aQ]:List Int) >>= fun r1 =>
 some (!r1)
theorem Xj {aQ:Int}{cJ:cl}{bp:List Int}:bD (DV aQ cJ bp) (fun r=>Con a4 22 [.n .i64 aQ,.dS 2 [(gf cJ)] 0 0,.dS 1 [[.isl 1 (bp.map eI)]] 0 0] [] (.b r) []):=by
 unfold DV
 exact .ar fun r1 o =>
  .ret (bA [(J 1),.aw (bq 4 (.call {ac:=[ii,ii,.bp (.cJ (.dL (([aQ]:List Int).map eI)))],r:= .b r1,ej:=true,eC:=[4]}) 2)] (.dh (k6 (show [[.n .i64 aQ]]=(([aQ]:List Int)).map eI from rfl) (show 1=([aQ]:List Int).length from rfl)) (gF eI aQ) (dk aO ([aQ]:List Int)) (Yd r1 o) (bR.b r1)))
def Gl (e4:List bo)(ew:List bC)(oU:List bo)(oP:List bC)(oL:List Int)(cU:Int):(Int×(List Int))→S:=fun (dn,ab)=>dv [(0,.dS 2 [[.isl 4 (e4.map bw),.isl 3 (ew.map bB)]] 0 0),(1,.fn 22 [.dS 2 [[.isl 4 (oU.map bw),.isl 3 (oP.map bB)]] 0 0,.dS 1 [[.isl 1 (oL.map eI)]] 0 0]),(5,.bh 0 0 0 ab.length),(11,.n .i64 cU),(12,.n .i64 dn)] [(au 1 eI ab)]
def NY (e4:List bo)(ew:List bC)(oU:List bo)(oP:List bC)(oL:List Int)(cU:Int):(List Int)→dy
 | a=>⟨some 0,[(5,.bh 0 0 0 a.length)],[(au 1 eI a)]⟩
def wO (e4:List bo)(ew:List bC)(oU:List bo)(oP:List bC)(oL:List Int)(cU dn:Int)(ab:List Int):Option ((Int×(List Int))⊕((List Int))) :=
 if (decide (dn<cU))=true then
  xB (⟨e4,ew⟩:cl) dn >>= fun bV =>
  if bV=true then
   DV dn (⟨oU,oP⟩:cl) oL >>= fun ax =>
   if ax=true then
    if (ab++([dn]:List Int)).length*8≤140737488355328 then
    some (.inl (R (dn+(1:Int)),ab++([dn]:List Int)))
    else none
   else
    some (.inl (R (dn+(1:Int)),ab))
  else
   some (.inl (R (dn+(1:Int)),ab))
 else
  some (.inr ab)
def Gm (e4:List bo)(ew:List bC)(oU:List bo)(oP:List bC)(oL:List Int)(cU dn:Int)(ab:List Int):Option ((List Int)):=iter (fun w:Int×(List Int)=>wO e4 ew oU oP oL cU w.1 w.2) (dn,ab)
theorem UC {e4:List bo}{ew:List bC}{oU:List bo}{oP:List bC}{oL:List Int}{cU dn:Int}{ab:List Int}:bD (wO e4 ew oU oP oL cU dn ab) (dO a4 29 0 21 [1,1,0,1,0,0] (Gl e4 ew oU oP oL cU (dn,ab)) (Gl e4 ew oU oP oL cU) (NY e4 ew oU oP oL cU)):=by
 unfold wO
 exact .ite (fun h1 =>
  .ar fun bV af =>
  (let t1:List b0:=[(J 1),.aa true,(J 2)];
  have aV:=((.bP h1 (Og bV af) (bR.b bV)):cA _);
  .ite (fun av =>
  .ar fun ax aX =>
  (let t3:List b0:=t1.append [.aw (ai 2 (aj (bu 2 (.b bV) true) (ai 3 (aj (bu 3 (.b ax) true) (aj (.aa true) [])))))];
  have eA:=aV.aI (.dW av av av (Xj ax aX) (bR.b ax) av);
  .ite (fun bf =>
  .aY fun bl =>
  .ret (let q1:=(ab++([dn]:List Int));bg (t3.append [.aa true,.aw (bq 3 (.aI (q1.length)) 1),(J 2),.aN [15] [.cG (au 1 eI q1)] [(0,ii),(1,.comp [.cJ .id,.cJ .id]),(5,ii),(11,ii),(12,ii)]]) (eA.aI (.eP bf (gF eI dn) (g9 eI ab) (gG eI ab dn) bl (c2 1 .live (hf eI ab dn)) (aJ 1 .live aO q1)))))
  (fun bf =>
  .ret (bg (t3.append [.aa false,(J 2),.aN [0] [.pure] [(0,ii),(1,.comp [.cJ .id,.cJ .id]),(5,ii),(11,ii),(12,ii)]]) (eA.aI (.aD bf (aJ 1 .live aO ab)))))))
  (fun av =>
  .ret (bg (t1.append [.aw (ai 2 (aj (bu 2 (.b bV) true) (ai 1 (cx 3 (aj (.aa false) []))))),.aa false,(J 2),.aN [0] [.pure] [(0,ii),(1,.comp [.cJ .id,.cJ .id]),(5,ii),(11,ii),(12,ii)]]) (aV.aI (.dW av av av av cK (aJ 1 .live aO ab)))))))
  (fun h1 =>
  .ret (bg [(J 1),.aa false,.aN [0] [.pure] (a8 [5])] (.aD h1 (aJ 1 .live aO ab))))
theorem UD {e4:List bo}{ew:List bC}{oU:List bo}{oP:List bC}{oL:List Int}{cU dn:Int}{ab:List Int}{r} (h:Gm e4 ew oU oP oL cU dn ab=some r):dP a4 29 0 21 [1,1,0,1,0,0] (Gl e4 ew oU oP oL cU) (NY e4 ew oU oP oL cU) (dn,ab) r:=dQ (fun _=>UC) h
def Dt (aH Bv:cl)(E0:List Int):Option (List Int) :=
 Gm aH.bY aH.bs Bv.bY Bv.bs E0 (len_ bB aH.bs) 0 ([]:List Int) >>= fun r1 =>
 some r1
theorem UE {aH Bv:cl}{E0:List Int}:bD (Dt aH Bv E0) (fun a=>Con a4 21 [.dS 2 [(gf aH)] 0 0,.fn 22 [.dS 2 [(gf Bv)] 0 0,.dS 1 [[.isl 1 (E0.map eI)]] 0 0]] [] (.bh 0 0 0 a.length) [(au 1 eI a)]):=by
 unfold Dt
 exact .ar fun r1 o =>
  .ret (kq [(J 1),(J 1),(J 6),.sO 5 1,.aN [8] [.cG (au 1 eI ([]:List Int))] [(0,ii),(1,.comp [.cJ .id,.cJ .id]),(5,fW (([]:List Int).length)),(11,ii),(12,ii)],.sub (.exit 0) [(5,.bh 0 0 0 r1.length)] [(au 1 eI r1)],(J 2)] [0] [.pure] (.dh (c2 1 .live (nj eI)) (aJ 1 .live aO ([]:List Int)) (fg Int) (UD o) (aJ 1 .live aO r1)))
def x8 (aH:cl)(cp:List Int):Option (((List Int))⊕(Unit)) :=
 Ej aH cp >>= fun r1 =>
 if r1=true then
  Dt aH aH cp >>= fun a6 =>
  some (.inl a6)
 else
  some (.inr ())
theorem DL {aH:cl}{cp:List Int}:bD (x8 aH cp) (Sum.elim (fun a=>Con a4 8 [.agg (gf aH),.isl 1 (cp.map eI)] [] (.bh 0 0 0 a.length) [(au 1 eI a)]) (fun a=>Con a4 8 [.agg (gf aH),.isl 1 (cp.map eI)] [] (.ek) [])):=by
 unfold x8
 exact .ar fun r1 o =>
  (let t1:List b0:=[(J 3),.aw (bq 2 (bu 2 (.b r1) true) 1)];
  have aV:=((.aD (YP r1 o) (bR.b r1)):cA _);
  .ite (fun af =>
  .ar fun a6 aA =>
  .ret (kq (t1.append [.aa false,.aw (bq 1 (.call {a2:=[],dc:=[],ac:=[.bp (.ptr [.id,.id]),.comp [.ptr [.id,.id],.ptr [.id]]],r:= .bh 0 0 0 a6.length,eV:=[(au 1 eI a6)],gr:=ii,hC:=[.pure],eC:=[0,1],ej:=true}) 1)]) [8] [.pure] (aV.aI (.bi (cO af) (oj (tq aH):iY [(gf aH)]) (oj (tq aH):iY [(gf aH)]) (oj ((nt (sz:=1) aO) cp):iY [[.isl 1 (cp.map eI)]]) (f9 1 aO a6) (UE a6 aA) (bR.bh 0 0 0 a6.length) ((mT (k8 (kX rb) mX) mW):lx [(au 1 eI a6)]) (.e1 (aJ 1 .live aO a6))))))
  (fun af =>
  .ret (kq (t1.append [.aa true,(J 1)]) [] [] (aV.aI (.e1 (cM af))))))
def Jr (ag aG:List Int):Int→S:=fun ad=>dv [(0,.isl 1 (ag.map eI)),(1,.isl 1 (aG.map eI)),(5,.n .i64 ad)] []
def OZ (ag aG:List Int):((Unit)⊕(Unit))→dy
 | .inl a=>⟨some 0,[],[]⟩
 | .inr a=>⟨none,[(4,.b false)],[]⟩
def x2 (ag aG:List Int)(ad:Int):Option ((Int)⊕((Unit)⊕(Unit))) :=
 if (decide (ad<(len_ eI ag)))=true then
  if 0≤ad∧ad<ag.length then
  ag[ad.toNat]? >>= fun az =>
  if 0≤ad∧ad<aG.length then
  aG[ad.toNat]? >>= fun cy =>
  if (az != cy)=true then
   some (.inr (.inr ()))
  else
   some (.inl (R (ad+(1:Int))))
  else none
  else none
 else
  some (.inr (.inl ()))
def KK (ag aG:List Int)(ad:Int):Option ((Unit)⊕(Unit)):=iter (fun w:Int=>x2 ag aG w) ad
theorem W1 {ag aG:List Int}{ad:Int}:bD (x2 ag aG ad) (dO a4 26 0 9 [1,1,0,1,0,0] (Jr ag aG ad) (Jr ag aG) (OZ ag aG)):=by
 unfold x2
 exact .ite (fun h1 =>
  .aY fun o =>
  .ar fun az av =>
  .aY fun aA =>
  .ar fun cy bf =>
  (let t1:List b0:=[(J 4),.aa true,.aw (ai 3 (aj (.b5 (eI az)) (bq 3 (.b5 (eI cy)) 1)))];
  have aV:=((.eP h1 o.1 (cX eI o.2) (b1 eI av) aA.1 (cX eI aA.2) (b1 eI bf)):cA _);
  .ite (fun bl =>
  .ret (bg (t1.append [.aa true,(J 1),.aN [] [] (a8 [4])]) (aV.aI (.e1 bl))))
  (fun bl =>
  .ret (bg (t1.append [.aa false,(J 3),.aN [] [] (a8 [0,1,5])]) (aV.aI (.e1 bl))))))
  (fun h1 =>
  .ret (bg [(J 4),.aa false,.aN [] [] []] (.e1 h1)))
theorem O9 {ag aG:List Int}{ad:Int}{r} (h:KK ag aG ad=some r):dP a4 26 0 9 [1,1,0,1,0,0] (Jr ag aG) (OZ ag aG) ad r:=dQ (fun _=>W1) h
def tx (ag aG:List Int):Option Bool :=
 if ((len_ eI ag) != (len_ eI aG))=true then
  some false
 else
  KK ag aG 0 >>= fun bV =>
  match bV with
  | .inl f7=>(some true)
  | .inr f7=>(some false)
theorem tt {ag aG:List Int}:bD (tx ag aG) (fun r=>Con a4 9 [.isl 1 (ag.map eI),.isl 1 (aG.map eI)] [] (.b r) []):=by
 unfold tx
 exact .ite (fun h1 =>
  .ret (bA [(J 1),(J 5),.aa true,(J 1)] (.e1 h1)))
  (fun h1 =>
  .ar fun bV af =>
  (let t1:List b0:=[(J 1),(J 5),.aa false,(J 1),.aN [] [] (a8 [0,1,5])];
  (by
  rcases bV with f7|f7
  ·exact (.ret (bA (t1.append [.sub (.exit 0) [] [],(J 1)]) (.aD h1 (O9 af))))
  ·exact (.ret (bA (t1.append [.sub (.ret) [(4,.b false)] []]) (.aD h1 (O9 af)))))))
def AX (ag aG:bo):Option Bool :=
 if (!(ag.hj.toList == aG.hj.toList))=true then
  some false
 else
  if (ag.ga != aG.ga)=true then
   some false
  else
   if (ag.f6 != aG.f6)=true then
    some false
   else
    if (ag.gQ == aG.gQ)=true then
     some true
    else
     some false
theorem Ze {ag aG:bo}:bD (AX ag aG) (fun r=>Con a4 42 [.agg (bw ag),.agg (bw aG)] [] (.b r) []):=by
 unfold AX
 exact .ite (fun h1 =>
  .ret (bA [(J 3),(J 5),.aa true,(J 1)] (.e1 h1)))
  (fun h1 =>
  (let t1:List b0:=[(J 3),(J 5),.aa false,(J 5)];
  .ite (fun o =>
  .ret (bA (t1.append [.aa true,(J 1)]) (.aD h1 o)))
  (fun o =>
  .ite (fun af =>
  .ret (bA (t1.append [.aa false,(J 5),.aa true,(J 1)]) (.bP h1 o af)))
  (fun af =>
  (let t2:List b0:=t1.append [.aa false,(J 5),.aa false,(J 5)];
  .ite (fun av =>
  .ret (bA (t2.append [.aa false,(J 1)]) (.c4 h1 o af (cO av))))
  (fun av =>
  .ret (bA (t2.append [.aa true,(J 1)]) (.c4 h1 o af (cM av)))))))))
def Ie (ag aG:List bo):Int→S:=fun ad=>dv [(0,.isl 4 (ag.map bw)),(1,.isl 4 (aG.map bw)),(5,.n .i64 ad)] []
def OD (ag aG:List bo):((Unit)⊕(Unit))→dy
 | .inl a=>⟨some 0,[],[]⟩
 | .inr a=>⟨none,[(4,.b false)],[]⟩
def xC (ag aG:List bo)(ad:Int):Option ((Int)⊕((Unit)⊕(Unit))) :=
 if (decide (ad<(len_ bw ag)))=true then
  if 0≤ad∧ad<ag.length then
  ag[ad.toNat]? >>= fun az =>
  if 0≤ad∧ad<aG.length then
  aG[ad.toNat]? >>= fun cy =>
  AX az cy >>= fun de =>
  if de=true then
   some (.inl (R (ad+(1:Int))))
  else
   some (.inr (.inr ()))
  else none
  else none
 else
  some (.inr (.inl ()))
def Ki (ag aG:List bo)(ad:Int):Option ((Unit)⊕(Unit)):=iter (fun w:Int=>xC ag aG w) ad
theorem Wd {ag aG:List bo}{ad:Int}:bD (xC ag aG ad) (dO a4 27 0 24 [1,1,0,1,0,0] (Ie ag aG ad) (Ie ag aG) (OD ag aG)):=by
 unfold xC
 exact .ite (fun h1 =>
  .aY fun o =>
  .ar fun az av =>
  .aY fun aA =>
  .ar fun cy bf =>
  .ar fun de cB =>
  (let t1:List b0:=[(J 4),.aa true,.aw (ai 3 (aj (.b5 (bw az)) (ai 3 (aj (.b5 (bw cy)) (aj (bu 2 (.b de) true) (ai 1 []))))))];
  have aV:=((.bi h1 o.1 (cX bw o.2) (b1 bw av) aA.1 (cX bw aA.2) (b1 bw bf) (Ze de cB) (.e1 (bR.b de))):cA _);
  .ite (fun cQ =>
  .ret (bg (t1.append [.aa false,(J 3),.aN [] [] (a8 [0,1,5])]) (aV.aI (.e1 (cO cQ)))))
  (fun cQ =>
  .ret (bg (t1.append [.aa true,(J 1),.aN [] [] (a8 [4])]) (aV.aI (.e1 (cM cQ)))))))
  (fun h1 =>
  .ret (bg [(J 4),.aa false,.aN [] [] []] (.e1 h1)))
theorem OO {ag aG:List bo}{ad:Int}{r} (h:Ki ag aG ad=some r):dP a4 27 0 24 [1,1,0,1,0,0] (Ie ag aG) (OD ag aG) ad r:=dQ (fun _=>Wd) h
def AK (ag aG:List bo):Option Bool :=
 if ((len_ bw ag) != (len_ bw aG))=true then
  some false
 else
  Ki ag aG 0 >>= fun bV =>
  match bV with
  | .inl f7=>(some true)
  | .inr f7=>(some false)
theorem YR {ag aG:List bo}:bD (AK ag aG) (fun r=>Con a4 24 [.isl 4 (ag.map bw),.isl 4 (aG.map bw)] [] (.b r) []):=by
 unfold AK
 exact .ite (fun h1 =>
  .ret (bA [(J 1),(J 5),.aa true,(J 1)] (.e1 h1)))
  (fun h1 =>
  .ar fun bV af =>
  (let t1:List b0:=[(J 1),(J 5),.aa false,(J 1),.aN [] [] (a8 [0,1,5])];
  (by
  rcases bV with f7|f7
  ·exact (.ret (bA (t1.append [.sub (.exit 0) [] [],(J 1)]) (.aD h1 (OO af))))
  ·exact (.ret (bA (t1.append [.sub (.ret) [(4,.b false)] []]) (.aD h1 (OO af)))))))
def AL (ag aG:bC):Option Bool :=
 if (ag.dt != aG.dt)=true then
  some false
 else
  if (ag.dM != aG.dM)=true then
   some false
  else
   if (ag.gk != aG.gk)=true then
    some false
   else
    some true
theorem YS {ag aG:bC}:bD (AL ag aG) (fun r=>Con a4 43 [.agg (bB ag),.agg (bB aG)] [] (.b r) []):=by
 unfold AL
 exact .ite (fun h1 =>
  .ret (bA [(J 3),(J 5),.aa true,(J 1)] (.e1 h1)))
  (fun h1 =>
  (let t1:List b0:=[(J 3),(J 5),.aa false,(J 5)];
  .ite (fun o =>
  .ret (bA (t1.append [.aa true,(J 1)]) (.aD h1 o)))
  (fun o =>
  .ite (fun af =>
  .ret (bA (t1.append [.aa false,(J 5),.aa true,(J 1)]) (.bP h1 o af)))
  (fun af =>
  .ret (bA (t1.append [.aa false,(J 5),.aa false,(J 1)]) (.bP h1 o af))))))
def HX (ag aG:List bC):Int→S:=fun ad=>dv [(0,.isl 3 (ag.map bB)),(1,.isl 3 (aG.map bB)),(5,.n .i64 ad)] []
def Ow (ag aG:List bC):((Unit)⊕(Unit))→dy
 | .inl a=>⟨some 0,[],[]⟩
 | .inr a=>⟨none,[(4,.b false)],[]⟩
def xt (ag aG:List bC)(ad:Int):Option ((Int)⊕((Unit)⊕(Unit))) :=
 if (decide (ad<(len_ bB ag)))=true then
  if 0≤ad∧ad<ag.length then
  ag[ad.toNat]? >>= fun az =>
  if 0≤ad∧ad<aG.length then
  aG[ad.toNat]? >>= fun cy =>
  AL az cy >>= fun de =>
  if de=true then
   some (.inl (R (ad+(1:Int))))
  else
   some (.inr (.inr ()))
  else none
  else none
 else
  some (.inr (.inl ()))
def J3 (ag aG:List bC)(ad:Int):Option ((Unit)⊕(Unit)):=iter (fun w:Int=>xt ag aG w) ad
theorem VZ {ag aG:List bC}{ad:Int}:bD (xt ag aG ad) (dO a4 27 0 25 [1,1,0,1,0,0] (HX ag aG ad) (HX ag aG) (Ow ag aG)):=by
 unfold xt
 exact .ite (fun h1 =>
  .aY fun o =>
  .ar fun az av =>
  .aY fun aA =>
  .ar fun cy bf =>
  .ar fun de cB =>
  (let t1:List b0:=[(J 4),.aa true,.aw (ai 3 (aj (.b5 (bB az)) (ai 3 (aj (.b5 (bB cy)) (aj (bu 2 (.b de) true) (ai 1 []))))))];
  have aV:=((.bi h1 o.1 (cX bB o.2) (b1 bB av) aA.1 (cX bB aA.2) (b1 bB bf) (YS de cB) (.e1 (bR.b de))):cA _);
  .ite (fun cQ =>
  .ret (bg (t1.append [.aa false,(J 3),.aN [] [] (a8 [0,1,5])]) (aV.aI (.e1 (cO cQ)))))
  (fun cQ =>
  .ret (bg (t1.append [.aa true,(J 1),.aN [] [] (a8 [4])]) (aV.aI (.e1 (cM cQ)))))))
  (fun h1 =>
  .ret (bg [(J 4),.aa false,.aN [] [] []] (.e1 h1)))
theorem OE {ag aG:List bC}{ad:Int}{r} (h:J3 ag aG ad=some r):dP a4 27 0 25 [1,1,0,1,0,0] (HX ag aG) (Ow ag aG) ad r:=dQ (fun _=>VZ) h
def Au (ag aG:List bC):Option Bool :=
 if ((len_ bB ag) != (len_ bB aG))=true then
  some false
 else
  J3 ag aG 0 >>= fun bV =>
  match bV with
  | .inl f7=>(some true)
  | .inr f7=>(some false)
theorem Yq {ag aG:List bC}:bD (Au ag aG) (fun r=>Con a4 25 [.isl 3 (ag.map bB),.isl 3 (aG.map bB)] [] (.b r) []):=by
 unfold Au
 exact .ite (fun h1 =>
  .ret (bA [(J 1),(J 5),.aa true,(J 1)] (.e1 h1)))
  (fun h1 =>
  .ar fun bV af =>
  (let t1:List b0:=[(J 1),(J 5),.aa false,(J 1),.aN [] [] (a8 [0,1,5])];
  (by
  rcases bV with f7|f7
  ·exact (.ret (bA (t1.append [.sub (.exit 0) [] [],(J 1)]) (.aD h1 (OE af))))
  ·exact (.ret (bA (t1.append [.sub (.ret) [(4,.b false)] []]) (.aD h1 (OE af)))))))
def yg (ag aG:cl):Option Bool :=
 AK ag.bY aG.bY >>= fun r1 =>
 if r1=true then
  Au ag.bs aG.bs >>= fun a6 =>
  if a6=true then
   some true
  else
   some false
 else
  some false
theorem OP {ag aG:cl}:bD (yg ag aG) (fun r=>Con a4 10 [.agg (gf ag),.agg (gf aG)] [] (.b r) []):=by
 unfold yg
 exact .ar fun r1 o =>
  (let t1:List b0:=[(J 3),.aw (bq 4 (bu 2 (.b r1) true) 1)];
  have aV:=((.aD (YR r1 o) (bR.b r1)):cA _);
  .ite (fun af =>
  .ar fun a6 aA =>
  (let t3:List b0:=t1.append [.aa false,.aw (bq 4 (bu 2 (.b a6) true) 1)];
  have eA:=aV.aI (.bP (cO af) (Yq a6 aA) (bR.b a6));
  .ite (fun aX =>
  .ret (bA (t3.append [.aa false,(J 1)]) (eA.aI (.e1 (cO aX)))))
  (fun aX =>
  .ret (bA (t3.append [.aa true,(J 1)]) (eA.aI (.e1 (cM aX)))))))
  (fun af =>
  .ret (bA (t1.append [.aa true,(J 1)]) (aV.aI (.e1 (cM af))))))
def Ig:(Int×ByteArray)→S:=fun (aQ,pR)=>dv [(0,.n .i64 aQ),(3,.s pR)] []
def IQ:ByteArray→dy
 | a=>⟨some 0,[(3,.s a)],[]⟩
def xD (aQ:Int)(pR:ByteArray):Option ((Int×ByteArray)⊕(ByteArray)) :=
 if (decide ((0:Int)<aQ))=true then
  if (rX [(IntKind.wrap .u8 (R ((48:Int)+(aQ.tmod (10:Int)))))]).size+pR.size<9223372036854775808 then
  some (.inl (R (aQ.tdiv (10:Int)),(rX [(IntKind.wrap .u8 (R ((48:Int)+(aQ.tmod (10:Int)))))])++pR))
  else none
 else
  some (.inr pR)
def Kj (aQ:Int)(pR:ByteArray):Option (ByteArray):=iter (fun w:Int×ByteArray=>xD w.1 w.2) (aQ,pR)
theorem We {aQ:Int}{pR:ByteArray}:bD (xD aQ pR) (dO a4 20 0 44 [1,1,1,0,0,0] (Ig (aQ,pR)) (Ig) (IQ)):=by
 unfold xD
 exact .ite (fun h1 =>
  .aY fun o =>
  .ret (bg [(J 2),.aa true,(J 9),(J 3),.aN [] [] (a8 [0,3])] (.c4 h1 (by decide:(10:Int)≠0) o (by decide:(10:Int)≠0))))
  (fun h1 =>
  .ret (bg [(J 2),.aa false,.aN [] [] (a8 [3])] (.e1 h1)))
theorem XN {aQ:Int}{pR:ByteArray}{r} (h:Kj aQ pR=some r):dP a4 20 0 44 [1,1,1,0,0,0] (Ig) (IQ) (aQ,pR) r:=dQ (fun _=>We) h
def AM (aQ:Int):Option ByteArray :=
 if (decide (aQ≤(0:Int)))=true then
  some (⟨#[109,48]⟩:ByteArray)
 else
  Kj aQ (⟨#[]⟩:ByteArray) >>= fun bV =>
  if (⟨#[109]⟩:ByteArray).size+bV.size<9223372036854775808 then
  some ((⟨#[109]⟩:ByteArray)++bV)
  else none
theorem YT {aQ:Int}:bD (AM aQ) (fun r=>Con a4 44 [.n .i64 aQ] [] (.s r) []):=by
 unfold AM
 exact .ite (fun h1 =>
  .ret (bA [(J 1),(J 2),.aa true,(J 1)] (.e1 h1)))
  (fun h1 =>
  .ar fun bV af =>
  .aY fun av =>
  .ret (bA [(J 1),(J 2),.aa false,(J 1),.aN [] [] (a8 [0,3]),(IQ bV).e8,(J 3)] (.bP h1 (XN af) av)))
def Hb:(Int×Int×(List bo))→S:=fun (aQ,ad,ab)=>dv [(0,.bh 0 0 0 ab.length),(1,.n .i64 aQ),(5,.n .i64 ad)] [(au 4 bw ab)]
def Hm:(Int×(List bo))→dy
 | a=>⟨some 0,[(1,.n .i64 a.1)],[(au 4 bw a.2)]⟩
def ux (aQ ad:Int)(ab:List bo):Option ((Int×Int×(List bo))⊕(Int×(List bo))) :=
 if (decide (ad<((ab.length:Nat):Int)))=true then
  AM aQ >>= fun bV =>
  if 0≤ad∧ad<(ab.length:Nat) then
  ab[(0+ad.toNat)]? >>= fun eZ =>
  (ab.set (0+ad.toNat) (⟨bV,eZ.ga,eZ.f6,eZ.gQ⟩:bo))[(0+ad.toNat)]? >>= fun c9 =>
  ((ab.set (0+ad.toNat) (⟨bV,eZ.ga,eZ.f6,eZ.gQ⟩:bo)).set (0+ad.toNat) (⟨c9.hj,R (aQ+(1:Int)),c9.f6,c9.gQ⟩:bo))[(0+ad.toNat)]? >>= fun dj =>
  (((ab.set (0+ad.toNat) (⟨bV,eZ.ga,eZ.f6,eZ.gQ⟩:bo)).set (0+ad.toNat) (⟨c9.hj,R (aQ+(1:Int)),c9.f6,c9.gQ⟩:bo)).set (0+ad.toNat) (⟨dj.hj,dj.ga,R ((R (aQ+(1:Int)))+(1:Int)),dj.gQ⟩:bo))[(0+ad.toNat)]? >>= fun iH =>
  some (.inl (R ((R ((R ((R (aQ+(1:Int)))+(1:Int)))+(1:Int)))+(1:Int)),R (ad+(1:Int)),(((ab.set (0+ad.toNat) (⟨bV,eZ.ga,eZ.f6,eZ.gQ⟩:bo)).set (0+ad.toNat) (⟨c9.hj,R (aQ+(1:Int)),c9.f6,c9.gQ⟩:bo)).set (0+ad.toNat) (⟨dj.hj,dj.ga,R ((R (aQ+(1:Int)))+(1:Int)),dj.gQ⟩:bo)).set (0+ad.toNat) (⟨iH.hj,iH.ga,iH.f6,(((R ((R ((R (aQ+(1:Int)))+(1:Int)))+(1:Int))).tmod (3:Int)) == (0:Int))⟩:bo)))
  else none
 else
  some (.inr (aQ,ab))
def IR (aQ ad:Int)(ab:List bo):Option (Int×(List bo)):=iter (fun w:Int×Int×(List bo)=>ux w.1 w.2.1 w.2.2) (aQ,ad,ab)
theorem Vm {aQ ad:Int}{ab:List bo}:bD (ux aQ ad ab) (dO a4 44 1 26 [1,0,1,0,0] (Hb (aQ,ad,ab)) (Hb) (Hm)):=by
 unfold ux
 exact .ite (fun h1 =>
  .ar fun bV af =>
  .aY fun av =>
  .ar fun eZ aX =>
  .ar fun c9 bl =>
  .ar fun dj cQ =>
  .ar fun iH eK =>
  .ret (let cC:=(nr (cZ bw ab) (0+ad.toNat) (⟨bV,eZ.ga,eZ.f6,eZ.gQ⟩:bo) (rfl:(setCells (bw eZ) 0 [.s bV])=bw (⟨bV,eZ.ga,eZ.f6,eZ.gQ⟩:bo)));let dr:=(R (aQ+(1:Int)));let q1:=(nr cC (0+ad.toNat) (⟨c9.hj,R (aQ+(1:Int)),c9.f6,c9.gQ⟩:bo) (rfl:(setCells (bw c9) 1 [.n .i64 dr])=bw (⟨c9.hj,R (aQ+(1:Int)),c9.f6,c9.gQ⟩:bo)));let a7:=(nr q1 (0+ad.toNat) (⟨dj.hj,dj.ga,R (dr+(1:Int)),dj.gQ⟩:bo) (rfl:(setCells (bw dj) 2 [.n .i64 (R (dr+(1:Int)))])=bw (⟨dj.hj,dj.ga,R (dr+(1:Int)),dj.gQ⟩:bo)));let bZ:=(R ((R (dr+(1:Int)))+(1:Int)));bg [(J 4),.aa true,.aw (ai 3 (aj (bu 1 (.s bV) true) (ai 1 (aj (.b5 (bw eZ)) (aj (.b5 (bw eZ)) []))))),(J 3),.aw (ai 4 (aj (.b5 (bw c9)) (aj (.b5 (bw c9)) []))),(J 3),.aw (ai 4 (aj (.b5 (bw dj)) (aj (.b5 (bw dj)) []))),(J 3),.aw (ai 6 (aj (.b5 (bw iH)) (aj (.b5 (bw iH)) []))),(J 3),(J 3),.aN [0] [.cG (au 4 bw ((((ab.set (0+ad.toNat) (⟨bV,eZ.ga,eZ.f6,eZ.gQ⟩:bo)).set (0+ad.toNat) (⟨c9.hj,R (aQ+(1:Int)),c9.f6,c9.gQ⟩:bo)).set (0+ad.toNat) (⟨dj.hj,dj.ga,R (dr+(1:Int)),dj.gQ⟩:bo)).set (0+ad.toNat) (⟨iH.hj,iH.ga,iH.f6,((bZ.tmod (3:Int)) == (0:Int))⟩:bo)))] [(0,fW (((((ab.set (0+ad.toNat) (⟨bV,eZ.ga,eZ.f6,eZ.gQ⟩:bo)).set (0+ad.toNat) (⟨c9.hj,R (aQ+(1:Int)),c9.f6,c9.gQ⟩:bo)).set (0+ad.toNat) (⟨dj.hj,dj.ga,R (dr+(1:Int)),dj.gQ⟩:bo)).set (0+ad.toNat) (⟨iH.hj,iH.ga,iH.f6,((bZ.tmod (3:Int)) == (0:Int))⟩:bo)).length)),(1,ii),(5,ii)]] (.bi h1 (YT bV af) (bR.s bV) av.1 av.2 (b1 bw aX) (b1 bw aX) av.1 (.bi av.2 (qY cC bl) (qY cC bl) av.1 av.2 (qY q1 cQ) (qY q1 cQ) (by decide:(3:Int)≠0) (.eP av.1 av.2 (qY a7 eK) (qY a7 eK) (c2 4 .live (nr a7 (0+ad.toNat) (⟨iH.hj,iH.ga,iH.f6,((bZ.tmod (3:Int)) == (0:Int))⟩:bo) (rfl:(setCells (bw iH) 3 [.b ((bZ.tmod (3:Int)) == (0:Int))])=bw (⟨iH.hj,iH.ga,iH.f6,((bZ.tmod (3:Int)) == (0:Int))⟩:bo)))) (aJ 4 .live jy ((((ab.set (0+ad.toNat) (⟨bV,eZ.ga,eZ.f6,eZ.gQ⟩:bo)).set (0+ad.toNat) (⟨c9.hj,R (aQ+(1:Int)),c9.f6,c9.gQ⟩:bo)).set (0+ad.toNat) (⟨dj.hj,dj.ga,R (dr+(1:Int)),dj.gQ⟩:bo)).set (0+ad.toNat) (⟨iH.hj,iH.ga,iH.f6,((bZ.tmod (3:Int)) == (0:Int))⟩:bo))) (hi (hi (hi (hi (dX ab) (0+ad.toNat) (⟨bV,eZ.ga,eZ.f6,eZ.gQ⟩:bo)) (0+ad.toNat) (⟨c9.hj,R (aQ+(1:Int)),c9.f6,c9.gQ⟩:bo)) (0+ad.toNat) (⟨dj.hj,dj.ga,R (dr+(1:Int)),dj.gQ⟩:bo)) (0+ad.toNat) (⟨iH.hj,iH.ga,iH.f6,((bZ.tmod (3:Int)) == (0:Int))⟩:bo)))))))
  (fun h1 =>
  .ret (bg [(J 4),.aa false,.aN [0] [.pure] (a8 [1])] (.aD h1 (aJ 4 .live jy ab))))
theorem WB {aQ ad:Int}{ab:List bo}{r} (h:IR aQ ad ab=some r):dP a4 44 1 26 [1,0,1,0,0] (Hb) (Hm) (aQ,ad,ab) r:=dQ (fun _=>Vm) h
def Ac (aQ:Int)(er:List bo):Option (Int×(List bo)) :=
 IR aQ 0 er >>= fun r1 =>
 some (r1.1,r1.2)
theorem Xu {aQ:Int}{er:List bo}:bD (Ac aQ er) (fun a=>Con a4 26 [.bh 0 0 0 er.length,.n .i64 aQ] [(au 4 bw er)] (.n .i64 a.1) [(au 4 bw a.2)]):=by
 unfold Ac
 exact .ar fun r1 o =>
  .ret (kq [(J 1),(J 1),.aN [0] [.pure] (a8 [0,1,5]),(Hm r1).e8,(J 2)] [0] [.pure] (.bP (aJ 4 .live jy er) (WB o) (aJ 4 .live jy r1.2)))
def G8:(Int×Int×(List bC))→S:=fun (aQ,ad,ab)=>dv [(0,.bh 0 0 0 ab.length),(1,.n .i64 aQ),(5,.n .i64 ad)] [(au 3 bB ab)]
def Hc:(Int×(List bC))→dy
 | a=>⟨some 0,[(1,.n .i64 a.1)],[(au 3 bB a.2)]⟩
def uw (aQ ad:Int)(ab:List bC):Option ((Int×Int×(List bC))⊕(Int×(List bC))) :=
 if (decide (ad<((ab.length:Nat):Int)))=true then
  if 0≤ad∧ad<(ab.length:Nat) then
  ab[(0+ad.toNat)]? >>= fun az =>
  (ab.set (0+ad.toNat) (⟨aQ,az.dM,az.gk⟩:bC))[(0+ad.toNat)]? >>= fun eZ =>
  ((ab.set (0+ad.toNat) (⟨aQ,az.dM,az.gk⟩:bC)).set (0+ad.toNat) (⟨eZ.dt,R (aQ+(1:Int)),eZ.gk⟩:bC))[(0+ad.toNat)]? >>= fun c9 =>
  some (.inl (R ((R ((R (aQ+(1:Int)))+(1:Int)))+(1:Int)),R (ad+(1:Int)),((ab.set (0+ad.toNat) (⟨aQ,az.dM,az.gk⟩:bC)).set (0+ad.toNat) (⟨eZ.dt,R (aQ+(1:Int)),eZ.gk⟩:bC)).set (0+ad.toNat) (⟨c9.dt,c9.dM,R ((R (aQ+(1:Int)))+(1:Int))⟩:bC)))
  else none
 else
  some (.inr (aQ,ab))
def Ih (aQ ad:Int)(ab:List bC):Option (Int×(List bC)):=iter (fun w:Int×Int×(List bC)=>uw w.1 w.2.1 w.2.2) (aQ,ad,ab)
theorem Vj {aQ ad:Int}{ab:List bC}:bD (uw aQ ad ab) (dO a4 34 1 27 [1,0,1,0,0] (G8 (aQ,ad,ab)) (G8) (Hc)):=by
 unfold uw
 exact .ite (fun h1 =>
  .aY fun o =>
  .ar fun az av =>
  .ar fun eZ aX =>
  .ar fun c9 bl =>
  .ret (let a7:=(nr (cZ bB ab) (0+ad.toNat) (⟨aQ,az.dM,az.gk⟩:bC) (rfl:(setCells (bB az) 0 [.n .i64 aQ])=bB (⟨aQ,az.dM,az.gk⟩:bC)));let bZ:=(R (aQ+(1:Int)));let q1:=(nr a7 (0+ad.toNat) (⟨eZ.dt,R (aQ+(1:Int)),eZ.gk⟩:bC) (rfl:(setCells (bB eZ) 1 [.n .i64 bZ])=bB (⟨eZ.dt,R (aQ+(1:Int)),eZ.gk⟩:bC)));bg [(J 4),.aa true,.aw (ai 4 (aj (.b5 (bB az)) (aj (.b5 (bB az)) []))),(J 3),.aw (ai 4 (aj (.b5 (bB eZ)) (aj (.b5 (bB eZ)) []))),(J 3),.aw (ai 4 (aj (.b5 (bB c9)) (aj (.b5 (bB c9)) []))),(J 3),(J 3),.aN [0] [.cG (au 3 bB (((ab.set (0+ad.toNat) (⟨aQ,az.dM,az.gk⟩:bC)).set (0+ad.toNat) (⟨eZ.dt,R (aQ+(1:Int)),eZ.gk⟩:bC)).set (0+ad.toNat) (⟨c9.dt,c9.dM,R (bZ+(1:Int))⟩:bC)))] [(0,fW ((((ab.set (0+ad.toNat) (⟨aQ,az.dM,az.gk⟩:bC)).set (0+ad.toNat) (⟨eZ.dt,R (aQ+(1:Int)),eZ.gk⟩:bC)).set (0+ad.toNat) (⟨c9.dt,c9.dM,R (bZ+(1:Int))⟩:bC)).length)),(1,ii),(5,ii)]] (.bi h1 o.1 o.2 (b1 bB av) (b1 bB av) o.1 o.2 (qY a7 aX) (.gz (qY a7 aX) o.1 o.2 (qY q1 bl) (qY q1 bl) (c2 3 .live (nr q1 (0+ad.toNat) (⟨c9.dt,c9.dM,R (bZ+(1:Int))⟩:bC) (rfl:(setCells (bB c9) 2 [.n .i64 (R (bZ+(1:Int)))])=bB (⟨c9.dt,c9.dM,R (bZ+(1:Int))⟩:bC)))) (aJ 3 .live iV (((ab.set (0+ad.toNat) (⟨aQ,az.dM,az.gk⟩:bC)).set (0+ad.toNat) (⟨eZ.dt,R (aQ+(1:Int)),eZ.gk⟩:bC)).set (0+ad.toNat) (⟨c9.dt,c9.dM,R (bZ+(1:Int))⟩:bC))) (hi (hi (hi (dX ab) (0+ad.toNat) (⟨aQ,az.dM,az.gk⟩:bC)) (0+ad.toNat) (⟨eZ.dt,R (aQ+(1:Int)),eZ.gk⟩:bC)) (0+ad.toNat) (⟨c9.dt,c9.dM,R (bZ+(1:Int))⟩:bC))))))
  (fun h1 =>
  .ret (bg [(J 4),.aa false,.aN [0] [.pure] (a8 [1])] (.aD h1 (aJ 3 .live iV ab))))
theorem Wf {aQ ad:Int}{ab:List bC}{r} (h:Ih aQ ad ab=some r):dP a4 34 1 27 [1,0,1,0,0] (G8) (Hc) (aQ,ad,ab) r:=dQ (fun _=>Vj) h
def Ab (aQ:Int)(er:List bC):Option (Int×(List bC)) :=
 Ih aQ 0 er >>= fun r1 =>
 some (r1.1,r1.2)
theorem Xk {aQ:Int}{er:List bC}:bD (Ab aQ er) (fun a=>Con a4 27 [.bh 0 0 0 er.length,.n .i64 aQ] [(au 3 bB er)] (.n .i64 a.1) [(au 3 bB a.2)]):=by
 unfold Ab
 exact .ar fun r1 o =>
  .ret (kq [(J 1),(J 1),.aN [0] [.pure] (a8 [0,1,5]),(Hc r1).e8,(J 2)] [0] [.pure] (.bP (aJ 3 .live iV er) (Wf o) (aJ 3 .live iV r1.2)))
def xQ (aQ:Int)(er:List bo)(eX:List bC):Option (Int×(List bo)×(List bC)) :=
 Ac aQ er >>= fun r1 =>
 if er.length=r1.2.length then
 Ab r1.1 eX >>= fun a6 =>
 if eX.length=a6.2.length then
 some (a6.1,r1.2,a6.2)
 else none
 else none
theorem Ol {aQ:Int}{er:List bo}{eX:List bC}:bD (xQ aQ er eX) (fun a=>Con a4 11 [.agg [.bh 0 0 0 er.length,.bh 1 0 0 eX.length],.n .i64 aQ] [(au 4 bw er),(au 3 bB eX)] (.n .i64 a.1) [(au 4 bw a.2.1),(au 3 bB a.2.2)]):=by
 unfold xQ
 exact .ar fun r1 o =>
  .aY fun af =>
  .ar fun a6 aA =>
  .aY fun aX =>
  .ret (kq [(J 2),.aw (bq 3 (.call {a2:=[.row 0],dc:=[.pure],ac:=[ii,ii],r:= .n .i64 r1.1,eV:=[(au 4 bw r1.2)],gr:=ii,hC:=[.pure],eC:=[0],ej:=false}) 1),.aw (bq 3 (.call {a2:=[.row 1],dc:=[.pure],ac:=[ii,ii],r:= .n .i64 a6.1,eV:=[(au 3 bB a6.2)],gr:=ii,hC:=[.pure],eC:=[1],ej:=false}) 1),(J 2)] [0,1] [.pure,.pure] (.gz (f9 4 jy er) (f9 4 jy r1.2) (Xu r1 o) (f9 3 iV eX) (f9 3 iV a6.2) (Xk a6 aA) (aJ 4 .live jy r1.2) (aJ 3 .live iV a6.2)))
def HI:(Int×Int×(List Int))→S:=fun (aQ,ad,ab)=>dv [(0,.bh 0 0 0 ab.length),(1,.n .i64 aQ),(5,.n .i64 ad)] [(au 1 eI ab)]
def HY:(Int×(List Int))→dy
 | a=>⟨some 0,[(1,.n .i64 a.1)],[(au 1 eI a.2)]⟩
def xr (aQ ad:Int)(ab:List Int):Option ((Int×Int×(List Int))⊕(Int×(List Int))) :=
 if (decide (ad<((ab.length:Nat):Int)))=true then
  if 0≤ad∧ad<(ab.length:Nat) then
  if (0+ad.toNat)<ab.length then
  some (.inl (R (aQ+(1:Int)),R (ad+(1:Int)),ab.set (0+ad.toNat) aQ))
  else none
  else none
 else
  some (.inr (aQ,ab))
def JP (aQ ad:Int)(ab:List Int):Option (Int×(List Int)):=iter (fun w:Int×Int×(List Int)=>xr w.1 w.2.1 w.2.2) (aQ,ad,ab)
theorem VT {aQ ad:Int}{ab:List Int}:bD (xr aQ ad ab) (dO a4 19 1 12 [1,0,1,0,0] (HI (aQ,ad,ab)) (HI) (HY)):=by
 unfold xr
 exact .ite (fun h1 =>
  .aY fun o =>
  .aY fun af =>
  .ret (bg [(J 4),.aa true,.aw (ai 4 (aj .fZ [])),(J 3),(J 3),.aN [0] [.cG (au 1 eI (ab.set (0+ad.toNat) aQ))] [(0,fW ((ab.set (0+ad.toNat) aQ).length)),(1,ii),(5,ii)]] (.gz h1 o.1 o.2 (hT eI af) (hM 1) (c2 1 .live (gP (cZ eI ab) (0+ad.toNat) aQ)) (aJ 1 .live aO (ab.set (0+ad.toNat) aQ)) (hi (dX ab) (0+ad.toNat) aQ))))
  (fun h1 =>
  .ret (bg [(J 4),.aa false,.aN [0] [.pure] (a8 [1])] (.aD h1 (aJ 1 .live aO ab))))
theorem Xl {aQ ad:Int}{ab:List Int}{r} (h:JP aQ ad ab=some r):dP a4 19 1 12 [1,0,1,0,0] (HI) (HY) (aQ,ad,ab) r:=dQ (fun _=>VT) h
def uS (aQ:Int)(er:List Int):Option (Int×(List Int)) :=
 JP aQ 0 er >>= fun r1 =>
 some (r1.1,r1.2)
theorem JQ {aQ:Int}{er:List Int}:bD (uS aQ er) (fun a=>Con a4 12 [.bh 0 0 0 er.length,.n .i64 aQ] [(au 1 eI er)] (.n .i64 a.1) [(au 1 eI a.2)]):=by
 unfold uS
 exact .ar fun r1 o =>
  .ret (kq [(J 1),(J 1),.aN [0] [.pure] (a8 [0,1,5]),(HY r1).e8,(J 2)] [0] [.pure] (.bP (aJ 1 .live aO er) (Xl o) (aJ 1 .live aO r1.2)))
def Ii (ag:List Int):(Int×Int)→S:=fun (aQ,ad)=>dv [(0,.isl 1 (ag.map eI)),(1,.n .i64 aQ),(5,.n .i64 ad)] []
def IU (ag:List Int):((Int)⊕(Unit))→dy
 | .inl a=>⟨some 0,[(1,.n .i64 a)],[]⟩
 | .inr a=>⟨none,[(4,.n .i64 (-1:Int))],[]⟩
def xE (ag:List Int)(aQ ad:Int):Option ((Int×Int)⊕((Int)⊕(Unit))) :=
 if (decide (ad<(len_ eI ag)))=true then
  if 0≤ad∧ad<ag.length then
  ag[ad.toNat]? >>= fun az =>
  if (az != aQ)=true then
   some (.inr (.inr ()))
  else
   some (.inl (R (aQ+(1:Int)),R (ad+(1:Int))))
  else none
 else
  some (.inr (.inl aQ))
def Kk (ag:List Int)(aQ ad:Int):Option ((Int)⊕(Unit)):=iter (fun w:Int×Int=>xE ag w.1 w.2) (aQ,ad)
theorem Wg {ag:List Int}{aQ ad:Int}:bD (xE ag aQ ad) (dO a4 21 0 13 [1,0,1,0,0] (Ii ag (aQ,ad)) (Ii ag) (IU ag)):=by
 unfold xE
 exact .ite (fun h1 =>
  .aY fun o =>
  .ar fun az av =>
  (let t1:List b0:=[(J 4),.aa true,.aw (bq 3 (.b5 (eI az)) 2)];
  have aV:=((.c4 h1 o.1 (cX eI o.2) (b1 eI av)):cA _);
  .ite (fun aA =>
  .ret (bg (t1.append [.aa true,(J 1),.aN [] [] (a8 [4])]) (aV.aI (.e1 aA))))
  (fun aA =>
  .ret (bg (t1.append [.aa false,(J 3),(J 3),.aN [] [] (a8 [0,1,5])]) (aV.aI (.e1 aA))))))
  (fun h1 =>
  .ret (bg [(J 4),.aa false,.aN [] [] (a8 [1])] (.e1 h1)))
theorem OQ {ag:List Int}{aQ ad:Int}{r} (h:Kk ag aQ ad=some r):dP a4 21 0 13 [1,0,1,0,0] (Ii ag) (IU ag) (aQ,ad) r:=dQ (fun _=>Wg) h
def uU (ag:List Int)(aQ:Int):Option Int :=
 Kk ag aQ 0 >>= fun r1 =>
 match r1 with
 | .inl dd=>(some dd)
 | .inr dd=>(some (-1))
theorem D3 {ag:List Int}{aQ:Int}:bD (uU ag aQ) (fun r=>Con a4 13 [.isl 1 (ag.map eI),.n .i64 aQ] [] (.n .i64 r) []):=by
 unfold uU
 exact .ar fun r1 o =>
  (let t1:List b0:=[(J 1),(J 1),.aN [] [] (a8 [0,1,5])];
  (by
  rcases r1 with dd|dd
  ·exact (.ret (bA (t1.append [.sub (.exit 0) [(1,.n .i64 dd)] [],(J 2)]) (.e1 (OQ o))))
  ·exact (.ret (bA (t1.append [(IU ag (.inr dd)).e8]) (.e1 (OQ o))))))
def Ij (ag:List Int)(aQ:Int):Unit→S:=fun _=>dv [(0,.isl 1 (ag.map eI)),(1,.n .i64 aQ),(5,.n .i64 (0:Int))] []
def OG (ag:List Int)(aQ:Int):Unit→dy
 | a=>⟨some 0,[(1,.n .i64 aQ)],[]⟩
def DM (ag:List Int)(aQ:Int):Option ((Unit)⊕(Unit)) :=
 if (decide ((0:Int)<(len_ eI ag)))=true then
  if 0≤(0:Int)∧(0:Int)<ag.length then
  none
  else none
 else
  some (.inr ())
def D4 (ag:List Int)(aQ:Int):Option (Unit):=iter (fun w:Unit=>DM ag aQ) ()
theorem Wh {ag:List Int}{aQ:Int}:bD (DM ag aQ) (dO a4 19 0 12 [1,0,1,0,0] (Ij ag aQ ()) (Ij ag aQ) (OG ag aQ)):=by
 unfold DM
 exact .ite (fun h1 =>
  .aY fun o =>
  .M8)
  (fun h1 =>
  .ret (bg [(J 4),.aa false,.aN [] [] (a8 [1])] (.e1 h1)))
theorem XO {ag:List Int}{aQ:Int}{r} (h:D4 ag aQ=some r):dP a4 19 0 12 [1,0,1,0,0] (Ij ag aQ) (OG ag aQ) () r:=dQ (fun _=>Wh) h
def AN (ag:List Int)(aQ:Int):Option Int :=
 D4 ag aQ >>= fun r1 =>
 some aQ
theorem YU {ag:List Int}{aQ:Int}:bD (AN ag aQ) (fun r=>Con a4 12 [.isl 1 (ag.map eI),.n .i64 aQ] [] (.n .i64 r) []):=by
 unfold AN
 exact .ar fun r1 o =>
  .ret (bA [(J 1),(J 1),.aN [] [] (a8 [0,1,5]),.sub (.exit 0) [(1,.n .i64 aQ)] [],(J 2)] (.e1 (XO o)))
def DJ (Cm:cl)(Cn:List Int):Option Bool :=
 if (decide ((1048576:Int)<(len_ eI Cn)))=true then
  some true
 else
  Ad Cm 1048576 >>= fun bV =>
  if (decide (bV<(0:Int)))=true then
   some true
  else
   z9 Cm >>= fun ax =>
   Aw Cn >>= fun bO =>
   Ag (⟨ax.1,ax.2⟩:cl) bO >>= fun cb =>
   x8 (⟨ax.1,ax.2⟩:cl) bO >>= fun dp =>
   match dp with
   | .inl hc=>(tx hc cb >>= fun fp =>
    if fp=true then
     yg (⟨ax.1,ax.2⟩:cl) (⟨ax.1,ax.2⟩:cl) >>= fun gi =>
     if gi=true then
      tx bO bO >>= fun iv =>
      if iv=true then
       xQ 1 ax.1 ax.2 >>= fun mv =>
       if ax.1.length=mv.2.1.length then
       if ax.2.length=mv.2.2.length then
       uS mv.1 bO >>= fun p8 =>
       if (decide (p8.1<(0:Int)))=true then
        some false
       else
        uS 1 hc >>= fun mb =>
        if 0+hc.length≤mb.2.length then
        uU ((mb.2.drop 0).take hc.length) 1 >>= fun s5 =>
        if (decide (s5<(0:Int)))=true then
         some false
        else
         if (s5 != mb.1)=true then
          some false
         else
          some true
        else none
       else none
       else none
      else
       some false
     else
      some false
    else
     some false)
   | .inr hc=>(tx ([]:List Int) cb >>= fun fp =>
    if fp=true then
     yg (⟨ax.1,ax.2⟩:cl) (⟨ax.1,ax.2⟩:cl) >>= fun gi =>
     if gi=true then
      tx bO bO >>= fun iv =>
      if iv=true then
       xQ 1 ax.1 ax.2 >>= fun mv =>
       if ax.1.length=mv.2.1.length then
       if ax.2.length=mv.2.2.length then
       uS mv.1 bO >>= fun p8 =>
       if (decide (p8.1<(0:Int)))=true then
        some false
       else
        AN ([]:List Int) 1 >>= fun mb =>
        uU ([]:List Int) 1 >>= fun s6 =>
        if (decide (s6<(0:Int)))=true then
         some false
        else
         if (s6 != mb)=true then
          some false
         else
          some true
       else none
       else none
      else
       some false
     else
      some false
    else
     some false)
set_option maxHeartbeats 4000000 in
theorem VU {Cm:cl}{Cn:List Int}:bD (DJ Cm Cn) (fun r=>Con a4 3 [.agg (gf Cm),.isl 1 (Cn.map eI)] [] (.b r) []):=by
 unfold DJ
 exact .ite (fun h1 =>
  .ret (bA [(J 2),(J 3),.aa true,(J 1)] (.e1 h1)))
  (fun h1 =>
  .ar fun bV af =>
  (let t1:List b0:=[(J 2),(J 3),.aa false,(J 1),.aw (bq 2 (bu 2 (.n .i64 bV) true) 1),(J 2)];
  have aV:=((.bP h1 (Xx bV af) (bR.n .i64 bV)):cA _);
  .ite (fun av =>
  .ret (bA (t1.append [.aa true,(J 1)]) (aV.aI (.e1 av))))
  (fun av =>
  .ar fun ax aX =>
  .ar fun bO bl =>
  .ar fun cb cQ =>
  .ar fun dp eK =>
  (let q1:=au 1 eI bO;let t3:List b0:=t1.append [.aa false,.aw (ai 1 (aj (.call {a2:=[],dc:=[],ac:=[ii],r:= .agg [.bh 0 0 0 ax.1.length,.bh 0 1 0 ax.2.length],eV:=[[ae.mk 4 (ax.1.map bw) .live,ae.mk 3 (ax.2.map bB) .live]],gr:= .bp (.agg [.id,.id]),hC:=[.bM [ae.mk 4 (ax.1.map bw) .live,ae.mk 3 (ax.2.map bB) .live]],eC:=[],ej:=true}) (ai 1 (aj (.call {a2:=[],dc:=[],ac:=[ii],r:= .bh 0 0 0 bO.length,eV:=[q1],gr:=ii,hC:=[.pure],eC:=[],ej:=true}) (aj (.tc 15 (.tc 13 (.call {ac:=[.bp (.agg [.dL (ax.1.map bw),.dL (ax.2.map bB)]),.bp (.cJ (.dL (bO.map eI)))],r:= .isl 1 (cb.map eI),ej:=false,eC:=[13,15]}))) (ai 1 [])))))),.aw (bq 1 (.call {a2:=[],dc:=[],ac:=[ii],r:= .agg [.bh 0 0 0 ax.1.length,.bh 0 1 0 ax.2.length],eV:=[[ae.mk 4 (ax.1.map bw) .live,ae.mk 3 (ax.2.map bB) .live]],gr:= .bp (.agg [.id,.id]),hC:=[.bM [ae.mk 4 (ax.1.map bw) .live,ae.mk 3 (ax.2.map bB) .live]],eC:=[],ej:=true}) 2),.aw (bq 1 (.call {a2:=[],dc:=[],ac:=[ii],r:= .bh 0 0 0 bO.length,eV:=[q1],gr:=ii,hC:=[.pure],eC:=[],ej:=true}) 1)];
  have eA:=aV.aI (.bi av (db (fO (ij [13]) 4 vc ax.1) (db (fO (ij [13]) 3 u2 ax.2) (nQ (cd:=(ij [13]))))) ((iW rfl (iW rfl vn)):lM [ae.mk 4 (ax.1.map bw) .live,ae.mk 3 (ax.2.map bB) .live]) (xu ax aX) (bR.agg (mD (bR.bh 0 0 0 ax.1.length) (mD (bR.bh 0 1 0 ax.2.length) rT))) ((mT (k8 (kX vd) (k8 (kX u3) mX)) mW):lx [[ae.mk 4 (ax.1.map bw) .live,ae.mk 3 (ax.2.map bB) .live]]) (f9 1 aO bO) (yc bO bl) (.bi (bR.bh 0 0 0 bO.length) ((mT (k8 (kX rb) mX) mW):lx [q1]) (fw bw ax.1) (ff bw ax.1) (dk jy ax.1) (fw bB ax.2) (ff bB ax.2) (dk iV ax.2) (.bi (fw eI bO) (ff eI bO) (dk aO bO) (XK cb cQ) (db (fO (ij [19]) 4 vc ax.1) (db (fO (ij [19]) 3 u2 ax.2) (nQ (cd:=(ij [19]))))) ((iW rfl (iW rfl vn)):lM [ae.mk 4 (ax.1.map bw) .live,ae.mk 3 (ax.2.map bB) .live]) (xu ax aX) (bR.agg (mD (bR.bh 0 0 0 ax.1.length) (mD (bR.bh 0 1 0 ax.2.length) rT))) (.bi ((mT (k8 (kX vd) (k8 (kX u3) mX)) mW):lx [[ae.mk 4 (ax.1.map bw) .live,ae.mk 3 (ax.2.map bB) .live]]) (f9 1 aO bO) (yc bO bl) (bR.bh 0 0 0 bO.length) ((mT (k8 (kX rb) mX) mW):lx [q1]) (fw bw ax.1) (ff bw ax.1) (dk jy ax.1) (.dW (fw bB ax.2) (ff bB ax.2) (dk iV ax.2) (fw eI bO) (ff eI bO) (dk aO bO))))));
  (by
  rcases dp with hc|hc
  ·exact (.ar fun fp fM =>
  (let t5:List b0:=t3.append [.aw (bq 2 (.call {a2:=[],dc:=[],ac:=[.bp (.agg [.dL (ax.1.map bw),.dL (ax.2.map bB)]),.bp (.cJ (.dL (bO.map eI)))],r:= .bh 0 0 0 hc.length,eV:=[(au 1 eI hc)],gr:=ii,hC:=[.pure],eC:=[19,23],ej:=true}) 1),.aw (bq 2 (.call {ac:=[.bp (.cJ (.dL (hc.map eI))),ii],r:= .b fp,ej:=true,eC:=[27]}) 1)];
  have kj:=eA.aI (.bi (f9 1 aO hc) (DL (.inl hc) eK) (bR.bh 0 0 0 hc.length) ((mT (k8 (kX rb) mX) mW):lx [(au 1 eI hc)]) (fw eI hc) (ff eI hc) (dk aO hc) (tt fp fM) (.e1 (bR.b fp)));
  .ite (fun hd =>
  .ar fun gi hD =>
  (let t7:List b0:=t5.append [.aa false,.aw (ai 2 (aj (.call {a2:=[],dc:=[],ac:=[ii],r:= .agg [.bh 0 0 0 ax.1.length,.bh 0 1 0 ax.2.length],eV:=[[ae.mk 4 (ax.1.map bw) .live,ae.mk 3 (ax.2.map bB) .live]],gr:= .bp (.agg [.id,.id]),hC:=[.bM [ae.mk 4 (ax.1.map bw) .live,ae.mk 3 (ax.2.map bB) .live]],eC:=[],ej:=true}) (aj (.call {ac:=[.bp (.agg [.dL (ax.1.map bw),.dL (ax.2.map bB)]),.bp (.agg [.dL (ax.1.map bw),.dL (ax.2.map bB)])],r:= .b gi,ej:=true,eC:=[19,35]}) (ai 1 []))))];
  have lU:=kj.aI (.bi (cO hd) (db (fO (ij [35]) 4 vc ax.1) (db (fO (ij [35]) 3 u2 ax.2) (nQ (cd:=(ij [35]))))) ((iW rfl (iW rfl vn)):lM [ae.mk 4 (ax.1.map bw) .live,ae.mk 3 (ax.2.map bB) .live]) (xu ax aX) (bR.agg (mD (bR.bh 0 0 0 ax.1.length) (mD (bR.bh 0 1 0 ax.2.length) rT))) ((mT (k8 (kX vd) (k8 (kX u3) mX)) mW):lx [[ae.mk 4 (ax.1.map bw) .live,ae.mk 3 (ax.2.map bB) .live]]) (fw bw ax.1) (ff bw ax.1) (.bi (dk jy ax.1) (fw bB ax.2) (ff bB ax.2) (dk iV ax.2) (fw bw ax.1) (ff bw ax.1) (dk jy ax.1) (fw bB ax.2) (.c4 (ff bB ax.2) (dk iV ax.2) (OP gi hD) (bR.b gi))));
  .ite (fun gy =>
  .ar fun iv gM =>
  (let t9:List b0:=t7.append [.aa false,.aw (ai 2 (aj (.call {a2:=[],dc:=[],ac:=[ii],r:= .bh 0 0 0 bO.length,eV:=[(au 1 eI bO)],gr:=ii,hC:=[.pure],eC:=[],ej:=true}) (aj (.call {ac:=[.bp (.cJ (.dL (bO.map eI))),.bp (.cJ (.dL (bO.map eI)))],r:= .b iv,ej:=true,eC:=[23,40]}) (ai 1 []))))];
  have CW:=lU.aI (.bi (cO gy) (f9 1 aO bO) (yc bO bl) (bR.bh 0 0 0 bO.length) ((mT (k8 (kX rb) mX) mW):lx [(au 1 eI bO)]) (fw eI bO) (ff eI bO) (dk aO bO) (.dh (fw eI bO) (ff eI bO) (dk aO bO) (tt iv gM) (bR.b iv)));
  .ite (fun ig =>
  .ar fun mv r6 =>
  .aY fun p5 =>
  .aY fun we =>
  .ar fun p8 Nk =>
  (let t11:List b0:=t9.append [.aa false,(J 1),.aw (bq 2 (.call {a2:=[.an 19 0 (ae.mk 4 (ax.1.map bw) .live),.an 19 1 (ae.mk 3 (ax.2.map bB) .live)],dc:=[.pure,.pure],ac:=[.bp (.agg [.at_ 0 0 ax.1.length,.at_ 1 0 ax.2.length]),ii],r:= .n .i64 mv.1,eV:=[(au 4 bw mv.2.1),(au 3 bB mv.2.2)],gr:=ii,hC:=[.pure,.pure],eC:=[19],ej:=false}) 1),.aw (bq 2 (.call {a2:=[.row 23],dc:=[.pure],ac:=[ii,ii],r:= .n .i64 p8.1,eV:=[(au 1 eI p8.2)],gr:=ii,hC:=[.pure],eC:=[23],ej:=false}) 1)];
  have CX:=CW.aI (.bi (cO ig) (by decide:0≠1) (rfl:kG [.an 19 0 (ae.mk 4 (ax.1.map bw) .live),.an 19 1 (ae.mk 3 (ax.2.map bB) .live)] 0 0=some (19,0)) (rfl:ax.1.length=ax.1.length) (rfl:kG [.an 19 0 (ae.mk 4 (ax.1.map bw) .live),.an 19 1 (ae.mk 3 (ax.2.map bB) .live)] 1 0=some (19,1)) (rfl:ax.2.length=ax.2.length) (rfl:dx (some [ae.mk 4 (ax.1.map bw) .live,ae.mk 3 (ax.2.map bB) .live]) 0=some (ae.mk 4 (ax.1.map bw) .live)) (f9 4 jy ax.1) (.gz (rfl:dx (some [ae.mk 4 (ax.1.map bw) .live,ae.mk 3 (ax.2.map bB) .live]) 1=some (ae.mk 3 (ax.2.map bB) .live)) (f9 3 iV ax.2) (f9 4 jy mv.2.1) (f9 3 iV mv.2.2) (Ol mv r6) (f9 1 aO bO) (f9 1 aO p8.2) (JQ p8 Nk)));
  .ite (fun ks =>
  .ret (bA (t11.append [.aw (ai 3 (cx 4 (aj (.aa true) []))),.aa true,(J 1)]) (CX.aI (.dW ks ks ks ks ks cT))))
  (fun ks =>
  .ar fun mb i7 =>
  .aY fun CV =>
  .ar fun s5 r7 =>
  (let t13:List b0:=t11.append [.aw (ai 5 (aj (.call {ac:=[.bp (.cJ (.dL (hc.map eI))),ii],r:= .b fp,ej:=true,eC:=[27]}) (ai 1 (aj (.aa false) [])))),.aa false,(J 1),.aw (bq 2 (.call {a2:=[.row 27],dc:=[.pure],ac:=[ii,ii],r:= .n .i64 mb.1,eV:=[(au 1 eI mb.2)],gr:=ii,hC:=[.pure],eC:=[27],ej:=false}) 1),(J 1),.aw (bq 2 (.call {ac:=[.bp (.cJ (.dL (((mb.2.drop 0).take hc.length).map eI))),ii],r:= .n .i64 s5,ej:=true,eC:=[27]}) 1),(J 2)];
  have wi:=CX.aI (.bi ks ks ks (fw eI hc) (ff eI hc) (dk aO hc) (tt fp fM) (bR.b fp) (.bi ks ks (cO hd) (f9 1 aO hc) (f9 1 aO mb.2) (JQ mb i7) (Bk (cZ eI mb.2) 0 hc.length) (qo (cZ eI mb.2) CV) (.bP (dk aO ((mb.2.drop 0).take hc.length)) (D3 s5 r7) (bR.n .i64 s5))));
  .ite (fun p6 =>
  .ret (bA (t13.append [.aa true,(J 1)]) (wi.aI (.e1 p6))))
  (fun p6 =>
  .ite (fun FV =>
  .ret (bA (t13.append [.aa false,(J 3),.aa true,(J 1)]) (wi.aI (.aD p6 FV))))
  (fun FV =>
  .ret (bA (t13.append [.aa false,(J 3),.aa false,.aw (ai 1 (aj (.call {a2:=[],dc:=[],ac:=[ii],r:= .agg [.bh 0 0 0 ax.1.length,.bh 0 1 0 ax.2.length],eV:=[[ae.mk 4 (ax.1.map bw) .live,ae.mk 3 (ax.2.map bB) .live]],gr:= .bp (.agg [.id,.id]),hC:=[.bM [ae.mk 4 (ax.1.map bw) .live,ae.mk 3 (ax.2.map bB) .live]],eC:=[],ej:=true}) (ai 1 (aj (.call {a2:=[],dc:=[],ac:=[ii],r:= .bh 0 0 0 bO.length,eV:=[(au 1 eI bO)],gr:=ii,hC:=[.pure],eC:=[],ej:=true}) (aj (.call {a2:=[],dc:=[],ac:=[.bp (.agg [.dL (ax.1.map bw),.dL (ax.2.map bB)]),.bp (.cJ (.dL (bO.map eI)))],r:= .bh 0 0 0 hc.length,eV:=[(au 1 eI hc)],gr:=ii,hC:=[.pure],eC:=[76,78],ej:=true}) (ai 1 [])))))),.aw (bq 2 (.call {ac:=[.bp (.cJ (.dL (hc.map eI))),ii],r:= .b fp,ej:=true,eC:=[79]}) 1),.aa false,(J 1),.aw (bq 2 (.call {ac:=[.bp (.cJ (.dL (((mb.2.drop 0).take hc.length).map eI))),ii],r:= .n .i64 s5,ej:=true,eC:=[27]}) 1),(J 2),.aa false,(J 3),.aa false,(J 1)]) (wi.aI (.bi p6 FV (db (fO (ij [76]) 4 vc ax.1) (db (fO (ij [76]) 3 u2 ax.2) (nQ (cd:=(ij [76]))))) ((iW rfl (iW rfl vn)):lM [ae.mk 4 (ax.1.map bw) .live,ae.mk 3 (ax.2.map bB) .live]) (xu ax aX) (bR.agg (mD (bR.bh 0 0 0 ax.1.length) (mD (bR.bh 0 1 0 ax.2.length) rT))) ((mT (k8 (kX vd) (k8 (kX u3) mX)) mW):lx [[ae.mk 4 (ax.1.map bw) .live,ae.mk 3 (ax.2.map bB) .live]]) (f9 1 aO bO) (.bi (yc bO bl) (bR.bh 0 0 0 bO.length) ((mT (k8 (kX rb) mX) mW):lx [(au 1 eI bO)]) (fw bw ax.1) (ff bw ax.1) (dk jy ax.1) (fw bB ax.2) (ff bB ax.2) (.bi (dk iV ax.2) (fw eI bO) (ff eI bO) (dk aO bO) (f9 1 aO hc) (DL (.inl hc) eK) (bR.bh 0 0 0 hc.length) ((mT (k8 (kX rb) mX) mW):lx [(au 1 eI hc)]) (.bi (fw eI hc) (ff eI hc) (dk aO hc) (tt fp fM) (bR.b fp) (cO hd) (Bk (cZ eI mb.2) 0 hc.length) (qo (cZ eI mb.2) CV) (.dh (dk aO ((mb.2.drop 0).take hc.length)) (D3 s5 r7) (bR.n .i64 s5) p6 FV)))))))))))))
  (fun ig =>
  .ret (bA (t9.append [.aa true,(J 1)]) (CW.aI (.e1 (cM ig)))))))
  (fun gy =>
  .ret (bA (t7.append [.aa true,(J 1)]) (lU.aI (.e1 (cM gy)))))))
  (fun hd =>
  .ret (bA (t5.append [.aa true,(J 1)]) (kj.aI (.e1 (cM hd)))))))
  ·exact (.ar fun fp fM =>
  (let t5:List b0:=t3.append [.aw (bq 2 (.call {a2:=[],dc:=[],ac:=[.bp (.agg [.dL (ax.1.map bw),.dL (ax.2.map bB)]),.bp (.cJ (.dL (bO.map eI)))],r:= .ek,eV:=[],gr:=ii,hC:=[],eC:=[19,23],ej:=true}) 1),.aw (bq 2 (.call {ac:=[.bp (.cJ (.iJ 1)),ii],r:= .b fp,ej:=true}) 1)];
  have kj:=eA.aI (.c4 (DL (.inr hc) eK) bR.ek (tt fp fM) (bR.b fp));
  .ite (fun hd =>
  .ar fun gi hD =>
  (let t7:List b0:=t5.append [.aa false,.aw (ai 2 (aj (.call {a2:=[],dc:=[],ac:=[ii],r:= .agg [.bh 0 0 0 ax.1.length,.bh 0 1 0 ax.2.length],eV:=[[ae.mk 4 (ax.1.map bw) .live,ae.mk 3 (ax.2.map bB) .live]],gr:= .bp (.agg [.id,.id]),hC:=[.bM [ae.mk 4 (ax.1.map bw) .live,ae.mk 3 (ax.2.map bB) .live]],eC:=[],ej:=true}) (aj (.call {ac:=[.bp (.agg [.dL (ax.1.map bw),.dL (ax.2.map bB)]),.bp (.agg [.dL (ax.1.map bw),.dL (ax.2.map bB)])],r:= .b gi,ej:=true,eC:=[19,35]}) (ai 1 []))))];
  have lU:=kj.aI (.bi (cO hd) (db (fO (ij [35]) 4 vc ax.1) (db (fO (ij [35]) 3 u2 ax.2) (nQ (cd:=(ij [35]))))) ((iW rfl (iW rfl vn)):lM [ae.mk 4 (ax.1.map bw) .live,ae.mk 3 (ax.2.map bB) .live]) (xu ax aX) (bR.agg (mD (bR.bh 0 0 0 ax.1.length) (mD (bR.bh 0 1 0 ax.2.length) rT))) ((mT (k8 (kX vd) (k8 (kX u3) mX)) mW):lx [[ae.mk 4 (ax.1.map bw) .live,ae.mk 3 (ax.2.map bB) .live]]) (fw bw ax.1) (ff bw ax.1) (.bi (dk jy ax.1) (fw bB ax.2) (ff bB ax.2) (dk iV ax.2) (fw bw ax.1) (ff bw ax.1) (dk jy ax.1) (fw bB ax.2) (.c4 (ff bB ax.2) (dk iV ax.2) (OP gi hD) (bR.b gi))));
  .ite (fun gy =>
  .ar fun iv gM =>
  (let t9:List b0:=t7.append [.aa false,.aw (ai 2 (aj (.call {a2:=[],dc:=[],ac:=[ii],r:= .bh 0 0 0 bO.length,eV:=[(au 1 eI bO)],gr:=ii,hC:=[.pure],eC:=[],ej:=true}) (aj (.call {ac:=[.bp (.cJ (.dL (bO.map eI))),.bp (.cJ (.dL (bO.map eI)))],r:= .b iv,ej:=true,eC:=[23,40]}) (ai 1 []))))];
  have CW:=lU.aI (.bi (cO gy) (f9 1 aO bO) (yc bO bl) (bR.bh 0 0 0 bO.length) ((mT (k8 (kX rb) mX) mW):lx [(au 1 eI bO)]) (fw eI bO) (ff eI bO) (dk aO bO) (.dh (fw eI bO) (ff eI bO) (dk aO bO) (tt iv gM) (bR.b iv)));
  .ite (fun ig =>
  .ar fun mv r6 =>
  .aY fun p5 =>
  .aY fun we =>
  .ar fun p8 Nk =>
  (let t11:List b0:=t9.append [.aa false,(J 1),.aw (bq 2 (.call {a2:=[.an 19 0 (ae.mk 4 (ax.1.map bw) .live),.an 19 1 (ae.mk 3 (ax.2.map bB) .live)],dc:=[.pure,.pure],ac:=[.bp (.agg [.at_ 0 0 ax.1.length,.at_ 1 0 ax.2.length]),ii],r:= .n .i64 mv.1,eV:=[(au 4 bw mv.2.1),(au 3 bB mv.2.2)],gr:=ii,hC:=[.pure,.pure],eC:=[19],ej:=false}) 1),.aw (bq 2 (.call {a2:=[.row 23],dc:=[.pure],ac:=[ii,ii],r:= .n .i64 p8.1,eV:=[(au 1 eI p8.2)],gr:=ii,hC:=[.pure],eC:=[23],ej:=false}) 1)];
  have CX:=CW.aI (.bi (cO ig) (by decide:0≠1) (rfl:kG [.an 19 0 (ae.mk 4 (ax.1.map bw) .live),.an 19 1 (ae.mk 3 (ax.2.map bB) .live)] 0 0=some (19,0)) (rfl:ax.1.length=ax.1.length) (rfl:kG [.an 19 0 (ae.mk 4 (ax.1.map bw) .live),.an 19 1 (ae.mk 3 (ax.2.map bB) .live)] 1 0=some (19,1)) (rfl:ax.2.length=ax.2.length) (rfl:dx (some [ae.mk 4 (ax.1.map bw) .live,ae.mk 3 (ax.2.map bB) .live]) 0=some (ae.mk 4 (ax.1.map bw) .live)) (f9 4 jy ax.1) (.gz (rfl:dx (some [ae.mk 4 (ax.1.map bw) .live,ae.mk 3 (ax.2.map bB) .live]) 1=some (ae.mk 3 (ax.2.map bB) .live)) (f9 3 iV ax.2) (f9 4 jy mv.2.1) (f9 3 iV mv.2.2) (Ol mv r6) (f9 1 aO bO) (f9 1 aO p8.2) (JQ p8 Nk)));
  .ite (fun ks =>
  .ret (bA (t11.append [.aw (ai 3 (cx 4 (aj (.aa true) []))),.aa true,(J 1)]) (CX.aI (.dW ks ks ks ks ks cT))))
  (fun ks =>
  .ar fun mb i7 =>
  .ar fun s6 TM =>
  (let t13:List b0:=t11.append [.aw (ai 5 (aj (.call {ac:=[.bp (.cJ (.iJ 1)),ii],r:= .b fp,ej:=true}) (ai 1 (aj (.aa false) [])))),.aa false,(J 1),.aw (bq 2 (.call {ac:=[.bp (.cJ (.iJ 1)),ii],r:= .n .i64 mb,ej:=true}) 1),(J 1),.aw (bq 2 (.call {ac:=[.bp (.cJ (.iJ 1)),ii],r:= .n .i64 s6,ej:=true}) 1),(J 2)];
  have wi:=CX.aI (.bi ks ks ks (tt fp fM) (bR.b fp) ks ks (cO hd) (.c4 (YU mb i7) (bR.n .i64 mb) (D3 s6 TM) (bR.n .i64 s6)));
  .ite (fun r7 =>
  .ret (bA (t13.append [.aa true,(J 1)]) (wi.aI (.e1 r7))))
  (fun r7 =>
  .ite (fun p6 =>
  .ret (bA (t13.append [.aa false,(J 3),.aa true,(J 1)]) (wi.aI (.aD r7 p6))))
  (fun p6 =>
  .ret (bA (t13.append [.aa false,(J 3),.aa false,.aw (ai 1 (aj (.call {a2:=[],dc:=[],ac:=[ii],r:= .agg [.bh 0 0 0 ax.1.length,.bh 0 1 0 ax.2.length],eV:=[[ae.mk 4 (ax.1.map bw) .live,ae.mk 3 (ax.2.map bB) .live]],gr:= .bp (.agg [.id,.id]),hC:=[.bM [ae.mk 4 (ax.1.map bw) .live,ae.mk 3 (ax.2.map bB) .live]],eC:=[],ej:=true}) (ai 1 (aj (.call {a2:=[],dc:=[],ac:=[ii],r:= .bh 0 0 0 bO.length,eV:=[(au 1 eI bO)],gr:=ii,hC:=[.pure],eC:=[],ej:=true}) (aj (.call {a2:=[],dc:=[],ac:=[.bp (.agg [.dL (ax.1.map bw),.dL (ax.2.map bB)]),.bp (.cJ (.dL (bO.map eI)))],r:= .ek,eV:=[],gr:=ii,hC:=[],eC:=[76,78],ej:=true}) (ai 1 [])))))),.aw (bq 2 (.call {ac:=[.bp (.cJ (.iJ 1)),ii],r:= .b fp,ej:=true}) 1),.aa false,(J 1),.aw (bq 2 (.call {ac:=[.bp (.cJ (.iJ 1)),ii],r:= .n .i64 s6,ej:=true}) 1),(J 2),.aa false,(J 3),.aa false,(J 1)]) (wi.aI (.bi r7 p6 (db (fO (ij [76]) 4 vc ax.1) (db (fO (ij [76]) 3 u2 ax.2) (nQ (cd:=(ij [76]))))) ((iW rfl (iW rfl vn)):lM [ae.mk 4 (ax.1.map bw) .live,ae.mk 3 (ax.2.map bB) .live]) (xu ax aX) (bR.agg (mD (bR.bh 0 0 0 ax.1.length) (mD (bR.bh 0 1 0 ax.2.length) rT))) ((mT (k8 (kX vd) (k8 (kX u3) mX)) mW):lx [[ae.mk 4 (ax.1.map bw) .live,ae.mk 3 (ax.2.map bB) .live]]) (f9 1 aO bO) (.bi (yc bO bl) (bR.bh 0 0 0 bO.length) ((mT (k8 (kX rb) mX) mW):lx [(au 1 eI bO)]) (fw bw ax.1) (ff bw ax.1) (dk jy ax.1) (fw bB ax.2) (ff bB ax.2) (.bi (dk iV ax.2) (fw eI bO) (ff eI bO) (dk aO bO) (DL (.inr hc) eK) bR.ek (tt fp fM) (bR.b fp) (.dh (cO hd) (D3 s6 TM) (bR.n .i64 s6) r7 p6))))))))))))
  (fun ig =>
  .ret (bA (t9.append [.aa true,(J 1)]) (CW.aI (.e1 (cM ig)))))))
  (fun gy =>
  .ret (bA (t7.append [.aa true,(J 1)]) (lU.aI (.e1 (cM gy)))))))
  (fun hd =>
  .ret (bA (t5.append [.aa true,(J 1)]) (kj.aI (.e1 (cM hd))))))))))))
end Go.Proofs.YtmeimpeaagmneabGreat
